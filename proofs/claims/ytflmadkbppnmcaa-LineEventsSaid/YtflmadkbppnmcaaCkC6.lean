/-
  CODE BY NAMES, printed by wip/tools/codes.py (own work).
-/
import Derived.Test.YtflmadkbppnmcaaCkG
set_option maxRecDepth 100000
set_option linter.unusedVariables false
namespace Go.Ev.Try
open Go Go.Ev Go.Proofs
section
variable {P : Program} {Γ : Env} {call : CallF} {n f m : Nat} (s : List V) (H : Heap)
attribute [local simp] opsOf cAt kids bodyOf

noncomputable def B57 : Code := bodyOf Try.f57
@[simp] theorem n57_1 : evCode P Γ call n f m (cAt [] B57) s H = seqNext P Γ call n f m (cAt [1] B57) (evCode P Γ call n f m (cAt [0] B57) s H) := qS
noncomputable def r57_2 : {l : List Oper // opsOf (cAt [0] B57) = l} := by
  apply Subtype.mk
  dsimp [B57, Try.f57]
@[simp] theorem n57_2 : evCode P Γ call n f m (cAt [0] B57) s H = regNext (evOpsGo P Γ call r57_2.1 r57_2.1 s H) := qR r57_2.2
attribute [simp] r57_2
@[simp] theorem n57_3 : evCode P Γ call n f m (cAt [1] B57) s H = seqNext P Γ call n f m (cAt [1,1] B57) (evCode P Γ call n f m (cAt [1,0] B57) s H) := qS
@[simp] theorem n57_4 : evCode P Γ call n f m (cAt [1,0] B57) s H = seqNext P Γ call n f m (cAt [1,0,1] B57) (evCode P Γ call n f m (cAt [1,0,0] B57) s H) := qS
noncomputable def r57_5 : {l : List Oper // opsOf (cAt [1,0,0] B57) = l} := by
  apply Subtype.mk
  dsimp [B57, Try.f57]
@[simp] theorem n57_5 : evCode P Γ call n f m (cAt [1,0,0] B57) s H = regNext (evOpsGo P Γ call r57_5.1 r57_5.1 s H) := qR r57_5.2
attribute [simp] r57_5
@[simp] theorem n57_6 : evCode P Γ call n f m (cAt [1,0,1] B57) s H = condW P Γ call n f m (cAt [1,0,1,0] B57) (cAt [1,0,1,1] B57) s H (evOperand Γ s (.tmp 4)) := qC
@[simp] theorem n57_7 : evCode P Γ call n f m (cAt [1,0,1,0] B57) s H = seqNext P Γ call n f m (cAt [1,0,1,0,1] B57) (evCode P Γ call n f m (cAt [1,0,1,0,0] B57) s H) := qS
noncomputable def r57_8 : {l : List Oper // opsOf (cAt [1,0,1,0,0] B57) = l} := by
  apply Subtype.mk
  dsimp [B57, Try.f57]
@[simp] theorem n57_8 : evCode P Γ call n f m (cAt [1,0,1,0,0] B57) s H = regNext (evOpsGo P Γ call r57_8.1 r57_8.1 s H) := qR r57_8.2
attribute [simp] r57_8
@[simp] theorem n57_9 : evCode P Γ call n f m (cAt [1,0,1,0,1] B57) s H = some (.ret, s, H) := qT
@[simp] theorem n57_10 : evCode P Γ call n f m (cAt [1,0,1,1] B57) s H = some (.normal, s, H) := qK
@[simp] theorem n57_11 : evCode P Γ call n f m (cAt [1,1] B57) s H = seqNext P Γ call n f m (cAt [1,1,1] B57) (evCode P Γ call n f m (cAt [1,1,0] B57) s H) := qS
noncomputable def r57_12 : {l : List Oper // opsOf (cAt [1,1,0] B57) = l} := by
  apply Subtype.mk
  dsimp [B57, Try.f57]
@[simp] theorem n57_12 : evCode P Γ call n f m (cAt [1,1,0] B57) s H = regNext (evOpsGo P Γ call r57_12.1 r57_12.1 s H) := qR r57_12.2
attribute [simp] r57_12
@[simp] theorem n57_13 : evCode P Γ call n f m (cAt [1,1,1] B57) s H = some (.ret, s, H) := qT
theorem b57 {k : Nat} (ho : ∀ args H, Γ.orc 57 args H = none) (args : List V) (H : Heap) (ha : args.length ≤ 8) : evF Try.prog Γ (k + 1) 57 args H = bodyEnd Try.prog [.tmp 2] H.length (evCode Try.prog Γ (evF Try.prog Γ k) k 57 H.length (cAt [] B57) (mkL 8 V.undef (enumV 0 args)) H) := body_at Try.func57 (by decide) rfl ho rfl rfl args H ha
noncomputable def B59 : Code := bodyOf Try.f59
@[simp] theorem n59_1 : evCode P Γ call n f m (cAt [] B59) s H = seqNext P Γ call n f m (cAt [1] B59) (evCode P Γ call n f m (cAt [0] B59) s H) := qS
noncomputable def r59_2 : {l : List Oper // opsOf (cAt [0] B59) = l} := by
  apply Subtype.mk
  dsimp [B59, Try.f59]
@[simp] theorem n59_2 : evCode P Γ call n f m (cAt [0] B59) s H = regNext (evOpsGo P Γ call r59_2.1 r59_2.1 s H) := qR r59_2.2
attribute [simp] r59_2
@[simp] theorem n59_3 : evCode P Γ call n f m (cAt [1] B59) s H = seqNext P Γ call n f m (cAt [1,1] B59) (evCode P Γ call n f m (cAt [1,0] B59) s H) := qS
noncomputable def r59_4 : {l : List Oper // opsOf (cAt [1,0] B59) = l} := by
  apply Subtype.mk
  dsimp [B59, Try.f59]
@[simp] theorem n59_4 : evCode P Γ call n f m (cAt [1,0] B59) s H = regNext (drawR P Γ call r59_4.1 [([2,3,5,6,7,8,10,11,12,13], [7,8,10,11,12,13,15,16,17,18]), ([2,3,5,6,7,8,10,11,12,13], [7,8,10,11,12,13,15,16,17,18]), ([0,1,5,6,7,8,10,11,12,13], [5,6,10,11,12,13,15,16,17,18]), ([0,1,5,6,7,8,10,11,12,13], [5,6,10,11,12,13,15,16,17,18]), ([5,6,7,8,10,11,12,13], [10,11,12,13,15,16,17,18]), ([0,1,2,3,4,7,8,10,11,12,13], [5,6,7,8,9,12,13,15,16,17,18]), ([0,1,2,3,4,7,8,10,11,12,13], [5,6,7,8,9,12,13,15,16,17,18]), ([0,1,2,3,4,5,6,10,11,12,13], [5,6,7,8,9,10,11,15,16,17,18]), ([0,1,2,3,4,5,6,10,11,12,13], [5,6,7,8,9,10,11,15,16,17,18]), ([10,11,12,13], [15,16,17,18]), ([0,1,2,3,4,5,6,7,8,9,12,13], [5,6,7,8,9,10,11,12,13,14,17,18]), ([0,1,2,3,4,5,6,7,8,9,12,13], [5,6,7,8,9,10,11,12,13,14,17,18]), ([0,1,2,3,4,5,6,7,8,9,10,11], [5,6,7,8,9,10,11,12,13,14,15,16]), ([0,1,2,3,4,5,6,7,8,9,10,11], [5,6,7,8,9,10,11,12,13,14,15,16]), ([], []), ([], []), ([], []), ([], [])] s H) := qD r59_4.2
attribute [simp] r59_4
@[simp] theorem n59_5 : evCode P Γ call n f m (cAt [1,1] B59) s H = some (.ret, s, H) := qT
theorem b59 {k : Nat} (ho : ∀ args H, Γ.orc 59 args H = none) (args : List V) (H : Heap) (ha : args.length ≤ 22) : evF Try.prog Γ (k + 1) 59 args H = bodyEnd Try.prog [.tmp 4] H.length (evCode Try.prog Γ (evF Try.prog Γ k) k 59 H.length (cAt [] B59) (mkL 22 V.undef (enumV 0 args)) H) := body_at Try.func59 (by decide) rfl ho rfl rfl args H ha
noncomputable def B60 : Code := bodyOf Try.f60
@[simp] theorem n60_1 : evCode P Γ call n f m (cAt [] B60) s H = seqNext P Γ call n f m (cAt [1] B60) (evCode P Γ call n f m (cAt [0] B60) s H) := qS
noncomputable def r60_2 : {l : List Oper // opsOf (cAt [0] B60) = l} := by
  apply Subtype.mk
  dsimp [B60, Try.f60]
@[simp] theorem n60_2 : evCode P Γ call n f m (cAt [0] B60) s H = regNext (evOpsGo P Γ call r60_2.1 r60_2.1 s H) := qR r60_2.2
attribute [simp] r60_2
@[simp] theorem n60_3 : evCode P Γ call n f m (cAt [1] B60) s H = seqNext P Γ call n f m (cAt [1,1] B60) (evCode P Γ call n f m (cAt [1,0] B60) s H) := qS
@[simp] theorem n60_4 : evCode P Γ call n f m (cAt [1,0] B60) s H = seqNext P Γ call n f m (cAt [1,0,1] B60) (evCode P Γ call n f m (cAt [1,0,0] B60) s H) := qS
noncomputable def r60_5 : {l : List Oper // opsOf (cAt [1,0,0] B60) = l} := by
  apply Subtype.mk
  dsimp [B60, Try.f60]
@[simp] theorem n60_5 : evCode P Γ call n f m (cAt [1,0,0] B60) s H = regNext (evOpsGo P Γ call r60_5.1 r60_5.1 s H) := qR r60_5.2
attribute [simp] r60_5
@[simp] theorem n60_6 : evCode P Γ call n f m (cAt [1,0,1] B60) s H = condW P Γ call n f m (cAt [1,0,1,0] B60) (cAt [1,0,1,1] B60) s H (evOperand Γ s (.tmp 8)) := qC
@[simp] theorem n60_7 : evCode P Γ call n f m (cAt [1,0,1,0] B60) s H = seqNext P Γ call n f m (cAt [1,0,1,0,1] B60) (evCode P Γ call n f m (cAt [1,0,1,0,0] B60) s H) := qS
noncomputable def r60_8 : {l : List Oper // opsOf (cAt [1,0,1,0,0] B60) = l} := by
  apply Subtype.mk
  dsimp [B60, Try.f60]
@[simp] theorem n60_8 : evCode P Γ call n f m (cAt [1,0,1,0,0] B60) s H = regNext (evOpsGo P Γ call r60_8.1 r60_8.1 s H) := qR r60_8.2
attribute [simp] r60_8
@[simp] theorem n60_9 : evCode P Γ call n f m (cAt [1,0,1,0,1] B60) s H = some (.ret, s, H) := qT
@[simp] theorem n60_10 : evCode P Γ call n f m (cAt [1,0,1,1] B60) s H = some (.normal, s, H) := qK
@[simp] theorem n60_11 : evCode P Γ call n f m (cAt [1,1] B60) s H = seqNext P Γ call n f m (cAt [1,1,1] B60) (evCode P Γ call n f m (cAt [1,1,0] B60) s H) := qS
@[simp] theorem n60_12 : evCode P Γ call n f m (cAt [1,1,0] B60) s H = seqNext P Γ call n f m (cAt [1,1,0,1] B60) (evCode P Γ call n f m (cAt [1,1,0,0] B60) s H) := qS
noncomputable def r60_13 : {l : List Oper // opsOf (cAt [1,1,0,0] B60) = l} := by
  apply Subtype.mk
  dsimp [B60, Try.f60]
@[simp] theorem n60_13 : evCode P Γ call n f m (cAt [1,1,0,0] B60) s H = regNext (evOpsGo P Γ call r60_13.1 r60_13.1 s H) := qR r60_13.2
attribute [simp] r60_13
@[simp] theorem n60_14 : evCode P Γ call n f m (cAt [1,1,0,1] B60) s H = blockNext 0 (evCode P Γ call n f m (cAt [1,1,0,1,0] B60) s H) := qB
@[simp] theorem n60_15 : evCode P Γ call n f m (cAt [1,1,0,1,0] B60) s H = evLoopC P Γ call n f m (cAt [1,1,0,1,0,0] B60) n s H := qL
noncomputable abbrev L60_4 : Code := cAt [1,1,0,1,0,0] B60
@[simp] theorem n60_15f : firstRegion (cAt [1,1,0,1,0,0] B60) = 4 := by kernel_rfl
@[simp] theorem n60_16 : evCode P Γ call n f m (cAt [1,1,0,1,0,0] B60) s H = seqNext P Γ call n f m (cAt [1,1,0,1,0,0,1] B60) (evCode P Γ call n f m (cAt [1,1,0,1,0,0,0] B60) s H) := qS
@[simp] theorem n60_17 : evCode P Γ call n f m (cAt [1,1,0,1,0,0,0] B60) s H = seqNext P Γ call n f m (cAt [1,1,0,1,0,0,0,1] B60) (evCode P Γ call n f m (cAt [1,1,0,1,0,0,0,0] B60) s H) := qS
noncomputable def r60_18 : {l : List Oper // opsOf (cAt [1,1,0,1,0,0,0,0] B60) = l} := by
  apply Subtype.mk
  dsimp [B60, Try.f60]
@[simp] theorem n60_18 : evCode P Γ call n f m (cAt [1,1,0,1,0,0,0,0] B60) s H = regNext (evOpsGo P Γ call r60_18.1 r60_18.1 s H) := qR r60_18.2
attribute [simp] r60_18
@[simp] theorem n60_19 : evCode P Γ call n f m (cAt [1,1,0,1,0,0,0,1] B60) s H = condW P Γ call n f m (cAt [1,1,0,1,0,0,0,1,0] B60) (cAt [1,1,0,1,0,0,0,1,1] B60) s H (evOperand Γ s (.tmp 13)) := qC
@[simp] theorem n60_20 : evCode P Γ call n f m (cAt [1,1,0,1,0,0,0,1,0] B60) s H = some (.normal, s, H) := qK
@[simp] theorem n60_21 : evCode P Γ call n f m (cAt [1,1,0,1,0,0,0,1,1] B60) s H = some (.exit 0, s, H) := qE
@[simp] theorem n60_22 : evCode P Γ call n f m (cAt [1,1,0,1,0,0,1] B60) s H = seqNext P Γ call n f m (cAt [1,1,0,1,0,0,1,1] B60) (evCode P Γ call n f m (cAt [1,1,0,1,0,0,1,0] B60) s H) := qS
@[simp] theorem n60_23 : evCode P Γ call n f m (cAt [1,1,0,1,0,0,1,0] B60) s H = blockNext 1 (evCode P Γ call n f m (cAt [1,1,0,1,0,0,1,0,0] B60) s H) := qB
@[simp] theorem n60_24 : evCode P Γ call n f m (cAt [1,1,0,1,0,0,1,0,0] B60) s H = seqNext P Γ call n f m (cAt [1,1,0,1,0,0,1,0,0,1] B60) (evCode P Γ call n f m (cAt [1,1,0,1,0,0,1,0,0,0] B60) s H) := qS
noncomputable def r60_25 : {l : List Oper // opsOf (cAt [1,1,0,1,0,0,1,0,0,0] B60) = l} := by
  apply Subtype.mk
  dsimp [B60, Try.f60]
@[simp] theorem n60_25 : evCode P Γ call n f m (cAt [1,1,0,1,0,0,1,0,0,0] B60) s H = regNext (drawR P Γ call r60_25.1 [([1,4,5,6,7,8], [17,20,21,22,23,24]), ([0,4,5,6,7,8], [16,20,21,22,23,24]), ([4,5,6,7,8], [20,21,22,23,24]), ([4,5,6,7,8], [20,21,22,23,24]), ([0,1,2,3,5,6], [16,17,18,19,21,22]), ([0,1,2,3,4], [16,17,18,19,20]), ([0,1,2,3,4], [16,17,18,19,20]), ([0,1,2,3], [16,17,18,19]), ([0,1,2,3], [16,17,18,19]), ([], [])] s H) := qD r60_25.2
attribute [simp] r60_25
@[simp] theorem n60_26 : evCode P Γ call n f m (cAt [1,1,0,1,0,0,1,0,0,1] B60) s H = condW P Γ call n f m (cAt [1,1,0,1,0,0,1,0,0,1,0] B60) (cAt [1,1,0,1,0,0,1,0,0,1,1] B60) s H (evOperand Γ s (.tmp 25)) := qC
@[simp] theorem n60_27 : evCode P Γ call n f m (cAt [1,1,0,1,0,0,1,0,0,1,0] B60) s H = seqNext P Γ call n f m (cAt [1,1,0,1,0,0,1,0,0,1,0,1] B60) (evCode P Γ call n f m (cAt [1,1,0,1,0,0,1,0,0,1,0,0] B60) s H) := qS
noncomputable def r60_28 : {l : List Oper // opsOf (cAt [1,1,0,1,0,0,1,0,0,1,0,0] B60) = l} := by
  apply Subtype.mk
  dsimp [B60, Try.f60]
@[simp] theorem n60_28 : evCode P Γ call n f m (cAt [1,1,0,1,0,0,1,0,0,1,0,0] B60) s H = regNext (evOpsGo P Γ call r60_28.1 r60_28.1 s H) := qR r60_28.2
attribute [simp] r60_28
@[simp] theorem n60_29 : evCode P Γ call n f m (cAt [1,1,0,1,0,0,1,0,0,1,0,1] B60) s H = seqNext P Γ call n f m (cAt [1,1,0,1,0,0,1,0,0,1,0,1,1] B60) (evCode P Γ call n f m (cAt [1,1,0,1,0,0,1,0,0,1,0,1,0] B60) s H) := qS
@[simp] theorem n60_30 : evCode P Γ call n f m (cAt [1,1,0,1,0,0,1,0,0,1,0,1,0] B60) s H = seqNext P Γ call n f m (cAt [1,1,0,1,0,0,1,0,0,1,0,1,0,1] B60) (evCode P Γ call n f m (cAt [1,1,0,1,0,0,1,0,0,1,0,1,0,0] B60) s H) := qS
noncomputable def r60_31 : {l : List Oper // opsOf (cAt [1,1,0,1,0,0,1,0,0,1,0,1,0,0] B60) = l} := by
  apply Subtype.mk
  dsimp [B60, Try.f60]
@[simp] theorem n60_31 : evCode P Γ call n f m (cAt [1,1,0,1,0,0,1,0,0,1,0,1,0,0] B60) s H = regNext (evOpsGo P Γ call r60_31.1 r60_31.1 s H) := qR r60_31.2
attribute [simp] r60_31
@[simp] theorem n60_32 : evCode P Γ call n f m (cAt [1,1,0,1,0,0,1,0,0,1,0,1,0,1] B60) s H = blockNext 2 (evCode P Γ call n f m (cAt [1,1,0,1,0,0,1,0,0,1,0,1,0,1,0] B60) s H) := qB
@[simp] theorem n60_33 : evCode P Γ call n f m (cAt [1,1,0,1,0,0,1,0,0,1,0,1,0,1,0] B60) s H = evLoopC P Γ call n f m (cAt [1,1,0,1,0,0,1,0,0,1,0,1,0,1,0,0] B60) n s H := qL
noncomputable abbrev L60_9 : Code := cAt [1,1,0,1,0,0,1,0,0,1,0,1,0,1,0,0] B60
@[simp] theorem n60_33f : firstRegion (cAt [1,1,0,1,0,0,1,0,0,1,0,1,0,1,0,0] B60) = 9 := by kernel_rfl
@[simp] theorem n60_34 : evCode P Γ call n f m (cAt [1,1,0,1,0,0,1,0,0,1,0,1,0,1,0,0] B60) s H = seqNext P Γ call n f m (cAt [1,1,0,1,0,0,1,0,0,1,0,1,0,1,0,0,1] B60) (evCode P Γ call n f m (cAt [1,1,0,1,0,0,1,0,0,1,0,1,0,1,0,0,0] B60) s H) := qS
@[simp] theorem n60_35 : evCode P Γ call n f m (cAt [1,1,0,1,0,0,1,0,0,1,0,1,0,1,0,0,0] B60) s H = seqNext P Γ call n f m (cAt [1,1,0,1,0,0,1,0,0,1,0,1,0,1,0,0,0,1] B60) (evCode P Γ call n f m (cAt [1,1,0,1,0,0,1,0,0,1,0,1,0,1,0,0,0,0] B60) s H) := qS
noncomputable def r60_36 : {l : List Oper // opsOf (cAt [1,1,0,1,0,0,1,0,0,1,0,1,0,1,0,0,0,0] B60) = l} := by
  apply Subtype.mk
  dsimp [B60, Try.f60]
@[simp] theorem n60_36 : evCode P Γ call n f m (cAt [1,1,0,1,0,0,1,0,0,1,0,1,0,1,0,0,0,0] B60) s H = regNext (evOpsGo P Γ call r60_36.1 r60_36.1 s H) := qR r60_36.2
attribute [simp] r60_36
@[simp] theorem n60_37 : evCode P Γ call n f m (cAt [1,1,0,1,0,0,1,0,0,1,0,1,0,1,0,0,0,1] B60) s H = condW P Γ call n f m (cAt [1,1,0,1,0,0,1,0,0,1,0,1,0,1,0,0,0,1,0] B60) (cAt [1,1,0,1,0,0,1,0,0,1,0,1,0,1,0,0,0,1,1] B60) s H (evOperand Γ s (.tmp 32)) := qC
@[simp] theorem n60_38 : evCode P Γ call n f m (cAt [1,1,0,1,0,0,1,0,0,1,0,1,0,1,0,0,0,1,0] B60) s H = some (.normal, s, H) := qK
@[simp] theorem n60_39 : evCode P Γ call n f m (cAt [1,1,0,1,0,0,1,0,0,1,0,1,0,1,0,0,0,1,1] B60) s H = some (.exit 2, s, H) := qE
@[simp] theorem n60_40 : evCode P Γ call n f m (cAt [1,1,0,1,0,0,1,0,0,1,0,1,0,1,0,0,1] B60) s H = seqNext P Γ call n f m (cAt [1,1,0,1,0,0,1,0,0,1,0,1,0,1,0,0,1,1] B60) (evCode P Γ call n f m (cAt [1,1,0,1,0,0,1,0,0,1,0,1,0,1,0,0,1,0] B60) s H) := qS
@[simp] theorem n60_41 : evCode P Γ call n f m (cAt [1,1,0,1,0,0,1,0,0,1,0,1,0,1,0,0,1,0] B60) s H = blockNext 3 (evCode P Γ call n f m (cAt [1,1,0,1,0,0,1,0,0,1,0,1,0,1,0,0,1,0,0] B60) s H) := qB
@[simp] theorem n60_42 : evCode P Γ call n f m (cAt [1,1,0,1,0,0,1,0,0,1,0,1,0,1,0,0,1,0,0] B60) s H = seqNext P Γ call n f m (cAt [1,1,0,1,0,0,1,0,0,1,0,1,0,1,0,0,1,0,0,1] B60) (evCode P Γ call n f m (cAt [1,1,0,1,0,0,1,0,0,1,0,1,0,1,0,0,1,0,0,0] B60) s H) := qS
noncomputable def r60_43 : {l : List Oper // opsOf (cAt [1,1,0,1,0,0,1,0,0,1,0,1,0,1,0,0,1,0,0,0] B60) = l} := by
  apply Subtype.mk
  dsimp [B60, Try.f60]
@[simp] theorem n60_43 : evCode P Γ call n f m (cAt [1,1,0,1,0,0,1,0,0,1,0,1,0,1,0,0,1,0,0,0] B60) s H = regNext (drawR P Γ call r60_43.1 [([1,4,5,6,7,8], [36,39,40,41,42,43]), ([0,4,5,6,7,8], [35,39,40,41,42,43]), ([4,5,6,7,8], [39,40,41,42,43]), ([4,5,6,7,8], [39,40,41,42,43]), ([0,1,2,3,5,6], [35,36,37,38,40,41]), ([0,1,2,3,4], [35,36,37,38,39]), ([0,1,2,3,4], [35,36,37,38,39]), ([0,1,2,3], [35,36,37,38]), ([0,1,2,3], [35,36,37,38]), ([], [])] s H) := qD r60_43.2
attribute [simp] r60_43
@[simp] theorem n60_44 : evCode P Γ call n f m (cAt [1,1,0,1,0,0,1,0,0,1,0,1,0,1,0,0,1,0,0,1] B60) s H = condW P Γ call n f m (cAt [1,1,0,1,0,0,1,0,0,1,0,1,0,1,0,0,1,0,0,1,0] B60) (cAt [1,1,0,1,0,0,1,0,0,1,0,1,0,1,0,0,1,0,0,1,1] B60) s H (evOperand Γ s (.tmp 44)) := qC
@[simp] theorem n60_45 : evCode P Γ call n f m (cAt [1,1,0,1,0,0,1,0,0,1,0,1,0,1,0,0,1,0,0,1,0] B60) s H = seqNext P Γ call n f m (cAt [1,1,0,1,0,0,1,0,0,1,0,1,0,1,0,0,1,0,0,1,0,1] B60) (evCode P Γ call n f m (cAt [1,1,0,1,0,0,1,0,0,1,0,1,0,1,0,0,1,0,0,1,0,0] B60) s H) := qS
noncomputable def r60_46 : {l : List Oper // opsOf (cAt [1,1,0,1,0,0,1,0,0,1,0,1,0,1,0,0,1,0,0,1,0,0] B60) = l} := by
  apply Subtype.mk
  dsimp [B60, Try.f60]
@[simp] theorem n60_46 : evCode P Γ call n f m (cAt [1,1,0,1,0,0,1,0,0,1,0,1,0,1,0,0,1,0,0,1,0,0] B60) s H = regNext (evOpsGo P Γ call r60_46.1 r60_46.1 s H) := qR r60_46.2
attribute [simp] r60_46
noncomputable def r60_47 : {l : List Oper // opsOf (cAt [1,1,0,1,0,0,1,0,0,1,0,1,0,1,0,0,1,0,0,1,0,1] B60) = l} := by
  apply Subtype.mk
  dsimp [B60, Try.f60]
@[simp] theorem n60_47 : evCode P Γ call n f m (cAt [1,1,0,1,0,0,1,0,0,1,0,1,0,1,0,0,1,0,0,1,0,1] B60) s H = regNext (evOpsGo P Γ call r60_47.1 r60_47.1 s H) := qR r60_47.2
attribute [simp] r60_47
@[simp] theorem n60_48 : evCode P Γ call n f m (cAt [1,1,0,1,0,0,1,0,0,1,0,1,0,1,0,0,1,0,0,1,1] B60) s H = some (.normal, s, H) := qK
noncomputable def r60_49 : {l : List Oper // opsOf (cAt [1,1,0,1,0,0,1,0,0,1,0,1,0,1,0,0,1,1] B60) = l} := by
  apply Subtype.mk
  dsimp [B60, Try.f60]
@[simp] theorem n60_49 : evCode P Γ call n f m (cAt [1,1,0,1,0,0,1,0,0,1,0,1,0,1,0,0,1,1] B60) s H = regNext (evOpsGo P Γ call r60_49.1 r60_49.1 s H) := qR r60_49.2
attribute [simp] r60_49
@[simp] theorem n60_50 : evCode P Γ call n f m (cAt [1,1,0,1,0,0,1,0,0,1,0,1,1] B60) s H = seqNext P Γ call n f m (cAt [1,1,0,1,0,0,1,0,0,1,0,1,1,1] B60) (evCode P Γ call n f m (cAt [1,1,0,1,0,0,1,0,0,1,0,1,1,0] B60) s H) := qS
noncomputable def r60_51 : {l : List Oper // opsOf (cAt [1,1,0,1,0,0,1,0,0,1,0,1,1,0] B60) = l} := by
  apply Subtype.mk
  dsimp [B60, Try.f60]
@[simp] theorem n60_51 : evCode P Γ call n f m (cAt [1,1,0,1,0,0,1,0,0,1,0,1,1,0] B60) s H = regNext (evOpsGo P Γ call r60_51.1 r60_51.1 s H) := qR r60_51.2
attribute [simp] r60_51
@[simp] theorem n60_52 : evCode P Γ call n f m (cAt [1,1,0,1,0,0,1,0,0,1,0,1,1,1] B60) s H = seqNext P Γ call n f m (cAt [1,1,0,1,0,0,1,0,0,1,0,1,1,1,1] B60) (evCode P Γ call n f m (cAt [1,1,0,1,0,0,1,0,0,1,0,1,1,1,0] B60) s H) := qS
noncomputable def r60_53 : {l : List Oper // opsOf (cAt [1,1,0,1,0,0,1,0,0,1,0,1,1,1,0] B60) = l} := by
  apply Subtype.mk
  dsimp [B60, Try.f60]
@[simp] theorem n60_53 : evCode P Γ call n f m (cAt [1,1,0,1,0,0,1,0,0,1,0,1,1,1,0] B60) s H = regNext (evOpsGo P Γ call r60_53.1 r60_53.1 s H) := qR r60_53.2
attribute [simp] r60_53
@[simp] theorem n60_54 : evCode P Γ call n f m (cAt [1,1,0,1,0,0,1,0,0,1,0,1,1,1,1] B60) s H = some (.ret, s, H) := qT
@[simp] theorem n60_55 : evCode P Γ call n f m (cAt [1,1,0,1,0,0,1,0,0,1,1] B60) s H = some (.normal, s, H) := qK
noncomputable def r60_56 : {l : List Oper // opsOf (cAt [1,1,0,1,0,0,1,1] B60) = l} := by
  apply Subtype.mk
  dsimp [B60, Try.f60]
@[simp] theorem n60_56 : evCode P Γ call n f m (cAt [1,1,0,1,0,0,1,1] B60) s H = regNext (evOpsGo P Γ call r60_56.1 r60_56.1 s H) := qR r60_56.2
attribute [simp] r60_56
@[simp] theorem n60_57 : evCode P Γ call n f m (cAt [1,1,1] B60) s H = seqNext P Γ call n f m (cAt [1,1,1,1] B60) (evCode P Γ call n f m (cAt [1,1,1,0] B60) s H) := qS
noncomputable def r60_58 : {l : List Oper // opsOf (cAt [1,1,1,0] B60) = l} := by
  apply Subtype.mk
  dsimp [B60, Try.f60]
@[simp] theorem n60_58 : evCode P Γ call n f m (cAt [1,1,1,0] B60) s H = regNext (evOpsGo P Γ call r60_58.1 r60_58.1 s H) := qR r60_58.2
attribute [simp] r60_58
@[simp] theorem n60_59 : evCode P Γ call n f m (cAt [1,1,1,1] B60) s H = some (.ret, s, H) := qT
theorem b60 {k : Nat} (ho : ∀ args H, Γ.orc 60 args H = none) (args : List V) (H : Heap) (ha : args.length ≤ 61) : evF Try.prog Γ (k + 1) 60 args H = bodyEnd Try.prog [.tmp 2] H.length (evCode Try.prog Γ (evF Try.prog Γ k) k 60 H.length (cAt [] B60) (mkL 61 V.undef (enumV 0 args)) H) := body_at Try.func60 (by decide) rfl ho rfl rfl args H ha
noncomputable def B61 : Code := bodyOf Try.f61
@[simp] theorem n61_1 : evCode P Γ call n f m (cAt [] B61) s H = seqNext P Γ call n f m (cAt [1] B61) (evCode P Γ call n f m (cAt [0] B61) s H) := qS
noncomputable def r61_2 : {l : List Oper // opsOf (cAt [0] B61) = l} := by
  apply Subtype.mk
  dsimp [B61, Try.f61]
@[simp] theorem n61_2 : evCode P Γ call n f m (cAt [0] B61) s H = regNext (evOpsGo P Γ call r61_2.1 r61_2.1 s H) := qR r61_2.2
attribute [simp] r61_2
@[simp] theorem n61_3 : evCode P Γ call n f m (cAt [1] B61) s H = seqNext P Γ call n f m (cAt [1,1] B61) (evCode P Γ call n f m (cAt [1,0] B61) s H) := qS
@[simp] theorem n61_4 : evCode P Γ call n f m (cAt [1,0] B61) s H = seqNext P Γ call n f m (cAt [1,0,1] B61) (evCode P Γ call n f m (cAt [1,0,0] B61) s H) := qS
noncomputable def r61_5 : {l : List Oper // opsOf (cAt [1,0,0] B61) = l} := by
  apply Subtype.mk
  dsimp [B61, Try.f61]
@[simp] theorem n61_5 : evCode P Γ call n f m (cAt [1,0,0] B61) s H = regNext (evOpsGo P Γ call r61_5.1 r61_5.1 s H) := qR r61_5.2
attribute [simp] r61_5
@[simp] theorem n61_6 : evCode P Γ call n f m (cAt [1,0,1] B61) s H = condW P Γ call n f m (cAt [1,0,1,0] B61) (cAt [1,0,1,1] B61) s H (evOperand Γ s (.tmp 7)) := qC
@[simp] theorem n61_7 : evCode P Γ call n f m (cAt [1,0,1,0] B61) s H = seqNext P Γ call n f m (cAt [1,0,1,0,1] B61) (evCode P Γ call n f m (cAt [1,0,1,0,0] B61) s H) := qS
noncomputable def r61_8 : {l : List Oper // opsOf (cAt [1,0,1,0,0] B61) = l} := by
  apply Subtype.mk
  dsimp [B61, Try.f61]
@[simp] theorem n61_8 : evCode P Γ call n f m (cAt [1,0,1,0,0] B61) s H = regNext (evOpsGo P Γ call r61_8.1 r61_8.1 s H) := qR r61_8.2
attribute [simp] r61_8
@[simp] theorem n61_9 : evCode P Γ call n f m (cAt [1,0,1,0,1] B61) s H = some (.ret, s, H) := qT
@[simp] theorem n61_10 : evCode P Γ call n f m (cAt [1,0,1,1] B61) s H = some (.normal, s, H) := qK
@[simp] theorem n61_11 : evCode P Γ call n f m (cAt [1,1] B61) s H = seqNext P Γ call n f m (cAt [1,1,1] B61) (evCode P Γ call n f m (cAt [1,1,0] B61) s H) := qS
@[simp] theorem n61_12 : evCode P Γ call n f m (cAt [1,1,0] B61) s H = seqNext P Γ call n f m (cAt [1,1,0,1] B61) (evCode P Γ call n f m (cAt [1,1,0,0] B61) s H) := qS
noncomputable def r61_13 : {l : List Oper // opsOf (cAt [1,1,0,0] B61) = l} := by
  apply Subtype.mk
  dsimp [B61, Try.f61]
@[simp] theorem n61_13 : evCode P Γ call n f m (cAt [1,1,0,0] B61) s H = regNext (evOpsGo P Γ call r61_13.1 r61_13.1 s H) := qR r61_13.2
attribute [simp] r61_13
@[simp] theorem n61_14 : evCode P Γ call n f m (cAt [1,1,0,1] B61) s H = blockNext 0 (evCode P Γ call n f m (cAt [1,1,0,1,0] B61) s H) := qB
@[simp] theorem n61_15 : evCode P Γ call n f m (cAt [1,1,0,1,0] B61) s H = evLoopC P Γ call n f m (cAt [1,1,0,1,0,0] B61) n s H := qL
noncomputable abbrev L61_4 : Code := cAt [1,1,0,1,0,0] B61
@[simp] theorem n61_15f : firstRegion (cAt [1,1,0,1,0,0] B61) = 4 := by kernel_rfl
@[simp] theorem n61_16 : evCode P Γ call n f m (cAt [1,1,0,1,0,0] B61) s H = seqNext P Γ call n f m (cAt [1,1,0,1,0,0,1] B61) (evCode P Γ call n f m (cAt [1,1,0,1,0,0,0] B61) s H) := qS
noncomputable def r61_17 : {l : List Oper // opsOf (cAt [1,1,0,1,0,0,0] B61) = l} := by
  apply Subtype.mk
  dsimp [B61, Try.f61]
@[simp] theorem n61_17 : evCode P Γ call n f m (cAt [1,1,0,1,0,0,0] B61) s H = regNext (evOpsGo P Γ call r61_17.1 r61_17.1 s H) := qR r61_17.2
attribute [simp] r61_17
@[simp] theorem n61_18 : evCode P Γ call n f m (cAt [1,1,0,1,0,0,1] B61) s H = seqNext P Γ call n f m (cAt [1,1,0,1,0,0,1,1] B61) (evCode P Γ call n f m (cAt [1,1,0,1,0,0,1,0] B61) s H) := qS
@[simp] theorem n61_19 : evCode P Γ call n f m (cAt [1,1,0,1,0,0,1,0] B61) s H = condW P Γ call n f m (cAt [1,1,0,1,0,0,1,0,0] B61) (cAt [1,1,0,1,0,0,1,0,1] B61) s H (evOperand Γ s (.tmp 11)) := qC
@[simp] theorem n61_20 : evCode P Γ call n f m (cAt [1,1,0,1,0,0,1,0,0] B61) s H = some (.normal, s, H) := qK
@[simp] theorem n61_21 : evCode P Γ call n f m (cAt [1,1,0,1,0,0,1,0,1] B61) s H = some (.exit 0, s, H) := qE
@[simp] theorem n61_22 : evCode P Γ call n f m (cAt [1,1,0,1,0,0,1,1] B61) s H = seqNext P Γ call n f m (cAt [1,1,0,1,0,0,1,1,1] B61) (evCode P Γ call n f m (cAt [1,1,0,1,0,0,1,1,0] B61) s H) := qS
@[simp] theorem n61_23 : evCode P Γ call n f m (cAt [1,1,0,1,0,0,1,1,0] B61) s H = blockNext 1 (evCode P Γ call n f m (cAt [1,1,0,1,0,0,1,1,0,0] B61) s H) := qB
@[simp] theorem n61_24 : evCode P Γ call n f m (cAt [1,1,0,1,0,0,1,1,0,0] B61) s H = seqNext P Γ call n f m (cAt [1,1,0,1,0,0,1,1,0,0,1] B61) (evCode P Γ call n f m (cAt [1,1,0,1,0,0,1,1,0,0,0] B61) s H) := qS
noncomputable def r61_25 : {l : List Oper // opsOf (cAt [1,1,0,1,0,0,1,1,0,0,0] B61) = l} := by
  apply Subtype.mk
  dsimp [B61, Try.f61]
@[simp] theorem n61_25 : evCode P Γ call n f m (cAt [1,1,0,1,0,0,1,1,0,0,0] B61) s H = regNext (evOpsGo P Γ call r61_25.1 r61_25.1 s H) := qR r61_25.2
attribute [simp] r61_25
@[simp] theorem n61_26 : evCode P Γ call n f m (cAt [1,1,0,1,0,0,1,1,0,0,1] B61) s H = seqNext P Γ call n f m (cAt [1,1,0,1,0,0,1,1,0,0,1,1] B61) (evCode P Γ call n f m (cAt [1,1,0,1,0,0,1,1,0,0,1,0] B61) s H) := qS
@[simp] theorem n61_27 : evCode P Γ call n f m (cAt [1,1,0,1,0,0,1,1,0,0,1,0] B61) s H = seqNext P Γ call n f m (cAt [1,1,0,1,0,0,1,1,0,0,1,0,1] B61) (evCode P Γ call n f m (cAt [1,1,0,1,0,0,1,1,0,0,1,0,0] B61) s H) := qS
noncomputable def r61_28 : {l : List Oper // opsOf (cAt [1,1,0,1,0,0,1,1,0,0,1,0,0] B61) = l} := by
  apply Subtype.mk
  dsimp [B61, Try.f61]
@[simp] theorem n61_28 : evCode P Γ call n f m (cAt [1,1,0,1,0,0,1,1,0,0,1,0,0] B61) s H = regNext (evOpsGo P Γ call r61_28.1 r61_28.1 s H) := qR r61_28.2
attribute [simp] r61_28
@[simp] theorem n61_29 : evCode P Γ call n f m (cAt [1,1,0,1,0,0,1,1,0,0,1,0,1] B61) s H = condW P Γ call n f m (cAt [1,1,0,1,0,0,1,1,0,0,1,0,1,0] B61) (cAt [1,1,0,1,0,0,1,1,0,0,1,0,1,1] B61) s H (evOperand Γ s (.tmp 29)) := qC
@[simp] theorem n61_30 : evCode P Γ call n f m (cAt [1,1,0,1,0,0,1,1,0,0,1,0,1,0] B61) s H = seqNext P Γ call n f m (cAt [1,1,0,1,0,0,1,1,0,0,1,0,1,0,1] B61) (evCode P Γ call n f m (cAt [1,1,0,1,0,0,1,1,0,0,1,0,1,0,0] B61) s H) := qS
noncomputable def r61_31 : {l : List Oper // opsOf (cAt [1,1,0,1,0,0,1,1,0,0,1,0,1,0,0] B61) = l} := by
  apply Subtype.mk
  dsimp [B61, Try.f61]
@[simp] theorem n61_31 : evCode P Γ call n f m (cAt [1,1,0,1,0,0,1,1,0,0,1,0,1,0,0] B61) s H = regNext (evOpsGo P Γ call r61_31.1 r61_31.1 s H) := qR r61_31.2
attribute [simp] r61_31
@[simp] theorem n61_32 : evCode P Γ call n f m (cAt [1,1,0,1,0,0,1,1,0,0,1,0,1,0,1] B61) s H = some (.ret, s, H) := qT
@[simp] theorem n61_33 : evCode P Γ call n f m (cAt [1,1,0,1,0,0,1,1,0,0,1,0,1,1] B61) s H = some (.normal, s, H) := qK
@[simp] theorem n61_34 : evCode P Γ call n f m (cAt [1,1,0,1,0,0,1,1,0,0,1,1] B61) s H = seqNext P Γ call n f m (cAt [1,1,0,1,0,0,1,1,0,0,1,1,1] B61) (evCode P Γ call n f m (cAt [1,1,0,1,0,0,1,1,0,0,1,1,0] B61) s H) := qS
noncomputable def r61_35 : {l : List Oper // opsOf (cAt [1,1,0,1,0,0,1,1,0,0,1,1,0] B61) = l} := by
  apply Subtype.mk
  dsimp [B61, Try.f61]
@[simp] theorem n61_35 : evCode P Γ call n f m (cAt [1,1,0,1,0,0,1,1,0,0,1,1,0] B61) s H = regNext (drawR P Γ call r61_35.1 [([], []), ([], []), ([], []), ([4,5,8], [34,35,38]), ([3,8], [33,38]), ([3,8], [33,38]), ([8], [38]), ([8], [38]), ([3,4,5,6,7], [33,34,35,36,37]), ([], []), ([], []), ([], [])] s H) := qD r61_35.2
attribute [simp] r61_35
@[simp] theorem n61_36 : evCode P Γ call n f m (cAt [1,1,0,1,0,0,1,1,0,0,1,1,1] B61) s H = condW P Γ call n f m (cAt [1,1,0,1,0,0,1,1,0,0,1,1,1,0] B61) (cAt [1,1,0,1,0,0,1,1,0,0,1,1,1,1] B61) s H (evOperand Γ s (.tmp 41)) := qC
@[simp] theorem n61_37 : evCode P Γ call n f m (cAt [1,1,0,1,0,0,1,1,0,0,1,1,1,0] B61) s H = seqNext P Γ call n f m (cAt [1,1,0,1,0,0,1,1,0,0,1,1,1,0,1] B61) (evCode P Γ call n f m (cAt [1,1,0,1,0,0,1,1,0,0,1,1,1,0,0] B61) s H) := qS
noncomputable def r61_38 : {l : List Oper // opsOf (cAt [1,1,0,1,0,0,1,1,0,0,1,1,1,0,0] B61) = l} := by
  apply Subtype.mk
  dsimp [B61, Try.f61]
@[simp] theorem n61_38 : evCode P Γ call n f m (cAt [1,1,0,1,0,0,1,1,0,0,1,1,1,0,0] B61) s H = regNext (evOpsGo P Γ call r61_38.1 r61_38.1 s H) := qR r61_38.2
attribute [simp] r61_38
@[simp] theorem n61_39 : evCode P Γ call n f m (cAt [1,1,0,1,0,0,1,1,0,0,1,1,1,0,1] B61) s H = some (.ret, s, H) := qT
@[simp] theorem n61_40 : evCode P Γ call n f m (cAt [1,1,0,1,0,0,1,1,0,0,1,1,1,1] B61) s H = some (.normal, s, H) := qK
noncomputable def r61_41 : {l : List Oper // opsOf (cAt [1,1,0,1,0,0,1,1,1] B61) = l} := by
  apply Subtype.mk
  dsimp [B61, Try.f61]
@[simp] theorem n61_41 : evCode P Γ call n f m (cAt [1,1,0,1,0,0,1,1,1] B61) s H = regNext (evOpsGo P Γ call r61_41.1 r61_41.1 s H) := qR r61_41.2
attribute [simp] r61_41
@[simp] theorem n61_42 : evCode P Γ call n f m (cAt [1,1,1] B61) s H = seqNext P Γ call n f m (cAt [1,1,1,1] B61) (evCode P Γ call n f m (cAt [1,1,1,0] B61) s H) := qS
noncomputable def r61_43 : {l : List Oper // opsOf (cAt [1,1,1,0] B61) = l} := by
  apply Subtype.mk
  dsimp [B61, Try.f61]
@[simp] theorem n61_43 : evCode P Γ call n f m (cAt [1,1,1,0] B61) s H = regNext (evOpsGo P Γ call r61_43.1 r61_43.1 s H) := qR r61_43.2
attribute [simp] r61_43
@[simp] theorem n61_44 : evCode P Γ call n f m (cAt [1,1,1,1] B61) s H = some (.ret, s, H) := qT
theorem b61 {k : Nat} (ho : ∀ args H, Γ.orc 61 args H = none) (args : List V) (H : Heap) (ha : args.length ≤ 43) : evF Try.prog Γ (k + 1) 61 args H = bodyEnd Try.prog [.tmp 2] H.length (evCode Try.prog Γ (evF Try.prog Γ k) k 61 H.length (cAt [] B61) (mkL 43 V.undef (enumV 0 args)) H) := body_at Try.func61 (by decide) rfl ho rfl rfl args H ha
noncomputable def B62 : Code := bodyOf Try.f62
@[simp] theorem n62_1 : evCode P Γ call n f m (cAt [] B62) s H = seqNext P Γ call n f m (cAt [1] B62) (evCode P Γ call n f m (cAt [0] B62) s H) := qS
noncomputable def r62_2 : {l : List Oper // opsOf (cAt [0] B62) = l} := by
  apply Subtype.mk
  dsimp [B62, Try.f62]
@[simp] theorem n62_2 : evCode P Γ call n f m (cAt [0] B62) s H = regNext (evOpsGo P Γ call r62_2.1 r62_2.1 s H) := qR r62_2.2
attribute [simp] r62_2
@[simp] theorem n62_3 : evCode P Γ call n f m (cAt [1] B62) s H = seqNext P Γ call n f m (cAt [1,1] B62) (evCode P Γ call n f m (cAt [1,0] B62) s H) := qS
noncomputable def r62_4 : {l : List Oper // opsOf (cAt [1,0] B62) = l} := by
  apply Subtype.mk
  dsimp [B62, Try.f62]
@[simp] theorem n62_4 : evCode P Γ call n f m (cAt [1,0] B62) s H = regNext (evOpsGo P Γ call r62_4.1 r62_4.1 s H) := qR r62_4.2
attribute [simp] r62_4
@[simp] theorem n62_5 : evCode P Γ call n f m (cAt [1,1] B62) s H = seqNext P Γ call n f m (cAt [1,1,1] B62) (evCode P Γ call n f m (cAt [1,1,0] B62) s H) := qS
noncomputable def r62_6 : {l : List Oper // opsOf (cAt [1,1,0] B62) = l} := by
  apply Subtype.mk
  dsimp [B62, Try.f62]
@[simp] theorem n62_6 : evCode P Γ call n f m (cAt [1,1,0] B62) s H = regNext (evOpsGo P Γ call r62_6.1 r62_6.1 s H) := qR r62_6.2
attribute [simp] r62_6
@[simp] theorem n62_7 : evCode P Γ call n f m (cAt [1,1,1] B62) s H = seqNext P Γ call n f m (cAt [1,1,1,1] B62) (evCode P Γ call n f m (cAt [1,1,1,0] B62) s H) := qS
@[simp] theorem n62_8 : evCode P Γ call n f m (cAt [1,1,1,0] B62) s H = seqNext P Γ call n f m (cAt [1,1,1,0,1] B62) (evCode P Γ call n f m (cAt [1,1,1,0,0] B62) s H) := qS
noncomputable def r62_9 : {l : List Oper // opsOf (cAt [1,1,1,0,0] B62) = l} := by
  apply Subtype.mk
  dsimp [B62, Try.f62]
@[simp] theorem n62_9 : evCode P Γ call n f m (cAt [1,1,1,0,0] B62) s H = regNext (evOpsGo P Γ call r62_9.1 r62_9.1 s H) := qR r62_9.2
attribute [simp] r62_9
@[simp] theorem n62_10 : evCode P Γ call n f m (cAt [1,1,1,0,1] B62) s H = condW P Γ call n f m (cAt [1,1,1,0,1,0] B62) (cAt [1,1,1,0,1,1] B62) s H (evOperand Γ s (.tmp 11)) := qC
@[simp] theorem n62_11 : evCode P Γ call n f m (cAt [1,1,1,0,1,0] B62) s H = seqNext P Γ call n f m (cAt [1,1,1,0,1,0,1] B62) (evCode P Γ call n f m (cAt [1,1,1,0,1,0,0] B62) s H) := qS
@[simp] theorem n62_12 : evCode P Γ call n f m (cAt [1,1,1,0,1,0,0] B62) s H = seqNext P Γ call n f m (cAt [1,1,1,0,1,0,0,1] B62) (evCode P Γ call n f m (cAt [1,1,1,0,1,0,0,0] B62) s H) := qS
noncomputable def r62_13 : {l : List Oper // opsOf (cAt [1,1,1,0,1,0,0,0] B62) = l} := by
  apply Subtype.mk
  dsimp [B62, Try.f62]
@[simp] theorem n62_13 : evCode P Γ call n f m (cAt [1,1,1,0,1,0,0,0] B62) s H = regNext (evOpsGo P Γ call r62_13.1 r62_13.1 s H) := qR r62_13.2
attribute [simp] r62_13
@[simp] theorem n62_14 : evCode P Γ call n f m (cAt [1,1,1,0,1,0,0,1] B62) s H = condW P Γ call n f m (cAt [1,1,1,0,1,0,0,1,0] B62) (cAt [1,1,1,0,1,0,0,1,1] B62) s H (evOperand Γ s (.tmp 12)) := qC
@[simp] theorem n62_15 : evCode P Γ call n f m (cAt [1,1,1,0,1,0,0,1,0] B62) s H = seqNext P Γ call n f m (cAt [1,1,1,0,1,0,0,1,0,1] B62) (evCode P Γ call n f m (cAt [1,1,1,0,1,0,0,1,0,0] B62) s H) := qS
noncomputable def r62_16 : {l : List Oper // opsOf (cAt [1,1,1,0,1,0,0,1,0,0] B62) = l} := by
  apply Subtype.mk
  dsimp [B62, Try.f62]
@[simp] theorem n62_16 : evCode P Γ call n f m (cAt [1,1,1,0,1,0,0,1,0,0] B62) s H = regNext (evOpsGo P Γ call r62_16.1 r62_16.1 s H) := qR r62_16.2
attribute [simp] r62_16
@[simp] theorem n62_17 : evCode P Γ call n f m (cAt [1,1,1,0,1,0,0,1,0,1] B62) s H = some (.ret, s, H) := qT
@[simp] theorem n62_18 : evCode P Γ call n f m (cAt [1,1,1,0,1,0,0,1,1] B62) s H = some (.normal, s, H) := qK
@[simp] theorem n62_19 : evCode P Γ call n f m (cAt [1,1,1,0,1,0,1] B62) s H = seqNext P Γ call n f m (cAt [1,1,1,0,1,0,1,1] B62) (evCode P Γ call n f m (cAt [1,1,1,0,1,0,1,0] B62) s H) := qS
noncomputable def r62_20 : {l : List Oper // opsOf (cAt [1,1,1,0,1,0,1,0] B62) = l} := by
  apply Subtype.mk
  dsimp [B62, Try.f62]
@[simp] theorem n62_20 : evCode P Γ call n f m (cAt [1,1,1,0,1,0,1,0] B62) s H = regNext (evOpsGo P Γ call r62_20.1 r62_20.1 s H) := qR r62_20.2
attribute [simp] r62_20
@[simp] theorem n62_21 : evCode P Γ call n f m (cAt [1,1,1,0,1,0,1,1] B62) s H = some (.ret, s, H) := qT
@[simp] theorem n62_22 : evCode P Γ call n f m (cAt [1,1,1,0,1,1] B62) s H = some (.normal, s, H) := qK
@[simp] theorem n62_23 : evCode P Γ call n f m (cAt [1,1,1,1] B62) s H = seqNext P Γ call n f m (cAt [1,1,1,1,1] B62) (evCode P Γ call n f m (cAt [1,1,1,1,0] B62) s H) := qS
@[simp] theorem n62_24 : evCode P Γ call n f m (cAt [1,1,1,1,0] B62) s H = seqNext P Γ call n f m (cAt [1,1,1,1,0,1] B62) (evCode P Γ call n f m (cAt [1,1,1,1,0,0] B62) s H) := qS
noncomputable def r62_25 : {l : List Oper // opsOf (cAt [1,1,1,1,0,0] B62) = l} := by
  apply Subtype.mk
  dsimp [B62, Try.f62]
@[simp] theorem n62_25 : evCode P Γ call n f m (cAt [1,1,1,1,0,0] B62) s H = regNext (evOpsGo P Γ call r62_25.1 r62_25.1 s H) := qR r62_25.2
attribute [simp] r62_25
@[simp] theorem n62_26 : evCode P Γ call n f m (cAt [1,1,1,1,0,1] B62) s H = condW P Γ call n f m (cAt [1,1,1,1,0,1,0] B62) (cAt [1,1,1,1,0,1,1] B62) s H (evOperand Γ s (.tmp 13)) := qC
@[simp] theorem n62_27 : evCode P Γ call n f m (cAt [1,1,1,1,0,1,0] B62) s H = seqNext P Γ call n f m (cAt [1,1,1,1,0,1,0,1] B62) (evCode P Γ call n f m (cAt [1,1,1,1,0,1,0,0] B62) s H) := qS
noncomputable def r62_28 : {l : List Oper // opsOf (cAt [1,1,1,1,0,1,0,0] B62) = l} := by
  apply Subtype.mk
  dsimp [B62, Try.f62]
@[simp] theorem n62_28 : evCode P Γ call n f m (cAt [1,1,1,1,0,1,0,0] B62) s H = regNext (evOpsGo P Γ call r62_28.1 r62_28.1 s H) := qR r62_28.2
attribute [simp] r62_28
@[simp] theorem n62_29 : evCode P Γ call n f m (cAt [1,1,1,1,0,1,0,1] B62) s H = some (.ret, s, H) := qT
@[simp] theorem n62_30 : evCode P Γ call n f m (cAt [1,1,1,1,0,1,1] B62) s H = some (.normal, s, H) := qK
@[simp] theorem n62_31 : evCode P Γ call n f m (cAt [1,1,1,1,1] B62) s H = seqNext P Γ call n f m (cAt [1,1,1,1,1,1] B62) (evCode P Γ call n f m (cAt [1,1,1,1,1,0] B62) s H) := qS
@[simp] theorem n62_32 : evCode P Γ call n f m (cAt [1,1,1,1,1,0] B62) s H = seqNext P Γ call n f m (cAt [1,1,1,1,1,0,1] B62) (evCode P Γ call n f m (cAt [1,1,1,1,1,0,0] B62) s H) := qS
noncomputable def r62_33 : {l : List Oper // opsOf (cAt [1,1,1,1,1,0,0] B62) = l} := by
  apply Subtype.mk
  dsimp [B62, Try.f62]
@[simp] theorem n62_33 : evCode P Γ call n f m (cAt [1,1,1,1,1,0,0] B62) s H = regNext (evOpsGo P Γ call r62_33.1 r62_33.1 s H) := qR r62_33.2
attribute [simp] r62_33
@[simp] theorem n62_34 : evCode P Γ call n f m (cAt [1,1,1,1,1,0,1] B62) s H = condW P Γ call n f m (cAt [1,1,1,1,1,0,1,0] B62) (cAt [1,1,1,1,1,0,1,1] B62) s H (evOperand Γ s (.tmp 16)) := qC
@[simp] theorem n62_35 : evCode P Γ call n f m (cAt [1,1,1,1,1,0,1,0] B62) s H = seqNext P Γ call n f m (cAt [1,1,1,1,1,0,1,0,1] B62) (evCode P Γ call n f m (cAt [1,1,1,1,1,0,1,0,0] B62) s H) := qS
noncomputable def r62_36 : {l : List Oper // opsOf (cAt [1,1,1,1,1,0,1,0,0] B62) = l} := by
  apply Subtype.mk
  dsimp [B62, Try.f62]
@[simp] theorem n62_36 : evCode P Γ call n f m (cAt [1,1,1,1,1,0,1,0,0] B62) s H = regNext (evOpsGo P Γ call r62_36.1 r62_36.1 s H) := qR r62_36.2
attribute [simp] r62_36
@[simp] theorem n62_37 : evCode P Γ call n f m (cAt [1,1,1,1,1,0,1,0,1] B62) s H = some (.ret, s, H) := qT
@[simp] theorem n62_38 : evCode P Γ call n f m (cAt [1,1,1,1,1,0,1,1] B62) s H = some (.normal, s, H) := qK
@[simp] theorem n62_39 : evCode P Γ call n f m (cAt [1,1,1,1,1,1] B62) s H = seqNext P Γ call n f m (cAt [1,1,1,1,1,1,1] B62) (evCode P Γ call n f m (cAt [1,1,1,1,1,1,0] B62) s H) := qS
@[simp] theorem n62_40 : evCode P Γ call n f m (cAt [1,1,1,1,1,1,0] B62) s H = seqNext P Γ call n f m (cAt [1,1,1,1,1,1,0,1] B62) (evCode P Γ call n f m (cAt [1,1,1,1,1,1,0,0] B62) s H) := qS
noncomputable def r62_41 : {l : List Oper // opsOf (cAt [1,1,1,1,1,1,0,0] B62) = l} := by
  apply Subtype.mk
  dsimp [B62, Try.f62]
@[simp] theorem n62_41 : evCode P Γ call n f m (cAt [1,1,1,1,1,1,0,0] B62) s H = regNext (evOpsGo P Γ call r62_41.1 r62_41.1 s H) := qR r62_41.2
attribute [simp] r62_41
@[simp] theorem n62_42 : evCode P Γ call n f m (cAt [1,1,1,1,1,1,0,1] B62) s H = condW P Γ call n f m (cAt [1,1,1,1,1,1,0,1,0] B62) (cAt [1,1,1,1,1,1,0,1,1] B62) s H (evOperand Γ s (.tmp 19)) := qC
@[simp] theorem n62_43 : evCode P Γ call n f m (cAt [1,1,1,1,1,1,0,1,0] B62) s H = seqNext P Γ call n f m (cAt [1,1,1,1,1,1,0,1,0,1] B62) (evCode P Γ call n f m (cAt [1,1,1,1,1,1,0,1,0,0] B62) s H) := qS
noncomputable def r62_44 : {l : List Oper // opsOf (cAt [1,1,1,1,1,1,0,1,0,0] B62) = l} := by
  apply Subtype.mk
  dsimp [B62, Try.f62]
@[simp] theorem n62_44 : evCode P Γ call n f m (cAt [1,1,1,1,1,1,0,1,0,0] B62) s H = regNext (evOpsGo P Γ call r62_44.1 r62_44.1 s H) := qR r62_44.2
attribute [simp] r62_44
@[simp] theorem n62_45 : evCode P Γ call n f m (cAt [1,1,1,1,1,1,0,1,0,1] B62) s H = some (.ret, s, H) := qT
@[simp] theorem n62_46 : evCode P Γ call n f m (cAt [1,1,1,1,1,1,0,1,1] B62) s H = some (.normal, s, H) := qK
@[simp] theorem n62_47 : evCode P Γ call n f m (cAt [1,1,1,1,1,1,1] B62) s H = seqNext P Γ call n f m (cAt [1,1,1,1,1,1,1,1] B62) (evCode P Γ call n f m (cAt [1,1,1,1,1,1,1,0] B62) s H) := qS
noncomputable def r62_48 : {l : List Oper // opsOf (cAt [1,1,1,1,1,1,1,0] B62) = l} := by
  apply Subtype.mk
  dsimp [B62, Try.f62]
@[simp] theorem n62_48 : evCode P Γ call n f m (cAt [1,1,1,1,1,1,1,0] B62) s H = regNext (evOpsGo P Γ call r62_48.1 r62_48.1 s H) := qR r62_48.2
attribute [simp] r62_48
@[simp] theorem n62_49 : evCode P Γ call n f m (cAt [1,1,1,1,1,1,1,1] B62) s H = some (.ret, s, H) := qT
theorem b62 {k : Nat} (ho : ∀ args H, Γ.orc 62 args H = none) (args : List V) (H : Heap) (ha : args.length ≤ 20) : evF Try.prog Γ (k + 1) 62 args H = bodyEnd Try.prog [.tmp 4] H.length (evCode Try.prog Γ (evF Try.prog Γ k) k 62 H.length (cAt [] B62) (mkL 20 V.undef (enumV 0 args)) H) := body_at Try.func62 (by decide) rfl ho rfl rfl args H ha
noncomputable def B80 : Code := bodyOf Try.f80
@[simp] theorem n80_1 : evCode P Γ call n f m (cAt [] B80) s H = seqNext P Γ call n f m (cAt [1] B80) (evCode P Γ call n f m (cAt [0] B80) s H) := qS
noncomputable def r80_2 : {l : List Oper // opsOf (cAt [0] B80) = l} := by
  apply Subtype.mk
  dsimp [B80, Try.f80]
@[simp] theorem n80_2 : evCode P Γ call n f m (cAt [0] B80) s H = regNext (evOpsGo P Γ call r80_2.1 r80_2.1 s H) := qR r80_2.2
attribute [simp] r80_2
@[simp] theorem n80_3 : evCode P Γ call n f m (cAt [1] B80) s H = seqNext P Γ call n f m (cAt [1,1] B80) (evCode P Γ call n f m (cAt [1,0] B80) s H) := qS
noncomputable def r80_4 : {l : List Oper // opsOf (cAt [1,0] B80) = l} := by
  apply Subtype.mk
  dsimp [B80, Try.f80]
@[simp] theorem n80_4 : evCode P Γ call n f m (cAt [1,0] B80) s H = regNext (evOpsGo P Γ call r80_4.1 r80_4.1 s H) := qR r80_4.2
attribute [simp] r80_4
@[simp] theorem n80_5 : evCode P Γ call n f m (cAt [1,1] B80) s H = seqNext P Γ call n f m (cAt [1,1,1] B80) (evCode P Γ call n f m (cAt [1,1,0] B80) s H) := qS
@[simp] theorem n80_6 : evCode P Γ call n f m (cAt [1,1,0] B80) s H = seqNext P Γ call n f m (cAt [1,1,0,1] B80) (evCode P Γ call n f m (cAt [1,1,0,0] B80) s H) := qS
noncomputable def r80_7 : {l : List Oper // opsOf (cAt [1,1,0,0] B80) = l} := by
  apply Subtype.mk
  dsimp [B80, Try.f80]
@[simp] theorem n80_7 : evCode P Γ call n f m (cAt [1,1,0,0] B80) s H = regNext (evOpsGo P Γ call r80_7.1 r80_7.1 s H) := qR r80_7.2
attribute [simp] r80_7
@[simp] theorem n80_8 : evCode P Γ call n f m (cAt [1,1,0,1] B80) s H = blockNext 0 (evCode P Γ call n f m (cAt [1,1,0,1,0] B80) s H) := qB
@[simp] theorem n80_9 : evCode P Γ call n f m (cAt [1,1,0,1,0] B80) s H = evLoopC P Γ call n f m (cAt [1,1,0,1,0,0] B80) n s H := qL
noncomputable abbrev L80_3 : Code := cAt [1,1,0,1,0,0] B80
@[simp] theorem n80_9f : firstRegion (cAt [1,1,0,1,0,0] B80) = 3 := by kernel_rfl
@[simp] theorem n80_10 : evCode P Γ call n f m (cAt [1,1,0,1,0,0] B80) s H = seqNext P Γ call n f m (cAt [1,1,0,1,0,0,1] B80) (evCode P Γ call n f m (cAt [1,1,0,1,0,0,0] B80) s H) := qS
noncomputable def r80_11 : {l : List Oper // opsOf (cAt [1,1,0,1,0,0,0] B80) = l} := by
  apply Subtype.mk
  dsimp [B80, Try.f80]
@[simp] theorem n80_11 : evCode P Γ call n f m (cAt [1,1,0,1,0,0,0] B80) s H = regNext (evOpsGo P Γ call r80_11.1 r80_11.1 s H) := qR r80_11.2
attribute [simp] r80_11
@[simp] theorem n80_12 : evCode P Γ call n f m (cAt [1,1,0,1,0,0,1] B80) s H = seqNext P Γ call n f m (cAt [1,1,0,1,0,0,1,1] B80) (evCode P Γ call n f m (cAt [1,1,0,1,0,0,1,0] B80) s H) := qS
@[simp] theorem n80_13 : evCode P Γ call n f m (cAt [1,1,0,1,0,0,1,0] B80) s H = condW P Γ call n f m (cAt [1,1,0,1,0,0,1,0,0] B80) (cAt [1,1,0,1,0,0,1,0,1] B80) s H (evOperand Γ s (.tmp 9)) := qC
@[simp] theorem n80_14 : evCode P Γ call n f m (cAt [1,1,0,1,0,0,1,0,0] B80) s H = some (.normal, s, H) := qK
@[simp] theorem n80_15 : evCode P Γ call n f m (cAt [1,1,0,1,0,0,1,0,1] B80) s H = some (.exit 0, s, H) := qE
@[simp] theorem n80_16 : evCode P Γ call n f m (cAt [1,1,0,1,0,0,1,1] B80) s H = seqNext P Γ call n f m (cAt [1,1,0,1,0,0,1,1,1] B80) (evCode P Γ call n f m (cAt [1,1,0,1,0,0,1,1,0] B80) s H) := qS
@[simp] theorem n80_17 : evCode P Γ call n f m (cAt [1,1,0,1,0,0,1,1,0] B80) s H = blockNext 1 (evCode P Γ call n f m (cAt [1,1,0,1,0,0,1,1,0,0] B80) s H) := qB
@[simp] theorem n80_18 : evCode P Γ call n f m (cAt [1,1,0,1,0,0,1,1,0,0] B80) s H = seqNext P Γ call n f m (cAt [1,1,0,1,0,0,1,1,0,0,1] B80) (evCode P Γ call n f m (cAt [1,1,0,1,0,0,1,1,0,0,0] B80) s H) := qS
noncomputable def r80_19 : {l : List Oper // opsOf (cAt [1,1,0,1,0,0,1,1,0,0,0] B80) = l} := by
  apply Subtype.mk
  dsimp [B80, Try.f80]
@[simp] theorem n80_19 : evCode P Γ call n f m (cAt [1,1,0,1,0,0,1,1,0,0,0] B80) s H = regNext (evOpsGo P Γ call r80_19.1 r80_19.1 s H) := qR r80_19.2
attribute [simp] r80_19
@[simp] theorem n80_20 : evCode P Γ call n f m (cAt [1,1,0,1,0,0,1,1,0,0,1] B80) s H = seqNext P Γ call n f m (cAt [1,1,0,1,0,0,1,1,0,0,1,1] B80) (evCode P Γ call n f m (cAt [1,1,0,1,0,0,1,1,0,0,1,0] B80) s H) := qS
noncomputable def r80_21 : {l : List Oper // opsOf (cAt [1,1,0,1,0,0,1,1,0,0,1,0] B80) = l} := by
  apply Subtype.mk
  dsimp [B80, Try.f80]
@[simp] theorem n80_21 : evCode P Γ call n f m (cAt [1,1,0,1,0,0,1,1,0,0,1,0] B80) s H = regNext (evOpsGo P Γ call r80_21.1 r80_21.1 s H) := qR r80_21.2
attribute [simp] r80_21
@[simp] theorem n80_22 : evCode P Γ call n f m (cAt [1,1,0,1,0,0,1,1,0,0,1,1] B80) s H = condW P Γ call n f m (cAt [1,1,0,1,0,0,1,1,0,0,1,1,0] B80) (cAt [1,1,0,1,0,0,1,1,0,0,1,1,1] B80) s H (evOperand Γ s (.tmp 14)) := qC
@[simp] theorem n80_23 : evCode P Γ call n f m (cAt [1,1,0,1,0,0,1,1,0,0,1,1,0] B80) s H = seqNext P Γ call n f m (cAt [1,1,0,1,0,0,1,1,0,0,1,1,0,1] B80) (evCode P Γ call n f m (cAt [1,1,0,1,0,0,1,1,0,0,1,1,0,0] B80) s H) := qS
noncomputable def r80_24 : {l : List Oper // opsOf (cAt [1,1,0,1,0,0,1,1,0,0,1,1,0,0] B80) = l} := by
  apply Subtype.mk
  dsimp [B80, Try.f80]
@[simp] theorem n80_24 : evCode P Γ call n f m (cAt [1,1,0,1,0,0,1,1,0,0,1,1,0,0] B80) s H = regNext (evOpsGo P Γ call r80_24.1 r80_24.1 s H) := qR r80_24.2
attribute [simp] r80_24
@[simp] theorem n80_25 : evCode P Γ call n f m (cAt [1,1,0,1,0,0,1,1,0,0,1,1,0,1] B80) s H = some (.ret, s, H) := qT
@[simp] theorem n80_26 : evCode P Γ call n f m (cAt [1,1,0,1,0,0,1,1,0,0,1,1,1] B80) s H = some (.normal, s, H) := qK
noncomputable def r80_27 : {l : List Oper // opsOf (cAt [1,1,0,1,0,0,1,1,1] B80) = l} := by
  apply Subtype.mk
  dsimp [B80, Try.f80]
@[simp] theorem n80_27 : evCode P Γ call n f m (cAt [1,1,0,1,0,0,1,1,1] B80) s H = regNext (evOpsGo P Γ call r80_27.1 r80_27.1 s H) := qR r80_27.2
attribute [simp] r80_27
@[simp] theorem n80_28 : evCode P Γ call n f m (cAt [1,1,1] B80) s H = seqNext P Γ call n f m (cAt [1,1,1,1] B80) (evCode P Γ call n f m (cAt [1,1,1,0] B80) s H) := qS
noncomputable def r80_29 : {l : List Oper // opsOf (cAt [1,1,1,0] B80) = l} := by
  apply Subtype.mk
  dsimp [B80, Try.f80]
@[simp] theorem n80_29 : evCode P Γ call n f m (cAt [1,1,1,0] B80) s H = regNext (evOpsGo P Γ call r80_29.1 r80_29.1 s H) := qR r80_29.2
attribute [simp] r80_29
@[simp] theorem n80_30 : evCode P Γ call n f m (cAt [1,1,1,1] B80) s H = some (.ret, s, H) := qT
theorem b80 {k : Nat} (ho : ∀ args H, Γ.orc 80 args H = none) (args : List V) (H : Heap) (ha : args.length ≤ 18) : evF Try.prog Γ (k + 1) 80 args H = bodyEnd Try.prog [.tmp 2] H.length (evCode Try.prog Γ (evF Try.prog Γ k) k 80 H.length (cAt [] B80) (mkL 18 V.undef (enumV 0 args)) H) := body_at Try.func80 (by decide) rfl ho rfl rfl args H ha
noncomputable def B81 : Code := bodyOf Try.f81
@[simp] theorem n81_1 : evCode P Γ call n f m (cAt [] B81) s H = seqNext P Γ call n f m (cAt [1] B81) (evCode P Γ call n f m (cAt [0] B81) s H) := qS
noncomputable def r81_2 : {l : List Oper // opsOf (cAt [0] B81) = l} := by
  apply Subtype.mk
  dsimp [B81, Try.f81]
@[simp] theorem n81_2 : evCode P Γ call n f m (cAt [0] B81) s H = regNext (evOpsGo P Γ call r81_2.1 r81_2.1 s H) := qR r81_2.2
attribute [simp] r81_2
@[simp] theorem n81_3 : evCode P Γ call n f m (cAt [1] B81) s H = seqNext P Γ call n f m (cAt [1,1] B81) (evCode P Γ call n f m (cAt [1,0] B81) s H) := qS
noncomputable def r81_4 : {l : List Oper // opsOf (cAt [1,0] B81) = l} := by
  apply Subtype.mk
  dsimp [B81, Try.f81]
@[simp] theorem n81_4 : evCode P Γ call n f m (cAt [1,0] B81) s H = regNext (evOpsGo P Γ call r81_4.1 r81_4.1 s H) := qR r81_4.2
attribute [simp] r81_4
@[simp] theorem n81_5 : evCode P Γ call n f m (cAt [1,1] B81) s H = some (.ret, s, H) := qT
theorem b81 {k : Nat} (ho : ∀ args H, Γ.orc 81 args H = none) (args : List V) (H : Heap) (ha : args.length ≤ 6) : evF Try.prog Γ (k + 1) 81 args H = bodyEnd Try.prog [.tmp 2] H.length (evCode Try.prog Γ (evF Try.prog Γ k) k 81 H.length (cAt [] B81) (mkL 6 V.undef (enumV 0 args)) H) := body_at Try.func81 (by decide) rfl ho rfl rfl args H ha
end
end Go.Ev.Try
