/-
  CODE BY NAMES, printed by wip/tools/codes.py (own work).
-/
import Derived.Test.YtflmadkbppnmcaaCkG
set_option maxRecDepth 100000
set_option linter.unusedVariables false
namespace Go.Ev.Try
open Go Go.Ev Go.Proofs
section
variable {P : Program} {Γ : Env} {call : CallF} {n f m : Nat} (s : List V) (H : Heap)
attribute [local simp] opsOf cAt kids bodyOf

noncomputable def B9 : Code := bodyOf Try.f9
@[simp] theorem n9_1 : evCode P Γ call n f m (cAt [] B9) s H = seqNext P Γ call n f m (cAt [1] B9) (evCode P Γ call n f m (cAt [0] B9) s H) := qS
noncomputable def r9_2 : {l : List Oper // opsOf (cAt [0] B9) = l} := by
  apply Subtype.mk
  dsimp [B9, Try.f9]
@[simp] theorem n9_2 : evCode P Γ call n f m (cAt [0] B9) s H = regNext (evOpsGo P Γ call r9_2.1 r9_2.1 s H) := qR r9_2.2
attribute [simp] r9_2
@[simp] theorem n9_3 : evCode P Γ call n f m (cAt [1] B9) s H = seqNext P Γ call n f m (cAt [1,1] B9) (evCode P Γ call n f m (cAt [1,0] B9) s H) := qS
@[simp] theorem n9_4 : evCode P Γ call n f m (cAt [1,0] B9) s H = seqNext P Γ call n f m (cAt [1,0,1] B9) (evCode P Γ call n f m (cAt [1,0,0] B9) s H) := qS
noncomputable def r9_5 : {l : List Oper // opsOf (cAt [1,0,0] B9) = l} := by
  apply Subtype.mk
  dsimp [B9, Try.f9]
@[simp] theorem n9_5 : evCode P Γ call n f m (cAt [1,0,0] B9) s H = regNext (evOpsGo P Γ call r9_5.1 r9_5.1 s H) := qR r9_5.2
attribute [simp] r9_5
@[simp] theorem n9_6 : evCode P Γ call n f m (cAt [1,0,1] B9) s H = condW P Γ call n f m (cAt [1,0,1,0] B9) (cAt [1,0,1,1] B9) s H (evOperand Γ s (.tmp 10)) := qC
@[simp] theorem n9_7 : evCode P Γ call n f m (cAt [1,0,1,0] B9) s H = seqNext P Γ call n f m (cAt [1,0,1,0,1] B9) (evCode P Γ call n f m (cAt [1,0,1,0,0] B9) s H) := qS
noncomputable def r9_8 : {l : List Oper // opsOf (cAt [1,0,1,0,0] B9) = l} := by
  apply Subtype.mk
  dsimp [B9, Try.f9]
@[simp] theorem n9_8 : evCode P Γ call n f m (cAt [1,0,1,0,0] B9) s H = regNext (evOpsGo P Γ call r9_8.1 r9_8.1 s H) := qR r9_8.2
attribute [simp] r9_8
@[simp] theorem n9_9 : evCode P Γ call n f m (cAt [1,0,1,0,1] B9) s H = some (.ret, s, H) := qT
@[simp] theorem n9_10 : evCode P Γ call n f m (cAt [1,0,1,1] B9) s H = some (.normal, s, H) := qK
@[simp] theorem n9_11 : evCode P Γ call n f m (cAt [1,1] B9) s H = seqNext P Γ call n f m (cAt [1,1,1] B9) (evCode P Γ call n f m (cAt [1,1,0] B9) s H) := qS
@[simp] theorem n9_12 : evCode P Γ call n f m (cAt [1,1,0] B9) s H = seqNext P Γ call n f m (cAt [1,1,0,1] B9) (evCode P Γ call n f m (cAt [1,1,0,0] B9) s H) := qS
noncomputable def r9_13 : {l : List Oper // opsOf (cAt [1,1,0,0] B9) = l} := by
  apply Subtype.mk
  dsimp [B9, Try.f9]
@[simp] theorem n9_13 : evCode P Γ call n f m (cAt [1,1,0,0] B9) s H = regNext (evOpsGo P Γ call r9_13.1 r9_13.1 s H) := qR r9_13.2
attribute [simp] r9_13
@[simp] theorem n9_14 : evCode P Γ call n f m (cAt [1,1,0,1] B9) s H = blockNext 0 (evCode P Γ call n f m (cAt [1,1,0,1,0] B9) s H) := qB
@[simp] theorem n9_15 : evCode P Γ call n f m (cAt [1,1,0,1,0] B9) s H = evLoopC P Γ call n f m (cAt [1,1,0,1,0,0] B9) n s H := qL
noncomputable abbrev L9_4 : Code := cAt [1,1,0,1,0,0] B9
@[simp] theorem n9_15f : firstRegion (cAt [1,1,0,1,0,0] B9) = 4 := by kernel_rfl
@[simp] theorem n9_16 : evCode P Γ call n f m (cAt [1,1,0,1,0,0] B9) s H = seqNext P Γ call n f m (cAt [1,1,0,1,0,0,1] B9) (evCode P Γ call n f m (cAt [1,1,0,1,0,0,0] B9) s H) := qS
noncomputable def r9_17 : {l : List Oper // opsOf (cAt [1,1,0,1,0,0,0] B9) = l} := by
  apply Subtype.mk
  dsimp [B9, Try.f9]
@[simp] theorem n9_17 : evCode P Γ call n f m (cAt [1,1,0,1,0,0,0] B9) s H = regNext (evOpsGo P Γ call r9_17.1 r9_17.1 s H) := qR r9_17.2
attribute [simp] r9_17
@[simp] theorem n9_18 : evCode P Γ call n f m (cAt [1,1,0,1,0,0,1] B9) s H = seqNext P Γ call n f m (cAt [1,1,0,1,0,0,1,1] B9) (evCode P Γ call n f m (cAt [1,1,0,1,0,0,1,0] B9) s H) := qS
@[simp] theorem n9_19 : evCode P Γ call n f m (cAt [1,1,0,1,0,0,1,0] B9) s H = condW P Γ call n f m (cAt [1,1,0,1,0,0,1,0,0] B9) (cAt [1,1,0,1,0,0,1,0,1] B9) s H (evOperand Γ s (.tmp 14)) := qC
@[simp] theorem n9_20 : evCode P Γ call n f m (cAt [1,1,0,1,0,0,1,0,0] B9) s H = some (.normal, s, H) := qK
@[simp] theorem n9_21 : evCode P Γ call n f m (cAt [1,1,0,1,0,0,1,0,1] B9) s H = some (.exit 0, s, H) := qE
@[simp] theorem n9_22 : evCode P Γ call n f m (cAt [1,1,0,1,0,0,1,1] B9) s H = seqNext P Γ call n f m (cAt [1,1,0,1,0,0,1,1,1] B9) (evCode P Γ call n f m (cAt [1,1,0,1,0,0,1,1,0] B9) s H) := qS
@[simp] theorem n9_23 : evCode P Γ call n f m (cAt [1,1,0,1,0,0,1,1,0] B9) s H = blockNext 1 (evCode P Γ call n f m (cAt [1,1,0,1,0,0,1,1,0,0] B9) s H) := qB
@[simp] theorem n9_24 : evCode P Γ call n f m (cAt [1,1,0,1,0,0,1,1,0,0] B9) s H = seqNext P Γ call n f m (cAt [1,1,0,1,0,0,1,1,0,0,1] B9) (evCode P Γ call n f m (cAt [1,1,0,1,0,0,1,1,0,0,0] B9) s H) := qS
noncomputable def r9_25 : {l : List Oper // opsOf (cAt [1,1,0,1,0,0,1,1,0,0,0] B9) = l} := by
  apply Subtype.mk
  dsimp [B9, Try.f9]
@[simp] theorem n9_25 : evCode P Γ call n f m (cAt [1,1,0,1,0,0,1,1,0,0,0] B9) s H = regNext (evOpsGo P Γ call r9_25.1 r9_25.1 s H) := qR r9_25.2
attribute [simp] r9_25
@[simp] theorem n9_26 : evCode P Γ call n f m (cAt [1,1,0,1,0,0,1,1,0,0,1] B9) s H = seqNext P Γ call n f m (cAt [1,1,0,1,0,0,1,1,0,0,1,1] B9) (evCode P Γ call n f m (cAt [1,1,0,1,0,0,1,1,0,0,1,0] B9) s H) := qS
noncomputable def r9_27 : {l : List Oper // opsOf (cAt [1,1,0,1,0,0,1,1,0,0,1,0] B9) = l} := by
  apply Subtype.mk
  dsimp [B9, Try.f9]
@[simp] theorem n9_27 : evCode P Γ call n f m (cAt [1,1,0,1,0,0,1,1,0,0,1,0] B9) s H = regNext (drawR P Γ call r9_27.1 [([1,4,5,6,7], [17,20,21,22,23]), ([0,4,5,6,7], [16,20,21,22,23]), ([4,5,6,7], [20,21,22,23]), ([4,5,6,7], [20,21,22,23]), ([0,1,2,3,5], [16,17,18,19,21]), ([0,1,2,3,4], [16,17,18,19,20]), ([0,1,2,3], [16,17,18,19]), ([0,1,2,3], [16,17,18,19]), ([], [])] s H) := qD r9_27.2
attribute [simp] r9_27
@[simp] theorem n9_28 : evCode P Γ call n f m (cAt [1,1,0,1,0,0,1,1,0,0,1,1] B9) s H = condW P Γ call n f m (cAt [1,1,0,1,0,0,1,1,0,0,1,1,0] B9) (cAt [1,1,0,1,0,0,1,1,0,0,1,1,1] B9) s H (evOperand Γ s (.tmp 24)) := qC
@[simp] theorem n9_29 : evCode P Γ call n f m (cAt [1,1,0,1,0,0,1,1,0,0,1,1,0] B9) s H = seqNext P Γ call n f m (cAt [1,1,0,1,0,0,1,1,0,0,1,1,0,1] B9) (evCode P Γ call n f m (cAt [1,1,0,1,0,0,1,1,0,0,1,1,0,0] B9) s H) := qS
noncomputable def r9_30 : {l : List Oper // opsOf (cAt [1,1,0,1,0,0,1,1,0,0,1,1,0,0] B9) = l} := by
  apply Subtype.mk
  dsimp [B9, Try.f9]
@[simp] theorem n9_30 : evCode P Γ call n f m (cAt [1,1,0,1,0,0,1,1,0,0,1,1,0,0] B9) s H = regNext (evOpsGo P Γ call r9_30.1 r9_30.1 s H) := qR r9_30.2
attribute [simp] r9_30
@[simp] theorem n9_31 : evCode P Γ call n f m (cAt [1,1,0,1,0,0,1,1,0,0,1,1,0,1] B9) s H = some (.ret, s, H) := qT
@[simp] theorem n9_32 : evCode P Γ call n f m (cAt [1,1,0,1,0,0,1,1,0,0,1,1,1] B9) s H = some (.normal, s, H) := qK
noncomputable def r9_33 : {l : List Oper // opsOf (cAt [1,1,0,1,0,0,1,1,1] B9) = l} := by
  apply Subtype.mk
  dsimp [B9, Try.f9]
@[simp] theorem n9_33 : evCode P Γ call n f m (cAt [1,1,0,1,0,0,1,1,1] B9) s H = regNext (evOpsGo P Γ call r9_33.1 r9_33.1 s H) := qR r9_33.2
attribute [simp] r9_33
@[simp] theorem n9_34 : evCode P Γ call n f m (cAt [1,1,1] B9) s H = seqNext P Γ call n f m (cAt [1,1,1,1] B9) (evCode P Γ call n f m (cAt [1,1,1,0] B9) s H) := qS
noncomputable def r9_35 : {l : List Oper // opsOf (cAt [1,1,1,0] B9) = l} := by
  apply Subtype.mk
  dsimp [B9, Try.f9]
@[simp] theorem n9_35 : evCode P Γ call n f m (cAt [1,1,1,0] B9) s H = regNext (evOpsGo P Γ call r9_35.1 r9_35.1 s H) := qR r9_35.2
attribute [simp] r9_35
@[simp] theorem n9_36 : evCode P Γ call n f m (cAt [1,1,1,1] B9) s H = some (.ret, s, H) := qT
theorem b9 {k : Nat} (ho : ∀ args H, Γ.orc 9 args H = none) (args : List V) (H : Heap) (ha : args.length ≤ 26) : evF Try.prog Γ (k + 1) 9 args H = bodyEnd Try.prog [.tmp 4] H.length (evCode Try.prog Γ (evF Try.prog Γ k) k 9 H.length (cAt [] B9) (mkL 26 V.undef (enumV 0 args)) H) := body_at Try.func9 (by decide) rfl ho rfl rfl args H ha
noncomputable def B32 : Code := bodyOf Try.f32
@[simp] theorem n32_1 : evCode P Γ call n f m (cAt [] B32) s H = seqNext P Γ call n f m (cAt [1] B32) (evCode P Γ call n f m (cAt [0] B32) s H) := qS
noncomputable def r32_2 : {l : List Oper // opsOf (cAt [0] B32) = l} := by
  apply Subtype.mk
  dsimp [B32, Try.f32]
@[simp] theorem n32_2 : evCode P Γ call n f m (cAt [0] B32) s H = regNext (evOpsGo P Γ call r32_2.1 r32_2.1 s H) := qR r32_2.2
attribute [simp] r32_2
@[simp] theorem n32_3 : evCode P Γ call n f m (cAt [1] B32) s H = seqNext P Γ call n f m (cAt [1,1] B32) (evCode P Γ call n f m (cAt [1,0] B32) s H) := qS
@[simp] theorem n32_4 : evCode P Γ call n f m (cAt [1,0] B32) s H = seqNext P Γ call n f m (cAt [1,0,1] B32) (evCode P Γ call n f m (cAt [1,0,0] B32) s H) := qS
noncomputable def r32_5 : {l : List Oper // opsOf (cAt [1,0,0] B32) = l} := by
  apply Subtype.mk
  dsimp [B32, Try.f32]
@[simp] theorem n32_5 : evCode P Γ call n f m (cAt [1,0,0] B32) s H = regNext (evOpsGo P Γ call r32_5.1 r32_5.1 s H) := qR r32_5.2
attribute [simp] r32_5
@[simp] theorem n32_6 : evCode P Γ call n f m (cAt [1,0,1] B32) s H = condW P Γ call n f m (cAt [1,0,1,0] B32) (cAt [1,0,1,1] B32) s H (evOperand Γ s (.tmp 8)) := qC
@[simp] theorem n32_7 : evCode P Γ call n f m (cAt [1,0,1,0] B32) s H = seqNext P Γ call n f m (cAt [1,0,1,0,1] B32) (evCode P Γ call n f m (cAt [1,0,1,0,0] B32) s H) := qS
noncomputable def r32_8 : {l : List Oper // opsOf (cAt [1,0,1,0,0] B32) = l} := by
  apply Subtype.mk
  dsimp [B32, Try.f32]
@[simp] theorem n32_8 : evCode P Γ call n f m (cAt [1,0,1,0,0] B32) s H = regNext (evOpsGo P Γ call r32_8.1 r32_8.1 s H) := qR r32_8.2
attribute [simp] r32_8
@[simp] theorem n32_9 : evCode P Γ call n f m (cAt [1,0,1,0,1] B32) s H = some (.ret, s, H) := qT
@[simp] theorem n32_10 : evCode P Γ call n f m (cAt [1,0,1,1] B32) s H = some (.normal, s, H) := qK
@[simp] theorem n32_11 : evCode P Γ call n f m (cAt [1,1] B32) s H = seqNext P Γ call n f m (cAt [1,1,1] B32) (evCode P Γ call n f m (cAt [1,1,0] B32) s H) := qS
@[simp] theorem n32_12 : evCode P Γ call n f m (cAt [1,1,0] B32) s H = seqNext P Γ call n f m (cAt [1,1,0,1] B32) (evCode P Γ call n f m (cAt [1,1,0,0] B32) s H) := qS
noncomputable def r32_13 : {l : List Oper // opsOf (cAt [1,1,0,0] B32) = l} := by
  apply Subtype.mk
  dsimp [B32, Try.f32]
@[simp] theorem n32_13 : evCode P Γ call n f m (cAt [1,1,0,0] B32) s H = regNext (evOpsGo P Γ call r32_13.1 r32_13.1 s H) := qR r32_13.2
attribute [simp] r32_13
@[simp] theorem n32_14 : evCode P Γ call n f m (cAt [1,1,0,1] B32) s H = blockNext 0 (evCode P Γ call n f m (cAt [1,1,0,1,0] B32) s H) := qB
@[simp] theorem n32_15 : evCode P Γ call n f m (cAt [1,1,0,1,0] B32) s H = evLoopC P Γ call n f m (cAt [1,1,0,1,0,0] B32) n s H := qL
noncomputable abbrev L32_4 : Code := cAt [1,1,0,1,0,0] B32
@[simp] theorem n32_15f : firstRegion (cAt [1,1,0,1,0,0] B32) = 4 := by kernel_rfl
@[simp] theorem n32_16 : evCode P Γ call n f m (cAt [1,1,0,1,0,0] B32) s H = seqNext P Γ call n f m (cAt [1,1,0,1,0,0,1] B32) (evCode P Γ call n f m (cAt [1,1,0,1,0,0,0] B32) s H) := qS
@[simp] theorem n32_17 : evCode P Γ call n f m (cAt [1,1,0,1,0,0,0] B32) s H = seqNext P Γ call n f m (cAt [1,1,0,1,0,0,0,1] B32) (evCode P Γ call n f m (cAt [1,1,0,1,0,0,0,0] B32) s H) := qS
noncomputable def r32_18 : {l : List Oper // opsOf (cAt [1,1,0,1,0,0,0,0] B32) = l} := by
  apply Subtype.mk
  dsimp [B32, Try.f32]
@[simp] theorem n32_18 : evCode P Γ call n f m (cAt [1,1,0,1,0,0,0,0] B32) s H = regNext (evOpsGo P Γ call r32_18.1 r32_18.1 s H) := qR r32_18.2
attribute [simp] r32_18
@[simp] theorem n32_19 : evCode P Γ call n f m (cAt [1,1,0,1,0,0,0,1] B32) s H = condW P Γ call n f m (cAt [1,1,0,1,0,0,0,1,0] B32) (cAt [1,1,0,1,0,0,0,1,1] B32) s H (evOperand Γ s (.tmp 13)) := qC
@[simp] theorem n32_20 : evCode P Γ call n f m (cAt [1,1,0,1,0,0,0,1,0] B32) s H = some (.normal, s, H) := qK
@[simp] theorem n32_21 : evCode P Γ call n f m (cAt [1,1,0,1,0,0,0,1,1] B32) s H = some (.exit 0, s, H) := qE
@[simp] theorem n32_22 : evCode P Γ call n f m (cAt [1,1,0,1,0,0,1] B32) s H = seqNext P Γ call n f m (cAt [1,1,0,1,0,0,1,1] B32) (evCode P Γ call n f m (cAt [1,1,0,1,0,0,1,0] B32) s H) := qS
@[simp] theorem n32_23 : evCode P Γ call n f m (cAt [1,1,0,1,0,0,1,0] B32) s H = blockNext 1 (evCode P Γ call n f m (cAt [1,1,0,1,0,0,1,0,0] B32) s H) := qB
@[simp] theorem n32_24 : evCode P Γ call n f m (cAt [1,1,0,1,0,0,1,0,0] B32) s H = seqNext P Γ call n f m (cAt [1,1,0,1,0,0,1,0,0,1] B32) (evCode P Γ call n f m (cAt [1,1,0,1,0,0,1,0,0,0] B32) s H) := qS
noncomputable def r32_25 : {l : List Oper // opsOf (cAt [1,1,0,1,0,0,1,0,0,0] B32) = l} := by
  apply Subtype.mk
  dsimp [B32, Try.f32]
@[simp] theorem n32_25 : evCode P Γ call n f m (cAt [1,1,0,1,0,0,1,0,0,0] B32) s H = regNext (drawR P Γ call r32_25.1 [([1,4,5,6,7,8], [17,20,21,22,23,24]), ([0,4,5,6,7,8], [16,20,21,22,23,24]), ([4,5,6,7,8], [20,21,22,23,24]), ([4,5,6,7,8], [20,21,22,23,24]), ([0,1,2,3,5,6], [16,17,18,19,21,22]), ([0,1,2,3,4], [16,17,18,19,20]), ([0,1,2,3,4], [16,17,18,19,20]), ([0,1,2,3], [16,17,18,19]), ([0,1,2,3], [16,17,18,19]), ([], [])] s H) := qD r32_25.2
attribute [simp] r32_25
@[simp] theorem n32_26 : evCode P Γ call n f m (cAt [1,1,0,1,0,0,1,0,0,1] B32) s H = condW P Γ call n f m (cAt [1,1,0,1,0,0,1,0,0,1,0] B32) (cAt [1,1,0,1,0,0,1,0,0,1,1] B32) s H (evOperand Γ s (.tmp 25)) := qC
@[simp] theorem n32_27 : evCode P Γ call n f m (cAt [1,1,0,1,0,0,1,0,0,1,0] B32) s H = seqNext P Γ call n f m (cAt [1,1,0,1,0,0,1,0,0,1,0,1] B32) (evCode P Γ call n f m (cAt [1,1,0,1,0,0,1,0,0,1,0,0] B32) s H) := qS
noncomputable def r32_28 : {l : List Oper // opsOf (cAt [1,1,0,1,0,0,1,0,0,1,0,0] B32) = l} := by
  apply Subtype.mk
  dsimp [B32, Try.f32]
@[simp] theorem n32_28 : evCode P Γ call n f m (cAt [1,1,0,1,0,0,1,0,0,1,0,0] B32) s H = regNext (evOpsGo P Γ call r32_28.1 r32_28.1 s H) := qR r32_28.2
attribute [simp] r32_28
@[simp] theorem n32_29 : evCode P Γ call n f m (cAt [1,1,0,1,0,0,1,0,0,1,0,1] B32) s H = seqNext P Γ call n f m (cAt [1,1,0,1,0,0,1,0,0,1,0,1,1] B32) (evCode P Γ call n f m (cAt [1,1,0,1,0,0,1,0,0,1,0,1,0] B32) s H) := qS
@[simp] theorem n32_30 : evCode P Γ call n f m (cAt [1,1,0,1,0,0,1,0,0,1,0,1,0] B32) s H = seqNext P Γ call n f m (cAt [1,1,0,1,0,0,1,0,0,1,0,1,0,1] B32) (evCode P Γ call n f m (cAt [1,1,0,1,0,0,1,0,0,1,0,1,0,0] B32) s H) := qS
noncomputable def r32_31 : {l : List Oper // opsOf (cAt [1,1,0,1,0,0,1,0,0,1,0,1,0,0] B32) = l} := by
  apply Subtype.mk
  dsimp [B32, Try.f32]
@[simp] theorem n32_31 : evCode P Γ call n f m (cAt [1,1,0,1,0,0,1,0,0,1,0,1,0,0] B32) s H = regNext (evOpsGo P Γ call r32_31.1 r32_31.1 s H) := qR r32_31.2
attribute [simp] r32_31
@[simp] theorem n32_32 : evCode P Γ call n f m (cAt [1,1,0,1,0,0,1,0,0,1,0,1,0,1] B32) s H = blockNext 2 (evCode P Γ call n f m (cAt [1,1,0,1,0,0,1,0,0,1,0,1,0,1,0] B32) s H) := qB
@[simp] theorem n32_33 : evCode P Γ call n f m (cAt [1,1,0,1,0,0,1,0,0,1,0,1,0,1,0] B32) s H = evLoopC P Γ call n f m (cAt [1,1,0,1,0,0,1,0,0,1,0,1,0,1,0,0] B32) n s H := qL
noncomputable abbrev L32_9 : Code := cAt [1,1,0,1,0,0,1,0,0,1,0,1,0,1,0,0] B32
@[simp] theorem n32_33f : firstRegion (cAt [1,1,0,1,0,0,1,0,0,1,0,1,0,1,0,0] B32) = 9 := by kernel_rfl
@[simp] theorem n32_34 : evCode P Γ call n f m (cAt [1,1,0,1,0,0,1,0,0,1,0,1,0,1,0,0] B32) s H = seqNext P Γ call n f m (cAt [1,1,0,1,0,0,1,0,0,1,0,1,0,1,0,0,1] B32) (evCode P Γ call n f m (cAt [1,1,0,1,0,0,1,0,0,1,0,1,0,1,0,0,0] B32) s H) := qS
@[simp] theorem n32_35 : evCode P Γ call n f m (cAt [1,1,0,1,0,0,1,0,0,1,0,1,0,1,0,0,0] B32) s H = seqNext P Γ call n f m (cAt [1,1,0,1,0,0,1,0,0,1,0,1,0,1,0,0,0,1] B32) (evCode P Γ call n f m (cAt [1,1,0,1,0,0,1,0,0,1,0,1,0,1,0,0,0,0] B32) s H) := qS
noncomputable def r32_36 : {l : List Oper // opsOf (cAt [1,1,0,1,0,0,1,0,0,1,0,1,0,1,0,0,0,0] B32) = l} := by
  apply Subtype.mk
  dsimp [B32, Try.f32]
@[simp] theorem n32_36 : evCode P Γ call n f m (cAt [1,1,0,1,0,0,1,0,0,1,0,1,0,1,0,0,0,0] B32) s H = regNext (evOpsGo P Γ call r32_36.1 r32_36.1 s H) := qR r32_36.2
attribute [simp] r32_36
@[simp] theorem n32_37 : evCode P Γ call n f m (cAt [1,1,0,1,0,0,1,0,0,1,0,1,0,1,0,0,0,1] B32) s H = condW P Γ call n f m (cAt [1,1,0,1,0,0,1,0,0,1,0,1,0,1,0,0,0,1,0] B32) (cAt [1,1,0,1,0,0,1,0,0,1,0,1,0,1,0,0,0,1,1] B32) s H (evOperand Γ s (.tmp 32)) := qC
@[simp] theorem n32_38 : evCode P Γ call n f m (cAt [1,1,0,1,0,0,1,0,0,1,0,1,0,1,0,0,0,1,0] B32) s H = some (.normal, s, H) := qK
@[simp] theorem n32_39 : evCode P Γ call n f m (cAt [1,1,0,1,0,0,1,0,0,1,0,1,0,1,0,0,0,1,1] B32) s H = some (.exit 2, s, H) := qE
@[simp] theorem n32_40 : evCode P Γ call n f m (cAt [1,1,0,1,0,0,1,0,0,1,0,1,0,1,0,0,1] B32) s H = seqNext P Γ call n f m (cAt [1,1,0,1,0,0,1,0,0,1,0,1,0,1,0,0,1,1] B32) (evCode P Γ call n f m (cAt [1,1,0,1,0,0,1,0,0,1,0,1,0,1,0,0,1,0] B32) s H) := qS
@[simp] theorem n32_41 : evCode P Γ call n f m (cAt [1,1,0,1,0,0,1,0,0,1,0,1,0,1,0,0,1,0] B32) s H = blockNext 3 (evCode P Γ call n f m (cAt [1,1,0,1,0,0,1,0,0,1,0,1,0,1,0,0,1,0,0] B32) s H) := qB
@[simp] theorem n32_42 : evCode P Γ call n f m (cAt [1,1,0,1,0,0,1,0,0,1,0,1,0,1,0,0,1,0,0] B32) s H = seqNext P Γ call n f m (cAt [1,1,0,1,0,0,1,0,0,1,0,1,0,1,0,0,1,0,0,1] B32) (evCode P Γ call n f m (cAt [1,1,0,1,0,0,1,0,0,1,0,1,0,1,0,0,1,0,0,0] B32) s H) := qS
noncomputable def r32_43 : {l : List Oper // opsOf (cAt [1,1,0,1,0,0,1,0,0,1,0,1,0,1,0,0,1,0,0,0] B32) = l} := by
  apply Subtype.mk
  dsimp [B32, Try.f32]
@[simp] theorem n32_43 : evCode P Γ call n f m (cAt [1,1,0,1,0,0,1,0,0,1,0,1,0,1,0,0,1,0,0,0] B32) s H = regNext (drawR P Γ call r32_43.1 [([1,4,5,6,7,8], [36,39,40,41,42,43]), ([0,4,5,6,7,8], [35,39,40,41,42,43]), ([4,5,6,7,8], [39,40,41,42,43]), ([4,5,6,7,8], [39,40,41,42,43]), ([0,1,2,3,5,6], [35,36,37,38,40,41]), ([0,1,2,3,4], [35,36,37,38,39]), ([0,1,2,3,4], [35,36,37,38,39]), ([0,1,2,3], [35,36,37,38]), ([0,1,2,3], [35,36,37,38]), ([], [])] s H) := qD r32_43.2
attribute [simp] r32_43
@[simp] theorem n32_44 : evCode P Γ call n f m (cAt [1,1,0,1,0,0,1,0,0,1,0,1,0,1,0,0,1,0,0,1] B32) s H = condW P Γ call n f m (cAt [1,1,0,1,0,0,1,0,0,1,0,1,0,1,0,0,1,0,0,1,0] B32) (cAt [1,1,0,1,0,0,1,0,0,1,0,1,0,1,0,0,1,0,0,1,1] B32) s H (evOperand Γ s (.tmp 44)) := qC
@[simp] theorem n32_45 : evCode P Γ call n f m (cAt [1,1,0,1,0,0,1,0,0,1,0,1,0,1,0,0,1,0,0,1,0] B32) s H = seqNext P Γ call n f m (cAt [1,1,0,1,0,0,1,0,0,1,0,1,0,1,0,0,1,0,0,1,0,1] B32) (evCode P Γ call n f m (cAt [1,1,0,1,0,0,1,0,0,1,0,1,0,1,0,0,1,0,0,1,0,0] B32) s H) := qS
noncomputable def r32_46 : {l : List Oper // opsOf (cAt [1,1,0,1,0,0,1,0,0,1,0,1,0,1,0,0,1,0,0,1,0,0] B32) = l} := by
  apply Subtype.mk
  dsimp [B32, Try.f32]
@[simp] theorem n32_46 : evCode P Γ call n f m (cAt [1,1,0,1,0,0,1,0,0,1,0,1,0,1,0,0,1,0,0,1,0,0] B32) s H = regNext (evOpsGo P Γ call r32_46.1 r32_46.1 s H) := qR r32_46.2
attribute [simp] r32_46
noncomputable def r32_47 : {l : List Oper // opsOf (cAt [1,1,0,1,0,0,1,0,0,1,0,1,0,1,0,0,1,0,0,1,0,1] B32) = l} := by
  apply Subtype.mk
  dsimp [B32, Try.f32]
@[simp] theorem n32_47 : evCode P Γ call n f m (cAt [1,1,0,1,0,0,1,0,0,1,0,1,0,1,0,0,1,0,0,1,0,1] B32) s H = regNext (evOpsGo P Γ call r32_47.1 r32_47.1 s H) := qR r32_47.2
attribute [simp] r32_47
@[simp] theorem n32_48 : evCode P Γ call n f m (cAt [1,1,0,1,0,0,1,0,0,1,0,1,0,1,0,0,1,0,0,1,1] B32) s H = some (.normal, s, H) := qK
noncomputable def r32_49 : {l : List Oper // opsOf (cAt [1,1,0,1,0,0,1,0,0,1,0,1,0,1,0,0,1,1] B32) = l} := by
  apply Subtype.mk
  dsimp [B32, Try.f32]
@[simp] theorem n32_49 : evCode P Γ call n f m (cAt [1,1,0,1,0,0,1,0,0,1,0,1,0,1,0,0,1,1] B32) s H = regNext (evOpsGo P Γ call r32_49.1 r32_49.1 s H) := qR r32_49.2
attribute [simp] r32_49
@[simp] theorem n32_50 : evCode P Γ call n f m (cAt [1,1,0,1,0,0,1,0,0,1,0,1,1] B32) s H = seqNext P Γ call n f m (cAt [1,1,0,1,0,0,1,0,0,1,0,1,1,1] B32) (evCode P Γ call n f m (cAt [1,1,0,1,0,0,1,0,0,1,0,1,1,0] B32) s H) := qS
noncomputable def r32_51 : {l : List Oper // opsOf (cAt [1,1,0,1,0,0,1,0,0,1,0,1,1,0] B32) = l} := by
  apply Subtype.mk
  dsimp [B32, Try.f32]
@[simp] theorem n32_51 : evCode P Γ call n f m (cAt [1,1,0,1,0,0,1,0,0,1,0,1,1,0] B32) s H = regNext (evOpsGo P Γ call r32_51.1 r32_51.1 s H) := qR r32_51.2
attribute [simp] r32_51
@[simp] theorem n32_52 : evCode P Γ call n f m (cAt [1,1,0,1,0,0,1,0,0,1,0,1,1,1] B32) s H = seqNext P Γ call n f m (cAt [1,1,0,1,0,0,1,0,0,1,0,1,1,1,1] B32) (evCode P Γ call n f m (cAt [1,1,0,1,0,0,1,0,0,1,0,1,1,1,0] B32) s H) := qS
noncomputable def r32_53 : {l : List Oper // opsOf (cAt [1,1,0,1,0,0,1,0,0,1,0,1,1,1,0] B32) = l} := by
  apply Subtype.mk
  dsimp [B32, Try.f32]
@[simp] theorem n32_53 : evCode P Γ call n f m (cAt [1,1,0,1,0,0,1,0,0,1,0,1,1,1,0] B32) s H = regNext (evOpsGo P Γ call r32_53.1 r32_53.1 s H) := qR r32_53.2
attribute [simp] r32_53
@[simp] theorem n32_54 : evCode P Γ call n f m (cAt [1,1,0,1,0,0,1,0,0,1,0,1,1,1,1] B32) s H = some (.ret, s, H) := qT
@[simp] theorem n32_55 : evCode P Γ call n f m (cAt [1,1,0,1,0,0,1,0,0,1,1] B32) s H = some (.normal, s, H) := qK
noncomputable def r32_56 : {l : List Oper // opsOf (cAt [1,1,0,1,0,0,1,1] B32) = l} := by
  apply Subtype.mk
  dsimp [B32, Try.f32]
@[simp] theorem n32_56 : evCode P Γ call n f m (cAt [1,1,0,1,0,0,1,1] B32) s H = regNext (evOpsGo P Γ call r32_56.1 r32_56.1 s H) := qR r32_56.2
attribute [simp] r32_56
@[simp] theorem n32_57 : evCode P Γ call n f m (cAt [1,1,1] B32) s H = seqNext P Γ call n f m (cAt [1,1,1,1] B32) (evCode P Γ call n f m (cAt [1,1,1,0] B32) s H) := qS
noncomputable def r32_58 : {l : List Oper // opsOf (cAt [1,1,1,0] B32) = l} := by
  apply Subtype.mk
  dsimp [B32, Try.f32]
@[simp] theorem n32_58 : evCode P Γ call n f m (cAt [1,1,1,0] B32) s H = regNext (evOpsGo P Γ call r32_58.1 r32_58.1 s H) := qR r32_58.2
attribute [simp] r32_58
@[simp] theorem n32_59 : evCode P Γ call n f m (cAt [1,1,1,1] B32) s H = some (.ret, s, H) := qT
theorem b32 {k : Nat} (ho : ∀ args H, Γ.orc 32 args H = none) (args : List V) (H : Heap) (ha : args.length ≤ 61) : evF Try.prog Γ (k + 1) 32 args H = bodyEnd Try.prog [.tmp 2] H.length (evCode Try.prog Γ (evF Try.prog Γ k) k 32 H.length (cAt [] B32) (mkL 61 V.undef (enumV 0 args)) H) := body_at Try.func32 (by decide) rfl ho rfl rfl args H ha
noncomputable def B33 : Code := bodyOf Try.f33
@[simp] theorem n33_1 : evCode P Γ call n f m (cAt [] B33) s H = seqNext P Γ call n f m (cAt [1] B33) (evCode P Γ call n f m (cAt [0] B33) s H) := qS
noncomputable def r33_2 : {l : List Oper // opsOf (cAt [0] B33) = l} := by
  apply Subtype.mk
  dsimp [B33, Try.f33]
@[simp] theorem n33_2 : evCode P Γ call n f m (cAt [0] B33) s H = regNext (evOpsGo P Γ call r33_2.1 r33_2.1 s H) := qR r33_2.2
attribute [simp] r33_2
@[simp] theorem n33_3 : evCode P Γ call n f m (cAt [1] B33) s H = seqNext P Γ call n f m (cAt [1,1] B33) (evCode P Γ call n f m (cAt [1,0] B33) s H) := qS
noncomputable def r33_4 : {l : List Oper // opsOf (cAt [1,0] B33) = l} := by
  apply Subtype.mk
  dsimp [B33, Try.f33]
@[simp] theorem n33_4 : evCode P Γ call n f m (cAt [1,0] B33) s H = regNext (evOpsGo P Γ call r33_4.1 r33_4.1 s H) := qR r33_4.2
attribute [simp] r33_4
@[simp] theorem n33_5 : evCode P Γ call n f m (cAt [1,1] B33) s H = seqNext P Γ call n f m (cAt [1,1,1] B33) (evCode P Γ call n f m (cAt [1,1,0] B33) s H) := qS
noncomputable def r33_6 : {l : List Oper // opsOf (cAt [1,1,0] B33) = l} := by
  apply Subtype.mk
  dsimp [B33, Try.f33]
@[simp] theorem n33_6 : evCode P Γ call n f m (cAt [1,1,0] B33) s H = regNext (evOpsGo P Γ call r33_6.1 r33_6.1 s H) := qR r33_6.2
attribute [simp] r33_6
@[simp] theorem n33_7 : evCode P Γ call n f m (cAt [1,1,1] B33) s H = seqNext P Γ call n f m (cAt [1,1,1,1] B33) (evCode P Γ call n f m (cAt [1,1,1,0] B33) s H) := qS
@[simp] theorem n33_8 : evCode P Γ call n f m (cAt [1,1,1,0] B33) s H = seqNext P Γ call n f m (cAt [1,1,1,0,1] B33) (evCode P Γ call n f m (cAt [1,1,1,0,0] B33) s H) := qS
noncomputable def r33_9 : {l : List Oper // opsOf (cAt [1,1,1,0,0] B33) = l} := by
  apply Subtype.mk
  dsimp [B33, Try.f33]
@[simp] theorem n33_9 : evCode P Γ call n f m (cAt [1,1,1,0,0] B33) s H = regNext (evOpsGo P Γ call r33_9.1 r33_9.1 s H) := qR r33_9.2
attribute [simp] r33_9
@[simp] theorem n33_10 : evCode P Γ call n f m (cAt [1,1,1,0,1] B33) s H = condW P Γ call n f m (cAt [1,1,1,0,1,0] B33) (cAt [1,1,1,0,1,1] B33) s H (evOperand Γ s (.tmp 16)) := qC
@[simp] theorem n33_11 : evCode P Γ call n f m (cAt [1,1,1,0,1,0] B33) s H = seqNext P Γ call n f m (cAt [1,1,1,0,1,0,1] B33) (evCode P Γ call n f m (cAt [1,1,1,0,1,0,0] B33) s H) := qS
noncomputable def r33_12 : {l : List Oper // opsOf (cAt [1,1,1,0,1,0,0] B33) = l} := by
  apply Subtype.mk
  dsimp [B33, Try.f33]
@[simp] theorem n33_12 : evCode P Γ call n f m (cAt [1,1,1,0,1,0,0] B33) s H = regNext (evOpsGo P Γ call r33_12.1 r33_12.1 s H) := qR r33_12.2
attribute [simp] r33_12
@[simp] theorem n33_13 : evCode P Γ call n f m (cAt [1,1,1,0,1,0,1] B33) s H = some (.ret, s, H) := qT
@[simp] theorem n33_14 : evCode P Γ call n f m (cAt [1,1,1,0,1,1] B33) s H = some (.normal, s, H) := qK
@[simp] theorem n33_15 : evCode P Γ call n f m (cAt [1,1,1,1] B33) s H = seqNext P Γ call n f m (cAt [1,1,1,1,1] B33) (evCode P Γ call n f m (cAt [1,1,1,1,0] B33) s H) := qS
noncomputable def r33_16 : {l : List Oper // opsOf (cAt [1,1,1,1,0] B33) = l} := by
  apply Subtype.mk
  dsimp [B33, Try.f33]
@[simp] theorem n33_16 : evCode P Γ call n f m (cAt [1,1,1,1,0] B33) s H = regNext (evOpsGo P Γ call r33_16.1 r33_16.1 s H) := qR r33_16.2
attribute [simp] r33_16
@[simp] theorem n33_17 : evCode P Γ call n f m (cAt [1,1,1,1,1] B33) s H = seqNext P Γ call n f m (cAt [1,1,1,1,1,1] B33) (evCode P Γ call n f m (cAt [1,1,1,1,1,0] B33) s H) := qS
@[simp] theorem n33_18 : evCode P Γ call n f m (cAt [1,1,1,1,1,0] B33) s H = seqNext P Γ call n f m (cAt [1,1,1,1,1,0,1] B33) (evCode P Γ call n f m (cAt [1,1,1,1,1,0,0] B33) s H) := qS
noncomputable def r33_19 : {l : List Oper // opsOf (cAt [1,1,1,1,1,0,0] B33) = l} := by
  apply Subtype.mk
  dsimp [B33, Try.f33]
@[simp] theorem n33_19 : evCode P Γ call n f m (cAt [1,1,1,1,1,0,0] B33) s H = regNext (evOpsGo P Γ call r33_19.1 r33_19.1 s H) := qR r33_19.2
attribute [simp] r33_19
@[simp] theorem n33_20 : evCode P Γ call n f m (cAt [1,1,1,1,1,0,1] B33) s H = condW P Γ call n f m (cAt [1,1,1,1,1,0,1,0] B33) (cAt [1,1,1,1,1,0,1,1] B33) s H (evOperand Γ s (.tmp 22)) := qC
@[simp] theorem n33_21 : evCode P Γ call n f m (cAt [1,1,1,1,1,0,1,0] B33) s H = seqNext P Γ call n f m (cAt [1,1,1,1,1,0,1,0,1] B33) (evCode P Γ call n f m (cAt [1,1,1,1,1,0,1,0,0] B33) s H) := qS
noncomputable def r33_22 : {l : List Oper // opsOf (cAt [1,1,1,1,1,0,1,0,0] B33) = l} := by
  apply Subtype.mk
  dsimp [B33, Try.f33]
@[simp] theorem n33_22 : evCode P Γ call n f m (cAt [1,1,1,1,1,0,1,0,0] B33) s H = regNext (evOpsGo P Γ call r33_22.1 r33_22.1 s H) := qR r33_22.2
attribute [simp] r33_22
@[simp] theorem n33_23 : evCode P Γ call n f m (cAt [1,1,1,1,1,0,1,0,1] B33) s H = some (.ret, s, H) := qT
@[simp] theorem n33_24 : evCode P Γ call n f m (cAt [1,1,1,1,1,0,1,1] B33) s H = some (.normal, s, H) := qK
@[simp] theorem n33_25 : evCode P Γ call n f m (cAt [1,1,1,1,1,1] B33) s H = seqNext P Γ call n f m (cAt [1,1,1,1,1,1,1] B33) (evCode P Γ call n f m (cAt [1,1,1,1,1,1,0] B33) s H) := qS
@[simp] theorem n33_26 : evCode P Γ call n f m (cAt [1,1,1,1,1,1,0] B33) s H = seqNext P Γ call n f m (cAt [1,1,1,1,1,1,0,1] B33) (evCode P Γ call n f m (cAt [1,1,1,1,1,1,0,0] B33) s H) := qS
noncomputable def r33_27 : {l : List Oper // opsOf (cAt [1,1,1,1,1,1,0,0] B33) = l} := by
  apply Subtype.mk
  dsimp [B33, Try.f33]
@[simp] theorem n33_27 : evCode P Γ call n f m (cAt [1,1,1,1,1,1,0,0] B33) s H = regNext (evOpsGo P Γ call r33_27.1 r33_27.1 s H) := qR r33_27.2
attribute [simp] r33_27
@[simp] theorem n33_28 : evCode P Γ call n f m (cAt [1,1,1,1,1,1,0,1] B33) s H = condW P Γ call n f m (cAt [1,1,1,1,1,1,0,1,0] B33) (cAt [1,1,1,1,1,1,0,1,1] B33) s H (evOperand Γ s (.tmp 31)) := qC
@[simp] theorem n33_29 : evCode P Γ call n f m (cAt [1,1,1,1,1,1,0,1,0] B33) s H = seqNext P Γ call n f m (cAt [1,1,1,1,1,1,0,1,0,1] B33) (evCode P Γ call n f m (cAt [1,1,1,1,1,1,0,1,0,0] B33) s H) := qS
noncomputable def r33_30 : {l : List Oper // opsOf (cAt [1,1,1,1,1,1,0,1,0,0] B33) = l} := by
  apply Subtype.mk
  dsimp [B33, Try.f33]
@[simp] theorem n33_30 : evCode P Γ call n f m (cAt [1,1,1,1,1,1,0,1,0,0] B33) s H = regNext (evOpsGo P Γ call r33_30.1 r33_30.1 s H) := qR r33_30.2
attribute [simp] r33_30
@[simp] theorem n33_31 : evCode P Γ call n f m (cAt [1,1,1,1,1,1,0,1,0,1] B33) s H = seqNext P Γ call n f m (cAt [1,1,1,1,1,1,0,1,0,1,1] B33) (evCode P Γ call n f m (cAt [1,1,1,1,1,1,0,1,0,1,0] B33) s H) := qS
noncomputable def r33_32 : {l : List Oper // opsOf (cAt [1,1,1,1,1,1,0,1,0,1,0] B33) = l} := by
  apply Subtype.mk
  dsimp [B33, Try.f33]
@[simp] theorem n33_32 : evCode P Γ call n f m (cAt [1,1,1,1,1,1,0,1,0,1,0] B33) s H = regNext (evOpsGo P Γ call r33_32.1 r33_32.1 s H) := qR r33_32.2
attribute [simp] r33_32
@[simp] theorem n33_33 : evCode P Γ call n f m (cAt [1,1,1,1,1,1,0,1,0,1,1] B33) s H = seqNext P Γ call n f m (cAt [1,1,1,1,1,1,0,1,0,1,1,1] B33) (evCode P Γ call n f m (cAt [1,1,1,1,1,1,0,1,0,1,1,0] B33) s H) := qS
noncomputable def r33_34 : {l : List Oper // opsOf (cAt [1,1,1,1,1,1,0,1,0,1,1,0] B33) = l} := by
  apply Subtype.mk
  dsimp [B33, Try.f33]
@[simp] theorem n33_34 : evCode P Γ call n f m (cAt [1,1,1,1,1,1,0,1,0,1,1,0] B33) s H = regNext (drawR P Γ call r33_34.1 [([1,2,3,5,6,7], [47,48,49,51,52,53]), ([0,2,5,6,7], [46,48,51,52,53]), ([0,1,5,6,7], [46,47,51,52,53]), ([0,5,6,7], [46,51,52,53]), ([5,6,7], [51,52,53]), ([0,1,2,3,4,6], [46,47,48,49,50,52]), ([0,1,2,3,4,5], [46,47,48,49,50,51]), ([0,1,2,3,4], [46,47,48,49,50]), ([], [])] s H) := qD r33_34.2
attribute [simp] r33_34
@[simp] theorem n33_35 : evCode P Γ call n f m (cAt [1,1,1,1,1,1,0,1,0,1,1,1] B33) s H = seqNext P Γ call n f m (cAt [1,1,1,1,1,1,0,1,0,1,1,1,1] B33) (evCode P Γ call n f m (cAt [1,1,1,1,1,1,0,1,0,1,1,1,0] B33) s H) := qS
noncomputable def r33_36 : {l : List Oper // opsOf (cAt [1,1,1,1,1,1,0,1,0,1,1,1,0] B33) = l} := by
  apply Subtype.mk
  dsimp [B33, Try.f33]
@[simp] theorem n33_36 : evCode P Γ call n f m (cAt [1,1,1,1,1,1,0,1,0,1,1,1,0] B33) s H = regNext (evOpsGo P Γ call r33_36.1 r33_36.1 s H) := qR r33_36.2
attribute [simp] r33_36
@[simp] theorem n33_37 : evCode P Γ call n f m (cAt [1,1,1,1,1,1,0,1,0,1,1,1,1] B33) s H = some (.ret, s, H) := qT
@[simp] theorem n33_38 : evCode P Γ call n f m (cAt [1,1,1,1,1,1,0,1,1] B33) s H = some (.normal, s, H) := qK
@[simp] theorem n33_39 : evCode P Γ call n f m (cAt [1,1,1,1,1,1,1] B33) s H = seqNext P Γ call n f m (cAt [1,1,1,1,1,1,1,1] B33) (evCode P Γ call n f m (cAt [1,1,1,1,1,1,1,0] B33) s H) := qS
noncomputable def r33_40 : {l : List Oper // opsOf (cAt [1,1,1,1,1,1,1,0] B33) = l} := by
  apply Subtype.mk
  dsimp [B33, Try.f33]
@[simp] theorem n33_40 : evCode P Γ call n f m (cAt [1,1,1,1,1,1,1,0] B33) s H = regNext (evOpsGo P Γ call r33_40.1 r33_40.1 s H) := qR r33_40.2
attribute [simp] r33_40
@[simp] theorem n33_41 : evCode P Γ call n f m (cAt [1,1,1,1,1,1,1,1] B33) s H = seqNext P Γ call n f m (cAt [1,1,1,1,1,1,1,1,1] B33) (evCode P Γ call n f m (cAt [1,1,1,1,1,1,1,1,0] B33) s H) := qS
@[simp] theorem n33_42 : evCode P Γ call n f m (cAt [1,1,1,1,1,1,1,1,0] B33) s H = seqNext P Γ call n f m (cAt [1,1,1,1,1,1,1,1,0,1] B33) (evCode P Γ call n f m (cAt [1,1,1,1,1,1,1,1,0,0] B33) s H) := qS
noncomputable def r33_43 : {l : List Oper // opsOf (cAt [1,1,1,1,1,1,1,1,0,0] B33) = l} := by
  apply Subtype.mk
  dsimp [B33, Try.f33]
@[simp] theorem n33_43 : evCode P Γ call n f m (cAt [1,1,1,1,1,1,1,1,0,0] B33) s H = regNext (evOpsGo P Γ call r33_43.1 r33_43.1 s H) := qR r33_43.2
attribute [simp] r33_43
@[simp] theorem n33_44 : evCode P Γ call n f m (cAt [1,1,1,1,1,1,1,1,0,1] B33) s H = condW P Γ call n f m (cAt [1,1,1,1,1,1,1,1,0,1,0] B33) (cAt [1,1,1,1,1,1,1,1,0,1,1] B33) s H (evOperand Γ s (.tmp 68)) := qC
@[simp] theorem n33_45 : evCode P Γ call n f m (cAt [1,1,1,1,1,1,1,1,0,1,0] B33) s H = seqNext P Γ call n f m (cAt [1,1,1,1,1,1,1,1,0,1,0,1] B33) (evCode P Γ call n f m (cAt [1,1,1,1,1,1,1,1,0,1,0,0] B33) s H) := qS
noncomputable def r33_46 : {l : List Oper // opsOf (cAt [1,1,1,1,1,1,1,1,0,1,0,0] B33) = l} := by
  apply Subtype.mk
  dsimp [B33, Try.f33]
@[simp] theorem n33_46 : evCode P Γ call n f m (cAt [1,1,1,1,1,1,1,1,0,1,0,0] B33) s H = regNext (drawR P Γ call r33_46.1 [([1,2,3,5,6,7], [70,71,72,74,75,76]), ([0,2,5,6,7], [69,71,74,75,76]), ([0,1,5,6,7], [69,70,74,75,76]), ([0,5,6,7], [69,74,75,76]), ([5,6,7], [74,75,76]), ([0,1,2,3,4,6], [69,70,71,72,73,75]), ([0,1,2,3,4,5], [69,70,71,72,73,74]), ([0,1,2,3,4], [69,70,71,72,73]), ([], [])] s H) := qD r33_46.2
attribute [simp] r33_46
@[simp] theorem n33_47 : evCode P Γ call n f m (cAt [1,1,1,1,1,1,1,1,0,1,0,1] B33) s H = seqNext P Γ call n f m (cAt [1,1,1,1,1,1,1,1,0,1,0,1,1] B33) (evCode P Γ call n f m (cAt [1,1,1,1,1,1,1,1,0,1,0,1,0] B33) s H) := qS
noncomputable def r33_48 : {l : List Oper // opsOf (cAt [1,1,1,1,1,1,1,1,0,1,0,1,0] B33) = l} := by
  apply Subtype.mk
  dsimp [B33, Try.f33]
@[simp] theorem n33_48 : evCode P Γ call n f m (cAt [1,1,1,1,1,1,1,1,0,1,0,1,0] B33) s H = regNext (evOpsGo P Γ call r33_48.1 r33_48.1 s H) := qR r33_48.2
attribute [simp] r33_48
@[simp] theorem n33_49 : evCode P Γ call n f m (cAt [1,1,1,1,1,1,1,1,0,1,0,1,1] B33) s H = seqNext P Γ call n f m (cAt [1,1,1,1,1,1,1,1,0,1,0,1,1,1] B33) (evCode P Γ call n f m (cAt [1,1,1,1,1,1,1,1,0,1,0,1,1,0] B33) s H) := qS
noncomputable def r33_50 : {l : List Oper // opsOf (cAt [1,1,1,1,1,1,1,1,0,1,0,1,1,0] B33) = l} := by
  apply Subtype.mk
  dsimp [B33, Try.f33]
@[simp] theorem n33_50 : evCode P Γ call n f m (cAt [1,1,1,1,1,1,1,1,0,1,0,1,1,0] B33) s H = regNext (evOpsGo P Γ call r33_50.1 r33_50.1 s H) := qR r33_50.2
attribute [simp] r33_50
@[simp] theorem n33_51 : evCode P Γ call n f m (cAt [1,1,1,1,1,1,1,1,0,1,0,1,1,1] B33) s H = some (.ret, s, H) := qT
@[simp] theorem n33_52 : evCode P Γ call n f m (cAt [1,1,1,1,1,1,1,1,0,1,1] B33) s H = some (.normal, s, H) := qK
@[simp] theorem n33_53 : evCode P Γ call n f m (cAt [1,1,1,1,1,1,1,1,1] B33) s H = seqNext P Γ call n f m (cAt [1,1,1,1,1,1,1,1,1,1] B33) (evCode P Γ call n f m (cAt [1,1,1,1,1,1,1,1,1,0] B33) s H) := qS
noncomputable def r33_54 : {l : List Oper // opsOf (cAt [1,1,1,1,1,1,1,1,1,0] B33) = l} := by
  apply Subtype.mk
  dsimp [B33, Try.f33]
@[simp] theorem n33_54 : evCode P Γ call n f m (cAt [1,1,1,1,1,1,1,1,1,0] B33) s H = regNext (evOpsGo P Γ call r33_54.1 r33_54.1 s H) := qR r33_54.2
attribute [simp] r33_54
@[simp] theorem n33_55 : evCode P Γ call n f m (cAt [1,1,1,1,1,1,1,1,1,1] B33) s H = seqNext P Γ call n f m (cAt [1,1,1,1,1,1,1,1,1,1,1] B33) (evCode P Γ call n f m (cAt [1,1,1,1,1,1,1,1,1,1,0] B33) s H) := qS
noncomputable def r33_56 : {l : List Oper // opsOf (cAt [1,1,1,1,1,1,1,1,1,1,0] B33) = l} := by
  apply Subtype.mk
  dsimp [B33, Try.f33]
@[simp] theorem n33_56 : evCode P Γ call n f m (cAt [1,1,1,1,1,1,1,1,1,1,0] B33) s H = regNext (evOpsGo P Γ call r33_56.1 r33_56.1 s H) := qR r33_56.2
attribute [simp] r33_56
@[simp] theorem n33_57 : evCode P Γ call n f m (cAt [1,1,1,1,1,1,1,1,1,1,1] B33) s H = seqNext P Γ call n f m (cAt [1,1,1,1,1,1,1,1,1,1,1,1] B33) (evCode P Γ call n f m (cAt [1,1,1,1,1,1,1,1,1,1,1,0] B33) s H) := qS
noncomputable def r33_58 : {l : List Oper // opsOf (cAt [1,1,1,1,1,1,1,1,1,1,1,0] B33) = l} := by
  apply Subtype.mk
  dsimp [B33, Try.f33]
@[simp] theorem n33_58 : evCode P Γ call n f m (cAt [1,1,1,1,1,1,1,1,1,1,1,0] B33) s H = regNext (evOpsGo P Γ call r33_58.1 r33_58.1 s H) := qR r33_58.2
attribute [simp] r33_58
@[simp] theorem n33_59 : evCode P Γ call n f m (cAt [1,1,1,1,1,1,1,1,1,1,1,1] B33) s H = some (.ret, s, H) := qT
theorem b33 {k : Nat} (ho : ∀ args H, Γ.orc 33 args H = none) (args : List V) (H : Heap) (ha : args.length ≤ 95) : evF Try.prog Γ (k + 1) 33 args H = bodyEnd Try.prog [.tmp 6] H.length (evCode Try.prog Γ (evF Try.prog Γ k) k 33 H.length (cAt [] B33) (mkL 95 V.undef (enumV 0 args)) H) := body_at Try.func33 (by decide) rfl ho rfl rfl args H ha
noncomputable def B34 : Code := bodyOf Try.f34
@[simp] theorem n34_1 : evCode P Γ call n f m (cAt [] B34) s H = seqNext P Γ call n f m (cAt [1] B34) (evCode P Γ call n f m (cAt [0] B34) s H) := qS
noncomputable def r34_2 : {l : List Oper // opsOf (cAt [0] B34) = l} := by
  apply Subtype.mk
  dsimp [B34, Try.f34]
@[simp] theorem n34_2 : evCode P Γ call n f m (cAt [0] B34) s H = regNext (evOpsGo P Γ call r34_2.1 r34_2.1 s H) := qR r34_2.2
attribute [simp] r34_2
@[simp] theorem n34_3 : evCode P Γ call n f m (cAt [1] B34) s H = seqNext P Γ call n f m (cAt [1,1] B34) (evCode P Γ call n f m (cAt [1,0] B34) s H) := qS
@[simp] theorem n34_4 : evCode P Γ call n f m (cAt [1,0] B34) s H = seqNext P Γ call n f m (cAt [1,0,1] B34) (evCode P Γ call n f m (cAt [1,0,0] B34) s H) := qS
noncomputable def r34_5 : {l : List Oper // opsOf (cAt [1,0,0] B34) = l} := by
  apply Subtype.mk
  dsimp [B34, Try.f34]
@[simp] theorem n34_5 : evCode P Γ call n f m (cAt [1,0,0] B34) s H = regNext (evOpsGo P Γ call r34_5.1 r34_5.1 s H) := qR r34_5.2
attribute [simp] r34_5
@[simp] theorem n34_6 : evCode P Γ call n f m (cAt [1,0,1] B34) s H = condW P Γ call n f m (cAt [1,0,1,0] B34) (cAt [1,0,1,1] B34) s H (evOperand Γ s (.tmp 21)) := qC
@[simp] theorem n34_7 : evCode P Γ call n f m (cAt [1,0,1,0] B34) s H = seqNext P Γ call n f m (cAt [1,0,1,0,1] B34) (evCode P Γ call n f m (cAt [1,0,1,0,0] B34) s H) := qS
noncomputable def r34_8 : {l : List Oper // opsOf (cAt [1,0,1,0,0] B34) = l} := by
  apply Subtype.mk
  dsimp [B34, Try.f34]
@[simp] theorem n34_8 : evCode P Γ call n f m (cAt [1,0,1,0,0] B34) s H = regNext (evOpsGo P Γ call r34_8.1 r34_8.1 s H) := qR r34_8.2
attribute [simp] r34_8
@[simp] theorem n34_9 : evCode P Γ call n f m (cAt [1,0,1,0,1] B34) s H = some (.ret, s, H) := qT
@[simp] theorem n34_10 : evCode P Γ call n f m (cAt [1,0,1,1] B34) s H = some (.normal, s, H) := qK
@[simp] theorem n34_11 : evCode P Γ call n f m (cAt [1,1] B34) s H = seqNext P Γ call n f m (cAt [1,1,1] B34) (evCode P Γ call n f m (cAt [1,1,0] B34) s H) := qS
@[simp] theorem n34_12 : evCode P Γ call n f m (cAt [1,1,0] B34) s H = seqNext P Γ call n f m (cAt [1,1,0,1] B34) (evCode P Γ call n f m (cAt [1,1,0,0] B34) s H) := qS
noncomputable def r34_13 : {l : List Oper // opsOf (cAt [1,1,0,0] B34) = l} := by
  apply Subtype.mk
  dsimp [B34, Try.f34]
@[simp] theorem n34_13 : evCode P Γ call n f m (cAt [1,1,0,0] B34) s H = regNext (evOpsGo P Γ call r34_13.1 r34_13.1 s H) := qR r34_13.2
attribute [simp] r34_13
@[simp] theorem n34_14 : evCode P Γ call n f m (cAt [1,1,0,1] B34) s H = blockNext 0 (evCode P Γ call n f m (cAt [1,1,0,1,0] B34) s H) := qB
@[simp] theorem n34_15 : evCode P Γ call n f m (cAt [1,1,0,1,0] B34) s H = evLoopC P Γ call n f m (cAt [1,1,0,1,0,0] B34) n s H := qL
noncomputable abbrev L34_4 : Code := cAt [1,1,0,1,0,0] B34
@[simp] theorem n34_15f : firstRegion (cAt [1,1,0,1,0,0] B34) = 4 := by kernel_rfl
@[simp] theorem n34_16 : evCode P Γ call n f m (cAt [1,1,0,1,0,0] B34) s H = seqNext P Γ call n f m (cAt [1,1,0,1,0,0,1] B34) (evCode P Γ call n f m (cAt [1,1,0,1,0,0,0] B34) s H) := qS
noncomputable def r34_17 : {l : List Oper // opsOf (cAt [1,1,0,1,0,0,0] B34) = l} := by
  apply Subtype.mk
  dsimp [B34, Try.f34]
@[simp] theorem n34_17 : evCode P Γ call n f m (cAt [1,1,0,1,0,0,0] B34) s H = regNext (evOpsGo P Γ call r34_17.1 r34_17.1 s H) := qR r34_17.2
attribute [simp] r34_17
@[simp] theorem n34_18 : evCode P Γ call n f m (cAt [1,1,0,1,0,0,1] B34) s H = seqNext P Γ call n f m (cAt [1,1,0,1,0,0,1,1] B34) (evCode P Γ call n f m (cAt [1,1,0,1,0,0,1,0] B34) s H) := qS
@[simp] theorem n34_19 : evCode P Γ call n f m (cAt [1,1,0,1,0,0,1,0] B34) s H = condW P Γ call n f m (cAt [1,1,0,1,0,0,1,0,0] B34) (cAt [1,1,0,1,0,0,1,0,1] B34) s H (evOperand Γ s (.tmp 25)) := qC
@[simp] theorem n34_20 : evCode P Γ call n f m (cAt [1,1,0,1,0,0,1,0,0] B34) s H = some (.normal, s, H) := qK
@[simp] theorem n34_21 : evCode P Γ call n f m (cAt [1,1,0,1,0,0,1,0,1] B34) s H = some (.exit 0, s, H) := qE
@[simp] theorem n34_22 : evCode P Γ call n f m (cAt [1,1,0,1,0,0,1,1] B34) s H = seqNext P Γ call n f m (cAt [1,1,0,1,0,0,1,1,1] B34) (evCode P Γ call n f m (cAt [1,1,0,1,0,0,1,1,0] B34) s H) := qS
@[simp] theorem n34_23 : evCode P Γ call n f m (cAt [1,1,0,1,0,0,1,1,0] B34) s H = blockNext 1 (evCode P Γ call n f m (cAt [1,1,0,1,0,0,1,1,0,0] B34) s H) := qB
@[simp] theorem n34_24 : evCode P Γ call n f m (cAt [1,1,0,1,0,0,1,1,0,0] B34) s H = seqNext P Γ call n f m (cAt [1,1,0,1,0,0,1,1,0,0,1] B34) (evCode P Γ call n f m (cAt [1,1,0,1,0,0,1,1,0,0,0] B34) s H) := qS
noncomputable def r34_25 : {l : List Oper // opsOf (cAt [1,1,0,1,0,0,1,1,0,0,0] B34) = l} := by
  apply Subtype.mk
  dsimp [B34, Try.f34]
@[simp] theorem n34_25 : evCode P Γ call n f m (cAt [1,1,0,1,0,0,1,1,0,0,0] B34) s H = regNext (evOpsGo P Γ call r34_25.1 r34_25.1 s H) := qR r34_25.2
attribute [simp] r34_25
@[simp] theorem n34_26 : evCode P Γ call n f m (cAt [1,1,0,1,0,0,1,1,0,0,1] B34) s H = seqNext P Γ call n f m (cAt [1,1,0,1,0,0,1,1,0,0,1,1] B34) (evCode P Γ call n f m (cAt [1,1,0,1,0,0,1,1,0,0,1,0] B34) s H) := qS
noncomputable def r34_27 : {l : List Oper // opsOf (cAt [1,1,0,1,0,0,1,1,0,0,1,0] B34) = l} := by
  apply Subtype.mk
  dsimp [B34, Try.f34]
@[simp] theorem n34_27 : evCode P Γ call n f m (cAt [1,1,0,1,0,0,1,1,0,0,1,0] B34) s H = regNext (evOpsGo P Γ call r34_27.1 r34_27.1 s H) := qR r34_27.2
attribute [simp] r34_27
@[simp] theorem n34_28 : evCode P Γ call n f m (cAt [1,1,0,1,0,0,1,1,0,0,1,1] B34) s H = seqNext P Γ call n f m (cAt [1,1,0,1,0,0,1,1,0,0,1,1,1] B34) (evCode P Γ call n f m (cAt [1,1,0,1,0,0,1,1,0,0,1,1,0] B34) s H) := qS
noncomputable def r34_29 : {l : List Oper // opsOf (cAt [1,1,0,1,0,0,1,1,0,0,1,1,0] B34) = l} := by
  apply Subtype.mk
  dsimp [B34, Try.f34]
@[simp] theorem n34_29 : evCode P Γ call n f m (cAt [1,1,0,1,0,0,1,1,0,0,1,1,0] B34) s H = regNext (evOpsGo P Γ call r34_29.1 r34_29.1 s H) := qR r34_29.2
attribute [simp] r34_29
@[simp] theorem n34_30 : evCode P Γ call n f m (cAt [1,1,0,1,0,0,1,1,0,0,1,1,1] B34) s H = condW P Γ call n f m (cAt [1,1,0,1,0,0,1,1,0,0,1,1,1,0] B34) (cAt [1,1,0,1,0,0,1,1,0,0,1,1,1,1] B34) s H (evOperand Γ s (.tmp 47)) := qC
@[simp] theorem n34_31 : evCode P Γ call n f m (cAt [1,1,0,1,0,0,1,1,0,0,1,1,1,0] B34) s H = seqNext P Γ call n f m (cAt [1,1,0,1,0,0,1,1,0,0,1,1,1,0,1] B34) (evCode P Γ call n f m (cAt [1,1,0,1,0,0,1,1,0,0,1,1,1,0,0] B34) s H) := qS
noncomputable def r34_32 : {l : List Oper // opsOf (cAt [1,1,0,1,0,0,1,1,0,0,1,1,1,0,0] B34) = l} := by
  apply Subtype.mk
  dsimp [B34, Try.f34]
@[simp] theorem n34_32 : evCode P Γ call n f m (cAt [1,1,0,1,0,0,1,1,0,0,1,1,1,0,0] B34) s H = regNext (evOpsGo P Γ call r34_32.1 r34_32.1 s H) := qR r34_32.2
attribute [simp] r34_32
@[simp] theorem n34_33 : evCode P Γ call n f m (cAt [1,1,0,1,0,0,1,1,0,0,1,1,1,0,1] B34) s H = some (.ret, s, H) := qT
@[simp] theorem n34_34 : evCode P Γ call n f m (cAt [1,1,0,1,0,0,1,1,0,0,1,1,1,1] B34) s H = some (.normal, s, H) := qK
noncomputable def r34_35 : {l : List Oper // opsOf (cAt [1,1,0,1,0,0,1,1,1] B34) = l} := by
  apply Subtype.mk
  dsimp [B34, Try.f34]
@[simp] theorem n34_35 : evCode P Γ call n f m (cAt [1,1,0,1,0,0,1,1,1] B34) s H = regNext (evOpsGo P Γ call r34_35.1 r34_35.1 s H) := qR r34_35.2
attribute [simp] r34_35
@[simp] theorem n34_36 : evCode P Γ call n f m (cAt [1,1,1] B34) s H = seqNext P Γ call n f m (cAt [1,1,1,1] B34) (evCode P Γ call n f m (cAt [1,1,1,0] B34) s H) := qS
noncomputable def r34_37 : {l : List Oper // opsOf (cAt [1,1,1,0] B34) = l} := by
  apply Subtype.mk
  dsimp [B34, Try.f34]
@[simp] theorem n34_37 : evCode P Γ call n f m (cAt [1,1,1,0] B34) s H = regNext (evOpsGo P Γ call r34_37.1 r34_37.1 s H) := qR r34_37.2
attribute [simp] r34_37
@[simp] theorem n34_38 : evCode P Γ call n f m (cAt [1,1,1,1] B34) s H = some (.ret, s, H) := qT
theorem b34 {k : Nat} (ho : ∀ args H, Γ.orc 34 args H = none) (args : List V) (H : Heap) (ha : args.length ≤ 49) : evF Try.prog Γ (k + 1) 34 args H = bodyEnd Try.prog [.tmp 2] H.length (evCode Try.prog Γ (evF Try.prog Γ k) k 34 H.length (cAt [] B34) (mkL 49 V.undef (enumV 0 args)) H) := body_at Try.func34 (by decide) rfl ho rfl rfl args H ha
noncomputable def B35 : Code := bodyOf Try.f35
@[simp] theorem n35_1 : evCode P Γ call n f m (cAt [] B35) s H = seqNext P Γ call n f m (cAt [1] B35) (evCode P Γ call n f m (cAt [0] B35) s H) := qS
noncomputable def r35_2 : {l : List Oper // opsOf (cAt [0] B35) = l} := by
  apply Subtype.mk
  dsimp [B35, Try.f35]
@[simp] theorem n35_2 : evCode P Γ call n f m (cAt [0] B35) s H = regNext (evOpsGo P Γ call r35_2.1 r35_2.1 s H) := qR r35_2.2
attribute [simp] r35_2
@[simp] theorem n35_3 : evCode P Γ call n f m (cAt [1] B35) s H = seqNext P Γ call n f m (cAt [1,1] B35) (evCode P Γ call n f m (cAt [1,0] B35) s H) := qS
@[simp] theorem n35_4 : evCode P Γ call n f m (cAt [1,0] B35) s H = seqNext P Γ call n f m (cAt [1,0,1] B35) (evCode P Γ call n f m (cAt [1,0,0] B35) s H) := qS
noncomputable def r35_5 : {l : List Oper // opsOf (cAt [1,0,0] B35) = l} := by
  apply Subtype.mk
  dsimp [B35, Try.f35]
@[simp] theorem n35_5 : evCode P Γ call n f m (cAt [1,0,0] B35) s H = regNext (evOpsGo P Γ call r35_5.1 r35_5.1 s H) := qR r35_5.2
attribute [simp] r35_5
@[simp] theorem n35_6 : evCode P Γ call n f m (cAt [1,0,1] B35) s H = blockNext 0 (evCode P Γ call n f m (cAt [1,0,1,0] B35) s H) := qB
@[simp] theorem n35_7 : evCode P Γ call n f m (cAt [1,0,1,0] B35) s H = evLoopC P Γ call n f m (cAt [1,0,1,0,0] B35) n s H := qL
noncomputable abbrev L35_2 : Code := cAt [1,0,1,0,0] B35
@[simp] theorem n35_7f : firstRegion (cAt [1,0,1,0,0] B35) = 2 := by kernel_rfl
@[simp] theorem n35_8 : evCode P Γ call n f m (cAt [1,0,1,0,0] B35) s H = seqNext P Γ call n f m (cAt [1,0,1,0,0,1] B35) (evCode P Γ call n f m (cAt [1,0,1,0,0,0] B35) s H) := qS
noncomputable def r35_9 : {l : List Oper // opsOf (cAt [1,0,1,0,0,0] B35) = l} := by
  apply Subtype.mk
  dsimp [B35, Try.f35]
@[simp] theorem n35_9 : evCode P Γ call n f m (cAt [1,0,1,0,0,0] B35) s H = regNext (evOpsGo P Γ call r35_9.1 r35_9.1 s H) := qR r35_9.2
attribute [simp] r35_9
@[simp] theorem n35_10 : evCode P Γ call n f m (cAt [1,0,1,0,0,1] B35) s H = seqNext P Γ call n f m (cAt [1,0,1,0,0,1,1] B35) (evCode P Γ call n f m (cAt [1,0,1,0,0,1,0] B35) s H) := qS
@[simp] theorem n35_11 : evCode P Γ call n f m (cAt [1,0,1,0,0,1,0] B35) s H = condW P Γ call n f m (cAt [1,0,1,0,0,1,0,0] B35) (cAt [1,0,1,0,0,1,0,1] B35) s H (evOperand Γ s (.tmp 9)) := qC
@[simp] theorem n35_12 : evCode P Γ call n f m (cAt [1,0,1,0,0,1,0,0] B35) s H = some (.normal, s, H) := qK
@[simp] theorem n35_13 : evCode P Γ call n f m (cAt [1,0,1,0,0,1,0,1] B35) s H = some (.exit 0, s, H) := qE
@[simp] theorem n35_14 : evCode P Γ call n f m (cAt [1,0,1,0,0,1,1] B35) s H = seqNext P Γ call n f m (cAt [1,0,1,0,0,1,1,1] B35) (evCode P Γ call n f m (cAt [1,0,1,0,0,1,1,0] B35) s H) := qS
@[simp] theorem n35_15 : evCode P Γ call n f m (cAt [1,0,1,0,0,1,1,0] B35) s H = blockNext 1 (evCode P Γ call n f m (cAt [1,0,1,0,0,1,1,0,0] B35) s H) := qB
@[simp] theorem n35_16 : evCode P Γ call n f m (cAt [1,0,1,0,0,1,1,0,0] B35) s H = seqNext P Γ call n f m (cAt [1,0,1,0,0,1,1,0,0,1] B35) (evCode P Γ call n f m (cAt [1,0,1,0,0,1,1,0,0,0] B35) s H) := qS
noncomputable def r35_17 : {l : List Oper // opsOf (cAt [1,0,1,0,0,1,1,0,0,0] B35) = l} := by
  apply Subtype.mk
  dsimp [B35, Try.f35]
@[simp] theorem n35_17 : evCode P Γ call n f m (cAt [1,0,1,0,0,1,1,0,0,0] B35) s H = regNext (evOpsGo P Γ call r35_17.1 r35_17.1 s H) := qR r35_17.2
attribute [simp] r35_17
@[simp] theorem n35_18 : evCode P Γ call n f m (cAt [1,0,1,0,0,1,1,0,0,1] B35) s H = seqNext P Γ call n f m (cAt [1,0,1,0,0,1,1,0,0,1,1] B35) (evCode P Γ call n f m (cAt [1,0,1,0,0,1,1,0,0,1,0] B35) s H) := qS
@[simp] theorem n35_19 : evCode P Γ call n f m (cAt [1,0,1,0,0,1,1,0,0,1,0] B35) s H = seqNext P Γ call n f m (cAt [1,0,1,0,0,1,1,0,0,1,0,1] B35) (evCode P Γ call n f m (cAt [1,0,1,0,0,1,1,0,0,1,0,0] B35) s H) := qS
noncomputable def r35_20 : {l : List Oper // opsOf (cAt [1,0,1,0,0,1,1,0,0,1,0,0] B35) = l} := by
  apply Subtype.mk
  dsimp [B35, Try.f35]
@[simp] theorem n35_20 : evCode P Γ call n f m (cAt [1,0,1,0,0,1,1,0,0,1,0,0] B35) s H = regNext (evOpsGo P Γ call r35_20.1 r35_20.1 s H) := qR r35_20.2
attribute [simp] r35_20
@[simp] theorem n35_21 : evCode P Γ call n f m (cAt [1,0,1,0,0,1,1,0,0,1,0,1] B35) s H = condW P Γ call n f m (cAt [1,0,1,0,0,1,1,0,0,1,0,1,0] B35) (cAt [1,0,1,0,0,1,1,0,0,1,0,1,1] B35) s H (evOperand Γ s (.tmp 34)) := qC
@[simp] theorem n35_22 : evCode P Γ call n f m (cAt [1,0,1,0,0,1,1,0,0,1,0,1,0] B35) s H = some (.exit 1, s, H) := qE
@[simp] theorem n35_23 : evCode P Γ call n f m (cAt [1,0,1,0,0,1,1,0,0,1,0,1,1] B35) s H = some (.normal, s, H) := qK
@[simp] theorem n35_24 : evCode P Γ call n f m (cAt [1,0,1,0,0,1,1,0,0,1,1] B35) s H = seqNext P Γ call n f m (cAt [1,0,1,0,0,1,1,0,0,1,1,1] B35) (evCode P Γ call n f m (cAt [1,0,1,0,0,1,1,0,0,1,1,0] B35) s H) := qS
noncomputable def r35_25 : {l : List Oper // opsOf (cAt [1,0,1,0,0,1,1,0,0,1,1,0] B35) = l} := by
  apply Subtype.mk
  dsimp [B35, Try.f35]
@[simp] theorem n35_25 : evCode P Γ call n f m (cAt [1,0,1,0,0,1,1,0,0,1,1,0] B35) s H = regNext (evOpsGo P Γ call r35_25.1 r35_25.1 s H) := qR r35_25.2
attribute [simp] r35_25
@[simp] theorem n35_26 : evCode P Γ call n f m (cAt [1,0,1,0,0,1,1,0,0,1,1,1] B35) s H = some (.ret, s, H) := qT
noncomputable def r35_27 : {l : List Oper // opsOf (cAt [1,0,1,0,0,1,1,1] B35) = l} := by
  apply Subtype.mk
  dsimp [B35, Try.f35]
@[simp] theorem n35_27 : evCode P Γ call n f m (cAt [1,0,1,0,0,1,1,1] B35) s H = regNext (evOpsGo P Γ call r35_27.1 r35_27.1 s H) := qR r35_27.2
attribute [simp] r35_27
@[simp] theorem n35_28 : evCode P Γ call n f m (cAt [1,1] B35) s H = seqNext P Γ call n f m (cAt [1,1,1] B35) (evCode P Γ call n f m (cAt [1,1,0] B35) s H) := qS
noncomputable def r35_29 : {l : List Oper // opsOf (cAt [1,1,0] B35) = l} := by
  apply Subtype.mk
  dsimp [B35, Try.f35]
@[simp] theorem n35_29 : evCode P Γ call n f m (cAt [1,1,0] B35) s H = regNext (evOpsGo P Γ call r35_29.1 r35_29.1 s H) := qR r35_29.2
attribute [simp] r35_29
@[simp] theorem n35_30 : evCode P Γ call n f m (cAt [1,1,1] B35) s H = some (.ret, s, H) := qT
theorem b35 {k : Nat} (ho : ∀ args H, Γ.orc 35 args H = none) (args : List V) (H : Heap) (ha : args.length ≤ 44) : evF Try.prog Γ (k + 1) 35 args H = bodyEnd Try.prog [.tmp 2] H.length (evCode Try.prog Γ (evF Try.prog Γ k) k 35 H.length (cAt [] B35) (mkL 44 V.undef (enumV 0 args)) H) := body_at Try.func35 (by decide) rfl ho rfl rfl args H ha
noncomputable def B55 : Code := bodyOf Try.f55
@[simp] theorem n55_1 : evCode P Γ call n f m (cAt [] B55) s H = seqNext P Γ call n f m (cAt [1] B55) (evCode P Γ call n f m (cAt [0] B55) s H) := qS
noncomputable def r55_2 : {l : List Oper // opsOf (cAt [0] B55) = l} := by
  apply Subtype.mk
  dsimp [B55, Try.f55]
@[simp] theorem n55_2 : evCode P Γ call n f m (cAt [0] B55) s H = regNext (evOpsGo P Γ call r55_2.1 r55_2.1 s H) := qR r55_2.2
attribute [simp] r55_2
@[simp] theorem n55_3 : evCode P Γ call n f m (cAt [1] B55) s H = seqNext P Γ call n f m (cAt [1,1] B55) (evCode P Γ call n f m (cAt [1,0] B55) s H) := qS
noncomputable def r55_4 : {l : List Oper // opsOf (cAt [1,0] B55) = l} := by
  apply Subtype.mk
  dsimp [B55, Try.f55]
@[simp] theorem n55_4 : evCode P Γ call n f m (cAt [1,0] B55) s H = regNext (evOpsGo P Γ call r55_4.1 r55_4.1 s H) := qR r55_4.2
attribute [simp] r55_4
@[simp] theorem n55_5 : evCode P Γ call n f m (cAt [1,1] B55) s H = some (.ret, s, H) := qT
theorem b55 {k : Nat} (ho : ∀ args H, Γ.orc 55 args H = none) (args : List V) (H : Heap) (ha : args.length ≤ 17) : evF Try.prog Γ (k + 1) 55 args H = bodyEnd Try.prog [.tmp 4] H.length (evCode Try.prog Γ (evF Try.prog Γ k) k 55 H.length (cAt [] B55) (mkL 17 V.undef (enumV 0 args)) H) := body_at Try.func55 (by decide) rfl ho rfl rfl args H ha
noncomputable def B78 : Code := bodyOf Try.f78
@[simp] theorem n78_1 : evCode P Γ call n f m (cAt [] B78) s H = seqNext P Γ call n f m (cAt [1] B78) (evCode P Γ call n f m (cAt [0] B78) s H) := qS
noncomputable def r78_2 : {l : List Oper // opsOf (cAt [0] B78) = l} := by
  apply Subtype.mk
  dsimp [B78, Try.f78]
@[simp] theorem n78_2 : evCode P Γ call n f m (cAt [0] B78) s H = regNext (evOpsGo P Γ call r78_2.1 r78_2.1 s H) := qR r78_2.2
attribute [simp] r78_2
@[simp] theorem n78_3 : evCode P Γ call n f m (cAt [1] B78) s H = seqNext P Γ call n f m (cAt [1,1] B78) (evCode P Γ call n f m (cAt [1,0] B78) s H) := qS
noncomputable def r78_4 : {l : List Oper // opsOf (cAt [1,0] B78) = l} := by
  apply Subtype.mk
  dsimp [B78, Try.f78]
@[simp] theorem n78_4 : evCode P Γ call n f m (cAt [1,0] B78) s H = regNext (evOpsGo P Γ call r78_4.1 r78_4.1 s H) := qR r78_4.2
attribute [simp] r78_4
@[simp] theorem n78_5 : evCode P Γ call n f m (cAt [1,1] B78) s H = some (.ret, s, H) := qT
theorem b78 {k : Nat} (ho : ∀ args H, Γ.orc 78 args H = none) (args : List V) (H : Heap) (ha : args.length ≤ 6) : evF Try.prog Γ (k + 1) 78 args H = bodyEnd Try.prog [.tmp 2] H.length (evCode Try.prog Γ (evF Try.prog Γ k) k 78 H.length (cAt [] B78) (mkL 6 V.undef (enumV 0 args)) H) := body_at Try.func78 (by decide) rfl ho rfl rfl args H ha
end
end Go.Ev.Try
