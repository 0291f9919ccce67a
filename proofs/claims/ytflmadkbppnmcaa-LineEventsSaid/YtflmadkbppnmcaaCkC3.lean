/-
  CODE BY NAMES, printed by wip/tools/codes.py (own work).
-/
import Derived.Test.YtflmadkbppnmcaaCkG
set_option maxRecDepth 100000
set_option linter.unusedVariables false
namespace Go.Ev.Try
open Go Go.Ev Go.Proofs
section
variable {P : Program} {Γ : Env} {call : CallF} {n f m : Nat} (s : List V) (H : Heap)
attribute [local simp] opsOf cAt kids bodyOf

noncomputable def B38 : Code := bodyOf Try.f38
@[simp] theorem n38_1 : evCode P Γ call n f m (cAt [] B38) s H = seqNext P Γ call n f m (cAt [1] B38) (evCode P Γ call n f m (cAt [0] B38) s H) := qS
noncomputable def r38_2 : {l : List Oper // opsOf (cAt [0] B38) = l} := by
  apply Subtype.mk
  dsimp [B38, Try.f38]
@[simp] theorem n38_2 : evCode P Γ call n f m (cAt [0] B38) s H = regNext (evOpsGo P Γ call r38_2.1 r38_2.1 s H) := qR r38_2.2
attribute [simp] r38_2
@[simp] theorem n38_3 : evCode P Γ call n f m (cAt [1] B38) s H = seqNext P Γ call n f m (cAt [1,1] B38) (evCode P Γ call n f m (cAt [1,0] B38) s H) := qS
noncomputable def r38_4 : {l : List Oper // opsOf (cAt [1,0] B38) = l} := by
  apply Subtype.mk
  dsimp [B38, Try.f38]
@[simp] theorem n38_4 : evCode P Γ call n f m (cAt [1,0] B38) s H = regNext (evOpsGo P Γ call r38_4.1 r38_4.1 s H) := qR r38_4.2
attribute [simp] r38_4
@[simp] theorem n38_5 : evCode P Γ call n f m (cAt [1,1] B38) s H = seqNext P Γ call n f m (cAt [1,1,1] B38) (evCode P Γ call n f m (cAt [1,1,0] B38) s H) := qS
noncomputable def r38_6 : {l : List Oper // opsOf (cAt [1,1,0] B38) = l} := by
  apply Subtype.mk
  dsimp [B38, Try.f38]
@[simp] theorem n38_6 : evCode P Γ call n f m (cAt [1,1,0] B38) s H = regNext (evOpsGo P Γ call r38_6.1 r38_6.1 s H) := qR r38_6.2
attribute [simp] r38_6
@[simp] theorem n38_7 : evCode P Γ call n f m (cAt [1,1,1] B38) s H = seqNext P Γ call n f m (cAt [1,1,1,1] B38) (evCode P Γ call n f m (cAt [1,1,1,0] B38) s H) := qS
noncomputable def r38_8 : {l : List Oper // opsOf (cAt [1,1,1,0] B38) = l} := by
  apply Subtype.mk
  dsimp [B38, Try.f38]
@[simp] theorem n38_8 : evCode P Γ call n f m (cAt [1,1,1,0] B38) s H = regNext (evOpsGo P Γ call r38_8.1 r38_8.1 s H) := qR r38_8.2
attribute [simp] r38_8
@[simp] theorem n38_9 : evCode P Γ call n f m (cAt [1,1,1,1] B38) s H = seqNext P Γ call n f m (cAt [1,1,1,1,1] B38) (evCode P Γ call n f m (cAt [1,1,1,1,0] B38) s H) := qS
@[simp] theorem n38_10 : evCode P Γ call n f m (cAt [1,1,1,1,0] B38) s H = seqNext P Γ call n f m (cAt [1,1,1,1,0,1] B38) (evCode P Γ call n f m (cAt [1,1,1,1,0,0] B38) s H) := qS
noncomputable def r38_11 : {l : List Oper // opsOf (cAt [1,1,1,1,0,0] B38) = l} := by
  apply Subtype.mk
  dsimp [B38, Try.f38]
@[simp] theorem n38_11 : evCode P Γ call n f m (cAt [1,1,1,1,0,0] B38) s H = regNext (evOpsGo P Γ call r38_11.1 r38_11.1 s H) := qR r38_11.2
attribute [simp] r38_11
@[simp] theorem n38_12 : evCode P Γ call n f m (cAt [1,1,1,1,0,1] B38) s H = blockNext 0 (evCode P Γ call n f m (cAt [1,1,1,1,0,1,0] B38) s H) := qB
@[simp] theorem n38_13 : evCode P Γ call n f m (cAt [1,1,1,1,0,1,0] B38) s H = evLoopC P Γ call n f m (cAt [1,1,1,1,0,1,0,0] B38) n s H := qL
noncomputable abbrev L38_5 : Code := cAt [1,1,1,1,0,1,0,0] B38
@[simp] theorem n38_13f : firstRegion (cAt [1,1,1,1,0,1,0,0] B38) = 5 := by kernel_rfl
@[simp] theorem n38_14 : evCode P Γ call n f m (cAt [1,1,1,1,0,1,0,0] B38) s H = seqNext P Γ call n f m (cAt [1,1,1,1,0,1,0,0,1] B38) (evCode P Γ call n f m (cAt [1,1,1,1,0,1,0,0,0] B38) s H) := qS
noncomputable def r38_15 : {l : List Oper // opsOf (cAt [1,1,1,1,0,1,0,0,0] B38) = l} := by
  apply Subtype.mk
  dsimp [B38, Try.f38]
@[simp] theorem n38_15 : evCode P Γ call n f m (cAt [1,1,1,1,0,1,0,0,0] B38) s H = regNext (evOpsGo P Γ call r38_15.1 r38_15.1 s H) := qR r38_15.2
attribute [simp] r38_15
@[simp] theorem n38_16 : evCode P Γ call n f m (cAt [1,1,1,1,0,1,0,0,1] B38) s H = seqNext P Γ call n f m (cAt [1,1,1,1,0,1,0,0,1,1] B38) (evCode P Γ call n f m (cAt [1,1,1,1,0,1,0,0,1,0] B38) s H) := qS
@[simp] theorem n38_17 : evCode P Γ call n f m (cAt [1,1,1,1,0,1,0,0,1,0] B38) s H = condW P Γ call n f m (cAt [1,1,1,1,0,1,0,0,1,0,0] B38) (cAt [1,1,1,1,0,1,0,0,1,0,1] B38) s H (evOperand Γ s (.tmp 23)) := qC
@[simp] theorem n38_18 : evCode P Γ call n f m (cAt [1,1,1,1,0,1,0,0,1,0,0] B38) s H = some (.normal, s, H) := qK
@[simp] theorem n38_19 : evCode P Γ call n f m (cAt [1,1,1,1,0,1,0,0,1,0,1] B38) s H = some (.exit 0, s, H) := qE
@[simp] theorem n38_20 : evCode P Γ call n f m (cAt [1,1,1,1,0,1,0,0,1,1] B38) s H = seqNext P Γ call n f m (cAt [1,1,1,1,0,1,0,0,1,1,1] B38) (evCode P Γ call n f m (cAt [1,1,1,1,0,1,0,0,1,1,0] B38) s H) := qS
@[simp] theorem n38_21 : evCode P Γ call n f m (cAt [1,1,1,1,0,1,0,0,1,1,0] B38) s H = blockNext 1 (evCode P Γ call n f m (cAt [1,1,1,1,0,1,0,0,1,1,0,0] B38) s H) := qB
@[simp] theorem n38_22 : evCode P Γ call n f m (cAt [1,1,1,1,0,1,0,0,1,1,0,0] B38) s H = seqNext P Γ call n f m (cAt [1,1,1,1,0,1,0,0,1,1,0,0,1] B38) (evCode P Γ call n f m (cAt [1,1,1,1,0,1,0,0,1,1,0,0,0] B38) s H) := qS
noncomputable def r38_23 : {l : List Oper // opsOf (cAt [1,1,1,1,0,1,0,0,1,1,0,0,0] B38) = l} := by
  apply Subtype.mk
  dsimp [B38, Try.f38]
@[simp] theorem n38_23 : evCode P Γ call n f m (cAt [1,1,1,1,0,1,0,0,1,1,0,0,0] B38) s H = regNext (evOpsGo P Γ call r38_23.1 r38_23.1 s H) := qR r38_23.2
attribute [simp] r38_23
@[simp] theorem n38_24 : evCode P Γ call n f m (cAt [1,1,1,1,0,1,0,0,1,1,0,0,1] B38) s H = seqNext P Γ call n f m (cAt [1,1,1,1,0,1,0,0,1,1,0,0,1,1] B38) (evCode P Γ call n f m (cAt [1,1,1,1,0,1,0,0,1,1,0,0,1,0] B38) s H) := qS
@[simp] theorem n38_25 : evCode P Γ call n f m (cAt [1,1,1,1,0,1,0,0,1,1,0,0,1,0] B38) s H = seqNext P Γ call n f m (cAt [1,1,1,1,0,1,0,0,1,1,0,0,1,0,1] B38) (evCode P Γ call n f m (cAt [1,1,1,1,0,1,0,0,1,1,0,0,1,0,0] B38) s H) := qS
noncomputable def r38_26 : {l : List Oper // opsOf (cAt [1,1,1,1,0,1,0,0,1,1,0,0,1,0,0] B38) = l} := by
  apply Subtype.mk
  dsimp [B38, Try.f38]
@[simp] theorem n38_26 : evCode P Γ call n f m (cAt [1,1,1,1,0,1,0,0,1,1,0,0,1,0,0] B38) s H = regNext (evOpsGo P Γ call r38_26.1 r38_26.1 s H) := qR r38_26.2
attribute [simp] r38_26
@[simp] theorem n38_27 : evCode P Γ call n f m (cAt [1,1,1,1,0,1,0,0,1,1,0,0,1,0,1] B38) s H = blockNext 2 (evCode P Γ call n f m (cAt [1,1,1,1,0,1,0,0,1,1,0,0,1,0,1,0] B38) s H) := qB
@[simp] theorem n38_28 : evCode P Γ call n f m (cAt [1,1,1,1,0,1,0,0,1,1,0,0,1,0,1,0] B38) s H = evLoopC P Γ call n f m (cAt [1,1,1,1,0,1,0,0,1,1,0,0,1,0,1,0,0] B38) n s H := qL
noncomputable abbrev L38_8 : Code := cAt [1,1,1,1,0,1,0,0,1,1,0,0,1,0,1,0,0] B38
@[simp] theorem n38_28f : firstRegion (cAt [1,1,1,1,0,1,0,0,1,1,0,0,1,0,1,0,0] B38) = 8 := by kernel_rfl
@[simp] theorem n38_29 : evCode P Γ call n f m (cAt [1,1,1,1,0,1,0,0,1,1,0,0,1,0,1,0,0] B38) s H = seqNext P Γ call n f m (cAt [1,1,1,1,0,1,0,0,1,1,0,0,1,0,1,0,0,1] B38) (evCode P Γ call n f m (cAt [1,1,1,1,0,1,0,0,1,1,0,0,1,0,1,0,0,0] B38) s H) := qS
noncomputable def r38_30 : {l : List Oper // opsOf (cAt [1,1,1,1,0,1,0,0,1,1,0,0,1,0,1,0,0,0] B38) = l} := by
  apply Subtype.mk
  dsimp [B38, Try.f38]
@[simp] theorem n38_30 : evCode P Γ call n f m (cAt [1,1,1,1,0,1,0,0,1,1,0,0,1,0,1,0,0,0] B38) s H = regNext (evOpsGo P Γ call r38_30.1 r38_30.1 s H) := qR r38_30.2
attribute [simp] r38_30
@[simp] theorem n38_31 : evCode P Γ call n f m (cAt [1,1,1,1,0,1,0,0,1,1,0,0,1,0,1,0,0,1] B38) s H = seqNext P Γ call n f m (cAt [1,1,1,1,0,1,0,0,1,1,0,0,1,0,1,0,0,1,1] B38) (evCode P Γ call n f m (cAt [1,1,1,1,0,1,0,0,1,1,0,0,1,0,1,0,0,1,0] B38) s H) := qS
@[simp] theorem n38_32 : evCode P Γ call n f m (cAt [1,1,1,1,0,1,0,0,1,1,0,0,1,0,1,0,0,1,0] B38) s H = condW P Γ call n f m (cAt [1,1,1,1,0,1,0,0,1,1,0,0,1,0,1,0,0,1,0,0] B38) (cAt [1,1,1,1,0,1,0,0,1,1,0,0,1,0,1,0,0,1,0,1] B38) s H (evOperand Γ s (.tmp 27)) := qC
@[simp] theorem n38_33 : evCode P Γ call n f m (cAt [1,1,1,1,0,1,0,0,1,1,0,0,1,0,1,0,0,1,0,0] B38) s H = some (.normal, s, H) := qK
@[simp] theorem n38_34 : evCode P Γ call n f m (cAt [1,1,1,1,0,1,0,0,1,1,0,0,1,0,1,0,0,1,0,1] B38) s H = some (.exit 2, s, H) := qE
@[simp] theorem n38_35 : evCode P Γ call n f m (cAt [1,1,1,1,0,1,0,0,1,1,0,0,1,0,1,0,0,1,1] B38) s H = seqNext P Γ call n f m (cAt [1,1,1,1,0,1,0,0,1,1,0,0,1,0,1,0,0,1,1,1] B38) (evCode P Γ call n f m (cAt [1,1,1,1,0,1,0,0,1,1,0,0,1,0,1,0,0,1,1,0] B38) s H) := qS
@[simp] theorem n38_36 : evCode P Γ call n f m (cAt [1,1,1,1,0,1,0,0,1,1,0,0,1,0,1,0,0,1,1,0] B38) s H = blockNext 3 (evCode P Γ call n f m (cAt [1,1,1,1,0,1,0,0,1,1,0,0,1,0,1,0,0,1,1,0,0] B38) s H) := qB
@[simp] theorem n38_37 : evCode P Γ call n f m (cAt [1,1,1,1,0,1,0,0,1,1,0,0,1,0,1,0,0,1,1,0,0] B38) s H = seqNext P Γ call n f m (cAt [1,1,1,1,0,1,0,0,1,1,0,0,1,0,1,0,0,1,1,0,0,1] B38) (evCode P Γ call n f m (cAt [1,1,1,1,0,1,0,0,1,1,0,0,1,0,1,0,0,1,1,0,0,0] B38) s H) := qS
noncomputable def r38_38 : {l : List Oper // opsOf (cAt [1,1,1,1,0,1,0,0,1,1,0,0,1,0,1,0,0,1,1,0,0,0] B38) = l} := by
  apply Subtype.mk
  dsimp [B38, Try.f38]
@[simp] theorem n38_38 : evCode P Γ call n f m (cAt [1,1,1,1,0,1,0,0,1,1,0,0,1,0,1,0,0,1,1,0,0,0] B38) s H = regNext (evOpsGo P Γ call r38_38.1 r38_38.1 s H) := qR r38_38.2
attribute [simp] r38_38
@[simp] theorem n38_39 : evCode P Γ call n f m (cAt [1,1,1,1,0,1,0,0,1,1,0,0,1,0,1,0,0,1,1,0,0,1] B38) s H = seqNext P Γ call n f m (cAt [1,1,1,1,0,1,0,0,1,1,0,0,1,0,1,0,0,1,1,0,0,1,1] B38) (evCode P Γ call n f m (cAt [1,1,1,1,0,1,0,0,1,1,0,0,1,0,1,0,0,1,1,0,0,1,0] B38) s H) := qS
noncomputable def r38_40 : {l : List Oper // opsOf (cAt [1,1,1,1,0,1,0,0,1,1,0,0,1,0,1,0,0,1,1,0,0,1,0] B38) = l} := by
  apply Subtype.mk
  dsimp [B38, Try.f38]
@[simp] theorem n38_40 : evCode P Γ call n f m (cAt [1,1,1,1,0,1,0,0,1,1,0,0,1,0,1,0,0,1,1,0,0,1,0] B38) s H = regNext (drawR P Γ call r38_40.1 [([1,2], [31,32]), ([0], [30]), ([0], [30]), ([], []), ([], []), ([], []), ([7,8], [37,38]), ([6], [36]), ([6], [36]), ([], []), ([], []), ([], []), ([], []), ([14,15,18,19,21,22,23,24,25], [44,45,48,49,51,52,53,54,55]), ([13,18,19,21,22,23,24,25], [43,48,49,51,52,53,54,55]), ([13,18,19,21,22,23,24,25], [43,48,49,51,52,53,54,55]), ([18,19,21,22,23,24,25], [48,49,51,52,53,54,55]), ([18,19,21,22,23,24,25], [48,49,51,52,53,54,55]), ([13,14,15,16,17,21,22,23,24,25], [43,44,45,46,47,51,52,53,54,55]), ([13,14,15,16,17,21,22,23,24,25], [43,44,45,46,47,51,52,53,54,55]), ([21,22,23,24,25], [51,52,53,54,55]), ([13,14,15,16,17,18,19,20,22,23], [43,44,45,46,47,48,49,50,52,53]), ([13,14,15,16,17,18,19,20,21], [43,44,45,46,47,48,49,50,51]), ([13,14,15,16,17,18,19,20,21], [43,44,45,46,47,48,49,50,51]), ([13,14,15,16,17,18,19,20], [43,44,45,46,47,48,49,50]), ([13,14,15,16,17,18,19,20], [43,44,45,46,47,48,49,50]), ([], []), ([], []), ([], [])] s H) := qD r38_40.2
attribute [simp] r38_40
@[simp] theorem n38_41 : evCode P Γ call n f m (cAt [1,1,1,1,0,1,0,0,1,1,0,0,1,0,1,0,0,1,1,0,0,1,1] B38) s H = condW P Γ call n f m (cAt [1,1,1,1,0,1,0,0,1,1,0,0,1,0,1,0,0,1,1,0,0,1,1,0] B38) (cAt [1,1,1,1,0,1,0,0,1,1,0,0,1,0,1,0,0,1,1,0,0,1,1,1] B38) s H (evOperand Γ s (.tmp 58)) := qC
noncomputable def r38_42 : {l : List Oper // opsOf (cAt [1,1,1,1,0,1,0,0,1,1,0,0,1,0,1,0,0,1,1,0,0,1,1,0] B38) = l} := by
  apply Subtype.mk
  dsimp [B38, Try.f38]
@[simp] theorem n38_42 : evCode P Γ call n f m (cAt [1,1,1,1,0,1,0,0,1,1,0,0,1,0,1,0,0,1,1,0,0,1,1,0] B38) s H = regNext (drawR P Γ call r38_42.1 [([1,2,3,4,5,6,7,8,9,10,11,12,13], [60,61,62,63,64,65,66,67,68,69,70,71,72]), ([0,3,4,5,6,7,8,9,10,11,12,13], [59,62,63,64,65,66,67,68,69,70,71,72]), ([0,3,4,5,6,7,8,9,10,11,12,13], [59,62,63,64,65,66,67,68,69,70,71,72]), ([0,1,2,4,5,6,7,8,9,10,11,12,13,14,15], [59,60,61,63,64,65,66,67,68,69,70,71,72,73]), ([0,1,2,3,6,7,8,9,10,11,12,13,14,15], [59,60,61,62,65,66,67,68,69,70,71,72,73]), ([0,1,2,3,6,7,8,9,10,11,12,13,14,15], [59,60,61,62,65,66,67,68,69,70,71,72,73]), ([0,1,2,3,4,5,7,8,11,12], [59,60,61,62,63,64,66,67,70,71]), ([0,1,2,3,4,5,6,11,12], [59,60,61,62,63,64,65,70,71]), ([0,1,2,3,4,5,6,11,12], [59,60,61,62,63,64,65,70,71]), ([0,1,2,3,4,5,11,12], [59,60,61,62,63,64,70,71]), ([0,1,2,3,4,5,11,12], [59,60,61,62,63,64,70,71]), ([0,1,2,3,4,5,6,7,8,9,10], [59,60,61,62,63,64,65,66,67,68,69]), ([0,1,2,3,4,5,6,7,8,9,10], [59,60,61,62,63,64,65,66,67,68,69]), ([0,1,2,3,4,5], [59,60,61,62,63,64]), ([3,4,5], [62,63,64]), ([3,4,5], [62,63,64]), ([], []), ([], []), ([], [])] s H) := qD r38_42.2
attribute [simp] r38_42
@[simp] theorem n38_43 : evCode P Γ call n f m (cAt [1,1,1,1,0,1,0,0,1,1,0,0,1,0,1,0,0,1,1,0,0,1,1,1] B38) s H = some (.normal, s, H) := qK
noncomputable def r38_44 : {l : List Oper // opsOf (cAt [1,1,1,1,0,1,0,0,1,1,0,0,1,0,1,0,0,1,1,1] B38) = l} := by
  apply Subtype.mk
  dsimp [B38, Try.f38]
@[simp] theorem n38_44 : evCode P Γ call n f m (cAt [1,1,1,1,0,1,0,0,1,1,0,0,1,0,1,0,0,1,1,1] B38) s H = regNext (evOpsGo P Γ call r38_44.1 r38_44.1 s H) := qR r38_44.2
attribute [simp] r38_44
@[simp] theorem n38_45 : evCode P Γ call n f m (cAt [1,1,1,1,0,1,0,0,1,1,0,0,1,1] B38) s H = seqNext P Γ call n f m (cAt [1,1,1,1,0,1,0,0,1,1,0,0,1,1,1] B38) (evCode P Γ call n f m (cAt [1,1,1,1,0,1,0,0,1,1,0,0,1,1,0] B38) s H) := qS
noncomputable def r38_46 : {l : List Oper // opsOf (cAt [1,1,1,1,0,1,0,0,1,1,0,0,1,1,0] B38) = l} := by
  apply Subtype.mk
  dsimp [B38, Try.f38]
@[simp] theorem n38_46 : evCode P Γ call n f m (cAt [1,1,1,1,0,1,0,0,1,1,0,0,1,1,0] B38) s H = regNext (evOpsGo P Γ call r38_46.1 r38_46.1 s H) := qR r38_46.2
attribute [simp] r38_46
@[simp] theorem n38_47 : evCode P Γ call n f m (cAt [1,1,1,1,0,1,0,0,1,1,0,0,1,1,1] B38) s H = condW P Γ call n f m (cAt [1,1,1,1,0,1,0,0,1,1,0,0,1,1,1,0] B38) (cAt [1,1,1,1,0,1,0,0,1,1,0,0,1,1,1,1] B38) s H (evOperand Γ s (.tmp 77)) := qC
@[simp] theorem n38_48 : evCode P Γ call n f m (cAt [1,1,1,1,0,1,0,0,1,1,0,0,1,1,1,0] B38) s H = seqNext P Γ call n f m (cAt [1,1,1,1,0,1,0,0,1,1,0,0,1,1,1,0,1] B38) (evCode P Γ call n f m (cAt [1,1,1,1,0,1,0,0,1,1,0,0,1,1,1,0,0] B38) s H) := qS
noncomputable def r38_49 : {l : List Oper // opsOf (cAt [1,1,1,1,0,1,0,0,1,1,0,0,1,1,1,0,0] B38) = l} := by
  apply Subtype.mk
  dsimp [B38, Try.f38]
@[simp] theorem n38_49 : evCode P Γ call n f m (cAt [1,1,1,1,0,1,0,0,1,1,0,0,1,1,1,0,0] B38) s H = regNext (evOpsGo P Γ call r38_49.1 r38_49.1 s H) := qR r38_49.2
attribute [simp] r38_49
@[simp] theorem n38_50 : evCode P Γ call n f m (cAt [1,1,1,1,0,1,0,0,1,1,0,0,1,1,1,0,1] B38) s H = some (.ret, s, H) := qT
@[simp] theorem n38_51 : evCode P Γ call n f m (cAt [1,1,1,1,0,1,0,0,1,1,0,0,1,1,1,1] B38) s H = some (.normal, s, H) := qK
noncomputable def r38_52 : {l : List Oper // opsOf (cAt [1,1,1,1,0,1,0,0,1,1,1] B38) = l} := by
  apply Subtype.mk
  dsimp [B38, Try.f38]
@[simp] theorem n38_52 : evCode P Γ call n f m (cAt [1,1,1,1,0,1,0,0,1,1,1] B38) s H = regNext (evOpsGo P Γ call r38_52.1 r38_52.1 s H) := qR r38_52.2
attribute [simp] r38_52
@[simp] theorem n38_53 : evCode P Γ call n f m (cAt [1,1,1,1,1] B38) s H = seqNext P Γ call n f m (cAt [1,1,1,1,1,1] B38) (evCode P Γ call n f m (cAt [1,1,1,1,1,0] B38) s H) := qS
noncomputable def r38_54 : {l : List Oper // opsOf (cAt [1,1,1,1,1,0] B38) = l} := by
  apply Subtype.mk
  dsimp [B38, Try.f38]
@[simp] theorem n38_54 : evCode P Γ call n f m (cAt [1,1,1,1,1,0] B38) s H = regNext (evOpsGo P Γ call r38_54.1 r38_54.1 s H) := qR r38_54.2
attribute [simp] r38_54
@[simp] theorem n38_55 : evCode P Γ call n f m (cAt [1,1,1,1,1,1] B38) s H = some (.ret, s, H) := qT
theorem b38 {k : Nat} (ho : ∀ args H, Γ.orc 38 args H = none) (args : List V) (H : Heap) (ha : args.length ≤ 80) : evF Try.prog Γ (k + 1) 38 args H = bodyEnd Try.prog [.tmp 6, .tmp 7] H.length (evCode Try.prog Γ (evF Try.prog Γ k) k 38 H.length (cAt [] B38) (mkL 80 V.undef (enumV 0 args)) H) := body_at Try.func38 (by decide) rfl ho rfl rfl args H ha
noncomputable def B25 : Code := bodyOf Try.f25
@[simp] theorem n25_1 : evCode P Γ call n f m (cAt [] B25) s H = seqNext P Γ call n f m (cAt [1] B25) (evCode P Γ call n f m (cAt [0] B25) s H) := qS
noncomputable def r25_2 : {l : List Oper // opsOf (cAt [0] B25) = l} := by
  apply Subtype.mk
  dsimp [B25, Try.f25]
@[simp] theorem n25_2 : evCode P Γ call n f m (cAt [0] B25) s H = regNext (evOpsGo P Γ call r25_2.1 r25_2.1 s H) := qR r25_2.2
attribute [simp] r25_2
@[simp] theorem n25_3 : evCode P Γ call n f m (cAt [1] B25) s H = seqNext P Γ call n f m (cAt [1,1] B25) (evCode P Γ call n f m (cAt [1,0] B25) s H) := qS
noncomputable def r25_4 : {l : List Oper // opsOf (cAt [1,0] B25) = l} := by
  apply Subtype.mk
  dsimp [B25, Try.f25]
@[simp] theorem n25_4 : evCode P Γ call n f m (cAt [1,0] B25) s H = regNext (evOpsGo P Γ call r25_4.1 r25_4.1 s H) := qR r25_4.2
attribute [simp] r25_4
@[simp] theorem n25_5 : evCode P Γ call n f m (cAt [1,1] B25) s H = seqNext P Γ call n f m (cAt [1,1,1] B25) (evCode P Γ call n f m (cAt [1,1,0] B25) s H) := qS
noncomputable def r25_6 : {l : List Oper // opsOf (cAt [1,1,0] B25) = l} := by
  apply Subtype.mk
  dsimp [B25, Try.f25]
@[simp] theorem n25_6 : evCode P Γ call n f m (cAt [1,1,0] B25) s H = regNext (evOpsGo P Γ call r25_6.1 r25_6.1 s H) := qR r25_6.2
attribute [simp] r25_6
@[simp] theorem n25_7 : evCode P Γ call n f m (cAt [1,1,1] B25) s H = seqNext P Γ call n f m (cAt [1,1,1,1] B25) (evCode P Γ call n f m (cAt [1,1,1,0] B25) s H) := qS
noncomputable def r25_8 : {l : List Oper // opsOf (cAt [1,1,1,0] B25) = l} := by
  apply Subtype.mk
  dsimp [B25, Try.f25]
@[simp] theorem n25_8 : evCode P Γ call n f m (cAt [1,1,1,0] B25) s H = regNext (evOpsGo P Γ call r25_8.1 r25_8.1 s H) := qR r25_8.2
attribute [simp] r25_8
@[simp] theorem n25_9 : evCode P Γ call n f m (cAt [1,1,1,1] B25) s H = seqNext P Γ call n f m (cAt [1,1,1,1,1] B25) (evCode P Γ call n f m (cAt [1,1,1,1,0] B25) s H) := qS
noncomputable def r25_10 : {l : List Oper // opsOf (cAt [1,1,1,1,0] B25) = l} := by
  apply Subtype.mk
  dsimp [B25, Try.f25]
@[simp] theorem n25_10 : evCode P Γ call n f m (cAt [1,1,1,1,0] B25) s H = regNext (evOpsGo P Γ call r25_10.1 r25_10.1 s H) := qR r25_10.2
attribute [simp] r25_10
@[simp] theorem n25_11 : evCode P Γ call n f m (cAt [1,1,1,1,1] B25) s H = seqNext P Γ call n f m (cAt [1,1,1,1,1,1] B25) (evCode P Γ call n f m (cAt [1,1,1,1,1,0] B25) s H) := qS
@[simp] theorem n25_12 : evCode P Γ call n f m (cAt [1,1,1,1,1,0] B25) s H = seqNext P Γ call n f m (cAt [1,1,1,1,1,0,1] B25) (evCode P Γ call n f m (cAt [1,1,1,1,1,0,0] B25) s H) := qS
noncomputable def r25_13 : {l : List Oper // opsOf (cAt [1,1,1,1,1,0,0] B25) = l} := by
  apply Subtype.mk
  dsimp [B25, Try.f25]
@[simp] theorem n25_13 : evCode P Γ call n f m (cAt [1,1,1,1,1,0,0] B25) s H = regNext (evOpsGo P Γ call r25_13.1 r25_13.1 s H) := qR r25_13.2
attribute [simp] r25_13
@[simp] theorem n25_14 : evCode P Γ call n f m (cAt [1,1,1,1,1,0,1] B25) s H = blockNext 0 (evCode P Γ call n f m (cAt [1,1,1,1,1,0,1,0] B25) s H) := qB
@[simp] theorem n25_15 : evCode P Γ call n f m (cAt [1,1,1,1,1,0,1,0] B25) s H = evLoopC P Γ call n f m (cAt [1,1,1,1,1,0,1,0,0] B25) n s H := qL
noncomputable abbrev L25_6 : Code := cAt [1,1,1,1,1,0,1,0,0] B25
@[simp] theorem n25_15f : firstRegion (cAt [1,1,1,1,1,0,1,0,0] B25) = 6 := by kernel_rfl
@[simp] theorem n25_16 : evCode P Γ call n f m (cAt [1,1,1,1,1,0,1,0,0] B25) s H = seqNext P Γ call n f m (cAt [1,1,1,1,1,0,1,0,0,1] B25) (evCode P Γ call n f m (cAt [1,1,1,1,1,0,1,0,0,0] B25) s H) := qS
@[simp] theorem n25_17 : evCode P Γ call n f m (cAt [1,1,1,1,1,0,1,0,0,0] B25) s H = seqNext P Γ call n f m (cAt [1,1,1,1,1,0,1,0,0,0,1] B25) (evCode P Γ call n f m (cAt [1,1,1,1,1,0,1,0,0,0,0] B25) s H) := qS
noncomputable def r25_18 : {l : List Oper // opsOf (cAt [1,1,1,1,1,0,1,0,0,0,0] B25) = l} := by
  apply Subtype.mk
  dsimp [B25, Try.f25]
@[simp] theorem n25_18 : evCode P Γ call n f m (cAt [1,1,1,1,1,0,1,0,0,0,0] B25) s H = regNext (evOpsGo P Γ call r25_18.1 r25_18.1 s H) := qR r25_18.2
attribute [simp] r25_18
@[simp] theorem n25_19 : evCode P Γ call n f m (cAt [1,1,1,1,1,0,1,0,0,0,1] B25) s H = condW P Γ call n f m (cAt [1,1,1,1,1,0,1,0,0,0,1,0] B25) (cAt [1,1,1,1,1,0,1,0,0,0,1,1] B25) s H (evOperand Γ s (.tmp 27)) := qC
@[simp] theorem n25_20 : evCode P Γ call n f m (cAt [1,1,1,1,1,0,1,0,0,0,1,0] B25) s H = some (.normal, s, H) := qK
@[simp] theorem n25_21 : evCode P Γ call n f m (cAt [1,1,1,1,1,0,1,0,0,0,1,1] B25) s H = some (.exit 0, s, H) := qE
@[simp] theorem n25_22 : evCode P Γ call n f m (cAt [1,1,1,1,1,0,1,0,0,1] B25) s H = seqNext P Γ call n f m (cAt [1,1,1,1,1,0,1,0,0,1,1] B25) (evCode P Γ call n f m (cAt [1,1,1,1,1,0,1,0,0,1,0] B25) s H) := qS
@[simp] theorem n25_23 : evCode P Γ call n f m (cAt [1,1,1,1,1,0,1,0,0,1,0] B25) s H = blockNext 1 (evCode P Γ call n f m (cAt [1,1,1,1,1,0,1,0,0,1,0,0] B25) s H) := qB
noncomputable def r25_24 : {l : List Oper // opsOf (cAt [1,1,1,1,1,0,1,0,0,1,0,0] B25) = l} := by
  apply Subtype.mk
  dsimp [B25, Try.f25]
@[simp] theorem n25_24 : evCode P Γ call n f m (cAt [1,1,1,1,1,0,1,0,0,1,0,0] B25) s H = regNext (evOpsGo P Γ call r25_24.1 r25_24.1 s H) := qR r25_24.2
attribute [simp] r25_24
noncomputable def r25_25 : {l : List Oper // opsOf (cAt [1,1,1,1,1,0,1,0,0,1,1] B25) = l} := by
  apply Subtype.mk
  dsimp [B25, Try.f25]
@[simp] theorem n25_25 : evCode P Γ call n f m (cAt [1,1,1,1,1,0,1,0,0,1,1] B25) s H = regNext (evOpsGo P Γ call r25_25.1 r25_25.1 s H) := qR r25_25.2
attribute [simp] r25_25
@[simp] theorem n25_26 : evCode P Γ call n f m (cAt [1,1,1,1,1,1] B25) s H = seqNext P Γ call n f m (cAt [1,1,1,1,1,1,1] B25) (evCode P Γ call n f m (cAt [1,1,1,1,1,1,0] B25) s H) := qS
noncomputable def r25_27 : {l : List Oper // opsOf (cAt [1,1,1,1,1,1,0] B25) = l} := by
  apply Subtype.mk
  dsimp [B25, Try.f25]
@[simp] theorem n25_27 : evCode P Γ call n f m (cAt [1,1,1,1,1,1,0] B25) s H = regNext (evOpsGo P Γ call r25_27.1 r25_27.1 s H) := qR r25_27.2
attribute [simp] r25_27
@[simp] theorem n25_28 : evCode P Γ call n f m (cAt [1,1,1,1,1,1,1] B25) s H = seqNext P Γ call n f m (cAt [1,1,1,1,1,1,1,1] B25) (evCode P Γ call n f m (cAt [1,1,1,1,1,1,1,0] B25) s H) := qS
@[simp] theorem n25_29 : evCode P Γ call n f m (cAt [1,1,1,1,1,1,1,0] B25) s H = seqNext P Γ call n f m (cAt [1,1,1,1,1,1,1,0,1] B25) (evCode P Γ call n f m (cAt [1,1,1,1,1,1,1,0,0] B25) s H) := qS
noncomputable def r25_30 : {l : List Oper // opsOf (cAt [1,1,1,1,1,1,1,0,0] B25) = l} := by
  apply Subtype.mk
  dsimp [B25, Try.f25]
@[simp] theorem n25_30 : evCode P Γ call n f m (cAt [1,1,1,1,1,1,1,0,0] B25) s H = regNext (evOpsGo P Γ call r25_30.1 r25_30.1 s H) := qR r25_30.2
attribute [simp] r25_30
@[simp] theorem n25_31 : evCode P Γ call n f m (cAt [1,1,1,1,1,1,1,0,1] B25) s H = blockNext 2 (evCode P Γ call n f m (cAt [1,1,1,1,1,1,1,0,1,0] B25) s H) := qB
@[simp] theorem n25_32 : evCode P Γ call n f m (cAt [1,1,1,1,1,1,1,0,1,0] B25) s H = evLoopC P Γ call n f m (cAt [1,1,1,1,1,1,1,0,1,0,0] B25) n s H := qL
noncomputable abbrev L25_11 : Code := cAt [1,1,1,1,1,1,1,0,1,0,0] B25
@[simp] theorem n25_32f : firstRegion (cAt [1,1,1,1,1,1,1,0,1,0,0] B25) = 11 := by kernel_rfl
@[simp] theorem n25_33 : evCode P Γ call n f m (cAt [1,1,1,1,1,1,1,0,1,0,0] B25) s H = seqNext P Γ call n f m (cAt [1,1,1,1,1,1,1,0,1,0,0,1] B25) (evCode P Γ call n f m (cAt [1,1,1,1,1,1,1,0,1,0,0,0] B25) s H) := qS
noncomputable def r25_34 : {l : List Oper // opsOf (cAt [1,1,1,1,1,1,1,0,1,0,0,0] B25) = l} := by
  apply Subtype.mk
  dsimp [B25, Try.f25]
@[simp] theorem n25_34 : evCode P Γ call n f m (cAt [1,1,1,1,1,1,1,0,1,0,0,0] B25) s H = regNext (evOpsGo P Γ call r25_34.1 r25_34.1 s H) := qR r25_34.2
attribute [simp] r25_34
@[simp] theorem n25_35 : evCode P Γ call n f m (cAt [1,1,1,1,1,1,1,0,1,0,0,1] B25) s H = seqNext P Γ call n f m (cAt [1,1,1,1,1,1,1,0,1,0,0,1,1] B25) (evCode P Γ call n f m (cAt [1,1,1,1,1,1,1,0,1,0,0,1,0] B25) s H) := qS
@[simp] theorem n25_36 : evCode P Γ call n f m (cAt [1,1,1,1,1,1,1,0,1,0,0,1,0] B25) s H = condW P Γ call n f m (cAt [1,1,1,1,1,1,1,0,1,0,0,1,0,0] B25) (cAt [1,1,1,1,1,1,1,0,1,0,0,1,0,1] B25) s H (evOperand Γ s (.tmp 37)) := qC
@[simp] theorem n25_37 : evCode P Γ call n f m (cAt [1,1,1,1,1,1,1,0,1,0,0,1,0,0] B25) s H = some (.normal, s, H) := qK
@[simp] theorem n25_38 : evCode P Γ call n f m (cAt [1,1,1,1,1,1,1,0,1,0,0,1,0,1] B25) s H = some (.exit 2, s, H) := qE
@[simp] theorem n25_39 : evCode P Γ call n f m (cAt [1,1,1,1,1,1,1,0,1,0,0,1,1] B25) s H = seqNext P Γ call n f m (cAt [1,1,1,1,1,1,1,0,1,0,0,1,1,1] B25) (evCode P Γ call n f m (cAt [1,1,1,1,1,1,1,0,1,0,0,1,1,0] B25) s H) := qS
@[simp] theorem n25_40 : evCode P Γ call n f m (cAt [1,1,1,1,1,1,1,0,1,0,0,1,1,0] B25) s H = blockNext 3 (evCode P Γ call n f m (cAt [1,1,1,1,1,1,1,0,1,0,0,1,1,0,0] B25) s H) := qB
@[simp] theorem n25_41 : evCode P Γ call n f m (cAt [1,1,1,1,1,1,1,0,1,0,0,1,1,0,0] B25) s H = seqNext P Γ call n f m (cAt [1,1,1,1,1,1,1,0,1,0,0,1,1,0,0,1] B25) (evCode P Γ call n f m (cAt [1,1,1,1,1,1,1,0,1,0,0,1,1,0,0,0] B25) s H) := qS
noncomputable def r25_42 : {l : List Oper // opsOf (cAt [1,1,1,1,1,1,1,0,1,0,0,1,1,0,0,0] B25) = l} := by
  apply Subtype.mk
  dsimp [B25, Try.f25]
@[simp] theorem n25_42 : evCode P Γ call n f m (cAt [1,1,1,1,1,1,1,0,1,0,0,1,1,0,0,0] B25) s H = regNext (evOpsGo P Γ call r25_42.1 r25_42.1 s H) := qR r25_42.2
attribute [simp] r25_42
noncomputable def r25_43 : {l : List Oper // opsOf (cAt [1,1,1,1,1,1,1,0,1,0,0,1,1,0,0,1] B25) = l} := by
  apply Subtype.mk
  dsimp [B25, Try.f25]
@[simp] theorem n25_43 : evCode P Γ call n f m (cAt [1,1,1,1,1,1,1,0,1,0,0,1,1,0,0,1] B25) s H = regNext (drawR P Γ call r25_43.1 [([1,2,3,4,5,6,7,8,9,10,11,12,13,14,15,16,17,18], [42,43,44,45,46,47,48,49,50,51,52,53,54,55,56,57,58,59]), ([0,2,3,6,7,9,10,11,12,13,14,15,16,17,18], [41,43,44,47,48,50,51,52,53,54,55,56,57,58,59]), ([0,1,6,7,9,10,11,12,13,14,15,16,17,18], [41,42,47,48,50,51,52,53,54,55,56,57,58,59]), ([0,1,6,7,9,10,11,12,13,14,15,16,17,18], [41,42,47,48,50,51,52,53,54,55,56,57,58,59]), ([0,6,7,9,10,11,12,13,14,15,16,17,18], [41,47,48,50,51,52,53,54,55,56,57,58,59]), ([0,6,7,8,9,10,11,12,13,14,15,16,17,18], [41,47,48,49,50,51,52,53,54,55,56,57,58,59]), ([0,1,2,3,4,5,7,9,10,11,12,13,14,15,16,17,18], [41,42,43,44,45,46,48,50,51,52,53,54,55,56,57,58,59]), ([0,1,2,3,4,5,6,9,10,11,12,13,14,15,16,17,18], [41,42,43,44,45,46,47,50,51,52,53,54,55,56,57,58,59]), ([0,5,9,10,11,12,13,14,15,16,17,18], [41,46,50,51,52,53,54,55,56,57,58,59]), ([0,1,2,3,4,5,6,7,8,11,12,14,15,16,17,18], [41,42,43,44,45,46,47,48,49,52,53,55,56,57,58,59]), ([0,1,2,3,4,5,6,7,8,11,12,14,15,16,17,18], [41,42,43,44,45,46,47,48,49,52,53,55,56,57,58,59]), ([0,1,2,3,4,5,6,7,8,9,10,14,15,16,17,18], [41,42,43,44,45,46,47,48,49,50,51,55,56,57,58,59]), ([0,1,2,3,4,5,6,7,8,9,10,14,15,16,17,18], [41,42,43,44,45,46,47,48,49,50,51,55,56,57,58,59]), ([0,1,2,3,4,5,6,7,8,14,15,16,17,18], [41,42,43,44,45,46,47,48,49,55,56,57,58,59]), ([0,1,2,3,4,5,6,7,8,9,10,11,12,13,16,17], [41,42,43,44,45,46,47,48,49,50,51,52,53,54,57,58]), ([0,1,2,3,4,5,6,7,8,9,10,11,12,13,16,17], [41,42,43,44,45,46,47,48,49,50,51,52,53,54,57,58]), ([0,1,2,3,4,5,6,7,8,9,10,11,12,13,14,15], [41,42,43,44,45,46,47,48,49,50,51,52,53,54,55,56]), ([0,1,2,3,4,5,6,7,8,9,10,11,12,13,14,15], [41,42,43,44,45,46,47,48,49,50,51,52,53,54,55,56]), ([0,1,2,3,4,5,6,7,8,9,10,11,12,13], [41,42,43,44,45,46,47,48,49,50,51,52,53,54]), ([], [])] s H) := qD r25_43.2
attribute [simp] r25_43
noncomputable def r25_44 : {l : List Oper // opsOf (cAt [1,1,1,1,1,1,1,0,1,0,0,1,1,1] B25) = l} := by
  apply Subtype.mk
  dsimp [B25, Try.f25]
@[simp] theorem n25_44 : evCode P Γ call n f m (cAt [1,1,1,1,1,1,1,0,1,0,0,1,1,1] B25) s H = regNext (evOpsGo P Γ call r25_44.1 r25_44.1 s H) := qR r25_44.2
attribute [simp] r25_44
@[simp] theorem n25_45 : evCode P Γ call n f m (cAt [1,1,1,1,1,1,1,1] B25) s H = seqNext P Γ call n f m (cAt [1,1,1,1,1,1,1,1,1] B25) (evCode P Γ call n f m (cAt [1,1,1,1,1,1,1,1,0] B25) s H) := qS
@[simp] theorem n25_46 : evCode P Γ call n f m (cAt [1,1,1,1,1,1,1,1,0] B25) s H = seqNext P Γ call n f m (cAt [1,1,1,1,1,1,1,1,0,1] B25) (evCode P Γ call n f m (cAt [1,1,1,1,1,1,1,1,0,0] B25) s H) := qS
noncomputable def r25_47 : {l : List Oper // opsOf (cAt [1,1,1,1,1,1,1,1,0,0] B25) = l} := by
  apply Subtype.mk
  dsimp [B25, Try.f25]
@[simp] theorem n25_47 : evCode P Γ call n f m (cAt [1,1,1,1,1,1,1,1,0,0] B25) s H = regNext (evOpsGo P Γ call r25_47.1 r25_47.1 s H) := qR r25_47.2
attribute [simp] r25_47
@[simp] theorem n25_48 : evCode P Γ call n f m (cAt [1,1,1,1,1,1,1,1,0,1] B25) s H = blockNext 4 (evCode P Γ call n f m (cAt [1,1,1,1,1,1,1,1,0,1,0] B25) s H) := qB
@[simp] theorem n25_49 : evCode P Γ call n f m (cAt [1,1,1,1,1,1,1,1,0,1,0] B25) s H = evLoopC P Γ call n f m (cAt [1,1,1,1,1,1,1,1,0,1,0,0] B25) n s H := qL
noncomputable abbrev L25_16 : Code := cAt [1,1,1,1,1,1,1,1,0,1,0,0] B25
@[simp] theorem n25_49f : firstRegion (cAt [1,1,1,1,1,1,1,1,0,1,0,0] B25) = 16 := by kernel_rfl
@[simp] theorem n25_50 : evCode P Γ call n f m (cAt [1,1,1,1,1,1,1,1,0,1,0,0] B25) s H = seqNext P Γ call n f m (cAt [1,1,1,1,1,1,1,1,0,1,0,0,1] B25) (evCode P Γ call n f m (cAt [1,1,1,1,1,1,1,1,0,1,0,0,0] B25) s H) := qS
noncomputable def r25_51 : {l : List Oper // opsOf (cAt [1,1,1,1,1,1,1,1,0,1,0,0,0] B25) = l} := by
  apply Subtype.mk
  dsimp [B25, Try.f25]
@[simp] theorem n25_51 : evCode P Γ call n f m (cAt [1,1,1,1,1,1,1,1,0,1,0,0,0] B25) s H = regNext (evOpsGo P Γ call r25_51.1 r25_51.1 s H) := qR r25_51.2
attribute [simp] r25_51
@[simp] theorem n25_52 : evCode P Γ call n f m (cAt [1,1,1,1,1,1,1,1,0,1,0,0,1] B25) s H = seqNext P Γ call n f m (cAt [1,1,1,1,1,1,1,1,0,1,0,0,1,1] B25) (evCode P Γ call n f m (cAt [1,1,1,1,1,1,1,1,0,1,0,0,1,0] B25) s H) := qS
@[simp] theorem n25_53 : evCode P Γ call n f m (cAt [1,1,1,1,1,1,1,1,0,1,0,0,1,0] B25) s H = condW P Γ call n f m (cAt [1,1,1,1,1,1,1,1,0,1,0,0,1,0,0] B25) (cAt [1,1,1,1,1,1,1,1,0,1,0,0,1,0,1] B25) s H (evOperand Γ s (.tmp 65)) := qC
@[simp] theorem n25_54 : evCode P Γ call n f m (cAt [1,1,1,1,1,1,1,1,0,1,0,0,1,0,0] B25) s H = some (.normal, s, H) := qK
@[simp] theorem n25_55 : evCode P Γ call n f m (cAt [1,1,1,1,1,1,1,1,0,1,0,0,1,0,1] B25) s H = some (.exit 4, s, H) := qE
@[simp] theorem n25_56 : evCode P Γ call n f m (cAt [1,1,1,1,1,1,1,1,0,1,0,0,1,1] B25) s H = seqNext P Γ call n f m (cAt [1,1,1,1,1,1,1,1,0,1,0,0,1,1,1] B25) (evCode P Γ call n f m (cAt [1,1,1,1,1,1,1,1,0,1,0,0,1,1,0] B25) s H) := qS
@[simp] theorem n25_57 : evCode P Γ call n f m (cAt [1,1,1,1,1,1,1,1,0,1,0,0,1,1,0] B25) s H = blockNext 5 (evCode P Γ call n f m (cAt [1,1,1,1,1,1,1,1,0,1,0,0,1,1,0,0] B25) s H) := qB
@[simp] theorem n25_58 : evCode P Γ call n f m (cAt [1,1,1,1,1,1,1,1,0,1,0,0,1,1,0,0] B25) s H = seqNext P Γ call n f m (cAt [1,1,1,1,1,1,1,1,0,1,0,0,1,1,0,0,1] B25) (evCode P Γ call n f m (cAt [1,1,1,1,1,1,1,1,0,1,0,0,1,1,0,0,0] B25) s H) := qS
noncomputable def r25_59 : {l : List Oper // opsOf (cAt [1,1,1,1,1,1,1,1,0,1,0,0,1,1,0,0,0] B25) = l} := by
  apply Subtype.mk
  dsimp [B25, Try.f25]
@[simp] theorem n25_59 : evCode P Γ call n f m (cAt [1,1,1,1,1,1,1,1,0,1,0,0,1,1,0,0,0] B25) s H = regNext (evOpsGo P Γ call r25_59.1 r25_59.1 s H) := qR r25_59.2
attribute [simp] r25_59
noncomputable def r25_60 : {l : List Oper // opsOf (cAt [1,1,1,1,1,1,1,1,0,1,0,0,1,1,0,0,1] B25) = l} := by
  apply Subtype.mk
  dsimp [B25, Try.f25]
@[simp] theorem n25_60 : evCode P Γ call n f m (cAt [1,1,1,1,1,1,1,1,0,1,0,0,1,1,0,0,1] B25) s H = regNext (drawR P Γ call r25_60.1 [([1,2,3,4,5,6,7,8,9,10,11,12], [69,70,71,72,73,74,75,76,77,78,79,80]), ([0,2,3,5,6,7,9,10,11,12], [68,70,71,73,74,75,77,78,79,80]), ([0,1,5,6,7,9,10,11,12], [68,69,73,74,75,77,78,79,80]), ([0,1,5,6,7,9,10,11,12], [68,69,73,74,75,77,78,79,80]), ([0,5,6,7,9,10,11,12], [68,73,74,75,77,78,79,80]), ([0,1,2,3,4,6,7,9,10,11,12], [68,69,70,71,72,74,75,77,78,79,80]), ([0,1,2,3,4,5,9,10,11,12], [68,69,70,71,72,73,77,78,79,80]), ([0,1,2,3,4,5,9,10,11,12], [68,69,70,71,72,73,77,78,79,80]), ([0,9,10,11,12], [68,77,78,79,80]), ([0,1,2,3,4,5,6,7,8,11,12], [68,69,70,71,72,73,74,75,76,79,80]), ([0,1,2,3,4,5,6,7,8,11,12], [68,69,70,71,72,73,74,75,76,79,80]), ([0,1,2,3,4,5,6,7,8,9,10], [68,69,70,71,72,73,74,75,76,77,78]), ([0,1,2,3,4,5,6,7,8,9,10], [68,69,70,71,72,73,74,75,76,77,78]), ([], [])] s H) := qD r25_60.2
attribute [simp] r25_60
noncomputable def r25_61 : {l : List Oper // opsOf (cAt [1,1,1,1,1,1,1,1,0,1,0,0,1,1,1] B25) = l} := by
  apply Subtype.mk
  dsimp [B25, Try.f25]
@[simp] theorem n25_61 : evCode P Γ call n f m (cAt [1,1,1,1,1,1,1,1,0,1,0,0,1,1,1] B25) s H = regNext (evOpsGo P Γ call r25_61.1 r25_61.1 s H) := qR r25_61.2
attribute [simp] r25_61
@[simp] theorem n25_62 : evCode P Γ call n f m (cAt [1,1,1,1,1,1,1,1,1] B25) s H = seqNext P Γ call n f m (cAt [1,1,1,1,1,1,1,1,1,1] B25) (evCode P Γ call n f m (cAt [1,1,1,1,1,1,1,1,1,0] B25) s H) := qS
noncomputable def r25_63 : {l : List Oper // opsOf (cAt [1,1,1,1,1,1,1,1,1,0] B25) = l} := by
  apply Subtype.mk
  dsimp [B25, Try.f25]
@[simp] theorem n25_63 : evCode P Γ call n f m (cAt [1,1,1,1,1,1,1,1,1,0] B25) s H = regNext (evOpsGo P Γ call r25_63.1 r25_63.1 s H) := qR r25_63.2
attribute [simp] r25_63
@[simp] theorem n25_64 : evCode P Γ call n f m (cAt [1,1,1,1,1,1,1,1,1,1] B25) s H = some (.ret, s, H) := qT
theorem b25 {k : Nat} (ho : ∀ args H, Γ.orc 25 args H = none) (args : List V) (H : Heap) (ha : args.length ≤ 85) : evF Try.prog Γ (k + 1) 25 args H = bodyEnd Try.prog [.tmp 4, .tmp 5] H.length (evCode Try.prog Γ (evF Try.prog Γ k) k 25 H.length (cAt [] B25) (mkL 85 V.undef (enumV 0 args)) H) := body_at Try.func25 (by decide) rfl ho rfl rfl args H ha
noncomputable def B42 : Code := bodyOf Try.f42
noncomputable def r42_1 : {l : List Oper // opsOf (cAt [] B42) = l} := by
  apply Subtype.mk
  dsimp [B42, Try.f42]
@[simp] theorem n42_1 : evCode P Γ call n f m (cAt [] B42) s H = regNext (evOpsGo P Γ call r42_1.1 r42_1.1 s H) := qR r42_1.2
attribute [simp] r42_1
theorem b42 {k : Nat} (ho : ∀ args H, Γ.orc 42 args H = none) (args : List V) (H : Heap) (ha : args.length ≤ 21) : evF Try.prog Γ (k + 1) 42 args H = bodyEnd Try.prog [] H.length (evCode Try.prog Γ (evF Try.prog Γ k) k 42 H.length (cAt [] B42) (mkL 21 V.undef (enumV 0 args)) H) := body_at Try.func42 (by decide) rfl ho rfl rfl args H ha
noncomputable def B43 : Code := bodyOf Try.f43
@[simp] theorem n43_1 : evCode P Γ call n f m (cAt [] B43) s H = seqNext P Γ call n f m (cAt [1] B43) (evCode P Γ call n f m (cAt [0] B43) s H) := qS
noncomputable def r43_2 : {l : List Oper // opsOf (cAt [0] B43) = l} := by
  apply Subtype.mk
  dsimp [B43, Try.f43]
@[simp] theorem n43_2 : evCode P Γ call n f m (cAt [0] B43) s H = regNext (evOpsGo P Γ call r43_2.1 r43_2.1 s H) := qR r43_2.2
attribute [simp] r43_2
@[simp] theorem n43_3 : evCode P Γ call n f m (cAt [1] B43) s H = seqNext P Γ call n f m (cAt [1,1] B43) (evCode P Γ call n f m (cAt [1,0] B43) s H) := qS
@[simp] theorem n43_4 : evCode P Γ call n f m (cAt [1,0] B43) s H = seqNext P Γ call n f m (cAt [1,0,1] B43) (evCode P Γ call n f m (cAt [1,0,0] B43) s H) := qS
noncomputable def r43_5 : {l : List Oper // opsOf (cAt [1,0,0] B43) = l} := by
  apply Subtype.mk
  dsimp [B43, Try.f43]
@[simp] theorem n43_5 : evCode P Γ call n f m (cAt [1,0,0] B43) s H = regNext (evOpsGo P Γ call r43_5.1 r43_5.1 s H) := qR r43_5.2
attribute [simp] r43_5
@[simp] theorem n43_6 : evCode P Γ call n f m (cAt [1,0,1] B43) s H = condW P Γ call n f m (cAt [1,0,1,0] B43) (cAt [1,0,1,1] B43) s H (evOperand Γ s (.tmp 5)) := qC
@[simp] theorem n43_7 : evCode P Γ call n f m (cAt [1,0,1,0] B43) s H = seqNext P Γ call n f m (cAt [1,0,1,0,1] B43) (evCode P Γ call n f m (cAt [1,0,1,0,0] B43) s H) := qS
noncomputable def r43_8 : {l : List Oper // opsOf (cAt [1,0,1,0,0] B43) = l} := by
  apply Subtype.mk
  dsimp [B43, Try.f43]
@[simp] theorem n43_8 : evCode P Γ call n f m (cAt [1,0,1,0,0] B43) s H = regNext (evOpsGo P Γ call r43_8.1 r43_8.1 s H) := qR r43_8.2
attribute [simp] r43_8
@[simp] theorem n43_9 : evCode P Γ call n f m (cAt [1,0,1,0,1] B43) s H = some (.ret, s, H) := qT
@[simp] theorem n43_10 : evCode P Γ call n f m (cAt [1,0,1,1] B43) s H = some (.normal, s, H) := qK
@[simp] theorem n43_11 : evCode P Γ call n f m (cAt [1,1] B43) s H = seqNext P Γ call n f m (cAt [1,1,1] B43) (evCode P Γ call n f m (cAt [1,1,0] B43) s H) := qS
noncomputable def r43_12 : {l : List Oper // opsOf (cAt [1,1,0] B43) = l} := by
  apply Subtype.mk
  dsimp [B43, Try.f43]
@[simp] theorem n43_12 : evCode P Γ call n f m (cAt [1,1,0] B43) s H = regNext (evOpsGo P Γ call r43_12.1 r43_12.1 s H) := qR r43_12.2
attribute [simp] r43_12
@[simp] theorem n43_13 : evCode P Γ call n f m (cAt [1,1,1] B43) s H = some (.ret, s, H) := qT
theorem b43 {k : Nat} (ho : ∀ args H, Γ.orc 43 args H = none) (args : List V) (H : Heap) (ha : args.length ≤ 11) : evF Try.prog Γ (k + 1) 43 args H = bodyEnd Try.prog [.tmp 3] H.length (evCode Try.prog Γ (evF Try.prog Γ k) k 43 H.length (cAt [] B43) (mkL 11 V.undef (enumV 0 args)) H) := body_at Try.func43 (by decide) rfl ho rfl rfl args H ha
noncomputable def B44 : Code := bodyOf Try.f44
@[simp] theorem n44_1 : evCode P Γ call n f m (cAt [] B44) s H = seqNext P Γ call n f m (cAt [1] B44) (evCode P Γ call n f m (cAt [0] B44) s H) := qS
noncomputable def r44_2 : {l : List Oper // opsOf (cAt [0] B44) = l} := by
  apply Subtype.mk
  dsimp [B44, Try.f44]
@[simp] theorem n44_2 : evCode P Γ call n f m (cAt [0] B44) s H = regNext (evOpsGo P Γ call r44_2.1 r44_2.1 s H) := qR r44_2.2
attribute [simp] r44_2
@[simp] theorem n44_3 : evCode P Γ call n f m (cAt [1] B44) s H = seqNext P Γ call n f m (cAt [1,1] B44) (evCode P Γ call n f m (cAt [1,0] B44) s H) := qS
@[simp] theorem n44_4 : evCode P Γ call n f m (cAt [1,0] B44) s H = seqNext P Γ call n f m (cAt [1,0,1] B44) (evCode P Γ call n f m (cAt [1,0,0] B44) s H) := qS
noncomputable def r44_5 : {l : List Oper // opsOf (cAt [1,0,0] B44) = l} := by
  apply Subtype.mk
  dsimp [B44, Try.f44]
@[simp] theorem n44_5 : evCode P Γ call n f m (cAt [1,0,0] B44) s H = regNext (evOpsGo P Γ call r44_5.1 r44_5.1 s H) := qR r44_5.2
attribute [simp] r44_5
@[simp] theorem n44_6 : evCode P Γ call n f m (cAt [1,0,1] B44) s H = blockNext 0 (evCode P Γ call n f m (cAt [1,0,1,0] B44) s H) := qB
@[simp] theorem n44_7 : evCode P Γ call n f m (cAt [1,0,1,0] B44) s H = evLoopC P Γ call n f m (cAt [1,0,1,0,0] B44) n s H := qL
noncomputable abbrev L44_2 : Code := cAt [1,0,1,0,0] B44
@[simp] theorem n44_7f : firstRegion (cAt [1,0,1,0,0] B44) = 2 := by kernel_rfl
@[simp] theorem n44_8 : evCode P Γ call n f m (cAt [1,0,1,0,0] B44) s H = seqNext P Γ call n f m (cAt [1,0,1,0,0,1] B44) (evCode P Γ call n f m (cAt [1,0,1,0,0,0] B44) s H) := qS
noncomputable def r44_9 : {l : List Oper // opsOf (cAt [1,0,1,0,0,0] B44) = l} := by
  apply Subtype.mk
  dsimp [B44, Try.f44]
@[simp] theorem n44_9 : evCode P Γ call n f m (cAt [1,0,1,0,0,0] B44) s H = regNext (evOpsGo P Γ call r44_9.1 r44_9.1 s H) := qR r44_9.2
attribute [simp] r44_9
@[simp] theorem n44_10 : evCode P Γ call n f m (cAt [1,0,1,0,0,1] B44) s H = seqNext P Γ call n f m (cAt [1,0,1,0,0,1,1] B44) (evCode P Γ call n f m (cAt [1,0,1,0,0,1,0] B44) s H) := qS
@[simp] theorem n44_11 : evCode P Γ call n f m (cAt [1,0,1,0,0,1,0] B44) s H = condW P Γ call n f m (cAt [1,0,1,0,0,1,0,0] B44) (cAt [1,0,1,0,0,1,0,1] B44) s H (evOperand Γ s (.tmp 9)) := qC
@[simp] theorem n44_12 : evCode P Γ call n f m (cAt [1,0,1,0,0,1,0,0] B44) s H = some (.normal, s, H) := qK
@[simp] theorem n44_13 : evCode P Γ call n f m (cAt [1,0,1,0,0,1,0,1] B44) s H = some (.exit 0, s, H) := qE
@[simp] theorem n44_14 : evCode P Γ call n f m (cAt [1,0,1,0,0,1,1] B44) s H = seqNext P Γ call n f m (cAt [1,0,1,0,0,1,1,1] B44) (evCode P Γ call n f m (cAt [1,0,1,0,0,1,1,0] B44) s H) := qS
@[simp] theorem n44_15 : evCode P Γ call n f m (cAt [1,0,1,0,0,1,1,0] B44) s H = blockNext 1 (evCode P Γ call n f m (cAt [1,0,1,0,0,1,1,0,0] B44) s H) := qB
@[simp] theorem n44_16 : evCode P Γ call n f m (cAt [1,0,1,0,0,1,1,0,0] B44) s H = seqNext P Γ call n f m (cAt [1,0,1,0,0,1,1,0,0,1] B44) (evCode P Γ call n f m (cAt [1,0,1,0,0,1,1,0,0,0] B44) s H) := qS
noncomputable def r44_17 : {l : List Oper // opsOf (cAt [1,0,1,0,0,1,1,0,0,0] B44) = l} := by
  apply Subtype.mk
  dsimp [B44, Try.f44]
@[simp] theorem n44_17 : evCode P Γ call n f m (cAt [1,0,1,0,0,1,1,0,0,0] B44) s H = regNext (evOpsGo P Γ call r44_17.1 r44_17.1 s H) := qR r44_17.2
attribute [simp] r44_17
@[simp] theorem n44_18 : evCode P Γ call n f m (cAt [1,0,1,0,0,1,1,0,0,1] B44) s H = seqNext P Γ call n f m (cAt [1,0,1,0,0,1,1,0,0,1,1] B44) (evCode P Γ call n f m (cAt [1,0,1,0,0,1,1,0,0,1,0] B44) s H) := qS
noncomputable def r44_19 : {l : List Oper // opsOf (cAt [1,0,1,0,0,1,1,0,0,1,0] B44) = l} := by
  apply Subtype.mk
  dsimp [B44, Try.f44]
@[simp] theorem n44_19 : evCode P Γ call n f m (cAt [1,0,1,0,0,1,1,0,0,1,0] B44) s H = regNext (evOpsGo P Γ call r44_19.1 r44_19.1 s H) := qR r44_19.2
attribute [simp] r44_19
@[simp] theorem n44_20 : evCode P Γ call n f m (cAt [1,0,1,0,0,1,1,0,0,1,1] B44) s H = condW P Γ call n f m (cAt [1,0,1,0,0,1,1,0,0,1,1,0] B44) (cAt [1,0,1,0,0,1,1,0,0,1,1,1] B44) s H (evOperand Γ s (.tmp 16)) := qC
@[simp] theorem n44_21 : evCode P Γ call n f m (cAt [1,0,1,0,0,1,1,0,0,1,1,0] B44) s H = seqNext P Γ call n f m (cAt [1,0,1,0,0,1,1,0,0,1,1,0,1] B44) (evCode P Γ call n f m (cAt [1,0,1,0,0,1,1,0,0,1,1,0,0] B44) s H) := qS
noncomputable def r44_22 : {l : List Oper // opsOf (cAt [1,0,1,0,0,1,1,0,0,1,1,0,0] B44) = l} := by
  apply Subtype.mk
  dsimp [B44, Try.f44]
@[simp] theorem n44_22 : evCode P Γ call n f m (cAt [1,0,1,0,0,1,1,0,0,1,1,0,0] B44) s H = regNext (evOpsGo P Γ call r44_22.1 r44_22.1 s H) := qR r44_22.2
attribute [simp] r44_22
@[simp] theorem n44_23 : evCode P Γ call n f m (cAt [1,0,1,0,0,1,1,0,0,1,1,0,1] B44) s H = some (.ret, s, H) := qT
@[simp] theorem n44_24 : evCode P Γ call n f m (cAt [1,0,1,0,0,1,1,0,0,1,1,1] B44) s H = some (.normal, s, H) := qK
noncomputable def r44_25 : {l : List Oper // opsOf (cAt [1,0,1,0,0,1,1,1] B44) = l} := by
  apply Subtype.mk
  dsimp [B44, Try.f44]
@[simp] theorem n44_25 : evCode P Γ call n f m (cAt [1,0,1,0,0,1,1,1] B44) s H = regNext (evOpsGo P Γ call r44_25.1 r44_25.1 s H) := qR r44_25.2
attribute [simp] r44_25
@[simp] theorem n44_26 : evCode P Γ call n f m (cAt [1,1] B44) s H = seqNext P Γ call n f m (cAt [1,1,1] B44) (evCode P Γ call n f m (cAt [1,1,0] B44) s H) := qS
noncomputable def r44_27 : {l : List Oper // opsOf (cAt [1,1,0] B44) = l} := by
  apply Subtype.mk
  dsimp [B44, Try.f44]
@[simp] theorem n44_27 : evCode P Γ call n f m (cAt [1,1,0] B44) s H = regNext (evOpsGo P Γ call r44_27.1 r44_27.1 s H) := qR r44_27.2
attribute [simp] r44_27
@[simp] theorem n44_28 : evCode P Γ call n f m (cAt [1,1,1] B44) s H = some (.ret, s, H) := qT
theorem b44 {k : Nat} (ho : ∀ args H, Γ.orc 44 args H = none) (args : List V) (H : Heap) (ha : args.length ≤ 19) : evF Try.prog Γ (k + 1) 44 args H = bodyEnd Try.prog [.tmp 4] H.length (evCode Try.prog Γ (evF Try.prog Γ k) k 44 H.length (cAt [] B44) (mkL 19 V.undef (enumV 0 args)) H) := body_at Try.func44 (by decide) rfl ho rfl rfl args H ha
noncomputable def B15 : Code := bodyOf Try.f15
@[simp] theorem n15_1 : evCode P Γ call n f m (cAt [] B15) s H = seqNext P Γ call n f m (cAt [1] B15) (evCode P Γ call n f m (cAt [0] B15) s H) := qS
noncomputable def r15_2 : {l : List Oper // opsOf (cAt [0] B15) = l} := by
  apply Subtype.mk
  dsimp [B15, Try.f15]
@[simp] theorem n15_2 : evCode P Γ call n f m (cAt [0] B15) s H = regNext (evOpsGo P Γ call r15_2.1 r15_2.1 s H) := qR r15_2.2
attribute [simp] r15_2
@[simp] theorem n15_3 : evCode P Γ call n f m (cAt [1] B15) s H = seqNext P Γ call n f m (cAt [1,1] B15) (evCode P Γ call n f m (cAt [1,0] B15) s H) := qS
noncomputable def r15_4 : {l : List Oper // opsOf (cAt [1,0] B15) = l} := by
  apply Subtype.mk
  dsimp [B15, Try.f15]
@[simp] theorem n15_4 : evCode P Γ call n f m (cAt [1,0] B15) s H = regNext (evOpsGo P Γ call r15_4.1 r15_4.1 s H) := qR r15_4.2
attribute [simp] r15_4
@[simp] theorem n15_5 : evCode P Γ call n f m (cAt [1,1] B15) s H = seqNext P Γ call n f m (cAt [1,1,1] B15) (evCode P Γ call n f m (cAt [1,1,0] B15) s H) := qS
noncomputable def r15_6 : {l : List Oper // opsOf (cAt [1,1,0] B15) = l} := by
  apply Subtype.mk
  dsimp [B15, Try.f15]
@[simp] theorem n15_6 : evCode P Γ call n f m (cAt [1,1,0] B15) s H = regNext (evOpsGo P Γ call r15_6.1 r15_6.1 s H) := qR r15_6.2
attribute [simp] r15_6
@[simp] theorem n15_7 : evCode P Γ call n f m (cAt [1,1,1] B15) s H = seqNext P Γ call n f m (cAt [1,1,1,1] B15) (evCode P Γ call n f m (cAt [1,1,1,0] B15) s H) := qS
@[simp] theorem n15_8 : evCode P Γ call n f m (cAt [1,1,1,0] B15) s H = seqNext P Γ call n f m (cAt [1,1,1,0,1] B15) (evCode P Γ call n f m (cAt [1,1,1,0,0] B15) s H) := qS
noncomputable def r15_9 : {l : List Oper // opsOf (cAt [1,1,1,0,0] B15) = l} := by
  apply Subtype.mk
  dsimp [B15, Try.f15]
@[simp] theorem n15_9 : evCode P Γ call n f m (cAt [1,1,1,0,0] B15) s H = regNext (evOpsGo P Γ call r15_9.1 r15_9.1 s H) := qR r15_9.2
attribute [simp] r15_9
@[simp] theorem n15_10 : evCode P Γ call n f m (cAt [1,1,1,0,1] B15) s H = condW P Γ call n f m (cAt [1,1,1,0,1,0] B15) (cAt [1,1,1,0,1,1] B15) s H (evOperand Γ s (.tmp 29)) := qC
@[simp] theorem n15_11 : evCode P Γ call n f m (cAt [1,1,1,0,1,0] B15) s H = seqNext P Γ call n f m (cAt [1,1,1,0,1,0,1] B15) (evCode P Γ call n f m (cAt [1,1,1,0,1,0,0] B15) s H) := qS
noncomputable def r15_12 : {l : List Oper // opsOf (cAt [1,1,1,0,1,0,0] B15) = l} := by
  apply Subtype.mk
  dsimp [B15, Try.f15]
@[simp] theorem n15_12 : evCode P Γ call n f m (cAt [1,1,1,0,1,0,0] B15) s H = regNext (evOpsGo P Γ call r15_12.1 r15_12.1 s H) := qR r15_12.2
attribute [simp] r15_12
@[simp] theorem n15_13 : evCode P Γ call n f m (cAt [1,1,1,0,1,0,1] B15) s H = some (.ret, s, H) := qT
@[simp] theorem n15_14 : evCode P Γ call n f m (cAt [1,1,1,0,1,1] B15) s H = some (.normal, s, H) := qK
@[simp] theorem n15_15 : evCode P Γ call n f m (cAt [1,1,1,1] B15) s H = seqNext P Γ call n f m (cAt [1,1,1,1,1] B15) (evCode P Γ call n f m (cAt [1,1,1,1,0] B15) s H) := qS
@[simp] theorem n15_16 : evCode P Γ call n f m (cAt [1,1,1,1,0] B15) s H = seqNext P Γ call n f m (cAt [1,1,1,1,0,1] B15) (evCode P Γ call n f m (cAt [1,1,1,1,0,0] B15) s H) := qS
noncomputable def r15_17 : {l : List Oper // opsOf (cAt [1,1,1,1,0,0] B15) = l} := by
  apply Subtype.mk
  dsimp [B15, Try.f15]
@[simp] theorem n15_17 : evCode P Γ call n f m (cAt [1,1,1,1,0,0] B15) s H = regNext (evOpsGo P Γ call r15_17.1 r15_17.1 s H) := qR r15_17.2
attribute [simp] r15_17
@[simp] theorem n15_18 : evCode P Γ call n f m (cAt [1,1,1,1,0,1] B15) s H = blockNext 0 (evCode P Γ call n f m (cAt [1,1,1,1,0,1,0] B15) s H) := qB
@[simp] theorem n15_19 : evCode P Γ call n f m (cAt [1,1,1,1,0,1,0] B15) s H = evLoopC P Γ call n f m (cAt [1,1,1,1,0,1,0,0] B15) n s H := qL
noncomputable abbrev L15_6 : Code := cAt [1,1,1,1,0,1,0,0] B15
@[simp] theorem n15_19f : firstRegion (cAt [1,1,1,1,0,1,0,0] B15) = 6 := by kernel_rfl
@[simp] theorem n15_20 : evCode P Γ call n f m (cAt [1,1,1,1,0,1,0,0] B15) s H = seqNext P Γ call n f m (cAt [1,1,1,1,0,1,0,0,1] B15) (evCode P Γ call n f m (cAt [1,1,1,1,0,1,0,0,0] B15) s H) := qS
noncomputable def r15_21 : {l : List Oper // opsOf (cAt [1,1,1,1,0,1,0,0,0] B15) = l} := by
  apply Subtype.mk
  dsimp [B15, Try.f15]
@[simp] theorem n15_21 : evCode P Γ call n f m (cAt [1,1,1,1,0,1,0,0,0] B15) s H = regNext (evOpsGo P Γ call r15_21.1 r15_21.1 s H) := qR r15_21.2
attribute [simp] r15_21
@[simp] theorem n15_22 : evCode P Γ call n f m (cAt [1,1,1,1,0,1,0,0,1] B15) s H = seqNext P Γ call n f m (cAt [1,1,1,1,0,1,0,0,1,1] B15) (evCode P Γ call n f m (cAt [1,1,1,1,0,1,0,0,1,0] B15) s H) := qS
@[simp] theorem n15_23 : evCode P Γ call n f m (cAt [1,1,1,1,0,1,0,0,1,0] B15) s H = condW P Γ call n f m (cAt [1,1,1,1,0,1,0,0,1,0,0] B15) (cAt [1,1,1,1,0,1,0,0,1,0,1] B15) s H (evOperand Γ s (.tmp 33)) := qC
@[simp] theorem n15_24 : evCode P Γ call n f m (cAt [1,1,1,1,0,1,0,0,1,0,0] B15) s H = some (.normal, s, H) := qK
@[simp] theorem n15_25 : evCode P Γ call n f m (cAt [1,1,1,1,0,1,0,0,1,0,1] B15) s H = some (.exit 0, s, H) := qE
@[simp] theorem n15_26 : evCode P Γ call n f m (cAt [1,1,1,1,0,1,0,0,1,1] B15) s H = seqNext P Γ call n f m (cAt [1,1,1,1,0,1,0,0,1,1,1] B15) (evCode P Γ call n f m (cAt [1,1,1,1,0,1,0,0,1,1,0] B15) s H) := qS
@[simp] theorem n15_27 : evCode P Γ call n f m (cAt [1,1,1,1,0,1,0,0,1,1,0] B15) s H = blockNext 1 (evCode P Γ call n f m (cAt [1,1,1,1,0,1,0,0,1,1,0,0] B15) s H) := qB
@[simp] theorem n15_28 : evCode P Γ call n f m (cAt [1,1,1,1,0,1,0,0,1,1,0,0] B15) s H = seqNext P Γ call n f m (cAt [1,1,1,1,0,1,0,0,1,1,0,0,1] B15) (evCode P Γ call n f m (cAt [1,1,1,1,0,1,0,0,1,1,0,0,0] B15) s H) := qS
noncomputable def r15_29 : {l : List Oper // opsOf (cAt [1,1,1,1,0,1,0,0,1,1,0,0,0] B15) = l} := by
  apply Subtype.mk
  dsimp [B15, Try.f15]
@[simp] theorem n15_29 : evCode P Γ call n f m (cAt [1,1,1,1,0,1,0,0,1,1,0,0,0] B15) s H = regNext (evOpsGo P Γ call r15_29.1 r15_29.1 s H) := qR r15_29.2
attribute [simp] r15_29
noncomputable def r15_30 : {l : List Oper // opsOf (cAt [1,1,1,1,0,1,0,0,1,1,0,0,1] B15) = l} := by
  apply Subtype.mk
  dsimp [B15, Try.f15]
@[simp] theorem n15_30 : evCode P Γ call n f m (cAt [1,1,1,1,0,1,0,0,1,1,0,0,1] B15) s H = regNext (drawR P Γ call r15_30.1 [([1,2,3,4,5,6,7], [38,39,40,41,42,43,44]), ([0,2,3,4,5,6,7], [37,39,40,41,42,43,44]), ([0,1,3,4,5,6,7,8,9,10], [37,38,40,41,42,43,44,45,46]), ([0,1,2,4,5,6,7,8,9,10], [37,38,39,41,42,43,44,45,46]), ([0,1,2,3,6,7], [37,38,39,40,43,44]), ([0,1,2,3,6,7], [37,38,39,40,43,44]), ([0,1,2,3,4,5,8,9,10], [37,38,39,40,41,42,45,46]), ([0,1,2,3,4,5,8,9,10], [37,38,39,40,41,42,45,46]), ([2,3,6,7], [39,40,43,44]), ([2,3,6,7], [39,40,43,44]), ([2,3,6,7], [39,40,43,44]), ([], []), ([], []), ([], [])] s H) := qD r15_30.2
attribute [simp] r15_30
noncomputable def r15_31 : {l : List Oper // opsOf (cAt [1,1,1,1,0,1,0,0,1,1,1] B15) = l} := by
  apply Subtype.mk
  dsimp [B15, Try.f15]
@[simp] theorem n15_31 : evCode P Γ call n f m (cAt [1,1,1,1,0,1,0,0,1,1,1] B15) s H = regNext (evOpsGo P Γ call r15_31.1 r15_31.1 s H) := qR r15_31.2
attribute [simp] r15_31
@[simp] theorem n15_32 : evCode P Γ call n f m (cAt [1,1,1,1,1] B15) s H = seqNext P Γ call n f m (cAt [1,1,1,1,1,1] B15) (evCode P Γ call n f m (cAt [1,1,1,1,1,0] B15) s H) := qS
noncomputable def r15_33 : {l : List Oper // opsOf (cAt [1,1,1,1,1,0] B15) = l} := by
  apply Subtype.mk
  dsimp [B15, Try.f15]
@[simp] theorem n15_33 : evCode P Γ call n f m (cAt [1,1,1,1,1,0] B15) s H = regNext (evOpsGo P Γ call r15_33.1 r15_33.1 s H) := qR r15_33.2
attribute [simp] r15_33
@[simp] theorem n15_34 : evCode P Γ call n f m (cAt [1,1,1,1,1,1] B15) s H = seqNext P Γ call n f m (cAt [1,1,1,1,1,1,1] B15) (evCode P Γ call n f m (cAt [1,1,1,1,1,1,0] B15) s H) := qS
noncomputable def r15_35 : {l : List Oper // opsOf (cAt [1,1,1,1,1,1,0] B15) = l} := by
  apply Subtype.mk
  dsimp [B15, Try.f15]
@[simp] theorem n15_35 : evCode P Γ call n f m (cAt [1,1,1,1,1,1,0] B15) s H = regNext (evOpsGo P Γ call r15_35.1 r15_35.1 s H) := qR r15_35.2
attribute [simp] r15_35
@[simp] theorem n15_36 : evCode P Γ call n f m (cAt [1,1,1,1,1,1,1] B15) s H = seqNext P Γ call n f m (cAt [1,1,1,1,1,1,1,1] B15) (evCode P Γ call n f m (cAt [1,1,1,1,1,1,1,0] B15) s H) := qS
@[simp] theorem n15_37 : evCode P Γ call n f m (cAt [1,1,1,1,1,1,1,0] B15) s H = seqNext P Γ call n f m (cAt [1,1,1,1,1,1,1,0,1] B15) (evCode P Γ call n f m (cAt [1,1,1,1,1,1,1,0,0] B15) s H) := qS
noncomputable def r15_38 : {l : List Oper // opsOf (cAt [1,1,1,1,1,1,1,0,0] B15) = l} := by
  apply Subtype.mk
  dsimp [B15, Try.f15]
@[simp] theorem n15_38 : evCode P Γ call n f m (cAt [1,1,1,1,1,1,1,0,0] B15) s H = regNext (evOpsGo P Γ call r15_38.1 r15_38.1 s H) := qR r15_38.2
attribute [simp] r15_38
@[simp] theorem n15_39 : evCode P Γ call n f m (cAt [1,1,1,1,1,1,1,0,1] B15) s H = blockNext 2 (evCode P Γ call n f m (cAt [1,1,1,1,1,1,1,0,1,0] B15) s H) := qB
@[simp] theorem n15_40 : evCode P Γ call n f m (cAt [1,1,1,1,1,1,1,0,1,0] B15) s H = evLoopC P Γ call n f m (cAt [1,1,1,1,1,1,1,0,1,0,0] B15) n s H := qL
noncomputable abbrev L15_13 : Code := cAt [1,1,1,1,1,1,1,0,1,0,0] B15
@[simp] theorem n15_40f : firstRegion (cAt [1,1,1,1,1,1,1,0,1,0,0] B15) = 13 := by kernel_rfl
@[simp] theorem n15_41 : evCode P Γ call n f m (cAt [1,1,1,1,1,1,1,0,1,0,0] B15) s H = seqNext P Γ call n f m (cAt [1,1,1,1,1,1,1,0,1,0,0,1] B15) (evCode P Γ call n f m (cAt [1,1,1,1,1,1,1,0,1,0,0,0] B15) s H) := qS
@[simp] theorem n15_42 : evCode P Γ call n f m (cAt [1,1,1,1,1,1,1,0,1,0,0,0] B15) s H = seqNext P Γ call n f m (cAt [1,1,1,1,1,1,1,0,1,0,0,0,1] B15) (evCode P Γ call n f m (cAt [1,1,1,1,1,1,1,0,1,0,0,0,0] B15) s H) := qS
noncomputable def r15_43 : {l : List Oper // opsOf (cAt [1,1,1,1,1,1,1,0,1,0,0,0,0] B15) = l} := by
  apply Subtype.mk
  dsimp [B15, Try.f15]
@[simp] theorem n15_43 : evCode P Γ call n f m (cAt [1,1,1,1,1,1,1,0,1,0,0,0,0] B15) s H = regNext (evOpsGo P Γ call r15_43.1 r15_43.1 s H) := qR r15_43.2
attribute [simp] r15_43
@[simp] theorem n15_44 : evCode P Γ call n f m (cAt [1,1,1,1,1,1,1,0,1,0,0,0,1] B15) s H = condW P Γ call n f m (cAt [1,1,1,1,1,1,1,0,1,0,0,0,1,0] B15) (cAt [1,1,1,1,1,1,1,0,1,0,0,0,1,1] B15) s H (evOperand Γ s (.tmp 58)) := qC
@[simp] theorem n15_45 : evCode P Γ call n f m (cAt [1,1,1,1,1,1,1,0,1,0,0,0,1,0] B15) s H = some (.normal, s, H) := qK
@[simp] theorem n15_46 : evCode P Γ call n f m (cAt [1,1,1,1,1,1,1,0,1,0,0,0,1,1] B15) s H = some (.exit 2, s, H) := qE
@[simp] theorem n15_47 : evCode P Γ call n f m (cAt [1,1,1,1,1,1,1,0,1,0,0,1] B15) s H = seqNext P Γ call n f m (cAt [1,1,1,1,1,1,1,0,1,0,0,1,1] B15) (evCode P Γ call n f m (cAt [1,1,1,1,1,1,1,0,1,0,0,1,0] B15) s H) := qS
@[simp] theorem n15_48 : evCode P Γ call n f m (cAt [1,1,1,1,1,1,1,0,1,0,0,1,0] B15) s H = blockNext 3 (evCode P Γ call n f m (cAt [1,1,1,1,1,1,1,0,1,0,0,1,0,0] B15) s H) := qB
noncomputable def r15_49 : {l : List Oper // opsOf (cAt [1,1,1,1,1,1,1,0,1,0,0,1,0,0] B15) = l} := by
  apply Subtype.mk
  dsimp [B15, Try.f15]
@[simp] theorem n15_49 : evCode P Γ call n f m (cAt [1,1,1,1,1,1,1,0,1,0,0,1,0,0] B15) s H = regNext (drawR P Γ call r15_49.1 [([1,2,3,4,5,6,7,8,9,10,11], [62,63,64,65,66,67,68,69,70,71,72]), ([0,2,6,7,8,9], [61,63,67,68,69,70]), ([0,1,6,7,8,9], [61,62,67,68,69,70]), ([0,6,7,8,9], [61,67,68,69,70]), ([0,6,7,8,9], [61,67,68,69,70]), ([0,6,7,8,9], [61,67,68,69,70]), ([0,1,2,3,4,5,7], [61,62,63,64,65,66,68]), ([0,1,2,3,4,5,6], [61,62,63,64,65,66,67]), ([0,1,2,3,4,5], [61,62,63,64,65,66]), ([0,1,2,3,4,5], [61,62,63,64,65,66]), ([0], [61]), ([0], [61]), ([], []), ([], [])] s H) := qD r15_49.2
attribute [simp] r15_49
noncomputable def r15_50 : {l : List Oper // opsOf (cAt [1,1,1,1,1,1,1,0,1,0,0,1,1] B15) = l} := by
  apply Subtype.mk
  dsimp [B15, Try.f15]
@[simp] theorem n15_50 : evCode P Γ call n f m (cAt [1,1,1,1,1,1,1,0,1,0,0,1,1] B15) s H = regNext (evOpsGo P Γ call r15_50.1 r15_50.1 s H) := qR r15_50.2
attribute [simp] r15_50
@[simp] theorem n15_51 : evCode P Γ call n f m (cAt [1,1,1,1,1,1,1,1] B15) s H = seqNext P Γ call n f m (cAt [1,1,1,1,1,1,1,1,1] B15) (evCode P Γ call n f m (cAt [1,1,1,1,1,1,1,1,0] B15) s H) := qS
noncomputable def r15_52 : {l : List Oper // opsOf (cAt [1,1,1,1,1,1,1,1,0] B15) = l} := by
  apply Subtype.mk
  dsimp [B15, Try.f15]
@[simp] theorem n15_52 : evCode P Γ call n f m (cAt [1,1,1,1,1,1,1,1,0] B15) s H = regNext (evOpsGo P Γ call r15_52.1 r15_52.1 s H) := qR r15_52.2
attribute [simp] r15_52
@[simp] theorem n15_53 : evCode P Γ call n f m (cAt [1,1,1,1,1,1,1,1,1] B15) s H = some (.ret, s, H) := qT
theorem b15 {k : Nat} (ho : ∀ args H, Γ.orc 15 args H = none) (args : List V) (H : Heap) (ha : args.length ≤ 75) : evF Try.prog Γ (k + 1) 15 args H = bodyEnd Try.prog [.tmp 4, .tmp 5] H.length (evCode Try.prog Γ (evF Try.prog Γ k) k 15 H.length (cAt [] B15) (mkL 75 V.undef (enumV 0 args)) H) := body_at Try.func15 (by decide) rfl ho rfl rfl args H ha
end
end Go.Ev.Try
