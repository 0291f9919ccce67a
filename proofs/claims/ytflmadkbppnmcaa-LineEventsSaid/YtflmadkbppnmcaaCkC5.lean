/-
  CODE BY NAMES, printed by wip/tools/codes.py (own work).
-/
import Derived.Test.YtflmadkbppnmcaaCkG
set_option maxRecDepth 100000
set_option linter.unusedVariables false
namespace Go.Ev.Try
open Go Go.Ev Go.Proofs
section
variable {P : Program} {Γ : Env} {call : CallF} {n f m : Nat} (s : List V) (H : Heap)
attribute [local simp] opsOf cAt kids bodyOf

noncomputable def B5 : Code := bodyOf Try.f5
@[simp] theorem n5_1 : evCode P Γ call n f m (cAt [] B5) s H = seqNext P Γ call n f m (cAt [1] B5) (evCode P Γ call n f m (cAt [0] B5) s H) := qS
noncomputable def r5_2 : {l : List Oper // opsOf (cAt [0] B5) = l} := by
  apply Subtype.mk
  dsimp [B5, Try.f5]
@[simp] theorem n5_2 : evCode P Γ call n f m (cAt [0] B5) s H = regNext (evOpsGo P Γ call r5_2.1 r5_2.1 s H) := qR r5_2.2
attribute [simp] r5_2
@[simp] theorem n5_3 : evCode P Γ call n f m (cAt [1] B5) s H = seqNext P Γ call n f m (cAt [1,1] B5) (evCode P Γ call n f m (cAt [1,0] B5) s H) := qS
noncomputable def r5_4 : {l : List Oper // opsOf (cAt [1,0] B5) = l} := by
  apply Subtype.mk
  dsimp [B5, Try.f5]
@[simp] theorem n5_4 : evCode P Γ call n f m (cAt [1,0] B5) s H = regNext (evOpsGo P Γ call r5_4.1 r5_4.1 s H) := qR r5_4.2
attribute [simp] r5_4
@[simp] theorem n5_5 : evCode P Γ call n f m (cAt [1,1] B5) s H = seqNext P Γ call n f m (cAt [1,1,1] B5) (evCode P Γ call n f m (cAt [1,1,0] B5) s H) := qS
noncomputable def r5_6 : {l : List Oper // opsOf (cAt [1,1,0] B5) = l} := by
  apply Subtype.mk
  dsimp [B5, Try.f5]
@[simp] theorem n5_6 : evCode P Γ call n f m (cAt [1,1,0] B5) s H = regNext (evOpsGo P Γ call r5_6.1 r5_6.1 s H) := qR r5_6.2
attribute [simp] r5_6
@[simp] theorem n5_7 : evCode P Γ call n f m (cAt [1,1,1] B5) s H = seqNext P Γ call n f m (cAt [1,1,1,1] B5) (evCode P Γ call n f m (cAt [1,1,1,0] B5) s H) := qS
noncomputable def r5_8 : {l : List Oper // opsOf (cAt [1,1,1,0] B5) = l} := by
  apply Subtype.mk
  dsimp [B5, Try.f5]
@[simp] theorem n5_8 : evCode P Γ call n f m (cAt [1,1,1,0] B5) s H = regNext (evOpsGo P Γ call r5_8.1 r5_8.1 s H) := qR r5_8.2
attribute [simp] r5_8
@[simp] theorem n5_9 : evCode P Γ call n f m (cAt [1,1,1,1] B5) s H = seqNext P Γ call n f m (cAt [1,1,1,1,1] B5) (evCode P Γ call n f m (cAt [1,1,1,1,0] B5) s H) := qS
noncomputable def r5_10 : {l : List Oper // opsOf (cAt [1,1,1,1,0] B5) = l} := by
  apply Subtype.mk
  dsimp [B5, Try.f5]
@[simp] theorem n5_10 : evCode P Γ call n f m (cAt [1,1,1,1,0] B5) s H = regNext (evOpsGo P Γ call r5_10.1 r5_10.1 s H) := qR r5_10.2
attribute [simp] r5_10
@[simp] theorem n5_11 : evCode P Γ call n f m (cAt [1,1,1,1,1] B5) s H = seqNext P Γ call n f m (cAt [1,1,1,1,1,1] B5) (evCode P Γ call n f m (cAt [1,1,1,1,1,0] B5) s H) := qS
noncomputable def r5_12 : {l : List Oper // opsOf (cAt [1,1,1,1,1,0] B5) = l} := by
  apply Subtype.mk
  dsimp [B5, Try.f5]
@[simp] theorem n5_12 : evCode P Γ call n f m (cAt [1,1,1,1,1,0] B5) s H = regNext (evOpsGo P Γ call r5_12.1 r5_12.1 s H) := qR r5_12.2
attribute [simp] r5_12
@[simp] theorem n5_13 : evCode P Γ call n f m (cAt [1,1,1,1,1,1] B5) s H = seqNext P Γ call n f m (cAt [1,1,1,1,1,1,1] B5) (evCode P Γ call n f m (cAt [1,1,1,1,1,1,0] B5) s H) := qS
@[simp] theorem n5_14 : evCode P Γ call n f m (cAt [1,1,1,1,1,1,0] B5) s H = seqNext P Γ call n f m (cAt [1,1,1,1,1,1,0,1] B5) (evCode P Γ call n f m (cAt [1,1,1,1,1,1,0,0] B5) s H) := qS
noncomputable def r5_15 : {l : List Oper // opsOf (cAt [1,1,1,1,1,1,0,0] B5) = l} := by
  apply Subtype.mk
  dsimp [B5, Try.f5]
@[simp] theorem n5_15 : evCode P Γ call n f m (cAt [1,1,1,1,1,1,0,0] B5) s H = regNext (evOpsGo P Γ call r5_15.1 r5_15.1 s H) := qR r5_15.2
attribute [simp] r5_15
@[simp] theorem n5_16 : evCode P Γ call n f m (cAt [1,1,1,1,1,1,0,1] B5) s H = condW P Γ call n f m (cAt [1,1,1,1,1,1,0,1,0] B5) (cAt [1,1,1,1,1,1,0,1,1] B5) s H (evOperand Γ s (.tmp 41)) := qC
@[simp] theorem n5_17 : evCode P Γ call n f m (cAt [1,1,1,1,1,1,0,1,0] B5) s H = seqNext P Γ call n f m (cAt [1,1,1,1,1,1,0,1,0,1] B5) (evCode P Γ call n f m (cAt [1,1,1,1,1,1,0,1,0,0] B5) s H) := qS
noncomputable def r5_18 : {l : List Oper // opsOf (cAt [1,1,1,1,1,1,0,1,0,0] B5) = l} := by
  apply Subtype.mk
  dsimp [B5, Try.f5]
@[simp] theorem n5_18 : evCode P Γ call n f m (cAt [1,1,1,1,1,1,0,1,0,0] B5) s H = regNext (evOpsGo P Γ call r5_18.1 r5_18.1 s H) := qR r5_18.2
attribute [simp] r5_18
@[simp] theorem n5_19 : evCode P Γ call n f m (cAt [1,1,1,1,1,1,0,1,0,1] B5) s H = seqNext P Γ call n f m (cAt [1,1,1,1,1,1,0,1,0,1,1] B5) (evCode P Γ call n f m (cAt [1,1,1,1,1,1,0,1,0,1,0] B5) s H) := qS
noncomputable def r5_20 : {l : List Oper // opsOf (cAt [1,1,1,1,1,1,0,1,0,1,0] B5) = l} := by
  apply Subtype.mk
  dsimp [B5, Try.f5]
@[simp] theorem n5_20 : evCode P Γ call n f m (cAt [1,1,1,1,1,1,0,1,0,1,0] B5) s H = regNext (evOpsGo P Γ call r5_20.1 r5_20.1 s H) := qR r5_20.2
attribute [simp] r5_20
@[simp] theorem n5_21 : evCode P Γ call n f m (cAt [1,1,1,1,1,1,0,1,0,1,1] B5) s H = seqNext P Γ call n f m (cAt [1,1,1,1,1,1,0,1,0,1,1,1] B5) (evCode P Γ call n f m (cAt [1,1,1,1,1,1,0,1,0,1,1,0] B5) s H) := qS
noncomputable def r5_22 : {l : List Oper // opsOf (cAt [1,1,1,1,1,1,0,1,0,1,1,0] B5) = l} := by
  apply Subtype.mk
  dsimp [B5, Try.f5]
@[simp] theorem n5_22 : evCode P Γ call n f m (cAt [1,1,1,1,1,1,0,1,0,1,1,0] B5) s H = regNext (evOpsGo P Γ call r5_22.1 r5_22.1 s H) := qR r5_22.2
attribute [simp] r5_22
@[simp] theorem n5_23 : evCode P Γ call n f m (cAt [1,1,1,1,1,1,0,1,0,1,1,1] B5) s H = condW P Γ call n f m (cAt [1,1,1,1,1,1,0,1,0,1,1,1,0] B5) (cAt [1,1,1,1,1,1,0,1,0,1,1,1,1] B5) s H (evOperand Γ s (.tmp 49)) := qC
noncomputable def r5_24 : {l : List Oper // opsOf (cAt [1,1,1,1,1,1,0,1,0,1,1,1,0] B5) = l} := by
  apply Subtype.mk
  dsimp [B5, Try.f5]
@[simp] theorem n5_24 : evCode P Γ call n f m (cAt [1,1,1,1,1,1,0,1,0,1,1,1,0] B5) s H = regNext (evOpsGo P Γ call r5_24.1 r5_24.1 s H) := qR r5_24.2
attribute [simp] r5_24
@[simp] theorem n5_25 : evCode P Γ call n f m (cAt [1,1,1,1,1,1,0,1,0,1,1,1,1] B5) s H = some (.normal, s, H) := qK
@[simp] theorem n5_26 : evCode P Γ call n f m (cAt [1,1,1,1,1,1,0,1,1] B5) s H = some (.normal, s, H) := qK
@[simp] theorem n5_27 : evCode P Γ call n f m (cAt [1,1,1,1,1,1,1] B5) s H = seqNext P Γ call n f m (cAt [1,1,1,1,1,1,1,1] B5) (evCode P Γ call n f m (cAt [1,1,1,1,1,1,1,0] B5) s H) := qS
@[simp] theorem n5_28 : evCode P Γ call n f m (cAt [1,1,1,1,1,1,1,0] B5) s H = seqNext P Γ call n f m (cAt [1,1,1,1,1,1,1,0,1] B5) (evCode P Γ call n f m (cAt [1,1,1,1,1,1,1,0,0] B5) s H) := qS
noncomputable def r5_29 : {l : List Oper // opsOf (cAt [1,1,1,1,1,1,1,0,0] B5) = l} := by
  apply Subtype.mk
  dsimp [B5, Try.f5]
@[simp] theorem n5_29 : evCode P Γ call n f m (cAt [1,1,1,1,1,1,1,0,0] B5) s H = regNext (evOpsGo P Γ call r5_29.1 r5_29.1 s H) := qR r5_29.2
attribute [simp] r5_29
@[simp] theorem n5_30 : evCode P Γ call n f m (cAt [1,1,1,1,1,1,1,0,1] B5) s H = condW P Γ call n f m (cAt [1,1,1,1,1,1,1,0,1,0] B5) (cAt [1,1,1,1,1,1,1,0,1,1] B5) s H (evOperand Γ s (.tmp 66)) := qC
@[simp] theorem n5_31 : evCode P Γ call n f m (cAt [1,1,1,1,1,1,1,0,1,0] B5) s H = seqNext P Γ call n f m (cAt [1,1,1,1,1,1,1,0,1,0,1] B5) (evCode P Γ call n f m (cAt [1,1,1,1,1,1,1,0,1,0,0] B5) s H) := qS
noncomputable def r5_32 : {l : List Oper // opsOf (cAt [1,1,1,1,1,1,1,0,1,0,0] B5) = l} := by
  apply Subtype.mk
  dsimp [B5, Try.f5]
@[simp] theorem n5_32 : evCode P Γ call n f m (cAt [1,1,1,1,1,1,1,0,1,0,0] B5) s H = regNext (evOpsGo P Γ call r5_32.1 r5_32.1 s H) := qR r5_32.2
attribute [simp] r5_32
@[simp] theorem n5_33 : evCode P Γ call n f m (cAt [1,1,1,1,1,1,1,0,1,0,1] B5) s H = some (.ret, s, H) := qT
@[simp] theorem n5_34 : evCode P Γ call n f m (cAt [1,1,1,1,1,1,1,0,1,1] B5) s H = some (.normal, s, H) := qK
@[simp] theorem n5_35 : evCode P Γ call n f m (cAt [1,1,1,1,1,1,1,1] B5) s H = seqNext P Γ call n f m (cAt [1,1,1,1,1,1,1,1,1] B5) (evCode P Γ call n f m (cAt [1,1,1,1,1,1,1,1,0] B5) s H) := qS
@[simp] theorem n5_36 : evCode P Γ call n f m (cAt [1,1,1,1,1,1,1,1,0] B5) s H = seqNext P Γ call n f m (cAt [1,1,1,1,1,1,1,1,0,1] B5) (evCode P Γ call n f m (cAt [1,1,1,1,1,1,1,1,0,0] B5) s H) := qS
noncomputable def r5_37 : {l : List Oper // opsOf (cAt [1,1,1,1,1,1,1,1,0,0] B5) = l} := by
  apply Subtype.mk
  dsimp [B5, Try.f5]
@[simp] theorem n5_37 : evCode P Γ call n f m (cAt [1,1,1,1,1,1,1,1,0,0] B5) s H = regNext (evOpsGo P Γ call r5_37.1 r5_37.1 s H) := qR r5_37.2
attribute [simp] r5_37
@[simp] theorem n5_38 : evCode P Γ call n f m (cAt [1,1,1,1,1,1,1,1,0,1] B5) s H = condW P Γ call n f m (cAt [1,1,1,1,1,1,1,1,0,1,0] B5) (cAt [1,1,1,1,1,1,1,1,0,1,1] B5) s H (evOperand Γ s (.tmp 68)) := qC
@[simp] theorem n5_39 : evCode P Γ call n f m (cAt [1,1,1,1,1,1,1,1,0,1,0] B5) s H = seqNext P Γ call n f m (cAt [1,1,1,1,1,1,1,1,0,1,0,1] B5) (evCode P Γ call n f m (cAt [1,1,1,1,1,1,1,1,0,1,0,0] B5) s H) := qS
noncomputable def r5_40 : {l : List Oper // opsOf (cAt [1,1,1,1,1,1,1,1,0,1,0,0] B5) = l} := by
  apply Subtype.mk
  dsimp [B5, Try.f5]
@[simp] theorem n5_40 : evCode P Γ call n f m (cAt [1,1,1,1,1,1,1,1,0,1,0,0] B5) s H = regNext (evOpsGo P Γ call r5_40.1 r5_40.1 s H) := qR r5_40.2
attribute [simp] r5_40
@[simp] theorem n5_41 : evCode P Γ call n f m (cAt [1,1,1,1,1,1,1,1,0,1,0,1] B5) s H = some (.ret, s, H) := qT
@[simp] theorem n5_42 : evCode P Γ call n f m (cAt [1,1,1,1,1,1,1,1,0,1,1] B5) s H = some (.normal, s, H) := qK
@[simp] theorem n5_43 : evCode P Γ call n f m (cAt [1,1,1,1,1,1,1,1,1] B5) s H = seqNext P Γ call n f m (cAt [1,1,1,1,1,1,1,1,1,1] B5) (evCode P Γ call n f m (cAt [1,1,1,1,1,1,1,1,1,0] B5) s H) := qS
noncomputable def r5_44 : {l : List Oper // opsOf (cAt [1,1,1,1,1,1,1,1,1,0] B5) = l} := by
  apply Subtype.mk
  dsimp [B5, Try.f5]
@[simp] theorem n5_44 : evCode P Γ call n f m (cAt [1,1,1,1,1,1,1,1,1,0] B5) s H = regNext (evOpsGo P Γ call r5_44.1 r5_44.1 s H) := qR r5_44.2
attribute [simp] r5_44
@[simp] theorem n5_45 : evCode P Γ call n f m (cAt [1,1,1,1,1,1,1,1,1,1] B5) s H = seqNext P Γ call n f m (cAt [1,1,1,1,1,1,1,1,1,1,1] B5) (evCode P Γ call n f m (cAt [1,1,1,1,1,1,1,1,1,1,0] B5) s H) := qS
@[simp] theorem n5_46 : evCode P Γ call n f m (cAt [1,1,1,1,1,1,1,1,1,1,0] B5) s H = seqNext P Γ call n f m (cAt [1,1,1,1,1,1,1,1,1,1,0,1] B5) (evCode P Γ call n f m (cAt [1,1,1,1,1,1,1,1,1,1,0,0] B5) s H) := qS
noncomputable def r5_47 : {l : List Oper // opsOf (cAt [1,1,1,1,1,1,1,1,1,1,0,0] B5) = l} := by
  apply Subtype.mk
  dsimp [B5, Try.f5]
@[simp] theorem n5_47 : evCode P Γ call n f m (cAt [1,1,1,1,1,1,1,1,1,1,0,0] B5) s H = regNext (evOpsGo P Γ call r5_47.1 r5_47.1 s H) := qR r5_47.2
attribute [simp] r5_47
@[simp] theorem n5_48 : evCode P Γ call n f m (cAt [1,1,1,1,1,1,1,1,1,1,0,1] B5) s H = condW P Γ call n f m (cAt [1,1,1,1,1,1,1,1,1,1,0,1,0] B5) (cAt [1,1,1,1,1,1,1,1,1,1,0,1,1] B5) s H (evOperand Γ s (.tmp 110)) := qC
@[simp] theorem n5_49 : evCode P Γ call n f m (cAt [1,1,1,1,1,1,1,1,1,1,0,1,0] B5) s H = seqNext P Γ call n f m (cAt [1,1,1,1,1,1,1,1,1,1,0,1,0,1] B5) (evCode P Γ call n f m (cAt [1,1,1,1,1,1,1,1,1,1,0,1,0,0] B5) s H) := qS
noncomputable def r5_50 : {l : List Oper // opsOf (cAt [1,1,1,1,1,1,1,1,1,1,0,1,0,0] B5) = l} := by
  apply Subtype.mk
  dsimp [B5, Try.f5]
@[simp] theorem n5_50 : evCode P Γ call n f m (cAt [1,1,1,1,1,1,1,1,1,1,0,1,0,0] B5) s H = regNext (evOpsGo P Γ call r5_50.1 r5_50.1 s H) := qR r5_50.2
attribute [simp] r5_50
@[simp] theorem n5_51 : evCode P Γ call n f m (cAt [1,1,1,1,1,1,1,1,1,1,0,1,0,1] B5) s H = some (.ret, s, H) := qT
@[simp] theorem n5_52 : evCode P Γ call n f m (cAt [1,1,1,1,1,1,1,1,1,1,0,1,1] B5) s H = some (.normal, s, H) := qK
@[simp] theorem n5_53 : evCode P Γ call n f m (cAt [1,1,1,1,1,1,1,1,1,1,1] B5) s H = seqNext P Γ call n f m (cAt [1,1,1,1,1,1,1,1,1,1,1,1] B5) (evCode P Γ call n f m (cAt [1,1,1,1,1,1,1,1,1,1,1,0] B5) s H) := qS
@[simp] theorem n5_54 : evCode P Γ call n f m (cAt [1,1,1,1,1,1,1,1,1,1,1,0] B5) s H = seqNext P Γ call n f m (cAt [1,1,1,1,1,1,1,1,1,1,1,0,1] B5) (evCode P Γ call n f m (cAt [1,1,1,1,1,1,1,1,1,1,1,0,0] B5) s H) := qS
noncomputable def r5_55 : {l : List Oper // opsOf (cAt [1,1,1,1,1,1,1,1,1,1,1,0,0] B5) = l} := by
  apply Subtype.mk
  dsimp [B5, Try.f5]
@[simp] theorem n5_55 : evCode P Γ call n f m (cAt [1,1,1,1,1,1,1,1,1,1,1,0,0] B5) s H = regNext (evOpsGo P Γ call r5_55.1 r5_55.1 s H) := qR r5_55.2
attribute [simp] r5_55
@[simp] theorem n5_56 : evCode P Γ call n f m (cAt [1,1,1,1,1,1,1,1,1,1,1,0,1] B5) s H = blockNext 0 (evCode P Γ call n f m (cAt [1,1,1,1,1,1,1,1,1,1,1,0,1,0] B5) s H) := qB
@[simp] theorem n5_57 : evCode P Γ call n f m (cAt [1,1,1,1,1,1,1,1,1,1,1,0,1,0] B5) s H = evLoopC P Γ call n f m (cAt [1,1,1,1,1,1,1,1,1,1,1,0,1,0,0] B5) n s H := qL
noncomputable abbrev L5_19 : Code := cAt [1,1,1,1,1,1,1,1,1,1,1,0,1,0,0] B5
@[simp] theorem n5_57f : firstRegion (cAt [1,1,1,1,1,1,1,1,1,1,1,0,1,0,0] B5) = 19 := by kernel_rfl
@[simp] theorem n5_58 : evCode P Γ call n f m (cAt [1,1,1,1,1,1,1,1,1,1,1,0,1,0,0] B5) s H = seqNext P Γ call n f m (cAt [1,1,1,1,1,1,1,1,1,1,1,0,1,0,0,1] B5) (evCode P Γ call n f m (cAt [1,1,1,1,1,1,1,1,1,1,1,0,1,0,0,0] B5) s H) := qS
noncomputable def r5_59 : {l : List Oper // opsOf (cAt [1,1,1,1,1,1,1,1,1,1,1,0,1,0,0,0] B5) = l} := by
  apply Subtype.mk
  dsimp [B5, Try.f5]
@[simp] theorem n5_59 : evCode P Γ call n f m (cAt [1,1,1,1,1,1,1,1,1,1,1,0,1,0,0,0] B5) s H = regNext (evOpsGo P Γ call r5_59.1 r5_59.1 s H) := qR r5_59.2
attribute [simp] r5_59
@[simp] theorem n5_60 : evCode P Γ call n f m (cAt [1,1,1,1,1,1,1,1,1,1,1,0,1,0,0,1] B5) s H = seqNext P Γ call n f m (cAt [1,1,1,1,1,1,1,1,1,1,1,0,1,0,0,1,1] B5) (evCode P Γ call n f m (cAt [1,1,1,1,1,1,1,1,1,1,1,0,1,0,0,1,0] B5) s H) := qS
@[simp] theorem n5_61 : evCode P Γ call n f m (cAt [1,1,1,1,1,1,1,1,1,1,1,0,1,0,0,1,0] B5) s H = condW P Γ call n f m (cAt [1,1,1,1,1,1,1,1,1,1,1,0,1,0,0,1,0,0] B5) (cAt [1,1,1,1,1,1,1,1,1,1,1,0,1,0,0,1,0,1] B5) s H (evOperand Γ s (.tmp 117)) := qC
@[simp] theorem n5_62 : evCode P Γ call n f m (cAt [1,1,1,1,1,1,1,1,1,1,1,0,1,0,0,1,0,0] B5) s H = some (.normal, s, H) := qK
@[simp] theorem n5_63 : evCode P Γ call n f m (cAt [1,1,1,1,1,1,1,1,1,1,1,0,1,0,0,1,0,1] B5) s H = some (.exit 0, s, H) := qE
@[simp] theorem n5_64 : evCode P Γ call n f m (cAt [1,1,1,1,1,1,1,1,1,1,1,0,1,0,0,1,1] B5) s H = seqNext P Γ call n f m (cAt [1,1,1,1,1,1,1,1,1,1,1,0,1,0,0,1,1,1] B5) (evCode P Γ call n f m (cAt [1,1,1,1,1,1,1,1,1,1,1,0,1,0,0,1,1,0] B5) s H) := qS
@[simp] theorem n5_65 : evCode P Γ call n f m (cAt [1,1,1,1,1,1,1,1,1,1,1,0,1,0,0,1,1,0] B5) s H = blockNext 1 (evCode P Γ call n f m (cAt [1,1,1,1,1,1,1,1,1,1,1,0,1,0,0,1,1,0,0] B5) s H) := qB
@[simp] theorem n5_66 : evCode P Γ call n f m (cAt [1,1,1,1,1,1,1,1,1,1,1,0,1,0,0,1,1,0,0] B5) s H = seqNext P Γ call n f m (cAt [1,1,1,1,1,1,1,1,1,1,1,0,1,0,0,1,1,0,0,1] B5) (evCode P Γ call n f m (cAt [1,1,1,1,1,1,1,1,1,1,1,0,1,0,0,1,1,0,0,0] B5) s H) := qS
noncomputable def r5_67 : {l : List Oper // opsOf (cAt [1,1,1,1,1,1,1,1,1,1,1,0,1,0,0,1,1,0,0,0] B5) = l} := by
  apply Subtype.mk
  dsimp [B5, Try.f5]
@[simp] theorem n5_67 : evCode P Γ call n f m (cAt [1,1,1,1,1,1,1,1,1,1,1,0,1,0,0,1,1,0,0,0] B5) s H = regNext (evOpsGo P Γ call r5_67.1 r5_67.1 s H) := qR r5_67.2
attribute [simp] r5_67
@[simp] theorem n5_68 : evCode P Γ call n f m (cAt [1,1,1,1,1,1,1,1,1,1,1,0,1,0,0,1,1,0,0,1] B5) s H = seqNext P Γ call n f m (cAt [1,1,1,1,1,1,1,1,1,1,1,0,1,0,0,1,1,0,0,1,1] B5) (evCode P Γ call n f m (cAt [1,1,1,1,1,1,1,1,1,1,1,0,1,0,0,1,1,0,0,1,0] B5) s H) := qS
noncomputable def r5_69 : {l : List Oper // opsOf (cAt [1,1,1,1,1,1,1,1,1,1,1,0,1,0,0,1,1,0,0,1,0] B5) = l} := by
  apply Subtype.mk
  dsimp [B5, Try.f5]
@[simp] theorem n5_69 : evCode P Γ call n f m (cAt [1,1,1,1,1,1,1,1,1,1,1,0,1,0,0,1,1,0,0,1,0] B5) s H = regNext (evOpsGo P Γ call r5_69.1 r5_69.1 s H) := qR r5_69.2
attribute [simp] r5_69
@[simp] theorem n5_70 : evCode P Γ call n f m (cAt [1,1,1,1,1,1,1,1,1,1,1,0,1,0,0,1,1,0,0,1,1] B5) s H = condW P Γ call n f m (cAt [1,1,1,1,1,1,1,1,1,1,1,0,1,0,0,1,1,0,0,1,1,0] B5) (cAt [1,1,1,1,1,1,1,1,1,1,1,0,1,0,0,1,1,0,0,1,1,1] B5) s H (evOperand Γ s (.tmp 127)) := qC
@[simp] theorem n5_71 : evCode P Γ call n f m (cAt [1,1,1,1,1,1,1,1,1,1,1,0,1,0,0,1,1,0,0,1,1,0] B5) s H = seqNext P Γ call n f m (cAt [1,1,1,1,1,1,1,1,1,1,1,0,1,0,0,1,1,0,0,1,1,0,1] B5) (evCode P Γ call n f m (cAt [1,1,1,1,1,1,1,1,1,1,1,0,1,0,0,1,1,0,0,1,1,0,0] B5) s H) := qS
noncomputable def r5_72 : {l : List Oper // opsOf (cAt [1,1,1,1,1,1,1,1,1,1,1,0,1,0,0,1,1,0,0,1,1,0,0] B5) = l} := by
  apply Subtype.mk
  dsimp [B5, Try.f5]
@[simp] theorem n5_72 : evCode P Γ call n f m (cAt [1,1,1,1,1,1,1,1,1,1,1,0,1,0,0,1,1,0,0,1,1,0,0] B5) s H = regNext (evOpsGo P Γ call r5_72.1 r5_72.1 s H) := qR r5_72.2
attribute [simp] r5_72
@[simp] theorem n5_73 : evCode P Γ call n f m (cAt [1,1,1,1,1,1,1,1,1,1,1,0,1,0,0,1,1,0,0,1,1,0,1] B5) s H = some (.ret, s, H) := qT
@[simp] theorem n5_74 : evCode P Γ call n f m (cAt [1,1,1,1,1,1,1,1,1,1,1,0,1,0,0,1,1,0,0,1,1,1] B5) s H = some (.normal, s, H) := qK
noncomputable def r5_75 : {l : List Oper // opsOf (cAt [1,1,1,1,1,1,1,1,1,1,1,0,1,0,0,1,1,1] B5) = l} := by
  apply Subtype.mk
  dsimp [B5, Try.f5]
@[simp] theorem n5_75 : evCode P Γ call n f m (cAt [1,1,1,1,1,1,1,1,1,1,1,0,1,0,0,1,1,1] B5) s H = regNext (evOpsGo P Γ call r5_75.1 r5_75.1 s H) := qR r5_75.2
attribute [simp] r5_75
@[simp] theorem n5_76 : evCode P Γ call n f m (cAt [1,1,1,1,1,1,1,1,1,1,1,1] B5) s H = seqNext P Γ call n f m (cAt [1,1,1,1,1,1,1,1,1,1,1,1,1] B5) (evCode P Γ call n f m (cAt [1,1,1,1,1,1,1,1,1,1,1,1,0] B5) s H) := qS
noncomputable def r5_77 : {l : List Oper // opsOf (cAt [1,1,1,1,1,1,1,1,1,1,1,1,0] B5) = l} := by
  apply Subtype.mk
  dsimp [B5, Try.f5]
@[simp] theorem n5_77 : evCode P Γ call n f m (cAt [1,1,1,1,1,1,1,1,1,1,1,1,0] B5) s H = regNext (evOpsGo P Γ call r5_77.1 r5_77.1 s H) := qR r5_77.2
attribute [simp] r5_77
@[simp] theorem n5_78 : evCode P Γ call n f m (cAt [1,1,1,1,1,1,1,1,1,1,1,1,1] B5) s H = some (.ret, s, H) := qT
theorem b5 {k : Nat} (ho : ∀ args H, Γ.orc 5 args H = none) (args : List V) (H : Heap) (ha : args.length ≤ 129) : evF Try.prog Γ (k + 1) 5 args H = bodyEnd Try.prog [.tmp 4] H.length (evCode Try.prog Γ (evF Try.prog Γ k) k 5 H.length (cAt [] B5) (mkL 129 V.undef (enumV 0 args)) H) := body_at Try.func5 (by decide) rfl ho rfl rfl args H ha
noncomputable def B6 : Code := bodyOf Try.f6
@[simp] theorem n6_1 : evCode P Γ call n f m (cAt [] B6) s H = seqNext P Γ call n f m (cAt [1] B6) (evCode P Γ call n f m (cAt [0] B6) s H) := qS
noncomputable def r6_2 : {l : List Oper // opsOf (cAt [0] B6) = l} := by
  apply Subtype.mk
  dsimp [B6, Try.f6]
@[simp] theorem n6_2 : evCode P Γ call n f m (cAt [0] B6) s H = regNext (evOpsGo P Γ call r6_2.1 r6_2.1 s H) := qR r6_2.2
attribute [simp] r6_2
@[simp] theorem n6_3 : evCode P Γ call n f m (cAt [1] B6) s H = seqNext P Γ call n f m (cAt [1,1] B6) (evCode P Γ call n f m (cAt [1,0] B6) s H) := qS
noncomputable def r6_4 : {l : List Oper // opsOf (cAt [1,0] B6) = l} := by
  apply Subtype.mk
  dsimp [B6, Try.f6]
@[simp] theorem n6_4 : evCode P Γ call n f m (cAt [1,0] B6) s H = regNext (evOpsGo P Γ call r6_4.1 r6_4.1 s H) := qR r6_4.2
attribute [simp] r6_4
@[simp] theorem n6_5 : evCode P Γ call n f m (cAt [1,1] B6) s H = seqNext P Γ call n f m (cAt [1,1,1] B6) (evCode P Γ call n f m (cAt [1,1,0] B6) s H) := qS
noncomputable def r6_6 : {l : List Oper // opsOf (cAt [1,1,0] B6) = l} := by
  apply Subtype.mk
  dsimp [B6, Try.f6]
@[simp] theorem n6_6 : evCode P Γ call n f m (cAt [1,1,0] B6) s H = regNext (evOpsGo P Γ call r6_6.1 r6_6.1 s H) := qR r6_6.2
attribute [simp] r6_6
@[simp] theorem n6_7 : evCode P Γ call n f m (cAt [1,1,1] B6) s H = seqNext P Γ call n f m (cAt [1,1,1,1] B6) (evCode P Γ call n f m (cAt [1,1,1,0] B6) s H) := qS
noncomputable def r6_8 : {l : List Oper // opsOf (cAt [1,1,1,0] B6) = l} := by
  apply Subtype.mk
  dsimp [B6, Try.f6]
@[simp] theorem n6_8 : evCode P Γ call n f m (cAt [1,1,1,0] B6) s H = regNext (evOpsGo P Γ call r6_8.1 r6_8.1 s H) := qR r6_8.2
attribute [simp] r6_8
@[simp] theorem n6_9 : evCode P Γ call n f m (cAt [1,1,1,1] B6) s H = seqNext P Γ call n f m (cAt [1,1,1,1,1] B6) (evCode P Γ call n f m (cAt [1,1,1,1,0] B6) s H) := qS
@[simp] theorem n6_10 : evCode P Γ call n f m (cAt [1,1,1,1,0] B6) s H = seqNext P Γ call n f m (cAt [1,1,1,1,0,1] B6) (evCode P Γ call n f m (cAt [1,1,1,1,0,0] B6) s H) := qS
noncomputable def r6_11 : {l : List Oper // opsOf (cAt [1,1,1,1,0,0] B6) = l} := by
  apply Subtype.mk
  dsimp [B6, Try.f6]
@[simp] theorem n6_11 : evCode P Γ call n f m (cAt [1,1,1,1,0,0] B6) s H = regNext (evOpsGo P Γ call r6_11.1 r6_11.1 s H) := qR r6_11.2
attribute [simp] r6_11
@[simp] theorem n6_12 : evCode P Γ call n f m (cAt [1,1,1,1,0,1] B6) s H = condW P Γ call n f m (cAt [1,1,1,1,0,1,0] B6) (cAt [1,1,1,1,0,1,1] B6) s H (evOperand Γ s (.tmp 54)) := qC
@[simp] theorem n6_13 : evCode P Γ call n f m (cAt [1,1,1,1,0,1,0] B6) s H = seqNext P Γ call n f m (cAt [1,1,1,1,0,1,0,1] B6) (evCode P Γ call n f m (cAt [1,1,1,1,0,1,0,0] B6) s H) := qS
noncomputable def r6_14 : {l : List Oper // opsOf (cAt [1,1,1,1,0,1,0,0] B6) = l} := by
  apply Subtype.mk
  dsimp [B6, Try.f6]
@[simp] theorem n6_14 : evCode P Γ call n f m (cAt [1,1,1,1,0,1,0,0] B6) s H = regNext (evOpsGo P Γ call r6_14.1 r6_14.1 s H) := qR r6_14.2
attribute [simp] r6_14
@[simp] theorem n6_15 : evCode P Γ call n f m (cAt [1,1,1,1,0,1,0,1] B6) s H = some (.ret, s, H) := qT
@[simp] theorem n6_16 : evCode P Γ call n f m (cAt [1,1,1,1,0,1,1] B6) s H = some (.normal, s, H) := qK
@[simp] theorem n6_17 : evCode P Γ call n f m (cAt [1,1,1,1,1] B6) s H = seqNext P Γ call n f m (cAt [1,1,1,1,1,1] B6) (evCode P Γ call n f m (cAt [1,1,1,1,1,0] B6) s H) := qS
noncomputable def r6_18 : {l : List Oper // opsOf (cAt [1,1,1,1,1,0] B6) = l} := by
  apply Subtype.mk
  dsimp [B6, Try.f6]
@[simp] theorem n6_18 : evCode P Γ call n f m (cAt [1,1,1,1,1,0] B6) s H = regNext (evOpsGo P Γ call r6_18.1 r6_18.1 s H) := qR r6_18.2
attribute [simp] r6_18
@[simp] theorem n6_19 : evCode P Γ call n f m (cAt [1,1,1,1,1,1] B6) s H = seqNext P Γ call n f m (cAt [1,1,1,1,1,1,1] B6) (evCode P Γ call n f m (cAt [1,1,1,1,1,1,0] B6) s H) := qS
noncomputable def r6_20 : {l : List Oper // opsOf (cAt [1,1,1,1,1,1,0] B6) = l} := by
  apply Subtype.mk
  dsimp [B6, Try.f6]
@[simp] theorem n6_20 : evCode P Γ call n f m (cAt [1,1,1,1,1,1,0] B6) s H = regNext (evOpsGo P Γ call r6_20.1 r6_20.1 s H) := qR r6_20.2
attribute [simp] r6_20
@[simp] theorem n6_21 : evCode P Γ call n f m (cAt [1,1,1,1,1,1,1] B6) s H = seqNext P Γ call n f m (cAt [1,1,1,1,1,1,1,1] B6) (evCode P Γ call n f m (cAt [1,1,1,1,1,1,1,0] B6) s H) := qS
@[simp] theorem n6_22 : evCode P Γ call n f m (cAt [1,1,1,1,1,1,1,0] B6) s H = seqNext P Γ call n f m (cAt [1,1,1,1,1,1,1,0,1] B6) (evCode P Γ call n f m (cAt [1,1,1,1,1,1,1,0,0] B6) s H) := qS
noncomputable def r6_23 : {l : List Oper // opsOf (cAt [1,1,1,1,1,1,1,0,0] B6) = l} := by
  apply Subtype.mk
  dsimp [B6, Try.f6]
@[simp] theorem n6_23 : evCode P Γ call n f m (cAt [1,1,1,1,1,1,1,0,0] B6) s H = regNext (evOpsGo P Γ call r6_23.1 r6_23.1 s H) := qR r6_23.2
attribute [simp] r6_23
@[simp] theorem n6_24 : evCode P Γ call n f m (cAt [1,1,1,1,1,1,1,0,1] B6) s H = condW P Γ call n f m (cAt [1,1,1,1,1,1,1,0,1,0] B6) (cAt [1,1,1,1,1,1,1,0,1,1] B6) s H (evOperand Γ s (.tmp 87)) := qC
@[simp] theorem n6_25 : evCode P Γ call n f m (cAt [1,1,1,1,1,1,1,0,1,0] B6) s H = seqNext P Γ call n f m (cAt [1,1,1,1,1,1,1,0,1,0,1] B6) (evCode P Γ call n f m (cAt [1,1,1,1,1,1,1,0,1,0,0] B6) s H) := qS
noncomputable def r6_26 : {l : List Oper // opsOf (cAt [1,1,1,1,1,1,1,0,1,0,0] B6) = l} := by
  apply Subtype.mk
  dsimp [B6, Try.f6]
@[simp] theorem n6_26 : evCode P Γ call n f m (cAt [1,1,1,1,1,1,1,0,1,0,0] B6) s H = regNext (evOpsGo P Γ call r6_26.1 r6_26.1 s H) := qR r6_26.2
attribute [simp] r6_26
@[simp] theorem n6_27 : evCode P Γ call n f m (cAt [1,1,1,1,1,1,1,0,1,0,1] B6) s H = seqNext P Γ call n f m (cAt [1,1,1,1,1,1,1,0,1,0,1,1] B6) (evCode P Γ call n f m (cAt [1,1,1,1,1,1,1,0,1,0,1,0] B6) s H) := qS
noncomputable def r6_28 : {l : List Oper // opsOf (cAt [1,1,1,1,1,1,1,0,1,0,1,0] B6) = l} := by
  apply Subtype.mk
  dsimp [B6, Try.f6]
@[simp] theorem n6_28 : evCode P Γ call n f m (cAt [1,1,1,1,1,1,1,0,1,0,1,0] B6) s H = regNext (evOpsGo P Γ call r6_28.1 r6_28.1 s H) := qR r6_28.2
attribute [simp] r6_28
@[simp] theorem n6_29 : evCode P Γ call n f m (cAt [1,1,1,1,1,1,1,0,1,0,1,1] B6) s H = seqNext P Γ call n f m (cAt [1,1,1,1,1,1,1,0,1,0,1,1,1] B6) (evCode P Γ call n f m (cAt [1,1,1,1,1,1,1,0,1,0,1,1,0] B6) s H) := qS
@[simp] theorem n6_30 : evCode P Γ call n f m (cAt [1,1,1,1,1,1,1,0,1,0,1,1,0] B6) s H = seqNext P Γ call n f m (cAt [1,1,1,1,1,1,1,0,1,0,1,1,0,1] B6) (evCode P Γ call n f m (cAt [1,1,1,1,1,1,1,0,1,0,1,1,0,0] B6) s H) := qS
noncomputable def r6_31 : {l : List Oper // opsOf (cAt [1,1,1,1,1,1,1,0,1,0,1,1,0,0] B6) = l} := by
  apply Subtype.mk
  dsimp [B6, Try.f6]
@[simp] theorem n6_31 : evCode P Γ call n f m (cAt [1,1,1,1,1,1,1,0,1,0,1,1,0,0] B6) s H = regNext (evOpsGo P Γ call r6_31.1 r6_31.1 s H) := qR r6_31.2
attribute [simp] r6_31
@[simp] theorem n6_32 : evCode P Γ call n f m (cAt [1,1,1,1,1,1,1,0,1,0,1,1,0,1] B6) s H = blockNext 0 (evCode P Γ call n f m (cAt [1,1,1,1,1,1,1,0,1,0,1,1,0,1,0] B6) s H) := qB
@[simp] theorem n6_33 : evCode P Γ call n f m (cAt [1,1,1,1,1,1,1,0,1,0,1,1,0,1,0] B6) s H = evLoopC P Γ call n f m (cAt [1,1,1,1,1,1,1,0,1,0,1,1,0,1,0,0] B6) n s H := qL
noncomputable abbrev L6_12 : Code := cAt [1,1,1,1,1,1,1,0,1,0,1,1,0,1,0,0] B6
@[simp] theorem n6_33f : firstRegion (cAt [1,1,1,1,1,1,1,0,1,0,1,1,0,1,0,0] B6) = 12 := by kernel_rfl
@[simp] theorem n6_34 : evCode P Γ call n f m (cAt [1,1,1,1,1,1,1,0,1,0,1,1,0,1,0,0] B6) s H = seqNext P Γ call n f m (cAt [1,1,1,1,1,1,1,0,1,0,1,1,0,1,0,0,1] B6) (evCode P Γ call n f m (cAt [1,1,1,1,1,1,1,0,1,0,1,1,0,1,0,0,0] B6) s H) := qS
noncomputable def r6_35 : {l : List Oper // opsOf (cAt [1,1,1,1,1,1,1,0,1,0,1,1,0,1,0,0,0] B6) = l} := by
  apply Subtype.mk
  dsimp [B6, Try.f6]
@[simp] theorem n6_35 : evCode P Γ call n f m (cAt [1,1,1,1,1,1,1,0,1,0,1,1,0,1,0,0,0] B6) s H = regNext (evOpsGo P Γ call r6_35.1 r6_35.1 s H) := qR r6_35.2
attribute [simp] r6_35
@[simp] theorem n6_36 : evCode P Γ call n f m (cAt [1,1,1,1,1,1,1,0,1,0,1,1,0,1,0,0,1] B6) s H = seqNext P Γ call n f m (cAt [1,1,1,1,1,1,1,0,1,0,1,1,0,1,0,0,1,1] B6) (evCode P Γ call n f m (cAt [1,1,1,1,1,1,1,0,1,0,1,1,0,1,0,0,1,0] B6) s H) := qS
@[simp] theorem n6_37 : evCode P Γ call n f m (cAt [1,1,1,1,1,1,1,0,1,0,1,1,0,1,0,0,1,0] B6) s H = condW P Γ call n f m (cAt [1,1,1,1,1,1,1,0,1,0,1,1,0,1,0,0,1,0,0] B6) (cAt [1,1,1,1,1,1,1,0,1,0,1,1,0,1,0,0,1,0,1] B6) s H (evOperand Γ s (.tmp 96)) := qC
@[simp] theorem n6_38 : evCode P Γ call n f m (cAt [1,1,1,1,1,1,1,0,1,0,1,1,0,1,0,0,1,0,0] B6) s H = some (.normal, s, H) := qK
@[simp] theorem n6_39 : evCode P Γ call n f m (cAt [1,1,1,1,1,1,1,0,1,0,1,1,0,1,0,0,1,0,1] B6) s H = some (.exit 0, s, H) := qE
@[simp] theorem n6_40 : evCode P Γ call n f m (cAt [1,1,1,1,1,1,1,0,1,0,1,1,0,1,0,0,1,1] B6) s H = seqNext P Γ call n f m (cAt [1,1,1,1,1,1,1,0,1,0,1,1,0,1,0,0,1,1,1] B6) (evCode P Γ call n f m (cAt [1,1,1,1,1,1,1,0,1,0,1,1,0,1,0,0,1,1,0] B6) s H) := qS
@[simp] theorem n6_41 : evCode P Γ call n f m (cAt [1,1,1,1,1,1,1,0,1,0,1,1,0,1,0,0,1,1,0] B6) s H = blockNext 1 (evCode P Γ call n f m (cAt [1,1,1,1,1,1,1,0,1,0,1,1,0,1,0,0,1,1,0,0] B6) s H) := qB
@[simp] theorem n6_42 : evCode P Γ call n f m (cAt [1,1,1,1,1,1,1,0,1,0,1,1,0,1,0,0,1,1,0,0] B6) s H = seqNext P Γ call n f m (cAt [1,1,1,1,1,1,1,0,1,0,1,1,0,1,0,0,1,1,0,0,1] B6) (evCode P Γ call n f m (cAt [1,1,1,1,1,1,1,0,1,0,1,1,0,1,0,0,1,1,0,0,0] B6) s H) := qS
noncomputable def r6_43 : {l : List Oper // opsOf (cAt [1,1,1,1,1,1,1,0,1,0,1,1,0,1,0,0,1,1,0,0,0] B6) = l} := by
  apply Subtype.mk
  dsimp [B6, Try.f6]
@[simp] theorem n6_43 : evCode P Γ call n f m (cAt [1,1,1,1,1,1,1,0,1,0,1,1,0,1,0,0,1,1,0,0,0] B6) s H = regNext (evOpsGo P Γ call r6_43.1 r6_43.1 s H) := qR r6_43.2
attribute [simp] r6_43
noncomputable def r6_44 : {l : List Oper // opsOf (cAt [1,1,1,1,1,1,1,0,1,0,1,1,0,1,0,0,1,1,0,0,1] B6) = l} := by
  apply Subtype.mk
  dsimp [B6, Try.f6]
@[simp] theorem n6_44 : evCode P Γ call n f m (cAt [1,1,1,1,1,1,1,0,1,0,1,1,0,1,0,0,1,1,0,0,1] B6) s H = regNext (evOpsGo P Γ call r6_44.1 r6_44.1 s H) := qR r6_44.2
attribute [simp] r6_44
noncomputable def r6_45 : {l : List Oper // opsOf (cAt [1,1,1,1,1,1,1,0,1,0,1,1,0,1,0,0,1,1,1] B6) = l} := by
  apply Subtype.mk
  dsimp [B6, Try.f6]
@[simp] theorem n6_45 : evCode P Γ call n f m (cAt [1,1,1,1,1,1,1,0,1,0,1,1,0,1,0,0,1,1,1] B6) s H = regNext (evOpsGo P Γ call r6_45.1 r6_45.1 s H) := qR r6_45.2
attribute [simp] r6_45
@[simp] theorem n6_46 : evCode P Γ call n f m (cAt [1,1,1,1,1,1,1,0,1,0,1,1,1] B6) s H = seqNext P Γ call n f m (cAt [1,1,1,1,1,1,1,0,1,0,1,1,1,1] B6) (evCode P Γ call n f m (cAt [1,1,1,1,1,1,1,0,1,0,1,1,1,0] B6) s H) := qS
noncomputable def r6_47 : {l : List Oper // opsOf (cAt [1,1,1,1,1,1,1,0,1,0,1,1,1,0] B6) = l} := by
  apply Subtype.mk
  dsimp [B6, Try.f6]
@[simp] theorem n6_47 : evCode P Γ call n f m (cAt [1,1,1,1,1,1,1,0,1,0,1,1,1,0] B6) s H = regNext (evOpsGo P Γ call r6_47.1 r6_47.1 s H) := qR r6_47.2
attribute [simp] r6_47
@[simp] theorem n6_48 : evCode P Γ call n f m (cAt [1,1,1,1,1,1,1,0,1,0,1,1,1,1] B6) s H = seqNext P Γ call n f m (cAt [1,1,1,1,1,1,1,0,1,0,1,1,1,1,1] B6) (evCode P Γ call n f m (cAt [1,1,1,1,1,1,1,0,1,0,1,1,1,1,0] B6) s H) := qS
noncomputable def r6_49 : {l : List Oper // opsOf (cAt [1,1,1,1,1,1,1,0,1,0,1,1,1,1,0] B6) = l} := by
  apply Subtype.mk
  dsimp [B6, Try.f6]
@[simp] theorem n6_49 : evCode P Γ call n f m (cAt [1,1,1,1,1,1,1,0,1,0,1,1,1,1,0] B6) s H = regNext (evOpsGo P Γ call r6_49.1 r6_49.1 s H) := qR r6_49.2
attribute [simp] r6_49
@[simp] theorem n6_50 : evCode P Γ call n f m (cAt [1,1,1,1,1,1,1,0,1,0,1,1,1,1,1] B6) s H = blockNext 2 (evCode P Γ call n f m (cAt [1,1,1,1,1,1,1,0,1,0,1,1,1,1,1,0] B6) s H) := qB
@[simp] theorem n6_51 : evCode P Γ call n f m (cAt [1,1,1,1,1,1,1,0,1,0,1,1,1,1,1,0] B6) s H = evLoopC P Γ call n f m (cAt [1,1,1,1,1,1,1,0,1,0,1,1,1,1,1,0,0] B6) n s H := qL
noncomputable abbrev L6_18 : Code := cAt [1,1,1,1,1,1,1,0,1,0,1,1,1,1,1,0,0] B6
@[simp] theorem n6_51f : firstRegion (cAt [1,1,1,1,1,1,1,0,1,0,1,1,1,1,1,0,0] B6) = 18 := by kernel_rfl
@[simp] theorem n6_52 : evCode P Γ call n f m (cAt [1,1,1,1,1,1,1,0,1,0,1,1,1,1,1,0,0] B6) s H = seqNext P Γ call n f m (cAt [1,1,1,1,1,1,1,0,1,0,1,1,1,1,1,0,0,1] B6) (evCode P Γ call n f m (cAt [1,1,1,1,1,1,1,0,1,0,1,1,1,1,1,0,0,0] B6) s H) := qS
noncomputable def r6_53 : {l : List Oper // opsOf (cAt [1,1,1,1,1,1,1,0,1,0,1,1,1,1,1,0,0,0] B6) = l} := by
  apply Subtype.mk
  dsimp [B6, Try.f6]
@[simp] theorem n6_53 : evCode P Γ call n f m (cAt [1,1,1,1,1,1,1,0,1,0,1,1,1,1,1,0,0,0] B6) s H = regNext (evOpsGo P Γ call r6_53.1 r6_53.1 s H) := qR r6_53.2
attribute [simp] r6_53
@[simp] theorem n6_54 : evCode P Γ call n f m (cAt [1,1,1,1,1,1,1,0,1,0,1,1,1,1,1,0,0,1] B6) s H = seqNext P Γ call n f m (cAt [1,1,1,1,1,1,1,0,1,0,1,1,1,1,1,0,0,1,1] B6) (evCode P Γ call n f m (cAt [1,1,1,1,1,1,1,0,1,0,1,1,1,1,1,0,0,1,0] B6) s H) := qS
@[simp] theorem n6_55 : evCode P Γ call n f m (cAt [1,1,1,1,1,1,1,0,1,0,1,1,1,1,1,0,0,1,0] B6) s H = condW P Γ call n f m (cAt [1,1,1,1,1,1,1,0,1,0,1,1,1,1,1,0,0,1,0,0] B6) (cAt [1,1,1,1,1,1,1,0,1,0,1,1,1,1,1,0,0,1,0,1] B6) s H (evOperand Γ s (.tmp 118)) := qC
@[simp] theorem n6_56 : evCode P Γ call n f m (cAt [1,1,1,1,1,1,1,0,1,0,1,1,1,1,1,0,0,1,0,0] B6) s H = some (.normal, s, H) := qK
@[simp] theorem n6_57 : evCode P Γ call n f m (cAt [1,1,1,1,1,1,1,0,1,0,1,1,1,1,1,0,0,1,0,1] B6) s H = some (.exit 2, s, H) := qE
@[simp] theorem n6_58 : evCode P Γ call n f m (cAt [1,1,1,1,1,1,1,0,1,0,1,1,1,1,1,0,0,1,1] B6) s H = seqNext P Γ call n f m (cAt [1,1,1,1,1,1,1,0,1,0,1,1,1,1,1,0,0,1,1,1] B6) (evCode P Γ call n f m (cAt [1,1,1,1,1,1,1,0,1,0,1,1,1,1,1,0,0,1,1,0] B6) s H) := qS
@[simp] theorem n6_59 : evCode P Γ call n f m (cAt [1,1,1,1,1,1,1,0,1,0,1,1,1,1,1,0,0,1,1,0] B6) s H = blockNext 3 (evCode P Γ call n f m (cAt [1,1,1,1,1,1,1,0,1,0,1,1,1,1,1,0,0,1,1,0,0] B6) s H) := qB
@[simp] theorem n6_60 : evCode P Γ call n f m (cAt [1,1,1,1,1,1,1,0,1,0,1,1,1,1,1,0,0,1,1,0,0] B6) s H = seqNext P Γ call n f m (cAt [1,1,1,1,1,1,1,0,1,0,1,1,1,1,1,0,0,1,1,0,0,1] B6) (evCode P Γ call n f m (cAt [1,1,1,1,1,1,1,0,1,0,1,1,1,1,1,0,0,1,1,0,0,0] B6) s H) := qS
noncomputable def r6_61 : {l : List Oper // opsOf (cAt [1,1,1,1,1,1,1,0,1,0,1,1,1,1,1,0,0,1,1,0,0,0] B6) = l} := by
  apply Subtype.mk
  dsimp [B6, Try.f6]
@[simp] theorem n6_61 : evCode P Γ call n f m (cAt [1,1,1,1,1,1,1,0,1,0,1,1,1,1,1,0,0,1,1,0,0,0] B6) s H = regNext (evOpsGo P Γ call r6_61.1 r6_61.1 s H) := qR r6_61.2
attribute [simp] r6_61
noncomputable def r6_62 : {l : List Oper // opsOf (cAt [1,1,1,1,1,1,1,0,1,0,1,1,1,1,1,0,0,1,1,0,0,1] B6) = l} := by
  apply Subtype.mk
  dsimp [B6, Try.f6]
@[simp] theorem n6_62 : evCode P Γ call n f m (cAt [1,1,1,1,1,1,1,0,1,0,1,1,1,1,1,0,0,1,1,0,0,1] B6) s H = regNext (drawR P Γ call r6_62.1 [([], []), ([], []), ([3,4,7,8,9,10,11,13,14], [124,125,128,129,130,131,132,134,135]), ([2,7,8,9,10,11,13,14], [123,128,129,130,131,132,134,135]), ([2,7,8,9,10,11,13,14], [123,128,129,130,131,132,134,135]), ([7,8,9,10,11,13,14], [128,129,130,131,132,134,135]), ([7,8,9,10,11,13,14], [128,129,130,131,132,134,135]), ([2,3,4,5,6,8,9,13,14], [123,124,125,126,127,129,130,134,135]), ([2,3,4,5,6,7,13,14], [123,124,125,126,127,128,134,135]), ([2,3,4,5,6,7,13,14], [123,124,125,126,127,128,134,135]), ([2,3,4,5,6,13,14], [123,124,125,126,127,134,135]), ([2,3,4,5,6,13,14], [123,124,125,126,127,134,135]), ([13,14], [134,135]), ([2,3,4,5,6,7,8,9,10,11,12], [123,124,125,126,127,128,129,130,131,132,133]), ([2,3,4,5,6,7,8,9,10,11,12], [123,124,125,126,127,128,129,130,131,132,133]), ([], []), ([], []), ([], [])] s H) := qD r6_62.2
attribute [simp] r6_62
noncomputable def r6_63 : {l : List Oper // opsOf (cAt [1,1,1,1,1,1,1,0,1,0,1,1,1,1,1,0,0,1,1,1] B6) = l} := by
  apply Subtype.mk
  dsimp [B6, Try.f6]
@[simp] theorem n6_63 : evCode P Γ call n f m (cAt [1,1,1,1,1,1,1,0,1,0,1,1,1,1,1,0,0,1,1,1] B6) s H = regNext (evOpsGo P Γ call r6_63.1 r6_63.1 s H) := qR r6_63.2
attribute [simp] r6_63
@[simp] theorem n6_64 : evCode P Γ call n f m (cAt [1,1,1,1,1,1,1,0,1,1] B6) s H = some (.normal, s, H) := qK
@[simp] theorem n6_65 : evCode P Γ call n f m (cAt [1,1,1,1,1,1,1,1] B6) s H = seqNext P Γ call n f m (cAt [1,1,1,1,1,1,1,1,1] B6) (evCode P Γ call n f m (cAt [1,1,1,1,1,1,1,1,0] B6) s H) := qS
@[simp] theorem n6_66 : evCode P Γ call n f m (cAt [1,1,1,1,1,1,1,1,0] B6) s H = seqNext P Γ call n f m (cAt [1,1,1,1,1,1,1,1,0,1] B6) (evCode P Γ call n f m (cAt [1,1,1,1,1,1,1,1,0,0] B6) s H) := qS
noncomputable def r6_67 : {l : List Oper // opsOf (cAt [1,1,1,1,1,1,1,1,0,0] B6) = l} := by
  apply Subtype.mk
  dsimp [B6, Try.f6]
@[simp] theorem n6_67 : evCode P Γ call n f m (cAt [1,1,1,1,1,1,1,1,0,0] B6) s H = regNext (evOpsGo P Γ call r6_67.1 r6_67.1 s H) := qR r6_67.2
attribute [simp] r6_67
@[simp] theorem n6_68 : evCode P Γ call n f m (cAt [1,1,1,1,1,1,1,1,0,1] B6) s H = condW P Γ call n f m (cAt [1,1,1,1,1,1,1,1,0,1,0] B6) (cAt [1,1,1,1,1,1,1,1,0,1,1] B6) s H (evOperand Γ s (.tmp 146)) := qC
@[simp] theorem n6_69 : evCode P Γ call n f m (cAt [1,1,1,1,1,1,1,1,0,1,0] B6) s H = seqNext P Γ call n f m (cAt [1,1,1,1,1,1,1,1,0,1,0,1] B6) (evCode P Γ call n f m (cAt [1,1,1,1,1,1,1,1,0,1,0,0] B6) s H) := qS
noncomputable def r6_70 : {l : List Oper // opsOf (cAt [1,1,1,1,1,1,1,1,0,1,0,0] B6) = l} := by
  apply Subtype.mk
  dsimp [B6, Try.f6]
@[simp] theorem n6_70 : evCode P Γ call n f m (cAt [1,1,1,1,1,1,1,1,0,1,0,0] B6) s H = regNext (evOpsGo P Γ call r6_70.1 r6_70.1 s H) := qR r6_70.2
attribute [simp] r6_70
@[simp] theorem n6_71 : evCode P Γ call n f m (cAt [1,1,1,1,1,1,1,1,0,1,0,1] B6) s H = some (.ret, s, H) := qT
@[simp] theorem n6_72 : evCode P Γ call n f m (cAt [1,1,1,1,1,1,1,1,0,1,1] B6) s H = some (.normal, s, H) := qK
@[simp] theorem n6_73 : evCode P Γ call n f m (cAt [1,1,1,1,1,1,1,1,1] B6) s H = seqNext P Γ call n f m (cAt [1,1,1,1,1,1,1,1,1,1] B6) (evCode P Γ call n f m (cAt [1,1,1,1,1,1,1,1,1,0] B6) s H) := qS
noncomputable def r6_74 : {l : List Oper // opsOf (cAt [1,1,1,1,1,1,1,1,1,0] B6) = l} := by
  apply Subtype.mk
  dsimp [B6, Try.f6]
@[simp] theorem n6_74 : evCode P Γ call n f m (cAt [1,1,1,1,1,1,1,1,1,0] B6) s H = regNext (evOpsGo P Γ call r6_74.1 r6_74.1 s H) := qR r6_74.2
attribute [simp] r6_74
@[simp] theorem n6_75 : evCode P Γ call n f m (cAt [1,1,1,1,1,1,1,1,1,1] B6) s H = seqNext P Γ call n f m (cAt [1,1,1,1,1,1,1,1,1,1,1] B6) (evCode P Γ call n f m (cAt [1,1,1,1,1,1,1,1,1,1,0] B6) s H) := qS
@[simp] theorem n6_76 : evCode P Γ call n f m (cAt [1,1,1,1,1,1,1,1,1,1,0] B6) s H = blockNext 4 (evCode P Γ call n f m (cAt [1,1,1,1,1,1,1,1,1,1,0,0] B6) s H) := qB
@[simp] theorem n6_77 : evCode P Γ call n f m (cAt [1,1,1,1,1,1,1,1,1,1,0,0] B6) s H = seqNext P Γ call n f m (cAt [1,1,1,1,1,1,1,1,1,1,0,0,1] B6) (evCode P Γ call n f m (cAt [1,1,1,1,1,1,1,1,1,1,0,0,0] B6) s H) := qS
noncomputable def r6_78 : {l : List Oper // opsOf (cAt [1,1,1,1,1,1,1,1,1,1,0,0,0] B6) = l} := by
  apply Subtype.mk
  dsimp [B6, Try.f6]
@[simp] theorem n6_78 : evCode P Γ call n f m (cAt [1,1,1,1,1,1,1,1,1,1,0,0,0] B6) s H = regNext (evOpsGo P Γ call r6_78.1 r6_78.1 s H) := qR r6_78.2
attribute [simp] r6_78
@[simp] theorem n6_79 : evCode P Γ call n f m (cAt [1,1,1,1,1,1,1,1,1,1,0,0,1] B6) s H = condW P Γ call n f m (cAt [1,1,1,1,1,1,1,1,1,1,0,0,1,0] B6) (cAt [1,1,1,1,1,1,1,1,1,1,0,0,1,1] B6) s H (evOperand Γ s (.tmp 153)) := qC
@[simp] theorem n6_80 : evCode P Γ call n f m (cAt [1,1,1,1,1,1,1,1,1,1,0,0,1,0] B6) s H = seqNext P Γ call n f m (cAt [1,1,1,1,1,1,1,1,1,1,0,0,1,0,1] B6) (evCode P Γ call n f m (cAt [1,1,1,1,1,1,1,1,1,1,0,0,1,0,0] B6) s H) := qS
noncomputable def r6_81 : {l : List Oper // opsOf (cAt [1,1,1,1,1,1,1,1,1,1,0,0,1,0,0] B6) = l} := by
  apply Subtype.mk
  dsimp [B6, Try.f6]
@[simp] theorem n6_81 : evCode P Γ call n f m (cAt [1,1,1,1,1,1,1,1,1,1,0,0,1,0,0] B6) s H = regNext (evOpsGo P Γ call r6_81.1 r6_81.1 s H) := qR r6_81.2
attribute [simp] r6_81
@[simp] theorem n6_82 : evCode P Γ call n f m (cAt [1,1,1,1,1,1,1,1,1,1,0,0,1,0,1] B6) s H = some (.ret, s, H) := qT
@[simp] theorem n6_83 : evCode P Γ call n f m (cAt [1,1,1,1,1,1,1,1,1,1,0,0,1,1] B6) s H = seqNext P Γ call n f m (cAt [1,1,1,1,1,1,1,1,1,1,0,0,1,1,1] B6) (evCode P Γ call n f m (cAt [1,1,1,1,1,1,1,1,1,1,0,0,1,1,0] B6) s H) := qS
noncomputable def r6_84 : {l : List Oper // opsOf (cAt [1,1,1,1,1,1,1,1,1,1,0,0,1,1,0] B6) = l} := by
  apply Subtype.mk
  dsimp [B6, Try.f6]
@[simp] theorem n6_84 : evCode P Γ call n f m (cAt [1,1,1,1,1,1,1,1,1,1,0,0,1,1,0] B6) s H = regNext (evOpsGo P Γ call r6_84.1 r6_84.1 s H) := qR r6_84.2
attribute [simp] r6_84
@[simp] theorem n6_85 : evCode P Γ call n f m (cAt [1,1,1,1,1,1,1,1,1,1,0,0,1,1,1] B6) s H = condW P Γ call n f m (cAt [1,1,1,1,1,1,1,1,1,1,0,0,1,1,1,0] B6) (cAt [1,1,1,1,1,1,1,1,1,1,0,0,1,1,1,1] B6) s H (evOperand Γ s (.tmp 178)) := qC
@[simp] theorem n6_86 : evCode P Γ call n f m (cAt [1,1,1,1,1,1,1,1,1,1,0,0,1,1,1,0] B6) s H = seqNext P Γ call n f m (cAt [1,1,1,1,1,1,1,1,1,1,0,0,1,1,1,0,1] B6) (evCode P Γ call n f m (cAt [1,1,1,1,1,1,1,1,1,1,0,0,1,1,1,0,0] B6) s H) := qS
noncomputable def r6_87 : {l : List Oper // opsOf (cAt [1,1,1,1,1,1,1,1,1,1,0,0,1,1,1,0,0] B6) = l} := by
  apply Subtype.mk
  dsimp [B6, Try.f6]
@[simp] theorem n6_87 : evCode P Γ call n f m (cAt [1,1,1,1,1,1,1,1,1,1,0,0,1,1,1,0,0] B6) s H = regNext (evOpsGo P Γ call r6_87.1 r6_87.1 s H) := qR r6_87.2
attribute [simp] r6_87
@[simp] theorem n6_88 : evCode P Γ call n f m (cAt [1,1,1,1,1,1,1,1,1,1,0,0,1,1,1,0,1] B6) s H = some (.ret, s, H) := qT
@[simp] theorem n6_89 : evCode P Γ call n f m (cAt [1,1,1,1,1,1,1,1,1,1,0,0,1,1,1,1] B6) s H = some (.normal, s, H) := qK
@[simp] theorem n6_90 : evCode P Γ call n f m (cAt [1,1,1,1,1,1,1,1,1,1,1] B6) s H = seqNext P Γ call n f m (cAt [1,1,1,1,1,1,1,1,1,1,1,1] B6) (evCode P Γ call n f m (cAt [1,1,1,1,1,1,1,1,1,1,1,0] B6) s H) := qS
noncomputable def r6_91 : {l : List Oper // opsOf (cAt [1,1,1,1,1,1,1,1,1,1,1,0] B6) = l} := by
  apply Subtype.mk
  dsimp [B6, Try.f6]
@[simp] theorem n6_91 : evCode P Γ call n f m (cAt [1,1,1,1,1,1,1,1,1,1,1,0] B6) s H = regNext (evOpsGo P Γ call r6_91.1 r6_91.1 s H) := qR r6_91.2
attribute [simp] r6_91
@[simp] theorem n6_92 : evCode P Γ call n f m (cAt [1,1,1,1,1,1,1,1,1,1,1,1] B6) s H = some (.ret, s, H) := qT
theorem b6 {k : Nat} (ho : ∀ args H, Γ.orc 6 args H = none) (args : List V) (H : Heap) (ha : args.length ≤ 198) : evF Try.prog Γ (k + 1) 6 args H = bodyEnd Try.prog [.tmp 12] H.length (evCode Try.prog Γ (evF Try.prog Γ k) k 6 H.length (cAt [] B6) (mkL 198 V.undef (enumV 0 args)) H) := body_at Try.func6 (by decide) rfl ho rfl rfl args H ha
end
end Go.Ev.Try
