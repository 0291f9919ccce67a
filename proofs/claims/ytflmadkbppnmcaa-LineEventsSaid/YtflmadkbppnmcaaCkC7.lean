/-
  CODE BY NAMES, printed by wip/tools/codes.py (own work).
-/
import Derived.Test.YtflmadkbppnmcaaCkG
set_option maxRecDepth 100000
set_option linter.unusedVariables false
namespace Go.Ev.Try
open Go Go.Ev Go.Proofs
section
variable {P : Program} {Γ : Env} {call : CallF} {n f m : Nat} (s : List V) (H : Heap)
attribute [local simp] opsOf cAt kids bodyOf

noncomputable def B7 : Code := bodyOf Try.f7
@[simp] theorem n7_1 : evCode P Γ call n f m (cAt [] B7) s H = seqNext P Γ call n f m (cAt [1] B7) (evCode P Γ call n f m (cAt [0] B7) s H) := qS
noncomputable def r7_2 : {l : List Oper // opsOf (cAt [0] B7) = l} := by
  apply Subtype.mk
  dsimp [B7, Try.f7]
@[simp] theorem n7_2 : evCode P Γ call n f m (cAt [0] B7) s H = regNext (evOpsGo P Γ call r7_2.1 r7_2.1 s H) := qR r7_2.2
attribute [simp] r7_2
@[simp] theorem n7_3 : evCode P Γ call n f m (cAt [1] B7) s H = seqNext P Γ call n f m (cAt [1,1] B7) (evCode P Γ call n f m (cAt [1,0] B7) s H) := qS
noncomputable def r7_4 : {l : List Oper // opsOf (cAt [1,0] B7) = l} := by
  apply Subtype.mk
  dsimp [B7, Try.f7]
@[simp] theorem n7_4 : evCode P Γ call n f m (cAt [1,0] B7) s H = regNext (evOpsGo P Γ call r7_4.1 r7_4.1 s H) := qR r7_4.2
attribute [simp] r7_4
@[simp] theorem n7_5 : evCode P Γ call n f m (cAt [1,1] B7) s H = seqNext P Γ call n f m (cAt [1,1,1] B7) (evCode P Γ call n f m (cAt [1,1,0] B7) s H) := qS
noncomputable def r7_6 : {l : List Oper // opsOf (cAt [1,1,0] B7) = l} := by
  apply Subtype.mk
  dsimp [B7, Try.f7]
@[simp] theorem n7_6 : evCode P Γ call n f m (cAt [1,1,0] B7) s H = regNext (evOpsGo P Γ call r7_6.1 r7_6.1 s H) := qR r7_6.2
attribute [simp] r7_6
@[simp] theorem n7_7 : evCode P Γ call n f m (cAt [1,1,1] B7) s H = seqNext P Γ call n f m (cAt [1,1,1,1] B7) (evCode P Γ call n f m (cAt [1,1,1,0] B7) s H) := qS
noncomputable def r7_8 : {l : List Oper // opsOf (cAt [1,1,1,0] B7) = l} := by
  apply Subtype.mk
  dsimp [B7, Try.f7]
@[simp] theorem n7_8 : evCode P Γ call n f m (cAt [1,1,1,0] B7) s H = regNext (evOpsGo P Γ call r7_8.1 r7_8.1 s H) := qR r7_8.2
attribute [simp] r7_8
@[simp] theorem n7_9 : evCode P Γ call n f m (cAt [1,1,1,1] B7) s H = seqNext P Γ call n f m (cAt [1,1,1,1,1] B7) (evCode P Γ call n f m (cAt [1,1,1,1,0] B7) s H) := qS
@[simp] theorem n7_10 : evCode P Γ call n f m (cAt [1,1,1,1,0] B7) s H = seqNext P Γ call n f m (cAt [1,1,1,1,0,1] B7) (evCode P Γ call n f m (cAt [1,1,1,1,0,0] B7) s H) := qS
noncomputable def r7_11 : {l : List Oper // opsOf (cAt [1,1,1,1,0,0] B7) = l} := by
  apply Subtype.mk
  dsimp [B7, Try.f7]
@[simp] theorem n7_11 : evCode P Γ call n f m (cAt [1,1,1,1,0,0] B7) s H = regNext (evOpsGo P Γ call r7_11.1 r7_11.1 s H) := qR r7_11.2
attribute [simp] r7_11
@[simp] theorem n7_12 : evCode P Γ call n f m (cAt [1,1,1,1,0,1] B7) s H = condW P Γ call n f m (cAt [1,1,1,1,0,1,0] B7) (cAt [1,1,1,1,0,1,1] B7) s H (evOperand Γ s (.tmp 23)) := qC
@[simp] theorem n7_13 : evCode P Γ call n f m (cAt [1,1,1,1,0,1,0] B7) s H = seqNext P Γ call n f m (cAt [1,1,1,1,0,1,0,1] B7) (evCode P Γ call n f m (cAt [1,1,1,1,0,1,0,0] B7) s H) := qS
noncomputable def r7_14 : {l : List Oper // opsOf (cAt [1,1,1,1,0,1,0,0] B7) = l} := by
  apply Subtype.mk
  dsimp [B7, Try.f7]
@[simp] theorem n7_14 : evCode P Γ call n f m (cAt [1,1,1,1,0,1,0,0] B7) s H = regNext (evOpsGo P Γ call r7_14.1 r7_14.1 s H) := qR r7_14.2
attribute [simp] r7_14
@[simp] theorem n7_15 : evCode P Γ call n f m (cAt [1,1,1,1,0,1,0,1] B7) s H = seqNext P Γ call n f m (cAt [1,1,1,1,0,1,0,1,1] B7) (evCode P Γ call n f m (cAt [1,1,1,1,0,1,0,1,0] B7) s H) := qS
@[simp] theorem n7_16 : evCode P Γ call n f m (cAt [1,1,1,1,0,1,0,1,0] B7) s H = seqNext P Γ call n f m (cAt [1,1,1,1,0,1,0,1,0,1] B7) (evCode P Γ call n f m (cAt [1,1,1,1,0,1,0,1,0,0] B7) s H) := qS
noncomputable def r7_17 : {l : List Oper // opsOf (cAt [1,1,1,1,0,1,0,1,0,0] B7) = l} := by
  apply Subtype.mk
  dsimp [B7, Try.f7]
@[simp] theorem n7_17 : evCode P Γ call n f m (cAt [1,1,1,1,0,1,0,1,0,0] B7) s H = regNext (evOpsGo P Γ call r7_17.1 r7_17.1 s H) := qR r7_17.2
attribute [simp] r7_17
@[simp] theorem n7_18 : evCode P Γ call n f m (cAt [1,1,1,1,0,1,0,1,0,1] B7) s H = condW P Γ call n f m (cAt [1,1,1,1,0,1,0,1,0,1,0] B7) (cAt [1,1,1,1,0,1,0,1,0,1,1] B7) s H (evOperand Γ s (.tmp 31)) := qC
noncomputable def r7_19 : {l : List Oper // opsOf (cAt [1,1,1,1,0,1,0,1,0,1,0] B7) = l} := by
  apply Subtype.mk
  dsimp [B7, Try.f7]
@[simp] theorem n7_19 : evCode P Γ call n f m (cAt [1,1,1,1,0,1,0,1,0,1,0] B7) s H = regNext (evOpsGo P Γ call r7_19.1 r7_19.1 s H) := qR r7_19.2
attribute [simp] r7_19
@[simp] theorem n7_20 : evCode P Γ call n f m (cAt [1,1,1,1,0,1,0,1,0,1,1] B7) s H = some (.normal, s, H) := qK
@[simp] theorem n7_21 : evCode P Γ call n f m (cAt [1,1,1,1,0,1,0,1,1] B7) s H = seqNext P Γ call n f m (cAt [1,1,1,1,0,1,0,1,1,1] B7) (evCode P Γ call n f m (cAt [1,1,1,1,0,1,0,1,1,0] B7) s H) := qS
@[simp] theorem n7_22 : evCode P Γ call n f m (cAt [1,1,1,1,0,1,0,1,1,0] B7) s H = seqNext P Γ call n f m (cAt [1,1,1,1,0,1,0,1,1,0,1] B7) (evCode P Γ call n f m (cAt [1,1,1,1,0,1,0,1,1,0,0] B7) s H) := qS
noncomputable def r7_23 : {l : List Oper // opsOf (cAt [1,1,1,1,0,1,0,1,1,0,0] B7) = l} := by
  apply Subtype.mk
  dsimp [B7, Try.f7]
@[simp] theorem n7_23 : evCode P Γ call n f m (cAt [1,1,1,1,0,1,0,1,1,0,0] B7) s H = regNext (evOpsGo P Γ call r7_23.1 r7_23.1 s H) := qR r7_23.2
attribute [simp] r7_23
@[simp] theorem n7_24 : evCode P Γ call n f m (cAt [1,1,1,1,0,1,0,1,1,0,1] B7) s H = blockNext 0 (evCode P Γ call n f m (cAt [1,1,1,1,0,1,0,1,1,0,1,0] B7) s H) := qB
@[simp] theorem n7_25 : evCode P Γ call n f m (cAt [1,1,1,1,0,1,0,1,1,0,1,0] B7) s H = evLoopC P Γ call n f m (cAt [1,1,1,1,0,1,0,1,1,0,1,0,0] B7) n s H := qL
noncomputable abbrev L7_9 : Code := cAt [1,1,1,1,0,1,0,1,1,0,1,0,0] B7
@[simp] theorem n7_25f : firstRegion (cAt [1,1,1,1,0,1,0,1,1,0,1,0,0] B7) = 9 := by kernel_rfl
@[simp] theorem n7_26 : evCode P Γ call n f m (cAt [1,1,1,1,0,1,0,1,1,0,1,0,0] B7) s H = seqNext P Γ call n f m (cAt [1,1,1,1,0,1,0,1,1,0,1,0,0,1] B7) (evCode P Γ call n f m (cAt [1,1,1,1,0,1,0,1,1,0,1,0,0,0] B7) s H) := qS
noncomputable def r7_27 : {l : List Oper // opsOf (cAt [1,1,1,1,0,1,0,1,1,0,1,0,0,0] B7) = l} := by
  apply Subtype.mk
  dsimp [B7, Try.f7]
@[simp] theorem n7_27 : evCode P Γ call n f m (cAt [1,1,1,1,0,1,0,1,1,0,1,0,0,0] B7) s H = regNext (evOpsGo P Γ call r7_27.1 r7_27.1 s H) := qR r7_27.2
attribute [simp] r7_27
@[simp] theorem n7_28 : evCode P Γ call n f m (cAt [1,1,1,1,0,1,0,1,1,0,1,0,0,1] B7) s H = seqNext P Γ call n f m (cAt [1,1,1,1,0,1,0,1,1,0,1,0,0,1,1] B7) (evCode P Γ call n f m (cAt [1,1,1,1,0,1,0,1,1,0,1,0,0,1,0] B7) s H) := qS
@[simp] theorem n7_29 : evCode P Γ call n f m (cAt [1,1,1,1,0,1,0,1,1,0,1,0,0,1,0] B7) s H = condW P Γ call n f m (cAt [1,1,1,1,0,1,0,1,1,0,1,0,0,1,0,0] B7) (cAt [1,1,1,1,0,1,0,1,1,0,1,0,0,1,0,1] B7) s H (evOperand Γ s (.tmp 35)) := qC
@[simp] theorem n7_30 : evCode P Γ call n f m (cAt [1,1,1,1,0,1,0,1,1,0,1,0,0,1,0,0] B7) s H = some (.normal, s, H) := qK
@[simp] theorem n7_31 : evCode P Γ call n f m (cAt [1,1,1,1,0,1,0,1,1,0,1,0,0,1,0,1] B7) s H = some (.exit 0, s, H) := qE
@[simp] theorem n7_32 : evCode P Γ call n f m (cAt [1,1,1,1,0,1,0,1,1,0,1,0,0,1,1] B7) s H = seqNext P Γ call n f m (cAt [1,1,1,1,0,1,0,1,1,0,1,0,0,1,1,1] B7) (evCode P Γ call n f m (cAt [1,1,1,1,0,1,0,1,1,0,1,0,0,1,1,0] B7) s H) := qS
@[simp] theorem n7_33 : evCode P Γ call n f m (cAt [1,1,1,1,0,1,0,1,1,0,1,0,0,1,1,0] B7) s H = blockNext 1 (evCode P Γ call n f m (cAt [1,1,1,1,0,1,0,1,1,0,1,0,0,1,1,0,0] B7) s H) := qB
@[simp] theorem n7_34 : evCode P Γ call n f m (cAt [1,1,1,1,0,1,0,1,1,0,1,0,0,1,1,0,0] B7) s H = seqNext P Γ call n f m (cAt [1,1,1,1,0,1,0,1,1,0,1,0,0,1,1,0,0,1] B7) (evCode P Γ call n f m (cAt [1,1,1,1,0,1,0,1,1,0,1,0,0,1,1,0,0,0] B7) s H) := qS
noncomputable def r7_35 : {l : List Oper // opsOf (cAt [1,1,1,1,0,1,0,1,1,0,1,0,0,1,1,0,0,0] B7) = l} := by
  apply Subtype.mk
  dsimp [B7, Try.f7]
@[simp] theorem n7_35 : evCode P Γ call n f m (cAt [1,1,1,1,0,1,0,1,1,0,1,0,0,1,1,0,0,0] B7) s H = regNext (evOpsGo P Γ call r7_35.1 r7_35.1 s H) := qR r7_35.2
attribute [simp] r7_35
@[simp] theorem n7_36 : evCode P Γ call n f m (cAt [1,1,1,1,0,1,0,1,1,0,1,0,0,1,1,0,0,1] B7) s H = seqNext P Γ call n f m (cAt [1,1,1,1,0,1,0,1,1,0,1,0,0,1,1,0,0,1,1] B7) (evCode P Γ call n f m (cAt [1,1,1,1,0,1,0,1,1,0,1,0,0,1,1,0,0,1,0] B7) s H) := qS
noncomputable def r7_37 : {l : List Oper // opsOf (cAt [1,1,1,1,0,1,0,1,1,0,1,0,0,1,1,0,0,1,0] B7) = l} := by
  apply Subtype.mk
  dsimp [B7, Try.f7]
@[simp] theorem n7_37 : evCode P Γ call n f m (cAt [1,1,1,1,0,1,0,1,1,0,1,0,0,1,1,0,0,1,0] B7) s H = regNext (evOpsGo P Γ call r7_37.1 r7_37.1 s H) := qR r7_37.2
attribute [simp] r7_37
@[simp] theorem n7_38 : evCode P Γ call n f m (cAt [1,1,1,1,0,1,0,1,1,0,1,0,0,1,1,0,0,1,1] B7) s H = condW P Γ call n f m (cAt [1,1,1,1,0,1,0,1,1,0,1,0,0,1,1,0,0,1,1,0] B7) (cAt [1,1,1,1,0,1,0,1,1,0,1,0,0,1,1,0,0,1,1,1] B7) s H (evOperand Γ s (.tmp 37)) := qC
@[simp] theorem n7_39 : evCode P Γ call n f m (cAt [1,1,1,1,0,1,0,1,1,0,1,0,0,1,1,0,0,1,1,0] B7) s H = seqNext P Γ call n f m (cAt [1,1,1,1,0,1,0,1,1,0,1,0,0,1,1,0,0,1,1,0,1] B7) (evCode P Γ call n f m (cAt [1,1,1,1,0,1,0,1,1,0,1,0,0,1,1,0,0,1,1,0,0] B7) s H) := qS
noncomputable def r7_40 : {l : List Oper // opsOf (cAt [1,1,1,1,0,1,0,1,1,0,1,0,0,1,1,0,0,1,1,0,0] B7) = l} := by
  apply Subtype.mk
  dsimp [B7, Try.f7]
@[simp] theorem n7_40 : evCode P Γ call n f m (cAt [1,1,1,1,0,1,0,1,1,0,1,0,0,1,1,0,0,1,1,0,0] B7) s H = regNext (evOpsGo P Γ call r7_40.1 r7_40.1 s H) := qR r7_40.2
attribute [simp] r7_40
noncomputable def r7_41 : {l : List Oper // opsOf (cAt [1,1,1,1,0,1,0,1,1,0,1,0,0,1,1,0,0,1,1,0,1] B7) = l} := by
  apply Subtype.mk
  dsimp [B7, Try.f7]
@[simp] theorem n7_41 : evCode P Γ call n f m (cAt [1,1,1,1,0,1,0,1,1,0,1,0,0,1,1,0,0,1,1,0,1] B7) s H = regNext (evOpsGo P Γ call r7_41.1 r7_41.1 s H) := qR r7_41.2
attribute [simp] r7_41
@[simp] theorem n7_42 : evCode P Γ call n f m (cAt [1,1,1,1,0,1,0,1,1,0,1,0,0,1,1,0,0,1,1,1] B7) s H = some (.normal, s, H) := qK
noncomputable def r7_43 : {l : List Oper // opsOf (cAt [1,1,1,1,0,1,0,1,1,0,1,0,0,1,1,1] B7) = l} := by
  apply Subtype.mk
  dsimp [B7, Try.f7]
@[simp] theorem n7_43 : evCode P Γ call n f m (cAt [1,1,1,1,0,1,0,1,1,0,1,0,0,1,1,1] B7) s H = regNext (evOpsGo P Γ call r7_43.1 r7_43.1 s H) := qR r7_43.2
attribute [simp] r7_43
noncomputable def r7_44 : {l : List Oper // opsOf (cAt [1,1,1,1,0,1,0,1,1,1] B7) = l} := by
  apply Subtype.mk
  dsimp [B7, Try.f7]
@[simp] theorem n7_44 : evCode P Γ call n f m (cAt [1,1,1,1,0,1,0,1,1,1] B7) s H = regNext (evOpsGo P Γ call r7_44.1 r7_44.1 s H) := qR r7_44.2
attribute [simp] r7_44
@[simp] theorem n7_45 : evCode P Γ call n f m (cAt [1,1,1,1,0,1,1] B7) s H = some (.normal, s, H) := qK
@[simp] theorem n7_46 : evCode P Γ call n f m (cAt [1,1,1,1,1] B7) s H = seqNext P Γ call n f m (cAt [1,1,1,1,1,1] B7) (evCode P Γ call n f m (cAt [1,1,1,1,1,0] B7) s H) := qS
noncomputable def r7_47 : {l : List Oper // opsOf (cAt [1,1,1,1,1,0] B7) = l} := by
  apply Subtype.mk
  dsimp [B7, Try.f7]
@[simp] theorem n7_47 : evCode P Γ call n f m (cAt [1,1,1,1,1,0] B7) s H = regNext (evOpsGo P Γ call r7_47.1 r7_47.1 s H) := qR r7_47.2
attribute [simp] r7_47
@[simp] theorem n7_48 : evCode P Γ call n f m (cAt [1,1,1,1,1,1] B7) s H = some (.ret, s, H) := qT
theorem b7 {k : Nat} (ho : ∀ args H, Γ.orc 7 args H = none) (args : List V) (H : Heap) (ha : args.length ≤ 77) : evF Try.prog Γ (k + 1) 7 args H = bodyEnd Try.prog [.tmp 4] H.length (evCode Try.prog Γ (evF Try.prog Γ k) k 7 H.length (cAt [] B7) (mkL 77 V.undef (enumV 0 args)) H) := body_at Try.func7 (by decide) rfl ho rfl rfl args H ha
noncomputable def B27 : Code := bodyOf Try.f27
@[simp] theorem n27_1 : evCode P Γ call n f m (cAt [] B27) s H = seqNext P Γ call n f m (cAt [1] B27) (evCode P Γ call n f m (cAt [0] B27) s H) := qS
noncomputable def r27_2 : {l : List Oper // opsOf (cAt [0] B27) = l} := by
  apply Subtype.mk
  dsimp [B27, Try.f27]
@[simp] theorem n27_2 : evCode P Γ call n f m (cAt [0] B27) s H = regNext (evOpsGo P Γ call r27_2.1 r27_2.1 s H) := qR r27_2.2
attribute [simp] r27_2
@[simp] theorem n27_3 : evCode P Γ call n f m (cAt [1] B27) s H = seqNext P Γ call n f m (cAt [1,1] B27) (evCode P Γ call n f m (cAt [1,0] B27) s H) := qS
noncomputable def r27_4 : {l : List Oper // opsOf (cAt [1,0] B27) = l} := by
  apply Subtype.mk
  dsimp [B27, Try.f27]
@[simp] theorem n27_4 : evCode P Γ call n f m (cAt [1,0] B27) s H = regNext (evOpsGo P Γ call r27_4.1 r27_4.1 s H) := qR r27_4.2
attribute [simp] r27_4
@[simp] theorem n27_5 : evCode P Γ call n f m (cAt [1,1] B27) s H = seqNext P Γ call n f m (cAt [1,1,1] B27) (evCode P Γ call n f m (cAt [1,1,0] B27) s H) := qS
@[simp] theorem n27_6 : evCode P Γ call n f m (cAt [1,1,0] B27) s H = seqNext P Γ call n f m (cAt [1,1,0,1] B27) (evCode P Γ call n f m (cAt [1,1,0,0] B27) s H) := qS
noncomputable def r27_7 : {l : List Oper // opsOf (cAt [1,1,0,0] B27) = l} := by
  apply Subtype.mk
  dsimp [B27, Try.f27]
@[simp] theorem n27_7 : evCode P Γ call n f m (cAt [1,1,0,0] B27) s H = regNext (evOpsGo P Γ call r27_7.1 r27_7.1 s H) := qR r27_7.2
attribute [simp] r27_7
@[simp] theorem n27_8 : evCode P Γ call n f m (cAt [1,1,0,1] B27) s H = condW P Γ call n f m (cAt [1,1,0,1,0] B27) (cAt [1,1,0,1,1] B27) s H (evOperand Γ s (.tmp 18)) := qC
@[simp] theorem n27_9 : evCode P Γ call n f m (cAt [1,1,0,1,0] B27) s H = seqNext P Γ call n f m (cAt [1,1,0,1,0,1] B27) (evCode P Γ call n f m (cAt [1,1,0,1,0,0] B27) s H) := qS
noncomputable def r27_10 : {l : List Oper // opsOf (cAt [1,1,0,1,0,0] B27) = l} := by
  apply Subtype.mk
  dsimp [B27, Try.f27]
@[simp] theorem n27_10 : evCode P Γ call n f m (cAt [1,1,0,1,0,0] B27) s H = regNext (evOpsGo P Γ call r27_10.1 r27_10.1 s H) := qR r27_10.2
attribute [simp] r27_10
@[simp] theorem n27_11 : evCode P Γ call n f m (cAt [1,1,0,1,0,1] B27) s H = some (.ret, s, H) := qT
@[simp] theorem n27_12 : evCode P Γ call n f m (cAt [1,1,0,1,1] B27) s H = some (.normal, s, H) := qK
@[simp] theorem n27_13 : evCode P Γ call n f m (cAt [1,1,1] B27) s H = seqNext P Γ call n f m (cAt [1,1,1,1] B27) (evCode P Γ call n f m (cAt [1,1,1,0] B27) s H) := qS
noncomputable def r27_14 : {l : List Oper // opsOf (cAt [1,1,1,0] B27) = l} := by
  apply Subtype.mk
  dsimp [B27, Try.f27]
@[simp] theorem n27_14 : evCode P Γ call n f m (cAt [1,1,1,0] B27) s H = regNext (evOpsGo P Γ call r27_14.1 r27_14.1 s H) := qR r27_14.2
attribute [simp] r27_14
@[simp] theorem n27_15 : evCode P Γ call n f m (cAt [1,1,1,1] B27) s H = seqNext P Γ call n f m (cAt [1,1,1,1,1] B27) (evCode P Γ call n f m (cAt [1,1,1,1,0] B27) s H) := qS
@[simp] theorem n27_16 : evCode P Γ call n f m (cAt [1,1,1,1,0] B27) s H = seqNext P Γ call n f m (cAt [1,1,1,1,0,1] B27) (evCode P Γ call n f m (cAt [1,1,1,1,0,0] B27) s H) := qS
noncomputable def r27_17 : {l : List Oper // opsOf (cAt [1,1,1,1,0,0] B27) = l} := by
  apply Subtype.mk
  dsimp [B27, Try.f27]
@[simp] theorem n27_17 : evCode P Γ call n f m (cAt [1,1,1,1,0,0] B27) s H = regNext (evOpsGo P Γ call r27_17.1 r27_17.1 s H) := qR r27_17.2
attribute [simp] r27_17
@[simp] theorem n27_18 : evCode P Γ call n f m (cAt [1,1,1,1,0,1] B27) s H = blockNext 0 (evCode P Γ call n f m (cAt [1,1,1,1,0,1,0] B27) s H) := qB
@[simp] theorem n27_19 : evCode P Γ call n f m (cAt [1,1,1,1,0,1,0] B27) s H = evLoopC P Γ call n f m (cAt [1,1,1,1,0,1,0,0] B27) n s H := qL
noncomputable abbrev L27_6 : Code := cAt [1,1,1,1,0,1,0,0] B27
@[simp] theorem n27_19f : firstRegion (cAt [1,1,1,1,0,1,0,0] B27) = 6 := by kernel_rfl
@[simp] theorem n27_20 : evCode P Γ call n f m (cAt [1,1,1,1,0,1,0,0] B27) s H = seqNext P Γ call n f m (cAt [1,1,1,1,0,1,0,0,1] B27) (evCode P Γ call n f m (cAt [1,1,1,1,0,1,0,0,0] B27) s H) := qS
noncomputable def r27_21 : {l : List Oper // opsOf (cAt [1,1,1,1,0,1,0,0,0] B27) = l} := by
  apply Subtype.mk
  dsimp [B27, Try.f27]
@[simp] theorem n27_21 : evCode P Γ call n f m (cAt [1,1,1,1,0,1,0,0,0] B27) s H = regNext (evOpsGo P Γ call r27_21.1 r27_21.1 s H) := qR r27_21.2
attribute [simp] r27_21
@[simp] theorem n27_22 : evCode P Γ call n f m (cAt [1,1,1,1,0,1,0,0,1] B27) s H = seqNext P Γ call n f m (cAt [1,1,1,1,0,1,0,0,1,1] B27) (evCode P Γ call n f m (cAt [1,1,1,1,0,1,0,0,1,0] B27) s H) := qS
@[simp] theorem n27_23 : evCode P Γ call n f m (cAt [1,1,1,1,0,1,0,0,1,0] B27) s H = condW P Γ call n f m (cAt [1,1,1,1,0,1,0,0,1,0,0] B27) (cAt [1,1,1,1,0,1,0,0,1,0,1] B27) s H (evOperand Γ s (.tmp 23)) := qC
@[simp] theorem n27_24 : evCode P Γ call n f m (cAt [1,1,1,1,0,1,0,0,1,0,0] B27) s H = some (.normal, s, H) := qK
@[simp] theorem n27_25 : evCode P Γ call n f m (cAt [1,1,1,1,0,1,0,0,1,0,1] B27) s H = some (.exit 0, s, H) := qE
@[simp] theorem n27_26 : evCode P Γ call n f m (cAt [1,1,1,1,0,1,0,0,1,1] B27) s H = seqNext P Γ call n f m (cAt [1,1,1,1,0,1,0,0,1,1,1] B27) (evCode P Γ call n f m (cAt [1,1,1,1,0,1,0,0,1,1,0] B27) s H) := qS
@[simp] theorem n27_27 : evCode P Γ call n f m (cAt [1,1,1,1,0,1,0,0,1,1,0] B27) s H = blockNext 1 (evCode P Γ call n f m (cAt [1,1,1,1,0,1,0,0,1,1,0,0] B27) s H) := qB
@[simp] theorem n27_28 : evCode P Γ call n f m (cAt [1,1,1,1,0,1,0,0,1,1,0,0] B27) s H = seqNext P Γ call n f m (cAt [1,1,1,1,0,1,0,0,1,1,0,0,1] B27) (evCode P Γ call n f m (cAt [1,1,1,1,0,1,0,0,1,1,0,0,0] B27) s H) := qS
noncomputable def r27_29 : {l : List Oper // opsOf (cAt [1,1,1,1,0,1,0,0,1,1,0,0,0] B27) = l} := by
  apply Subtype.mk
  dsimp [B27, Try.f27]
@[simp] theorem n27_29 : evCode P Γ call n f m (cAt [1,1,1,1,0,1,0,0,1,1,0,0,0] B27) s H = regNext (evOpsGo P Γ call r27_29.1 r27_29.1 s H) := qR r27_29.2
attribute [simp] r27_29
noncomputable def r27_30 : {l : List Oper // opsOf (cAt [1,1,1,1,0,1,0,0,1,1,0,0,1] B27) = l} := by
  apply Subtype.mk
  dsimp [B27, Try.f27]
@[simp] theorem n27_30 : evCode P Γ call n f m (cAt [1,1,1,1,0,1,0,0,1,1,0,0,1] B27) s H = regNext (evOpsGo P Γ call r27_30.1 r27_30.1 s H) := qR r27_30.2
attribute [simp] r27_30
noncomputable def r27_31 : {l : List Oper // opsOf (cAt [1,1,1,1,0,1,0,0,1,1,1] B27) = l} := by
  apply Subtype.mk
  dsimp [B27, Try.f27]
@[simp] theorem n27_31 : evCode P Γ call n f m (cAt [1,1,1,1,0,1,0,0,1,1,1] B27) s H = regNext (evOpsGo P Γ call r27_31.1 r27_31.1 s H) := qR r27_31.2
attribute [simp] r27_31
@[simp] theorem n27_32 : evCode P Γ call n f m (cAt [1,1,1,1,1] B27) s H = seqNext P Γ call n f m (cAt [1,1,1,1,1,1] B27) (evCode P Γ call n f m (cAt [1,1,1,1,1,0] B27) s H) := qS
noncomputable def r27_33 : {l : List Oper // opsOf (cAt [1,1,1,1,1,0] B27) = l} := by
  apply Subtype.mk
  dsimp [B27, Try.f27]
@[simp] theorem n27_33 : evCode P Γ call n f m (cAt [1,1,1,1,1,0] B27) s H = regNext (evOpsGo P Γ call r27_33.1 r27_33.1 s H) := qR r27_33.2
attribute [simp] r27_33
@[simp] theorem n27_34 : evCode P Γ call n f m (cAt [1,1,1,1,1,1] B27) s H = some (.ret, s, H) := qT
theorem b27 {k : Nat} (ho : ∀ args H, Γ.orc 27 args H = none) (args : List V) (H : Heap) (ha : args.length ≤ 41) : evF Try.prog Γ (k + 1) 27 args H = bodyEnd Try.prog [.tmp 4, .tmp 5] H.length (evCode Try.prog Γ (evF Try.prog Γ k) k 27 H.length (cAt [] B27) (mkL 41 V.undef (enumV 0 args)) H) := body_at Try.func27 (by decide) rfl ho rfl rfl args H ha
noncomputable def B28 : Code := bodyOf Try.f28
@[simp] theorem n28_1 : evCode P Γ call n f m (cAt [] B28) s H = seqNext P Γ call n f m (cAt [1] B28) (evCode P Γ call n f m (cAt [0] B28) s H) := qS
noncomputable def r28_2 : {l : List Oper // opsOf (cAt [0] B28) = l} := by
  apply Subtype.mk
  dsimp [B28, Try.f28]
@[simp] theorem n28_2 : evCode P Γ call n f m (cAt [0] B28) s H = regNext (evOpsGo P Γ call r28_2.1 r28_2.1 s H) := qR r28_2.2
attribute [simp] r28_2
@[simp] theorem n28_3 : evCode P Γ call n f m (cAt [1] B28) s H = seqNext P Γ call n f m (cAt [1,1] B28) (evCode P Γ call n f m (cAt [1,0] B28) s H) := qS
noncomputable def r28_4 : {l : List Oper // opsOf (cAt [1,0] B28) = l} := by
  apply Subtype.mk
  dsimp [B28, Try.f28]
@[simp] theorem n28_4 : evCode P Γ call n f m (cAt [1,0] B28) s H = regNext (evOpsGo P Γ call r28_4.1 r28_4.1 s H) := qR r28_4.2
attribute [simp] r28_4
@[simp] theorem n28_5 : evCode P Γ call n f m (cAt [1,1] B28) s H = seqNext P Γ call n f m (cAt [1,1,1] B28) (evCode P Γ call n f m (cAt [1,1,0] B28) s H) := qS
@[simp] theorem n28_6 : evCode P Γ call n f m (cAt [1,1,0] B28) s H = seqNext P Γ call n f m (cAt [1,1,0,1] B28) (evCode P Γ call n f m (cAt [1,1,0,0] B28) s H) := qS
noncomputable def r28_7 : {l : List Oper // opsOf (cAt [1,1,0,0] B28) = l} := by
  apply Subtype.mk
  dsimp [B28, Try.f28]
@[simp] theorem n28_7 : evCode P Γ call n f m (cAt [1,1,0,0] B28) s H = regNext (evOpsGo P Γ call r28_7.1 r28_7.1 s H) := qR r28_7.2
attribute [simp] r28_7
@[simp] theorem n28_8 : evCode P Γ call n f m (cAt [1,1,0,1] B28) s H = blockNext 0 (evCode P Γ call n f m (cAt [1,1,0,1,0] B28) s H) := qB
@[simp] theorem n28_9 : evCode P Γ call n f m (cAt [1,1,0,1,0] B28) s H = evLoopC P Γ call n f m (cAt [1,1,0,1,0,0] B28) n s H := qL
noncomputable abbrev L28_3 : Code := cAt [1,1,0,1,0,0] B28
@[simp] theorem n28_9f : firstRegion (cAt [1,1,0,1,0,0] B28) = 3 := by kernel_rfl
@[simp] theorem n28_10 : evCode P Γ call n f m (cAt [1,1,0,1,0,0] B28) s H = seqNext P Γ call n f m (cAt [1,1,0,1,0,0,1] B28) (evCode P Γ call n f m (cAt [1,1,0,1,0,0,0] B28) s H) := qS
noncomputable def r28_11 : {l : List Oper // opsOf (cAt [1,1,0,1,0,0,0] B28) = l} := by
  apply Subtype.mk
  dsimp [B28, Try.f28]
@[simp] theorem n28_11 : evCode P Γ call n f m (cAt [1,1,0,1,0,0,0] B28) s H = regNext (evOpsGo P Γ call r28_11.1 r28_11.1 s H) := qR r28_11.2
attribute [simp] r28_11
@[simp] theorem n28_12 : evCode P Γ call n f m (cAt [1,1,0,1,0,0,1] B28) s H = seqNext P Γ call n f m (cAt [1,1,0,1,0,0,1,1] B28) (evCode P Γ call n f m (cAt [1,1,0,1,0,0,1,0] B28) s H) := qS
@[simp] theorem n28_13 : evCode P Γ call n f m (cAt [1,1,0,1,0,0,1,0] B28) s H = condW P Γ call n f m (cAt [1,1,0,1,0,0,1,0,0] B28) (cAt [1,1,0,1,0,0,1,0,1] B28) s H (evOperand Γ s (.tmp 12)) := qC
@[simp] theorem n28_14 : evCode P Γ call n f m (cAt [1,1,0,1,0,0,1,0,0] B28) s H = some (.normal, s, H) := qK
@[simp] theorem n28_15 : evCode P Γ call n f m (cAt [1,1,0,1,0,0,1,0,1] B28) s H = some (.exit 0, s, H) := qE
@[simp] theorem n28_16 : evCode P Γ call n f m (cAt [1,1,0,1,0,0,1,1] B28) s H = seqNext P Γ call n f m (cAt [1,1,0,1,0,0,1,1,1] B28) (evCode P Γ call n f m (cAt [1,1,0,1,0,0,1,1,0] B28) s H) := qS
@[simp] theorem n28_17 : evCode P Γ call n f m (cAt [1,1,0,1,0,0,1,1,0] B28) s H = blockNext 1 (evCode P Γ call n f m (cAt [1,1,0,1,0,0,1,1,0,0] B28) s H) := qB
@[simp] theorem n28_18 : evCode P Γ call n f m (cAt [1,1,0,1,0,0,1,1,0,0] B28) s H = seqNext P Γ call n f m (cAt [1,1,0,1,0,0,1,1,0,0,1] B28) (evCode P Γ call n f m (cAt [1,1,0,1,0,0,1,1,0,0,0] B28) s H) := qS
noncomputable def r28_19 : {l : List Oper // opsOf (cAt [1,1,0,1,0,0,1,1,0,0,0] B28) = l} := by
  apply Subtype.mk
  dsimp [B28, Try.f28]
@[simp] theorem n28_19 : evCode P Γ call n f m (cAt [1,1,0,1,0,0,1,1,0,0,0] B28) s H = regNext (evOpsGo P Γ call r28_19.1 r28_19.1 s H) := qR r28_19.2
attribute [simp] r28_19
@[simp] theorem n28_20 : evCode P Γ call n f m (cAt [1,1,0,1,0,0,1,1,0,0,1] B28) s H = seqNext P Γ call n f m (cAt [1,1,0,1,0,0,1,1,0,0,1,1] B28) (evCode P Γ call n f m (cAt [1,1,0,1,0,0,1,1,0,0,1,0] B28) s H) := qS
noncomputable def r28_21 : {l : List Oper // opsOf (cAt [1,1,0,1,0,0,1,1,0,0,1,0] B28) = l} := by
  apply Subtype.mk
  dsimp [B28, Try.f28]
@[simp] theorem n28_21 : evCode P Γ call n f m (cAt [1,1,0,1,0,0,1,1,0,0,1,0] B28) s H = regNext (evOpsGo P Γ call r28_21.1 r28_21.1 s H) := qR r28_21.2
attribute [simp] r28_21
@[simp] theorem n28_22 : evCode P Γ call n f m (cAt [1,1,0,1,0,0,1,1,0,0,1,1] B28) s H = seqNext P Γ call n f m (cAt [1,1,0,1,0,0,1,1,0,0,1,1,1] B28) (evCode P Γ call n f m (cAt [1,1,0,1,0,0,1,1,0,0,1,1,0] B28) s H) := qS
@[simp] theorem n28_23 : evCode P Γ call n f m (cAt [1,1,0,1,0,0,1,1,0,0,1,1,0] B28) s H = blockNext 2 (evCode P Γ call n f m (cAt [1,1,0,1,0,0,1,1,0,0,1,1,0,0] B28) s H) := qB
@[simp] theorem n28_24 : evCode P Γ call n f m (cAt [1,1,0,1,0,0,1,1,0,0,1,1,0,0] B28) s H = evLoopC P Γ call n f m (cAt [1,1,0,1,0,0,1,1,0,0,1,1,0,0,0] B28) n s H := qL
noncomputable abbrev L28_6 : Code := cAt [1,1,0,1,0,0,1,1,0,0,1,1,0,0,0] B28
@[simp] theorem n28_24f : firstRegion (cAt [1,1,0,1,0,0,1,1,0,0,1,1,0,0,0] B28) = 6 := by kernel_rfl
@[simp] theorem n28_25 : evCode P Γ call n f m (cAt [1,1,0,1,0,0,1,1,0,0,1,1,0,0,0] B28) s H = seqNext P Γ call n f m (cAt [1,1,0,1,0,0,1,1,0,0,1,1,0,0,0,1] B28) (evCode P Γ call n f m (cAt [1,1,0,1,0,0,1,1,0,0,1,1,0,0,0,0] B28) s H) := qS
@[simp] theorem n28_26 : evCode P Γ call n f m (cAt [1,1,0,1,0,0,1,1,0,0,1,1,0,0,0,0] B28) s H = seqNext P Γ call n f m (cAt [1,1,0,1,0,0,1,1,0,0,1,1,0,0,0,0,1] B28) (evCode P Γ call n f m (cAt [1,1,0,1,0,0,1,1,0,0,1,1,0,0,0,0,0] B28) s H) := qS
noncomputable def r28_27 : {l : List Oper // opsOf (cAt [1,1,0,1,0,0,1,1,0,0,1,1,0,0,0,0,0] B28) = l} := by
  apply Subtype.mk
  dsimp [B28, Try.f28]
@[simp] theorem n28_27 : evCode P Γ call n f m (cAt [1,1,0,1,0,0,1,1,0,0,1,1,0,0,0,0,0] B28) s H = regNext (drawR P Γ call r28_27.1 [([1,2], [16,17]), ([0], [15]), ([0], [15]), ([], []), ([], []), ([6,9], [21,24]), ([5,9], [20,24]), ([9], [24]), ([9], [24]), ([5,6,7,8], [20,21,22,23]), ([], []), ([], []), ([], [])] s H) := qD r28_27.2
attribute [simp] r28_27
@[simp] theorem n28_28 : evCode P Γ call n f m (cAt [1,1,0,1,0,0,1,1,0,0,1,1,0,0,0,0,1] B28) s H = condW P Γ call n f m (cAt [1,1,0,1,0,0,1,1,0,0,1,1,0,0,0,0,1,0] B28) (cAt [1,1,0,1,0,0,1,1,0,0,1,1,0,0,0,0,1,1] B28) s H (evOperand Γ s (.tmp 27)) := qC
@[simp] theorem n28_29 : evCode P Γ call n f m (cAt [1,1,0,1,0,0,1,1,0,0,1,1,0,0,0,0,1,0] B28) s H = some (.normal, s, H) := qK
@[simp] theorem n28_30 : evCode P Γ call n f m (cAt [1,1,0,1,0,0,1,1,0,0,1,1,0,0,0,0,1,1] B28) s H = some (.exit 2, s, H) := qE
@[simp] theorem n28_31 : evCode P Γ call n f m (cAt [1,1,0,1,0,0,1,1,0,0,1,1,0,0,0,1] B28) s H = blockNext 3 (evCode P Γ call n f m (cAt [1,1,0,1,0,0,1,1,0,0,1,1,0,0,0,1,0] B28) s H) := qB
noncomputable def r28_32 : {l : List Oper // opsOf (cAt [1,1,0,1,0,0,1,1,0,0,1,1,0,0,0,1,0] B28) = l} := by
  apply Subtype.mk
  dsimp [B28, Try.f28]
@[simp] theorem n28_32 : evCode P Γ call n f m (cAt [1,1,0,1,0,0,1,1,0,0,1,1,0,0,0,1,0] B28) s H = regNext (evOpsGo P Γ call r28_32.1 r28_32.1 s H) := qR r28_32.2
attribute [simp] r28_32
@[simp] theorem n28_33 : evCode P Γ call n f m (cAt [1,1,0,1,0,0,1,1,0,0,1,1,1] B28) s H = seqNext P Γ call n f m (cAt [1,1,0,1,0,0,1,1,0,0,1,1,1,1] B28) (evCode P Γ call n f m (cAt [1,1,0,1,0,0,1,1,0,0,1,1,1,0] B28) s H) := qS
noncomputable def r28_34 : {l : List Oper // opsOf (cAt [1,1,0,1,0,0,1,1,0,0,1,1,1,0] B28) = l} := by
  apply Subtype.mk
  dsimp [B28, Try.f28]
@[simp] theorem n28_34 : evCode P Γ call n f m (cAt [1,1,0,1,0,0,1,1,0,0,1,1,1,0] B28) s H = regNext (drawR P Γ call r28_34.1 [([1,2], [31,32]), ([0], [30]), ([0], [30]), ([], []), ([], []), ([6,9], [36,39]), ([5,9], [35,39]), ([9], [39]), ([9], [39]), ([5,6,7,8], [35,36,37,38]), ([], []), ([], [])] s H) := qD r28_34.2
attribute [simp] r28_34
@[simp] theorem n28_35 : evCode P Γ call n f m (cAt [1,1,0,1,0,0,1,1,0,0,1,1,1,1] B28) s H = condW P Γ call n f m (cAt [1,1,0,1,0,0,1,1,0,0,1,1,1,1,0] B28) (cAt [1,1,0,1,0,0,1,1,0,0,1,1,1,1,1] B28) s H (evOperand Γ s (.tmp 41)) := qC
noncomputable def r28_36 : {l : List Oper // opsOf (cAt [1,1,0,1,0,0,1,1,0,0,1,1,1,1,0] B28) = l} := by
  apply Subtype.mk
  dsimp [B28, Try.f28]
@[simp] theorem n28_36 : evCode P Γ call n f m (cAt [1,1,0,1,0,0,1,1,0,0,1,1,1,1,0] B28) s H = regNext (evOpsGo P Γ call r28_36.1 r28_36.1 s H) := qR r28_36.2
attribute [simp] r28_36
@[simp] theorem n28_37 : evCode P Γ call n f m (cAt [1,1,0,1,0,0,1,1,0,0,1,1,1,1,1] B28) s H = some (.normal, s, H) := qK
noncomputable def r28_38 : {l : List Oper // opsOf (cAt [1,1,0,1,0,0,1,1,1] B28) = l} := by
  apply Subtype.mk
  dsimp [B28, Try.f28]
@[simp] theorem n28_38 : evCode P Γ call n f m (cAt [1,1,0,1,0,0,1,1,1] B28) s H = regNext (evOpsGo P Γ call r28_38.1 r28_38.1 s H) := qR r28_38.2
attribute [simp] r28_38
@[simp] theorem n28_39 : evCode P Γ call n f m (cAt [1,1,1] B28) s H = seqNext P Γ call n f m (cAt [1,1,1,1] B28) (evCode P Γ call n f m (cAt [1,1,1,0] B28) s H) := qS
@[simp] theorem n28_40 : evCode P Γ call n f m (cAt [1,1,1,0] B28) s H = seqNext P Γ call n f m (cAt [1,1,1,0,1] B28) (evCode P Γ call n f m (cAt [1,1,1,0,0] B28) s H) := qS
noncomputable def r28_41 : {l : List Oper // opsOf (cAt [1,1,1,0,0] B28) = l} := by
  apply Subtype.mk
  dsimp [B28, Try.f28]
@[simp] theorem n28_41 : evCode P Γ call n f m (cAt [1,1,1,0,0] B28) s H = regNext (evOpsGo P Γ call r28_41.1 r28_41.1 s H) := qR r28_41.2
attribute [simp] r28_41
@[simp] theorem n28_42 : evCode P Γ call n f m (cAt [1,1,1,0,1] B28) s H = seqNext P Γ call n f m (cAt [1,1,1,0,1,1] B28) (evCode P Γ call n f m (cAt [1,1,1,0,1,0] B28) s H) := qS
noncomputable def r28_43 : {l : List Oper // opsOf (cAt [1,1,1,0,1,0] B28) = l} := by
  apply Subtype.mk
  dsimp [B28, Try.f28]
@[simp] theorem n28_43 : evCode P Γ call n f m (cAt [1,1,1,0,1,0] B28) s H = regNext (evOpsGo P Γ call r28_43.1 r28_43.1 s H) := qR r28_43.2
attribute [simp] r28_43
@[simp] theorem n28_44 : evCode P Γ call n f m (cAt [1,1,1,0,1,1] B28) s H = condW P Γ call n f m (cAt [1,1,1,0,1,1,0] B28) (cAt [1,1,1,0,1,1,1] B28) s H (evOperand Γ s (.tmp 51)) := qC
@[simp] theorem n28_45 : evCode P Γ call n f m (cAt [1,1,1,0,1,1,0] B28) s H = seqNext P Γ call n f m (cAt [1,1,1,0,1,1,0,1] B28) (evCode P Γ call n f m (cAt [1,1,1,0,1,1,0,0] B28) s H) := qS
noncomputable def r28_46 : {l : List Oper // opsOf (cAt [1,1,1,0,1,1,0,0] B28) = l} := by
  apply Subtype.mk
  dsimp [B28, Try.f28]
@[simp] theorem n28_46 : evCode P Γ call n f m (cAt [1,1,1,0,1,1,0,0] B28) s H = regNext (evOpsGo P Γ call r28_46.1 r28_46.1 s H) := qR r28_46.2
attribute [simp] r28_46
@[simp] theorem n28_47 : evCode P Γ call n f m (cAt [1,1,1,0,1,1,0,1] B28) s H = some (.ret, s, H) := qT
@[simp] theorem n28_48 : evCode P Γ call n f m (cAt [1,1,1,0,1,1,1] B28) s H = some (.normal, s, H) := qK
@[simp] theorem n28_49 : evCode P Γ call n f m (cAt [1,1,1,1] B28) s H = seqNext P Γ call n f m (cAt [1,1,1,1,1] B28) (evCode P Γ call n f m (cAt [1,1,1,1,0] B28) s H) := qS
noncomputable def r28_50 : {l : List Oper // opsOf (cAt [1,1,1,1,0] B28) = l} := by
  apply Subtype.mk
  dsimp [B28, Try.f28]
@[simp] theorem n28_50 : evCode P Γ call n f m (cAt [1,1,1,1,0] B28) s H = regNext (evOpsGo P Γ call r28_50.1 r28_50.1 s H) := qR r28_50.2
attribute [simp] r28_50
@[simp] theorem n28_51 : evCode P Γ call n f m (cAt [1,1,1,1,1] B28) s H = some (.ret, s, H) := qT
theorem b28 {k : Nat} (ho : ∀ args H, Γ.orc 28 args H = none) (args : List V) (H : Heap) (ha : args.length ≤ 54) : evF Try.prog Γ (k + 1) 28 args H = bodyEnd Try.prog [.tmp 2, .tmp 3] H.length (evCode Try.prog Γ (evF Try.prog Γ k) k 28 H.length (cAt [] B28) (mkL 54 V.undef (enumV 0 args)) H) := body_at Try.func28 (by decide) rfl ho rfl rfl args H ha
noncomputable def B29 : Code := bodyOf Try.f29
@[simp] theorem n29_1 : evCode P Γ call n f m (cAt [] B29) s H = seqNext P Γ call n f m (cAt [1] B29) (evCode P Γ call n f m (cAt [0] B29) s H) := qS
noncomputable def r29_2 : {l : List Oper // opsOf (cAt [0] B29) = l} := by
  apply Subtype.mk
  dsimp [B29, Try.f29]
@[simp] theorem n29_2 : evCode P Γ call n f m (cAt [0] B29) s H = regNext (evOpsGo P Γ call r29_2.1 r29_2.1 s H) := qR r29_2.2
attribute [simp] r29_2
@[simp] theorem n29_3 : evCode P Γ call n f m (cAt [1] B29) s H = seqNext P Γ call n f m (cAt [1,1] B29) (evCode P Γ call n f m (cAt [1,0] B29) s H) := qS
noncomputable def r29_4 : {l : List Oper // opsOf (cAt [1,0] B29) = l} := by
  apply Subtype.mk
  dsimp [B29, Try.f29]
@[simp] theorem n29_4 : evCode P Γ call n f m (cAt [1,0] B29) s H = regNext (evOpsGo P Γ call r29_4.1 r29_4.1 s H) := qR r29_4.2
attribute [simp] r29_4
@[simp] theorem n29_5 : evCode P Γ call n f m (cAt [1,1] B29) s H = seqNext P Γ call n f m (cAt [1,1,1] B29) (evCode P Γ call n f m (cAt [1,1,0] B29) s H) := qS
noncomputable def r29_6 : {l : List Oper // opsOf (cAt [1,1,0] B29) = l} := by
  apply Subtype.mk
  dsimp [B29, Try.f29]
@[simp] theorem n29_6 : evCode P Γ call n f m (cAt [1,1,0] B29) s H = regNext (evOpsGo P Γ call r29_6.1 r29_6.1 s H) := qR r29_6.2
attribute [simp] r29_6
@[simp] theorem n29_7 : evCode P Γ call n f m (cAt [1,1,1] B29) s H = some (.ret, s, H) := qT
theorem b29 {k : Nat} (ho : ∀ args H, Γ.orc 29 args H = none) (args : List V) (H : Heap) (ha : args.length ≤ 24) : evF Try.prog Γ (k + 1) 29 args H = bodyEnd Try.prog [.tmp 0] H.length (evCode Try.prog Γ (evF Try.prog Γ k) k 29 H.length (cAt [] B29) (mkL 24 V.undef (enumV 0 args)) H) := body_at Try.func29 (by decide) rfl ho rfl rfl args H ha
noncomputable def B30 : Code := bodyOf Try.f30
@[simp] theorem n30_1 : evCode P Γ call n f m (cAt [] B30) s H = seqNext P Γ call n f m (cAt [1] B30) (evCode P Γ call n f m (cAt [0] B30) s H) := qS
noncomputable def r30_2 : {l : List Oper // opsOf (cAt [0] B30) = l} := by
  apply Subtype.mk
  dsimp [B30, Try.f30]
@[simp] theorem n30_2 : evCode P Γ call n f m (cAt [0] B30) s H = regNext (evOpsGo P Γ call r30_2.1 r30_2.1 s H) := qR r30_2.2
attribute [simp] r30_2
@[simp] theorem n30_3 : evCode P Γ call n f m (cAt [1] B30) s H = seqNext P Γ call n f m (cAt [1,1] B30) (evCode P Γ call n f m (cAt [1,0] B30) s H) := qS
@[simp] theorem n30_4 : evCode P Γ call n f m (cAt [1,0] B30) s H = seqNext P Γ call n f m (cAt [1,0,1] B30) (evCode P Γ call n f m (cAt [1,0,0] B30) s H) := qS
noncomputable def r30_5 : {l : List Oper // opsOf (cAt [1,0,0] B30) = l} := by
  apply Subtype.mk
  dsimp [B30, Try.f30]
@[simp] theorem n30_5 : evCode P Γ call n f m (cAt [1,0,0] B30) s H = regNext (evOpsGo P Γ call r30_5.1 r30_5.1 s H) := qR r30_5.2
attribute [simp] r30_5
@[simp] theorem n30_6 : evCode P Γ call n f m (cAt [1,0,1] B30) s H = condW P Γ call n f m (cAt [1,0,1,0] B30) (cAt [1,0,1,1] B30) s H (evOperand Γ s (.tmp 10)) := qC
@[simp] theorem n30_7 : evCode P Γ call n f m (cAt [1,0,1,0] B30) s H = seqNext P Γ call n f m (cAt [1,0,1,0,1] B30) (evCode P Γ call n f m (cAt [1,0,1,0,0] B30) s H) := qS
noncomputable def r30_8 : {l : List Oper // opsOf (cAt [1,0,1,0,0] B30) = l} := by
  apply Subtype.mk
  dsimp [B30, Try.f30]
@[simp] theorem n30_8 : evCode P Γ call n f m (cAt [1,0,1,0,0] B30) s H = regNext (evOpsGo P Γ call r30_8.1 r30_8.1 s H) := qR r30_8.2
attribute [simp] r30_8
@[simp] theorem n30_9 : evCode P Γ call n f m (cAt [1,0,1,0,1] B30) s H = some (.ret, s, H) := qT
@[simp] theorem n30_10 : evCode P Γ call n f m (cAt [1,0,1,1] B30) s H = some (.normal, s, H) := qK
@[simp] theorem n30_11 : evCode P Γ call n f m (cAt [1,1] B30) s H = seqNext P Γ call n f m (cAt [1,1,1] B30) (evCode P Γ call n f m (cAt [1,1,0] B30) s H) := qS
@[simp] theorem n30_12 : evCode P Γ call n f m (cAt [1,1,0] B30) s H = seqNext P Γ call n f m (cAt [1,1,0,1] B30) (evCode P Γ call n f m (cAt [1,1,0,0] B30) s H) := qS
noncomputable def r30_13 : {l : List Oper // opsOf (cAt [1,1,0,0] B30) = l} := by
  apply Subtype.mk
  dsimp [B30, Try.f30]
@[simp] theorem n30_13 : evCode P Γ call n f m (cAt [1,1,0,0] B30) s H = regNext (evOpsGo P Γ call r30_13.1 r30_13.1 s H) := qR r30_13.2
attribute [simp] r30_13
@[simp] theorem n30_14 : evCode P Γ call n f m (cAt [1,1,0,1] B30) s H = blockNext 0 (evCode P Γ call n f m (cAt [1,1,0,1,0] B30) s H) := qB
@[simp] theorem n30_15 : evCode P Γ call n f m (cAt [1,1,0,1,0] B30) s H = evLoopC P Γ call n f m (cAt [1,1,0,1,0,0] B30) n s H := qL
noncomputable abbrev L30_4 : Code := cAt [1,1,0,1,0,0] B30
@[simp] theorem n30_15f : firstRegion (cAt [1,1,0,1,0,0] B30) = 4 := by kernel_rfl
@[simp] theorem n30_16 : evCode P Γ call n f m (cAt [1,1,0,1,0,0] B30) s H = seqNext P Γ call n f m (cAt [1,1,0,1,0,0,1] B30) (evCode P Γ call n f m (cAt [1,1,0,1,0,0,0] B30) s H) := qS
noncomputable def r30_17 : {l : List Oper // opsOf (cAt [1,1,0,1,0,0,0] B30) = l} := by
  apply Subtype.mk
  dsimp [B30, Try.f30]
@[simp] theorem n30_17 : evCode P Γ call n f m (cAt [1,1,0,1,0,0,0] B30) s H = regNext (evOpsGo P Γ call r30_17.1 r30_17.1 s H) := qR r30_17.2
attribute [simp] r30_17
@[simp] theorem n30_18 : evCode P Γ call n f m (cAt [1,1,0,1,0,0,1] B30) s H = seqNext P Γ call n f m (cAt [1,1,0,1,0,0,1,1] B30) (evCode P Γ call n f m (cAt [1,1,0,1,0,0,1,0] B30) s H) := qS
@[simp] theorem n30_19 : evCode P Γ call n f m (cAt [1,1,0,1,0,0,1,0] B30) s H = condW P Γ call n f m (cAt [1,1,0,1,0,0,1,0,0] B30) (cAt [1,1,0,1,0,0,1,0,1] B30) s H (evOperand Γ s (.tmp 14)) := qC
@[simp] theorem n30_20 : evCode P Γ call n f m (cAt [1,1,0,1,0,0,1,0,0] B30) s H = some (.normal, s, H) := qK
@[simp] theorem n30_21 : evCode P Γ call n f m (cAt [1,1,0,1,0,0,1,0,1] B30) s H = some (.exit 0, s, H) := qE
@[simp] theorem n30_22 : evCode P Γ call n f m (cAt [1,1,0,1,0,0,1,1] B30) s H = seqNext P Γ call n f m (cAt [1,1,0,1,0,0,1,1,1] B30) (evCode P Γ call n f m (cAt [1,1,0,1,0,0,1,1,0] B30) s H) := qS
@[simp] theorem n30_23 : evCode P Γ call n f m (cAt [1,1,0,1,0,0,1,1,0] B30) s H = blockNext 1 (evCode P Γ call n f m (cAt [1,1,0,1,0,0,1,1,0,0] B30) s H) := qB
@[simp] theorem n30_24 : evCode P Γ call n f m (cAt [1,1,0,1,0,0,1,1,0,0] B30) s H = seqNext P Γ call n f m (cAt [1,1,0,1,0,0,1,1,0,0,1] B30) (evCode P Γ call n f m (cAt [1,1,0,1,0,0,1,1,0,0,0] B30) s H) := qS
noncomputable def r30_25 : {l : List Oper // opsOf (cAt [1,1,0,1,0,0,1,1,0,0,0] B30) = l} := by
  apply Subtype.mk
  dsimp [B30, Try.f30]
@[simp] theorem n30_25 : evCode P Γ call n f m (cAt [1,1,0,1,0,0,1,1,0,0,0] B30) s H = regNext (evOpsGo P Γ call r30_25.1 r30_25.1 s H) := qR r30_25.2
attribute [simp] r30_25
@[simp] theorem n30_26 : evCode P Γ call n f m (cAt [1,1,0,1,0,0,1,1,0,0,1] B30) s H = seqNext P Γ call n f m (cAt [1,1,0,1,0,0,1,1,0,0,1,1] B30) (evCode P Γ call n f m (cAt [1,1,0,1,0,0,1,1,0,0,1,0] B30) s H) := qS
noncomputable def r30_27 : {l : List Oper // opsOf (cAt [1,1,0,1,0,0,1,1,0,0,1,0] B30) = l} := by
  apply Subtype.mk
  dsimp [B30, Try.f30]
@[simp] theorem n30_27 : evCode P Γ call n f m (cAt [1,1,0,1,0,0,1,1,0,0,1,0] B30) s H = regNext (drawR P Γ call r30_27.1 [([1,4,5,6,7], [17,20,21,22,23]), ([0,4,5,6,7], [16,20,21,22,23]), ([4,5,6,7], [20,21,22,23]), ([4,5,6,7], [20,21,22,23]), ([0,1,2,3,5], [16,17,18,19,21]), ([0,1,2,3,4], [16,17,18,19,20]), ([0,1,2,3], [16,17,18,19]), ([0,1,2,3], [16,17,18,19]), ([], [])] s H) := qD r30_27.2
attribute [simp] r30_27
@[simp] theorem n30_28 : evCode P Γ call n f m (cAt [1,1,0,1,0,0,1,1,0,0,1,1] B30) s H = condW P Γ call n f m (cAt [1,1,0,1,0,0,1,1,0,0,1,1,0] B30) (cAt [1,1,0,1,0,0,1,1,0,0,1,1,1] B30) s H (evOperand Γ s (.tmp 24)) := qC
@[simp] theorem n30_29 : evCode P Γ call n f m (cAt [1,1,0,1,0,0,1,1,0,0,1,1,0] B30) s H = seqNext P Γ call n f m (cAt [1,1,0,1,0,0,1,1,0,0,1,1,0,1] B30) (evCode P Γ call n f m (cAt [1,1,0,1,0,0,1,1,0,0,1,1,0,0] B30) s H) := qS
noncomputable def r30_30 : {l : List Oper // opsOf (cAt [1,1,0,1,0,0,1,1,0,0,1,1,0,0] B30) = l} := by
  apply Subtype.mk
  dsimp [B30, Try.f30]
@[simp] theorem n30_30 : evCode P Γ call n f m (cAt [1,1,0,1,0,0,1,1,0,0,1,1,0,0] B30) s H = regNext (evOpsGo P Γ call r30_30.1 r30_30.1 s H) := qR r30_30.2
attribute [simp] r30_30
@[simp] theorem n30_31 : evCode P Γ call n f m (cAt [1,1,0,1,0,0,1,1,0,0,1,1,0,1] B30) s H = some (.ret, s, H) := qT
@[simp] theorem n30_32 : evCode P Γ call n f m (cAt [1,1,0,1,0,0,1,1,0,0,1,1,1] B30) s H = some (.normal, s, H) := qK
noncomputable def r30_33 : {l : List Oper // opsOf (cAt [1,1,0,1,0,0,1,1,1] B30) = l} := by
  apply Subtype.mk
  dsimp [B30, Try.f30]
@[simp] theorem n30_33 : evCode P Γ call n f m (cAt [1,1,0,1,0,0,1,1,1] B30) s H = regNext (evOpsGo P Γ call r30_33.1 r30_33.1 s H) := qR r30_33.2
attribute [simp] r30_33
@[simp] theorem n30_34 : evCode P Γ call n f m (cAt [1,1,1] B30) s H = seqNext P Γ call n f m (cAt [1,1,1,1] B30) (evCode P Γ call n f m (cAt [1,1,1,0] B30) s H) := qS
noncomputable def r30_35 : {l : List Oper // opsOf (cAt [1,1,1,0] B30) = l} := by
  apply Subtype.mk
  dsimp [B30, Try.f30]
@[simp] theorem n30_35 : evCode P Γ call n f m (cAt [1,1,1,0] B30) s H = regNext (evOpsGo P Γ call r30_35.1 r30_35.1 s H) := qR r30_35.2
attribute [simp] r30_35
@[simp] theorem n30_36 : evCode P Γ call n f m (cAt [1,1,1,1] B30) s H = some (.ret, s, H) := qT
theorem b30 {k : Nat} (ho : ∀ args H, Γ.orc 30 args H = none) (args : List V) (H : Heap) (ha : args.length ≤ 26) : evF Try.prog Γ (k + 1) 30 args H = bodyEnd Try.prog [.tmp 4] H.length (evCode Try.prog Γ (evF Try.prog Γ k) k 30 H.length (cAt [] B30) (mkL 26 V.undef (enumV 0 args)) H) := body_at Try.func30 (by decide) rfl ho rfl rfl args H ha
noncomputable def B45 : Code := bodyOf Try.f45
@[simp] theorem n45_1 : evCode P Γ call n f m (cAt [] B45) s H = seqNext P Γ call n f m (cAt [1] B45) (evCode P Γ call n f m (cAt [0] B45) s H) := qS
noncomputable def r45_2 : {l : List Oper // opsOf (cAt [0] B45) = l} := by
  apply Subtype.mk
  dsimp [B45, Try.f45]
@[simp] theorem n45_2 : evCode P Γ call n f m (cAt [0] B45) s H = regNext (evOpsGo P Γ call r45_2.1 r45_2.1 s H) := qR r45_2.2
attribute [simp] r45_2
@[simp] theorem n45_3 : evCode P Γ call n f m (cAt [1] B45) s H = seqNext P Γ call n f m (cAt [1,1] B45) (evCode P Γ call n f m (cAt [1,0] B45) s H) := qS
noncomputable def r45_4 : {l : List Oper // opsOf (cAt [1,0] B45) = l} := by
  apply Subtype.mk
  dsimp [B45, Try.f45]
@[simp] theorem n45_4 : evCode P Γ call n f m (cAt [1,0] B45) s H = regNext (evOpsGo P Γ call r45_4.1 r45_4.1 s H) := qR r45_4.2
attribute [simp] r45_4
@[simp] theorem n45_5 : evCode P Γ call n f m (cAt [1,1] B45) s H = seqNext P Γ call n f m (cAt [1,1,1] B45) (evCode P Γ call n f m (cAt [1,1,0] B45) s H) := qS
noncomputable def r45_6 : {l : List Oper // opsOf (cAt [1,1,0] B45) = l} := by
  apply Subtype.mk
  dsimp [B45, Try.f45]
@[simp] theorem n45_6 : evCode P Γ call n f m (cAt [1,1,0] B45) s H = regNext (evOpsGo P Γ call r45_6.1 r45_6.1 s H) := qR r45_6.2
attribute [simp] r45_6
@[simp] theorem n45_7 : evCode P Γ call n f m (cAt [1,1,1] B45) s H = seqNext P Γ call n f m (cAt [1,1,1,1] B45) (evCode P Γ call n f m (cAt [1,1,1,0] B45) s H) := qS
noncomputable def r45_8 : {l : List Oper // opsOf (cAt [1,1,1,0] B45) = l} := by
  apply Subtype.mk
  dsimp [B45, Try.f45]
@[simp] theorem n45_8 : evCode P Γ call n f m (cAt [1,1,1,0] B45) s H = regNext (evOpsGo P Γ call r45_8.1 r45_8.1 s H) := qR r45_8.2
attribute [simp] r45_8
@[simp] theorem n45_9 : evCode P Γ call n f m (cAt [1,1,1,1] B45) s H = seqNext P Γ call n f m (cAt [1,1,1,1,1] B45) (evCode P Γ call n f m (cAt [1,1,1,1,0] B45) s H) := qS
@[simp] theorem n45_10 : evCode P Γ call n f m (cAt [1,1,1,1,0] B45) s H = seqNext P Γ call n f m (cAt [1,1,1,1,0,1] B45) (evCode P Γ call n f m (cAt [1,1,1,1,0,0] B45) s H) := qS
noncomputable def r45_11 : {l : List Oper // opsOf (cAt [1,1,1,1,0,0] B45) = l} := by
  apply Subtype.mk
  dsimp [B45, Try.f45]
@[simp] theorem n45_11 : evCode P Γ call n f m (cAt [1,1,1,1,0,0] B45) s H = regNext (evOpsGo P Γ call r45_11.1 r45_11.1 s H) := qR r45_11.2
attribute [simp] r45_11
@[simp] theorem n45_12 : evCode P Γ call n f m (cAt [1,1,1,1,0,1] B45) s H = seqNext P Γ call n f m (cAt [1,1,1,1,0,1,1] B45) (evCode P Γ call n f m (cAt [1,1,1,1,0,1,0] B45) s H) := qS
noncomputable def r45_13 : {l : List Oper // opsOf (cAt [1,1,1,1,0,1,0] B45) = l} := by
  apply Subtype.mk
  dsimp [B45, Try.f45]
@[simp] theorem n45_13 : evCode P Γ call n f m (cAt [1,1,1,1,0,1,0] B45) s H = regNext (evOpsGo P Γ call r45_13.1 r45_13.1 s H) := qR r45_13.2
attribute [simp] r45_13
@[simp] theorem n45_14 : evCode P Γ call n f m (cAt [1,1,1,1,0,1,1] B45) s H = condW P Γ call n f m (cAt [1,1,1,1,0,1,1,0] B45) (cAt [1,1,1,1,0,1,1,1] B45) s H (evOperand Γ s (.tmp 15)) := qC
@[simp] theorem n45_15 : evCode P Γ call n f m (cAt [1,1,1,1,0,1,1,0] B45) s H = seqNext P Γ call n f m (cAt [1,1,1,1,0,1,1,0,1] B45) (evCode P Γ call n f m (cAt [1,1,1,1,0,1,1,0,0] B45) s H) := qS
noncomputable def r45_16 : {l : List Oper // opsOf (cAt [1,1,1,1,0,1,1,0,0] B45) = l} := by
  apply Subtype.mk
  dsimp [B45, Try.f45]
@[simp] theorem n45_16 : evCode P Γ call n f m (cAt [1,1,1,1,0,1,1,0,0] B45) s H = regNext (evOpsGo P Γ call r45_16.1 r45_16.1 s H) := qR r45_16.2
attribute [simp] r45_16
@[simp] theorem n45_17 : evCode P Γ call n f m (cAt [1,1,1,1,0,1,1,0,1] B45) s H = some (.ret, s, H) := qT
@[simp] theorem n45_18 : evCode P Γ call n f m (cAt [1,1,1,1,0,1,1,1] B45) s H = some (.normal, s, H) := qK
@[simp] theorem n45_19 : evCode P Γ call n f m (cAt [1,1,1,1,1] B45) s H = seqNext P Γ call n f m (cAt [1,1,1,1,1,1] B45) (evCode P Γ call n f m (cAt [1,1,1,1,1,0] B45) s H) := qS
noncomputable def r45_20 : {l : List Oper // opsOf (cAt [1,1,1,1,1,0] B45) = l} := by
  apply Subtype.mk
  dsimp [B45, Try.f45]
@[simp] theorem n45_20 : evCode P Γ call n f m (cAt [1,1,1,1,1,0] B45) s H = regNext (evOpsGo P Γ call r45_20.1 r45_20.1 s H) := qR r45_20.2
attribute [simp] r45_20
@[simp] theorem n45_21 : evCode P Γ call n f m (cAt [1,1,1,1,1,1] B45) s H = some (.ret, s, H) := qT
theorem b45 {k : Nat} (ho : ∀ args H, Γ.orc 45 args H = none) (args : List V) (H : Heap) (ha : args.length ≤ 18) : evF Try.prog Γ (k + 1) 45 args H = bodyEnd Try.prog [.tmp 2, .tmp 3] H.length (evCode Try.prog Γ (evF Try.prog Γ k) k 45 H.length (cAt [] B45) (mkL 18 V.undef (enumV 0 args)) H) := body_at Try.func45 (by decide) rfl ho rfl rfl args H ha
noncomputable def B46 : Code := bodyOf Try.f46
@[simp] theorem n46_1 : evCode P Γ call n f m (cAt [] B46) s H = seqNext P Γ call n f m (cAt [1] B46) (evCode P Γ call n f m (cAt [0] B46) s H) := qS
noncomputable def r46_2 : {l : List Oper // opsOf (cAt [0] B46) = l} := by
  apply Subtype.mk
  dsimp [B46, Try.f46]
@[simp] theorem n46_2 : evCode P Γ call n f m (cAt [0] B46) s H = regNext (evOpsGo P Γ call r46_2.1 r46_2.1 s H) := qR r46_2.2
attribute [simp] r46_2
@[simp] theorem n46_3 : evCode P Γ call n f m (cAt [1] B46) s H = seqNext P Γ call n f m (cAt [1,1] B46) (evCode P Γ call n f m (cAt [1,0] B46) s H) := qS
@[simp] theorem n46_4 : evCode P Γ call n f m (cAt [1,0] B46) s H = seqNext P Γ call n f m (cAt [1,0,1] B46) (evCode P Γ call n f m (cAt [1,0,0] B46) s H) := qS
noncomputable def r46_5 : {l : List Oper // opsOf (cAt [1,0,0] B46) = l} := by
  apply Subtype.mk
  dsimp [B46, Try.f46]
@[simp] theorem n46_5 : evCode P Γ call n f m (cAt [1,0,0] B46) s H = regNext (evOpsGo P Γ call r46_5.1 r46_5.1 s H) := qR r46_5.2
attribute [simp] r46_5
@[simp] theorem n46_6 : evCode P Γ call n f m (cAt [1,0,1] B46) s H = blockNext 0 (evCode P Γ call n f m (cAt [1,0,1,0] B46) s H) := qB
@[simp] theorem n46_7 : evCode P Γ call n f m (cAt [1,0,1,0] B46) s H = evLoopC P Γ call n f m (cAt [1,0,1,0,0] B46) n s H := qL
noncomputable abbrev L46_2 : Code := cAt [1,0,1,0,0] B46
@[simp] theorem n46_7f : firstRegion (cAt [1,0,1,0,0] B46) = 2 := by kernel_rfl
@[simp] theorem n46_8 : evCode P Γ call n f m (cAt [1,0,1,0,0] B46) s H = seqNext P Γ call n f m (cAt [1,0,1,0,0,1] B46) (evCode P Γ call n f m (cAt [1,0,1,0,0,0] B46) s H) := qS
noncomputable def r46_9 : {l : List Oper // opsOf (cAt [1,0,1,0,0,0] B46) = l} := by
  apply Subtype.mk
  dsimp [B46, Try.f46]
@[simp] theorem n46_9 : evCode P Γ call n f m (cAt [1,0,1,0,0,0] B46) s H = regNext (evOpsGo P Γ call r46_9.1 r46_9.1 s H) := qR r46_9.2
attribute [simp] r46_9
@[simp] theorem n46_10 : evCode P Γ call n f m (cAt [1,0,1,0,0,1] B46) s H = seqNext P Γ call n f m (cAt [1,0,1,0,0,1,1] B46) (evCode P Γ call n f m (cAt [1,0,1,0,0,1,0] B46) s H) := qS
@[simp] theorem n46_11 : evCode P Γ call n f m (cAt [1,0,1,0,0,1,0] B46) s H = condW P Γ call n f m (cAt [1,0,1,0,0,1,0,0] B46) (cAt [1,0,1,0,0,1,0,1] B46) s H (evOperand Γ s (.tmp 25)) := qC
@[simp] theorem n46_12 : evCode P Γ call n f m (cAt [1,0,1,0,0,1,0,0] B46) s H = some (.normal, s, H) := qK
@[simp] theorem n46_13 : evCode P Γ call n f m (cAt [1,0,1,0,0,1,0,1] B46) s H = some (.exit 0, s, H) := qE
@[simp] theorem n46_14 : evCode P Γ call n f m (cAt [1,0,1,0,0,1,1] B46) s H = seqNext P Γ call n f m (cAt [1,0,1,0,0,1,1,1] B46) (evCode P Γ call n f m (cAt [1,0,1,0,0,1,1,0] B46) s H) := qS
@[simp] theorem n46_15 : evCode P Γ call n f m (cAt [1,0,1,0,0,1,1,0] B46) s H = blockNext 1 (evCode P Γ call n f m (cAt [1,0,1,0,0,1,1,0,0] B46) s H) := qB
@[simp] theorem n46_16 : evCode P Γ call n f m (cAt [1,0,1,0,0,1,1,0,0] B46) s H = seqNext P Γ call n f m (cAt [1,0,1,0,0,1,1,0,0,1] B46) (evCode P Γ call n f m (cAt [1,0,1,0,0,1,1,0,0,0] B46) s H) := qS
noncomputable def r46_17 : {l : List Oper // opsOf (cAt [1,0,1,0,0,1,1,0,0,0] B46) = l} := by
  apply Subtype.mk
  dsimp [B46, Try.f46]
@[simp] theorem n46_17 : evCode P Γ call n f m (cAt [1,0,1,0,0,1,1,0,0,0] B46) s H = regNext (evOpsGo P Γ call r46_17.1 r46_17.1 s H) := qR r46_17.2
attribute [simp] r46_17
@[simp] theorem n46_18 : evCode P Γ call n f m (cAt [1,0,1,0,0,1,1,0,0,1] B46) s H = seqNext P Γ call n f m (cAt [1,0,1,0,0,1,1,0,0,1,1] B46) (evCode P Γ call n f m (cAt [1,0,1,0,0,1,1,0,0,1,0] B46) s H) := qS
noncomputable def r46_19 : {l : List Oper // opsOf (cAt [1,0,1,0,0,1,1,0,0,1,0] B46) = l} := by
  apply Subtype.mk
  dsimp [B46, Try.f46]
@[simp] theorem n46_19 : evCode P Γ call n f m (cAt [1,0,1,0,0,1,1,0,0,1,0] B46) s H = regNext (evOpsGo P Γ call r46_19.1 r46_19.1 s H) := qR r46_19.2
attribute [simp] r46_19
@[simp] theorem n46_20 : evCode P Γ call n f m (cAt [1,0,1,0,0,1,1,0,0,1,1] B46) s H = condW P Γ call n f m (cAt [1,0,1,0,0,1,1,0,0,1,1,0] B46) (cAt [1,0,1,0,0,1,1,0,0,1,1,1] B46) s H (evOperand Γ s (.tmp 32)) := qC
@[simp] theorem n46_21 : evCode P Γ call n f m (cAt [1,0,1,0,0,1,1,0,0,1,1,0] B46) s H = seqNext P Γ call n f m (cAt [1,0,1,0,0,1,1,0,0,1,1,0,1] B46) (evCode P Γ call n f m (cAt [1,0,1,0,0,1,1,0,0,1,1,0,0] B46) s H) := qS
noncomputable def r46_22 : {l : List Oper // opsOf (cAt [1,0,1,0,0,1,1,0,0,1,1,0,0] B46) = l} := by
  apply Subtype.mk
  dsimp [B46, Try.f46]
@[simp] theorem n46_22 : evCode P Γ call n f m (cAt [1,0,1,0,0,1,1,0,0,1,1,0,0] B46) s H = regNext (evOpsGo P Γ call r46_22.1 r46_22.1 s H) := qR r46_22.2
attribute [simp] r46_22
@[simp] theorem n46_23 : evCode P Γ call n f m (cAt [1,0,1,0,0,1,1,0,0,1,1,0,1] B46) s H = some (.ret, s, H) := qT
@[simp] theorem n46_24 : evCode P Γ call n f m (cAt [1,0,1,0,0,1,1,0,0,1,1,1] B46) s H = some (.normal, s, H) := qK
noncomputable def r46_25 : {l : List Oper // opsOf (cAt [1,0,1,0,0,1,1,1] B46) = l} := by
  apply Subtype.mk
  dsimp [B46, Try.f46]
@[simp] theorem n46_25 : evCode P Γ call n f m (cAt [1,0,1,0,0,1,1,1] B46) s H = regNext (evOpsGo P Γ call r46_25.1 r46_25.1 s H) := qR r46_25.2
attribute [simp] r46_25
@[simp] theorem n46_26 : evCode P Γ call n f m (cAt [1,1] B46) s H = seqNext P Γ call n f m (cAt [1,1,1] B46) (evCode P Γ call n f m (cAt [1,1,0] B46) s H) := qS
noncomputable def r46_27 : {l : List Oper // opsOf (cAt [1,1,0] B46) = l} := by
  apply Subtype.mk
  dsimp [B46, Try.f46]
@[simp] theorem n46_27 : evCode P Γ call n f m (cAt [1,1,0] B46) s H = regNext (evOpsGo P Γ call r46_27.1 r46_27.1 s H) := qR r46_27.2
attribute [simp] r46_27
@[simp] theorem n46_28 : evCode P Γ call n f m (cAt [1,1,1] B46) s H = some (.ret, s, H) := qT
theorem b46 {k : Nat} (ho : ∀ args H, Γ.orc 46 args H = none) (args : List V) (H : Heap) (ha : args.length ≤ 39) : evF Try.prog Γ (k + 1) 46 args H = bodyEnd Try.prog [.tmp 4] H.length (evCode Try.prog Γ (evF Try.prog Γ k) k 46 H.length (cAt [] B46) (mkL 39 V.undef (enumV 0 args)) H) := body_at Try.func46 (by decide) rfl ho rfl rfl args H ha
noncomputable def B47 : Code := bodyOf Try.f47
@[simp] theorem n47_1 : evCode P Γ call n f m (cAt [] B47) s H = seqNext P Γ call n f m (cAt [1] B47) (evCode P Γ call n f m (cAt [0] B47) s H) := qS
noncomputable def r47_2 : {l : List Oper // opsOf (cAt [0] B47) = l} := by
  apply Subtype.mk
  dsimp [B47, Try.f47]
@[simp] theorem n47_2 : evCode P Γ call n f m (cAt [0] B47) s H = regNext (evOpsGo P Γ call r47_2.1 r47_2.1 s H) := qR r47_2.2
attribute [simp] r47_2
@[simp] theorem n47_3 : evCode P Γ call n f m (cAt [1] B47) s H = seqNext P Γ call n f m (cAt [1,1] B47) (evCode P Γ call n f m (cAt [1,0] B47) s H) := qS
noncomputable def r47_4 : {l : List Oper // opsOf (cAt [1,0] B47) = l} := by
  apply Subtype.mk
  dsimp [B47, Try.f47]
@[simp] theorem n47_4 : evCode P Γ call n f m (cAt [1,0] B47) s H = regNext (evOpsGo P Γ call r47_4.1 r47_4.1 s H) := qR r47_4.2
attribute [simp] r47_4
@[simp] theorem n47_5 : evCode P Γ call n f m (cAt [1,1] B47) s H = seqNext P Γ call n f m (cAt [1,1,1] B47) (evCode P Γ call n f m (cAt [1,1,0] B47) s H) := qS
noncomputable def r47_6 : {l : List Oper // opsOf (cAt [1,1,0] B47) = l} := by
  apply Subtype.mk
  dsimp [B47, Try.f47]
@[simp] theorem n47_6 : evCode P Γ call n f m (cAt [1,1,0] B47) s H = regNext (evOpsGo P Γ call r47_6.1 r47_6.1 s H) := qR r47_6.2
attribute [simp] r47_6
@[simp] theorem n47_7 : evCode P Γ call n f m (cAt [1,1,1] B47) s H = seqNext P Γ call n f m (cAt [1,1,1,1] B47) (evCode P Γ call n f m (cAt [1,1,1,0] B47) s H) := qS
@[simp] theorem n47_8 : evCode P Γ call n f m (cAt [1,1,1,0] B47) s H = seqNext P Γ call n f m (cAt [1,1,1,0,1] B47) (evCode P Γ call n f m (cAt [1,1,1,0,0] B47) s H) := qS
noncomputable def r47_9 : {l : List Oper // opsOf (cAt [1,1,1,0,0] B47) = l} := by
  apply Subtype.mk
  dsimp [B47, Try.f47]
@[simp] theorem n47_9 : evCode P Γ call n f m (cAt [1,1,1,0,0] B47) s H = regNext (evOpsGo P Γ call r47_9.1 r47_9.1 s H) := qR r47_9.2
attribute [simp] r47_9
@[simp] theorem n47_10 : evCode P Γ call n f m (cAt [1,1,1,0,1] B47) s H = condW P Γ call n f m (cAt [1,1,1,0,1,0] B47) (cAt [1,1,1,0,1,1] B47) s H (evOperand Γ s (.tmp 16)) := qC
@[simp] theorem n47_11 : evCode P Γ call n f m (cAt [1,1,1,0,1,0] B47) s H = seqNext P Γ call n f m (cAt [1,1,1,0,1,0,1] B47) (evCode P Γ call n f m (cAt [1,1,1,0,1,0,0] B47) s H) := qS
noncomputable def r47_12 : {l : List Oper // opsOf (cAt [1,1,1,0,1,0,0] B47) = l} := by
  apply Subtype.mk
  dsimp [B47, Try.f47]
@[simp] theorem n47_12 : evCode P Γ call n f m (cAt [1,1,1,0,1,0,0] B47) s H = regNext (evOpsGo P Γ call r47_12.1 r47_12.1 s H) := qR r47_12.2
attribute [simp] r47_12
@[simp] theorem n47_13 : evCode P Γ call n f m (cAt [1,1,1,0,1,0,1] B47) s H = some (.ret, s, H) := qT
@[simp] theorem n47_14 : evCode P Γ call n f m (cAt [1,1,1,0,1,1] B47) s H = some (.normal, s, H) := qK
@[simp] theorem n47_15 : evCode P Γ call n f m (cAt [1,1,1,1] B47) s H = seqNext P Γ call n f m (cAt [1,1,1,1,1] B47) (evCode P Γ call n f m (cAt [1,1,1,1,0] B47) s H) := qS
noncomputable def r47_16 : {l : List Oper // opsOf (cAt [1,1,1,1,0] B47) = l} := by
  apply Subtype.mk
  dsimp [B47, Try.f47]
@[simp] theorem n47_16 : evCode P Γ call n f m (cAt [1,1,1,1,0] B47) s H = regNext (evOpsGo P Γ call r47_16.1 r47_16.1 s H) := qR r47_16.2
attribute [simp] r47_16
@[simp] theorem n47_17 : evCode P Γ call n f m (cAt [1,1,1,1,1] B47) s H = seqNext P Γ call n f m (cAt [1,1,1,1,1,1] B47) (evCode P Γ call n f m (cAt [1,1,1,1,1,0] B47) s H) := qS
@[simp] theorem n47_18 : evCode P Γ call n f m (cAt [1,1,1,1,1,0] B47) s H = seqNext P Γ call n f m (cAt [1,1,1,1,1,0,1] B47) (evCode P Γ call n f m (cAt [1,1,1,1,1,0,0] B47) s H) := qS
noncomputable def r47_19 : {l : List Oper // opsOf (cAt [1,1,1,1,1,0,0] B47) = l} := by
  apply Subtype.mk
  dsimp [B47, Try.f47]
@[simp] theorem n47_19 : evCode P Γ call n f m (cAt [1,1,1,1,1,0,0] B47) s H = regNext (evOpsGo P Γ call r47_19.1 r47_19.1 s H) := qR r47_19.2
attribute [simp] r47_19
@[simp] theorem n47_20 : evCode P Γ call n f m (cAt [1,1,1,1,1,0,1] B47) s H = condW P Γ call n f m (cAt [1,1,1,1,1,0,1,0] B47) (cAt [1,1,1,1,1,0,1,1] B47) s H (evOperand Γ s (.tmp 22)) := qC
@[simp] theorem n47_21 : evCode P Γ call n f m (cAt [1,1,1,1,1,0,1,0] B47) s H = seqNext P Γ call n f m (cAt [1,1,1,1,1,0,1,0,1] B47) (evCode P Γ call n f m (cAt [1,1,1,1,1,0,1,0,0] B47) s H) := qS
noncomputable def r47_22 : {l : List Oper // opsOf (cAt [1,1,1,1,1,0,1,0,0] B47) = l} := by
  apply Subtype.mk
  dsimp [B47, Try.f47]
@[simp] theorem n47_22 : evCode P Γ call n f m (cAt [1,1,1,1,1,0,1,0,0] B47) s H = regNext (evOpsGo P Γ call r47_22.1 r47_22.1 s H) := qR r47_22.2
attribute [simp] r47_22
@[simp] theorem n47_23 : evCode P Γ call n f m (cAt [1,1,1,1,1,0,1,0,1] B47) s H = some (.ret, s, H) := qT
@[simp] theorem n47_24 : evCode P Γ call n f m (cAt [1,1,1,1,1,0,1,1] B47) s H = some (.normal, s, H) := qK
@[simp] theorem n47_25 : evCode P Γ call n f m (cAt [1,1,1,1,1,1] B47) s H = seqNext P Γ call n f m (cAt [1,1,1,1,1,1,1] B47) (evCode P Γ call n f m (cAt [1,1,1,1,1,1,0] B47) s H) := qS
@[simp] theorem n47_26 : evCode P Γ call n f m (cAt [1,1,1,1,1,1,0] B47) s H = seqNext P Γ call n f m (cAt [1,1,1,1,1,1,0,1] B47) (evCode P Γ call n f m (cAt [1,1,1,1,1,1,0,0] B47) s H) := qS
noncomputable def r47_27 : {l : List Oper // opsOf (cAt [1,1,1,1,1,1,0,0] B47) = l} := by
  apply Subtype.mk
  dsimp [B47, Try.f47]
@[simp] theorem n47_27 : evCode P Γ call n f m (cAt [1,1,1,1,1,1,0,0] B47) s H = regNext (evOpsGo P Γ call r47_27.1 r47_27.1 s H) := qR r47_27.2
attribute [simp] r47_27
@[simp] theorem n47_28 : evCode P Γ call n f m (cAt [1,1,1,1,1,1,0,1] B47) s H = condW P Γ call n f m (cAt [1,1,1,1,1,1,0,1,0] B47) (cAt [1,1,1,1,1,1,0,1,1] B47) s H (evOperand Γ s (.tmp 31)) := qC
@[simp] theorem n47_29 : evCode P Γ call n f m (cAt [1,1,1,1,1,1,0,1,0] B47) s H = seqNext P Γ call n f m (cAt [1,1,1,1,1,1,0,1,0,1] B47) (evCode P Γ call n f m (cAt [1,1,1,1,1,1,0,1,0,0] B47) s H) := qS
noncomputable def r47_30 : {l : List Oper // opsOf (cAt [1,1,1,1,1,1,0,1,0,0] B47) = l} := by
  apply Subtype.mk
  dsimp [B47, Try.f47]
@[simp] theorem n47_30 : evCode P Γ call n f m (cAt [1,1,1,1,1,1,0,1,0,0] B47) s H = regNext (evOpsGo P Γ call r47_30.1 r47_30.1 s H) := qR r47_30.2
attribute [simp] r47_30
@[simp] theorem n47_31 : evCode P Γ call n f m (cAt [1,1,1,1,1,1,0,1,0,1] B47) s H = seqNext P Γ call n f m (cAt [1,1,1,1,1,1,0,1,0,1,1] B47) (evCode P Γ call n f m (cAt [1,1,1,1,1,1,0,1,0,1,0] B47) s H) := qS
noncomputable def r47_32 : {l : List Oper // opsOf (cAt [1,1,1,1,1,1,0,1,0,1,0] B47) = l} := by
  apply Subtype.mk
  dsimp [B47, Try.f47]
@[simp] theorem n47_32 : evCode P Γ call n f m (cAt [1,1,1,1,1,1,0,1,0,1,0] B47) s H = regNext (evOpsGo P Γ call r47_32.1 r47_32.1 s H) := qR r47_32.2
attribute [simp] r47_32
@[simp] theorem n47_33 : evCode P Γ call n f m (cAt [1,1,1,1,1,1,0,1,0,1,1] B47) s H = seqNext P Γ call n f m (cAt [1,1,1,1,1,1,0,1,0,1,1,1] B47) (evCode P Γ call n f m (cAt [1,1,1,1,1,1,0,1,0,1,1,0] B47) s H) := qS
noncomputable def r47_34 : {l : List Oper // opsOf (cAt [1,1,1,1,1,1,0,1,0,1,1,0] B47) = l} := by
  apply Subtype.mk
  dsimp [B47, Try.f47]
@[simp] theorem n47_34 : evCode P Γ call n f m (cAt [1,1,1,1,1,1,0,1,0,1,1,0] B47) s H = regNext (drawR P Γ call r47_34.1 [([1,2,3,5,6,7], [47,48,49,51,52,53]), ([0,2,5,6,7], [46,48,51,52,53]), ([0,1,5,6,7], [46,47,51,52,53]), ([0,5,6,7], [46,51,52,53]), ([5,6,7], [51,52,53]), ([0,1,2,3,4,6], [46,47,48,49,50,52]), ([0,1,2,3,4,5], [46,47,48,49,50,51]), ([0,1,2,3,4], [46,47,48,49,50]), ([], [])] s H) := qD r47_34.2
attribute [simp] r47_34
@[simp] theorem n47_35 : evCode P Γ call n f m (cAt [1,1,1,1,1,1,0,1,0,1,1,1] B47) s H = seqNext P Γ call n f m (cAt [1,1,1,1,1,1,0,1,0,1,1,1,1] B47) (evCode P Γ call n f m (cAt [1,1,1,1,1,1,0,1,0,1,1,1,0] B47) s H) := qS
noncomputable def r47_36 : {l : List Oper // opsOf (cAt [1,1,1,1,1,1,0,1,0,1,1,1,0] B47) = l} := by
  apply Subtype.mk
  dsimp [B47, Try.f47]
@[simp] theorem n47_36 : evCode P Γ call n f m (cAt [1,1,1,1,1,1,0,1,0,1,1,1,0] B47) s H = regNext (evOpsGo P Γ call r47_36.1 r47_36.1 s H) := qR r47_36.2
attribute [simp] r47_36
@[simp] theorem n47_37 : evCode P Γ call n f m (cAt [1,1,1,1,1,1,0,1,0,1,1,1,1] B47) s H = some (.ret, s, H) := qT
@[simp] theorem n47_38 : evCode P Γ call n f m (cAt [1,1,1,1,1,1,0,1,1] B47) s H = some (.normal, s, H) := qK
@[simp] theorem n47_39 : evCode P Γ call n f m (cAt [1,1,1,1,1,1,1] B47) s H = seqNext P Γ call n f m (cAt [1,1,1,1,1,1,1,1] B47) (evCode P Γ call n f m (cAt [1,1,1,1,1,1,1,0] B47) s H) := qS
noncomputable def r47_40 : {l : List Oper // opsOf (cAt [1,1,1,1,1,1,1,0] B47) = l} := by
  apply Subtype.mk
  dsimp [B47, Try.f47]
@[simp] theorem n47_40 : evCode P Γ call n f m (cAt [1,1,1,1,1,1,1,0] B47) s H = regNext (evOpsGo P Γ call r47_40.1 r47_40.1 s H) := qR r47_40.2
attribute [simp] r47_40
@[simp] theorem n47_41 : evCode P Γ call n f m (cAt [1,1,1,1,1,1,1,1] B47) s H = seqNext P Γ call n f m (cAt [1,1,1,1,1,1,1,1,1] B47) (evCode P Γ call n f m (cAt [1,1,1,1,1,1,1,1,0] B47) s H) := qS
@[simp] theorem n47_42 : evCode P Γ call n f m (cAt [1,1,1,1,1,1,1,1,0] B47) s H = seqNext P Γ call n f m (cAt [1,1,1,1,1,1,1,1,0,1] B47) (evCode P Γ call n f m (cAt [1,1,1,1,1,1,1,1,0,0] B47) s H) := qS
noncomputable def r47_43 : {l : List Oper // opsOf (cAt [1,1,1,1,1,1,1,1,0,0] B47) = l} := by
  apply Subtype.mk
  dsimp [B47, Try.f47]
@[simp] theorem n47_43 : evCode P Γ call n f m (cAt [1,1,1,1,1,1,1,1,0,0] B47) s H = regNext (evOpsGo P Γ call r47_43.1 r47_43.1 s H) := qR r47_43.2
attribute [simp] r47_43
@[simp] theorem n47_44 : evCode P Γ call n f m (cAt [1,1,1,1,1,1,1,1,0,1] B47) s H = condW P Γ call n f m (cAt [1,1,1,1,1,1,1,1,0,1,0] B47) (cAt [1,1,1,1,1,1,1,1,0,1,1] B47) s H (evOperand Γ s (.tmp 68)) := qC
@[simp] theorem n47_45 : evCode P Γ call n f m (cAt [1,1,1,1,1,1,1,1,0,1,0] B47) s H = seqNext P Γ call n f m (cAt [1,1,1,1,1,1,1,1,0,1,0,1] B47) (evCode P Γ call n f m (cAt [1,1,1,1,1,1,1,1,0,1,0,0] B47) s H) := qS
noncomputable def r47_46 : {l : List Oper // opsOf (cAt [1,1,1,1,1,1,1,1,0,1,0,0] B47) = l} := by
  apply Subtype.mk
  dsimp [B47, Try.f47]
@[simp] theorem n47_46 : evCode P Γ call n f m (cAt [1,1,1,1,1,1,1,1,0,1,0,0] B47) s H = regNext (drawR P Γ call r47_46.1 [([1,2,3,5,6,7], [70,71,72,74,75,76]), ([0,2,5,6,7], [69,71,74,75,76]), ([0,1,5,6,7], [69,70,74,75,76]), ([0,5,6,7], [69,74,75,76]), ([5,6,7], [74,75,76]), ([0,1,2,3,4,6], [69,70,71,72,73,75]), ([0,1,2,3,4,5], [69,70,71,72,73,74]), ([0,1,2,3,4], [69,70,71,72,73]), ([], [])] s H) := qD r47_46.2
attribute [simp] r47_46
@[simp] theorem n47_47 : evCode P Γ call n f m (cAt [1,1,1,1,1,1,1,1,0,1,0,1] B47) s H = seqNext P Γ call n f m (cAt [1,1,1,1,1,1,1,1,0,1,0,1,1] B47) (evCode P Γ call n f m (cAt [1,1,1,1,1,1,1,1,0,1,0,1,0] B47) s H) := qS
noncomputable def r47_48 : {l : List Oper // opsOf (cAt [1,1,1,1,1,1,1,1,0,1,0,1,0] B47) = l} := by
  apply Subtype.mk
  dsimp [B47, Try.f47]
@[simp] theorem n47_48 : evCode P Γ call n f m (cAt [1,1,1,1,1,1,1,1,0,1,0,1,0] B47) s H = regNext (evOpsGo P Γ call r47_48.1 r47_48.1 s H) := qR r47_48.2
attribute [simp] r47_48
@[simp] theorem n47_49 : evCode P Γ call n f m (cAt [1,1,1,1,1,1,1,1,0,1,0,1,1] B47) s H = seqNext P Γ call n f m (cAt [1,1,1,1,1,1,1,1,0,1,0,1,1,1] B47) (evCode P Γ call n f m (cAt [1,1,1,1,1,1,1,1,0,1,0,1,1,0] B47) s H) := qS
noncomputable def r47_50 : {l : List Oper // opsOf (cAt [1,1,1,1,1,1,1,1,0,1,0,1,1,0] B47) = l} := by
  apply Subtype.mk
  dsimp [B47, Try.f47]
@[simp] theorem n47_50 : evCode P Γ call n f m (cAt [1,1,1,1,1,1,1,1,0,1,0,1,1,0] B47) s H = regNext (evOpsGo P Γ call r47_50.1 r47_50.1 s H) := qR r47_50.2
attribute [simp] r47_50
@[simp] theorem n47_51 : evCode P Γ call n f m (cAt [1,1,1,1,1,1,1,1,0,1,0,1,1,1] B47) s H = some (.ret, s, H) := qT
@[simp] theorem n47_52 : evCode P Γ call n f m (cAt [1,1,1,1,1,1,1,1,0,1,1] B47) s H = some (.normal, s, H) := qK
@[simp] theorem n47_53 : evCode P Γ call n f m (cAt [1,1,1,1,1,1,1,1,1] B47) s H = seqNext P Γ call n f m (cAt [1,1,1,1,1,1,1,1,1,1] B47) (evCode P Γ call n f m (cAt [1,1,1,1,1,1,1,1,1,0] B47) s H) := qS
noncomputable def r47_54 : {l : List Oper // opsOf (cAt [1,1,1,1,1,1,1,1,1,0] B47) = l} := by
  apply Subtype.mk
  dsimp [B47, Try.f47]
@[simp] theorem n47_54 : evCode P Γ call n f m (cAt [1,1,1,1,1,1,1,1,1,0] B47) s H = regNext (evOpsGo P Γ call r47_54.1 r47_54.1 s H) := qR r47_54.2
attribute [simp] r47_54
@[simp] theorem n47_55 : evCode P Γ call n f m (cAt [1,1,1,1,1,1,1,1,1,1] B47) s H = seqNext P Γ call n f m (cAt [1,1,1,1,1,1,1,1,1,1,1] B47) (evCode P Γ call n f m (cAt [1,1,1,1,1,1,1,1,1,1,0] B47) s H) := qS
noncomputable def r47_56 : {l : List Oper // opsOf (cAt [1,1,1,1,1,1,1,1,1,1,0] B47) = l} := by
  apply Subtype.mk
  dsimp [B47, Try.f47]
@[simp] theorem n47_56 : evCode P Γ call n f m (cAt [1,1,1,1,1,1,1,1,1,1,0] B47) s H = regNext (evOpsGo P Γ call r47_56.1 r47_56.1 s H) := qR r47_56.2
attribute [simp] r47_56
@[simp] theorem n47_57 : evCode P Γ call n f m (cAt [1,1,1,1,1,1,1,1,1,1,1] B47) s H = seqNext P Γ call n f m (cAt [1,1,1,1,1,1,1,1,1,1,1,1] B47) (evCode P Γ call n f m (cAt [1,1,1,1,1,1,1,1,1,1,1,0] B47) s H) := qS
noncomputable def r47_58 : {l : List Oper // opsOf (cAt [1,1,1,1,1,1,1,1,1,1,1,0] B47) = l} := by
  apply Subtype.mk
  dsimp [B47, Try.f47]
@[simp] theorem n47_58 : evCode P Γ call n f m (cAt [1,1,1,1,1,1,1,1,1,1,1,0] B47) s H = regNext (evOpsGo P Γ call r47_58.1 r47_58.1 s H) := qR r47_58.2
attribute [simp] r47_58
@[simp] theorem n47_59 : evCode P Γ call n f m (cAt [1,1,1,1,1,1,1,1,1,1,1,1] B47) s H = some (.ret, s, H) := qT
theorem b47 {k : Nat} (ho : ∀ args H, Γ.orc 47 args H = none) (args : List V) (H : Heap) (ha : args.length ≤ 95) : evF Try.prog Γ (k + 1) 47 args H = bodyEnd Try.prog [.tmp 6] H.length (evCode Try.prog Γ (evF Try.prog Γ k) k 47 H.length (cAt [] B47) (mkL 95 V.undef (enumV 0 args)) H) := body_at Try.func47 (by decide) rfl ho rfl rfl args H ha
noncomputable def B48 : Code := bodyOf Try.f48
@[simp] theorem n48_1 : evCode P Γ call n f m (cAt [] B48) s H = seqNext P Γ call n f m (cAt [1] B48) (evCode P Γ call n f m (cAt [0] B48) s H) := qS
noncomputable def r48_2 : {l : List Oper // opsOf (cAt [0] B48) = l} := by
  apply Subtype.mk
  dsimp [B48, Try.f48]
@[simp] theorem n48_2 : evCode P Γ call n f m (cAt [0] B48) s H = regNext (evOpsGo P Γ call r48_2.1 r48_2.1 s H) := qR r48_2.2
attribute [simp] r48_2
@[simp] theorem n48_3 : evCode P Γ call n f m (cAt [1] B48) s H = seqNext P Γ call n f m (cAt [1,1] B48) (evCode P Γ call n f m (cAt [1,0] B48) s H) := qS
@[simp] theorem n48_4 : evCode P Γ call n f m (cAt [1,0] B48) s H = seqNext P Γ call n f m (cAt [1,0,1] B48) (evCode P Γ call n f m (cAt [1,0,0] B48) s H) := qS
noncomputable def r48_5 : {l : List Oper // opsOf (cAt [1,0,0] B48) = l} := by
  apply Subtype.mk
  dsimp [B48, Try.f48]
@[simp] theorem n48_5 : evCode P Γ call n f m (cAt [1,0,0] B48) s H = regNext (evOpsGo P Γ call r48_5.1 r48_5.1 s H) := qR r48_5.2
attribute [simp] r48_5
@[simp] theorem n48_6 : evCode P Γ call n f m (cAt [1,0,1] B48) s H = condW P Γ call n f m (cAt [1,0,1,0] B48) (cAt [1,0,1,1] B48) s H (evOperand Γ s (.tmp 7)) := qC
@[simp] theorem n48_7 : evCode P Γ call n f m (cAt [1,0,1,0] B48) s H = seqNext P Γ call n f m (cAt [1,0,1,0,1] B48) (evCode P Γ call n f m (cAt [1,0,1,0,0] B48) s H) := qS
noncomputable def r48_8 : {l : List Oper // opsOf (cAt [1,0,1,0,0] B48) = l} := by
  apply Subtype.mk
  dsimp [B48, Try.f48]
@[simp] theorem n48_8 : evCode P Γ call n f m (cAt [1,0,1,0,0] B48) s H = regNext (evOpsGo P Γ call r48_8.1 r48_8.1 s H) := qR r48_8.2
attribute [simp] r48_8
@[simp] theorem n48_9 : evCode P Γ call n f m (cAt [1,0,1,0,1] B48) s H = some (.ret, s, H) := qT
@[simp] theorem n48_10 : evCode P Γ call n f m (cAt [1,0,1,1] B48) s H = some (.normal, s, H) := qK
@[simp] theorem n48_11 : evCode P Γ call n f m (cAt [1,1] B48) s H = seqNext P Γ call n f m (cAt [1,1,1] B48) (evCode P Γ call n f m (cAt [1,1,0] B48) s H) := qS
@[simp] theorem n48_12 : evCode P Γ call n f m (cAt [1,1,0] B48) s H = seqNext P Γ call n f m (cAt [1,1,0,1] B48) (evCode P Γ call n f m (cAt [1,1,0,0] B48) s H) := qS
noncomputable def r48_13 : {l : List Oper // opsOf (cAt [1,1,0,0] B48) = l} := by
  apply Subtype.mk
  dsimp [B48, Try.f48]
@[simp] theorem n48_13 : evCode P Γ call n f m (cAt [1,1,0,0] B48) s H = regNext (evOpsGo P Γ call r48_13.1 r48_13.1 s H) := qR r48_13.2
attribute [simp] r48_13
@[simp] theorem n48_14 : evCode P Γ call n f m (cAt [1,1,0,1] B48) s H = blockNext 0 (evCode P Γ call n f m (cAt [1,1,0,1,0] B48) s H) := qB
@[simp] theorem n48_15 : evCode P Γ call n f m (cAt [1,1,0,1,0] B48) s H = evLoopC P Γ call n f m (cAt [1,1,0,1,0,0] B48) n s H := qL
noncomputable abbrev L48_4 : Code := cAt [1,1,0,1,0,0] B48
@[simp] theorem n48_15f : firstRegion (cAt [1,1,0,1,0,0] B48) = 4 := by kernel_rfl
@[simp] theorem n48_16 : evCode P Γ call n f m (cAt [1,1,0,1,0,0] B48) s H = seqNext P Γ call n f m (cAt [1,1,0,1,0,0,1] B48) (evCode P Γ call n f m (cAt [1,1,0,1,0,0,0] B48) s H) := qS
noncomputable def r48_17 : {l : List Oper // opsOf (cAt [1,1,0,1,0,0,0] B48) = l} := by
  apply Subtype.mk
  dsimp [B48, Try.f48]
@[simp] theorem n48_17 : evCode P Γ call n f m (cAt [1,1,0,1,0,0,0] B48) s H = regNext (evOpsGo P Γ call r48_17.1 r48_17.1 s H) := qR r48_17.2
attribute [simp] r48_17
@[simp] theorem n48_18 : evCode P Γ call n f m (cAt [1,1,0,1,0,0,1] B48) s H = seqNext P Γ call n f m (cAt [1,1,0,1,0,0,1,1] B48) (evCode P Γ call n f m (cAt [1,1,0,1,0,0,1,0] B48) s H) := qS
@[simp] theorem n48_19 : evCode P Γ call n f m (cAt [1,1,0,1,0,0,1,0] B48) s H = condW P Γ call n f m (cAt [1,1,0,1,0,0,1,0,0] B48) (cAt [1,1,0,1,0,0,1,0,1] B48) s H (evOperand Γ s (.tmp 11)) := qC
@[simp] theorem n48_20 : evCode P Γ call n f m (cAt [1,1,0,1,0,0,1,0,0] B48) s H = some (.normal, s, H) := qK
@[simp] theorem n48_21 : evCode P Γ call n f m (cAt [1,1,0,1,0,0,1,0,1] B48) s H = some (.exit 0, s, H) := qE
@[simp] theorem n48_22 : evCode P Γ call n f m (cAt [1,1,0,1,0,0,1,1] B48) s H = seqNext P Γ call n f m (cAt [1,1,0,1,0,0,1,1,1] B48) (evCode P Γ call n f m (cAt [1,1,0,1,0,0,1,1,0] B48) s H) := qS
@[simp] theorem n48_23 : evCode P Γ call n f m (cAt [1,1,0,1,0,0,1,1,0] B48) s H = blockNext 1 (evCode P Γ call n f m (cAt [1,1,0,1,0,0,1,1,0,0] B48) s H) := qB
@[simp] theorem n48_24 : evCode P Γ call n f m (cAt [1,1,0,1,0,0,1,1,0,0] B48) s H = seqNext P Γ call n f m (cAt [1,1,0,1,0,0,1,1,0,0,1] B48) (evCode P Γ call n f m (cAt [1,1,0,1,0,0,1,1,0,0,0] B48) s H) := qS
noncomputable def r48_25 : {l : List Oper // opsOf (cAt [1,1,0,1,0,0,1,1,0,0,0] B48) = l} := by
  apply Subtype.mk
  dsimp [B48, Try.f48]
@[simp] theorem n48_25 : evCode P Γ call n f m (cAt [1,1,0,1,0,0,1,1,0,0,0] B48) s H = regNext (evOpsGo P Γ call r48_25.1 r48_25.1 s H) := qR r48_25.2
attribute [simp] r48_25
@[simp] theorem n48_26 : evCode P Γ call n f m (cAt [1,1,0,1,0,0,1,1,0,0,1] B48) s H = seqNext P Γ call n f m (cAt [1,1,0,1,0,0,1,1,0,0,1,1] B48) (evCode P Γ call n f m (cAt [1,1,0,1,0,0,1,1,0,0,1,0] B48) s H) := qS
@[simp] theorem n48_27 : evCode P Γ call n f m (cAt [1,1,0,1,0,0,1,1,0,0,1,0] B48) s H = seqNext P Γ call n f m (cAt [1,1,0,1,0,0,1,1,0,0,1,0,1] B48) (evCode P Γ call n f m (cAt [1,1,0,1,0,0,1,1,0,0,1,0,0] B48) s H) := qS
noncomputable def r48_28 : {l : List Oper // opsOf (cAt [1,1,0,1,0,0,1,1,0,0,1,0,0] B48) = l} := by
  apply Subtype.mk
  dsimp [B48, Try.f48]
@[simp] theorem n48_28 : evCode P Γ call n f m (cAt [1,1,0,1,0,0,1,1,0,0,1,0,0] B48) s H = regNext (evOpsGo P Γ call r48_28.1 r48_28.1 s H) := qR r48_28.2
attribute [simp] r48_28
@[simp] theorem n48_29 : evCode P Γ call n f m (cAt [1,1,0,1,0,0,1,1,0,0,1,0,1] B48) s H = condW P Γ call n f m (cAt [1,1,0,1,0,0,1,1,0,0,1,0,1,0] B48) (cAt [1,1,0,1,0,0,1,1,0,0,1,0,1,1] B48) s H (evOperand Γ s (.tmp 29)) := qC
@[simp] theorem n48_30 : evCode P Γ call n f m (cAt [1,1,0,1,0,0,1,1,0,0,1,0,1,0] B48) s H = seqNext P Γ call n f m (cAt [1,1,0,1,0,0,1,1,0,0,1,0,1,0,1] B48) (evCode P Γ call n f m (cAt [1,1,0,1,0,0,1,1,0,0,1,0,1,0,0] B48) s H) := qS
noncomputable def r48_31 : {l : List Oper // opsOf (cAt [1,1,0,1,0,0,1,1,0,0,1,0,1,0,0] B48) = l} := by
  apply Subtype.mk
  dsimp [B48, Try.f48]
@[simp] theorem n48_31 : evCode P Γ call n f m (cAt [1,1,0,1,0,0,1,1,0,0,1,0,1,0,0] B48) s H = regNext (evOpsGo P Γ call r48_31.1 r48_31.1 s H) := qR r48_31.2
attribute [simp] r48_31
@[simp] theorem n48_32 : evCode P Γ call n f m (cAt [1,1,0,1,0,0,1,1,0,0,1,0,1,0,1] B48) s H = some (.ret, s, H) := qT
@[simp] theorem n48_33 : evCode P Γ call n f m (cAt [1,1,0,1,0,0,1,1,0,0,1,0,1,1] B48) s H = some (.normal, s, H) := qK
@[simp] theorem n48_34 : evCode P Γ call n f m (cAt [1,1,0,1,0,0,1,1,0,0,1,1] B48) s H = seqNext P Γ call n f m (cAt [1,1,0,1,0,0,1,1,0,0,1,1,1] B48) (evCode P Γ call n f m (cAt [1,1,0,1,0,0,1,1,0,0,1,1,0] B48) s H) := qS
noncomputable def r48_35 : {l : List Oper // opsOf (cAt [1,1,0,1,0,0,1,1,0,0,1,1,0] B48) = l} := by
  apply Subtype.mk
  dsimp [B48, Try.f48]
@[simp] theorem n48_35 : evCode P Γ call n f m (cAt [1,1,0,1,0,0,1,1,0,0,1,1,0] B48) s H = regNext (drawR P Γ call r48_35.1 [([], []), ([], []), ([], []), ([4,5,8], [34,35,38]), ([3,8], [33,38]), ([3,8], [33,38]), ([8], [38]), ([8], [38]), ([3,4,5,6,7], [33,34,35,36,37]), ([], []), ([], []), ([], [])] s H) := qD r48_35.2
attribute [simp] r48_35
@[simp] theorem n48_36 : evCode P Γ call n f m (cAt [1,1,0,1,0,0,1,1,0,0,1,1,1] B48) s H = condW P Γ call n f m (cAt [1,1,0,1,0,0,1,1,0,0,1,1,1,0] B48) (cAt [1,1,0,1,0,0,1,1,0,0,1,1,1,1] B48) s H (evOperand Γ s (.tmp 41)) := qC
@[simp] theorem n48_37 : evCode P Γ call n f m (cAt [1,1,0,1,0,0,1,1,0,0,1,1,1,0] B48) s H = seqNext P Γ call n f m (cAt [1,1,0,1,0,0,1,1,0,0,1,1,1,0,1] B48) (evCode P Γ call n f m (cAt [1,1,0,1,0,0,1,1,0,0,1,1,1,0,0] B48) s H) := qS
noncomputable def r48_38 : {l : List Oper // opsOf (cAt [1,1,0,1,0,0,1,1,0,0,1,1,1,0,0] B48) = l} := by
  apply Subtype.mk
  dsimp [B48, Try.f48]
@[simp] theorem n48_38 : evCode P Γ call n f m (cAt [1,1,0,1,0,0,1,1,0,0,1,1,1,0,0] B48) s H = regNext (evOpsGo P Γ call r48_38.1 r48_38.1 s H) := qR r48_38.2
attribute [simp] r48_38
@[simp] theorem n48_39 : evCode P Γ call n f m (cAt [1,1,0,1,0,0,1,1,0,0,1,1,1,0,1] B48) s H = some (.ret, s, H) := qT
@[simp] theorem n48_40 : evCode P Γ call n f m (cAt [1,1,0,1,0,0,1,1,0,0,1,1,1,1] B48) s H = some (.normal, s, H) := qK
noncomputable def r48_41 : {l : List Oper // opsOf (cAt [1,1,0,1,0,0,1,1,1] B48) = l} := by
  apply Subtype.mk
  dsimp [B48, Try.f48]
@[simp] theorem n48_41 : evCode P Γ call n f m (cAt [1,1,0,1,0,0,1,1,1] B48) s H = regNext (evOpsGo P Γ call r48_41.1 r48_41.1 s H) := qR r48_41.2
attribute [simp] r48_41
@[simp] theorem n48_42 : evCode P Γ call n f m (cAt [1,1,1] B48) s H = seqNext P Γ call n f m (cAt [1,1,1,1] B48) (evCode P Γ call n f m (cAt [1,1,1,0] B48) s H) := qS
noncomputable def r48_43 : {l : List Oper // opsOf (cAt [1,1,1,0] B48) = l} := by
  apply Subtype.mk
  dsimp [B48, Try.f48]
@[simp] theorem n48_43 : evCode P Γ call n f m (cAt [1,1,1,0] B48) s H = regNext (evOpsGo P Γ call r48_43.1 r48_43.1 s H) := qR r48_43.2
attribute [simp] r48_43
@[simp] theorem n48_44 : evCode P Γ call n f m (cAt [1,1,1,1] B48) s H = some (.ret, s, H) := qT
theorem b48 {k : Nat} (ho : ∀ args H, Γ.orc 48 args H = none) (args : List V) (H : Heap) (ha : args.length ≤ 43) : evF Try.prog Γ (k + 1) 48 args H = bodyEnd Try.prog [.tmp 2] H.length (evCode Try.prog Γ (evF Try.prog Γ k) k 48 H.length (cAt [] B48) (mkL 43 V.undef (enumV 0 args)) H) := body_at Try.func48 (by decide) rfl ho rfl rfl args H ha
end
end Go.Ev.Try
