/-
  CODE BY NAMES, printed by wip/tools/codes.py (own work).
-/
import Derived.Test.YtflmadkbppnmcaaCkC0
set_option maxRecDepth 100000
set_option linter.unusedVariables false
namespace Go.Ev.Try
open Go Go.Ev Go.Proofs
section
variable {P : Program} {Γ : Env} {call : CallF} {n f m : Nat} (s : List V) (H : Heap)
attribute [local simp] opsOf cAt kids bodyOf

noncomputable def B10 : Code := bodyOf Try.f10
@[simp] theorem n10_1 : evCode P Γ call n f m (cAt [] B10) s H = seqNext P Γ call n f m (cAt [1] B10) (evCode P Γ call n f m (cAt [0] B10) s H) := qS
noncomputable def r10_2 : {l : List Oper // opsOf (cAt [0] B10) = l} := by
  apply Subtype.mk
  dsimp [B10, Try.f10]
@[simp] theorem n10_2 : evCode P Γ call n f m (cAt [0] B10) s H = regNext (evOpsGo P Γ call r10_2.1 r10_2.1 s H) := qR r10_2.2
attribute [simp] r10_2
@[simp] theorem n10_3 : evCode P Γ call n f m (cAt [1] B10) s H = seqNext P Γ call n f m (cAt [1,1] B10) (evCode P Γ call n f m (cAt [1,0] B10) s H) := qS
noncomputable def r10_4 : {l : List Oper // opsOf (cAt [1,0] B10) = l} := by
  apply Subtype.mk
  dsimp [B10, Try.f10]
@[simp] theorem n10_4 : evCode P Γ call n f m (cAt [1,0] B10) s H = regNext (evOpsGo P Γ call r10_4.1 r10_4.1 s H) := qR r10_4.2
attribute [simp] r10_4
@[simp] theorem n10_5 : evCode P Γ call n f m (cAt [1,1] B10) s H = seqNext P Γ call n f m (cAt [1,1,1] B10) (evCode P Γ call n f m (cAt [1,1,0] B10) s H) := qS
@[simp] theorem n10_6 : evCode P Γ call n f m (cAt [1,1,0] B10) s H = seqNext P Γ call n f m (cAt [1,1,0,1] B10) (evCode P Γ call n f m (cAt [1,1,0,0] B10) s H) := qS
noncomputable def r10_7 : {l : List Oper // opsOf (cAt [1,1,0,0] B10) = l} := by
  apply Subtype.mk
  dsimp [B10, Try.f10]
@[simp] theorem n10_7 : evCode P Γ call n f m (cAt [1,1,0,0] B10) s H = regNext (evOpsGo P Γ call r10_7.1 r10_7.1 s H) := qR r10_7.2
attribute [simp] r10_7
@[simp] theorem n10_8 : evCode P Γ call n f m (cAt [1,1,0,1] B10) s H = blockNext 0 (evCode P Γ call n f m (cAt [1,1,0,1,0] B10) s H) := qB
@[simp] theorem n10_9 : evCode P Γ call n f m (cAt [1,1,0,1,0] B10) s H = evLoopC P Γ call n f m (cAt [1,1,0,1,0,0] B10) n s H := qL
noncomputable abbrev L10_3 : Code := cAt [1,1,0,1,0,0] B10
@[simp] theorem n10_9f : firstRegion (cAt [1,1,0,1,0,0] B10) = 3 := by kernel_rfl
@[simp] theorem n10_10 : evCode P Γ call n f m (cAt [1,1,0,1,0,0] B10) s H = seqNext P Γ call n f m (cAt [1,1,0,1,0,0,1] B10) (evCode P Γ call n f m (cAt [1,1,0,1,0,0,0] B10) s H) := qS
noncomputable def r10_11 : {l : List Oper // opsOf (cAt [1,1,0,1,0,0,0] B10) = l} := by
  apply Subtype.mk
  dsimp [B10, Try.f10]
@[simp] theorem n10_11 : evCode P Γ call n f m (cAt [1,1,0,1,0,0,0] B10) s H = regNext (evOpsGo P Γ call r10_11.1 r10_11.1 s H) := qR r10_11.2
attribute [simp] r10_11
@[simp] theorem n10_12 : evCode P Γ call n f m (cAt [1,1,0,1,0,0,1] B10) s H = seqNext P Γ call n f m (cAt [1,1,0,1,0,0,1,1] B10) (evCode P Γ call n f m (cAt [1,1,0,1,0,0,1,0] B10) s H) := qS
@[simp] theorem n10_13 : evCode P Γ call n f m (cAt [1,1,0,1,0,0,1,0] B10) s H = condW P Γ call n f m (cAt [1,1,0,1,0,0,1,0,0] B10) (cAt [1,1,0,1,0,0,1,0,1] B10) s H (evOperand Γ s (.tmp 9)) := qC
@[simp] theorem n10_14 : evCode P Γ call n f m (cAt [1,1,0,1,0,0,1,0,0] B10) s H = some (.normal, s, H) := qK
@[simp] theorem n10_15 : evCode P Γ call n f m (cAt [1,1,0,1,0,0,1,0,1] B10) s H = some (.exit 0, s, H) := qE
@[simp] theorem n10_16 : evCode P Γ call n f m (cAt [1,1,0,1,0,0,1,1] B10) s H = seqNext P Γ call n f m (cAt [1,1,0,1,0,0,1,1,1] B10) (evCode P Γ call n f m (cAt [1,1,0,1,0,0,1,1,0] B10) s H) := qS
@[simp] theorem n10_17 : evCode P Γ call n f m (cAt [1,1,0,1,0,0,1,1,0] B10) s H = blockNext 1 (evCode P Γ call n f m (cAt [1,1,0,1,0,0,1,1,0,0] B10) s H) := qB
@[simp] theorem n10_18 : evCode P Γ call n f m (cAt [1,1,0,1,0,0,1,1,0,0] B10) s H = seqNext P Γ call n f m (cAt [1,1,0,1,0,0,1,1,0,0,1] B10) (evCode P Γ call n f m (cAt [1,1,0,1,0,0,1,1,0,0,0] B10) s H) := qS
noncomputable def r10_19 : {l : List Oper // opsOf (cAt [1,1,0,1,0,0,1,1,0,0,0] B10) = l} := by
  apply Subtype.mk
  dsimp [B10, Try.f10]
@[simp] theorem n10_19 : evCode P Γ call n f m (cAt [1,1,0,1,0,0,1,1,0,0,0] B10) s H = regNext (evOpsGo P Γ call r10_19.1 r10_19.1 s H) := qR r10_19.2
attribute [simp] r10_19
noncomputable def r10_20 : {l : List Oper // opsOf (cAt [1,1,0,1,0,0,1,1,0,0,1] B10) = l} := by
  apply Subtype.mk
  dsimp [B10, Try.f10]
@[simp] theorem n10_20 : evCode P Γ call n f m (cAt [1,1,0,1,0,0,1,1,0,0,1] B10) s H = regNext (evOpsGo P Γ call r10_20.1 r10_20.1 s H) := qR r10_20.2
attribute [simp] r10_20
noncomputable def r10_21 : {l : List Oper // opsOf (cAt [1,1,0,1,0,0,1,1,1] B10) = l} := by
  apply Subtype.mk
  dsimp [B10, Try.f10]
@[simp] theorem n10_21 : evCode P Γ call n f m (cAt [1,1,0,1,0,0,1,1,1] B10) s H = regNext (evOpsGo P Γ call r10_21.1 r10_21.1 s H) := qR r10_21.2
attribute [simp] r10_21
@[simp] theorem n10_22 : evCode P Γ call n f m (cAt [1,1,1] B10) s H = seqNext P Γ call n f m (cAt [1,1,1,1] B10) (evCode P Γ call n f m (cAt [1,1,1,0] B10) s H) := qS
noncomputable def r10_23 : {l : List Oper // opsOf (cAt [1,1,1,0] B10) = l} := by
  apply Subtype.mk
  dsimp [B10, Try.f10]
@[simp] theorem n10_23 : evCode P Γ call n f m (cAt [1,1,1,0] B10) s H = regNext (evOpsGo P Γ call r10_23.1 r10_23.1 s H) := qR r10_23.2
attribute [simp] r10_23
@[simp] theorem n10_24 : evCode P Γ call n f m (cAt [1,1,1,1] B10) s H = seqNext P Γ call n f m (cAt [1,1,1,1,1] B10) (evCode P Γ call n f m (cAt [1,1,1,1,0] B10) s H) := qS
noncomputable def r10_25 : {l : List Oper // opsOf (cAt [1,1,1,1,0] B10) = l} := by
  apply Subtype.mk
  dsimp [B10, Try.f10]
@[simp] theorem n10_25 : evCode P Γ call n f m (cAt [1,1,1,1,0] B10) s H = regNext (evOpsGo P Γ call r10_25.1 r10_25.1 s H) := qR r10_25.2
attribute [simp] r10_25
@[simp] theorem n10_26 : evCode P Γ call n f m (cAt [1,1,1,1,1] B10) s H = some (.ret, s, H) := qT
theorem b10 {k : Nat} (ho : ∀ args H, Γ.orc 10 args H = none) (args : List V) (H : Heap) (ha : args.length ≤ 22) : evF Try.prog Γ (k + 1) 10 args H = bodyEnd Try.prog [.tmp 2] H.length (evCode Try.prog Γ (evF Try.prog Γ k) k 10 H.length (cAt [] B10) (mkL 22 V.undef (enumV 0 args)) H) := body_at Try.func10 (by decide) rfl ho rfl rfl args H ha
noncomputable def B11 : Code := bodyOf Try.f11
@[simp] theorem n11_1 : evCode P Γ call n f m (cAt [] B11) s H = seqNext P Γ call n f m (cAt [1] B11) (evCode P Γ call n f m (cAt [0] B11) s H) := qS
noncomputable def r11_2 : {l : List Oper // opsOf (cAt [0] B11) = l} := by
  apply Subtype.mk
  dsimp [B11, Try.f11]
@[simp] theorem n11_2 : evCode P Γ call n f m (cAt [0] B11) s H = regNext (evOpsGo P Γ call r11_2.1 r11_2.1 s H) := qR r11_2.2
attribute [simp] r11_2
@[simp] theorem n11_3 : evCode P Γ call n f m (cAt [1] B11) s H = seqNext P Γ call n f m (cAt [1,1] B11) (evCode P Γ call n f m (cAt [1,0] B11) s H) := qS
noncomputable def r11_4 : {l : List Oper // opsOf (cAt [1,0] B11) = l} := by
  apply Subtype.mk
  dsimp [B11, Try.f11]
@[simp] theorem n11_4 : evCode P Γ call n f m (cAt [1,0] B11) s H = regNext (evOpsGo P Γ call r11_4.1 r11_4.1 s H) := qR r11_4.2
attribute [simp] r11_4
@[simp] theorem n11_5 : evCode P Γ call n f m (cAt [1,1] B11) s H = seqNext P Γ call n f m (cAt [1,1,1] B11) (evCode P Γ call n f m (cAt [1,1,0] B11) s H) := qS
@[simp] theorem n11_6 : evCode P Γ call n f m (cAt [1,1,0] B11) s H = seqNext P Γ call n f m (cAt [1,1,0,1] B11) (evCode P Γ call n f m (cAt [1,1,0,0] B11) s H) := qS
noncomputable def r11_7 : {l : List Oper // opsOf (cAt [1,1,0,0] B11) = l} := by
  apply Subtype.mk
  dsimp [B11, Try.f11]
@[simp] theorem n11_7 : evCode P Γ call n f m (cAt [1,1,0,0] B11) s H = regNext (evOpsGo P Γ call r11_7.1 r11_7.1 s H) := qR r11_7.2
attribute [simp] r11_7
@[simp] theorem n11_8 : evCode P Γ call n f m (cAt [1,1,0,1] B11) s H = blockNext 0 (evCode P Γ call n f m (cAt [1,1,0,1,0] B11) s H) := qB
@[simp] theorem n11_9 : evCode P Γ call n f m (cAt [1,1,0,1,0] B11) s H = evLoopC P Γ call n f m (cAt [1,1,0,1,0,0] B11) n s H := qL
noncomputable abbrev L11_3 : Code := cAt [1,1,0,1,0,0] B11
@[simp] theorem n11_9f : firstRegion (cAt [1,1,0,1,0,0] B11) = 3 := by kernel_rfl
@[simp] theorem n11_10 : evCode P Γ call n f m (cAt [1,1,0,1,0,0] B11) s H = seqNext P Γ call n f m (cAt [1,1,0,1,0,0,1] B11) (evCode P Γ call n f m (cAt [1,1,0,1,0,0,0] B11) s H) := qS
noncomputable def r11_11 : {l : List Oper // opsOf (cAt [1,1,0,1,0,0,0] B11) = l} := by
  apply Subtype.mk
  dsimp [B11, Try.f11]
@[simp] theorem n11_11 : evCode P Γ call n f m (cAt [1,1,0,1,0,0,0] B11) s H = regNext (evOpsGo P Γ call r11_11.1 r11_11.1 s H) := qR r11_11.2
attribute [simp] r11_11
@[simp] theorem n11_12 : evCode P Γ call n f m (cAt [1,1,0,1,0,0,1] B11) s H = seqNext P Γ call n f m (cAt [1,1,0,1,0,0,1,1] B11) (evCode P Γ call n f m (cAt [1,1,0,1,0,0,1,0] B11) s H) := qS
@[simp] theorem n11_13 : evCode P Γ call n f m (cAt [1,1,0,1,0,0,1,0] B11) s H = condW P Γ call n f m (cAt [1,1,0,1,0,0,1,0,0] B11) (cAt [1,1,0,1,0,0,1,0,1] B11) s H (evOperand Γ s (.tmp 10)) := qC
@[simp] theorem n11_14 : evCode P Γ call n f m (cAt [1,1,0,1,0,0,1,0,0] B11) s H = some (.normal, s, H) := qK
@[simp] theorem n11_15 : evCode P Γ call n f m (cAt [1,1,0,1,0,0,1,0,1] B11) s H = some (.exit 0, s, H) := qE
@[simp] theorem n11_16 : evCode P Γ call n f m (cAt [1,1,0,1,0,0,1,1] B11) s H = seqNext P Γ call n f m (cAt [1,1,0,1,0,0,1,1,1] B11) (evCode P Γ call n f m (cAt [1,1,0,1,0,0,1,1,0] B11) s H) := qS
@[simp] theorem n11_17 : evCode P Γ call n f m (cAt [1,1,0,1,0,0,1,1,0] B11) s H = blockNext 1 (evCode P Γ call n f m (cAt [1,1,0,1,0,0,1,1,0,0] B11) s H) := qB
@[simp] theorem n11_18 : evCode P Γ call n f m (cAt [1,1,0,1,0,0,1,1,0,0] B11) s H = seqNext P Γ call n f m (cAt [1,1,0,1,0,0,1,1,0,0,1] B11) (evCode P Γ call n f m (cAt [1,1,0,1,0,0,1,1,0,0,0] B11) s H) := qS
noncomputable def r11_19 : {l : List Oper // opsOf (cAt [1,1,0,1,0,0,1,1,0,0,0] B11) = l} := by
  apply Subtype.mk
  dsimp [B11, Try.f11]
@[simp] theorem n11_19 : evCode P Γ call n f m (cAt [1,1,0,1,0,0,1,1,0,0,0] B11) s H = regNext (evOpsGo P Γ call r11_19.1 r11_19.1 s H) := qR r11_19.2
attribute [simp] r11_19
@[simp] theorem n11_20 : evCode P Γ call n f m (cAt [1,1,0,1,0,0,1,1,0,0,1] B11) s H = seqNext P Γ call n f m (cAt [1,1,0,1,0,0,1,1,0,0,1,1] B11) (evCode P Γ call n f m (cAt [1,1,0,1,0,0,1,1,0,0,1,0] B11) s H) := qS
noncomputable def r11_21 : {l : List Oper // opsOf (cAt [1,1,0,1,0,0,1,1,0,0,1,0] B11) = l} := by
  apply Subtype.mk
  dsimp [B11, Try.f11]
@[simp] theorem n11_21 : evCode P Γ call n f m (cAt [1,1,0,1,0,0,1,1,0,0,1,0] B11) s H = regNext (evOpsGo P Γ call r11_21.1 r11_21.1 s H) := qR r11_21.2
attribute [simp] r11_21
@[simp] theorem n11_22 : evCode P Γ call n f m (cAt [1,1,0,1,0,0,1,1,0,0,1,1] B11) s H = seqNext P Γ call n f m (cAt [1,1,0,1,0,0,1,1,0,0,1,1,1] B11) (evCode P Γ call n f m (cAt [1,1,0,1,0,0,1,1,0,0,1,1,0] B11) s H) := qS
@[simp] theorem n11_23 : evCode P Γ call n f m (cAt [1,1,0,1,0,0,1,1,0,0,1,1,0] B11) s H = blockNext 2 (evCode P Γ call n f m (cAt [1,1,0,1,0,0,1,1,0,0,1,1,0,0] B11) s H) := qB
@[simp] theorem n11_24 : evCode P Γ call n f m (cAt [1,1,0,1,0,0,1,1,0,0,1,1,0,0] B11) s H = evLoopC P Γ call n f m (cAt [1,1,0,1,0,0,1,1,0,0,1,1,0,0,0] B11) n s H := qL
noncomputable abbrev L11_6 : Code := cAt [1,1,0,1,0,0,1,1,0,0,1,1,0,0,0] B11
@[simp] theorem n11_24f : firstRegion (cAt [1,1,0,1,0,0,1,1,0,0,1,1,0,0,0] B11) = 6 := by kernel_rfl
@[simp] theorem n11_25 : evCode P Γ call n f m (cAt [1,1,0,1,0,0,1,1,0,0,1,1,0,0,0] B11) s H = seqNext P Γ call n f m (cAt [1,1,0,1,0,0,1,1,0,0,1,1,0,0,0,1] B11) (evCode P Γ call n f m (cAt [1,1,0,1,0,0,1,1,0,0,1,1,0,0,0,0] B11) s H) := qS
@[simp] theorem n11_26 : evCode P Γ call n f m (cAt [1,1,0,1,0,0,1,1,0,0,1,1,0,0,0,0] B11) s H = seqNext P Γ call n f m (cAt [1,1,0,1,0,0,1,1,0,0,1,1,0,0,0,0,1] B11) (evCode P Γ call n f m (cAt [1,1,0,1,0,0,1,1,0,0,1,1,0,0,0,0,0] B11) s H) := qS
noncomputable def r11_27 : {l : List Oper // opsOf (cAt [1,1,0,1,0,0,1,1,0,0,1,1,0,0,0,0,0] B11) = l} := by
  apply Subtype.mk
  dsimp [B11, Try.f11]
@[simp] theorem n11_27 : evCode P Γ call n f m (cAt [1,1,0,1,0,0,1,1,0,0,1,1,0,0,0,0,0] B11) s H = regNext (drawR P Γ call r11_27.1 [([1,2], [14,15]), ([0], [13]), ([0], [13]), ([], []), ([], []), ([6,9,10], [19,22,23]), ([5,9,10], [18,22,23]), ([9,10], [22,23]), ([9,10], [22,23]), ([5,6,7,8], [18,19,20,21]), ([5,6,7,8], [18,19,20,21]), ([], []), ([], [])] s H) := qD r11_27.2
attribute [simp] r11_27
@[simp] theorem n11_28 : evCode P Γ call n f m (cAt [1,1,0,1,0,0,1,1,0,0,1,1,0,0,0,0,1] B11) s H = condW P Γ call n f m (cAt [1,1,0,1,0,0,1,1,0,0,1,1,0,0,0,0,1,0] B11) (cAt [1,1,0,1,0,0,1,1,0,0,1,1,0,0,0,0,1,1] B11) s H (evOperand Γ s (.tmp 25)) := qC
@[simp] theorem n11_29 : evCode P Γ call n f m (cAt [1,1,0,1,0,0,1,1,0,0,1,1,0,0,0,0,1,0] B11) s H = some (.normal, s, H) := qK
@[simp] theorem n11_30 : evCode P Γ call n f m (cAt [1,1,0,1,0,0,1,1,0,0,1,1,0,0,0,0,1,1] B11) s H = some (.exit 2, s, H) := qE
@[simp] theorem n11_31 : evCode P Γ call n f m (cAt [1,1,0,1,0,0,1,1,0,0,1,1,0,0,0,1] B11) s H = blockNext 3 (evCode P Γ call n f m (cAt [1,1,0,1,0,0,1,1,0,0,1,1,0,0,0,1,0] B11) s H) := qB
noncomputable def r11_32 : {l : List Oper // opsOf (cAt [1,1,0,1,0,0,1,1,0,0,1,1,0,0,0,1,0] B11) = l} := by
  apply Subtype.mk
  dsimp [B11, Try.f11]
@[simp] theorem n11_32 : evCode P Γ call n f m (cAt [1,1,0,1,0,0,1,1,0,0,1,1,0,0,0,1,0] B11) s H = regNext (evOpsGo P Γ call r11_32.1 r11_32.1 s H) := qR r11_32.2
attribute [simp] r11_32
@[simp] theorem n11_33 : evCode P Γ call n f m (cAt [1,1,0,1,0,0,1,1,0,0,1,1,1] B11) s H = seqNext P Γ call n f m (cAt [1,1,0,1,0,0,1,1,0,0,1,1,1,1] B11) (evCode P Γ call n f m (cAt [1,1,0,1,0,0,1,1,0,0,1,1,1,0] B11) s H) := qS
noncomputable def r11_34 : {l : List Oper // opsOf (cAt [1,1,0,1,0,0,1,1,0,0,1,1,1,0] B11) = l} := by
  apply Subtype.mk
  dsimp [B11, Try.f11]
@[simp] theorem n11_34 : evCode P Γ call n f m (cAt [1,1,0,1,0,0,1,1,0,0,1,1,1,0] B11) s H = regNext (drawR P Γ call r11_34.1 [([1,2], [29,30]), ([0], [28]), ([0], [28]), ([], []), ([], []), ([6,9,10], [34,37,38]), ([5,9,10], [33,37,38]), ([9,10], [37,38]), ([9,10], [37,38]), ([5,6,7,8], [33,34,35,36]), ([5,6,7,8], [33,34,35,36]), ([], []), ([], [])] s H) := qD r11_34.2
attribute [simp] r11_34
@[simp] theorem n11_35 : evCode P Γ call n f m (cAt [1,1,0,1,0,0,1,1,0,0,1,1,1,1] B11) s H = condW P Γ call n f m (cAt [1,1,0,1,0,0,1,1,0,0,1,1,1,1,0] B11) (cAt [1,1,0,1,0,0,1,1,0,0,1,1,1,1,1] B11) s H (evOperand Γ s (.tmp 40)) := qC
noncomputable def r11_36 : {l : List Oper // opsOf (cAt [1,1,0,1,0,0,1,1,0,0,1,1,1,1,0] B11) = l} := by
  apply Subtype.mk
  dsimp [B11, Try.f11]
@[simp] theorem n11_36 : evCode P Γ call n f m (cAt [1,1,0,1,0,0,1,1,0,0,1,1,1,1,0] B11) s H = regNext (evOpsGo P Γ call r11_36.1 r11_36.1 s H) := qR r11_36.2
attribute [simp] r11_36
@[simp] theorem n11_37 : evCode P Γ call n f m (cAt [1,1,0,1,0,0,1,1,0,0,1,1,1,1,1] B11) s H = some (.normal, s, H) := qK
noncomputable def r11_38 : {l : List Oper // opsOf (cAt [1,1,0,1,0,0,1,1,1] B11) = l} := by
  apply Subtype.mk
  dsimp [B11, Try.f11]
@[simp] theorem n11_38 : evCode P Γ call n f m (cAt [1,1,0,1,0,0,1,1,1] B11) s H = regNext (evOpsGo P Γ call r11_38.1 r11_38.1 s H) := qR r11_38.2
attribute [simp] r11_38
@[simp] theorem n11_39 : evCode P Γ call n f m (cAt [1,1,1] B11) s H = seqNext P Γ call n f m (cAt [1,1,1,1] B11) (evCode P Γ call n f m (cAt [1,1,1,0] B11) s H) := qS
noncomputable def r11_40 : {l : List Oper // opsOf (cAt [1,1,1,0] B11) = l} := by
  apply Subtype.mk
  dsimp [B11, Try.f11]
@[simp] theorem n11_40 : evCode P Γ call n f m (cAt [1,1,1,0] B11) s H = regNext (evOpsGo P Γ call r11_40.1 r11_40.1 s H) := qR r11_40.2
attribute [simp] r11_40
@[simp] theorem n11_41 : evCode P Γ call n f m (cAt [1,1,1,1] B11) s H = some (.ret, s, H) := qT
theorem b11 {k : Nat} (ho : ∀ args H, Γ.orc 11 args H = none) (args : List V) (H : Heap) (ha : args.length ≤ 49) : evF Try.prog Γ (k + 1) 11 args H = bodyEnd Try.prog [.tmp 2] H.length (evCode Try.prog Γ (evF Try.prog Γ k) k 11 H.length (cAt [] B11) (mkL 49 V.undef (enumV 0 args)) H) := body_at Try.func11 (by decide) rfl ho rfl rfl args H ha
noncomputable def B12 : Code := bodyOf Try.f12
@[simp] theorem n12_1 : evCode P Γ call n f m (cAt [] B12) s H = seqNext P Γ call n f m (cAt [1] B12) (evCode P Γ call n f m (cAt [0] B12) s H) := qS
noncomputable def r12_2 : {l : List Oper // opsOf (cAt [0] B12) = l} := by
  apply Subtype.mk
  dsimp [B12, Try.f12]
@[simp] theorem n12_2 : evCode P Γ call n f m (cAt [0] B12) s H = regNext (evOpsGo P Γ call r12_2.1 r12_2.1 s H) := qR r12_2.2
attribute [simp] r12_2
@[simp] theorem n12_3 : evCode P Γ call n f m (cAt [1] B12) s H = seqNext P Γ call n f m (cAt [1,1] B12) (evCode P Γ call n f m (cAt [1,0] B12) s H) := qS
@[simp] theorem n12_4 : evCode P Γ call n f m (cAt [1,0] B12) s H = seqNext P Γ call n f m (cAt [1,0,1] B12) (evCode P Γ call n f m (cAt [1,0,0] B12) s H) := qS
noncomputable def r12_5 : {l : List Oper // opsOf (cAt [1,0,0] B12) = l} := by
  apply Subtype.mk
  dsimp [B12, Try.f12]
@[simp] theorem n12_5 : evCode P Γ call n f m (cAt [1,0,0] B12) s H = regNext (evOpsGo P Γ call r12_5.1 r12_5.1 s H) := qR r12_5.2
attribute [simp] r12_5
@[simp] theorem n12_6 : evCode P Γ call n f m (cAt [1,0,1] B12) s H = condW P Γ call n f m (cAt [1,0,1,0] B12) (cAt [1,0,1,1] B12) s H (evOperand Γ s (.tmp 22)) := qC
@[simp] theorem n12_7 : evCode P Γ call n f m (cAt [1,0,1,0] B12) s H = seqNext P Γ call n f m (cAt [1,0,1,0,1] B12) (evCode P Γ call n f m (cAt [1,0,1,0,0] B12) s H) := qS
noncomputable def r12_8 : {l : List Oper // opsOf (cAt [1,0,1,0,0] B12) = l} := by
  apply Subtype.mk
  dsimp [B12, Try.f12]
@[simp] theorem n12_8 : evCode P Γ call n f m (cAt [1,0,1,0,0] B12) s H = regNext (evOpsGo P Γ call r12_8.1 r12_8.1 s H) := qR r12_8.2
attribute [simp] r12_8
@[simp] theorem n12_9 : evCode P Γ call n f m (cAt [1,0,1,0,1] B12) s H = some (.ret, s, H) := qT
@[simp] theorem n12_10 : evCode P Γ call n f m (cAt [1,0,1,1] B12) s H = some (.normal, s, H) := qK
@[simp] theorem n12_11 : evCode P Γ call n f m (cAt [1,1] B12) s H = seqNext P Γ call n f m (cAt [1,1,1] B12) (evCode P Γ call n f m (cAt [1,1,0] B12) s H) := qS
@[simp] theorem n12_12 : evCode P Γ call n f m (cAt [1,1,0] B12) s H = seqNext P Γ call n f m (cAt [1,1,0,1] B12) (evCode P Γ call n f m (cAt [1,1,0,0] B12) s H) := qS
noncomputable def r12_13 : {l : List Oper // opsOf (cAt [1,1,0,0] B12) = l} := by
  apply Subtype.mk
  dsimp [B12, Try.f12]
@[simp] theorem n12_13 : evCode P Γ call n f m (cAt [1,1,0,0] B12) s H = regNext (evOpsGo P Γ call r12_13.1 r12_13.1 s H) := qR r12_13.2
attribute [simp] r12_13
@[simp] theorem n12_14 : evCode P Γ call n f m (cAt [1,1,0,1] B12) s H = blockNext 0 (evCode P Γ call n f m (cAt [1,1,0,1,0] B12) s H) := qB
@[simp] theorem n12_15 : evCode P Γ call n f m (cAt [1,1,0,1,0] B12) s H = evLoopC P Γ call n f m (cAt [1,1,0,1,0,0] B12) n s H := qL
noncomputable abbrev L12_4 : Code := cAt [1,1,0,1,0,0] B12
@[simp] theorem n12_15f : firstRegion (cAt [1,1,0,1,0,0] B12) = 4 := by kernel_rfl
@[simp] theorem n12_16 : evCode P Γ call n f m (cAt [1,1,0,1,0,0] B12) s H = seqNext P Γ call n f m (cAt [1,1,0,1,0,0,1] B12) (evCode P Γ call n f m (cAt [1,1,0,1,0,0,0] B12) s H) := qS
noncomputable def r12_17 : {l : List Oper // opsOf (cAt [1,1,0,1,0,0,0] B12) = l} := by
  apply Subtype.mk
  dsimp [B12, Try.f12]
@[simp] theorem n12_17 : evCode P Γ call n f m (cAt [1,1,0,1,0,0,0] B12) s H = regNext (evOpsGo P Γ call r12_17.1 r12_17.1 s H) := qR r12_17.2
attribute [simp] r12_17
@[simp] theorem n12_18 : evCode P Γ call n f m (cAt [1,1,0,1,0,0,1] B12) s H = seqNext P Γ call n f m (cAt [1,1,0,1,0,0,1,1] B12) (evCode P Γ call n f m (cAt [1,1,0,1,0,0,1,0] B12) s H) := qS
@[simp] theorem n12_19 : evCode P Γ call n f m (cAt [1,1,0,1,0,0,1,0] B12) s H = condW P Γ call n f m (cAt [1,1,0,1,0,0,1,0,0] B12) (cAt [1,1,0,1,0,0,1,0,1] B12) s H (evOperand Γ s (.tmp 26)) := qC
@[simp] theorem n12_20 : evCode P Γ call n f m (cAt [1,1,0,1,0,0,1,0,0] B12) s H = some (.normal, s, H) := qK
@[simp] theorem n12_21 : evCode P Γ call n f m (cAt [1,1,0,1,0,0,1,0,1] B12) s H = some (.exit 0, s, H) := qE
@[simp] theorem n12_22 : evCode P Γ call n f m (cAt [1,1,0,1,0,0,1,1] B12) s H = seqNext P Γ call n f m (cAt [1,1,0,1,0,0,1,1,1] B12) (evCode P Γ call n f m (cAt [1,1,0,1,0,0,1,1,0] B12) s H) := qS
@[simp] theorem n12_23 : evCode P Γ call n f m (cAt [1,1,0,1,0,0,1,1,0] B12) s H = blockNext 1 (evCode P Γ call n f m (cAt [1,1,0,1,0,0,1,1,0,0] B12) s H) := qB
@[simp] theorem n12_24 : evCode P Γ call n f m (cAt [1,1,0,1,0,0,1,1,0,0] B12) s H = seqNext P Γ call n f m (cAt [1,1,0,1,0,0,1,1,0,0,1] B12) (evCode P Γ call n f m (cAt [1,1,0,1,0,0,1,1,0,0,0] B12) s H) := qS
noncomputable def r12_25 : {l : List Oper // opsOf (cAt [1,1,0,1,0,0,1,1,0,0,0] B12) = l} := by
  apply Subtype.mk
  dsimp [B12, Try.f12]
@[simp] theorem n12_25 : evCode P Γ call n f m (cAt [1,1,0,1,0,0,1,1,0,0,0] B12) s H = regNext (evOpsGo P Γ call r12_25.1 r12_25.1 s H) := qR r12_25.2
attribute [simp] r12_25
@[simp] theorem n12_26 : evCode P Γ call n f m (cAt [1,1,0,1,0,0,1,1,0,0,1] B12) s H = seqNext P Γ call n f m (cAt [1,1,0,1,0,0,1,1,0,0,1,1] B12) (evCode P Γ call n f m (cAt [1,1,0,1,0,0,1,1,0,0,1,0] B12) s H) := qS
@[simp] theorem n12_27 : evCode P Γ call n f m (cAt [1,1,0,1,0,0,1,1,0,0,1,0] B12) s H = seqNext P Γ call n f m (cAt [1,1,0,1,0,0,1,1,0,0,1,0,1] B12) (evCode P Γ call n f m (cAt [1,1,0,1,0,0,1,1,0,0,1,0,0] B12) s H) := qS
noncomputable def r12_28 : {l : List Oper // opsOf (cAt [1,1,0,1,0,0,1,1,0,0,1,0,0] B12) = l} := by
  apply Subtype.mk
  dsimp [B12, Try.f12]
@[simp] theorem n12_28 : evCode P Γ call n f m (cAt [1,1,0,1,0,0,1,1,0,0,1,0,0] B12) s H = regNext (evOpsGo P Γ call r12_28.1 r12_28.1 s H) := qR r12_28.2
attribute [simp] r12_28
@[simp] theorem n12_29 : evCode P Γ call n f m (cAt [1,1,0,1,0,0,1,1,0,0,1,0,1] B12) s H = condW P Γ call n f m (cAt [1,1,0,1,0,0,1,1,0,0,1,0,1,0] B12) (cAt [1,1,0,1,0,0,1,1,0,0,1,0,1,1] B12) s H (evOperand Γ s (.tmp 32)) := qC
@[simp] theorem n12_30 : evCode P Γ call n f m (cAt [1,1,0,1,0,0,1,1,0,0,1,0,1,0] B12) s H = seqNext P Γ call n f m (cAt [1,1,0,1,0,0,1,1,0,0,1,0,1,0,1] B12) (evCode P Γ call n f m (cAt [1,1,0,1,0,0,1,1,0,0,1,0,1,0,0] B12) s H) := qS
noncomputable def r12_31 : {l : List Oper // opsOf (cAt [1,1,0,1,0,0,1,1,0,0,1,0,1,0,0] B12) = l} := by
  apply Subtype.mk
  dsimp [B12, Try.f12]
@[simp] theorem n12_31 : evCode P Γ call n f m (cAt [1,1,0,1,0,0,1,1,0,0,1,0,1,0,0] B12) s H = regNext (evOpsGo P Γ call r12_31.1 r12_31.1 s H) := qR r12_31.2
attribute [simp] r12_31
@[simp] theorem n12_32 : evCode P Γ call n f m (cAt [1,1,0,1,0,0,1,1,0,0,1,0,1,0,1] B12) s H = some (.ret, s, H) := qT
@[simp] theorem n12_33 : evCode P Γ call n f m (cAt [1,1,0,1,0,0,1,1,0,0,1,0,1,1] B12) s H = some (.normal, s, H) := qK
@[simp] theorem n12_34 : evCode P Γ call n f m (cAt [1,1,0,1,0,0,1,1,0,0,1,1] B12) s H = seqNext P Γ call n f m (cAt [1,1,0,1,0,0,1,1,0,0,1,1,1] B12) (evCode P Γ call n f m (cAt [1,1,0,1,0,0,1,1,0,0,1,1,0] B12) s H) := qS
noncomputable def r12_35 : {l : List Oper // opsOf (cAt [1,1,0,1,0,0,1,1,0,0,1,1,0] B12) = l} := by
  apply Subtype.mk
  dsimp [B12, Try.f12]
@[simp] theorem n12_35 : evCode P Γ call n f m (cAt [1,1,0,1,0,0,1,1,0,0,1,1,0] B12) s H = regNext (evOpsGo P Γ call r12_35.1 r12_35.1 s H) := qR r12_35.2
attribute [simp] r12_35
@[simp] theorem n12_36 : evCode P Γ call n f m (cAt [1,1,0,1,0,0,1,1,0,0,1,1,1] B12) s H = condW P Γ call n f m (cAt [1,1,0,1,0,0,1,1,0,0,1,1,1,0] B12) (cAt [1,1,0,1,0,0,1,1,0,0,1,1,1,1] B12) s H (evOperand Γ s (.tmp 50)) := qC
@[simp] theorem n12_37 : evCode P Γ call n f m (cAt [1,1,0,1,0,0,1,1,0,0,1,1,1,0] B12) s H = seqNext P Γ call n f m (cAt [1,1,0,1,0,0,1,1,0,0,1,1,1,0,1] B12) (evCode P Γ call n f m (cAt [1,1,0,1,0,0,1,1,0,0,1,1,1,0,0] B12) s H) := qS
noncomputable def r12_38 : {l : List Oper // opsOf (cAt [1,1,0,1,0,0,1,1,0,0,1,1,1,0,0] B12) = l} := by
  apply Subtype.mk
  dsimp [B12, Try.f12]
@[simp] theorem n12_38 : evCode P Γ call n f m (cAt [1,1,0,1,0,0,1,1,0,0,1,1,1,0,0] B12) s H = regNext (evOpsGo P Γ call r12_38.1 r12_38.1 s H) := qR r12_38.2
attribute [simp] r12_38
@[simp] theorem n12_39 : evCode P Γ call n f m (cAt [1,1,0,1,0,0,1,1,0,0,1,1,1,0,1] B12) s H = some (.ret, s, H) := qT
@[simp] theorem n12_40 : evCode P Γ call n f m (cAt [1,1,0,1,0,0,1,1,0,0,1,1,1,1] B12) s H = some (.normal, s, H) := qK
noncomputable def r12_41 : {l : List Oper // opsOf (cAt [1,1,0,1,0,0,1,1,1] B12) = l} := by
  apply Subtype.mk
  dsimp [B12, Try.f12]
@[simp] theorem n12_41 : evCode P Γ call n f m (cAt [1,1,0,1,0,0,1,1,1] B12) s H = regNext (evOpsGo P Γ call r12_41.1 r12_41.1 s H) := qR r12_41.2
attribute [simp] r12_41
@[simp] theorem n12_42 : evCode P Γ call n f m (cAt [1,1,1] B12) s H = seqNext P Γ call n f m (cAt [1,1,1,1] B12) (evCode P Γ call n f m (cAt [1,1,1,0] B12) s H) := qS
@[simp] theorem n12_43 : evCode P Γ call n f m (cAt [1,1,1,0] B12) s H = seqNext P Γ call n f m (cAt [1,1,1,0,1] B12) (evCode P Γ call n f m (cAt [1,1,1,0,0] B12) s H) := qS
noncomputable def r12_44 : {l : List Oper // opsOf (cAt [1,1,1,0,0] B12) = l} := by
  apply Subtype.mk
  dsimp [B12, Try.f12]
@[simp] theorem n12_44 : evCode P Γ call n f m (cAt [1,1,1,0,0] B12) s H = regNext (evOpsGo P Γ call r12_44.1 r12_44.1 s H) := qR r12_44.2
attribute [simp] r12_44
@[simp] theorem n12_45 : evCode P Γ call n f m (cAt [1,1,1,0,1] B12) s H = blockNext 2 (evCode P Γ call n f m (cAt [1,1,1,0,1,0] B12) s H) := qB
@[simp] theorem n12_46 : evCode P Γ call n f m (cAt [1,1,1,0,1,0] B12) s H = evLoopC P Γ call n f m (cAt [1,1,1,0,1,0,0] B12) n s H := qL
noncomputable abbrev L12_12 : Code := cAt [1,1,1,0,1,0,0] B12
@[simp] theorem n12_46f : firstRegion (cAt [1,1,1,0,1,0,0] B12) = 12 := by kernel_rfl
@[simp] theorem n12_47 : evCode P Γ call n f m (cAt [1,1,1,0,1,0,0] B12) s H = seqNext P Γ call n f m (cAt [1,1,1,0,1,0,0,1] B12) (evCode P Γ call n f m (cAt [1,1,1,0,1,0,0,0] B12) s H) := qS
noncomputable def r12_48 : {l : List Oper // opsOf (cAt [1,1,1,0,1,0,0,0] B12) = l} := by
  apply Subtype.mk
  dsimp [B12, Try.f12]
@[simp] theorem n12_48 : evCode P Γ call n f m (cAt [1,1,1,0,1,0,0,0] B12) s H = regNext (evOpsGo P Γ call r12_48.1 r12_48.1 s H) := qR r12_48.2
attribute [simp] r12_48
@[simp] theorem n12_49 : evCode P Γ call n f m (cAt [1,1,1,0,1,0,0,1] B12) s H = seqNext P Γ call n f m (cAt [1,1,1,0,1,0,0,1,1] B12) (evCode P Γ call n f m (cAt [1,1,1,0,1,0,0,1,0] B12) s H) := qS
@[simp] theorem n12_50 : evCode P Γ call n f m (cAt [1,1,1,0,1,0,0,1,0] B12) s H = condW P Γ call n f m (cAt [1,1,1,0,1,0,0,1,0,0] B12) (cAt [1,1,1,0,1,0,0,1,0,1] B12) s H (evOperand Γ s (.tmp 55)) := qC
@[simp] theorem n12_51 : evCode P Γ call n f m (cAt [1,1,1,0,1,0,0,1,0,0] B12) s H = some (.normal, s, H) := qK
@[simp] theorem n12_52 : evCode P Γ call n f m (cAt [1,1,1,0,1,0,0,1,0,1] B12) s H = some (.exit 2, s, H) := qE
@[simp] theorem n12_53 : evCode P Γ call n f m (cAt [1,1,1,0,1,0,0,1,1] B12) s H = seqNext P Γ call n f m (cAt [1,1,1,0,1,0,0,1,1,1] B12) (evCode P Γ call n f m (cAt [1,1,1,0,1,0,0,1,1,0] B12) s H) := qS
@[simp] theorem n12_54 : evCode P Γ call n f m (cAt [1,1,1,0,1,0,0,1,1,0] B12) s H = blockNext 3 (evCode P Γ call n f m (cAt [1,1,1,0,1,0,0,1,1,0,0] B12) s H) := qB
@[simp] theorem n12_55 : evCode P Γ call n f m (cAt [1,1,1,0,1,0,0,1,1,0,0] B12) s H = seqNext P Γ call n f m (cAt [1,1,1,0,1,0,0,1,1,0,0,1] B12) (evCode P Γ call n f m (cAt [1,1,1,0,1,0,0,1,1,0,0,0] B12) s H) := qS
noncomputable def r12_56 : {l : List Oper // opsOf (cAt [1,1,1,0,1,0,0,1,1,0,0,0] B12) = l} := by
  apply Subtype.mk
  dsimp [B12, Try.f12]
@[simp] theorem n12_56 : evCode P Γ call n f m (cAt [1,1,1,0,1,0,0,1,1,0,0,0] B12) s H = regNext (evOpsGo P Γ call r12_56.1 r12_56.1 s H) := qR r12_56.2
attribute [simp] r12_56
@[simp] theorem n12_57 : evCode P Γ call n f m (cAt [1,1,1,0,1,0,0,1,1,0,0,1] B12) s H = blockNext 4 (evCode P Γ call n f m (cAt [1,1,1,0,1,0,0,1,1,0,0,1,0] B12) s H) := qB
@[simp] theorem n12_58 : evCode P Γ call n f m (cAt [1,1,1,0,1,0,0,1,1,0,0,1,0] B12) s H = seqNext P Γ call n f m (cAt [1,1,1,0,1,0,0,1,1,0,0,1,0,1] B12) (evCode P Γ call n f m (cAt [1,1,1,0,1,0,0,1,1,0,0,1,0,0] B12) s H) := qS
noncomputable def r12_59 : {l : List Oper // opsOf (cAt [1,1,1,0,1,0,0,1,1,0,0,1,0,0] B12) = l} := by
  apply Subtype.mk
  dsimp [B12, Try.f12]
@[simp] theorem n12_59 : evCode P Γ call n f m (cAt [1,1,1,0,1,0,0,1,1,0,0,1,0,0] B12) s H = regNext (evOpsGo P Γ call r12_59.1 r12_59.1 s H) := qR r12_59.2
attribute [simp] r12_59
@[simp] theorem n12_60 : evCode P Γ call n f m (cAt [1,1,1,0,1,0,0,1,1,0,0,1,0,1] B12) s H = condW P Γ call n f m (cAt [1,1,1,0,1,0,0,1,1,0,0,1,0,1,0] B12) (cAt [1,1,1,0,1,0,0,1,1,0,0,1,0,1,1] B12) s H (evOperand Γ s (.tmp 58)) := qC
@[simp] theorem n12_61 : evCode P Γ call n f m (cAt [1,1,1,0,1,0,0,1,1,0,0,1,0,1,0] B12) s H = seqNext P Γ call n f m (cAt [1,1,1,0,1,0,0,1,1,0,0,1,0,1,0,1] B12) (evCode P Γ call n f m (cAt [1,1,1,0,1,0,0,1,1,0,0,1,0,1,0,0] B12) s H) := qS
noncomputable def r12_62 : {l : List Oper // opsOf (cAt [1,1,1,0,1,0,0,1,1,0,0,1,0,1,0,0] B12) = l} := by
  apply Subtype.mk
  dsimp [B12, Try.f12]
@[simp] theorem n12_62 : evCode P Γ call n f m (cAt [1,1,1,0,1,0,0,1,1,0,0,1,0,1,0,0] B12) s H = regNext (evOpsGo P Γ call r12_62.1 r12_62.1 s H) := qR r12_62.2
attribute [simp] r12_62
@[simp] theorem n12_63 : evCode P Γ call n f m (cAt [1,1,1,0,1,0,0,1,1,0,0,1,0,1,0,1] B12) s H = some (.ret, s, H) := qT
@[simp] theorem n12_64 : evCode P Γ call n f m (cAt [1,1,1,0,1,0,0,1,1,0,0,1,0,1,1] B12) s H = seqNext P Γ call n f m (cAt [1,1,1,0,1,0,0,1,1,0,0,1,0,1,1,1] B12) (evCode P Γ call n f m (cAt [1,1,1,0,1,0,0,1,1,0,0,1,0,1,1,0] B12) s H) := qS
noncomputable def r12_65 : {l : List Oper // opsOf (cAt [1,1,1,0,1,0,0,1,1,0,0,1,0,1,1,0] B12) = l} := by
  apply Subtype.mk
  dsimp [B12, Try.f12]
@[simp] theorem n12_65 : evCode P Γ call n f m (cAt [1,1,1,0,1,0,0,1,1,0,0,1,0,1,1,0] B12) s H = regNext (evOpsGo P Γ call r12_65.1 r12_65.1 s H) := qR r12_65.2
attribute [simp] r12_65
@[simp] theorem n12_66 : evCode P Γ call n f m (cAt [1,1,1,0,1,0,0,1,1,0,0,1,0,1,1,1] B12) s H = condW P Γ call n f m (cAt [1,1,1,0,1,0,0,1,1,0,0,1,0,1,1,1,0] B12) (cAt [1,1,1,0,1,0,0,1,1,0,0,1,0,1,1,1,1] B12) s H (evOperand Γ s (.tmp 81)) := qC
@[simp] theorem n12_67 : evCode P Γ call n f m (cAt [1,1,1,0,1,0,0,1,1,0,0,1,0,1,1,1,0] B12) s H = seqNext P Γ call n f m (cAt [1,1,1,0,1,0,0,1,1,0,0,1,0,1,1,1,0,1] B12) (evCode P Γ call n f m (cAt [1,1,1,0,1,0,0,1,1,0,0,1,0,1,1,1,0,0] B12) s H) := qS
noncomputable def r12_68 : {l : List Oper // opsOf (cAt [1,1,1,0,1,0,0,1,1,0,0,1,0,1,1,1,0,0] B12) = l} := by
  apply Subtype.mk
  dsimp [B12, Try.f12]
@[simp] theorem n12_68 : evCode P Γ call n f m (cAt [1,1,1,0,1,0,0,1,1,0,0,1,0,1,1,1,0,0] B12) s H = regNext (evOpsGo P Γ call r12_68.1 r12_68.1 s H) := qR r12_68.2
attribute [simp] r12_68
@[simp] theorem n12_69 : evCode P Γ call n f m (cAt [1,1,1,0,1,0,0,1,1,0,0,1,0,1,1,1,0,1] B12) s H = some (.ret, s, H) := qT
@[simp] theorem n12_70 : evCode P Γ call n f m (cAt [1,1,1,0,1,0,0,1,1,0,0,1,0,1,1,1,1] B12) s H = seqNext P Γ call n f m (cAt [1,1,1,0,1,0,0,1,1,0,0,1,0,1,1,1,1,1] B12) (evCode P Γ call n f m (cAt [1,1,1,0,1,0,0,1,1,0,0,1,0,1,1,1,1,0] B12) s H) := qS
noncomputable def r12_71 : {l : List Oper // opsOf (cAt [1,1,1,0,1,0,0,1,1,0,0,1,0,1,1,1,1,0] B12) = l} := by
  apply Subtype.mk
  dsimp [B12, Try.f12]
@[simp] theorem n12_71 : evCode P Γ call n f m (cAt [1,1,1,0,1,0,0,1,1,0,0,1,0,1,1,1,1,0] B12) s H = regNext (evOpsGo P Γ call r12_71.1 r12_71.1 s H) := qR r12_71.2
attribute [simp] r12_71
@[simp] theorem n12_72 : evCode P Γ call n f m (cAt [1,1,1,0,1,0,0,1,1,0,0,1,0,1,1,1,1,1] B12) s H = condW P Γ call n f m (cAt [1,1,1,0,1,0,0,1,1,0,0,1,0,1,1,1,1,1,0] B12) (cAt [1,1,1,0,1,0,0,1,1,0,0,1,0,1,1,1,1,1,1] B12) s H (evOperand Γ s (.tmp 87)) := qC
@[simp] theorem n12_73 : evCode P Γ call n f m (cAt [1,1,1,0,1,0,0,1,1,0,0,1,0,1,1,1,1,1,0] B12) s H = seqNext P Γ call n f m (cAt [1,1,1,0,1,0,0,1,1,0,0,1,0,1,1,1,1,1,0,1] B12) (evCode P Γ call n f m (cAt [1,1,1,0,1,0,0,1,1,0,0,1,0,1,1,1,1,1,0,0] B12) s H) := qS
noncomputable def r12_74 : {l : List Oper // opsOf (cAt [1,1,1,0,1,0,0,1,1,0,0,1,0,1,1,1,1,1,0,0] B12) = l} := by
  apply Subtype.mk
  dsimp [B12, Try.f12]
@[simp] theorem n12_74 : evCode P Γ call n f m (cAt [1,1,1,0,1,0,0,1,1,0,0,1,0,1,1,1,1,1,0,0] B12) s H = regNext (evOpsGo P Γ call r12_74.1 r12_74.1 s H) := qR r12_74.2
attribute [simp] r12_74
@[simp] theorem n12_75 : evCode P Γ call n f m (cAt [1,1,1,0,1,0,0,1,1,0,0,1,0,1,1,1,1,1,0,1] B12) s H = some (.ret, s, H) := qT
@[simp] theorem n12_76 : evCode P Γ call n f m (cAt [1,1,1,0,1,0,0,1,1,0,0,1,0,1,1,1,1,1,1] B12) s H = some (.normal, s, H) := qK
noncomputable def r12_77 : {l : List Oper // opsOf (cAt [1,1,1,0,1,0,0,1,1,1] B12) = l} := by
  apply Subtype.mk
  dsimp [B12, Try.f12]
@[simp] theorem n12_77 : evCode P Γ call n f m (cAt [1,1,1,0,1,0,0,1,1,1] B12) s H = regNext (evOpsGo P Γ call r12_77.1 r12_77.1 s H) := qR r12_77.2
attribute [simp] r12_77
@[simp] theorem n12_78 : evCode P Γ call n f m (cAt [1,1,1,1] B12) s H = seqNext P Γ call n f m (cAt [1,1,1,1,1] B12) (evCode P Γ call n f m (cAt [1,1,1,1,0] B12) s H) := qS
noncomputable def r12_79 : {l : List Oper // opsOf (cAt [1,1,1,1,0] B12) = l} := by
  apply Subtype.mk
  dsimp [B12, Try.f12]
@[simp] theorem n12_79 : evCode P Γ call n f m (cAt [1,1,1,1,0] B12) s H = regNext (evOpsGo P Γ call r12_79.1 r12_79.1 s H) := qR r12_79.2
attribute [simp] r12_79
@[simp] theorem n12_80 : evCode P Γ call n f m (cAt [1,1,1,1,1] B12) s H = some (.ret, s, H) := qT
theorem b12 {k : Nat} (ho : ∀ args H, Γ.orc 12 args H = none) (args : List V) (H : Heap) (ha : args.length ≤ 104) : evF Try.prog Γ (k + 1) 12 args H = bodyEnd Try.prog [.tmp 4] H.length (evCode Try.prog Γ (evF Try.prog Γ k) k 12 H.length (cAt [] B12) (mkL 104 V.undef (enumV 0 args)) H) := body_at Try.func12 (by decide) rfl ho rfl rfl args H ha
noncomputable def B13 : Code := bodyOf Try.f13
@[simp] theorem n13_1 : evCode P Γ call n f m (cAt [] B13) s H = seqNext P Γ call n f m (cAt [1] B13) (evCode P Γ call n f m (cAt [0] B13) s H) := qS
noncomputable def r13_2 : {l : List Oper // opsOf (cAt [0] B13) = l} := by
  apply Subtype.mk
  dsimp [B13, Try.f13]
@[simp] theorem n13_2 : evCode P Γ call n f m (cAt [0] B13) s H = regNext (evOpsGo P Γ call r13_2.1 r13_2.1 s H) := qR r13_2.2
attribute [simp] r13_2
@[simp] theorem n13_3 : evCode P Γ call n f m (cAt [1] B13) s H = seqNext P Γ call n f m (cAt [1,1] B13) (evCode P Γ call n f m (cAt [1,0] B13) s H) := qS
@[simp] theorem n13_4 : evCode P Γ call n f m (cAt [1,0] B13) s H = seqNext P Γ call n f m (cAt [1,0,1] B13) (evCode P Γ call n f m (cAt [1,0,0] B13) s H) := qS
noncomputable def r13_5 : {l : List Oper // opsOf (cAt [1,0,0] B13) = l} := by
  apply Subtype.mk
  dsimp [B13, Try.f13]
@[simp] theorem n13_5 : evCode P Γ call n f m (cAt [1,0,0] B13) s H = regNext (evOpsGo P Γ call r13_5.1 r13_5.1 s H) := qR r13_5.2
attribute [simp] r13_5
@[simp] theorem n13_6 : evCode P Γ call n f m (cAt [1,0,1] B13) s H = condW P Γ call n f m (cAt [1,0,1,0] B13) (cAt [1,0,1,1] B13) s H (evOperand Γ s (.tmp 24)) := qC
@[simp] theorem n13_7 : evCode P Γ call n f m (cAt [1,0,1,0] B13) s H = seqNext P Γ call n f m (cAt [1,0,1,0,1] B13) (evCode P Γ call n f m (cAt [1,0,1,0,0] B13) s H) := qS
noncomputable def r13_8 : {l : List Oper // opsOf (cAt [1,0,1,0,0] B13) = l} := by
  apply Subtype.mk
  dsimp [B13, Try.f13]
@[simp] theorem n13_8 : evCode P Γ call n f m (cAt [1,0,1,0,0] B13) s H = regNext (evOpsGo P Γ call r13_8.1 r13_8.1 s H) := qR r13_8.2
attribute [simp] r13_8
@[simp] theorem n13_9 : evCode P Γ call n f m (cAt [1,0,1,0,1] B13) s H = some (.ret, s, H) := qT
@[simp] theorem n13_10 : evCode P Γ call n f m (cAt [1,0,1,1] B13) s H = some (.normal, s, H) := qK
@[simp] theorem n13_11 : evCode P Γ call n f m (cAt [1,1] B13) s H = seqNext P Γ call n f m (cAt [1,1,1] B13) (evCode P Γ call n f m (cAt [1,1,0] B13) s H) := qS
@[simp] theorem n13_12 : evCode P Γ call n f m (cAt [1,1,0] B13) s H = seqNext P Γ call n f m (cAt [1,1,0,1] B13) (evCode P Γ call n f m (cAt [1,1,0,0] B13) s H) := qS
noncomputable def r13_13 : {l : List Oper // opsOf (cAt [1,1,0,0] B13) = l} := by
  apply Subtype.mk
  dsimp [B13, Try.f13]
@[simp] theorem n13_13 : evCode P Γ call n f m (cAt [1,1,0,0] B13) s H = regNext (evOpsGo P Γ call r13_13.1 r13_13.1 s H) := qR r13_13.2
attribute [simp] r13_13
@[simp] theorem n13_14 : evCode P Γ call n f m (cAt [1,1,0,1] B13) s H = blockNext 0 (evCode P Γ call n f m (cAt [1,1,0,1,0] B13) s H) := qB
@[simp] theorem n13_15 : evCode P Γ call n f m (cAt [1,1,0,1,0] B13) s H = evLoopC P Γ call n f m (cAt [1,1,0,1,0,0] B13) n s H := qL
noncomputable abbrev L13_4 : Code := cAt [1,1,0,1,0,0] B13
@[simp] theorem n13_15f : firstRegion (cAt [1,1,0,1,0,0] B13) = 4 := by kernel_rfl
@[simp] theorem n13_16 : evCode P Γ call n f m (cAt [1,1,0,1,0,0] B13) s H = seqNext P Γ call n f m (cAt [1,1,0,1,0,0,1] B13) (evCode P Γ call n f m (cAt [1,1,0,1,0,0,0] B13) s H) := qS
noncomputable def r13_17 : {l : List Oper // opsOf (cAt [1,1,0,1,0,0,0] B13) = l} := by
  apply Subtype.mk
  dsimp [B13, Try.f13]
@[simp] theorem n13_17 : evCode P Γ call n f m (cAt [1,1,0,1,0,0,0] B13) s H = regNext (evOpsGo P Γ call r13_17.1 r13_17.1 s H) := qR r13_17.2
attribute [simp] r13_17
@[simp] theorem n13_18 : evCode P Γ call n f m (cAt [1,1,0,1,0,0,1] B13) s H = seqNext P Γ call n f m (cAt [1,1,0,1,0,0,1,1] B13) (evCode P Γ call n f m (cAt [1,1,0,1,0,0,1,0] B13) s H) := qS
@[simp] theorem n13_19 : evCode P Γ call n f m (cAt [1,1,0,1,0,0,1,0] B13) s H = condW P Γ call n f m (cAt [1,1,0,1,0,0,1,0,0] B13) (cAt [1,1,0,1,0,0,1,0,1] B13) s H (evOperand Γ s (.tmp 28)) := qC
@[simp] theorem n13_20 : evCode P Γ call n f m (cAt [1,1,0,1,0,0,1,0,0] B13) s H = some (.normal, s, H) := qK
@[simp] theorem n13_21 : evCode P Γ call n f m (cAt [1,1,0,1,0,0,1,0,1] B13) s H = some (.exit 0, s, H) := qE
@[simp] theorem n13_22 : evCode P Γ call n f m (cAt [1,1,0,1,0,0,1,1] B13) s H = seqNext P Γ call n f m (cAt [1,1,0,1,0,0,1,1,1] B13) (evCode P Γ call n f m (cAt [1,1,0,1,0,0,1,1,0] B13) s H) := qS
@[simp] theorem n13_23 : evCode P Γ call n f m (cAt [1,1,0,1,0,0,1,1,0] B13) s H = blockNext 1 (evCode P Γ call n f m (cAt [1,1,0,1,0,0,1,1,0,0] B13) s H) := qB
@[simp] theorem n13_24 : evCode P Γ call n f m (cAt [1,1,0,1,0,0,1,1,0,0] B13) s H = seqNext P Γ call n f m (cAt [1,1,0,1,0,0,1,1,0,0,1] B13) (evCode P Γ call n f m (cAt [1,1,0,1,0,0,1,1,0,0,0] B13) s H) := qS
noncomputable def r13_25 : {l : List Oper // opsOf (cAt [1,1,0,1,0,0,1,1,0,0,0] B13) = l} := by
  apply Subtype.mk
  dsimp [B13, Try.f13]
@[simp] theorem n13_25 : evCode P Γ call n f m (cAt [1,1,0,1,0,0,1,1,0,0,0] B13) s H = regNext (evOpsGo P Γ call r13_25.1 r13_25.1 s H) := qR r13_25.2
attribute [simp] r13_25
@[simp] theorem n13_26 : evCode P Γ call n f m (cAt [1,1,0,1,0,0,1,1,0,0,1] B13) s H = seqNext P Γ call n f m (cAt [1,1,0,1,0,0,1,1,0,0,1,1] B13) (evCode P Γ call n f m (cAt [1,1,0,1,0,0,1,1,0,0,1,0] B13) s H) := qS
@[simp] theorem n13_27 : evCode P Γ call n f m (cAt [1,1,0,1,0,0,1,1,0,0,1,0] B13) s H = seqNext P Γ call n f m (cAt [1,1,0,1,0,0,1,1,0,0,1,0,1] B13) (evCode P Γ call n f m (cAt [1,1,0,1,0,0,1,1,0,0,1,0,0] B13) s H) := qS
noncomputable def r13_28 : {l : List Oper // opsOf (cAt [1,1,0,1,0,0,1,1,0,0,1,0,0] B13) = l} := by
  apply Subtype.mk
  dsimp [B13, Try.f13]
@[simp] theorem n13_28 : evCode P Γ call n f m (cAt [1,1,0,1,0,0,1,1,0,0,1,0,0] B13) s H = regNext (evOpsGo P Γ call r13_28.1 r13_28.1 s H) := qR r13_28.2
attribute [simp] r13_28
@[simp] theorem n13_29 : evCode P Γ call n f m (cAt [1,1,0,1,0,0,1,1,0,0,1,0,1] B13) s H = condW P Γ call n f m (cAt [1,1,0,1,0,0,1,1,0,0,1,0,1,0] B13) (cAt [1,1,0,1,0,0,1,1,0,0,1,0,1,1] B13) s H (evOperand Γ s (.tmp 34)) := qC
@[simp] theorem n13_30 : evCode P Γ call n f m (cAt [1,1,0,1,0,0,1,1,0,0,1,0,1,0] B13) s H = seqNext P Γ call n f m (cAt [1,1,0,1,0,0,1,1,0,0,1,0,1,0,1] B13) (evCode P Γ call n f m (cAt [1,1,0,1,0,0,1,1,0,0,1,0,1,0,0] B13) s H) := qS
noncomputable def r13_31 : {l : List Oper // opsOf (cAt [1,1,0,1,0,0,1,1,0,0,1,0,1,0,0] B13) = l} := by
  apply Subtype.mk
  dsimp [B13, Try.f13]
@[simp] theorem n13_31 : evCode P Γ call n f m (cAt [1,1,0,1,0,0,1,1,0,0,1,0,1,0,0] B13) s H = regNext (evOpsGo P Γ call r13_31.1 r13_31.1 s H) := qR r13_31.2
attribute [simp] r13_31
@[simp] theorem n13_32 : evCode P Γ call n f m (cAt [1,1,0,1,0,0,1,1,0,0,1,0,1,0,1] B13) s H = some (.ret, s, H) := qT
@[simp] theorem n13_33 : evCode P Γ call n f m (cAt [1,1,0,1,0,0,1,1,0,0,1,0,1,1] B13) s H = some (.normal, s, H) := qK
@[simp] theorem n13_34 : evCode P Γ call n f m (cAt [1,1,0,1,0,0,1,1,0,0,1,1] B13) s H = seqNext P Γ call n f m (cAt [1,1,0,1,0,0,1,1,0,0,1,1,1] B13) (evCode P Γ call n f m (cAt [1,1,0,1,0,0,1,1,0,0,1,1,0] B13) s H) := qS
noncomputable def r13_35 : {l : List Oper // opsOf (cAt [1,1,0,1,0,0,1,1,0,0,1,1,0] B13) = l} := by
  apply Subtype.mk
  dsimp [B13, Try.f13]
@[simp] theorem n13_35 : evCode P Γ call n f m (cAt [1,1,0,1,0,0,1,1,0,0,1,1,0] B13) s H = regNext (evOpsGo P Γ call r13_35.1 r13_35.1 s H) := qR r13_35.2
attribute [simp] r13_35
@[simp] theorem n13_36 : evCode P Γ call n f m (cAt [1,1,0,1,0,0,1,1,0,0,1,1,1] B13) s H = blockNext 2 (evCode P Γ call n f m (cAt [1,1,0,1,0,0,1,1,0,0,1,1,1,0] B13) s H) := qB
@[simp] theorem n13_37 : evCode P Γ call n f m (cAt [1,1,0,1,0,0,1,1,0,0,1,1,1,0] B13) s H = evLoopC P Γ call n f m (cAt [1,1,0,1,0,0,1,1,0,0,1,1,1,0,0] B13) n s H := qL
noncomputable abbrev L13_9 : Code := cAt [1,1,0,1,0,0,1,1,0,0,1,1,1,0,0] B13
@[simp] theorem n13_37f : firstRegion (cAt [1,1,0,1,0,0,1,1,0,0,1,1,1,0,0] B13) = 9 := by kernel_rfl
@[simp] theorem n13_38 : evCode P Γ call n f m (cAt [1,1,0,1,0,0,1,1,0,0,1,1,1,0,0] B13) s H = seqNext P Γ call n f m (cAt [1,1,0,1,0,0,1,1,0,0,1,1,1,0,0,1] B13) (evCode P Γ call n f m (cAt [1,1,0,1,0,0,1,1,0,0,1,1,1,0,0,0] B13) s H) := qS
noncomputable def r13_39 : {l : List Oper // opsOf (cAt [1,1,0,1,0,0,1,1,0,0,1,1,1,0,0,0] B13) = l} := by
  apply Subtype.mk
  dsimp [B13, Try.f13]
@[simp] theorem n13_39 : evCode P Γ call n f m (cAt [1,1,0,1,0,0,1,1,0,0,1,1,1,0,0,0] B13) s H = regNext (evOpsGo P Γ call r13_39.1 r13_39.1 s H) := qR r13_39.2
attribute [simp] r13_39
@[simp] theorem n13_40 : evCode P Γ call n f m (cAt [1,1,0,1,0,0,1,1,0,0,1,1,1,0,0,1] B13) s H = seqNext P Γ call n f m (cAt [1,1,0,1,0,0,1,1,0,0,1,1,1,0,0,1,1] B13) (evCode P Γ call n f m (cAt [1,1,0,1,0,0,1,1,0,0,1,1,1,0,0,1,0] B13) s H) := qS
@[simp] theorem n13_41 : evCode P Γ call n f m (cAt [1,1,0,1,0,0,1,1,0,0,1,1,1,0,0,1,0] B13) s H = condW P Γ call n f m (cAt [1,1,0,1,0,0,1,1,0,0,1,1,1,0,0,1,0,0] B13) (cAt [1,1,0,1,0,0,1,1,0,0,1,1,1,0,0,1,0,1] B13) s H (evOperand Γ s (.tmp 42)) := qC
@[simp] theorem n13_42 : evCode P Γ call n f m (cAt [1,1,0,1,0,0,1,1,0,0,1,1,1,0,0,1,0,0] B13) s H = some (.normal, s, H) := qK
@[simp] theorem n13_43 : evCode P Γ call n f m (cAt [1,1,0,1,0,0,1,1,0,0,1,1,1,0,0,1,0,1] B13) s H = some (.exit 2, s, H) := qE
@[simp] theorem n13_44 : evCode P Γ call n f m (cAt [1,1,0,1,0,0,1,1,0,0,1,1,1,0,0,1,1] B13) s H = seqNext P Γ call n f m (cAt [1,1,0,1,0,0,1,1,0,0,1,1,1,0,0,1,1,1] B13) (evCode P Γ call n f m (cAt [1,1,0,1,0,0,1,1,0,0,1,1,1,0,0,1,1,0] B13) s H) := qS
@[simp] theorem n13_45 : evCode P Γ call n f m (cAt [1,1,0,1,0,0,1,1,0,0,1,1,1,0,0,1,1,0] B13) s H = blockNext 3 (evCode P Γ call n f m (cAt [1,1,0,1,0,0,1,1,0,0,1,1,1,0,0,1,1,0,0] B13) s H) := qB
@[simp] theorem n13_46 : evCode P Γ call n f m (cAt [1,1,0,1,0,0,1,1,0,0,1,1,1,0,0,1,1,0,0] B13) s H = seqNext P Γ call n f m (cAt [1,1,0,1,0,0,1,1,0,0,1,1,1,0,0,1,1,0,0,1] B13) (evCode P Γ call n f m (cAt [1,1,0,1,0,0,1,1,0,0,1,1,1,0,0,1,1,0,0,0] B13) s H) := qS
noncomputable def r13_47 : {l : List Oper // opsOf (cAt [1,1,0,1,0,0,1,1,0,0,1,1,1,0,0,1,1,0,0,0] B13) = l} := by
  apply Subtype.mk
  dsimp [B13, Try.f13]
@[simp] theorem n13_47 : evCode P Γ call n f m (cAt [1,1,0,1,0,0,1,1,0,0,1,1,1,0,0,1,1,0,0,0] B13) s H = regNext (evOpsGo P Γ call r13_47.1 r13_47.1 s H) := qR r13_47.2
attribute [simp] r13_47
@[simp] theorem n13_48 : evCode P Γ call n f m (cAt [1,1,0,1,0,0,1,1,0,0,1,1,1,0,0,1,1,0,0,1] B13) s H = seqNext P Γ call n f m (cAt [1,1,0,1,0,0,1,1,0,0,1,1,1,0,0,1,1,0,0,1,1] B13) (evCode P Γ call n f m (cAt [1,1,0,1,0,0,1,1,0,0,1,1,1,0,0,1,1,0,0,1,0] B13) s H) := qS
noncomputable def r13_49 : {l : List Oper // opsOf (cAt [1,1,0,1,0,0,1,1,0,0,1,1,1,0,0,1,1,0,0,1,0] B13) = l} := by
  apply Subtype.mk
  dsimp [B13, Try.f13]
@[simp] theorem n13_49 : evCode P Γ call n f m (cAt [1,1,0,1,0,0,1,1,0,0,1,1,1,0,0,1,1,0,0,1,0] B13) s H = regNext (evOpsGo P Γ call r13_49.1 r13_49.1 s H) := qR r13_49.2
attribute [simp] r13_49
@[simp] theorem n13_50 : evCode P Γ call n f m (cAt [1,1,0,1,0,0,1,1,0,0,1,1,1,0,0,1,1,0,0,1,1] B13) s H = condW P Γ call n f m (cAt [1,1,0,1,0,0,1,1,0,0,1,1,1,0,0,1,1,0,0,1,1,0] B13) (cAt [1,1,0,1,0,0,1,1,0,0,1,1,1,0,0,1,1,0,0,1,1,1] B13) s H (evOperand Γ s (.tmp 50)) := qC
@[simp] theorem n13_51 : evCode P Γ call n f m (cAt [1,1,0,1,0,0,1,1,0,0,1,1,1,0,0,1,1,0,0,1,1,0] B13) s H = seqNext P Γ call n f m (cAt [1,1,0,1,0,0,1,1,0,0,1,1,1,0,0,1,1,0,0,1,1,0,1] B13) (evCode P Γ call n f m (cAt [1,1,0,1,0,0,1,1,0,0,1,1,1,0,0,1,1,0,0,1,1,0,0] B13) s H) := qS
noncomputable def r13_52 : {l : List Oper // opsOf (cAt [1,1,0,1,0,0,1,1,0,0,1,1,1,0,0,1,1,0,0,1,1,0,0] B13) = l} := by
  apply Subtype.mk
  dsimp [B13, Try.f13]
@[simp] theorem n13_52 : evCode P Γ call n f m (cAt [1,1,0,1,0,0,1,1,0,0,1,1,1,0,0,1,1,0,0,1,1,0,0] B13) s H = regNext (evOpsGo P Γ call r13_52.1 r13_52.1 s H) := qR r13_52.2
attribute [simp] r13_52
@[simp] theorem n13_53 : evCode P Γ call n f m (cAt [1,1,0,1,0,0,1,1,0,0,1,1,1,0,0,1,1,0,0,1,1,0,1] B13) s H = some (.ret, s, H) := qT
@[simp] theorem n13_54 : evCode P Γ call n f m (cAt [1,1,0,1,0,0,1,1,0,0,1,1,1,0,0,1,1,0,0,1,1,1] B13) s H = some (.normal, s, H) := qK
noncomputable def r13_55 : {l : List Oper // opsOf (cAt [1,1,0,1,0,0,1,1,0,0,1,1,1,0,0,1,1,1] B13) = l} := by
  apply Subtype.mk
  dsimp [B13, Try.f13]
@[simp] theorem n13_55 : evCode P Γ call n f m (cAt [1,1,0,1,0,0,1,1,0,0,1,1,1,0,0,1,1,1] B13) s H = regNext (evOpsGo P Γ call r13_55.1 r13_55.1 s H) := qR r13_55.2
attribute [simp] r13_55
noncomputable def r13_56 : {l : List Oper // opsOf (cAt [1,1,0,1,0,0,1,1,1] B13) = l} := by
  apply Subtype.mk
  dsimp [B13, Try.f13]
@[simp] theorem n13_56 : evCode P Γ call n f m (cAt [1,1,0,1,0,0,1,1,1] B13) s H = regNext (evOpsGo P Γ call r13_56.1 r13_56.1 s H) := qR r13_56.2
attribute [simp] r13_56
@[simp] theorem n13_57 : evCode P Γ call n f m (cAt [1,1,1] B13) s H = seqNext P Γ call n f m (cAt [1,1,1,1] B13) (evCode P Γ call n f m (cAt [1,1,1,0] B13) s H) := qS
@[simp] theorem n13_58 : evCode P Γ call n f m (cAt [1,1,1,0] B13) s H = seqNext P Γ call n f m (cAt [1,1,1,0,1] B13) (evCode P Γ call n f m (cAt [1,1,1,0,0] B13) s H) := qS
noncomputable def r13_59 : {l : List Oper // opsOf (cAt [1,1,1,0,0] B13) = l} := by
  apply Subtype.mk
  dsimp [B13, Try.f13]
@[simp] theorem n13_59 : evCode P Γ call n f m (cAt [1,1,1,0,0] B13) s H = regNext (evOpsGo P Γ call r13_59.1 r13_59.1 s H) := qR r13_59.2
attribute [simp] r13_59
@[simp] theorem n13_60 : evCode P Γ call n f m (cAt [1,1,1,0,1] B13) s H = blockNext 4 (evCode P Γ call n f m (cAt [1,1,1,0,1,0] B13) s H) := qB
@[simp] theorem n13_61 : evCode P Γ call n f m (cAt [1,1,1,0,1,0] B13) s H = evLoopC P Γ call n f m (cAt [1,1,1,0,1,0,0] B13) n s H := qL
noncomputable abbrev L13_16 : Code := cAt [1,1,1,0,1,0,0] B13
@[simp] theorem n13_61f : firstRegion (cAt [1,1,1,0,1,0,0] B13) = 16 := by kernel_rfl
@[simp] theorem n13_62 : evCode P Γ call n f m (cAt [1,1,1,0,1,0,0] B13) s H = seqNext P Γ call n f m (cAt [1,1,1,0,1,0,0,1] B13) (evCode P Γ call n f m (cAt [1,1,1,0,1,0,0,0] B13) s H) := qS
noncomputable def r13_63 : {l : List Oper // opsOf (cAt [1,1,1,0,1,0,0,0] B13) = l} := by
  apply Subtype.mk
  dsimp [B13, Try.f13]
@[simp] theorem n13_63 : evCode P Γ call n f m (cAt [1,1,1,0,1,0,0,0] B13) s H = regNext (evOpsGo P Γ call r13_63.1 r13_63.1 s H) := qR r13_63.2
attribute [simp] r13_63
@[simp] theorem n13_64 : evCode P Γ call n f m (cAt [1,1,1,0,1,0,0,1] B13) s H = seqNext P Γ call n f m (cAt [1,1,1,0,1,0,0,1,1] B13) (evCode P Γ call n f m (cAt [1,1,1,0,1,0,0,1,0] B13) s H) := qS
@[simp] theorem n13_65 : evCode P Γ call n f m (cAt [1,1,1,0,1,0,0,1,0] B13) s H = condW P Γ call n f m (cAt [1,1,1,0,1,0,0,1,0,0] B13) (cAt [1,1,1,0,1,0,0,1,0,1] B13) s H (evOperand Γ s (.tmp 56)) := qC
@[simp] theorem n13_66 : evCode P Γ call n f m (cAt [1,1,1,0,1,0,0,1,0,0] B13) s H = some (.normal, s, H) := qK
@[simp] theorem n13_67 : evCode P Γ call n f m (cAt [1,1,1,0,1,0,0,1,0,1] B13) s H = some (.exit 4, s, H) := qE
@[simp] theorem n13_68 : evCode P Γ call n f m (cAt [1,1,1,0,1,0,0,1,1] B13) s H = seqNext P Γ call n f m (cAt [1,1,1,0,1,0,0,1,1,1] B13) (evCode P Γ call n f m (cAt [1,1,1,0,1,0,0,1,1,0] B13) s H) := qS
@[simp] theorem n13_69 : evCode P Γ call n f m (cAt [1,1,1,0,1,0,0,1,1,0] B13) s H = blockNext 5 (evCode P Γ call n f m (cAt [1,1,1,0,1,0,0,1,1,0,0] B13) s H) := qB
@[simp] theorem n13_70 : evCode P Γ call n f m (cAt [1,1,1,0,1,0,0,1,1,0,0] B13) s H = seqNext P Γ call n f m (cAt [1,1,1,0,1,0,0,1,1,0,0,1] B13) (evCode P Γ call n f m (cAt [1,1,1,0,1,0,0,1,1,0,0,0] B13) s H) := qS
noncomputable def r13_71 : {l : List Oper // opsOf (cAt [1,1,1,0,1,0,0,1,1,0,0,0] B13) = l} := by
  apply Subtype.mk
  dsimp [B13, Try.f13]
@[simp] theorem n13_71 : evCode P Γ call n f m (cAt [1,1,1,0,1,0,0,1,1,0,0,0] B13) s H = regNext (evOpsGo P Γ call r13_71.1 r13_71.1 s H) := qR r13_71.2
attribute [simp] r13_71
@[simp] theorem n13_72 : evCode P Γ call n f m (cAt [1,1,1,0,1,0,0,1,1,0,0,1] B13) s H = seqNext P Γ call n f m (cAt [1,1,1,0,1,0,0,1,1,0,0,1,1] B13) (evCode P Γ call n f m (cAt [1,1,1,0,1,0,0,1,1,0,0,1,0] B13) s H) := qS
@[simp] theorem n13_73 : evCode P Γ call n f m (cAt [1,1,1,0,1,0,0,1,1,0,0,1,0] B13) s H = seqNext P Γ call n f m (cAt [1,1,1,0,1,0,0,1,1,0,0,1,0,1] B13) (evCode P Γ call n f m (cAt [1,1,1,0,1,0,0,1,1,0,0,1,0,0] B13) s H) := qS
noncomputable def r13_74 : {l : List Oper // opsOf (cAt [1,1,1,0,1,0,0,1,1,0,0,1,0,0] B13) = l} := by
  apply Subtype.mk
  dsimp [B13, Try.f13]
@[simp] theorem n13_74 : evCode P Γ call n f m (cAt [1,1,1,0,1,0,0,1,1,0,0,1,0,0] B13) s H = regNext (evOpsGo P Γ call r13_74.1 r13_74.1 s H) := qR r13_74.2
attribute [simp] r13_74
@[simp] theorem n13_75 : evCode P Γ call n f m (cAt [1,1,1,0,1,0,0,1,1,0,0,1,0,1] B13) s H = condW P Γ call n f m (cAt [1,1,1,0,1,0,0,1,1,0,0,1,0,1,0] B13) (cAt [1,1,1,0,1,0,0,1,1,0,0,1,0,1,1] B13) s H (evOperand Γ s (.tmp 80)) := qC
@[simp] theorem n13_76 : evCode P Γ call n f m (cAt [1,1,1,0,1,0,0,1,1,0,0,1,0,1,0] B13) s H = seqNext P Γ call n f m (cAt [1,1,1,0,1,0,0,1,1,0,0,1,0,1,0,1] B13) (evCode P Γ call n f m (cAt [1,1,1,0,1,0,0,1,1,0,0,1,0,1,0,0] B13) s H) := qS
noncomputable def r13_77 : {l : List Oper // opsOf (cAt [1,1,1,0,1,0,0,1,1,0,0,1,0,1,0,0] B13) = l} := by
  apply Subtype.mk
  dsimp [B13, Try.f13]
@[simp] theorem n13_77 : evCode P Γ call n f m (cAt [1,1,1,0,1,0,0,1,1,0,0,1,0,1,0,0] B13) s H = regNext (evOpsGo P Γ call r13_77.1 r13_77.1 s H) := qR r13_77.2
attribute [simp] r13_77
@[simp] theorem n13_78 : evCode P Γ call n f m (cAt [1,1,1,0,1,0,0,1,1,0,0,1,0,1,0,1] B13) s H = some (.ret, s, H) := qT
@[simp] theorem n13_79 : evCode P Γ call n f m (cAt [1,1,1,0,1,0,0,1,1,0,0,1,0,1,1] B13) s H = some (.normal, s, H) := qK
@[simp] theorem n13_80 : evCode P Γ call n f m (cAt [1,1,1,0,1,0,0,1,1,0,0,1,1] B13) s H = seqNext P Γ call n f m (cAt [1,1,1,0,1,0,0,1,1,0,0,1,1,1] B13) (evCode P Γ call n f m (cAt [1,1,1,0,1,0,0,1,1,0,0,1,1,0] B13) s H) := qS
@[simp] theorem n13_81 : evCode P Γ call n f m (cAt [1,1,1,0,1,0,0,1,1,0,0,1,1,0] B13) s H = seqNext P Γ call n f m (cAt [1,1,1,0,1,0,0,1,1,0,0,1,1,0,1] B13) (evCode P Γ call n f m (cAt [1,1,1,0,1,0,0,1,1,0,0,1,1,0,0] B13) s H) := qS
noncomputable def r13_82 : {l : List Oper // opsOf (cAt [1,1,1,0,1,0,0,1,1,0,0,1,1,0,0] B13) = l} := by
  apply Subtype.mk
  dsimp [B13, Try.f13]
@[simp] theorem n13_82 : evCode P Γ call n f m (cAt [1,1,1,0,1,0,0,1,1,0,0,1,1,0,0] B13) s H = regNext (evOpsGo P Γ call r13_82.1 r13_82.1 s H) := qR r13_82.2
attribute [simp] r13_82
@[simp] theorem n13_83 : evCode P Γ call n f m (cAt [1,1,1,0,1,0,0,1,1,0,0,1,1,0,1] B13) s H = condW P Γ call n f m (cAt [1,1,1,0,1,0,0,1,1,0,0,1,1,0,1,0] B13) (cAt [1,1,1,0,1,0,0,1,1,0,0,1,1,0,1,1] B13) s H (evOperand Γ s (.tmp 85)) := qC
@[simp] theorem n13_84 : evCode P Γ call n f m (cAt [1,1,1,0,1,0,0,1,1,0,0,1,1,0,1,0] B13) s H = seqNext P Γ call n f m (cAt [1,1,1,0,1,0,0,1,1,0,0,1,1,0,1,0,1] B13) (evCode P Γ call n f m (cAt [1,1,1,0,1,0,0,1,1,0,0,1,1,0,1,0,0] B13) s H) := qS
noncomputable def r13_85 : {l : List Oper // opsOf (cAt [1,1,1,0,1,0,0,1,1,0,0,1,1,0,1,0,0] B13) = l} := by
  apply Subtype.mk
  dsimp [B13, Try.f13]
@[simp] theorem n13_85 : evCode P Γ call n f m (cAt [1,1,1,0,1,0,0,1,1,0,0,1,1,0,1,0,0] B13) s H = regNext (evOpsGo P Γ call r13_85.1 r13_85.1 s H) := qR r13_85.2
attribute [simp] r13_85
@[simp] theorem n13_86 : evCode P Γ call n f m (cAt [1,1,1,0,1,0,0,1,1,0,0,1,1,0,1,0,1] B13) s H = some (.ret, s, H) := qT
@[simp] theorem n13_87 : evCode P Γ call n f m (cAt [1,1,1,0,1,0,0,1,1,0,0,1,1,0,1,1] B13) s H = some (.normal, s, H) := qK
@[simp] theorem n13_88 : evCode P Γ call n f m (cAt [1,1,1,0,1,0,0,1,1,0,0,1,1,1] B13) s H = seqNext P Γ call n f m (cAt [1,1,1,0,1,0,0,1,1,0,0,1,1,1,1] B13) (evCode P Γ call n f m (cAt [1,1,1,0,1,0,0,1,1,0,0,1,1,1,0] B13) s H) := qS
noncomputable def r13_89 : {l : List Oper // opsOf (cAt [1,1,1,0,1,0,0,1,1,0,0,1,1,1,0] B13) = l} := by
  apply Subtype.mk
  dsimp [B13, Try.f13]
@[simp] theorem n13_89 : evCode P Γ call n f m (cAt [1,1,1,0,1,0,0,1,1,0,0,1,1,1,0] B13) s H = regNext (evOpsGo P Γ call r13_89.1 r13_89.1 s H) := qR r13_89.2
attribute [simp] r13_89
@[simp] theorem n13_90 : evCode P Γ call n f m (cAt [1,1,1,0,1,0,0,1,1,0,0,1,1,1,1] B13) s H = condW P Γ call n f m (cAt [1,1,1,0,1,0,0,1,1,0,0,1,1,1,1,0] B13) (cAt [1,1,1,0,1,0,0,1,1,0,0,1,1,1,1,1] B13) s H (evOperand Γ s (.tmp 100)) := qC
@[simp] theorem n13_91 : evCode P Γ call n f m (cAt [1,1,1,0,1,0,0,1,1,0,0,1,1,1,1,0] B13) s H = seqNext P Γ call n f m (cAt [1,1,1,0,1,0,0,1,1,0,0,1,1,1,1,0,1] B13) (evCode P Γ call n f m (cAt [1,1,1,0,1,0,0,1,1,0,0,1,1,1,1,0,0] B13) s H) := qS
noncomputable def r13_92 : {l : List Oper // opsOf (cAt [1,1,1,0,1,0,0,1,1,0,0,1,1,1,1,0,0] B13) = l} := by
  apply Subtype.mk
  dsimp [B13, Try.f13]
@[simp] theorem n13_92 : evCode P Γ call n f m (cAt [1,1,1,0,1,0,0,1,1,0,0,1,1,1,1,0,0] B13) s H = regNext (evOpsGo P Γ call r13_92.1 r13_92.1 s H) := qR r13_92.2
attribute [simp] r13_92
@[simp] theorem n13_93 : evCode P Γ call n f m (cAt [1,1,1,0,1,0,0,1,1,0,0,1,1,1,1,0,1] B13) s H = some (.ret, s, H) := qT
@[simp] theorem n13_94 : evCode P Γ call n f m (cAt [1,1,1,0,1,0,0,1,1,0,0,1,1,1,1,1] B13) s H = some (.normal, s, H) := qK
noncomputable def r13_95 : {l : List Oper // opsOf (cAt [1,1,1,0,1,0,0,1,1,1] B13) = l} := by
  apply Subtype.mk
  dsimp [B13, Try.f13]
@[simp] theorem n13_95 : evCode P Γ call n f m (cAt [1,1,1,0,1,0,0,1,1,1] B13) s H = regNext (evOpsGo P Γ call r13_95.1 r13_95.1 s H) := qR r13_95.2
attribute [simp] r13_95
@[simp] theorem n13_96 : evCode P Γ call n f m (cAt [1,1,1,1] B13) s H = seqNext P Γ call n f m (cAt [1,1,1,1,1] B13) (evCode P Γ call n f m (cAt [1,1,1,1,0] B13) s H) := qS
noncomputable def r13_97 : {l : List Oper // opsOf (cAt [1,1,1,1,0] B13) = l} := by
  apply Subtype.mk
  dsimp [B13, Try.f13]
@[simp] theorem n13_97 : evCode P Γ call n f m (cAt [1,1,1,1,0] B13) s H = regNext (evOpsGo P Γ call r13_97.1 r13_97.1 s H) := qR r13_97.2
attribute [simp] r13_97
@[simp] theorem n13_98 : evCode P Γ call n f m (cAt [1,1,1,1,1] B13) s H = some (.ret, s, H) := qT
theorem b13 {k : Nat} (ho : ∀ args H, Γ.orc 13 args H = none) (args : List V) (H : Heap) (ha : args.length ≤ 102) : evF Try.prog Γ (k + 1) 13 args H = bodyEnd Try.prog [.tmp 4] H.length (evCode Try.prog Γ (evF Try.prog Γ k) k 13 H.length (cAt [] B13) (mkL 102 V.undef (enumV 0 args)) H) := body_at Try.func13 (by decide) rfl ho rfl rfl args H ha
end
end Go.Ev.Try
