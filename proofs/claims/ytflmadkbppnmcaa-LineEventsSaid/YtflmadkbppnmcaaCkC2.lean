/-
  CODE BY NAMES, printed by wip/tools/codes.py (own work).
-/
import Derived.Test.YtflmadkbppnmcaaCkC1
set_option maxRecDepth 100000
set_option linter.unusedVariables false
namespace Go.Ev.Try
open Go Go.Ev Go.Proofs
section
variable {P : Program} {Γ : Env} {call : CallF} {n f m : Nat} (s : List V) (H : Heap)
attribute [local simp] opsOf cAt kids bodyOf

noncomputable def B3 : Code := bodyOf Try.f3
@[simp] theorem n3_1 : evCode P Γ call n f m (cAt [] B3) s H = seqNext P Γ call n f m (cAt [1] B3) (evCode P Γ call n f m (cAt [0] B3) s H) := qS
noncomputable def r3_2 : {l : List Oper // opsOf (cAt [0] B3) = l} := by
  apply Subtype.mk
  dsimp [B3, Try.f3]
@[simp] theorem n3_2 : evCode P Γ call n f m (cAt [0] B3) s H = regNext (evOpsGo P Γ call r3_2.1 r3_2.1 s H) := qR r3_2.2
attribute [simp] r3_2
@[simp] theorem n3_3 : evCode P Γ call n f m (cAt [1] B3) s H = seqNext P Γ call n f m (cAt [1,1] B3) (evCode P Γ call n f m (cAt [1,0] B3) s H) := qS
noncomputable def r3_4 : {l : List Oper // opsOf (cAt [1,0] B3) = l} := by
  apply Subtype.mk
  dsimp [B3, Try.f3]
@[simp] theorem n3_4 : evCode P Γ call n f m (cAt [1,0] B3) s H = regNext (evOpsGo P Γ call r3_4.1 r3_4.1 s H) := qR r3_4.2
attribute [simp] r3_4
@[simp] theorem n3_5 : evCode P Γ call n f m (cAt [1,1] B3) s H = some (.ret, s, H) := qT
theorem b3 {k : Nat} (ho : ∀ args H, Γ.orc 3 args H = none) (args : List V) (H : Heap) (ha : args.length ≤ 22) : evF Try.prog Γ (k + 1) 3 args H = bodyEnd Try.prog [.tmp 4] H.length (evCode Try.prog Γ (evF Try.prog Γ k) k 3 H.length (cAt [] B3) (mkL 22 V.undef (enumV 0 args)) H) := body_at Try.func3 (by decide) rfl ho rfl rfl args H ha
noncomputable def B8 : Code := bodyOf Try.f8
@[simp] theorem n8_1 : evCode P Γ call n f m (cAt [] B8) s H = seqNext P Γ call n f m (cAt [1] B8) (evCode P Γ call n f m (cAt [0] B8) s H) := qS
noncomputable def r8_2 : {l : List Oper // opsOf (cAt [0] B8) = l} := by
  apply Subtype.mk
  dsimp [B8, Try.f8]
@[simp] theorem n8_2 : evCode P Γ call n f m (cAt [0] B8) s H = regNext (evOpsGo P Γ call r8_2.1 r8_2.1 s H) := qR r8_2.2
attribute [simp] r8_2
@[simp] theorem n8_3 : evCode P Γ call n f m (cAt [1] B8) s H = seqNext P Γ call n f m (cAt [1,1] B8) (evCode P Γ call n f m (cAt [1,0] B8) s H) := qS
noncomputable def r8_4 : {l : List Oper // opsOf (cAt [1,0] B8) = l} := by
  apply Subtype.mk
  dsimp [B8, Try.f8]
@[simp] theorem n8_4 : evCode P Γ call n f m (cAt [1,0] B8) s H = regNext (evOpsGo P Γ call r8_4.1 r8_4.1 s H) := qR r8_4.2
attribute [simp] r8_4
@[simp] theorem n8_5 : evCode P Γ call n f m (cAt [1,1] B8) s H = seqNext P Γ call n f m (cAt [1,1,1] B8) (evCode P Γ call n f m (cAt [1,1,0] B8) s H) := qS
noncomputable def r8_6 : {l : List Oper // opsOf (cAt [1,1,0] B8) = l} := by
  apply Subtype.mk
  dsimp [B8, Try.f8]
@[simp] theorem n8_6 : evCode P Γ call n f m (cAt [1,1,0] B8) s H = regNext (evOpsGo P Γ call r8_6.1 r8_6.1 s H) := qR r8_6.2
attribute [simp] r8_6
@[simp] theorem n8_7 : evCode P Γ call n f m (cAt [1,1,1] B8) s H = some (.ret, s, H) := qT
theorem b8 {k : Nat} (ho : ∀ args H, Γ.orc 8 args H = none) (args : List V) (H : Heap) (ha : args.length ≤ 25) : evF Try.prog Γ (k + 1) 8 args H = bodyEnd Try.prog [.tmp 0] H.length (evCode Try.prog Γ (evF Try.prog Γ k) k 8 H.length (cAt [] B8) (mkL 25 V.undef (enumV 0 args)) H) := body_at Try.func8 (by decide) rfl ho rfl rfl args H ha
noncomputable def B18 : Code := bodyOf Try.f18
@[simp] theorem n18_1 : evCode P Γ call n f m (cAt [] B18) s H = seqNext P Γ call n f m (cAt [1] B18) (evCode P Γ call n f m (cAt [0] B18) s H) := qS
noncomputable def r18_2 : {l : List Oper // opsOf (cAt [0] B18) = l} := by
  apply Subtype.mk
  dsimp [B18, Try.f18]
@[simp] theorem n18_2 : evCode P Γ call n f m (cAt [0] B18) s H = regNext (evOpsGo P Γ call r18_2.1 r18_2.1 s H) := qR r18_2.2
attribute [simp] r18_2
@[simp] theorem n18_3 : evCode P Γ call n f m (cAt [1] B18) s H = seqNext P Γ call n f m (cAt [1,1] B18) (evCode P Γ call n f m (cAt [1,0] B18) s H) := qS
@[simp] theorem n18_4 : evCode P Γ call n f m (cAt [1,0] B18) s H = seqNext P Γ call n f m (cAt [1,0,1] B18) (evCode P Γ call n f m (cAt [1,0,0] B18) s H) := qS
noncomputable def r18_5 : {l : List Oper // opsOf (cAt [1,0,0] B18) = l} := by
  apply Subtype.mk
  dsimp [B18, Try.f18]
@[simp] theorem n18_5 : evCode P Γ call n f m (cAt [1,0,0] B18) s H = regNext (evOpsGo P Γ call r18_5.1 r18_5.1 s H) := qR r18_5.2
attribute [simp] r18_5
@[simp] theorem n18_6 : evCode P Γ call n f m (cAt [1,0,1] B18) s H = seqNext P Γ call n f m (cAt [1,0,1,1] B18) (evCode P Γ call n f m (cAt [1,0,1,0] B18) s H) := qS
noncomputable def r18_7 : {l : List Oper // opsOf (cAt [1,0,1,0] B18) = l} := by
  apply Subtype.mk
  dsimp [B18, Try.f18]
@[simp] theorem n18_7 : evCode P Γ call n f m (cAt [1,0,1,0] B18) s H = regNext (evOpsGo P Γ call r18_7.1 r18_7.1 s H) := qR r18_7.2
attribute [simp] r18_7
@[simp] theorem n18_8 : evCode P Γ call n f m (cAt [1,0,1,1] B18) s H = condW P Γ call n f m (cAt [1,0,1,1,0] B18) (cAt [1,0,1,1,1] B18) s H (evOperand Γ s (.tmp 13)) := qC
@[simp] theorem n18_9 : evCode P Γ call n f m (cAt [1,0,1,1,0] B18) s H = seqNext P Γ call n f m (cAt [1,0,1,1,0,1] B18) (evCode P Γ call n f m (cAt [1,0,1,1,0,0] B18) s H) := qS
noncomputable def r18_10 : {l : List Oper // opsOf (cAt [1,0,1,1,0,0] B18) = l} := by
  apply Subtype.mk
  dsimp [B18, Try.f18]
@[simp] theorem n18_10 : evCode P Γ call n f m (cAt [1,0,1,1,0,0] B18) s H = regNext (evOpsGo P Γ call r18_10.1 r18_10.1 s H) := qR r18_10.2
attribute [simp] r18_10
@[simp] theorem n18_11 : evCode P Γ call n f m (cAt [1,0,1,1,0,1] B18) s H = some (.ret, s, H) := qT
@[simp] theorem n18_12 : evCode P Γ call n f m (cAt [1,0,1,1,1] B18) s H = some (.normal, s, H) := qK
@[simp] theorem n18_13 : evCode P Γ call n f m (cAt [1,1] B18) s H = seqNext P Γ call n f m (cAt [1,1,1] B18) (evCode P Γ call n f m (cAt [1,1,0] B18) s H) := qS
noncomputable def r18_14 : {l : List Oper // opsOf (cAt [1,1,0] B18) = l} := by
  apply Subtype.mk
  dsimp [B18, Try.f18]
@[simp] theorem n18_14 : evCode P Γ call n f m (cAt [1,1,0] B18) s H = regNext (evOpsGo P Γ call r18_14.1 r18_14.1 s H) := qR r18_14.2
attribute [simp] r18_14
@[simp] theorem n18_15 : evCode P Γ call n f m (cAt [1,1,1] B18) s H = seqNext P Γ call n f m (cAt [1,1,1,1] B18) (evCode P Γ call n f m (cAt [1,1,1,0] B18) s H) := qS
@[simp] theorem n18_16 : evCode P Γ call n f m (cAt [1,1,1,0] B18) s H = seqNext P Γ call n f m (cAt [1,1,1,0,1] B18) (evCode P Γ call n f m (cAt [1,1,1,0,0] B18) s H) := qS
noncomputable def r18_17 : {l : List Oper // opsOf (cAt [1,1,1,0,0] B18) = l} := by
  apply Subtype.mk
  dsimp [B18, Try.f18]
@[simp] theorem n18_17 : evCode P Γ call n f m (cAt [1,1,1,0,0] B18) s H = regNext (evOpsGo P Γ call r18_17.1 r18_17.1 s H) := qR r18_17.2
attribute [simp] r18_17
@[simp] theorem n18_18 : evCode P Γ call n f m (cAt [1,1,1,0,1] B18) s H = condW P Γ call n f m (cAt [1,1,1,0,1,0] B18) (cAt [1,1,1,0,1,1] B18) s H (evOperand Γ s (.tmp 22)) := qC
@[simp] theorem n18_19 : evCode P Γ call n f m (cAt [1,1,1,0,1,0] B18) s H = seqNext P Γ call n f m (cAt [1,1,1,0,1,0,1] B18) (evCode P Γ call n f m (cAt [1,1,1,0,1,0,0] B18) s H) := qS
noncomputable def r18_20 : {l : List Oper // opsOf (cAt [1,1,1,0,1,0,0] B18) = l} := by
  apply Subtype.mk
  dsimp [B18, Try.f18]
@[simp] theorem n18_20 : evCode P Γ call n f m (cAt [1,1,1,0,1,0,0] B18) s H = regNext (evOpsGo P Γ call r18_20.1 r18_20.1 s H) := qR r18_20.2
attribute [simp] r18_20
@[simp] theorem n18_21 : evCode P Γ call n f m (cAt [1,1,1,0,1,0,1] B18) s H = some (.ret, s, H) := qT
@[simp] theorem n18_22 : evCode P Γ call n f m (cAt [1,1,1,0,1,1] B18) s H = some (.normal, s, H) := qK
@[simp] theorem n18_23 : evCode P Γ call n f m (cAt [1,1,1,1] B18) s H = seqNext P Γ call n f m (cAt [1,1,1,1,1] B18) (evCode P Γ call n f m (cAt [1,1,1,1,0] B18) s H) := qS
noncomputable def r18_24 : {l : List Oper // opsOf (cAt [1,1,1,1,0] B18) = l} := by
  apply Subtype.mk
  dsimp [B18, Try.f18]
@[simp] theorem n18_24 : evCode P Γ call n f m (cAt [1,1,1,1,0] B18) s H = regNext (evOpsGo P Γ call r18_24.1 r18_24.1 s H) := qR r18_24.2
attribute [simp] r18_24
@[simp] theorem n18_25 : evCode P Γ call n f m (cAt [1,1,1,1,1] B18) s H = some (.ret, s, H) := qT
theorem b18 {k : Nat} (ho : ∀ args H, Γ.orc 18 args H = none) (args : List V) (H : Heap) (ha : args.length ≤ 31) : evF Try.prog Γ (k + 1) 18 args H = bodyEnd Try.prog [.tmp 4, .tmp 5] H.length (evCode Try.prog Γ (evF Try.prog Γ k) k 18 H.length (cAt [] B18) (mkL 31 V.undef (enumV 0 args)) H) := body_at Try.func18 (by decide) rfl ho rfl rfl args H ha
noncomputable def B36 : Code := bodyOf Try.f36
@[simp] theorem n36_1 : evCode P Γ call n f m (cAt [] B36) s H = seqNext P Γ call n f m (cAt [1] B36) (evCode P Γ call n f m (cAt [0] B36) s H) := qS
noncomputable def r36_2 : {l : List Oper // opsOf (cAt [0] B36) = l} := by
  apply Subtype.mk
  dsimp [B36, Try.f36]
@[simp] theorem n36_2 : evCode P Γ call n f m (cAt [0] B36) s H = regNext (evOpsGo P Γ call r36_2.1 r36_2.1 s H) := qR r36_2.2
attribute [simp] r36_2
@[simp] theorem n36_3 : evCode P Γ call n f m (cAt [1] B36) s H = seqNext P Γ call n f m (cAt [1,1] B36) (evCode P Γ call n f m (cAt [1,0] B36) s H) := qS
noncomputable def r36_4 : {l : List Oper // opsOf (cAt [1,0] B36) = l} := by
  apply Subtype.mk
  dsimp [B36, Try.f36]
@[simp] theorem n36_4 : evCode P Γ call n f m (cAt [1,0] B36) s H = regNext (evOpsGo P Γ call r36_4.1 r36_4.1 s H) := qR r36_4.2
attribute [simp] r36_4
@[simp] theorem n36_5 : evCode P Γ call n f m (cAt [1,1] B36) s H = seqNext P Γ call n f m (cAt [1,1,1] B36) (evCode P Γ call n f m (cAt [1,1,0] B36) s H) := qS
noncomputable def r36_6 : {l : List Oper // opsOf (cAt [1,1,0] B36) = l} := by
  apply Subtype.mk
  dsimp [B36, Try.f36]
@[simp] theorem n36_6 : evCode P Γ call n f m (cAt [1,1,0] B36) s H = regNext (evOpsGo P Γ call r36_6.1 r36_6.1 s H) := qR r36_6.2
attribute [simp] r36_6
@[simp] theorem n36_7 : evCode P Γ call n f m (cAt [1,1,1] B36) s H = seqNext P Γ call n f m (cAt [1,1,1,1] B36) (evCode P Γ call n f m (cAt [1,1,1,0] B36) s H) := qS
noncomputable def r36_8 : {l : List Oper // opsOf (cAt [1,1,1,0] B36) = l} := by
  apply Subtype.mk
  dsimp [B36, Try.f36]
@[simp] theorem n36_8 : evCode P Γ call n f m (cAt [1,1,1,0] B36) s H = regNext (evOpsGo P Γ call r36_8.1 r36_8.1 s H) := qR r36_8.2
attribute [simp] r36_8
@[simp] theorem n36_9 : evCode P Γ call n f m (cAt [1,1,1,1] B36) s H = some (.ret, s, H) := qT
theorem b36 {k : Nat} (ho : ∀ args H, Γ.orc 36 args H = none) (args : List V) (H : Heap) (ha : args.length ≤ 15) : evF Try.prog Γ (k + 1) 36 args H = bodyEnd Try.prog [.tmp 4, .tmp 5] H.length (evCode Try.prog Γ (evF Try.prog Γ k) k 36 H.length (cAt [] B36) (mkL 15 V.undef (enumV 0 args)) H) := body_at Try.func36 (by decide) rfl ho rfl rfl args H ha
noncomputable def B39 : Code := bodyOf Try.f39
@[simp] theorem n39_1 : evCode P Γ call n f m (cAt [] B39) s H = seqNext P Γ call n f m (cAt [1] B39) (evCode P Γ call n f m (cAt [0] B39) s H) := qS
noncomputable def r39_2 : {l : List Oper // opsOf (cAt [0] B39) = l} := by
  apply Subtype.mk
  dsimp [B39, Try.f39]
@[simp] theorem n39_2 : evCode P Γ call n f m (cAt [0] B39) s H = regNext (evOpsGo P Γ call r39_2.1 r39_2.1 s H) := qR r39_2.2
attribute [simp] r39_2
@[simp] theorem n39_3 : evCode P Γ call n f m (cAt [1] B39) s H = seqNext P Γ call n f m (cAt [1,1] B39) (evCode P Γ call n f m (cAt [1,0] B39) s H) := qS
noncomputable def r39_4 : {l : List Oper // opsOf (cAt [1,0] B39) = l} := by
  apply Subtype.mk
  dsimp [B39, Try.f39]
@[simp] theorem n39_4 : evCode P Γ call n f m (cAt [1,0] B39) s H = regNext (evOpsGo P Γ call r39_4.1 r39_4.1 s H) := qR r39_4.2
attribute [simp] r39_4
@[simp] theorem n39_5 : evCode P Γ call n f m (cAt [1,1] B39) s H = seqNext P Γ call n f m (cAt [1,1,1] B39) (evCode P Γ call n f m (cAt [1,1,0] B39) s H) := qS
@[simp] theorem n39_6 : evCode P Γ call n f m (cAt [1,1,0] B39) s H = seqNext P Γ call n f m (cAt [1,1,0,1] B39) (evCode P Γ call n f m (cAt [1,1,0,0] B39) s H) := qS
noncomputable def r39_7 : {l : List Oper // opsOf (cAt [1,1,0,0] B39) = l} := by
  apply Subtype.mk
  dsimp [B39, Try.f39]
@[simp] theorem n39_7 : evCode P Γ call n f m (cAt [1,1,0,0] B39) s H = regNext (evOpsGo P Γ call r39_7.1 r39_7.1 s H) := qR r39_7.2
attribute [simp] r39_7
@[simp] theorem n39_8 : evCode P Γ call n f m (cAt [1,1,0,1] B39) s H = blockNext 0 (evCode P Γ call n f m (cAt [1,1,0,1,0] B39) s H) := qB
@[simp] theorem n39_9 : evCode P Γ call n f m (cAt [1,1,0,1,0] B39) s H = evLoopC P Γ call n f m (cAt [1,1,0,1,0,0] B39) n s H := qL
noncomputable abbrev L39_3 : Code := cAt [1,1,0,1,0,0] B39
@[simp] theorem n39_9f : firstRegion (cAt [1,1,0,1,0,0] B39) = 3 := by kernel_rfl
@[simp] theorem n39_10 : evCode P Γ call n f m (cAt [1,1,0,1,0,0] B39) s H = seqNext P Γ call n f m (cAt [1,1,0,1,0,0,1] B39) (evCode P Γ call n f m (cAt [1,1,0,1,0,0,0] B39) s H) := qS
noncomputable def r39_11 : {l : List Oper // opsOf (cAt [1,1,0,1,0,0,0] B39) = l} := by
  apply Subtype.mk
  dsimp [B39, Try.f39]
@[simp] theorem n39_11 : evCode P Γ call n f m (cAt [1,1,0,1,0,0,0] B39) s H = regNext (evOpsGo P Γ call r39_11.1 r39_11.1 s H) := qR r39_11.2
attribute [simp] r39_11
@[simp] theorem n39_12 : evCode P Γ call n f m (cAt [1,1,0,1,0,0,1] B39) s H = seqNext P Γ call n f m (cAt [1,1,0,1,0,0,1,1] B39) (evCode P Γ call n f m (cAt [1,1,0,1,0,0,1,0] B39) s H) := qS
@[simp] theorem n39_13 : evCode P Γ call n f m (cAt [1,1,0,1,0,0,1,0] B39) s H = condW P Γ call n f m (cAt [1,1,0,1,0,0,1,0,0] B39) (cAt [1,1,0,1,0,0,1,0,1] B39) s H (evOperand Γ s (.tmp 11)) := qC
@[simp] theorem n39_14 : evCode P Γ call n f m (cAt [1,1,0,1,0,0,1,0,0] B39) s H = some (.normal, s, H) := qK
@[simp] theorem n39_15 : evCode P Γ call n f m (cAt [1,1,0,1,0,0,1,0,1] B39) s H = some (.exit 0, s, H) := qE
@[simp] theorem n39_16 : evCode P Γ call n f m (cAt [1,1,0,1,0,0,1,1] B39) s H = seqNext P Γ call n f m (cAt [1,1,0,1,0,0,1,1,1] B39) (evCode P Γ call n f m (cAt [1,1,0,1,0,0,1,1,0] B39) s H) := qS
@[simp] theorem n39_17 : evCode P Γ call n f m (cAt [1,1,0,1,0,0,1,1,0] B39) s H = blockNext 1 (evCode P Γ call n f m (cAt [1,1,0,1,0,0,1,1,0,0] B39) s H) := qB
@[simp] theorem n39_18 : evCode P Γ call n f m (cAt [1,1,0,1,0,0,1,1,0,0] B39) s H = seqNext P Γ call n f m (cAt [1,1,0,1,0,0,1,1,0,0,1] B39) (evCode P Γ call n f m (cAt [1,1,0,1,0,0,1,1,0,0,0] B39) s H) := qS
noncomputable def r39_19 : {l : List Oper // opsOf (cAt [1,1,0,1,0,0,1,1,0,0,0] B39) = l} := by
  apply Subtype.mk
  dsimp [B39, Try.f39]
@[simp] theorem n39_19 : evCode P Γ call n f m (cAt [1,1,0,1,0,0,1,1,0,0,0] B39) s H = regNext (evOpsGo P Γ call r39_19.1 r39_19.1 s H) := qR r39_19.2
attribute [simp] r39_19
noncomputable def r39_20 : {l : List Oper // opsOf (cAt [1,1,0,1,0,0,1,1,0,0,1] B39) = l} := by
  apply Subtype.mk
  dsimp [B39, Try.f39]
@[simp] theorem n39_20 : evCode P Γ call n f m (cAt [1,1,0,1,0,0,1,1,0,0,1] B39) s H = regNext (drawR P Γ call r39_20.1 [([1,2,3,4,5,6,7,8,9,10,11,12,13,14,15,16,17,18,19], [14,15,16,17,18,19,20,21,22,23,24,25,26,27,28,29,30,31,32]), ([0,2,3,4,10,11,12,13,14,15,16,17], [13,15,16,17,23,24,25,26,27,28,29,30]), ([0,1,3,10,11,12,13,14,15,16,17], [13,14,16,23,24,25,26,27,28,29,30]), ([0,1,2,10,11,12,13,14,15,16,17], [13,14,15,23,24,25,26,27,28,29,30]), ([0,1,10,11,12,13,14,15,16,17], [13,14,23,24,25,26,27,28,29,30]), ([0,10,11,12,13,14,15,16,17], [13,23,24,25,26,27,28,29,30]), ([0,10,11,12,13,14,15,16,17], [13,23,24,25,26,27,28,29,30]), ([0,10,11,12,13,14,15,16,17], [13,23,24,25,26,27,28,29,30]), ([0,10,11,12,13,14,15,16,17], [13,23,24,25,26,27,28,29,30]), ([0,10,11,12,13,14,15,16,17], [13,23,24,25,26,27,28,29,30]), ([0,1,2,3,4,5,6,7,8,9,13,14,15], [13,14,15,16,17,18,19,20,21,22,26,27,28]), ([0,1,2,3,4,5,6,7,8,9,13,14,15], [13,14,15,16,17,18,19,20,21,22,26,27,28]), ([0,1,2,3,4,5,6,7,8,9,13,14,15], [13,14,15,16,17,18,19,20,21,22,26,27,28]), ([0,1,2,3,4,5,6,7,8,9,10,11,12,14], [13,14,15,16,17,18,19,20,21,22,23,24,25,27]), ([0,1,2,3,4,5,6,7,8,9,10,11,12,13], [13,14,15,16,17,18,19,20,21,22,23,24,25,26]), ([0,1,2,3,4,5,6,7,8,9,10,11,12], [13,14,15,16,17,18,19,20,21,22,23,24,25]), ([0,1,2,3,4,5,6,7,8,9], [13,14,15,16,17,18,19,20,21,22]), ([0,1,2,3,4,5,6,7,8,9], [13,14,15,16,17,18,19,20,21,22]), ([0], [13]), ([0], [13]), ([], []), ([], [])] s H) := qD r39_20.2
attribute [simp] r39_20
noncomputable def r39_21 : {l : List Oper // opsOf (cAt [1,1,0,1,0,0,1,1,1] B39) = l} := by
  apply Subtype.mk
  dsimp [B39, Try.f39]
@[simp] theorem n39_21 : evCode P Γ call n f m (cAt [1,1,0,1,0,0,1,1,1] B39) s H = regNext (evOpsGo P Γ call r39_21.1 r39_21.1 s H) := qR r39_21.2
attribute [simp] r39_21
@[simp] theorem n39_22 : evCode P Γ call n f m (cAt [1,1,1] B39) s H = seqNext P Γ call n f m (cAt [1,1,1,1] B39) (evCode P Γ call n f m (cAt [1,1,1,0] B39) s H) := qS
noncomputable def r39_23 : {l : List Oper // opsOf (cAt [1,1,1,0] B39) = l} := by
  apply Subtype.mk
  dsimp [B39, Try.f39]
@[simp] theorem n39_23 : evCode P Γ call n f m (cAt [1,1,1,0] B39) s H = regNext (evOpsGo P Γ call r39_23.1 r39_23.1 s H) := qR r39_23.2
attribute [simp] r39_23
@[simp] theorem n39_24 : evCode P Γ call n f m (cAt [1,1,1,1] B39) s H = some (.ret, s, H) := qT
theorem b39 {k : Nat} (ho : ∀ args H, Γ.orc 39 args H = none) (args : List V) (H : Heap) (ha : args.length ≤ 36) : evF Try.prog Γ (k + 1) 39 args H = bodyEnd Try.prog [.tmp 6] H.length (evCode Try.prog Γ (evF Try.prog Γ k) k 39 H.length (cAt [] B39) (mkL 36 V.undef (enumV 0 args)) H) := body_at Try.func39 (by decide) rfl ho rfl rfl args H ha
noncomputable def B41 : Code := bodyOf Try.f41
@[simp] theorem n41_1 : evCode P Γ call n f m (cAt [] B41) s H = seqNext P Γ call n f m (cAt [1] B41) (evCode P Γ call n f m (cAt [0] B41) s H) := qS
noncomputable def r41_2 : {l : List Oper // opsOf (cAt [0] B41) = l} := by
  apply Subtype.mk
  dsimp [B41, Try.f41]
@[simp] theorem n41_2 : evCode P Γ call n f m (cAt [0] B41) s H = regNext (evOpsGo P Γ call r41_2.1 r41_2.1 s H) := qR r41_2.2
attribute [simp] r41_2
@[simp] theorem n41_3 : evCode P Γ call n f m (cAt [1] B41) s H = seqNext P Γ call n f m (cAt [1,1] B41) (evCode P Γ call n f m (cAt [1,0] B41) s H) := qS
noncomputable def r41_4 : {l : List Oper // opsOf (cAt [1,0] B41) = l} := by
  apply Subtype.mk
  dsimp [B41, Try.f41]
@[simp] theorem n41_4 : evCode P Γ call n f m (cAt [1,0] B41) s H = regNext (evOpsGo P Γ call r41_4.1 r41_4.1 s H) := qR r41_4.2
attribute [simp] r41_4
@[simp] theorem n41_5 : evCode P Γ call n f m (cAt [1,1] B41) s H = seqNext P Γ call n f m (cAt [1,1,1] B41) (evCode P Γ call n f m (cAt [1,1,0] B41) s H) := qS
noncomputable def r41_6 : {l : List Oper // opsOf (cAt [1,1,0] B41) = l} := by
  apply Subtype.mk
  dsimp [B41, Try.f41]
@[simp] theorem n41_6 : evCode P Γ call n f m (cAt [1,1,0] B41) s H = regNext (evOpsGo P Γ call r41_6.1 r41_6.1 s H) := qR r41_6.2
attribute [simp] r41_6
@[simp] theorem n41_7 : evCode P Γ call n f m (cAt [1,1,1] B41) s H = seqNext P Γ call n f m (cAt [1,1,1,1] B41) (evCode P Γ call n f m (cAt [1,1,1,0] B41) s H) := qS
@[simp] theorem n41_8 : evCode P Γ call n f m (cAt [1,1,1,0] B41) s H = blockNext 0 (evCode P Γ call n f m (cAt [1,1,1,0,0] B41) s H) := qB
@[simp] theorem n41_9 : evCode P Γ call n f m (cAt [1,1,1,0,0] B41) s H = evLoopC P Γ call n f m (cAt [1,1,1,0,0,0] B41) n s H := qL
noncomputable abbrev L41_3 : Code := cAt [1,1,1,0,0,0] B41
@[simp] theorem n41_9f : firstRegion (cAt [1,1,1,0,0,0] B41) = 3 := by kernel_rfl
@[simp] theorem n41_10 : evCode P Γ call n f m (cAt [1,1,1,0,0,0] B41) s H = seqNext P Γ call n f m (cAt [1,1,1,0,0,0,1] B41) (evCode P Γ call n f m (cAt [1,1,1,0,0,0,0] B41) s H) := qS
@[simp] theorem n41_11 : evCode P Γ call n f m (cAt [1,1,1,0,0,0,0] B41) s H = seqNext P Γ call n f m (cAt [1,1,1,0,0,0,0,1] B41) (evCode P Γ call n f m (cAt [1,1,1,0,0,0,0,0] B41) s H) := qS
noncomputable def r41_12 : {l : List Oper // opsOf (cAt [1,1,1,0,0,0,0,0] B41) = l} := by
  apply Subtype.mk
  dsimp [B41, Try.f41]
@[simp] theorem n41_12 : evCode P Γ call n f m (cAt [1,1,1,0,0,0,0,0] B41) s H = regNext (evOpsGo P Γ call r41_12.1 r41_12.1 s H) := qR r41_12.2
attribute [simp] r41_12
@[simp] theorem n41_13 : evCode P Γ call n f m (cAt [1,1,1,0,0,0,0,1] B41) s H = condW P Γ call n f m (cAt [1,1,1,0,0,0,0,1,0] B41) (cAt [1,1,1,0,0,0,0,1,1] B41) s H (evOperand Γ s (.tmp 15)) := qC
@[simp] theorem n41_14 : evCode P Γ call n f m (cAt [1,1,1,0,0,0,0,1,0] B41) s H = some (.normal, s, H) := qK
@[simp] theorem n41_15 : evCode P Γ call n f m (cAt [1,1,1,0,0,0,0,1,1] B41) s H = some (.exit 0, s, H) := qE
@[simp] theorem n41_16 : evCode P Γ call n f m (cAt [1,1,1,0,0,0,1] B41) s H = blockNext 1 (evCode P Γ call n f m (cAt [1,1,1,0,0,0,1,0] B41) s H) := qB
@[simp] theorem n41_17 : evCode P Γ call n f m (cAt [1,1,1,0,0,0,1,0] B41) s H = seqNext P Γ call n f m (cAt [1,1,1,0,0,0,1,0,1] B41) (evCode P Γ call n f m (cAt [1,1,1,0,0,0,1,0,0] B41) s H) := qS
noncomputable def r41_18 : {l : List Oper // opsOf (cAt [1,1,1,0,0,0,1,0,0] B41) = l} := by
  apply Subtype.mk
  dsimp [B41, Try.f41]
@[simp] theorem n41_18 : evCode P Γ call n f m (cAt [1,1,1,0,0,0,1,0,0] B41) s H = regNext (evOpsGo P Γ call r41_18.1 r41_18.1 s H) := qR r41_18.2
attribute [simp] r41_18
@[simp] theorem n41_19 : evCode P Γ call n f m (cAt [1,1,1,0,0,0,1,0,1] B41) s H = seqNext P Γ call n f m (cAt [1,1,1,0,0,0,1,0,1,1] B41) (evCode P Γ call n f m (cAt [1,1,1,0,0,0,1,0,1,0] B41) s H) := qS
noncomputable def r41_20 : {l : List Oper // opsOf (cAt [1,1,1,0,0,0,1,0,1,0] B41) = l} := by
  apply Subtype.mk
  dsimp [B41, Try.f41]
@[simp] theorem n41_20 : evCode P Γ call n f m (cAt [1,1,1,0,0,0,1,0,1,0] B41) s H = regNext (evOpsGo P Γ call r41_20.1 r41_20.1 s H) := qR r41_20.2
attribute [simp] r41_20
@[simp] theorem n41_21 : evCode P Γ call n f m (cAt [1,1,1,0,0,0,1,0,1,1] B41) s H = condW P Γ call n f m (cAt [1,1,1,0,0,0,1,0,1,1,0] B41) (cAt [1,1,1,0,0,0,1,0,1,1,1] B41) s H (evOperand Γ s (.tmp 27)) := qC
noncomputable def r41_22 : {l : List Oper // opsOf (cAt [1,1,1,0,0,0,1,0,1,1,0] B41) = l} := by
  apply Subtype.mk
  dsimp [B41, Try.f41]
@[simp] theorem n41_22 : evCode P Γ call n f m (cAt [1,1,1,0,0,0,1,0,1,1,0] B41) s H = regNext (evOpsGo P Γ call r41_22.1 r41_22.1 s H) := qR r41_22.2
attribute [simp] r41_22
noncomputable def r41_23 : {l : List Oper // opsOf (cAt [1,1,1,0,0,0,1,0,1,1,1] B41) = l} := by
  apply Subtype.mk
  dsimp [B41, Try.f41]
@[simp] theorem n41_23 : evCode P Γ call n f m (cAt [1,1,1,0,0,0,1,0,1,1,1] B41) s H = regNext (evOpsGo P Γ call r41_23.1 r41_23.1 s H) := qR r41_23.2
attribute [simp] r41_23
@[simp] theorem n41_24 : evCode P Γ call n f m (cAt [1,1,1,1] B41) s H = seqNext P Γ call n f m (cAt [1,1,1,1,1] B41) (evCode P Γ call n f m (cAt [1,1,1,1,0] B41) s H) := qS
noncomputable def r41_25 : {l : List Oper // opsOf (cAt [1,1,1,1,0] B41) = l} := by
  apply Subtype.mk
  dsimp [B41, Try.f41]
@[simp] theorem n41_25 : evCode P Γ call n f m (cAt [1,1,1,1,0] B41) s H = regNext (evOpsGo P Γ call r41_25.1 r41_25.1 s H) := qR r41_25.2
attribute [simp] r41_25
@[simp] theorem n41_26 : evCode P Γ call n f m (cAt [1,1,1,1,1] B41) s H = some (.ret, s, H) := qT
theorem b41 {k : Nat} (ho : ∀ args H, Γ.orc 41 args H = none) (args : List V) (H : Heap) (ha : args.length ≤ 54) : evF Try.prog Γ (k + 1) 41 args H = bodyEnd Try.prog [.tmp 4, .tmp 5] H.length (evCode Try.prog Γ (evF Try.prog Γ k) k 41 H.length (cAt [] B41) (mkL 54 V.undef (enumV 0 args)) H) := body_at Try.func41 (by decide) rfl ho rfl rfl args H ha
noncomputable def B53 : Code := bodyOf Try.f53
@[simp] theorem n53_1 : evCode P Γ call n f m (cAt [] B53) s H = seqNext P Γ call n f m (cAt [1] B53) (evCode P Γ call n f m (cAt [0] B53) s H) := qS
noncomputable def r53_2 : {l : List Oper // opsOf (cAt [0] B53) = l} := by
  apply Subtype.mk
  dsimp [B53, Try.f53]
@[simp] theorem n53_2 : evCode P Γ call n f m (cAt [0] B53) s H = regNext (evOpsGo P Γ call r53_2.1 r53_2.1 s H) := qR r53_2.2
attribute [simp] r53_2
@[simp] theorem n53_3 : evCode P Γ call n f m (cAt [1] B53) s H = seqNext P Γ call n f m (cAt [1,1] B53) (evCode P Γ call n f m (cAt [1,0] B53) s H) := qS
noncomputable def r53_4 : {l : List Oper // opsOf (cAt [1,0] B53) = l} := by
  apply Subtype.mk
  dsimp [B53, Try.f53]
@[simp] theorem n53_4 : evCode P Γ call n f m (cAt [1,0] B53) s H = regNext (evOpsGo P Γ call r53_4.1 r53_4.1 s H) := qR r53_4.2
attribute [simp] r53_4
@[simp] theorem n53_5 : evCode P Γ call n f m (cAt [1,1] B53) s H = seqNext P Γ call n f m (cAt [1,1,1] B53) (evCode P Γ call n f m (cAt [1,1,0] B53) s H) := qS
noncomputable def r53_6 : {l : List Oper // opsOf (cAt [1,1,0] B53) = l} := by
  apply Subtype.mk
  dsimp [B53, Try.f53]
@[simp] theorem n53_6 : evCode P Γ call n f m (cAt [1,1,0] B53) s H = regNext (evOpsGo P Γ call r53_6.1 r53_6.1 s H) := qR r53_6.2
attribute [simp] r53_6
@[simp] theorem n53_7 : evCode P Γ call n f m (cAt [1,1,1] B53) s H = seqNext P Γ call n f m (cAt [1,1,1,1] B53) (evCode P Γ call n f m (cAt [1,1,1,0] B53) s H) := qS
noncomputable def r53_8 : {l : List Oper // opsOf (cAt [1,1,1,0] B53) = l} := by
  apply Subtype.mk
  dsimp [B53, Try.f53]
@[simp] theorem n53_8 : evCode P Γ call n f m (cAt [1,1,1,0] B53) s H = regNext (evOpsGo P Γ call r53_8.1 r53_8.1 s H) := qR r53_8.2
attribute [simp] r53_8
@[simp] theorem n53_9 : evCode P Γ call n f m (cAt [1,1,1,1] B53) s H = seqNext P Γ call n f m (cAt [1,1,1,1,1] B53) (evCode P Γ call n f m (cAt [1,1,1,1,0] B53) s H) := qS
@[simp] theorem n53_10 : evCode P Γ call n f m (cAt [1,1,1,1,0] B53) s H = seqNext P Γ call n f m (cAt [1,1,1,1,0,1] B53) (evCode P Γ call n f m (cAt [1,1,1,1,0,0] B53) s H) := qS
noncomputable def r53_11 : {l : List Oper // opsOf (cAt [1,1,1,1,0,0] B53) = l} := by
  apply Subtype.mk
  dsimp [B53, Try.f53]
@[simp] theorem n53_11 : evCode P Γ call n f m (cAt [1,1,1,1,0,0] B53) s H = regNext (evOpsGo P Γ call r53_11.1 r53_11.1 s H) := qR r53_11.2
attribute [simp] r53_11
@[simp] theorem n53_12 : evCode P Γ call n f m (cAt [1,1,1,1,0,1] B53) s H = blockNext 0 (evCode P Γ call n f m (cAt [1,1,1,1,0,1,0] B53) s H) := qB
@[simp] theorem n53_13 : evCode P Γ call n f m (cAt [1,1,1,1,0,1,0] B53) s H = evLoopC P Γ call n f m (cAt [1,1,1,1,0,1,0,0] B53) n s H := qL
noncomputable abbrev L53_5 : Code := cAt [1,1,1,1,0,1,0,0] B53
@[simp] theorem n53_13f : firstRegion (cAt [1,1,1,1,0,1,0,0] B53) = 5 := by kernel_rfl
@[simp] theorem n53_14 : evCode P Γ call n f m (cAt [1,1,1,1,0,1,0,0] B53) s H = seqNext P Γ call n f m (cAt [1,1,1,1,0,1,0,0,1] B53) (evCode P Γ call n f m (cAt [1,1,1,1,0,1,0,0,0] B53) s H) := qS
noncomputable def r53_15 : {l : List Oper // opsOf (cAt [1,1,1,1,0,1,0,0,0] B53) = l} := by
  apply Subtype.mk
  dsimp [B53, Try.f53]
@[simp] theorem n53_15 : evCode P Γ call n f m (cAt [1,1,1,1,0,1,0,0,0] B53) s H = regNext (evOpsGo P Γ call r53_15.1 r53_15.1 s H) := qR r53_15.2
attribute [simp] r53_15
@[simp] theorem n53_16 : evCode P Γ call n f m (cAt [1,1,1,1,0,1,0,0,1] B53) s H = seqNext P Γ call n f m (cAt [1,1,1,1,0,1,0,0,1,1] B53) (evCode P Γ call n f m (cAt [1,1,1,1,0,1,0,0,1,0] B53) s H) := qS
@[simp] theorem n53_17 : evCode P Γ call n f m (cAt [1,1,1,1,0,1,0,0,1,0] B53) s H = condW P Γ call n f m (cAt [1,1,1,1,0,1,0,0,1,0,0] B53) (cAt [1,1,1,1,0,1,0,0,1,0,1] B53) s H (evOperand Γ s (.tmp 31)) := qC
@[simp] theorem n53_18 : evCode P Γ call n f m (cAt [1,1,1,1,0,1,0,0,1,0,0] B53) s H = some (.normal, s, H) := qK
@[simp] theorem n53_19 : evCode P Γ call n f m (cAt [1,1,1,1,0,1,0,0,1,0,1] B53) s H = some (.exit 0, s, H) := qE
@[simp] theorem n53_20 : evCode P Γ call n f m (cAt [1,1,1,1,0,1,0,0,1,1] B53) s H = seqNext P Γ call n f m (cAt [1,1,1,1,0,1,0,0,1,1,1] B53) (evCode P Γ call n f m (cAt [1,1,1,1,0,1,0,0,1,1,0] B53) s H) := qS
@[simp] theorem n53_21 : evCode P Γ call n f m (cAt [1,1,1,1,0,1,0,0,1,1,0] B53) s H = blockNext 1 (evCode P Γ call n f m (cAt [1,1,1,1,0,1,0,0,1,1,0,0] B53) s H) := qB
@[simp] theorem n53_22 : evCode P Γ call n f m (cAt [1,1,1,1,0,1,0,0,1,1,0,0] B53) s H = seqNext P Γ call n f m (cAt [1,1,1,1,0,1,0,0,1,1,0,0,1] B53) (evCode P Γ call n f m (cAt [1,1,1,1,0,1,0,0,1,1,0,0,0] B53) s H) := qS
noncomputable def r53_23 : {l : List Oper // opsOf (cAt [1,1,1,1,0,1,0,0,1,1,0,0,0] B53) = l} := by
  apply Subtype.mk
  dsimp [B53, Try.f53]
@[simp] theorem n53_23 : evCode P Γ call n f m (cAt [1,1,1,1,0,1,0,0,1,1,0,0,0] B53) s H = regNext (evOpsGo P Γ call r53_23.1 r53_23.1 s H) := qR r53_23.2
attribute [simp] r53_23
@[simp] theorem n53_24 : evCode P Γ call n f m (cAt [1,1,1,1,0,1,0,0,1,1,0,0,1] B53) s H = seqNext P Γ call n f m (cAt [1,1,1,1,0,1,0,0,1,1,0,0,1,1] B53) (evCode P Γ call n f m (cAt [1,1,1,1,0,1,0,0,1,1,0,0,1,0] B53) s H) := qS
noncomputable def r53_25 : {l : List Oper // opsOf (cAt [1,1,1,1,0,1,0,0,1,1,0,0,1,0] B53) = l} := by
  apply Subtype.mk
  dsimp [B53, Try.f53]
@[simp] theorem n53_25 : evCode P Γ call n f m (cAt [1,1,1,1,0,1,0,0,1,1,0,0,1,0] B53) s H = regNext (evOpsGo P Γ call r53_25.1 r53_25.1 s H) := qR r53_25.2
attribute [simp] r53_25
@[simp] theorem n53_26 : evCode P Γ call n f m (cAt [1,1,1,1,0,1,0,0,1,1,0,0,1,1] B53) s H = seqNext P Γ call n f m (cAt [1,1,1,1,0,1,0,0,1,1,0,0,1,1,1] B53) (evCode P Γ call n f m (cAt [1,1,1,1,0,1,0,0,1,1,0,0,1,1,0] B53) s H) := qS
@[simp] theorem n53_27 : evCode P Γ call n f m (cAt [1,1,1,1,0,1,0,0,1,1,0,0,1,1,0] B53) s H = seqNext P Γ call n f m (cAt [1,1,1,1,0,1,0,0,1,1,0,0,1,1,0,1] B53) (evCode P Γ call n f m (cAt [1,1,1,1,0,1,0,0,1,1,0,0,1,1,0,0] B53) s H) := qS
noncomputable def r53_28 : {l : List Oper // opsOf (cAt [1,1,1,1,0,1,0,0,1,1,0,0,1,1,0,0] B53) = l} := by
  apply Subtype.mk
  dsimp [B53, Try.f53]
@[simp] theorem n53_28 : evCode P Γ call n f m (cAt [1,1,1,1,0,1,0,0,1,1,0,0,1,1,0,0] B53) s H = regNext (evOpsGo P Γ call r53_28.1 r53_28.1 s H) := qR r53_28.2
attribute [simp] r53_28
@[simp] theorem n53_29 : evCode P Γ call n f m (cAt [1,1,1,1,0,1,0,0,1,1,0,0,1,1,0,1] B53) s H = blockNext 2 (evCode P Γ call n f m (cAt [1,1,1,1,0,1,0,0,1,1,0,0,1,1,0,1,0] B53) s H) := qB
@[simp] theorem n53_30 : evCode P Γ call n f m (cAt [1,1,1,1,0,1,0,0,1,1,0,0,1,1,0,1,0] B53) s H = evLoopC P Γ call n f m (cAt [1,1,1,1,0,1,0,0,1,1,0,0,1,1,0,1,0,0] B53) n s H := qL
noncomputable abbrev L53_9 : Code := cAt [1,1,1,1,0,1,0,0,1,1,0,0,1,1,0,1,0,0] B53
@[simp] theorem n53_30f : firstRegion (cAt [1,1,1,1,0,1,0,0,1,1,0,0,1,1,0,1,0,0] B53) = 9 := by kernel_rfl
@[simp] theorem n53_31 : evCode P Γ call n f m (cAt [1,1,1,1,0,1,0,0,1,1,0,0,1,1,0,1,0,0] B53) s H = seqNext P Γ call n f m (cAt [1,1,1,1,0,1,0,0,1,1,0,0,1,1,0,1,0,0,1] B53) (evCode P Γ call n f m (cAt [1,1,1,1,0,1,0,0,1,1,0,0,1,1,0,1,0,0,0] B53) s H) := qS
noncomputable def r53_32 : {l : List Oper // opsOf (cAt [1,1,1,1,0,1,0,0,1,1,0,0,1,1,0,1,0,0,0] B53) = l} := by
  apply Subtype.mk
  dsimp [B53, Try.f53]
@[simp] theorem n53_32 : evCode P Γ call n f m (cAt [1,1,1,1,0,1,0,0,1,1,0,0,1,1,0,1,0,0,0] B53) s H = regNext (evOpsGo P Γ call r53_32.1 r53_32.1 s H) := qR r53_32.2
attribute [simp] r53_32
@[simp] theorem n53_33 : evCode P Γ call n f m (cAt [1,1,1,1,0,1,0,0,1,1,0,0,1,1,0,1,0,0,1] B53) s H = seqNext P Γ call n f m (cAt [1,1,1,1,0,1,0,0,1,1,0,0,1,1,0,1,0,0,1,1] B53) (evCode P Γ call n f m (cAt [1,1,1,1,0,1,0,0,1,1,0,0,1,1,0,1,0,0,1,0] B53) s H) := qS
@[simp] theorem n53_34 : evCode P Γ call n f m (cAt [1,1,1,1,0,1,0,0,1,1,0,0,1,1,0,1,0,0,1,0] B53) s H = condW P Γ call n f m (cAt [1,1,1,1,0,1,0,0,1,1,0,0,1,1,0,1,0,0,1,0,0] B53) (cAt [1,1,1,1,0,1,0,0,1,1,0,0,1,1,0,1,0,0,1,0,1] B53) s H (evOperand Γ s (.tmp 44)) := qC
@[simp] theorem n53_35 : evCode P Γ call n f m (cAt [1,1,1,1,0,1,0,0,1,1,0,0,1,1,0,1,0,0,1,0,0] B53) s H = some (.normal, s, H) := qK
@[simp] theorem n53_36 : evCode P Γ call n f m (cAt [1,1,1,1,0,1,0,0,1,1,0,0,1,1,0,1,0,0,1,0,1] B53) s H = some (.exit 2, s, H) := qE
@[simp] theorem n53_37 : evCode P Γ call n f m (cAt [1,1,1,1,0,1,0,0,1,1,0,0,1,1,0,1,0,0,1,1] B53) s H = seqNext P Γ call n f m (cAt [1,1,1,1,0,1,0,0,1,1,0,0,1,1,0,1,0,0,1,1,1] B53) (evCode P Γ call n f m (cAt [1,1,1,1,0,1,0,0,1,1,0,0,1,1,0,1,0,0,1,1,0] B53) s H) := qS
@[simp] theorem n53_38 : evCode P Γ call n f m (cAt [1,1,1,1,0,1,0,0,1,1,0,0,1,1,0,1,0,0,1,1,0] B53) s H = blockNext 3 (evCode P Γ call n f m (cAt [1,1,1,1,0,1,0,0,1,1,0,0,1,1,0,1,0,0,1,1,0,0] B53) s H) := qB
@[simp] theorem n53_39 : evCode P Γ call n f m (cAt [1,1,1,1,0,1,0,0,1,1,0,0,1,1,0,1,0,0,1,1,0,0] B53) s H = seqNext P Γ call n f m (cAt [1,1,1,1,0,1,0,0,1,1,0,0,1,1,0,1,0,0,1,1,0,0,1] B53) (evCode P Γ call n f m (cAt [1,1,1,1,0,1,0,0,1,1,0,0,1,1,0,1,0,0,1,1,0,0,0] B53) s H) := qS
noncomputable def r53_40 : {l : List Oper // opsOf (cAt [1,1,1,1,0,1,0,0,1,1,0,0,1,1,0,1,0,0,1,1,0,0,0] B53) = l} := by
  apply Subtype.mk
  dsimp [B53, Try.f53]
@[simp] theorem n53_40 : evCode P Γ call n f m (cAt [1,1,1,1,0,1,0,0,1,1,0,0,1,1,0,1,0,0,1,1,0,0,0] B53) s H = regNext (evOpsGo P Γ call r53_40.1 r53_40.1 s H) := qR r53_40.2
attribute [simp] r53_40
noncomputable def r53_41 : {l : List Oper // opsOf (cAt [1,1,1,1,0,1,0,0,1,1,0,0,1,1,0,1,0,0,1,1,0,0,1] B53) = l} := by
  apply Subtype.mk
  dsimp [B53, Try.f53]
@[simp] theorem n53_41 : evCode P Γ call n f m (cAt [1,1,1,1,0,1,0,0,1,1,0,0,1,1,0,1,0,0,1,1,0,0,1] B53) s H = regNext (evOpsGo P Γ call r53_41.1 r53_41.1 s H) := qR r53_41.2
attribute [simp] r53_41
noncomputable def r53_42 : {l : List Oper // opsOf (cAt [1,1,1,1,0,1,0,0,1,1,0,0,1,1,0,1,0,0,1,1,1] B53) = l} := by
  apply Subtype.mk
  dsimp [B53, Try.f53]
@[simp] theorem n53_42 : evCode P Γ call n f m (cAt [1,1,1,1,0,1,0,0,1,1,0,0,1,1,0,1,0,0,1,1,1] B53) s H = regNext (evOpsGo P Γ call r53_42.1 r53_42.1 s H) := qR r53_42.2
attribute [simp] r53_42
noncomputable def r53_43 : {l : List Oper // opsOf (cAt [1,1,1,1,0,1,0,0,1,1,0,0,1,1,1] B53) = l} := by
  apply Subtype.mk
  dsimp [B53, Try.f53]
@[simp] theorem n53_43 : evCode P Γ call n f m (cAt [1,1,1,1,0,1,0,0,1,1,0,0,1,1,1] B53) s H = regNext (evOpsGo P Γ call r53_43.1 r53_43.1 s H) := qR r53_43.2
attribute [simp] r53_43
noncomputable def r53_44 : {l : List Oper // opsOf (cAt [1,1,1,1,0,1,0,0,1,1,1] B53) = l} := by
  apply Subtype.mk
  dsimp [B53, Try.f53]
@[simp] theorem n53_44 : evCode P Γ call n f m (cAt [1,1,1,1,0,1,0,0,1,1,1] B53) s H = regNext (evOpsGo P Γ call r53_44.1 r53_44.1 s H) := qR r53_44.2
attribute [simp] r53_44
@[simp] theorem n53_45 : evCode P Γ call n f m (cAt [1,1,1,1,1] B53) s H = seqNext P Γ call n f m (cAt [1,1,1,1,1,1] B53) (evCode P Γ call n f m (cAt [1,1,1,1,1,0] B53) s H) := qS
@[simp] theorem n53_46 : evCode P Γ call n f m (cAt [1,1,1,1,1,0] B53) s H = seqNext P Γ call n f m (cAt [1,1,1,1,1,0,1] B53) (evCode P Γ call n f m (cAt [1,1,1,1,1,0,0] B53) s H) := qS
noncomputable def r53_47 : {l : List Oper // opsOf (cAt [1,1,1,1,1,0,0] B53) = l} := by
  apply Subtype.mk
  dsimp [B53, Try.f53]
@[simp] theorem n53_47 : evCode P Γ call n f m (cAt [1,1,1,1,1,0,0] B53) s H = regNext (evOpsGo P Γ call r53_47.1 r53_47.1 s H) := qR r53_47.2
attribute [simp] r53_47
@[simp] theorem n53_48 : evCode P Γ call n f m (cAt [1,1,1,1,1,0,1] B53) s H = blockNext 4 (evCode P Γ call n f m (cAt [1,1,1,1,1,0,1,0] B53) s H) := qB
@[simp] theorem n53_49 : evCode P Γ call n f m (cAt [1,1,1,1,1,0,1,0] B53) s H = evLoopC P Γ call n f m (cAt [1,1,1,1,1,0,1,0,0] B53) n s H := qL
noncomputable abbrev L53_16 : Code := cAt [1,1,1,1,1,0,1,0,0] B53
@[simp] theorem n53_49f : firstRegion (cAt [1,1,1,1,1,0,1,0,0] B53) = 16 := by kernel_rfl
@[simp] theorem n53_50 : evCode P Γ call n f m (cAt [1,1,1,1,1,0,1,0,0] B53) s H = seqNext P Γ call n f m (cAt [1,1,1,1,1,0,1,0,0,1] B53) (evCode P Γ call n f m (cAt [1,1,1,1,1,0,1,0,0,0] B53) s H) := qS
@[simp] theorem n53_51 : evCode P Γ call n f m (cAt [1,1,1,1,1,0,1,0,0,0] B53) s H = seqNext P Γ call n f m (cAt [1,1,1,1,1,0,1,0,0,0,1] B53) (evCode P Γ call n f m (cAt [1,1,1,1,1,0,1,0,0,0,0] B53) s H) := qS
noncomputable def r53_52 : {l : List Oper // opsOf (cAt [1,1,1,1,1,0,1,0,0,0,0] B53) = l} := by
  apply Subtype.mk
  dsimp [B53, Try.f53]
@[simp] theorem n53_52 : evCode P Γ call n f m (cAt [1,1,1,1,1,0,1,0,0,0,0] B53) s H = regNext (evOpsGo P Γ call r53_52.1 r53_52.1 s H) := qR r53_52.2
attribute [simp] r53_52
@[simp] theorem n53_53 : evCode P Γ call n f m (cAt [1,1,1,1,1,0,1,0,0,0,1] B53) s H = condW P Γ call n f m (cAt [1,1,1,1,1,0,1,0,0,0,1,0] B53) (cAt [1,1,1,1,1,0,1,0,0,0,1,1] B53) s H (evOperand Γ s (.tmp 62)) := qC
@[simp] theorem n53_54 : evCode P Γ call n f m (cAt [1,1,1,1,1,0,1,0,0,0,1,0] B53) s H = some (.normal, s, H) := qK
@[simp] theorem n53_55 : evCode P Γ call n f m (cAt [1,1,1,1,1,0,1,0,0,0,1,1] B53) s H = some (.exit 4, s, H) := qE
@[simp] theorem n53_56 : evCode P Γ call n f m (cAt [1,1,1,1,1,0,1,0,0,1] B53) s H = seqNext P Γ call n f m (cAt [1,1,1,1,1,0,1,0,0,1,1] B53) (evCode P Γ call n f m (cAt [1,1,1,1,1,0,1,0,0,1,0] B53) s H) := qS
@[simp] theorem n53_57 : evCode P Γ call n f m (cAt [1,1,1,1,1,0,1,0,0,1,0] B53) s H = blockNext 5 (evCode P Γ call n f m (cAt [1,1,1,1,1,0,1,0,0,1,0,0] B53) s H) := qB
noncomputable def r53_58 : {l : List Oper // opsOf (cAt [1,1,1,1,1,0,1,0,0,1,0,0] B53) = l} := by
  apply Subtype.mk
  dsimp [B53, Try.f53]
@[simp] theorem n53_58 : evCode P Γ call n f m (cAt [1,1,1,1,1,0,1,0,0,1,0,0] B53) s H = regNext (evOpsGo P Γ call r53_58.1 r53_58.1 s H) := qR r53_58.2
attribute [simp] r53_58
noncomputable def r53_59 : {l : List Oper // opsOf (cAt [1,1,1,1,1,0,1,0,0,1,1] B53) = l} := by
  apply Subtype.mk
  dsimp [B53, Try.f53]
@[simp] theorem n53_59 : evCode P Γ call n f m (cAt [1,1,1,1,1,0,1,0,0,1,1] B53) s H = regNext (evOpsGo P Γ call r53_59.1 r53_59.1 s H) := qR r53_59.2
attribute [simp] r53_59
@[simp] theorem n53_60 : evCode P Γ call n f m (cAt [1,1,1,1,1,1] B53) s H = seqNext P Γ call n f m (cAt [1,1,1,1,1,1,1] B53) (evCode P Γ call n f m (cAt [1,1,1,1,1,1,0] B53) s H) := qS
noncomputable def r53_61 : {l : List Oper // opsOf (cAt [1,1,1,1,1,1,0] B53) = l} := by
  apply Subtype.mk
  dsimp [B53, Try.f53]
@[simp] theorem n53_61 : evCode P Γ call n f m (cAt [1,1,1,1,1,1,0] B53) s H = regNext (evOpsGo P Γ call r53_61.1 r53_61.1 s H) := qR r53_61.2
attribute [simp] r53_61
@[simp] theorem n53_62 : evCode P Γ call n f m (cAt [1,1,1,1,1,1,1] B53) s H = seqNext P Γ call n f m (cAt [1,1,1,1,1,1,1,1] B53) (evCode P Γ call n f m (cAt [1,1,1,1,1,1,1,0] B53) s H) := qS
@[simp] theorem n53_63 : evCode P Γ call n f m (cAt [1,1,1,1,1,1,1,0] B53) s H = seqNext P Γ call n f m (cAt [1,1,1,1,1,1,1,0,1] B53) (evCode P Γ call n f m (cAt [1,1,1,1,1,1,1,0,0] B53) s H) := qS
noncomputable def r53_64 : {l : List Oper // opsOf (cAt [1,1,1,1,1,1,1,0,0] B53) = l} := by
  apply Subtype.mk
  dsimp [B53, Try.f53]
@[simp] theorem n53_64 : evCode P Γ call n f m (cAt [1,1,1,1,1,1,1,0,0] B53) s H = regNext (evOpsGo P Γ call r53_64.1 r53_64.1 s H) := qR r53_64.2
attribute [simp] r53_64
@[simp] theorem n53_65 : evCode P Γ call n f m (cAt [1,1,1,1,1,1,1,0,1] B53) s H = blockNext 6 (evCode P Γ call n f m (cAt [1,1,1,1,1,1,1,0,1,0] B53) s H) := qB
@[simp] theorem n53_66 : evCode P Γ call n f m (cAt [1,1,1,1,1,1,1,0,1,0] B53) s H = evLoopC P Γ call n f m (cAt [1,1,1,1,1,1,1,0,1,0,0] B53) n s H := qL
noncomputable abbrev L53_21 : Code := cAt [1,1,1,1,1,1,1,0,1,0,0] B53
@[simp] theorem n53_66f : firstRegion (cAt [1,1,1,1,1,1,1,0,1,0,0] B53) = 21 := by kernel_rfl
@[simp] theorem n53_67 : evCode P Γ call n f m (cAt [1,1,1,1,1,1,1,0,1,0,0] B53) s H = seqNext P Γ call n f m (cAt [1,1,1,1,1,1,1,0,1,0,0,1] B53) (evCode P Γ call n f m (cAt [1,1,1,1,1,1,1,0,1,0,0,0] B53) s H) := qS
noncomputable def r53_68 : {l : List Oper // opsOf (cAt [1,1,1,1,1,1,1,0,1,0,0,0] B53) = l} := by
  apply Subtype.mk
  dsimp [B53, Try.f53]
@[simp] theorem n53_68 : evCode P Γ call n f m (cAt [1,1,1,1,1,1,1,0,1,0,0,0] B53) s H = regNext (evOpsGo P Γ call r53_68.1 r53_68.1 s H) := qR r53_68.2
attribute [simp] r53_68
@[simp] theorem n53_69 : evCode P Γ call n f m (cAt [1,1,1,1,1,1,1,0,1,0,0,1] B53) s H = seqNext P Γ call n f m (cAt [1,1,1,1,1,1,1,0,1,0,0,1,1] B53) (evCode P Γ call n f m (cAt [1,1,1,1,1,1,1,0,1,0,0,1,0] B53) s H) := qS
@[simp] theorem n53_70 : evCode P Γ call n f m (cAt [1,1,1,1,1,1,1,0,1,0,0,1,0] B53) s H = condW P Γ call n f m (cAt [1,1,1,1,1,1,1,0,1,0,0,1,0,0] B53) (cAt [1,1,1,1,1,1,1,0,1,0,0,1,0,1] B53) s H (evOperand Γ s (.tmp 72)) := qC
@[simp] theorem n53_71 : evCode P Γ call n f m (cAt [1,1,1,1,1,1,1,0,1,0,0,1,0,0] B53) s H = some (.normal, s, H) := qK
@[simp] theorem n53_72 : evCode P Γ call n f m (cAt [1,1,1,1,1,1,1,0,1,0,0,1,0,1] B53) s H = some (.exit 6, s, H) := qE
@[simp] theorem n53_73 : evCode P Γ call n f m (cAt [1,1,1,1,1,1,1,0,1,0,0,1,1] B53) s H = seqNext P Γ call n f m (cAt [1,1,1,1,1,1,1,0,1,0,0,1,1,1] B53) (evCode P Γ call n f m (cAt [1,1,1,1,1,1,1,0,1,0,0,1,1,0] B53) s H) := qS
@[simp] theorem n53_74 : evCode P Γ call n f m (cAt [1,1,1,1,1,1,1,0,1,0,0,1,1,0] B53) s H = blockNext 7 (evCode P Γ call n f m (cAt [1,1,1,1,1,1,1,0,1,0,0,1,1,0,0] B53) s H) := qB
@[simp] theorem n53_75 : evCode P Γ call n f m (cAt [1,1,1,1,1,1,1,0,1,0,0,1,1,0,0] B53) s H = seqNext P Γ call n f m (cAt [1,1,1,1,1,1,1,0,1,0,0,1,1,0,0,1] B53) (evCode P Γ call n f m (cAt [1,1,1,1,1,1,1,0,1,0,0,1,1,0,0,0] B53) s H) := qS
noncomputable def r53_76 : {l : List Oper // opsOf (cAt [1,1,1,1,1,1,1,0,1,0,0,1,1,0,0,0] B53) = l} := by
  apply Subtype.mk
  dsimp [B53, Try.f53]
@[simp] theorem n53_76 : evCode P Γ call n f m (cAt [1,1,1,1,1,1,1,0,1,0,0,1,1,0,0,0] B53) s H = regNext (evOpsGo P Γ call r53_76.1 r53_76.1 s H) := qR r53_76.2
attribute [simp] r53_76
@[simp] theorem n53_77 : evCode P Γ call n f m (cAt [1,1,1,1,1,1,1,0,1,0,0,1,1,0,0,1] B53) s H = seqNext P Γ call n f m (cAt [1,1,1,1,1,1,1,0,1,0,0,1,1,0,0,1,1] B53) (evCode P Γ call n f m (cAt [1,1,1,1,1,1,1,0,1,0,0,1,1,0,0,1,0] B53) s H) := qS
noncomputable def r53_78 : {l : List Oper // opsOf (cAt [1,1,1,1,1,1,1,0,1,0,0,1,1,0,0,1,0] B53) = l} := by
  apply Subtype.mk
  dsimp [B53, Try.f53]
@[simp] theorem n53_78 : evCode P Γ call n f m (cAt [1,1,1,1,1,1,1,0,1,0,0,1,1,0,0,1,0] B53) s H = regNext (evOpsGo P Γ call r53_78.1 r53_78.1 s H) := qR r53_78.2
attribute [simp] r53_78
noncomputable def r53_79 : {l : List Oper // opsOf (cAt [1,1,1,1,1,1,1,0,1,0,0,1,1,0,0,1,1] B53) = l} := by
  apply Subtype.mk
  dsimp [B53, Try.f53]
@[simp] theorem n53_79 : evCode P Γ call n f m (cAt [1,1,1,1,1,1,1,0,1,0,0,1,1,0,0,1,1] B53) s H = regNext (drawR P Γ call r53_79.1 [([1,2,3,4,5,6,7,8,9,10,11,12,13,14,15], [84,85,86,87,88,89,90,91,92,93,94,95,96,97,98]), ([0,3,4,5,6,7,8,9,10,11,12,13,14,15], [83,86,87,88,89,90,91,92,93,94,95,96,97,98]), ([0,3,4,5,6,7,8,9,10,11,12,13,14,15], [83,86,87,88,89,90,91,92,93,94,95,96,97,98]), ([0,1,2,4,6,7,8,9,10,11,12,13,14,15], [83,84,85,87,89,90,91,92,93,94,95,96,97,98]), ([0,1,2,3,6,7,8,9,10,11,12,13,14,15], [83,84,85,86,89,90,91,92,93,94,95,96,97,98]), ([0,1,2,6,7,8,9,10,11,12,13,14,15], [83,84,85,89,90,91,92,93,94,95,96,97,98]), ([0,1,2,3,4,5,8,9,11,12,13,14,15], [83,84,85,86,87,88,91,92,94,95,96,97,98]), ([0,1,2,3,4,5,8,9,11,12,13,14,15], [83,84,85,86,87,88,91,92,94,95,96,97,98]), ([0,1,2,3,4,5,6,7,11,12,13,14,15], [83,84,85,86,87,88,89,90,94,95,96,97,98]), ([0,1,2,3,4,5,6,7,11,12,13,14,15], [83,84,85,86,87,88,89,90,94,95,96,97,98]), ([0,1,2,3,4,5,11,12,13,14,15], [83,84,85,86,87,88,94,95,96,97,98]), ([0,1,2,3,4,5,6,7,8,9,10,13,14], [83,84,85,86,87,88,89,90,91,92,93,96,97]), ([0,1,2,3,4,5,6,7,8,9,10,13,14], [83,84,85,86,87,88,89,90,91,92,93,96,97]), ([0,1,2,3,4,5,6,7,8,9,10,11,12], [83,84,85,86,87,88,89,90,91,92,93,94,95]), ([0,1,2,3,4,5,6,7,8,9,10,11,12], [83,84,85,86,87,88,89,90,91,92,93,94,95]), ([0,1,2,3,4,5,6,7,8,9,10], [83,84,85,86,87,88,89,90,91,92,93]), ([], [])] s H) := qD r53_79.2
attribute [simp] r53_79
noncomputable def r53_80 : {l : List Oper // opsOf (cAt [1,1,1,1,1,1,1,0,1,0,0,1,1,1] B53) = l} := by
  apply Subtype.mk
  dsimp [B53, Try.f53]
@[simp] theorem n53_80 : evCode P Γ call n f m (cAt [1,1,1,1,1,1,1,0,1,0,0,1,1,1] B53) s H = regNext (evOpsGo P Γ call r53_80.1 r53_80.1 s H) := qR r53_80.2
attribute [simp] r53_80
@[simp] theorem n53_81 : evCode P Γ call n f m (cAt [1,1,1,1,1,1,1,1] B53) s H = seqNext P Γ call n f m (cAt [1,1,1,1,1,1,1,1,1] B53) (evCode P Γ call n f m (cAt [1,1,1,1,1,1,1,1,0] B53) s H) := qS
@[simp] theorem n53_82 : evCode P Γ call n f m (cAt [1,1,1,1,1,1,1,1,0] B53) s H = seqNext P Γ call n f m (cAt [1,1,1,1,1,1,1,1,0,1] B53) (evCode P Γ call n f m (cAt [1,1,1,1,1,1,1,1,0,0] B53) s H) := qS
noncomputable def r53_83 : {l : List Oper // opsOf (cAt [1,1,1,1,1,1,1,1,0,0] B53) = l} := by
  apply Subtype.mk
  dsimp [B53, Try.f53]
@[simp] theorem n53_83 : evCode P Γ call n f m (cAt [1,1,1,1,1,1,1,1,0,0] B53) s H = regNext (evOpsGo P Γ call r53_83.1 r53_83.1 s H) := qR r53_83.2
attribute [simp] r53_83
@[simp] theorem n53_84 : evCode P Γ call n f m (cAt [1,1,1,1,1,1,1,1,0,1] B53) s H = blockNext 8 (evCode P Γ call n f m (cAt [1,1,1,1,1,1,1,1,0,1,0] B53) s H) := qB
@[simp] theorem n53_85 : evCode P Γ call n f m (cAt [1,1,1,1,1,1,1,1,0,1,0] B53) s H = evLoopC P Γ call n f m (cAt [1,1,1,1,1,1,1,1,0,1,0,0] B53) n s H := qL
noncomputable abbrev L53_27 : Code := cAt [1,1,1,1,1,1,1,1,0,1,0,0] B53
@[simp] theorem n53_85f : firstRegion (cAt [1,1,1,1,1,1,1,1,0,1,0,0] B53) = 27 := by kernel_rfl
@[simp] theorem n53_86 : evCode P Γ call n f m (cAt [1,1,1,1,1,1,1,1,0,1,0,0] B53) s H = seqNext P Γ call n f m (cAt [1,1,1,1,1,1,1,1,0,1,0,0,1] B53) (evCode P Γ call n f m (cAt [1,1,1,1,1,1,1,1,0,1,0,0,0] B53) s H) := qS
noncomputable def r53_87 : {l : List Oper // opsOf (cAt [1,1,1,1,1,1,1,1,0,1,0,0,0] B53) = l} := by
  apply Subtype.mk
  dsimp [B53, Try.f53]
@[simp] theorem n53_87 : evCode P Γ call n f m (cAt [1,1,1,1,1,1,1,1,0,1,0,0,0] B53) s H = regNext (evOpsGo P Γ call r53_87.1 r53_87.1 s H) := qR r53_87.2
attribute [simp] r53_87
@[simp] theorem n53_88 : evCode P Γ call n f m (cAt [1,1,1,1,1,1,1,1,0,1,0,0,1] B53) s H = seqNext P Γ call n f m (cAt [1,1,1,1,1,1,1,1,0,1,0,0,1,1] B53) (evCode P Γ call n f m (cAt [1,1,1,1,1,1,1,1,0,1,0,0,1,0] B53) s H) := qS
@[simp] theorem n53_89 : evCode P Γ call n f m (cAt [1,1,1,1,1,1,1,1,0,1,0,0,1,0] B53) s H = condW P Γ call n f m (cAt [1,1,1,1,1,1,1,1,0,1,0,0,1,0,0] B53) (cAt [1,1,1,1,1,1,1,1,0,1,0,0,1,0,1] B53) s H (evOperand Γ s (.tmp 104)) := qC
@[simp] theorem n53_90 : evCode P Γ call n f m (cAt [1,1,1,1,1,1,1,1,0,1,0,0,1,0,0] B53) s H = some (.normal, s, H) := qK
@[simp] theorem n53_91 : evCode P Γ call n f m (cAt [1,1,1,1,1,1,1,1,0,1,0,0,1,0,1] B53) s H = some (.exit 8, s, H) := qE
@[simp] theorem n53_92 : evCode P Γ call n f m (cAt [1,1,1,1,1,1,1,1,0,1,0,0,1,1] B53) s H = seqNext P Γ call n f m (cAt [1,1,1,1,1,1,1,1,0,1,0,0,1,1,1] B53) (evCode P Γ call n f m (cAt [1,1,1,1,1,1,1,1,0,1,0,0,1,1,0] B53) s H) := qS
@[simp] theorem n53_93 : evCode P Γ call n f m (cAt [1,1,1,1,1,1,1,1,0,1,0,0,1,1,0] B53) s H = blockNext 9 (evCode P Γ call n f m (cAt [1,1,1,1,1,1,1,1,0,1,0,0,1,1,0,0] B53) s H) := qB
@[simp] theorem n53_94 : evCode P Γ call n f m (cAt [1,1,1,1,1,1,1,1,0,1,0,0,1,1,0,0] B53) s H = seqNext P Γ call n f m (cAt [1,1,1,1,1,1,1,1,0,1,0,0,1,1,0,0,1] B53) (evCode P Γ call n f m (cAt [1,1,1,1,1,1,1,1,0,1,0,0,1,1,0,0,0] B53) s H) := qS
noncomputable def r53_95 : {l : List Oper // opsOf (cAt [1,1,1,1,1,1,1,1,0,1,0,0,1,1,0,0,0] B53) = l} := by
  apply Subtype.mk
  dsimp [B53, Try.f53]
@[simp] theorem n53_95 : evCode P Γ call n f m (cAt [1,1,1,1,1,1,1,1,0,1,0,0,1,1,0,0,0] B53) s H = regNext (evOpsGo P Γ call r53_95.1 r53_95.1 s H) := qR r53_95.2
attribute [simp] r53_95
noncomputable def r53_96 : {l : List Oper // opsOf (cAt [1,1,1,1,1,1,1,1,0,1,0,0,1,1,0,0,1] B53) = l} := by
  apply Subtype.mk
  dsimp [B53, Try.f53]
@[simp] theorem n53_96 : evCode P Γ call n f m (cAt [1,1,1,1,1,1,1,1,0,1,0,0,1,1,0,0,1] B53) s H = regNext (drawR P Γ call r53_96.1 [([1,2,3,4,5,6,7,8,9,10,11,12], [108,109,110,111,112,113,114,115,116,117,118,119]), ([0,2,3,5,6,7,9,10,11,12], [107,109,110,112,113,114,116,117,118,119]), ([0,1,5,6,7,9,10,11,12], [107,108,112,113,114,116,117,118,119]), ([0,1,5,6,7,9,10,11,12], [107,108,112,113,114,116,117,118,119]), ([0,5,6,7,9,10,11,12], [107,112,113,114,116,117,118,119]), ([0,1,2,3,4,6,7,9,10,11,12], [107,108,109,110,111,113,114,116,117,118,119]), ([0,1,2,3,4,5,9,10,11,12], [107,108,109,110,111,112,116,117,118,119]), ([0,1,2,3,4,5,9,10,11,12], [107,108,109,110,111,112,116,117,118,119]), ([0,9,10,11,12], [107,116,117,118,119]), ([0,1,2,3,4,5,6,7,8,11,12], [107,108,109,110,111,112,113,114,115,118,119]), ([0,1,2,3,4,5,6,7,8,11,12], [107,108,109,110,111,112,113,114,115,118,119]), ([0,1,2,3,4,5,6,7,8,9,10], [107,108,109,110,111,112,113,114,115,116,117]), ([0,1,2,3,4,5,6,7,8,9,10], [107,108,109,110,111,112,113,114,115,116,117]), ([], [])] s H) := qD r53_96.2
attribute [simp] r53_96
noncomputable def r53_97 : {l : List Oper // opsOf (cAt [1,1,1,1,1,1,1,1,0,1,0,0,1,1,1] B53) = l} := by
  apply Subtype.mk
  dsimp [B53, Try.f53]
@[simp] theorem n53_97 : evCode P Γ call n f m (cAt [1,1,1,1,1,1,1,1,0,1,0,0,1,1,1] B53) s H = regNext (evOpsGo P Γ call r53_97.1 r53_97.1 s H) := qR r53_97.2
attribute [simp] r53_97
@[simp] theorem n53_98 : evCode P Γ call n f m (cAt [1,1,1,1,1,1,1,1,1] B53) s H = seqNext P Γ call n f m (cAt [1,1,1,1,1,1,1,1,1,1] B53) (evCode P Γ call n f m (cAt [1,1,1,1,1,1,1,1,1,0] B53) s H) := qS
noncomputable def r53_99 : {l : List Oper // opsOf (cAt [1,1,1,1,1,1,1,1,1,0] B53) = l} := by
  apply Subtype.mk
  dsimp [B53, Try.f53]
@[simp] theorem n53_99 : evCode P Γ call n f m (cAt [1,1,1,1,1,1,1,1,1,0] B53) s H = regNext (evOpsGo P Γ call r53_99.1 r53_99.1 s H) := qR r53_99.2
attribute [simp] r53_99
@[simp] theorem n53_100 : evCode P Γ call n f m (cAt [1,1,1,1,1,1,1,1,1,1] B53) s H = some (.ret, s, H) := qT
theorem b53 {k : Nat} (ho : ∀ args H, Γ.orc 53 args H = none) (args : List V) (H : Heap) (ha : args.length ≤ 123) : evF Try.prog Γ (k + 1) 53 args H = bodyEnd Try.prog [.tmp 4] H.length (evCode Try.prog Γ (evF Try.prog Γ k) k 53 H.length (cAt [] B53) (mkL 123 V.undef (enumV 0 args)) H) := body_at Try.func53 (by decide) rfl ho rfl rfl args H ha
noncomputable def B54 : Code := bodyOf Try.f54
@[simp] theorem n54_1 : evCode P Γ call n f m (cAt [] B54) s H = seqNext P Γ call n f m (cAt [1] B54) (evCode P Γ call n f m (cAt [0] B54) s H) := qS
noncomputable def r54_2 : {l : List Oper // opsOf (cAt [0] B54) = l} := by
  apply Subtype.mk
  dsimp [B54, Try.f54]
@[simp] theorem n54_2 : evCode P Γ call n f m (cAt [0] B54) s H = regNext (evOpsGo P Γ call r54_2.1 r54_2.1 s H) := qR r54_2.2
attribute [simp] r54_2
@[simp] theorem n54_3 : evCode P Γ call n f m (cAt [1] B54) s H = seqNext P Γ call n f m (cAt [1,1] B54) (evCode P Γ call n f m (cAt [1,0] B54) s H) := qS
@[simp] theorem n54_4 : evCode P Γ call n f m (cAt [1,0] B54) s H = seqNext P Γ call n f m (cAt [1,0,1] B54) (evCode P Γ call n f m (cAt [1,0,0] B54) s H) := qS
noncomputable def r54_5 : {l : List Oper // opsOf (cAt [1,0,0] B54) = l} := by
  apply Subtype.mk
  dsimp [B54, Try.f54]
@[simp] theorem n54_5 : evCode P Γ call n f m (cAt [1,0,0] B54) s H = regNext (evOpsGo P Γ call r54_5.1 r54_5.1 s H) := qR r54_5.2
attribute [simp] r54_5
@[simp] theorem n54_6 : evCode P Γ call n f m (cAt [1,0,1] B54) s H = blockNext 0 (evCode P Γ call n f m (cAt [1,0,1,0] B54) s H) := qB
@[simp] theorem n54_7 : evCode P Γ call n f m (cAt [1,0,1,0] B54) s H = evLoopC P Γ call n f m (cAt [1,0,1,0,0] B54) n s H := qL
noncomputable abbrev L54_2 : Code := cAt [1,0,1,0,0] B54
@[simp] theorem n54_7f : firstRegion (cAt [1,0,1,0,0] B54) = 2 := by kernel_rfl
@[simp] theorem n54_8 : evCode P Γ call n f m (cAt [1,0,1,0,0] B54) s H = seqNext P Γ call n f m (cAt [1,0,1,0,0,1] B54) (evCode P Γ call n f m (cAt [1,0,1,0,0,0] B54) s H) := qS
noncomputable def r54_9 : {l : List Oper // opsOf (cAt [1,0,1,0,0,0] B54) = l} := by
  apply Subtype.mk
  dsimp [B54, Try.f54]
@[simp] theorem n54_9 : evCode P Γ call n f m (cAt [1,0,1,0,0,0] B54) s H = regNext (evOpsGo P Γ call r54_9.1 r54_9.1 s H) := qR r54_9.2
attribute [simp] r54_9
@[simp] theorem n54_10 : evCode P Γ call n f m (cAt [1,0,1,0,0,1] B54) s H = seqNext P Γ call n f m (cAt [1,0,1,0,0,1,1] B54) (evCode P Γ call n f m (cAt [1,0,1,0,0,1,0] B54) s H) := qS
@[simp] theorem n54_11 : evCode P Γ call n f m (cAt [1,0,1,0,0,1,0] B54) s H = condW P Γ call n f m (cAt [1,0,1,0,0,1,0,0] B54) (cAt [1,0,1,0,0,1,0,1] B54) s H (evOperand Γ s (.tmp 9)) := qC
@[simp] theorem n54_12 : evCode P Γ call n f m (cAt [1,0,1,0,0,1,0,0] B54) s H = some (.normal, s, H) := qK
@[simp] theorem n54_13 : evCode P Γ call n f m (cAt [1,0,1,0,0,1,0,1] B54) s H = some (.exit 0, s, H) := qE
@[simp] theorem n54_14 : evCode P Γ call n f m (cAt [1,0,1,0,0,1,1] B54) s H = seqNext P Γ call n f m (cAt [1,0,1,0,0,1,1,1] B54) (evCode P Γ call n f m (cAt [1,0,1,0,0,1,1,0] B54) s H) := qS
@[simp] theorem n54_15 : evCode P Γ call n f m (cAt [1,0,1,0,0,1,1,0] B54) s H = blockNext 1 (evCode P Γ call n f m (cAt [1,0,1,0,0,1,1,0,0] B54) s H) := qB
@[simp] theorem n54_16 : evCode P Γ call n f m (cAt [1,0,1,0,0,1,1,0,0] B54) s H = seqNext P Γ call n f m (cAt [1,0,1,0,0,1,1,0,0,1] B54) (evCode P Γ call n f m (cAt [1,0,1,0,0,1,1,0,0,0] B54) s H) := qS
noncomputable def r54_17 : {l : List Oper // opsOf (cAt [1,0,1,0,0,1,1,0,0,0] B54) = l} := by
  apply Subtype.mk
  dsimp [B54, Try.f54]
@[simp] theorem n54_17 : evCode P Γ call n f m (cAt [1,0,1,0,0,1,1,0,0,0] B54) s H = regNext (evOpsGo P Γ call r54_17.1 r54_17.1 s H) := qR r54_17.2
attribute [simp] r54_17
@[simp] theorem n54_18 : evCode P Γ call n f m (cAt [1,0,1,0,0,1,1,0,0,1] B54) s H = seqNext P Γ call n f m (cAt [1,0,1,0,0,1,1,0,0,1,1] B54) (evCode P Γ call n f m (cAt [1,0,1,0,0,1,1,0,0,1,0] B54) s H) := qS
noncomputable def r54_19 : {l : List Oper // opsOf (cAt [1,0,1,0,0,1,1,0,0,1,0] B54) = l} := by
  apply Subtype.mk
  dsimp [B54, Try.f54]
@[simp] theorem n54_19 : evCode P Γ call n f m (cAt [1,0,1,0,0,1,1,0,0,1,0] B54) s H = regNext (evOpsGo P Γ call r54_19.1 r54_19.1 s H) := qR r54_19.2
attribute [simp] r54_19
@[simp] theorem n54_20 : evCode P Γ call n f m (cAt [1,0,1,0,0,1,1,0,0,1,1] B54) s H = blockNext 2 (evCode P Γ call n f m (cAt [1,0,1,0,0,1,1,0,0,1,1,0] B54) s H) := qB
@[simp] theorem n54_21 : evCode P Γ call n f m (cAt [1,0,1,0,0,1,1,0,0,1,1,0] B54) s H = evLoopC P Γ call n f m (cAt [1,0,1,0,0,1,1,0,0,1,1,0,0] B54) n s H := qL
noncomputable abbrev L54_5 : Code := cAt [1,0,1,0,0,1,1,0,0,1,1,0,0] B54
@[simp] theorem n54_21f : firstRegion (cAt [1,0,1,0,0,1,1,0,0,1,1,0,0] B54) = 5 := by kernel_rfl
@[simp] theorem n54_22 : evCode P Γ call n f m (cAt [1,0,1,0,0,1,1,0,0,1,1,0,0] B54) s H = seqNext P Γ call n f m (cAt [1,0,1,0,0,1,1,0,0,1,1,0,0,1] B54) (evCode P Γ call n f m (cAt [1,0,1,0,0,1,1,0,0,1,1,0,0,0] B54) s H) := qS
noncomputable def r54_23 : {l : List Oper // opsOf (cAt [1,0,1,0,0,1,1,0,0,1,1,0,0,0] B54) = l} := by
  apply Subtype.mk
  dsimp [B54, Try.f54]
@[simp] theorem n54_23 : evCode P Γ call n f m (cAt [1,0,1,0,0,1,1,0,0,1,1,0,0,0] B54) s H = regNext (evOpsGo P Γ call r54_23.1 r54_23.1 s H) := qR r54_23.2
attribute [simp] r54_23
@[simp] theorem n54_24 : evCode P Γ call n f m (cAt [1,0,1,0,0,1,1,0,0,1,1,0,0,1] B54) s H = seqNext P Γ call n f m (cAt [1,0,1,0,0,1,1,0,0,1,1,0,0,1,1] B54) (evCode P Γ call n f m (cAt [1,0,1,0,0,1,1,0,0,1,1,0,0,1,0] B54) s H) := qS
@[simp] theorem n54_25 : evCode P Γ call n f m (cAt [1,0,1,0,0,1,1,0,0,1,1,0,0,1,0] B54) s H = condW P Γ call n f m (cAt [1,0,1,0,0,1,1,0,0,1,1,0,0,1,0,0] B54) (cAt [1,0,1,0,0,1,1,0,0,1,1,0,0,1,0,1] B54) s H (evOperand Γ s (.tmp 14)) := qC
@[simp] theorem n54_26 : evCode P Γ call n f m (cAt [1,0,1,0,0,1,1,0,0,1,1,0,0,1,0,0] B54) s H = some (.normal, s, H) := qK
@[simp] theorem n54_27 : evCode P Γ call n f m (cAt [1,0,1,0,0,1,1,0,0,1,1,0,0,1,0,1] B54) s H = some (.exit 2, s, H) := qE
@[simp] theorem n54_28 : evCode P Γ call n f m (cAt [1,0,1,0,0,1,1,0,0,1,1,0,0,1,1] B54) s H = seqNext P Γ call n f m (cAt [1,0,1,0,0,1,1,0,0,1,1,0,0,1,1,1] B54) (evCode P Γ call n f m (cAt [1,0,1,0,0,1,1,0,0,1,1,0,0,1,1,0] B54) s H) := qS
@[simp] theorem n54_29 : evCode P Γ call n f m (cAt [1,0,1,0,0,1,1,0,0,1,1,0,0,1,1,0] B54) s H = blockNext 3 (evCode P Γ call n f m (cAt [1,0,1,0,0,1,1,0,0,1,1,0,0,1,1,0,0] B54) s H) := qB
@[simp] theorem n54_30 : evCode P Γ call n f m (cAt [1,0,1,0,0,1,1,0,0,1,1,0,0,1,1,0,0] B54) s H = seqNext P Γ call n f m (cAt [1,0,1,0,0,1,1,0,0,1,1,0,0,1,1,0,0,1] B54) (evCode P Γ call n f m (cAt [1,0,1,0,0,1,1,0,0,1,1,0,0,1,1,0,0,0] B54) s H) := qS
noncomputable def r54_31 : {l : List Oper // opsOf (cAt [1,0,1,0,0,1,1,0,0,1,1,0,0,1,1,0,0,0] B54) = l} := by
  apply Subtype.mk
  dsimp [B54, Try.f54]
@[simp] theorem n54_31 : evCode P Γ call n f m (cAt [1,0,1,0,0,1,1,0,0,1,1,0,0,1,1,0,0,0] B54) s H = regNext (evOpsGo P Γ call r54_31.1 r54_31.1 s H) := qR r54_31.2
attribute [simp] r54_31
@[simp] theorem n54_32 : evCode P Γ call n f m (cAt [1,0,1,0,0,1,1,0,0,1,1,0,0,1,1,0,0,1] B54) s H = seqNext P Γ call n f m (cAt [1,0,1,0,0,1,1,0,0,1,1,0,0,1,1,0,0,1,1] B54) (evCode P Γ call n f m (cAt [1,0,1,0,0,1,1,0,0,1,1,0,0,1,1,0,0,1,0] B54) s H) := qS
@[simp] theorem n54_33 : evCode P Γ call n f m (cAt [1,0,1,0,0,1,1,0,0,1,1,0,0,1,1,0,0,1,0] B54) s H = seqNext P Γ call n f m (cAt [1,0,1,0,0,1,1,0,0,1,1,0,0,1,1,0,0,1,0,1] B54) (evCode P Γ call n f m (cAt [1,0,1,0,0,1,1,0,0,1,1,0,0,1,1,0,0,1,0,0] B54) s H) := qS
noncomputable def r54_34 : {l : List Oper // opsOf (cAt [1,0,1,0,0,1,1,0,0,1,1,0,0,1,1,0,0,1,0,0] B54) = l} := by
  apply Subtype.mk
  dsimp [B54, Try.f54]
@[simp] theorem n54_34 : evCode P Γ call n f m (cAt [1,0,1,0,0,1,1,0,0,1,1,0,0,1,1,0,0,1,0,0] B54) s H = regNext (evOpsGo P Γ call r54_34.1 r54_34.1 s H) := qR r54_34.2
attribute [simp] r54_34
@[simp] theorem n54_35 : evCode P Γ call n f m (cAt [1,0,1,0,0,1,1,0,0,1,1,0,0,1,1,0,0,1,0,1] B54) s H = blockNext 4 (evCode P Γ call n f m (cAt [1,0,1,0,0,1,1,0,0,1,1,0,0,1,1,0,0,1,0,1,0] B54) s H) := qB
@[simp] theorem n54_36 : evCode P Γ call n f m (cAt [1,0,1,0,0,1,1,0,0,1,1,0,0,1,1,0,0,1,0,1,0] B54) s H = evLoopC P Γ call n f m (cAt [1,0,1,0,0,1,1,0,0,1,1,0,0,1,1,0,0,1,0,1,0,0] B54) n s H := qL
noncomputable abbrev L54_8 : Code := cAt [1,0,1,0,0,1,1,0,0,1,1,0,0,1,1,0,0,1,0,1,0,0] B54
@[simp] theorem n54_36f : firstRegion (cAt [1,0,1,0,0,1,1,0,0,1,1,0,0,1,1,0,0,1,0,1,0,0] B54) = 8 := by kernel_rfl
@[simp] theorem n54_37 : evCode P Γ call n f m (cAt [1,0,1,0,0,1,1,0,0,1,1,0,0,1,1,0,0,1,0,1,0,0] B54) s H = seqNext P Γ call n f m (cAt [1,0,1,0,0,1,1,0,0,1,1,0,0,1,1,0,0,1,0,1,0,0,1] B54) (evCode P Γ call n f m (cAt [1,0,1,0,0,1,1,0,0,1,1,0,0,1,1,0,0,1,0,1,0,0,0] B54) s H) := qS
noncomputable def r54_38 : {l : List Oper // opsOf (cAt [1,0,1,0,0,1,1,0,0,1,1,0,0,1,1,0,0,1,0,1,0,0,0] B54) = l} := by
  apply Subtype.mk
  dsimp [B54, Try.f54]
@[simp] theorem n54_38 : evCode P Γ call n f m (cAt [1,0,1,0,0,1,1,0,0,1,1,0,0,1,1,0,0,1,0,1,0,0,0] B54) s H = regNext (evOpsGo P Γ call r54_38.1 r54_38.1 s H) := qR r54_38.2
attribute [simp] r54_38
@[simp] theorem n54_39 : evCode P Γ call n f m (cAt [1,0,1,0,0,1,1,0,0,1,1,0,0,1,1,0,0,1,0,1,0,0,1] B54) s H = seqNext P Γ call n f m (cAt [1,0,1,0,0,1,1,0,0,1,1,0,0,1,1,0,0,1,0,1,0,0,1,1] B54) (evCode P Γ call n f m (cAt [1,0,1,0,0,1,1,0,0,1,1,0,0,1,1,0,0,1,0,1,0,0,1,0] B54) s H) := qS
@[simp] theorem n54_40 : evCode P Γ call n f m (cAt [1,0,1,0,0,1,1,0,0,1,1,0,0,1,1,0,0,1,0,1,0,0,1,0] B54) s H = condW P Γ call n f m (cAt [1,0,1,0,0,1,1,0,0,1,1,0,0,1,1,0,0,1,0,1,0,0,1,0,0] B54) (cAt [1,0,1,0,0,1,1,0,0,1,1,0,0,1,1,0,0,1,0,1,0,0,1,0,1] B54) s H (evOperand Γ s (.tmp 19)) := qC
@[simp] theorem n54_41 : evCode P Γ call n f m (cAt [1,0,1,0,0,1,1,0,0,1,1,0,0,1,1,0,0,1,0,1,0,0,1,0,0] B54) s H = some (.normal, s, H) := qK
@[simp] theorem n54_42 : evCode P Γ call n f m (cAt [1,0,1,0,0,1,1,0,0,1,1,0,0,1,1,0,0,1,0,1,0,0,1,0,1] B54) s H = some (.exit 4, s, H) := qE
@[simp] theorem n54_43 : evCode P Γ call n f m (cAt [1,0,1,0,0,1,1,0,0,1,1,0,0,1,1,0,0,1,0,1,0,0,1,1] B54) s H = seqNext P Γ call n f m (cAt [1,0,1,0,0,1,1,0,0,1,1,0,0,1,1,0,0,1,0,1,0,0,1,1,1] B54) (evCode P Γ call n f m (cAt [1,0,1,0,0,1,1,0,0,1,1,0,0,1,1,0,0,1,0,1,0,0,1,1,0] B54) s H) := qS
@[simp] theorem n54_44 : evCode P Γ call n f m (cAt [1,0,1,0,0,1,1,0,0,1,1,0,0,1,1,0,0,1,0,1,0,0,1,1,0] B54) s H = blockNext 5 (evCode P Γ call n f m (cAt [1,0,1,0,0,1,1,0,0,1,1,0,0,1,1,0,0,1,0,1,0,0,1,1,0,0] B54) s H) := qB
@[simp] theorem n54_45 : evCode P Γ call n f m (cAt [1,0,1,0,0,1,1,0,0,1,1,0,0,1,1,0,0,1,0,1,0,0,1,1,0,0] B54) s H = seqNext P Γ call n f m (cAt [1,0,1,0,0,1,1,0,0,1,1,0,0,1,1,0,0,1,0,1,0,0,1,1,0,0,1] B54) (evCode P Γ call n f m (cAt [1,0,1,0,0,1,1,0,0,1,1,0,0,1,1,0,0,1,0,1,0,0,1,1,0,0,0] B54) s H) := qS
noncomputable def r54_46 : {l : List Oper // opsOf (cAt [1,0,1,0,0,1,1,0,0,1,1,0,0,1,1,0,0,1,0,1,0,0,1,1,0,0,0] B54) = l} := by
  apply Subtype.mk
  dsimp [B54, Try.f54]
@[simp] theorem n54_46 : evCode P Γ call n f m (cAt [1,0,1,0,0,1,1,0,0,1,1,0,0,1,1,0,0,1,0,1,0,0,1,1,0,0,0] B54) s H = regNext (evOpsGo P Γ call r54_46.1 r54_46.1 s H) := qR r54_46.2
attribute [simp] r54_46
noncomputable def r54_47 : {l : List Oper // opsOf (cAt [1,0,1,0,0,1,1,0,0,1,1,0,0,1,1,0,0,1,0,1,0,0,1,1,0,0,1] B54) = l} := by
  apply Subtype.mk
  dsimp [B54, Try.f54]
@[simp] theorem n54_47 : evCode P Γ call n f m (cAt [1,0,1,0,0,1,1,0,0,1,1,0,0,1,1,0,0,1,0,1,0,0,1,1,0,0,1] B54) s H = regNext (drawR P Γ call r54_47.1 [([1,4,5,6,7,8,9,10,11,12,13,14,15,16,17,18,19,20,21,22,23,24,25,26,27], [22,25,26,27,28,29,30,31,32,33,34,35,36,37,38,39,40,41,42,43,44,45,46,47,48]), ([0,4,5,6,7,8,9,10,11,12,13,14,15,16,17,18,19,20,21,22,23,24,25,26,27], [21,25,26,27,28,29,30,31,32,33,34,35,36,37,38,39,40,41,42,43,44,45,46,47,48]), ([4,5,6,7,8,9,10,11,12,13,14,15,16,17,18,19,20,21,22,23,24,25,26,27], [25,26,27,28,29,30,31,32,33,34,35,36,37,38,39,40,41,42,43,44,45,46,47,48]), ([4,5,6,7,8,9,10,11,12,13,14,15,16,17,18,19,20,21,22,23,24,25,26,27], [25,26,27,28,29,30,31,32,33,34,35,36,37,38,39,40,41,42,43,44,45,46,47,48]), ([0,1,2,3,5,6,7,8,9,10,11,12,13,14,15,16,17,18,19,20,21,22,23,24,25,26,27], [21,22,23,24,26,27,28,29,30,31,32,33,34,35,36,37,38,39,40,41,42,43,44,45,46,47,48]), ([0,1,2,3,4,6,9,12,13,14,15,16,17,18,19,20,21,22,23,24,25,26], [21,22,23,24,25,27,30,33,34,35,36,37,38,39,40,41,42,43,44,45,46,47]), ([0,1,2,3,4,5,9,12,13,14,15,16,17,18,19,20,21,22,23,24,25,26], [21,22,23,24,25,26,30,33,34,35,36,37,38,39,40,41,42,43,44,45,46,47]), ([0,1,2,3,4,9,12,13,14,15,16,17,18,19,20,21,22,23,24,25,26], [21,22,23,24,25,30,33,34,35,36,37,38,39,40,41,42,43,44,45,46,47]), ([0,1,2,3,4,9,12,13,14,15,16,17,18,19,20,21,22,23,24,25,26], [21,22,23,24,25,30,33,34,35,36,37,38,39,40,41,42,43,44,45,46,47]), ([0,1,2,3,4,5,6,7,8,12,13,14,15,16,17,18,19,20,21,22,23,24,25,26], [21,22,23,24,25,26,27,28,29,33,34,35,36,37,38,39,40,41,42,43,44,45,46,47]), ([0,1,2,3,4,12,13,14,15,16,17,18,19,20,21,22,23,24,25,26], [21,22,23,24,25,33,34,35,36,37,38,39,40,41,42,43,44,45,46,47]), ([0,1,2,3,4,12,13,14,15,16,17,18,19,20,21,22,23,24,25,26], [21,22,23,24,25,33,34,35,36,37,38,39,40,41,42,43,44,45,46,47]), ([0,1,2,3,4,5,6,7,8,9,10,11,13,16,19,20,21,22,23,24,25], [21,22,23,24,25,26,27,28,29,30,31,32,34,37,40,41,42,43,44,45,46]), ([0,1,2,3,4,5,6,7,8,9,10,11,12,16,19,20,21,22,23,24,25], [21,22,23,24,25,26,27,28,29,30,31,32,33,37,40,41,42,43,44,45,46]), ([0,1,2,3,4,5,6,7,8,9,10,11,16,19,20,21,22,23,24,25], [21,22,23,24,25,26,27,28,29,30,31,32,37,40,41,42,43,44,45,46]), ([0,1,2,3,4,5,6,7,8,9,10,11,16,19,20,21,22,23,24,25], [21,22,23,24,25,26,27,28,29,30,31,32,37,40,41,42,43,44,45,46]), ([0,1,2,3,4,5,6,7,8,9,10,11,12,13,14,15,19,20,21,22,23,24,25], [21,22,23,24,25,26,27,28,29,30,31,32,33,34,35,36,40,41,42,43,44,45,46]), ([0,1,2,3,4,5,6,7,8,9,10,11,19,20,21,22,23,24,25], [21,22,23,24,25,26,27,28,29,30,31,32,40,41,42,43,44,45,46]), ([0,1,2,3,4,5,6,7,8,9,10,11,19,20,21,22,23,24,25], [21,22,23,24,25,26,27,28,29,30,31,32,40,41,42,43,44,45,46]), ([0,1,2,3,4,5,6,7,8,9,10,11,12,13,14,15,16,17,18,20,23], [21,22,23,24,25,26,27,28,29,30,31,32,33,34,35,36,37,38,39,41,44]), ([0,1,2,3,4,5,6,7,8,9,10,11,12,13,14,15,16,17,18,19,23], [21,22,23,24,25,26,27,28,29,30,31,32,33,34,35,36,37,38,39,40,44]), ([0,1,2,3,4,5,6,7,8,9,10,11,12,13,14,15,16,17,18,23], [21,22,23,24,25,26,27,28,29,30,31,32,33,34,35,36,37,38,39,44]), ([0,1,2,3,4,5,6,7,8,9,10,11,12,13,14,15,16,17,18,23], [21,22,23,24,25,26,27,28,29,30,31,32,33,34,35,36,37,38,39,44]), ([0,1,2,3,4,5,6,7,8,9,10,11,12,13,14,15,16,17,18,19,20,21,22], [21,22,23,24,25,26,27,28,29,30,31,32,33,34,35,36,37,38,39,40,41,42,43]), ([0,1,2,3,4,5,6,7,8,9,10,11,12,13,14,15,16,17,18], [21,22,23,24,25,26,27,28,29,30,31,32,33,34,35,36,37,38,39]), ([0,1,2,3,4,5,6,7,8,9,10,11,12,13,14,15,16,17,18], [21,22,23,24,25,26,27,28,29,30,31,32,33,34,35,36,37,38,39]), ([0,1,2,3,4,5,6,7,8,9,10,11], [21,22,23,24,25,26,27,28,29,30,31,32]), ([0,1,2,3,4], [21,22,23,24,25]), ([], []), ([], [])] s H) := qD r54_47.2
attribute [simp] r54_47
noncomputable def r54_48 : {l : List Oper // opsOf (cAt [1,0,1,0,0,1,1,0,0,1,1,0,0,1,1,0,0,1,0,1,0,0,1,1,1] B54) = l} := by
  apply Subtype.mk
  dsimp [B54, Try.f54]
@[simp] theorem n54_48 : evCode P Γ call n f m (cAt [1,0,1,0,0,1,1,0,0,1,1,0,0,1,1,0,0,1,0,1,0,0,1,1,1] B54) s H = regNext (evOpsGo P Γ call r54_48.1 r54_48.1 s H) := qR r54_48.2
attribute [simp] r54_48
@[simp] theorem n54_49 : evCode P Γ call n f m (cAt [1,0,1,0,0,1,1,0,0,1,1,0,0,1,1,0,0,1,1] B54) s H = seqNext P Γ call n f m (cAt [1,0,1,0,0,1,1,0,0,1,1,0,0,1,1,0,0,1,1,1] B54) (evCode P Γ call n f m (cAt [1,0,1,0,0,1,1,0,0,1,1,0,0,1,1,0,0,1,1,0] B54) s H) := qS
noncomputable def r54_50 : {l : List Oper // opsOf (cAt [1,0,1,0,0,1,1,0,0,1,1,0,0,1,1,0,0,1,1,0] B54) = l} := by
  apply Subtype.mk
  dsimp [B54, Try.f54]
@[simp] theorem n54_50 : evCode P Γ call n f m (cAt [1,0,1,0,0,1,1,0,0,1,1,0,0,1,1,0,0,1,1,0] B54) s H = regNext (evOpsGo P Γ call r54_50.1 r54_50.1 s H) := qR r54_50.2
attribute [simp] r54_50
@[simp] theorem n54_51 : evCode P Γ call n f m (cAt [1,0,1,0,0,1,1,0,0,1,1,0,0,1,1,0,0,1,1,1] B54) s H = condW P Γ call n f m (cAt [1,0,1,0,0,1,1,0,0,1,1,0,0,1,1,0,0,1,1,1,0] B54) (cAt [1,0,1,0,0,1,1,0,0,1,1,0,0,1,1,0,0,1,1,1,1] B54) s H (evOperand Γ s (.tmp 58)) := qC
@[simp] theorem n54_52 : evCode P Γ call n f m (cAt [1,0,1,0,0,1,1,0,0,1,1,0,0,1,1,0,0,1,1,1,0] B54) s H = seqNext P Γ call n f m (cAt [1,0,1,0,0,1,1,0,0,1,1,0,0,1,1,0,0,1,1,1,0,1] B54) (evCode P Γ call n f m (cAt [1,0,1,0,0,1,1,0,0,1,1,0,0,1,1,0,0,1,1,1,0,0] B54) s H) := qS
noncomputable def r54_53 : {l : List Oper // opsOf (cAt [1,0,1,0,0,1,1,0,0,1,1,0,0,1,1,0,0,1,1,1,0,0] B54) = l} := by
  apply Subtype.mk
  dsimp [B54, Try.f54]
@[simp] theorem n54_53 : evCode P Γ call n f m (cAt [1,0,1,0,0,1,1,0,0,1,1,0,0,1,1,0,0,1,1,1,0,0] B54) s H = regNext (evOpsGo P Γ call r54_53.1 r54_53.1 s H) := qR r54_53.2
attribute [simp] r54_53
@[simp] theorem n54_54 : evCode P Γ call n f m (cAt [1,0,1,0,0,1,1,0,0,1,1,0,0,1,1,0,0,1,1,1,0,1] B54) s H = some (.ret, s, H) := qT
@[simp] theorem n54_55 : evCode P Γ call n f m (cAt [1,0,1,0,0,1,1,0,0,1,1,0,0,1,1,0,0,1,1,1,1] B54) s H = some (.normal, s, H) := qK
noncomputable def r54_56 : {l : List Oper // opsOf (cAt [1,0,1,0,0,1,1,0,0,1,1,0,0,1,1,1] B54) = l} := by
  apply Subtype.mk
  dsimp [B54, Try.f54]
@[simp] theorem n54_56 : evCode P Γ call n f m (cAt [1,0,1,0,0,1,1,0,0,1,1,0,0,1,1,1] B54) s H = regNext (evOpsGo P Γ call r54_56.1 r54_56.1 s H) := qR r54_56.2
attribute [simp] r54_56
noncomputable def r54_57 : {l : List Oper // opsOf (cAt [1,0,1,0,0,1,1,1] B54) = l} := by
  apply Subtype.mk
  dsimp [B54, Try.f54]
@[simp] theorem n54_57 : evCode P Γ call n f m (cAt [1,0,1,0,0,1,1,1] B54) s H = regNext (evOpsGo P Γ call r54_57.1 r54_57.1 s H) := qR r54_57.2
attribute [simp] r54_57
@[simp] theorem n54_58 : evCode P Γ call n f m (cAt [1,1] B54) s H = seqNext P Γ call n f m (cAt [1,1,1] B54) (evCode P Γ call n f m (cAt [1,1,0] B54) s H) := qS
noncomputable def r54_59 : {l : List Oper // opsOf (cAt [1,1,0] B54) = l} := by
  apply Subtype.mk
  dsimp [B54, Try.f54]
@[simp] theorem n54_59 : evCode P Γ call n f m (cAt [1,1,0] B54) s H = regNext (evOpsGo P Γ call r54_59.1 r54_59.1 s H) := qR r54_59.2
attribute [simp] r54_59
@[simp] theorem n54_60 : evCode P Γ call n f m (cAt [1,1,1] B54) s H = some (.ret, s, H) := qT
theorem b54 {k : Nat} (ho : ∀ args H, Γ.orc 54 args H = none) (args : List V) (H : Heap) (ha : args.length ≤ 61) : evF Try.prog Γ (k + 1) 54 args H = bodyEnd Try.prog [.tmp 2] H.length (evCode Try.prog Γ (evF Try.prog Γ k) k 54 H.length (cAt [] B54) (mkL 61 V.undef (enumV 0 args)) H) := body_at Try.func54 (by decide) rfl ho rfl rfl args H ha
noncomputable def B76 : Code := bodyOf Try.f76
@[simp] theorem n76_1 : evCode P Γ call n f m (cAt [] B76) s H = seqNext P Γ call n f m (cAt [1] B76) (evCode P Γ call n f m (cAt [0] B76) s H) := qS
noncomputable def r76_2 : {l : List Oper // opsOf (cAt [0] B76) = l} := by
  apply Subtype.mk
  dsimp [B76, Try.f76]
@[simp] theorem n76_2 : evCode P Γ call n f m (cAt [0] B76) s H = regNext (evOpsGo P Γ call r76_2.1 r76_2.1 s H) := qR r76_2.2
attribute [simp] r76_2
noncomputable def r76_3 : {l : List Oper // opsOf (cAt [1] B76) = l} := by
  apply Subtype.mk
  dsimp [B76, Try.f76]
@[simp] theorem n76_3 : evCode P Γ call n f m (cAt [1] B76) s H = regNext (evOpsGo P Γ call r76_3.1 r76_3.1 s H) := qR r76_3.2
attribute [simp] r76_3
theorem b76 {k : Nat} (ho : ∀ args H, Γ.orc 76 args H = none) (args : List V) (H : Heap) (ha : args.length ≤ 21) : evF Try.prog Γ (k + 1) 76 args H = bodyEnd Try.prog [] H.length (evCode Try.prog Γ (evF Try.prog Γ k) k 76 H.length (cAt [] B76) (mkL 21 V.undef (enumV 0 args)) H) := body_at Try.func76 (by decide) rfl ho rfl rfl args H ha
noncomputable def B77 : Code := bodyOf Try.f77
@[simp] theorem n77_1 : evCode P Γ call n f m (cAt [] B77) s H = seqNext P Γ call n f m (cAt [1] B77) (evCode P Γ call n f m (cAt [0] B77) s H) := qS
noncomputable def r77_2 : {l : List Oper // opsOf (cAt [0] B77) = l} := by
  apply Subtype.mk
  dsimp [B77, Try.f77]
@[simp] theorem n77_2 : evCode P Γ call n f m (cAt [0] B77) s H = regNext (evOpsGo P Γ call r77_2.1 r77_2.1 s H) := qR r77_2.2
attribute [simp] r77_2
@[simp] theorem n77_3 : evCode P Γ call n f m (cAt [1] B77) s H = seqNext P Γ call n f m (cAt [1,1] B77) (evCode P Γ call n f m (cAt [1,0] B77) s H) := qS
@[simp] theorem n77_4 : evCode P Γ call n f m (cAt [1,0] B77) s H = seqNext P Γ call n f m (cAt [1,0,1] B77) (evCode P Γ call n f m (cAt [1,0,0] B77) s H) := qS
noncomputable def r77_5 : {l : List Oper // opsOf (cAt [1,0,0] B77) = l} := by
  apply Subtype.mk
  dsimp [B77, Try.f77]
@[simp] theorem n77_5 : evCode P Γ call n f m (cAt [1,0,0] B77) s H = regNext (evOpsGo P Γ call r77_5.1 r77_5.1 s H) := qR r77_5.2
attribute [simp] r77_5
@[simp] theorem n77_6 : evCode P Γ call n f m (cAt [1,0,1] B77) s H = condW P Γ call n f m (cAt [1,0,1,0] B77) (cAt [1,0,1,1] B77) s H (evOperand Γ s (.tmp 5)) := qC
@[simp] theorem n77_7 : evCode P Γ call n f m (cAt [1,0,1,0] B77) s H = seqNext P Γ call n f m (cAt [1,0,1,0,1] B77) (evCode P Γ call n f m (cAt [1,0,1,0,0] B77) s H) := qS
noncomputable def r77_8 : {l : List Oper // opsOf (cAt [1,0,1,0,0] B77) = l} := by
  apply Subtype.mk
  dsimp [B77, Try.f77]
@[simp] theorem n77_8 : evCode P Γ call n f m (cAt [1,0,1,0,0] B77) s H = regNext (evOpsGo P Γ call r77_8.1 r77_8.1 s H) := qR r77_8.2
attribute [simp] r77_8
@[simp] theorem n77_9 : evCode P Γ call n f m (cAt [1,0,1,0,1] B77) s H = some (.ret, s, H) := qT
@[simp] theorem n77_10 : evCode P Γ call n f m (cAt [1,0,1,1] B77) s H = some (.normal, s, H) := qK
@[simp] theorem n77_11 : evCode P Γ call n f m (cAt [1,1] B77) s H = seqNext P Γ call n f m (cAt [1,1,1] B77) (evCode P Γ call n f m (cAt [1,1,0] B77) s H) := qS
noncomputable def r77_12 : {l : List Oper // opsOf (cAt [1,1,0] B77) = l} := by
  apply Subtype.mk
  dsimp [B77, Try.f77]
@[simp] theorem n77_12 : evCode P Γ call n f m (cAt [1,1,0] B77) s H = regNext (evOpsGo P Γ call r77_12.1 r77_12.1 s H) := qR r77_12.2
attribute [simp] r77_12
@[simp] theorem n77_13 : evCode P Γ call n f m (cAt [1,1,1] B77) s H = some (.ret, s, H) := qT
theorem b77 {k : Nat} (ho : ∀ args H, Γ.orc 77 args H = none) (args : List V) (H : Heap) (ha : args.length ≤ 11) : evF Try.prog Γ (k + 1) 77 args H = bodyEnd Try.prog [.tmp 3] H.length (evCode Try.prog Γ (evF Try.prog Γ k) k 77 H.length (cAt [] B77) (mkL 11 V.undef (enumV 0 args)) H) := body_at Try.func77 (by decide) rfl ho rfl rfl args H ha
noncomputable def B89 : Code := bodyOf Try.f89
noncomputable def r89_1 : {l : List Oper // opsOf (cAt [] B89) = l} := by
  apply Subtype.mk
  dsimp [B89, Try.f89]
@[simp] theorem n89_1 : evCode P Γ call n f m (cAt [] B89) s H = regNext (drawR P Γ call r89_1.1 [([1,4,5,6,7,8,9,10,11,12,13], [9,12,13,14,15,16,17,18,19,20,21]), ([0,4,5,6,7,8,9,10,11,12,13], [8,12,13,14,15,16,17,18,19,20,21]), ([4,5,6,7,8,9,10,11,12,13], [12,13,14,15,16,17,18,19,20,21]), ([4,5,6,7,8,9,10,11,12,13], [12,13,14,15,16,17,18,19,20,21]), ([0,1,2,3,5,6,7,8,9,10,11,12,13], [8,9,10,11,13,14,15,16,17,18,19,20,21]), ([0,1,2,3,4,6,9,12], [8,9,10,11,12,14,17,20]), ([0,1,2,3,4,5,9,12], [8,9,10,11,12,13,17,20]), ([0,1,2,3,4,9,12], [8,9,10,11,12,17,20]), ([0,1,2,3,4,9,12], [8,9,10,11,12,17,20]), ([0,1,2,3,4,5,6,7,8,12], [8,9,10,11,12,13,14,15,16,20]), ([0,1,2,3,4,12], [8,9,10,11,12,20]), ([0,1,2,3,4,12], [8,9,10,11,12,20]), ([0,1,2,3,4,5,6,7,8,9,10,11], [8,9,10,11,12,13,14,15,16,17,18,19]), ([0,1,2,3,4], [8,9,10,11,12]), ([], []), ([], [])] s H) := qD r89_1.2
attribute [simp] r89_1
theorem b89 {k : Nat} (ho : ∀ args H, Γ.orc 89 args H = none) (args : List V) (H : Heap) (ha : args.length ≤ 23) : evF Try.prog Γ (k + 1) 89 args H = bodyEnd Try.prog [] H.length (evCode Try.prog Γ (evF Try.prog Γ k) k 89 H.length (cAt [] B89) (mkL 23 V.undef (enumV 0 args)) H) := body_at Try.func89 (by decide) rfl ho rfl rfl args H ha
end
end Go.Ev.Try
