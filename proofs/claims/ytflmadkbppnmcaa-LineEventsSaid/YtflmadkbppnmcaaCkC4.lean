/-
  CODE BY NAMES, printed by wip/tools/codes.py (own work).
-/
import Derived.Test.YtflmadkbppnmcaaCkG
set_option maxRecDepth 100000
set_option linter.unusedVariables false
namespace Go.Ev.Try
open Go Go.Ev Go.Proofs
section
variable {P : Program} {Γ : Env} {call : CallF} {n f m : Nat}

noncomputable def B4 : Code := bodyOf Try.f4
@[simp] theorem n4_1 (s : List V) (H : Heap) : evCode P Γ call n f m (cAt [] B4) s H = seqNext P Γ call n f m (cAt [1] B4) (evCode P Γ call n f m (cAt [0] B4) s H) := at_seq (by kernel_rfl) rfl rfl s H
noncomputable def r4_2 : {l : List Oper // opsOf (cAt [0] B4) = l} := by
  apply Subtype.mk
  dsimp only [opsOf, cAt, kids, B4, bodyOf, Try.f4, List.getD, List.getElem?_cons_zero, List.getElem?_cons_succ, Option.getD_some]
@[simp] theorem n4_2 (s : List V) (H : Heap) : evCode P Γ call n f m (cAt [0] B4) s H = regNext (evOpsGo P Γ call r4_2.1 r4_2.1 s H) := at_region (by kernel_rfl) r4_2.2 s H
attribute [simp] r4_2
@[simp] theorem n4_3 (s : List V) (H : Heap) : evCode P Γ call n f m (cAt [1] B4) s H = seqNext P Γ call n f m (cAt [1, 1] B4) (evCode P Γ call n f m (cAt [1, 0] B4) s H) := at_seq (by kernel_rfl) rfl rfl s H
noncomputable def r4_4 : {l : List Oper // opsOf (cAt [1, 0] B4) = l} := by
  apply Subtype.mk
  dsimp only [opsOf, cAt, kids, B4, bodyOf, Try.f4, List.getD, List.getElem?_cons_zero, List.getElem?_cons_succ, Option.getD_some]
@[simp] theorem n4_4 (s : List V) (H : Heap) : evCode P Γ call n f m (cAt [1, 0] B4) s H = regNext (evOpsGo P Γ call r4_4.1 r4_4.1 s H) := at_region (by kernel_rfl) r4_4.2 s H
attribute [simp] r4_4
@[simp] theorem n4_5 (s : List V) (H : Heap) : evCode P Γ call n f m (cAt [1, 1] B4) s H = seqNext P Γ call n f m (cAt [1, 1, 1] B4) (evCode P Γ call n f m (cAt [1, 1, 0] B4) s H) := at_seq (by kernel_rfl) rfl rfl s H
@[simp] theorem n4_6 (s : List V) (H : Heap) : evCode P Γ call n f m (cAt [1, 1, 0] B4) s H = seqNext P Γ call n f m (cAt [1, 1, 0, 1] B4) (evCode P Γ call n f m (cAt [1, 1, 0, 0] B4) s H) := at_seq (by kernel_rfl) rfl rfl s H
noncomputable def r4_7 : {l : List Oper // opsOf (cAt [1, 1, 0, 0] B4) = l} := by
  apply Subtype.mk
  dsimp only [opsOf, cAt, kids, B4, bodyOf, Try.f4, List.getD, List.getElem?_cons_zero, List.getElem?_cons_succ, Option.getD_some]
@[simp] theorem n4_7 (s : List V) (H : Heap) : evCode P Γ call n f m (cAt [1, 1, 0, 0] B4) s H = regNext (evOpsGo P Γ call r4_7.1 r4_7.1 s H) := at_region (by kernel_rfl) r4_7.2 s H
attribute [simp] r4_7
@[simp] theorem n4_8 (s : List V) (H : Heap) : evCode P Γ call n f m (cAt [1, 1, 0, 1] B4) s H = seqNext P Γ call n f m (cAt [1, 1, 0, 1, 1] B4) (evCode P Γ call n f m (cAt [1, 1, 0, 1, 0] B4) s H) := at_seq (by kernel_rfl) rfl rfl s H
noncomputable def r4_9 : {l : List Oper // opsOf (cAt [1, 1, 0, 1, 0] B4) = l} := by
  apply Subtype.mk
  dsimp only [opsOf, cAt, kids, B4, bodyOf, Try.f4, List.getD, List.getElem?_cons_zero, List.getElem?_cons_succ, Option.getD_some]
@[simp] theorem n4_9 (s : List V) (H : Heap) : evCode P Γ call n f m (cAt [1, 1, 0, 1, 0] B4) s H = regNext (evOpsGo P Γ call r4_9.1 r4_9.1 s H) := at_region (by kernel_rfl) r4_9.2 s H
attribute [simp] r4_9
@[simp] theorem n4_10 (s : List V) (H : Heap) : evCode P Γ call n f m (cAt [1, 1, 0, 1, 1] B4) s H = condW P Γ call n f m (cAt [1, 1, 0, 1, 1, 0] B4) (cAt [1, 1, 0, 1, 1, 1] B4) s H (evOperand Γ s (.tmp 20)) := at_cond (by kernel_rfl) (by kernel_rfl) rfl rfl s H
@[simp] theorem n4_11 (s : List V) (H : Heap) : evCode P Γ call n f m (cAt [1, 1, 0, 1, 1, 0] B4) s H = seqNext P Γ call n f m (cAt [1, 1, 0, 1, 1, 0, 1] B4) (evCode P Γ call n f m (cAt [1, 1, 0, 1, 1, 0, 0] B4) s H) := at_seq (by kernel_rfl) rfl rfl s H
noncomputable def r4_12 : {l : List Oper // opsOf (cAt [1, 1, 0, 1, 1, 0, 0] B4) = l} := by
  apply Subtype.mk
  dsimp only [opsOf, cAt, kids, B4, bodyOf, Try.f4, List.getD, List.getElem?_cons_zero, List.getElem?_cons_succ, Option.getD_some]
@[simp] theorem n4_12 (s : List V) (H : Heap) : evCode P Γ call n f m (cAt [1, 1, 0, 1, 1, 0, 0] B4) s H = regNext (evOpsGo P Γ call r4_12.1 r4_12.1 s H) := at_region (by kernel_rfl) r4_12.2 s H
attribute [simp] r4_12
@[simp] theorem n4_13 (s : List V) (H : Heap) : evCode P Γ call n f m (cAt [1, 1, 0, 1, 1, 0, 1] B4) s H = some (.ret, s, H) := at_ret (by kernel_rfl) s H
@[simp] theorem n4_14 (s : List V) (H : Heap) : evCode P Γ call n f m (cAt [1, 1, 0, 1, 1, 1] B4) s H = some (.normal, s, H) := at_skip (by kernel_rfl) s H
@[simp] theorem n4_15 (s : List V) (H : Heap) : evCode P Γ call n f m (cAt [1, 1, 1] B4) s H = seqNext P Γ call n f m (cAt [1, 1, 1, 1] B4) (evCode P Γ call n f m (cAt [1, 1, 1, 0] B4) s H) := at_seq (by kernel_rfl) rfl rfl s H
@[simp] theorem n4_16 (s : List V) (H : Heap) : evCode P Γ call n f m (cAt [1, 1, 1, 0] B4) s H = seqNext P Γ call n f m (cAt [1, 1, 1, 0, 1] B4) (evCode P Γ call n f m (cAt [1, 1, 1, 0, 0] B4) s H) := at_seq (by kernel_rfl) rfl rfl s H
noncomputable def r4_17 : {l : List Oper // opsOf (cAt [1, 1, 1, 0, 0] B4) = l} := by
  apply Subtype.mk
  dsimp only [opsOf, cAt, kids, B4, bodyOf, Try.f4, List.getD, List.getElem?_cons_zero, List.getElem?_cons_succ, Option.getD_some]
@[simp] theorem n4_17 (s : List V) (H : Heap) : evCode P Γ call n f m (cAt [1, 1, 1, 0, 0] B4) s H = regNext (evOpsGo P Γ call r4_17.1 r4_17.1 s H) := at_region (by kernel_rfl) r4_17.2 s H
attribute [simp] r4_17
@[simp] theorem n4_18 (s : List V) (H : Heap) : evCode P Γ call n f m (cAt [1, 1, 1, 0, 1] B4) s H = seqNext P Γ call n f m (cAt [1, 1, 1, 0, 1, 1] B4) (evCode P Γ call n f m (cAt [1, 1, 1, 0, 1, 0] B4) s H) := at_seq (by kernel_rfl) rfl rfl s H
noncomputable def r4_19 : {l : List Oper // opsOf (cAt [1, 1, 1, 0, 1, 0] B4) = l} := by
  apply Subtype.mk
  dsimp only [opsOf, cAt, kids, B4, bodyOf, Try.f4, List.getD, List.getElem?_cons_zero, List.getElem?_cons_succ, Option.getD_some]
@[simp] theorem n4_19 (s : List V) (H : Heap) : evCode P Γ call n f m (cAt [1, 1, 1, 0, 1, 0] B4) s H = regNext (evOpsGo P Γ call r4_19.1 r4_19.1 s H) := at_region (by kernel_rfl) r4_19.2 s H
attribute [simp] r4_19
@[simp] theorem n4_20 (s : List V) (H : Heap) : evCode P Γ call n f m (cAt [1, 1, 1, 0, 1, 1] B4) s H = condW P Γ call n f m (cAt [1, 1, 1, 0, 1, 1, 0] B4) (cAt [1, 1, 1, 0, 1, 1, 1] B4) s H (evOperand Γ s (.tmp 38)) := at_cond (by kernel_rfl) (by kernel_rfl) rfl rfl s H
@[simp] theorem n4_21 (s : List V) (H : Heap) : evCode P Γ call n f m (cAt [1, 1, 1, 0, 1, 1, 0] B4) s H = seqNext P Γ call n f m (cAt [1, 1, 1, 0, 1, 1, 0, 1] B4) (evCode P Γ call n f m (cAt [1, 1, 1, 0, 1, 1, 0, 0] B4) s H) := at_seq (by kernel_rfl) rfl rfl s H
noncomputable def r4_22 : {l : List Oper // opsOf (cAt [1, 1, 1, 0, 1, 1, 0, 0] B4) = l} := by
  apply Subtype.mk
  dsimp only [opsOf, cAt, kids, B4, bodyOf, Try.f4, List.getD, List.getElem?_cons_zero, List.getElem?_cons_succ, Option.getD_some]
@[simp] theorem n4_22 (s : List V) (H : Heap) : evCode P Γ call n f m (cAt [1, 1, 1, 0, 1, 1, 0, 0] B4) s H = regNext (evOpsGo P Γ call r4_22.1 r4_22.1 s H) := at_region (by kernel_rfl) r4_22.2 s H
attribute [simp] r4_22
@[simp] theorem n4_23 (s : List V) (H : Heap) : evCode P Γ call n f m (cAt [1, 1, 1, 0, 1, 1, 0, 1] B4) s H = some (.ret, s, H) := at_ret (by kernel_rfl) s H
@[simp] theorem n4_24 (s : List V) (H : Heap) : evCode P Γ call n f m (cAt [1, 1, 1, 0, 1, 1, 1] B4) s H = some (.normal, s, H) := at_skip (by kernel_rfl) s H
@[simp] theorem n4_25 (s : List V) (H : Heap) : evCode P Γ call n f m (cAt [1, 1, 1, 1] B4) s H = seqNext P Γ call n f m (cAt [1, 1, 1, 1, 1] B4) (evCode P Γ call n f m (cAt [1, 1, 1, 1, 0] B4) s H) := at_seq (by kernel_rfl) rfl rfl s H
noncomputable def r4_26 : {l : List Oper // opsOf (cAt [1, 1, 1, 1, 0] B4) = l} := by
  apply Subtype.mk
  dsimp only [opsOf, cAt, kids, B4, bodyOf, Try.f4, List.getD, List.getElem?_cons_zero, List.getElem?_cons_succ, Option.getD_some]
@[simp] theorem n4_26 (s : List V) (H : Heap) : evCode P Γ call n f m (cAt [1, 1, 1, 1, 0] B4) s H = regNext (evOpsGo P Γ call r4_26.1 r4_26.1 s H) := at_region (by kernel_rfl) r4_26.2 s H
attribute [simp] r4_26
@[simp] theorem n4_27 (s : List V) (H : Heap) : evCode P Γ call n f m (cAt [1, 1, 1, 1, 1] B4) s H = some (.ret, s, H) := at_ret (by kernel_rfl) s H
theorem b4 {k : Nat} (ho : ∀ args H, Γ.orc 4 args H = none) (args : List V) (H : Heap) (ha : args.length ≤ 61) : evF Try.prog Γ (k + 1) 4 args H = bodyEnd Try.prog [.tmp 4] H.length (evCode Try.prog Γ (evF Try.prog Γ k) k 4 H.length (cAt [] B4) (mkL 61 V.undef (enumV 0 args)) H) := body_at Try.func4 (by decide) rfl ho rfl rfl args H ha
end
end Go.Ev.Try
