/-
  CODE BY NAMES, printed by wip/tools/codes.py (own work).
-/
import Derived.Test.YtflmadkbppnmcaaDoorDkG
set_option maxRecDepth 100000
set_option linter.unusedVariables false
namespace Go.Ev.Tryd
open Go Go.Ev Go.Proofs
section
variable {P : Program} {Γ : Env} {call : CallF} {n f m : Nat}

noncomputable def B13 : Code := bodyOf Tryd.f13
@[simp] theorem n13_1 (s : List V) (H : Heap) : evCode P Γ call n f m (cAt [] B13) s H = seqNext P Γ call n f m (cAt [1] B13) (evCode P Γ call n f m (cAt [0] B13) s H) := at_seq (by kernel_rfl) rfl rfl s H
noncomputable def r13_2 : {l : List Oper // opsOf (cAt [0] B13) = l} := by
  apply Subtype.mk
  dsimp only [opsOf, cAt, kids, B13, bodyOf, Tryd.f13, List.getD, List.getElem?_cons_zero, List.getElem?_cons_succ, Option.getD_some]
@[simp] theorem n13_2 (s : List V) (H : Heap) : evCode P Γ call n f m (cAt [0] B13) s H = regNext (evOpsGo P Γ call r13_2.1 r13_2.1 s H) := at_region (by kernel_rfl) r13_2.2 s H
attribute [simp] r13_2
@[simp] theorem n13_3 (s : List V) (H : Heap) : evCode P Γ call n f m (cAt [1] B13) s H = seqNext P Γ call n f m (cAt [1, 1] B13) (evCode P Γ call n f m (cAt [1, 0] B13) s H) := at_seq (by kernel_rfl) rfl rfl s H
@[simp] theorem n13_4 (s : List V) (H : Heap) : evCode P Γ call n f m (cAt [1, 0] B13) s H = seqNext P Γ call n f m (cAt [1, 0, 1] B13) (evCode P Γ call n f m (cAt [1, 0, 0] B13) s H) := at_seq (by kernel_rfl) rfl rfl s H
noncomputable def r13_5 : {l : List Oper // opsOf (cAt [1, 0, 0] B13) = l} := by
  apply Subtype.mk
  dsimp only [opsOf, cAt, kids, B13, bodyOf, Tryd.f13, List.getD, List.getElem?_cons_zero, List.getElem?_cons_succ, Option.getD_some]
@[simp] theorem n13_5 (s : List V) (H : Heap) : evCode P Γ call n f m (cAt [1, 0, 0] B13) s H = regNext (evOpsGo P Γ call r13_5.1 r13_5.1 s H) := at_region (by kernel_rfl) r13_5.2 s H
attribute [simp] r13_5
@[simp] theorem n13_6 (s : List V) (H : Heap) : evCode P Γ call n f m (cAt [1, 0, 1] B13) s H = seqNext P Γ call n f m (cAt [1, 0, 1, 1] B13) (evCode P Γ call n f m (cAt [1, 0, 1, 0] B13) s H) := at_seq (by kernel_rfl) rfl rfl s H
noncomputable def r13_7 : {l : List Oper // opsOf (cAt [1, 0, 1, 0] B13) = l} := by
  apply Subtype.mk
  dsimp only [opsOf, cAt, kids, B13, bodyOf, Tryd.f13, List.getD, List.getElem?_cons_zero, List.getElem?_cons_succ, Option.getD_some]
@[simp] theorem n13_7 (s : List V) (H : Heap) : evCode P Γ call n f m (cAt [1, 0, 1, 0] B13) s H = regNext (evOpsGo P Γ call r13_7.1 r13_7.1 s H) := at_region (by kernel_rfl) r13_7.2 s H
attribute [simp] r13_7
@[simp] theorem n13_8 (s : List V) (H : Heap) : evCode P Γ call n f m (cAt [1, 0, 1, 1] B13) s H = condW P Γ call n f m (cAt [1, 0, 1, 1, 0] B13) (cAt [1, 0, 1, 1, 1] B13) s H (evOperand Γ s (.tmp 18)) := at_cond (by kernel_rfl) (by kernel_rfl) rfl rfl s H
@[simp] theorem n13_9 (s : List V) (H : Heap) : evCode P Γ call n f m (cAt [1, 0, 1, 1, 0] B13) s H = seqNext P Γ call n f m (cAt [1, 0, 1, 1, 0, 1] B13) (evCode P Γ call n f m (cAt [1, 0, 1, 1, 0, 0] B13) s H) := at_seq (by kernel_rfl) rfl rfl s H
noncomputable def r13_10 : {l : List Oper // opsOf (cAt [1, 0, 1, 1, 0, 0] B13) = l} := by
  apply Subtype.mk
  dsimp only [opsOf, cAt, kids, B13, bodyOf, Tryd.f13, List.getD, List.getElem?_cons_zero, List.getElem?_cons_succ, Option.getD_some]
@[simp] theorem n13_10 (s : List V) (H : Heap) : evCode P Γ call n f m (cAt [1, 0, 1, 1, 0, 0] B13) s H = regNext (evOpsGo P Γ call r13_10.1 r13_10.1 s H) := at_region (by kernel_rfl) r13_10.2 s H
attribute [simp] r13_10
@[simp] theorem n13_11 (s : List V) (H : Heap) : evCode P Γ call n f m (cAt [1, 0, 1, 1, 0, 1] B13) s H = some (.ret, s, H) := at_ret (by kernel_rfl) s H
@[simp] theorem n13_12 (s : List V) (H : Heap) : evCode P Γ call n f m (cAt [1, 0, 1, 1, 1] B13) s H = some (.normal, s, H) := at_skip (by kernel_rfl) s H
@[simp] theorem n13_13 (s : List V) (H : Heap) : evCode P Γ call n f m (cAt [1, 1] B13) s H = seqNext P Γ call n f m (cAt [1, 1, 1] B13) (evCode P Γ call n f m (cAt [1, 1, 0] B13) s H) := at_seq (by kernel_rfl) rfl rfl s H
@[simp] theorem n13_14 (s : List V) (H : Heap) : evCode P Γ call n f m (cAt [1, 1, 0] B13) s H = seqNext P Γ call n f m (cAt [1, 1, 0, 1] B13) (evCode P Γ call n f m (cAt [1, 1, 0, 0] B13) s H) := at_seq (by kernel_rfl) rfl rfl s H
noncomputable def r13_15 : {l : List Oper // opsOf (cAt [1, 1, 0, 0] B13) = l} := by
  apply Subtype.mk
  dsimp only [opsOf, cAt, kids, B13, bodyOf, Tryd.f13, List.getD, List.getElem?_cons_zero, List.getElem?_cons_succ, Option.getD_some]
@[simp] theorem n13_15 (s : List V) (H : Heap) : evCode P Γ call n f m (cAt [1, 1, 0, 0] B13) s H = regNext (evOpsGo P Γ call r13_15.1 r13_15.1 s H) := at_region (by kernel_rfl) r13_15.2 s H
attribute [simp] r13_15
@[simp] theorem n13_16 (s : List V) (H : Heap) : evCode P Γ call n f m (cAt [1, 1, 0, 1] B13) s H = condW P Γ call n f m (cAt [1, 1, 0, 1, 0] B13) (cAt [1, 1, 0, 1, 1] B13) s H (evOperand Γ s (.tmp 31)) := at_cond (by kernel_rfl) (by kernel_rfl) rfl rfl s H
@[simp] theorem n13_17 (s : List V) (H : Heap) : evCode P Γ call n f m (cAt [1, 1, 0, 1, 0] B13) s H = seqNext P Γ call n f m (cAt [1, 1, 0, 1, 0, 1] B13) (evCode P Γ call n f m (cAt [1, 1, 0, 1, 0, 0] B13) s H) := at_seq (by kernel_rfl) rfl rfl s H
noncomputable def r13_18 : {l : List Oper // opsOf (cAt [1, 1, 0, 1, 0, 0] B13) = l} := by
  apply Subtype.mk
  dsimp only [opsOf, cAt, kids, B13, bodyOf, Tryd.f13, List.getD, List.getElem?_cons_zero, List.getElem?_cons_succ, Option.getD_some]
@[simp] theorem n13_18 (s : List V) (H : Heap) : evCode P Γ call n f m (cAt [1, 1, 0, 1, 0, 0] B13) s H = regNext (evOpsGo P Γ call r13_18.1 r13_18.1 s H) := at_region (by kernel_rfl) r13_18.2 s H
attribute [simp] r13_18
@[simp] theorem n13_19 (s : List V) (H : Heap) : evCode P Γ call n f m (cAt [1, 1, 0, 1, 0, 1] B13) s H = some (.ret, s, H) := at_ret (by kernel_rfl) s H
@[simp] theorem n13_20 (s : List V) (H : Heap) : evCode P Γ call n f m (cAt [1, 1, 0, 1, 1] B13) s H = some (.normal, s, H) := at_skip (by kernel_rfl) s H
@[simp] theorem n13_21 (s : List V) (H : Heap) : evCode P Γ call n f m (cAt [1, 1, 1] B13) s H = seqNext P Γ call n f m (cAt [1, 1, 1, 1] B13) (evCode P Γ call n f m (cAt [1, 1, 1, 0] B13) s H) := at_seq (by kernel_rfl) rfl rfl s H
noncomputable def r13_22 : {l : List Oper // opsOf (cAt [1, 1, 1, 0] B13) = l} := by
  apply Subtype.mk
  dsimp only [opsOf, cAt, kids, B13, bodyOf, Tryd.f13, List.getD, List.getElem?_cons_zero, List.getElem?_cons_succ, Option.getD_some]
@[simp] theorem n13_22 (s : List V) (H : Heap) : evCode P Γ call n f m (cAt [1, 1, 1, 0] B13) s H = regNext (evOpsGo P Γ call r13_22.1 r13_22.1 s H) := at_region (by kernel_rfl) r13_22.2 s H
attribute [simp] r13_22
@[simp] theorem n13_23 (s : List V) (H : Heap) : evCode P Γ call n f m (cAt [1, 1, 1, 1] B13) s H = seqNext P Γ call n f m (cAt [1, 1, 1, 1, 1] B13) (evCode P Γ call n f m (cAt [1, 1, 1, 1, 0] B13) s H) := at_seq (by kernel_rfl) rfl rfl s H
@[simp] theorem n13_24 (s : List V) (H : Heap) : evCode P Γ call n f m (cAt [1, 1, 1, 1, 0] B13) s H = seqNext P Γ call n f m (cAt [1, 1, 1, 1, 0, 1] B13) (evCode P Γ call n f m (cAt [1, 1, 1, 1, 0, 0] B13) s H) := at_seq (by kernel_rfl) rfl rfl s H
noncomputable def r13_25 : {l : List Oper // opsOf (cAt [1, 1, 1, 1, 0, 0] B13) = l} := by
  apply Subtype.mk
  dsimp only [opsOf, cAt, kids, B13, bodyOf, Tryd.f13, List.getD, List.getElem?_cons_zero, List.getElem?_cons_succ, Option.getD_some]
@[simp] theorem n13_25 (s : List V) (H : Heap) : evCode P Γ call n f m (cAt [1, 1, 1, 1, 0, 0] B13) s H = regNext (evOpsGo P Γ call r13_25.1 r13_25.1 s H) := at_region (by kernel_rfl) r13_25.2 s H
attribute [simp] r13_25
@[simp] theorem n13_26 (s : List V) (H : Heap) : evCode P Γ call n f m (cAt [1, 1, 1, 1, 0, 1] B13) s H = condW P Γ call n f m (cAt [1, 1, 1, 1, 0, 1, 0] B13) (cAt [1, 1, 1, 1, 0, 1, 1] B13) s H (evOperand Γ s (.tmp 39)) := at_cond (by kernel_rfl) (by kernel_rfl) rfl rfl s H
@[simp] theorem n13_27 (s : List V) (H : Heap) : evCode P Γ call n f m (cAt [1, 1, 1, 1, 0, 1, 0] B13) s H = seqNext P Γ call n f m (cAt [1, 1, 1, 1, 0, 1, 0, 1] B13) (evCode P Γ call n f m (cAt [1, 1, 1, 1, 0, 1, 0, 0] B13) s H) := at_seq (by kernel_rfl) rfl rfl s H
noncomputable def r13_28 : {l : List Oper // opsOf (cAt [1, 1, 1, 1, 0, 1, 0, 0] B13) = l} := by
  apply Subtype.mk
  dsimp only [opsOf, cAt, kids, B13, bodyOf, Tryd.f13, List.getD, List.getElem?_cons_zero, List.getElem?_cons_succ, Option.getD_some]
@[simp] theorem n13_28 (s : List V) (H : Heap) : evCode P Γ call n f m (cAt [1, 1, 1, 1, 0, 1, 0, 0] B13) s H = regNext (evOpsGo P Γ call r13_28.1 r13_28.1 s H) := at_region (by kernel_rfl) r13_28.2 s H
attribute [simp] r13_28
@[simp] theorem n13_29 (s : List V) (H : Heap) : evCode P Γ call n f m (cAt [1, 1, 1, 1, 0, 1, 0, 1] B13) s H = some (.ret, s, H) := at_ret (by kernel_rfl) s H
@[simp] theorem n13_30 (s : List V) (H : Heap) : evCode P Γ call n f m (cAt [1, 1, 1, 1, 0, 1, 1] B13) s H = some (.normal, s, H) := at_skip (by kernel_rfl) s H
@[simp] theorem n13_31 (s : List V) (H : Heap) : evCode P Γ call n f m (cAt [1, 1, 1, 1, 1] B13) s H = seqNext P Γ call n f m (cAt [1, 1, 1, 1, 1, 1] B13) (evCode P Γ call n f m (cAt [1, 1, 1, 1, 1, 0] B13) s H) := at_seq (by kernel_rfl) rfl rfl s H
noncomputable def r13_32 : {l : List Oper // opsOf (cAt [1, 1, 1, 1, 1, 0] B13) = l} := by
  apply Subtype.mk
  dsimp only [opsOf, cAt, kids, B13, bodyOf, Tryd.f13, List.getD, List.getElem?_cons_zero, List.getElem?_cons_succ, Option.getD_some]
@[simp] theorem n13_32 (s : List V) (H : Heap) : evCode P Γ call n f m (cAt [1, 1, 1, 1, 1, 0] B13) s H = regNext (evOpsGo P Γ call r13_32.1 r13_32.1 s H) := at_region (by kernel_rfl) r13_32.2 s H
attribute [simp] r13_32
@[simp] theorem n13_33 (s : List V) (H : Heap) : evCode P Γ call n f m (cAt [1, 1, 1, 1, 1, 1] B13) s H = seqNext P Γ call n f m (cAt [1, 1, 1, 1, 1, 1, 1] B13) (evCode P Γ call n f m (cAt [1, 1, 1, 1, 1, 1, 0] B13) s H) := at_seq (by kernel_rfl) rfl rfl s H
noncomputable def r13_34 : {l : List Oper // opsOf (cAt [1, 1, 1, 1, 1, 1, 0] B13) = l} := by
  apply Subtype.mk
  dsimp only [opsOf, cAt, kids, B13, bodyOf, Tryd.f13, List.getD, List.getElem?_cons_zero, List.getElem?_cons_succ, Option.getD_some]
@[simp] theorem n13_34 (s : List V) (H : Heap) : evCode P Γ call n f m (cAt [1, 1, 1, 1, 1, 1, 0] B13) s H = regNext (evOpsGo P Γ call r13_34.1 r13_34.1 s H) := at_region (by kernel_rfl) r13_34.2 s H
attribute [simp] r13_34
@[simp] theorem n13_35 (s : List V) (H : Heap) : evCode P Γ call n f m (cAt [1, 1, 1, 1, 1, 1, 1] B13) s H = some (.ret, s, H) := at_ret (by kernel_rfl) s H
theorem b13 {k : Nat} (ho : ∀ args H, Γ.orc 13 args H = none) (args : List V) (H : Heap) (ha : args.length ≤ 56) : evF Tryd.prog Γ (k + 1) 13 args H = bodyEnd Tryd.prog [.tmp 8, .tmp 9] H.length (evCode Tryd.prog Γ (evF Tryd.prog Γ k) k 13 H.length (cAt [] B13) (mkL 56 V.undef (enumV 0 args)) H) := body_at Tryd.func13 (by decide) rfl ho rfl rfl args H ha
end
end Go.Ev.Tryd
