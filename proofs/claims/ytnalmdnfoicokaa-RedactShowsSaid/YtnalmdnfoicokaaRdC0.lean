/-
  CODE BY NAMES, printed by wip/tools/codes.py (own work).
-/
import Derived.Test.YtnalmdnfoicokaaRdG
set_option maxRecDepth 100000
set_option linter.unusedVariables false
namespace Go.Ev.Try
open Go Go.Ev Go.Proofs
section
variable {P : Program} {Γ : Env} {call : CallF} {n f m : Nat}

noncomputable def B13 : Code := bodyOf Try.f13
@[simp] theorem n13_1 (s : List V) (H : Heap) : evCode P Γ call n f m (cAt [] B13) s H = seqNext P Γ call n f m (cAt [1] B13) (evCode P Γ call n f m (cAt [0] B13) s H) := at_seq (by kernel_rfl) rfl rfl s H
noncomputable def r13_2 : {l : List Oper // opsOf (cAt [0] B13) = l} := by
  apply Subtype.mk
  dsimp only [opsOf, cAt, kids, B13, bodyOf, Try.f13, List.getD, List.getElem?_cons_zero, List.getElem?_cons_succ, Option.getD_some]
@[simp] theorem n13_2 (s : List V) (H : Heap) : evCode P Γ call n f m (cAt [0] B13) s H = regNext (evOpsGo P Γ call r13_2.1 r13_2.1 s H) := at_region (by kernel_rfl) r13_2.2 s H
attribute [simp] r13_2
@[simp] theorem n13_3 (s : List V) (H : Heap) : evCode P Γ call n f m (cAt [1] B13) s H = seqNext P Γ call n f m (cAt [1, 1] B13) (evCode P Γ call n f m (cAt [1, 0] B13) s H) := at_seq (by kernel_rfl) rfl rfl s H
@[simp] theorem n13_4 (s : List V) (H : Heap) : evCode P Γ call n f m (cAt [1, 0] B13) s H = seqNext P Γ call n f m (cAt [1, 0, 1] B13) (evCode P Γ call n f m (cAt [1, 0, 0] B13) s H) := at_seq (by kernel_rfl) rfl rfl s H
noncomputable def r13_5 : {l : List Oper // opsOf (cAt [1, 0, 0] B13) = l} := by
  apply Subtype.mk
  dsimp only [opsOf, cAt, kids, B13, bodyOf, Try.f13, List.getD, List.getElem?_cons_zero, List.getElem?_cons_succ, Option.getD_some]
@[simp] theorem n13_5 (s : List V) (H : Heap) : evCode P Γ call n f m (cAt [1, 0, 0] B13) s H = regNext (evOpsGo P Γ call r13_5.1 r13_5.1 s H) := at_region (by kernel_rfl) r13_5.2 s H
attribute [simp] r13_5
@[simp] theorem n13_6 (s : List V) (H : Heap) : evCode P Γ call n f m (cAt [1, 0, 1] B13) s H = condW P Γ call n f m (cAt [1, 0, 1, 0] B13) (cAt [1, 0, 1, 1] B13) s H (evOperand Γ s (.tmp 4)) := at_cond (by kernel_rfl) (by kernel_rfl) rfl rfl s H
@[simp] theorem n13_7 (s : List V) (H : Heap) : evCode P Γ call n f m (cAt [1, 0, 1, 0] B13) s H = seqNext P Γ call n f m (cAt [1, 0, 1, 0, 1] B13) (evCode P Γ call n f m (cAt [1, 0, 1, 0, 0] B13) s H) := at_seq (by kernel_rfl) rfl rfl s H
noncomputable def r13_8 : {l : List Oper // opsOf (cAt [1, 0, 1, 0, 0] B13) = l} := by
  apply Subtype.mk
  dsimp only [opsOf, cAt, kids, B13, bodyOf, Try.f13, List.getD, List.getElem?_cons_zero, List.getElem?_cons_succ, Option.getD_some]
@[simp] theorem n13_8 (s : List V) (H : Heap) : evCode P Γ call n f m (cAt [1, 0, 1, 0, 0] B13) s H = regNext (evOpsGo P Γ call r13_8.1 r13_8.1 s H) := at_region (by kernel_rfl) r13_8.2 s H
attribute [simp] r13_8
@[simp] theorem n13_9 (s : List V) (H : Heap) : evCode P Γ call n f m (cAt [1, 0, 1, 0, 1] B13) s H = some (.ret, s, H) := at_ret (by kernel_rfl) s H
@[simp] theorem n13_10 (s : List V) (H : Heap) : evCode P Γ call n f m (cAt [1, 0, 1, 1] B13) s H = some (.normal, s, H) := at_skip (by kernel_rfl) s H
@[simp] theorem n13_11 (s : List V) (H : Heap) : evCode P Γ call n f m (cAt [1, 1] B13) s H = seqNext P Γ call n f m (cAt [1, 1, 1] B13) (evCode P Γ call n f m (cAt [1, 1, 0] B13) s H) := at_seq (by kernel_rfl) rfl rfl s H
noncomputable def r13_12 : {l : List Oper // opsOf (cAt [1, 1, 0] B13) = l} := by
  apply Subtype.mk
  dsimp only [opsOf, cAt, kids, B13, bodyOf, Try.f13, List.getD, List.getElem?_cons_zero, List.getElem?_cons_succ, Option.getD_some]
@[simp] theorem n13_12 (s : List V) (H : Heap) : evCode P Γ call n f m (cAt [1, 1, 0] B13) s H = regNext (evOpsGo P Γ call r13_12.1 r13_12.1 s H) := at_region (by kernel_rfl) r13_12.2 s H
attribute [simp] r13_12
@[simp] theorem n13_13 (s : List V) (H : Heap) : evCode P Γ call n f m (cAt [1, 1, 1] B13) s H = some (.ret, s, H) := at_ret (by kernel_rfl) s H
theorem b13 {k : Nat} (ho : ∀ args H, Γ.orc 13 args H = none) (args : List V) (H : Heap) (ha : args.length ≤ 8) : evF Try.prog Γ (k + 1) 13 args H = bodyEnd Try.prog [.tmp 2] H.length (evCode Try.prog Γ (evF Try.prog Γ k) k 13 H.length (cAt [] B13) (mkL 8 V.undef (enumV 0 args)) H) := body_at Try.func13 (by decide) rfl ho rfl rfl args H ha
noncomputable def B26 : Code := bodyOf Try.f26
@[simp] theorem n26_1 (s : List V) (H : Heap) : evCode P Γ call n f m (cAt [] B26) s H = seqNext P Γ call n f m (cAt [1] B26) (evCode P Γ call n f m (cAt [0] B26) s H) := at_seq (by kernel_rfl) rfl rfl s H
noncomputable def r26_2 : {l : List Oper // opsOf (cAt [0] B26) = l} := by
  apply Subtype.mk
  dsimp only [opsOf, cAt, kids, B26, bodyOf, Try.f26, List.getD, List.getElem?_cons_zero, List.getElem?_cons_succ, Option.getD_some]
@[simp] theorem n26_2 (s : List V) (H : Heap) : evCode P Γ call n f m (cAt [0] B26) s H = regNext (evOpsGo P Γ call r26_2.1 r26_2.1 s H) := at_region (by kernel_rfl) r26_2.2 s H
attribute [simp] r26_2
@[simp] theorem n26_3 (s : List V) (H : Heap) : evCode P Γ call n f m (cAt [1] B26) s H = seqNext P Γ call n f m (cAt [1, 1] B26) (evCode P Γ call n f m (cAt [1, 0] B26) s H) := at_seq (by kernel_rfl) rfl rfl s H
noncomputable def r26_4 : {l : List Oper // opsOf (cAt [1, 0] B26) = l} := by
  apply Subtype.mk
  dsimp only [opsOf, cAt, kids, B26, bodyOf, Try.f26, List.getD, List.getElem?_cons_zero, List.getElem?_cons_succ, Option.getD_some]
@[simp] theorem n26_4 (s : List V) (H : Heap) : evCode P Γ call n f m (cAt [1, 0] B26) s H = regNext (evOpsGo P Γ call r26_4.1 r26_4.1 s H) := at_region (by kernel_rfl) r26_4.2 s H
attribute [simp] r26_4
@[simp] theorem n26_5 (s : List V) (H : Heap) : evCode P Γ call n f m (cAt [1, 1] B26) s H = seqNext P Γ call n f m (cAt [1, 1, 1] B26) (evCode P Γ call n f m (cAt [1, 1, 0] B26) s H) := at_seq (by kernel_rfl) rfl rfl s H
@[simp] theorem n26_6 (s : List V) (H : Heap) : evCode P Γ call n f m (cAt [1, 1, 0] B26) s H = seqNext P Γ call n f m (cAt [1, 1, 0, 1] B26) (evCode P Γ call n f m (cAt [1, 1, 0, 0] B26) s H) := at_seq (by kernel_rfl) rfl rfl s H
noncomputable def r26_7 : {l : List Oper // opsOf (cAt [1, 1, 0, 0] B26) = l} := by
  apply Subtype.mk
  dsimp only [opsOf, cAt, kids, B26, bodyOf, Try.f26, List.getD, List.getElem?_cons_zero, List.getElem?_cons_succ, Option.getD_some]
@[simp] theorem n26_7 (s : List V) (H : Heap) : evCode P Γ call n f m (cAt [1, 1, 0, 0] B26) s H = regNext (evOpsGo P Γ call r26_7.1 r26_7.1 s H) := at_region (by kernel_rfl) r26_7.2 s H
attribute [simp] r26_7
@[simp] theorem n26_8 (s : List V) (H : Heap) : evCode P Γ call n f m (cAt [1, 1, 0, 1] B26) s H = condW P Γ call n f m (cAt [1, 1, 0, 1, 0] B26) (cAt [1, 1, 0, 1, 1] B26) s H (evOperand Γ s (.tmp 9)) := at_cond (by kernel_rfl) (by kernel_rfl) rfl rfl s H
noncomputable def r26_9 : {l : List Oper // opsOf (cAt [1, 1, 0, 1, 0] B26) = l} := by
  apply Subtype.mk
  dsimp only [opsOf, cAt, kids, B26, bodyOf, Try.f26, List.getD, List.getElem?_cons_zero, List.getElem?_cons_succ, Option.getD_some]
@[simp] theorem n26_9 (s : List V) (H : Heap) : evCode P Γ call n f m (cAt [1, 1, 0, 1, 0] B26) s H = regNext (evOpsGo P Γ call r26_9.1 r26_9.1 s H) := at_region (by kernel_rfl) r26_9.2 s H
attribute [simp] r26_9
@[simp] theorem n26_10 (s : List V) (H : Heap) : evCode P Γ call n f m (cAt [1, 1, 0, 1, 1] B26) s H = some (.normal, s, H) := at_skip (by kernel_rfl) s H
@[simp] theorem n26_11 (s : List V) (H : Heap) : evCode P Γ call n f m (cAt [1, 1, 1] B26) s H = seqNext P Γ call n f m (cAt [1, 1, 1, 1] B26) (evCode P Γ call n f m (cAt [1, 1, 1, 0] B26) s H) := at_seq (by kernel_rfl) rfl rfl s H
noncomputable def r26_12 : {l : List Oper // opsOf (cAt [1, 1, 1, 0] B26) = l} := by
  apply Subtype.mk
  dsimp only [opsOf, cAt, kids, B26, bodyOf, Try.f26, List.getD, List.getElem?_cons_zero, List.getElem?_cons_succ, Option.getD_some]
@[simp] theorem n26_12 (s : List V) (H : Heap) : evCode P Γ call n f m (cAt [1, 1, 1, 0] B26) s H = regNext (evOpsGo P Γ call r26_12.1 r26_12.1 s H) := at_region (by kernel_rfl) r26_12.2 s H
attribute [simp] r26_12
@[simp] theorem n26_13 (s : List V) (H : Heap) : evCode P Γ call n f m (cAt [1, 1, 1, 1] B26) s H = some (.ret, s, H) := at_ret (by kernel_rfl) s H
theorem b26 {k : Nat} (ho : ∀ args H, Γ.orc 26 args H = none) (args : List V) (H : Heap) (ha : args.length ≤ 14) : evF Try.prog Γ (k + 1) 26 args H = bodyEnd Try.prog [.tmp 4] H.length (evCode Try.prog Γ (evF Try.prog Γ k) k 26 H.length (cAt [] B26) (mkL 14 V.undef (enumV 0 args)) H) := body_at Try.func26 (by decide) rfl ho rfl rfl args H ha
noncomputable def B41 : Code := bodyOf Try.f41
@[simp] theorem n41_1 (s : List V) (H : Heap) : evCode P Γ call n f m (cAt [] B41) s H = seqNext P Γ call n f m (cAt [1] B41) (evCode P Γ call n f m (cAt [0] B41) s H) := at_seq (by kernel_rfl) rfl rfl s H
noncomputable def r41_2 : {l : List Oper // opsOf (cAt [0] B41) = l} := by
  apply Subtype.mk
  dsimp only [opsOf, cAt, kids, B41, bodyOf, Try.f41, List.getD, List.getElem?_cons_zero, List.getElem?_cons_succ, Option.getD_some]
@[simp] theorem n41_2 (s : List V) (H : Heap) : evCode P Γ call n f m (cAt [0] B41) s H = regNext (evOpsGo P Γ call r41_2.1 r41_2.1 s H) := at_region (by kernel_rfl) r41_2.2 s H
attribute [simp] r41_2
@[simp] theorem n41_3 (s : List V) (H : Heap) : evCode P Γ call n f m (cAt [1] B41) s H = seqNext P Γ call n f m (cAt [1, 1] B41) (evCode P Γ call n f m (cAt [1, 0] B41) s H) := at_seq (by kernel_rfl) rfl rfl s H
@[simp] theorem n41_4 (s : List V) (H : Heap) : evCode P Γ call n f m (cAt [1, 0] B41) s H = seqNext P Γ call n f m (cAt [1, 0, 1] B41) (evCode P Γ call n f m (cAt [1, 0, 0] B41) s H) := at_seq (by kernel_rfl) rfl rfl s H
noncomputable def r41_5 : {l : List Oper // opsOf (cAt [1, 0, 0] B41) = l} := by
  apply Subtype.mk
  dsimp only [opsOf, cAt, kids, B41, bodyOf, Try.f41, List.getD, List.getElem?_cons_zero, List.getElem?_cons_succ, Option.getD_some]
@[simp] theorem n41_5 (s : List V) (H : Heap) : evCode P Γ call n f m (cAt [1, 0, 0] B41) s H = regNext (evOpsGo P Γ call r41_5.1 r41_5.1 s H) := at_region (by kernel_rfl) r41_5.2 s H
attribute [simp] r41_5
@[simp] theorem n41_6 (s : List V) (H : Heap) : evCode P Γ call n f m (cAt [1, 0, 1] B41) s H = condW P Γ call n f m (cAt [1, 0, 1, 0] B41) (cAt [1, 0, 1, 1] B41) s H (evOperand Γ s (.tmp 15)) := at_cond (by kernel_rfl) (by kernel_rfl) rfl rfl s H
@[simp] theorem n41_7 (s : List V) (H : Heap) : evCode P Γ call n f m (cAt [1, 0, 1, 0] B41) s H = seqNext P Γ call n f m (cAt [1, 0, 1, 0, 1] B41) (evCode P Γ call n f m (cAt [1, 0, 1, 0, 0] B41) s H) := at_seq (by kernel_rfl) rfl rfl s H
noncomputable def r41_8 : {l : List Oper // opsOf (cAt [1, 0, 1, 0, 0] B41) = l} := by
  apply Subtype.mk
  dsimp only [opsOf, cAt, kids, B41, bodyOf, Try.f41, List.getD, List.getElem?_cons_zero, List.getElem?_cons_succ, Option.getD_some]
@[simp] theorem n41_8 (s : List V) (H : Heap) : evCode P Γ call n f m (cAt [1, 0, 1, 0, 0] B41) s H = regNext (evOpsGo P Γ call r41_8.1 r41_8.1 s H) := at_region (by kernel_rfl) r41_8.2 s H
attribute [simp] r41_8
@[simp] theorem n41_9 (s : List V) (H : Heap) : evCode P Γ call n f m (cAt [1, 0, 1, 0, 1] B41) s H = some (.ret, s, H) := at_ret (by kernel_rfl) s H
@[simp] theorem n41_10 (s : List V) (H : Heap) : evCode P Γ call n f m (cAt [1, 0, 1, 1] B41) s H = some (.normal, s, H) := at_skip (by kernel_rfl) s H
@[simp] theorem n41_11 (s : List V) (H : Heap) : evCode P Γ call n f m (cAt [1, 1] B41) s H = seqNext P Γ call n f m (cAt [1, 1, 1] B41) (evCode P Γ call n f m (cAt [1, 1, 0] B41) s H) := at_seq (by kernel_rfl) rfl rfl s H
noncomputable def r41_12 : {l : List Oper // opsOf (cAt [1, 1, 0] B41) = l} := by
  apply Subtype.mk
  dsimp only [opsOf, cAt, kids, B41, bodyOf, Try.f41, List.getD, List.getElem?_cons_zero, List.getElem?_cons_succ, Option.getD_some]
@[simp] theorem n41_12 (s : List V) (H : Heap) : evCode P Γ call n f m (cAt [1, 1, 0] B41) s H = regNext (evOpsGo P Γ call r41_12.1 r41_12.1 s H) := at_region (by kernel_rfl) r41_12.2 s H
attribute [simp] r41_12
@[simp] theorem n41_13 (s : List V) (H : Heap) : evCode P Γ call n f m (cAt [1, 1, 1] B41) s H = seqNext P Γ call n f m (cAt [1, 1, 1, 1] B41) (evCode P Γ call n f m (cAt [1, 1, 1, 0] B41) s H) := at_seq (by kernel_rfl) rfl rfl s H
noncomputable def r41_14 : {l : List Oper // opsOf (cAt [1, 1, 1, 0] B41) = l} := by
  apply Subtype.mk
  dsimp only [opsOf, cAt, kids, B41, bodyOf, Try.f41, List.getD, List.getElem?_cons_zero, List.getElem?_cons_succ, Option.getD_some]
@[simp] theorem n41_14 (s : List V) (H : Heap) : evCode P Γ call n f m (cAt [1, 1, 1, 0] B41) s H = regNext (evOpsGo P Γ call r41_14.1 r41_14.1 s H) := at_region (by kernel_rfl) r41_14.2 s H
attribute [simp] r41_14
@[simp] theorem n41_15 (s : List V) (H : Heap) : evCode P Γ call n f m (cAt [1, 1, 1, 1] B41) s H = seqNext P Γ call n f m (cAt [1, 1, 1, 1, 1] B41) (evCode P Γ call n f m (cAt [1, 1, 1, 1, 0] B41) s H) := at_seq (by kernel_rfl) rfl rfl s H
noncomputable def r41_16 : {l : List Oper // opsOf (cAt [1, 1, 1, 1, 0] B41) = l} := by
  apply Subtype.mk
  dsimp only [opsOf, cAt, kids, B41, bodyOf, Try.f41, List.getD, List.getElem?_cons_zero, List.getElem?_cons_succ, Option.getD_some]
@[simp] theorem n41_16 (s : List V) (H : Heap) : evCode P Γ call n f m (cAt [1, 1, 1, 1, 0] B41) s H = regNext (evOpsGo P Γ call r41_16.1 r41_16.1 s H) := at_region (by kernel_rfl) r41_16.2 s H
attribute [simp] r41_16
@[simp] theorem n41_17 (s : List V) (H : Heap) : evCode P Γ call n f m (cAt [1, 1, 1, 1, 1] B41) s H = some (.ret, s, H) := at_ret (by kernel_rfl) s H
theorem b41 {k : Nat} (ho : ∀ args H, Γ.orc 41 args H = none) (args : List V) (H : Heap) (ha : args.length ≤ 33) : evF Try.prog Γ (k + 1) 41 args H = bodyEnd Try.prog [.tmp 4] H.length (evCode Try.prog Γ (evF Try.prog Γ k) k 41 H.length (cAt [] B41) (mkL 33 V.undef (enumV 0 args)) H) := body_at Try.func41 (by decide) rfl ho rfl rfl args H ha
noncomputable def B37 : Code := bodyOf Try.f37
@[simp] theorem n37_1 (s : List V) (H : Heap) : evCode P Γ call n f m (cAt [] B37) s H = seqNext P Γ call n f m (cAt [1] B37) (evCode P Γ call n f m (cAt [0] B37) s H) := at_seq (by kernel_rfl) rfl rfl s H
noncomputable def r37_2 : {l : List Oper // opsOf (cAt [0] B37) = l} := by
  apply Subtype.mk
  dsimp only [opsOf, cAt, kids, B37, bodyOf, Try.f37, List.getD, List.getElem?_cons_zero, List.getElem?_cons_succ, Option.getD_some]
@[simp] theorem n37_2 (s : List V) (H : Heap) : evCode P Γ call n f m (cAt [0] B37) s H = regNext (evOpsGo P Γ call r37_2.1 r37_2.1 s H) := at_region (by kernel_rfl) r37_2.2 s H
attribute [simp] r37_2
@[simp] theorem n37_3 (s : List V) (H : Heap) : evCode P Γ call n f m (cAt [1] B37) s H = seqNext P Γ call n f m (cAt [1, 1] B37) (evCode P Γ call n f m (cAt [1, 0] B37) s H) := at_seq (by kernel_rfl) rfl rfl s H
@[simp] theorem n37_4 (s : List V) (H : Heap) : evCode P Γ call n f m (cAt [1, 0] B37) s H = seqNext P Γ call n f m (cAt [1, 0, 1] B37) (evCode P Γ call n f m (cAt [1, 0, 0] B37) s H) := at_seq (by kernel_rfl) rfl rfl s H
noncomputable def r37_5 : {l : List Oper // opsOf (cAt [1, 0, 0] B37) = l} := by
  apply Subtype.mk
  dsimp only [opsOf, cAt, kids, B37, bodyOf, Try.f37, List.getD, List.getElem?_cons_zero, List.getElem?_cons_succ, Option.getD_some]
@[simp] theorem n37_5 (s : List V) (H : Heap) : evCode P Γ call n f m (cAt [1, 0, 0] B37) s H = regNext (evOpsGo P Γ call r37_5.1 r37_5.1 s H) := at_region (by kernel_rfl) r37_5.2 s H
attribute [simp] r37_5
@[simp] theorem n37_6 (s : List V) (H : Heap) : evCode P Γ call n f m (cAt [1, 0, 1] B37) s H = condW P Γ call n f m (cAt [1, 0, 1, 0] B37) (cAt [1, 0, 1, 1] B37) s H (evOperand Γ s (.tmp 23)) := at_cond (by kernel_rfl) (by kernel_rfl) rfl rfl s H
@[simp] theorem n37_7 (s : List V) (H : Heap) : evCode P Γ call n f m (cAt [1, 0, 1, 0] B37) s H = seqNext P Γ call n f m (cAt [1, 0, 1, 0, 1] B37) (evCode P Γ call n f m (cAt [1, 0, 1, 0, 0] B37) s H) := at_seq (by kernel_rfl) rfl rfl s H
noncomputable def r37_8 : {l : List Oper // opsOf (cAt [1, 0, 1, 0, 0] B37) = l} := by
  apply Subtype.mk
  dsimp only [opsOf, cAt, kids, B37, bodyOf, Try.f37, List.getD, List.getElem?_cons_zero, List.getElem?_cons_succ, Option.getD_some]
@[simp] theorem n37_8 (s : List V) (H : Heap) : evCode P Γ call n f m (cAt [1, 0, 1, 0, 0] B37) s H = regNext (evOpsGo P Γ call r37_8.1 r37_8.1 s H) := at_region (by kernel_rfl) r37_8.2 s H
attribute [simp] r37_8
@[simp] theorem n37_9 (s : List V) (H : Heap) : evCode P Γ call n f m (cAt [1, 0, 1, 0, 1] B37) s H = some (.ret, s, H) := at_ret (by kernel_rfl) s H
@[simp] theorem n37_10 (s : List V) (H : Heap) : evCode P Γ call n f m (cAt [1, 0, 1, 1] B37) s H = some (.normal, s, H) := at_skip (by kernel_rfl) s H
@[simp] theorem n37_11 (s : List V) (H : Heap) : evCode P Γ call n f m (cAt [1, 1] B37) s H = seqNext P Γ call n f m (cAt [1, 1, 1] B37) (evCode P Γ call n f m (cAt [1, 1, 0] B37) s H) := at_seq (by kernel_rfl) rfl rfl s H
noncomputable def r37_12 : {l : List Oper // opsOf (cAt [1, 1, 0] B37) = l} := by
  apply Subtype.mk
  dsimp only [opsOf, cAt, kids, B37, bodyOf, Try.f37, List.getD, List.getElem?_cons_zero, List.getElem?_cons_succ, Option.getD_some]
@[simp] theorem n37_12 (s : List V) (H : Heap) : evCode P Γ call n f m (cAt [1, 1, 0] B37) s H = regNext (evOpsGo P Γ call r37_12.1 r37_12.1 s H) := at_region (by kernel_rfl) r37_12.2 s H
attribute [simp] r37_12
@[simp] theorem n37_13 (s : List V) (H : Heap) : evCode P Γ call n f m (cAt [1, 1, 1] B37) s H = some (.ret, s, H) := at_ret (by kernel_rfl) s H
theorem b37 {k : Nat} (ho : ∀ args H, Γ.orc 37 args H = none) (args : List V) (H : Heap) (ha : args.length ≤ 24) : evF Try.prog Γ (k + 1) 37 args H = bodyEnd Try.prog [.tmp 2] H.length (evCode Try.prog Γ (evF Try.prog Γ k) k 37 H.length (cAt [] B37) (mkL 24 V.undef (enumV 0 args)) H) := body_at Try.func37 (by decide) rfl ho rfl rfl args H ha
noncomputable def B38 : Code := bodyOf Try.f38
@[simp] theorem n38_1 (s : List V) (H : Heap) : evCode P Γ call n f m (cAt [] B38) s H = seqNext P Γ call n f m (cAt [1] B38) (evCode P Γ call n f m (cAt [0] B38) s H) := at_seq (by kernel_rfl) rfl rfl s H
noncomputable def r38_2 : {l : List Oper // opsOf (cAt [0] B38) = l} := by
  apply Subtype.mk
  dsimp only [opsOf, cAt, kids, B38, bodyOf, Try.f38, List.getD, List.getElem?_cons_zero, List.getElem?_cons_succ, Option.getD_some]
@[simp] theorem n38_2 (s : List V) (H : Heap) : evCode P Γ call n f m (cAt [0] B38) s H = regNext (evOpsGo P Γ call r38_2.1 r38_2.1 s H) := at_region (by kernel_rfl) r38_2.2 s H
attribute [simp] r38_2
@[simp] theorem n38_3 (s : List V) (H : Heap) : evCode P Γ call n f m (cAt [1] B38) s H = seqNext P Γ call n f m (cAt [1, 1] B38) (evCode P Γ call n f m (cAt [1, 0] B38) s H) := at_seq (by kernel_rfl) rfl rfl s H
noncomputable def r38_4 : {l : List Oper // opsOf (cAt [1, 0] B38) = l} := by
  apply Subtype.mk
  dsimp only [opsOf, cAt, kids, B38, bodyOf, Try.f38, List.getD, List.getElem?_cons_zero, List.getElem?_cons_succ, Option.getD_some]
@[simp] theorem n38_4 (s : List V) (H : Heap) : evCode P Γ call n f m (cAt [1, 0] B38) s H = regNext (evOpsGo P Γ call r38_4.1 r38_4.1 s H) := at_region (by kernel_rfl) r38_4.2 s H
attribute [simp] r38_4
@[simp] theorem n38_5 (s : List V) (H : Heap) : evCode P Γ call n f m (cAt [1, 1] B38) s H = some (.ret, s, H) := at_ret (by kernel_rfl) s H
theorem b38 {k : Nat} (ho : ∀ args H, Γ.orc 38 args H = none) (args : List V) (H : Heap) (ha : args.length ≤ 8) : evF Try.prog Γ (k + 1) 38 args H = bodyEnd Try.prog [.tmp 2] H.length (evCode Try.prog Γ (evF Try.prog Γ k) k 38 H.length (cAt [] B38) (mkL 8 V.undef (enumV 0 args)) H) := body_at Try.func38 (by decide) rfl ho rfl rfl args H ha
noncomputable def B39 : Code := bodyOf Try.f39
@[simp] theorem n39_1 (s : List V) (H : Heap) : evCode P Γ call n f m (cAt [] B39) s H = seqNext P Γ call n f m (cAt [1] B39) (evCode P Γ call n f m (cAt [0] B39) s H) := at_seq (by kernel_rfl) rfl rfl s H
noncomputable def r39_2 : {l : List Oper // opsOf (cAt [0] B39) = l} := by
  apply Subtype.mk
  dsimp only [opsOf, cAt, kids, B39, bodyOf, Try.f39, List.getD, List.getElem?_cons_zero, List.getElem?_cons_succ, Option.getD_some]
@[simp] theorem n39_2 (s : List V) (H : Heap) : evCode P Γ call n f m (cAt [0] B39) s H = regNext (evOpsGo P Γ call r39_2.1 r39_2.1 s H) := at_region (by kernel_rfl) r39_2.2 s H
attribute [simp] r39_2
@[simp] theorem n39_3 (s : List V) (H : Heap) : evCode P Γ call n f m (cAt [1] B39) s H = seqNext P Γ call n f m (cAt [1, 1] B39) (evCode P Γ call n f m (cAt [1, 0] B39) s H) := at_seq (by kernel_rfl) rfl rfl s H
noncomputable def r39_4 : {l : List Oper // opsOf (cAt [1, 0] B39) = l} := by
  apply Subtype.mk
  dsimp only [opsOf, cAt, kids, B39, bodyOf, Try.f39, List.getD, List.getElem?_cons_zero, List.getElem?_cons_succ, Option.getD_some]
@[simp] theorem n39_4 (s : List V) (H : Heap) : evCode P Γ call n f m (cAt [1, 0] B39) s H = regNext (evOpsGo P Γ call r39_4.1 r39_4.1 s H) := at_region (by kernel_rfl) r39_4.2 s H
attribute [simp] r39_4
@[simp] theorem n39_5 (s : List V) (H : Heap) : evCode P Γ call n f m (cAt [1, 1] B39) s H = some (.ret, s, H) := at_ret (by kernel_rfl) s H
theorem b39 {k : Nat} (ho : ∀ args H, Γ.orc 39 args H = none) (args : List V) (H : Heap) (ha : args.length ≤ 13) : evF Try.prog Γ (k + 1) 39 args H = bodyEnd Try.prog [.cell 4 42] H.length (evCode Try.prog Γ (evF Try.prog Γ k) k 39 H.length (cAt [] B39) (mkL 13 V.undef (enumV 0 args)) H) := body_at Try.func39 (by decide) rfl ho rfl rfl args H ha
noncomputable def B40 : Code := bodyOf Try.f40
@[simp] theorem n40_1 (s : List V) (H : Heap) : evCode P Γ call n f m (cAt [] B40) s H = seqNext P Γ call n f m (cAt [1] B40) (evCode P Γ call n f m (cAt [0] B40) s H) := at_seq (by kernel_rfl) rfl rfl s H
noncomputable def r40_2 : {l : List Oper // opsOf (cAt [0] B40) = l} := by
  apply Subtype.mk
  dsimp only [opsOf, cAt, kids, B40, bodyOf, Try.f40, List.getD, List.getElem?_cons_zero, List.getElem?_cons_succ, Option.getD_some]
@[simp] theorem n40_2 (s : List V) (H : Heap) : evCode P Γ call n f m (cAt [0] B40) s H = regNext (evOpsGo P Γ call r40_2.1 r40_2.1 s H) := at_region (by kernel_rfl) r40_2.2 s H
attribute [simp] r40_2
@[simp] theorem n40_3 (s : List V) (H : Heap) : evCode P Γ call n f m (cAt [1] B40) s H = seqNext P Γ call n f m (cAt [1, 1] B40) (evCode P Γ call n f m (cAt [1, 0] B40) s H) := at_seq (by kernel_rfl) rfl rfl s H
noncomputable def r40_4 : {l : List Oper // opsOf (cAt [1, 0] B40) = l} := by
  apply Subtype.mk
  dsimp only [opsOf, cAt, kids, B40, bodyOf, Try.f40, List.getD, List.getElem?_cons_zero, List.getElem?_cons_succ, Option.getD_some]
@[simp] theorem n40_4 (s : List V) (H : Heap) : evCode P Γ call n f m (cAt [1, 0] B40) s H = regNext (evOpsGo P Γ call r40_4.1 r40_4.1 s H) := at_region (by kernel_rfl) r40_4.2 s H
attribute [simp] r40_4
@[simp] theorem n40_5 (s : List V) (H : Heap) : evCode P Γ call n f m (cAt [1, 1] B40) s H = seqNext P Γ call n f m (cAt [1, 1, 1] B40) (evCode P Γ call n f m (cAt [1, 1, 0] B40) s H) := at_seq (by kernel_rfl) rfl rfl s H
@[simp] theorem n40_6 (s : List V) (H : Heap) : evCode P Γ call n f m (cAt [1, 1, 0] B40) s H = seqNext P Γ call n f m (cAt [1, 1, 0, 1] B40) (evCode P Γ call n f m (cAt [1, 1, 0, 0] B40) s H) := at_seq (by kernel_rfl) rfl rfl s H
noncomputable def r40_7 : {l : List Oper // opsOf (cAt [1, 1, 0, 0] B40) = l} := by
  apply Subtype.mk
  dsimp only [opsOf, cAt, kids, B40, bodyOf, Try.f40, List.getD, List.getElem?_cons_zero, List.getElem?_cons_succ, Option.getD_some]
@[simp] theorem n40_7 (s : List V) (H : Heap) : evCode P Γ call n f m (cAt [1, 1, 0, 0] B40) s H = regNext (evOpsGo P Γ call r40_7.1 r40_7.1 s H) := at_region (by kernel_rfl) r40_7.2 s H
attribute [simp] r40_7
@[simp] theorem n40_8 (s : List V) (H : Heap) : evCode P Γ call n f m (cAt [1, 1, 0, 1] B40) s H = blockNext 0 (evCode P Γ call n f m (cAt [1, 1, 0, 1, 0] B40) s H) := at_block (by kernel_rfl) rfl s H
@[simp] theorem n40_9 (s : List V) (H : Heap) : evCode P Γ call n f m (cAt [1, 1, 0, 1, 0] B40) s H = evLoopC P Γ call n f m (cAt [1, 1, 0, 1, 0, 0] B40) n s H := at_loop (by kernel_rfl) rfl s H
noncomputable abbrev L40_3 : Code := cAt [1, 1, 0, 1, 0, 0] B40
@[simp] theorem n40_9f : firstRegion (cAt [1, 1, 0, 1, 0, 0] B40) = 3 := by kernel_rfl
@[simp] theorem n40_10 (s : List V) (H : Heap) : evCode P Γ call n f m (cAt [1, 1, 0, 1, 0, 0] B40) s H = seqNext P Γ call n f m (cAt [1, 1, 0, 1, 0, 0, 1] B40) (evCode P Γ call n f m (cAt [1, 1, 0, 1, 0, 0, 0] B40) s H) := at_seq (by kernel_rfl) rfl rfl s H
noncomputable def r40_11 : {l : List Oper // opsOf (cAt [1, 1, 0, 1, 0, 0, 0] B40) = l} := by
  apply Subtype.mk
  dsimp only [opsOf, cAt, kids, B40, bodyOf, Try.f40, List.getD, List.getElem?_cons_zero, List.getElem?_cons_succ, Option.getD_some]
@[simp] theorem n40_11 (s : List V) (H : Heap) : evCode P Γ call n f m (cAt [1, 1, 0, 1, 0, 0, 0] B40) s H = regNext (evOpsGo P Γ call r40_11.1 r40_11.1 s H) := at_region (by kernel_rfl) r40_11.2 s H
attribute [simp] r40_11
@[simp] theorem n40_12 (s : List V) (H : Heap) : evCode P Γ call n f m (cAt [1, 1, 0, 1, 0, 0, 1] B40) s H = seqNext P Γ call n f m (cAt [1, 1, 0, 1, 0, 0, 1, 1] B40) (evCode P Γ call n f m (cAt [1, 1, 0, 1, 0, 0, 1, 0] B40) s H) := at_seq (by kernel_rfl) rfl rfl s H
@[simp] theorem n40_13 (s : List V) (H : Heap) : evCode P Γ call n f m (cAt [1, 1, 0, 1, 0, 0, 1, 0] B40) s H = condW P Γ call n f m (cAt [1, 1, 0, 1, 0, 0, 1, 0, 0] B40) (cAt [1, 1, 0, 1, 0, 0, 1, 0, 1] B40) s H (evOperand Γ s (.tmp 9)) := at_cond (by kernel_rfl) (by kernel_rfl) rfl rfl s H
@[simp] theorem n40_14 (s : List V) (H : Heap) : evCode P Γ call n f m (cAt [1, 1, 0, 1, 0, 0, 1, 0, 0] B40) s H = some (.normal, s, H) := at_skip (by kernel_rfl) s H
@[simp] theorem n40_15 (s : List V) (H : Heap) : evCode P Γ call n f m (cAt [1, 1, 0, 1, 0, 0, 1, 0, 1] B40) s H = some (.exit 0, s, H) := at_exit (by kernel_rfl) s H
@[simp] theorem n40_16 (s : List V) (H : Heap) : evCode P Γ call n f m (cAt [1, 1, 0, 1, 0, 0, 1, 1] B40) s H = seqNext P Γ call n f m (cAt [1, 1, 0, 1, 0, 0, 1, 1, 1] B40) (evCode P Γ call n f m (cAt [1, 1, 0, 1, 0, 0, 1, 1, 0] B40) s H) := at_seq (by kernel_rfl) rfl rfl s H
@[simp] theorem n40_17 (s : List V) (H : Heap) : evCode P Γ call n f m (cAt [1, 1, 0, 1, 0, 0, 1, 1, 0] B40) s H = blockNext 1 (evCode P Γ call n f m (cAt [1, 1, 0, 1, 0, 0, 1, 1, 0, 0] B40) s H) := at_block (by kernel_rfl) rfl s H
@[simp] theorem n40_18 (s : List V) (H : Heap) : evCode P Γ call n f m (cAt [1, 1, 0, 1, 0, 0, 1, 1, 0, 0] B40) s H = seqNext P Γ call n f m (cAt [1, 1, 0, 1, 0, 0, 1, 1, 0, 0, 1] B40) (evCode P Γ call n f m (cAt [1, 1, 0, 1, 0, 0, 1, 1, 0, 0, 0] B40) s H) := at_seq (by kernel_rfl) rfl rfl s H
noncomputable def r40_19 : {l : List Oper // opsOf (cAt [1, 1, 0, 1, 0, 0, 1, 1, 0, 0, 0] B40) = l} := by
  apply Subtype.mk
  dsimp only [opsOf, cAt, kids, B40, bodyOf, Try.f40, List.getD, List.getElem?_cons_zero, List.getElem?_cons_succ, Option.getD_some]
@[simp] theorem n40_19 (s : List V) (H : Heap) : evCode P Γ call n f m (cAt [1, 1, 0, 1, 0, 0, 1, 1, 0, 0, 0] B40) s H = regNext (evOpsGo P Γ call r40_19.1 r40_19.1 s H) := at_region (by kernel_rfl) r40_19.2 s H
attribute [simp] r40_19
@[simp] theorem n40_20 (s : List V) (H : Heap) : evCode P Γ call n f m (cAt [1, 1, 0, 1, 0, 0, 1, 1, 0, 0, 1] B40) s H = seqNext P Γ call n f m (cAt [1, 1, 0, 1, 0, 0, 1, 1, 0, 0, 1, 1] B40) (evCode P Γ call n f m (cAt [1, 1, 0, 1, 0, 0, 1, 1, 0, 0, 1, 0] B40) s H) := at_seq (by kernel_rfl) rfl rfl s H
noncomputable def r40_21 : {l : List Oper // opsOf (cAt [1, 1, 0, 1, 0, 0, 1, 1, 0, 0, 1, 0] B40) = l} := by
  apply Subtype.mk
  dsimp only [opsOf, cAt, kids, B40, bodyOf, Try.f40, List.getD, List.getElem?_cons_zero, List.getElem?_cons_succ, Option.getD_some]
@[simp] theorem n40_21 (s : List V) (H : Heap) : evCode P Γ call n f m (cAt [1, 1, 0, 1, 0, 0, 1, 1, 0, 0, 1, 0] B40) s H = regNext (evOpsGo P Γ call r40_21.1 r40_21.1 s H) := at_region (by kernel_rfl) r40_21.2 s H
attribute [simp] r40_21
noncomputable def r40_22 : {l : List Oper // opsOf (cAt [1, 1, 0, 1, 0, 0, 1, 1, 0, 0, 1, 1] B40) = l} := by
  apply Subtype.mk
  dsimp only [opsOf, cAt, kids, B40, bodyOf, Try.f40, List.getD, List.getElem?_cons_zero, List.getElem?_cons_succ, Option.getD_some]
@[simp] theorem n40_22 (s : List V) (H : Heap) : evCode P Γ call n f m (cAt [1, 1, 0, 1, 0, 0, 1, 1, 0, 0, 1, 1] B40) s H = regNext (evOpsGo P Γ call r40_22.1 r40_22.1 s H) := at_region (by kernel_rfl) r40_22.2 s H
attribute [simp] r40_22
noncomputable def r40_23 : {l : List Oper // opsOf (cAt [1, 1, 0, 1, 0, 0, 1, 1, 1] B40) = l} := by
  apply Subtype.mk
  dsimp only [opsOf, cAt, kids, B40, bodyOf, Try.f40, List.getD, List.getElem?_cons_zero, List.getElem?_cons_succ, Option.getD_some]
@[simp] theorem n40_23 (s : List V) (H : Heap) : evCode P Γ call n f m (cAt [1, 1, 0, 1, 0, 0, 1, 1, 1] B40) s H = regNext (evOpsGo P Γ call r40_23.1 r40_23.1 s H) := at_region (by kernel_rfl) r40_23.2 s H
attribute [simp] r40_23
@[simp] theorem n40_24 (s : List V) (H : Heap) : evCode P Γ call n f m (cAt [1, 1, 1] B40) s H = seqNext P Γ call n f m (cAt [1, 1, 1, 1] B40) (evCode P Γ call n f m (cAt [1, 1, 1, 0] B40) s H) := at_seq (by kernel_rfl) rfl rfl s H
noncomputable def r40_25 : {l : List Oper // opsOf (cAt [1, 1, 1, 0] B40) = l} := by
  apply Subtype.mk
  dsimp only [opsOf, cAt, kids, B40, bodyOf, Try.f40, List.getD, List.getElem?_cons_zero, List.getElem?_cons_succ, Option.getD_some]
@[simp] theorem n40_25 (s : List V) (H : Heap) : evCode P Γ call n f m (cAt [1, 1, 1, 0] B40) s H = regNext (evOpsGo P Γ call r40_25.1 r40_25.1 s H) := at_region (by kernel_rfl) r40_25.2 s H
attribute [simp] r40_25
@[simp] theorem n40_26 (s : List V) (H : Heap) : evCode P Γ call n f m (cAt [1, 1, 1, 1] B40) s H = some (.ret, s, H) := at_ret (by kernel_rfl) s H
theorem b40 {k : Nat} (ho : ∀ args H, Γ.orc 40 args H = none) (args : List V) (H : Heap) (ha : args.length ≤ 23) : evF Try.prog Γ (k + 1) 40 args H = bodyEnd Try.prog [.tmp 2] H.length (evCode Try.prog Γ (evF Try.prog Γ k) k 40 H.length (cAt [] B40) (mkL 23 V.undef (enumV 0 args)) H) := body_at Try.func40 (by decide) rfl ho rfl rfl args H ha
noncomputable def B52 : Code := bodyOf Try.f52
@[simp] theorem n52_1 (s : List V) (H : Heap) : evCode P Γ call n f m (cAt [] B52) s H = seqNext P Γ call n f m (cAt [1] B52) (evCode P Γ call n f m (cAt [0] B52) s H) := at_seq (by kernel_rfl) rfl rfl s H
noncomputable def r52_2 : {l : List Oper // opsOf (cAt [0] B52) = l} := by
  apply Subtype.mk
  dsimp only [opsOf, cAt, kids, B52, bodyOf, Try.f52, List.getD, List.getElem?_cons_zero, List.getElem?_cons_succ, Option.getD_some]
@[simp] theorem n52_2 (s : List V) (H : Heap) : evCode P Γ call n f m (cAt [0] B52) s H = regNext (evOpsGo P Γ call r52_2.1 r52_2.1 s H) := at_region (by kernel_rfl) r52_2.2 s H
attribute [simp] r52_2
@[simp] theorem n52_3 (s : List V) (H : Heap) : evCode P Γ call n f m (cAt [1] B52) s H = seqNext P Γ call n f m (cAt [1, 1] B52) (evCode P Γ call n f m (cAt [1, 0] B52) s H) := at_seq (by kernel_rfl) rfl rfl s H
noncomputable def r52_4 : {l : List Oper // opsOf (cAt [1, 0] B52) = l} := by
  apply Subtype.mk
  dsimp only [opsOf, cAt, kids, B52, bodyOf, Try.f52, List.getD, List.getElem?_cons_zero, List.getElem?_cons_succ, Option.getD_some]
@[simp] theorem n52_4 (s : List V) (H : Heap) : evCode P Γ call n f m (cAt [1, 0] B52) s H = regNext (evOpsGo P Γ call r52_4.1 r52_4.1 s H) := at_region (by kernel_rfl) r52_4.2 s H
attribute [simp] r52_4
@[simp] theorem n52_5 (s : List V) (H : Heap) : evCode P Γ call n f m (cAt [1, 1] B52) s H = some (.ret, s, H) := at_ret (by kernel_rfl) s H
theorem b52 {k : Nat} (ho : ∀ args H, Γ.orc 52 args H = none) (args : List V) (H : Heap) (ha : args.length ≤ 8) : evF Try.prog Γ (k + 1) 52 args H = bodyEnd Try.prog [.tmp 2] H.length (evCode Try.prog Γ (evF Try.prog Γ k) k 52 H.length (cAt [] B52) (mkL 8 V.undef (enumV 0 args)) H) := body_at Try.func52 (by decide) rfl ho rfl rfl args H ha
noncomputable def B53 : Code := bodyOf Try.f53
@[simp] theorem n53_1 (s : List V) (H : Heap) : evCode P Γ call n f m (cAt [] B53) s H = seqNext P Γ call n f m (cAt [1] B53) (evCode P Γ call n f m (cAt [0] B53) s H) := at_seq (by kernel_rfl) rfl rfl s H
noncomputable def r53_2 : {l : List Oper // opsOf (cAt [0] B53) = l} := by
  apply Subtype.mk
  dsimp only [opsOf, cAt, kids, B53, bodyOf, Try.f53, List.getD, List.getElem?_cons_zero, List.getElem?_cons_succ, Option.getD_some]
@[simp] theorem n53_2 (s : List V) (H : Heap) : evCode P Γ call n f m (cAt [0] B53) s H = regNext (evOpsGo P Γ call r53_2.1 r53_2.1 s H) := at_region (by kernel_rfl) r53_2.2 s H
attribute [simp] r53_2
@[simp] theorem n53_3 (s : List V) (H : Heap) : evCode P Γ call n f m (cAt [1] B53) s H = seqNext P Γ call n f m (cAt [1, 1] B53) (evCode P Γ call n f m (cAt [1, 0] B53) s H) := at_seq (by kernel_rfl) rfl rfl s H
noncomputable def r53_4 : {l : List Oper // opsOf (cAt [1, 0] B53) = l} := by
  apply Subtype.mk
  dsimp only [opsOf, cAt, kids, B53, bodyOf, Try.f53, List.getD, List.getElem?_cons_zero, List.getElem?_cons_succ, Option.getD_some]
@[simp] theorem n53_4 (s : List V) (H : Heap) : evCode P Γ call n f m (cAt [1, 0] B53) s H = regNext (evOpsGo P Γ call r53_4.1 r53_4.1 s H) := at_region (by kernel_rfl) r53_4.2 s H
attribute [simp] r53_4
@[simp] theorem n53_5 (s : List V) (H : Heap) : evCode P Γ call n f m (cAt [1, 1] B53) s H = some (.ret, s, H) := at_ret (by kernel_rfl) s H
theorem b53 {k : Nat} (ho : ∀ args H, Γ.orc 53 args H = none) (args : List V) (H : Heap) (ha : args.length ≤ 11) : evF Try.prog Γ (k + 1) 53 args H = bodyEnd Try.prog [.tmp 2] H.length (evCode Try.prog Γ (evF Try.prog Γ k) k 53 H.length (cAt [] B53) (mkL 11 V.undef (enumV 0 args)) H) := body_at Try.func53 (by decide) rfl ho rfl rfl args H ha
noncomputable def B55 : Code := bodyOf Try.f55
@[simp] theorem n55_1 (s : List V) (H : Heap) : evCode P Γ call n f m (cAt [] B55) s H = seqNext P Γ call n f m (cAt [1] B55) (evCode P Γ call n f m (cAt [0] B55) s H) := at_seq (by kernel_rfl) rfl rfl s H
noncomputable def r55_2 : {l : List Oper // opsOf (cAt [0] B55) = l} := by
  apply Subtype.mk
  dsimp only [opsOf, cAt, kids, B55, bodyOf, Try.f55, List.getD, List.getElem?_cons_zero, List.getElem?_cons_succ, Option.getD_some]
@[simp] theorem n55_2 (s : List V) (H : Heap) : evCode P Γ call n f m (cAt [0] B55) s H = regNext (evOpsGo P Γ call r55_2.1 r55_2.1 s H) := at_region (by kernel_rfl) r55_2.2 s H
attribute [simp] r55_2
@[simp] theorem n55_3 (s : List V) (H : Heap) : evCode P Γ call n f m (cAt [1] B55) s H = seqNext P Γ call n f m (cAt [1, 1] B55) (evCode P Γ call n f m (cAt [1, 0] B55) s H) := at_seq (by kernel_rfl) rfl rfl s H
noncomputable def r55_4 : {l : List Oper // opsOf (cAt [1, 0] B55) = l} := by
  apply Subtype.mk
  dsimp only [opsOf, cAt, kids, B55, bodyOf, Try.f55, List.getD, List.getElem?_cons_zero, List.getElem?_cons_succ, Option.getD_some]
@[simp] theorem n55_4 (s : List V) (H : Heap) : evCode P Γ call n f m (cAt [1, 0] B55) s H = regNext (evOpsGo P Γ call r55_4.1 r55_4.1 s H) := at_region (by kernel_rfl) r55_4.2 s H
attribute [simp] r55_4
@[simp] theorem n55_5 (s : List V) (H : Heap) : evCode P Γ call n f m (cAt [1, 1] B55) s H = some (.ret, s, H) := at_ret (by kernel_rfl) s H
theorem b55 {k : Nat} (ho : ∀ args H, Γ.orc 55 args H = none) (args : List V) (H : Heap) (ha : args.length ≤ 10) : evF Try.prog Γ (k + 1) 55 args H = bodyEnd Try.prog [.tmp 4] H.length (evCode Try.prog Γ (evF Try.prog Γ k) k 55 H.length (cAt [] B55) (mkL 10 V.undef (enumV 0 args)) H) := body_at Try.func55 (by decide) rfl ho rfl rfl args H ha
noncomputable def B29 : Code := bodyOf Try.f29
@[simp] theorem n29_1 (s : List V) (H : Heap) : evCode P Γ call n f m (cAt [] B29) s H = seqNext P Γ call n f m (cAt [1] B29) (evCode P Γ call n f m (cAt [0] B29) s H) := at_seq (by kernel_rfl) rfl rfl s H
noncomputable def r29_2 : {l : List Oper // opsOf (cAt [0] B29) = l} := by
  apply Subtype.mk
  dsimp only [opsOf, cAt, kids, B29, bodyOf, Try.f29, List.getD, List.getElem?_cons_zero, List.getElem?_cons_succ, Option.getD_some]
@[simp] theorem n29_2 (s : List V) (H : Heap) : evCode P Γ call n f m (cAt [0] B29) s H = regNext (evOpsGo P Γ call r29_2.1 r29_2.1 s H) := at_region (by kernel_rfl) r29_2.2 s H
attribute [simp] r29_2
@[simp] theorem n29_3 (s : List V) (H : Heap) : evCode P Γ call n f m (cAt [1] B29) s H = seqNext P Γ call n f m (cAt [1, 1] B29) (evCode P Γ call n f m (cAt [1, 0] B29) s H) := at_seq (by kernel_rfl) rfl rfl s H
noncomputable def r29_4 : {l : List Oper // opsOf (cAt [1, 0] B29) = l} := by
  apply Subtype.mk
  dsimp only [opsOf, cAt, kids, B29, bodyOf, Try.f29, List.getD, List.getElem?_cons_zero, List.getElem?_cons_succ, Option.getD_some]
@[simp] theorem n29_4 (s : List V) (H : Heap) : evCode P Γ call n f m (cAt [1, 0] B29) s H = regNext (evOpsGo P Γ call r29_4.1 r29_4.1 s H) := at_region (by kernel_rfl) r29_4.2 s H
attribute [simp] r29_4
@[simp] theorem n29_5 (s : List V) (H : Heap) : evCode P Γ call n f m (cAt [1, 1] B29) s H = seqNext P Γ call n f m (cAt [1, 1, 1] B29) (evCode P Γ call n f m (cAt [1, 1, 0] B29) s H) := at_seq (by kernel_rfl) rfl rfl s H
@[simp] theorem n29_6 (s : List V) (H : Heap) : evCode P Γ call n f m (cAt [1, 1, 0] B29) s H = seqNext P Γ call n f m (cAt [1, 1, 0, 1] B29) (evCode P Γ call n f m (cAt [1, 1, 0, 0] B29) s H) := at_seq (by kernel_rfl) rfl rfl s H
noncomputable def r29_7 : {l : List Oper // opsOf (cAt [1, 1, 0, 0] B29) = l} := by
  apply Subtype.mk
  dsimp only [opsOf, cAt, kids, B29, bodyOf, Try.f29, List.getD, List.getElem?_cons_zero, List.getElem?_cons_succ, Option.getD_some]
@[simp] theorem n29_7 (s : List V) (H : Heap) : evCode P Γ call n f m (cAt [1, 1, 0, 0] B29) s H = regNext (evOpsGo P Γ call r29_7.1 r29_7.1 s H) := at_region (by kernel_rfl) r29_7.2 s H
attribute [simp] r29_7
@[simp] theorem n29_8 (s : List V) (H : Heap) : evCode P Γ call n f m (cAt [1, 1, 0, 1] B29) s H = blockNext 0 (evCode P Γ call n f m (cAt [1, 1, 0, 1, 0] B29) s H) := at_block (by kernel_rfl) rfl s H
@[simp] theorem n29_9 (s : List V) (H : Heap) : evCode P Γ call n f m (cAt [1, 1, 0, 1, 0] B29) s H = evLoopC P Γ call n f m (cAt [1, 1, 0, 1, 0, 0] B29) n s H := at_loop (by kernel_rfl) rfl s H
noncomputable abbrev L29_3 : Code := cAt [1, 1, 0, 1, 0, 0] B29
@[simp] theorem n29_9f : firstRegion (cAt [1, 1, 0, 1, 0, 0] B29) = 3 := by kernel_rfl
@[simp] theorem n29_10 (s : List V) (H : Heap) : evCode P Γ call n f m (cAt [1, 1, 0, 1, 0, 0] B29) s H = seqNext P Γ call n f m (cAt [1, 1, 0, 1, 0, 0, 1] B29) (evCode P Γ call n f m (cAt [1, 1, 0, 1, 0, 0, 0] B29) s H) := at_seq (by kernel_rfl) rfl rfl s H
noncomputable def r29_11 : {l : List Oper // opsOf (cAt [1, 1, 0, 1, 0, 0, 0] B29) = l} := by
  apply Subtype.mk
  dsimp only [opsOf, cAt, kids, B29, bodyOf, Try.f29, List.getD, List.getElem?_cons_zero, List.getElem?_cons_succ, Option.getD_some]
@[simp] theorem n29_11 (s : List V) (H : Heap) : evCode P Γ call n f m (cAt [1, 1, 0, 1, 0, 0, 0] B29) s H = regNext (evOpsGo P Γ call r29_11.1 r29_11.1 s H) := at_region (by kernel_rfl) r29_11.2 s H
attribute [simp] r29_11
@[simp] theorem n29_12 (s : List V) (H : Heap) : evCode P Γ call n f m (cAt [1, 1, 0, 1, 0, 0, 1] B29) s H = seqNext P Γ call n f m (cAt [1, 1, 0, 1, 0, 0, 1, 1] B29) (evCode P Γ call n f m (cAt [1, 1, 0, 1, 0, 0, 1, 0] B29) s H) := at_seq (by kernel_rfl) rfl rfl s H
@[simp] theorem n29_13 (s : List V) (H : Heap) : evCode P Γ call n f m (cAt [1, 1, 0, 1, 0, 0, 1, 0] B29) s H = condW P Γ call n f m (cAt [1, 1, 0, 1, 0, 0, 1, 0, 0] B29) (cAt [1, 1, 0, 1, 0, 0, 1, 0, 1] B29) s H (evOperand Γ s (.tmp 13)) := at_cond (by kernel_rfl) (by kernel_rfl) rfl rfl s H
@[simp] theorem n29_14 (s : List V) (H : Heap) : evCode P Γ call n f m (cAt [1, 1, 0, 1, 0, 0, 1, 0, 0] B29) s H = some (.normal, s, H) := at_skip (by kernel_rfl) s H
@[simp] theorem n29_15 (s : List V) (H : Heap) : evCode P Γ call n f m (cAt [1, 1, 0, 1, 0, 0, 1, 0, 1] B29) s H = some (.exit 0, s, H) := at_exit (by kernel_rfl) s H
@[simp] theorem n29_16 (s : List V) (H : Heap) : evCode P Γ call n f m (cAt [1, 1, 0, 1, 0, 0, 1, 1] B29) s H = seqNext P Γ call n f m (cAt [1, 1, 0, 1, 0, 0, 1, 1, 1] B29) (evCode P Γ call n f m (cAt [1, 1, 0, 1, 0, 0, 1, 1, 0] B29) s H) := at_seq (by kernel_rfl) rfl rfl s H
@[simp] theorem n29_17 (s : List V) (H : Heap) : evCode P Γ call n f m (cAt [1, 1, 0, 1, 0, 0, 1, 1, 0] B29) s H = blockNext 1 (evCode P Γ call n f m (cAt [1, 1, 0, 1, 0, 0, 1, 1, 0, 0] B29) s H) := at_block (by kernel_rfl) rfl s H
@[simp] theorem n29_18 (s : List V) (H : Heap) : evCode P Γ call n f m (cAt [1, 1, 0, 1, 0, 0, 1, 1, 0, 0] B29) s H = seqNext P Γ call n f m (cAt [1, 1, 0, 1, 0, 0, 1, 1, 0, 0, 1] B29) (evCode P Γ call n f m (cAt [1, 1, 0, 1, 0, 0, 1, 1, 0, 0, 0] B29) s H) := at_seq (by kernel_rfl) rfl rfl s H
noncomputable def r29_19 : {l : List Oper // opsOf (cAt [1, 1, 0, 1, 0, 0, 1, 1, 0, 0, 0] B29) = l} := by
  apply Subtype.mk
  dsimp only [opsOf, cAt, kids, B29, bodyOf, Try.f29, List.getD, List.getElem?_cons_zero, List.getElem?_cons_succ, Option.getD_some]
@[simp] theorem n29_19 (s : List V) (H : Heap) : evCode P Γ call n f m (cAt [1, 1, 0, 1, 0, 0, 1, 1, 0, 0, 0] B29) s H = regNext (evOpsGo P Γ call r29_19.1 r29_19.1 s H) := at_region (by kernel_rfl) r29_19.2 s H
attribute [simp] r29_19
@[simp] theorem n29_20 (s : List V) (H : Heap) : evCode P Γ call n f m (cAt [1, 1, 0, 1, 0, 0, 1, 1, 0, 0, 1] B29) s H = seqNext P Γ call n f m (cAt [1, 1, 0, 1, 0, 0, 1, 1, 0, 0, 1, 1] B29) (evCode P Γ call n f m (cAt [1, 1, 0, 1, 0, 0, 1, 1, 0, 0, 1, 0] B29) s H) := at_seq (by kernel_rfl) rfl rfl s H
noncomputable def r29_21 : {l : List Oper // opsOf (cAt [1, 1, 0, 1, 0, 0, 1, 1, 0, 0, 1, 0] B29) = l} := by
  apply Subtype.mk
  dsimp only [opsOf, cAt, kids, B29, bodyOf, Try.f29, List.getD, List.getElem?_cons_zero, List.getElem?_cons_succ, Option.getD_some]
@[simp] theorem n29_21 (s : List V) (H : Heap) : evCode P Γ call n f m (cAt [1, 1, 0, 1, 0, 0, 1, 1, 0, 0, 1, 0] B29) s H = regNext (evOpsGo P Γ call r29_21.1 r29_21.1 s H) := at_region (by kernel_rfl) r29_21.2 s H
attribute [simp] r29_21
@[simp] theorem n29_22 (s : List V) (H : Heap) : evCode P Γ call n f m (cAt [1, 1, 0, 1, 0, 0, 1, 1, 0, 0, 1, 1] B29) s H = condW P Γ call n f m (cAt [1, 1, 0, 1, 0, 0, 1, 1, 0, 0, 1, 1, 0] B29) (cAt [1, 1, 0, 1, 0, 0, 1, 1, 0, 0, 1, 1, 1] B29) s H (evOperand Γ s (.tmp 17)) := at_cond (by kernel_rfl) (by kernel_rfl) rfl rfl s H
noncomputable def r29_23 : {l : List Oper // opsOf (cAt [1, 1, 0, 1, 0, 0, 1, 1, 0, 0, 1, 1, 0] B29) = l} := by
  apply Subtype.mk
  dsimp only [opsOf, cAt, kids, B29, bodyOf, Try.f29, List.getD, List.getElem?_cons_zero, List.getElem?_cons_succ, Option.getD_some]
@[simp] theorem n29_23 (s : List V) (H : Heap) : evCode P Γ call n f m (cAt [1, 1, 0, 1, 0, 0, 1, 1, 0, 0, 1, 1, 0] B29) s H = regNext (evOpsGo P Γ call r29_23.1 r29_23.1 s H) := at_region (by kernel_rfl) r29_23.2 s H
attribute [simp] r29_23
@[simp] theorem n29_24 (s : List V) (H : Heap) : evCode P Γ call n f m (cAt [1, 1, 0, 1, 0, 0, 1, 1, 0, 0, 1, 1, 1] B29) s H = some (.normal, s, H) := at_skip (by kernel_rfl) s H
noncomputable def r29_25 : {l : List Oper // opsOf (cAt [1, 1, 0, 1, 0, 0, 1, 1, 1] B29) = l} := by
  apply Subtype.mk
  dsimp only [opsOf, cAt, kids, B29, bodyOf, Try.f29, List.getD, List.getElem?_cons_zero, List.getElem?_cons_succ, Option.getD_some]
@[simp] theorem n29_25 (s : List V) (H : Heap) : evCode P Γ call n f m (cAt [1, 1, 0, 1, 0, 0, 1, 1, 1] B29) s H = regNext (evOpsGo P Γ call r29_25.1 r29_25.1 s H) := at_region (by kernel_rfl) r29_25.2 s H
attribute [simp] r29_25
@[simp] theorem n29_26 (s : List V) (H : Heap) : evCode P Γ call n f m (cAt [1, 1, 1] B29) s H = seqNext P Γ call n f m (cAt [1, 1, 1, 1] B29) (evCode P Γ call n f m (cAt [1, 1, 1, 0] B29) s H) := at_seq (by kernel_rfl) rfl rfl s H
noncomputable def r29_27 : {l : List Oper // opsOf (cAt [1, 1, 1, 0] B29) = l} := by
  apply Subtype.mk
  dsimp only [opsOf, cAt, kids, B29, bodyOf, Try.f29, List.getD, List.getElem?_cons_zero, List.getElem?_cons_succ, Option.getD_some]
@[simp] theorem n29_27 (s : List V) (H : Heap) : evCode P Γ call n f m (cAt [1, 1, 1, 0] B29) s H = regNext (evOpsGo P Γ call r29_27.1 r29_27.1 s H) := at_region (by kernel_rfl) r29_27.2 s H
attribute [simp] r29_27
@[simp] theorem n29_28 (s : List V) (H : Heap) : evCode P Γ call n f m (cAt [1, 1, 1, 1] B29) s H = seqNext P Γ call n f m (cAt [1, 1, 1, 1, 1] B29) (evCode P Γ call n f m (cAt [1, 1, 1, 1, 0] B29) s H) := at_seq (by kernel_rfl) rfl rfl s H
noncomputable def r29_29 : {l : List Oper // opsOf (cAt [1, 1, 1, 1, 0] B29) = l} := by
  apply Subtype.mk
  dsimp only [opsOf, cAt, kids, B29, bodyOf, Try.f29, List.getD, List.getElem?_cons_zero, List.getElem?_cons_succ, Option.getD_some]
@[simp] theorem n29_29 (s : List V) (H : Heap) : evCode P Γ call n f m (cAt [1, 1, 1, 1, 0] B29) s H = regNext (evOpsGo P Γ call r29_29.1 r29_29.1 s H) := at_region (by kernel_rfl) r29_29.2 s H
attribute [simp] r29_29
@[simp] theorem n29_30 (s : List V) (H : Heap) : evCode P Γ call n f m (cAt [1, 1, 1, 1, 1] B29) s H = seqNext P Γ call n f m (cAt [1, 1, 1, 1, 1, 1] B29) (evCode P Γ call n f m (cAt [1, 1, 1, 1, 1, 0] B29) s H) := at_seq (by kernel_rfl) rfl rfl s H
@[simp] theorem n29_31 (s : List V) (H : Heap) : evCode P Γ call n f m (cAt [1, 1, 1, 1, 1, 0] B29) s H = seqNext P Γ call n f m (cAt [1, 1, 1, 1, 1, 0, 1] B29) (evCode P Γ call n f m (cAt [1, 1, 1, 1, 1, 0, 0] B29) s H) := at_seq (by kernel_rfl) rfl rfl s H
noncomputable def r29_32 : {l : List Oper // opsOf (cAt [1, 1, 1, 1, 1, 0, 0] B29) = l} := by
  apply Subtype.mk
  dsimp only [opsOf, cAt, kids, B29, bodyOf, Try.f29, List.getD, List.getElem?_cons_zero, List.getElem?_cons_succ, Option.getD_some]
@[simp] theorem n29_32 (s : List V) (H : Heap) : evCode P Γ call n f m (cAt [1, 1, 1, 1, 1, 0, 0] B29) s H = regNext (evOpsGo P Γ call r29_32.1 r29_32.1 s H) := at_region (by kernel_rfl) r29_32.2 s H
attribute [simp] r29_32
@[simp] theorem n29_33 (s : List V) (H : Heap) : evCode P Γ call n f m (cAt [1, 1, 1, 1, 1, 0, 1] B29) s H = blockNext 2 (evCode P Γ call n f m (cAt [1, 1, 1, 1, 1, 0, 1, 0] B29) s H) := at_block (by kernel_rfl) rfl s H
@[simp] theorem n29_34 (s : List V) (H : Heap) : evCode P Γ call n f m (cAt [1, 1, 1, 1, 1, 0, 1, 0] B29) s H = evLoopC P Γ call n f m (cAt [1, 1, 1, 1, 1, 0, 1, 0, 0] B29) n s H := at_loop (by kernel_rfl) rfl s H
noncomputable abbrev L29_11 : Code := cAt [1, 1, 1, 1, 1, 0, 1, 0, 0] B29
@[simp] theorem n29_34f : firstRegion (cAt [1, 1, 1, 1, 1, 0, 1, 0, 0] B29) = 11 := by kernel_rfl
@[simp] theorem n29_35 (s : List V) (H : Heap) : evCode P Γ call n f m (cAt [1, 1, 1, 1, 1, 0, 1, 0, 0] B29) s H = seqNext P Γ call n f m (cAt [1, 1, 1, 1, 1, 0, 1, 0, 0, 1] B29) (evCode P Γ call n f m (cAt [1, 1, 1, 1, 1, 0, 1, 0, 0, 0] B29) s H) := at_seq (by kernel_rfl) rfl rfl s H
noncomputable def r29_36 : {l : List Oper // opsOf (cAt [1, 1, 1, 1, 1, 0, 1, 0, 0, 0] B29) = l} := by
  apply Subtype.mk
  dsimp only [opsOf, cAt, kids, B29, bodyOf, Try.f29, List.getD, List.getElem?_cons_zero, List.getElem?_cons_succ, Option.getD_some]
@[simp] theorem n29_36 (s : List V) (H : Heap) : evCode P Γ call n f m (cAt [1, 1, 1, 1, 1, 0, 1, 0, 0, 0] B29) s H = regNext (evOpsGo P Γ call r29_36.1 r29_36.1 s H) := at_region (by kernel_rfl) r29_36.2 s H
attribute [simp] r29_36
@[simp] theorem n29_37 (s : List V) (H : Heap) : evCode P Γ call n f m (cAt [1, 1, 1, 1, 1, 0, 1, 0, 0, 1] B29) s H = seqNext P Γ call n f m (cAt [1, 1, 1, 1, 1, 0, 1, 0, 0, 1, 1] B29) (evCode P Γ call n f m (cAt [1, 1, 1, 1, 1, 0, 1, 0, 0, 1, 0] B29) s H) := at_seq (by kernel_rfl) rfl rfl s H
@[simp] theorem n29_38 (s : List V) (H : Heap) : evCode P Γ call n f m (cAt [1, 1, 1, 1, 1, 0, 1, 0, 0, 1, 0] B29) s H = condW P Γ call n f m (cAt [1, 1, 1, 1, 1, 0, 1, 0, 0, 1, 0, 0] B29) (cAt [1, 1, 1, 1, 1, 0, 1, 0, 0, 1, 0, 1] B29) s H (evOperand Γ s (.tmp 28)) := at_cond (by kernel_rfl) (by kernel_rfl) rfl rfl s H
@[simp] theorem n29_39 (s : List V) (H : Heap) : evCode P Γ call n f m (cAt [1, 1, 1, 1, 1, 0, 1, 0, 0, 1, 0, 0] B29) s H = some (.normal, s, H) := at_skip (by kernel_rfl) s H
@[simp] theorem n29_40 (s : List V) (H : Heap) : evCode P Γ call n f m (cAt [1, 1, 1, 1, 1, 0, 1, 0, 0, 1, 0, 1] B29) s H = some (.exit 2, s, H) := at_exit (by kernel_rfl) s H
@[simp] theorem n29_41 (s : List V) (H : Heap) : evCode P Γ call n f m (cAt [1, 1, 1, 1, 1, 0, 1, 0, 0, 1, 1] B29) s H = seqNext P Γ call n f m (cAt [1, 1, 1, 1, 1, 0, 1, 0, 0, 1, 1, 1] B29) (evCode P Γ call n f m (cAt [1, 1, 1, 1, 1, 0, 1, 0, 0, 1, 1, 0] B29) s H) := at_seq (by kernel_rfl) rfl rfl s H
@[simp] theorem n29_42 (s : List V) (H : Heap) : evCode P Γ call n f m (cAt [1, 1, 1, 1, 1, 0, 1, 0, 0, 1, 1, 0] B29) s H = blockNext 3 (evCode P Γ call n f m (cAt [1, 1, 1, 1, 1, 0, 1, 0, 0, 1, 1, 0, 0] B29) s H) := at_block (by kernel_rfl) rfl s H
@[simp] theorem n29_43 (s : List V) (H : Heap) : evCode P Γ call n f m (cAt [1, 1, 1, 1, 1, 0, 1, 0, 0, 1, 1, 0, 0] B29) s H = seqNext P Γ call n f m (cAt [1, 1, 1, 1, 1, 0, 1, 0, 0, 1, 1, 0, 0, 1] B29) (evCode P Γ call n f m (cAt [1, 1, 1, 1, 1, 0, 1, 0, 0, 1, 1, 0, 0, 0] B29) s H) := at_seq (by kernel_rfl) rfl rfl s H
noncomputable def r29_44 : {l : List Oper // opsOf (cAt [1, 1, 1, 1, 1, 0, 1, 0, 0, 1, 1, 0, 0, 0] B29) = l} := by
  apply Subtype.mk
  dsimp only [opsOf, cAt, kids, B29, bodyOf, Try.f29, List.getD, List.getElem?_cons_zero, List.getElem?_cons_succ, Option.getD_some]
@[simp] theorem n29_44 (s : List V) (H : Heap) : evCode P Γ call n f m (cAt [1, 1, 1, 1, 1, 0, 1, 0, 0, 1, 1, 0, 0, 0] B29) s H = regNext (evOpsGo P Γ call r29_44.1 r29_44.1 s H) := at_region (by kernel_rfl) r29_44.2 s H
attribute [simp] r29_44
@[simp] theorem n29_45 (s : List V) (H : Heap) : evCode P Γ call n f m (cAt [1, 1, 1, 1, 1, 0, 1, 0, 0, 1, 1, 0, 0, 1] B29) s H = seqNext P Γ call n f m (cAt [1, 1, 1, 1, 1, 0, 1, 0, 0, 1, 1, 0, 0, 1, 1] B29) (evCode P Γ call n f m (cAt [1, 1, 1, 1, 1, 0, 1, 0, 0, 1, 1, 0, 0, 1, 0] B29) s H) := at_seq (by kernel_rfl) rfl rfl s H
noncomputable def r29_46 : {l : List Oper // opsOf (cAt [1, 1, 1, 1, 1, 0, 1, 0, 0, 1, 1, 0, 0, 1, 0] B29) = l} := by
  apply Subtype.mk
  dsimp only [opsOf, cAt, kids, B29, bodyOf, Try.f29, List.getD, List.getElem?_cons_zero, List.getElem?_cons_succ, Option.getD_some]
@[simp] theorem n29_46 (s : List V) (H : Heap) : evCode P Γ call n f m (cAt [1, 1, 1, 1, 1, 0, 1, 0, 0, 1, 1, 0, 0, 1, 0] B29) s H = regNext (evOpsGo P Γ call r29_46.1 r29_46.1 s H) := at_region (by kernel_rfl) r29_46.2 s H
attribute [simp] r29_46
@[simp] theorem n29_47 (s : List V) (H : Heap) : evCode P Γ call n f m (cAt [1, 1, 1, 1, 1, 0, 1, 0, 0, 1, 1, 0, 0, 1, 1] B29) s H = seqNext P Γ call n f m (cAt [1, 1, 1, 1, 1, 0, 1, 0, 0, 1, 1, 0, 0, 1, 1, 1] B29) (evCode P Γ call n f m (cAt [1, 1, 1, 1, 1, 0, 1, 0, 0, 1, 1, 0, 0, 1, 1, 0] B29) s H) := at_seq (by kernel_rfl) rfl rfl s H
noncomputable def r29_48 : {l : List Oper // opsOf (cAt [1, 1, 1, 1, 1, 0, 1, 0, 0, 1, 1, 0, 0, 1, 1, 0] B29) = l} := by
  apply Subtype.mk
  dsimp only [opsOf, cAt, kids, B29, bodyOf, Try.f29, List.getD, List.getElem?_cons_zero, List.getElem?_cons_succ, Option.getD_some]
@[simp] theorem n29_48 (s : List V) (H : Heap) : evCode P Γ call n f m (cAt [1, 1, 1, 1, 1, 0, 1, 0, 0, 1, 1, 0, 0, 1, 1, 0] B29) s H = regNext (drawR P Γ call r29_48.1 [([], []), ([], []), ([], []), ([5, 6, 7, 8, 9], [39, 40, 41, 42, 43]), ([5, 6, 7, 8, 9], [39, 40, 41, 42, 43]), ([3, 4, 6], [37, 38, 40]), ([3, 4, 5], [37, 38, 39]), ([3, 4], [37, 38]), ([3, 4], [37, 38]), ([3, 4], [37, 38]), ([], []), ([], [])] s H) := at_drawT (by kernel_rfl) r29_48.2 (by kernel_rfl) s H
attribute [simp] r29_48
@[simp] theorem n29_49 (s : List V) (H : Heap) : evCode P Γ call n f m (cAt [1, 1, 1, 1, 1, 0, 1, 0, 0, 1, 1, 0, 0, 1, 1, 1] B29) s H = condW P Γ call n f m (cAt [1, 1, 1, 1, 1, 0, 1, 0, 0, 1, 1, 0, 0, 1, 1, 1, 0] B29) (cAt [1, 1, 1, 1, 1, 0, 1, 0, 0, 1, 1, 0, 0, 1, 1, 1, 1] B29) s H (evOperand Γ s (.tmp 45)) := at_cond (by kernel_rfl) (by kernel_rfl) rfl rfl s H
noncomputable def r29_50 : {l : List Oper // opsOf (cAt [1, 1, 1, 1, 1, 0, 1, 0, 0, 1, 1, 0, 0, 1, 1, 1, 0] B29) = l} := by
  apply Subtype.mk
  dsimp only [opsOf, cAt, kids, B29, bodyOf, Try.f29, List.getD, List.getElem?_cons_zero, List.getElem?_cons_succ, Option.getD_some]
@[simp] theorem n29_50 (s : List V) (H : Heap) : evCode P Γ call n f m (cAt [1, 1, 1, 1, 1, 0, 1, 0, 0, 1, 1, 0, 0, 1, 1, 1, 0] B29) s H = regNext (drawR P Γ call r29_50.1 [([1, 2, 3, 4, 5, 6, 7, 8, 9, 10, 11, 12, 13, 14, 15], [47, 48, 49, 50, 51, 52, 53, 54, 55, 56, 57, 58, 59, 60, 61]), ([0, 2, 3, 4, 5, 6, 7, 8, 9, 10, 11, 12, 13, 14, 15], [46, 48, 49, 50, 51, 52, 53, 54, 55, 56, 57, 58, 59, 60, 61]), ([0, 1, 3, 7, 10, 11, 12, 13, 14], [46, 47, 49, 53, 56, 57, 58, 59, 60]), ([0, 1, 2, 7, 10, 11, 12, 13, 14], [46, 47, 48, 53, 56, 57, 58, 59, 60]), ([0, 1, 7, 10, 11, 12, 13, 14], [46, 47, 53, 56, 57, 58, 59, 60]), ([0, 1, 7, 10, 11, 12, 13, 14], [46, 47, 53, 56, 57, 58, 59, 60]), ([0, 1, 7, 10, 11, 12, 13, 14], [46, 47, 53, 56, 57, 58, 59, 60]), ([0, 1, 2, 3, 4, 5, 6, 10, 11, 12, 13, 14], [46, 47, 48, 49, 50, 51, 52, 56, 57, 58, 59, 60]), ([0, 1, 10, 11, 12, 13, 14], [46, 47, 56, 57, 58, 59, 60]), ([0, 1, 10, 11, 12, 13, 14], [46, 47, 56, 57, 58, 59, 60]), ([0, 1, 2, 3, 4, 5, 6, 7, 8, 9, 11], [46, 47, 48, 49, 50, 51, 52, 53, 54, 55, 57]), ([0, 1, 2, 3, 4, 5, 6, 7, 8, 9, 10], [46, 47, 48, 49, 50, 51, 52, 53, 54, 55, 56]), ([0, 1, 2, 3, 4, 5, 6, 7, 8, 9], [46, 47, 48, 49, 50, 51, 52, 53, 54, 55]), ([0, 1, 2, 3, 4, 5, 6, 7, 8, 9], [46, 47, 48, 49, 50, 51, 52, 53, 54, 55]), ([0, 1, 2, 3, 4, 5, 6, 7, 8, 9], [46, 47, 48, 49, 50, 51, 52, 53, 54, 55]), ([0, 1], [46, 47]), ([], []), ([], []), ([], [])] s H) := at_drawT (by kernel_rfl) r29_50.2 (by kernel_rfl) s H
attribute [simp] r29_50
noncomputable def r29_51 : {l : List Oper // opsOf (cAt [1, 1, 1, 1, 1, 0, 1, 0, 0, 1, 1, 0, 0, 1, 1, 1, 1] B29) = l} := by
  apply Subtype.mk
  dsimp only [opsOf, cAt, kids, B29, bodyOf, Try.f29, List.getD, List.getElem?_cons_zero, List.getElem?_cons_succ, Option.getD_some]
@[simp] theorem n29_51 (s : List V) (H : Heap) : evCode P Γ call n f m (cAt [1, 1, 1, 1, 1, 0, 1, 0, 0, 1, 1, 0, 0, 1, 1, 1, 1] B29) s H = regNext (evOpsGo P Γ call r29_51.1 r29_51.1 s H) := at_region (by kernel_rfl) r29_51.2 s H
attribute [simp] r29_51
noncomputable def r29_52 : {l : List Oper // opsOf (cAt [1, 1, 1, 1, 1, 0, 1, 0, 0, 1, 1, 1] B29) = l} := by
  apply Subtype.mk
  dsimp only [opsOf, cAt, kids, B29, bodyOf, Try.f29, List.getD, List.getElem?_cons_zero, List.getElem?_cons_succ, Option.getD_some]
@[simp] theorem n29_52 (s : List V) (H : Heap) : evCode P Γ call n f m (cAt [1, 1, 1, 1, 1, 0, 1, 0, 0, 1, 1, 1] B29) s H = regNext (evOpsGo P Γ call r29_52.1 r29_52.1 s H) := at_region (by kernel_rfl) r29_52.2 s H
attribute [simp] r29_52
@[simp] theorem n29_53 (s : List V) (H : Heap) : evCode P Γ call n f m (cAt [1, 1, 1, 1, 1, 1] B29) s H = seqNext P Γ call n f m (cAt [1, 1, 1, 1, 1, 1, 1] B29) (evCode P Γ call n f m (cAt [1, 1, 1, 1, 1, 1, 0] B29) s H) := at_seq (by kernel_rfl) rfl rfl s H
noncomputable def r29_54 : {l : List Oper // opsOf (cAt [1, 1, 1, 1, 1, 1, 0] B29) = l} := by
  apply Subtype.mk
  dsimp only [opsOf, cAt, kids, B29, bodyOf, Try.f29, List.getD, List.getElem?_cons_zero, List.getElem?_cons_succ, Option.getD_some]
@[simp] theorem n29_54 (s : List V) (H : Heap) : evCode P Γ call n f m (cAt [1, 1, 1, 1, 1, 1, 0] B29) s H = regNext (evOpsGo P Γ call r29_54.1 r29_54.1 s H) := at_region (by kernel_rfl) r29_54.2 s H
attribute [simp] r29_54
@[simp] theorem n29_55 (s : List V) (H : Heap) : evCode P Γ call n f m (cAt [1, 1, 1, 1, 1, 1, 1] B29) s H = some (.ret, s, H) := at_ret (by kernel_rfl) s H
theorem b29 {k : Nat} (ho : ∀ args H, Γ.orc 29 args H = none) (args : List V) (H : Heap) (ha : args.length ≤ 70) : evF Try.prog Γ (k + 1) 29 args H = bodyEnd Try.prog [.tmp 2] H.length (evCode Try.prog Γ (evF Try.prog Γ k) k 29 H.length (cAt [] B29) (mkL 70 V.undef (enumV 0 args)) H) := body_at Try.func29 (by decide) rfl ho rfl rfl args H ha
noncomputable def B28 : Code := bodyOf Try.f28
@[simp] theorem n28_1 (s : List V) (H : Heap) : evCode P Γ call n f m (cAt [] B28) s H = seqNext P Γ call n f m (cAt [1] B28) (evCode P Γ call n f m (cAt [0] B28) s H) := at_seq (by kernel_rfl) rfl rfl s H
noncomputable def r28_2 : {l : List Oper // opsOf (cAt [0] B28) = l} := by
  apply Subtype.mk
  dsimp only [opsOf, cAt, kids, B28, bodyOf, Try.f28, List.getD, List.getElem?_cons_zero, List.getElem?_cons_succ, Option.getD_some]
@[simp] theorem n28_2 (s : List V) (H : Heap) : evCode P Γ call n f m (cAt [0] B28) s H = regNext (evOpsGo P Γ call r28_2.1 r28_2.1 s H) := at_region (by kernel_rfl) r28_2.2 s H
attribute [simp] r28_2
@[simp] theorem n28_3 (s : List V) (H : Heap) : evCode P Γ call n f m (cAt [1] B28) s H = seqNext P Γ call n f m (cAt [1, 1] B28) (evCode P Γ call n f m (cAt [1, 0] B28) s H) := at_seq (by kernel_rfl) rfl rfl s H
noncomputable def r28_4 : {l : List Oper // opsOf (cAt [1, 0] B28) = l} := by
  apply Subtype.mk
  dsimp only [opsOf, cAt, kids, B28, bodyOf, Try.f28, List.getD, List.getElem?_cons_zero, List.getElem?_cons_succ, Option.getD_some]
@[simp] theorem n28_4 (s : List V) (H : Heap) : evCode P Γ call n f m (cAt [1, 0] B28) s H = regNext (evOpsGo P Γ call r28_4.1 r28_4.1 s H) := at_region (by kernel_rfl) r28_4.2 s H
attribute [simp] r28_4
@[simp] theorem n28_5 (s : List V) (H : Heap) : evCode P Γ call n f m (cAt [1, 1] B28) s H = seqNext P Γ call n f m (cAt [1, 1, 1] B28) (evCode P Γ call n f m (cAt [1, 1, 0] B28) s H) := at_seq (by kernel_rfl) rfl rfl s H
noncomputable def r28_6 : {l : List Oper // opsOf (cAt [1, 1, 0] B28) = l} := by
  apply Subtype.mk
  dsimp only [opsOf, cAt, kids, B28, bodyOf, Try.f28, List.getD, List.getElem?_cons_zero, List.getElem?_cons_succ, Option.getD_some]
@[simp] theorem n28_6 (s : List V) (H : Heap) : evCode P Γ call n f m (cAt [1, 1, 0] B28) s H = regNext (evOpsGo P Γ call r28_6.1 r28_6.1 s H) := at_region (by kernel_rfl) r28_6.2 s H
attribute [simp] r28_6
@[simp] theorem n28_7 (s : List V) (H : Heap) : evCode P Γ call n f m (cAt [1, 1, 1] B28) s H = seqNext P Γ call n f m (cAt [1, 1, 1, 1] B28) (evCode P Γ call n f m (cAt [1, 1, 1, 0] B28) s H) := at_seq (by kernel_rfl) rfl rfl s H
@[simp] theorem n28_8 (s : List V) (H : Heap) : evCode P Γ call n f m (cAt [1, 1, 1, 0] B28) s H = seqNext P Γ call n f m (cAt [1, 1, 1, 0, 1] B28) (evCode P Γ call n f m (cAt [1, 1, 1, 0, 0] B28) s H) := at_seq (by kernel_rfl) rfl rfl s H
noncomputable def r28_9 : {l : List Oper // opsOf (cAt [1, 1, 1, 0, 0] B28) = l} := by
  apply Subtype.mk
  dsimp only [opsOf, cAt, kids, B28, bodyOf, Try.f28, List.getD, List.getElem?_cons_zero, List.getElem?_cons_succ, Option.getD_some]
@[simp] theorem n28_9 (s : List V) (H : Heap) : evCode P Γ call n f m (cAt [1, 1, 1, 0, 0] B28) s H = regNext (evOpsGo P Γ call r28_9.1 r28_9.1 s H) := at_region (by kernel_rfl) r28_9.2 s H
attribute [simp] r28_9
@[simp] theorem n28_10 (s : List V) (H : Heap) : evCode P Γ call n f m (cAt [1, 1, 1, 0, 1] B28) s H = blockNext 0 (evCode P Γ call n f m (cAt [1, 1, 1, 0, 1, 0] B28) s H) := at_block (by kernel_rfl) rfl s H
@[simp] theorem n28_11 (s : List V) (H : Heap) : evCode P Γ call n f m (cAt [1, 1, 1, 0, 1, 0] B28) s H = evLoopC P Γ call n f m (cAt [1, 1, 1, 0, 1, 0, 0] B28) n s H := at_loop (by kernel_rfl) rfl s H
noncomputable abbrev L28_4 : Code := cAt [1, 1, 1, 0, 1, 0, 0] B28
@[simp] theorem n28_11f : firstRegion (cAt [1, 1, 1, 0, 1, 0, 0] B28) = 4 := by kernel_rfl
@[simp] theorem n28_12 (s : List V) (H : Heap) : evCode P Γ call n f m (cAt [1, 1, 1, 0, 1, 0, 0] B28) s H = seqNext P Γ call n f m (cAt [1, 1, 1, 0, 1, 0, 0, 1] B28) (evCode P Γ call n f m (cAt [1, 1, 1, 0, 1, 0, 0, 0] B28) s H) := at_seq (by kernel_rfl) rfl rfl s H
@[simp] theorem n28_13 (s : List V) (H : Heap) : evCode P Γ call n f m (cAt [1, 1, 1, 0, 1, 0, 0, 0] B28) s H = seqNext P Γ call n f m (cAt [1, 1, 1, 0, 1, 0, 0, 0, 1] B28) (evCode P Γ call n f m (cAt [1, 1, 1, 0, 1, 0, 0, 0, 0] B28) s H) := at_seq (by kernel_rfl) rfl rfl s H
noncomputable def r28_14 : {l : List Oper // opsOf (cAt [1, 1, 1, 0, 1, 0, 0, 0, 0] B28) = l} := by
  apply Subtype.mk
  dsimp only [opsOf, cAt, kids, B28, bodyOf, Try.f28, List.getD, List.getElem?_cons_zero, List.getElem?_cons_succ, Option.getD_some]
@[simp] theorem n28_14 (s : List V) (H : Heap) : evCode P Γ call n f m (cAt [1, 1, 1, 0, 1, 0, 0, 0, 0] B28) s H = regNext (evOpsGo P Γ call r28_14.1 r28_14.1 s H) := at_region (by kernel_rfl) r28_14.2 s H
attribute [simp] r28_14
@[simp] theorem n28_15 (s : List V) (H : Heap) : evCode P Γ call n f m (cAt [1, 1, 1, 0, 1, 0, 0, 0, 1] B28) s H = condW P Γ call n f m (cAt [1, 1, 1, 0, 1, 0, 0, 0, 1, 0] B28) (cAt [1, 1, 1, 0, 1, 0, 0, 0, 1, 1] B28) s H (evOperand Γ s (.tmp 23)) := at_cond (by kernel_rfl) (by kernel_rfl) rfl rfl s H
@[simp] theorem n28_16 (s : List V) (H : Heap) : evCode P Γ call n f m (cAt [1, 1, 1, 0, 1, 0, 0, 0, 1, 0] B28) s H = some (.normal, s, H) := at_skip (by kernel_rfl) s H
@[simp] theorem n28_17 (s : List V) (H : Heap) : evCode P Γ call n f m (cAt [1, 1, 1, 0, 1, 0, 0, 0, 1, 1] B28) s H = some (.exit 0, s, H) := at_exit (by kernel_rfl) s H
@[simp] theorem n28_18 (s : List V) (H : Heap) : evCode P Γ call n f m (cAt [1, 1, 1, 0, 1, 0, 0, 1] B28) s H = blockNext 1 (evCode P Γ call n f m (cAt [1, 1, 1, 0, 1, 0, 0, 1, 0] B28) s H) := at_block (by kernel_rfl) rfl s H
@[simp] theorem n28_19 (s : List V) (H : Heap) : evCode P Γ call n f m (cAt [1, 1, 1, 0, 1, 0, 0, 1, 0] B28) s H = seqNext P Γ call n f m (cAt [1, 1, 1, 0, 1, 0, 0, 1, 0, 1] B28) (evCode P Γ call n f m (cAt [1, 1, 1, 0, 1, 0, 0, 1, 0, 0] B28) s H) := at_seq (by kernel_rfl) rfl rfl s H
noncomputable def r28_20 : {l : List Oper // opsOf (cAt [1, 1, 1, 0, 1, 0, 0, 1, 0, 0] B28) = l} := by
  apply Subtype.mk
  dsimp only [opsOf, cAt, kids, B28, bodyOf, Try.f28, List.getD, List.getElem?_cons_zero, List.getElem?_cons_succ, Option.getD_some]
@[simp] theorem n28_20 (s : List V) (H : Heap) : evCode P Γ call n f m (cAt [1, 1, 1, 0, 1, 0, 0, 1, 0, 0] B28) s H = regNext (drawR P Γ call r28_20.1 [([1, 5, 6, 7, 8, 9, 11, 12, 13, 14, 15, 16, 17, 18, 19, 20, 21], [25, 29, 30, 31, 32, 33, 35, 36, 37, 38, 39, 40, 41, 42, 43, 44, 45]), ([0, 5, 6, 7, 8, 9, 11, 12, 13, 14, 15, 16, 17, 18, 19, 20, 21], [24, 29, 30, 31, 32, 33, 35, 36, 37, 38, 39, 40, 41, 42, 43, 44, 45]), ([5, 6, 7, 8, 9, 11, 12, 13, 14, 15, 16, 17, 18, 19, 20, 21], [29, 30, 31, 32, 33, 35, 36, 37, 38, 39, 40, 41, 42, 43, 44, 45]), ([5, 6, 7, 8, 9, 11, 12, 13, 14, 15, 16, 17, 18, 19, 20, 21], [29, 30, 31, 32, 33, 35, 36, 37, 38, 39, 40, 41, 42, 43, 44, 45]), ([5, 6, 7, 8, 9, 11, 12, 13, 14, 15, 16, 17, 18, 19, 20, 21], [29, 30, 31, 32, 33, 35, 36, 37, 38, 39, 40, 41, 42, 43, 44, 45]), ([0, 1, 2, 3, 4, 6, 11, 12, 13, 14, 15, 16, 17, 18, 19, 20, 21], [24, 25, 26, 27, 28, 30, 35, 36, 37, 38, 39, 40, 41, 42, 43, 44, 45]), ([0, 1, 2, 3, 4, 5, 11, 12, 13, 14, 15, 16, 17, 18, 19, 20, 21], [24, 25, 26, 27, 28, 29, 35, 36, 37, 38, 39, 40, 41, 42, 43, 44, 45]), ([0, 1, 2, 3, 4, 11, 12, 13, 14, 15, 16, 17, 18, 19, 20, 21], [24, 25, 26, 27, 28, 35, 36, 37, 38, 39, 40, 41, 42, 43, 44, 45]), ([0, 1, 2, 3, 4, 11, 12, 13, 14, 15, 16, 17, 18, 19, 20, 21], [24, 25, 26, 27, 28, 35, 36, 37, 38, 39, 40, 41, 42, 43, 44, 45]), ([0, 1, 2, 3, 4, 11, 12, 13, 14, 15, 16, 17, 18, 19, 20, 21], [24, 25, 26, 27, 28, 35, 36, 37, 38, 39, 40, 41, 42, 43, 44, 45]), ([11, 12, 13, 14, 15, 16, 17, 18, 19, 20, 21], [35, 36, 37, 38, 39, 40, 41, 42, 43, 44, 45]), ([0, 1, 2, 3, 4, 5, 6, 7, 8, 9, 10, 12, 16, 17, 18, 19], [24, 25, 26, 27, 28, 29, 30, 31, 32, 33, 34, 36, 40, 41, 42, 43]), ([0, 1, 2, 3, 4, 5, 6, 7, 8, 9, 10, 11, 16, 17, 18, 19], [24, 25, 26, 27, 28, 29, 30, 31, 32, 33, 34, 35, 40, 41, 42, 43]), ([0, 1, 2, 3, 4, 5, 6, 7, 8, 9, 10, 16, 17, 18, 19], [24, 25, 26, 27, 28, 29, 30, 31, 32, 33, 34, 40, 41, 42, 43]), ([0, 1, 2, 3, 4, 5, 6, 7, 8, 9, 10, 16, 17, 18, 19], [24, 25, 26, 27, 28, 29, 30, 31, 32, 33, 34, 40, 41, 42, 43]), ([0, 1, 2, 3, 4, 5, 6, 7, 8, 9, 10, 16, 17, 18, 19], [24, 25, 26, 27, 28, 29, 30, 31, 32, 33, 34, 40, 41, 42, 43]), ([0, 1, 2, 3, 4, 5, 6, 7, 8, 9, 10, 11, 12, 13, 14, 15, 17], [24, 25, 26, 27, 28, 29, 30, 31, 32, 33, 34, 35, 36, 37, 38, 39, 41]), ([0, 1, 2, 3, 4, 5, 6, 7, 8, 9, 10, 11, 12, 13, 14, 15, 16], [24, 25, 26, 27, 28, 29, 30, 31, 32, 33, 34, 35, 36, 37, 38, 39, 40]), ([0, 1, 2, 3, 4, 5, 6, 7, 8, 9, 10, 11, 12, 13, 14, 15], [24, 25, 26, 27, 28, 29, 30, 31, 32, 33, 34, 35, 36, 37, 38, 39]), ([0, 1, 2, 3, 4, 5, 6, 7, 8, 9, 10, 11, 12, 13, 14, 15], [24, 25, 26, 27, 28, 29, 30, 31, 32, 33, 34, 35, 36, 37, 38, 39]), ([0, 1, 2, 3, 4, 5, 6, 7, 8, 9, 10], [24, 25, 26, 27, 28, 29, 30, 31, 32, 33, 34]), ([0, 1, 2, 3, 4, 5, 6, 7, 8, 9, 10, 22], [24, 25, 26, 27, 28, 29, 30, 31, 32, 33, 34, 8]), ([21], [45]), ([], [])] s H) := at_drawT (by kernel_rfl) r28_20.2 (by kernel_rfl) s H
attribute [simp] r28_20
@[simp] theorem n28_21 (s : List V) (H : Heap) : evCode P Γ call n f m (cAt [1, 1, 1, 0, 1, 0, 0, 1, 0, 1] B28) s H = seqNext P Γ call n f m (cAt [1, 1, 1, 0, 1, 0, 0, 1, 0, 1, 1] B28) (evCode P Γ call n f m (cAt [1, 1, 1, 0, 1, 0, 0, 1, 0, 1, 0] B28) s H) := at_seq (by kernel_rfl) rfl rfl s H
@[simp] theorem n28_22 (s : List V) (H : Heap) : evCode P Γ call n f m (cAt [1, 1, 1, 0, 1, 0, 0, 1, 0, 1, 0] B28) s H = seqNext P Γ call n f m (cAt [1, 1, 1, 0, 1, 0, 0, 1, 0, 1, 0, 1] B28) (evCode P Γ call n f m (cAt [1, 1, 1, 0, 1, 0, 0, 1, 0, 1, 0, 0] B28) s H) := at_seq (by kernel_rfl) rfl rfl s H
noncomputable def r28_23 : {l : List Oper // opsOf (cAt [1, 1, 1, 0, 1, 0, 0, 1, 0, 1, 0, 0] B28) = l} := by
  apply Subtype.mk
  dsimp only [opsOf, cAt, kids, B28, bodyOf, Try.f28, List.getD, List.getElem?_cons_zero, List.getElem?_cons_succ, Option.getD_some]
@[simp] theorem n28_23 (s : List V) (H : Heap) : evCode P Γ call n f m (cAt [1, 1, 1, 0, 1, 0, 0, 1, 0, 1, 0, 0] B28) s H = regNext (evOpsGo P Γ call r28_23.1 r28_23.1 s H) := at_region (by kernel_rfl) r28_23.2 s H
attribute [simp] r28_23
@[simp] theorem n28_24 (s : List V) (H : Heap) : evCode P Γ call n f m (cAt [1, 1, 1, 0, 1, 0, 0, 1, 0, 1, 0, 1] B28) s H = condW P Γ call n f m (cAt [1, 1, 1, 0, 1, 0, 0, 1, 0, 1, 0, 1, 0] B28) (cAt [1, 1, 1, 0, 1, 0, 0, 1, 0, 1, 0, 1, 1] B28) s H (evOperand Γ s (.tmp 48)) := at_cond (by kernel_rfl) (by kernel_rfl) rfl rfl s H
noncomputable def r28_25 : {l : List Oper // opsOf (cAt [1, 1, 1, 0, 1, 0, 0, 1, 0, 1, 0, 1, 0] B28) = l} := by
  apply Subtype.mk
  dsimp only [opsOf, cAt, kids, B28, bodyOf, Try.f28, List.getD, List.getElem?_cons_zero, List.getElem?_cons_succ, Option.getD_some]
@[simp] theorem n28_25 (s : List V) (H : Heap) : evCode P Γ call n f m (cAt [1, 1, 1, 0, 1, 0, 0, 1, 0, 1, 0, 1, 0] B28) s H = regNext (evOpsGo P Γ call r28_25.1 r28_25.1 s H) := at_region (by kernel_rfl) r28_25.2 s H
attribute [simp] r28_25
@[simp] theorem n28_26 (s : List V) (H : Heap) : evCode P Γ call n f m (cAt [1, 1, 1, 0, 1, 0, 0, 1, 0, 1, 0, 1, 1] B28) s H = some (.normal, s, H) := at_skip (by kernel_rfl) s H
@[simp] theorem n28_27 (s : List V) (H : Heap) : evCode P Γ call n f m (cAt [1, 1, 1, 0, 1, 0, 0, 1, 0, 1, 1] B28) s H = seqNext P Γ call n f m (cAt [1, 1, 1, 0, 1, 0, 0, 1, 0, 1, 1, 1] B28) (evCode P Γ call n f m (cAt [1, 1, 1, 0, 1, 0, 0, 1, 0, 1, 1, 0] B28) s H) := at_seq (by kernel_rfl) rfl rfl s H
noncomputable def r28_28 : {l : List Oper // opsOf (cAt [1, 1, 1, 0, 1, 0, 0, 1, 0, 1, 1, 0] B28) = l} := by
  apply Subtype.mk
  dsimp only [opsOf, cAt, kids, B28, bodyOf, Try.f28, List.getD, List.getElem?_cons_zero, List.getElem?_cons_succ, Option.getD_some]
@[simp] theorem n28_28 (s : List V) (H : Heap) : evCode P Γ call n f m (cAt [1, 1, 1, 0, 1, 0, 0, 1, 0, 1, 1, 0] B28) s H = regNext (drawR P Γ call r28_28.1 [([1, 5, 6, 7, 8], [58, 62, 63, 64, 65]), ([0, 5, 6, 7, 8], [57, 62, 63, 64, 65]), ([5, 6, 7, 8], [62, 63, 64, 65]), ([5, 6, 7, 8], [62, 63, 64, 65]), ([5, 6, 7, 8], [62, 63, 64, 65]), ([0, 1, 2, 3, 4, 6], [57, 58, 59, 60, 61, 63]), ([0, 1, 2, 3, 4, 5], [57, 58, 59, 60, 61, 62]), ([0, 1, 2, 3, 4], [57, 58, 59, 60, 61]), ([0, 1, 2, 3, 4], [57, 58, 59, 60, 61]), ([], []), ([], [])] s H) := at_drawT (by kernel_rfl) r28_28.2 (by kernel_rfl) s H
attribute [simp] r28_28
@[simp] theorem n28_29 (s : List V) (H : Heap) : evCode P Γ call n f m (cAt [1, 1, 1, 0, 1, 0, 0, 1, 0, 1, 1, 1] B28) s H = condW P Γ call n f m (cAt [1, 1, 1, 0, 1, 0, 0, 1, 0, 1, 1, 1, 0] B28) (cAt [1, 1, 1, 0, 1, 0, 0, 1, 0, 1, 1, 1, 1] B28) s H (evOperand Γ s (.tmp 67)) := at_cond (by kernel_rfl) (by kernel_rfl) rfl rfl s H
noncomputable def r28_30 : {l : List Oper // opsOf (cAt [1, 1, 1, 0, 1, 0, 0, 1, 0, 1, 1, 1, 0] B28) = l} := by
  apply Subtype.mk
  dsimp only [opsOf, cAt, kids, B28, bodyOf, Try.f28, List.getD, List.getElem?_cons_zero, List.getElem?_cons_succ, Option.getD_some]
@[simp] theorem n28_30 (s : List V) (H : Heap) : evCode P Γ call n f m (cAt [1, 1, 1, 0, 1, 0, 0, 1, 0, 1, 1, 1, 0] B28) s H = regNext (evOpsGo P Γ call r28_30.1 r28_30.1 s H) := at_region (by kernel_rfl) r28_30.2 s H
attribute [simp] r28_30
noncomputable def r28_31 : {l : List Oper // opsOf (cAt [1, 1, 1, 0, 1, 0, 0, 1, 0, 1, 1, 1, 1] B28) = l} := by
  apply Subtype.mk
  dsimp only [opsOf, cAt, kids, B28, bodyOf, Try.f28, List.getD, List.getElem?_cons_zero, List.getElem?_cons_succ, Option.getD_some]
@[simp] theorem n28_31 (s : List V) (H : Heap) : evCode P Γ call n f m (cAt [1, 1, 1, 0, 1, 0, 0, 1, 0, 1, 1, 1, 1] B28) s H = regNext (evOpsGo P Γ call r28_31.1 r28_31.1 s H) := at_region (by kernel_rfl) r28_31.2 s H
attribute [simp] r28_31
@[simp] theorem n28_32 (s : List V) (H : Heap) : evCode P Γ call n f m (cAt [1, 1, 1, 1] B28) s H = seqNext P Γ call n f m (cAt [1, 1, 1, 1, 1] B28) (evCode P Γ call n f m (cAt [1, 1, 1, 1, 0] B28) s H) := at_seq (by kernel_rfl) rfl rfl s H
noncomputable def r28_33 : {l : List Oper // opsOf (cAt [1, 1, 1, 1, 0] B28) = l} := by
  apply Subtype.mk
  dsimp only [opsOf, cAt, kids, B28, bodyOf, Try.f28, List.getD, List.getElem?_cons_zero, List.getElem?_cons_succ, Option.getD_some]
@[simp] theorem n28_33 (s : List V) (H : Heap) : evCode P Γ call n f m (cAt [1, 1, 1, 1, 0] B28) s H = regNext (evOpsGo P Γ call r28_33.1 r28_33.1 s H) := at_region (by kernel_rfl) r28_33.2 s H
attribute [simp] r28_33
@[simp] theorem n28_34 (s : List V) (H : Heap) : evCode P Γ call n f m (cAt [1, 1, 1, 1, 1] B28) s H = some (.ret, s, H) := at_ret (by kernel_rfl) s H
theorem b28 {k : Nat} (ho : ∀ args H, Γ.orc 28 args H = none) (args : List V) (H : Heap) (ha : args.length ≤ 73) : evF Try.prog Γ (k + 1) 28 args H = bodyEnd Try.prog [.tmp 4] H.length (evCode Try.prog Γ (evF Try.prog Γ k) k 28 H.length (cAt [] B28) (mkL 73 V.undef (enumV 0 args)) H) := body_at Try.func28 (by decide) rfl ho rfl rfl args H ha
end
end Go.Ev.Try
