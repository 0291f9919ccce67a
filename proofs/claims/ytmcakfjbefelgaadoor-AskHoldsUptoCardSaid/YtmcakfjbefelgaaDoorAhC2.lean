/-
  CODE BY NAMES, printed by wip/tools/codes.py (own work).
-/
import Derived.Test.YtmcakfjbefelgaaDoorAhG
set_option maxRecDepth 100000
set_option linter.unusedVariables false
namespace Go.Ev.Tryd
open Go Go.Ev Go.Proofs
section
variable {P : Program} {Γ : Env} {call : CallF} {n f m : Nat}

noncomputable def B4 : Code := bodyOf Tryd.f4
@[simp] theorem n4_1 (s : List V) (H : Heap) : evCode P Γ call n f m (cAt [] B4) s H = seqNext P Γ call n f m (cAt [1] B4) (evCode P Γ call n f m (cAt [0] B4) s H) := at_seq (by kernel_rfl) rfl rfl s H
noncomputable def r4_2 : {l : List Oper // opsOf (cAt [0] B4) = l} := by
  apply Subtype.mk
  dsimp only [opsOf, cAt, kids, B4, bodyOf, Tryd.f4, List.getD, List.getElem?_cons_zero, List.getElem?_cons_succ, Option.getD_some]
@[simp] theorem n4_2 (s : List V) (H : Heap) : evCode P Γ call n f m (cAt [0] B4) s H = regNext (evOpsGo P Γ call r4_2.1 r4_2.1 s H) := at_region (by kernel_rfl) r4_2.2 s H
attribute [simp] r4_2
@[simp] theorem n4_3 (s : List V) (H : Heap) : evCode P Γ call n f m (cAt [1] B4) s H = seqNext P Γ call n f m (cAt [1, 1] B4) (evCode P Γ call n f m (cAt [1, 0] B4) s H) := at_seq (by kernel_rfl) rfl rfl s H
noncomputable def r4_4 : {l : List Oper // opsOf (cAt [1, 0] B4) = l} := by
  apply Subtype.mk
  dsimp only [opsOf, cAt, kids, B4, bodyOf, Tryd.f4, List.getD, List.getElem?_cons_zero, List.getElem?_cons_succ, Option.getD_some]
@[simp] theorem n4_4 (s : List V) (H : Heap) : evCode P Γ call n f m (cAt [1, 0] B4) s H = regNext (drawR P Γ call r4_4.1 [([], []), ([], []), ([3, 5, 6], [12, 14, 15]), ([2, 5, 6], [11, 14, 15]), ([5, 6], [14, 15]), ([2, 3, 4, 6], [11, 12, 13, 15]), ([2, 3, 4, 5], [11, 12, 13, 14]), ([], []), ([], []), ([], []), ([], []), ([12, 13, 15, 16, 17], [21, 22, 24, 25, 26]), ([11, 13, 15, 16, 17], [20, 22, 24, 25, 26]), ([11, 12, 15, 16, 17], [20, 21, 24, 25, 26]), ([15, 16, 17], [24, 25, 26]), ([11, 12, 13, 14, 16, 17], [20, 21, 22, 23, 25, 26]), ([11, 12, 13, 14, 15, 17], [20, 21, 22, 23, 24, 26]), ([11, 12, 13, 14, 15, 16], [20, 21, 22, 23, 24, 25]), ([], []), ([], []), ([], []), ([], [])] s H) := at_drawT (by kernel_rfl) r4_4.2 (by kernel_rfl) s H
attribute [simp] r4_4
@[simp] theorem n4_5 (s : List V) (H : Heap) : evCode P Γ call n f m (cAt [1, 1] B4) s H = some (.ret, s, H) := at_ret (by kernel_rfl) s H
theorem b4 {k : Nat} (ho : ∀ args H, Γ.orc 4 args H = none) (args : List V) (H : Heap) (ha : args.length ≤ 30) : evF Tryd.prog Γ (k + 1) 4 args H = bodyEnd Tryd.prog [.tmp 8] H.length (evCode Tryd.prog Γ (evF Tryd.prog Γ k) k 4 H.length (cAt [] B4) (mkL 30 V.undef (enumV 0 args)) H) := body_at Tryd.func4 (by decide) rfl ho rfl rfl args H ha
end
end Go.Ev.Tryd
