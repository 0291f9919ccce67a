/-
  FINDINGS: the oracles are right; the shelf's contracts laid at this program, as plain text (own work; the layings were printed by wip/tools/lay_g.py).
-/
import Derived.Test.YtmcakfjbefelgaaDoorAhG
import Derived.WalkKit
set_option linter.unusedSimpArgs false
set_option linter.unusedVariables false
set_option maxRecDepth 100000
namespace Go.Proofs
open Go.Shelf
def Tryd.containsM_ren : Go.Shelf.Ren := ⟨fun | 144 => 35 | 143 => 59 | 219 => 77 | 217 => 87 | 225 => 88 | 224 => 75 | 267 => 89 | 266 => 98 | 314 => 99 | n => n, fun | 9 => 9 | 4 => 4 | 3 => 3 | 5 => 5 | 46 => 102 | 146 => 109 | 51 => 108 | n => n, fun | 1 => 0 | n => n⟩
theorem Tryd.containsM : Go.Proofs.LaysM.n144 Tryd.prog Tryd.containsM_ren := {
  mixed := by kernel_rfl
  f143 := Tryd.func59.trans (congrArg some (by kernel_rfl))
  f144 := Tryd.func35.trans (congrArg some (by kernel_rfl))
  f217 := Tryd.func87.trans (congrArg some (by kernel_rfl))
  f219 := Tryd.func77.trans (congrArg some (by kernel_rfl))
  f224 := Tryd.func75.trans (congrArg some (by kernel_rfl))
  f225 := Tryd.func88.trans (congrArg some (by kernel_rfl))
  f266 := Tryd.func98.trans (congrArg some (by kernel_rfl))
  f267 := Tryd.func89.trans (congrArg some (by kernel_rfl))
  f314 := Tryd.func99.trans (congrArg some (by kernel_rfl))
  t3 := Tryd.underlying3
  a3 := Tryd.isAgg3
  z3 := Tryd.sizeOf3
  v3 := Tryd.zeroValue3
  t4 := Tryd.underlying4
  a4 := Tryd.isAgg4
  z4 := Tryd.sizeOf4
  v4 := Tryd.zeroValue4
  t5 := Tryd.underlying5
  a5 := Tryd.isAgg5
  z5 := Tryd.sizeOf5
  v5 := Tryd.zeroValue5
  t9 := Tryd.underlying9
  a9 := Tryd.isAgg9
  z9 := Tryd.sizeOf9
  v9 := Tryd.zeroValue9
  t46 := Tryd.underlying102
  a46 := Tryd.isAgg102
  z46 := Tryd.sizeOf102
  v46 := Tryd.zeroValue102
  t51 := Tryd.underlying108
  a51 := Tryd.isAgg108
  z51 := Tryd.sizeOf108
  v51 := Tryd.zeroValue108
  t146 := Tryd.underlying109
  a146 := Tryd.isAgg109
  z146 := Tryd.sizeOf109
  v146 := Tryd.zeroValue109
  g1 := by kernel_rfl
  i3 := by kernel_rfl
  i4 := by kernel_rfl
  i5 := by kernel_rfl
  i9 := by kernel_rfl
  i46 := by kernel_rfl
  i51 := by kernel_rfl
  i146 := by kernel_rfl
  m1 := by kernel_rfl
  s1_3 := fun w h => Go.Proofs.cell_of_shapedOpen_int (zero := #[.int .i64 0]) (t := 3) h (of_decide_eq_true (by kernel_rfl)) (by kernel_rfl) rfl (by kernel_rfl) (by kernel_rfl) Tryd.underlying3 }
def Tryd.bcontainsM_ren : Go.Shelf.Ren := ⟨fun | 186 => 32 | 185 => 57 | 187 => 72 | 115 => 73 | 253 => 74 | 224 => 75 | 254 => 76 | 255 => 85 | 291 => 86 | n => n, fun | 37 => 35 | 4 => 4 | 3 => 3 | 0 => 0 | 5 => 5 | 46 => 102 | 9 => 9 | 146 => 109 | 51 => 108 | n => n, fun | 1 => 0 | n => n⟩
theorem Tryd.bcontainsM : Go.Proofs.LaysM.n186 Tryd.prog Tryd.bcontainsM_ren := {
  mixed := by kernel_rfl
  f115 := Tryd.func73.trans (congrArg some (by kernel_rfl))
  f185 := Tryd.func57.trans (congrArg some (by kernel_rfl))
  f186 := Tryd.func32.trans (congrArg some (by kernel_rfl))
  f187 := Tryd.func72.trans (congrArg some (by kernel_rfl))
  f224 := Tryd.func75.trans (congrArg some (by kernel_rfl))
  f253 := Tryd.func74.trans (congrArg some (by kernel_rfl))
  f254 := Tryd.func76.trans (congrArg some (by kernel_rfl))
  f255 := Tryd.func85.trans (congrArg some (by kernel_rfl))
  f291 := Tryd.func86.trans (congrArg some (by kernel_rfl))
  t0 := Tryd.underlying0
  a0 := Tryd.isAgg0
  z0 := Tryd.sizeOf0
  v0 := Tryd.zeroValue0
  t3 := Tryd.underlying3
  a3 := Tryd.isAgg3
  z3 := Tryd.sizeOf3
  v3 := Tryd.zeroValue3
  t4 := Tryd.underlying4
  a4 := Tryd.isAgg4
  z4 := Tryd.sizeOf4
  v4 := Tryd.zeroValue4
  t5 := Tryd.underlying5
  a5 := Tryd.isAgg5
  z5 := Tryd.sizeOf5
  v5 := Tryd.zeroValue5
  t9 := Tryd.underlying9
  a9 := Tryd.isAgg9
  z9 := Tryd.sizeOf9
  v9 := Tryd.zeroValue9
  t37 := Tryd.underlying35
  a37 := Tryd.isAgg35
  z37 := Tryd.sizeOf35
  v37 := Tryd.zeroValue35
  t46 := Tryd.underlying102
  a46 := Tryd.isAgg102
  z46 := Tryd.sizeOf102
  v46 := Tryd.zeroValue102
  t51 := Tryd.underlying108
  a51 := Tryd.isAgg108
  z51 := Tryd.sizeOf108
  v51 := Tryd.zeroValue108
  t146 := Tryd.underlying109
  a146 := Tryd.isAgg109
  z146 := Tryd.sizeOf109
  v146 := Tryd.zeroValue109
  g1 := by kernel_rfl
  i0 := by kernel_rfl
  i3 := by kernel_rfl
  i4 := by kernel_rfl
  i5 := by kernel_rfl
  i9 := by kernel_rfl
  i37 := by kernel_rfl
  i46 := by kernel_rfl
  i51 := by kernel_rfl
  i146 := by kernel_rfl
  m1 := by kernel_rfl
  s1_3 := fun w h => Go.Proofs.cell_of_shapedOpen_int (zero := #[.int .i64 0]) (t := 3) h (of_decide_eq_true (by kernel_rfl)) (by kernel_rfl) rfl (by kernel_rfl) (by kernel_rfl) Tryd.underlying3 }
end Go.Proofs
namespace Go.Ev.Tryd.Hd
open Go Go.Ev Go.Proofs
theorem callable35 : Callable Tryd.prog 35 := ⟨Tryd.f35, Tryd.func35, by kernel_rfl, fun h => by
  have : (Tryd.f35.name == "runtime.NumGoroutine") = false := by decide
  rw [h] at this
  simp at this⟩
theorem callable32 : Callable Tryd.prog 32 := ⟨Tryd.f32, Tryd.func32, by kernel_rfl, fun h => by
  have : (Tryd.f32.name == "runtime.NumGoroutine") = false := by decide
  rw [h] at this
  simp at this⟩
theorem orcOk (mx : Int) : CallOk Tryd.prog (Γ mx) (Γ mx).orc := fun f args H r hr w0 B e w vs hg hs ha => by
  have hr' : orc f args H = some r := hr
  unfold orc at hr'
  split at hr'
  · rename_i hf
    subst hf
    exact countOrc_ok Tryd.func92 (by kernel_rfl) (by kernel_rfl) (by kernel_rfl) (by kernel_rfl) hr' hs ha
  · split at hr'
    · rename_i hf
      subst hf
      exact idxByteOrc_ok Tryd.func98 (by kernel_rfl) (by kernel_rfl) (by kernel_rfl) (by kernel_rfl) hr' hs ha
    · split at hr'
      · rename_i hf
        subst hf
        exact containsOrc_ok (P := Tryd.prog) (Γ := Γ mx) (ρ := Tryd.containsM_ren) rfl { Tryd.containsM with } (mx := mx) rfl callable35 hr' hg hs ha
      · split at hr'
        · rename_i hf
          subst hf
          exact bcontainsOrc_ok (P := Tryd.prog) (Γ := Γ mx) (ρ := Tryd.bcontainsM_ren) rfl { Tryd.bcontainsM with } (mx := mx) rfl callable32 hr' hg hs ha
        · cases hr'
/-- The variable bytealg.MaxLen holds some number. -/
theorem globOk {W : World} (h : W.ShapedOpen Tryd.prog) : ∃ mx, GlobMem (Γ mx) W W.heap.size := by
  obtain ⟨mx, hm⟩ := Tryd.containsM.s1_3 W h
  have hm : W.cell? ⟨0, 0, none⟩ = some (.int .i64 mx) := hm
  obtain ⟨cs, hh, hs, _⟩ := h.1 0 #[.int .i64 0] 3 (of_decide_eq_true (by kernel_rfl)) (by kernel_rfl)
  have h0 : 0 < W.heap.size := by
    rcases Nat.eq_zero_or_pos W.heap.size with h | h
    · rw [Array.getElem?_eq_none (by omega)] at hh; cases hh
    · exact h
  refine ⟨mx, fun g l hg => ?_⟩
  rw [Γ_glob] at hg
  split at hg
  · rename_i e
    subst e
    cases hg
    refine ⟨.ro _ _ 0 0 (fun _ => .int .i64 mx) ?_ ?_ ?_, h0, cs, 3, _, hh, hs⟩
    · intro j hj
      obtain rfl : j = 0 := by simpa using hj
      rw [kcell_old h0]
      exact hm
    · intro j hj; rfl
    · intro j hj
      obtain rfl : j = 0 := by simpa using hj
      exact .int _ _ _
  · cases hg
end Go.Ev.Tryd.Hd
