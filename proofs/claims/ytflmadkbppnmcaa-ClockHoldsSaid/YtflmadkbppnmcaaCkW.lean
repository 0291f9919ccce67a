/-
  THE CLOCK SEAT: the oracles are right; the shelf's contract laid at this program, as plain text (own work; the laying was printed by wip/tools/lay_g.py).
-/
import Derived.Test.YtflmadkbppnmcaaCkA
import Derived.WalkKit
set_option linter.unusedSimpArgs false
set_option linter.unusedVariables false
set_option maxRecDepth 100000
namespace Go.Proofs
open Go.Shelf
def Try.lays190_ren : Go.Shelf.Ren := ⟨fun | 190 => 31 | 125 => 50 | 258 => 49 | 128 => 73 | 129 => 74 | 302 => 65 | 303 => 66 | 304 => 67 | 305 => 68 | 306 => 69 | 307 => 70 | 308 => 55 | 309 => 71 | 310 => 72 | 333 => 83 | 329 => 84 | 330 => 85 | 334 => 86 | 335 => 87 | 336 => 78 | 344 => 99 | n => n, fun | 31 => 26 | 9 => 9 | 3 => 3 | 46 => 91 | 0 => 0 | 51 => 108 | 53 => 110 | 4 => 4 | 183 => 102 | 182 => 101 | 131 => 81 | 5 => 5 | 218 => 114 | 222 => 118 | 228 => 127 | 229 => 128 | n => n, fun | n => n⟩
theorem Try.lays190 : Go.Proofs.Lays.n190 Try.prog Try.lays190_ren := {
  mixed := by kernel_rfl
  f125 := Try.func50.trans (congrArg some (by kernel_rfl))
  f128 := Try.func73.trans (congrArg some (by kernel_rfl))
  f129 := Try.func74.trans (congrArg some (by kernel_rfl))
  f190 := Try.func31.trans (congrArg some (by kernel_rfl))
  f258 := Try.func49.trans (congrArg some (by kernel_rfl))
  f302 := Try.func65.trans (congrArg some (by kernel_rfl))
  f303 := Try.func66.trans (congrArg some (by kernel_rfl))
  f304 := Try.func67.trans (congrArg some (by kernel_rfl))
  f305 := Try.func68.trans (congrArg some (by kernel_rfl))
  f306 := Try.func69.trans (congrArg some (by kernel_rfl))
  f307 := Try.func70.trans (congrArg some (by kernel_rfl))
  f308 := Try.func55.trans (congrArg some (by kernel_rfl))
  f309 := Try.func71.trans (congrArg some (by kernel_rfl))
  f310 := Try.func72.trans (congrArg some (by kernel_rfl))
  f329 := Try.func84.trans (congrArg some (by kernel_rfl))
  f330 := Try.func85.trans (congrArg some (by kernel_rfl))
  f333 := Try.func83.trans (congrArg some (by kernel_rfl))
  f334 := Try.func86.trans (congrArg some (by kernel_rfl))
  f335 := Try.func87.trans (congrArg some (by kernel_rfl))
  f336 := Try.func78.trans (congrArg some (by kernel_rfl))
  f344 := Try.func99.trans (congrArg some (by kernel_rfl))
  t0 := Try.underlying0
  a0 := Try.isAgg0
  z0 := Try.sizeOf0
  v0 := Try.zeroValue0
  t3 := Try.underlying3
  a3 := Try.isAgg3
  z3 := Try.sizeOf3
  v3 := Try.zeroValue3
  t4 := Try.underlying4
  a4 := Try.isAgg4
  z4 := Try.sizeOf4
  v4 := Try.zeroValue4
  t5 := Try.underlying5
  a5 := Try.isAgg5
  z5 := Try.sizeOf5
  v5 := Try.zeroValue5
  t9 := Try.underlying9
  a9 := Try.isAgg9
  z9 := Try.sizeOf9
  v9 := Try.zeroValue9
  t31 := Try.underlying26
  a31 := Try.isAgg26
  z31 := Try.sizeOf26
  v31 := Try.zeroValue26
  t46 := Try.underlying91
  a46 := Try.isAgg91
  z46 := Try.sizeOf91
  v46 := Try.zeroValue91
  t51 := Try.underlying108
  a51 := Try.isAgg108
  z51 := Try.sizeOf108
  v51 := Try.zeroValue108
  t53 := Try.underlying110
  a53 := Try.isAgg110
  z53 := Try.sizeOf110
  v53 := Try.zeroValue110
  t131 := Try.underlying81
  a131 := Try.isAgg81
  z131 := Try.sizeOf81
  v131 := Try.zeroValue81
  t182 := Try.underlying101
  a182 := Try.isAgg101
  z182 := Try.sizeOf101
  v182 := Try.zeroValue101
  t183 := Try.underlying102
  a183 := Try.isAgg102
  z183 := Try.sizeOf102
  v183 := Try.zeroValue102
  t218 := Try.underlying114
  a218 := Try.isAgg114
  z218 := Try.sizeOf114
  v218 := Try.zeroValue114
  t222 := Try.underlying118
  a222 := Try.isAgg118
  z222 := Try.sizeOf118
  v222 := Try.zeroValue118
  t228 := Try.underlying127
  a228 := Try.isAgg127
  z228 := Try.sizeOf127
  v228 := Try.zeroValue127
  t229 := Try.underlying128
  a229 := Try.isAgg128
  z229 := Try.sizeOf128
  v229 := Try.zeroValue128 }
end Go.Proofs
namespace Go.Ev.Try
open Go Go.Ev Go.Proofs

theorem callable31 : Callable Try.prog 31 := ⟨Try.f31, Try.func31, by kernel_rfl, fun h => by
  have : (Try.f31.name == "runtime.NumGoroutine") = false := by decide
  rw [h] at this
  simp at this⟩
theorem baseOk : CallOk Try.prog Γb Γb.orc := fun f args H r hr w0 B e w vs hg hs ha => by
  have hr' : baseOrc f args H = some r := hr
  unfold baseOrc at hr'
  split at hr'
  · rename_i hf
    subst hf
    exact overlapsOrc_ok Try.func51 (by kernel_rfl) (by kernel_rfl) (by kernel_rfl) (tS := 26) (tR := 4) (el := 9) (size := 1) (by kernel_rfl) Try.underlying26 Try.sizeOf9 hr' hs ha
  · split at hr'
    · rename_i hf
      subst hf
      exact overlapsOrc_ok Try.func63 (by kernel_rfl) (by kernel_rfl) (by kernel_rfl) (tS := 56) (tR := 4) (el := 60) (size := 3) (by kernel_rfl) Try.underlying56 Try.sizeOf60 hr' hs ha
    · cases hr'
theorem orcOk : CallOk Try.prog Γ Γ.orc := fun f args H r hr w0 B e w vs hg hs ha => by
  have hr' : clockOrc f args H = some r := hr
  unfold clockOrc at hr'
  split at hr'
  · rename_i hf
    subst hf
    exact insOrc_ok (Γ := Γ) (Γ0 := Γb) strE (by decide) rfl rfl insWalk33 (evF_sound baseOk (by kernel_rfl)) hr' hg hs ha
  · split at hr'
    · rename_i hf
      subst hf
      exact sortSOrc_ok (Γ := Γ) (ρ := Try.lays190_ren) Try.lays190 rfl callable31 hr' hs ha
    · exact baseOk f args H r hr' w0 B e w vs ⟨fun h => hg.1 h, fun g cs h => hg.2 g cs h⟩ hs ha
end Go.Ev.Try
