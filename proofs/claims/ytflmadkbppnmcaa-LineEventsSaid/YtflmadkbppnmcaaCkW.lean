/-
  THE CLOCK SEAT: the oracles are right; the shelf's contract laid at this program, as plain text (own work; the laying was printed by wip/tools/lay_g.py).
-/
import Derived.Test.YtflmadkbppnmcaaCkA
import Derived.Test.YtflmadkbppnmcaaClM
import Derived.WalkKit
set_option linter.unusedSimpArgs false
set_option linter.unusedVariables false
set_option maxRecDepth 100000
namespace Go.Proofs
open Go.Shelf
def Try.lays190_ren : Go.Shelf.Ren := ⟨fun | 190 => 31 | 125 => 50 | 258 => 49 | 128 => 73 | 129 => 74 | 302 => 65 | 303 => 66 | 304 => 67 | 305 => 68 | 306 => 69 | 307 => 70 | 308 => 55 | 309 => 71 | 310 => 72 | 333 => 83 | 329 => 84 | 330 => 85 | 334 => 86 | 335 => 87 | 336 => 78 | 344 => 99 | n => n, fun | 31 => 26 | 9 => 9 | 3 => 3 | 46 => 91 | 0 => 0 | 51 => 108 | 53 => 110 | 4 => 4 | 183 => 102 | 182 => 101 | 131 => 81 | 5 => 5 | 218 => 114 | 222 => 118 | 228 => 127 | 229 => 128 | n => n, fun | n => n⟩
theorem Try.lays190 : Go.Proofs.Lays.n190 Try.prog Try.lays190_ren := {
  mixed := by kernel_rfl
  f125 := Try.func50.trans (congrArg some (by kernel_rfl))
  f128 := Try.func73.trans (congrArg some (by kernel_rfl))
  f129 := Try.func74.trans (congrArg some (by kernel_rfl))
  f190 := Try.func31.trans (congrArg some (by kernel_rfl))
  f258 := Try.func49.trans (congrArg some (by kernel_rfl))
  f302 := Try.func65.trans (congrArg some (by kernel_rfl))
  f303 := Try.func66.trans (congrArg some (by kernel_rfl))
  f304 := Try.func67.trans (congrArg some (by kernel_rfl))
  f305 := Try.func68.trans (congrArg some (by kernel_rfl))
  f306 := Try.func69.trans (congrArg some (by kernel_rfl))
  f307 := Try.func70.trans (congrArg some (by kernel_rfl))
  f308 := Try.func55.trans (congrArg some (by kernel_rfl))
  f309 := Try.func71.trans (congrArg some (by kernel_rfl))
  f310 := Try.func72.trans (congrArg some (by kernel_rfl))
  f329 := Try.func84.trans (congrArg some (by kernel_rfl))
  f330 := Try.func85.trans (congrArg some (by kernel_rfl))
  f333 := Try.func83.trans (congrArg some (by kernel_rfl))
  f334 := Try.func86.trans (congrArg some (by kernel_rfl))
  f335 := Try.func87.trans (congrArg some (by kernel_rfl))
  f336 := Try.func78.trans (congrArg some (by kernel_rfl))
  f344 := Try.func99.trans (congrArg some (by kernel_rfl))
  t0 := Try.underlying0
  a0 := Try.isAgg0
  z0 := Try.sizeOf0
  v0 := Try.zeroValue0
  t3 := Try.underlying3
  a3 := Try.isAgg3
  z3 := Try.sizeOf3
  v3 := Try.zeroValue3
  t4 := Try.underlying4
  a4 := Try.isAgg4
  z4 := Try.sizeOf4
  v4 := Try.zeroValue4
  t5 := Try.underlying5
  a5 := Try.isAgg5
  z5 := Try.sizeOf5
  v5 := Try.zeroValue5
  t9 := Try.underlying9
  a9 := Try.isAgg9
  z9 := Try.sizeOf9
  v9 := Try.zeroValue9
  t31 := Try.underlying26
  a31 := Try.isAgg26
  z31 := Try.sizeOf26
  v31 := Try.zeroValue26
  t46 := Try.underlying91
  a46 := Try.isAgg91
  z46 := Try.sizeOf91
  v46 := Try.zeroValue91
  t51 := Try.underlying108
  a51 := Try.isAgg108
  z51 := Try.sizeOf108
  v51 := Try.zeroValue108
  t53 := Try.underlying110
  a53 := Try.isAgg110
  z53 := Try.sizeOf110
  v53 := Try.zeroValue110
  t131 := Try.underlying81
  a131 := Try.isAgg81
  z131 := Try.sizeOf81
  v131 := Try.zeroValue81
  t182 := Try.underlying101
  a182 := Try.isAgg101
  z182 := Try.sizeOf101
  v182 := Try.zeroValue101
  t183 := Try.underlying102
  a183 := Try.isAgg102
  z183 := Try.sizeOf102
  v183 := Try.zeroValue102
  t218 := Try.underlying114
  a218 := Try.isAgg114
  z218 := Try.sizeOf114
  v218 := Try.zeroValue114
  t222 := Try.underlying118
  a222 := Try.isAgg118
  z222 := Try.sizeOf118
  v222 := Try.zeroValue118
  t228 := Try.underlying127
  a228 := Try.isAgg127
  z228 := Try.sizeOf127
  v228 := Try.zeroValue127
  t229 := Try.underlying128
  a229 := Try.isAgg128
  z229 := Try.sizeOf128
  v229 := Try.zeroValue128 }
def Try.sort58L_ren : Go.Shelf.Ren := ⟨fun | 6 => 58 | 15 => 50 | 14 => 79 | 28 => 73 | 29 => 74 | 20 => 90 | 21 => 91 | 22 => 92 | 23 => 93 | 24 => 94 | 25 => 95 | 26 => 96 | 27 => 97 | 46 => 100 | 47 => 84 | 48 => 85 | 49 => 101 | 50 => 102 | 57 => 103 | n => n, fun | 22 => 56 | 24 => 60 | 25 => 86 | 3 => 3 | 39 => 91 | 0 => 0 | 53 => 108 | 55 => 110 | 4 => 4 | 46 => 102 | 45 => 101 | 50 => 81 | 5 => 5 | 9 => 9 | 66 => 114 | 70 => 118 | 76 => 127 | 77 => 128 | n => n, fun | n => n⟩
theorem Try.sort58L : Go.Proofs.SlLaysF0.n6 Try.prog Try.sort58L_ren := {
  mixed := by kernel_rfl
  f6 := ⟨Try.f58.name, by decide, Try.func58.trans (congrArg some (by kernel_rfl))⟩
  f14 := ⟨Try.f79.name, by decide, Try.func79.trans (congrArg some (by kernel_rfl))⟩
  f15 := Try.func50.trans (congrArg some (by kernel_rfl))
  f20 := ⟨Try.f90.name, by decide, Try.func90.trans (congrArg some (by kernel_rfl))⟩
  f21 := ⟨Try.f91.name, by decide, Try.func91.trans (congrArg some (by kernel_rfl))⟩
  f22 := ⟨Try.f92.name, by decide, Try.func92.trans (congrArg some (by kernel_rfl))⟩
  f23 := ⟨Try.f93.name, by decide, Try.func93.trans (congrArg some (by kernel_rfl))⟩
  f24 := ⟨Try.f94.name, by decide, Try.func94.trans (congrArg some (by kernel_rfl))⟩
  f25 := ⟨Try.f95.name, by decide, Try.func95.trans (congrArg some (by kernel_rfl))⟩
  f26 := ⟨Try.f96.name, by decide, Try.func96.trans (congrArg some (by kernel_rfl))⟩
  f27 := ⟨Try.f97.name, by decide, Try.func97.trans (congrArg some (by kernel_rfl))⟩
  f28 := Try.func73.trans (congrArg some (by kernel_rfl))
  f29 := Try.func74.trans (congrArg some (by kernel_rfl))
  f46 := ⟨Try.f100.name, by decide, Try.func100.trans (congrArg some (by kernel_rfl))⟩
  f47 := Try.func84.trans (congrArg some (by kernel_rfl))
  f48 := Try.func85.trans (congrArg some (by kernel_rfl))
  f49 := ⟨Try.f101.name, by decide, Try.func101.trans (congrArg some (by kernel_rfl))⟩
  f50 := ⟨Try.f102.name, by decide, Try.func102.trans (congrArg some (by kernel_rfl))⟩
  f57 := ⟨Try.f103.name, by decide, Try.func103.trans (congrArg some (by kernel_rfl))⟩
  t0 := Try.underlying0
  a0 := Try.isAgg0
  z0 := Try.sizeOf0
  v0 := Try.zeroValue0
  t3 := Try.underlying3
  a3 := Try.isAgg3
  z3 := Try.sizeOf3
  v3 := Try.zeroValue3
  t4 := Try.underlying4
  a4 := Try.isAgg4
  z4 := Try.sizeOf4
  v4 := Try.zeroValue4
  t5 := Try.underlying5
  a5 := Try.isAgg5
  z5 := Try.sizeOf5
  v5 := Try.zeroValue5
  t9 := Try.underlying9
  a9 := Try.isAgg9
  z9 := Try.sizeOf9
  v9 := Try.zeroValue9
  t22 := Try.underlying56
  a22 := Try.isAgg56
  z22 := Try.sizeOf56
  v22 := Try.zeroValue56
  t25 := Try.underlying86
  a25 := Try.isAgg86
  z25 := Try.sizeOf86
  v25 := Try.zeroValue86
  t39 := Try.underlying91
  a39 := Try.isAgg91
  z39 := Try.sizeOf91
  v39 := Try.zeroValue91
  t45 := Try.underlying101
  a45 := Try.isAgg101
  z45 := Try.sizeOf101
  v45 := Try.zeroValue101
  t46 := Try.underlying102
  a46 := Try.isAgg102
  z46 := Try.sizeOf102
  v46 := Try.zeroValue102
  t50 := Try.underlying81
  a50 := Try.isAgg81
  z50 := Try.sizeOf81
  v50 := Try.zeroValue81
  t53 := Try.underlying108
  a53 := Try.isAgg108
  z53 := Try.sizeOf108
  v53 := Try.zeroValue108
  t55 := Try.underlying110
  a55 := Try.isAgg110
  z55 := Try.sizeOf110
  v55 := Try.zeroValue110
  t66 := Try.underlying114
  a66 := Try.isAgg114
  z66 := Try.sizeOf114
  v66 := Try.zeroValue114
  t70 := Try.underlying118
  a70 := Try.isAgg118
  z70 := Try.sizeOf118
  v70 := Try.zeroValue118
  t76 := Try.underlying127
  a76 := Try.isAgg127
  z76 := Try.sizeOf127
  v76 := Try.zeroValue127
  t77 := Try.underlying128
  a77 := Try.isAgg128
  z77 := Try.sizeOf128
  v77 := Try.zeroValue128 }
end Go.Proofs
namespace Go.Ev.Try
open Go Go.Ev Go.Proofs

theorem callable31 : Callable Try.prog 31 := ⟨Try.f31, Try.func31, by kernel_rfl, fun h => by
  have : (Try.f31.name == "runtime.NumGoroutine") = false := by decide
  rw [h] at this
  simp at this⟩
theorem baseOk : CallOk Try.prog Γb Γb.orc := fun f args H r hr w0 B e w vs hg hs ha => by
  have hr' : baseOrc f args H = some r := hr
  unfold baseOrc at hr'
  split at hr'
  · rename_i hf
    subst hf
    exact overlapsOrc_ok Try.func51 (by kernel_rfl) (by kernel_rfl) (by kernel_rfl) (tS := 26) (tR := 4) (el := 9) (size := 1) (by kernel_rfl) Try.underlying26 Try.sizeOf9 hr' hs ha
  · split at hr'
    · rename_i hf
      subst hf
      exact overlapsOrc_ok Try.func63 (by kernel_rfl) (by kernel_rfl) (by kernel_rfl) (tS := 56) (tR := 4) (el := 60) (size := 3) (by kernel_rfl) Try.underlying56 Try.sizeOf60 hr' hs ha
    · cases hr'
theorem callable58 : Callable Try.prog 58 := ⟨Try.f58, Try.func58, by kernel_rfl, fun h => by
  have : (Try.f58.name == "runtime.NumGoroutine") = false := by decide
  rw [h] at this
  simp at this⟩
theorem enters59 : ∀ args w, (callFunc 59 args).run Try.prog w = .ok (.enter 59 args) w := enters_of Try.func59 (by kernel_rfl) rfl
theorem orcOk : CallOk Try.prog Γ Γ.orc := fun f args H r hr w0 B e w vs hg hs ha => by
  have hr' : clockOrc f args H = some r := hr
  unfold clockOrc at hr'
  split at hr'
  · rename_i hf
    subst hf
    exact insOrc_ok (Γ := Γ) (Γ0 := Γb) strE (by decide) rfl rfl insWalk33 (evF_sound baseOk (by kernel_rfl)) hr' hg hs ha
  · split at hr'
    · rename_i hf
      subst hf
      exact sortSOrc_ok (Γ := Γ) (ρ := Try.lays190_ren) Try.lays190 rfl callable31 hr' hs ha
    · split at hr'
      · rename_i hf
        subst hf
        exact sortOrc_ok (P := Try.prog) (Γ := Γo fun _ _ _ => none) rfl (evF_sound (orc_none rfl) (by kernel_rfl) 200) markE (by decide) cmpM Ln.swoM 59
          (fun x y => ⟨[], Ln.cmpM_ok0 (o := fun _ _ _ => none) (fun _ _ _ _ => rfl) x y (k := 199) (by omega)⟩) enters59 (ρ := Try.sort58L_ren) Try.sort58L Try.isAgg60 Try.sizeOf60 callable58 hr' (fun g cs h => by cases h) hs ha
      · split at hr'
        · rename_i hf
          subst hf
          exact insOrc_ok (Γ := Γ) (Γ0 := Γb) markE (by decide) rfl rfl Ln.insWalk43 (evF_sound baseOk (by kernel_rfl)) hr' hg hs ha
        · exact baseOk f args H r hr' w0 B e w vs ⟨fun h => hg.1 h, fun g cs h => hg.2 g cs h⟩ hs ha
end Go.Ev.Try
