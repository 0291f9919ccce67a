/-
  THE LINE SEAT: the oracle is right; the shelf's contract laid at this program, as plain text (own work; the laying was printed by wip/tools/lay_g.py).
-/
import Derived.Test.YthmpoblblgohcaaLmA
import Derived.Test.YthmpoblblgohcaaLineB
import Derived.WalkKit
set_option linter.unusedSimpArgs false
set_option linter.unusedVariables false
set_option maxRecDepth 100000
namespace Go.Proofs
open Go.Shelf
def Try.sortL_ren : Go.Shelf.Ren := ⟨fun | 6 => 33 | 15 => 52 | 14 => 51 | 28 => 66 | 29 => 67 | 20 => 58 | 21 => 59 | 22 => 60 | 23 => 61 | 24 => 62 | 25 => 63 | 26 => 64 | 27 => 65 | 46 => 72 | 47 => 73 | 48 => 74 | 49 => 75 | 50 => 76 | 57 => 80 | n => n, fun | 22 => 23 | 24 => 35 | 25 => 48 | 3 => 3 | 39 => 75 | 0 => 0 | 53 => 89 | 55 => 91 | 4 => 4 | 46 => 83 | 45 => 82 | 50 => 36 | 5 => 5 | 9 => 9 | 66 => 94 | 70 => 98 | 76 => 101 | 77 => 55 | n => n, fun | n => n⟩
theorem Try.sortL : Go.Proofs.SlLaysF0.n6 Try.prog Try.sortL_ren := {
  mixed := by kernel_rfl
  f6 := ⟨Try.f33.name, by decide, Try.func33.trans (congrArg some (by kernel_rfl))⟩
  f14 := ⟨Try.f51.name, by decide, Try.func51.trans (congrArg some (by kernel_rfl))⟩
  f15 := Try.func52.trans (congrArg some (by kernel_rfl))
  f20 := ⟨Try.f58.name, by decide, Try.func58.trans (congrArg some (by kernel_rfl))⟩
  f21 := ⟨Try.f59.name, by decide, Try.func59.trans (congrArg some (by kernel_rfl))⟩
  f22 := ⟨Try.f60.name, by decide, Try.func60.trans (congrArg some (by kernel_rfl))⟩
  f23 := ⟨Try.f61.name, by decide, Try.func61.trans (congrArg some (by kernel_rfl))⟩
  f24 := ⟨Try.f62.name, by decide, Try.func62.trans (congrArg some (by kernel_rfl))⟩
  f25 := ⟨Try.f63.name, by decide, Try.func63.trans (congrArg some (by kernel_rfl))⟩
  f26 := ⟨Try.f64.name, by decide, Try.func64.trans (congrArg some (by kernel_rfl))⟩
  f27 := ⟨Try.f65.name, by decide, Try.func65.trans (congrArg some (by kernel_rfl))⟩
  f28 := Try.func66.trans (congrArg some (by kernel_rfl))
  f29 := Try.func67.trans (congrArg some (by kernel_rfl))
  f46 := ⟨Try.f72.name, by decide, Try.func72.trans (congrArg some (by kernel_rfl))⟩
  f47 := Try.func73.trans (congrArg some (by kernel_rfl))
  f48 := Try.func74.trans (congrArg some (by kernel_rfl))
  f49 := ⟨Try.f75.name, by decide, Try.func75.trans (congrArg some (by kernel_rfl))⟩
  f50 := ⟨Try.f76.name, by decide, Try.func76.trans (congrArg some (by kernel_rfl))⟩
  f57 := ⟨Try.f80.name, by decide, Try.func80.trans (congrArg some (by kernel_rfl))⟩
  t0 := Try.underlying0
  a0 := Try.isAgg0
  z0 := Try.sizeOf0
  v0 := Try.zeroValue0
  t3 := Try.underlying3
  a3 := Try.isAgg3
  z3 := Try.sizeOf3
  v3 := Try.zeroValue3
  t4 := Try.underlying4
  a4 := Try.isAgg4
  z4 := Try.sizeOf4
  v4 := Try.zeroValue4
  t5 := Try.underlying5
  a5 := Try.isAgg5
  z5 := Try.sizeOf5
  v5 := Try.zeroValue5
  t9 := Try.underlying9
  a9 := Try.isAgg9
  z9 := Try.sizeOf9
  v9 := Try.zeroValue9
  t22 := Try.underlying23
  a22 := Try.isAgg23
  z22 := Try.sizeOf23
  v22 := Try.zeroValue23
  t25 := Try.underlying48
  a25 := Try.isAgg48
  z25 := Try.sizeOf48
  v25 := Try.zeroValue48
  t39 := Try.underlying75
  a39 := Try.isAgg75
  z39 := Try.sizeOf75
  v39 := Try.zeroValue75
  t45 := Try.underlying82
  a45 := Try.isAgg82
  z45 := Try.sizeOf82
  v45 := Try.zeroValue82
  t46 := Try.underlying83
  a46 := Try.isAgg83
  z46 := Try.sizeOf83
  v46 := Try.zeroValue83
  t50 := Try.underlying36
  a50 := Try.isAgg36
  z50 := Try.sizeOf36
  v50 := Try.zeroValue36
  t53 := Try.underlying89
  a53 := Try.isAgg89
  z53 := Try.sizeOf89
  v53 := Try.zeroValue89
  t55 := Try.underlying91
  a55 := Try.isAgg91
  z55 := Try.sizeOf91
  v55 := Try.zeroValue91
  t66 := Try.underlying94
  a66 := Try.isAgg94
  z66 := Try.sizeOf94
  v66 := Try.zeroValue94
  t70 := Try.underlying98
  a70 := Try.isAgg98
  z70 := Try.sizeOf98
  v70 := Try.zeroValue98
  t76 := Try.underlying101
  a76 := Try.isAgg101
  z76 := Try.sizeOf101
  v76 := Try.zeroValue101
  t77 := Try.underlying55
  a77 := Try.isAgg55
  z77 := Try.sizeOf55
  v77 := Try.zeroValue55 }
end Go.Proofs
namespace Go.Ev.Try
open Go Go.Ev Go.Proofs

theorem callable33 : Callable Try.prog 33 := ⟨Try.f33, Try.func33, by kernel_rfl, fun h => by
  have : (Try.f33.name == "runtime.NumGoroutine") = false := by decide
  rw [h] at this
  simp at this⟩
theorem enters25 : ∀ args w, (callFunc 25 args).run Try.prog w = .ok (.enter 25 args) w := enters_of Try.func25 (by kernel_rfl) rfl
theorem baseOk : CallOk Try.prog Γb Γb.orc := fun f args H r hr w0 B e w vs hg hs ha => by
  have hr' : baseOrc f args H = some r := hr
  unfold baseOrc at hr'
  split at hr'
  · rename_i hf
    subst hf
    exact overlapsOrc_ok Try.func53 (by kernel_rfl) (by kernel_rfl) (by kernel_rfl) (tS := 23) (tR := 4) (el := 35) (size := 3) (by kernel_rfl) Try.underlying23 Try.sizeOf35 hr' hs ha
  · cases hr'
theorem orcOk : CallOk Try.prog Γ Γ.orc := fun f args H r hr w0 B e w vs hg hs ha => by
  have hr' : lineOrc f args H = some r := hr
  unfold lineOrc at hr'
  split at hr'
  · rename_i hf
    subst hf
    exact sortOrc_ok (P := Try.prog) (Γ := Γo fun _ _ _ => none) rfl (evF_sound (orc_none rfl) (by kernel_rfl) 200) markE (by decide) cmpM swoM 25
      (fun x y => ⟨[], cmpM_ok0 (o := fun _ _ _ => none) (fun _ _ _ _ => rfl) x y (k := 199) (by omega)⟩) enters25 (ρ := Try.sortL_ren) Try.sortL Try.isAgg35 Try.sizeOf35 callable33 hr' (fun g cs h => by cases h) hs ha
  · split at hr'
    · rename_i hf
      subst hf
      exact insOrc_ok (Γ := Γ) (Γ0 := Γb) markE (by decide) rfl rfl insWalk43 (evF_sound baseOk (by kernel_rfl)) hr' hg hs ha
    · exact baseOk f args H r hr' w0 B e w vs ⟨fun h => hg.1 h, fun g cs h => hg.2 g cs h⟩ hs ha
end Go.Ev.Try
