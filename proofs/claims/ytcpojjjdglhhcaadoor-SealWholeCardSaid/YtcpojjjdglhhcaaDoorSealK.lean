/-
  THE SEAL SEAT: the chains that Chain makes (own work).
-/
import Derived.Test.YtcpojjjdglhhcaaDoorSealJ
set_option linter.unusedSimpArgs false
set_option linter.unusedVariables false
set_option maxRecDepth 100000
set_option maxHeartbeats 4000000
namespace Go.Ev.Tryd
open Go Go.Ev Go.Proofs

theorem step_fin {s : State} {f : Bool} {x : Entry} : (step s f x).2 = 0 →
    (x.kind = 0 → (step s f x).1.holder = x.who) ∧ (x.kind = 1 → (step s f x).1.holder = x.to) ∧ (x.kind = 2 ∨ x.kind = 3 → (step s f x).1.holder = s.holder) := by
  unfold step
  by_cases h0 : x.kind < 0 ∨ 5 ≤ x.kind
  · rw [if_pos h0]; intro h; exact absurd h (by decide)
  rw [if_neg h0]
  by_cases h1 : named x.who = false ∨ (x.kind = 1 ∧ named x.to = false)
  · rw [if_pos h1]; intro h; exact absurd h (by decide)
  rw [if_neg h1]
  by_cases h2 : (x.kind ≠ 1 ∧ x.to ≠ ByteArray.empty) ∨ (x.kind ≠ 0 ∧ x.kind ≠ 3 ∧ x.root ≠ 0)
  · rw [if_pos h2]; intro h; exact absurd h (by decide)
  rw [if_neg h2]
  by_cases h3 : x.time < s.time ∨ 4294967295 < x.time
  · rw [if_pos h3]; intro h; exact absurd h (by decide)
  rw [if_neg h3]
  by_cases h4 : decide (x.kind = 0) ≠ f
  · rw [if_pos h4]; intro h; exact absurd h (by decide)
  rw [if_neg h4]
  by_cases h5 : f = false ∧ x.who ≠ s.holder
  · rw [if_pos h5]; intro h; exact absurd h (by decide)
  rw [if_neg h5]
  by_cases h6 : s.opened ≠ decide (x.kind = 3)
  · rw [if_pos h6]; intro h; exact absurd h (by decide)
  rw [if_neg h6]
  by_cases h7 : x.kind = 1 ∧ x.to = x.who
  · rw [if_pos h7]; intro h; exact absurd h (by decide)
  rw [if_neg h7]
  intro _
  refine ⟨fun hk => ?_, fun hk => ?_, fun hk => ?_⟩
  · rw [if_pos hk]
  · rw [if_neg (by omega), if_pos hk]
  · rcases hk with hk | hk
    · rw [if_neg (by omega), if_neg (by omega), if_pos hk]
    · rw [if_neg (by omega), if_neg (by omega), if_neg (by omega), if_pos hk]

def Good (l : List Entry) : Prop := Right l ∧ (holders l).getLast? = some (check l).1.holder ∧ 0 < l.length

theorem Good.snoc {l : List Entry} (h : Good l) (x : Entry) (hx : okE x) (h99 : l.length < 100) (hs : (step (check l).1 l.isEmpty x).2 = 0) (hk : x.kind = 1 ∨ x.kind = 2 ∨ x.kind = 3) :
    Good (l ++ [{ x with sum := sumS (lastSum l) x }]) := by
  obtain ⟨h1, h2⟩ := h.1.snoc x hx h99 hs
  refine ⟨h1, ?_, by simp⟩
  rw [h2]
  obtain ⟨f0, f1, f2⟩ := step_fin hs
  have e : holders (l ++ [{ x with sum := sumS (lastSum l) x }]) = holders l ++ held x := by
    unfold holders
    rw [List.flatMap_append]
    simp [held]
  rw [e]
  rcases hk with hk | hk
  · rw [f1 hk]; simp [held, hk]
  · rw [f2 hk, ← h.2.1]
    have : held x = [] := by unfold held; rcases hk with hk | hk <;> simp [hk]
    rw [this, List.append_nil]

def names3 : List ByteArray := [⟨#[107, 105, 109]⟩, ⟨#[108, 101, 101]⟩, ⟨#[109, 97, 120]⟩]
@[simp] theorem fold_names : [V.str ⟨#[107, 105, 109]⟩, V.str ⟨#[108, 101, 101]⟩, V.str ⟨#[109, 97, 120]⟩] = flatE strE names3 := rfl
theorem names3_length : names3.length = 3 := rfl
theorem names3_size : ∀ s ∈ names3, s.size ≤ 12 ∧ named s = true := by
  intro s hs
  simp [names3] at hs
  rcases hs with rfl | rfl | rfl <;> exact ⟨by decide, by decide⟩

theorem good_first (who : ByteArray) (hw : who ∈ names3) (time : Int) (h0 : 0 ≤ time) (h1 : time < 100) :
    okE ⟨0, who, ByteArray.empty, time, 7, 0⟩ ∧ (step (check []).1 true ⟨0, who, ByteArray.empty, time, 7, 0⟩).2 = 0 ∧ Good [⟨0, who, ByteArray.empty, time, 7, sumS 0 ⟨0, who, ByteArray.empty, time, 7, 0⟩⟩] := by
  obtain ⟨n1, n2⟩ := names3_size who hw
  have hx : okE ⟨0, who, ByteArray.empty, time, 7, 0⟩ := ⟨by simp, ⟨h0, h1⟩, by simp, n1, by simp⟩
  have hc : check [] = (state0, 0, 0) := by simp [check, checkGo]
  have hs : (step (check []).1 true ⟨0, who, ByteArray.empty, time, 7, 0⟩).2 = 0 := by
    rw [hc]
    have g1 : ¬ time < 0 := by omega
    have g2 : ¬ 4294967295 < time := by omega
    simp [step, n2, state0, g1, g2]
  refine ⟨hx, hs, ?_⟩
  have hR : Right [] := ⟨fun x h => by simp at h, by rw [hc], by simp⟩
  obtain ⟨r1, r2⟩ := hR.snoc _ hx (by simp) hs
  have e : ([] : List Entry) ++ [{ (⟨0, who, ByteArray.empty, time, 7, 0⟩ : Entry) with sum := sumS (lastSum []) ⟨0, who, ByteArray.empty, time, 7, 0⟩ }] = [⟨0, who, ByteArray.empty, time, 7, sumS 0 ⟨0, who, ByteArray.empty, time, 7, 0⟩⟩] := rfl
  rw [e] at r1 r2
  refine ⟨r1, ?_, by simp⟩
  have hE : ([] : List Entry).isEmpty = true := rfl
  rw [hE] at r2
  rw [r2, (step_fin hs).1 rfl]
  simp [holders, held]
end Go.Ev.Tryd
