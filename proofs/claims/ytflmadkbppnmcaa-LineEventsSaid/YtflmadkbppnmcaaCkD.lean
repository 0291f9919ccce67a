/-
  THE CLOCK SEAT: Clocks (own work).
-/
import Derived.Test.YtflmadkbppnmcaaCkB
import Derived.Test.YtflmadkbppnmcaaCkC1
set_option linter.unusedSimpArgs false
set_option linter.unusedVariables false
set_option maxRecDepth 100000
set_option maxHeartbeats 4000000
namespace Go.Ev.Try
open Go Go.Ev Go.Proofs

theorem ownV_pos (id off n sz : Nat) (h : 0 < n) : ownV true id off n sz = .sl id off n sz := by
  obtain ⟨m, rfl⟩ : ∃ m, n = m + 1 := ⟨n - 1, by omega⟩
  simp
theorem ownB_pos (n : Nat) (cs : List V) (h : 0 < n) : ownB true n cs = some (.cells cs false) := by
  obtain ⟨m, rfl⟩ : ∃ m, n = m + 1 := ⟨n - 1, by omega⟩
  simp
def clks (l : List Event) : List ByteArray := l.map (·.clock)
@[simp] theorem clks_length (l : List Event) : (clks l).length = l.length := by simp [clks]
theorem at_events (l : List Event) (i : Nat) (h : i < l.length) : List.take 3 (List.drop (i * 3) (flatE eventE l)) = [.str l[i].clock, .int .i64 l[i].show', .int .i64 l[i].wide'] := at_flatE eventE rfl l i h
theorem sort31 (L : List ByteArray) (hp : 0 < L.length) (hn : L.length < 4611686018427387904) {k : Nat} : evF Try.prog Γ (k + 1) 31 [.sl 0 0 L.length 1] [some (.cells (flatE strE L) false)] = some (V.undef, [some (.cells (flatE strE (sortS L)) false)]) := by
  refine evF_orc ?_
  have ho : ∀ a H, Γ.orc 31 a H = sortSOrc a H := fun a H => by simp [Γ, Γo, clockOrc]
  rw [ho]
  have h := sortSOrc_eq (id := 0) (off := 0) (H := [some (.cells (flatE strE L) false)]) (l := L) rfl hp (by rw [List.drop_zero, take_all_flatE1 strE rfl]) rfl hn (by simp)
  rw [h]
  have : List.drop (0 + L.length) (flatE strE L) = [] := List.drop_of_length_le (by simp)
  simp [this]
theorem sort31n {k : Nat} : evF Try.prog Γ (k + 1) 31 [.nils] [] = some (V.undef, []) := by
  refine evF_orc ?_
  have ho : ∀ a H, Γ.orc 31 a H = sortSOrc a H := fun a H => by simp [Γ, Γo, clockOrc]
  rw [ho]; rfl
theorem clocks_ok (l : List Event) (z : Bool) (hl : l.length ≤ 8796093022208) {k : Nat} (hk : l.length + 10 < k) :
    evF Try.prog Γ (k + 1) 10 [roV z l.length (flatE eventE l)] [] = some (ownV true 0 0 (dedup (sortS (clks l))).length 1, [ownB true (dedup (sortS (clks l))).length (flatE strE (dedup (sortS (clks l)) ++ List.replicate (l.length - (dedup (sortS (clks l))).length) ByteArray.empty))]) := by
  obtain ⟨k, rfl⟩ : ∃ j, k = j + 2 := ⟨k - 2, by omega⟩
  rw [b10 (fun _ _ => rfl) _ _ (by simp)]
  simp -implicitDefEqProofs
  generalize hx : evLoopC _ _ _ _ _ _ _ _ _ _ = R
  apply loop_gen hx (fun i : Nat => (mkL 22 .junk [(3, ownV true 0 0 i 1), (6, roV z l.length (flatE eventE l)), (7, .int .i64 l.length), (8, .int .i64 i)], [ownB true i (flatE strE ((clks l).take i)), none]))
    (fun i => i ≤ l.length) (fun i => l.length - i) 0
  case hI => simp
  case hq => omega
  case ht => simp -implicitDefEqProofs [liveOf]
  case round =>
    rintro i hi _
    clear hx
    by_cases hlt : i < l.length
    · have hlt2 : (i : Int) < l.length := by omega
      have ms := at_events l i hlt
      have h3 : 3 ≤ l.length * 3 - i * 3 := by omega
      have hs : (clks l).take (i + 1) = (clks l).take i ++ [l[i].clock] := by
        rw [List.take_succ_eq_append_getElem (by simpa using hlt)]; simp [clks]
      have hlen : ((clks l).take i).length = i := by simp; omega
      generalize l[i] = x at *
      cases i with
      | zero =>
        have e2 : addI .i64 0 1 = 1 := by rw [addI_i64 (by omega) (by omega)]; omega
        simp at hlt2 ms
        simp -implicitDefEqProofs [hlt, hlt2, e2, ms, h3]
        exact rnd_next 1 hlt (by omega) (by simp -implicitDefEqProofs [liveOf, hs])
      | succ i =>
        have e2 : addI .i64 ((i : Int) + 1) 1 = (i : Int) + 1 + 1 := addI_i64 (by omega) (by omega)
        have hb : (i + 1 + 1) * 16 ≤ 140737488355328 := by omega
        simp at hlt2 ms
        have hp0 : (0 : Int) ≤ (i : Int) + 1 := by omega
        simp -implicitDefEqProofs [hlt, hlt2, e2, ms, h3, hb, hlen, hp0]
        exact rnd_next (i + 1 + 1) hlt (by omega) (by simp -implicitDefEqProofs [liveOf, hs, hlen])
    · have hi' : i = l.length := by omega
      subst hi'
      have hlt2 : ¬ (l.length : Int) < (l.length : Int) := by omega
      have ht : (clks l).take l.length = clks l := List.take_of_length_le (by simp)
      rw [ht]
      cases hl0 : l.length with
      | zero =>
        have hnil : l = [] := List.length_eq_zero_iff.1 hl0
        subst hnil
        have c1 := sort31n (k := k + 1)
        have c2 := compact_n (k := k + 1)
        have hd : dedup (sortS (clks [])) = [] := by rw [show clks [] = [] from rfl]; unfold sortS; simp [dedup]
        simp -implicitDefEqProofs [c1, c2, hd]
      | succ n =>
        have hln : (clks l).length = n + 1 := by simp [hl0]
        have c1 := sort31 (clks l) (by omega) (by omega) (k := k + 1)
        have c2 := compact_s (sortS (clks l)) (by rw [sortS_length]; omega) (k := k + 1) (by rw [sortS_length]; omega)
        rw [sortS_length] at c2
        rw [hln] at c1 c2
        have hpos : 0 < (dedup (sortS (clks l))).length := by
          rcases Nat.eq_zero_or_pos (dedup (sortS (clks l))).length with h | h
          · exfalso
            have h0 : dedup (sortS (clks l)) = [] := List.length_eq_zero_iff.1 h
            obtain ⟨x, hx⟩ : ∃ x, x ∈ clks l := by
              cases hc : clks l with
              | nil => rw [hc] at hln; simp at hln
              | cons x _ => exact ⟨x, by simp⟩
            have := (dedup_mem _ (sortS (clks l)) rfl x).2 ((sortS_mem _ _).2 hx)
            rw [h0] at this; simp at this
          · exact h
        rw [ownV_pos _ _ _ _ hpos, ownB_pos _ _ hpos]
        simp at c1 c2
        simp -implicitDefEqProofs [c1, c2]
end Go.Ev.Try
