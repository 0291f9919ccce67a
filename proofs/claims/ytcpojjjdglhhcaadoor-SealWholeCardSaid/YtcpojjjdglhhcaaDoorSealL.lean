/-
  THE SEAL SEAT: Chain makes good chains (own work).
-/
import Derived.Test.YtcpojjjdglhhcaaDoorSealK
set_option linter.unusedSimpArgs false
set_option linter.unusedVariables false
set_option maxRecDepth 100000
set_option maxHeartbeats 4000000
namespace Go.Ev.Tryd
open Go Go.Ev Go.Proofs

/-- The first root is 7. -/
def Root7 (l : List Entry) : Prop := ∃ x t, l = x :: t ∧ x.root = 7
theorem Root7.snoc {l : List Entry} (h : Root7 l) (x : Entry) : Root7 (l ++ [x]) := by
  obtain ⟨y, t, rfl, hy⟩ := h
  exact ⟨y, t ++ [x], rfl, hy⟩
/-- What a chain under way has: a good chain, who is a name, the time so far. -/
def Way (i : Nat) (who : ByteArray) (time : Int) (out : List Entry) : Prop :=
  Good out ∧ who ∈ names3 ∧ 0 ≤ time ∧ time ≤ 49 + 4 * (i : Int) ∧ out.length ≤ i + 1 ∧ Root7 out

theorem drop_names (j : Nat) (h : j < names3.length) : List.drop j (flatE strE names3) = .str names3[j] :: List.drop (j + 1) (flatE strE names3) := by
  rw [drop_flatE1 strE rfl, drop_flatE1 strE rfl, List.drop_eq_getElem_cons h]
  rfl

theorem chain_ok (l : List Int) (z : Bool) {k : Nat} (hk : 800 ≤ k) :
    ∃ out, Good out ∧ out.length ≤ 9 ∧ Root7 out ∧ evF Tryd.prog Γ (k + 1) 7 [roV z l.length (flatE (intE .i64) l)] [] = some (.sl 0 0 out.length 6, [some (.cells (flatE entryE out) false)]) := by
  obtain ⟨k, rfl⟩ : ∃ j, k = j + 2 := ⟨k - 2, by omega⟩
  have hn0 := nextN_lt l 3 (by omega)
  have hn1 := nextN_lt l.tail 50 (by omega)
  have hn2 := nextN_lt l.tail.tail 8 (by omega)
  have a0 := next_ok l z 3 (by omega) (by omega) (k := k)
  have a1 := next_ok l.tail (z && l.isEmpty) 50 (by omega) (by omega) (k := k)
  have a2 := next_ok l.tail.tail (z && l.isEmpty && l.tail.isEmpty) 8 (by omega) (by omega) (k := k)
  have hw : ((nextN l 3).toNat) < names3.length := by rw [names3_length]; omega
  obtain ⟨f1, f2, f3⟩ := good_first names3[(nextN l 3).toNat] (List.getElem_mem hw) (nextN l.tail 50) hn1.1 (by omega)
  have a3 := append_ok [] _ (fun x h => by simp at h) f1 (by simp [check, checkGo]) (by simp) (k := k + 1) (by omega)
  rw [if_pos (show (step (check []).1 ([] : List Entry).isEmpty _).2 = 0 from f2)] at a3
  simp only [entryE_f, List.length_nil, roV_nil, List.nil_append] at a3
  have hd : List.drop (nextN l 3).toNat (flatE strE names3) = .str names3[(nextN l 3).toNat] :: List.drop ((nextN l 3).toNat + 1) (flatE strE names3) := drop_names _ hw
  rw [b7 (Γ := Γ) (k := k + 2) (fun _ _ => rfl) [roV z l.length (flatE (intE .i64) l)] [] (by simp)]
  have e3 : (nextN l 3) < 3 := hn0.2
  generalize hwho : names3[(nextN l 3).toNat] = who at *
  have hmem : who ∈ names3 := hwho ▸ List.getElem_mem hw
  generalize nextN l 3 = j0 at *
  generalize nextN l.tail 50 = t0 at *
  generalize nextN l.tail.tail 8 = n0 at *
  generalize (z && l.isEmpty) = z1 at *
  generalize (z1 && l.tail.isEmpty) = z2 at *
  generalize l.tail.tail.tail = l3 at *
  generalize l.tail.tail = l2 at *
  generalize l.tail = l1 at *
  simp -implicitDefEqProofs [a0, a1, a2, a3, hn0.1, e3, hd]
  generalize hx : evLoopC _ _ _ _ _ _ _ _ _ _ = R
  apply loop_gen hx (fun a : Nat × (Bool × List Int) × (ByteArray × Int) × (List Entry × Bool) => (mkL 87 .junk [(2, .nils), (3, .ptr 1 0), (4, .sl 2 0 3 1), (5, .str a.2.2.1.1), (6, .int .i64 a.2.2.1.2), (7, .sl 3 0 a.2.2.2.1.length 6), (9, .bool a.2.2.2.2), (32, .int .i64 n0), (33, .int .i64 a.1)],
      [none, some (.cells [roV a.2.1.1 a.2.1.2.length (flatE (intE .i64) a.2.1.2)] true), some (.cells (flatE strE names3) true), some (.cells (flatE entryE a.2.2.2.1) false), none]))
    (fun a => (a.1 : Int) ≤ n0 ∧ Way a.1 a.2.2.1.1 a.2.2.1.2 a.2.2.2.1) (fun a => (n0 - a.1).toNat) (0, (z2 && l2.isEmpty, l3), (who, t0), ([⟨0, who, ByteArray.empty, t0, 7, sumS 0 ⟨0, who, ByteArray.empty, t0, 7, 0⟩⟩], false))
  case hI => exact ⟨by simp only; omega, f3, hmem, hn1.1, by simp only; omega, by simp, ⟨_, [], rfl, rfl⟩⟩
  case hq => simp only; omega
  case ht =>
    have e0 : lastSum [] = 0 := rfl
    simp -implicitDefEqProofs [liveOf, e0]
  case round =>
    clear hx f1 f2 f3 a0 a1 a2 a3 hd hwho hmem
    rintro ⟨i, ⟨z, m⟩, ⟨who, time⟩, ⟨out, op⟩⟩ ⟨hi, hW⟩ _
    obtain ⟨w1, w2, w3, w4, w5, w6⟩ := hW
    simp only at hi w1 w2 w3 w4 w5 w6
    by_cases hlt : (i : Int) < n0
    · have hi6 : i ≤ 6 := by omega
      have g5 := nextN_lt m 5 (by omega)
      have g3 := nextN_lt m.tail 3 (by omega)
      have g2 := nextN_lt m.tail.tail 2 (by omega)
      have b5 := next_ok m z 5 (by omega) (by omega) (k := k)
      have b3 := next_ok m.tail (z && m.isEmpty) 3 (by omega) (by omega) (k := k)
      have b2 := next_ok m.tail.tail (z && m.isEmpty && m.tail.isEmpty) 2 (by omega) (by omega) (k := k)
      have hw3 : ((nextN m.tail 3).toNat) < names3.length := by rw [names3_length]; omega
      have hd3 := drop_names _ hw3
      have hto := List.getElem_mem hw3
      have et : addI .i64 time (nextN m 5) = time + nextN m 5 := addI_i64 (by omega) (by omega)
      have hlen9 : out.length < 100 := by omega
      have hb : (out.length + 1) * 64 ≤ 140737488355328 := by omega
      have ei : addI .i64 (i : Int) 1 = (i : Int) + 1 := addI_i64 (by omega) (by omega)
      have app : ∀ x, okE x → evF Tryd.prog Γ (k + 2) 18 [.ros out.length (flatE entryE out), .agg (entryE.f x)] [] =
          if (step (check out).1 out.isEmpty x).2 = 0 then some (.tup [.sl 0 0 (out.length + 1) 6, .int .i64 0], [some (.cells (flatE entryE (out ++ [{ x with sum := sumS (lastSum out) x }])) false)])
          else some (.tup [.nils, .int .i64 (step (check out).1 out.isEmpty x).2], [none]) := fun x hx => by
        have := append_ok out x w1.1.1 hx w1.1.2.1 hlen9 (k := k + 1) (by omega)
        have hp := w1.2.2
        rw [show roV true out.length (flatE entryE out) = .ros out.length (flatE entryE out) by obtain ⟨c, hc⟩ : ∃ c, out.length = c + 1 := ⟨out.length - 1, by omega⟩; rw [hc]; simp] at this
        exact this
      have hwn := (names3_size who w2).1
      have htn := (names3_size _ hto).1
      generalize htoe : names3[(nextN m.tail 3).toNat] = to at *
      generalize nextN m 5 = j5 at *
      generalize nextN m.tail 3 = j3 at *
      generalize nextN m.tail.tail 2 = j2 at *
      generalize (z && m.isEmpty) = z1 at *
      generalize (z1 && m.tail.isEmpty) = z2 at *
      generalize m.tail.tail.tail = m3 at *
      generalize m.tail.tail = m2 at *
      generalize m.tail = m1 at *
      have e3 : j3 < 3 := g3.2
      cases op with
      | true =>
        have e7 : addI .i64 7 j2 = 7 + j2 := addI_i64 (by omega) (by omega)
        have e8 : IntKind.u64.wrap (7 + j2) = 7 + j2 := by rw [IntKind.wrap_u64]; omega
        have hx : okE ⟨3, who, ByteArray.empty, time + j5, 7 + j2, 0⟩ := ⟨by simp, by simp only; omega, by simp only; omega, hwn, by simp⟩
        have c := app _ hx
        by_cases hs : (step (check out).1 out.isEmpty ⟨3, who, ByteArray.empty, time + j5, 7 + j2, 0⟩).2 = 0
        · rw [if_pos hs] at c
          have hG := w1.snoc _ hx hlen9 hs (by simp)
          simp only [entryE_f] at c
          simp -implicitDefEqProofs [hlt, b5, b3, b2, et, ei, g3.1, e3, hd3, c, convertV, e7, e8]
          exact rnd_next (i + 1, (z2 && m2.isEmpty, m3), (who, time + j5), (out ++ [{ (⟨3, who, ByteArray.empty, time + j5, 7 + j2, 0⟩ : Entry) with sum := sumS (lastSum out) ⟨3, who, ByteArray.empty, time + j5, 7 + j2, 0⟩ }], false)) ⟨by simp only; omega, hG, w2, by simp only; omega, by simp only; omega, by simp; omega, w6.snoc _⟩ (by simp only; omega) (by simp -implicitDefEqProofs [liveOf, entryE_f])
        · rw [if_neg hs] at c
          simp only [entryE_f] at c
          simp -implicitDefEqProofs [hlt, b5, b3, b2, et, ei, g3.1, e3, hd3, c, hs, convertV, e7, e8]
          exact ⟨out, w1, by omega, w6, rfl, rfl⟩
      | false =>
        by_cases h2 : j2 = 0
        · subst h2
          have hx : okE ⟨2, who, ByteArray.empty, time + j5, 0, 0⟩ := ⟨by simp, by simp only; omega, by simp only; omega, hwn, by simp⟩
          have c := app _ hx
          by_cases hs : (step (check out).1 out.isEmpty ⟨2, who, ByteArray.empty, time + j5, 0, 0⟩).2 = 0
          · rw [if_pos hs] at c
            have hG := w1.snoc _ hx hlen9 hs (by simp)
            simp only [entryE_f] at c
            simp -implicitDefEqProofs [hlt, b5, b3, b2, et, ei, g3.1, e3, hd3, c, convertV]
            exact rnd_next (i + 1, (z2 && m2.isEmpty, m3), (who, time + j5), (out ++ [{ (⟨2, who, ByteArray.empty, time + j5, 0, 0⟩ : Entry) with sum := sumS (lastSum out) ⟨2, who, ByteArray.empty, time + j5, 0, 0⟩ }], true)) ⟨by simp only; omega, hG, w2, by simp only; omega, by simp only; omega, by simp; omega, w6.snoc _⟩ (by simp only; omega) (by simp -implicitDefEqProofs [liveOf, entryE_f])
          · rw [if_neg hs] at c
            simp only [entryE_f] at c
            simp -implicitDefEqProofs [hlt, b5, b3, b2, et, ei, g3.1, e3, hd3, c, hs, convertV]
            exact ⟨out, w1, by omega, w6, rfl, rfl⟩
        · by_cases h1 : to = who
          · simp -implicitDefEqProofs [hlt, b5, b3, b2, et, ei, g3.1, e3, hd3, h2, h1]
            exact rnd_next (i + 1, (z2 && m2.isEmpty, m3), (who, time + j5), (out, false)) ⟨by simp only; omega, w1, w2, by simp only; omega, by simp only; omega, by simp only; omega, w6⟩ (by simp only; omega) (by simp -implicitDefEqProofs [liveOf])
          · have hx : okE ⟨1, who, to, time + j5, 0, 0⟩ := ⟨by simp, by simp only; omega, by simp only; omega, hwn, htn⟩
            have c := app _ hx
            by_cases hs : (step (check out).1 out.isEmpty ⟨1, who, to, time + j5, 0, 0⟩).2 = 0
            · rw [if_pos hs] at c
              have hG := w1.snoc _ hx hlen9 hs (by simp)
              simp only [entryE_f] at c
              simp -implicitDefEqProofs [hlt, b5, b3, b2, et, ei, g3.1, e3, hd3, c, convertV, h1, h2]
              exact rnd_next (i + 1, (z2 && m2.isEmpty, m3), (to, time + j5), (out ++ [{ (⟨1, who, to, time + j5, 0, 0⟩ : Entry) with sum := sumS (lastSum out) ⟨1, who, to, time + j5, 0, 0⟩ }], false)) ⟨by simp only; omega, hG, hto, by simp only; omega, by simp only; omega, by simp; omega, w6.snoc _⟩ (by simp only; omega) (by simp -implicitDefEqProofs [liveOf, entryE_f])
            · rw [if_neg hs] at c
              simp only [entryE_f] at c
              simp -implicitDefEqProofs [hlt, b5, b3, b2, et, ei, g3.1, e3, hd3, c, hs, convertV, h1, h2]
              exact ⟨out, w1, by omega, w6, rfl, rfl⟩
    · simp -implicitDefEqProofs [hlt]
      exact ⟨out, w1, by omega, w6, by simp -implicitDefEqProofs⟩
end Go.Ev.Tryd
