/-
  FINDINGS: strings.Split at a space, Words (own work).
-/
import Derived.Test.YtmcakfjbefelgaaDoorAhP
import Derived.Test.YtmcakfjbefelgaaDoorAhC0
set_option linter.unusedSimpArgs false
set_option linter.unusedVariables false
set_option maxRecDepth 100000
set_option maxHeartbeats 4000000
namespace Go.Ev.Tryd.Hd
open Go Go.Ev Go.Proofs
variable {mx : Int}

/-- One space. -/
def sp : ByteArray := ⟨#[32]⟩
theorem count98 (s : ByteArray) {k : Nat} : evF Tryd.prog (Γ mx) (k + 1) 98 [.str s, .int .u8 32] [] = some (.int .i64 (Lib.indexByte s.data.toList 32), []) := evF_orc (by rw [Γ_orc]; rfl)
theorem count92 (s : ByteArray) {k : Nat} : evF Tryd.prog (Γ mx) (k + 1) 92 [.str s, .int .u8 32] [] = some (.int .i64 (Lib.countByte s.data.toList 32), []) := evF_orc (by rw [Γ_orc]; rfl)
theorem byteAt_sp : byteAt sp 0 = 32 := rfl
theorem sp_size : sp.size = 1 := rfl
theorem sp_ne : ¬ sp = ByteArray.empty := by decide
theorem index_ok (s : ByteArray) {k : Nat} (hk : 10 < k) : evF Tryd.prog (Γ mx) (k + 1) 59 [.str s, .str sp] [] = some (.int .i64 (Lib.indexByte s.data.toList 32), []) := by
  obtain ⟨k, rfl⟩ : ∃ j, k = j + 3 := ⟨k - 3, by omega⟩
  have c1 : evF Tryd.prog (Γ mx) (k + 2) 87 [.str s, .int .u8 32] [] = some (.int .i64 (Lib.indexByte s.data.toList 32), []) := by
    have c := count98 (mx := mx) s (k := k)
    rw [b87 (fun _ _ => rfl) _ _ (by simp)]
    simp -implicitDefEqProofs [c]
  have c2 : evF Tryd.prog (Γ mx) (k + 3) 77 [.str s, .str sp] [] = some (.int .i64 (Lib.indexByte s.data.toList 32), []) := by
    rw [b77 (fun _ _ => rfl) _ _ (by simp)]
    by_cases he : sp = s
    · subst he
      have h0 : Lib.indexByte sp.data.toList 32 = 0 := rfl
      simp -implicitDefEqProofs [sp_size, byteAt_sp, c1, h0]
    · simp -implicitDefEqProofs [sp_size, byteAt_sp, c1, he]
  rw [b59 (fun _ _ => rfl) _ _ (by simp)]
  simp -implicitDefEqProofs [c2]
theorem countS_ok (s : ByteArray) {k : Nat} (hk : 10 < k) : evF Tryd.prog (Γ mx) (k + 1) 80 [.str s, .str sp] [] = some (.int .i64 (Lib.countByte s.data.toList 32), []) := by
  obtain ⟨k, rfl⟩ : ∃ j, k = j + 1 := ⟨k - 1, by omega⟩
  have c := count92 (mx := mx) s (k := k)
  rw [b80 (fun _ _ => rfl) _ _ (by simp)]
  simp -implicitDefEqProofs [sp_size, byteAt_sp, c]
theorem zeros_str (n : Nat) : zerosV [V.str ByteArray.empty] n = flatE strE (List.replicate n ByteArray.empty) := by
  induction n with
  | zero => rfl
  | succ n ih => simp only [zerosV, ih, List.replicate_succ, flatE_cons, strE_f]
theorem size_extract' (s : ByteArray) (a : Nat) : (s.extract a s.size).size = s.size - a := by simp
theorem split_ok (s : ByteArray) (hs : s.size ≤ 4294967296) {k : Nat} (hk : s.size + 20 < k) :
    evF Tryd.prog (Γ mx) (k + 1) 65 [.str s, .str sp, .int .i64 0, .int .i64 (-1)] [] = some (.sl 0 0 (pcs s).length 1, [some (.cells (flatE strE (pcs s)) true)]) := by
  obtain ⟨k, rfl⟩ : ∃ j, k = j + 1 := ⟨k - 1, by omega⟩
  have c1 := countS_ok (mx := mx) s (k := k) (by omega)
  have c2 := fun t => index_ok (mx := mx) t (k := k) (by omega)
  have hn := pcs_length s
  have hcs : Lib.countByte s.data.toList 32 ≤ s.size := by
    have : s.data.toList.length = s.size := rfl
    rw [← this]; exact List.count_le_length
  generalize hc : Lib.countByte s.data.toList 32 = c at *
  generalize hP : pcs s = P at *
  rw [b65 (fun _ _ => rfl) _ _ (by simp)]
  have e1 : addI .i64 (c : Int) 1 = (c : Int) + 1 := addI_i64 (by omega) (by omega)
  have e2 : addI .i64 (s.size : Int) 1 = (s.size : Int) + 1 := addI_i64 (by omega) (by omega)
  have e3 : subI .i64 ((c : Int) + 1) 1 = (c : Int) := by rw [subI_i64 (by omega) (by omega)]; omega
  have hlt : ¬ (s.size : Int) + 1 < (c : Int) + 1 := by omega
  have hz : V.str ByteArray.empty :: zerosV [V.str ByteArray.empty] c = flatE strE ([] ++ List.replicate (P.length - 0) ByteArray.empty) := by
    rw [List.nil_append, hn, Nat.sub_zero, ← zeros_str (c + 1)]; rfl
  have hc0 : (0 : Int) ≤ (c : Int) + 1 := by omega
  have hb1 : ((c : Int) + 1) * 16 ≤ 140737488355328 := by omega
  have hb2 : (c : Int) + 1 ≤ 140737488355328 := by omega
  simp -implicitDefEqProofs [sp_ne, c1, e1, e2, e3, hlt, hc0, hb1, hb2]
  generalize hx : evLoopC _ _ _ _ _ _ _ _ _ _ = R
  apply loop_gen hx (fun i : List ByteArray × ByteArray => (mkL 66 .junk [(0, .str i.2), (1, .str sp), (2, .int .i64 0), (3, .int .i64 c), (9, .sl 0 0 (c + 1) 1), (10, .int .i64 i.1.length)], [some (.cells (flatE strE (i.1 ++ List.replicate (P.length - i.1.length) ByteArray.empty)) true)]))
    (fun i => P = i.1 ++ pcs i.2 ∧ i.2.size ≤ s.size) (fun i => P.length - i.1.length) ([], s)
  case hI => exact ⟨by simpa using hP.symm, Nat.le_refl _⟩
  case hq => simp; omega
  case ht => simp -implicitDefEqProofs [liveOf, hz]
  case round =>
    rintro ⟨D, t⟩ ⟨hD, hsz⟩ _
    clear hx hP c1
    dsimp only at hD hsz ⊢
    have hl : D.length + (pcs t).length = c + 1 := by rw [← hn, hD]; simp
    have hpt := pcs_length t
    have c2 := c2 t
    rcases pcs_step t with ⟨h1, h2⟩ | ⟨m, h1, h2, h3⟩
    · rw [h2] at hD hl
      obtain rfl : D.length = c := by simpa using hl
      have hr : P.length - D.length = 1 := by omega
      have e4 : addI .i64 (D.length : Int) 1 = (D.length : Int) + 1 := addI_i64 (by omega) (by omega)
      have g1 : (D.length : Int) < (D.length : Int) + 1 := by omega
      have g2 : (0 : Int) ≤ (D.length : Int) + 1 := by omega
      have g3 : ∀ x : V, List.drop (D.length + 1) (flatE strE D ++ [x]) = [] := fun x => by rw [List.drop_of_length_le]; simp
      rw [hr]
      subst hD
      simp -implicitDefEqProofs [e4, g1, g2, g3]
    · rw [h1] at c2
      have hq := pcs_length (t.extract (m + 1) t.size)
      rw [h3] at hD hl
      have hlt2 : (D.length : Int) < c := by simp only [List.length_cons] at hl; omega
      have e4 : addI .i64 (D.length : Int) 1 = (D.length : Int) + 1 := addI_i64 (by omega) (by omega)
      have e5 : addI .i64 (m : Int) 0 = (m : Int) := by rw [addI_i64 (by omega) (by omega)]; omega
      have e6 : addI .i64 (m : Int) 1 = (m : Int) + 1 := addI_i64 (by omega) (by omega)
      obtain ⟨q, hr⟩ : ∃ q, P.length - D.length = q + 1 := ⟨P.length - D.length - 1, by omega⟩
      have hm0 : ¬ (m : Int) < 0 := by omega
      rw [hr]
      have g1 : (D.length : Int) < (c : Int) + 1 := by omega
      have g2 : (0 : Int) ≤ (m : Int) + 1 := by omega
      have g3 : ∀ (x : V) (l : List V), List.drop (D.length + 1) (flatE strE D ++ x :: l) = l := fun x l => by
        have h : D.length + 1 = (flatE strE D ++ [x]).length := by simp
        have h2 : flatE strE D ++ x :: l = (flatE strE D ++ [x]) ++ l := by simp
        rw [h, h2, List.drop_left]
      have g4 : m ≤ t.size := by omega
      have g5 : m + 1 ≤ t.size := by omega
      have g6 : P.length - (D.length + 1) = q := by omega
      simp -implicitDefEqProofs [e4, e5, e6, hlt2, c2, hm0, sp_size, List.replicate_succ, g1, g2, g3, g4, g5]
      refine rnd_next (D ++ [t.extract 0 m], t.extract (m + 1) t.size) ⟨by rw [hD]; simp, ?_⟩ ?_ ?_
      · have : (t.extract (m + 1) t.size).size = t.size - (m + 1) := size_extract' t (m + 1)
        dsimp only
        omega
      · simp only [List.length_append, List.length_cons, List.length_nil]; omega
      · simp -implicitDefEqProofs [liveOf, g6]
theorem splitS_ok (s : ByteArray) (hs : s.size ≤ 4294967296) {k : Nat} (hk : s.size + 30 < k) :
    evF Tryd.prog (Γ mx) (k + 1) 40 [.str s, .str sp] [] = some (.sl 0 0 (pcs s).length 1, [some (.cells (flatE strE (pcs s)) true)]) := by
  obtain ⟨k, rfl⟩ : ∃ j, k = j + 1 := ⟨k - 1, by omega⟩
  have c := split_ok (mx := mx) s hs (k := k) (by omega)
  rw [b40 (fun _ _ => rfl) _ _ (by simp)]
  simp -implicitDefEqProofs [c]
theorem drop_str : ∀ (l : List ByteArray) (i : Nat) (h : i < l.length), List.drop i (flatE strE l) = .str l[i] :: flatE strE (l.drop (i + 1))
  | x :: l, 0, h => by simp
  | x :: l, i + 1, h => by
    have := drop_str l i (by simpa using h)
    simpa using this
theorem filter_snoc (p : ByteArray → Bool) (l : List ByteArray) (i : Nat) (h : i < l.length) : (l.take (i + 1)).filter p = (l.take i).filter p ++ (if p l[i] then [l[i]] else []) := by
  rw [List.take_succ_eq_append_getElem h, List.filter_append]
  simp [List.filter_cons]
theorem words_ok (s : ByteArray) (hs : s.size ≤ 4294967296) {k : Nat} (hk : s.size + 60 < k) :
    evF Tryd.prog (Γ mx) (k + 1) 31 [.str s] [] = some (ownV true 0 0 (words s).length 1, [ownB true (words s).length (flatE strE (words s))]) := by
  obtain ⟨k, rfl⟩ : ∃ j, k = j + 1 := ⟨k - 1, by omega⟩
  have c := splitS_ok (mx := mx) s hs (k := k) (by omega)
  have hsz : (pcs s).length ≤ s.size + 1 := by
    rw [pcs_length]
    have h1 : s.data.toList.length = s.size := rfl
    have h2 := List.count_le_length (a := (32 : UInt8)) (l := s.data.toList)
    unfold Lib.countByte
    omega
  have hw : words s = (pcs s).filter (fun w => !decide (w = ByteArray.empty)) := rfl
  rw [hw]
  generalize pcs s = l at *
  rw [b31 (fun _ _ => rfl) _ _ (by simp)]
  have hsp : (⟨#[32]⟩ : ByteArray) = sp := rfl
  simp -implicitDefEqProofs [hsp, c]
  clear c
  generalize hp : (fun w : ByteArray => !decide (w = ByteArray.empty)) = p at *
  generalize hx : evLoopC _ _ _ _ _ _ _ _ _ _ = R
  apply loop_gen hx (fun a : Nat × List ByteArray => (mkL 21 .junk [(3, ownV true 0 0 a.2.length 1), (7, .sl 1 0 l.length 1), (8, .int .i64 l.length), (9, .int .i64 a.1)], [ownB true a.2.length (flatE strE a.2), some (.cells (flatE strE l) true)]))
    (fun a => a.1 ≤ l.length ∧ a.2 = (l.take a.1).filter p) (fun a => l.length - a.1) (0, [])
  case hI => simp
  case hq => simp only; omega
  case ht => simp -implicitDefEqProofs [liveOf]
  case round =>
    rintro ⟨i, O⟩ ⟨hi, hO⟩ _
    clear hx
    simp only at hi hO
    have lO : O.length ≤ l.length := by
      rw [hO]
      have := List.length_filter_le p (l.take i)
      rw [List.length_take] at this
      omega
    by_cases hlt : i < l.length
    · have hlt2 : (i : Int) < l.length := by omega
      have e2 : addI .i64 (i : Int) 1 = (i : Int) + 1 := addI_i64 (by omega) (by omega)
      have hm := drop_str l i hlt
      have h3 : 1 ≤ l.length - i := by omega
      have hs := filter_snoc p l i hlt
      rw [← hO] at hs
      generalize l[i] = x at *
      by_cases hxe : x = ByteArray.empty
      · have hpx : p x = false := by rw [← hp]; simp [hxe]
        rw [hpx] at hs
        simp -implicitDefEqProofs [hlt, hlt2, hm, e2, h3, hxe]
        refine rnd_next (i + 1, O) ⟨hlt, by simp only; rw [hs]; simp⟩ (by simp only; omega) ?_
        cases O <;> simp -implicitDefEqProofs [liveOf]
      · have hpx : p x = true := by rw [← hp]; simp [hxe]
        rw [hpx] at hs
        cases hO0 : O.length with
        | zero =>
          have hnil : O = [] := List.length_eq_zero_iff.1 hO0
          subst hnil
          simp -implicitDefEqProofs [hlt, hlt2, hm, e2, h3, hxe]
          exact rnd_next (i + 1, [x]) ⟨hlt, by simp only; rw [hs]; simp⟩ (by simp only; omega) (by simp -implicitDefEqProofs [liveOf])
        | succ n =>
          have hb : (n + 1 + 1) * 16 ≤ 140737488355328 := by omega
          have hp0 : (0 : Int) ≤ (n : Int) + 1 := by omega
          simp -implicitDefEqProofs [hlt, hlt2, hm, e2, h3, hxe, hb, hO0, hp0]
          refine rnd_next (i + 1, O ++ [x]) ⟨hlt, by simp only; rw [hs]; simp⟩ (by simp only; omega) ?_
          simp -implicitDefEqProofs [liveOf, hO0]
    · have hi' : i = l.length := by omega
      subst hi'
      rw [List.take_length] at hO
      subst hO
      simp -implicitDefEqProofs
      cases hO0 : (l.filter p).length with
      | zero =>
        have hnil : l.filter p = [] := List.length_eq_zero_iff.1 hO0
        simp -implicitDefEqProofs [hnil]
      | succ n => simp -implicitDefEqProofs [hO0]
end Go.Ev.Tryd.Hd
