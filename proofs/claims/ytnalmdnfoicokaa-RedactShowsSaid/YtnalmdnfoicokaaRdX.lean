/-
  THE REDACT SEAT: redact.Read (own work).
-/
import Derived.Test.YtnalmdnfoicokaaRdM
import Derived.Test.YtnalmdnfoicokaaRdC3
set_option linter.unusedSimpArgs false
set_option linter.unusedVariables false
set_option maxRecDepth 100000
set_option maxHeartbeats 8000000
namespace Go.Ev.Try
open Go Go.Ev Go.Proofs

def hidAt (ps : List Piece) (k : Nat) : Bool := (ps.getD (k / 64) default).hid
def byteP (ps : List Piece) (k : Nat) : Int := (ps.getD (k / 64) default).bs.getD (k % 64) 0
def bytesR (ps : List Piece) (off len : Nat) : List Int := (List.range' off len).map (byteP ps)
theorem bytesR_succ (ps : List Piece) (off len : Nat) : bytesR ps off (len + 1) = bytesR ps off len ++ [byteP ps (off + len)] := by
  unfold bytesR; rw [List.range'_1_concat, List.map_append]; rfl
@[simp] theorem bytesR_zero (ps : List Piece) (off : Nat) : bytesR ps off 0 = [] := rfl
@[simp] theorem bytesR_length (ps : List Piece) (off len : Nat) : (bytesR ps off len).length = len := by simp [bytesR]
def ReadPost (ps : List Piece) (off len : Nat) (r : Option (V × Heap)) : Prop :=
  ((∃ k, off ≤ k ∧ k < off + len ∧ hidAt ps k = true) ∧ r = some (.tup [.nils, .int .i64 18], [none])) ∨
  ((∀ k, off ≤ k → k < off + len → hidAt ps k = false) ∧ r = some (.tup [ownV true 0 0 len 1, .int .i64 0], [ownB true len (flatE (intE .u8) (bytesR ps off len))]))

theorem exFine (n : Nat) (ps : List Piece) (zp : Bool) (hn : n ≤ 65536) (hp : ps.length = blocksN n) (ap : allOk n ps = true) {k : Nat} (hk : 2000 < k) :
    evF Try.prog Γ (k + 1) 22 [.agg [.int .i64 n, roV zp ps.length (flatE pieceE ps)]] [] = some (.int .i64 0, []) := by
  have hB : blocksN n ≤ 1024 := by unfold blocksN; omega
  have bp := allOk_len ap
  have cc := exCheck_ok n ps zp (fun p hp => by have := bp p hp; omega) (by omega) (k := k) (by omega)
  have hcr : checkR n ps = 0 := by
    unfold checkR
    rw [if_neg (by omega), if_pos ⟨by simp; omega, by simpa using ap⟩]
  rw [hcr] at cc
  exact cc
theorem read_bad (n : Nat) (ps : List Piece) (zp : Bool) (hn : n ≤ 65536) (hp : ps.length = blocksN n) (ap : allOk n ps = true) (s : Span) (hs : ¬ (s.ok ∧ s.off + s.len ≤ n)) {k : Nat} (hk : 3000 < k) :
    evF Try.prog Γ (k + 1) 27 [.agg [.int .i64 n, roV zp ps.length (flatE pieceE ps)], .agg [.int .i64 s.off, .int .i64 s.len]] [] = some (.tup [.nils, .int .i64 4], [none]) := by
  obtain ⟨k, rfl⟩ : ∃ j, k = j + 1 := ⟨k - 1, by omega⟩
  have cx := exFine n ps zp hn hp ap (k := k) (by omega)
  have cs := check_ok s (k := k)
  rw [b27 (fun _ _ => rfl) _ _ (by simp)]
  by_cases h : s.ok
  · rw [if_pos h] at cs
    have hgt : (n : Int) < s.off + s.len := by
      refine Classical.byContradiction fun hh => hs ⟨h, by omega⟩
    obtain ⟨h1, h2, h3, h4⟩ := h
    have e1 : addI .i64 s.off s.len = s.off + s.len := addI_i64 (by omega) (by omega)
    simp -implicitDefEqProofs [cx, cs, e1, hgt]
  · rw [if_neg h] at cs
    simp -implicitDefEqProofs [cx, cs]
theorem read_ok (n : Nat) (ps : List Piece) (zp : Bool) (hn : n ≤ 65536) (hp : ps.length = blocksN n) (ap : allOk n ps = true) (off len : Nat) (hs : off + len ≤ n) {k : Nat} (hk : 70000 < k) :
    ReadPost ps off len (evF Try.prog Γ (k + 1) 27 [.agg [.int .i64 n, roV zp ps.length (flatE pieceE ps)], .agg [.int .i64 off, .int .i64 len]] []) := by
  obtain ⟨k, rfl⟩ : ∃ j, k = j + 1 := ⟨k - 1, by omega⟩
  have cx := exFine n ps zp hn hp ap (k := k) (by omega)
  have cs := check_ok ⟨off, len⟩ (k := k)
  rw [if_pos (by unfold Span.ok; simp only; omega)] at cs
  simp only at cs
  have e1 : addI .i64 (off : Int) (len : Int) = (off : Int) + len := addI_i64 (by omega) (by omega)
  have hgt : ¬ (n : Int) < (off : Int) + len := by omega
  rw [b27 (fun _ _ => rfl) _ _ (by simp)]
  simp -implicitDefEqProofs [cx, cs, e1, hgt]
  generalize hx : evLoopC _ _ _ _ _ _ _ _ _ _ = R
  apply loop_gen hx (fun j : Nat => (mkL 57 .junk [(2, .ptr 0 0), (3, .ptr 1 0), (7, ownV true 2 0 j 1), (8, .int .i64 ((off + j : Nat) : Int))],
      [some (.cells [.int .i64 n, roV zp ps.length (flatE pieceE ps)] true), some (.cells [.int .i64 off, .int .i64 len] true), ownB true j (flatE (intE .u8) (bytesR ps off j)), none]))
    (fun j => j ≤ len ∧ ∀ k, off ≤ k → k < off + j → hidAt ps k = false) (fun j => len - j) 0
  case hI => exact ⟨Nat.zero_le _, fun k h1 h2 => by omega⟩
  case hq => omega
  case ht => simp -implicitDefEqProofs [liveOf, coldOf, bytesR]
  case round =>
    rintro j ⟨hj, hI⟩ _
    clear hx
    by_cases hlt : j < len
    · have hlt2 : (off : Int) + (j : Int) < (off : Int) + len := by omega
      have e2 : addI .i64 ((off : Int) + (j : Int)) 1 = (off : Int) + ((j : Int) + 1) := by rw [addI_i64 (by omega) (by omega)]; omega
      have hq : quoI .i64 ((off : Int) + (j : Int)) 64 = ((off + j) / 64 : Nat) := by
        rw [quoI_eq, Int.tdiv_eq_ediv_of_nonneg (by omega), wrap_i64 (by omega) (by omega)]; omega
      have hr : ((off : Int) + (j : Int)).tmod 64 = ((off + j) % 64 : Nat) := by
        rw [Int.tmod_eq_emod_of_nonneg (by omega)]; omega
      have hi : (off + j) / 64 < ps.length := by rw [hp]; unfold blocksN; omega
      have mp := at_pieces ps ((off + j) / 64) hi
      have hok := (allOk_iff n ps).1 ap _ hi
      have h5 : 3 ≤ ps.length * 3 - (off + j) / 64 * 3 := by omega
      have hgd : ps.getD ((off + j) / 64) default = ps[(off + j) / 64] := by rw [List.getD_eq_getElem?_getD, List.getElem?_eq_getElem hi]; rfl
      have hhid : hidAt ps (off + j) = (ps[(off + j) / 64]).hid := by unfold hidAt; rw [hgd]
      have hby : byteP ps (off + j) = (ps[(off + j) / 64]).bs.getD ((off + j) % 64) 0 := by unfold byteP; rw [hgd]
      have hil : ((off + j) / 64 : Nat) < (ps.length : Int) := by omega
      have hm64 : (off + j) % 64 < 64 := Nat.mod_lt _ (by omega)
      have hdm : 64 * ((off + j) / 64) + (off + j) % 64 = off + j := Nat.div_add_mod _ _
      generalize ps[(off + j) / 64] = p at *
      generalize (off + j) / 64 = i at *
      generalize (off + j) % 64 = r at *
      obtain ⟨hd, z, bs, h⟩ := p
      simp only at mp hhid hby
      cases hd with
      | true =>
        simp -implicitDefEqProofs [e1, hlt2, hq, hi, hil, mp, h5]
        exact .inl ⟨⟨off + j, by omega, by omega, hhid⟩, rfl⟩
      | false =>
        have hrl : r < bs.length := by
          simp only [pieceOk, Bool.and_eq_true, decide_eq_true_eq, Bool.false_eq_true, if_false] at hok
          have := hok.2
          unfold placeL at this
          omega
        have hrl2 : (r : Int) < (bs.length : Int) := by omega
        obtain ⟨rest, hrd⟩ := at_nums .u8 bs r hrl
        have hbe : byteP ps (off + j) = bs[r] := by rw [hby, List.getD_eq_getElem?_getD, List.getElem?_eq_getElem hrl]; rfl
        have hs := bytesR_succ ps off j
        rw [hbe] at hs
        have mr := at_flatE1 (intE .u8) rfl bs r hrl
        generalize bs[r] = b at *
        have hnext : ∀ k, off ≤ k → k < off + (j + 1) → hidAt ps k = false := fun k h1 h2 => by
          rcases Nat.lt_or_ge k (off + j) with h | h
          · exact hI k h1 h
          · obtain rfl : k = off + j := by omega
            exact hhid
        cases j with
        | zero =>
          simp at hlt2 e2 hq hr
          simp -implicitDefEqProofs [e1, hlt2, e2, hq, hr, hi, hil, mp, h5, hrl, hrl2, mr]
          exact rnd_next 1 ⟨hlt, hnext⟩ (by omega) (by simp -implicitDefEqProofs [liveOf, coldOf, hs])
        | succ j =>
          have hb : j + 1 + 1 ≤ 140737488355328 := by omega
          simp at hlt2 e2 hq hr
          simp -implicitDefEqProofs [e1, hlt2, e2, hq, hr, hi, hil, mp, h5, hrl, hrl2, mr, hb]
          exact rnd_next (j + 1 + 1) ⟨hlt, hnext⟩ (by omega) (by simp -implicitDefEqProofs [liveOf, coldOf, hs])
    · have hj' : j = len := by omega
      subst hj'
      cases j with
      | zero =>
        simp at e1
        simp -implicitDefEqProofs [e1]
        exact .inr ⟨hI, by simp⟩
      | succ j =>
        simp at e1
        simp -implicitDefEqProofs [e1]
        exact .inr ⟨hI, by simp⟩
end Go.Ev.Try
