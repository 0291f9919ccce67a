/-
  THE SEAL SEAT: FormatUint in base 16; Sum (own work).
-/
import Derived.Test.YtcpojjjdglhhcaaDoorSealB
set_option linter.unusedSimpArgs false
set_option linter.unusedVariables false
set_option maxRecDepth 100000
namespace Go.Ev.Tryd
open Go Go.Ev Go.Proofs

theorem fmt_ex (u : Int) (h0 : 0 ≤ u) (h1 : u < 18446744073709551616) : ∃ s : ByteArray, s.size ≤ 65 ∧ evF Tryd.prog Γ 100 26 [.int .u64 u, .int .i64 16] [] = some (.str s, []) := by
  obtain ⟨s, hs, he⟩ := bits_ok u h0 h1 (k := 97) (by omega)
  refine ⟨s, hs, ?_⟩
  have h33 : evF Tryd.prog Γ 99 33 [.int .u64 u, .int .i64 16] [] = some (.str s, []) := by
    rw [b33 (k := 98) (fun _ _ => rfl) _ _ (by simp)]
    simp -implicitDefEqProofs [he]
  rw [b26 (k := 99) (fun _ _ => rfl) _ _ (by simp)]
  simp -implicitDefEqProofs [h33]
noncomputable def fmt16 (u : Int) : ByteArray := if h : 0 ≤ u ∧ u < 18446744073709551616 then Classical.choose (fmt_ex u h.1 h.2) else ByteArray.empty
theorem fmt16_ok (u : Int) (h0 : 0 ≤ u) (h1 : u < 18446744073709551616) {k : Nat} (hk : 100 ≤ k) : evF Tryd.prog Γ k 26 [.int .u64 u, .int .i64 16] [] = some (.str (fmt16 u), []) := by
  rw [fmt16, dif_pos ⟨h0, h1⟩]
  exact evF_mono hk _ _ _ _ (Classical.choose_spec (fmt_ex u h0 h1)).2
theorem fmt16_size (u : Int) : (fmt16 u).size ≤ 65 := by
  unfold fmt16
  split
  · rename_i h; exact (Classical.choose_spec (fmt_ex u h.1 h.2)).1
  · simp
theorem itoa_ex (n : Int) (h0 : 0 ≤ n) (h1 : n < 100) : ∃ s : ByteArray, s.size ≤ 100 ∧ evF Tryd.prog Γ 10 27 [.int .i64 n] [] = some (.str s, []) := by
  obtain ⟨m, rfl⟩ : ∃ m : Nat, n = m := ⟨n.toNat, by omega⟩
  exact itoa_ok m (by omega)
noncomputable def itoa (n : Int) : ByteArray := if h : 0 ≤ n ∧ n < 100 then Classical.choose (itoa_ex n h.1 h.2) else ByteArray.empty
theorem itoa_ok' (n : Int) (h0 : 0 ≤ n) (h1 : n < 100) {k : Nat} (hk : 10 ≤ k) : evF Tryd.prog Γ k 27 [.int .i64 n] [] = some (.str (itoa n), []) := by
  rw [itoa, dif_pos ⟨h0, h1⟩]
  exact evF_mono hk _ _ _ _ (Classical.choose_spec (itoa_ex n h0 h1)).2
theorem itoa_size (n : Int) : (itoa n).size ≤ 100 := by
  unfold itoa
  split
  · rename_i h; exact (Classical.choose_spec (itoa_ex n h.1 h.2)).1
  · simp

def sp : ByteArray := ⟨#[32]⟩
theorem sp_size : sp.size = 1 := rfl
noncomputable def sumStr (before : Int) (x : Entry) : ByteArray :=
  fmt16 before ++ sp ++ itoa x.kind ++ sp ++ x.who ++ sp ++ x.to ++ sp ++ itoa x.time ++ sp ++ fmt16 x.root
noncomputable def sumS (before : Int) (x : Entry) : Int := hash (bytesI (sumStr before x))
theorem sumStr_size (before : Int) (x : Entry) : (sumStr before x).size ≤ 335 + x.who.size + x.to.size := by
  have h1 := fmt16_size before
  have h2 := fmt16_size x.root
  have h3 := itoa_size x.kind
  have h4 := itoa_size x.time
  simp [sumStr, ByteArray.size_append, sp_size]
  omega

/-- What a well-kept entry has. -/
def okE (x : Entry) : Prop := (0 ≤ x.kind ∧ x.kind < 100) ∧ (0 ≤ x.time ∧ x.time < 100) ∧ (0 ≤ x.root ∧ x.root < 18446744073709551616) ∧ x.who.size ≤ 12 ∧ x.to.size ≤ 12

theorem sum_ok (before : Int) (h0 : 0 ≤ before) (h1 : before < 18446744073709551616) (x : Entry) (hx : okE x) {k : Nat} (hk : 400 ≤ k) :
    evF Tryd.prog Γ (k + 1) 16 [.int .u64 before, .agg (entryE.f x)] [] = some (.int .u64 (sumS before x), []) := by
  obtain ⟨⟨a1, a2⟩, ⟨a3, a4⟩, ⟨a5, a6⟩, a7, a8⟩ := hx
  have c1 := fmt16_ok before h0 h1 (k := k) (by omega)
  have c2 := fmt16_ok x.root a5 a6 (k := k) (by omega)
  have c3 := itoa_ok' x.kind a1 a2 (k := k) (by omega)
  have c4 := itoa_ok' x.time a3 a4 (k := k) (by omega)
  have s1 := fmt16_size before
  have s2 := fmt16_size x.root
  have s3 := itoa_size x.kind
  have s4 := itoa_size x.time
  have s5 := sumStr_size before x
  obtain ⟨k, rfl⟩ : ∃ j, k = j + 1 := ⟨k - 1, by omega⟩
  have c5 := hash_ok (bytesI (sumStr before x)) false (by rw [bytesI_length]; omega) (k := k) (by rw [bytesI_length]; omega)
  rw [b16 (fun _ _ => rfl) _ _ (by simp)]
  obtain ⟨kind, who, to, time, root, sum⟩ := x
  simp only at a1 a2 a3 a4 a5 a6 a7 a8 c2 c3 c4 s2 s3 s4
  simp -implicitDefEqProofs [entryE_f, c1, c2, c3, c4, ByteArray.size_append]
  repeat (refine ⟨by omega, ?_⟩)
  rw [show (fmt16 before ++ ⟨#[32]⟩ ++ itoa kind ++ ⟨#[32]⟩ ++ who ++ ⟨#[32]⟩ ++ to ++ ⟨#[32]⟩ ++ itoa time ++ ⟨#[32]⟩ ++ fmt16 root : ByteArray) = sumStr before ⟨kind, who, to, time, root, sum⟩ from rfl]
  simp only [roV_false, bytesI_length] at c5
  simp -implicitDefEqProofs [convertV, sumS, c5]
end Go.Ev.Tryd
