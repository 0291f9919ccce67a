/-
  THE SEAL SEAT: FormatUint in base 16; Sum and Summed, for all entries (own work).
-/
import Derived.Test.YtcpojjjdglhhcaaDoorSgB
import Derived.Test.YtcpojjjdglhhcaaDoorSgC2
set_option linter.unusedSimpArgs false
set_option linter.unusedVariables false
set_option maxRecDepth 100000
namespace Go.Ev.Tryd
open Go Go.Ev Go.Proofs

theorem fmt_ex (u : Int) (h0 : 0 ≤ u) (h1 : u < 18446744073709551616) : ∃ s : ByteArray, s.size ≤ 65 ∧ evF Tryd.prog Γ 100 26 [.int .u64 u, .int .i64 16] [] = some (.str s, []) := by
  obtain ⟨s, hs, he⟩ := bits_ok u h0 h1 (k := 97) (by omega)
  refine ⟨s, hs, ?_⟩
  have h33 : evF Tryd.prog Γ 99 33 [.int .u64 u, .int .i64 16] [] = some (.str s, []) := by
    rw [b33 (k := 98) (fun _ _ => rfl) _ _ (by simp)]
    simp -implicitDefEqProofs [he]
  rw [b26 (k := 99) (fun _ _ => rfl) _ _ (by simp)]
  simp -implicitDefEqProofs [h33]
def u64 (n : Int) : Prop := 0 ≤ n ∧ n < 18446744073709551616
noncomputable def fmt16 (u : Int) : ByteArray := open Classical in if h : 0 ≤ u ∧ u < 18446744073709551616 then Classical.choose (fmt_ex u h.1 h.2) else ByteArray.empty
theorem fmt16_ok (u : Int) (h0 : u64 u) {k : Nat} (hk : 100 ≤ k) : evF Tryd.prog Γ k 26 [.int .u64 u, .int .i64 16] [] = some (.str (fmt16 u), []) := by
  rw [fmt16, dif_pos ⟨h0.1, h0.2⟩]
  exact evF_mono hk _ _ _ _ (Classical.choose_spec (fmt_ex u h0.1 h0.2)).2
theorem fmt16_size (u : Int) : (fmt16 u).size ≤ 65 := by
  unfold fmt16
  split
  · rename_i h; exact (Classical.choose_spec (fmt_ex u h.1 h.2)).1
  · simp
theorem itoa_ok (n : Int) (h : i64 n) {k : Nat} : evF Tryd.prog Γ (k + 1) 27 [.int .i64 n] [] = some (.str (itoaB n), []) :=
  evF_orc (itoaOrc_eq h [])

def sp : ByteArray := ⟨#[32]⟩
theorem sp_size : sp.size = 1 := rfl
noncomputable def sumStr (before : Int) (x : Entry) : ByteArray :=
  fmt16 before ++ sp ++ itoaB x.kind ++ sp ++ x.who ++ sp ++ x.to ++ sp ++ itoaB x.time ++ sp ++ fmt16 x.root
noncomputable def sumS (before : Int) (x : Entry) : Int := hash (bytesI (sumStr before x))

/-- What every entry has. -/
structure okE (x : Entry) : Prop where
  kind : i64 x.kind
  time : i64 x.time
  root : u64 x.root
  sum : u64 x.sum
  who : x.who.size ≤ 140737488351232
  to : x.to.size ≤ 140737488351232
theorem sumStr_size (before : Int) (x : Entry) (h : okE x) : (sumStr before x).size ≤ 335 + x.who.size + x.to.size := by
  have h1 := fmt16_size before
  have h2 := fmt16_size x.root
  have h3 := itoaB_size h.kind
  have h4 := itoaB_size h.time
  simp [sumStr, ByteArray.size_append, sp_size]
  omega
def szE (x : Entry) : Nat := x.who.size + x.to.size

theorem sum_ok (before : Int) (h0 : u64 before) (x : Entry) (hx : okE x) {k : Nat} (hk : 400 + szE x ≤ k) :
    evF Tryd.prog Γ (k + 1) 16 [.int .u64 before, .agg (entryE.f x)] [] = some (.int .u64 (sumS before x), []) := by
  unfold szE at hk
  have c1 := fmt16_ok before h0 (k := k) (by omega)
  have c2 := fmt16_ok x.root hx.root (k := k) (by omega)
  have s1 := fmt16_size before
  have s2 := fmt16_size x.root
  have s3 := itoaB_size hx.kind
  have s4 := itoaB_size hx.time
  have s5 := sumStr_size before x hx
  have s6 := hx.who
  have s7 := hx.to
  obtain ⟨k, rfl⟩ : ∃ j, k = j + 1 := ⟨k - 1, by omega⟩
  have c3 := itoa_ok x.kind hx.kind (k := k)
  have c4 := itoa_ok x.time hx.time (k := k)
  have c5 := hash_ok (bytesI (sumStr before x)) false (by rw [bytesI_length]; omega) (k := k) (by rw [bytesI_length]; omega)
  rw [b16 (fun _ _ => rfl) _ _ (by simp)]
  obtain ⟨kind, who, to, time, root, sum⟩ := x
  simp only at c2 c3 c4 s2 s3 s4 s5 s6 s7
  simp -implicitDefEqProofs [entryE_f, c1, c2, c3, c4, ByteArray.size_append]
  repeat (refine ⟨by omega, ?_⟩)
  rw [show (fmt16 before ++ ⟨#[32]⟩ ++ itoaB kind ++ ⟨#[32]⟩ ++ who ++ ⟨#[32]⟩ ++ to ++ ⟨#[32]⟩ ++ itoaB time ++ ⟨#[32]⟩ ++ fmt16 root : ByteArray) = sumStr before ⟨kind, who, to, time, root, sum⟩ from rfl]
  simp only [roV_false, bytesI_length] at c5
  simp -implicitDefEqProofs [convertV, sumS, c5]

/-- The reference's text is the same. -/
theorem joinB_eq (a b c d e f : ByteArray) : joinB [a, b, c, d, e, f] sp = a ++ sp ++ b ++ sp ++ c ++ sp ++ d ++ sp ++ e ++ sp ++ f := by
  apply ByteArray.ext
  apply Array.ext'
  simp [joinB, Lib.join, List.intercalate, ByteArray.data_append, sp]

theorem summed_ok (before : Int) (h0 : u64 before) (x : Entry) (hx : okE x) {k : Nat} (hk : 400 + szE x ≤ k) :
    evF Tryd.prog Γ (k + 1) 17 [.int .u64 before, .agg (entryE.f x)] [] = some (.int .u64 (sumS before x), []) := by
  unfold szE at hk
  have c1 := fmt16_ok before h0 (k := k) (by omega)
  have c2 := fmt16_ok x.root hx.root (k := k) (by omega)
  have s5 := sumStr_size before x hx
  have s6 := hx.who
  have s7 := hx.to
  obtain ⟨k, rfl⟩ : ∃ j, k = j + 1 := ⟨k - 1, by omega⟩
  have c3 := itoa_ok x.kind hx.kind (k := k)
  have c4 := itoa_ok x.time hx.time (k := k)
  have c5 := hash_ok (bytesI (sumStr before x)) false (by rw [bytesI_length]; omega) (k := k) (by rw [bytesI_length]; omega)
  have e : sumStr before x = joinB [fmt16 before, itoaB x.kind, x.who, x.to, itoaB x.time, fmt16 x.root] ⟨#[32]⟩ := (joinB_eq _ _ _ _ _ _).symm
  have c6 : evF Tryd.prog Γ (k + 1) 29 [.ros 6 [.str (fmt16 before), .str (itoaB x.kind), .str x.who, .str x.to, .str (itoaB x.time), .str (fmt16 x.root)], .str ⟨#[32]⟩] [] = some (.str (sumStr before x), []) := by
    apply evF_orc
    rw [Γ_orc]
    have : (joinB [fmt16 before, itoaB x.kind, x.who, x.to, itoaB x.time, fmt16 x.root] ⟨#[32]⟩).size ≤ 281474976710656 := by rw [← e]; omega
    simp [sealOrc, joinOrc, strsOf, this, e]
  rw [b17 (fun _ _ => rfl) _ _ (by simp)]
  simp only [roV_false, bytesI_length] at c5
  obtain ⟨kind, who, to, time, root, sum⟩ := x
  simp only at c2 c3 c4 c6
  simp -implicitDefEqProofs [entryE_f, c1, c2, c3, c4, c5, c6, convertV, sumS]
end Go.Ev.Tryd
