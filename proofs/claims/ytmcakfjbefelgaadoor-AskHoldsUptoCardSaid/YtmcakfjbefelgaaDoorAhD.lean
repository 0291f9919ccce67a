/-
  FINDINGS: Holds (own work).
-/
import Derived.Test.YtmcakfjbefelgaaDoorAhB
import Derived.Test.YtmcakfjbefelgaaDoorAhC1
import Derived.Test.YtmcakfjbefelgaaDoorAkE
set_option linter.unusedSimpArgs false
set_option linter.unusedVariables false
set_option maxRecDepth 100000
set_option maxHeartbeats 4000000
namespace Go.Ev.Tryd.Hd
open Go Go.Ev Go.Proofs
variable {mx : Int}

/-- The bytes hold the string. -/
def has (f : Finding) (s : ByteArray) : Bool := Lib.contains (Lib.bytesOf f.bytes) s.data.toList
def wordIn (f : Finding) (s : ByteArray) : Bool := anyL (fun y => decide (s = y)) (words f.text)
mutual
/-- What a condition says of a finding. -/
def holdsC (f : Finding) : Cond → Bool
  | .mk o s lo hi z ks => if o = 0 then true else if o = 1 then decide (f.kind = s) else if o = 2 then wordIn f s else if o = 3 then has f s
    else if o = 4 then decide (f.low ≤ hi) && decide (lo ≤ f.high) else if o = 5 then !anyC f ks else if o = 6 then allC f ks else if o = 7 then anyC f ks else false
def anyC (f : Finding) : List Cond → Bool
  | [] => false
  | c :: l => holdsC f c || anyC f l
def allC (f : Finding) : List Cond → Bool
  | [] => true
  | c :: l => holdsC f c && allC f l
end
theorem holdsC_eq (f : Finding) (c : Cond) : holdsC f c = if c.op = 0 then true else if c.op = 1 then decide (f.kind = c.s) else if c.op = 2 then wordIn f c.s else if c.op = 3 then has f c.s
    else if c.op = 4 then decide (f.low ≤ c.high) && decide (c.low ≤ f.high) else if c.op = 5 then !anyC f c.kids else if c.op = 6 then allC f c.kids else if c.op = 7 then anyC f c.kids else false := by
  cases c; rw [holdsC]; rfl
theorem anyC_any (f : Finding) (l : List Cond) : anyC f l = anyL (holdsC f) l := by
  induction l with
  | nil => rfl
  | cons c l ih => rw [anyC, ih]; simp [anyL]
theorem allC_any (f : Finding) (l : List Cond) : allC f l = !anyL (fun c => !holdsC f c) l := by
  induction l with
  | nil => rfl
  | cons c l ih => rw [allC, ih]; simp [anyL]
/-- A finding's sizes. -/
def small (f : Finding) : Prop := f.text.size ≤ 4294967200 ∧ f.bytes.length ≤ 4294967200 ∧ inU8 f.bytes
theorem bytesOf_bytesI (s : ByteArray) : Lib.bytesOf (bytesI s) = s.data.toList := by
  unfold Lib.bytesOf bytesI
  rw [List.map_map]
  have : ((fun n : Int => UInt8.ofNat n.toNat) ∘ fun b : UInt8 => ((b.toNat : Nat) : Int)) = id := by
    funext b; simp
  first
    | (rw [this]; simp)
    | (simp)
theorem inU8_bytesI (s : ByteArray) : inU8 (bytesI s) := by
  intro x hx
  unfold bytesI at hx
  rw [List.mem_map] at hx
  obtain ⟨b, _, rfl⟩ := hx
  have := b.toNat_lt
  constructor <;> omega
theorem flat_u8 (l : List Int) : flatE (intE .u8) l = l.map (V.int .u8) := by
  induction l with
  | nil => rfl
  | cons x l ih => rw [flatE_cons, ih]; rfl
theorem has32 (f : Finding) (hf : small f) (s : ByteArray) (hs : s.size ≤ 4294967200) {k : Nat} :
    evF Tryd.prog (Γ mx) (k + 1) 32 [roV f.zb f.bytes.length (flatE (intE .u8) f.bytes), .ros s.size (flatE (intE .u8) (bytesI s))] [] = some (.bool (has f s), []) := by
  obtain ⟨_, hb, hu⟩ := hf
  refine evF_orc ?_
  rw [Γ_orc]
  show bcontainsOrc _ _ = _
  have hlen : s.size = (bytesI s).length := by simp
  rw [flat_u8, flat_u8, hlen]
  by_cases hz : f.zb = true ∧ f.bytes.length = 0
  · have h0 : f.bytes = [] := List.length_eq_zero_iff.1 hz.2
    rw [hz.1, hz.2, roV_nil, bcontainsOrc_nil (by omega)]
    unfold has
    rw [h0, ← bytesOf_bytesI s]
    cases h : bytesI s with
    | nil => rfl
    | cons a l => rfl
  · have hro : roV f.zb f.bytes.length (f.bytes.map (V.int .u8)) = .ros f.bytes.length (f.bytes.map (V.int .u8)) := by
      unfold roV
      rw [if_neg]
      simpa using hz
    rw [hro, bcontainsOrc_eq (by omega) (by omega) hu (inU8_bytesI s)]
    unfold has
    rw [bytesOf_bytesI]

theorem holds_ok (f : Finding) (hf : small f) : ∀ (N : Nat) (c : Cond), wt c ≤ N → N ≤ 4294967200 → ∀ {k : Nat}, 10 * wt c + f.text.size + 200 < k →
    evF Tryd.prog (Γ mx) (k + 1) 12 [.agg (findE.f f), .agg (condE.f c)] [] = some (.bool (holdsC f c), []) := by
  intro N
  induction N with
  | zero => intro c h; have := wt_eq c; omega
  | succ N ih =>
    intro c hc hN k hk
    have hkl := kids_wt c
    have hwe := wt_eq c
    obtain ⟨k, rfl⟩ : ∃ j, k = j + 4 := ⟨k - 4, by omega⟩
    have w1 := words_ok (mx := mx) f.text (by have := hf.1; omega) (k := k + 3) (by have := hf.1; omega)
    have hwl : (words f.text).length ≤ f.text.size + 1 := by
      have h1 : (words f.text).length ≤ (pcs f.text).length := List.length_filter_le _ _
      rw [pcs_length] at h1
      have h2 : Lib.countByte f.text.data.toList 32 ≤ f.text.size := by
        have : f.text.data.toList.length = f.text.size := rfl
        rw [← this]; exact List.count_le_length
      omega
    have w2 : ∀ z, evF Tryd.prog (Γ mx) (k + 4) 30 [roV z (words f.text).length (flatE strE (words f.text)), .str c.s] [] = some (.bool (wordIn f c.s), []) := fun z =>
      contains30 (mx := mx) (words f.text) c.s z (by have := hf.1; omega) (k := k + 3) (by omega)
    have w3 := has32 (mx := mx) f hf c.s (by omega) (k := k + 3)
    have i1 : ∀ x ∈ c.kids, evF Tryd.prog (Γ mx) (k + 1) 12 [.agg (findE.f f), .agg (condE.f x)] [] = some (.bool (holdsC f x), []) := fun x hx => by
      have h1 := kid_wt hx
      exact ih x (by omega) (by omega) (by omega)
    have i2 : ∀ x ∈ c.kids, evF Tryd.prog (Γ mx) (k + 2) 29 [.agg (condE.f x), .ro (findV f)] [] = some (.bool (holdsC f x), []) := fun x hx => by
      have i := i1 x hx
      rw [b29 (fun _ _ => rfl) _ _ (by simp)]
      rw [condE_f, findE_f] at i
      rw [condE_f, findV]
      simp -implicitDefEqProofs [i]
    have i3 : ∀ x ∈ c.kids, evF Tryd.prog (Γ mx) (k + 2) 34 [.agg (condE.f x), .ro (findV f)] [] = some (.bool (!holdsC f x), []) := fun x hx => by
      have i := i1 x hx
      rw [b34 (fun _ _ => rfl) _ _ (by simp)]
      rw [condE_f, findE_f] at i
      rw [condE_f, findV]
      simp -implicitDefEqProofs [i]
    have i4 := contains33 (mx := mx) c.kids c.z 29 (findV f) (by rfl) (holdsC f) (by omega) (k := k + 2) (by omega) i2
    have i5 := contains33 (mx := mx) c.kids c.z 34 (findV f) (by rfl) (fun x => !holdsC f x) (by omega) (k := k + 2) (by omega) i3
    rw [← anyC_any] at i4
    have i6 : anyL (fun x => !holdsC f x) c.kids = !allC f c.kids := by rw [allC_any]; simp
    rw [i6] at i5
    rw [holdsC_eq]
    rw [b12 (fun _ _ => rfl) _ _ (by simp)]
    have hfc := condE_f c
    have hff := findE_f f
    generalize c.kids = K at *
    generalize c.op = o at *
    clear ih i1 i2 i3 i6
    rw [hfc, hff]
    unfold findV at i4 i5
    by_cases h0 : o = 0
    · simp -implicitDefEqProofs [h0]
    by_cases h1 : o = 1
    · simp -implicitDefEqProofs [h1]
    by_cases h2 : o = 2
    · subst h2
      change evF Tryd.prog (Γ mx) (k + 4) 31 _ _ = _ at w1
      generalize words f.text = W at *
      cases hW : W.length with
      | zero =>
        have hnil : W = [] := List.length_eq_zero_iff.1 hW
        subst hnil
        have w2 := w2 true
        simp at w1 w2
        simp -implicitDefEqProofs [w1, w2]
      | succ n =>
        have w2 := w2 false
        rw [hW] at w1 w2
        simp only [ownV_succ, ownB_succ, roV_succ] at w1 w2
        have ht : List.take (n + 1) (flatE strE W) = flatE strE W := by rw [List.take_of_length_le]; simp [hW]
        simp -implicitDefEqProofs [w1, w2, ht]
    by_cases h3 : o = 3
    · subst h3
      simp -implicitDefEqProofs [conv_bytes, w3]
    by_cases h4 : o = 4
    · subst h4
      by_cases g1 : f.low ≤ c.high
      · simp -implicitDefEqProofs [g1]
      · simp -implicitDefEqProofs [g1]
    by_cases h5 : o = 5
    · subst h5
      simp -implicitDefEqProofs [i4]
    by_cases h6 : o = 6
    · subst h6
      simp -implicitDefEqProofs [i5]
    by_cases h7 : o = 7
    · subst h7
      simp -implicitDefEqProofs [i4]
    simp -implicitDefEqProofs [h0, h1, h2, h3, h4, h5, h6, h7]
end Go.Ev.Tryd.Hd
