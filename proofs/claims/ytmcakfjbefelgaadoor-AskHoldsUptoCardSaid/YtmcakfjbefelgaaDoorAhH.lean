/-
  FINDINGS: Linked (own work).
-/
import Derived.Test.YtmcakfjbefelgaaDoorAhF
set_option linter.unusedSimpArgs false
set_option linter.unusedVariables false
set_option maxRecDepth 100000
set_option maxHeartbeats 4000000
namespace Go.Ev.Tryd.Hd
open Go Go.Ev Go.Proofs
variable {mx : Int}

/-! ### slices.Equal -/
theorem equal36 (a b : List ByteArray) (za zb : Bool) (hl : a.length ≤ 4294967300) {k : Nat} (hk : a.length + 10 < k) :
    evF Tryd.prog (Γ mx) (k + 1) 36 [roV za a.length (flatE strE a), roV zb b.length (flatE strE b)] [] = some (.bool (decide (a = b)), []) := by
  rw [b36 (fun _ _ => rfl) _ _ (by simp)]
  by_cases hlen : a.length = b.length
  · have hlen2 : (a.length : Int) = b.length := by omega
    simp -implicitDefEqProofs [hlen2]
    generalize hx : evLoopC _ _ _ _ _ _ _ _ _ _ = R
    apply loop_gen hx (fun i : Nat => (mkL 26 .junk [(0, roV za a.length (flatE strE a)), (1, roV zb b.length (flatE strE b)), (12, .int .i64 b.length), (13, .int .i64 i)], [none, none]))
      (fun i => i ≤ b.length ∧ a.take i = b.take i) (fun i => b.length - i) 0
    case hI => exact ⟨Nat.zero_le _, rfl⟩
    case hq => omega
    case ht => simp -implicitDefEqProofs [liveOf]
    case round =>
      rintro i ⟨hi, hI⟩ _
      clear hx
      by_cases hlt : i < b.length
      · have hlt2 : (i : Int) < b.length := by omega
        have hlt3 : (i : Int) < a.length := by omega
        have hb : i < a.length := by omega
        have e2 : addI .i64 (i : Int) 1 = (i : Int) + 1 := addI_i64 (by omega) (by omega)
        have ma := drop_str a i hb
        have mb := drop_str b i hlt
        have h3 : 1 ≤ a.length - i := by omega
        have h4 : 1 ≤ b.length - i := by omega
        by_cases he : a[i] = b[i]
        · have hnext : a.take (i + 1) = b.take (i + 1) := by
            rw [List.take_succ_eq_append_getElem hb, List.take_succ_eq_append_getElem hlt, hI, he]
          generalize a[i] = x at *
          generalize b[i] = y at *
          simp -implicitDefEqProofs [hlt2, hlt3, hb, e2, ma, mb, he, hlt, h3, h4]
          exact rnd_next (i + 1) ⟨hlt, hnext⟩ (by omega) (by simp -implicitDefEqProofs [liveOf])
        · have hab : ¬ a = b := fun h => he (by subst h; rfl)
          generalize a[i] = x at *
          generalize b[i] = y at *
          simp -implicitDefEqProofs [hlt2, hlt3, hb, e2, ma, mb, he, hlt, h3, h4, hab]
      · obtain rfl : i = b.length := by omega
        rw [← hlen, List.take_length, hlen, List.take_length] at hI
        simp -implicitDefEqProofs [hI]
  · have hlen2 : ¬ (a.length : Int) = b.length := by omega
    have hab : ¬ a = b := fun h => hlen (by rw [h])
    simp -implicitDefEqProofs [hlen2, hab]

/-! ### A word in common -/
def share (a b : Finding) : Bool := anyL (fun w => anyL (fun y => decide (w = y)) (words b.text)) (words a.text)
theorem words_len (s : ByteArray) : (words s).length ≤ s.size + 1 := by
  have h1 : (words s).length ≤ (pcs s).length := List.length_filter_le _ _
  rw [pcs_length] at h1
  have h2 : Lib.countByte s.data.toList 32 ≤ s.size := by
    have : s.data.toList.length = s.size := rfl
    rw [← this]; exact List.count_le_length
  omega
theorem clos38 (l : List ByteArray) (w : ByteArray) (z : Bool) (hl : l.length ≤ 4294967300) {k : Nat} (hk : l.length + 30 < k) :
    evF Tryd.prog (Γ mx) (k + 1) 38 [.str w, .ro [roV z l.length (flatE strE l)]] [] = some (.bool (anyL (fun y => decide (w = y)) l), []) := by
  obtain ⟨k, rfl⟩ : ∃ j, k = j + 1 := ⟨k - 1, by omega⟩
  have c := contains30 (mx := mx) l w z hl (k := k) (by omega)
  rw [b38 (fun _ _ => rfl) _ _ (by simp)]
  simp -implicitDefEqProofs [c]
theorem index60 (l : List ByteArray) (z : Bool) (g : Nat) (F : List V) (hw : (Γ mx).plain g = true) (p : ByteArray → Bool) (hl : l.length ≤ 4294967300) {k : Nat} (hk : l.length + 10 < k)
    (hg : ∀ c ∈ l, evF Tryd.prog (Γ mx) k g [.str c, .ro F] [] = some (.bool (p c), [])) :
    ∃ r : Int, evF Tryd.prog (Γ mx) (k + 1) 60 [roV z l.length (flatE strE l), .fn (.func g) [] [.ro F]] [] = some (.int .i64 r, []) ∧ decide (0 ≤ r) = anyL p l := by
  rw [b60 (fun _ _ => rfl) _ _ (by simp)]
  simp -implicitDefEqProofs
  generalize hx : evLoopC _ _ _ _ _ _ _ _ _ _ = R
  apply loop_gen hx (fun i : Nat => (mkL 19 .junk [(0, roV z l.length (flatE strE l)), (1, .fn (.func g) [] [.ro F]), (7, .int .i64 l.length), (8, .int .i64 i)], [none, none]))
    (fun i => i ≤ l.length ∧ anyL p (l.take i) = false) (fun i => l.length - i) 0
  case hI => exact ⟨Nat.zero_le _, rfl⟩
  case hq => omega
  case ht => simp -implicitDefEqProofs [liveOf]
  case round =>
    rintro i ⟨hi, hn⟩ _
    clear hx
    by_cases hlt : i < l.length
    · have hlt2 : (i : Int) < l.length := by omega
      have e2 : addI .i64 (i : Int) 1 = (i : Int) + 1 := addI_i64 (by omega) (by omega)
      have hm := drop_str l i hlt
      have hst := any_take_step p l i hlt hn
      have hht := any_hit p l i hlt
      have h3 : 1 ≤ l.length - i := by omega
      have c := hg l[i] (List.getElem_mem hlt)
      generalize l[i] = y at *
      cases hp : p y with
      | true =>
        have hany := hht hp
        rw [hp] at c
        simp -implicitDefEqProofs [hlt2, e2, hm, h3, hany, c, hw]
      | false =>
        rw [hp] at c
        simp -implicitDefEqProofs [hlt2, e2, hm, h3, c, hw]
        exact rnd_next (i + 1) ⟨hlt, hst hp⟩ (by omega) (by simp -implicitDefEqProofs [liveOf])
    · have hi' : i = l.length := by omega
      subst hi'
      rw [List.take_length] at hn
      simp -implicitDefEqProofs [hn]
theorem contains37 (l : List ByteArray) (z : Bool) (g : Nat) (F : List V) (hw : (Γ mx).plain g = true) (p : ByteArray → Bool) (hl : l.length ≤ 4294967300) {k : Nat} (hk : l.length + 10 < k)
    (hg : ∀ c ∈ l, evF Tryd.prog (Γ mx) k g [.str c, .ro F] [] = some (.bool (p c), [])) :
    evF Tryd.prog (Γ mx) (k + 2) 37 [roV z l.length (flatE strE l), .fn (.func g) [] [.ro F]] [] = some (.bool (anyL p l), []) := by
  obtain ⟨r, c, hr⟩ := index60 l z g F hw p hl hk hg
  rw [b37 (fun _ _ => rfl) _ _ (by simp), ← hr]
  simp -implicitDefEqProofs [c]

/-! ### Places that overlap -/
/-- From the lower place on, with unsigned numbers. -/
def w64 (n : Int) : Int := IntKind.wrap .u64 n
theorem conv64 (H : Heap) (n : Int) : convertV Tryd.prog H 3 75 (.int .i64 n) = some (.int .u64 (w64 n), H) := by simp [convertV, w64]
noncomputable def meets (x y : Span) : Bool := decide (0 < x.len) && (decide (0 < y.len) && decide (subI .u64 (w64 y.off) (w64 x.off) < w64 x.len))
noncomputable def common (x y : Span) : Bool := if y.off < x.off then meets y x else meets x y
theorem common_ok (x y : Span) {k : Nat} : evF Tryd.prog (Γ mx) (k + 1) 64 [.agg (spanE.f x), .agg (spanE.f y)] [] = some (.bool (common x y), []) := by
  rw [b64 (fun _ _ => rfl) _ _ (by simp)]
  unfold common meets
  rw [spanE_f, spanE_f]
  by_cases h : y.off < x.off
  · by_cases h1 : 0 < y.len
    · by_cases h2 : 0 < x.len
      · simp -implicitDefEqProofs [h, h1, h2, conv64]
      · simp -implicitDefEqProofs [h, h1, h2, conv64]
    · simp -implicitDefEqProofs [h, h1, conv64]
  · by_cases h1 : 0 < x.len
    · by_cases h2 : 0 < y.len
      · simp -implicitDefEqProofs [h, h1, h2, conv64]
      · simp -implicitDefEqProofs [h, h1, h2, conv64]
    · simp -implicitDefEqProofs [h, h1, conv64]
theorem drop_span (l : List Span) (i : Nat) (h : i < l.length) : List.take 2 (List.drop (i * 2) (flatE spanE l)) = spanE.f l[i] := at_flatE spanE rfl l i h
theorem index78 (l : List Span) (z : Bool) (g : Nat) (F : List V) (hw : (Γ mx).plain g = true) (p : Span → Bool) (hl : l.length ≤ 4294967300) {k : Nat} (hk : l.length + 10 < k)
    (hg : ∀ c ∈ l, evF Tryd.prog (Γ mx) k g [.agg (spanE.f c), .ro F] [] = some (.bool (p c), [])) :
    ∃ r : Int, evF Tryd.prog (Γ mx) (k + 1) 78 [roV z l.length (flatE spanE l), .fn (.func g) [] [.ro F]] [] = some (.int .i64 r, []) ∧ decide (0 ≤ r) = anyL p l := by
  rw [b78 (fun _ _ => rfl) _ _ (by simp)]
  simp -implicitDefEqProofs
  generalize hx : evLoopC _ _ _ _ _ _ _ _ _ _ = R
  apply loop_gen hx (fun i : Nat => (mkL 19 .junk [(0, roV z l.length (flatE spanE l)), (1, .fn (.func g) [] [.ro F]), (7, .int .i64 l.length), (8, .int .i64 i)], [none, none]))
    (fun i => i ≤ l.length ∧ anyL p (l.take i) = false) (fun i => l.length - i) 0
  case hI => exact ⟨Nat.zero_le _, rfl⟩
  case hq => omega
  case ht => simp -implicitDefEqProofs [liveOf]
  case round =>
    rintro i ⟨hi, hn⟩ _
    clear hx
    by_cases hlt : i < l.length
    · have hlt2 : (i : Int) < l.length := by omega
      have e2 : addI .i64 (i : Int) 1 = (i : Int) + 1 := addI_i64 (by omega) (by omega)
      have hm := drop_span l i hlt
      have hst := any_take_step p l i hlt hn
      have hht := any_hit p l i hlt
      have h3 : 2 ≤ l.length * 2 - i * 2 := by omega
      have c := hg l[i] (List.getElem_mem hlt)
      generalize l[i] = y at *
      rw [spanE_f] at hm c
      cases hp : p y with
      | true =>
        have hany := hht hp
        rw [hp] at c
        simp -implicitDefEqProofs [hlt2, e2, hm, h3, hany, c, hw]
      | false =>
        rw [hp] at c
        simp -implicitDefEqProofs [hlt2, e2, hm, h3, c, hw]
        exact rnd_next (i + 1) ⟨hlt, hst hp⟩ (by omega) (by simp -implicitDefEqProofs [liveOf])
    · have hi' : i = l.length := by omega
      subst hi'
      rw [List.take_length] at hn
      simp -implicitDefEqProofs [hn]
theorem contains61 (l : List Span) (z : Bool) (g : Nat) (F : List V) (hw : (Γ mx).plain g = true) (p : Span → Bool) (hl : l.length ≤ 4294967300) {k : Nat} (hk : l.length + 10 < k)
    (hg : ∀ c ∈ l, evF Tryd.prog (Γ mx) k g [.agg (spanE.f c), .ro F] [] = some (.bool (p c), [])) :
    evF Tryd.prog (Γ mx) (k + 2) 61 [roV z l.length (flatE spanE l), .fn (.func g) [] [.ro F]] [] = some (.bool (anyL p l), []) := by
  obtain ⟨r, c, hr⟩ := index78 l z g F hw p hl hk hg
  rw [b61 (fun _ _ => rfl) _ _ (by simp), ← hr]
  simp -implicitDefEqProofs [c]
noncomputable def touch (a b : List Span) : Bool := anyL (fun x => anyL (fun y => common x y) b) a
theorem touch_ok (a b : List Span) (za zb : Bool) (ha : a.length ≤ 4294967300) (hb : b.length ≤ 4294967300) {k : Nat} (hk : a.length + b.length + 30 < k) :
    evF Tryd.prog (Γ mx) (k + 1) 39 [roV za a.length (flatE spanE a), roV zb b.length (flatE spanE b)] [] = some (.bool (touch a b), []) := by
  obtain ⟨k, rfl⟩ : ∃ j, k = j + 6 := ⟨k - 6, by omega⟩
  have c1 : ∀ x : Span, ∀ y ∈ b, evF Tryd.prog (Γ mx) (k + 1) 63 [.agg (spanE.f y), .ro [.int .i64 x.off, .int .i64 x.len]] [] = some (.bool (common x y), []) := fun x y _ => by
    obtain ⟨k, rfl⟩ : ∃ j, k = j + 1 := ⟨k - 1, by omega⟩
    have c := common_ok (mx := mx) x y (k := k)
    rw [spanE_f, spanE_f] at c
    rw [b63 (fun _ _ => rfl) _ _ (by simp), spanE_f]
    simp -implicitDefEqProofs [c]
  have c2 : ∀ x ∈ a, evF Tryd.prog (Γ mx) (k + 4) 62 [.agg (spanE.f x), .ro [roV zb b.length (flatE spanE b)]] [] = some (.bool (anyL (fun y => common x y) b), []) := fun x _ => by
    have c := contains61 (mx := mx) b zb 63 [.int .i64 x.off, .int .i64 x.len] (by rfl) (common x) hb (k := k + 1) (by omega) (c1 x)
    rw [b62 (fun _ _ => rfl) _ _ (by simp), spanE_f]
    simp -implicitDefEqProofs [c]
  have c3 := contains61 (mx := mx) a za 62 [roV zb b.length (flatE spanE b)] (by rfl) (fun x => anyL (fun y => common x y) b) ha (k := k + 4) (by omega) c2
  rw [b39 (fun _ _ => rfl) _ _ (by simp)]
  unfold touch
  simp -implicitDefEqProofs [c3]
/-- What Linked says. -/
noncomputable def linkedF (a b : Finding) (op : Int) : Bool := if op = 0 then decide (a.via = b.via) else if op = 1 then decide (a.high < b.low) else if op = 2 then share a b else if op = 3 then decide (a.via = b.via) && touch a.at_ b.at_ else false
def small2 (f : Finding) : Prop := f.via.length ≤ 4294967200 ∧ f.at_.length ≤ 4294967200 ∧ ∀ x ∈ f.at_, x.len ≤ 9223372036854775807
theorem linked_ok (a b : Finding) (op : Int) (ha : small a) (hb : small b) (ha2 : small2 a) (hb2 : small2 b) {k : Nat} (hk : a.text.size + b.text.size + a.via.length + a.at_.length + b.at_.length + 200 < k) :
    evF Tryd.prog (Γ mx) (k + 1) 14 [.agg (findE.f a), .agg (findE.f b), .int .i64 op] [] = some (.bool (linkedF a b op), []) := by
  obtain ⟨k, rfl⟩ : ∃ j, k = j + 3 := ⟨k - 3, by omega⟩
  have c1 := equal36 (mx := mx) a.via b.via a.zv b.zv (by have := ha2.1; omega) (k := k + 2) (by omega)
  have c2 := touch_ok (mx := mx) a.at_ b.at_ a.za b.za (by have := ha2.2.1; omega) (by have := hb2.2.1; omega) (k := k + 2) (by omega)
  have w1 := words_ok (mx := mx) a.text (by have := ha.1; omega) (k := k + 2) (by omega)
  have w2 := words_ok (mx := mx) b.text (by have := hb.1; omega) (k := k + 2) (by omega)
  have la := words_len a.text
  have lb := words_len b.text
  have c3 : ∀ z w, w ∈ words a.text → evF Tryd.prog (Γ mx) (k + 1) 38 [.str w, .ro [roV z (words b.text).length (flatE strE (words b.text))]] [] = some (.bool (anyL (fun y => decide (w = y)) (words b.text)), []) := fun z w _ =>
    clos38 (mx := mx) (words b.text) w z (by have := hb.1; omega) (k := k) (by omega)
  have c4 : ∀ z z2, evF Tryd.prog (Γ mx) (k + 3) 37 [roV z (words a.text).length (flatE strE (words a.text)), .fn (.func 38) [] [.ro [roV z2 (words b.text).length (flatE strE (words b.text))]]] [] = some (.bool (share a b), []) := fun z z2 =>
    contains37 (mx := mx) (words a.text) z 38 [roV z2 (words b.text).length (flatE strE (words b.text))] (by rfl) (fun w => anyL (fun y => decide (w = y)) (words b.text)) (by have := ha.1; omega) (k := k + 1) (by omega) (c3 z2)
  change evF Tryd.prog (Γ mx) (k + 3) 36 _ _ = _ at c1
  change evF Tryd.prog (Γ mx) (k + 3) 39 _ _ = _ at c2
  change evF Tryd.prog (Γ mx) (k + 3) 31 _ _ = _ at w1
  change evF Tryd.prog (Γ mx) (k + 3) 31 _ _ = _ at w2
  rw [b14 (fun _ _ => rfl) _ _ (by simp)]
  rw [findE_f, findE_f]
  unfold linkedF
  clear c3
  by_cases h0 : op = 0
  · simp -implicitDefEqProofs [h0, c1]
  by_cases h1 : op = 1
  · simp -implicitDefEqProofs [h1]
  by_cases h2 : op = 2
  · subst h2
    generalize words a.text = A at *
    generalize words b.text = B at *
    have tA : ∀ n, A.length = n → List.take n (flatE strE A) = flatE strE A := fun n h => by rw [List.take_of_length_le]; simp [h]
    have tB : ∀ n, B.length = n → List.take n (flatE strE B) = flatE strE B := fun n h => by rw [List.take_of_length_le]; simp [h]
    cases hA : A.length with
    | zero =>
      obtain rfl : A = [] := List.length_eq_zero_iff.1 hA
      cases hB : B.length with
      | zero =>
        obtain rfl : B = [] := List.length_eq_zero_iff.1 hB
        have c4 := c4 true true
        simp at w1 w2 c4
        simp -implicitDefEqProofs [w1, w2, c4]
      | succ m =>
        have c4 := c4 true false
        have tB := tB _ hB
        rw [hB] at w2 c4
        simp at w1 w2 c4
        simp -implicitDefEqProofs [w1, w2, c4, tB]
    | succ n =>
      have tA := tA _ hA
      cases hB : B.length with
      | zero =>
        obtain rfl : B = [] := List.length_eq_zero_iff.1 hB
        have c4 := c4 false true
        rw [hA] at w1 c4
        simp at w1 w2 c4
        simp -implicitDefEqProofs [w1, w2, c4, tA]
      | succ m =>
        have c4 := c4 false false
        have tB := tB _ hB
        rw [hA] at w1 c4
        rw [hB] at w2 c4
        simp at w1 w2 c4
        simp -implicitDefEqProofs [w1, w2, c4, tA, tB]
  by_cases h3 : op = 3
  · subst h3
    by_cases hv : a.via = b.via
    · have hd : decide (a.via = b.via) = true := decide_eq_true hv
      rw [hd] at c1
      simp -implicitDefEqProofs [c1, c2, hd]
    · have hd : decide (a.via = b.via) = false := decide_eq_false hv
      rw [hd] at c1
      simp -implicitDefEqProofs [c1, c2, hd]
  simp -implicitDefEqProofs [h0, h1, h2, h3]
end Go.Ev.Tryd.Hd
