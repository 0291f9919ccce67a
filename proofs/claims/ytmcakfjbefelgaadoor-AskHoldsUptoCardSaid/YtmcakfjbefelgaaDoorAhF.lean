/-
  FINDINGS: the reference's True (own work).
-/
import Derived.Test.YtmcakfjbefelgaaDoorAhE
set_option linter.unusedSimpArgs false
set_option linter.unusedVariables false
set_option maxRecDepth 100000
set_option maxHeartbeats 4000000
namespace Go.Ev.Tryd.Hd
open Go Go.Ev Go.Proofs
variable {mx : Int}

theorem contains35 (s sub : ByteArray) (h : s.size < 4294967281) {k : Nat} : evF Tryd.prog (Γ mx) (k + 1) 35 [.str s, .str sub] [] = some (.bool (Lib.contains s.data.toList sub.data.toList), []) := by
  refine evF_orc ?_
  rw [Γ_orc]
  exact containsOrc_eq h []
/-- How many kids hold. -/
def cntC (f : Finding) (l : List Cond) : Nat := (l.filter (holdsC f)).length
theorem cntC_zero (f : Finding) (l : List Cond) : decide (cntC f l = 0) = !anyC f l := by
  induction l with
  | nil => rfl
  | cons c l ih =>
    unfold cntC at *
    rw [anyC, List.filter_cons]
    cases h : holdsC f c
    · simpa using ih
    · simp
theorem cntC_le (f : Finding) (l : List Cond) : cntC f l ≤ l.length := List.length_filter_le _ _
theorem cntC_all (f : Finding) (l : List Cond) : decide (cntC f l = l.length) = allC f l := by
  induction l with
  | nil => rfl
  | cons c l ih =>
    have hle := cntC_le f l
    unfold cntC at *
    rw [allC, List.filter_cons]
    cases h : holdsC f c
    · simp; omega
    · simpa using ih
theorem cntC_pos (f : Finding) (l : List Cond) : decide (0 < cntC f l) = anyC f l := by
  have := cntC_zero f l
  cases h : anyC f l
  · rw [h] at this; simp at this ⊢; omega
  · rw [h] at this; simp at this ⊢; omega
theorem cntC_snoc (f : Finding) (l : List Cond) (i : Nat) (h : i < l.length) : cntC f (l.take (i + 1)) = cntC f (l.take i) + if holdsC f l[i] then 1 else 0 := by
  unfold cntC
  rw [List.take_succ_eq_append_getElem h, List.filter_append, List.length_append, List.filter_cons]
  cases holdsC f l[i] <;> simp
theorem strNums_eq (l : List Int) (s : ByteArray) : (strOfNums l = s) = (Lib.bytesOf l = s.data.toList) := by
  have h : (strOfNums l).data.toList = Lib.bytesOf l := by rw [← Lib.strOfNums_toList, Lib.toList_data]
  refine propext ⟨fun e => by rw [← h, e], fun e => ext_toList (by rw [h, e])⟩
theorem conv_str (H : Heap) (l : List Int) : convertV Tryd.prog H 35 9 (.ros l.length (flatE (intE .u8) l)) = some (.str (strOfNums l), H) := by
  have t : List.take l.length (flatE (intE .u8) l) = flatE (intE .u8) l := by rw [List.take_of_length_le]; simp
  have n : ∀ l : List Int, numsOfCells (flatE (intE .u8) l) = some l := fun l => by
    induction l with
    | nil => rfl
    | cons x l ih => simp [numsOfCells, ih]
  simp [convertV, sliceAtV, n, t]
theorem take_drop_u8 (l : List Int) (i n : Nat) : List.take n (List.drop i (flatE (intE .u8) l)) = flatE (intE .u8) (List.take n (List.drop i l)) := by
  rw [flat_u8, flat_u8, List.map_take, List.map_drop]
theorem bytesOf_cut (l : List Int) (i n : Nat) : Lib.bytesOf (List.take n (List.drop i l)) = List.take n (List.drop i (Lib.bytesOf l)) := by
  unfold Lib.bytesOf
  rw [List.map_take, List.map_drop]
theorem bytesOf_length (l : List Int) : (Lib.bytesOf l).length = l.length := by simp [Lib.bytesOf]
theorem true_ok (f : Finding) (hf : small f) : ∀ (N : Nat) (c : Cond), wt c ≤ N → N ≤ 4294967200 → ∀ {k : Nat}, 10 * wt c + f.bytes.length + 200 < k →
    evF Tryd.prog (Γ mx) (k + 1) 13 [.agg (findE.f f), .agg (condE.f c)] [] = some (.bool (holdsC f c), []) := by
  intro N
  induction N with
  | zero => intro c h; have := wt_eq c; omega
  | succ N ih =>
    intro c hc hN k hk
    have hkl := kids_wt c
    have hwe := wt_eq c
    have i1 : ∀ (i : Nat) (h : i < c.kids.length), evF Tryd.prog (Γ mx) k 13 [.agg (findE.f f), .agg (condE.f c.kids[i])] [] = some (.bool (holdsC f c.kids[i]), []) := fun i h => by
      have h1 := kid_wt (List.getElem_mem h)
      obtain ⟨k, rfl⟩ : ∃ j, k = j + 1 := ⟨k - 1, by omega⟩
      exact ih _ (by omega) (by omega) (by omega)
    rw [holdsC_eq]
    rw [b13 (fun _ _ => rfl) _ _ (by simp)]
    have hfc := condE_f c
    have hff := findE_f f
    generalize hH : findE.f f = F at *
    generalize hC : condE.f c = C at *
    generalize c.kids = K at *
    generalize c.op = o at *
    clear ih
    subst hfc
    rw [hff]
    simp -implicitDefEqProofs
    generalize hx : evLoopC _ _ _ _ _ _ _ _ _ _ = R
    apply loop_gen hx (fun i : Nat => (mkL 111 .junk [(2, .ptr 0 0), (3, .ptr 1 0), (5, .int .i64 (cntC f (K.take i))), (10, roV c.z K.length (flatE condE K)), (11, .int .i64 K.length), (12, .int .i64 i)],
        [some (.cells F true), some (.cells [.int .i64 o, .str c.s, .int .i64 c.low, .int .i64 c.high, roV c.z K.length (flatE condE K)] true), none, none, none, none, none]))
      (fun i => i ≤ K.length) (fun i => K.length - i) 0
    case hI => exact Nat.zero_le _
    case hq => omega
    case ht => simp -implicitDefEqProofs [liveOf, hff, cntC]
    case round =>
      rintro i hi _
      have hi : i ≤ K.length := hi
      clear hx
      by_cases hlt : i < K.length
      · have hlt2 : (i : Int) < K.length := by omega
        have e2 : addI .i64 (i : Int) 1 = (i : Int) + 1 := addI_i64 (by omega) (by omega)
        have hm := drop_cond K i hlt
        have h3 : 5 ≤ K.length * 5 - i * 5 := by omega
        have hs := cntC_snoc f K i hlt
        have hle := cntC_le f (K.take i)
        rw [List.length_take] at hle
        have e3 : addI .i64 (cntC f (K.take i) : Int) 1 = (cntC f (K.take i) : Int) + 1 := addI_i64 (by omega) (by omega)
        have c1 := i1 i hlt
        generalize cntC f (K.take i) = n at *
        generalize K[i] = x at *
        rw [hff, condE_f] at c1
        rw [condE_f] at hm
        rw [hff]
        cases hp : holdsC f x with
        | true =>
          rw [hp] at c1 hs
          simp -implicitDefEqProofs [hlt2, e2, e3, hm, h3, c1]
          exact rnd_next (i + 1) hlt (by omega) (by simp -implicitDefEqProofs [liveOf, hs, hff])
        | false =>
          rw [hp] at c1 hs
          simp -implicitDefEqProofs [hlt2, e2, e3, hm, h3, c1]
          exact rnd_next (i + 1) hlt (by omega) (by simp -implicitDefEqProofs [liveOf, hs, hff])
      · obtain rfl : i = K.length := by omega
        have hz := cntC_zero f K
        have hal := cntC_all f K
        have hpo := cntC_pos f K
        rw [List.take_length]
        generalize cntC f K = n at *
        generalize anyC f K = any at *
        generalize allC f K = all at *
        clear i1 hC hH
        subst hff
        by_cases h0 : o = 0
        · simp -implicitDefEqProofs [h0]
        by_cases h1 : o = 1
        · have hcm : decide (c.s = f.kind) = decide (f.kind = c.s) := by rw [Bool.eq_iff_iff]; simp [eq_comm]
          simp -implicitDefEqProofs [h1, hcm]
        by_cases h2 : o = 2
        · subst h2
          have c1 := contains35 (mx := mx) (sp ++ f.text ++ sp) (sp ++ c.s ++ sp) (by have := hf.1; simp [sp_size]; omega) (k := k - 1)
          have c2 := contains35 (mx := mx) c.s sp (by omega) (k := k - 1)
          have hk1 : k - 1 + 1 = k := by omega
          have a1 : ∀ t : ByteArray, (sp ++ t ++ sp).data.toList = 32 :: t.data.toList ++ [32] := fun t => by simp [sp]
          have a2 : sp.data.toList = [32] := rfl
          have wf := word_found f.text c.s
          rw [hk1, a1, a1] at c1
          rw [hk1, a2] at c2
          have hw : wordIn f c.s = anyL (fun y => decide (c.s = y)) (words f.text) := rfl
          rw [hw, ← wf]
          have hsp : (⟨#[32]⟩ : ByteArray) = sp := rfl
          generalize Lib.contains (32 :: f.text.data.toList ++ [32]) (32 :: c.s.data.toList ++ [32]) = b1 at *
          generalize Lib.contains c.s.data.toList [32] = b2 at *
          have u1 : sp.size + f.text.size ≤ 9223372036854775807 := by have := hf.1; rw [sp_size]; omega
          have u2 : sp.size + f.text.size + sp.size ≤ 9223372036854775807 := by have := hf.1; rw [sp_size]; omega
          have u3 : sp.size + c.s.size ≤ 9223372036854775807 := by rw [sp_size]; omega
          have u4 : sp.size + c.s.size + sp.size ≤ 9223372036854775807 := by rw [sp_size]; omega
          cases b1 with
          | false => simp -implicitDefEqProofs [hsp, c1, u1, u2, u3, u4]
          | true =>
            by_cases he : c.s = ByteArray.empty
            · have he : (c.s = ByteArray.empty) = True := eq_true he
              simp -implicitDefEqProofs [hsp, c1, he, u1, u2, u3, u4]
            · simp -implicitDefEqProofs [hsp, c1, c2, he, u1, u2, u3, u4]
        by_cases h3 : o = 3
        · subst h3
          have hbl := bytesOf_length f.bytes
          have hsl : c.s.data.toList.length = c.s.size := rfl
          obtain ⟨_, hfb, _⟩ := hf
          by_cases hz : f.zb = true ∧ f.bytes.length = 0
          · have h0 : f.bytes = [] := List.length_eq_zero_iff.1 hz.2
            have hro : roV f.zb f.bytes.length (flatE (intE .u8) f.bytes) = .nils := by rw [hz.1, hz.2, roV_nil]
            rw [hro]
            simp -implicitDefEqProofs
            generalize hx : evLoopC _ _ _ _ _ _ _ _ _ _ = R
            apply loop_gen hx (fun _ : Unit => (mkL 111 .junk [(2, .ptr 0 0), (3, .ptr 1 0), (8, .int .i64 0)],
                [some (.cells [.str f.kind, roV f.zv f.via.length (flatE strE f.via), roV f.za f.at_.length (flatE spanE f.at_), .nils, .str f.text, .int .i64 f.low, .int .i64 f.high] true),
                 some (.cells [.int .i64 3, .str c.s, .int .i64 c.low, .int .i64 c.high, roV c.z K.length (flatE condE K)] true), none, none, none, none]))
              (fun _ => True) (fun _ => 0) ()
            case hI => trivial
            case hq => omega
            case ht => simp -implicitDefEqProofs [liveOf]
            case round =>
              rintro _ _ _
              clear hx
              have hh : has f c.s = decide (c.s.size = 0) := by
                unfold has
                rw [h0, ← hsl]
                cases c.s.data.toList <;> rfl
              have e1 : addI .i64 0 (c.s.size : Int) = c.s.size := by rw [addI_i64 (by omega) (by omega)]; omega
              rw [hh]
              by_cases hs0 : c.s.size = 0
              · have hse : c.s = ByteArray.empty := ByteArray.size_eq_zero_iff.1 hs0
                have g : (c.s.size : Int) ≤ 0 := by omega
                rw [hse] at e1 g ⊢
                have e0 : addI .i64 0 0 = 0 := by rw [addI_i64 (by omega) (by omega)]; rfl
                have cv : ∀ H, convertV Tryd.prog H 35 9 .nils = some (.str ByteArray.empty, H) := fun H => by
                  have hn : strOfNums [] = ByteArray.empty := by rw [strNums_eq]; rfl
                  simp [convertV, sliceAtV, numsOfCells, hn]
                have sn : ∀ H, sliceV Tryd.prog H 35 .nils (some (.int .i64 0)) (some (.int .i64 0)) none = some .nils := fun H => by
                  simp [sliceV, boundV]
                simp -implicitDefEqProofs [e0, cv, sn]
              · have g : ¬ (c.s.size : Int) ≤ 0 := by omega
                simp -implicitDefEqProofs [e1, g, hs0]
          · have hro : roV f.zb f.bytes.length (flatE (intE .u8) f.bytes) = .ros f.bytes.length (flatE (intE .u8) f.bytes) := by
              unfold roV
              rw [if_neg]
              simpa using hz
            rw [hro]
            simp -implicitDefEqProofs
            generalize hx : evLoopC _ _ _ _ _ _ _ _ _ _ = R
            apply loop_gen hx (fun i : Nat => (mkL 111 .junk [(2, .ptr 0 0), (3, .ptr 1 0), (8, .int .i64 i)],
                [some (.cells [.str f.kind, roV f.zv f.via.length (flatE strE f.via), roV f.za f.at_.length (flatE spanE f.at_), .ros f.bytes.length (flatE (intE .u8) f.bytes), .str f.text, .int .i64 f.low, .int .i64 f.high] true),
                 some (.cells [.int .i64 3, .str c.s, .int .i64 c.low, .int .i64 c.high, roV c.z K.length (flatE condE K)] true), none, none, none, none]))
              (fun i => i ≤ f.bytes.length + 1 ∧ ∀ j, j < i → ¬ List.take c.s.size (List.drop j (Lib.bytesOf f.bytes)) = c.s.data.toList) (fun i => f.bytes.length + 1 - i) 0
            case hI => exact ⟨Nat.zero_le _, fun j h => absurd h (Nat.not_lt_zero _)⟩
            case hq => omega
            case ht => simp -implicitDefEqProofs [liveOf]
            case round =>
              rintro i ⟨hi, hno⟩ _
              clear hx
              have e1 : addI .i64 (i : Int) (c.s.size : Int) = (i : Int) + c.s.size := addI_i64 (by omega) (by omega)
              have e2 : addI .i64 (i : Int) 1 = (i : Int) + 1 := addI_i64 (by omega) (by omega)
              by_cases hle : i + c.s.size ≤ f.bytes.length
              · have hle2 : (i : Int) + c.s.size ≤ f.bytes.length := by omega
                have g1 : (0 : Int) ≤ (i : Int) + c.s.size := by omega
                have g2 : ((i : Int) + c.s.size).toNat = i + c.s.size := by omega
                have g3 : i + c.s.size - i = c.s.size := by omega
                have g4 : i ≤ i + c.s.size := by omega
                have cut := take_drop_u8 f.bytes i c.s.size
                have hLl : (List.take c.s.size (List.drop i f.bytes)).length = c.s.size := by simp; omega
                have cv : ∀ H, convertV Tryd.prog H 35 9 (.ros c.s.size (flatE (intE .u8) (List.take c.s.size (List.drop i f.bytes)))) = some (.str (strOfNums (List.take c.s.size (List.drop i f.bytes))), H) := fun H => by
                  have := conv_str H (List.take c.s.size (List.drop i f.bytes))
                  rw [hLl] at this
                  exact this
                have hq := strNums_eq (List.take c.s.size (List.drop i f.bytes)) c.s
                rw [bytesOf_cut] at hq
                by_cases hhit : List.take c.s.size (List.drop i (Lib.bytesOf f.bytes)) = c.s.data.toList
                · have hh : has f c.s = true := has_hit (i := i) (by rw [hsl]; exact hhit)
                  have hq2 : (strOfNums (List.take c.s.size (List.drop i f.bytes)) = c.s) = True := by rw [hq]; exact eq_true hhit
                  simp -implicitDefEqProofs [e1, e2, hle2, g1, g2, g3, g4, cut, cv, hle, hq2, hh]
                · have hq2 : (strOfNums (List.take c.s.size (List.drop i f.bytes)) = c.s) = False := by rw [hq]; exact eq_false hhit
                  simp -implicitDefEqProofs [e1, e2, hle2, g1, g2, g3, g4, cut, cv, hle, hq2]
                  refine rnd_next (i + 1) ⟨by omega, fun j hj => ?_⟩ (by omega) (by simp -implicitDefEqProofs [liveOf])
                  rcases Nat.lt_or_ge j i with h | h
                  · exact hno j h
                  · obtain rfl : j = i := by omega
                    exact hhit
              · have hle2 : ¬ (i : Int) + c.s.size ≤ f.bytes.length := by omega
                have hmiss : has f c.s = false := has_miss fun j hj => by
                  rw [hbl, hsl] at hj
                  rw [hsl]
                  exact hno j (by omega)
                simp -implicitDefEqProofs [e1, hle2, hmiss]
        by_cases h4 : o = 4
        · subst h4
          by_cases g1 : c.high < f.low
          · have g1' : ¬ f.low ≤ c.high := by omega
            simp -implicitDefEqProofs [g1, g1']
          · have g1' : f.low ≤ c.high := by omega
            by_cases g2 : f.high < c.low
            · have g2' : ¬ c.low ≤ f.high := by omega
              simp -implicitDefEqProofs [g1, g1', g2, g2']
            · have g2' : c.low ≤ f.high := by omega
              simp -implicitDefEqProofs [g1, g1', g2, g2']
        by_cases h5 : o = 5
        · subst h5
          simp -implicitDefEqProofs [← hz]
        by_cases h6 : o = 6
        · subst h6
          simp -implicitDefEqProofs [← hal]
          omega
        by_cases h7 : o = 7
        · subst h7
          simp -implicitDefEqProofs [← hpo]
        simp -implicitDefEqProofs [h0, h1, h2, h3, h4, h5, h6, h7]
end Go.Ev.Tryd.Hd
