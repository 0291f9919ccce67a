/-
  THE REDACT SEAT: the reference's ExhibitFault, SamePieces; Holds; Root that refuses (own work).
-/
import Derived.Test.YtnalmdnfoicokaaRmC
set_option linter.unusedSimpArgs false
set_option linter.unusedVariables false
set_option maxRecDepth 100000
set_option maxHeartbeats 1000000
namespace Go.Ev.Try
open Go Go.Ev Go.Proofs

/-! ### cut of an own row -/
/-- The parts, by their places. -/
def partsI (b n i : Nat) : List V := (List.range i).map fun j => .sl b (j * 64) (min 64 (n - j * 64)) 1
theorem partsI_succ (b n i : Nat) : partsI b n (i + 1) = partsI b n i ++ [.sl b (i * 64) (min 64 (n - i * 64)) 1] := by
  unfold partsI; rw [List.range_succ, List.map_append]; rfl
@[simp] theorem partsI_length (b n i : Nat) : (partsI b n i).length = i := by simp [partsI]
@[simp] theorem partsI_fold (b n i : Nat) : ((List.range i).map fun j => V.sl b (j * 64) (min 64 (n - j * 64)) 1) = partsI b n i := rfl
@[simp] theorem partsI_sub (hp : Nat → Nat → V) (hs : Nat → Nat → Nat → Nat → V) (hm : Nat → V) (b n i : Nat) : subL hp hs hm (partsI b n i) = (List.range i).map fun j => hs b (j * 64) (min 64 (n - j * 64)) 1 := by
  induction i with
  | zero => rfl
  | succ i ih => rw [partsI_succ, subL_app, ih, List.range_succ, List.map_append]; rfl
@[simp] theorem partsI_cold (m : Nat) (L : List Nat) (H : Heap) (b n i : Nat) : (partsI b n i).map (coldV m L H) = (List.range i).map fun j => coldV m L H (.sl b (j * 64) (min 64 (n - j * 64)) 1) := by
  unfold partsI; rw [List.map_map]; rfl
theorem partsI_refs (b n i : Nat) : refsL (partsI b n i) = List.replicate i b := by
  induction i with
  | zero => rfl
  | succ i ih => rw [partsI_succ, refsL_app, ih, List.replicate_succ']; rfl
@[simp] theorem partsI_filter (b n i m : Nat) (h : b < m) : (refsL (partsI b n i)).filter (fun id => decide (m ≤ id)) = [] := by
  rw [partsI_refs, List.filter_eq_nil_iff]
  intro x hx
  rw [List.eq_of_mem_replicate hx]; simp; exact h
theorem cut_own (n : Nat) (hn : n ≤ 65536) {k : Nat} (hk : 2000 < k) :
    evF Try.prog Γ (k + 1) 45 [.sl 0 0 n 1] [some (.cells (flatE (intE .u8) (zeros n)) true)] = some (.sl 1 0 (blocksN n) 1, [some (.cells (flatE (intE .u8) (zeros n)) true), some (.cells (partsI 0 n (blocksN n)) false)]) := by
  have hB : blocksN n ≤ 1024 := by unfold blocksN; omega
  rw [b45 (fun _ _ => rfl) _ _ (by simp)]
  simp -implicitDefEqProofs
  generalize hx : evLoopC _ _ _ _ _ _ _ _ _ _ = R
  apply loop_gen hx (fun i : Nat => (mkL 18 .junk [(0, .sl 0 (i * 64) (n - i * 64) 1), (3, ownV true 2 0 i 1)], [some (.cells (flatE (intE .u8) (zeros n)) true), none, ownB true i (partsI 0 n i)])) (fun i => i * 64 < n ∨ i = 0) (fun i => blocksN n - i) 0
  case hI => simp
  case hq => omega
  case ht => simp -implicitDefEqProofs [liveOf, coldOf]
  case round =>
    rintro i hi _
    clear hx
    have hs := partsI_succ 0 n i
    by_cases hlt : i * 64 + 64 < n
    · have hI1 : (i + 1) * 64 < n ∨ i + 1 = 0 := Or.inl (by omega)
      have hlb : i + 1 < blocksN n := by unfold blocksN; omega
      have hM1 : blocksN n - (i + 1) < blocksN n - i := by omega
      have h2 : (64 : Int) < ((n - i * 64 : Nat) : Int) := by omega
      have h3 : 64 < n - i * 64 := by omega
      have h4 : 64 ≤ n - i * 64 := by omega
      have hm : min 64 (n - i * 64) = 64 := by omega
      have e9 : n - i * 64 - 64 = n - (i + 1) * 64 := by omega
      have e8 : i * 64 + 64 = (i + 1) * 64 := by omega
      rw [hm] at hs
      cases i with
      | zero =>
        have hp0 : partsI 0 n 1 = [.sl 0 0 64 1] := by rw [hs]; rfl
        simp at h2 h3 h4 e9
        simp -implicitDefEqProofs [h2, h3, h4, e9]
        exact rnd_next (0 + 1) hI1 hM1 (by simp -implicitDefEqProofs [liveOf, coldOf, hp0])
      | succ i =>
        have hb : (i + 1 + 1) * 24 ≤ 140737488355328 := by omega
        simp -implicitDefEqProofs [h2, h3, h4, hb, e9, e8]
        exact rnd_next (i + 1 + 1) hI1 hM1 (by simp -implicitDefEqProofs [liveOf, coldOf, hs])
    · have h2 : ¬ (64 : Int) < ((n - i * 64 : Nat) : Int) := by omega
      have h3 : ¬ 64 < n - i * 64 := by omega
      have hb1 : blocksN n = i + 1 := by unfold blocksN; omega
      have hm : min 64 (n - i * 64) = n - i * 64 := by omega
      rw [hm] at hs
      rw [hb1, hs]
      cases i with
      | zero =>
        have hp0 : partsI 0 n 0 = [] := rfl
        have h5 : ¬ (64 : Int) < n := by omega
        simp at h3
        simp -implicitDefEqProofs [h5, h3, hp0]
      | succ i =>
        have hb : (i + 1 + 1) * 24 ≤ 140737488355328 := by omega
        simp -implicitDefEqProofs [h2, h3, hb]

/-! ### ExhibitFault -/
theorem zeros_drop (n i : Nat) : (zeros n).drop i = zeros (n - i) := by simp [zeros]
theorem zeros_take (n i : Nat) : (zeros n).take i = zeros (min i n) := by simp [zeros]
/-- Parts as they are read out. -/
def partsR (n m : Nat) : List V := (List.range m).map fun j => .ros (min 64 (n - j * 64)) (flatE (intE .u8) (zeros (min 64 (n - j * 64))))
@[simp] theorem partsR_fold (n m : Nat) : ((List.range m).map fun j => V.ros (min 64 (n - j * 64)) (flatE (intE .u8) (zeros (min 64 (n - j * 64))))) = partsR n m := rfl
@[simp] theorem partsR_length (n m : Nat) : (partsR n m).length = m := by unfold partsR; rw [List.length_map, List.length_range]
theorem partsR_flat (n m : Nat) : ∀ v ∈ partsR n m, v.flat = true := fun v hv => by
  obtain ⟨j, _, rfl⟩ := List.mem_map.1 hv
  rfl
@[simp] theorem partsR_cold (k : Nat) (L : List Nat) (H : Heap) (n m : Nat) : (partsR n m).map (coldV k L H) = partsR n m := flat_cold (partsR_flat n m)
theorem partsR_drop (n m i : Nat) (h : i < m) : ∃ cs r, List.drop i (partsR n m) = .ros (min 64 (n - i * 64)) cs :: r := by
  have hl : i < (partsR n m).length := by simpa using h
  refine ⟨flatE (intE .u8) (zeros (min 64 (n - i * 64))), List.drop (i + 1) (partsR n m), (List.drop_eq_getElem_cons hl).trans ?_⟩
  simp only [partsR, List.getElem_map, List.getElem_range]
theorem exFault_ok (size : Int) (ps : List Piece) (zp : Bool) (hl : ps.length ≤ 9223372036854775807) {k : Nat} (hk : 5000 < k) :
    evF Try.prog Γ (k + 1) 20 [.agg [.int .i64 size, roV zp ps.length (flatE pieceE ps)]] [] = some (.int .i64 (checkR size ps), []) := by
  obtain ⟨k, rfl⟩ : ∃ j, k = j + 1 := ⟨k - 1, by omega⟩
  rw [b20 (fun _ _ => rfl) _ _ (by simp)]
  unfold checkR
  by_cases h1 : size < 0
  · simp -implicitDefEqProofs [h1]
  · by_cases h2 : 65536 < size
    · simp -implicitDefEqProofs [h1, h2]
    · obtain ⟨n, rfl⟩ := Int.eq_ofNat_of_zero_le (by omega : 0 ≤ size)
      have cc := cut_own n (by omega) (k := k) (by omega)
      have h2' : ¬ 65536 < n := by omega
      have hB : blocksN n ≤ 1024 := by unfold blocksN; omega
      have hz := zerosV_bytes n
      have m1 : n ≤ 140737488355328 := by omega
      have m2 : (n : Int) ≤ 140737488355328 := by omega
      have m3 : (0 : Int) ≤ n := by omega
      simp only [Int.toNat_natCast]
      by_cases h3 : blocksN n = ps.length
      · have h3' : (blocksN n : Int) = ps.length := by omega
        have h3s : ps.length = blocksN n := h3.symm
        simp -implicitDefEqProofs [h1, h2, h2', cc, h3s, hz, m1, m2, m3]
        generalize hx : evLoopC _ _ _ _ _ _ _ _ _ _ = R
        apply loop_gen hx (fun i : Nat => (mkL 64 .junk [(3, .sl 0 0 (blocksN n) 1), (25, roV zp (blocksN n) (flatE pieceE ps)), (26, .int .i64 (blocksN n)), (27, .int .i64 i)], [some (.cells (partsR n (blocksN n)) false), none]))
          (fun i => i ≤ blocksN n ∧ ∀ (j : Nat) (h : j < ps.length), j < i → pieceOk n j ps[j] = true) (fun i => blocksN n - i) 0
        case hI => simp
        case hq => omega
        case ht => simp -implicitDefEqProofs [liveOf, coldOf, drop_flatE1 (intE .u8) rfl, take_flatE1 (intE .u8) rfl, zeros_drop, zeros_take]
        case round =>
          rintro i ⟨hi, hI⟩ _
          clear hx
          by_cases hlt : i < blocksN n
          · have hlt2 : (i : Int) < (blocksN n : Int) := by omega
            have hltL : i < ps.length := by omega
            have e2 : addI .i64 (i : Int) 1 = (i : Int) + 1 := addI_i64 (by omega) (by omega)
            have ms := at_pieces ps i hltL
            have h5 : 3 ≤ ps.length * 3 - i * 3 := by omega
            have h6 : 3 ≤ blocksN n * 3 - i * 3 := by omega
            obtain ⟨cs, r, hpd⟩ := partsR_drop n (blocksN n) i hlt
            have hpl : ((min 64 (n - i * 64) : Nat) : Int) = placeL n i := by unfold placeL; unfold blocksN at hlt; omega
            have hall := allOk_iff n ps
            have hnext : pieceOk n i ps[i] = true → ∀ (j : Nat) (h : j < ps.length), j < i + 1 → pieceOk n j ps[j] = true := fun hp j hj hji => by
              rcases Nat.lt_or_ge j i with h | h
              · exact hI j hj h
              · obtain rfl : j = i := by omega
                exact hp
            have hbad : pieceOk n i ps[i] = false → allOk n ps = false := fun hp => by
              rw [← Bool.not_eq_true, hall]
              intro h
              rw [h i hltL] at hp; cases hp
            generalize ps[i] = p at *
            obtain ⟨hid, z, bs, h⟩ := p
            simp only [pieceOk] at ms hnext hbad
            generalize min 64 (n - i * 64) = q at *
            cases hid with
            | true =>
              cases bs with
              | nil =>
                simp -implicitDefEqProofs [hlt, hlt2, e2, ms, h5, h6, hpd]
                exact rnd_next (i + 1) ⟨hlt, hnext rfl⟩ (by omega) (by simp -implicitDefEqProofs [liveOf, coldOf])
              | cons b bs =>
                have hb := hbad rfl
                have hp : (0 : Int) < (bs.length : Int) + 1 := by omega
                simp -implicitDefEqProofs [hlt, hlt2, e2, ms, h5, h6, hpd, hp, hb]
            | false =>
              by_cases hz : h = 0
              · subst hz
                by_cases hql : bs.length = q
                · have hql2 : (bs.length : Int) = placeL n i := by omega
                  simp -implicitDefEqProofs [hlt, hlt2, e2, ms, h5, h6, hpd, hql]
                  exact rnd_next (i + 1) ⟨hlt, hnext (by simp [hql2])⟩ (by omega) (by simp -implicitDefEqProofs [liveOf, coldOf])
                · have hql2 : ¬ (bs.length : Int) = placeL n i := by omega
                  have hql3 : ¬ (bs.length : Int) = (q : Int) := by omega
                  have hb := hbad (by simp [hql2])
                  simp -implicitDefEqProofs [hlt, hlt2, e2, ms, h5, h6, hpd, hql, hql3, hb]
              · have hb := hbad (by simp [hz])
                simp -implicitDefEqProofs [hlt, hlt2, e2, ms, h5, h6, hpd, hz, hb]
          · have hlt2 : ¬ (i : Int) < (blocksN n : Int) := by omega
            have : allOk n ps = true := (allOk_iff n ps).2 fun j hj => hI j hj (by omega)
            simp -implicitDefEqProofs [hlt, hlt2, this]
      · have h3' : ¬ (blocksN n : Int) = ps.length := by omega
        have h4 : ¬ ps.length = blocksN n := fun h => h3 h.symm
        simp -implicitDefEqProofs [h1, h2, h2', cc, h3', h4, hz, m1, m2, m3]

/-! ### SamePieces, Holds, Root that refuses -/
theorem same47 (p q : Piece) {k : Nat} : evF Try.prog Γ (k + 1) 47 [.agg [.bool p.hid, roV p.z p.bs.length (flatE (intE .u8) p.bs), .int .u64 p.hash], .agg [.bool q.hid, roV q.z q.bs.length (flatE (intE .u8) q.bs), .int .u64 q.hash]] [] = some (.bool (sameP p q), []) := by
  have h : ∀ a b : List Int, ((strOfNums a).toList == (strOfNums b).toList) = decide (strOfNums a = strOfNums b) := fun a b => by rw [Bool.eq_iff_iff]; simp
  rw [b47 (fun _ _ => rfl) _ _ (by simp)]
  unfold sameP eqBytes
  cases h1 : (p.hid == q.hid) with
  | false => simp -implicitDefEqProofs [h1]
  | true =>
    by_cases h2 : p.hash = q.hash
    · simp -implicitDefEqProofs [h1, h2, conv_ro, binStr, h]
    · simp -implicitDefEqProofs [h1, h2]
theorem samePieces_ok (a b : Int) (ps qs : List Piece) (zp zq : Bool) (hl : ps.length ≤ 1000000) {k : Nat} (hk : ps.length + 10 < k) :
    evF Try.prog Γ (k + 1) 17 [.agg [.int .i64 a, roV zp ps.length (flatE pieceE ps)], .agg [.int .i64 b, roV zq qs.length (flatE pieceE qs)]] [] = some (.bool (decide (a = b) && sameAll ps qs), []) := by
  obtain ⟨k, rfl⟩ : ∃ j, k = j + 3 := ⟨k - 3, by omega⟩
  have c := eqFunc_ok 47 rfl ps qs zp zq hl (k := k + 2) (by omega) (fun p q => same47 p q (k := k + 1))
  rw [b17 (fun _ _ => rfl) _ _ (by simp)]
  by_cases h : a = b
  · simp -implicitDefEqProofs [h, c]
  · simp -implicitDefEqProofs [h]
theorem root_bad (size : Int) (ps : List Piece) (zp : Bool) (hlb : ∀ p ∈ ps, p.bs.length ≤ 9223372036854775807) (hl : ps.length ≤ 9223372036854775807) (h : checkR size ps ≠ 0) {k : Nat} (hk : 3000 < k) :
    evF Try.prog Γ (k + 1) 18 [.agg [.int .i64 size, roV zp ps.length (flatE pieceE ps)]] [] = some (.tup [.int .u64 0, .int .i64 (checkR size ps)], []) := by
  obtain ⟨k, rfl⟩ : ∃ j, k = j + 1 := ⟨k - 1, by omega⟩
  have cc := exCheck_ok size ps zp hlb hl (k := k) (by omega)
  rw [b18 (fun _ _ => rfl) _ _ (by simp)]
  generalize checkR size ps = e at *
  simp -implicitDefEqProofs [cc, h]
theorem holds_ok (size : Int) (ps : List Piece) (zp : Bool) (r e root : Int) {k : Nat} (c : evF Try.prog Γ k 18 [.agg [.int .i64 size, roV zp ps.length (flatE pieceE ps)]] [] = some (.tup [.int .u64 r, .int .i64 e], [])) :
    evF Try.prog Γ (k + 1) 21 [.agg [.int .i64 size, roV zp ps.length (flatE pieceE ps)], .int .u64 root] [] = some (.tup [.bool (decide (e = 0) && decide (r = root)), .int .i64 e], []) := by
  rw [b21 (fun _ _ => rfl) _ _ (by simp)]
  by_cases h : e = 0
  · by_cases h2 : r = root
    · simp -implicitDefEqProofs [c, h, h2]
    · simp -implicitDefEqProofs [c, h, h2]
  · simp -implicitDefEqProofs [c, h]

/-! ### blacked -/
theorem two46 {k : Nat} : evF Try.prog Γ (k + 1) 46 [] [] = some (.sl 0 0 128 1, [some (.cells (flatE (intE .u8) twoL) true)]) := by
  rw [b46 (fun _ _ => rfl) _ _ (by simp)]
  simp -implicitDefEqProofs [twoL, zeros, List.replicate, bytesI]
theorem blacked16 {k : Nat} (hk : 300000 < k) : evF Try.prog Γ (k + 1) 16 [] [] = some (.bool true, []) := by
  obtain ⟨k, rfl⟩ : ∃ j, k = j + 1 := ⟨k - 1, by omega⟩
  have c2 := two46 (k := k)
  have hl : twoL.length = 128 := by simp [twoL]
  have cm := make_oe twoL [⟨64, 1⟩] 0 rfl (by omega) (by omega) (by simp) (fun s hs => by simp at hs; subst hs; rw [hl]; decide) (k := k) (by omega)
  have h0 : touched [⟨64, 1⟩] twoL.length 0 = false := by
    rw [← Bool.not_eq_true, touched_iff]
    rintro ⟨x, ⟨s, hs, _, h1, h2⟩, ⟨t, ht, _, h3, h4⟩⟩
    simp at hs ht
    subst hs ht
    unfold Span.e placeL at *
    simp at *
    omega
  have h1 : touched [⟨64, 1⟩] twoL.length 1 = true := by
    rw [touched_iff, hl]
    exact ⟨64, ⟨⟨64, 1⟩, by simp, by decide, by decide, by decide⟩, ⟨_, List.mem_singleton.2 rfl, by decide, by decide, by decide⟩⟩
  have hb : blocksN twoL.length = 2 := by rw [hl]; rfl
  have hP : piecesOf false twoL (touched [⟨64, 1⟩] twoL.length) = [pieceOf false twoL (touched [⟨64, 1⟩] twoL.length) 0, pieceOf false twoL (touched [⟨64, 1⟩] twoL.length) 1] := by
    unfold piecesOf; rw [hb]; rfl
  have p0 : (pieceOf false twoL (touched [⟨64, 1⟩] twoL.length) 0).hid = false := by unfold pieceOf; rw [h0]; rfl
  have p1 : (pieceOf false twoL (touched [⟨64, 1⟩] twoL.length) 1).hid = true := by unfold pieceOf; rw [h1]; rfl
  rw [hP, hb] at cm
  clear hP h0 h1
  rw [hl] at cm p0 p1
  generalize pieceOf false twoL (touched [⟨64, 1⟩] 128) 0 = q0 at *
  generalize pieceOf false twoL (touched [⟨64, 1⟩] 128) 1 = q1 at *
  clear hl hb
  generalize twoL = B at *
  rw [b16 (fun _ _ => rfl) _ _ (by simp)]
  simp [pieceE_f, p0, p1, spanE_f] at cm
  simp -implicitDefEqProofs [c2, cm]
end Go.Ev.Try
