/-
  THE SEAL SEAT: sealed; SealChain (own work).
-/
import Derived.Test.YtcpojjjdglhhcaaDoorSealL
set_option linter.unusedSimpArgs false
set_option linter.unusedVariables false
set_option maxRecDepth 100000
set_option maxHeartbeats 4000000
namespace Go.Ev.Tryd
open Go Go.Ev Go.Proofs

theorem kim_mem : (⟨#[107, 105, 109]⟩ : ByteArray) ∈ names3 := by simp [names3]

theorem sealed_ok {k : Nat} (hk : 900 ≤ k) : evF Tryd.prog Γ (k + 1) 10 [] [] = some (.bool true, []) := by
  obtain ⟨k, rfl⟩ : ∃ j, k = j + 1 := ⟨k - 1, by omega⟩
  obtain ⟨f1, f2, f3⟩ := good_first _ kim_mem 3 (by omega) (by omega)
  have a3 := append_ok [] _ (fun x h => by simp at h) f1 (by simp [check, checkGo]) (by simp) (k := k) (by omega)
  rw [if_pos (show (step (check []).1 ([] : List Entry).isEmpty _).2 = 0 from f2)] at a3
  simp only [entryE_f, List.length_nil, roV_nil, List.nil_append] at a3
  have c := check_ok _ false f3.1.1 (k := k) (by omega)
  have hlen := f3.1.len
  have h0 := f3.1.2.1
  have hh := f3.2.1
  have e0 : lastSum [] = 0 := rfl
  rw [e0] at a3
  generalize sumS 0 ⟨0, ⟨#[107, 105, 109]⟩, ByteArray.empty, 3, 7, 0⟩ = y at *
  generalize check [⟨0, ⟨#[107, 105, 109]⟩, ByteArray.empty, 3, 7, y⟩] = T at *
  obtain ⟨st, n, e⟩ := T
  simp only [List.length_singleton] at h0 hlen hh
  subst h0 hlen
  simp [holders, held] at hh
  simp only [roV_false, stateE_f, List.length_singleton, ← hh] at c
  simp only [flatE_cons, flatE_nil, entryE_f, List.append_nil] at c
  rw [b10 (fun _ _ => rfl) _ _ (by simp)]
  simp -implicitDefEqProofs [a3, c, entryE_f, stateE_f]

theorem set_sum (l : List Entry) (k : Nat) (h : k < l.length) (y : Int) :
    List.take (k * 6 + 5) (flatE entryE l) ++ V.int .u64 y :: List.drop (k * 6 + 5 + 1) (flatE entryE l) = flatE entryE (l.set k { l[k] with sum := y }) := by
  have e := set_flatE (n := 6) entryE rfl l k { l[k] with sum := y } h
  have e1 : List.take (k * 6 + 5) (flatE entryE l) = List.take (k * 6) (flatE entryE l) ++ List.take 5 (entryE.f l[k]) := by
    rw [← at_flatE (n := 6) entryE rfl l k h, List.take_take, show min 5 6 = 5 from rfl, List.take_add]
  rw [← e, e1]
  simp [entryE_f]

theorem drop_sum (l : List Entry) (k : Nat) (h : k < l.length) : List.drop (k * 6 + 5) (flatE entryE l) = V.int .u64 l[k].sum :: List.drop (k * 6 + 5 + 1) (flatE entryE l) := by
  have e : ∀ m, List.drop (k * 6 + m) (flatE entryE l) = List.drop m (entryE.f l[k] ++ flatE entryE (l.drop (k + 1))) := fun m => by
    rw [← List.drop_drop, drop_flatE' (n := 6) entryE rfl, List.drop_eq_getElem_cons h, flatE_cons]
  rw [e 5, Nat.add_assoc, e 6, entryE_f]
  rfl

theorem xor_ne (s : Int) (hs : u64 s) (b : Int) (h0 : 0 ≤ b) (h1 : b < 64) : xorI .u64 s (shlI .u64 1 b) ≠ s ∧ u64 (xorI .u64 s (shlI .u64 1 b)) := by
  refine ⟨?_, xorI_u64 _ _⟩
  obtain ⟨n, rfl⟩ : ∃ n : Nat, b = n := ⟨b.toNat, by omega⟩
  obtain ⟨m, rfl⟩ : ∃ m : Nat, s = m := ⟨s.toNat, by have := hs.1; omega⟩
  have hm : m < 2 ^ 64 := by have := hs.2; omega
  have hn : n < 64 := by omega
  have hmin : min (n : Int).toNat IntKind.u64.bits = n := by simp [IntKind.bits]; omega
  rw [shlI_eq, hmin, Int.one_mul, xorI_eq]
  have hp : (2 : Nat) ^ n < 2 ^ 64 := Nat.pow_lt_pow_right (by omega) hn
  have e2 : ((2 : Int) ^ n) = ((2 ^ n : Nat) : Int) := (Int.natCast_pow 2 n).symm
  have hp0 : 0 < 2 ^ n := Nat.pow_pos (by omega)
  rw [e2]
  generalize 2 ^ n = p at *
  have hw : IntKind.u64.wrap (p : Int) = p := by
    rw [IntKind.wrap_u64]
    omega
  rw [hw]
  intro h
  have hx : (BitVec.ofInt IntKind.u64.bits (m : Int)).toNat = m := by
    rw [BitVec.toNat_ofInt]
    show ((m : Int) % (2 ^ 64 : Nat)).toNat = m
    omega
  have hy : (BitVec.ofInt IntKind.u64.bits (p : Int)).toNat = p := by
    rw [BitVec.toNat_ofInt]
    show ((p : Int) % (2 ^ 64 : Nat)).toNat = p
    omega
  rw [BitVec.toNat_xor, hx, hy] at h
  have hlt : m ^^^ p < 2 ^ 64 := Nat.xor_lt_two_pow hm hp
  have hwm : IntKind.u64.wrap ((m ^^^ p : Nat) : Int) = ((m ^^^ p : Nat) : Int) := by
    rw [IntKind.wrap_u64]
    omega
  rw [hwm] at h
  have h2 : m ^^^ p = m := by omega
  have h3 : m ^^^ (m ^^^ p) = m ^^^ m := by rw [h2]
  rw [← Nat.xor_assoc, Nat.xor_self, Nat.zero_xor] at h3
  omega

theorem law_ok (l : List Int) (z : Bool) (at' bY : Int) {k : Nat} (hk : 1000 ≤ k) :
    evF Tryd.prog Γ (k + 1) 3 [roV z l.length (flatE (intE .i64) l), .int .i64 at', .int .i64 bY] [] = some (.bool true, []) := by
  obtain ⟨k, rfl⟩ : ∃ j, k = j + 1 := ⟨k - 1, by omega⟩
  obtain ⟨out, hG, h9, _, c7⟩ := chain_ok l z (k := k) (by omega)
  have hp := hG.2.2
  have c8 := check_ok out false hG.1.1 (k := k) (by omega)
  have c9 := holders_ok out false hG.1.1 hG.1.2.1 (by omega) (k := k) (by omega)
  have c10 := sealed_ok (k := k) (by omega)
  have hlen := hG.1.len
  have h0 := hG.1.2.1
  have hh := hG.2.1
  have c11 := below_ok at' out.length (by omega) (by omega) (k := k)
  have c12 := below_ok bY 64 (by omega) (by omega) (k := k)
  have hr0 := Int.emod_nonneg at' (b := out.length) (by omega)
  have hr1 := Int.emod_lt_of_pos at' (b := out.length) (by omega)
  have hs0 := Int.emod_nonneg bY (b := 64) (by omega)
  have hs1 := Int.emod_lt_of_pos bY (b := 64) (by omega)
  generalize bY % 64 = b at *
  generalize hj : at' % out.length = j' at *
  obtain ⟨j, rfl⟩ : ∃ j : Nat, j' = j := ⟨j'.toNat, by omega⟩
  have hjl : j < out.length := by omega
  have hR := hG.1.take j (by omega)
  have c13 := check_ok (out.take j) false hR.1 (k := k) (by omega)
  have hlen2 := hR.len
  have h02 := hR.2.1
  obtain ⟨x1, x2⟩ := xor_ne out[j].sum (hG.1.1 _ (List.getElem_mem hjl)).2 b hs0 hs1
  obtain ⟨y1, y2⟩ := hG.1.bad j hjl _ x1 x2
  have c14 := check_ok _ false y1 (k := k) (by omega)
  rw [y2] at c14
  have c15 := clone_ok out (by omega) (k := k)
  have hset := set_sum out j hjl (xorI .u64 out[j].sum (shlI .u64 1 b))
  have htk : List.take (j * 6) (flatE entryE out) = flatE entryE (out.take j) := take_flatE' entryE rfl out j
  have htl : (out.take j).length = j := by rw [List.length_take]; omega
  rw [htl] at c13 hlen2
  generalize check out = T at *
  obtain ⟨st, n, e⟩ := T
  generalize check (out.take j) = T2 at *
  obtain ⟨st2, n2, e2⟩ := T2
  simp only at h0 hlen hh h02 hlen2
  subst h0 hlen h02 hlen2
  simp only [roV_false, stateE_f, List.length_set, state0] at c8 c9 c13 c14
  have hAl := holders_length out
  have hA : 0 < (holders out).length := by
    cases hq : holders out with
    | nil => rw [hq] at hh; simp at hh
    | cons => simp
  obtain ⟨a, ha⟩ : ∃ a, (holders out).length = a + 1 := ⟨(holders out).length - 1, by omega⟩
  have hal : a < (holders out).length := by omega
  have hst : (holders out)[a] = st.holder := by
    rw [List.getLast?_eq_getElem?, ha, Nat.add_sub_cancel, List.getElem?_eq_getElem hal] at hh
    exact Option.some.inj hh
  generalize holders out = A at *
  obtain ⟨w, hw⟩ : ∃ w, out.length = w + 1 := ⟨out.length - 1, by omega⟩
  rw [ha] at c9
  rw [hw] at c7 c8 c9 c11 c14 c15
  simp only [roV_succ, ownV_succ, ownB_succ] at c9 c15
  rw [show ((w + 1 : Nat) : Int) = (w : Int) + 1 by omega] at c11
  rw [b3 (fun _ _ => rfl) _ _ (by simp)]
  have hta : List.take ((w + 1) * 6) (flatE entryE out) = flatE entryE out := by rw [← hw]; exact take_all_flatE entryE rfl out
  have htb : List.take (a + 1) (flatE strE A) = flatE strE A := by rw [← ha]; exact take_all_flatE1 strE rfl A
  have hda : List.drop a (flatE strE A) = .str st.holder :: List.drop (a + 1) (flatE strE A) := by
    rw [drop_flatE1 strE rfl, drop_flatE1 strE rfl, List.drop_eq_getElem_cons hal, ← hst]
    rfl
  have hds := drop_sum out n2 hjl
  have q8 : ¬ b < 0 := by omega
  have q9 : n2 * 6 + 5 + 1 ≤ (w + 1) * 6 := by omega
  have hts : ∀ x, List.take ((w + 1) * 6) (flatE entryE (out.set n2 x)) = flatE entryE (out.set n2 x) := fun x => by
    rw [List.take_of_length_le]
    simp [hw]
  have q1 : subI .i64 ((a : Int) + 1) 1 = (a : Int) := by rw [subI_i64 (by omega) (by omega)]; omega
  have q2 : ¬ ((a : Int) + 1 = 0) := by omega
  have q3 : ¬ ((w : Int) + 1 = 0) := by omega
  have q4 : (a : Int) < (a : Int) + 1 := by omega
  have q5 : (n2 : Int) < (w : Int) + 1 := by omega
  have q6 : n2 ≤ w + 1 := by omega
  have q7 : n2 < w + 1 := by omega
  simp -implicitDefEqProofs (maxSteps := 2000000) [c7, c8, c9, c10, c11, c12, c13, c14, c15, hw, ha, hta, htb, htk, hda, q1, q2, q3, q4, q5, q6, q7, hset, hds, q8, q9, hts]
end Go.Ev.Tryd
