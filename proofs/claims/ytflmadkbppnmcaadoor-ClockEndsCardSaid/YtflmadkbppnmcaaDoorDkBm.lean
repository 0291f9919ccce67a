/-
  THE CLOCK DOOR SEAT (printed by wip/tools/port.py): Holds (own work).
-/
import Derived.Test.YtflmadkbppnmcaaDoorDkBf
import Derived.Test.YtflmadkbppnmcaaDoorDkBl
set_option linter.unusedSimpArgs false
set_option linter.unusedVariables false
set_option maxRecDepth 100000
set_option maxHeartbeats 4000000
namespace Go.Ev.Tryd
open Go Go.Ev Go.Proofs

def okR (v : Int) : Bool := !(decide (v < -4294967295) || decide (4294967295 < v))
def diffE (l : List Event) (E T : List Int) (i : Nat) : Int := T.getD i 0 - E.getD (ix l (l.getD i default)) 0
def okE (l : List Event) (E T : List Int) (i : Nat) : Bool := !(decide (diffE l E T i < (l.getD i default).show' - (l.getD i default).wide') || decide ((l.getD i default).show' + (l.getD i default).wide' < diffE l E T i))
def diffT (T : List Int) (t : Tie) : Int := if t.a < 0 then T.getD t.b.toNat 0 else T.getD t.b.toNat 0 - T.getD t.a.toNat 0
def okT (T : List Int) (t : Tie) : Bool := !(decide (diffT T t < t.low) || decide (t.high < diffT T t))
def holdsB (l : List Event) (ties : List Tie) (E T : List Int) : Bool := (E ++ T).all okR && (List.range l.length).all (okE l E T) && ties.all (okT T)
/-- What Holds returns. -/
def holdsR (l : List Event) (ties : List Tie) (E T : List Int) : Bool × Int :=
  if faultC l ties = 0 then if E.length = nC l ∧ T.length = l.length then (holdsB l ties E T, 0) else (false, 3) else (false, faultC l ties)
theorem all_fail {α : Type} {f : α → Bool} {L : List α} {i : Nat} (h : i < L.length) (hf : f L[i] = false) : L.all f = false := by
  rw [← Bool.not_eq_true, List.all_eq_true]
  intro ha
  have := ha L[i] (List.getElem_mem h)
  rw [hf] at this; cases this
theorem all_done {α : Type} {f : α → Bool} {L : List α} (h : ∀ q (hq : q < L.length), f L[q] = true) : L.all f = true := by
  rw [List.all_eq_true]
  intro x hx
  obtain ⟨q, hq, rfl⟩ := List.getElem_of_mem hx
  exact h q hq
theorem drop_ints' (l : List Int) (i : Nat) (h : i < l.length) : ∃ R, List.drop i (flatE (intE .i64) l) = .int .i64 l[i] :: R := by
  have := at_flatE1 (intE .i64) rfl l i h
  cases hd : List.drop i (flatE (intE .i64) l) with
  | nil => rw [hd] at this; cases this
  | cons v R =>
    rw [hd] at this
    simp at this
    exact ⟨R, by rw [this]⟩
theorem holds_ok (l : List Event) (ties : List Tie) (E T : List Int) (z z2 ze zt : Bool) (hl : l.length ≤ 8796093022206) (ht : ties.length ≤ 8796093022206) (hE : E.length ≤ 17592186044400) (hT : T.length ≤ 17592186044400) {k : Nat} (hk : l.length + 300 < k) :
    evF Tryd.prog Γ (k + 1) 18 [roV z l.length (flatE eventE l), roV z2 ties.length (flatE tieE ties), roV ze E.length (flatE (intE .i64) E), roV zt T.length (flatE (intE .i64) T)] [] = some (.tup [.bool (holdsR l ties E T).1, .int .i64 (holdsR l ties E T).2], []) := by
  obtain ⟨k, rfl⟩ : ∃ j, k = j + 1 := ⟨k - 1, by omega⟩
  have c12 := check_ok l ties z z2 hl ht (k := k) (by omega)
  unfold holdsR
  by_cases hf : faultC l ties = 0
  · have hr := right_of hf
    have hL := hr.hl
    have hTT := hr.ht
    have hC := hr.hc
    rw [hf] at c12
    rw [if_pos hf]
    by_cases hne : l = []
    · subst hne
      have ht : ties = [] := by
        cases ties with
        | nil => rfl
        | cons t ts => have := hr.tie t (by simp); simp at this; omega
      subst ht
      by_cases hlen : E.length = nC [] ∧ T.length = ([] : List Event).length
      · rw [if_pos hlen]
        have hE0 : E = [] := List.length_eq_zero_iff.1 hlen.1
        have hT0 : T = [] := List.length_eq_zero_iff.1 (by simpa using hlen.2)
        subst hE0 hT0
        exact evF_mono (show 60 ≤ k + 1 + 1 by omega) _ _ _ _ (holds_nil z z2 ze zt)
      · rw [if_neg hlen]
        have cc := clocks_ok [] z (by simp) (k := k) (by simp; omega)
        rw [names_eq] at cc
        have h3 : insF (clks []) = [] := rfl
        rw [h3] at cc
        have h1 : nC [] = 0 := rfl
        rw [h1] at hlen
        simp at cc hlen c12
        rw [b18 (fun _ _ => rfl) _ _ (by simp)]
        by_cases h4 : E = []
        · subst h4
          have h5 : ¬ T = [] := hlen rfl
          have h6 : ¬ (T.length : Int) = 0 := by
            have := List.length_pos_iff.2 h5; omega
          simp -implicitDefEqProofs [cc, c12, h5, h6]
        · have h6 : ¬ (E.length : Int) = 0 := by
            have := List.length_pos_iff.2 h4; omega
          simp -implicitDefEqProofs [cc, c12, h4, h6]
    · have hcp := nC_pos hne
      have hlp : 0 < l.length := List.length_pos_iff.2 hne
      have cc := clocks_ok l z (by omega) (k := k) (by omega)
      rw [names_eq] at cc
      have hcl : (insF (clks l)).length = nC l := rfl
      rw [hcl] at cc
      have hCs := (insF_facts (clks l)).1
      have hix := fun e (he : e ∈ l) => ix_lt (l := l) (e := e) he
      have hat := fun e (he : e ∈ l) => ix_at (l := l) (e := e) he
      have hC2 : nC l ≤ 12 := hC
      clear hC
      rw [b18 (fun _ _ => rfl) _ _ (by simp)]
      obtain ⟨c, hc⟩ : ∃ q, nC l = q + 1 := ⟨nC l - 1, by omega⟩
      rw [hc] at cc
      simp at cc
      by_cases hlen : E.length = nC l ∧ T.length = l.length
      · rw [if_pos hlen]
        obtain ⟨hE1, hT1⟩ := hlen
        rw [hc] at hE1
        have hEi : (E.length : Int) = (c : Int) + 1 := by omega
        have hTi : (T.length : Int) = (l.length : Int) := by omega
        have q3 := concat_ints [(ze, E), (zt, T)] (by simp) (by simp [catL]; omega) (k := k) (by omega)
        have hcat : catL [(ze, E), (zt, T)] = E ++ T := by simp [catL]
        rw [hcat] at q3
        obtain ⟨n, hn⟩ : ∃ q, (E ++ T).length = q + 1 := ⟨(E ++ T).length - 1, by rw [List.length_append]; omega⟩
        rw [hn] at q3
        simp [lv] at q3
        simp -implicitDefEqProofs [cc, c12, hEi, hTi, q3]
        have hX : (E ++ T).length = (c + 1) + l.length := by rw [List.length_append]; omega
        rw [show flatE (intE .i64) E ++ flatE (intE .i64) T = flatE (intE .i64) (E ++ T) from (flatE_append _ _ _).symm]
        have hH1 : (E ++ T).all okR = false → holdsB l ties E T = false := fun h => by unfold holdsB; rw [h]; rfl
        have hgE : ∀ q, q < E.length → (E ++ T)[q]? = some (E.getD q 0) := fun q h => by
          rw [List.getElem?_append_left h, List.getD_eq_getElem?_getD, List.getElem?_eq_getElem h]; rfl
        have hgT : ∀ q, q < T.length → (E ++ T)[c + 1 + q]? = some (T.getD q 0) := fun q h => by
          rw [List.getElem?_append_right (by omega), List.getD_eq_getElem?_getD, show c + 1 + q - E.length = q by omega, List.getElem?_eq_getElem h]; rfl
        have hH2 : (E ++ T).all okR = true → holdsB l ties E T = ((List.range l.length).all (okE l E T) && ties.all (okT T)) := fun h => by unfold holdsB; rw [h, Bool.true_and]
        generalize E ++ T = X at *
        generalize hB0 : (some (Blk.cells (flatE strE (insF (clks l)) ++ flatE strE (List.replicate (l.length - (c + 1)) ByteArray.empty)) false) : Option Blk) = B0
        generalize hx : evLoopC _ _ _ _ _ _ _ _ _ _ = R
        apply loop_gen hx (fun (i : Nat) => (mkL 130 .junk [(0, roV z l.length (flatE eventE l)), (1, roV z2 ties.length (flatE tieE ties)), (2, roV ze E.length (flatE (intE .i64) E)), (3, roV zt T.length (flatE (intE .i64) T)), (11, .sl 4 0 (c + 1) 1), (45, .sl 5 0 (n + 1) 1), (46, .int .i64 ((n : Int) + 1)), (47, .int .i64 i)], [none, none, none, none, B0, some (.cells (flatE (intE .i64) X) false)]))
          (fun i => i ≤ n + 1 ∧ ∀ q (hq : q < i) (hq2 : q < X.length), okR X[q] = true) (fun i => n + 1 - i) 0
        case hI => exact ⟨Nat.zero_le _, fun q hq => by omega⟩
        case hq => omega
        case ht => simp -implicitDefEqProofs [liveOf, ← hB0]
        case round =>
          rintro i ⟨hi, hall⟩ _
          clear hx
          by_cases hil : i < n + 1
          · have hil2 : (i : Int) < (n : Int) + 1 := by omega
            have hix2 : i < X.length := by omega
            obtain ⟨R1, m1⟩ := drop_ints' X i hix2
            have e2 : addI .i64 (i : Int) 1 = (i : Int) + 1 := addI_i64 (by omega) (by omega)
            have hfail : okR X[i] = false → holdsB l ties E T = false := fun h => hH1 (all_fail hix2 h)
            have hnext : okR X[i] = true → ∀ q (hq : q < i + 1) (hq2 : q < X.length), okR X[q] = true := fun h q hq hq2 => by
              rcases Nat.lt_or_ge q i with h2 | h2
              · exact hall q h2 hq2
              · have : q = i := by omega
                subst this; exact h
            generalize hXX : X[i] = v at *
            by_cases k1 : v < -4294967295
            · have := hfail (by simp [okR, k1])
              simp -implicitDefEqProofs [hil, hil2, m1, k1, this]
            · by_cases k2 : 4294967295 < v
              · have := hfail (by simp [okR, k2])
                simp -implicitDefEqProofs [hil, hil2, m1, k1, k2, this]
              · have := hnext (by simp [okR, k1, k2])
                simp -implicitDefEqProofs [hil, hil2, m1, k1, k2, e2]
                exact rnd_next (i + 1) ⟨hil, this⟩ (by omega) (by simp -implicitDefEqProofs [liveOf, ← hB0])
          · have hok1 : X.all okR = true := all_done fun q hq => hall q (by omega) hq
            have hrng : ∀ q v, X[q]? = some v → -4294967295 ≤ v ∧ v ≤ 4294967295 := fun q v h => by
              obtain ⟨h1, h2⟩ := List.getElem?_eq_some_iff.1 h
              have := hall q (by omega) h1
              rw [h2] at this
              simp [okR] at this
              omega
            rw [hH2 hok1]
            have rE : ∀ q, q < E.length → -4294967295 ≤ E.getD q 0 ∧ E.getD q 0 ≤ 4294967295 := fun q h => hrng _ _ (hgE q h)
            have rT : ∀ q, q < T.length → -4294967295 ≤ T.getD q 0 ∧ T.getD q 0 ≤ 4294967295 := fun q h => hrng _ _ (hgT q h)
            have gE : ∀ q (h : q < E.length), E.getD q 0 = E[q] := fun q h => by rw [List.getD_eq_getElem?_getD, List.getElem?_eq_getElem h]; rfl
            have gT : ∀ q (h : q < T.length), T.getD q 0 = T[q] := fun q h => by rw [List.getD_eq_getElem?_getD, List.getElem?_eq_getElem h]; rfl
            clear hH1 hH2 hall hgE hgT hrng hok1
            obtain rfl : i = n + 1 := by omega
            have hil2 : ¬ ((n : Int) + 1 < (n : Int) + 1) := by omega
            simp -implicitDefEqProofs [hil2]
            generalize hx : evLoopC _ _ _ _ _ _ _ _ _ _ = R
            apply loop_gen hx (fun (i : Nat) => (mkL 130 .junk [(1, roV z2 ties.length (flatE tieE ties)), (2, roV ze E.length (flatE (intE .i64) E)), (3, roV zt T.length (flatE (intE .i64) T)), (11, .sl 3 0 (c + 1) 1), (58, roV z l.length (flatE eventE l)), (59, .int .i64 l.length), (60, .int .i64 i)], [none, none, none, B0, none]))
              (fun i => i ≤ l.length ∧ ∀ q (hq : q < i), okE l E T q = true) (fun i => l.length - i) 0
            case hI => exact ⟨Nat.zero_le _, fun q hq => by omega⟩
            case hq => omega
            case ht => simp -implicitDefEqProofs [liveOf, ← hB0]
            case round =>
              rintro i ⟨hi, hall⟩ _
              clear hx
              by_cases hil : i < l.length
              · have hil2 : (i : Int) < l.length := by omega
                have ms := at_events l i hil
                have h3 : 3 ≤ l.length * 3 - i * 3 := by omega
                have hm1 := hix l[i] (List.getElem_mem hil)
                have hm2 := hat l[i] (List.getElem_mem hil)
                have hm4 := hr.ev l[i] (List.getElem_mem hil)
                have bs := bsearch_ok (insF (clks l)) hCs (ix l l[i]) hm1 (by omega) (k := k) (by omega)
                rw [hm2, hcl, hc] at bs
                have hld : l.getD i default = l[i] := by rw [List.getD_eq_getElem?_getD, List.getElem?_eq_getElem hil]; rfl
                have hok : okE l E T i = !(decide (T.getD i 0 - E.getD (ix l l[i]) 0 < l[i].show' - l[i].wide') || decide (l[i].show' + l[i].wide' < T.getD i 0 - E.getD (ix l l[i]) 0)) := by
                  unfold okE diffE; rw [hld]
                have hfail : okE l E T i = false → (List.range l.length).all (okE l E T) = false := fun h => all_fail (i := i) (by simpa using hil) (by simpa using h)
                have hiE : ix l l[i] < E.length := by omega
                have hiT : i < T.length := by omega
                obtain ⟨R1, m1⟩ := drop_ints' E (ix l l[i]) hiE
                obtain ⟨R2, m2⟩ := drop_ints' T i hiT
                have r1 := rE _ hiE
                have r2 := rT _ hiT
                rw [gE _ hiE] at hok r1
                rw [gT _ hiT] at hok r2
                have hta : List.take 1 (List.drop (ix l l[i]) (flatE (intE .i64) E)) = [.int .i64 E[ix l l[i]]] := by rw [m1]; rfl
                have htb : List.take 1 (List.drop i (flatE (intE .i64) T)) = [.int .i64 T[i]] := by rw [m2]; rfl
                clear hm2
                generalize E[ix l l[i]] = ev at *
                generalize T[i] = tv at *
                generalize l[i] = x at *
                generalize ix l x = ip at *
                have hip2 : (ip : Int) < E.length := by omega
                have hiT2 : (i : Int) < T.length := by omega
                have hl1 : 1 ≤ E.length - ip := by omega
                have hl2 : 1 ≤ T.length - i := by omega
                have e2 : addI .i64 (i : Int) 1 = (i : Int) + 1 := addI_i64 (by omega) (by omega)
                have e3 : subI .i64 tv ev = tv - ev := by rw [subI_eq]; exact wrap_i64 (by omega) (by omega)
                have e5 : addI .i64 x.show' x.wide' = x.show' + x.wide' := addI_i64 (by omega) (by omega)
                have e6 : subI .i64 x.show' x.wide' = x.show' - x.wide' := by rw [subI_eq]; exact wrap_i64 (by omega) (by omega)
                have hcells : (flatE strE (insF (clks l)) ++ flatE strE (List.replicate (l.length - (c + 1)) ByteArray.empty)).take (c + 1) = flatE strE (insF (clks l)) := by
                  rw [List.take_append_of_le_length (by simp; omega), List.take_of_length_le (by simp; omega)]
                rw [← hB0]
                by_cases k1 : tv - ev < x.show' - x.wide'
                · have := hfail (by rw [hok]; simp [k1])
                  simp -implicitDefEqProofs [hil, hil2, ms, h3, bs, hta, htb, hip2, hiT2, hl1, hl2, hiE, hiT, e2, e3, e5, e6, hcells, k1, this]
                · by_cases k2 : x.show' + x.wide' < tv - ev
                  · have := hfail (by rw [hok]; simp [k2])
                    simp -implicitDefEqProofs [hil, hil2, ms, h3, bs, hta, htb, hip2, hiT2, hl1, hl2, hiE, hiT, e2, e3, e5, e6, hcells, k1, k2, this]
                  · have hnext : ∀ q (hq : q < i + 1), okE l E T q = true := fun q hq => by
                      rcases Nat.lt_or_ge q i with h2 | h2
                      · exact hall q h2
                      · have : q = i := by omega
                        subst this; rw [hok]; simp [k1, k2]
                    simp -implicitDefEqProofs [hil, hil2, ms, h3, bs, hta, htb, hip2, hiT2, hl1, hl2, hiE, hiT, e2, e3, e5, e6, hcells, k1, k2]
                    exact rnd_next (i + 1) ⟨hil, hnext⟩ (by omega) (by simp -implicitDefEqProofs [liveOf])
              · obtain rfl : i = l.length := by omega
                have hok2 : (List.range l.length).all (okE l E T) = true := all_done fun q hq => by
                  have := hall q (by simpa using hq)
                  simpa using this
                rw [hok2, Bool.true_and]
                generalize hA : ties.all (okT T) = A
                have hil2 : ¬ (l.length : Int) < (l.length : Int) := by omega
                simp -implicitDefEqProofs [hil2]
                generalize hx : evLoopC _ _ _ _ _ _ _ _ _ _ = R
                apply loop_gen hx (fun (j : Nat) => (mkL 130 .junk [(3, roV zt T.length (flatE (intE .i64) T)), (98, roV z2 ties.length (flatE tieE ties)), (99, .int .i64 ties.length), (100, .int .i64 j)], [none, none]))
                  (fun j => j ≤ ties.length ∧ ∀ q (hq : q < j) (hq2 : q < ties.length), okT T ties[q] = true) (fun j => ties.length - j) 0
                case hI => exact ⟨Nat.zero_le _, fun q hq => by omega⟩
                case hq => omega
                case ht => simp -implicitDefEqProofs [liveOf, ← hB0]
                case round =>
                  rintro j ⟨hj, hall⟩ _
                  clear hx
                  by_cases hjl : j < ties.length
                  · have hjl2 : (j : Int) < ties.length := by omega
                    have ms := at_ties ties j hjl
                    have h3 : 4 ≤ ties.length * 4 - j * 4 := by omega
                    have hm4 := hr.tie ties[j] (List.getElem_mem hjl)
                    have hfail : okT T ties[j] = false → A = false := fun h => by rw [← hA]; exact all_fail hjl h
                    have hnext : okT T ties[j] = true → ∀ q (hq : q < j + 1) (hq2 : q < ties.length), okT T ties[q] = true := fun h q hq hq2 => by
                      rcases Nat.lt_or_ge q j with h2 | h2
                      · exact hall q h2 hq2
                      · have : q = j := by omega
                        subst this; exact h
                    generalize ties[j] = t at *
                    have hbT : t.b.toNat < T.length := by omega
                    obtain ⟨R2, m2⟩ := drop_ints' T t.b.toNat hbT
                    have r2 := rT _ hbT
                    have htb : List.take 1 (List.drop t.b.toNat (flatE (intE .i64) T)) = [.int .i64 T[t.b.toNat]] := by rw [m2]; rfl
                    have g2 := gT _ hbT
                    rw [g2] at r2
                    have hb1 : 0 ≤ t.b := by omega
                    have hb2 : t.b < T.length := by omega
                    have hl2 : 1 ≤ T.length - t.b.toNat := by omega
                    have e2 : addI .i64 (j : Int) 1 = (j : Int) + 1 := addI_i64 (by omega) (by omega)
                    unfold okT diffT at hfail hnext
                    rw [g2] at hfail hnext
                    generalize T[t.b.toNat] = bv at *
                    by_cases ha : t.a < 0
                    · rw [if_pos ha] at hfail hnext
                      have ha0 : ¬ 0 ≤ t.a := by omega
                      by_cases k1 : bv < t.low
                      · have := hfail (by simp [k1])
                        simp -implicitDefEqProofs [hjl, hjl2, ms, h3, htb, hb1, hb2, hl2, hbT, ha0, e2, k1, this]
                      · by_cases k2 : t.high < bv
                        · have := hfail (by simp [k2])
                          simp -implicitDefEqProofs [hjl, hjl2, ms, h3, htb, hb1, hb2, hl2, hbT, ha0, e2, k1, k2, this]
                        · have := hnext (by simp [k1, k2])
                          simp -implicitDefEqProofs [hjl, hjl2, ms, h3, htb, hb1, hb2, hl2, hbT, ha0, e2, k1, k2]
                          exact rnd_next (j + 1) ⟨hjl, this⟩ (by omega) (by simp -implicitDefEqProofs [liveOf])
                    · rw [if_neg ha] at hfail hnext
                      have ha0 : 0 ≤ t.a := by omega
                      have haT : t.a.toNat < T.length := by omega
                      obtain ⟨R3, m3⟩ := drop_ints' T t.a.toNat haT
                      have r3 := rT _ haT
                      have htc : List.take 1 (List.drop t.a.toNat (flatE (intE .i64) T)) = [.int .i64 T[t.a.toNat]] := by rw [m3]; rfl
                      have g3 := gT _ haT
                      rw [g3] at r3 hfail hnext
                      have ha2 : t.a < T.length := by omega
                      have hl3 : 1 ≤ T.length - t.a.toNat := by omega
                      generalize T[t.a.toNat] = av at *
                      have e3 : subI .i64 bv av = bv - av := by rw [subI_eq]; exact wrap_i64 (by omega) (by omega)
                      by_cases k1 : bv - av < t.low
                      · have := hfail (by simp [k1])
                        simp -implicitDefEqProofs [hjl, hjl2, ms, h3, htb, htc, hb1, hb2, ha2, hl2, hl3, hbT, haT, ha0, e2, e3, k1, this]
                      · by_cases k2 : t.high < bv - av
                        · have := hfail (by simp [k2])
                          simp -implicitDefEqProofs [hjl, hjl2, ms, h3, htb, htc, hb1, hb2, ha2, hl2, hl3, hbT, haT, ha0, e2, e3, k1, k2, this]
                        · have := hnext (by simp [k1, k2])
                          simp -implicitDefEqProofs [hjl, hjl2, ms, h3, htb, htc, hb1, hb2, ha2, hl2, hl3, hbT, haT, ha0, e2, e3, k1, k2]
                          exact rnd_next (j + 1) ⟨hjl, this⟩ (by omega) (by simp -implicitDefEqProofs [liveOf])
                  · have hok3 : A = true := by rw [← hA]; exact all_done fun q hq => hall q (by omega) hq
                    obtain rfl : j = ties.length := by omega
                    have hjl2 : ¬ (ties.length : Int) < (ties.length : Int) := by omega
                    simp -implicitDefEqProofs [hjl2, hok3]
      · rw [if_neg hlen]
        by_cases h4 : E.length = nC l
        · have h5 : ¬ (T.length : Int) = l.length := by omega
          have h6 : (E.length : Int) = (c : Int) + 1 := by omega
          simp -implicitDefEqProofs [cc, c12, h5, h6]
        · have h6 : ¬ (E.length : Int) = (c : Int) + 1 := by omega
          simp -implicitDefEqProofs [cc, c12, h6]
  · rw [if_neg hf]
    rw [b18 (fun _ _ => rfl) _ _ (by simp)]
    simp -implicitDefEqProofs [c12, hf]
end Go.Ev.Tryd
