/-
  THE CLOCK SEAT: the reference's Bounds (own work).
-/
import Derived.Test.YtflmadkbppnmcaaCkBa
set_option linter.unusedSimpArgs false
set_option linter.unusedVariables false
set_option maxRecDepth 100000
set_option maxHeartbeats 4000000
namespace Go.Ev.Try
open Go Go.Ev Go.Proofs

@[simp] theorem bd0_zero : bd0 0 = [] := rfl
@[simp] theorem bdE_zero (l : List Event) : bdE l 0 = [] := rfl
@[simp] theorem bdT_nil (c : Nat) : bdT c [] = [] := rfl
theorem bd0_length (k : Nat) : (bd0 k).length = 2 * k := by
  induction k with
  | zero => rfl
  | succ k ih => rw [bd0_succ, List.length_append, ih]; simp [pair]; omega
theorem bdE_length (l : List Event) : ∀ k, k ≤ l.length → (bdE l k).length = 2 * k
  | 0, _ => rfl
  | k + 1, h => by rw [bdE_succ l k h, List.length_append, bdE_length l k (by omega)]; simp [pair]; omega
theorem bdT_length (c : Nat) (ts : List Tie) : (bdT c ts).length = 2 * ts.length := by
  induction ts with
  | nil => rfl
  | cons t ts ih =>
    have : bdT c (t :: ts) = tieB c t ++ bdT c ts := rfl
    rw [this, List.length_append, ih]; simp [tieB, pair]; omega
theorem bounds_ne (l : List Event) (ties : List Tie) (z z2 : Bool) (hr : Right l ties) (hne : l ≠ []) {k : Nat} (hk : 200 < k) :
    evF Try.prog Γ (k + 1) 25 [roV z l.length (flatE eventE l), roV z2 ties.length (flatE tieE ties)] [] = some (.tup [.sl 0 0 (bds l ties).length 3, .int .i64 (nV l)], [some (.cells (flatE bE (bds l ties)) false)]) := by
  obtain ⟨k, rfl⟩ : ∃ j, k = j + 1 := ⟨k - 1, by omega⟩
  have hL := hr.hl
  have hT := hr.ht
  have hC := hr.hc
  have cc := clocksOf_ok l z (by omega) (k := k) (by omega)
  have hcp : 0 < nC l := nC_pos hne
  have hn53 := nV_le hr
  have hCs := (insF_facts (clks l)).1
  have hnV : nV l = 1 + nC l + l.length := rfl
  have hix := fun e (he : e ∈ l) => ix_lt (l := l) (e := e) he
  have hat := fun e (he : e ∈ l) => ix_at (l := l) (e := e) he
  rw [b25 (fun _ _ => rfl) _ _ (by simp)]
  unfold nC at hcp
  generalize hcl : (insF (clks l)).length = c at *
  obtain ⟨c, rfl⟩ : ∃ q, c = q + 1 := ⟨c - 1, by omega⟩
  simp at cc
  have hnc : nC l = c + 1 := hcl
  generalize hn : nV l = n at *
  have hn' : n = 1 + (c + 1) + l.length := by omega
  have e1 : addI .i64 1 ((c : Int) + 1) = 1 + ((c : Int) + 1) := addI_i64 (by omega) (by omega)
  have e2 : addI .i64 (1 + ((c : Int) + 1)) (l.length : Int) = (n : Int) := by rw [addI_i64 (by omega) (by omega)]; omega
  have hcells : (flatE strE (insF (clks l))).take (c + 1) = flatE strE (insF (clks l)) := by rw [List.take_of_length_le (by simp [hcl])]
  simp -implicitDefEqProofs [cc, e1, e2]
  generalize hx : evLoopC _ _ _ _ _ _ _ _ _ _ = R
  apply loop_gen hx (fun q : Nat => (mkL 85 .junk [(0, roV z l.length (flatE eventE l)), (1, roV z2 ties.length (flatE tieE ties)), (6, .ptr 2 0), (7, .ptr 3 0), (8, .fn (.func 42) [] [.ptr 3 0]), (9, .int .i64 n), (10, .int .i64 ((q : Int) + 1))],
      [none, none, some (.cells [.sl 5 0 (c + 1) 1] true), some (.cells [ownV true 6 0 (2 * q) 3] true), none, some (.cells (flatE strE (insF (clks l))) false), ownB true (2 * q) (flatE bE (bd0 q))]))
    (fun q => q + 1 ≤ n) (fun q => n - q) 0
  case hI => show 0 + 1 ≤ n; omega
  case hq => omega
  case ht => simp -implicitDefEqProofs [liveOf]
  case round =>
    rintro q hq _
    clear hx
    have hq : q + 1 ≤ n := hq
    by_cases hlt : q + 1 < n
    · have hlt2 : (q : Int) + 1 < n := by omega
      have hs := bd0_succ q
      have hlen := bd0_length q
      have e3 : addI .i64 ((q : Int) + 1) 1 = (q : Int) + 1 + 1 := addI_i64 (by omega) (by omega)
      cases q with
      | zero =>
        have ca := add_nil 0 1 (-4294967295) 4294967295 (by omega) (k := k)
        simp at ca e3 hlt2
        simp -implicitDefEqProofs [hlt2, ca, e3]
        exact rnd_next 1 (by show 1 + 1 ≤ n; omega) (by omega) (by simp -implicitDefEqProofs [liveOf, hs])
      | succ q =>
        have ca := add_ok (bd0 (q + 1)) (2 * q + 1) (by omega) (by omega) 0 (q + 1 + 1) (-4294967295) 4294967295 (by omega) (k := k)
        have hm : 2 * (q + 1) = 2 * q + 1 + 1 := by omega
        have hm2 : 2 * (q + 1 + 1) = 2 * q + 1 + 3 := by omega
        simp at ca e3 hlt2
        simp -implicitDefEqProofs [hlt2, ca, e3, hm]
        exact rnd_next (q + 1 + 1) (by show q + 1 + 1 + 1 ≤ n; omega) (by omega) (by simp -implicitDefEqProofs [liveOf, hs, hm2])
    · have hqi : q = nC l + l.length := by omega
      have hlt2 : ¬ ((q : Int) + 1 < n) := by omega
      have hm : 2 * q = 2 * c + 1 + 2 * l.length + 1 := by omega
      simp -implicitDefEqProofs [hlt2, hm]
      generalize hw : 2 * c + 1 + 2 * l.length = w at *
      generalize hx : evLoopC _ _ _ _ _ _ _ _ _ _ = R
      apply loop_gen hx (fun e : Nat => (mkL 85 .junk [(1, roV z2 ties.length (flatE tieE ties)), (6, .ptr 1 0), (7, .ptr 2 0), (8, .fn (.func 42) [] [.ptr 2 0]), (9, .int .i64 n), (11, .fn (.func 43) [] [.ptr 1 0]), (34, roV z l.length (flatE eventE l)), (35, .int .i64 l.length), (36, .int .i64 e)],
          [none, some (.cells [.sl 6 0 (c + 1) 1] true), some (.cells [.sl 7 0 (w + 2 * e + 1) 3] true), none, none, none, some (.cells (flatE strE (insF (clks l))) false), some (.cells (flatE bE (bd0 q ++ bdE l e)) false)]))
        (fun e => e ≤ l.length) (fun e => l.length - e) 0
      case hI => exact Nat.zero_le _
      case hq => omega
      case ht => simp -implicitDefEqProofs [liveOf]
      case round =>
        rintro e he _
        clear hx
        have he : e ≤ l.length := he
        by_cases hel : e < l.length
        · have hel2 : (e : Int) < l.length := by omega
          have ms := at_events l e hel
          have h3 : 3 ≤ l.length * 3 - e * 3 := by omega
          have hs := bdE_succ l e hel
          have h1 := hix l[e] (List.getElem_mem hel)
          have h2 := hat l[e] (List.getElem_mem hel)
          have h4 := hr.ev l[e] (List.getElem_mem hel)
          have hLl : (bd0 q ++ bdE l e).length = w + 2 * e + 1 := by rw [List.length_append, bd0_length, bdE_length l e he]; omega
          have cx := index_ok (insF (clks l)) (ix l l[e]) h1 (by omega) (fun t ht => by rw [h2]; exact ix_not (by omega) ht) (k := k) (by omega)
          rw [h2, hcl] at cx
          have ca := add_ok (bd0 q ++ bdE l e) (w + 2 * e) hLl (by omega) (1 + ix l l[e]) (1 + nC l + e) (l[e].show' - l[e].wide') (l[e].show' + l[e].wide') (by omega) (k := k)
          rw [List.append_assoc, ← hs] at ca
          have k1 : ((1 + ix l l[e] : Nat) : Int) = 1 + (ix l l[e] : Int) := by omega
          have k2 : ((1 + nC l + e : Nat) : Int) = 1 + ((c : Int) + 1) + e := by omega
          rw [k1, k2] at ca
          have cy : evF Try.prog Γ (k + 1) 43 [.int .i64 (e : Int), .ro [.ros (c + 1) (flatE strE (insF (clks l)))]] [] = some (.int .i64 (1 + ((c : Int) + 1) + e), []) := by
            rw [at_ok2 (c + 1) _ (e : Int) (by omega) (by omega)]
            simp only [atV]
            rw [if_neg (by omega)]
            congr 3
          clear hs h2
          generalize l[e] = x at *
          generalize ix l x = ip at *
          have e4 : addI .i64 1 (ip : Int) = 1 + (ip : Int) := addI_i64 (by omega) (by omega)
          have e5 : addI .i64 x.show' x.wide' = x.show' + x.wide' := addI_i64 (by omega) (by omega)
          have e6 : subI .i64 x.show' x.wide' = x.show' - x.wide' := by rw [subI_eq]; exact wrap_i64 (by omega) (by omega)
          have e3 : addI .i64 (e : Int) 1 = (e : Int) + 1 := addI_i64 (by omega) (by omega)
          have hm2 : w + 2 * (e + 1) = w + 2 * e + 2 := by omega
          simp at ca
          simp -implicitDefEqProofs [hel, hel2, ms, h3, hcells, cx, ca, cy, e3, e4, e5, e6]
          exact rnd_next (e + 1) hel (by omega) (by simp -implicitDefEqProofs [liveOf, hm2])
        · obtain rfl : e = l.length := by omega
          have hel2 : ¬ (l.length : Int) < (l.length : Int) := by omega
          simp -implicitDefEqProofs [hel2]
          generalize hv : w + 2 * l.length = v at *
          generalize hx : evLoopC _ _ _ _ _ _ _ _ _ _ = R
          apply loop_gen hx (fun e : Nat => (mkL 85 .junk [(7, .ptr 0 0), (8, .fn (.func 42) [] [.ptr 0 0]), (9, .int .i64 n), (11, .fn (.func 43) [] [.ptr 2 0]), (62, roV z2 ties.length (flatE tieE ties)), (63, .int .i64 ties.length), (64, .int .i64 e)],
              [some (.cells [.sl 4 0 (v + 2 * e + 1) 3] true), none, some (.cells [.sl 5 0 (c + 1) 1] true), none, some (.cells (flatE bE (bd0 q ++ (bdE l l.length ++ bdT (nC l) (ties.take e)))) false), some (.cells (flatE strE (insF (clks l))) false)]))
            (fun e => e ≤ ties.length) (fun e => ties.length - e) 0
          case hI => exact Nat.zero_le _
          case hq => omega
          case ht => simp -implicitDefEqProofs [liveOf]
          case round =>
            rintro e he _
            clear hx
            have he : e ≤ ties.length := he
            by_cases hel : e < ties.length
            · have hel2 : (e : Int) < ties.length := by omega
              have ms := at_ties ties e hel
              have h3 : 4 ≤ ties.length * 4 - e * 4 := by omega
              have hs : bdT (nC l) (ties.take (e + 1)) = bdT (nC l) (ties.take e) ++ tieB (nC l) ties[e] := by
                rw [List.take_succ_eq_append_getElem hel, bdT_snoc]
              have h4 := hr.tie ties[e] (List.getElem_mem hel)
              have hLl : (bd0 q ++ (bdE l l.length ++ bdT (nC l) (ties.take e))).length = v + 2 * e + 1 := by
                rw [List.length_append, List.length_append, bd0_length, bdE_length l _ (Nat.le_refl _), bdT_length, List.length_take]; omega
              have ca := add_ok _ (v + 2 * e) hLl (by omega) (atV (nC l) ties[e].a) (atV (nC l) ties[e].b) ties[e].low ties[e].high (by omega) (k := k)
              have hs2 : pair (atV (nC l) ties[e].a) (atV (nC l) ties[e].b) ties[e].low ties[e].high = tieB (nC l) ties[e] := rfl
              rw [hs2, List.append_assoc, List.append_assoc, ← hs, hnc] at ca
              have cy := at_ok2 (c + 1) (flatE strE (insF (clks l))) ties[e].a (by omega) (by omega) (k := k)
              have cz := at_ok2 (c + 1) (flatE strE (insF (clks l))) ties[e].b (by omega) (by omega) (k := k)
              clear hs hs2
              rw [hnc]
              generalize ties[e] = x at *
              have e3 : addI .i64 (e : Int) 1 = (e : Int) + 1 := addI_i64 (by omega) (by omega)
              have hm2 : v + 2 * (e + 1) = v + 2 * e + 2 := by omega
              simp at ca
              simp -implicitDefEqProofs [hel, hel2, ms, h3, hcells, ca, cy, cz, e3]
              exact rnd_next (e + 1) hel (by omega) (by simp -implicitDefEqProofs [liveOf, hm2])
            · obtain rfl : e = ties.length := by omega
              have hel2 : ¬ (ties.length : Int) < (ties.length : Int) := by omega
              have ht : ties.take ties.length = ties := List.take_of_length_le (Nat.le_refl _)
              have hb : bd0 q ++ (bdE l l.length ++ bdT (nC l) ties) = bds l ties := by rw [hqi, ← List.append_assoc]; rfl
              have hlen : (bds l ties).length = v + 2 * ties.length + 1 := by
                rw [← hb, List.length_append, List.length_append, bd0_length, bdE_length l _ (Nat.le_refl _), bdT_length]; omega
              rw [ht, hb, hlen]
              simp -implicitDefEqProofs [hel2]
end Go.Ev.Try
