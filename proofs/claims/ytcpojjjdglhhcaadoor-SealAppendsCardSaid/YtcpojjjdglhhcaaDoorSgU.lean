/-
  THE SEAL SEAT: SealAppends answers true, for all lists of entries (own work).
-/
import Derived.Test.YtcpojjjdglhhcaaDoorSgT
set_option linter.unusedSimpArgs false
set_option linter.unusedVariables false
set_option maxRecDepth 100000
set_option maxHeartbeats 1000000
namespace Go.Ev.Tryd
open Go Go.Ev Go.Proofs

theorem szL_append (a b : List Entry) : szL (a ++ b) = szL a + szL b := by simp [szL]
theorem szL_cons (x : Entry) (b : List Entry) : szL (x :: b) = szE x + szL b := by simp [szL]
theorem check_nil_right : Right [] := ⟨(fun x h => absurd h List.not_mem_nil), (by rw [check_nil]), (by simp)⟩

def wholeB (c : List Entry) : Bool := match c with
  | [] => true
  | y :: _ => !c.any (otherRoot y.root)
theorem whole_any (c : List Entry) (hR : Right c) {k : Nat} (hk : 1100 + szL c < k) :
    evF Tryd.prog Γ (k + 1) 13 [roV true c.length (flatE entryE c)] [] = some (.tup [.bool (wholeB c), .int .i64 0], []) := by
  cases c with
  | nil => exact whole_nil (by omega)
  | cons y c => exact whole_ok (y :: c) hR (by simp) hk

theorem step_kind {s : State} {f : Bool} {x : Entry} : (step s f x).2 = 0 → decide (x.kind = 0) = f := by
  unfold step
  by_cases h0 : x.kind < 0 ∨ 5 ≤ x.kind
  · rw [if_pos h0]; intro h; exact absurd h (by decide)
  rw [if_neg h0]
  by_cases h1 : named x.who = false ∨ (x.kind = 1 ∧ named x.to = false)
  · rw [if_pos h1]; intro h; exact absurd h (by decide)
  rw [if_neg h1]
  by_cases h2 : (x.kind ≠ 1 ∧ x.to ≠ ByteArray.empty) ∨ (x.kind ≠ 0 ∧ x.kind ≠ 3 ∧ x.root ≠ 0)
  · rw [if_pos h2]; intro h; exact absurd h (by decide)
  rw [if_neg h2]
  by_cases h3 : x.time < s.time ∨ 4294967295 < x.time
  · rw [if_pos h3]; intro h; exact absurd h (by decide)
  rw [if_neg h3]
  by_cases h4 : decide (x.kind = 0) ≠ f
  · rw [if_pos h4]; intro h; exact absurd h (by decide)
  intro _
  exact Classical.not_not.1 h4
theorem holders_pos (c : List Entry) (hR : Right c) (hc : 0 < c.length) : 0 < (holders c).length := by
  cases c with
  | nil => simp at hc
  | cons x c =>
    have h1 := hR.2.1
    rw [hR.go] at h1
    have h2 := of_decide_eq_true (step_kind (go_head h1).1)
    simp [holders, held, h2]
def root0 (c : List Entry) : Int := match c with
  | [] => 0
  | y :: _ => y.root
theorem wholeB_all (c : List Entry) : wholeB c = c.all fun x => !otherRoot (root0 c) x := by
  cases c with
  | nil => rfl
  | cons y c =>
    show (!(y :: c).any (otherRoot y.root)) = (y :: c).all fun x => !otherRoot y.root x
    rw [List.not_any_eq_all_not]

theorem law6_ok (l : List Entry) (z : Bool) (hl : okL l) (hlen : l.length < 9223372036854775807) {k : Nat} (hk : 3000 + szL l + l.length ≤ k) :
    evF Tryd.prog Γ (k + 1) 6 [roV z l.length (flatE entryE l)] [] = some (.bool true, []) := by
  obtain ⟨k, rfl⟩ : ∃ j, k = j + 2 := ⟨k - 2, by omega⟩
  have c0 := sealed_ok (k := k + 1) (by omega)
  rw [b6 (fun _ _ => rfl) _ _ (by simp)]
  simp -implicitDefEqProofs [c0]
  generalize hx : evLoopC _ _ _ _ _ _ _ _ _ _ = R
  apply loop_gen hx (fun a : Nat × List Entry => (mkL 144 .junk [(3, ownV true 0 0 a.2.length 6), (21, roV z l.length (flatE entryE l)), (22, .int .i64 l.length), (23, .int .i64 a.1)],
      [ownB true a.2.length (flatE entryE a.2), none]))
    (fun a => a.1 ≤ l.length ∧ Right a.2 ∧ szL a.2 + szL (l.drop a.1) ≤ szL l) (fun a => l.length - a.1) (0, [])
  case hI => exact ⟨by simp, check_nil_right, by simp [szL]⟩
  case hq => simp only; omega
  case ht => simp -implicitDefEqProofs [liveOf]
  case round =>
    rintro ⟨i, c⟩ ⟨hi, hR, hsz⟩ _
    simp only at hi hR hsz
    clear hx
    by_cases hlt : i < l.length
    · have e2 : addI .i64 (i : Int) 1 = (i : Int) + 1 := addI_i64 (by omega) (by omega)
      have hxo := hl l[i] (List.getElem_mem hlt)
      rw [List.drop_eq_getElem_cons hlt, szL_cons] at hsz
      have h100 := hR.2.2
      have h0 := hR.2.1
      have hcl := clone_ok c (by omega) (k := k + 1)
      have hkp := hR.kept
      have hE : c.isEmpty = decide (c.length = 0) := by cases c <;> simp
      have hokn : okL (c ++ [l[i]]) := fun y hy => by
        rcases List.mem_append.1 hy with hy | hy
        · exact hR.1 y hy
        · rw [List.mem_singleton.1 hy]; exact hxo
      have hszn : szL (c ++ [l[i]]) = szL c + szE l[i] := by rw [szL_append]; simp [szL]
      have cF : evF Tryd.prog Γ (k + 2) 19 [.ros (c.length + 1) (flatE entryE c ++ entryE.f l[i]), .int .i64 c.length] [] = some (.int .i64 (step (check c).1 c.isEmpty l[i]).2, []) := by
        have h := fault_ok (c ++ [l[i]]) c.length (by simp) hokn (by simp; omega) (check c).1 (by rw [List.take_left]; exact hkp) (k := k + 1) (by omega)
        have hg : (c ++ [l[i]])[c.length]'(by simp) = l[i] := by simp
        rw [hg, ← hE] at h
        simpa using h
      have hsnoc : c.length < 100 → (step (check c).1 c.isEmpty l[i]).2 = 0 → _ := fun h99 hs => hR.snoc l[i] hxo h99 hs
      have cS := fun (b : Int) (hb : u64 b) => summed_ok b hb l[i] hxo (k := k + 1) (by omega)
      have cA : c.length < 100 → _ := fun h99 => append_ok c l[i] hR.1 hxo h0 h99 (k := k + 1) (by omega)
      have cA' : c.length = 100 → _ := fun h99 => append_full c l[i] hR.1 h0 h99 (k := k + 1) (by omega)
      have hdrop : szL (l.drop (i + 1)) ≤ szL l := by omega
      generalize hxi : l[i] = x at *
      cases hn : c.length with
      | zero =>
        have hc : c = [] := List.length_eq_zero_iff.1 hn
        subst hc
        have cA := cA (by simp)
        have cS := cS 0 ⟨by decide, by decide⟩
        have hl0 : lastSum [] = 0 := rfl
        have hE' : ([] : List Entry).isEmpty = true := rfl
        rw [hE'] at cA cF hsnoc
        simp only [hl0, List.nil_append] at cA cF hsnoc
        simp at cA cF hcl
        by_cases hs : (step (check []).1 true x).2 = 0
        · have hsn := hsnoc (by simp) hs
          have cE := equal_ok [{ x with sum := sumS 0 x }] (by simp) (k := k + 1) (by omega)
          simp only [hs, if_true] at cA cF
          simp only [entryE_f] at cA cF cS
          simp [entryE_f] at cE
          simp -implicitDefEqProofs [hlt, e2, hxi, hcl, cA, cF, cS, cE, entryE_f]
          exact rnd_next (i + 1, [{ x with sum := sumS 0 x }]) ⟨hlt, hsn.1, by simp only [szL_cons]; have : szE { x with sum := sumS 0 x } = szE x := rfl; simp [szL] at hsz ⊢; omega⟩ (by simp only; omega) (by simp -implicitDefEqProofs [liveOf, entryE_f])
        · simp only [hs, if_false] at cA
          simp only [entryE_f] at cA cF cS
          simp -implicitDefEqProofs [hlt, e2, hxi, hcl, cA, cF, cS, hs, entryE_f]
          exact rnd_next (i + 1, []) ⟨hlt, hR, by simp only; omega⟩ (by simp only; omega) (by simp -implicitDefEqProofs [liveOf, entryE_f])
      | succ m =>
        have hm : m < c.length := by omega
        have hlast : lastSum c = c[m].sum := by
          unfold lastSum
          have : c.getLast? = some c[m] := by
            rw [List.getLast?_eq_getElem?, hn, Nat.add_sub_cancel, List.getElem?_eq_getElem hm]
          rw [this]
        have hne : c.isEmpty = false := by cases c with
          | nil => simp at hn
          | cons => rfl
        have hls : u64 (lastSum c) := by rw [hlast]; exact (hR.1 _ (List.getElem_mem hm)).sum
        have cS := cS (lastSum c) hls
        have e1 : subI .i64 ((m : Int) + 1) 1 = (m : Int) := by rw [subI_i64 (by omega) (by omega)]; omega
        have e3 : (0 : Int) < (m : Int) + 1 := by omega
        have e4 : ¬ ((m : Int) + 1 = 0) := by omega
        have e5 : (m + 1 + 1) * 64 ≤ 140737488355328 := by omega
        have e6 : (m : Int) < (m : Int) + 1 := by omega
        have e7 : (0 : Int) ≤ (m : Int) + 1 := by omega
        have hta : List.take ((m + 1) * 6) (flatE entryE c) = flatE entryE c := by rw [← hn]; exact take_all_flatE entryE rfl c
        rw [hne] at cF
        simp only [hn] at hcl cF
        simp only [ownV_succ, ownB_succ, roV_succ] at hcl
        have hta2 : List.take ((m + 1 + 1) * 6) (flatE entryE c ++ entryE.f x) = flatE entryE c ++ entryE.f x := List.take_of_length_le (by simp [hn]; omega)
        simp only [entryE_f] at hta2
        have hfl : (flatE entryE c).length = (m + 1) * 6 := by rw [flatE_length, hn]; rfl
        have hta3 : List.take ((m + 1 + 1) * 6) (flatE entryE c ++ [V.int .i64 x.kind, V.str x.who, V.str x.to, V.int .i64 x.time, V.int .u64 x.root, V.int .u64 (sumS c[m].sum x)]) = flatE entryE c ++ [V.int .i64 x.kind, V.str x.who, V.str x.to, V.int .i64 x.time, V.int .u64 x.root, V.int .u64 (sumS c[m].sum x)] := List.take_of_length_le (by rw [List.length_append, hfl]; simp; omega)
        have hput : List.take ((m + 1) * 6 + 5) (flatE entryE c ++ [V.int .i64 x.kind, V.str x.who, V.str x.to, V.int .i64 x.time, V.int .u64 x.root, V.int .u64 x.sum]) = flatE entryE c ++ [V.int .i64 x.kind, V.str x.who, V.str x.to, V.int .i64 x.time, V.int .u64 x.root] := by
          rw [← hfl, List.take_length_add_append]; rfl
        have hdr : List.drop ((m + 1) * 6 + 5 + 1) (flatE entryE c ++ [V.int .i64 x.kind, V.str x.who, V.str x.to, V.int .i64 x.time, V.int .u64 x.root, V.int .u64 x.sum]) = [] := List.drop_of_length_le (by rw [List.length_append, hfl]; simp)
        have hd5 : List.drop (m * 6 + 5) (flatE entryE c) = [V.int .u64 c[m].sum] := by
          rw [← List.drop_drop, drop_flatE' (n := 6) entryE rfl, List.drop_eq_getElem_cons hm, List.drop_of_length_le (by omega : c.length ≤ m + 1)]
          rfl
        by_cases hfull : m + 1 = 100
        · have cA := cA' (by omega)
          simp only [hn, roV_succ] at cA
          simp only [entryE_f] at cA cF cS
          have q : (m : Int) + 1 = 100 := by omega
          simp [q] at cF
          simp -implicitDefEqProofs [hlt, e1, e2, e3, e4, e5, e6, hxi, hcl, cA, cF, cS, hn, hm, hta, hta2, q, entryE_f]
          exact rnd_next (i + 1, c) ⟨hlt, hR, by simp only; omega⟩ (by simp only; omega) (by simp -implicitDefEqProofs [liveOf, entryE_f, hn])
        · have cA := cA (by omega)
          rw [hne] at cA hsnoc
          simp only [hn, roV_succ] at cA
          have q : ¬ (m : Int) + 1 = 100 := by omega
          simp only [entryE_f] at cF
          simp at cF
          by_cases hs : (step (check c).1 false x).2 = 0
          · have hsn := hsnoc (by omega) hs
            have cE := equal_ok (c ++ [{ x with sum := sumS (lastSum c) x }]) (by simp; omega) (k := k + 1) (by omega)
            simp only [hs, if_true] at cA cF
            simp only [entryE_f] at cA cS
            simp [hn, entryE_f] at cE
            rw [hlast] at cA cS cE hsn
            simp -implicitDefEqProofs [hlt, e1, e2, e3, e4, e5, e6, hxi, hcl, cA, cF, cS, cE, hn, hm, hta, e7, hta2, hta3, hput, hdr, hd5, q, entryE_f]
            exact rnd_next (i + 1, c ++ [{ x with sum := sumS c[m].sum x }]) ⟨hlt, hsn.1, by simp only [szL_append, szL_cons]; have : szE { x with sum := sumS c[m].sum x } = szE x := rfl; have : szL [] = 0 := rfl; omega⟩ (by simp only; omega) (by simp -implicitDefEqProofs [liveOf, entryE_f, hn])
          · simp only [hs, if_false] at cA
            simp only [entryE_f] at cA cS
            simp -implicitDefEqProofs [hlt, e1, e2, e3, e4, e5, e6, hxi, hcl, cA, cF, cS, hs, hn, hm, hta, hta2, q, entryE_f]
            exact rnd_next (i + 1, c) ⟨hlt, hR, by simp only; omega⟩ (by simp only; omega) (by simp -implicitDefEqProofs [liveOf, entryE_f, hn])
    · have hi' : i = l.length := by omega
      subst hi'
      clear hlt hi
      have cW := whole_any c hR (k := k + 1) (by omega)
      have cH := holders_ok c true hR.1 hR.2.1 hR.2.2 (k := k + 1) (by omega)
      have hhl := holders_length c
      have h100 := hR.2.2
      have cQ := equals_ok (holders c) (by omega) (k := k + 1) (by omega)
      have hok := hR.1
      have hhp := holders_pos c hR
      clear hsz hR
      cases hn : c.length with
      | zero =>
        have hc : c = [] := List.length_eq_zero_iff.1 hn
        subst hc
        simp [holders, wholeB] at cW cH cQ
        simp -implicitDefEqProofs [cW, cH, cQ]
        generalize hx : evLoopC _ _ _ _ _ _ _ _ _ _ = R
        apply loop_gen hx (fun a : Unit => (mkL 144 .junk [(3, .nils), (11, .bool true), (12, .int .i64 0), (13, .nils), (14, .int .i64 0), (15, .bool true), (16, .nils), (93, .nils), (94, .int .i64 0), (95, .int .i64 0)], ([none, none, none, none] : Heap)))
          (fun _ => True) (fun _ => 0) ()
        case hI => trivial
        case hq => omega
        case ht => simp -implicitDefEqProofs [liveOf]
        case round =>
          rintro ⟨⟩ _ _
          clear hx
          simp -implicitDefEqProofs [cQ]
      | succ m =>
        have hta : List.take ((m + 1) * 6) (flatE entryE c) = flatE entryE c := by rw [← hn]; exact take_all_flatE entryE rfl c
        obtain ⟨p, hp⟩ : ∃ p, (holders c).length = p + 1 := ⟨(holders c).length - 1, by have := hhp (by omega); omega⟩
        have htk : List.take (p + 1) (flatE strE (holders c)) = flatE strE (holders c) := List.take_of_length_le (by rw [flatE_length, hp]; show (p + 1) * 1 ≤ _; omega)
        simp only [hn, hp, roV_succ, ownV_succ, ownB_succ] at cW cH cQ
        simp -implicitDefEqProofs [cW, cH, hn, hta, hp, htk]
        generalize hx : evLoopC _ _ _ _ _ _ _ _ _ _ = R
        apply loop_gen hx (fun a : Nat × List ByteArray × Bool => (mkL 144 .junk [(3, .sl 0 0 (m + 1) 6), (11, .bool (wholeB c)), (12, .int .i64 0), (13, .sl 1 0 (p + 1) 1), (14, .int .i64 0), (15, .bool a.2.2), (16, ownV true 2 0 a.2.1.length 1), (93, .sl 0 0 (m + 1) 6), (94, .int .i64 (m + 1 : Nat)), (95, .int .i64 a.1)],
            [some (.cells (flatE entryE c) false), some (.cells (flatE strE (holders c)) false), ownB true a.2.1.length (flatE strE a.2.1), none]))
          (fun a => a.1 ≤ c.length ∧ a.2.1 = holders (c.take a.1) ∧ a.2.2 = (c.take a.1).all fun x => !otherRoot (root0 c) x) (fun a => c.length - a.1) (0, [], true)
        case hI => exact ⟨by simp, by simp [holders], by simp⟩
        case hq => simp only; omega
        case ht => simp -implicitDefEqProofs [liveOf]
        case round =>
          rintro ⟨i, A, w⟩ ⟨hi, hA, hw⟩ _
          simp only at hi hA hw
          clear hx
          by_cases hlt : i < c.length
          · have hlt1 : i < m + 1 := by omega
            have hlt2 : (i : Int) < (m : Int) + 1 := by omega
            have e2 : addI .i64 (i : Int) 1 = (i : Int) + 1 := addI_i64 (by omega) (by omega)
            have hb6 : 6 ≤ c.length * 6 - i * 6 := by omega
            have hb6' : 6 ≤ (m + 1) * 6 - i * 6 := by omega
            have hs := holders_snoc c i hlt
            have hlen := holders_length (c.take i)
            have hlen2 : (c.take i).length ≤ c.length := by rw [List.length_take]; omega
            have hb : (A.length + 1) * 16 ≤ 140737488355328 := by rw [hA]; omega
            have hw2 : ((c.take (i + 1)).all fun x => !otherRoot (root0 c) x) = (w && !otherRoot (root0 c) c[i]) := by
              rw [List.take_succ_eq_append_getElem hlt, List.all_append, ← hw]; simp
            rw [← hA] at hs
            have fin : ∀ B u, A ++ held c[i] = B → (w && !otherRoot (root0 c) c[i]) = u → ((i + 1, B, u) : Nat × List ByteArray × Bool).1 ≤ m + 1 ∧ ((i + 1, B, u) : Nat × List ByteArray × Bool).2.1 = holders (c.take (i + 1, B, u).1) ∧ ((i + 1, B, u) : Nat × List ByteArray × Bool).2.2 = (c.take (i + 1, B, u).1).all fun x => !otherRoot (root0 c) x :=
              fun B u h h' => ⟨hlt1, by rw [← h]; exact hs.symm, by rw [← h']; exact hw2.symm⟩
            have hr0 : List.drop 4 (flatE entryE c) = V.int .u64 (root0 c) :: List.drop 5 (flatE entryE c) := by
              cases c with
              | nil => simp at hn
              | cons y c => rfl
            clear hA hs hlen hw hw2
            by_cases h1 : c[i].kind = 0
            · cases A with
              | nil =>
                simp -implicitDefEqProofs [hlt, hlt1, hlt2, e2, entryE_f, h1, hn, hb6, hb6']
                exact rnd_next (i + 1, [c[i].who], w) (by exact fin _ _ (by simp [held, h1]) (by simp [otherRoot, h1])) (by simp only; omega) (by simp -implicitDefEqProofs [liveOf])
              | cons a A =>
                simp at hb
                simp -implicitDefEqProofs [hlt, hlt1, hlt2, e2, entryE_f, h1, hn, hb6, hb6', hb]
                exact rnd_next (i + 1, a :: A ++ [c[i].who], w) (by exact fin _ _ (by simp [held, h1]) (by simp [otherRoot, h1])) (by simp only; omega) (by simp -implicitDefEqProofs [liveOf])
            by_cases h2 : c[i].kind = 1
            · cases A with
              | nil =>
                simp -implicitDefEqProofs [hlt, hlt1, hlt2, e2, entryE_f, h2, hn, hb6, hb6']
                exact rnd_next (i + 1, [c[i].to], w) (by exact fin _ _ (by simp [held, h2]) (by simp [otherRoot, h2])) (by simp only; omega) (by simp -implicitDefEqProofs [liveOf])
              | cons a A =>
                simp at hb
                simp -implicitDefEqProofs [hlt, hlt1, hlt2, e2, entryE_f, h2, hn, hb6, hb6', hb]
                exact rnd_next (i + 1, a :: A ++ [c[i].to], w) (by exact fin _ _ (by simp [held, h2]) (by simp [otherRoot, h2])) (by simp only; omega) (by simp -implicitDefEqProofs [liveOf])
            by_cases h3 : c[i].kind = 3
            · cases w with
              | false =>
                simp -implicitDefEqProofs [hlt, hlt1, hlt2, e2, entryE_f, h3, hn, hb6, hb6']
                refine rnd_next (i + 1, A, false) (by exact fin _ _ (by simp [held, h3]) (by simp)) (by simp only; omega) ?_
                cases A <;> simp -implicitDefEqProofs [liveOf]
              | true =>
                by_cases h4 : c[i].root = root0 c
                · simp -implicitDefEqProofs [hlt, hlt1, hlt2, e2, entryE_f, h3, h4, hn, hb6, hb6', hr0]
                  refine rnd_next (i + 1, A, true) (by exact fin _ _ (by simp [held, h3]) (by simp [otherRoot, h3, h4])) (by simp only; omega) ?_
                  cases A <;> simp -implicitDefEqProofs [liveOf]
                · simp -implicitDefEqProofs [hlt, hlt1, hlt2, e2, entryE_f, h3, h4, hn, hb6, hb6', hr0]
                  refine rnd_next (i + 1, A, false) (by exact fin _ _ (by simp [held, h3]) (by simp [otherRoot, h3, h4])) (by simp only; omega) ?_
                  cases A <;> simp -implicitDefEqProofs [liveOf]
            simp -implicitDefEqProofs [hlt, hlt1, hlt2, e2, entryE_f, h1, h2, h3, hn, hb6, hb6']
            refine rnd_next (i + 1, A, w) (by exact fin _ _ (by simp [held, h1, h2]) (by simp [otherRoot, h3])) (by simp only; omega) ?_
            cases A <;> simp -implicitDefEqProofs [liveOf]
          · have hi' : i = c.length := by omega
            subst hi'
            rw [List.take_length] at hA hw
            rw [← wholeB_all] at hw
            subst hA
            subst hw
            have hlt2 : ¬ ((m : Int) + 1 < (m : Int) + 1) := by omega
            simp -implicitDefEqProofs [hn, hp, htk, cQ]
end Go.Ev.Tryd
