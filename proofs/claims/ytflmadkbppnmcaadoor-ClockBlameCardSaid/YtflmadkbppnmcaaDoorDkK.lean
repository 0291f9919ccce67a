/-
  THE CLOCK DOOR SEAT: M.Events (own work).
-/
import Derived.Test.YtflmadkbppnmcaaDoorDkE
import Derived.Test.YtflmadkbppnmcaaDoorDkQ
set_option linter.unusedSimpArgs false
set_option linter.unusedVariables false
set_option maxRecDepth 100000
set_option maxHeartbeats 4000000
namespace Go.Ev.Tryd
open Go Go.Ev Go.Proofs

def clk (q : Int) : ByteArray := ⟨#[99, 108, 111, 99, 107, 45]⟩ ++ digit q
/-- An event, its true time, the errors of the clocks. -/
def EvP (E : List Int) (e : Event) (t : Int) : Prop := 100 ≤ t ∧ t ≤ 499 ∧ ∃ q : Nat, q < 4 ∧ e.clock = clk q ∧ 0 ≤ e.wide' ∧ e.wide' ≤ 3 ∧ e.show' - e.wide' ≤ t - E.getD q 0 ∧ t - E.getD q 0 ≤ e.show' + e.wide'
def TieP (even : Bool) (T : List Int) (t : Tie) : Prop :=
  -1 ≤ t.a ∧ t.a < T.length ∧ 0 ≤ t.b ∧ t.b < T.length ∧ t.a ≠ t.b ∧ t.low ≤ t.high ∧ -1100 ≤ t.low ∧ t.high ≤ 1100 ∧
    (even = true → t.low ≤ T.getD t.b.toNat 0 - (if t.a < 0 then 0 else T.getD t.a.toNat 0) ∧ T.getD t.b.toNat 0 - (if t.a < 0 then 0 else T.getD t.a.toNat 0) ≤ t.high)
structure Made (even : Bool) (E T : List Int) (es : List Event) (ts : List Tie) : Prop where
  hE : E.length = 4
  hEr : ∀ x ∈ E, -30 ≤ x ∧ x ≤ 30
  hT : T.length = es.length
  hn : es.length ≤ 8
  hm : ts.length ≤ 9
  ev : ∀ i (h : i < es.length), EvP E es[i] (T.getD i 0)
  tie : ∀ t ∈ ts, TieP even T t

theorem ev_snoc {E T : List Int} {es : List Event} {e : Event} {t : Int} (h : ∀ i (h : i < es.length), EvP E es[i] (T.getD i 0)) (hl : T.length = es.length) (he : EvP E e t) :
    ∀ i (h : i < (es ++ [e]).length), EvP E (es ++ [e])[i] ((T ++ [t]).getD i 0) := fun i hi => by
  rcases Nat.lt_or_ge i es.length with h1 | h1
  · rw [List.getElem_append_left h1, List.getD_eq_getElem?_getD, List.getElem?_append_left (by omega), ← List.getD_eq_getElem?_getD]
    exact h i h1
  · have : i = es.length := by simp at hi; omega
    subst this
    rw [List.getElem_append_right (Nat.le_refl _), List.getD_eq_getElem?_getD, List.getElem?_append_right (by omega)]
    simpa [hl] using he

theorem mem_snoc {α : Type} {p : α → Prop} {l : List α} {x : α} (h : ∀ y ∈ l, p y) (hx : p x) : ∀ y ∈ l ++ [x], p y := fun y hy => by
  rcases List.mem_append.1 hy with h1 | h1
  · exact h y h1
  · rw [List.mem_singleton.1 h1]; exact hx

theorem events_ok (l : List Int) (z : Bool) {k : Nat} (hk : 100 < k) :
    ∃ E T es ts, Made (decide (nextN l 2 = 0)) E T es ts ∧ evF Tryd.prog Γ (k + 1) 7 [roV z l.length (flatE (intE .i64) l)] [] =
      some (.tup [ownV true 0 0 es.length 3, ownV true 1 0 ts.length 4], [ownB true es.length (flatE eventE es), ownB true ts.length (flatE tieE ts)]) := by
  obtain ⟨k, rfl⟩ : ∃ j, k = j + 2 := ⟨k - 2, by omega⟩
  have g0 := nextN_lt l 2 (by omega)
  have a0 := next_ok l z 2 (by omega) (by omega) (k := k)
  rw [b7 (Γ := Γ) (k := k + 2) (fun _ _ => rfl) [roV z l.length (flatE (intE .i64) l)] [] (by simp)]
  generalize nextN l 2 = n0 at *
  generalize (z && l.isEmpty) = z1 at *
  generalize l.tail = l1 at *
  simp -implicitDefEqProofs [a0]
  generalize decide (n0 = 0) = even
  generalize hx : evLoopC _ _ _ _ _ _ _ _ _ _ = R
  apply loop_gen hx (fun a : Nat × (Bool × List Int) × Int × Int × Int × Int => (mkL 125 .junk [(4, .ptr 0 0), (5, .bool even), (6, .ptr 1 0), (23, .int .i64 a.1)],
      [some (.cells [roV a.2.1.1 a.2.1.2.length (flatE (intE .i64) a.2.1.2)] true), some (.cells [.int .i64 a.2.2.1, .int .i64 a.2.2.2.1, .int .i64 a.2.2.2.2.1, .int .i64 a.2.2.2.2.2] true), none]))
    (fun a => a.1 ≤ 4 ∧ ∀ x ∈ [a.2.2.1, a.2.2.2.1, a.2.2.2.2.1, a.2.2.2.2.2], -30 ≤ x ∧ x ≤ 30) (fun a => 4 - a.1) (0, (z1, l1), 0, 0, 0, 0)
  case hI => exact ⟨by simp, by simp⟩
  case hq => simp only; omega
  case ht => simp -implicitDefEqProofs [liveOf]
  case round =>
    clear hx a0
    rintro ⟨i, ⟨z, m⟩, e0, e1, e2, e3⟩ ⟨hi, hE⟩ _
    simp only at hi hE
    by_cases hlt : i < 4
    · have g := nextN_lt m 61 (by omega)
      have a1 := next_ok m z 61 (by omega) (by omega) (k := k)
      generalize nextN m 61 = x at *
      have s1 : subI .i64 x 30 = x - 30 := subI_i64 (by omega) (by omega)
      simp only [List.mem_cons, List.not_mem_nil, or_false, forall_eq_or_imp, forall_eq] at hE
      have q0 : addI .i64 0 1 = 1 := addI_i64 (by omega) (by omega)
      have q1 : addI .i64 1 1 = 2 := addI_i64 (by omega) (by omega)
      have q2 : addI .i64 2 1 = 3 := addI_i64 (by omega) (by omega)
      have q3 : addI .i64 3 1 = 4 := addI_i64 (by omega) (by omega)
      have : i = 0 ∨ i = 1 ∨ i = 2 ∨ i = 3 := by omega
      rcases this with rfl | rfl | rfl | rfl
      · simp -implicitDefEqProofs [a1, s1]
        exact rnd_next (1, (z && m.isEmpty, m.tail), x - 30, e1, e2, e3) ⟨by simp, by simp; omega⟩ (by simp) (by simp -implicitDefEqProofs [liveOf, q0, q1, q2, q3])
      · simp -implicitDefEqProofs [a1, s1]
        exact rnd_next (2, (z && m.isEmpty, m.tail), e0, x - 30, e2, e3) ⟨by simp, by simp; omega⟩ (by simp) (by simp -implicitDefEqProofs [liveOf, q0, q1, q2, q3])
      · simp -implicitDefEqProofs [a1, s1]
        exact rnd_next (3, (z && m.isEmpty, m.tail), e0, e1, x - 30, e3) ⟨by simp, by simp; omega⟩ (by simp) (by simp -implicitDefEqProofs [liveOf, q0, q1, q2, q3])
      · simp -implicitDefEqProofs [a1, s1]
        exact rnd_next (4, (z && m.isEmpty, m.tail), e0, e1, e2, x - 30) ⟨by simp, by simp; omega⟩ (by simp) (by simp -implicitDefEqProofs [liveOf, q0, q1, q2, q3])
    · have hi4 : i = 4 := by omega
      subst hi4
      obtain ⟨E, hEd⟩ : ∃ E : List Int, E = [e0, e1, e2, e3] := ⟨_, rfl⟩
      have hc : ([.int .i64 e0, .int .i64 e1, .int .i64 e2, .int .i64 e3] : List V) = flatE (intE .i64) E := by rw [hEd]; rfl
      have hEl : E.length = 4 := by rw [hEd]; rfl
      have hEr : ∀ x ∈ E, -30 ≤ x ∧ x ≤ 30 := by rw [hEd]; exact hE
      clear hEd hE
      rw [hc]
      clear hc
      have g := nextN_lt m 9 (by omega)
      have a1 := next_ok m z 9 (by omega) (by omega) (k := k)
      generalize nextN m 9 = n9 at *
      generalize (z && m.isEmpty) = z2 at *
      generalize m.tail = l2 at *
      simp -implicitDefEqProofs [a1]
      generalize hx : evLoopC _ _ _ _ _ _ _ _ _ _ = R
      apply loop_gen hx (fun a : Nat × (Bool × List Int) × List Event × List Int => (mkL 125 .junk [(4, .ptr 0 0), (5, .bool even), (6, .ptr 1 0), (8, ownV true 2 0 a.2.2.1.length 3), (9, ownV true 3 0 a.2.2.2.length 1), (33, .int .i64 n9), (34, .int .i64 a.1)],
          [some (.cells [roV a.2.1.1 a.2.1.2.length (flatE (intE .i64) a.2.1.2)] true), some (.cells (flatE (intE .i64) E) true), ownB true a.2.2.1.length (flatE eventE a.2.2.1), ownB true a.2.2.2.length (flatE (intE .i64) a.2.2.2), none]))
        (fun a => (a.1 : Int) ≤ n9 ∧ a.2.2.1.length = a.1 ∧ a.2.2.2.length = a.1 ∧ ∀ i (h : i < a.2.2.1.length), EvP E a.2.2.1[i] (a.2.2.2.getD i 0)) (fun a => (n9 - a.1).toNat) (0, (z2, l2), [], [])
      case hI => exact ⟨by simp only; omega, rfl, rfl, fun i h => by simp at h⟩
      case hq => simp only; omega
      case ht => simp -implicitDefEqProofs [liveOf]
      case round =>
        clear hx a1
        rintro ⟨i, ⟨z, m⟩, es, T⟩ ⟨hi, hes, hT, hev⟩ _
        simp only at hi hes hT hev
        by_cases hlt : (i : Int) < n9
        · have g1 := nextN_lt m 4 (by omega)
          have a1 := next_ok m z 4 (by omega) (by omega) (k := k)
          generalize nextN m 4 = q at *
          generalize (z && m.isEmpty) = z1 at *
          generalize m.tail = m at *
          have g2 := nextN_lt m 4 (by omega)
          have a2 := next_ok m z1 4 (by omega) (by omega) (k := k)
          generalize nextN m 4 = w at *
          generalize (z1 && m.isEmpty) = z2 at *
          generalize m.tail = m at *
          have g3 := nextN_lt m 400 (by omega)
          have a3 := next_ok m z2 400 (by omega) (by omega) (k := k)
          generalize nextN m 400 = t at *
          generalize (z2 && m.isEmpty) = z3 at *
          generalize m.tail = m at *
          have g4 := nextN_lt m (2 * w + 1) (by omega)
          have a4 := next_ok m z3 (2 * w + 1) (by omega) (by omega) (k := k)
          generalize nextN m (2 * w + 1) = x at *
          generalize (z3 && m.isEmpty) = z4 at *
          generalize m.tail = m at *
          have ai := itoa_ok g1.1 g1.2 (k := k + 2) (by omega)
          obtain ⟨q, rfl⟩ : ∃ j : Nat, q = (j : Int) := ⟨q.toNat, by omega⟩
          have hq4 : q < E.length := by omega
          have eE := hEr E[q] (List.getElem_mem hq4)
          have e1 : addI .i64 100 t = 100 + t := addI_i64 (by omega) (by omega)
          have e2 : subI .i64 (100 + t) E[q] = 100 + t - E[q] := subI_i64 (by omega) (by omega)
          have e3 : mulI .i64 2 w = 2 * w := mulI_i64 (by omega) (by omega)
          have e4 : addI .i64 (2 * w) 1 = 2 * w + 1 := addI_i64 (by omega) (by omega)
          have e5 : addI .i64 (100 + t - E[q]) x = 100 + t - E[q] + x := addI_i64 (by omega) (by omega)
          have e6 : subI .i64 (100 + t - E[q] + x) w = 100 + t - E[q] + x - w := subI_i64 (by omega) (by omega)
          have e7 : addI .i64 (i : Int) 1 = (i : Int) + 1 := addI_i64 (by omega) (by omega)
          have hq4' : (q : Int) < 4 := by omega
          have hsz : 6 + (digit (q : Int)).size ≤ 9223372036854775807 := by show 6 + 1 ≤ 9223372036854775807; omega
          obtain ⟨R9, tE⟩ : ∃ R9, List.drop q (flatE (intE .i64) E) = .int .i64 E[q] :: R9 := by
            refine ⟨flatE (intE .i64) (E.drop (q + 1)), ?_⟩
            have := drop_flatE' (intE .i64) (n := 1) rfl E q
            rw [Nat.mul_one] at this
            rw [this, List.drop_eq_getElem_cons hq4]; rfl
          have hP : EvP E ⟨clk q, 100 + t - E[q] + x - w, w⟩ (100 + t) := by
            refine ⟨by omega, by omega, q, by omega, rfl, g2.1, by show w ≤ 3; omega, ?_, ?_⟩
            · have : E.getD q 0 = E[q] := by rw [List.getD_eq_getElem?_getD, List.getElem?_eq_getElem hq4]; rfl
              rw [this]; show 100 + t - E[q] + x - w - w ≤ _; omega
            · have : E.getD q 0 = E[q] := by rw [List.getD_eq_getElem?_getD, List.getElem?_eq_getElem hq4]; rfl
              rw [this]; show _ ≤ 100 + t - E[q] + x - w + w; omega
          have hev2 := ev_snoc hev (by omega) hP
          cases es with
          | nil =>
            have hT0 : T = [] := List.eq_nil_of_length_eq_zero (by rw [hT, ← hes]; rfl)
            subst hT0
            simp -implicitDefEqProofs [hlt, a1, a2, a3, a4, ai, e1, e2, e3, e4, e5, e6, e7, tE, hEl, hq4', hsz]
            exact rnd_next (i + 1, (z4, m), [⟨clk q, 100 + t - E[q] + x - w, w⟩], [100 + t]) ⟨by simp only; omega, by simp at hes ⊢; omega, by simp at hes ⊢; omega, hev2⟩ (by simp only; omega) (by simp -implicitDefEqProofs [liveOf, eventE_f, clk])
          | cons e es' =>
            obtain ⟨es, hes'⟩ : ∃ es, es = e :: es' := ⟨_, rfl⟩
            rw [← hes'] at hes hev hev2 ⊢
            obtain ⟨c, hc⟩ : ∃ c, es.length = c + 1 := ⟨es'.length, by rw [hes']; rfl⟩
            have hc2 : T.length = c + 1 := by omega
            clear hes'
            have hb : (c + 1 + 1) * 32 ≤ 140737488355328 := by omega
            have hb2 : (c + 1 + 1) * 8 ≤ 140737488355328 := by omega
            simp -implicitDefEqProofs [hlt, a1, a2, a3, a4, ai, e1, e2, e3, e4, e5, e6, e7, tE, hEl, hq4', hsz, hb, hb2, hc, hc2]
            exact rnd_next (i + 1, (z4, m), es ++ [⟨clk q, 100 + t - E[q] + x - w, w⟩], T ++ [100 + t]) ⟨by simp only; omega, by simp; omega, by simp; omega, hev2⟩ (by simp only; omega) (by simp -implicitDefEqProofs [liveOf, eventE_f, clk, hc, hc2])
        · have hin : (i : Int) = n9 := by omega
          have hn8 : es.length ≤ 8 := by omega
          have hTe : T.length = es.length := by omega
          clear hi hes hT
          have g := nextN_lt m 10 (by omega)
          have a1 := next_ok m z 10 (by omega) (by omega) (k := k)
          generalize nextN m 10 = n10 at *
          generalize (z && m.isEmpty) = z3 at *
          generalize m.tail = l3 at *
          cases es with
          | nil =>
            have hT0 : T = [] := List.eq_nil_of_length_eq_zero (by rw [hTe]; rfl)
            subst hT0
            simp -implicitDefEqProofs [a1, hlt]
            generalize hx : evLoopC _ _ _ _ _ _ _ _ _ _ = R
            apply loop_gen hx (fun _ : Unit => (mkL 125 .junk [(4, .ptr 0 0), (5, .bool (even)), (8, .nils), (9, .nils), (13, .nils), (70, .int .i64 n10), (71, .int .i64 0)],
              [some (.cells [roV z3 l3.length (flatE (intE .i64) l3)] true), none, none, none, none])) (fun _ => True) (fun _ => 0) ()
            case hI => trivial
            case hq => show 0 < _; omega
            case ht =>
              simp -implicitDefEqProofs [liveOf]
            case round =>
              clear hx a1
              rintro ⟨⟩ _ _
              have hM : Made even E [] [] [] := ⟨hEl, hEr, rfl, by simp, by simp, fun i h => by simp at h, fun t h => by simp at h⟩
              by_cases h : 0 < n10
              · simp -implicitDefEqProofs [h]
                exact ⟨E, [], [], [], hM, by simp -implicitDefEqProofs⟩
              · simp -implicitDefEqProofs [h]
                exact ⟨E, [], [], [], hM, by simp -implicitDefEqProofs⟩
          | cons e es' =>
            obtain ⟨es, hes'⟩ : ∃ es, es = e :: es' := ⟨_, rfl⟩
            rw [← hes'] at hev hn8 hTe ⊢
            obtain ⟨c, hc⟩ : ∃ c, es.length = c + 1 := ⟨es'.length, by rw [hes']; rfl⟩
            have hc2 : T.length = c + 1 := by omega
            clear hes'
            simp -implicitDefEqProofs [a1, hlt, hc, hc2]
            generalize hx : evLoopC _ _ _ _ _ _ _ _ _ _ = R
            apply loop_gen hx (fun a : Nat × (Bool × List Int) × List Tie => (mkL 125 .junk [(4, .ptr 0 0), (5, .bool (even)), (8, .sl 1 0 (c + 1) 3), (9, .sl 2 0 (c + 1) 1), (13, ownV true 3 0 a.2.2.length 4), (70, .int .i64 n10), (71, .int .i64 a.1)],
              [some (.cells [roV a.2.1.1 a.2.1.2.length (flatE (intE .i64) a.2.1.2)] true), some (.cells (flatE eventE es) false), some (.cells (flatE (intE .i64) T) false), ownB true a.2.2.length (flatE tieE a.2.2), none]))
              (fun a => (a.1 : Int) ≤ n10 ∧ a.2.2.length = a.1 ∧ ∀ t ∈ a.2.2, TieP even T t) (fun a => (n10 - a.1).toNat) (0, (z3, l3), [])
            case hI => exact ⟨by simp only; omega, rfl, fun t h => by simp at h⟩
            case hq => simp only; omega
            case ht => simp -implicitDefEqProofs [liveOf]
            case round =>
              clear hx a1
              rintro ⟨i, ⟨z, m⟩, ts⟩ ⟨hi, hl, hts⟩ _
              simp only at hi hl hts
              by_cases hlt : (i : Int) < n10
              · have hne : ¬ ((c : Int) + 1 = 0) := by omega
                have g1 := nextN_lt m ((c : Int) + 1) (by omega)
                have b1 := next_ok m z ((c : Int) + 1) (by omega) (by omega) (k := k)
                generalize nextN m ((c : Int) + 1) = b at *
                generalize hz1 : (z && m.isEmpty) = z1 at *
                generalize hm1 : m.tail = m1 at *
                have g2 := nextN_lt m1 ((c : Int) + 1 + 1) (by omega)
                have b2 := next_ok m1 z1 ((c : Int) + 1 + 1) (by omega) (by omega) (k := k)
                generalize nextN m1 ((c : Int) + 1 + 1) = a' at *
                obtain ⟨b, rfl⟩ : ∃ j : Nat, b = (j : Int) := ⟨b.toNat, by omega⟩
                have s1 : subI .i64 a' 1 = a' - 1 := subI_i64 (by omega) (by omega)
                obtain ⟨a, rfl⟩ : ∃ a, a' = a + 1 := ⟨a' - 1, by omega⟩
                rw [show a + 1 - 1 = a by omega] at s1
                have s0 : addI .i64 ((c : Int) + 1) 1 = (c : Int) + 1 + 1 := addI_i64 (by omega) (by omega)
                have e7 : addI .i64 (i : Int) 1 = (i : Int) + 1 := addI_i64 (by omega) (by omega)
                have hb1 : (b : Int) < (c : Int) + 1 := g1.2
                have hbT : b < T.length := by omega
                have gB : T.getD b 0 = T[b] := by rw [List.getD_eq_getElem?_getD, List.getElem?_eq_getElem hbT]; rfl
                have rB : 100 ≤ T[b] ∧ T[b] ≤ 499 := by
                  have := hev b (by omega); rw [gB] at this; exact ⟨this.1, this.2.1⟩
                obtain ⟨RB, tB⟩ : ∃ R9, List.drop b (flatE (intE .i64) T) = .int .i64 T[b] :: R9 := by
                  refine ⟨flatE (intE .i64) (T.drop (b + 1)), ?_⟩
                  rw [drop_flatE1 (intE .i64) rfl T b, List.drop_eq_getElem_cons hbT]; rfl
                by_cases hab : a = (b : Int)
                · subst hab
                  have hab : (b : Int) = (b : Int) := rfl
                  cases even with
                  | false =>
                    cases ts with
                    | nil =>
                      generalize hm2 : m1.tail = m2 at *
                      generalize hz2 : (z1 && m1.isEmpty) = z2 at *
                      have g3 := nextN_lt m2 90 (by omega)
                      have a3 := next_ok m2 z2 90 (by omega) (by omega) (k := k)
                      generalize nextN m2 90 = y at *
                      generalize (z2 && m2.isEmpty) = z3 at *
                      generalize m2.tail = m3 at *
                      have f3 : subI .i64 y 45 = y - 45 := subI_i64 (by omega) (by omega)
                      have f4 : addI .i64 (T[b]) (y - 45) = T[b] + (y - 45) := addI_i64 (by omega) (by omega)
                      have g5 := nextN_lt m3 20 (by omega)
                      have a5 := next_ok m3 z3 20 (by omega) (by omega) (k := k)
                      generalize nextN m3 20 = u at *
                      generalize (z3 && m3.isEmpty) = z5 at *
                      generalize m3.tail = m5 at *
                      have g6 := nextN_lt m5 20 (by omega)
                      have a6 := next_ok m5 z5 20 (by omega) (by omega) (k := k)
                      generalize nextN m5 20 = v at *
                      generalize (z5 && m5.isEmpty) = z6 at *
                      generalize m5.tail = m6 at *
                      have f5 : subI .i64 (T[b] + (y - 45)) u = T[b] + (y - 45) - u := subI_i64 (by omega) (by omega)
                      have f6 : addI .i64 (T[b] + (y - 45)) v = T[b] + (y - 45) + v := addI_i64 (by omega) (by omega)
                      have hP : TieP false T ⟨-1, (b : Int), T[b] + (y - 45) - u, T[b] + (y - 45) + v⟩ := by
                        refine ⟨by simp only; omega, by simp only; omega, by simp only; omega, by simp only; omega, by simp only; omega, by simp only; omega, by simp only; omega, by simp only; omega, fun he => ?_⟩
                        cases he
                      have hts2 := mem_snoc hts hP
                      simp -implicitDefEqProofs [hlt, hne, b1, b2, s0, s1, tB, hb1, f5, f6, a5, a6, e7, hc, hc2, hab, a3, f3, f4]
                      exact rnd_next (i + 1, (z6, m6), [⟨-1, (b : Int), T[b] + (y - 45) - u, T[b] + (y - 45) + v⟩]) ⟨by simp only; omega, by simp at hl ⊢; omega, hts2⟩ (by simp only; omega) (by simp -implicitDefEqProofs [liveOf, tieE_f, hc, hc2])
                    | cons t ts' =>
                      obtain ⟨ts, hts'⟩ : ∃ ts, ts = t :: ts' := ⟨_, rfl⟩
                      rw [← hts'] at hl hts ⊢
                      obtain ⟨p, hq⟩ : ∃ p, ts.length = p + 1 := ⟨ts'.length, by rw [hts']; rfl⟩
                      clear hts'
                      have hbb : (p + 1 + 1) * 32 ≤ 140737488355328 := by omega
                      generalize hm2 : m1.tail = m2 at *
                      generalize hz2 : (z1 && m1.isEmpty) = z2 at *
                      have g3 := nextN_lt m2 90 (by omega)
                      have a3 := next_ok m2 z2 90 (by omega) (by omega) (k := k)
                      generalize nextN m2 90 = y at *
                      generalize (z2 && m2.isEmpty) = z3 at *
                      generalize m2.tail = m3 at *
                      have f3 : subI .i64 y 45 = y - 45 := subI_i64 (by omega) (by omega)
                      have f4 : addI .i64 (T[b]) (y - 45) = T[b] + (y - 45) := addI_i64 (by omega) (by omega)
                      have g5 := nextN_lt m3 20 (by omega)
                      have a5 := next_ok m3 z3 20 (by omega) (by omega) (k := k)
                      generalize nextN m3 20 = u at *
                      generalize (z3 && m3.isEmpty) = z5 at *
                      generalize m3.tail = m5 at *
                      have g6 := nextN_lt m5 20 (by omega)
                      have a6 := next_ok m5 z5 20 (by omega) (by omega) (k := k)
                      generalize nextN m5 20 = v at *
                      generalize (z5 && m5.isEmpty) = z6 at *
                      generalize m5.tail = m6 at *
                      have f5 : subI .i64 (T[b] + (y - 45)) u = T[b] + (y - 45) - u := subI_i64 (by omega) (by omega)
                      have f6 : addI .i64 (T[b] + (y - 45)) v = T[b] + (y - 45) + v := addI_i64 (by omega) (by omega)
                      have hP : TieP false T ⟨-1, (b : Int), T[b] + (y - 45) - u, T[b] + (y - 45) + v⟩ := by
                        refine ⟨by simp only; omega, by simp only; omega, by simp only; omega, by simp only; omega, by simp only; omega, by simp only; omega, by simp only; omega, by simp only; omega, fun he => ?_⟩
                        cases he
                      have hts2 := mem_snoc hts hP
                      simp -implicitDefEqProofs [hlt, hne, b1, b2, s0, s1, tB, hb1, f5, f6, a5, a6, e7, hc, hc2, hab, a3, f3, f4, hbb, hq]
                      exact rnd_next (i + 1, (z6, m6), ts ++ [⟨-1, (b : Int), T[b] + (y - 45) - u, T[b] + (y - 45) + v⟩]) ⟨by simp only; omega, by simp; omega, hts2⟩ (by simp only; omega) (by simp -implicitDefEqProofs [liveOf, tieE_f, hc, hc2, hq])
                  | true =>
                    cases ts with
                    | nil =>
                      generalize hm2 : m1.tail = m2 at *
                      generalize hz2 : (z1 && m1.isEmpty) = z2 at *
                      have g5 := nextN_lt m2 20 (by omega)
                      have a5 := next_ok m2 z2 20 (by omega) (by omega) (k := k)
                      generalize nextN m2 20 = u at *
                      generalize (z2 && m2.isEmpty) = z5 at *
                      generalize m2.tail = m5 at *
                      have g6 := nextN_lt m5 20 (by omega)
                      have a6 := next_ok m5 z5 20 (by omega) (by omega) (k := k)
                      generalize nextN m5 20 = v at *
                      generalize (z5 && m5.isEmpty) = z6 at *
                      generalize m5.tail = m6 at *
                      have f5 : subI .i64 (T[b]) u = T[b] - u := subI_i64 (by omega) (by omega)
                      have f6 : addI .i64 (T[b]) v = T[b] + v := addI_i64 (by omega) (by omega)
                      have hP : TieP true T ⟨-1, (b : Int), T[b] - u, T[b] + v⟩ := by
                        refine ⟨by simp only; omega, by simp only; omega, by simp only; omega, by simp only; omega, by simp only; omega, by simp only; omega, by simp only; omega, by simp only; omega, fun he => ?_⟩
                        simp only [Int.toNat_natCast]
                        rw [gB]
                        have hneg : (-1 : Int) < 0 := by omega
                        simp only [hneg, if_true, if_false]
                        omega
                      have hts2 := mem_snoc hts hP
                      simp -implicitDefEqProofs [hlt, hne, b1, b2, s0, s1, tB, hb1, f5, f6, a5, a6, e7, hc, hc2, hab]
                      exact rnd_next (i + 1, (z6, m6), [⟨-1, (b : Int), T[b] - u, T[b] + v⟩]) ⟨by simp only; omega, by simp at hl ⊢; omega, hts2⟩ (by simp only; omega) (by simp -implicitDefEqProofs [liveOf, tieE_f, hc, hc2])
                    | cons t ts' =>
                      obtain ⟨ts, hts'⟩ : ∃ ts, ts = t :: ts' := ⟨_, rfl⟩
                      rw [← hts'] at hl hts ⊢
                      obtain ⟨p, hq⟩ : ∃ p, ts.length = p + 1 := ⟨ts'.length, by rw [hts']; rfl⟩
                      clear hts'
                      have hbb : (p + 1 + 1) * 32 ≤ 140737488355328 := by omega
                      generalize hm2 : m1.tail = m2 at *
                      generalize hz2 : (z1 && m1.isEmpty) = z2 at *
                      have g5 := nextN_lt m2 20 (by omega)
                      have a5 := next_ok m2 z2 20 (by omega) (by omega) (k := k)
                      generalize nextN m2 20 = u at *
                      generalize (z2 && m2.isEmpty) = z5 at *
                      generalize m2.tail = m5 at *
                      have g6 := nextN_lt m5 20 (by omega)
                      have a6 := next_ok m5 z5 20 (by omega) (by omega) (k := k)
                      generalize nextN m5 20 = v at *
                      generalize (z5 && m5.isEmpty) = z6 at *
                      generalize m5.tail = m6 at *
                      have f5 : subI .i64 (T[b]) u = T[b] - u := subI_i64 (by omega) (by omega)
                      have f6 : addI .i64 (T[b]) v = T[b] + v := addI_i64 (by omega) (by omega)
                      have hP : TieP true T ⟨-1, (b : Int), T[b] - u, T[b] + v⟩ := by
                        refine ⟨by simp only; omega, by simp only; omega, by simp only; omega, by simp only; omega, by simp only; omega, by simp only; omega, by simp only; omega, by simp only; omega, fun he => ?_⟩
                        simp only [Int.toNat_natCast]
                        rw [gB]
                        have hneg : (-1 : Int) < 0 := by omega
                        simp only [hneg, if_true, if_false]
                        omega
                      have hts2 := mem_snoc hts hP
                      simp -implicitDefEqProofs [hlt, hne, b1, b2, s0, s1, tB, hb1, f5, f6, a5, a6, e7, hc, hc2, hab, hbb, hq]
                      exact rnd_next (i + 1, (z6, m6), ts ++ [⟨-1, (b : Int), T[b] - u, T[b] + v⟩]) ⟨by simp only; omega, by simp; omega, hts2⟩ (by simp only; omega) (by simp -implicitDefEqProofs [liveOf, tieE_f, hc, hc2, hq])
                · by_cases hj0 : 0 ≤ a
                  · obtain ⟨j, rfl⟩ : ∃ j : Nat, a = (j : Int) := ⟨a.toNat, by omega⟩
                    have hjT : j < T.length := by omega
                    have hj1 : (j : Int) < (c : Int) + 1 := by omega
                    have gA : T.getD j 0 = T[j] := by rw [List.getD_eq_getElem?_getD, List.getElem?_eq_getElem hjT]; rfl
                    have rA : 100 ≤ T[j] ∧ T[j] ≤ 499 := by
                      have := hev j (by omega); rw [gA] at this; exact ⟨this.1, this.2.1⟩
                    obtain ⟨RA, tA⟩ : ∃ R9, List.drop j (flatE (intE .i64) T) = .int .i64 T[j] :: R9 := by
                      refine ⟨flatE (intE .i64) (T.drop (j + 1)), ?_⟩
                      rw [drop_flatE1 (intE .i64) rfl T j, List.drop_eq_getElem_cons hjT]; rfl
                    cases even with
                    | false =>
                      cases ts with
                      | nil =>
                        generalize hm2 : m1.tail = m2 at *
                        generalize hz2 : (z1 && m1.isEmpty) = z2 at *
                        have g3 := nextN_lt m2 90 (by omega)
                        have a3 := next_ok m2 z2 90 (by omega) (by omega) (k := k)
                        generalize nextN m2 90 = y at *
                        generalize (z2 && m2.isEmpty) = z3 at *
                        generalize m2.tail = m3 at *
                        have f3 : subI .i64 y 45 = y - 45 := subI_i64 (by omega) (by omega)
                        have f4 : addI .i64 (T[b] - T[j]) (y - 45) = T[b] - T[j] + (y - 45) := addI_i64 (by omega) (by omega)
                        have g5 := nextN_lt m3 20 (by omega)
                        have a5 := next_ok m3 z3 20 (by omega) (by omega) (k := k)
                        generalize nextN m3 20 = u at *
                        generalize (z3 && m3.isEmpty) = z5 at *
                        generalize m3.tail = m5 at *
                        have g6 := nextN_lt m5 20 (by omega)
                        have a6 := next_ok m5 z5 20 (by omega) (by omega) (k := k)
                        generalize nextN m5 20 = v at *
                        generalize (z5 && m5.isEmpty) = z6 at *
                        generalize m5.tail = m6 at *
                        have f2 : subI .i64 T[b] T[j] = T[b] - T[j] := subI_i64 (by omega) (by omega)
                        have f5 : subI .i64 (T[b] - T[j] + (y - 45)) u = T[b] - T[j] + (y - 45) - u := subI_i64 (by omega) (by omega)
                        have f6 : addI .i64 (T[b] - T[j] + (y - 45)) v = T[b] - T[j] + (y - 45) + v := addI_i64 (by omega) (by omega)
                        have hP : TieP false T ⟨(j : Int), (b : Int), T[b] - T[j] + (y - 45) - u, T[b] - T[j] + (y - 45) + v⟩ := by
                          refine ⟨by simp only; omega, by simp only; omega, by simp only; omega, by simp only; omega, by simp only; omega, by simp only; omega, by simp only; omega, by simp only; omega, fun he => ?_⟩
                          cases he
                        have hts2 := mem_snoc hts hP
                        simp -implicitDefEqProofs [hlt, hne, b1, b2, s0, s1, tB, hb1, f5, f6, a5, a6, e7, hc, hc2, hab, tA, hj1, hj0, f2, a3, f3, f4]
                        exact rnd_next (i + 1, (z6, m6), [⟨(j : Int), (b : Int), T[b] - T[j] + (y - 45) - u, T[b] - T[j] + (y - 45) + v⟩]) ⟨by simp only; omega, by simp at hl ⊢; omega, hts2⟩ (by simp only; omega) (by simp -implicitDefEqProofs [liveOf, tieE_f, hc, hc2])
                      | cons t ts' =>
                        obtain ⟨ts, hts'⟩ : ∃ ts, ts = t :: ts' := ⟨_, rfl⟩
                        rw [← hts'] at hl hts ⊢
                        obtain ⟨p, hq⟩ : ∃ p, ts.length = p + 1 := ⟨ts'.length, by rw [hts']; rfl⟩
                        clear hts'
                        have hbb : (p + 1 + 1) * 32 ≤ 140737488355328 := by omega
                        generalize hm2 : m1.tail = m2 at *
                        generalize hz2 : (z1 && m1.isEmpty) = z2 at *
                        have g3 := nextN_lt m2 90 (by omega)
                        have a3 := next_ok m2 z2 90 (by omega) (by omega) (k := k)
                        generalize nextN m2 90 = y at *
                        generalize (z2 && m2.isEmpty) = z3 at *
                        generalize m2.tail = m3 at *
                        have f3 : subI .i64 y 45 = y - 45 := subI_i64 (by omega) (by omega)
                        have f4 : addI .i64 (T[b] - T[j]) (y - 45) = T[b] - T[j] + (y - 45) := addI_i64 (by omega) (by omega)
                        have g5 := nextN_lt m3 20 (by omega)
                        have a5 := next_ok m3 z3 20 (by omega) (by omega) (k := k)
                        generalize nextN m3 20 = u at *
                        generalize (z3 && m3.isEmpty) = z5 at *
                        generalize m3.tail = m5 at *
                        have g6 := nextN_lt m5 20 (by omega)
                        have a6 := next_ok m5 z5 20 (by omega) (by omega) (k := k)
                        generalize nextN m5 20 = v at *
                        generalize (z5 && m5.isEmpty) = z6 at *
                        generalize m5.tail = m6 at *
                        have f2 : subI .i64 T[b] T[j] = T[b] - T[j] := subI_i64 (by omega) (by omega)
                        have f5 : subI .i64 (T[b] - T[j] + (y - 45)) u = T[b] - T[j] + (y - 45) - u := subI_i64 (by omega) (by omega)
                        have f6 : addI .i64 (T[b] - T[j] + (y - 45)) v = T[b] - T[j] + (y - 45) + v := addI_i64 (by omega) (by omega)
                        have hP : TieP false T ⟨(j : Int), (b : Int), T[b] - T[j] + (y - 45) - u, T[b] - T[j] + (y - 45) + v⟩ := by
                          refine ⟨by simp only; omega, by simp only; omega, by simp only; omega, by simp only; omega, by simp only; omega, by simp only; omega, by simp only; omega, by simp only; omega, fun he => ?_⟩
                          cases he
                        have hts2 := mem_snoc hts hP
                        simp -implicitDefEqProofs [hlt, hne, b1, b2, s0, s1, tB, hb1, f5, f6, a5, a6, e7, hc, hc2, hab, tA, hj1, hj0, f2, a3, f3, f4, hbb, hq]
                        exact rnd_next (i + 1, (z6, m6), ts ++ [⟨(j : Int), (b : Int), T[b] - T[j] + (y - 45) - u, T[b] - T[j] + (y - 45) + v⟩]) ⟨by simp only; omega, by simp; omega, hts2⟩ (by simp only; omega) (by simp -implicitDefEqProofs [liveOf, tieE_f, hc, hc2, hq])
                    | true =>
                      cases ts with
                      | nil =>
                        generalize hm2 : m1.tail = m2 at *
                        generalize hz2 : (z1 && m1.isEmpty) = z2 at *
                        have g5 := nextN_lt m2 20 (by omega)
                        have a5 := next_ok m2 z2 20 (by omega) (by omega) (k := k)
                        generalize nextN m2 20 = u at *
                        generalize (z2 && m2.isEmpty) = z5 at *
                        generalize m2.tail = m5 at *
                        have g6 := nextN_lt m5 20 (by omega)
                        have a6 := next_ok m5 z5 20 (by omega) (by omega) (k := k)
                        generalize nextN m5 20 = v at *
                        generalize (z5 && m5.isEmpty) = z6 at *
                        generalize m5.tail = m6 at *
                        have f2 : subI .i64 T[b] T[j] = T[b] - T[j] := subI_i64 (by omega) (by omega)
                        have f5 : subI .i64 (T[b] - T[j]) u = T[b] - T[j] - u := subI_i64 (by omega) (by omega)
                        have f6 : addI .i64 (T[b] - T[j]) v = T[b] - T[j] + v := addI_i64 (by omega) (by omega)
                        have hP : TieP true T ⟨(j : Int), (b : Int), T[b] - T[j] - u, T[b] - T[j] + v⟩ := by
                          refine ⟨by simp only; omega, by simp only; omega, by simp only; omega, by simp only; omega, by simp only; omega, by simp only; omega, by simp only; omega, by simp only; omega, fun he => ?_⟩
                          simp only [Int.toNat_natCast]
                          rw [gB, gA]
                          have hneg : ¬ (j : Int) < 0 := by omega
                          simp only [hneg, if_true, if_false]
                          omega
                        have hts2 := mem_snoc hts hP
                        simp -implicitDefEqProofs [hlt, hne, b1, b2, s0, s1, tB, hb1, f5, f6, a5, a6, e7, hc, hc2, hab, tA, hj1, hj0, f2]
                        exact rnd_next (i + 1, (z6, m6), [⟨(j : Int), (b : Int), T[b] - T[j] - u, T[b] - T[j] + v⟩]) ⟨by simp only; omega, by simp at hl ⊢; omega, hts2⟩ (by simp only; omega) (by simp -implicitDefEqProofs [liveOf, tieE_f, hc, hc2])
                      | cons t ts' =>
                        obtain ⟨ts, hts'⟩ : ∃ ts, ts = t :: ts' := ⟨_, rfl⟩
                        rw [← hts'] at hl hts ⊢
                        obtain ⟨p, hq⟩ : ∃ p, ts.length = p + 1 := ⟨ts'.length, by rw [hts']; rfl⟩
                        clear hts'
                        have hbb : (p + 1 + 1) * 32 ≤ 140737488355328 := by omega
                        generalize hm2 : m1.tail = m2 at *
                        generalize hz2 : (z1 && m1.isEmpty) = z2 at *
                        have g5 := nextN_lt m2 20 (by omega)
                        have a5 := next_ok m2 z2 20 (by omega) (by omega) (k := k)
                        generalize nextN m2 20 = u at *
                        generalize (z2 && m2.isEmpty) = z5 at *
                        generalize m2.tail = m5 at *
                        have g6 := nextN_lt m5 20 (by omega)
                        have a6 := next_ok m5 z5 20 (by omega) (by omega) (k := k)
                        generalize nextN m5 20 = v at *
                        generalize (z5 && m5.isEmpty) = z6 at *
                        generalize m5.tail = m6 at *
                        have f2 : subI .i64 T[b] T[j] = T[b] - T[j] := subI_i64 (by omega) (by omega)
                        have f5 : subI .i64 (T[b] - T[j]) u = T[b] - T[j] - u := subI_i64 (by omega) (by omega)
                        have f6 : addI .i64 (T[b] - T[j]) v = T[b] - T[j] + v := addI_i64 (by omega) (by omega)
                        have hP : TieP true T ⟨(j : Int), (b : Int), T[b] - T[j] - u, T[b] - T[j] + v⟩ := by
                          refine ⟨by simp only; omega, by simp only; omega, by simp only; omega, by simp only; omega, by simp only; omega, by simp only; omega, by simp only; omega, by simp only; omega, fun he => ?_⟩
                          simp only [Int.toNat_natCast]
                          rw [gB, gA]
                          have hneg : ¬ (j : Int) < 0 := by omega
                          simp only [hneg, if_true, if_false]
                          omega
                        have hts2 := mem_snoc hts hP
                        simp -implicitDefEqProofs [hlt, hne, b1, b2, s0, s1, tB, hb1, f5, f6, a5, a6, e7, hc, hc2, hab, tA, hj1, hj0, f2, hbb, hq]
                        exact rnd_next (i + 1, (z6, m6), ts ++ [⟨(j : Int), (b : Int), T[b] - T[j] - u, T[b] - T[j] + v⟩]) ⟨by simp only; omega, by simp; omega, hts2⟩ (by simp only; omega) (by simp -implicitDefEqProofs [liveOf, tieE_f, hc, hc2, hq])
                  · have hm1 : a < 0 := by omega
                    cases even with
                    | false =>
                      cases ts with
                      | nil =>
                        generalize hm2 : m1.tail = m2 at *
                        generalize hz2 : (z1 && m1.isEmpty) = z2 at *
                        have g3 := nextN_lt m2 90 (by omega)
                        have a3 := next_ok m2 z2 90 (by omega) (by omega) (k := k)
                        generalize nextN m2 90 = y at *
                        generalize (z2 && m2.isEmpty) = z3 at *
                        generalize m2.tail = m3 at *
                        have f3 : subI .i64 y 45 = y - 45 := subI_i64 (by omega) (by omega)
                        have f4 : addI .i64 (T[b]) (y - 45) = T[b] + (y - 45) := addI_i64 (by omega) (by omega)
                        have g5 := nextN_lt m3 20 (by omega)
                        have a5 := next_ok m3 z3 20 (by omega) (by omega) (k := k)
                        generalize nextN m3 20 = u at *
                        generalize (z3 && m3.isEmpty) = z5 at *
                        generalize m3.tail = m5 at *
                        have g6 := nextN_lt m5 20 (by omega)
                        have a6 := next_ok m5 z5 20 (by omega) (by omega) (k := k)
                        generalize nextN m5 20 = v at *
                        generalize (z5 && m5.isEmpty) = z6 at *
                        generalize m5.tail = m6 at *
                        have f5 : subI .i64 (T[b] + (y - 45)) u = T[b] + (y - 45) - u := subI_i64 (by omega) (by omega)
                        have f6 : addI .i64 (T[b] + (y - 45)) v = T[b] + (y - 45) + v := addI_i64 (by omega) (by omega)
                        have hP : TieP false T ⟨a, (b : Int), T[b] + (y - 45) - u, T[b] + (y - 45) + v⟩ := by
                          refine ⟨by simp only; omega, by simp only; omega, by simp only; omega, by simp only; omega, by simp only; omega, by simp only; omega, by simp only; omega, by simp only; omega, fun he => ?_⟩
                          cases he
                        have hts2 := mem_snoc hts hP
                        simp -implicitDefEqProofs [hlt, hne, b1, b2, s0, s1, tB, hb1, f5, f6, a5, a6, e7, hc, hc2, hab, hj0, a3, f3, f4]
                        exact rnd_next (i + 1, (z6, m6), [⟨a, (b : Int), T[b] + (y - 45) - u, T[b] + (y - 45) + v⟩]) ⟨by simp only; omega, by simp at hl ⊢; omega, hts2⟩ (by simp only; omega) (by simp -implicitDefEqProofs [liveOf, tieE_f, hc, hc2])
                      | cons t ts' =>
                        obtain ⟨ts, hts'⟩ : ∃ ts, ts = t :: ts' := ⟨_, rfl⟩
                        rw [← hts'] at hl hts ⊢
                        obtain ⟨p, hq⟩ : ∃ p, ts.length = p + 1 := ⟨ts'.length, by rw [hts']; rfl⟩
                        clear hts'
                        have hbb : (p + 1 + 1) * 32 ≤ 140737488355328 := by omega
                        generalize hm2 : m1.tail = m2 at *
                        generalize hz2 : (z1 && m1.isEmpty) = z2 at *
                        have g3 := nextN_lt m2 90 (by omega)
                        have a3 := next_ok m2 z2 90 (by omega) (by omega) (k := k)
                        generalize nextN m2 90 = y at *
                        generalize (z2 && m2.isEmpty) = z3 at *
                        generalize m2.tail = m3 at *
                        have f3 : subI .i64 y 45 = y - 45 := subI_i64 (by omega) (by omega)
                        have f4 : addI .i64 (T[b]) (y - 45) = T[b] + (y - 45) := addI_i64 (by omega) (by omega)
                        have g5 := nextN_lt m3 20 (by omega)
                        have a5 := next_ok m3 z3 20 (by omega) (by omega) (k := k)
                        generalize nextN m3 20 = u at *
                        generalize (z3 && m3.isEmpty) = z5 at *
                        generalize m3.tail = m5 at *
                        have g6 := nextN_lt m5 20 (by omega)
                        have a6 := next_ok m5 z5 20 (by omega) (by omega) (k := k)
                        generalize nextN m5 20 = v at *
                        generalize (z5 && m5.isEmpty) = z6 at *
                        generalize m5.tail = m6 at *
                        have f5 : subI .i64 (T[b] + (y - 45)) u = T[b] + (y - 45) - u := subI_i64 (by omega) (by omega)
                        have f6 : addI .i64 (T[b] + (y - 45)) v = T[b] + (y - 45) + v := addI_i64 (by omega) (by omega)
                        have hP : TieP false T ⟨a, (b : Int), T[b] + (y - 45) - u, T[b] + (y - 45) + v⟩ := by
                          refine ⟨by simp only; omega, by simp only; omega, by simp only; omega, by simp only; omega, by simp only; omega, by simp only; omega, by simp only; omega, by simp only; omega, fun he => ?_⟩
                          cases he
                        have hts2 := mem_snoc hts hP
                        simp -implicitDefEqProofs [hlt, hne, b1, b2, s0, s1, tB, hb1, f5, f6, a5, a6, e7, hc, hc2, hab, hj0, a3, f3, f4, hbb, hq]
                        exact rnd_next (i + 1, (z6, m6), ts ++ [⟨a, (b : Int), T[b] + (y - 45) - u, T[b] + (y - 45) + v⟩]) ⟨by simp only; omega, by simp; omega, hts2⟩ (by simp only; omega) (by simp -implicitDefEqProofs [liveOf, tieE_f, hc, hc2, hq])
                    | true =>
                      cases ts with
                      | nil =>
                        generalize hm2 : m1.tail = m2 at *
                        generalize hz2 : (z1 && m1.isEmpty) = z2 at *
                        have g5 := nextN_lt m2 20 (by omega)
                        have a5 := next_ok m2 z2 20 (by omega) (by omega) (k := k)
                        generalize nextN m2 20 = u at *
                        generalize (z2 && m2.isEmpty) = z5 at *
                        generalize m2.tail = m5 at *
                        have g6 := nextN_lt m5 20 (by omega)
                        have a6 := next_ok m5 z5 20 (by omega) (by omega) (k := k)
                        generalize nextN m5 20 = v at *
                        generalize (z5 && m5.isEmpty) = z6 at *
                        generalize m5.tail = m6 at *
                        have f5 : subI .i64 (T[b]) u = T[b] - u := subI_i64 (by omega) (by omega)
                        have f6 : addI .i64 (T[b]) v = T[b] + v := addI_i64 (by omega) (by omega)
                        have hP : TieP true T ⟨a, (b : Int), T[b] - u, T[b] + v⟩ := by
                          refine ⟨by simp only; omega, by simp only; omega, by simp only; omega, by simp only; omega, by simp only; omega, by simp only; omega, by simp only; omega, by simp only; omega, fun he => ?_⟩
                          simp only [Int.toNat_natCast]
                          rw [gB]
                          have hneg : a < 0 := by omega
                          simp only [hneg, if_true, if_false]
                          omega
                        have hts2 := mem_snoc hts hP
                        simp -implicitDefEqProofs [hlt, hne, b1, b2, s0, s1, tB, hb1, f5, f6, a5, a6, e7, hc, hc2, hab, hj0]
                        exact rnd_next (i + 1, (z6, m6), [⟨a, (b : Int), T[b] - u, T[b] + v⟩]) ⟨by simp only; omega, by simp at hl ⊢; omega, hts2⟩ (by simp only; omega) (by simp -implicitDefEqProofs [liveOf, tieE_f, hc, hc2])
                      | cons t ts' =>
                        obtain ⟨ts, hts'⟩ : ∃ ts, ts = t :: ts' := ⟨_, rfl⟩
                        rw [← hts'] at hl hts ⊢
                        obtain ⟨p, hq⟩ : ∃ p, ts.length = p + 1 := ⟨ts'.length, by rw [hts']; rfl⟩
                        clear hts'
                        have hbb : (p + 1 + 1) * 32 ≤ 140737488355328 := by omega
                        generalize hm2 : m1.tail = m2 at *
                        generalize hz2 : (z1 && m1.isEmpty) = z2 at *
                        have g5 := nextN_lt m2 20 (by omega)
                        have a5 := next_ok m2 z2 20 (by omega) (by omega) (k := k)
                        generalize nextN m2 20 = u at *
                        generalize (z2 && m2.isEmpty) = z5 at *
                        generalize m2.tail = m5 at *
                        have g6 := nextN_lt m5 20 (by omega)
                        have a6 := next_ok m5 z5 20 (by omega) (by omega) (k := k)
                        generalize nextN m5 20 = v at *
                        generalize (z5 && m5.isEmpty) = z6 at *
                        generalize m5.tail = m6 at *
                        have f5 : subI .i64 (T[b]) u = T[b] - u := subI_i64 (by omega) (by omega)
                        have f6 : addI .i64 (T[b]) v = T[b] + v := addI_i64 (by omega) (by omega)
                        have hP : TieP true T ⟨a, (b : Int), T[b] - u, T[b] + v⟩ := by
                          refine ⟨by simp only; omega, by simp only; omega, by simp only; omega, by simp only; omega, by simp only; omega, by simp only; omega, by simp only; omega, by simp only; omega, fun he => ?_⟩
                          simp only [Int.toNat_natCast]
                          rw [gB]
                          have hneg : a < 0 := by omega
                          simp only [hneg, if_true, if_false]
                          omega
                        have hts2 := mem_snoc hts hP
                        simp -implicitDefEqProofs [hlt, hne, b1, b2, s0, s1, tB, hb1, f5, f6, a5, a6, e7, hc, hc2, hab, hj0, hbb, hq]
                        exact rnd_next (i + 1, (z6, m6), ts ++ [⟨a, (b : Int), T[b] - u, T[b] + v⟩]) ⟨by simp only; omega, by simp; omega, hts2⟩ (by simp only; omega) (by simp -implicitDefEqProofs [liveOf, tieE_f, hc, hc2, hq])
              · have hM : Made even E T es ts := ⟨hEl, hEr, hTe, hn8, by omega, hev, hts⟩
                cases ts with
                | nil =>
                  simp -implicitDefEqProofs [hlt, hc, hc2]
                  exact ⟨E, T, es, [], hM, by simp -implicitDefEqProofs [hc]⟩
                | cons t ts' =>
                  obtain ⟨ts, hts'⟩ : ∃ ts, ts = t :: ts' := ⟨_, rfl⟩
                  rw [← hts'] at hM ⊢
                  obtain ⟨p, hq⟩ : ∃ p, ts.length = p + 1 := ⟨ts'.length, by rw [hts']; rfl⟩
                  clear hts'
                  simp -implicitDefEqProofs [hlt, hc, hc2, hq]
                  exact ⟨E, T, es, ts, hM, by simp -implicitDefEqProofs [hc, hq]⟩
end Go.Ev.Tryd
