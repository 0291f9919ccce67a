/-
  THE SEAL SEAT: Holders, Whole, right chains, Equal (own work).
-/
import Derived.Test.YtcpojjjdglhhcaaDoorSgS
set_option linter.unusedSimpArgs false
set_option linter.unusedVariables false
set_option maxRecDepth 100000
set_option maxHeartbeats 4000000
namespace Go.Ev.Tryd
open Go Go.Ev Go.Proofs

def held (x : Entry) : List ByteArray := if x.kind = 0 then [x.who] else if x.kind = 1 then [x.to] else []
def holders (l : List Entry) : List ByteArray := l.flatMap held
theorem holders_snoc (l : List Entry) (i : Nat) (h : i < l.length) : holders (l.take (i + 1)) = holders (l.take i) ++ held l[i] := by
  rw [List.take_succ_eq_append_getElem h]
  unfold holders
  rw [List.flatMap_append]
  simp
theorem held_length (x : Entry) : (held x).length ≤ 1 := by
  unfold held
  split
  · simp
  · split <;> simp
theorem holders_length (l : List Entry) : (holders l).length ≤ l.length := by
  induction l with
  | nil => simp [holders]
  | cons x l ih =>
    have := held_length x
    unfold holders at *
    rw [List.flatMap_cons, List.length_append, List.length_cons]
    omega

theorem holders_ok (l : List Entry) (z : Bool) (hl : okL l) (h0 : (check l).2.2 = 0) (h100 : l.length ≤ 100) {k : Nat} (hk : 700 + szL l ≤ k) :
    evF Tryd.prog Γ (k + 1) 9 [roV z l.length (flatE entryE l)] [] = some (.tup [ownV true 0 0 (holders l).length 1, .int .i64 0], [ownB true (holders l).length (flatE strE (holders l))]) := by
  obtain ⟨k, rfl⟩ : ∃ j, k = j + 1 := ⟨k - 1, by omega⟩
  have c1 := check_ok l z hl (k := k) (by omega)
  rw [b9 (fun _ _ => rfl) _ _ (by simp)]
  generalize check l = T at *
  obtain ⟨st, n, e⟩ := T
  simp only at h0
  subst h0
  simp only [stateE_f] at c1
  simp -implicitDefEqProofs [c1]
  generalize hx : evLoopC _ _ _ _ _ _ _ _ _ _ = R
  apply loop_gen hx (fun a : Nat × List ByteArray => (mkL 43 .junk [(2, .nils), (3, .int .i64 0), (7, ownV true 1 0 a.2.length 1), (19, roV z l.length (flatE entryE l)), (20, .int .i64 l.length), (21, .int .i64 a.1)],
      [none, ownB true a.2.length (flatE strE a.2), none]))
    (fun a => a.1 ≤ l.length ∧ a.2 = holders (l.take a.1)) (fun a => l.length - a.1) (0, [])
  case hI => simp [holders]
  case hq => simp only; omega
  case ht => simp -implicitDefEqProofs [liveOf]
  case round =>
    rintro ⟨i, A⟩ ⟨hi, hA⟩ _
    simp only at hi hA
    clear hx
    by_cases hlt : i < l.length
    · have e2 : addI .i64 (i : Int) 1 = (i : Int) + 1 := addI_i64 (by omega) (by omega)
      have hs := holders_snoc l i hlt
      have hlen := holders_length (l.take i)
      have hlen2 : (l.take i).length ≤ l.length := by rw [List.length_take]; omega
      have hb : (A.length + 1) * 16 ≤ 140737488355328 := by rw [hA]; omega
      rw [← hA] at hs
      have fin : ∀ B, A ++ held l[i] = B → ((i + 1, B) : Nat × List ByteArray).1 ≤ l.length ∧ ((i + 1, B) : Nat × List ByteArray).2 = holders (l.take (i + 1, B).1) := fun B h => ⟨hlt, by rw [← h]; exact hs.symm⟩
      clear hA hs hlen
      by_cases h1 : l[i].kind = 0
      · cases A with
        | nil =>
          simp -implicitDefEqProofs [hlt, e2, entryE_f, h1]
          exact rnd_next (i + 1, [l[i].who]) (fin _ (by simp [held, h1])) (by simp only; omega) (by simp -implicitDefEqProofs [liveOf])
        | cons a A =>
          simp at hb
          simp -implicitDefEqProofs [hlt, e2, entryE_f, h1, hb]
          exact rnd_next (i + 1, a :: A ++ [l[i].who]) (fin _ (by simp [held, h1])) (by simp only; omega) (by simp -implicitDefEqProofs [liveOf])
      · by_cases h2 : l[i].kind = 1
        · cases A with
          | nil =>
            simp -implicitDefEqProofs [hlt, e2, entryE_f, h2]
            exact rnd_next (i + 1, [l[i].to]) (fin _ (by simp [held, h2])) (by simp only; omega) (by simp -implicitDefEqProofs [liveOf])
          | cons a A =>
            simp at hb
            simp -implicitDefEqProofs [hlt, e2, entryE_f, h2, hb]
            exact rnd_next (i + 1, a :: A ++ [l[i].to]) (fin _ (by simp [held, h2])) (by simp only; omega) (by simp -implicitDefEqProofs [liveOf])
        · simp -implicitDefEqProofs [hlt, e2, entryE_f, h1, h2]
          refine rnd_next (i + 1, A) (fin _ (by simp [held, h1, h2])) (by simp only; omega) ?_
          cases A <;> simp -implicitDefEqProofs [liveOf]
    · have hi' : i = l.length := by omega
      subst hi'
      rw [List.take_length] at hA
      subst hA
      simp -implicitDefEqProofs
      generalize holders l = A
      cases A <;> simp -implicitDefEqProofs

theorem go_len (l : List Entry) : ∀ (s : State) (i : Nat) (b : Int), (checkGo s i b l).2.2 = 0 → (checkGo s i b l).2.1 = i + l.length := by
  induction l with
  | nil => intro s i b _; simp [checkGo]
  | cons x l ih =>
    intro s i b h
    simp only [checkGo] at h ⊢
    split at h
    · rename_i hn; exact absurd h hn
    · rename_i hn
      rw [if_neg hn]
      split at h
      · simp at h
      · rename_i hs
        rw [if_neg hs, ih _ _ _ h, List.length_cons]
        omega
def lastB (b : Int) (l : List Entry) : Int := match l.getLast? with
  | none => b
  | some x => x.sum
theorem lastB_cons (b : Int) (x : Entry) (l : List Entry) : lastB b (x :: l) = lastB x.sum l := by
  unfold lastB
  rw [List.getLast?_cons]
  cases l.getLast? <;> rfl
theorem go_app (l : List Entry) : ∀ (s : State) (i : Nat) (b : Int) (m : List Entry), (checkGo s i b l).2.2 = 0 → checkGo s i b (l ++ m) = checkGo (checkGo s i b l).1 (i + l.length) (lastB b l) m := by
  induction l with
  | nil => intro s i b m _; simp [checkGo, lastB]
  | cons x l ih =>
    intro s i b m h
    rw [lastB_cons]
    simp only [checkGo, List.cons_append] at h ⊢
    split at h
    · rename_i hn; exact absurd h hn
    · rename_i hn
      rw [if_neg hn, if_neg hn]
      split at h
      · simp at h
      · rename_i hs
        rw [if_neg hs, if_neg hs, ih _ _ _ _ h, List.length_cons]
        congr 1
        omega
theorem go_pre (l : List Entry) : ∀ (s : State) (i : Nat) (b : Int) (m : List Entry), (checkGo s i b (l ++ m)).2.2 = 0 → (checkGo s i b l).2.2 = 0 := by
  induction l with
  | nil => intro s i b m _; simp [checkGo]
  | cons x l ih =>
    intro s i b m h
    simp only [checkGo, List.cons_append] at h ⊢
    split at h
    · rename_i hn; exact absurd h hn
    · rename_i hn
      rw [if_neg hn]
      split at h
      · simp at h
      · rename_i hs
        rw [if_neg hs]
        exact ih _ _ _ _ h

theorem step_sum (s : State) (f : Bool) (x : Entry) (y : Int) : step s f { x with sum := y } = step s f x := rfl
theorem sumS_sum (b : Int) (x : Entry) (y : Int) : sumS b { x with sum := y } = sumS b x := rfl

theorem go_cons (s : State) (i : Nat) (b : Int) (x : Entry) (y : Int) (l : List Entry) (h : (step s (decide (i = 0)) x).2 = 0) :
    checkGo s i b ({ x with sum := y } :: l) = if y ≠ sumS b x then (state0, i, 13) else checkGo (step s (decide (i = 0)) x).1 (i + 1) y l := by
  show (if (step s (decide (i = 0)) x).2 ≠ 0 then (state0, i, (step s (decide (i = 0)) x).2) else if y ≠ sumS b x then (state0, i, 13) else checkGo (step s (decide (i = 0)) x).1 (i + 1) y l) = _
  rw [if_neg (by rw [h]; simp)]
theorem go_head {s : State} {i : Nat} {b : Int} {x : Entry} {l : List Entry} (h : (checkGo s i b (x :: l)).2.2 = 0) : (step s (decide (i = 0)) x).2 = 0 ∧ x.sum = sumS b x := by
  simp only [checkGo] at h
  split at h
  · rename_i hn; exact absurd h hn
  · rename_i hn
    split at h
    · simp at h
    · rename_i hs
      exact ⟨Classical.not_not.1 hn, Classical.not_not.1 hs⟩

/-- A right chain. -/
def Right (l : List Entry) : Prop := okL l ∧ (check l).2.2 = 0 ∧ l.length ≤ 100

theorem Right.go {l : List Entry} (h : Right l) : check l = checkGo state0 0 0 l := by
  unfold check; rw [if_neg (by have := h.2.2; omega)]
theorem Right.len {l : List Entry} (h : Right l) : (check l).2.1 = l.length := by
  have h1 := h.2.1
  rw [h.go] at h1 ⊢
  have := go_len l _ _ _ h1
  omega
/-- An entry more. -/
theorem Right.snoc {l : List Entry} (h : Right l) (x : Entry) (hx : okE x) (h99 : l.length < 100) (hs : (step (check l).1 l.isEmpty x).2 = 0) :
    Right (l ++ [{ x with sum := sumS (lastSum l) x }]) ∧ (check (l ++ [{ x with sum := sumS (lastSum l) x }])).1 = (step (check l).1 l.isEmpty x).1 := by
  have h1 := h.2.1
  have hlen : (l ++ [{ x with sum := sumS (lastSum l) x }]).length ≤ 100 := by simp; omega
  have hE : l.isEmpty = decide (0 + l.length = 0) := by cases l <;> simp
  have hg : check (l ++ [{ x with sum := sumS (lastSum l) x }]) = ((step (check l).1 l.isEmpty x).1, l.length + 1, 0) := by
    unfold check at *
    rw [if_neg (by omega)] at *
    rw [if_neg (by omega)] at *
    rw [go_app _ _ _ _ _ h1]
    rw [hE] at hs ⊢
    rw [go_cons _ _ _ _ _ _ hs]
    have : lastB 0 l = lastSum l := rfl
    rw [this, if_neg (by simp)]
    simp [checkGo]
  refine ⟨⟨fun y hy => ?_, by rw [hg], hlen⟩, by rw [hg]⟩
  rcases List.mem_append.1 hy with hy | hy
  · exact h.1 y hy
  · simp at hy
    subst hy
    exact ⟨hx.kind, hx.time, hx.root, hash_u64 _ _, hx.who, hx.to⟩

def otherRoot (r : Int) (x : Entry) : Bool := decide (x.kind = 3) && !decide (x.root = r)

theorem closure_ok (x : Entry) (l : List Entry) (hl : 0 < l.length) {k : Nat} :
    evF Tryd.prog Γ (k + 1) 25 [.agg (entryE.f x), .ro [.ros l.length (flatE entryE l)]] [] = some (.bool (otherRoot l[0].root x), []) := by
  rw [b25 (fun _ _ => rfl) _ _ (by simp)]
  have hd : List.drop 4 (List.take 6 (flatE entryE l)) = [.int .u64 l[0].root, .int .u64 l[0].sum] := by
    have := at_flatE (n := 6) entryE rfl l 0 hl
    rw [Nat.zero_mul, List.drop_zero] at this
    rw [this]
    rfl
  by_cases h1 : x.kind = 3
  · by_cases h2 : x.root = l[0].root
    · simp -implicitDefEqProofs [entryE_f, otherRoot, h1, h2, hd, hl]
    · simp -implicitDefEqProofs [entryE_f, otherRoot, h1, h2, hd, hl]
  · simp -implicitDefEqProofs [entryE_f, otherRoot, h1]

/-- The first place at which p holds; -1. -/
def idxF (p : Entry → Bool) : Nat → List Entry → Int
  | _, [] => -1
  | i, x :: l => if p x then i else idxF p (i + 1) l
theorem idxF_pos (p : Entry → Bool) : ∀ (l : List Entry) (i : Nat), decide (0 ≤ idxF p i l) = l.any p
  | [], i => by simp [idxF]
  | x :: l, i => by
    simp only [idxF, List.any_cons]
    by_cases h : p x = true
    · simp [h]
    · simp [h, idxF_pos p l (i + 1)]

theorem index_ok (l : List Entry) (p : Entry → Bool) (g : Nat) (c : V) (hg : Γ.plain g = true) (hc : c = .ro [.ros l.length (flatE entryE l)]) {k : Nat} (hk : 1000 < k) (hl : l.length ≤ 1000)
    (hp : ∀ x ∈ l, evF Tryd.prog Γ k g [.agg (entryE.f x), c] [] = some (.bool (p x), [])) :
    evF Tryd.prog Γ (k + 1) 32 [.ros l.length (flatE entryE l), .fn (.func g) [] [c]] [] = some (.int .i64 (idxF p 0 l), []) := by
  rw [b32 (fun _ _ => rfl) _ _ (by simp)]
  subst hc
  have hg2 : g = 22 ∨ g = 41 ∨ g = 35 ∨ g = 36 ∨ g = 37 ∨ g = 44 ∨ g = 45 → False := by
    intro h
    rw [Γ_plain] at hg
    rcases h with h | h | h | h | h | h | h <;> subst h <;> simp at hg
  simp -implicitDefEqProofs
  generalize hx : evLoopC _ _ _ _ _ _ _ _ _ _ = R
  apply loop_gen hx (fun i : Nat => (mkL 19 .junk [(0, .ros l.length (flatE entryE l)), (1, .fn (.func g) [] [.ro [.ros l.length (flatE entryE l)]]), (7, .int .i64 l.length), (8, .int .i64 i)], [none, none]))
    (fun i => i ≤ l.length ∧ idxF p i (l.drop i) = idxF p 0 l) (fun i => l.length - i) 0
  case hI => exact ⟨by simp, by simp⟩
  case hq => omega
  case ht => simp -implicitDefEqProofs [liveOf]
  case round =>
    rintro i ⟨hi, hA⟩ _
    clear hx
    by_cases hlt : i < l.length
    · have e2 : addI .i64 (i : Int) 1 = (i : Int) + 1 := addI_i64 (by omega) (by omega)
      have hpi := hp l[i] (List.getElem_mem hlt)
      rw [List.drop_eq_getElem_cons hlt] at hA
      simp only [idxF] at hA
      cases hb : p l[i] with
      | true =>
        rw [hb, if_pos rfl] at hA
        rw [hb] at hpi
        simp -implicitDefEqProofs [hlt, e2, hpi, hg, ← hA]
      | false =>
        rw [hb, if_neg (by simp)] at hA
        rw [hb] at hpi
        simp -implicitDefEqProofs [hlt, e2, hpi, hg]
        exact rnd_next (i + 1) ⟨hlt, hA⟩ (by omega) (by simp -implicitDefEqProofs [liveOf])
    · have hi' : i = l.length := by omega
      subst hi'
      rw [List.drop_length] at hA
      simp -implicitDefEqProofs [← hA, idxF]

theorem whole_ok (l : List Entry) (hR : Right l) (hl : 0 < l.length) {k : Nat} (hk : 1100 + szL l < k) :
    evF Tryd.prog Γ (k + 1) 13 [.ros l.length (flatE entryE l)] [] = some (.tup [.bool (!l.any (otherRoot l[0].root)), .int .i64 0], []) := by
  obtain ⟨k, rfl⟩ : ∃ j, k = j + 4 := ⟨k - 4, by omega⟩
  have c1 := check_ok l false hR.1 (k := k + 3) (by omega)
  have c2 := index_ok l (otherRoot l[0].root) 25 _ rfl rfl (k := k + 2) (by omega) (by have := hR.2.2; omega) (fun x _ => closure_ok x l hl)
  have h0 := hR.2.1
  have hpos := idxF_pos (otherRoot l[0].root) l 0
  have c3 : evF Tryd.prog Γ (k + 4) 24 [.ros l.length (flatE entryE l), .fn (.func 25) [] [.ro [.ros l.length (flatE entryE l)]]] [] = some (.bool (l.any (otherRoot l[0].root)), []) := by
    rw [b24 (k := k + 3) (fun _ _ => rfl) _ _ (by simp)]
    simp -implicitDefEqProofs [c2, hpos]
  rw [b13 (fun _ _ => rfl) _ _ (by simp)]
  generalize check l = T at *
  obtain ⟨st, n, e⟩ := T
  simp only at h0
  subst h0
  simp only [roV_false, stateE_f] at c1
  simp -implicitDefEqProofs [c1, c3]

theorem whole_nil {k : Nat} (hk : 50 ≤ k) : evF Tryd.prog Γ k 13 [.nils] [] = some (.tup [.bool true, .int .i64 0], []) :=
  evF_mono hk _ _ _ _ (by kernel_rfl)

/-- What EntryFault keeps is what Check has come to. -/
theorem kept_go (l : List Entry) : ∀ (s : State) (i : Nat) (b : Int), (checkGo s i b l).2.2 = 0 →
    l.foldl keep (s.holder, s.opened, s.time) = ((checkGo s i b l).1.holder, (checkGo s i b l).1.opened, (checkGo s i b l).1.time) := by
  induction l with
  | nil => intro s i b _; simp [checkGo]
  | cons x l ih =>
    intro s i b h
    simp only [checkGo] at h ⊢
    split at h
    · rename_i hn; exact absurd h hn
    · rename_i hn
      rw [if_neg hn]
      split at h
      · simp at h
      · rename_i hs
        rw [if_neg hs, ← ih _ _ _ h, List.foldl_cons]
        obtain ⟨e, k0, k5⟩ := step_adv (Classical.not_not.1 hn)
        rw [keep_adv k0 k5, e]
theorem Right.kept {l : List Entry} (h : Right l) : kept l = ((check l).1.holder, (check l).1.opened, (check l).1.time) := by
  have h1 := h.2.1
  rw [h.go] at h1 ⊢
  exact kept_go l state0 0 0 h1

theorem append_full (l : List Entry) (x : Entry) (hl : okL l) (h0 : (check l).2.2 = 0) (h1 : l.length = 100) {k : Nat} (hk : 600 + szL l + szE x ≤ k) :
    evF Tryd.prog Γ (k + 1) 18 [roV true l.length (flatE entryE l), .agg (entryE.f x)] [] = some (.tup [.nils, .int .i64 9], [none]) := by
  obtain ⟨k, rfl⟩ : ∃ j, k = j + 1 := ⟨k - 1, by omega⟩
  have c1 := check_ok l true hl (k := k) (by omega)
  rw [roV_pos (by omega)] at c1 ⊢
  rw [b18 (fun _ _ => rfl) _ _ (by simp)]
  generalize check l = T at *
  obtain ⟨st, n, e⟩ := T
  simp only at h0
  subst h0
  simp only [h1, stateE_f] at c1 ⊢
  simp -implicitDefEqProofs [c1, stateE_f, entryE_f]

theorem guard38 : Tryd.prog.eqGuardType Tryd.prog.depth 38 = false := by kernel_rfl
theorem stood38 : Tryd.prog.stoodInHeld 38 = false := by kernel_rfl
theorem eqv_entry (a : Int) (b c : ByteArray) (d r s : Int) : eqV Tryd.prog 10000 38 (.agg [.int .i64 a, .str b, .str c, .int .i64 d, .int .u64 r, .int .u64 s]) (.agg [.int .i64 a, .str b, .str c, .int .i64 d, .int .u64 r, .int .u64 s]) = some true := by
  rw [show (10000 : Nat) = 9998 + 1 + 1 from rfl]
  simp [eqV, eqFields, aggOf, partV, stood38, eqI_same, eqS_same]
theorem ne_entry (a : Int) (b c : ByteArray) (d r s : Int) : evBin Tryd.prog .neq 38 (.agg [.int .i64 a, .str b, .str c, .int .i64 d, .int .u64 r, .int .u64 s]) (.agg [.int .i64 a, .str b, .str c, .int .i64 d, .int .u64 r, .int .u64 s]) = some (.bool false) := by
  simp only [evBin, noNumV, aggOf, guard38, Option.isNone_some, Bool.false_or, Bool.not_false, Bool.and_self, if_true, eqv_entry, Option.map_some, Bool.not_true]

theorem equal_ok (l : List Entry) (hl : l.length ≤ 1000) {k : Nat} (hk : 1001 < k) :
    evF Tryd.prog Γ (k + 1) 20 [.ros l.length (flatE entryE l), .ros l.length (flatE entryE l)] [] = some (.bool true, []) := by
  rw [b20 (fun _ _ => rfl) _ _ (by simp)]
  simp -implicitDefEqProofs
  generalize hx : evLoopC _ _ _ _ _ _ _ _ _ _ = R
  apply loop_gen hx (fun i : Nat => (mkL 26 .junk [(0, .ros l.length (flatE entryE l)), (1, .ros l.length (flatE entryE l)), (12, .int .i64 l.length), (13, .int .i64 i)], ([none, none] : Heap)))
    (fun i => i ≤ l.length) (fun i => l.length - i) 0
  case hI => omega
  case hq => omega
  case ht => simp -implicitDefEqProofs [liveOf]
  case round =>
    rintro i hi _
    clear hx
    by_cases hlt : i < l.length
    · have e2 : addI .i64 (i : Int) 1 = (i : Int) + 1 := addI_i64 (by omega) (by omega)
      simp -implicitDefEqProofs [hlt, e2, entryE_f, ne_entry]
      exact rnd_next (i + 1) (by exact hlt) (by omega) (by simp -implicitDefEqProofs [liveOf])
    · have hi' : i = l.length := by omega
      subst hi'
      simp -implicitDefEqProofs

theorem equals_ok (l : List ByteArray) (hl : l.length ≤ 1000) {k : Nat} (hk : 1001 < k) :
    evF Tryd.prog Γ (k + 1) 21 [roV true l.length (flatE strE l), roV true l.length (flatE strE l)] [] = some (.bool true, []) := by
  rw [b21 (fun _ _ => rfl) _ _ (by simp)]
  simp -implicitDefEqProofs
  generalize hx : evLoopC _ _ _ _ _ _ _ _ _ _ = R
  apply loop_gen hx (fun i : Nat => (mkL 26 .junk [(0, roV true l.length (flatE strE l)), (1, roV true l.length (flatE strE l)), (12, .int .i64 l.length), (13, .int .i64 i)], ([none, none] : Heap)))
    (fun i => i ≤ l.length) (fun i => l.length - i) 0
  case hI => omega
  case hq => omega
  case ht => simp -implicitDefEqProofs [liveOf]
  case round =>
    rintro i hi _
    clear hx
    by_cases hlt : i < l.length
    · have e2 : addI .i64 (i : Int) 1 = (i : Int) + 1 := addI_i64 (by omega) (by omega)
      simp -implicitDefEqProofs [hlt, e2]
      exact rnd_next (i + 1) (by exact hlt) (by omega) (by simp -implicitDefEqProofs [liveOf])
    · have hi' : i = l.length := by omega
      subst hi'
      simp -implicitDefEqProofs
end Go.Ev.Tryd
