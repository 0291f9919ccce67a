/-
  CODE BY NAMES: a piece of a function's code is named by its place, so that terms stay small (own work).
-/
import Derived.Test.YtnalmdnfoicokaaEv27
set_option linter.unusedSimpArgs false
set_option linter.unusedVariables false
namespace Go.Ev
open Go

/-! ### Slots as what was written into them, the last first -/
def lookD (d : V) : List (Nat × V) → Nat → V
  | [], _ => d
  | (i, v) :: l, j => if j = i then v else lookD d l j
def mkL (n : Nat) (d : V) (l : List (Nat × V)) : List V := (List.range n).map (lookD d l)
@[simp] theorem lookD_nil (d : V) (j : Nat) : lookD d [] j = d := rfl
@[simp] theorem lookD_cons (d : V) (i : Nat) (v : V) (l : List (Nat × V)) (j : Nat) : lookD d ((i, v) :: l) j = if j = i then v else lookD d l j := rfl
@[simp] theorem mkL_length (n : Nat) (d : V) (l : List (Nat × V)) : (mkL n d l).length = n := by simp [mkL]
theorem mkL_get (n : Nat) (d : V) (l : List (Nat × V)) (j : Nat) : (mkL n d l)[j]? = if j < n then some (lookD d l j) else none := by
  unfold mkL
  rw [List.getElem?_map]
  split
  · rename_i h; rw [List.getElem?_range h]; rfl
  · rename_i h; rw [List.getElem?_eq_none (by simpa using h)]; rfl
@[simp] theorem getS_mkL (n : Nat) (d : V) (l : List (Nat × V)) (j : Nat) : getS (mkL n d l) j = if j < n then lookD d l j else .junk := by
  unfold getS
  rw [List.getD_eq_getElem?_getD, mkL_get]
  split <;> rfl
@[simp] theorem putS_mkL (n : Nat) (d : V) (l : List (Nat × V)) (i : Nat) (v : V) : putS (mkL n d l) (some i) v = mkL n d ((i, v) :: l) := by
  unfold putS
  refine List.ext_getElem? fun j => ?_
  simp only [List.getElem?_set, mkL_get, mkL_length, lookD_cons]
  by_cases h : i = j
  · subst h; simp
  · rw [if_neg h, if_neg (Ne.symm h)]
@[simp] theorem putS_none (s : List V) (v : V) : putS s none v = s := rfl
def enumV : Nat → List V → List (Nat × V)
  | _, [] => []
  | i, v :: l => (i, v) :: enumV (i + 1) l
@[simp] theorem enumV_nil (i : Nat) : enumV i [] = [] := rfl
@[simp] theorem enumV_cons (i : Nat) (v : V) (l : List V) : enumV i (v :: l) = (i, v) :: enumV (i + 1) l := rfl
theorem look_enum (d : V) : ∀ (l : List V) (i j : Nat), i ≤ j → lookD d (enumV i l) j = l.getD (j - i) d
  | [], i, j, h => by simp
  | v :: l, i, j, h => by
    simp only [enumV_cons, lookD_cons]
    split
    · rename_i hj; subst hj; simp
    · rename_i hj
      rw [look_enum d l (i + 1) j (by omega)]
      have : j - i = (j - (i + 1)) + 1 := by omega
      rw [this]
      simp
theorem start_mkL (args : List V) (n : Nat) (h : args.length ≤ n) : args ++ List.replicate (n - args.length) V.undef = mkL n V.undef (enumV 0 args) := by
  refine List.ext_getElem? fun j => ?_
  rw [mkL_get, look_enum _ _ _ _ (Nat.zero_le _)]
  rcases Nat.lt_or_ge j args.length with hl | hg
  · rw [List.getElem?_append_left hl, if_pos (by omega)]
    simp [List.getD_eq_getElem?_getD, hl]
  · rw [List.getElem?_append_right hg]
    split
    · rename_i hj
      rw [List.getElem?_replicate, if_pos (by omega)]
      simp [List.getD_eq_getElem?_getD, List.getElem?_eq_none hg]
    · rename_i hj
      rw [List.getElem?_replicate, if_neg (by omega)]

/-- The live slots, in order. -/
def pick (d : V) (l : List (Nat × V)) : List Nat → List (Nat × V)
  | [] => []
  | i :: is => (i, lookD d l i) :: pick d l is
@[simp] theorem pick_nil (d : V) (l : List (Nat × V)) : pick d l [] = [] := rfl
@[simp] theorem pick_cons (d : V) (l : List (Nat × V)) (i : Nat) (is : List Nat) : pick d l (i :: is) = (i, lookD d l i) :: pick d l is := rfl
theorem look_pick (d : V) (l : List (Nat × V)) (j : Nat) : ∀ is : List Nat, lookD .junk (pick d l is) j = if is.contains j then lookD d l j else .junk
  | [] => by simp
  | i :: is => by
    simp only [pick_cons, lookD_cons, look_pick d l j is, List.contains_cons]
    by_cases h : j = i
    · subst h; simp
    · simp [h]
theorem keepLive_mkL (is : List Nat) (n : Nat) (d : V) (l : List (Nat × V)) : keepLive is (mkL n d l) = mkL n .junk (pick d l is) := by
  refine List.ext_getElem? fun j => ?_
  unfold keepLive
  rw [List.getElem?_mapIdx, mkL_get, mkL_get, look_pick]
  split <;> simp
def renA (ρ : Nat → Option Nat) : List (Nat × V) → List (Nat × V)
  | [] => []
  | (i, v) :: l => (i, v.ren ρ) :: renA ρ l
@[simp] theorem renA_nil (ρ : Nat → Option Nat) : renA ρ [] = [] := rfl
@[simp] theorem renA_cons (ρ : Nat → Option Nat) (i : Nat) (v : V) (l : List (Nat × V)) : renA ρ ((i, v) :: l) = (i, v.ren ρ) :: renA ρ l := rfl
theorem look_ren (ρ : Nat → Option Nat) (j : Nat) : ∀ l : List (Nat × V), lookD .junk (renA ρ l) j = (lookD .junk l j).ren ρ
  | [] => by simp [V.ren, V.sub]
  | (i, v) :: l => by
    simp only [renA_cons, lookD_cons, look_ren ρ j l]
    split <;> rfl
theorem renL_mkL (ρ : Nat → Option Nat) (n : Nat) (l : List (Nat × V)) : renL ρ (mkL n .junk l) = mkL n .junk (renA ρ l) := by
  rw [renL_eq]
  refine List.ext_getElem? fun j => ?_
  rw [List.getElem?_map, mkL_get, mkL_get, look_ren]
  split <;> rfl
/-- Slots in order, below n. -/
def asc (n : Nat) : List Nat → Bool
  | [] => true
  | [i] => decide (i < n)
  | i :: j :: l => decide (i < j) && asc n (j :: l)
def leavesA : List (Nat × V) → List (Option Nat)
  | [] => []
  | (_, v) :: l => v.leaves ++ leavesA l
@[simp] theorem leavesA_nil : leavesA [] = [] := rfl
@[simp] theorem leavesA_cons (i : Nat) (v : V) (l : List (Nat × V)) : leavesA ((i, v) :: l) = v.leaves ++ leavesA l := rfl
theorem leavesL_append (a b : List V) : leavesL (a ++ b) = leavesL a ++ leavesL b := by
  induction a with
  | nil => rfl
  | cons v l ih => simp [leavesL, ih]
theorem leaves_part : ∀ (l : List (Nat × V)) (n : Nat) (is : List Nat), l.map (·.1) = is → asc n is = true → ∀ m ≤ n, (∀ i ∈ is, m ≤ i) → leavesL ((List.range' m (n - m)).map (lookD .junk l)) = leavesA l
  | [], n, is, h, ha, m, hm, hl => by
    have : ∀ k j, leavesL ((List.range' j k).map (lookD .junk [])) = [] := by
      intro k
      induction k with
      | zero => intro j; rfl
      | succ k ih => intro j; simp only [List.range'_succ, List.map_cons, leavesL, lookD_nil, V.leaves, ih]; rfl
    exact this _ _
  | (i, v) :: l, n, is, h, ha, m, hm, hl => by
    subst h
    have hin : i < n := by
      clear hl
      revert ha
      cases l with
      | nil => intro ha; simpa [asc] using ha
      | cons p l =>
        intro ha
        have : ∀ (l : List Nat) (i : Nat), asc n (i :: l) = true → i < n := by
          intro l
          induction l with
          | nil => intro i h; simpa [asc] using h
          | cons j l ih => intro i h; simp [asc] at h; have := ih j h.2; omega
        exact this _ _ ha
    have hmi : m ≤ i := hl i (by simp)
    have hup : ∀ j ∈ l.map (·.1), i + 1 ≤ j := by
      have : ∀ (l : List Nat) (i : Nat), asc n (i :: l) = true → ∀ j ∈ l, i + 1 ≤ j := by
        intro l
        induction l with
        | nil => intro i h j hj; cases hj
        | cons a l ih =>
          intro i h j hj
          simp [asc] at h
          rcases List.mem_cons.1 hj with rfl | hj
          · omega
          · have := ih a h.2 j hj; omega
      exact this _ _ ha
    have ha' : asc n (l.map (·.1)) = true := by
      revert ha
      cases l with
      | nil => intro _; rfl
      | cons p l => intro ha; simp [asc] at ha; exact ha.2
    have e1 : n - m = (i - m) + ((n - (i + 1)) + 1) := by omega
    rw [e1, ← List.range'_append_1, List.map_append, leavesL_append, List.range'_succ, List.map_cons]
    have hlow : leavesL ((List.range' m (i - m)).map (lookD .junk ((i, v) :: l))) = [] := by
      have : ∀ k j, j + k ≤ i → leavesL ((List.range' j k).map (lookD .junk ((i, v) :: l))) = [] := by
        intro k
        induction k with
        | zero => intro j _; rfl
        | succ k ih =>
          intro j hj
          have hn : lookD .junk ((i, v) :: l) j = .junk := by
            rw [lookD_cons, if_neg (by omega)]
            have : ∀ l : List (Nat × V), (∀ x ∈ l.map (·.1), j < x) → lookD .junk l j = .junk := by
              intro l
              induction l with
              | nil => intro _; rfl
              | cons p l ih2 => intro hp; obtain ⟨a, b⟩ := p; rw [lookD_cons, if_neg (by have := hp a (by simp); omega)]; exact ih2 fun x hx => hp x (by simp at hx ⊢; exact .inr hx)
            exact this l fun x hx => by have := hup x hx; omega
          simp only [List.range'_succ, List.map_cons, leavesL, hn, V.leaves, List.nil_append]
          exact ih (j + 1) (by omega)
      exact this _ _ (by omega)
    rw [hlow, List.nil_append]
    simp only [leavesL, leavesA_cons]
    have e2 : m + 1 * (i - m) = i := by omega
    have e3 : m + (i - m) = i := by omega
    simp only [e3] at *
    have hv : lookD .junk ((i, v) :: l) i = v := by rw [lookD_cons, if_pos rfl]
    rw [hv]
    congr 1
    have hrest : (List.range' (i + 1) (n - (i + 1))).map (lookD .junk ((i, v) :: l)) = (List.range' (i + 1) (n - (i + 1))).map (lookD .junk l) := by
      refine List.map_congr_left fun j hj => ?_
      have := (List.mem_range'_1.1 hj).1
      rw [lookD_cons, if_neg (by omega)]
    rw [hrest]
    exact leaves_part l n _ rfl ha' (i + 1) (by omega) hup
theorem leavesL_mkL (n : Nat) (l : List (Nat × V)) (h : asc n (l.map (·.1)) = true) : leavesL (mkL n .junk l) = leavesA l := by
  have := leaves_part l n _ rfl h 0 (Nat.zero_le _) (fun _ _ => Nat.zero_le _)
  unfold mkL
  rw [List.range_eq_range']
  exact this
theorem pick_keys (d : V) (l : List (Nat × V)) : ∀ is : List Nat, (pick d l is).map (·.1) = is
  | [] => rfl
  | i :: is => by simp [pick_keys d l is]

attribute [simp] asc
/-- A loop's head, by what was written. -/
@[simp] theorem tidy_mkL {Γ : Env} {f m id n : Nat} {d : V} {l : List (Nat × V)} {H : Heap} {is : List Nat} (h : Γ.live f id = some is) (hc : Γ.cold f id = false) (ha : asc n is = true) :
    tidy Γ f m id (mkL n d l) H = (mkL n .junk (renA (keepOf m (place m H fuelR (rootLeaves m H ++ leavesA (pick d l is)) [])) (pick d l is)), keepHeap m (place m H fuelR (rootLeaves m H ++ leavesA (pick d l is)) []) H) := by
  unfold tidy
  rw [h]
  simp only [hc, Bool.false_eq_true, if_false]
  rw [keepLive_mkL, renL_mkL, leavesL_mkL _ _ (by rw [pick_keys]; exact ha)]

theorem refs_mkL (p : Nat → Bool) (n : Nat) (d : V) (l : List (Nat × V)) (hd : d.refs = []) (hl : (l.all fun x => x.2.refs.all p) = true) : (refsL (mkL n d l)).all p = true := by
  have h1 : ∀ j, ((lookD d l j).refs.all p) = true := by
    intro j
    induction l with
    | nil => simp [hd]
    | cons x l ih =>
      obtain ⟨i, v⟩ := x
      simp only [List.all_cons, Bool.and_eq_true] at hl
      rw [lookD_cons]
      split
      · exact hl.1
      · exact ih hl.2
  have h2 : ∀ is : List Nat, (refsL (is.map (lookD d l))).all p = true := by
    intro is
    induction is with
    | nil => rfl
    | cons j is ih => simp only [List.map_cons, refsL, List.all_append, h1 j, ih]; rfl
  exact h2 _
@[simp] theorem boundedS_mkL (k n : Nat) (d : V) (l : List (Nat × V)) (H : Heap) (hd : d.refs = []) (hl : (l.all fun x => x.2.refs.all (decide <| · < k)) = true) (hH : (H.all fun b => (blkRefs b).all (decide <| · < k)) = true) : boundedS k (mkL n d l) H = true := by
  unfold boundedS
  rw [refs_mkL _ _ _ _ hd hl, hH]
  rfl

def kids : Code → List Code
  | .seq a b => [a, b]
  | .cond _ x y => [x, y]
  | .block _ c => [c]
  | .loop c => [c]
  | .scope c => [c]
  | _ => []
def cAt : List Nat → Code → Code
  | [], c => c
  | i :: p, c => cAt p ((kids c).getD i .skip)
def bodyOf (f : Func) : Code := match f.body with
  | some c => c
  | none => .skip
/-- What a piece is: its kind, a number that it has. -/
def kindOf : Code → Nat × Nat
  | .skip => (0, 0)
  | .region _ _ draw => (1, if draw then 1 else 0)
  | .seq _ _ => (2, 0)
  | .cond _ _ _ => (3, 0)
  | .block id _ => (4, id)
  | .loop _ => (5, 0)
  | .scope _ => (6, 0)
  | .exit id => (7, id)
  | .ret => (8, 0)
  | .label _ => (9, 0)
  | _ => (10, 0)
def opsOf : Code → List Oper
  | .region _ ops _ => ops.toList
  | _ => []
def condOf : Code → Operand
  | .cond c _ _ => c
  | _ => .tmp 0

section
variable {P : Program} {Γ : Env} {call : CallF} {n f m : Nat}

theorem cAt_snoc (p : List Nat) (i : Nat) (c : Code) : cAt (p ++ [i]) c = (kids (cAt p c)).getD i .skip := by
  induction p generalizing c with
  | nil => rfl
  | cons j p ih => exact ih _

theorem at_seq {p p0 p1 : List Nat} {c : Code} (h : kindOf (cAt p c) = (2, 0)) (h0 : p0 = p ++ [0]) (h1 : p1 = p ++ [1]) (s : List V) (H : Heap) :
    evCode P Γ call n f m (cAt p c) s H = seqNext P Γ call n f m (cAt p1 c) (evCode P Γ call n f m (cAt p0 c) s H) := by
  subst h0 h1
  rw [cAt_snoc, cAt_snoc]
  generalize cAt p c = d at *
  cases d <;> simp [kindOf] at h
  rfl
theorem at_cond {p p0 p1 : List Nat} {c : Code} {o : Operand} (h : kindOf (cAt p c) = (3, 0)) (ho : condOf (cAt p c) = o) (h0 : p0 = p ++ [0]) (h1 : p1 = p ++ [1]) (s : List V) (H : Heap) :
    evCode P Γ call n f m (cAt p c) s H = condW P Γ call n f m (cAt p0 c) (cAt p1 c) s H (evOperand Γ s o) := by
  subst h0 h1
  rw [cAt_snoc, cAt_snoc]
  generalize cAt p c = d at *
  cases d <;> simp [kindOf] at h
  rw [evCode_cond, ← ho]
  rfl
theorem at_block {p p0 : List Nat} {c : Code} {id : Nat} (h : kindOf (cAt p c) = (4, id)) (h0 : p0 = p ++ [0]) (s : List V) (H : Heap) :
    evCode P Γ call n f m (cAt p c) s H = blockNext id (evCode P Γ call n f m (cAt p0 c) s H) := by
  subst h0
  rw [cAt_snoc]
  generalize cAt p c = d at *
  cases d <;> simp [kindOf] at h
  subst h
  rfl
theorem at_loop {p p0 : List Nat} {c : Code} (h : kindOf (cAt p c) = (5, 0)) (h0 : p0 = p ++ [0]) (s : List V) (H : Heap) :
    evCode P Γ call n f m (cAt p c) s H = evLoopC P Γ call n f m (cAt p0 c) n s H := by
  subst h0
  rw [cAt_snoc]
  generalize cAt p c = d at *
  cases d <;> simp [kindOf] at h
  rfl
theorem at_scope {p p0 : List Nat} {c : Code} (h : kindOf (cAt p c) = (6, 0)) (h0 : p0 = p ++ [0]) (s : List V) (H : Heap) :
    evCode P Γ call n f m (cAt p c) s H = evCode P Γ call n f m (cAt p0 c) s H := by
  subst h0
  rw [cAt_snoc]
  generalize cAt p c = d at *
  cases d <;> simp [kindOf] at h
  rfl
theorem at_region {p : List Nat} {c : Code} {l : List Oper} (h : kindOf (cAt p c) = (1, 0)) (hl : opsOf (cAt p c) = l) (s : List V) (H : Heap) :
    evCode P Γ call n f m (cAt p c) s H = regNext (evOpsGo P Γ call l l s H) := by
  generalize cAt p c = d at *
  subst hl
  cases d <;> simp [kindOf] at h
  subst h
  rfl
theorem at_draw {p : List Nat} {c : Code} {l : List Oper} (h : kindOf (cAt p c) = (1, 1)) (hl : opsOf (cAt p c) = l) (s : List V) (H : Heap) :
    evCode P Γ call n f m (cAt p c) s H = regNext (evRegion P Γ call l true s H) := by
  generalize cAt p c = d at *
  subst hl
  cases d <;> simp [kindOf] at h
  subst h
  rfl
theorem at_skip {p : List Nat} {c : Code} (h : kindOf (cAt p c) = (0, 0)) (s : List V) (H : Heap) : evCode P Γ call n f m (cAt p c) s H = some (.normal, s, H) := by
  generalize cAt p c = d at *
  cases d <;> simp [kindOf] at h
  rfl
theorem at_exit {p : List Nat} {c : Code} {id : Nat} (h : kindOf (cAt p c) = (7, id)) (s : List V) (H : Heap) : evCode P Γ call n f m (cAt p c) s H = some (.exit id, s, H) := by
  generalize cAt p c = d at *
  cases d <;> simp [kindOf] at h
  subst h
  rfl
theorem at_ret {p : List Nat} {c : Code} (h : kindOf (cAt p c) = (8, 0)) (s : List V) (H : Heap) : evCode P Γ call n f m (cAt p c) s H = some (.ret, s, H) := by
  generalize cAt p c = d at *
  cases d <;> simp [kindOf] at h
  rfl
theorem at_label {p : List Nat} {c : Code} (h : kindOf (cAt p c) = (9, 0)) (s : List V) (H : Heap) : evCode P Γ call n f m (cAt p c) s H = some (.normal, s, H) := by
  generalize cAt p c = d at *
  cases d <;> simp [kindOf] at h
  rfl

theorem body_at {k : Nat} {fn : Func} {rs : List ResultVar} {nt : Nat} (hf : P.funcs[f]? = some fn) (hn : fn.name ≠ "runtime.NumGoroutine") (hb : fn.body.isSome = true) (ho : ∀ args H, Γ.orc f args H = none) (hr : fn.results.toList = rs) (hnt : fn.ntmps = nt) (args : List V) (H : Heap) (ha : args.length ≤ nt) :
    evF P Γ (k + 1) f args H = bodyEnd P rs H.length (evCode P Γ (evF P Γ k) k f H.length (cAt [] (bodyOf fn)) (mkL nt V.undef (enumV 0 args)) H) := by
  obtain ⟨c, hc⟩ := Option.isSome_iff_exists.1 hb
  rw [evF_body hf hn hc ho, hr, hnt, start_mkL _ _ ha]
  simp only [cAt, bodyOf, hc]
end
end Go.Ev
