/-
  DRAWN REGIONS BY A TABLE of which operations are unordered (own work).
-/
import Derived.Test.YtnalmdnfoicokaaEv29
set_option linter.unusedSimpArgs false
set_option linter.unusedVariables false
namespace Go.Ev
open Go

/-! The same order, told without repetition. -/
def insU (l : List Nat) (x : Nat) : List Nat := if l.contains x then l else x :: l
def uniU (l : List Nat) : List Nat → List Nat
  | [] => l
  | x :: m => uniU (insU l x) m
def anc2Go : List Oper → List (List Nat) → List (List Nat)
  | [], acc => acc
  | o :: rest, acc => anc2Go rest (acc ++ [o.after.toList.foldl (fun l e => if bindsAny e then uniU (insU l e.on) (acc.getD e.on []) else l) []])
def ancs2 (ops : List Oper) : List (List Nat) := anc2Go ops []
theorem mem_insU {l : List Nat} {x y : Nat} : y ∈ insU l x ↔ y ∈ l ∨ y = x := by
  unfold insU
  split
  · rename_i h
    have : x ∈ l := by simpa using h
    exact ⟨fun h => .inl h, fun h => h.elim id fun e => e ▸ this⟩
  · simp [or_comm]
theorem mem_uniU {m : List Nat} : ∀ {l : List Nat} {y : Nat}, y ∈ uniU l m ↔ y ∈ l ∨ y ∈ m := by
  induction m with
  | nil => intro l y; simp [uniU]
  | cons x m ih =>
    intro l y
    rw [uniU, ih, mem_insU, List.mem_cons, or_assoc]
def SameM (a b : List (List Nat)) : Prop := a.length = b.length ∧ ∀ i y, y ∈ a.getD i [] ↔ y ∈ b.getD i []
theorem SameM.snoc {a b : List (List Nat)} (h : SameM a b) {x z : List Nat} (hx : ∀ y, y ∈ x ↔ y ∈ z) : SameM (a ++ [x]) (b ++ [z]) := by
  refine ⟨by simp [h.1], fun i y => ?_⟩
  rcases Nat.lt_trichotomy i a.length with hi | hi | hi
  · have hb : i < b.length := h.1 ▸ hi
    have := h.2 i y
    simp only [List.getD_eq_getElem?_getD] at this ⊢
    rwa [List.getElem?_append_left hi, List.getElem?_append_left hb]
  · subst hi
    simp only [List.getD_eq_getElem?_getD]
    rw [List.getElem?_append_right (Nat.le_refl _), h.1, List.getElem?_append_right (Nat.le_refl _)]
    simpa using hx y
  · simp only [List.getD_eq_getElem?_getD]
    rw [List.getElem?_eq_none (by simp; omega), List.getElem?_eq_none (by simp; have := h.1; omega)]
theorem same_fold {a b : List (List Nat)} (h : SameM a b) (es : List Edge) : ∀ (l m : List Nat), (∀ y, y ∈ l ↔ y ∈ m) → ∀ y, y ∈ es.foldl (fun l e => if bindsAny e then l ++ [e.on] ++ a.getD e.on [] else l) l ↔ y ∈ es.foldl (fun l e => if bindsAny e then uniU (insU l e.on) (b.getD e.on []) else l) m := by
  induction es with
  | nil => intro l m hl y; exact hl y
  | cons e es ih =>
    intro l m hl y
    simp only [List.foldl_cons]
    refine ih _ _ (fun y => ?_) y
    split
    · rw [mem_uniU, mem_insU, List.mem_append, List.mem_append, List.mem_singleton, hl y, h.2 e.on y]
    · exact hl y
theorem same_go : ∀ (ops : List Oper) (a b : List (List Nat)), SameM a b → SameM (ancGo ops a) (anc2Go ops b)
  | [], a, b, h => h
  | o :: rest, a, b, h => by
    simp only [ancGo, anc2Go]
    exact same_go rest _ _ (h.snoc (same_fold h _ [] [] fun _ => Iff.rfl))
theorem unordered_eq (ops : List Oper) (i j : Nat) : unordered (ancs ops) i j = unordered (ancs2 ops) i j := by
  have h := same_go ops [] [] ⟨rfl, fun _ _ => Iff.rfl⟩
  have hc : ∀ i j, ((ancs ops).getD i []).contains j = ((ancs2 ops).getD i []).contains j := fun i j => by
    rw [Bool.eq_iff_iff, List.contains_iff_mem, List.contains_iff_mem]
    exact h.2 i j
  unfold unordered
  rw [hc, hc]

def unordOf (ops : List Oper) (as : List (List Nat)) (i : Nat) : List Nat := (List.range ops.length).filter (unordered as i)
def rowOf (ops : List Oper) (as : List (List Nat)) (i : Nat) : List Nat × List Nat := (unordOf ops as i, (unordOf ops as i).filterMap fun j => (ops[j]?).bind (·.dst))
def tableOf (ops : List Oper) : Option (List (List Nat × List Nat)) :=
  if backward ops 0 && nodupB (dsts ops) then some ((List.range ops.length).map (rowOf ops (ancs2 ops))) else none

def junkAt (s : List V) : List Nat → List V
  | [] => s
  | t :: l => junkAt (putS s (some t) .junk) l
def idsAt (hs : List Hint) (j : Nat) : List Nat := match hs[j]? with
  | some h => h.w ++ (List.range (h.la - h.lb)).map (h.lb + ·)
  | none => []
def idsL (hs : List Hint) : List Nat → List Nat
  | [] => []
  | j :: l => idsAt hs j ++ idsL hs l
def laterL (hs : List Hint) (i : Nat) : List Nat → Bool
  | [] => true
  | j :: l => (decide (j ≤ i) || (match hs[j]? with | some h => h.la == h.lb | none => true)) && laterL hs i l

theorem maskSlots_tab (as : List (List Nat)) (i : Nat) : ∀ (rest : List Oper) (k : Nat) (s : List V), maskSlots as i rest k s = junkAt s (((List.range' k rest.length).filter (unordered as i)).filterMap fun j => (rest[j - k]?).bind (·.dst))
  | [], k, s => by simp [maskSlots, junkAt]
  | o :: rest, k, s => by
    have hrest : ∀ (l : List Nat), (∀ j ∈ l, k + 1 ≤ j) → (l.filterMap fun j => ((o :: rest)[j - k]?).bind (·.dst)) = l.filterMap fun j => (rest[j - (k + 1)]?).bind (·.dst) := fun l hl => by
      induction l with
      | nil => rfl
      | cons j l ih =>
        have := hl j (by simp)
        have e : j - k = (j - (k + 1)) + 1 := by omega
        rw [List.filterMap_cons, List.filterMap_cons, e, List.getElem?_cons_succ, ih fun x hx => hl x (by simp [hx])]
    have hmem : ∀ j ∈ (List.range' (k + 1) rest.length).filter (unordered as i), k + 1 ≤ j := fun j hj => (List.mem_range'_1.1 (List.mem_filter.1 hj).1).1
    simp only [maskSlots, List.length_cons, List.range'_succ, List.filter_cons]
    by_cases hu : unordered as i k = true
    · rw [if_pos hu, if_pos hu, maskSlots_tab as i rest (k + 1)]
      simp only [List.filterMap_cons, Nat.sub_self, List.getElem?_cons_zero, Option.bind_some]
      cases hd : o.dst with
      | none => simp only [putS]; rw [hrest _ hmem]
      | some t => simp only [junkAt]; rw [hrest _ hmem]
    · rw [if_neg hu, if_neg hu, maskSlots_tab as i rest (k + 1), hrest _ hmem]

theorem maskIds_tab (as : List (List Nat)) (i : Nat) (hs0 : List Hint) : ∀ (hs : List Hint) (k : Nat), hs = hs0.drop k → k + hs.length = hs0.length → maskIds as i hs k = idsL hs0 ((List.range' k hs.length).filter (unordered as i))
  | [], k, _, _ => by simp [maskIds, idsL]
  | h :: rest, k, hd, hk => by
    have hg : hs0[k]? = some h := by
      have := congrArg List.head? hd
      simp at this
      rw [← List.head?_drop]; exact congrArg List.head? hd |>.symm
    have hd2 : rest = hs0.drop (k + 1) := by
      have := congrArg List.tail hd
      simpa using this
    simp only [maskIds, List.length_cons, List.range'_succ, List.filter_cons]
    rw [maskIds_tab as i hs0 rest (k + 1) hd2 (by simp at hk; omega)]
    by_cases hu : unordered as i k = true
    · rw [if_pos hu, if_pos hu]
      simp only [idsL, idsAt, hg]
    · rw [if_neg hu, if_neg hu]
      rfl
theorem laterOk_tab (as : List (List Nat)) (i : Nat) (hs0 : List Hint) : ∀ (hs : List Hint) (k : Nat), hs = hs0.drop k → k + hs.length = hs0.length → laterOk as i hs k = laterL hs0 i ((List.range' k hs.length).filter (unordered as i))
  | [], k, _, _ => by simp [laterOk, laterL]
  | h :: rest, k, hd, hk => by
    have hg : hs0[k]? = some h := by
      rw [← List.head?_drop]; exact congrArg List.head? hd |>.symm
    have hd2 : rest = hs0.drop (k + 1) := by
      have := congrArg List.tail hd
      simpa using this
    simp only [laterOk, List.length_cons, List.range'_succ, List.filter_cons]
    rw [laterOk_tab as i hs0 rest (k + 1) hd2 (by simp at hk; omega)]
    by_cases hu : unordered as i k = true
    · rw [if_pos hu]
      simp only [laterL, hg, hu, Bool.not_true, Bool.or_false]
    · have hu' : unordered as i k = false := by simpa using hu
      rw [if_neg hu]
      simp only [hu', Bool.not_false, Bool.or_true, Bool.true_or, Bool.true_and]

section
variable (P : Program) (Γ : Env) (call : CallF)

/-- The hints, gathered. -/
def hintsA (all : List Oper) : List Oper → List V → Heap → List Hint → Option (List Hint)
  | [], _, _, acc => some acc.reverse
  | o :: rest, s, H, acc => match wantedV all s o with
    | some true => match evOp P Γ call s H o.op with
      | some (v, H') => hintsA all rest (putS s o.dst v) H' (⟨writesOf Γ s H o.op, H.length, H'.length⟩ :: acc)
      | none => none
    | some false => hintsA all rest (putS s o.dst V.undef) H (⟨[], H.length, H.length⟩ :: acc)
    | none => none
theorem hintsA_eq (all : List Oper) : ∀ (ops : List Oper) (s : List V) (H : Heap) (acc : List Hint), hintsA P Γ call all ops s H acc = (hintsGo P Γ call all ops s H).map (acc.reverse ++ ·)
  | [], s, H, acc => by simp [hintsA, hintsGo]
  | o :: rest, s, H, acc => by
    simp only [hintsA, hintsGo]
    cases wantedV all s o with
    | none => rfl
    | some b => cases b with
      | true =>
        simp only
        cases evOp P Γ call s H o.op with
        | none => rfl
        | some r => obtain ⟨v, H'⟩ := r; simp only; rw [hintsA_eq all rest]; simp [Option.map_map, Function.comp_def]
      | false => simp only; rw [hintsA_eq all rest]; simp [Option.map_map, Function.comp_def]

def drawT (all : List Oper) (hs : List Hint) : List Oper → List (List Nat × List Nat) → Nat → List V → Heap → Option (List V × Heap)
  | o :: rest, (js, sl) :: T, i, s, H => match wantedV all (junkAt s sl) o, hs[i]? with
    | some true, some h => match evOp P Γ call (junkAt s sl) (maskHeap (idsL hs js) H) o.op with
      | some (v, H') => if h.lb = H.length ∧ h.la = H'.length ∧ h.w = writesOf Γ (junkAt s sl) (maskHeap (idsL hs js) H) o.op ∧ (h.w.all (fun id => decide (id < H.length) && !(idsL hs js).contains id)) = true ∧ (laterL hs i js || boundedS H.length (junkAt s sl) (maskHeap (idsL hs js) H)) = true then
          drawT all hs rest T (i + 1) (putS s o.dst v) (mergeHeap (idsL hs js) H H') else none
      | none => none
    | some false, some h => if h.lb = H.length ∧ h.la = H.length ∧ h.w = [] then drawT all hs rest T (i + 1) (putS s o.dst V.undef) H else none
    | _, _ => none
  | _, _, _, s, H => some (s, H)

theorem drawT_eq (all : List Oper) (hs : List Hint) (hlen : hs.length = all.length) : ∀ (ops : List Oper) (i : Nat) (s : List V) (H : Heap), i + ops.length = all.length →
    drawT P Γ call all hs ops ((List.range' i ops.length).map (rowOf all (ancs2 all))) i s H = drawGo P Γ call all (ancs all) hs ops i s H
  | [], i, s, H, _ => by simp [drawT, drawGo]
  | o :: rest, i, s, H, hi => by
    have hU : ∀ i, unordOf all (ancs2 all) i = (List.range all.length).filter (unordered (ancs all) i) := fun i => by
      unfold unordOf
      congr 1
      funext j
      exact (unordered_eq all i j).symm
    have e1 : junkAt s ((unordOf all (ancs2 all) i).filterMap fun j => (all[j]?).bind (·.dst)) = maskSlots (ancs all) i all 0 s := by
      rw [maskSlots_tab]
      rw [hU, List.range_eq_range']
      rfl
    have e2 : idsL hs (unordOf all (ancs2 all) i) = maskIds (ancs all) i hs 0 := by
      rw [maskIds_tab (ancs all) i hs hs 0 rfl (by simp)]
      rw [hU, List.range_eq_range', hlen]
    have e3 : laterL hs i (unordOf all (ancs2 all) i) = laterOk (ancs all) i hs 0 := by
      rw [laterOk_tab (ancs all) i hs hs 0 rfl (by simp)]
      rw [hU, List.range_eq_range', hlen]
    simp only [List.length_cons, List.range'_succ, List.map_cons, rowOf, drawT, drawGo]
    rw [e1, e2, e3]
    have ih := fun s H => drawT_eq all hs hlen rest (i + 1) s H (by simp at hi; omega)
    simp only [ih]
    generalize wantedV all (maskSlots (ancs all) i all 0 s) o = w
    generalize hs[i]? = h
    generalize evOp P Γ call (maskSlots (ancs all) i all 0 s) (maskHeap (maskIds (ancs all) i hs 0) H) o.op = r
    cases w with
    | none => rfl
    | some b => cases h with
      | none => cases b <;> rfl
      | some h => cases b with
        | false => rfl
        | true => cases r with
          | none => rfl
          | some r => obtain ⟨v, H'⟩ := r; rfl

/-- A drawn region by its table. -/
def drawR (ops : List Oper) (T : List (List Nat × List Nat)) (s : List V) (H : Heap) : Option (List V × Heap) := match hintsA P Γ call ops ops s H [] with
  | some hs => drawT P Γ call ops hs ops T 0 s H
  | none => none
theorem drawR_eq {ops : List Oper} {T : List (List Nat × List Nat)} (h : tableOf ops = some T) (s : List V) (H : Heap) : evRegion P Γ call ops true s H = drawR P Γ call ops T s H := by
  unfold tableOf at h
  split at h
  · rename_i hb
    cases h
    unfold evRegion drawR
    rw [if_pos rfl, if_pos hb, hintsA_eq]
    cases hh : hintsGo P Γ call ops ops s H with
    | none => rfl
    | some hs =>
      have hlen := hintsGo_length _ _ _ _ hh
      simp only [Option.map_some, List.reverse_nil, List.nil_append]
      rw [List.range_eq_range']
      exact (drawT_eq P Γ call ops hs hlen ops 0 s H (by simp)).symm
  · cases h
end

/-! ### For 'simp' -/
section
variable {P : Program} {Γ : Env} {call : CallF}
def hAnext (P : Program) (Γ : Env) (call : CallF) (all rest : List Oper) (o : Oper) (s : List V) (H : Heap) (acc : List Hint) (r : Option (V × Heap)) : Option (List Hint) := match r with
  | some (v, H') => hintsA P Γ call all rest (putS s o.dst v) H' (⟨writesOf Γ s H o.op, H.length, H'.length⟩ :: acc)
  | none => none
def hAF (P : Program) (Γ : Env) (call : CallF) (all rest : List Oper) (o : Oper) (s : List V) (H : Heap) (acc : List Hint) (b : Bool) : Option (List Hint) :=
  if b then hAnext P Γ call all rest o s H acc (evOp P Γ call s H o.op) else hintsA P Γ call all rest (putS s o.dst V.undef) H (⟨[], H.length, H.length⟩ :: acc)
def hAW (P : Program) (Γ : Env) (call : CallF) (all rest : List Oper) (o : Oper) (s : List V) (H : Heap) (acc : List Hint) (w : Option Bool) : Option (List Hint) := match w with
  | some b => hAF P Γ call all rest o s H acc b
  | none => none
section
variable (all rest : List Oper) (o : Oper) (s : List V) (H : Heap) (acc : List Hint)
theorem hAF_true : hAF P Γ call all rest o s H acc true = hAnext P Γ call all rest o s H acc (evOp P Γ call s H o.op) := rfl
theorem hAF_false : hAF P Γ call all rest o s H acc false = hintsA P Γ call all rest (putS s o.dst V.undef) H (⟨[], H.length, H.length⟩ :: acc) := rfl
@[simp] theorem hAnext_some (v : V) (H' : Heap) : hAnext P Γ call all rest o s H acc (some (v, H')) = hintsA P Γ call all rest (putS s o.dst v) H' (⟨writesOf Γ s H o.op, H.length, H'.length⟩ :: acc) := rfl
@[simp] theorem hAnext_none : hAnext P Γ call all rest o s H acc none = none := rfl
@[simp] theorem hAnext_ite (c : Prop) [Decidable c] (x y : Option (V × Heap)) : hAnext P Γ call all rest o s H acc (if c then x else y) = if c then hAnext P Γ call all rest o s H acc x else hAnext P Γ call all rest o s H acc y := by split <;> rfl
@[simp] theorem hAW_true : hAW P Γ call all rest o s H acc (some true) = hAnext P Γ call all rest o s H acc (evOp P Γ call s H o.op) := rfl
@[simp] theorem hAW_false : hAW P Γ call all rest o s H acc (some false) = hintsA P Γ call all rest (putS s o.dst V.undef) H (⟨[], H.length, H.length⟩ :: acc) := rfl
@[simp] theorem hAW_none : hAW P Γ call all rest o s H acc none = none := rfl
@[simp low] theorem hAW_any (b : Bool) : hAW P Γ call all rest o s H acc (some b) = if b = true then hAF P Γ call all rest o s H acc true else hAF P Γ call all rest o s H acc false := by cases b <;> rfl
@[simp 500] theorem hAW_not (b : Bool) : hAW P Γ call all rest o s H acc (some (!b)) = if b = true then hAF P Γ call all rest o s H acc false else hAF P Γ call all rest o s H acc true := by cases b <;> rfl
@[simp] theorem hintsA_nil : hintsA P Γ call all [] s H acc = some acc.reverse := rfl
@[simp] theorem hintsA_cons : hintsA P Γ call all (o :: rest) s H acc = hAW P Γ call all rest o s H acc (wantedV all s o) := by
  rw [hintsA]
  cases wantedV all s o with
  | none => rfl
  | some b => cases b <;> rfl
end
def dTnext (P : Program) (Γ : Env) (call : CallF) (all : List Oper) (hs : List Hint) (rest : List Oper) (T : List (List Nat × List Nat)) (o : Oper) (js sl : List Nat) (i : Nat) (s : List V) (H : Heap) (h : Hint) (r : Option (V × Heap)) : Option (List V × Heap) := match r with
  | some (v, H') => if h.lb = H.length ∧ h.la = H'.length ∧ h.w = writesOf Γ (junkAt s sl) (maskHeap (idsL hs js) H) o.op ∧ (h.w.all (fun id => decide (id < H.length) && !(idsL hs js).contains id)) = true ∧ (laterL hs i js || boundedS H.length (junkAt s sl) (maskHeap (idsL hs js) H)) = true then
          drawT P Γ call all hs rest T (i + 1) (putS s o.dst v) (mergeHeap (idsL hs js) H H') else none
  | none => none
def dTF (P : Program) (Γ : Env) (call : CallF) (all : List Oper) (hs : List Hint) (rest : List Oper) (T : List (List Nat × List Nat)) (o : Oper) (js sl : List Nat) (i : Nat) (s : List V) (H : Heap) (h : Hint) (b : Bool) : Option (List V × Heap) :=
  if b then dTnext P Γ call all hs rest T o js sl i s H h (evOp P Γ call (junkAt s sl) (maskHeap (idsL hs js) H) o.op)
  else if h.lb = H.length ∧ h.la = H.length ∧ h.w = [] then drawT P Γ call all hs rest T (i + 1) (putS s o.dst V.undef) H else none
def dTW (P : Program) (Γ : Env) (call : CallF) (all : List Oper) (hs : List Hint) (rest : List Oper) (T : List (List Nat × List Nat)) (o : Oper) (js sl : List Nat) (i : Nat) (s : List V) (H : Heap) (w : Option Bool) (h : Option Hint) : Option (List V × Heap) := match w, h with
  | some b, some h => dTF P Γ call all hs rest T o js sl i s H h b
  | _, _ => none
section
variable (all : List Oper) (hs : List Hint) (rest : List Oper) (T : List (List Nat × List Nat)) (o : Oper) (js sl : List Nat) (i : Nat) (s : List V) (H : Heap) (h : Hint)
theorem dTF_true : dTF P Γ call all hs rest T o js sl i s H h true = dTnext P Γ call all hs rest T o js sl i s H h (evOp P Γ call (junkAt s sl) (maskHeap (idsL hs js) H) o.op) := rfl
theorem dTF_false : dTF P Γ call all hs rest T o js sl i s H h false = if h.lb = H.length ∧ h.la = H.length ∧ h.w = [] then drawT P Γ call all hs rest T (i + 1) (putS s o.dst V.undef) H else none := rfl
@[simp] theorem dTnext_some (v : V) (H' : Heap) : dTnext P Γ call all hs rest T o js sl i s H h (some (v, H')) = if h.lb = H.length ∧ h.la = H'.length ∧ h.w = writesOf Γ (junkAt s sl) (maskHeap (idsL hs js) H) o.op ∧ (h.w.all (fun id => decide (id < H.length) && !(idsL hs js).contains id)) = true ∧ (laterL hs i js || boundedS H.length (junkAt s sl) (maskHeap (idsL hs js) H)) = true then
          drawT P Γ call all hs rest T (i + 1) (putS s o.dst v) (mergeHeap (idsL hs js) H H') else none := rfl
@[simp] theorem dTnext_none : dTnext P Γ call all hs rest T o js sl i s H h none = none := rfl
@[simp] theorem dTnext_ite (c : Prop) [Decidable c] (x y : Option (V × Heap)) : dTnext P Γ call all hs rest T o js sl i s H h (if c then x else y) = if c then dTnext P Γ call all hs rest T o js sl i s H h x else dTnext P Γ call all hs rest T o js sl i s H h y := by split <;> rfl
@[simp] theorem dTW_true : dTW P Γ call all hs rest T o js sl i s H (some true) (some h) = dTnext P Γ call all hs rest T o js sl i s H h (evOp P Γ call (junkAt s sl) (maskHeap (idsL hs js) H) o.op) := rfl
@[simp] theorem dTW_false : dTW P Γ call all hs rest T o js sl i s H (some false) (some h) = if h.lb = H.length ∧ h.la = H.length ∧ h.w = [] then drawT P Γ call all hs rest T (i + 1) (putS s o.dst V.undef) H else none := rfl
@[simp low] theorem dTW_any (b : Bool) : dTW P Γ call all hs rest T o js sl i s H (some b) (some h) = if b = true then dTF P Γ call all hs rest T o js sl i s H h true else dTF P Γ call all hs rest T o js sl i s H h false := by cases b <;> rfl
@[simp 500] theorem dTW_not (b : Bool) : dTW P Γ call all hs rest T o js sl i s H (some (!b)) (some h) = if b = true then dTF P Γ call all hs rest T o js sl i s H h false else dTF P Γ call all hs rest T o js sl i s H h true := by cases b <;> rfl
@[simp] theorem drawT_nil : drawT P Γ call all hs [] T i s H = some (s, H) := by cases T <;> rfl
@[simp] theorem drawT_cons : drawT P Γ call all hs (o :: rest) ((js, sl) :: T) i s H = dTW P Γ call all hs rest T o js sl i s H (wantedV all (junkAt s sl) o) hs[i]? := by
  rw [drawT]
  cases wantedV all (junkAt s sl) o with
  | none => rfl
  | some b => cases hs[i]? with
    | none => cases b <;> rfl
    | some h => cases b <;> rfl
end
def dRnext (P : Program) (Γ : Env) (call : CallF) (ops : List Oper) (T : List (List Nat × List Nat)) (s : List V) (H : Heap) (r : Option (List Hint)) : Option (List V × Heap) := match r with
  | some hs => drawT P Γ call ops hs ops T 0 s H
  | none => none
section
variable (ops : List Oper) (T : List (List Nat × List Nat)) (s : List V) (H : Heap)
@[simp] theorem dRnext_some (hs : List Hint) : dRnext P Γ call ops T s H (some hs) = drawT P Γ call ops hs ops T 0 s H := rfl
@[simp] theorem dRnext_none : dRnext P Γ call ops T s H none = none := rfl
@[simp] theorem dRnext_ite (c : Prop) [Decidable c] (x y : Option (List Hint)) : dRnext P Γ call ops T s H (if c then x else y) = if c then dRnext P Γ call ops T s H x else dRnext P Γ call ops T s H y := by split <;> rfl
@[simp] theorem drawR_def : drawR P Γ call ops T s H = dRnext P Γ call ops T s H (hintsA P Γ call ops ops s H []) := rfl
end
theorem at_drawT {n f m : Nat} {p : List Nat} {c : Code} {l : List Oper} {T : List (List Nat × List Nat)} (h : kindOf (cAt p c) = (1, 1)) (hl : opsOf (cAt p c) = l) (ht : tableOf l = some T) (s : List V) (H : Heap) :
    evCode P Γ call n f m (cAt p c) s H = regNext (drawR P Γ call l T s H) := by
  rw [at_draw h hl, drawR_eq P Γ call ht]
@[simp] theorem junkAt_nil (s : List V) : junkAt s [] = s := rfl
@[simp] theorem junkAt_cons (s : List V) (t : Nat) (l : List Nat) : junkAt s (t :: l) = junkAt (putS s (some t) .junk) l := rfl
theorem maskHeap_nil' (H : Heap) : maskHeap [] H = H := by
  unfold maskHeap
  refine List.ext_getElem? fun i => ?_
  rw [List.getElem?_mapIdx]
  cases H[i]? <;> simp
@[simp] theorem maskHeap_none (H : Heap) : maskHeap [] H = H := maskHeap_nil' H
@[simp] theorem mergeHeap_none (H H' : Heap) : mergeHeap [] H H' = H' := by
  unfold mergeHeap
  refine List.ext_getElem? fun i => ?_
  rw [List.getElem?_mapIdx]
  cases H'[i]? <;> simp
end
attribute [simp] idsAt idsL laterL

/-! ### Bounds -/
def bndR (k : Nat) : List Nat → Bool
  | [] => true
  | i :: l => decide (i < k) && bndR k l
def bndA (k : Nat) : List (Nat × V) → Bool
  | [] => true
  | (_, v) :: l => bndR k v.refs && bndA k l
def bndH (k : Nat) : Heap → Bool
  | [] => true
  | b :: H => bndR k (blkRefs b) && bndH k H
theorem bndR_all (k : Nat) : ∀ l : List Nat, bndR k l = l.all (decide <| · < k)
  | [] => rfl
  | i :: l => by simp only [bndR, List.all_cons, bndR_all k l]
theorem bounded_ok {k n : Nat} {d : V} {l : List (Nat × V)} {H : Heap} (hd : d.refs = []) (hl : bndA k l = true) (hH : bndH k H = true) : boundedS k (mkL n d l) H = true := by
  refine boundedS_mkL _ _ _ _ _ hd ?_ ?_
  · induction l with
    | nil => rfl
    | cons x l ih =>
      obtain ⟨i, v⟩ := x
      simp only [bndA, Bool.and_eq_true] at hl
      simp only [List.all_cons, Bool.and_eq_true]
      exact ⟨by rw [← bndR_all]; exact hl.1, ih hl.2⟩
  · induction H with
    | nil => rfl
    | cons b H ih =>
      simp only [bndH, Bool.and_eq_true] at hH
      simp only [List.all_cons, Bool.and_eq_true]
      exact ⟨by rw [← bndR_all]; exact hH.1, ih hH.2⟩
@[simp] theorem bounded1 {k n : Nat} {l : List (Nat × V)} {H : Heap} (hl : bndA k l = true) (hH : bndH k H = true) : boundedS k (mkL n (.tup []) l) H = true := bounded_ok rfl hl hH
@[simp] theorem bounded2 {k n : Nat} {l : List (Nat × V)} {H : Heap} (hl : bndA k l = true) (hH : bndH k H = true) : boundedS k (mkL n .junk l) H = true := bounded_ok rfl hl hH
attribute [simp] bndA bndR bndH
end Go.Ev
