/-
  REGIONS IN ANY ORDER, second part (own work).
-/
import Derived.Test.YtnalmdnfoicokaaEv20
set_option linter.unusedSimpArgs false
set_option linter.unusedVariables false
namespace Go.Ev
open Go

theorem Rep.restr {w0 : World} {B n : Nat} {e : Emb} {v : V} {v' : Value} (hb : ∀ r ∈ v.refs, r < n) (h : Rep w0 B e v v') : Rep w0 B (restrE n e) v v' := by
  have := h.ren (ρ := fun id => if id < n then some id else none) (e1 := restrE n e) fun id j eb hj he => by
    split at hj
    · cases hj; rw [restrE_at]; rw [if_pos (by assumption)]; exact he
    · cases hj
  rwa [V.ren_id v fun r hr => by simp [hb r hr]] at this
theorem BlkOk.restr {w0 : World} {B n : Nat} {e : Emb} {k : Blk} {eb : EB} {o : Obj} (hb : ∀ r ∈ k.refs, r < n) (h : BlkOk w0 B e k eb o) : BlkOk w0 B (restrE n e) k eb o := by
  have := h.ren (ρ := fun id => if id < n then some id else none) (e1 := restrE n e) fun id j eb hj he => by
    split at hj
    · cases hj; rw [restrE_at]; rw [if_pos (by assumption)]; exact he
    · cases hj
  rwa [Blk.ren_id k fun r hr => by simp [hb r hr]] at this

section
variable (P : Program) (Γ : Env) (call : CallF)

/-- One operation of the run in order. -/
def StepAt (all : List Oper) (as : List (List Nat)) (hs : List Hint) (j : Nat) (o : Oper) (h : Hint) (s : List V) (H : Heap) (v : V) (X : Heap) (s1 : List V) (H1 : Heap) : Prop :=
  s1 = putS s o.dst v ∧ h.lb = H.length ∧
  ((wantedV all (maskSlots as j all 0 s) o = some true ∧ evOp P Γ call (maskSlots as j all 0 s) (maskHeap (maskIds as j hs 0) H) o.op = some (v, X) ∧ h.la = X.length ∧
      h.w = writesOf Γ (maskSlots as j all 0 s) (maskHeap (maskIds as j hs 0) H) o.op ∧ (∀ id ∈ h.w, id < H.length ∧ id ∉ maskIds as j hs 0) ∧
      (laterOk as j hs 0 || boundedS H.length (maskSlots as j all 0 s) (maskHeap (maskIds as j hs 0) H)) = true ∧ H1 = mergeHeap (maskIds as j hs 0) H X) ∨
   (wantedV all (maskSlots as j all 0 s) o = some false ∧ v = V.undef ∧ h.la = H.length ∧ h.w = [] ∧ H1 = H))

theorem draw_trace {all : List Oper} {as : List (List Nat)} {hs : List Hint} : ∀ (rest : List Oper) (i : Nat) (s : List V) (H : Heap) (r : List V × Heap), all.drop i = rest → drawGo P Γ call all as hs rest i s H = some r →
    ∃ (S : Nat → List V) (G : Nat → Heap) (v : Nat → V) (X : Nat → Heap), S i = s ∧ G i = H ∧ (S (i + rest.length), G (i + rest.length)) = r ∧
      ∀ (j : Nat) (o : Oper), i ≤ j → all[j]? = some o → ∃ h, hs[j]? = some h ∧ StepAt P Γ call all as hs j o h (S j) (G j) (v j) (X j) (S (j + 1)) (G (j + 1))
  | [], i, s, H, r, hd, h => by
    simp only [drawGo, Option.some.injEq] at h
    subst h
    refine ⟨fun _ => s, fun _ => H, fun _ => .junk, fun _ => [], rfl, rfl, rfl, fun j o hj ho => ?_⟩
    have : all.length ≤ i := by simpa using hd
    have := (List.getElem?_eq_some_iff.1 ho).1
    omega
  | o :: rest, i, s, H, r, hd, h => by
    have ho : all[i]? = some o := by
      have := congrArg List.head? hd
      simpa [List.head?_drop] using this
    have hrest : all.drop (i + 1) = rest := by
      have := congrArg List.tail hd
      simpa using this
    have key : ∀ (hh : Hint) (v : V) (X : Heap) (s1 : List V) (H1 : Heap), hs[i]? = some hh → drawGo P Γ call all as hs rest (i + 1) s1 H1 = some r → StepAt P Γ call all as hs i o hh s H v X s1 H1 →
        ∃ (S : Nat → List V) (G : Nat → Heap) (v : Nat → V) (X : Nat → Heap), S i = s ∧ G i = H ∧ (S (i + (o :: rest).length), G (i + (o :: rest).length)) = r ∧
          ∀ (j : Nat) (o : Oper), i ≤ j → all[j]? = some o → ∃ h, hs[j]? = some h ∧ StepAt P Γ call all as hs j o h (S j) (G j) (v j) (X j) (S (j + 1)) (G (j + 1)) := by
      intro hh v X s1 H1 hhs hgo hst
      obtain ⟨S, G, v', X', h1, h2, h3, h4⟩ := draw_trace rest (i + 1) s1 H1 r hrest hgo
      refine ⟨fun j => if j = i then s else S j, fun j => if j = i then H else G j, fun j => if j = i then v else v' j, fun j => if j = i then X else X' j, by simp, by simp, ?_, fun j o' hj ho' => ?_⟩
      · simp only [List.length_cons]
        rw [if_neg (by omega), if_neg (by omega), ← h3, show i + (rest.length + 1) = i + 1 + rest.length by omega]
      · by_cases hji : j = i
        · subst hji
          rw [ho] at ho'
          cases ho'
          refine ⟨hh, hhs, ?_⟩
          simp only [if_true, if_neg (show ¬ j + 1 = j by omega), h1, h2]
          exact hst
        · obtain ⟨h, g1, g2⟩ := h4 j o' (by omega) ho'
          refine ⟨h, g1, ?_⟩
          simp only [if_neg hji, if_neg (show ¬ j + 1 = i by omega)]
          exact g2
    simp only [drawGo] at h
    split at h
    · rename_i hh hw hhs
      split at h
      · rename_i v X hop
        split at h
        · rename_i hc
          obtain ⟨c1, c2, c3, c4, c5⟩ := hc
          refine key hh v X _ _ hhs h ⟨rfl, c1, .inl ⟨hw, hop, c2, c3, fun id hid => ?_, c5, rfl⟩⟩
          have := (List.all_eq_true.1 c4) id hid
          simpa using this
        · cases h
      · cases h
    · rename_i hh hw hhs
      split at h
      · rename_i hc
        obtain ⟨c1, c2, c3⟩ := hc
        exact key hh _ [] _ _ hhs h ⟨rfl, c1, .inr ⟨hw, rfl, c2, c3, rfl⟩⟩
      · cases h
    · cases h
end

theorem laterOk_spec {as : List (List Nat)} {i : Nat} : ∀ (hs : List Hint) (j : Nat), laterOk as i hs j = true → ∀ (q : Nat) (h : Hint), hs[q]? = some h → i < j + q → unordered as i (j + q) = true → h.la = h.lb
  | [], j, _, q, h, hq, _, _ => by simp at hq
  | h0 :: hs, j, hl, q, h, hq, hi, hu => by
    simp only [laterOk, Bool.and_eq_true, Bool.or_eq_true, decide_eq_true_eq, Bool.not_eq_true', beq_iff_eq] at hl
    cases q with
    | zero =>
      simp only [List.getElem?_cons_zero, Option.some.injEq] at hq
      subst hq
      simp only [Nat.add_zero] at hi hu
      rcases hl.1 with (h1 | h1) | h1
      · omega
      · rw [h1] at hu; cases hu
      · exact h1
    | succ q => exact laterOk_spec hs (j + 1) hl.2 q h (by simpa using hq) (by omega) (by rw [show j + 1 + q = j + (q + 1) by omega]; exact hu)

theorem unordered_symm {as : List (List Nat)} {i j : Nat} : unordered as i j = unordered as j i := by
  unfold unordered
  rw [Bool.and_assoc, Bool.and_assoc, Bool.and_comm (!(as.getD i []).contains j), show (i != j) = (j != i) by
    rw [Bool.eq_iff_iff]; simp; omega]

/-- What is known of a run in order. -/
structure Run (P : Program) (Γ : Env) (call : CallF) (all : List Oper) (as : List (List Nat)) (hs : List Hint) (S : Nat → List V) (G : Nat → Heap) (v : Nat → V) (X : Nat → Heap) : Prop where
  step : ∀ (j : Nat) (o : Oper), all[j]? = some o → ∃ h, hs[j]? = some h ∧ StepAt P Γ call all as hs j o h (S j) (G j) (v j) (X j) (S (j + 1)) (G (j + 1))
  hl : hs.length ≤ all.length
  anc : AncOk all as
  lt : ∀ (j k : Nat), k ∈ as.getD j [] → k < j
  inj : ∀ (i j : Nat) (a b : Oper) (t : Nat), all[i]? = some a → all[j]? = some b → a.dst = some t → b.dst = some t → i = j

def wAt (hs : List Hint) (j id : Nat) : Bool := match hs[j]? with
  | some h => wId h id
  | none => false
def dAt (all : List Oper) (j t : Nat) : Bool := match all[j]? with
  | some o => o.dst == some t
  | none => false

section
variable {P : Program} {Γ : Env} {call : CallF} {all : List Oper} {as : List (List Nat)} {hs : List Hint} {S : Nat → List V} {G : Nat → Heap} {v : Nat → V} {X : Nat → Heap}

theorem Run.lens (R : Run P Γ call all as hs S G v X) {j : Nat} {o : Oper} (ho : all[j]? = some o) : ∃ h, hs[j]? = some h ∧ h.lb = (G j).length ∧ h.la = (G (j + 1)).length ∧ h.lb ≤ h.la ∧ (S (j + 1)).length = (S j).length := by
  obtain ⟨h, h1, h2, h3, h4⟩ := R.step j o ho
  refine ⟨h, h1, h3, ?_⟩
  have hS : (S (j + 1)).length = (S j).length := by rw [h2]; cases o.dst <;> simp [putS]
  rcases h4 with ⟨_, hop, hla, _, _, _, hG⟩ | ⟨_, _, hla, _, hG⟩
  · have hk := (op_keeps hop).1
    rw [maskHeap_length] at hk
    refine ⟨by rw [hG, mergeHeap_length, hla], ?_, hS⟩
    rw [h3, hla]
    exact hk
  · exact ⟨by rw [hG, hla], by omega, hS⟩

theorem Run.mono (R : Run P Γ call all as hs S G v X) {i : Nat} : ∀ {j : Nat}, i ≤ j → j ≤ all.length → (G i).length ≤ (G j).length
  | 0, h, _ => by rw [show i = 0 by omega]; exact Nat.le_refl _
  | j + 1, h, hj => by
    rcases Nat.lt_or_ge j i with hi | hi
    · rw [show i = j + 1 by omega]; exact Nat.le_refl _
    · have := R.mono hi (by omega)
      obtain ⟨h, _, h2, h3, h4, _⟩ := R.lens (List.getElem?_eq_getElem (show j < all.length by omega))
      omega
theorem Run.slen (R : Run P Γ call all as hs S G v X) : ∀ {j : Nat}, j ≤ all.length → (S j).length = (S 0).length
  | 0, _ => rfl
  | j + 1, hj => by
    obtain ⟨h, _, _, _, _, h5⟩ := R.lens (List.getElem?_eq_getElem (show j < all.length by omega))
    rw [h5, R.slen (by omega)]

/-- What an operation writes or makes is not hidden from it. -/
theorem Run.seen (R : Run P Γ call all as hs S G v X) {i : Nat} (hi : i < all.length) {id : Nat} (hw : wAt hs i id = true) : id ∉ maskIds as i hs 0 := by
  obtain ⟨h, h1, h2, h3, h4⟩ := R.step i all[i] (List.getElem?_eq_getElem hi)
  obtain ⟨h', h1', hlb, hla, hle, _⟩ := R.lens (List.getElem?_eq_getElem hi)
  rw [h1] at h1'; cases h1'
  unfold wAt at hw
  rw [h1] at hw
  simp only [wId, Bool.or_eq_true, List.contains_iff_mem, Bool.and_eq_true, decide_eq_true_eq] at hw
  rcases hw with hw | hw
  · rcases h4 with ⟨_, _, _, _, hck, _⟩ | ⟨_, _, _, hnil, _⟩
    · exact (hck id hw).2
    · rw [hnil] at hw; simp at hw
  · intro hm
    obtain ⟨q, hq, g1, g2, g3⟩ := (maskIds_mem hs 0).1 hm
    rw [Nat.zero_add] at g2
    -- q is not i, and made or wrote the block
    have hqi : q ≠ i := by
      intro hx; subst hx; simp [unordered] at g2
    have hqn : q < all.length := Nat.lt_of_lt_of_le (List.getElem?_eq_some_iff.1 g1).1 R.hl
    · obtain ⟨hh, k1, k2, k3, k4⟩ := R.step q all[q] (List.getElem?_eq_getElem hqn)
      obtain ⟨hh', k1', qlb, qla, qle, _⟩ := R.lens (List.getElem?_eq_getElem hqn)
      rw [k1] at k1'; cases k1'
      rw [g1] at k1; cases k1
      simp only [wId, Bool.or_eq_true, List.contains_iff_mem, Bool.and_eq_true, decide_eq_true_eq] at g3
      rcases g3 with g3 | g3
      · rcases k4 with ⟨_, _, _, _, hck, _⟩ | ⟨_, _, _, hnil, _⟩
        · refine (hck id g3).2 ((maskIds_mem hs 0).2 ⟨i, h, h1, ?_, ?_⟩)
          · rw [Nat.zero_add, unordered_symm]; exact g2
          · simp only [wId, Bool.or_eq_true, List.contains_iff_mem, Bool.and_eq_true, decide_eq_true_eq]
            exact .inr hw
        · rw [hnil] at g3; simp at g3
      · rcases Nat.lt_or_gt_of_ne hqi with hlt | hgt
        · have := R.mono (i := q + 1) (j := i) hlt (by omega)
          omega
        · have := R.mono (i := i + 1) (j := q) hgt (by omega)
          omega

/-- The content of a block when the operations of Y have been done. -/
def gAt (hs : List Hint) (G : Nat → Heap) (Y : Nat → Bool) (n id : Nat) : Option Blk := lastOf (fun j => Y j && wAt hs j id) (fun j => (G (j + 1)).getD id none) ((G 0).getD id none) n
def sAt (all : List Oper) (S : Nat → List V) (v : Nat → V) (Y : Nat → Bool) (n t : Nat) : V := lastOf (fun j => Y j && dAt all j t) v (getS (S 0) t) n
def gHeap (hs : List Hint) (G : Nat → Heap) (Y : Nat → Bool) (n N : Nat) : Heap := (List.range N).map (gAt hs G Y n)
def sList (all : List Oper) (S : Nat → List V) (v : Nat → V) (Y : Nat → Bool) (n : Nat) : List V := (List.range (S 0).length).map (sAt all S v Y n)

theorem Run.order (R : Run P Γ call all as hs S G v X) : ∀ {i : Nat} (id : Nat), i ≤ all.length → gAt hs G (fun _ => true) i id = (G i).getD id none
  | 0, id, _ => rfl
  | i + 1, id, hi => by
    have ih := R.order (i := i) id (by omega)
    unfold gAt at ih ⊢
    simp only [lastOf, Bool.true_and] at ih ⊢
    split
    · rfl
    · rename_i hw
      rw [ih]
      obtain ⟨h, h1, h2, h3, h4⟩ := R.step i all[i] (List.getElem?_eq_getElem hi)
      obtain ⟨h', h1', hlb, hla, hle, _⟩ := R.lens (List.getElem?_eq_getElem hi)
      rw [h1] at h1'; cases h1'
      simp only [wAt, h1, wId, Bool.or_eq_true, List.contains_iff_mem, Bool.and_eq_true, decide_eq_true_eq, not_or, not_and, Nat.not_lt] at hw
      rcases h4 with ⟨_, hop, hla', hws, _, _, hG⟩ | ⟨_, _, _, _, hG⟩
      · rcases Nat.lt_or_ge id (G i).length with hl | hl
        · have hk := op_keeps hop
          unfold Keeps at hk
          rw [maskHeap_length] at hk
          have hlX : id < (X i).length := by omega
          rw [hG, mergeHeap_getD _ _ _ _ hlX]
          split
          · rfl
          · rename_i hm
            have := hk.2 id hl (by rw [← hws]; exact hw.1)
            rw [List.getD_eq_getElem?_getD, List.getD_eq_getElem?_getD, this, maskHeap_get, List.getElem?_eq_getElem hl, Option.map_some, if_neg hm]
        · have := hw.2 (by omega)
          rw [List.getD_eq_getElem?_getD, List.getD_eq_getElem?_getD, List.getElem?_eq_none hl, List.getElem?_eq_none (by omega)]
      · rw [hG]

theorem Run.orderS (R : Run P Γ call all as hs S G v X) : ∀ {i : Nat} (t : Nat), i ≤ all.length → t < (S 0).length → sAt all S v (fun _ => true) i t = getS (S i) t
  | 0, t, _, _ => rfl
  | i + 1, t, hi, ht => by
    have ih := R.orderS (i := i) t (by omega) ht
    unfold sAt at ih ⊢
    simp only [lastOf, Bool.true_and] at ih ⊢
    obtain ⟨h, h1, h2, _⟩ := R.step i all[i] (List.getElem?_eq_getElem hi)
    have hlen := R.slen (j := i) (by omega)
    rw [h2]
    have hd : dAt all i t = (all[i].dst == some t) := by unfold dAt; rw [List.getElem?_eq_getElem hi]
    rw [hd]
    cases hdst : all[i].dst with
    | none => simpa [putS] using ih
    | some d =>
      by_cases hdt : d = t
      · subst hdt
        simp [putS, getS, hlen, ht]
      · simp only [putS]
        rw [if_neg (by simpa using hdt), ih]
        unfold getS
        rw [List.getD_eq_getElem?_getD, List.getD_eq_getElem?_getD, List.getElem?_set_ne hdt]

def Closed (as : List (List Nat)) (Y : Nat → Bool) : Prop := ∀ j, Y j = true → ∀ k ∈ as.getD j [], Y k = true

/-- Of those that are ordered with i, the ones before it are done and no other. -/
theorem Run.done (R : Run P Γ call all as hs S G v X) {Y : Nat → Bool} (hY : Closed as Y) {i j : Nat} (hi : Y i = false) (hanc : ∀ k ∈ as.getD i [], Y k = true) (hu : unordered as i j = false) : Y j = decide (j < i) := by
  unfold unordered at hu
  simp only [Bool.and_eq_false_iff, bne_eq_false_iff_eq, Bool.not_eq_eq_eq_not, Bool.not_false, List.contains_iff_mem] at hu
  rcases hu with (rfl | hu) | hu
  · rw [hi]; simp
  · rw [hanc j hu]
    have := R.lt i j hu
    simp [this]
  · have := R.lt j i hu
    cases hj : Y j with
    | false => simp; omega
    | true => rw [hY j hj i hu] at hi; cases hi

theorem Run.atG (R : Run P Γ call all as hs S G v X) {Y : Nat → Bool} (hY : Closed as Y) {i : Nat} (hin : i < all.length) (hi : Y i = false) (hanc : ∀ k ∈ as.getD i [], Y k = true) {id : Nat} (hid : id ∉ maskIds as i hs 0) :
    gAt hs G Y all.length id = (G i).getD id none := by
  have hw : ∀ j, j < all.length → wAt hs j id = true → Y j = decide (j < i) := fun j hj hw => by
    refine R.done hY hi hanc ?_
    cases hu : unordered as i j with
    | false => rfl
    | true =>
      unfold wAt at hw
      split at hw
      · rename_i h hh
        exact absurd ((maskIds_mem hs 0).2 ⟨j, h, hh, by rw [Nat.zero_add]; exact hu, hw⟩) hid
      · cases hw
  rw [← R.order id (Nat.le_of_lt hin)]
  unfold gAt
  rw [lastOf_cut (i := i) (Nat.le_of_lt hin) fun j h1 h2 => ?_]
  · refine lastOf_congr fun j hj => ?_
    cases hwj : wAt hs j id with
    | false => simp
    | true => rw [hw j (by omega) hwj]; simp [hj]
  · cases hwj : wAt hs j id with
    | false => simp
    | true => rw [hw j h2 hwj]; simp; omega

theorem Run.atS (R : Run P Γ call all as hs S G v X) {Y : Nat → Bool} (hY : Closed as Y) {i : Nat} (hin : i < all.length) (hi : Y i = false) (hanc : ∀ k ∈ as.getD i [], Y k = true) {t : Nat} (ht : t < (S 0).length)
    (hd : ∀ (q : Nat) (o : Oper), all[q]? = some o → unordered as i (0 + q) = true → o.dst ≠ some t) : sAt all S v Y all.length t = getS (S i) t := by
  have hw : ∀ j, j < all.length → dAt all j t = true → Y j = decide (j < i) := fun j hj hw => by
    refine R.done hY hi hanc ?_
    cases hu : unordered as i j with
    | false => rfl
    | true =>
      unfold dAt at hw
      rw [List.getElem?_eq_getElem hj] at hw
      exact absurd (by simpa using hw) (hd j all[j] (List.getElem?_eq_getElem hj) (by rw [Nat.zero_add]; exact hu))
  rw [← R.orderS t (Nat.le_of_lt hin) ht]
  unfold sAt
  rw [lastOf_cut (i := i) (Nat.le_of_lt hin) fun j h1 h2 => ?_]
  · refine lastOf_congr fun j hj => ?_
    cases hwj : dAt all j t with
    | false => simp
    | true => rw [hw j (by omega) hwj]; simp [hj]
  · cases hwj : dAt all j t with
    | false => simp
    | true => rw [hw j h2 hwj]; simp; omega

def upd (Y : Nat → Bool) (i : Nat) : Nat → Bool := fun j => decide (j = i) || Y j

theorem gAt_same {Y : Nat → Bool} {i n id : Nat} (hw : wAt hs i id = false) : gAt hs G (upd Y i) n id = gAt hs G Y n id := by
  unfold gAt
  refine lastOf_congr fun j hj => ?_
  by_cases hji : j = i
  · subst hji; simp [hw]
  · simp [upd, hji]
theorem sAt_same {Y : Nat → Bool} {i n t : Nat} (hw : dAt all i t = false) : sAt all S v (upd Y i) n t = sAt all S v Y n t := by
  unfold sAt
  refine lastOf_congr fun j hj => ?_
  by_cases hji : j = i
  · subst hji; simp [hw]
  · simp [upd, hji]

theorem Run.newG (R : Run P Γ call all as hs S G v X) {Y : Nat → Bool} (hY : Closed as Y) {i : Nat} (hin : i < all.length) (hi : Y i = false) (hanc : ∀ k ∈ as.getD i [], Y k = true) {id : Nat} (hw : wAt hs i id = true) :
    gAt hs G (upd Y i) all.length id = (G (i + 1)).getD id none := by
  unfold gAt
  refine lastOf_at (val := fun j => (G (j + 1)).getD id none) hin (by simp [upd, hw]) fun j h1 h2 => ?_
  cases hwj : wAt hs j id with
  | false => simp
  | true =>
    have hji : ¬ j = i := by omega
    simp only [upd, hji, decide_false, Bool.false_or, Bool.and_true]
    cases hyj : Y j with
    | false => rfl
    | true =>
      exfalso
      have hu : unordered as i j = true := by
        cases hu : unordered as i j with
        | true => rfl
        | false =>
          have := R.done hY hi hanc hu
          rw [hyj] at this
          have := of_decide_eq_true this.symm
          omega
      have hm := R.seen hin hw
      unfold wAt at hwj
      split at hwj
      · rename_i h hh
        exact hm ((maskIds_mem hs 0).2 ⟨j, h, hh, by rw [Nat.zero_add]; exact hu, hwj⟩)
      · cases hwj
theorem Run.newS (R : Run P Γ call all as hs S G v X) {Y : Nat → Bool} {i : Nat} (hin : i < all.length) {t : Nat} (hd : all[i].dst = some t) : sAt all S v (upd Y i) all.length t = v i := by
  have hdi : dAt all i t = true := by unfold dAt; rw [List.getElem?_eq_getElem hin]; simp [hd]
  unfold sAt
  refine lastOf_at (val := v) hin (by simp [upd, hdi]) fun j h1 h2 => ?_
  cases hwj : dAt all j t with
  | false => simp
  | true =>
    exfalso
    unfold dAt at hwj
    rw [List.getElem?_eq_getElem h2] at hwj
    have := R.inj i j all[i] all[j] t (List.getElem?_eq_getElem hin) (List.getElem?_eq_getElem h2) hd (by simpa using hwj)
    omega
end
end Go.Ev
