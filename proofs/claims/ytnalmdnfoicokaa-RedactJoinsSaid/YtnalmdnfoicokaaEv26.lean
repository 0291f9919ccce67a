/-
  SLICES THAT MAY BE nil, AND ROWS OF FLAT VALUES (own work).
-/
import Derived.Test.YtnalmdnfoicokaaEv25
set_option linter.unusedSimpArgs false
set_option linter.unusedVariables false
namespace Go.Ev
open Go

/-- A slice that is read only; nil if z and it is empty. -/
def roV (z : Bool) (n : Nat) (cs : List V) : V := if z && n == 0 then .nils else .ros n cs
/-- An own slice, likewise. -/
def ownV (z : Bool) (id off n sz : Nat) : V := if z && n == 0 then .nils else .sl id off n sz
/-- Its block. -/
def ownB (z : Bool) (n : Nat) (cs : List V) : Option Blk := if z && n == 0 then none else some (.cells cs false)

@[simp] theorem roV_succ (z : Bool) (n : Nat) (cs : List V) : roV z (n + 1) cs = .ros (n + 1) cs := by simp [roV]
@[simp] theorem roV_nil (cs : List V) : roV true 0 cs = .nils := by simp [roV]
@[simp] theorem roV_false (n : Nat) (cs : List V) : roV false n cs = .ros n cs := by simp [roV]
@[simp] theorem ownV_succ (z : Bool) (id off n sz : Nat) : ownV z id off (n + 1) sz = .sl id off (n + 1) sz := by simp [ownV]
@[simp] theorem ownV_nil (id off sz : Nat) : ownV true id off 0 sz = .nils := by simp [ownV]
@[simp] theorem ownV_false (id off n sz : Nat) : ownV false id off n sz = .sl id off n sz := by simp [ownV]
@[simp] theorem ownB_succ (z : Bool) (n : Nat) (cs : List V) : ownB z (n + 1) cs = some (.cells cs false) := by simp [ownB]
@[simp] theorem ownB_nil (cs : List V) : ownB true 0 cs = none := by simp [ownB]
@[simp] theorem ownB_false (n : Nat) (cs : List V) : ownB false n cs = some (.cells cs false) := by simp [ownB]

/-- Nothing that refers to a block that may turn. -/
def V.flat : V → Bool
  | .bool _ => true
  | .int _ _ => true
  | .str _ => true
  | .nils => true
  | .ros _ _ => true
  | .nilp => true
  | .ro _ => true
  | .nilm => true
  | .rom _ _ => true
  | .nilf => true
  | .nili => true
  | _ => false
@[simp] theorem flat_roV (z : Bool) (n : Nat) (cs : List V) : (roV z n cs).flat = true := by unfold roV; split <;> rfl

section
variable {P : Program} {Γ : Env} {t e : TypeId}

/-- Slice types; their elements' size. -/
def isSl (P : Program) (t : TypeId) : Bool := match P.underlying t with | some (.slice _) => true | _ => false
def elSz (P : Program) (t : TypeId) : Option Nat := match P.underlying t with | some (.slice e) => tsz P e | _ => none
def isStrT (P : Program) (t : TypeId) : Bool := match P.underlying t with | some .string => true | _ => false
def isArr (P : Program) (t : TypeId) : Bool := match P.underlying t with | some (.array _ _) => true | _ => false
def isMapT (P : Program) (t : TypeId) : Bool := match P.underlying t with | some (.map _ _) => true | _ => false
attribute [simp] isSl elSz isStrT isArr isMapT
theorem isSl_spec (h : isSl P t = true) : ∃ e, P.underlying t = some (.slice e) ∧ elSz P t = tsz P e := by
  unfold isSl at h
  split at h
  · rename_i e he; exact ⟨e, he, by simp only [elSz, he]⟩
  · cases h
theorem isStrT_spec (h : isStrT P t = true) : P.underlying t = some .string := by
  unfold isStrT at h
  split at h
  · assumption
  · cases h
theorem isMapT_spec (h : isMapT P t = true) : ∃ a b, P.underlying t = some (.map a b) := by
  unfold isMapT at h
  split at h
  · rename_i a b he; exact ⟨a, b, he⟩
  · cases h
@[simp] theorem lenV_nils (h : isSl P t = true) (H : Heap) : lenV P H t .nils = some (.int .i64 0) := by
  obtain ⟨e, h, _⟩ := isSl_spec h; simp only [lenV, h]
@[simp] theorem lenV_sl (h : isSl P t = true) (H : Heap) (id off n sz : Nat) : lenV P H t (.sl id off n sz) = some (.int .i64 n) := by
  obtain ⟨e, h, _⟩ := isSl_spec h; simp only [lenV, h]
@[simp] theorem lenV_ros (h : isSl P t = true) (H : Heap) (n : Nat) (cs : List V) : lenV P H t (.ros n cs) = some (.int .i64 n) := by
  obtain ⟨e, h, _⟩ := isSl_spec h; simp only [lenV, h]
@[simp] theorem lenV_str (h : isStrT P t = true) (H : Heap) (s : ByteArray) : lenV P H t (.str s) = some (.int .i64 s.size) := by
  simp only [lenV, isStrT_spec h]
@[simp] theorem lenV_nilm (h : isMapT P t = true) (H : Heap) : lenV P H t .nilm = some (.int .i64 0) := by
  obtain ⟨a, b, h⟩ := isMapT_spec h; simp only [lenV, h]
@[simp] theorem lenV_rom (h : isMapT P t = true) (H : Heap) (ks vs : List V) : lenV P H t (.rom ks vs) = some (.int .i64 ks.length) := by
  obtain ⟨a, b, h⟩ := isMapT_spec h; simp only [lenV, h]
@[simp] theorem lenV_map {c : Nat} {es : List (V × V × Nat)} {id : Nat} {H : Heap} (h : isMapT P t = true) (hH : H[id]? = some (some (.map es c))) : lenV P H t (.map id) = some (.int .i64 es.length) := by
  obtain ⟨a, b, h⟩ := isMapT_spec h; simp only [lenV, h, hH]
@[simp] theorem lenV_ro (h : isSl P t = true) (H : Heap) (z : Bool) (n : Nat) (cs : List V) : lenV P H t (roV z n cs) = some (.int .i64 n) := by
  unfold roV; split
  · rename_i hz; simp at hz; rw [lenV_nils h]; simp [hz.2]
  · exact lenV_ros h _ _ _
@[simp] theorem lenV_own (h : isSl P t = true) (H : Heap) (z : Bool) (id off n sz : Nat) : lenV P H t (ownV z id off n sz) = some (.int .i64 n) := by
  unfold ownV; split
  · rename_i hz; simp at hz; rw [lenV_nils h]; simp [hz.2]
  · exact lenV_sl h _ _ _ _ _
@[simp] theorem indexAddrV_nils (h : isSl P t = true) (i : V) : indexAddrV P t .nils i = none := by
  obtain ⟨e, h, _⟩ := isSl_spec h; simp only [indexAddrV, h]
@[simp] theorem indexAddrV_sl (h : isSl P t = true) (id off n sz : Nat) (k : IntKind) (i : Int) : indexAddrV P t (.sl id off n sz) (.int k i) = (elSz P t).bind fun m => if (0 ≤ i ∧ i < n) ∧ m = sz then some (.ptr id (off + i.toNat * sz)) else none := by
  obtain ⟨e, h, h'⟩ := isSl_spec h
  rw [h']
  simp only [indexAddrV, h]
  cases tsz P e <;> simp
@[simp] theorem indexAddrV_ros (h : isSl P t = true) (n : Nat) (cs : List V) (k : IntKind) (i : Int) : indexAddrV P t (.ros n cs) (.int k i) = (elSz P t).bind fun m => if 0 ≤ i ∧ i < n then some (.ro ((cs.drop (i.toNat * m)).take m)) else none := by
  obtain ⟨e, h, h'⟩ := isSl_spec h
  rw [h']
  simp only [indexAddrV, h]
  cases tsz P e <;> simp
@[simp] theorem indexAddrV_ro (h : isSl P t = true) (z : Bool) (n : Nat) (cs : List V) (k : IntKind) (i : Int) : indexAddrV P t (roV z n cs) (.int k i) = (elSz P t).bind fun m => if 0 ≤ i ∧ i < n then some (.ro ((cs.drop (i.toNat * m)).take m)) else none := by
  unfold roV; split
  · rename_i hz; simp at hz
    rw [indexAddrV_nils h, hz.2]
    cases elSz P t with
    | none => rfl
    | some m => simp only [Option.bind_some]; rw [if_neg (by omega)]
  · exact indexAddrV_ros h _ _ _ _
@[simp] theorem indexAddrV_own (h : isSl P t = true) (z : Bool) (id off n sz : Nat) (k : IntKind) (i : Int) : indexAddrV P t (ownV z id off n sz) (.int k i) = (elSz P t).bind fun m => if (0 ≤ i ∧ i < n) ∧ m = sz then some (.ptr id (off + i.toNat * sz)) else none := by
  unfold ownV; split
  · rename_i hz; simp at hz
    rw [indexAddrV_nils h, hz.2]
    cases elSz P t with
    | none => rfl
    | some m => simp only [Option.bind_some]; rw [if_neg (by omega)]
  · exact indexAddrV_sl h _ _ _ _ _ _
theorem isArr_spec (h : isArr P t = true) : ∃ k e, P.underlying t = some (.array k e) := by
  unfold isArr at h
  split at h
  · rename_i k e he; exact ⟨k, e, he⟩
  · cases h
def arrN (P : Program) (t : TypeId) : Nat × Option Nat := match P.underlying t with | some (.array k e) => (k, tsz P e) | _ => (0, none)
attribute [simp] arrN
@[simp] theorem indexAddrV_arr (h : isArr P t = true) (id off : Nat) (k : IntKind) (i : Int) : indexAddrV P t (.ptr id off) (.int k i) = (arrN P t).2.bind fun m => if 0 ≤ i ∧ i < (arrN P t).1 then some (.ptr id (off + i.toNat * m)) else none := by
  obtain ⟨c, e, h⟩ := isArr_spec h
  simp only [indexAddrV, h, arrN]
  cases tsz P e <;> simp
@[simp] theorem indexAddrV_arro (h : isArr P t = true) (cs : List V) (k : IntKind) (i : Int) : indexAddrV P t (.ro cs) (.int k i) = (arrN P t).2.bind fun m => if 0 ≤ i ∧ i < (arrN P t).1 then some (.ro ((cs.drop (i.toNat * m)).take m)) else none := by
  obtain ⟨c, e, h⟩ := isArr_spec h
  simp only [indexAddrV, h, arrN]
  cases tsz P e <;> simp
@[simp] theorem eqSlice_ro1 (z : Bool) (n : Nat) (cs : List V) : eqSlice (roV z n cs) .nils = some (z && n == 0) := by
  unfold roV; split <;> simp_all [eqSlice]
@[simp] theorem eqSlice_ro2 (z : Bool) (n : Nat) (cs : List V) : eqSlice .nils (roV z n cs) = some (z && n == 0) := by
  unfold roV; split <;> simp_all [eqSlice]
@[simp] theorem eqSlice_own1 (z : Bool) (id off n sz : Nat) : eqSlice (ownV z id off n sz) .nils = some (z && n == 0) := by
  unfold ownV; split <;> simp_all [eqSlice]
@[simp] theorem eqSlice_own2 (z : Bool) (id off n sz : Nat) : eqSlice .nils (ownV z id off n sz) = some (z && n == 0) := by
  unfold ownV; split <;> simp_all [eqSlice]
theorem itemsV_nils (H : Heap) (k : Nat) : itemsV H k .nils = some (0, []) := by simp [itemsV, sliceAtV]
@[simp] theorem itemsV_nil (H : Heap) (k : Nat) : itemsV H k .nils = some (0, []) := itemsV_nils H k
@[simp] theorem itemsV_str (H : Heap) (s : ByteArray) : itemsV H 1 (.str s) = some (s.size, byteCells s) := rfl
@[simp] theorem itemsV_ros (H : Heap) (k n : Nat) (cs : List V) : itemsV H k (.ros n cs) = if n * k ≤ cs.length then some (n, cs.take (n * k)) else none := rfl
def itemsB (k off n : Nat) : Option (Option Blk) → Option (Nat × List V)
  | some (some (.cells cs _)) => if n * k ≤ (cs.drop off).length then some (n, (cs.drop off).take (n * k)) else none
  | _ => none
@[simp] theorem itemsB_cells (k off n : Nat) (cs : List V) (e : Bool) : itemsB k off n (some (some (.cells cs e))) = if n * k ≤ (cs.drop off).length then some (n, (cs.drop off).take (n * k)) else none := rfl
@[simp] theorem itemsV_sl (H : Heap) (k id off n sz : Nat) : itemsV H k (.sl id off n sz) = itemsB k off n H[id]? := by
  simp only [itemsV, sliceAtV]
  cases H[id]? with
  | none => rfl
  | some o => cases o with
    | none => rfl
    | some b => cases b <;> rfl
@[simp] theorem appendS_nils (H : Heap) (n b k : Nat) (vs : List V) : appendS H n b .nils k vs = if k = 0 then some (.nils, H) else if k * b ≤ 140737488355328 then some (.sl H.length 0 k n, H ++ [some (.cells vs false)]) else none := rfl
/-- Behind a slice that was made as a whole. -/
@[simp] theorem appendS_exact {H : Heap} {n b id off len k : Nat} {cs vs : List V} (hH : H[id]? = some (some (.cells cs true))) (hl : off + len * n = cs.length) (hk : k ≠ 0) (hn : n ≠ 0) (hb : (len + k) * b ≤ 140737488355328) :
    appendS H n b (.sl id off len n) k vs = some (.sl H.length 0 (len + k) n, H ++ [some (.cells ((cs.drop off).take (len * n) ++ vs) false)]) := by
  have h1 : ¬ (off + (len + k) * n ≤ cs.length) := by rw [← hl, Nat.add_mul]; have : 0 < k * n := Nat.mul_pos (by omega) (by omega); omega
  simp only [appendS, hH, bne_self_eq_false, Bool.false_eq_true, if_false, if_neg hk, if_neg h1, hl, Nat.le_refl, hb, decide_true, Bool.and_self, if_true]
/-- Behind a slice of which nobody else sees the end. -/
@[simp] theorem appendS_last {H : Heap} {n b id off len k : Nat} {cs vs : List V} (hH : H[id]? = some (some (.cells cs false))) (hl : off + len * n = cs.length) (hk : k ≠ 0) (hn : n ≠ 0) (hb : (len + k) * b ≤ 140737488355328) :
    appendS H n b (.sl id off len n) k vs = some (.sl H.length 0 (len + k) n, H.set id none ++ [some (.cells (cs.drop off ++ vs) false)]) := by
  have h1 : ¬ (off + (len + k) * n ≤ cs.length) := by rw [← hl, Nat.add_mul]; have : 0 < k * n := Nat.mul_pos (by omega) (by omega); omega
  simp only [appendS, hH, bne_self_eq_false, Bool.false_eq_true, if_false, if_neg hk, if_neg h1, hl, Nat.le_refl, hb, decide_true, Bool.and_self, if_true]
@[simp] theorem itemsV_ro (H : Heap) (k : Nat) (z : Bool) (n : Nat) (cs : List V) (hl : n * k ≤ cs.length) : itemsV H k (roV z n cs) = some (n, cs.take (n * k)) := by
  unfold roV; split
  · rename_i hz; simp at hz; simp [itemsV_nils, hz.2]
  · simp [itemsV, sliceAtV, hl]
@[simp] theorem itemsV_own (H : Heap) (k : Nat) (z : Bool) (id off n sz : Nat) (cs : List V) (hH : H[id]? = some (ownB z n cs)) (hl : n * k ≤ (cs.drop off).length) : itemsV H k (ownV z id off n sz) = some (n, (cs.drop off).take (n * k)) := by
  unfold ownV; split
  · rename_i hz; simp at hz; simp [itemsV_nils, hz.2]
  · rename_i hz; rw [ownB, if_neg hz] at hH; simp only [itemsV, sliceAtV, hH]; rw [if_pos hl]
@[simp] theorem sliceV_str (h : isStrT P t = true) (H : Heap) (s : ByteArray) (lo hi : Option V) : sliceV P H t (.str s) lo hi none = (boundV 0 lo).bind fun l => (boundV s.size hi).bind fun h => if l ≤ h ∧ h ≤ s.size then some (.str (s.extract l h)) else none := by
  simp only [sliceV, isStrT_spec h]
  cases boundV 0 lo <;> cases boundV s.size hi <;> simp
@[simp] theorem sliceV_sl (h : isSl P t = true) (H : Heap) (id off n sz : Nat) (lo hi : Option V) : sliceV P H t (.sl id off n sz) lo hi none = (boundV 0 lo).bind fun l => (boundV n hi).bind fun h => (elSz P t).bind fun m => if ((l ≤ h ∧ h ≤ n) ∧ m = sz) ∧ 0 < sz then some (.sl id (off + l * sz) (h - l) sz) else none := by
  obtain ⟨e, h, h'⟩ := isSl_spec h
  rw [h']
  simp only [sliceV, h]
  cases boundV 0 lo <;> cases boundV n hi <;> cases tsz P e <;> simp
@[simp] theorem sliceV_ros (h : isSl P t = true) (H : Heap) (n : Nat) (cs : List V) (lo hi : Option V) : sliceV P H t (.ros n cs) lo hi none = (boundV 0 lo).bind fun l => (boundV n hi).bind fun h => (elSz P t).bind fun m => if l ≤ h ∧ h ≤ n then some (.ros (h - l) ((cs.drop (l * m)).take ((h - l) * m))) else none := by
  obtain ⟨e, h, h'⟩ := isSl_spec h
  rw [h']
  simp only [sliceV, h]
  cases boundV 0 lo <;> cases boundV n hi <;> cases tsz P e <;> simp
@[simp] theorem sliceV_nils (h : isSl P t = true) (H : Heap) (lo hi : Option V) : sliceV P H t .nils lo hi none = (boundV 0 lo).bind fun l => (boundV 0 hi).bind fun h => (elSz P t).bind fun _ => if l = 0 ∧ h = 0 then some .nils else none := by
  obtain ⟨e, h, h'⟩ := isSl_spec h
  rw [h']
  simp only [sliceV, h]
  cases boundV 0 lo with
  | none => rfl
  | some l => cases boundV 0 hi with
    | none => cases l <;> simp
    | some h => cases tsz P e <;> cases l <;> cases h <;> simp
@[simp] theorem sliceV_ro (h : isSl P t = true) (H : Heap) (z : Bool) (n : Nat) (cs : List V) (lo hi : Option V) :
    sliceV P H t (roV z n cs) lo hi none = (boundV 0 lo).bind fun l => (boundV n hi).bind fun h => (elSz P t).bind fun m => if l ≤ h ∧ h ≤ n then some (roV (z && n == 0) (h - l) ((cs.drop (l * m)).take ((h - l) * m))) else none := by
  unfold roV; split
  · rename_i hz; simp only [Bool.and_eq_true, beq_iff_eq] at hz
    rw [sliceV_nils h, hz.2]
    cases boundV 0 lo with
    | none => rfl
    | some l => cases boundV 0 hi with
      | none => rfl
      | some h => cases elSz P t <;> cases l <;> cases h <;> simp [hz.1]
  · rename_i hz
    have hz' : (z && n == 0) = false := by simpa using hz
    rw [sliceV_ros h]
    simp only [hz', Bool.false_and, Bool.false_eq_true, if_false]
@[simp] theorem sliceV_own (h : isSl P t = true) (H : Heap) (z : Bool) (id off n sz : Nat) (lo hi : Option V) (hs : 0 < sz) (he : elSz P t = some sz) :
    sliceV P H t (ownV z id off n sz) lo hi none = (boundV 0 lo).bind fun l => (boundV n hi).bind fun h => if l ≤ h ∧ h ≤ n then some (ownV (z && n == 0) id (off + l * sz) (h - l) sz) else none := by
  unfold ownV; split
  · rename_i hz; simp only [Bool.and_eq_true, beq_iff_eq] at hz
    rw [sliceV_nils h, hz.2, he]
    cases boundV 0 lo with
    | none => rfl
    | some l => cases boundV 0 hi with
      | none => rfl
      | some h => cases l <;> cases h <;> simp [hz.1]
  · rename_i hz
    have hz' : (z && n == 0) = false := by simpa using hz
    rw [sliceV_sl h, he]
    simp only [hz', Bool.false_and, Bool.false_eq_true, if_false, hs, and_true, Option.bind_some]
@[simp] theorem sliceV_arr (h : isArr P t = true) (id off : Nat) (H : Heap) (cs : List V) (hH : H[id]? = some (some (.cells cs true))) (lo hi : Option V) :
    sliceV P H t (.ptr id off) lo hi none = (boundV 0 lo).bind fun l => (boundV (arrN P t).1 hi).bind fun h => (arrN P t).2.bind fun n => if (((l ≤ h ∧ h ≤ (arrN P t).1) ∧ l < (arrN P t).1) ∧ 0 < n) ∧ off + (arrN P t).1 * n = cs.length then some (.sl id (off + l * n) (h - l) n) else none := by
  obtain ⟨c, e, h⟩ := isArr_spec h
  simp only [sliceV, h, arrN, hH]
  cases boundV 0 lo <;> cases boundV c hi <;> cases tsz P e <;> simp
/-- With a third bound. -/
theorem sliceMaxV_sl (h : isSl P t = true) {H : Heap} {id off n sz : Nat} {cs : List V} {ex : Bool} (hH : H[id]? = some (some (.cells cs ex))) (k : IntKind) (a : Int) (h0 : 0 ≤ a) (h1 : a ≤ n) (hs : 0 < sz) (he : elSz P t = some sz) (hc : off + a.toNat * sz ≤ cs.length) :
    sliceMaxV P H t (.sl id off n sz) (.int k a) (.int k a) = some (.sl H.length off a.toNat sz, H.set id none ++ [some (.cells (cs.take (off + a.toNat * sz)) true)]) := by
  obtain ⟨e, h, h'⟩ := isSl_spec h
  rw [h'] at he
  simp only [sliceMaxV, h, he, hH]
  rw [if_pos]
  simp [h0, h1, hs, hc]
@[simp] theorem sliceMaxV_slf (h : isSl P t = true) {H : Heap} {id off n sz : Nat} {cs : List V} (hH : H[id]? = some (some (.cells cs false))) (k : IntKind) (a : Int) (h0 : 0 ≤ a) (h1 : a ≤ n) (hs : 0 < sz) (he : elSz P t = some sz) (hc : off + a.toNat * sz ≤ cs.length) :
    sliceMaxV P H t (.sl id off n sz) (.int k a) (.int k a) = some (.sl H.length off a.toNat sz, H.set id none ++ [some (.cells (cs.take (off + a.toNat * sz)) true)]) := sliceMaxV_sl h hH k a h0 h1 hs he hc
@[simp] theorem sliceMaxV_slt (h : isSl P t = true) {H : Heap} {id off n sz : Nat} {cs : List V} (hH : H[id]? = some (some (.cells cs true))) (k : IntKind) (a : Int) (h0 : 0 ≤ a) (h1 : a ≤ n) (hs : 0 < sz) (he : elSz P t = some sz) (hc : off + a.toNat * sz ≤ cs.length) :
    sliceMaxV P H t (.sl id off n sz) (.int k a) (.int k a) = some (.sl H.length off a.toNat sz, H.set id none ++ [some (.cells (cs.take (off + a.toNat * sz)) true)]) := sliceMaxV_sl h hH k a h0 h1 hs he hc
@[simp] theorem sliceMaxV_nils (h : isSl P t = true) {H : Heap} (k : IntKind) {sz : Nat} (he : elSz P t = some sz) : sliceMaxV P H t .nils (.int k 0) (.int k 0) = some (.nils, H) := by
  obtain ⟨e, h, h'⟩ := isSl_spec h
  rw [h'] at he
  simp [sliceMaxV, h, he]
theorem set_none {α : Type} (H : List (Option α)) (id : Nat) (h : H[id]? = some none) : H.set id none = H := by
  refine List.ext_getElem? fun i => ?_
  rw [List.getElem?_set]
  split
  · rename_i hi; subst hi
    obtain ⟨hl, hh⟩ := List.getElem?_eq_some_iff.1 h
    simp [hl, hh]
  · rfl
/-- What is appended to an own slice that no other one sees the end of. -/
@[simp] theorem appendS_own (H : Heap) (n b : Nat) (z : Bool) (id len k : Nat) (cs vs : List V) (hH : H[id]? = some (ownB z len cs)) (hcs : cs.length = len * n) (hk : k ≠ 0) (hvs : vs.length = k * n) (hn : n ≠ 0) (hb : (len + k) * b ≤ 140737488355328) :
    appendS H n b (ownV z id 0 len n) k vs = some (.sl H.length 0 (len + k) n, H.set id none ++ [some (.cells (cs ++ vs) false)]) := by
  unfold ownV; split
  · rename_i hz
    rw [ownB, if_pos hz] at hH
    simp at hz
    have : cs = [] := List.length_eq_zero_iff.1 (by rw [hcs, hz.2]; simp)
    have hb' : k * b ≤ 140737488355328 := by simpa [hz.2] using hb
    simp only [appendS, if_neg hk, if_pos hb', hz.2, set_none _ _ hH, this, List.nil_append, Nat.zero_add]
  · rename_i hz
    rw [ownB, if_neg hz] at hH
    have h1 : ¬ ((len + k) * n ≤ cs.length) := by rw [hcs, Nat.add_mul]; have : 0 < k * n := Nat.mul_pos (by omega) (by omega); omega
    have h2 : len * n ≤ cs.length := by omega
    simp only [appendS, hH, if_neg hk, bne_self_eq_false, Bool.false_eq_true, if_false, Nat.zero_add, if_neg h1, hcs, Nat.le_refl, hb, decide_true, Bool.and_self, if_true, List.drop_zero]
    rw [if_neg (by rw [hcs] at h1; exact h1)]
theorem appendS_own0 (H : Heap) (n b : Nat) (z : Bool) (id len : Nat) (cs : List V) (hH : H[id]? = some (ownB z len cs)) :
    appendS H n b (ownV z id 0 len n) 0 [] = some (ownV z id 0 len n, H) := by
  unfold ownV; split
  · simp [appendS]
  · rename_i hz
    rw [ownB, if_neg hz] at hH
    simp [appendS, hH]
@[simp] theorem snap_ro (d : Nat) (H : Heap) (z : Bool) (n : Nat) (cs : List V) : snap d H (roV z n cs) = roV z n cs := by
  unfold roV; split <;> cases d <;> simp [snap, V.sub]
@[simp] theorem snap_own (d : Nat) (H : Heap) (z : Bool) (id off n sz : Nat) (cs : List V) (hH : H[id]? = some (ownB z n cs)) : snap (d + 1) H (ownV z id off n sz) = roV z n (((cs.drop off).take (n * sz)).map (snap d H)) := by
  unfold ownV roV; split
  · rename_i hz; simp [snap, V.sub]
  · rename_i hz; rw [ownB, if_neg hz] at hH; simp [snap, V.sub, hH]
@[simp] theorem leaves_ro (z : Bool) (n : Nat) (cs : List V) : (roV z n cs).leaves = [none] := by unfold roV; split <;> rfl
@[simp] theorem refs_ro (z : Bool) (n : Nat) (cs : List V) : (roV z n cs).refs = [] := by unfold roV; split <;> rfl
@[simp] theorem sub_ro (hp : Nat → Nat → V) (hs : Nat → Nat → Nat → Nat → V) (hm : Nat → V) (z : Bool) (n : Nat) (cs : List V) : (roV z n cs).sub hp hs hm = roV z n cs := by unfold roV; split <;> rfl
@[simp] theorem cellsO_ro (z : Bool) (n : Nat) (cs : List V) : (roV z n cs).cellsO = some [roV z n cs] := by unfold roV; split <;> rfl
@[simp] theorem cellsO_own (z : Bool) (id off n sz : Nat) : (ownV z id off n sz).cellsO = some [ownV z id off n sz] := by unfold ownV; split <;> rfl
@[simp] theorem own_own (z : Bool) (id off n sz : Nat) : (ownV z id off n sz).own = true := by unfold ownV; split <;> simp [V.own]
end

section
variable (d : Nat) (H : Heap)
@[simp] theorem snap_bool (b : Bool) : snap d H (.bool b) = .bool b := by cases d <;> rfl
@[simp] theorem snap_int (k : IntKind) (n : Int) : snap d H (.int k n) = .int k n := by cases d <;> rfl
@[simp] theorem snap_str (s : ByteArray) : snap d H (.str s) = .str s := by cases d <;> rfl
@[simp] theorem snap_nilp : snap d H .nilp = .nilp := by cases d <;> rfl
@[simp] theorem snap_nils : snap d H .nils = .nils := by cases d <;> rfl
@[simp] theorem snap_nilm : snap d H .nilm = .nilm := by cases d <;> rfl
@[simp] theorem snap_nilf : snap d H .nilf = .nilf := by cases d <;> rfl
@[simp] theorem snap_nili : snap d H .nili = .nili := by cases d <;> rfl
@[simp] theorem snap_junk : snap d H .junk = .junk := by cases d <;> rfl
@[simp] theorem snap_ros (n : Nat) (cs : List V) : snap d H (.ros n cs) = .ros n cs := by cases d <;> rfl
@[simp] theorem snap_rov (cs : List V) : snap d H (.ro cs) = .ro cs := by cases d <;> rfl
@[simp] theorem snap_rom (ks vs : List V) : snap d H (.rom ks vs) = .rom ks vs := by cases d <;> rfl
@[simp] theorem snap_agg (cs : List V) : snap (d + 1) H (.agg cs) = .agg (cs.map (snap (d + 1) H)) := by
  rw [snap, V.sub, subL_eq]
  exact congrArg V.agg (List.map_congr_left fun v _ => by rw [snap])
@[simp] theorem snap_tup (cs : List V) : snap (d + 1) H (.tup cs) = .tup (cs.map (snap (d + 1) H)) := by
  rw [snap, V.sub, subL_eq]
  exact congrArg V.tup (List.map_congr_left fun v _ => by rw [snap])
@[simp] theorem snap_fn (f : Fn) (a b : List V) : snap (d + 1) H (.fn f a b) = .fn f (a.map (snap (d + 1) H)) (b.map (snap (d + 1) H)) := by
  rw [snap, V.sub, subL_eq, subL_eq]
  exact congr (congrArg (V.fn f) (List.map_congr_left fun v _ => by rw [snap])) (List.map_congr_left fun v _ => by rw [snap])
@[simp] theorem snap_iface (t : Nat) (v : V) : snap (d + 1) H (.iface t v) = .iface t (snap (d + 1) H v) := by
  rw [snap, V.sub]; rfl
/-- A block, read out. -/
def snapB (d : Nat) (H : Heap) (off : Nat) (n : Option (Nat × Nat)) : Option (Option Blk) → V
  | some (some (.cells cs _)) => match n with
    | none => .ro ((cs.drop off).map (snap d H))
    | some (len, sz) => .ros len (((cs.drop off).take (len * sz)).map (snap d H))
  | _ => .junk
@[simp] theorem snapB_ptr (off : Nat) (cs : List V) (e : Bool) : snapB d H off none (some (some (.cells cs e))) = .ro ((cs.drop off).map (snap d H)) := rfl
@[simp] theorem snapB_sl (off len sz : Nat) (cs : List V) (e : Bool) : snapB d H off (some (len, sz)) (some (some (.cells cs e))) = .ros len (((cs.drop off).take (len * sz)).map (snap d H)) := rfl
@[simp] theorem snap_ptr (id off : Nat) : snap (d + 1) H (.ptr id off) = snapB d H off none H[id]? := by
  rw [snap, V.sub, snapB.eq_def]
  cases H[id]? with
  | none => rfl
  | some o => cases o with
    | none => rfl
    | some b => cases b <;> rfl
@[simp] theorem snap_sl (id off len sz : Nat) : snap (d + 1) H (.sl id off len sz) = snapB d H off (some (len, sz)) H[id]? := by
  rw [snap, V.sub, snapB.eq_def]
  cases H[id]? with
  | none => rfl
  | some o => cases o with
    | none => rfl
    | some b => cases b <;> rfl
end

@[simp] theorem refsL_app (a b : List V) : refsL (a ++ b) = refsL a ++ refsL b := by
  induction a with
  | nil => rfl
  | cons v l ih => simp [refsL, ih]
@[simp] theorem leavesL_app (a b : List V) : leavesL (a ++ b) = leavesL a ++ leavesL b := by
  induction a with
  | nil => rfl
  | cons v l ih => simp [leavesL, ih]
@[simp] theorem ownL_app (a b : List V) : ownL (a ++ b) = (ownL a && ownL b) := by
  induction a with
  | nil => rfl
  | cons v l ih => simp [ownL, ih, Bool.and_assoc]
@[simp] theorem subL_app (hp : Nat → Nat → V) (hs : Nat → Nat → Nat → Nat → V) (hm : Nat → V) (a b : List V) : subL hp hs hm (a ++ b) = subL hp hs hm a ++ subL hp hs hm b := by
  induction a with
  | nil => rfl
  | cons v l ih => simp [subL, ih]

/-! ### Rows of flat values -/
structure Enc (α : Type) where
  f : α → List V
  k : Nat
  len : ∀ a, (f a).length = k
  flat : ∀ a, ∀ v ∈ f a, v.flat = true

/-- Whole numbers, bools and strings alone. -/
class Enc.Own {α : Type} (E : Enc α) : Prop where
  own : ∀ a, ownL (E.f a) = true
  leaves : ∀ a, leavesL (E.f a) = []

def flatE {α : Type} (E : Enc α) (l : List α) : List V := l.flatMap E.f

def intE (k : IntKind) : Enc Int := ⟨fun n => [.int k n], 1, fun _ => rfl, fun a v h => by simp at h; subst h; rfl⟩
def strE : Enc ByteArray := ⟨fun n => [.str n], 1, fun _ => rfl, fun a v h => by simp at h; subst h; rfl⟩
def boolE : Enc Bool := ⟨fun n => [.bool n], 1, fun _ => rfl, fun a v h => by simp at h; subst h; rfl⟩
instance (k : IntKind) : (intE k).Own := ⟨fun _ => rfl, fun _ => rfl⟩
instance : strE.Own := ⟨fun _ => rfl, fun _ => rfl⟩
instance : boolE.Own := ⟨fun _ => rfl, fun _ => rfl⟩
@[simp] theorem intE_k (k : IntKind) : (intE k).k = 1 := rfl
@[simp] theorem strE_k : strE.k = 1 := rfl
@[simp] theorem boolE_k : boolE.k = 1 := rfl
@[simp] theorem intE_f (k : IntKind) (n : Int) : (intE k).f n = [.int k n] := rfl
@[simp] theorem strE_f (n : ByteArray) : strE.f n = [.str n] := rfl
@[simp] theorem boolE_f (n : Bool) : boolE.f n = [.bool n] := rfl

section
variable {α : Type} (E : Enc α)
@[simp] theorem flatE_nil : flatE E [] = [] := rfl
@[simp] theorem flatE_cons (x : α) (l : List α) : flatE E (x :: l) = E.f x ++ flatE E l := rfl
@[simp] theorem flatE_append (l m : List α) : flatE E (l ++ m) = flatE E l ++ flatE E m := by simp [flatE]
@[simp] theorem flatE_length (l : List α) : (flatE E l).length = l.length * E.k := by
  induction l with
  | nil => simp
  | cons x l ih => simp [ih, E.len, Nat.add_mul, Nat.add_comm]
theorem flatE_flat (l : List α) : ∀ v ∈ flatE E l, v.flat = true := fun v h => by
  obtain ⟨a, _, ha⟩ := List.mem_flatMap.1 h
  exact E.flat a v ha
@[simp] theorem enc_len (a : α) : (E.f a).length = E.k := E.len a
@[simp] theorem take_enc {n : Nat} (h : E.k = n) (a : α) : (E.f a).take n = E.f a := by rw [List.take_of_length_le]; rw [E.len, h]; exact Nat.le_refl _
theorem drop_flatE (l : List α) (i : Nat) : (flatE E l).drop (i * E.k) = flatE E (l.drop i) := by
  induction l generalizing i with
  | nil => simp
  | cons x l ih =>
    cases i with
    | zero => simp
    | succ i =>
      rw [Nat.add_mul, Nat.one_mul, Nat.add_comm, ← List.drop_drop]
      simp only [flatE_cons, List.drop_succ_cons]
      rw [← ih i, List.drop_append_of_le_length (by rw [E.len]; exact Nat.le_refl _), List.drop_of_length_le (l := E.f x) (by rw [E.len]; exact Nat.le_refl _)]
      simp
theorem take_flatE (l : List α) (i : Nat) : (flatE E l).take (i * E.k) = flatE E (l.take i) := by
  induction l generalizing i with
  | nil => simp
  | cons x l ih =>
    cases i with
    | zero => simp
    | succ i =>
      simp only [flatE_cons, List.take_succ_cons]
      rw [← ih i, List.take_append, E.len, Nat.add_mul, Nat.one_mul, Nat.add_sub_cancel, List.take_of_length_le (by rw [E.len]; omega)]
theorem drop_flatE' {n : Nat} (h : E.k = n) (l : List α) (i : Nat) : (flatE E l).drop (i * n) = flatE E (l.drop i) := by subst h; exact drop_flatE E l i
theorem take_flatE' {n : Nat} (h : E.k = n) (l : List α) (i : Nat) : (flatE E l).take (i * n) = flatE E (l.take i) := by subst h; exact take_flatE E l i
theorem drop_flatE1 (h : E.k = 1) (l : List α) (i : Nat) : (flatE E l).drop i = flatE E (l.drop i) := by have := drop_flatE' E h l i; simpa using this
theorem take_flatE1 (h : E.k = 1) (l : List α) (i : Nat) : (flatE E l).take i = flatE E (l.take i) := by have := take_flatE' E h l i; simpa using this
/-- An element, read. -/
@[simp] theorem at_flatE {n : Nat} (h : E.k = n) (l : List α) (i : Nat) (hi : i < l.length) : ((flatE E l).drop (i * n)).take n = E.f l[i] := by
  rw [drop_flatE' E h, List.drop_eq_getElem_cons hi]
  simp only [flatE_cons]
  rw [List.take_append_of_le_length (by rw [E.len, h]; exact Nat.le_refl _), List.take_of_length_le (by rw [E.len, h]; exact Nat.le_refl _)]
@[simp] theorem at_flatE1 (h : E.k = 1) (l : List α) (i : Nat) (hi : i < l.length) : ((flatE E l).drop i).take 1 = E.f l[i] := by
  have := at_flatE E h l i hi; simpa using this
@[simp] theorem take_all_flatE {n : Nat} (h : E.k = n) (l : List α) : (flatE E l).take (l.length * n) = flatE E l := by
  rw [List.take_of_length_le]; simp [h]
@[simp] theorem take_all_flatE1 (h : E.k = 1) (l : List α) : (flatE E l).take l.length = flatE E l := by
  rw [List.take_of_length_le]; simp [h]
theorem flat_refs {cs : List V} (h : ∀ v ∈ cs, v.flat = true) : refsL cs = [] := by
  induction cs with
  | nil => rfl
  | cons v l ih =>
    have h1 := h v (by simp)
    cases v <;> simp [V.flat] at h1 <;> simp [refsL, V.refs, ih fun v hv => h v (by simp [hv])]
theorem flat_sub {hp : Nat → Nat → V} {hs : Nat → Nat → Nat → Nat → V} {hm : Nat → V} {cs : List V} (h : ∀ v ∈ cs, v.flat = true) : subL hp hs hm cs = cs := by
  induction cs with
  | nil => rfl
  | cons v l ih =>
    have h1 := h v (by simp)
    cases v <;> simp [V.flat] at h1 <;> simp [subL, V.sub, ih fun v hv => h v (by simp [hv])]
theorem flat_snap {d : Nat} {H : Heap} {cs : List V} (h : ∀ v ∈ cs, v.flat = true) : cs.map (snap d H) = cs := by
  induction cs with
  | nil => rfl
  | cons v l ih =>
    have h1 := h v (by simp)
    have h2 : snap d H v = v := by cases v <;> simp [V.flat] at h1 <;> cases d <;> simp [snap, V.sub]
    simp [h2, ih fun v hv => h v (by simp [hv])]
@[simp] theorem leaves_flatE [E.Own] (l : List α) : leavesL (flatE E l) = [] := by
  induction l with
  | nil => rfl
  | cons x l ih => rw [flatE_cons, leavesL_app, ih, Enc.Own.leaves]; rfl
@[simp] theorem refs_flatE (l : List α) : refsL (flatE E l) = [] := flat_refs (flatE_flat E l)
@[simp] theorem own_flatE [E.Own] (l : List α) : ownL (flatE E l) = true := by
  induction l with
  | nil => rfl
  | cons x l ih => rw [flatE_cons, ownL_app, ih, Enc.Own.own]; rfl
@[simp] theorem sub_flatE {hp : Nat → Nat → V} {hs : Nat → Nat → Nat → Nat → V} {hm : Nat → V} (l : List α) : subL hp hs hm (flatE E l) = flatE E l := flat_sub (flatE_flat E l)
@[simp] theorem snap_flatE {d : Nat} {H : Heap} (l : List α) : (flatE E l).map (snap d H) = flatE E l := flat_snap (flatE_flat E l)
@[simp] theorem leaves_f [E.Own] (a : α) : leavesL (E.f a) = [] := Enc.Own.leaves a
@[simp] theorem refs_f (a : α) : refsL (E.f a) = [] := flat_refs (E.flat a)
@[simp] theorem own_f [E.Own] (a : α) : ownL (E.f a) = true := Enc.Own.own a
@[simp] theorem sub_f {hp : Nat → Nat → V} {hs : Nat → Nat → Nat → Nat → V} {hm : Nat → V} (a : α) : subL hp hs hm (E.f a) = E.f a := flat_sub (E.flat a)
@[simp] theorem snap_f {d : Nat} {H : Heap} (a : α) : (E.f a).map (snap d H) = E.f a := flat_snap (E.flat a)

/-- Written in its place. -/
theorem set_flatE {n : Nat} (h : E.k = n) (l : List α) (i : Nat) (x : α) (hi : i < l.length) : (flatE E l).take (i * n) ++ E.f x ++ (flatE E l).drop (i * n + n) = flatE E (l.set i x) := by
  have e1 : i * n + n = (i + 1) * n := by rw [Nat.add_mul, Nat.one_mul]
  rw [e1, take_flatE' E h, drop_flatE' E h, List.set_eq_take_append_cons_drop, if_pos hi]
  simp
theorem set_flatE1 (h : E.k = 1) (l : List α) (i : Nat) (x : α) (hi : i < l.length) : (flatE E l).take i ++ E.f x ++ (flatE E l).drop (i + 1) = flatE E (l.set i x) := by
  have := set_flatE E h l i x hi; simpa using this
end

@[simp] theorem set_ints {k : IntKind} {l : List Int} {j : Nat} {b : Int} (hj : j < l.length) : List.take j (flatE (intE k) l) ++ V.int k b :: List.drop (j + 1) (flatE (intE k) l) = flatE (intE k) (l.set j b) := by
  rw [← set_flatE1 (intE k) rfl l j b hj]; simp
@[simp] theorem set_bools {l : List Bool} {j : Nat} {b : Bool} (hj : j < l.length) : List.take j (flatE boolE l) ++ V.bool b :: List.drop (j + 1) (flatE boolE l) = flatE boolE (l.set j b) := by
  rw [← set_flatE1 boolE rfl l j b hj]; simp
@[simp] theorem set_strs {l : List ByteArray} {j : Nat} {b : ByteArray} (hj : j < l.length) : List.take j (flatE strE l) ++ V.str b :: List.drop (j + 1) (flatE strE l) = flatE strE (l.set j b) := by
  rw [← set_flatE1 strE rfl l j b hj]; simp
/-- Zeros. -/
def zeroI (n : Nat) : List Int := List.replicate n 0
@[simp] theorem zeroI_length (n : Nat) : (zeroI n).length = n := by simp [zeroI]
/-! ### Bytes -/
def bytesI (s : ByteArray) : List Int := s.data.toList.map fun b => (b.toNat : Int)
@[simp] theorem byteCells_eq (s : ByteArray) : byteCells s = flatE (intE .u8) (bytesI s) := by
  unfold byteCells bytesI flatE
  induction s.data.toList with
  | nil => rfl
  | cons x l ih => simp [ih]
@[simp] theorem bytesI_length (s : ByteArray) : (bytesI s).length = s.size := by
  unfold bytesI; rw [List.length_map]; rfl
@[simp] theorem take_bytes (s : ByteArray) : List.take s.size (flatE (intE .u8) (bytesI s)) = flatE (intE .u8) (bytesI s) := by
  rw [List.take_of_length_le]; simp
theorem bytesI_inj {a b : ByteArray} (h : bytesI a = bytesI b) : a = b := by
  have : a.data.toList = b.data.toList := by
    unfold bytesI at h
    refine List.map_inj_right (fun x y hxy => ?_) |>.1 h
    exact UInt8.toNat_inj.1 (by omega)
  exact ByteArray.ext (Array.toList_inj.1 this)
theorem byteAt_eq (s : ByteArray) (i : Nat) (h : i < (bytesI s).length) : byteAt s (i : Int) = (bytesI s)[i] := by
  have h1 : i < s.data.toList.length := by rw [bytesI_length] at h; exact h
  have h2 : (bytesI s)[i]? = some ((s.data.toList[i]).toNat : Int) := by
    unfold bytesI
    rw [List.getElem?_map, List.getElem?_eq_getElem h1]
    rfl
  have h3 : (bytesI s)[i] = ((s.data.toList[i]).toNat : Int) := by
    rw [List.getElem?_eq_getElem h] at h2
    exact Option.some.inj h2
  rw [h3]
  unfold byteAt
  rw [List.getD_eq_getElem?_getD, Int.toNat_natCast, List.getElem?_eq_getElem h1]
  rfl
theorem bytesI_lt (s : ByteArray) : ∀ x ∈ bytesI s, 0 ≤ x ∧ x < 256 := fun x hx => by
  obtain ⟨b, _, rfl⟩ := List.mem_map.1 hx
  have := b.toNat_lt
  omega
end Go.Ev
