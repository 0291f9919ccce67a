/-
  SORTING BY THE SHELF's CONTRACT, AS AN ORACLE OF THE EVALUATOR (own work).
-/
import Derived.Test.YtflmadkbppnmcaaDoorEvD
import Derived.Shelf.SlSortCmp.WholeK
set_option linter.unusedSimpArgs false
set_option linter.unusedVariables false
namespace Go.Ev
open Go

/-- The value that a flat own cell stands for. -/
def valOf : V → Value
  | .bool b => .bool b
  | .int k n => .int k n
  | .str s => .string s
  | .nilf => .nilFunc
  | .nili => .nilIface
  | _ => undef
def V.plainV : V → Bool
  | .bool _ => true
  | .int _ _ => true
  | .str _ => true
  | .nilf => true
  | .nili => true
  | _ => false
def Enc.vs {α : Type} (E : Enc α) (a : α) : List Value := (E.f a).map valOf

section
variable {P : Program} {w0 : World} {B : Nat} {e : Emb} {H : Heap} {w : World} {Γ : Env}

theorem rep_valOf {v : V} (h : v.plainV = true) : Rep w0 B e v (valOf v) := by
  cases v <;> simp [V.plainV] at h <;> constructor
theorem rep_plain {v : V} {x : Value} (h : v.plainV = true) (hr : Rep w0 B e v x) : x = valOf v := by
  cases hr <;> simp [V.plainV] at h <;> rfl
theorem one_valOf {v : V} (h : v.plainV = true) : one (valOf v) = true := by
  cases v <;> simp [V.plainV] at h <;> rfl
theorem enc_plain {α : Type} (E : Enc α) [E.Own] (a : α) : ∀ v ∈ E.f a, v.plainV = true := by
  have key : ∀ l : List V, (∀ v ∈ l, v.flat = true) → ownL l = true → leavesL l = [] → ∀ v ∈ l, v.plainV = true := by
    intro l
    induction l with
    | nil => intro _ _ _ v hv; cases hv
    | cons x l ih =>
      intro hf ho hl v hv
      simp only [ownL, Bool.and_eq_true] at ho
      simp only [leavesL, List.append_eq_nil_iff] at hl
      rcases List.mem_cons.1 hv with rfl | hv
      · have h1 := hf v (by simp)
        cases v <;> simp [V.flat] at h1 <;> first | rfl | (simp [V.own] at ho; done) | (simp [V.leaves] at hl; done)
      · exact ih (fun v hv => hf v (by simp [hv])) ho.2 hl.2 v hv
  exact key _ (E.flat a) (Enc.Own.own a) (Enc.Own.leaves a)
theorem flatE_plain {α : Type} (E : Enc α) [E.Own] (l : List α) : ∀ v ∈ flatE E l, v.plainV = true := fun v hv => by
  obtain ⟨a, _, ha⟩ := List.mem_flatMap.1 hv
  exact enc_plain E a v ha
theorem plain_repL {l : List V} (h : ∀ v ∈ l, v.plainV = true) : RepL w0 B e l (l.map valOf) :=
  ⟨by simp, fun j h1 h2 => by rw [List.getElem_map]; exact rep_valOf (h _ (List.getElem_mem h1))⟩
theorem plain_cells {l : List V} (h : ∀ v ∈ l, v.plainV = true) : CellsOk w0 B e l (l.map valOf) :=
  ⟨plain_repL h, fun v hv => by obtain ⟨x, hx, rfl⟩ := List.mem_map.1 hv; exact one_valOf (h x hx)⟩
theorem repL_plain {l : List V} {x : List Value} (h : ∀ v ∈ l, v.plainV = true) (hr : RepL w0 B e l x) : x = l.map valOf := by
  refine List.ext_getElem (by rw [← hr.1]; simp) fun j h1 h2 => ?_
  rw [List.getElem_map]
  have hj : j < l.length := by simpa using h2
  exact rep_plain (h _ (List.getElem_mem hj)) (hr.2 j hj h1)

/-! ### Worlds grown -/
theorem Stp.grow (hs : HS w0 B e H w) (os : Array Obj) (n : Nat) : Stp w0 B e H w e H { w with heap := w.heap ++ os, drawn := w.drawn + n } := by
  have hget : ∀ b, b < w.heap.size → (w.heap ++ os)[b]? = w.heap[b]? := fun b hb => by rw [Array.getElem?_append, if_pos hb]
  refine ⟨⟨fun b hb => ?_, ?_, fun id eb he => ?_, fun id k hk => ?_, hs.inj, fun b o hb => ?_, hs.frl⟩, fun _ _ => rfl, Nat.le_refl _, fun _ b _ hb => ⟨b, hb⟩, fun id eb hi he => absurd (hs.dom id eb he).1 (by omega), fun b hb _ => hget b hb, ?_, rfl, rfl, rfl, fun _ _ h => h, fun _ _ h => .inl h, fun _ => Nat.le_add_right _ _⟩
  · have := hs.szB; show (w.heap ++ os)[b]? = _; rw [hget b (by omega)]; exact hs.old b hb
  · show B ≤ (w.heap ++ os).size; have := hs.szB; simp; omega
  · show id < H.length ∧ B ≤ eb.b ∧ eb.b < (w.heap ++ os).size; have := hs.dom id eb he; simp; omega
  · obtain ⟨eb, o, he, ho, hok⟩ := hs.live id k hk
    exact ⟨eb, o, he, by show (w.heap ++ os)[eb.b]? = _; rw [hget _ (hs.dom id eb he).2.2]; exact ho, hok⟩
  · show (w.heap ++ os)[b]? = _; rw [hget _ (hs.frzlt hb)]; exact hs.frz b o hb
  · show w.heap.size ≤ (w.heap ++ os).size; simp
/-! ### The flat row in the shelf's words -/
theorem putCells_list (off : Nat) (F c : Array Value) (h : off + F.size ≤ c.size) : Go.Sort.putCells id off F c = ⟨c.toList.take off ++ F.toList ++ c.toList.drop (off + F.size)⟩ := by
  apply Array.ext'
  refine List.ext_getElem? fun i => ?_
  simp only [Go.Sort.putCells, id]
  rw [Array.getElem?_toList, Array.getElem?_mapIdx]
  rcases Nat.lt_or_ge i c.size with hi | hi
  · rw [Array.getElem?_eq_getElem hi, Option.map_some]
    by_cases h1 : i < off
    · rw [if_neg (by omega), List.append_assoc, List.getElem?_append_left (by simp; omega), List.getElem?_take, if_pos h1, Array.getElem?_toList, Array.getElem?_eq_getElem hi]
    · by_cases h2 : i < off + F.size
      · rw [if_pos ⟨by omega, h2⟩, List.append_assoc, List.getElem?_append_right (by simp; omega), List.getElem?_append_left (by simp; omega)]
        have : i - (List.take off c.toList).length = i - off := by simp; omega
        rw [this, Array.getElem?_toList, Array.getElem?_eq_getElem (by omega), getElem!_pos F (i - off) (by omega)]
      · rw [if_neg (by omega), List.getElem?_append_right (by simp; omega), List.getElem?_drop]
        have : off + F.size + (i - (List.take off c.toList ++ F.toList).length) = i := by simp; omega
        rw [this, Array.getElem?_toList, Array.getElem?_eq_getElem hi]
  · rw [Array.getElem?_eq_none hi, Option.map_none, List.getElem?_eq_none]
    simp; omega

/-! ### slices.SortFunc as an oracle -/
open Classical in
theorem rstore_at (hs : HS w0 B e H w) {id off : Nat} {eb : EB} (he : e id = some eb) {cs : List V} {vs : List Value} (hcs : CellsOk w0 B e cs vs) {H' : Heap} (h : writeCells H id off cs = some H') :
    ∃ c el fr, w.heap[eb.b]? = some (.cells c el fr) ∧ (∀ j, j < c.size → (decide (fr.1 ≤ j) && decide (j < fr.2)) = false) ∧ eb.base + off + vs.length ≤ c.size ∧
      Stp w0 B e H w e H' { w with heap := w.heap.setIfInBounds eb.b (.cells ⟨c.toList.take (eb.base + off) ++ vs ++ c.toList.drop (eb.base + off + vs.length)⟩ el fr) } := by
  unfold writeCells at h
  split at h
  · rename_i cs0 ex hid
    split at h
    · rename_i hle
      cases h
      obtain ⟨eb', o, he', ho, hok⟩ := hs.live id _ hid
      rw [he] at he'; cases he'
      cases o <;> simp only [BlkOk] at hok
      rename_i c el fr
      obtain ⟨k1, k2, k3, k4, k5⟩ := hok
      have hlen : cs.length = vs.length := hcs.1.1
      refine ⟨c, el, fr, ho, fun j hj => k4.1 j (Nat.le_of_lt hj), by omega, Stp.write hs hid he _ _ ?_ rfl rfl rfl rfl⟩
      have hnew : (cs0.take off ++ cs ++ cs0.drop (off + cs.length)).length = cs0.length := by simp; omega
      have hsz : (⟨c.toList.take (eb.base + off) ++ vs ++ c.toList.drop (eb.base + off + vs.length)⟩ : Array Value).size = c.size := by simp; omega
      refine ⟨by rw [hsz]; exact k1, by rw [hnew]; exact k2, fun hx => by rw [hnew]; exact k3 hx, ⟨by rw [hsz]; exact k4.1, one_splice k4.2 hcs.2⟩, ?_⟩
      rw [hnew]
      unfold seg at k5 ⊢
      rw [seg_splice c.toList vs eb.base off cs0.length (by omega) (by have := Nat.le_trans k2 k1; simpa using this)]
      rw [hlen]
      exact ((k5.take off).append hcs).append (k5.drop _)
    · cases h
  · cases h

end

end Go.Ev
