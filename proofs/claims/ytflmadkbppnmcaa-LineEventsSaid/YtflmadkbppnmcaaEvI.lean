import Derived.Test.YtflmadkbppnmcaaEvH
import Derived.Shelf.Sort.Plain
import Derived.Shelf.Slices.In.SortNone
set_option linter.unusedSimpArgs false
set_option linter.unusedVariables false
namespace Go.Ev
open Go Go.Shelf Go.Proofs
def sortS (l : List ByteArray) : List ByteArray := if l.length ≤ 1 then l else ((l.map (·.data.toList)).mergeSort fun x y => decide (x ≤ y)).map fun b => ⟨b.toArray⟩
theorem sortS_eq (l : List ByteArray) : sortS l = ((l.map (·.data.toList)).mergeSort fun x y => decide (x ≤ y)).map fun b => ⟨b.toArray⟩ := by
  unfold sortS
  split
  · rename_i h
    match l, h with
    | [], _ => simp
    | [a], _ => simp
    | _ :: _ :: _, h => simp at h
  · rfl
theorem sortS_length (l : List ByteArray) : (sortS l).length = l.length := by rw [sortS_eq]; simp
def strsV : List V → Option (List ByteArray)
  | [] => some []
  | .str s :: l => (strsV l).map (s :: ·)
  | _ => none
theorem strsV_flat : ∀ l : List ByteArray, strsV (flatE strE l) = some l
  | [] => rfl
  | x :: l => by rw [flatE_cons]; show (strsV (flatE strE l)).map (x :: ·) = _; rw [strsV_flat l]; rfl
theorem strsV_some : ∀ (cs : List V) (l : List ByteArray), strsV cs = some l → cs = flatE strE l
  | [], l, h => by simp [strsV] at h; subst h; rfl
  | c :: cs, l, h => by
    unfold strsV at h
    split at h
    · rename_i heq; cases heq
    · rename_i s l' heq
      cases heq
      obtain ⟨m, hm, rfl⟩ := Option.map_eq_some_iff.1 h
      rw [flatE_cons, strsV_some cs m hm]; rfl
    · cases h
def sortSOrc (args : List V) (H : Heap) : Option (V × Heap) :=
  match args with
  | [.nils] => some (V.undef, H)
  | [.sl id off len 1] =>
    match H[id]? with
      | some (some (.cells cs ex)) => match strsV ((cs.drop off).take len) with
        | some l => if 0 < len ∧ l.length = len ∧ len < 4611686018427387904 ∧ off + len ≤ cs.length then
          (writeCells H id off (flatE strE (sortS l))).map fun H' => (V.undef, H') else none
        | none => none
      | _ => none
  | _ => none
section
variable {P : Program} {w0 : World} {B : Nat} {e : Emb} {H : Heap} {w : World} {Γ : Env}
theorem flatE_str (l : List ByteArray) : (flatE strE l).map valOf = l.map Value.string := by
  induction l with
  | nil => rfl
  | cons x l ih => rw [flatE_cons, List.map_append, ih]; rfl
theorem putCells_enc {α : Type} [Inhabited α] (enc : α → Value) (off : Nat) (d : Array α) (c : Array Value) : Go.Sort.putCells enc off d c = Go.Sort.putCells id off (d.map enc) c := by
  unfold Go.Sort.putCells
  apply Array.ext_getElem?
  intro i
  rw [Array.getElem?_mapIdx, Array.getElem?_mapIdx]
  congr 1
  funext x
  simp only [Array.size_map, id]
  split
  · rename_i h
    have hi : i - off < d.size := by omega
    rw [getElem!_pos d _ hi, getElem!_pos (d.map enc) _ (by simpa using hi), Array.getElem_map]
  · rfl
theorem sortSOrc_ok {ρ : Go.Shelf.Ren} (L : Lays.n190 P ρ) (hmono : Γ.mono = true) (hcb : Callable P (ρ.f 190))
    {args : List V} {H : Heap} {r : V × Heap} (h : sortSOrc args H = some r) {w0 : World} {B : Nat} {e : Emb} {w : World} {vs : List Value} (hs : HS w0 B e H w) (ha : RepL w0 B e args vs) :
    CallAt P (ρ.f 190) vs w0 B e H w r := by
  refine Or.inl ⟨hcb, ?_⟩
  unfold sortSOrc at h
  split at h
  · cases h
    obtain ⟨v0, rfl⟩ : ∃ a, vs = [a] := by
      have := ha.1
      match vs, this with
      | [a], _ => exact ⟨a, rfl⟩
    have h0 := ha.head
    cases h0
    refine (Any.slices_Sort_string_none L none 0 w).mono fun ed w' hp => ?_
    obtain ⟨rfl, rfl⟩ := hp
    exact ⟨_, e, rfl, Stp.refl hs, undef_ok⟩
  · rename_i id off len
    split at h
    case h_2 => cases h
    rename_i cs ex hid
    split at h
    case h_2 => cases h
    rename_i l hl0
    have hl1 := strsV_some _ _ hl0
    split at h
    case isFalse => cases h
    rename_i hex
    obtain ⟨hpos, hl2, hl3, hl4⟩ := hex
    obtain ⟨H', hw, rfl⟩ := Option.map_eq_some_iff.1 h
    obtain ⟨v0, rfl⟩ : ∃ a, vs = [a] := by
      have := ha.1
      match vs, this with
      | [a], _ => exact ⟨a, rfl⟩
    have h0 := ha.head
    cases h0 with
    | sl _ _ _ _ _ cap eb o he k1 k2 k3 k4 =>
    have ho := k4 (by omega)
    have hcs := plain_cells (w0 := w0) (B := B) (e := e) (flatE_plain strE (sortS l))
    obtain ⟨c, el, fr, hc1, hc2, hc3, hst⟩ := rstore_at hs he hcs hw
    have hd := hs.dom id eb he
    have hlen := sortS_length l
    have hvl : ((flatE strE (sortS l)).map valOf).length = len := by simp [hlen, hl2]
    obtain ⟨eb', o', he', ho', hok⟩ := hs.live id _ hid
    rw [he] at he'; cases he'
    rw [hc1] at ho'
    cases ho'
    simp only [BlkOk] at hok
    obtain ⟨m1, m2, m3, m4, m5⟩ := hok
    have hseg : ((seg c eb.base cs.length).drop off).take len = (flatE strE l).map valOf := by
      have := (m5.drop off).take len
      rw [hl1] at this
      exact repL_plain (flatE_plain strE l) this.1
    have hH : Go.Sort.Holds encStr w eb.b o (l.map (·.data.toList)).toArray := by
      intro j hj
      have hj' : j < l.length := by simpa using hj
      subst ho
      have hval : c[eb.base + off + j]? = some (encStr (l.map (·.data.toList)).toArray[j]!) := by
        have e1 : ((flatE strE l).map valOf)[j]? = some (encStr (l.map (·.data.toList)).toArray[j]!) := by
          rw [flatE_str, List.getElem?_map, List.getElem?_eq_getElem hj', getElem!_pos _ j hj]
          simp [encStr]
        rw [← hseg, List.getElem?_take, if_pos (by omega), List.getElem?_drop] at e1
        have e2 := seg_get e1
        rwa [← Nat.add_assoc] at e2
      have hlt : eb.base + off + j < c.size := (Array.getElem?_eq_some_iff.1 hval).1
      refine ⟨?_, ?_⟩
      · simp only [World.cell?, hc1]
        simpa using hval
      · have := hc2 (eb.base + off + j) hlt
        obtain ⟨lo, hi⟩ := fr
        simpa [World.frozen?, hc1] using this
    have hcon := Any.slices_Sort_string L eb.b o cap (l.map (·.data.toList)) w hH hd.2.2 (by simp; omega)
    have hll : (l.map (·.data.toList)).length = len := by simpa using hl2
    rw [hll] at hcon
    refine (show Calls P (ρ.f 190) #[.slice (some ⟨eb.b, o, none⟩) len cap] w _ from ?_)
    refine hcon.mono fun ed w' hp => ?_
    obtain ⟨rfl, n, os, rfl⟩ := hp
    refine ⟨_, e, rfl, ?_, undef_ok⟩
    have hfin := hst.trans (Stp.grow hst.hs os n)
    subst ho
    have hF : (((l.map (·.data.toList)).mergeSort fun x y => decide (x ≤ y)).toArray.map encStr).toList = (flatE strE (sortS l)).map valOf := by
      rw [flatE_str, sortS_eq]
      simp [encStr, Function.comp_def]
    have hFs : (((l.map (·.data.toList)).mergeSort fun x y => decide (x ≤ y)).toArray.map encStr).size = len := by simpa using hl2
    have hworld : Go.Sort.grow (Go.Sort.putRow encStr (Go.Sort.ahead w n) eb.b (eb.base + off) ((l.map (·.data.toList)).mergeSort fun x y => decide (x ≤ y)).toArray) os =
        { w with heap := w.heap.setIfInBounds eb.b (.cells ⟨c.toList.take (eb.base + off) ++ (flatE strE (sortS l)).map valOf ++ c.toList.drop (eb.base + off + ((flatE strE (sortS l)).map valOf).length)⟩ el fr) ++ os, drawn := w.drawn + n } := by
      unfold Go.Sort.grow Go.Sort.putRow Go.Sort.mapBlock Go.Sort.ahead
      simp only
      congr 1
      congr 1
      rw [heap_modify_eq _ _ _ _ hc1]
      congr 1
      simp only [Go.Sort.onCells]
      congr 1
      rw [putCells_enc, putCells_list _ _ _ (by rw [hFs]; omega), hF, hFs, hvl]
    rw [hworld]
    exact hfin
  · cases h
end
theorem ba_ext {a b : ByteArray} (h : a.data.toList = b.data.toList) : a = b := by
  obtain ⟨⟨x⟩⟩ := a
  obtain ⟨⟨y⟩⟩ := b
  simp at h
  subst h; rfl
theorem sortSOrc_eq {id off len : Nat} {H : Heap} {cs : List V} {ex : Bool} {l : List ByteArray} (hid : H[id]? = some (some (.cells cs ex))) (hp : 0 < len) (hl : (cs.drop off).take len = flatE strE l) (hlen : l.length = len) (hb : len < 4611686018427387904) (hc : off + len ≤ cs.length) :
    sortSOrc [.sl id off len 1] H = some (V.undef, H.set id (some (.cells (cs.take off ++ flatE strE (sortS l) ++ cs.drop (off + len)) ex))) := by
  unfold sortSOrc
  simp only [hid, hl, strsV_flat]
  rw [if_pos ⟨hp, hlen, hb, hc⟩]
  unfold writeCells
  simp only [hid]
  rw [if_pos (by simp [sortS_length, hlen]; exact hc)]
  simp [sortS_length, hlen]
end Go.Ev
