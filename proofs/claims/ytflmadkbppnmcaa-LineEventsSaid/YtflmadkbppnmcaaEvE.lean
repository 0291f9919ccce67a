import Derived.Test.YtflmadkbppnmcaaEvD
import Derived.Shelf.SlSortCmp.WholeK
set_option linter.unusedSimpArgs false
set_option linter.unusedVariables false
namespace Go.Ev
open Go
def valOf : V → Value
  | .bool b => .bool b
  | .int k n => .int k n
  | .str s => .string s
  | .nilf => .nilFunc
  | .nili => .nilIface
  | _ => undef
def V.plainV : V → Bool
  | .bool _ => true
  | .int _ _ => true
  | .str _ => true
  | .nilf => true
  | .nili => true
  | _ => false
def Enc.vs {α : Type} (E : Enc α) (a : α) : List Value := (E.f a).map valOf
section
variable {P : Program} {w0 : World} {B : Nat} {e : Emb} {H : Heap} {w : World} {Γ : Env}
theorem rep_valOf {v : V} (h : v.plainV = true) : Rep w0 B e v (valOf v) := by
  cases v <;> simp [V.plainV] at h <;> constructor
theorem rep_plain {v : V} {x : Value} (h : v.plainV = true) (hr : Rep w0 B e v x) : x = valOf v := by
  cases hr <;> simp [V.plainV] at h <;> rfl
theorem one_valOf {v : V} (h : v.plainV = true) : one (valOf v) = true := by
  cases v <;> simp [V.plainV] at h <;> rfl
theorem enc_plain {α : Type} (E : Enc α) [E.Own] (a : α) : ∀ v ∈ E.f a, v.plainV = true := by
  have key : ∀ l : List V, (∀ v ∈ l, v.flat = true) → ownL l = true → leavesL l = [] → ∀ v ∈ l, v.plainV = true := by
    intro l
    induction l with
    | nil => intro _ _ _ v hv; cases hv
    | cons x l ih =>
      intro hf ho hl v hv
      simp only [ownL, Bool.and_eq_true] at ho
      simp only [leavesL, List.append_eq_nil_iff] at hl
      rcases List.mem_cons.1 hv with rfl | hv
      · have h1 := hf v (by simp)
        cases v <;> simp [V.flat] at h1 <;> first | rfl | (simp [V.own] at ho; done) | (simp [V.leaves] at hl; done)
      · exact ih (fun v hv => hf v (by simp [hv])) ho.2 hl.2 v hv
  exact key _ (E.flat a) (Enc.Own.own a) (Enc.Own.leaves a)
theorem flatE_plain {α : Type} (E : Enc α) [E.Own] (l : List α) : ∀ v ∈ flatE E l, v.plainV = true := fun v hv => by
  obtain ⟨a, _, ha⟩ := List.mem_flatMap.1 hv
  exact enc_plain E a v ha
theorem plain_repL {l : List V} (h : ∀ v ∈ l, v.plainV = true) : RepL w0 B e l (l.map valOf) :=
  ⟨by simp, fun j h1 h2 => by rw [List.getElem_map]; exact rep_valOf (h _ (List.getElem_mem h1))⟩
theorem plain_cells {l : List V} (h : ∀ v ∈ l, v.plainV = true) : CellsOk w0 B e l (l.map valOf) :=
  ⟨plain_repL h, fun v hv => by obtain ⟨x, hx, rfl⟩ := List.mem_map.1 hv; exact one_valOf (h x hx)⟩
theorem repL_plain {l : List V} {x : List Value} (h : ∀ v ∈ l, v.plainV = true) (hr : RepL w0 B e l x) : x = l.map valOf := by
  refine List.ext_getElem (by rw [← hr.1]; simp) fun j h1 h2 => ?_
  rw [List.getElem_map]
  have hj : j < l.length := by simpa using h2
  exact rep_plain (h _ (List.getElem_mem hj)) (hr.2 j hj h1)
theorem Stp.grow (hs : HS w0 B e H w) (os : Array Obj) (n : Nat) : Stp w0 B e H w e H { w with heap := w.heap ++ os, drawn := w.drawn + n } := by
  have hget : ∀ b, b < w.heap.size → (w.heap ++ os)[b]? = w.heap[b]? := fun b hb => by rw [Array.getElem?_append, if_pos hb]
  refine ⟨⟨fun b hb => ?_, ?_, fun id eb he => ?_, fun id k hk => ?_, hs.inj, fun b o hb => ?_, hs.frl⟩, fun _ _ => rfl, Nat.le_refl _, fun _ b _ hb => ⟨b, hb⟩, fun id eb hi he => absurd (hs.dom id eb he).1 (by omega), fun b hb _ => hget b hb, ?_, rfl, rfl, rfl, fun _ _ h => h, fun _ _ h => .inl h, fun _ => Nat.le_add_right _ _⟩
  · have := hs.szB; show (w.heap ++ os)[b]? = _; rw [hget b (by omega)]; exact hs.old b hb
  · show B ≤ (w.heap ++ os).size; have := hs.szB; simp; omega
  · show id < H.length ∧ B ≤ eb.b ∧ eb.b < (w.heap ++ os).size; have := hs.dom id eb he; simp; omega
  · obtain ⟨eb, o, he, ho, hok⟩ := hs.live id k hk
    exact ⟨eb, o, he, by show (w.heap ++ os)[eb.b]? = _; rw [hget _ (hs.dom id eb he).2.2]; exact ho, hok⟩
  · show (w.heap ++ os)[b]? = _; rw [hget _ (hs.frzlt hb)]; exact hs.frz b o hb
  · show w.heap.size ≤ (w.heap ++ os).size; simp
theorem world_grow {W w' : World} {e' : Emb} {G : Heap} (h : Stp { W with drawn := 0 } W.heap.size emp [] W e' G w') : ∃ q os', w' = Go.Sort.grow (W.drewN q) os' := by
  refine ⟨w'.drawn - W.drawn, w'.heap.extract W.heap.size w'.heap.size, ?_⟩
  have h1 := h.drawn rfl
  have h2 := h.size
  have hh : w'.heap = W.heap ++ w'.heap.extract W.heap.size w'.heap.size := by
    refine Array.ext_getElem? fun i => ?_
    rw [Array.getElem?_append]
    split
    · rename_i hi
      exact h.frame i hi fun i bi ei hi => by simp at hi
    · rename_i hi
      rw [Array.getElem?_extract]
      by_cases hl : i < w'.heap.size
      · rw [if_pos (by omega), show W.heap.size + (i - W.heap.size) = i by omega]
      · rw [if_neg (by omega), Array.getElem?_eq_none (by omega)]
  obtain ⟨hp, tp, dr, os, out⟩ := w'
  have e1 := h.os
  have e2 := h.tape
  have e3 := h.output
  simp only at hh e1 e2 e3 h1
  subst e1 e2 e3
  unfold Go.Sort.grow World.drewN
  congr 1
  · show dr = W.drawn + (dr - W.drawn); omega
theorem globOk_move {W : World} (hm : Γ.mono = true) (hg : GlobMem Γ w0 B) (hs : HS w0 B e H w) (hW : ∀ b, b < B → W.heap[b]? = w.heap[b]?) (hsz : B ≤ W.heap.size) : GlobOk Γ { W with drawn := 0 } W.heap.size := by
  suffices h : GlobMem Γ W W.heap.size from ⟨fun _ => hm, fun g cs hc => ⟨Rep.rebase (w0 := W) (w1 := { W with drawn := 0 }) rfl (h g cs hc).1, (h g cs hc).2⟩⟩
  refine GlobMem.move (w0 := w0) (B := B) (e := emp) (H := []) hg ⟨fun b hb => by rw [hW b hb]; exact hs.old b hb, hsz, (fun id eb h => by cases h), (fun id k h => by simp at h), (fun i j bi bj ei ej h => by simp at h), (fun b o h => by cases h), (fun id k eb h => by simp at h)⟩
theorem flatK_toList {α : Type} [Inhabited α] (enc : α → List Value) (k : Nat) (hk : ∀ x, (enc x).length = k) : ∀ l : List α, (Go.Sort.flatK enc k l.toArray).toList = l.flatMap enc := by
  intro l
  refine List.ext_getElem? fun j => ?_
  have hlen : ∀ l : List α, (l.flatMap enc).length = l.length * k := by
    intro l
    induction l with
    | nil => simp
    | cons x l ih => simp [ih, hk, Nat.add_mul, Nat.add_comm]
  have hget : ∀ (l : List α) (i c : Nat) (hi : i < l.length) (hc : c < k), (l.flatMap enc)[i * k + c]? = (enc l[i])[c]? := by
    intro l
    induction l with
    | nil => intro i c hi; simp at hi
    | cons x l ih =>
      intro i c hi hc
      rw [List.flatMap_cons, List.getElem?_append]
      cases i with
      | zero => simp [hk, hc]
      | succ i =>
        rw [if_neg (by rw [hk, Nat.add_mul]; omega), hk, show (i + 1) * k + c - k = i * k + c by rw [Nat.add_mul]; omega, ih i c (by simpa using hi) hc]
        rfl
  rcases Nat.lt_or_ge j (l.length * k) with hj | hj
  · have k0 : 0 < k := by rcases Nat.eq_zero_or_pos k with h | h; · subst h; simp at hj
                          · exact h
    have hi : j / k < l.length := (Nat.div_lt_iff_lt_mul k0).2 hj
    have hc : j % k < k := Nat.mod_lt _ k0
    have hd : j / k * k + j % k = j := Nat.div_add_mod' j k
    have h1 := hget l (j / k) (j % k) hi hc
    rw [hd] at h1
    rw [h1]
    have hsz : j < (Go.Sort.flatK enc k l.toArray).size := by simp [Go.Sort.flatK]; exact hj
    rw [Array.getElem?_toList, Array.getElem?_eq_getElem hsz]
    have hcl : j % k < (enc l[j / k]).length := by rw [hk]; exact hc
    rw [List.getElem?_eq_getElem hcl]
    simp only [Go.Sort.flatK, Array.getElem_map, Array.getElem_range, List.getElem!_toArray]
    rw [getElem!_pos l (j / k) hi, getElem!_pos _ (j % k) hcl]
  · rw [List.getElem?_eq_none (l := (Go.Sort.flatK enc k l.toArray).toList) (by simp [Go.Sort.flatK]; exact hj), List.getElem?_eq_none (by rw [hlen]; exact hj)]
theorem putCells_list (off : Nat) (F c : Array Value) (h : off + F.size ≤ c.size) : Go.Sort.putCells id off F c = ⟨c.toList.take off ++ F.toList ++ c.toList.drop (off + F.size)⟩ := by
  apply Array.ext'
  refine List.ext_getElem? fun i => ?_
  simp only [Go.Sort.putCells, id]
  rw [Array.getElem?_toList, Array.getElem?_mapIdx]
  rcases Nat.lt_or_ge i c.size with hi | hi
  · rw [Array.getElem?_eq_getElem hi, Option.map_some]
    by_cases h1 : i < off
    · rw [if_neg (by omega), List.append_assoc, List.getElem?_append_left (by simp; omega), List.getElem?_take, if_pos h1, Array.getElem?_toList, Array.getElem?_eq_getElem hi]
    · by_cases h2 : i < off + F.size
      · rw [if_pos ⟨by omega, h2⟩, List.append_assoc, List.getElem?_append_right (by simp; omega), List.getElem?_append_left (by simp; omega)]
        have : i - (List.take off c.toList).length = i - off := by simp; omega
        rw [this, Array.getElem?_toList, Array.getElem?_eq_getElem (by omega), getElem!_pos F (i - off) (by omega)]
      · rw [if_neg (by omega), List.getElem?_append_right (by simp; omega), List.getElem?_drop]
        have : off + F.size + (i - (List.take off c.toList ++ F.toList).length) = i := by simp; omega
        rw [this, Array.getElem?_toList, Array.getElem?_eq_getElem hi]
  · rw [Array.getElem?_eq_none hi, Option.map_none, List.getElem?_eq_none]
    simp; omega
noncomputable def pdqL {α : Type} [Inhabited α] (cf : α → α → Int) (l : List α) : List α :=
  (Go.Sort.pdq (Go.Proofs.ltOf cf) l.toArray 0 l.toArray.size (Lib.bitLen l.toArray.size) true true).toList
open Classical in
noncomputable def sortOrc {α : Type} [Inhabited α] (E : Enc α) (cf : α → α → Int) (g : Nat) (args : List V) (H : Heap) : Option (V × Heap) :=
  match args with
  | [.sl id off len sz, .fn (.func g') [] []] =>
    if g' = g ∧ sz = E.k then match H[id]? with
      | some (some (.cells cs ex)) => if h : ∃ l : List α, (cs.drop off).take (len * E.k) = flatE E l ∧ l.length = len ∧ len < 4611686018427387904 ∧ off + len * E.k ≤ cs.length then
          (writeCells H id off (flatE E (pdqL cf (Classical.choose h)))).map fun H' => (V.undef, H') else none
      | _ => none
    else none
  | _ => none
theorem pdqL_length {α : Type} [Inhabited α] (cf : α → α → Int) (hO : Go.Sort.SWO (Go.Proofs.ltOf cf)) (l : List α) : (pdqL cf l).length = l.length := by
  have h := Go.Sort.pdq_sorts (Go.Proofs.ltOf cf) hO l.toArray 0 l.toArray.size (Lib.bitLen l.toArray.size) true true (Nat.zero_le _) (Nat.le_refl _) (Or.inl rfl)
  have := h.1.1
  simpa [pdqL] using this
theorem rstore_at (hs : HS w0 B e H w) {id off : Nat} {eb : EB} (he : e id = some eb) {cs : List V} {vs : List Value} (hcs : CellsOk w0 B e cs vs) {H' : Heap} (h : writeCells H id off cs = some H') :
    ∃ c el fr, w.heap[eb.b]? = some (.cells c el fr) ∧ (∀ j, j < c.size → (decide (fr.1 ≤ j) && decide (j < fr.2)) = false) ∧ eb.base + off + vs.length ≤ c.size ∧
      Stp w0 B e H w e H' { w with heap := w.heap.setIfInBounds eb.b (.cells ⟨c.toList.take (eb.base + off) ++ vs ++ c.toList.drop (eb.base + off + vs.length)⟩ el fr) } := by
  unfold writeCells at h
  split at h
  · rename_i cs0 ex hid
    split at h
    · rename_i hle
      cases h
      obtain ⟨eb', o, he', ho, hok⟩ := hs.live id _ hid
      rw [he] at he'; cases he'
      cases o <;> simp only [BlkOk] at hok
      rename_i c el fr
      obtain ⟨k1, k2, k3, k4, k5⟩ := hok
      have hlen : cs.length = vs.length := hcs.1.1
      refine ⟨c, el, fr, ho, fun j hj => k4.1 j (Nat.le_of_lt hj), by omega, Stp.write hs hid he _ _ ?_ rfl rfl rfl rfl⟩
      have hnew : (cs0.take off ++ cs ++ cs0.drop (off + cs.length)).length = cs0.length := by simp; omega
      have hsz : (⟨c.toList.take (eb.base + off) ++ vs ++ c.toList.drop (eb.base + off + vs.length)⟩ : Array Value).size = c.size := by simp; omega
      refine ⟨by rw [hsz]; exact k1, by rw [hnew]; exact k2, fun hx => by rw [hnew]; exact k3 hx, ⟨by rw [hsz]; exact k4.1, one_splice k4.2 hcs.2⟩, ?_⟩
      rw [hnew]
      unfold seg at k5 ⊢
      rw [seg_splice c.toList vs eb.base off cs0.length (by omega) (by have := Nat.le_trans k2 k1; simpa using this)]
      rw [hlen]
      exact ((k5.take off).append hcs).append (k5.drop _)
    · cases h
  · cases h
theorem cmp_lays {α : Type} [Inhabited α] {call : CallF} (hc : CallOk P Γ call) (E : Enc α) [E.Own] (cf : α → α → Int) (g : Nat) (hcmp : ∀ x y, ∃ G, call g [.agg (E.f x), .agg (E.f y)] [] = some (.int .i64 (cf x y), G))
    (hmono : Γ.mono = true) (hg : GlobMem Γ w0 B) (hs : HS w0 B e H w) {blk off size : Nat} (hb : B ≤ blk) (hbs : blk < w.heap.size) (eg : ∀ args w, (callFunc g args).run P w = .ok (.enter g args) w) : Go.Proofs.CmpLays P g #[] E.vs E.k cf blk off size w := by
  intro m os dk _ x y
  generalize hW : Go.Proofs.sortWorldK E.vs E.k w blk off m dk os = W
  have hsz := hs.szB
  have hWs : w.heap.size ≤ W.heap.size := by rw [← hW]; exact Go.Proofs.size_sortWorldK_c E.vs E.k w blk off m dk os
  have hold : ∀ b, b < B → W.heap[b]? = w.heap[b]? := fun b hbB => by
    rw [← hW]
    unfold Go.Proofs.sortWorldK Go.Sort.grow Go.Sort.putRowK Go.Sort.putRow Go.Sort.mapBlock
    simp only
    rw [Array.getElem?_append, if_pos (by simp [Go.Sort.ahead]; omega), Array.getElem?_modify, if_neg (by omega)]
    rfl
  obtain ⟨G, hG⟩ := hcmp x y
  have hrep : RepL W W.heap.size emp [.agg (E.f x), .agg (E.f y)] [.agg (E.vs x).toArray, .agg (E.vs y).toArray] := by
    have one : ∀ a, Rep W W.heap.size emp (.agg (E.f a)) (.agg (E.vs a).toArray) := fun a => by
      have h := plain_cells (w0 := W) (B := W.heap.size) (e := emp) (enc_plain E a)
      exact .agg _ _ _ h.1.1 h.2 h.1.2
    exact RepL.cons (one x) (RepL.cons (one y) (RepL.nil _ _ _))
  have hat := hc g _ [] _ hG { W with drawn := 0 } W.heap.size emp W _ (globOk_move hmono hg hs hold (by omega)) (HS.freshAt W 0) (RepL.rebase (w0 := W) (w1 := { W with drawn := 0 }) rfl hrep)
  rcases hat with ⟨_, hcalls⟩ | ⟨v, w', hext, _⟩
  rotate_left
  · rw [eg] at hext; cases hext
  have happ : (#[.agg (E.vs x).toArray, .agg (E.vs y).toArray] ++ #[] : Array Value) = ⟨[.agg (E.vs x).toArray, .agg (E.vs y).toArray]⟩ := Array.append_empty
  rw [happ]
  refine hcalls.mono fun ed w' hp => ?_
  obtain ⟨v, e', rfl, hst, hr⟩ := hp
  cases hr
  exact ⟨rfl, world_grow hst⟩
theorem sortOrc_ok {α : Type} [Inhabited α] {call : CallF} (hmono : Γ.mono = true) (hc : CallOk P Γ call) (E : Enc α) [E.Own] (hk0 : 0 < E.k) (cf : α → α → Int) (hO : Go.Sort.SWO (Go.Proofs.ltOf cf)) (g : Nat)
    (hcmp : ∀ x y, ∃ G, call g [.agg (E.f x), .agg (E.f y)] [] = some (.int .i64 (cf x y), G)) (eg : ∀ args w, (callFunc g args).run P w = .ok (.enter g args) w)
    {ρ : Go.Shelf.Ren} (L : Go.Proofs.SlLaysF0.n6 P ρ) (aE : ∀ w, (isAgg (ρ.t 24)).run P w = .ok true w) (zE : ∀ w, (Go.sizeOf (ρ.t 24)).run P w = .ok E.k w) (hcb : Callable P (ρ.f 6))
    {args : List V} {H : Heap} {r : V × Heap} (h : sortOrc E cf g args H = some r) {w0 : World} {B : Nat} {e : Emb} {w : World} {vs : List Value} (hg : GlobMem Γ w0 B) (hs : HS w0 B e H w) (ha : RepL w0 B e args vs) :
    CallAt P (ρ.f 6) vs w0 B e H w r := by
  refine Or.inl ⟨hcb, ?_⟩
  unfold sortOrc at h
  split at h
  case h_2 => cases h
  rename_i id off len sz g'
  split at h
  case isFalse => cases h
  rename_i hgs
  obtain ⟨rfl, hsz⟩ := hgs
  split at h
  case h_2 => cases h
  rename_i cs ex hid
  split at h
  case isFalse => cases h
  rename_i hex
  obtain ⟨hl1, hl2, hl3, hl4⟩ := Classical.choose_spec hex
  generalize Classical.choose hex = l at *
  obtain ⟨H', hw, rfl⟩ := Option.map_eq_some_iff.1 h
  obtain ⟨v0, v1, rfl⟩ : ∃ a b, vs = [a, b] := by
    have := ha.1
    match vs, this with
    | [a, b], _ => exact ⟨a, b, rfl⟩
  have h0 := ha.head
  have h1 := ha.tail.head
  cases h1 with
  | fn _ _ _ _ a' b' ha' hb' _ _ =>
  obtain rfl : a' = [] := List.length_eq_zero_iff.1 ha'.symm
  obtain rfl : b' = [] := List.length_eq_zero_iff.1 hb'.symm
  cases h0 with
  | sl _ _ _ _ _ cap eb o he k1 k2 k3 k4 =>
  have hcs := plain_cells (w0 := w0) (B := B) (e := e) (flatE_plain E (pdqL cf l))
  obtain ⟨c, el, fr, hc1, hc2, hc3, hst⟩ := rstore_at hs he hcs hw
  have hd := hs.dom id eb he
  have hlen := pdqL_length cf hO l
  have hvl : ((flatE E (pdqL cf l)).map valOf).length = len * E.k := by simp [hlen, hl2]
  obtain ⟨eb', o', he', ho', hok⟩ := hs.live id _ hid
  rw [he] at he'; cases he'
  rw [hc1] at ho'
  cases ho'
  simp only [BlkOk] at hok
  obtain ⟨m1, m2, m3, m4, m5⟩ := hok
  have hseg : ((seg c eb.base cs.length).drop off).take (len * E.k) = (flatE E l).map valOf := by
    have := (m5.drop off).take (len * E.k)
    rw [hl1] at this
    exact repL_plain (flatE_plain E l) this.1
  have hlen2 : ((flatE E l).map valOf).length = len * E.k := by simp [hl2]
  have hlenk : ∀ x, (E.vs x).length = E.k := fun x => by simp [Enc.vs, E.len]
  have hfm : ∀ l : List α, (flatE E l).map valOf = l.flatMap E.vs := fun l => by
    simp only [flatE, List.map_flatMap]; rfl
  have hflat : ∀ l : List α, (Go.Sort.flatK E.vs E.k l.toArray).toList = (flatE E l).map valOf := fun l => by
    rw [flatK_toList E.vs E.k hlenk, hfm]
  have hH : len ≠ 0 → Go.Sort.HoldsK E.vs E.k w eb.b o l.toArray := by
    intro hne j hj
    have hj' : j < len * E.k := by simpa [Go.Sort.flatK, hl2] using hj
    have hlc : len * E.k ≤ cap * sz := by rw [hsz]; exact Nat.mul_le_mul_right _ k1
    rw [k4 (by omega)]
    have hlt : eb.base + off + j < c.size := by omega
    have hval : c[eb.base + off + j]? = some (Go.Sort.flatK E.vs E.k l.toArray)[j]! := by
      have e1 : ((flatE E l).map valOf)[j]? = some (Go.Sort.flatK E.vs E.k l.toArray)[j]! := by
        rw [← hflat l, Array.getElem?_toList, Array.getElem?_eq_getElem hj, getElem!_pos _ j hj]
      rw [← hseg, List.getElem?_take, if_pos hj', List.getElem?_drop] at e1
      have e2 := seg_get e1
      rwa [← Nat.add_assoc] at e2
    refine ⟨?_, ?_⟩
    · simp only [World.cell?, hc1]
      simpa using hval
    · have := hc2 (eb.base + off + j) hlt
      obtain ⟨lo, hi⟩ := fr
      simpa [World.frozen?, hc1] using this
  have hH' : Go.Sort.HoldsK E.vs E.k w eb.b o l.toArray := by
    by_cases hne : len = 0
    · intro j hj
      exfalso
      have : l = [] := List.length_eq_zero_iff.1 (by omega)
      subst this
      simp [Go.Sort.flatK] at hj
    · exact hH hne
  have hlay := cmp_lays (P := P) (w := w) hc E cf g' hcmp hmono hg hs (blk := eb.b) (off := o) (size := l.toArray.size) hd.2.1 hd.2.2 eg
  have hcon := Go.Proofs.AnyQ.slices_SortFunc_eq L E.k aE zE E.vs hlenk (fun x v hv => by obtain ⟨u, hu, rfl⟩ := List.mem_map.1 hv; exact one_valOf (enc_plain E x u hu)) cf hO g' #[] eb.b o cap l.toArray w eg hlay hH' hd.2.2 (by simp; omega)
  have hll : l.toArray.size = len := by simpa using hl2
  rw [hll] at hcon
  refine (show Calls P (ρ.f 6) #[.slice (some ⟨eb.b, o, none⟩) len cap, .func (.func g') #[] #[]] w _ from ?_)
  refine hcon.mono fun ed w' hp => ?_
  obtain ⟨rfl, n, os, rfl⟩ := hp
  refine ⟨_, e, rfl, ?_, undef_ok⟩
  have hpdq : (Go.Sort.pdq (Go.Proofs.ltOf cf) l.toArray 0 len (Lib.bitLen len) true true) = (pdqL cf l).toArray := by
    unfold pdqL; rw [hll]
  rw [hpdq]
  have hfin := hst.trans (Stp.grow hst.hs os n)
  have hworld : Go.Proofs.sortWorldK E.vs E.k w eb.b o n (pdqL cf l).toArray os = { w with heap := w.heap.setIfInBounds eb.b (.cells ⟨c.toList.take (eb.base + off) ++ (flatE E (pdqL cf l)).map valOf ++ c.toList.drop (eb.base + off + ((flatE E (pdqL cf l)).map valOf).length)⟩ el fr) ++ os, drawn := w.drawn + n } := by
    unfold Go.Proofs.sortWorldK Go.Sort.grow Go.Sort.putRowK Go.Sort.putRow Go.Sort.mapBlock Go.Sort.ahead
    simp only
    congr 1
    congr 1
    rw [heap_modify_eq _ _ _ _ hc1]
    congr 1
    simp only [Go.Sort.onCells]
    congr 1
    have hFs : (Go.Sort.flatK E.vs E.k (pdqL cf l).toArray).size = len * E.k := by simp [Go.Sort.flatK, hlen, hl2]
    by_cases hne : len = 0
    · have hp0 : pdqL cf l = [] := List.length_eq_zero_iff.1 (by omega)
      rw [hp0]
      apply Array.ext'
      simp [Go.Sort.putCells, Go.Sort.flatK]
      refine List.ext_getElem (by simp) fun j h1 h2 => ?_
      simp
      intro g1 g2
      omega
    · have hlc : len * E.k ≤ cap * sz := by rw [hsz]; exact Nat.mul_le_mul_right _ k1
      rw [k4 (by omega), putCells_list _ _ _ (by rw [hFs]; omega), hflat, hFs, hvl]
  rw [hworld]
  exact hfin
end
theorem flatE_inj {α : Type} (E : Enc α) (hk : 0 < E.k) (hinj : ∀ a b, E.f a = E.f b → a = b) : ∀ l m : List α, flatE E l = flatE E m → l = m
  | [], [], _ => rfl
  | [], b :: m, h => by have := congrArg List.length h; simp [Nat.add_mul] at this; omega
  | a :: l, [], h => by have := congrArg List.length h; simp [Nat.add_mul] at this; omega
  | a :: l, b :: m, h => by
    rw [flatE_cons, flatE_cons] at h
    obtain ⟨h1, h2⟩ := List.append_inj h (by simp)
    rw [hinj a b h1, flatE_inj E hk hinj l m h2]
theorem sortOrc_eq {α : Type} [Inhabited α] (E : Enc α) (hk : 0 < E.k) (hinj : ∀ a b, E.f a = E.f b → a = b) (cf : α → α → Int) (g : Nat) {id off len sz : Nat} {H : Heap} {cs : List V} {ex : Bool} {l : List α}
    (hsz : sz = E.k) (hid : H[id]? = some (some (.cells cs ex))) (hl : (cs.drop off).take (len * E.k) = flatE E l) (hlen : l.length = len) (hb : len < 4611686018427387904) (hc : off + len * E.k ≤ cs.length) :
    sortOrc E cf g [.sl id off len sz, .fn (.func g) [] []] H = some (V.undef, H.set id (some (.cells (cs.take off ++ flatE E (pdqL cf l) ++ cs.drop (off + (flatE E (pdqL cf l)).length)) ex))) ∨ (pdqL cf l).length ≠ l.length := by
  by_cases hpl : (pdqL cf l).length = l.length
  · left
    unfold sortOrc
    simp only [hsz, and_self, if_true, hid]
    have hex : ∃ l : List α, (cs.drop off).take (len * E.k) = flatE E l ∧ l.length = len ∧ len < 4611686018427387904 ∧ off + len * E.k ≤ cs.length := ⟨l, hl, hlen, hb, hc⟩
    rw [dif_pos hex]
    have hch : Classical.choose hex = l := flatE_inj E hk hinj _ _ ((Classical.choose_spec hex).1.symm.trans hl)
    rw [hch]
    unfold writeCells
    simp only [hid]
    rw [if_pos (by simp [hpl, hlen]; exact hc)]
    rfl
  · exact .inr hpl
theorem sorted_unique {α : Type} {lt : α → α → Bool} (hanti : ∀ x y, lt x y = false → lt y x = false → x = y) : ∀ l m : List α, l.Perm m → l.Pairwise (fun a b => lt b a = false) → m.Pairwise (fun a b => lt b a = false) → l = m
  | [], m, h, _, _ => by rw [List.Perm.eq_nil h.symm]
  | a :: l, m, h, h1, h2 => by
    cases m with
    | nil => have := h.length_eq; simp at this
    | cons b m =>
      obtain ⟨a1, a2⟩ := List.pairwise_cons.1 h1
      obtain ⟨b1, b2⟩ := List.pairwise_cons.1 h2
      have hab : a = b := by
        rcases List.mem_cons.1 (h.mem_iff.1 (List.mem_cons_self ..)) with hx | hx
        · exact hx
        · rcases List.mem_cons.1 (h.mem_iff.2 (List.mem_cons_self ..)) with hy | hy
          · exact hy.symm
          · exact hanti a b (b1 a hx) (a1 b hy)
      subst hab
      rw [sorted_unique hanti l m (List.Perm.cons_inv h) a2 b2]
theorem pdqL_eq {α : Type} [Inhabited α] {cf : α → α → Int} (hO : Go.Sort.SWO (Go.Proofs.ltOf cf)) (hanti : ∀ x y, Go.Proofs.ltOf cf x y = false → Go.Proofs.ltOf cf y x = false → x = y) {l m : List α} (hp : m.Perm l) (hm : m.Pairwise (fun a b => Go.Proofs.ltOf cf b a = false)) : pdqL cf l = m := by
  obtain ⟨h1, h2⟩ := Go.Sort.pdq_sorts (Go.Proofs.ltOf cf) hO l.toArray 0 l.toArray.size (Lib.bitLen l.toArray.size) true true (Nat.zero_le _) (Nat.le_refl _) (Or.inl rfl)
  unfold pdqL
  generalize Go.Sort.pdq (Go.Proofs.ltOf cf) l.toArray 0 l.toArray.size (Lib.bitLen l.toArray.size) true true = d at *
  have hsz : d.size = l.length := by simpa using h1.1
  have hperm : d.toList.Perm l := by
    have := h1.2.2
    have e1 : (d.extract 0 l.toArray.size).toList = d.toList := by simp [← hsz]
    have e2 : (l.toArray.extract 0 l.toArray.size).toList = l := by simp
    rwa [e1, e2] at this
  refine sorted_unique hanti _ _ (hperm.trans hp.symm) ?_ hm
  rw [List.pairwise_iff_getElem]
  intro i j hi hj hij
  have h := h2 i j (Nat.zero_le _) hij (by simpa [hsz] using hj)
  rw [getElem!_pos d j (by simpa using hj), getElem!_pos d i (by simpa using hi)] at h
  simpa using h
end Go.Ev
