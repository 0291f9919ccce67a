/-
  CALLS: what is handed in, what comes back (own work).
-/
import Derived.Test.YtnalmdnfoicokaaEv13
set_option linter.unusedSimpArgs false
set_option linter.unusedVariables false
namespace Go.Ev
open Go

section
variable {P : Program} {w0 : World} {B : Nat} {e : Emb} {H : Heap} {w : World} {Γ : Env}

/-- What holds no read-only part stands over whatever world. -/
theorem Rep.ownRen {w0 w1 : World} {B B1 : Nat} {e e1 : Emb} {ρ : Nat → Option Nat} (he : ∀ id j eb, ρ id = some j → e id = some eb → e1 j = some eb) {a : V} {v : Value} (h : Rep w0 B e a v) (ho : a.own = true) : Rep w1 B1 e1 (a.ren ρ) v := by
  have hL : ∀ {l : List V}, ownL l = true → ∀ j (h : j < l.length), (l[j]'h).own = true := by
    intro l
    induction l with
    | nil => intro _ j h; simp at h
    | cons x l ih =>
      intro hl j h
      simp only [ownL, Bool.and_eq_true] at hl
      cases j with
      | zero => exact hl.1
      | succ j => exact ih hl.2 j (by simpa using h)
  unfold V.ren
  induction h with
  | bool => constructor
  | int => constructor
  | str => constructor
  | nilp => constructor
  | ptr e id off eb h =>
    simp only [V.sub]
    cases hρ : ρ id with
    | none => exact .junk _ _
    | some j => exact .ptr _ _ _ _ (he _ _ _ hρ h)
  | ro => simp [V.own] at ho
  | nils => constructor
  | sl e id off len sz cap eb o h h2 h3 h4 h5 =>
    simp only [V.sub]
    cases hρ : ρ id with
    | none => exact .junk _ _
    | some j => exact .sl _ _ _ _ _ _ _ _ (he _ _ _ hρ h) h2 h3 h4 h5
  | ros => simp [V.own] at ho
  | rose => simp [V.own] at ho
  | nilm => constructor
  | map e id eb h =>
    simp only [V.sub]
    cases hρ : ρ id with
    | none => exact .junk _ _
    | some j => exact .map _ _ _ (he _ _ _ hρ h)
  | rom => simp [V.own] at ho
  | fn e f a b a' b' ha hb har hbr ih1 ih2 =>
    simp only [V.own, Bool.and_eq_true] at ho
    simp only [V.sub, subL_eq]
    exact .fn _ f _ _ a' b' (by simp [ha]) (by simp [hb]) (fun j h h' => by simpa using ih1 j (by simpa using h) h' he (hL ho.1 j (by simpa using h))) (fun j h h' => by simpa using ih2 j (by simpa using h) h' he (hL ho.2 j (by simpa using h)))
  | nilf => constructor
  | iface e t v v' h ih => exact .iface _ _ _ _ (ih he ho)
  | nili => constructor
  | agg e a a' ha h1 har ih =>
    simp only [V.sub, subL_eq]
    exact .agg _ _ a' (by simp [ha]) h1 (fun j h h' => by simpa using ih j (by simpa using h) h' he (hL ho j (by simpa using h)))
  | tup e a a' ha har ih =>
    simp only [V.sub, subL_eq]
    exact .tup _ _ a' (by simp [ha]) (fun j h h' => by simpa using ih j (by simpa using h) h' he (hL ho j (by simpa using h)))
  | junk => constructor

theorem ownL_get : ∀ {l : List V}, ownL l = true → ∀ j (h : j < l.length), (l[j]'h).own = true
  | [], _, j, h => by simp at h
  | x :: l, hl, j, h => by
    simp only [ownL, Bool.and_eq_true] at hl
    cases j with
    | zero => exact hl.1
    | succ j => exact ownL_get hl.2 j (by simpa using h)

theorem BlkOk.ownRen {w0 w1 : World} {B B1 : Nat} {e e1 : Emb} {ρ : Nat → Option Nat} (he : ∀ id j eb, ρ id = some j → e id = some eb → e1 j = some eb) {k : Blk} {eb : EB} {o : Obj} (h : BlkOk w0 B e k eb o) (ho : k.own = true) :
    BlkOk w1 B1 e1 (k.ren ρ) eb o := by
  cases k <;> cases o <;> simp only [BlkOk, Blk.ren, Blk.own] at h ho ⊢
  · rw [renL_eq]
    simp only [List.length_map]
    refine ⟨h.1, h.2.1, h.2.2.1, h.2.2.2.1, ⟨by simpa using h.2.2.2.2.1.1, fun j h1 h2 => ?_⟩, h.2.2.2.2.2⟩
    simpa using (h.2.2.2.2.1.2 j (by simpa using h1) h2).ownRen he (ownL_get ho j (by simpa using h1))
  · refine ⟨h.1, by simpa using h.2.1, fun j h1 h2 => ?_⟩
    have := h.2.2 j (by simpa using h1) h2
    simp only [List.getElem_map]
    have hj := (List.all_eq_true.1 ho) _ (List.getElem_mem (l := _) (by simpa using h1 : j < _))
    simp only [Bool.and_eq_true] at hj
    exact ⟨this.1.ownRen he hj.1, this.2.1.ownRen he hj.2, this.2.2⟩
  · exact h

/-- What is read out for good: the general law. The blocks that are not kept are known in the new base. -/
theorem snapK_ok {keep : Nat → Bool} {w1 : World} {B1 : Nat} {e1 : Emb} {H : Heap} {e : Emb} (hs : HS w0 B e H w) (hk : ∀ b o, known w0 B e b = some o → known w1 B1 e1 b = some o)
    (hl : ∀ id k eb, keep id = false → H[id]? = some (some k) → e id = some eb → ∀ o, w.heap[eb.b]? = some o → known w1 B1 e1 eb.b = some o) : ∀ (d : Nat) {v : V} {x : Value}, Rep w0 B e v x → Rep w1 B1 e1.bare (snapK keep d H v) x
  | 0, v, x, hr => by
    unfold snapK
    exact Rep.sub (e1 := e1.bare) hk (fun _ _ _ _ => .junk _ _) (fun _ _ _ _ _ _ => .junk _ _) (fun _ _ _ => .junk _ _) hr
  | d + 1, v, x, hr => by
    unfold snapK
    refine Rep.sub (e1 := e1.bare) hk ?_ ?_ ?_ hr
    · intro id off x hx
      cases hkp : keep id with
      | true => exact .junk _ _
      | false =>
      simp only [Bool.false_eq_true, if_false]
      cases hx with
      | ptr _ _ _ eb he =>
        split
        · rename_i cs ex hid
          obtain ⟨eb', o', he', ho', hok⟩ := hs.live id _ hid
          rw [he] at he'; cases he'
          have hkn := hl id _ eb hkp hid he _ ho'
          cases o' <;> simp only [BlkOk] at hok
          rename_i c el fr
          obtain ⟨m1, m2, m3, m4, m5⟩ := hok
          refine .ro _ _ eb.b (eb.base + off) (fun j => (c[eb.base + off + j]?).getD undef) (fun j hj => ?_) (fun j hj => ?_) (fun j hj => ?_)
          · simp only [List.length_map, List.length_drop] at hj
            have hlt : eb.base + off + j < c.size := by omega
            show kcell w1 B1 e1 _ _ = _
            simp [kcell, hkn, hlt]
          · simp only [List.length_map, List.length_drop] at hj
            have hlt : eb.base + off + j < c.size := by omega
            simp only [hlt, getElem?_pos, Option.getD_some]
            apply m5.2
            unfold seg
            rw [List.mem_iff_getElem]
            exact ⟨off + j, by simp; omega, by simp [Nat.add_assoc]⟩
          · simp only [List.length_map, List.length_drop] at hj
            have hlt : eb.base + off + j < c.size := by omega
            simp only [List.getElem_map, List.getElem_drop, hlt, getElem?_pos, Option.getD_some]
            have h2 : off + j < (seg c eb.base cs.length).length := by rw [← m5.1.1]; omega
            have := m5.1.2 (off + j) (by omega) h2
            have e1' : (seg c eb.base cs.length)[off + j] = c[eb.base + off + j] := by
              have h3 : (seg c eb.base cs.length)[off + j]? = some ((seg c eb.base cs.length)[off + j]) := List.getElem?_eq_getElem h2
              have h4 := seg_get h3
              have h5 : eb.base + (off + j) = eb.base + off + j := by omega
              rw [h5] at h4
              rw [Array.getElem?_eq_getElem hlt] at h4
              exact (Option.some.inj h4).symm
            rw [e1'] at this
            exact snapK_ok hs hk hl d this
        · exact .junk _ _
    · intro id off len sz x hx
      cases hkp : keep id with
      | true => exact .junk _ _
      | false =>
      simp only [Bool.false_eq_true, if_false]
      cases hx with
      | sl _ _ _ _ _ cap eb o he k1 k2 k3 k4 =>
        split
        · rename_i cs ex hid
          obtain ⟨eb', o', he', ho', hok⟩ := hs.live id _ hid
          rw [he] at he'; cases he'
          have hkn := hl id _ eb hkp hid he _ ho'
          cases o' <;> simp only [BlkOk] at hok
          rename_i c el fr
          obtain ⟨m1, m2, m3, m4, m5⟩ := hok
          have hpos : ∀ j, j < len * sz → o = eb.base + off := fun j hj => k4 (by rcases Nat.eq_zero_or_pos len with h0 | h0; · rw [h0] at hj; simp at hj
                                                                                  · omega)
          refine .ros _ _ _ eb.b o cap (fun j => (c[eb.base + off + j]?).getD undef) k1 (fun j hj => ?_) (fun j hj => ?_) (fun j hj => ?_)
          · simp only [List.length_map, List.length_take, List.length_drop] at hj
            have hlt : eb.base + off + j < c.size := by omega
            rw [hpos j (by omega)]
            show kcell w1 B1 e1 _ _ = _
            simp [kcell, hkn, hlt]
          · simp only [List.length_map, List.length_take, List.length_drop] at hj
            have hlt : eb.base + off + j < c.size := by omega
            simp only [hlt, getElem?_pos, Option.getD_some]
            apply m5.2
            unfold seg
            rw [List.mem_iff_getElem]
            exact ⟨off + j, by simp; omega, by simp [Nat.add_assoc]⟩
          · simp only [List.length_map, List.length_take, List.length_drop] at hj
            have hlt : eb.base + off + j < c.size := by omega
            simp only [List.getElem_map, List.getElem_take, List.getElem_drop, hlt, getElem?_pos, Option.getD_some]
            have h2 : off + j < (seg c eb.base cs.length).length := by rw [← m5.1.1]; omega
            have := m5.1.2 (off + j) (by omega) h2
            have e1' : (seg c eb.base cs.length)[off + j] = c[eb.base + off + j] := by
              have h3 : (seg c eb.base cs.length)[off + j]? = some ((seg c eb.base cs.length)[off + j]) := List.getElem?_eq_getElem h2
              have h4 := seg_get h3
              have h5 : eb.base + (off + j) = eb.base + off + j := by omega
              rw [h5] at h4
              rw [Array.getElem?_eq_getElem hlt] at h4
              exact (Option.some.inj h4).symm
            rw [e1'] at this
            exact snapK_ok hs hk hl d this
        · exact .junk _ _
    · intro id x hx
      cases hkp : keep id with
      | true => exact .junk _ _
      | false =>
      simp only [Bool.false_eq_true, if_false]
      cases hx with
      | map _ _ eb he =>
        split
        · rename_i es c hid
          obtain ⟨ces, hob, hlen, hes⟩ := live_map hs he hid
          exact .rom _ _ _ eb.b c ces (hl id _ eb hkp hid he _ hob) (by simp [hlen]) (by simp [hlen]) (fun j h h' => by simp only [List.getElem_map]; exact snapK_ok hs hk hl d (hes j (by simpa using h) h').1) (fun j h h' => by simp only [List.getElem_map]; exact snapK_ok hs hk hl d (hes j (by simpa using h) h').2.1)
        · exact .junk _ _
theorem snap_eq : ∀ (d : Nat) (H : Heap) (v : V), snap d H v = snapK (fun _ => false) d H v
  | 0, H, v => by unfold snap snapK; rfl
  | d + 1, H, v => by
    unfold snap snapK
    have h : snap d H = snapK (fun _ => false) d H := funext (snap_eq d H)
    rw [h]
    rfl
theorem snap_ok (d : Nat) {H : Heap} {e : Emb} {v : V} {x : Value} (hs : HS w0 B e H w) (hr : Rep w0 B e v x) : Rep w w.heap.size emp (snap d H v) x := by
  rw [snap_eq]
  have hkn : ∀ b o, w.heap[b]? = some o → known w w.heap.size emp b = some o := fun b o ho => by
    unfold known; rw [if_pos (Array.getElem?_eq_some_iff.1 ho).1]; exact ho
  exact snapK_ok (e1 := emp) hs (fun b o h => hkn b o (hs.known b o h)) (fun id k eb _ _ _ o ho => hkn _ o ho) d hr
end
end Go.Ev
