/-
  THE HEAP's RELATION, AND WHAT A STEP MAY DO (own work).
-/
import Derived.Test.YtnalmdnfoicokaaEv2
namespace Go.Ev
open Go

mutual
theorem V.sub_self : ∀ v : V, v.sub (fun id off => .ptr id off) (fun id off len sz => .sl id off len sz) (fun id => .map id) = v
  | .bool _ => rfl
  | .int _ _ => rfl
  | .str _ => rfl
  | .nilp => rfl
  | .ptr _ _ => rfl
  | .ro _ => rfl
  | .nils => rfl
  | .sl _ _ _ _ => rfl
  | .ros _ _ => rfl
  | .nilm => rfl
  | .map _ => rfl
  | .rom _ _ => rfl
  | .fn f a b => by simp only [V.sub]; rw [subL_self a, subL_self b]
  | .nilf => rfl
  | .iface t v => by simp only [V.sub]; rw [V.sub_self v]
  | .nili => rfl
  | .agg cs => by simp only [V.sub]; rw [subL_self cs]
  | .tup cs => by simp only [V.sub]; rw [subL_self cs]
  | .junk => rfl
theorem subL_self : ∀ l : List V, subL (fun id off => .ptr id off) (fun id off len sz => .sl id off len sz) (fun id => .map id) l = l
  | [] => rfl
  | v :: l => by simp only [subL]; rw [V.sub_self v, subL_self l]
end

theorem Rep.mono {w0 : World} {B : Nat} {e e1 : Emb} {a : V} {v : Value} (he : ∀ id eb, e id = some eb → e1 id = some eb) (h : Rep w0 B e a v) (hz : ∀ b o, e.frz b = some o → e1.frz b = some o := by exact fun _ _ h => h) : Rep w0 B e1 a v := by
  have := Rep.sub (e1 := e1) (hp := fun id off => .ptr id off) (hs := fun id off len sz => .sl id off len sz) (hm := fun id => .map id) (known_frz hz)
    (fun id off v hv => by cases hv with | ptr _ _ _ eb h => exact .ptr _ _ _ _ (he _ _ h))
    (fun id off len sz v hv => by cases hv with | sl _ _ _ _ _ _ eb o h h2 h3 h4 h5 => exact .sl _ _ _ _ _ _ _ _ (he _ _ h) h2 h3 h4 h5)
    (fun id v hv => by cases hv with | map _ _ eb h => exact .map _ _ _ (he _ _ h)) h
  rwa [V.sub_self] at this
theorem RepL.mono {w0 : World} {B : Nat} {e e1 : Emb} {a : List V} {v : List Value} (he : ∀ id eb, e id = some eb → e1 id = some eb) (h : RepL w0 B e a v) (hz : ∀ b o, e.frz b = some o → e1.frz b = some o := by exact fun _ _ h => h) : RepL w0 B e1 a v :=
  ⟨h.1, fun j h1 h2 => (h.2 j h1 h2).mono he hz⟩

theorem Rep.ren {w0 : World} {B : Nat} {e e1 : Emb} {ρ : Nat → Option Nat} (he : ∀ id j eb, ρ id = some j → e id = some eb → e1 j = some eb) {a : V} {v : Value} (h : Rep w0 B e a v) (hz : ∀ b o, e.frz b = some o → e1.frz b = some o := by exact fun _ _ h => h) :
    Rep w0 B e1 (a.ren ρ) v := by
  refine Rep.sub (known_frz hz) ?_ ?_ ?_ h
  · intro id off v hv
    cases hρ : ρ id with
    | none => exact .junk _ _
    | some j =>
      cases hv with
      | ptr _ _ _ eb h => exact .ptr _ _ _ _ (he _ _ _ hρ h)
  · intro id off len sz v hv
    cases hρ : ρ id with
    | none => exact .junk _ _
    | some j =>
      cases hv with
      | sl _ _ _ _ _ _ eb o h h2 h3 h4 h5 => exact .sl _ _ _ _ _ _ _ _ (he _ _ _ hρ h) h2 h3 h4 h5
  · intro id v hv
    cases hρ : ρ id with
    | none => exact .junk _ _
    | some j =>
      cases hv with
      | map _ _ eb h => exact .map _ _ _ (he _ _ _ hρ h)
theorem RepL.ren {w0 : World} {B : Nat} {e e1 : Emb} {ρ : Nat → Option Nat} (he : ∀ id j eb, ρ id = some j → e id = some eb → e1 j = some eb) {a : List V} {v : List Value} (h : RepL w0 B e a v) (hz : ∀ b o, e.frz b = some o → e1.frz b = some o := by exact fun _ _ h => h) :
    RepL w0 B e1 (a.map (V.ren ρ)) v :=
  ⟨by simp [h.1], fun j h1 h2 => by simpa using (h.2 j (by simpa using h1) h2).ren he hz⟩

def CellsOk (w0 : World) (B : Nat) (e : Emb) (cs : List V) (vs : List Value) : Prop := RepL w0 B e cs vs ∧ ∀ v ∈ vs, one v = true
theorem CellsOk.mono {w0 : World} {B : Nat} {e e1 : Emb} {a : List V} {v : List Value} (h : CellsOk w0 B e a v) (he : ∀ id eb, e id = some eb → e1 id = some eb) (hz : ∀ b o, e.frz b = some o → e1.frz b = some o := by exact fun _ _ h => h) : CellsOk w0 B e1 a v := ⟨h.1.mono he hz, h.2⟩
theorem CellsOk.append {w0 B e a a' b b'} (h : CellsOk w0 B e a a') (k : CellsOk w0 B e b b') : CellsOk w0 B e (a ++ b) (a' ++ b') :=
  ⟨h.1.append k.1, fun v hv => (List.mem_append.1 hv).elim (h.2 v) (k.2 v)⟩
theorem CellsOk.take {w0 B e a a'} (h : CellsOk w0 B e a a') (n : Nat) : CellsOk w0 B e (a.take n) (a'.take n) := ⟨h.1.take n, fun v hv => h.2 v (List.mem_of_mem_take hv)⟩
theorem CellsOk.drop {w0 B e a a'} (h : CellsOk w0 B e a a') (n : Nat) : CellsOk w0 B e (a.drop n) (a'.drop n) := ⟨h.1.drop n, fun v hv => h.2 v (List.mem_of_mem_drop hv)⟩
theorem CellsOk.nil (w0 B e) : CellsOk w0 B e [] [] := ⟨RepL.nil _ _ _, fun v hv => by simp at hv⟩

/-- The cells of a real row that a block shows. -/
def seg (c : Array Value) (base n : Nat) : List Value := (c.toList.drop base).take n

def BlkOk (w0 : World) (B : Nat) (e : Emb) : Blk → EB → Obj → Prop
  | .cells cs ex, eb, .cells c _ fr => eb.size ≤ c.size ∧ eb.base + cs.length ≤ eb.size ∧ (ex = true → eb.base + cs.length = eb.size) ∧
      (∀ j, j < c.size → (decide (fr.1 ≤ j) && decide (j < fr.2)) = false) ∧ CellsOk w0 B e cs (seg c eb.base cs.length)
  | .map es clock, _, .map ces cl => cl = clock ∧ es.length = ces.toList.length ∧
      ∀ j (h : j < es.length) (h' : j < ces.toList.length), Rep w0 B e (es[j]'h).1 (ces.toList[j]'h').key ∧ Rep w0 B e (es[j]'h).2.1 (ces.toList[j]'h').val ∧ (es[j]'h).2.2 = (ces.toList[j]'h').born
  | .siter s p, eb, .stringIter s' p' => s = s' ∧ p = p' ∧ eb.base = 0
  | _, _, _ => False

theorem BlkOk.mono {w0 : World} {B : Nat} {e e1 : Emb} (he : ∀ id eb, e id = some eb → e1 id = some eb) {k : Blk} {eb : EB} {o : Obj} (h : BlkOk w0 B e k eb o) (hz : ∀ b o, e.frz b = some o → e1.frz b = some o := by exact fun _ _ h => h) : BlkOk w0 B e1 k eb o := by
  cases k <;> cases o <;> simp only [BlkOk] at h ⊢
  · exact ⟨h.1, h.2.1, h.2.2.1, h.2.2.2.1, h.2.2.2.2.mono he hz⟩
  · exact ⟨h.1, h.2.1, fun j h1 h2 => ⟨(h.2.2 j h1 h2).1.mono he hz, (h.2.2 j h1 h2).2.1.mono he hz, (h.2.2 j h1 h2).2.2⟩⟩
  · exact h
theorem BlkOk.ren {w0 : World} {B : Nat} {e e1 : Emb} {ρ : Nat → Option Nat} (he : ∀ id j eb, ρ id = some j → e id = some eb → e1 j = some eb) {k : Blk} {eb : EB} {o : Obj} (h : BlkOk w0 B e k eb o) (hz : ∀ b o, e.frz b = some o → e1.frz b = some o := by exact fun _ _ h => h) :
    BlkOk w0 B e1 (k.ren ρ) eb o := by
  cases k <;> cases o <;> simp only [BlkOk, Blk.ren] at h ⊢
  · rw [renL_eq]
    simp only [List.length_map]
    exact ⟨h.1, h.2.1, h.2.2.1, h.2.2.2.1, h.2.2.2.2.1.ren he hz, h.2.2.2.2.2⟩
  · refine ⟨h.1, by simpa using h.2.1, fun j h1 h2 => ?_⟩
    have := h.2.2 j (by simpa using h1) h2
    simp only [List.getElem_map]
    exact ⟨this.1.ren he hz, this.2.1.ren he hz, this.2.2⟩
  · exact h

structure HS (w0 : World) (B : Nat) (e : Emb) (H : Heap) (w : World) : Prop where
  old : ∀ b, b < B → w.heap[b]? = w0.heap[b]?
  szB : B ≤ w.heap.size
  dom : ∀ id eb, e id = some eb → id < H.length ∧ B ≤ eb.b ∧ eb.b < w.heap.size
  live : ∀ id k, H[id]? = some (some k) → ∃ eb o, e id = some eb ∧ w.heap[eb.b]? = some o ∧ BlkOk w0 B e k eb o
  inj : ∀ i j bi bj ei ej, H[i]? = some (some bi) → H[j]? = some (some bj) → e i = some ei → e j = some ej → ei.b = ej.b → i = j
  frz : ∀ b o, e.frz b = some o → w.heap[b]? = some o
  frl : ∀ id k eb, H[id]? = some (some k) → e id = some eb → e.frz eb.b = none

/-- What a step may do. -/
structure Stp (w0 : World) (B : Nat) (e : Emb) (H : Heap) (w : World) (e' : Emb) (H' : Heap) (w' : World) : Prop where
  hs : HS w0 B e' H' w'
  ext : ∀ id, id < H.length → e' id = e id
  len : H.length ≤ H'.length
  alive : ∀ id b, id < H.length → H'[id]? = some (some b) → ∃ b', H[id]? = some (some b')
  new : ∀ id eb, H.length ≤ id → e' id = some eb → w.heap.size ≤ eb.b ∨ ∃ i bi ei, H[i]? = some (some bi) ∧ e i = some ei ∧ ei.b = eb.b
  frame : ∀ b, b < w.heap.size → (∀ i bi ei, H[i]? = some (some bi) → e i = some ei → ei.b ≠ b) → w'.heap[b]? = w.heap[b]?
  size : w.heap.size ≤ w'.heap.size
  os : w'.os = w.os
  tape : w'.tape = w.tape
  output : w'.output = w.output
  fup : ∀ b o, e.frz b = some o → e'.frz b = some o
  fnew : ∀ b o, e'.frz b = some o → e.frz b = some o ∨ w.heap.size ≤ b ∨ ∃ i bi ei, H[i]? = some (some bi) ∧ e i = some ei ∧ ei.b = b
  drawn : w0.drawn = 0 → w.drawn ≤ w'.drawn

/-- What is known stands in the heap. -/
theorem HS.known {w0 B e H w} (h : HS w0 B e H w) : ∀ b o, known w0 B e b = some o → w.heap[b]? = some o := fun b o hk => by
  unfold Go.Ev.known at hk
  split at hk
  · rename_i hb; rw [h.old b hb]; exact hk
  · exact h.frz b o hk
theorem HS.kcell {w0 B e H w} (h : HS w0 B e H w) {b o : Nat} {v : Value} (hk : kcell w0 B e b o = some v) : w.cell? ⟨b, o, none⟩ = some v := by
  unfold Go.Ev.kcell at hk
  cases hb : Go.Ev.known w0 B e b with
  | none => rw [hb] at hk; cases hk
  | some x =>
    rw [hb] at hk
    unfold World.cell?
    rw [h.known _ _ hb]
    cases x <;> first | (cases hk; done) | exact hk
theorem HS.frzlt {w0 B e H w} (h : HS w0 B e H w) {b : Nat} {o : Obj} (hk : e.frz b = some o) : b < w.heap.size := (Array.getElem?_eq_some_iff.1 (h.frz b o hk)).1

theorem Stp.refl {w0 B e H w} (h : HS w0 B e H w) : Stp w0 B e H w e H w :=
  ⟨h, fun _ _ => rfl, Nat.le_refl _, fun _ b _ hb => ⟨b, hb⟩, fun id eb hi he => absurd (h.dom id eb he).1 (by omega), fun _ _ _ => rfl, Nat.le_refl _, rfl, rfl, rfl, fun _ _ h => h, fun _ _ h => .inl h, fun _ => Nat.le_refl _⟩
theorem HS.ge {w0 B e H w} (h : HS w0 B e H w) {id : Nat} {eb : EB} (he : e id = some eb) : id < H.length := (h.dom id eb he).1
theorem Stp.up {w0 B e H w e' H' w'} (h : Stp w0 B e H w e' H' w') (h0 : HS w0 B e H w) : ∀ id eb, e id = some eb → e' id = some eb :=
  fun id eb he => by rw [h.ext id (h0.ge he)]; exact he
theorem Stp.trans {w0 B e H w e1 H1 w1 e2 H2 w2} (h : Stp w0 B e H w e1 H1 w1) (k : Stp w0 B e1 H1 w1 e2 H2 w2) : Stp w0 B e H w e2 H2 w2 := by
  refine ⟨k.hs, fun id hi => ?_, Nat.le_trans h.len k.len, fun id b hi hb => ?_, fun id eb hi he => ?_, fun b hb hn => ?_, Nat.le_trans h.size k.size, by rw [k.os, h.os], by rw [k.tape, h.tape], by rw [k.output, h.output], fun b o hb => k.fup b o (h.fup b o hb), fun b o hb => ?_, fun h0 => Nat.le_trans (h.drawn h0) (k.drawn h0)⟩
  · rw [k.ext id (by have := h.len; omega), h.ext id hi]
  · obtain ⟨b', hb'⟩ := k.alive id b (by have := h.len; omega) hb
    exact h.alive id b' hi hb'
  · rcases Nat.lt_or_ge id H1.length with hlt | hge
    · rw [k.ext id hlt] at he
      exact h.new id eb hi he
    · rcases k.new id eb hge he with hn | ⟨i, bi, ei, h1, h2, h3⟩
      · left; have := h.size; omega
      · rcases Nat.lt_or_ge i H.length with hl | hg
        · obtain ⟨bi', hbi'⟩ := h.alive i bi hl h1
          right
          exact ⟨i, bi', ei, hbi', by rw [← h.ext i hl]; exact h2, h3⟩
        · rcases h.new i ei hg h2 with hn | ⟨i', bi', ei', a, b, c⟩
          · left; omega
          · right; exact ⟨i', bi', ei', a, b, by omega⟩
  · have h1 := h.frame b hb hn
    rw [← h1]
    refine k.frame b (by have := h.size; omega) fun i bi ei hbi hei => ?_
    rcases Nat.lt_or_ge i H.length with hl | hg
    · obtain ⟨bi', hbi'⟩ := h.alive i bi hl hbi
      exact hn i bi' ei hbi' (by rw [← h.ext i hl]; exact hei)
    · rcases h.new i ei hg hei with hx | ⟨i', bi', ei', x, y, z⟩
      · omega
      · have := hn i' bi' ei' x y; omega
  · rcases k.fnew b o hb with h1 | h1 | ⟨i, bi, ei, h1, h2, h3⟩
    · exact h.fnew b o h1
    · right; left; have := h.size; omega
    · right
      rcases Nat.lt_or_ge i H.length with hl | hg
      · obtain ⟨bi', hbi'⟩ := h.alive i bi hl h1
        right
        exact ⟨i, bi', ei, hbi', by rw [← h.ext i hl]; exact h2, h3⟩
      · rcases h.new i ei hg h2 with hn | ⟨i', bi', ei', a, b, c⟩
        · left; omega
        · right; exact ⟨i', bi', ei', a, b, by omega⟩

theorem HS.same {w0 B e H w w'} (h : HS w0 B e H w) (hh : w'.heap = w.heap) : HS w0 B e H w' :=
  ⟨by rw [hh]; exact h.old, by rw [hh]; exact h.szB, by rw [hh]; exact h.dom, by rw [hh]; exact h.live, h.inj, by rw [hh]; exact h.frz, h.frl⟩
theorem Stp.same {w0 B e H w w'} (h : HS w0 B e H w) (hh : w'.heap = w.heap) (ho : w'.os = w.os) (ht : w'.tape = w.tape) (hp : w'.output = w.output) (hdr : w.drawn ≤ w'.drawn := by first | exact Nat.le_refl _ | exact Nat.le_succ _) : Stp w0 B e H w e H w' :=
  ⟨h.same hh, fun _ _ => rfl, Nat.le_refl _, fun _ b _ hb => ⟨b, hb⟩, fun id eb hi he => absurd (h.dom id eb he).1 (by omega), fun _ _ _ => by rw [hh], by rw [hh]; exact Nat.le_refl _, ho, ht, hp, fun _ _ h => h, fun _ _ h => .inl h, fun _ => hdr⟩

/-- A new name. -/
def Emb.put (e : Emb) (id : Nat) (eb : EB) : Emb := ⟨fun i => if i = id then some eb else e i, e.frz⟩

theorem HS.put_up {w0 B e H w} (h : HS w0 B e H w) (eb : EB) : ∀ id x, e id = some x → (Emb.put e H.length eb) id = some x := fun id x hx => by
  have := h.ge hx
  simp only [Emb.put]
  rw [if_neg (by omega)]
  exact hx

/-- A new block. -/
theorem Stp.alloc {w0 B e H w} (h : HS w0 B e H w) (k : Blk) (eb : EB) (o : Obj) (hb : eb.b = w.heap.size) (hk : BlkOk w0 B (Emb.put e H.length eb) k eb o) {w' : World} (hw : w'.heap = w.heap.push o)
    (ho : w'.os = w.os) (ht : w'.tape = w.tape) (hp : w'.output = w.output) (hdr : w.drawn ≤ w'.drawn := by first | exact Nat.le_refl _ | exact Nat.le_succ _) :
    Stp w0 B e H w (Emb.put e H.length eb) (H ++ [some k]) w' := by
  have hsz := h.szB
  have hget : ∀ b, b < w.heap.size → w'.heap[b]? = w.heap[b]? := fun b hb => by rw [hw, Array.getElem?_push]; rw [if_neg (by omega)]
  have hsize : w'.heap.size = w.heap.size + 1 := by rw [hw, Array.size_push]
  refine ⟨⟨fun b hb' => ?_, by omega, fun id x hx => ?_, fun id k' hk' => ?_, fun i j bi bj ei ej hi hj h1 h2 h3 => ?_, fun b o hb => by rw [hget b (h.frzlt hb)]; exact h.frz b o hb, fun id k' x hk' hx => ?_⟩, fun id hi => ?_, by simp, fun id b hi hb' => ?_, fun id x hi hx => ?_, fun b hb' _ => hget b hb', by omega, ho, ht, hp, fun _ _ h => h, fun _ _ h => .inl h, fun _ => hdr⟩
  · rw [hget b (by omega)]; exact h.old b hb'
  · simp only [Emb.put] at hx
    split at hx
    · cases hx; simp; omega
    · have := h.dom id x hx; simp; omega
  · rcases Nat.lt_or_ge id H.length with hl | hg
    · rw [List.getElem?_append_left hl] at hk'
      obtain ⟨x, o', hx, ho', hok⟩ := h.live id k' hk'
      exact ⟨x, o', h.put_up eb _ _ hx, by rw [hget _ (h.dom id x hx).2.2]; exact ho', hok.mono (h.put_up eb)⟩
    · rw [List.getElem?_append_right hg] at hk'
      have h0 : id - H.length = 0 := by
        rcases Nat.eq_zero_or_pos (id - H.length) with h0 | h0
        · exact h0
        · rw [List.getElem?_eq_none (by simp; omega)] at hk'; cases hk'
      rw [h0] at hk'
      have hid : id = H.length := by omega
      subst hid
      simp at hk'
      subst hk'
      exact ⟨eb, o, by simp [Emb.put], by rw [hw, hb]; simp, hk⟩
  · have low : ∀ i bi ei, (H ++ [some k])[i]? = some (some bi) → (Emb.put e H.length eb) i = some ei → (i < H.length ∧ H[i]? = some (some bi) ∧ e i = some ei ∧ ei.b < w.heap.size) ∨ (i = H.length ∧ ei.b = w.heap.size) := by
      intro i bi ei hi he
      simp only [Emb.put] at he
      split at he
      · right; cases he; exact ⟨by assumption, hb⟩
      · left
        have hd := h.dom i ei he
        rw [List.getElem?_append_left hd.1] at hi
        exact ⟨hd.1, hi, he, hd.2.2⟩
    rcases low i bi ei hi h1 with ⟨a1, a2, a3, a4⟩ | ⟨a1, a2⟩ <;> rcases low j bj ej hj h2 with ⟨b1, b2, b3, b4⟩ | ⟨b1, b2⟩
    · exact h.inj i j bi bj ei ej a2 b2 a3 b3 h3
    · omega
    · omega
    · omega
  · show e.frz x.b = none
    simp only [Emb.put] at hx
    split at hx
    · cases hx
      cases hz : e.frz eb.b with
      | none => rfl
      | some o => have := h.frzlt hz; omega
    · have hlt := h.ge hx
      rw [List.getElem?_append_left hlt] at hk'
      exact h.frl id k' x hk' hx
  · simp only [Emb.put]; rw [if_neg (by omega)]
  · rw [List.getElem?_append_left hi] at hb'; exact ⟨b, hb'⟩
  · simp only [Emb.put] at hx
    split at hx
    · cases hx; left; omega
    · have := h.dom id x hx; omega

/-- A block written in place. -/
theorem Stp.write {w0 B e H w} (h : HS w0 B e H w) {id : Nat} {k0 : Blk} (hid : H[id]? = some (some k0)) {eb : EB} (he : e id = some eb) (k : Blk) (o : Obj) (hk : BlkOk w0 B e k eb o)
    {w' : World} (hw : w'.heap = w.heap.setIfInBounds eb.b o) (ho : w'.os = w.os) (ht : w'.tape = w.tape) (hp : w'.output = w.output) (hdr : w.drawn ≤ w'.drawn := by first | exact Nat.le_refl _ | exact Nat.le_succ _) :
    Stp w0 B e H w e (H.set id (some k)) w' := by
  have hd := h.dom id eb he
  have hget : ∀ b, b ≠ eb.b → w'.heap[b]? = w.heap[b]? := fun b hb => by rw [hw, Array.getElem?_setIfInBounds_ne (Ne.symm hb)]
  have hsize : w'.heap.size = w.heap.size := by rw [hw, Array.size_setIfInBounds]
  have hlive : ∀ i bi, (H.set id (some k))[i]? = some (some bi) → ∃ bi', H[i]? = some (some bi') := fun i bi hi => by
    rw [List.getElem?_set] at hi
    split at hi
    · rename_i hii; subst hii; exact ⟨k0, hid⟩
    · exact ⟨bi, hi⟩
  refine ⟨⟨fun b hb => ?_, by rw [hsize]; exact h.szB, fun i x hx => by rw [hsize, List.length_set]; exact h.dom i x hx, fun i k' hk' => ?_, fun i j bi bj ei ej hi hj h1 h2 h3 => ?_, fun b o hb => by rw [hget b fun hbe => by have := h.frl id k0 eb hid he; rw [← hbe, hb] at this; cases this]; exact h.frz b o hb, fun i k' x hk' hx => by obtain ⟨b', hb'⟩ := hlive i k' hk'; exact h.frl i b' x hb' hx⟩, fun _ _ => rfl, by simp, fun i b hi hb => hlive i b hb, fun i x hi hx => absurd (h.ge hx) (by omega), fun b hb hn => hget b fun hbe => ?_, by omega, ho, ht, hp, fun _ _ h => h, fun _ _ h => .inl h, fun _ => hdr⟩
  · rw [hget b (by omega)]; exact h.old b hb
  · rw [List.getElem?_set] at hk'
    split at hk'
    · rename_i hii
      subst hii
      split at hk'
      · cases hk'
        refine ⟨eb, o, he, ?_, hk⟩
        rw [hw, Array.getElem?_setIfInBounds_self, if_pos hd.2.2]
      · cases hk'
    · rename_i hne
      obtain ⟨x, o', hx, ho', hok⟩ := h.live i k' hk'
      refine ⟨x, o', hx, ?_, hok⟩
      rw [hget x.b fun hb => hne (h.inj id i k0 k' eb x hid hk' he hx hb.symm)]
      exact ho'
  · obtain ⟨bi', hi'⟩ := hlive i bi hi
    obtain ⟨bj', hj'⟩ := hlive j bj hj
    exact h.inj i j bi' bj' ei ej hi' hj' h1 h2 h3
  · exact hn id k0 eb hid he hbe.symm

/-- A block forgotten. -/
theorem Stp.kill {w0 B e H w} (h : HS w0 B e H w) (id : Nat) : Stp w0 B e H w e (H.set id none) w := by
  have hlive : ∀ i bi, (H.set id none)[i]? = some (some bi) → H[i]? = some (some bi) := fun i bi hi => by
    rw [List.getElem?_set] at hi
    split at hi
    · split at hi <;> cases hi
    · exact hi
  refine ⟨⟨h.old, h.szB, fun i x hx => by rw [List.length_set]; exact h.dom i x hx, fun i k' hk' => h.live i k' (hlive i k' hk'), fun i j bi bj ei ej hi hj h1 h2 h3 => h.inj i j bi bj ei ej (hlive _ _ hi) (hlive _ _ hj) h1 h2 h3, h.frz, fun i k' x hk' hx => h.frl i k' x (hlive i k' hk') hx⟩, fun _ _ => rfl, by simp, fun i b _ hb => ⟨b, hlive i b hb⟩, fun i x hi hx => absurd (h.ge hx) (by omega), fun _ _ _ => rfl, Nat.le_refl _, rfl, rfl, rfl, fun _ _ h => h, fun _ _ h => .inl h, fun _ => Nat.le_refl _⟩
end Go.Ev
