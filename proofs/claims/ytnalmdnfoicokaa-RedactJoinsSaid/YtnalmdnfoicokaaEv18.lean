/-
  CODE AND FUNCTIONS (own work).
-/
import Derived.Test.YtnalmdnfoicokaaEv17
import Derived.LoopN
import Derived.Scope
set_option linter.unusedSimpArgs false
set_option linter.unusedVariables false
namespace Go.Ev
open Go

section
variable {P : Program} {w0 : World} {B : Nat} {e : Emb} {H : Heap} {w : World} {Γ : Env} {call : CallF}

def keepE (m : Nat) (L : List Nat) (e : Emb) : Emb := ⟨fun id => if id < m then e id else (L[id - m]?).bind e.loc, e.frz⟩
theorem keepE_at (m : Nat) (L : List Nat) (e : Emb) (id : Nat) : keepE m L e id = if id < m then e id else (L[id - m]?).bind e.loc := rfl

/-- What a list of places has: numbers at or above m, and no block twice. -/
def PlaceOk (m : Nat) (H : Heap) (L : List Nat) : Prop := (∀ id ∈ L, m ≤ id) ∧ ∀ (i j id : Nat) (b : Blk), L[i]? = some id → L[j]? = some id → H[id]? = some (some b) → i = j

theorem PlaceOk.pad {m : Nat} {H : Heap} {L : List Nat} (hm : m ≤ H.length) (h : PlaceOk m H L) : PlaceOk m H (L ++ [H.length]) := by
  have key : ∀ (i id : Nat) (b : Blk), (L ++ [H.length])[i]? = some id → H[id]? = some (some b) → L[i]? = some id := by
    intro i id b hi hb
    rcases Nat.lt_or_ge i L.length with hl | hg
    · rwa [List.getElem?_append_left hl] at hi
    · rw [List.getElem?_append_right hg] at hi
      have h0 : i - L.length = 0 := by
        rcases Nat.eq_zero_or_pos (i - L.length) with h0 | h0
        · exact h0
        · rw [List.getElem?_eq_none (by simp; omega)] at hi; cases hi
      rw [h0] at hi
      simp at hi
      subst hi
      simp at hb
  refine ⟨fun id hid => ?_, fun i j id b hi hj hb => h.2 i j id b (key i id b hi hb) (key j id b hj hb) hb⟩
  rcases List.mem_append.1 hid with hx | hx
  · exact h.1 id hx
  · simp at hx; omega

theorem PlaceOk.add {m : Nat} {H : Heap} {L : List Nat} {x : Nat} (hx : m ≤ x) (hn : ¬ L.contains x) (h : PlaceOk m H L) : PlaceOk m H (L ++ [x]) := by
  have hn' : x ∉ L := by simpa using hn
  have key : ∀ (i id : Nat), (L ++ [x])[i]? = some id → (i < L.length ∧ L[i]? = some id ∧ id ≠ x) ∨ (i = L.length ∧ id = x) := by
    intro i id hi
    rcases Nat.lt_or_ge i L.length with hl | hg
    · rw [List.getElem?_append_left hl] at hi
      exact .inl ⟨hl, hi, fun hxx => hn' (hxx ▸ List.mem_of_getElem? hi)⟩
    · rw [List.getElem?_append_right hg] at hi
      have h0 : i - L.length = 0 := by
        rcases Nat.eq_zero_or_pos (i - L.length) with h0 | h0
        · exact h0
        · rw [List.getElem?_eq_none (by simp; omega)] at hi; cases hi
      rw [h0] at hi
      simp at hi
      exact .inr ⟨by omega, hi.symm⟩
  refine ⟨fun id hid => ?_, fun i j id b hi hj hb => ?_⟩
  · rcases List.mem_append.1 hid with hy | hy
    · exact h.1 id hy
    · simp at hy; omega
  · rcases key i id hi with ⟨_, a, a'⟩ | ⟨a, a'⟩ <;> rcases key j id hj with ⟨_, c, c'⟩ | ⟨c, c'⟩
    · exact h.2 i j id b a c hb
    · exact absurd c' a'
    · exact absurd a' c'
    · omega

theorem place_spec (m : Nat) (H : Heap) (hm : m ≤ H.length) : ∀ (k : Nat) (todo : List (Option Nat)) (seen : List Nat), PlaceOk m H seen → PlaceOk m H (place m H k todo seen)
  | 0, todo, seen, h => by simp only [place]; exact h
  | k + 1, [], seen, h => by simp only [place]; exact h
  | k + 1, none :: todo, seen, h => by simp only [place]; exact place_spec m H hm k todo _ (h.pad hm)
  | k + 1, some id :: todo, seen, h => by
    simp only [place]
    split
    · exact place_spec m H hm k todo _ (h.pad hm)
    · rename_i hlt
      split
      · exact place_spec m H hm k todo _ (h.pad hm)
      · rename_i hc
        split
        · exact place_spec m H hm k _ _ (h.add (by omega) hc)
        · exact place_spec m H hm k todo _ (h.pad hm)

theorem placeOk_nil (m : Nat) (H : Heap) : PlaceOk m H [] := ⟨fun id h => by simp at h, fun i j id b h => by simp at h⟩

theorem keep_ok {e0 : Emb} {H0 : Heap} {ws : World} (h : Stp w0 B e0 H0 ws e H w) {L : List Nat} (hP : PlaceOk H0.length H L) :
    Stp w0 B e0 H0 ws (keepE H0.length L e) (keepHeap H0.length L H) w ∧ ∀ id j eb, keepOf H0.length L id = some j → e id = some eb → keepE H0.length L e j = some eb := by
  have hren : ∀ id j eb, keepOf H0.length L id = some j → e id = some eb → keepE H0.length L e j = some eb := by
    intro id j eb hj he
    unfold keepOf at hj
    rw [keepE_at]
    split at hj
    · cases hj; rw [if_pos (by assumption)]; exact he
    · obtain ⟨i, hi, rfl⟩ := Option.map_eq_some_iff.1 hj
      rw [if_neg (by omega), Nat.add_sub_cancel_left, indexIn_get hi]
      exact he
  refine ⟨?_, hren⟩
  have hmle := h.len
  have hlenK : (keepHeap H0.length L H).length = H0.length + L.length := by
    unfold keepHeap
    simp only [List.length_append, List.length_map, List.length_take]
    omega
  have hget : ∀ (id : Nat) (k : Blk), (keepHeap H0.length L H)[id]? = some (some k) → ∃ (src : Nat) (k0 : Blk), (id < H0.length ∧ src = id ∨ H0.length ≤ id ∧ H0.length ≤ src ∧ L[id - H0.length]? = some src) ∧ H[src]? = some (some k0) ∧ k = k0.ren (keepOf H0.length L) ∧ keepE H0.length L e id = e src := by
    intro id k hk
    unfold keepHeap at hk
    have hl1 : ((H.take H0.length).map (fun b => b.map (Blk.ren (keepOf H0.length L)))).length = H0.length := by
      simp only [List.length_map, List.length_take]; omega
    rcases Nat.lt_or_ge id H0.length with hl | hge
    · rw [List.getElem?_append_left (by omega), List.getElem?_map, List.getElem?_take, if_pos hl] at hk
      cases hH : H[id]? with
      | none => rw [hH] at hk; cases hk
      | some o =>
        rw [hH] at hk
        simp only [Option.map_some, Option.some.injEq] at hk
        obtain ⟨k0, rfl, hk0⟩ := renB_get hk
        exact ⟨id, k0, .inl ⟨hl, rfl⟩, hH, hk0, by rw [keepE_at]; rw [if_pos hl]⟩
    · rw [List.getElem?_append_right (by omega), hl1, List.getElem?_map] at hk
      cases hL : L[id - H0.length]? with
      | none => rw [hL] at hk; cases hk
      | some src =>
        rw [hL] at hk
        simp only [Option.map_some, Option.some.injEq] at hk
        obtain ⟨k0, h1, h2⟩ := renB_get hk
        have hm := hP.1 src (List.mem_of_getElem? hL)
        refine ⟨src, k0, .inr ⟨hge, hm, rfl⟩, ?_, h2, by rw [keepE_at]; rw [if_neg (by omega), hL]; rfl⟩
        rw [List.getD_eq_getElem?_getD] at h1
        cases hH : H[src]? with
        | none => rw [hH] at h1; cases h1
        | some o => rw [hH] at h1; simp at h1; rw [h1]
  refine ⟨⟨h.hs.old, h.hs.szB, fun id eb he => ?_, fun id k hk => ?_, fun i j bi bj ei ej hi hj h1 h2 h3 => ?_, h.hs.frz, fun id k eb hk he => ?_⟩, fun id hid => ?_, by omega, fun id b hid hb => ?_, fun id eb hid he => ?_, h.frame, h.size, h.os, h.tape, h.output, h.fup, h.fnew, h.drawn⟩
  · rw [hlenK]
    rw [keepE_at] at he
    split at he
    · have := h.hs.dom id eb he; exact ⟨by omega, this.2⟩
    · obtain ⟨src, h1, h2⟩ := Option.bind_eq_some_iff.1 he
      have := h.hs.dom src eb h2
      have := (List.getElem?_eq_some_iff.1 h1).1
      exact ⟨by omega, by omega, by omega⟩
  · obtain ⟨src, k0, _, h2, rfl, h4⟩ := hget id k hk
    obtain ⟨eb, o, he, ho, hok⟩ := h.hs.live src k0 h2
    exact ⟨eb, o, by rw [h4]; exact he, ho, hok.ren hren⟩
  · obtain ⟨a, ka, a1, a2, _, a4⟩ := hget i bi hi
    obtain ⟨b, kb, b1, b2, _, b4⟩ := hget j bj hj
    rw [a4] at h1
    rw [b4] at h2
    have := h.hs.inj a b ka kb ei ej a2 b2 h1 h2 h3
    subst this
    rcases a1 with ⟨a1, rfl⟩ | ⟨a1, a3, a5⟩ <;> rcases b1 with ⟨b1, rfl⟩ | ⟨b1, b3, b5⟩
    · rfl
    · omega
    · omega
    · have := hP.2 _ _ _ _ a5 b5 a2
      omega
  · show e.frz eb.b = none
    obtain ⟨src, k0, _, h2, _, h4⟩ := hget id k hk
    rw [h4] at he
    exact h.hs.frl src k0 eb h2 he
  · rw [keepE_at]; rw [if_pos hid]; exact h.ext id hid
  · obtain ⟨src, k0, h1, h2, _⟩ := hget id b hb
    rcases h1 with ⟨_, rfl⟩ | ⟨h1, _⟩
    · exact h.alive _ _ hid h2
    · omega
  · rw [keepE_at] at he
    rw [if_neg (by omega)] at he
    obtain ⟨src, h1, h2⟩ := Option.bind_eq_some_iff.1 he
    exact h.new src eb (hP.1 src (List.mem_of_getElem? h1)) h2

theorem topPlace_spec (m : Nat) (H : Heap) (hm : m ≤ H.length) : ∀ (k : Nat) (todo : List (Option Nat)) (seen : List Nat), PlaceOk m H seen → PlaceOk m H (topPlace m H k todo seen)
  | 0, _, seen, h => by simp only [topPlace]; exact h
  | _ + 1, [], seen, h => by simp only [topPlace]; exact h
  | k + 1, none :: todo, seen, h => by simp only [topPlace]; exact topPlace_spec m H hm k todo _ (h.pad hm)
  | k + 1, some id :: todo, seen, h => by
    simp only [topPlace]
    split
    · exact topPlace_spec m H hm k todo _ (h.pad hm)
    · rename_i hlt
      split
      · exact topPlace_spec m H hm k todo _ (h.pad hm)
      · rename_i hc
        split
        · exact topPlace_spec m H hm k _ _ (h.add (by omega) hc)
        · exact topPlace_spec m H hm k _ _ (h.add (by omega) hc)
        · exact topPlace_spec m H hm k todo _ (h.pad hm)

theorem BlkOk.mapV {e1 : Emb} {f : V → V} (hf : ∀ v x, Rep w0 B e v x → Rep w0 B e1 (f v) x) {k : Blk} {eb : EB} {o : Obj} (h : BlkOk w0 B e k eb o) : BlkOk w0 B e1 (k.mapV f) eb o := by
  cases k <;> cases o <;> simp only [BlkOk, Blk.mapV] at h ⊢
  · simp only [List.length_map]
    refine ⟨h.1, h.2.1, h.2.2.1, h.2.2.2.1, ⟨by simpa using h.2.2.2.2.1.1, fun j h1 h2 => ?_⟩, h.2.2.2.2.2⟩
    rw [List.getElem_map]
    exact hf _ _ (h.2.2.2.2.1.2 j (by simpa using h1) h2)
  · refine ⟨h.1, by simpa using h.2.1, fun j h1 h2 => ?_⟩
    have := h.2.2 j (by simpa using h1) h2
    simp only [List.getElem_map]
    exact ⟨hf _ _ this.1, hf _ _ this.2.1, this.2.2⟩
  · exact h

/-- The blocks that nobody keeps never turn again. -/
def FrozenBy (m : Nat) (L : List Nat) (e : Emb) (H : Heap) (b : Nat) : Prop := ∃ id k eb, H[id]? = some (some k) ∧ keptB m L id = false ∧ e id = some eb ∧ eb.b = b
open Classical in
noncomputable def coldE (m : Nat) (L : List Nat) (e : Emb) (H : Heap) (w : World) : Emb := ⟨(keepE m L e).loc, fun b => if FrozenBy m L e H b then w.heap[b]? else e.frz b⟩
theorem coldE_at (m : Nat) (L : List Nat) (e : Emb) (H : Heap) (w : World) (id : Nat) : coldE m L e H w id = if id < m then e id else (L[id - m]?).bind e.loc := rfl
open Classical in
theorem coldE_frz (m : Nat) (L : List Nat) (e : Emb) (H : Heap) (w : World) (b : Nat) : (coldE m L e H w).frz b = if FrozenBy m L e H b then w.heap[b]? else e.frz b := rfl

theorem cold_ok {e0 : Emb} {H0 : Heap} {ws : World} (h : Stp w0 B e0 H0 ws e H w) {L : List Nat} (hP : PlaceOk H0.length H L) :
    Stp w0 B e0 H0 ws (coldE H0.length L e H w) (coldHeap H0.length L H) w ∧ ∀ v x, Rep w0 B e v x → Rep w0 B (coldE H0.length L e H w) (coldV H0.length L H v) x := by
  have hz : ∀ b o, e.frz b = some o → (coldE H0.length L e H w).frz b = some o := fun b o hb => by
    rw [coldE_frz]
    split
    · exact h.hs.frz b o hb
    · exact hb
  have hren : ∀ id j eb, keepOf H0.length L id = some j → e id = some eb → coldE H0.length L e H w j = some eb := (keep_ok h hP).2
  have hl : ∀ id k eb, keptB H0.length L id = false → H[id]? = some (some k) → e id = some eb → ∀ o, w.heap[eb.b]? = some o → known w0 B (coldE H0.length L e H w) eb.b = some o := fun id k eb h1 h2 h3 o h4 => by
    unfold known
    rw [if_neg (by have := (h.hs.dom id eb h3).2.1; omega), coldE_frz, if_pos ⟨id, k, eb, h2, h1, h3, rfl⟩]
    exact h4
  have bareUp : ∀ {v x}, Rep w0 B (coldE H0.length L e H w).bare v x → Rep w0 B (coldE H0.length L e H w) v x := fun hr => hr.mono (fun _ _ hb => by cases hb)
  have hV : ∀ v x, Rep w0 B e v x → Rep w0 B (coldE H0.length L e H w) (coldV H0.length L H v) x := by
    intro v x hr
    unfold coldV
    refine Rep.sub (known_frz hz) (fun id off v hv => ?_) (fun id off len sz v hv => ?_) (fun id v hv => ?_) hr
    · split
      · exact Rep.ren hren hv hz
      · rename_i hk
        exact bareUp (snapK_ok h.hs (known_frz hz) hl 4 hv)
    · split
      · exact Rep.ren hren hv hz
      · exact bareUp (snapK_ok h.hs (known_frz hz) hl 4 hv)
    · split
      · exact Rep.ren hren hv hz
      · exact bareUp (snapK_ok h.hs (known_frz hz) hl 4 hv)
  refine ⟨?_, hV⟩
  have hmle := h.len
  have hlenK : (coldHeap H0.length L H).length = H0.length + L.length := by
    unfold coldHeap
    simp only [List.length_append, List.length_map, List.length_take]
    omega
  have hget : ∀ (id : Nat) (k : Blk), (coldHeap H0.length L H)[id]? = some (some k) → ∃ (src : Nat) (k0 : Blk), (id < H0.length ∧ src = id ∨ H0.length ≤ id ∧ H0.length ≤ src ∧ L[id - H0.length]? = some src) ∧ H[src]? = some (some k0) ∧ k = k0.mapV (coldV H0.length L H) ∧ coldE H0.length L e H w id = e src ∧ keptB H0.length L src = true := by
    intro id k hk
    unfold coldHeap at hk
    have hl1 : ((H.take H0.length).map (Option.map (Blk.mapV (coldV H0.length L H)))).length = H0.length := by
      simp only [List.length_map, List.length_take]; omega
    rcases Nat.lt_or_ge id H0.length with hl | hge
    · rw [List.getElem?_append_left (by omega), List.getElem?_map, List.getElem?_take, if_pos hl] at hk
      cases hH : H[id]? with
      | none => rw [hH] at hk; cases hk
      | some o =>
        rw [hH] at hk
        simp only [Option.map_some, Option.some.injEq] at hk
        obtain ⟨k0, rfl, hk0⟩ := Option.map_eq_some_iff.1 hk
        exact ⟨id, k0, .inl ⟨hl, rfl⟩, hH, hk0.symm, by rw [coldE_at, if_pos hl], by simp [keptB, hl]⟩
    · rw [List.getElem?_append_right (by omega), hl1, List.getElem?_map] at hk
      cases hL : L[id - H0.length]? with
      | none => rw [hL] at hk; cases hk
      | some src =>
        rw [hL] at hk
        simp only [Option.map_some, Option.some.injEq] at hk
        obtain ⟨k0, h1, h2⟩ := Option.map_eq_some_iff.1 hk
        have hm := hP.1 src (List.mem_of_getElem? hL)
        refine ⟨src, k0, .inr ⟨hge, hm, rfl⟩, ?_, h2.symm, by rw [coldE_at, if_neg (by omega), hL]; rfl, by simp [keptB, List.mem_of_getElem? hL]⟩
        rw [List.getD_eq_getElem?_getD] at h1
        cases hH : H[src]? with
        | none => rw [hH] at h1; cases h1
        | some o => rw [hH] at h1; simp at h1; rw [h1]
  refine ⟨⟨h.hs.old, h.hs.szB, fun id eb he => ?_, fun id k hk => ?_, fun i j bi bj ei ej hi hj h1 h2 h3 => ?_, fun b o hb => ?_, fun id k eb hk he => ?_⟩, fun id hid => ?_, by omega, fun id b hid hb => ?_, fun id eb hid he => ?_, h.frame, h.size, h.os, h.tape, h.output, fun b o hb => hz b o (h.fup b o hb), fun b o hb => ?_, h.drawn⟩
  · rw [hlenK]
    rw [coldE_at] at he
    split at he
    · have := h.hs.dom id eb he; exact ⟨by omega, this.2⟩
    · obtain ⟨src, h1, h2⟩ := Option.bind_eq_some_iff.1 he
      have := h.hs.dom src eb h2
      have := (List.getElem?_eq_some_iff.1 h1).1
      exact ⟨by omega, by omega, by omega⟩
  · obtain ⟨src, k0, _, h2, rfl, h4, _⟩ := hget id k hk
    obtain ⟨eb, o, he, ho, hok⟩ := h.hs.live src k0 h2
    exact ⟨eb, o, by rw [h4]; exact he, ho, hok.mapV hV⟩
  · obtain ⟨a, ka, a1, a2, _, a4, _⟩ := hget i bi hi
    obtain ⟨b, kb, b1, b2, _, b4, _⟩ := hget j bj hj
    rw [a4] at h1
    rw [b4] at h2
    have := h.hs.inj a b ka kb ei ej a2 b2 h1 h2 h3
    subst this
    rcases a1 with ⟨a1, rfl⟩ | ⟨a1, a3, a5⟩ <;> rcases b1 with ⟨b1, rfl⟩ | ⟨b1, b3, b5⟩
    · rfl
    · omega
    · omega
    · have := hP.2 _ _ _ _ a5 b5 a2
      omega
  · rw [coldE_frz] at hb
    split at hb
    · exact hb
    · exact h.hs.frz b o hb
  · obtain ⟨src, k0, _, h2, _, h4, h5⟩ := hget id k hk
    rw [h4] at he
    rw [coldE_frz, if_neg]
    · exact h.hs.frl src k0 eb h2 he
    · rintro ⟨id', k', eb', g1, g2, g3, g4⟩
      have := h.hs.inj id' src k' k0 eb' eb g1 h2 g3 he g4
      subst this
      rw [h5] at g2; cases g2
  · rw [coldE_at, if_pos hid]; exact h.ext id hid
  · obtain ⟨src, k0, h1, h2, _⟩ := hget id b hb
    rcases h1 with ⟨_, rfl⟩ | ⟨h1, _⟩
    · exact h.alive _ _ hid h2
    · omega
  · rw [coldE_at] at he
    rw [if_neg (by omega)] at he
    obtain ⟨src, h1, h2⟩ := Option.bind_eq_some_iff.1 he
    exact h.new src eb (hP.1 src (List.mem_of_getElem? h1)) h2
  · rw [coldE_frz] at hb
    split at hb
    · rename_i hF
      obtain ⟨id, k, eb, g1, g2, g3, g4⟩ := hF
      simp only [keptB, Bool.or_eq_false_iff, decide_eq_false_iff_not] at g2
      rcases h.new id eb (by omega) g3 with g | ⟨i, bi, ei, i1, i2, i3⟩
      · right; left; omega
      · right; right; exact ⟨i, bi, ei, i1, i2, by omega⟩
    · exact h.fnew b o hb

/-- Where an activation stands. -/
def Inv (w0 : World) (B : Nat) (e0 : Emb) (H0 : Heap) (ws : World) (s : List V) (H : Heap) (a : Act) (w : World) : Prop :=
  ∃ e, Stp w0 B e0 H0 ws e H w ∧ RepL w0 B e s a.tmps.toList ∧ a.defers = []

theorem keepLive_ok {l : List Nat} {s : List V} {t : List Value} (h : RepL w0 B e s t) : RepL w0 B e (keepLive l s) t := by
  refine ⟨by simp [keepLive, h.1], fun j h1 h2 => ?_⟩
  simp only [keepLive, List.getElem_mapIdx]
  split
  · exact h.2 j (by simpa [keepLive] using h1) h2
  · exact .junk _ _

theorem tidy_ok {e0 : Emb} {H0 : Heap} {ws : World} {s : List V} {a : Act} (h : Inv w0 B e0 H0 ws s H a w) (f id : Nat) :
    Inv w0 B e0 H0 ws (tidy Γ f H0.length id s H).1 (tidy Γ f H0.length id s H).2 a w := by
  unfold tidy
  split
  · exact h
  · rename_i l hl
    obtain ⟨e, hst, hr, hd⟩ := h
    dsimp only
    split
    · obtain ⟨h1, h2⟩ := cold_ok hst (topPlace_spec H0.length H hst.len fuelR (leavesL (keepLive l s)) [] (placeOk_nil _ _))
      refine ⟨_, h1, ?_, hd⟩
      have hk := keepLive_ok (l := l) hr
      exact ⟨by simpa using hk.1, fun j h3 h4 => by rw [List.getElem_map]; exact h2 _ _ (hk.2 j (by simpa using h3) h4)⟩
    obtain ⟨h1, h2⟩ := keep_ok hst (place_spec H0.length H hst.len fuelR (rootLeaves H0.length H ++ leavesL (keepLive l s)) [] (placeOk_nil _ _))
    exact ⟨_, h1, by dsimp only; rw [renL_eq]; exact (keepLive_ok hr).ren h2, hd⟩

def ExOk : Ex → Exit → Prop
  | .normal, e => e = .normal
  | .exit id, e => e = .exit id
  | .ret, e => e = .ret

def Post (w0 : World) (B : Nat) (e0 : Emb) (H0 : Heap) (ws : World) (r : Ex × List V × Heap) : Exit → Act → World → Prop :=
  fun x a w => ExOk r.1 x ∧ Inv w0 B e0 H0 ws r.2.1 r.2.2 a w

theorem code_ok (hr : RegOk P Γ call) (hg : GlobOk Γ w0 B) {e0 : Emb} {H0 : Heap} {ws : World} {n f : Nat} : ∀ (c : Code) (s : List V) (H : Heap) (r : Ex × List V × Heap), evCode P Γ call n f H0.length c s H = some r →
    ∀ (a : Act) (w : World), Inv w0 B e0 H0 ws s H a w → c.wp P (Post w0 B e0 H0 ws r) a w := by
  intro c
  induction c with
  | skip => intro s H r h a w hi; simp only [evCode, Option.some.injEq] at h; subst h; exact wp_skip ⟨rfl, hi⟩
  | region id ops draw =>
    intro s H r h a w hi
    simp only [evCode] at h
    split at h
    · rename_i s' H' hreg
      cases h
      obtain ⟨e, hst, hrep, hd⟩ := hi
      refine hr ops draw s H _ hreg w0 B e w a id _ hg hst.hs hrep fun a' w' e' hst' hrep' hd' => ⟨rfl, e', hst.trans hst', hrep', by rw [hd', hd]⟩
    · cases h
  | seq x y ihx ihy =>
    intro s H r h a w hi
    simp only [evCode] at h
    refine wp_seq ?_
    split at h
    · rename_i s' H' hx
      refine wp_mono (ihx s H _ hx a w hi) fun ex a' w' hp => ?_
      obtain ⟨h1, h2⟩ := hp
      cases h1
      exact ihy _ _ _ h _ _ h2
    · rename_i hne
      cases hx : evCode P Γ call n f H0.length x s H with
      | none => rw [hx] at h; cases h
      | some q =>
        obtain ⟨ex, s', H'⟩ := q
        rw [hx] at h
        cases h
        refine wp_mono (ihx s H _ hx a w hi) fun ex' a' w' hp => ?_
        obtain ⟨h1, h2⟩ := hp
        cases ex with
        | normal => exact absurd hx (hne _ _)
        | exit id => cases h1; exact ⟨rfl, h2⟩
        | ret => cases h1; exact ⟨rfl, h2⟩
  | cond c x y ihx ihy =>
    intro s H r h a w hi
    simp only [evCode] at h
    obtain ⟨e, hst, hrep, hd⟩ := hi
    have hc := evOperand_ok hg hrep c
    split at h
    · rename_i t ht
      rw [ht] at hc
      generalize hv : a.eval c = v at hc
      cases hc
      refine wp_cond hv ?_
      cases t
      · exact ihy s H r h a w ⟨e, hst, hrep, hd⟩
      · exact ihx s H r h a w ⟨e, hst, hrep, hd⟩
    · cases h
  | block id c ih =>
    intro s H r h a w hi
    simp only [evCode] at h
    refine wp_block ?_
    split at h
    · rename_i j s' H' hx
      refine wp_mono (ih s H _ hx a w hi) fun ex a' w' hp => ?_
      obtain ⟨h1, h2⟩ := hp
      cases h1
      simp only [Exit.inBlock]
      split at h
      · rename_i hj
        cases h
        rw [if_pos hj]
        exact ⟨rfl, h2⟩
      · rename_i hj
        cases h
        rw [if_neg hj]
        exact ⟨rfl, h2⟩
    · rename_i hne
      refine wp_mono (ih s H _ h a w hi) fun ex a' w' hp => ?_
      obtain ⟨h1, h2⟩ := hp
      obtain ⟨ex', s', H'⟩ := r
      cases ex' with
      | normal => cases h1; exact ⟨rfl, h2⟩
      | exit id => exact absurd h (hne _ _ _)
      | ret => cases h1; exact ⟨rfl, h2⟩
  | loop c ih =>
    intro s H r h a w hi
    simp only [evCode] at h
    refine wp_loop_rounds n ?_
    suffices hk : ∀ (k : Nat) (s : List V) (H : Heap), evLoop (fun s H => evCode P Γ call n f H0.length c (tidy Γ f H0.length (firstRegion c) s H).1 (tidy Γ f H0.length (firstRegion c) s H).2) k s H = some r →
        ∀ (a : Act) (w : World), Inv w0 B e0 H0 ws s H a w → Code.rounds P c (Post w0 B e0 H0 ws r) k a w from hk n s H h a w hi
    intro k
    induction k with
    | zero => intro s H h; simp [evLoop] at h
    | succ k ihk =>
      intro s H h a w hi
      simp only [evLoop] at h
      rw [rounds_succ]
      have hi' := tidy_ok (Γ := Γ) hi f (firstRegion c)
      split at h
      · rename_i s' H' hx
        refine wp_mono (ih _ _ _ hx a w hi') fun ex a' w' hp => ?_
        obtain ⟨h1, h2⟩ := hp
        cases h1
        exact ihk _ _ h _ _ h2
      · rename_i hne
        refine wp_mono (ih _ _ _ h a w hi') fun ex a' w' hp => ?_
        obtain ⟨h1, h2⟩ := hp
        obtain ⟨ex', s', H'⟩ := r
        cases ex' with
        | normal => exact absurd h (hne _ _)
        | exit id => cases h1; exact ⟨rfl, h2⟩
        | ret => cases h1; exact ⟨rfl, h2⟩
  | rangeFunc => intro s H r h; simp [evCode] at h
  | exit id => intro s H r h a w hi; simp only [evCode, Option.some.injEq] at h; subst h; exact wp_exit ⟨rfl, hi⟩
  | scope c ih =>
    intro s H r h a w hi
    simp only [evCode] at h
    refine wp_scope_straight (wp_mono (ih s H r h a w hi) fun ex a' w' hp => ?_)
    cases ex with
    | goto l => obtain ⟨ex', s', H'⟩ := r; cases ex' <;> cases hp.1
    | _ => exact hp
  | label l => intro s H r h a w hi; simp only [evCode, Option.some.injEq] at h; subst h; exact wp_label ⟨rfl, hi⟩
  | goto l => intro s H r h; simp [evCode] at h
  | refuse => intro s H r h; simp [evCode] at h
  | ret => intro s H r h a w hi; simp only [evCode, Option.some.injEq] at h; subst h; exact wp_ret ⟨rfl, hi⟩

theorem results_ok (hs : HS w0 B e H w) {s : List V} {t : Array Value} (hrep : RepL w0 B e s t.toList) : ∀ (rs : List ResultVar) (l : List V), resultsO P s H rs = some l →
    ∃ vs, (rs.mapM fun
      | .tmp t' => Pure.pure (t.getD t' undef)
      | .cell a ty => do loadVar ty (← asAddr (t.getD a undef)) : Sem (List Value)).run P w = .ok vs w ∧ RepL w0 B e l vs
  | [], l, h => by
    simp only [resultsO, Option.some.injEq] at h
    subst h
    exact ⟨[], by simp, RepL.nil _ _ _⟩
  | r :: rs, l, h => by
    simp only [resultsO] at h
    split at h
    · rename_i v l' h1 h2
      cases h
      obtain ⟨vs, hv, hvr⟩ := results_ok hs hrep rs l' h2
      have : ∃ v', ((match r with
        | .tmp t' => Pure.pure (t.getD t' undef)
        | .cell a ty => do loadVar ty (← asAddr (t.getD a undef))) : Sem Value).run P w = .ok v' w ∧ Rep w0 B e v v' := by
        cases r with
        | tmp t' =>
          simp only [resultO, Option.some.injEq] at h1
          subst h1
          exact ⟨_, by simp, getS_ok hrep t'⟩
        | cell a ty =>
          simp only [resultO] at h1
          unfold loadV at h1
          have ha := getS_ok hrep a
          cases hc : cellsAt H (getS s a) with
          | none => rw [hc] at h1; simp at h1
          | some cs =>
            rw [hc] at h1
            obtain ⟨b, o, vs, hva, hcs, hcell⟩ := cellsAt_ok hs ha hc
            obtain ⟨u, hu, hr⟩ := rload (P := P) (t := ty) hcs hcell h1
            refine ⟨u, ?_, hr⟩
            have hva' : t.getD a undef = .pointer (some ⟨b, o, none⟩) := hva
            simp [hva', asAddr, hu]
      obtain ⟨v', h3, h4⟩ := this
      refine ⟨v' :: vs, ?_, RepL.cons h4 hvr⟩
      rw [List.mapM_cons, Sem.run_bind, h3, Result.andThen_ok, Sem.run_bind, hv, Result.andThen_ok]
      simp
    · cases h

theorem body_ok (hc : CallOk P Γ call) (hr : RegOk P Γ call) {n f : Nat} {fn : Func} (hf : P.funcs[f]? = some fn) (hnm : fn.name ≠ "runtime.NumGoroutine") {args : List V} {H : Heap} {r : V × Heap} (h : evBody P Γ call n f fn args H = some r)
    {w0 : World} {B : Nat} {e : Emb} {w : World} {vs : List Value} (hg : GlobOk Γ w0 B) (hs : HS w0 B e H w) (ha : RepL w0 B e args vs) : CallAt P f vs w0 B e H w r := by
  unfold evBody at h
  split at h
  · cases h
  · rename_i c hb
    refine ⟨⟨fn, hf, by rw [hb]; rfl, hnm⟩, calls_of_wp hf hb ?_⟩
    have hinit : Inv w0 B e H w (args ++ List.replicate (fn.ntmps - args.length) V.undef) H { tmps := (⟨vs⟩ : Array Value) ++ Array.replicate (fn.ntmps - (⟨vs⟩ : Array Value).size) undef, defers := [] } w := by
      refine ⟨e, Stp.refl hs, ?_, rfl⟩
      simp only [Array.toList_append, Array.toList_replicate, List.size_toArray]
      rw [← ha.1]
      exact ha.append (RepL.replicate undef_ok _)
    split at h
    · cases h
    · rename_i ex s G hnex hcode
      split at h
      · rename_i l hl
        cases h
        refine wp_mono (code_ok hr hg c _ _ _ hcode _ _ hinit) fun x a' w' hp => ?_
        obtain ⟨h1, e', hst, hrep, hd⟩ := hp
        have hfin : a'.defers = [] ∧ ∃ v, (results fn a'.tmps).run P w' = .ok v w' ∧ ∃ v2 e2, Ending.returned v = .returned v2 ∧ Stp w0 B e H w e2 (finish H.length G (packV l)).2 w' ∧ Rep w0 B e2 (finish H.length G (packV l)).1 v2 := by
          refine ⟨hd, ?_⟩
          obtain ⟨us, hus, hur⟩ := results_ok hst.hs hrep fn.results.toList l hl
          obtain ⟨k1, k2⟩ := keep_ok hst (place_spec H.length G hst.len fuelR (rootLeaves H.length G ++ (packV l).leaves) [] (placeOk_nil _ _))
          have hpack : Rep w0 B e' (packV l) (if h : us.toArray.size = 1 then us.toArray[0] else .tuple us.toArray) := by
            unfold packV
            split
            · rename_i v
              obtain ⟨hlen, hel⟩ := hur
              have : us.toArray.size = 1 := by simpa using hlen.symm
              rw [dif_pos this]
              have hl0 : 0 < us.length := by rw [← hlen]; simp
              have h0 := hel 0 (by simp) hl0
              exact h0
            · rename_i hne
              have : us.toArray.size ≠ 1 := by
                intro hx
                have hx' : l.length = 1 := by rw [hur.1]; simpa using hx
                obtain ⟨v, rfl⟩ := List.length_eq_one_iff.1 hx'
                exact hne v rfl
              rw [dif_neg this]
              exact .tup _ _ _ hur.1 hur.2
          refine ⟨_, ?_, _, _, rfl, k1, hpack.ren k2⟩
          unfold results
          rw [Array.mapM_eq_mapM_toList]
          rw [Sem.run_bind, Sem.run_map]
          exact congrArg (fun z : Result (List Value) => (z.andThen fun a w' => Result.ok a.toArray w').andThen fun a w' => Sem.run P (Pure.pure (if h : a.size = 1 then a[0] else Value.tuple a)) w') hus
        cases ex with
        | normal => cases h1; exact hfin
        | ret => cases h1; exact hfin
        | exit id => exact absurd rfl (hnex _)
      · cases h
    · cases h

theorem evF_ok (ho : CallOk P Γ Γ.orc) (hr : ∀ call, CallOk P Γ call → RegOk P Γ call) : ∀ k, CallOk P Γ (evF P Γ k)
  | 0 => fun f args H r h => by simp [evF] at h
  | k + 1 => fun f args H r h w0 B e w vs hg hs ha => by
    simp only [evF] at h
    split at h
    · rename_i r' hr'
      cases h
      exact ho f args H r hr' w0 B e w vs hg hs ha
    · split at h
      · rename_i fn hf
        split at h
        · cases h
        · rename_i hn
          exact body_ok (evF_ok ho hr k) (hr _ (evF_ok ho hr k)) hf hn h hg hs ha
      · cases h
end
end Go.Ev
