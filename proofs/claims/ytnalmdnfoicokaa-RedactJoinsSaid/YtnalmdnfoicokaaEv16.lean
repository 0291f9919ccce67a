/-
  CALLS, third part: a call that is handed what it can reach (own work).
-/
import Derived.Test.YtnalmdnfoicokaaEv15
set_option linter.unusedSimpArgs false
set_option linter.unusedVariables false
namespace Go.Ev
open Go

section
variable {P : Program} {w0 : World} {B : Nat} {e : Emb} {H : Heap} {w : World} {Γ : Env}

theorem reach_spec (m : Nat) (H : Heap) : ∀ (k : Nat) (todo seen : List Nat), seen.Nodup → (∀ id ∈ seen, m ≤ id ∧ ∃ b, H[id]? = some (some b)) →
    (reach m H k todo seen).Nodup ∧ ∀ id ∈ reach m H k todo seen, m ≤ id ∧ ∃ b, H[id]? = some (some b)
  | 0, todo, seen, hn, hl => by simp only [reach]; exact ⟨hn, hl⟩
  | k + 1, [], seen, hn, hl => by simp only [reach]; exact ⟨hn, hl⟩
  | k + 1, id :: todo, seen, hn, hl => by
    simp only [reach]
    split
    · exact reach_spec m H k todo seen hn hl
    · rename_i hm
      split
      · exact reach_spec m H k todo seen hn hl
      · rename_i hc
        split
        · rename_i b hb
          refine reach_spec m H k _ _ ?_ ?_
          · rw [List.nodup_append]
            refine ⟨hn, by simp, fun a ha b' hb' => ?_⟩
            simp only [List.mem_singleton] at hb'
            subst hb'
            intro hab
            subst hab
            exact hc (by simpa using ha)
          · intro x hx
            rcases List.mem_append.1 hx with hx | hx
            · exact hl x hx
            · simp only [List.mem_singleton] at hx
              subst hx
              exact ⟨by omega, b, hb⟩
        · exact reach_spec m H k todo seen hn hl

theorem nodup_inj {L : List Nat} (hn : L.Nodup) {i j x : Nat} (hi : L[i]? = some x) (hj : L[j]? = some x) : i = j := by
  obtain ⟨hi1, hi2⟩ := List.getElem?_eq_some_iff.1 hi
  obtain ⟨hj1, hj2⟩ := List.getElem?_eq_some_iff.1 hj
  rcases Nat.lt_trichotomy i j with h | h | h
  · exact absurd (hi2.trans hj2.symm) (List.pairwise_iff_getElem.1 hn i j hi1 hj1 h)
  · exact h
  · exact absurd (hj2.trans hi2.symm) (List.pairwise_iff_getElem.1 hn j i hj1 hi1 h)

theorem indexIn_get : ∀ {L : List Nat} {id j : Nat}, indexIn id L = some j → L[j]? = some id
  | [], id, j, h => by simp [indexIn] at h
  | x :: L, id, j, h => by
    simp only [indexIn] at h
    split at h
    · rename_i hx; cases h; subst hx; simp
    · obtain ⟨i, hi, rfl⟩ := Option.map_eq_some_iff.1 h
      rw [List.getElem?_cons_succ]
      exact indexIn_get hi

theorem setMany_length : ∀ (L : List Nat) (H G : Heap), (setMany H L G).length = H.length
  | [], H, G => by cases G <;> rfl
  | id :: L, H, [] => by rfl
  | id :: L, H, b :: G => by simp [setMany, setMany_length L]
theorem setMany_out : ∀ (L : List Nat) (H G : Heap) (id : Nat), id ∉ L → (setMany H L G)[id]? = H[id]?
  | [], H, G, id, h => by cases G <;> rfl
  | x :: L, H, [], id, h => by rfl
  | x :: L, H, b :: G, id, h => by
    simp only [List.mem_cons, not_or] at h
    rw [setMany, setMany_out L _ G id h.2, List.getElem?_set_ne (by omega)]
theorem setMany_in : ∀ (L : List Nat) (H G : Heap) (j id : Nat), L.Nodup → L[j]? = some id → j < G.length → id < H.length → (setMany H L G)[id]? = G[j]?
  | [], H, G, j, id, hn, h, hj, hid => by simp at h
  | x :: L, H, [], j, id, hn, h, hj, hid => by simp at hj
  | x :: L, H, b :: G, j, id, hn, h, hj, hid => by
    rw [List.nodup_cons] at hn
    rw [setMany]
    cases j with
    | zero =>
      simp only [List.getElem?_cons_zero, Option.some.injEq] at h
      subst h
      rw [setMany_out L _ G x hn.1]
      simp [hid]
    | succ j =>
      rw [List.getElem?_cons_succ] at h
      rw [setMany_in L (H.set x b) G j id hn.2 h (by simpa using hj) (by simpa using hid), List.getElem?_cons_succ]

theorem renB_get {ρ : Nat → Option Nat} {o : Option Blk} {k : Blk} (h : o.map (Blk.ren ρ) = some k) : ∃ k0, o = some k0 ∧ k = k0.ren ρ := by
  obtain ⟨k0, h1, h2⟩ := Option.map_eq_some_iff.1 h
  exact ⟨k0, h1, h2.symm⟩

def subE (L : List Nat) (e : Emb) : Emb := ⟨fun j => (L[j]?).bind e.loc, e.frz⟩
def backE (n : Nat) (L : List Nat) (e e1 : Emb) : Emb := ⟨fun id => if id < n then e id else e1 (L.length + (id - n)), e1.frz⟩
theorem subE_at (L : List Nat) (e : Emb) (j : Nat) : subE L e j = (L[j]?).bind e.loc := rfl
theorem backE_at (n : Nat) (L : List Nat) (e e1 : Emb) (id : Nat) : backE n L e e1 id = if id < n then e id else e1 (L.length + (id - n)) := rfl

theorem sub_hs (hs : HS w0 B e H w) {L : List Nat} (hn : L.Nodup) : HS w0 B (subE L e) (L.map fun id => (H.getD id none).map (Blk.ren fun id => indexIn id L)) w := by
  have hget : ∀ (j : Nat) (k : Blk), (L.map fun id => (H.getD id none).map (Blk.ren fun id => indexIn id L))[j]? = some (some k) → ∃ (id : Nat) (k0 : Blk), L[j]? = some id ∧ H[id]? = some (some k0) ∧ k = k0.ren (fun id => indexIn id L) := by
    intro j k hk
    rw [List.getElem?_map] at hk
    cases hL : L[j]? with
    | none => rw [hL] at hk; cases hk
    | some id =>
      rw [hL] at hk
      simp only [Option.map_some, Option.some.injEq] at hk
      obtain ⟨k0, h1, h2⟩ := renB_get hk
      refine ⟨id, k0, rfl, ?_, h2⟩
      rw [List.getD_eq_getElem?_getD] at h1
      cases hH : H[id]? with
      | none => rw [hH] at h1; cases h1
      | some o => rw [hH] at h1; simp at h1; rw [h1]
  have hjs : ∀ j eb, subE L e j = some eb → ∃ id, L[j]? = some id ∧ e id = some eb := fun j eb h => by
    rw [subE_at] at h
    exact Option.bind_eq_some_iff.1 h
  refine ⟨hs.old, hs.szB, fun j eb h => ?_, fun j k hk => ?_, fun i j bi bj ei ej hi hj h1 h2 h3 => ?_, hs.frz, fun j k eb hk h => ?_⟩
  · obtain ⟨id, h1, h2⟩ := hjs j eb h
    have := hs.dom id eb h2
    have hj := (List.getElem?_eq_some_iff.1 h1).1
    simp only [List.length_map]
    exact ⟨hj, this.2⟩
  · obtain ⟨id, k0, h1, h2, rfl⟩ := hget j k hk
    obtain ⟨eb, o, he, ho, hok⟩ := hs.live id k0 h2
    refine ⟨eb, o, by rw [subE_at]; rw [h1]; exact he, ho, hok.ren fun id' j' eb' hi' he' => ?_⟩
    rw [subE_at]
    rw [indexIn_get hi']
    exact he'
  · obtain ⟨a, ka, a1, a2, _⟩ := hget i bi hi
    obtain ⟨b, kb, b1, b2, _⟩ := hget j bj hj
    obtain ⟨a', a3, a4⟩ := hjs i ei h1
    obtain ⟨b', b3, b4⟩ := hjs j ej h2
    rw [a1] at a3; cases a3
    rw [b1] at b3; cases b3
    have := hs.inj a b ka kb ei ej a2 b2 a4 b4 h3
    subst this
    have hi' := (List.getElem?_eq_some_iff.1 a1).1
    have hj' := (List.getElem?_eq_some_iff.1 b1).1
    exact nodup_inj hn a1 b1
  · show e.frz eb.b = none
    obtain ⟨a, ka, a1, a2, _⟩ := hget j k hk
    obtain ⟨a', a3, a4⟩ := hjs j eb h
    rw [a1] at a3; cases a3
    exact hs.frl a ka eb a2 a4

theorem back_stp (hs : HS w0 B e H w) {L : List Nat} (hn : L.Nodup) (hlive : ∀ id ∈ L, ∃ b, H[id]? = some (some b)) {e1 : Emb} {G : Heap} {w' : World}
    (hst : Stp w0 B (subE L e) (L.map fun id => (H.getD id none).map (Blk.ren fun id => indexIn id L)) w e1 G w') :
    Stp w0 B e H w (backE H.length L e e1) (setMany H L ((G.take L.length).map (Option.map (Blk.ren (backOf H.length L)))) ++ (G.drop L.length).map (Option.map (Blk.ren (backOf H.length L)))) w' ∧
      ∀ id j eb, backOf H.length L id = some j → e1 id = some eb → backE H.length L e e1 j = some eb := by
  have hlen : L.length ≤ G.length := by have := hst.len; simpa using this
  have hltH : ∀ id ∈ L, id < H.length := fun id hid => by
    obtain ⟨b, hb⟩ := hlive id hid
    exact (List.getElem?_eq_some_iff.1 hb).1
  have hL0 : ∀ j id, L[j]? = some id → e1 j = e id := fun j id hj => by
    have hlt := (List.getElem?_eq_some_iff.1 hj).1
    rw [hst.ext j (by simpa using hlt)]
    rw [subE_at]
    rw [hj]
    rfl
  have hren : ∀ id j eb, backOf H.length L id = some j → e1 id = some eb → backE H.length L e e1 j = some eb := by
    intro id j eb hj he
    unfold backOf at hj
    split at hj
    · rw [hL0 id j hj] at he
      rw [backE_at]
      rw [if_pos (hltH j (List.mem_of_getElem? hj))]
      exact he
    · cases hj
      rw [backE_at]
      rw [if_neg (by omega), show L.length + (H.length + (id - L.length) - H.length) = id by omega]
      exact he
  have hup : ∀ id eb, e id = some eb → backE H.length L e e1 id = some eb := fun id eb he => by
    rw [backE_at]; rw [if_pos (hs.ge he)]; exact he
  refine ⟨?_, hren⟩
  have hX : (setMany H L ((G.take L.length).map (Option.map (Blk.ren (backOf H.length L))))).length = H.length := setMany_length _ _ _
  have hX2 : (setMany H L ((G.take L.length).map (Option.map (Blk.ren (backOf H.length L)))) ++ (G.drop L.length).map (Option.map (Blk.ren (backOf H.length L)))).length = H.length + (G.length - L.length) := by
    rw [List.length_append, hX, List.length_map, List.length_drop]
  -- where a block of the new heap comes from
  have hget : ∀ (id : Nat) (k : Blk), (setMany H L ((G.take L.length).map (Option.map (Blk.ren (backOf H.length L)))) ++ (G.drop L.length).map (Option.map (Blk.ren (backOf H.length L))))[id]? = some (some k) →
      (id < H.length ∧ id ∉ L ∧ H[id]? = some (some k)) ∨ (∃ j k0, G[j]? = some (some k0) ∧ k = k0.ren (backOf H.length L) ∧ backOf H.length L j = some id ∧ e1 j = backE H.length L e e1 id) := by
    intro id k hk
    rcases Nat.lt_or_ge id H.length with hl | hge
    · rw [List.getElem?_append_left (by omega)] at hk
      by_cases hid : id ∈ L
      · right
        obtain ⟨j, hj⟩ := List.getElem?_of_mem hid
        have hjlt := (List.getElem?_eq_some_iff.1 hj).1
        rw [setMany_in L H _ j id hn hj (by simp; omega) hl] at hk
        rw [List.getElem?_map, List.getElem?_take, if_pos hjlt] at hk
        cases hG : G[j]? with
        | none => rw [hG] at hk; cases hk
        | some o =>
          rw [hG] at hk
          simp only [Option.map_some, Option.some.injEq] at hk
          obtain ⟨k0, rfl, hk0⟩ := renB_get hk
          refine ⟨j, k0, hG, hk0, by unfold backOf; rw [if_pos hjlt]; exact hj, ?_⟩
          rw [hL0 j id hj]
          rw [backE_at]
          rw [if_pos hl]
      · left
        rw [setMany_out L H _ id hid] at hk
        exact ⟨hl, hid, hk⟩
    · right
      rw [List.getElem?_append_right (by omega), hX, List.getElem?_map, List.getElem?_drop] at hk
      cases hG : G[L.length + (id - H.length)]? with
      | none => rw [hG] at hk; cases hk
      | some o =>
        rw [hG] at hk
        simp only [Option.map_some, Option.some.injEq] at hk
        obtain ⟨k0, rfl, hk0⟩ := renB_get hk
        refine ⟨_, k0, hG, hk0, ?_, ?_⟩
        · unfold backOf; rw [if_neg (by omega)]; congr 1; omega
        · rw [backE_at]; rw [if_neg (by omega)]
  have hsub : ∀ (j : Nat) (k : Blk), (L.map fun id => (H.getD id none).map (Blk.ren fun id => indexIn id L))[j]? = some (some k) → ∃ (id : Nat) (k0 : Blk), L[j]? = some id ∧ H[id]? = some (some k0) := by
    intro j k hk
    rw [List.getElem?_map] at hk
    cases hL : L[j]? with
    | none => rw [hL] at hk; cases hk
    | some id =>
      obtain ⟨b, hb⟩ := hlive id (List.mem_of_getElem? hL)
      exact ⟨id, b, rfl, hb⟩
  -- a new name's block is fresh, or one of those handed in
  have hnew : ∀ j eb, L.length ≤ j → e1 j = some eb → w.heap.size ≤ eb.b ∨ ∃ i bi ei, i ∈ L ∧ H[i]? = some (some bi) ∧ e i = some ei ∧ ei.b = eb.b := by
    intro j eb hj he
    rcases hst.new j eb (by simpa using hj) he with h | ⟨i, bi, ei, h1, h2, h3⟩
    · exact .inl h
    · right
      obtain ⟨id, k0, h4, h5⟩ := hsub i bi h1
      refine ⟨id, k0, ei, List.mem_of_getElem? h4, h5, ?_, h3⟩
      rw [subE_at] at h2
      rw [h4] at h2
      exact h2
  have hframe : ∀ b, b < w.heap.size → (∀ i bi ei, i ∈ L → H[i]? = some (some bi) → e i = some ei → ei.b ≠ b) → w'.heap[b]? = w.heap[b]? := by
    intro b hb hne
    refine hst.frame b hb fun i bi ei h1 h2 => ?_
    obtain ⟨id, k0, h4, h5⟩ := hsub i bi h1
    rw [subE_at] at h2
    rw [h4] at h2
    exact hne id k0 ei (List.mem_of_getElem? h4) h5 h2
  -- the block of a live name out of G, in terms of the caller's blocks
  have horig : ∀ j k0 eb, G[j]? = some (some k0) → e1 j = some eb → w.heap.size ≤ eb.b ∨ ∃ i bi ei, i ∈ L ∧ H[i]? = some (some bi) ∧ e i = some ei ∧ ei.b = eb.b := by
    intro j k0 eb hG he
    rcases Nat.lt_or_ge j L.length with hj | hj
    · right
      have hLj : L[j]? = some L[j] := List.getElem?_eq_getElem hj
      obtain ⟨b, hb⟩ := hlive L[j] (List.getElem_mem hj)
      exact ⟨L[j], b, eb, List.getElem_mem hj, hb, by rw [← hL0 j _ hLj]; exact he, rfl⟩
    · exact hnew j eb hj he
  refine ⟨⟨hst.hs.old, hst.hs.szB, fun id eb he => ?_, fun id k hk => ?_, fun i j bi bj ei ej hi hj h1 h2 h3 => ?_, hst.hs.frz, fun id k eb hk he => ?_⟩, fun id hid => ?_, by rw [hX2]; omega, fun id b hid hb => ?_, fun id eb hid he => ?_, fun b hb hne => hframe b hb fun i bi ei hi => hne i bi ei, hst.size, hst.os, hst.tape, hst.output, hst.fup, fun b o hb => ?_, hst.drawn⟩
  · rw [backE_at] at he
    split at he
    · have := hs.dom id eb he; have := hst.size; rw [hX2]; omega
    · have h1 := hst.hs.dom _ _ he
      rw [hX2]
      omega
  · rcases hget id k hk with ⟨hl, hnl, hk'⟩ | ⟨j, k0, hG, rfl, hj, he1⟩
    · obtain ⟨eb, o, he, ho, hok⟩ := hs.live id k hk'
      refine ⟨eb, o, hup _ _ he, ?_, hok.mono hup hst.fup⟩
      rw [hframe eb.b (hs.dom id eb he).2.2 fun i bi ei hi hbi hei heq => hnl (by rw [hs.inj id i k bi eb ei hk' hbi he hei heq.symm]; exact hi)]
      exact ho
    · obtain ⟨eb, o, he, ho, hok⟩ := hst.hs.live j k0 hG
      exact ⟨eb, o, by rw [← he1]; exact he, ho, hok.ren hren⟩
  · rcases hget i bi hi with ⟨hl, hnl, hk'⟩ | ⟨a, k0, hG, rfl, ha, he1⟩ <;> rcases hget j bj hj with ⟨hl2, hnl2, hk2⟩ | ⟨b, k2, hG2, rfl, hb, he2⟩
    · rw [backE_at] at h1 h2
      rw [if_pos hl] at h1; rw [if_pos hl2] at h2
      exact hs.inj i j bi bj ei ej hk' hk2 h1 h2 h3
    · exfalso
      rw [backE_at] at h1
      rw [if_pos hl] at h1
      rw [← he2] at h2
      rcases horig b k2 ej hG2 h2 with hx | ⟨x, bx, ex, hx1, hx2, hx3, hx4⟩
      · have := hs.dom i ei h1; omega
      · have := hs.inj i x bi bx ei ex hk' hx2 h1 hx3 (by omega)
        subst this
        exact hnl hx1
    · exfalso
      rw [backE_at] at h2
      rw [if_pos hl2] at h2
      rw [← he1] at h1
      rcases horig a k0 ei hG h1 with hx | ⟨x, bx, ex, hx1, hx2, hx3, hx4⟩
      · have := hs.dom j ej h2; omega
      · have := hs.inj j x bj bx ej ex hk2 hx2 h2 hx3 (by omega)
        subst this
        exact hnl2 hx1
    · rw [← he1] at h1
      rw [← he2] at h2
      have := hst.hs.inj a b k0 k2 ei ej hG hG2 h1 h2 h3
      subst this
      rw [ha] at hb
      exact Option.some.inj hb
  · show e1.frz eb.b = none
    rcases hget id k hk with ⟨hl, hnl, hk'⟩ | ⟨a, k0, hG, rfl, ha, he1⟩
    · rw [backE_at] at he
      simp only [if_pos hl] at he
      cases hz : e1.frz eb.b with
      | none => rfl
      | some o =>
        rcases hst.fnew eb.b o hz with h1 | h1 | ⟨i, bi, ei, h1, h2, h3⟩
        · have h4 := hs.frl id k eb hk' he
          rw [show e.frz eb.b = some o from h1] at h4; cases h4
        · have := (hs.dom id eb he).2.2; omega
        · obtain ⟨x, bx, hx1, hx2⟩ := hsub i bi h1
          rw [subE_at] at h2
          simp only [hx1, Option.bind_some] at h2
          have := hs.inj x id bx k ei eb hx2 hk' h2 he h3
          subst this
          exact absurd (List.mem_of_getElem? hx1) hnl
    · rw [← he1] at he
      exact hst.hs.frl a k0 eb hG he
  · rw [backE_at]; rw [if_pos hid]
  · rcases hget id b hb with ⟨_, _, hk'⟩ | ⟨j, k0, hG, rfl, hj, he1⟩
    · exact ⟨b, hk'⟩
    · unfold backOf at hj
      split at hj
      · exact hlive id (List.mem_of_getElem? hj)
      · cases hj; omega
  · rw [backE_at] at he
    rw [if_neg (by omega)] at he
    rcases hnew _ eb (by omega) he with h | ⟨i, bi, ei, _, h2, h3, h4⟩
    · exact .inl h
    · exact .inr ⟨i, bi, ei, h2, h3, h4⟩
  · rcases hst.fnew b o hb with h1 | h1 | ⟨i, bi, ei, h1, h2, h3⟩
    · exact .inl h1
    · exact .inr (.inl h1)
    · obtain ⟨x, bx, hx1, hx2⟩ := hsub i bi h1
      rw [subE_at] at h2
      simp only [hx1, Option.bind_some] at h2
      exact .inr (.inr ⟨x, bx, ei, hx2, h2, h3⟩)

theorem callWide_ok {call : CallF} (hc : CallOk P Γ call) {f : Nat} {args : List V} {vs : List Value} (hg : GlobOk Γ w0 B) (hs : HS w0 B e H w) (ha : RepL w0 B e args vs) {r : V × Heap} (h : callWide call H f args = some r) :
    CallAt P f vs w0 B e H w r := by
  unfold callWide at h
  have hsp := reach_spec 0 H fuelR (refsL args) [] (by simp) (by simp)
  simp only at h
  generalize reach 0 H fuelR (refsL args) [] = L at h hsp
  obtain ⟨hn, hlive0⟩ := hsp
  have hlive : ∀ id ∈ L, ∃ b, H[id]? = some (some b) := fun id hid => (hlive0 id hid).2
  split at h
  · rename_i r0 G hcall
    split at h
    · rename_i hlen
      cases h
      have hargs : RepL w0 B (subE L e) (args.map (V.ren fun id => indexIn id L)) vs := RepL.ren (fun id j eb hj he => by rw [subE_at]; rw [indexIn_get hj]; exact he) ha
      obtain ⟨hcb, hcalls⟩ := hc f _ _ _ hcall w0 B (subE L e) w vs hg (sub_hs hs hn) hargs
      refine ⟨hcb, hcalls.mono fun ed w' hpost => ?_⟩
      obtain ⟨v, e1, hed, hst, hr⟩ := hpost
      obtain ⟨h1, h2⟩ := back_stp hs hn hlive hst
      exact ⟨v, _, hed, h1, hr.ren h2⟩
    · cases h
  · cases h
end
end Go.Ev
