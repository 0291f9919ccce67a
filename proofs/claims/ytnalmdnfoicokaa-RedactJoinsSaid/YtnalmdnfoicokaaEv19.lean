/-
  WHAT AN OPERATION LEAVES ALONE; TWO PARTS OF A HEAP TOGETHER (own work).
-/
import Derived.Test.YtnalmdnfoicokaaEv18
set_option linter.unusedSimpArgs false
set_option linter.unusedVariables false
namespace Go.Ev
open Go

section
variable {P : Program} {Γ : Env} {call : CallF}

def Keeps (H : Heap) (ws : List Nat) (H' : Heap) : Prop := H.length ≤ H'.length ∧ ∀ id, id < H.length → id ∉ ws → H'[id]? = H[id]?

theorem Keeps.refl (H : Heap) (ws : List Nat) : Keeps H ws H := ⟨Nat.le_refl _, fun _ _ _ => rfl⟩
theorem Keeps.app (H G : Heap) (ws : List Nat) : Keeps H ws (H ++ G) := ⟨by simp, fun id h _ => List.getElem?_append_left h⟩
theorem Keeps.set (H : Heap) (id : Nat) (b : Option Blk) : Keeps H [id] (H.set id b) := ⟨by simp, fun j h hn => by
  simp only [List.mem_singleton] at hn
  rw [List.getElem?_set_ne (by omega)]⟩
theorem Keeps.setApp (H G : Heap) (id : Nat) (b : Option Blk) : Keeps H [id] (H.set id b ++ G) := ⟨by simp, fun j h hn => by
  simp only [List.mem_singleton] at hn
  rw [List.getElem?_append_left (by simpa using h), List.getElem?_set_ne (by omega)]⟩

theorem Keeps.cells {H H' : Heap} {id off : Nat} {vs : List V} (h : writeCells H id off vs = some H') : Keeps H [id] H' := by
  unfold writeCells at h
  split at h
  · split at h
    · cases h; exact Keeps.set _ _ _
    · cases h
  · cases h

theorem appendS_keeps {H : Heap} {n b k : Nat} {s : V} {vs : List V} {r : V × Heap} (h : appendS H n b s k vs = some r) : Keeps H (refOf s) r.2 := by
  unfold appendS at h
  split at h
  · split at h
    · cases h; exact Keeps.refl _ _
    · split at h
      · cases h; exact Keeps.app _ _ _
      · cases h
  · split at h
    · cases h
    · split at h
      · split at h
        · cases h; exact Keeps.refl _ _
        · split at h
          · obtain ⟨H', hw, rfl⟩ := Option.map_eq_some_iff.1 h
            exact Keeps.cells hw
          · split at h
            · split at h
              · cases h; exact Keeps.app _ _ _
              · split at h
                · cases h; exact Keeps.setApp _ _ _ _
                · cases h
            · cases h
      · cases h
  · cases h

theorem appendV_keeps {H : Heap} {t : TypeId} {u : Option TypeId} {s x : V} {r : V × Heap} (h : appendV P H t u s x = some r) : Keeps H (refOf s) r.2 := by
  unfold appendV at h
  split at h
  · split at h
    · split at h
      · split at h
        · cases h
        · split at h
          · exact appendS_keeps h
          · cases h
      · cases h
    · split at h
      · unfold appendZ at h
        split at h
        · split at h
          · split at h
            · cases h
            · split at h
              · cases h; exact Keeps.refl _ _
              · cases h; exact Keeps.app _ _ _
          · cases h
        · cases h
      · cases h
  · cases h

theorem copyV_keeps {H : Heap} {t : TypeId} {d x : V} {r : V × Heap} (h : copyV P H t d x = some r) : Keeps H (refOf d) r.2 := by
  unfold copyV at h
  split at h
  · split at h
    · split at h
      · split at h
        · cases h; exact Keeps.refl _ _
        · split at h
          · cases h
          · obtain ⟨H', hw, rfl⟩ := Option.map_eq_some_iff.1 h
            exact Keeps.cells hw
        · cases h
      · cases h
    · cases h
  · cases h

theorem mapUpdateV_keeps {H H' : Heap} {t : TypeId} {m k v : V} (h : mapUpdateV P H t m k v = some H') : Keeps H (refOf m) H' := by
  unfold mapUpdateV at h
  split at h
  · split at h
    · cases h
    · split at h
      · split at h
        · cases h; exact Keeps.set _ _ _
        · cases h; exact Keeps.set _ _ _
        · cases h
      · cases h
  · cases h
theorem mapEntryV_keeps {H : Heap} {t : TypeId} {m k : V} {r : V × Heap} (h : mapEntryV P H t m k = some r) : Keeps H (refOf m) r.2 := by
  unfold mapEntryV at h
  split at h
  · split at h
    · cases h
    · split at h
      · split at h
        · split at h
          · cases h; exact Keeps.set _ _ _
          · cases h
        · cases h; exact Keeps.set _ _ _
        · cases h
      · cases h
  · cases h
theorem entryStoreV_keeps {H H' : Heap} {m st v : V} (h : entryStoreV H m st v = some H') : Keeps H (refOf m) H' := by
  unfold entryStoreV at h
  split at h
  · split at h
    · split at h
      · cases h; exact Keeps.set _ _ _
      · cases h
    · cases h
  · cases h
theorem nextV_keeps {H : Heap} {it : V} {r : V × Heap} (h : nextV H it = some r) : Keeps H (refOf it) r.2 := by
  unfold nextV at h
  split at h
  · split at h
    · split at h
      · cases h; exact Keeps.set _ _ _
      · cases h; exact Keeps.refl _ _
    · cases h
  · cases h
theorem storeV_keeps {H H' : Heap} {t : TypeId} {a x : V} (h : storeV P H t a x = some H') : Keeps H (refOf a) H' := by
  unfold storeV at h
  split at h
  · split at h
    · exact Keeps.cells h
    · cases h
  · cases h

theorem buildSliceV_keeps {H : Heap} {t : TypeId} {n : Nat} {ps : List (Nat × V)} {r : V × Heap} {ws : List Nat} (h : buildSliceV P H t n ps = some r) : Keeps H ws r.2 := by
  unfold buildSliceV at h
  repeat' split at h
  all_goals first
    | (cases h; done)
    | (cases h; exact Keeps.app _ _ _)
theorem makeSliceV_keeps {H : Heap} {t : TypeId} {l c : V} {r : V × Heap} {ws : List Nat} (h : makeSliceV P H t l c = some r) : Keeps H ws r.2 := by
  unfold makeSliceV at h
  repeat' split at h
  all_goals first
    | (cases h; done)
    | (cases h; exact Keeps.app _ _ _)

theorem convertV_keeps {H : Heap} {a b : TypeId} {x : V} {r : V × Heap} {ws : List Nat} (h : convertV P H a b x = some r) : Keeps H ws r.2 := by
  unfold convertV at h
  repeat' split at h
  all_goals first
    | (cases h; done)
    | (cases h; exact Keeps.refl _ _)
    | (cases h; exact Keeps.app _ _ _)
    | (obtain ⟨z, hz, rfl⟩ := Option.map_eq_some_iff.1 h; exact Keeps.refl _ _)

theorem sliceMaxV_keeps {H : Heap} {t : TypeId} {x hi m : V} {r : V × Heap} (h : sliceMaxV P H t x hi m = some r) : Keeps H (refOf x) r.2 := by
  unfold sliceMaxV at h
  split at h
  · split at h
    · split at h
      · cases h; exact Keeps.setApp _ _ _ _
      · cases h
    · cases h
  · split at h
    · split at h
      · cases h; exact Keeps.refl _ _
      · cases h
    · cases h
  · cases h
theorem clearV_keeps {H : Heap} {t : TypeId} {x : V} {r : V × Heap} (h : clearV P H t x = some r) : Keeps H (refOf x) r.2 := by
  unfold clearV at h
  split at h
  · cases h; exact Keeps.refl _ _
  · split at h
    · split at h
      · split at h
        · cases h; exact Keeps.refl _ _
        · obtain ⟨z, hz, rfl⟩ := Option.map_eq_some_iff.1 h; exact Keeps.cells hz
      · cases h
    · cases h
  · cases h

def bWrites : Builtin → List V → List Nat
  | .append, x :: _ => refOf x
  | .copy, x :: _ => refOf x
  | .clear, x :: _ => refOf x
  | _, _ => []

theorem builtin_keeps {H : Heap} {b : Builtin} {ts : Array TypeId} {xs : List V} {r : V × Heap} (h : evBuiltin P H b ts xs = some r) : Keeps H (bWrites b xs) r.2 := by
  unfold evBuiltin at h
  split at h
  · split at h
    · obtain ⟨z, hz, rfl⟩ := Option.map_eq_some_iff.1 h; exact Keeps.refl _ _
    · cases h
  · split at h
    · exact appendV_keeps h
    · cases h
  · split at h
    · exact copyV_keeps h
    · cases h
  · obtain ⟨z, hz, rfl⟩ := Option.map_eq_some_iff.1 h; exact Keeps.refl _ _
  · obtain ⟨z, hz, rfl⟩ := Option.map_eq_some_iff.1 h; exact Keeps.refl _ _
  · split at h
    · exact clearV_keeps h
    · cases h
  · split at h
    · obtain ⟨z, hz, rfl⟩ := Option.map_eq_some_iff.1 h; exact Keeps.refl _ _
    · cases h
  · cases h

theorem op_keeps {s : List V} {H : Heap} {o : Op} {r : V × Heap} (h : evOp P Γ call s H o = some r) : Keeps H (writesOf Γ s H o) r.2 := by
  unfold evOp at h
  split at h
  · rename_i c
    split at h
    · rename_i f hf
      unfold evCall at h
      rw [hf] at h
      simp only at h
      split at h
      · rename_i g x y hv
        split at h
        · unfold callPlain at h
          split at h
          · split at h
            · cases h; exact Keeps.app _ _ _
            · cases h
          · cases h
        · rename_i hpl
          unfold callWide at h
          simp only at h
          split at h
          · split at h
            · cases h
              simp only [writesOf, hf, hv, if_neg hpl]
              refine ⟨by simp [setMany_length], fun id hid hn => ?_⟩
              rw [List.getElem?_append_left (by rw [setMany_length]; exact hid)]
              exact setMany_out _ _ _ _ hn
            · cases h
          · cases h
      · cases h
    · rename_i hne
      obtain ⟨callee, args, ats⟩ := c
      cases callee with
      | value f => exact absurd rfl (hne f)
      | invoke a b => simp [evPlain] at h
      | builtin b =>
        simp only [evPlain] at h
        have hk := builtin_keeps h
        have he : writesOf Γ s H (.call ⟨.builtin b, args, ats⟩) = bWrites b (args.toList.map (evOperand Γ s)) := by
          simp only [writesOf]
          generalize args.toList.map (evOperand Γ s) = xs
          cases b <;> cases xs <;> rfl
        rw [he]
        exact hk
  · unfold evPlain at h
    split at h
    all_goals first
      | (cases h; done)
      | (cases h; exact Keeps.refl _ _)
      | (cases h; exact Keeps.app _ _ _)
      | (obtain ⟨z, hz, rfl⟩ := Option.map_eq_some_iff.1 h; exact Keeps.refl _ _)
      | (split at h <;> first | (cases h; done) | (cases h; exact Keeps.refl _ _) | (cases h; exact Keeps.app _ _ _) | (obtain ⟨z, hz, rfl⟩ := Option.map_eq_some_iff.1 h; exact Keeps.refl _ _))
      | (obtain ⟨z, hz, rfl⟩ := Option.map_eq_some_iff.1 h; exact storeV_keeps hz)
      | (obtain ⟨z, hz, rfl⟩ := Option.map_eq_some_iff.1 h; exact mapUpdateV_keeps hz)
      | (obtain ⟨z, hz, rfl⟩ := Option.map_eq_some_iff.1 h; exact entryStoreV_keeps hz)
      | exact mapEntryV_keeps h
      | exact nextV_keeps h
      | exact convertV_keeps h
      | exact buildSliceV_keeps h
      | exact makeSliceV_keeps h
      | exact sliceMaxV_keeps h
      | (rename_i hx; exact absurd rfl (hx _))
end

section
variable {P : Program} {w0 : World} {B : Nat}

def mixE (lo hi : Nat) (e e1 : Emb) : Emb := ⟨fun id => if lo ≤ id ∧ id < hi then e1 id else e id, e1.frz⟩
theorem mixE_at (lo hi : Nat) (e e1 : Emb) (id : Nat) : mixE lo hi e e1 id = if lo ≤ id ∧ id < hi then e1 id else e id := rfl

/-- A step on a part of the heap is a step on the whole. -/
theorem mix {e0 e e1 e1' : Emb} {H0 G Hm H' G' : Heap} {ws w w' : World} (h : Stp w0 B e0 H0 ws e G w) (k : Stp w0 B e1 Hm w e1' H' w')
    (hHm : ∀ (id : Nat) (b : Blk), Hm[id]? = some (some b) → G[id]? = some (some b))
    (he1 : ∀ id eb, e1 id = some eb → e id = some eb) (hz1 : e1.frz = e.frz)
    (hlb : H0.length ≤ Hm.length) (hN : H'.length ≤ G.length) (hfresh : ∀ id, Hm.length ≤ id → id < H'.length → e id = none)
    (hlen : G'.length = G.length)
    (hG' : ∀ (id : Nat) (b : Blk), G'[id]? = some (some b) → (H'[id]? = some (some b)) ∨
      (G[id]? = some (some b) ∧ ¬ (Hm.length ≤ id ∧ id < H'.length) ∧ ∀ b0, Hm[id]? ≠ some (some b0))) :
    Stp w0 B e0 H0 ws (mixE Hm.length H'.length e e1') G' w' ∧ (∀ id eb, e1' id = some eb → mixE Hm.length H'.length e e1' id = some eb) ∧ (∀ id eb, e id = some eb → mixE Hm.length H'.length e e1' id = some eb) := by
  have hup1 : ∀ id eb, e1' id = some eb → mixE Hm.length H'.length e e1' id = some eb := fun id eb he => by
    rw [mixE_at]
    split
    · exact he
    · rename_i hn
      have := (k.hs.dom id eb he).1
      rw [k.ext id (by omega)] at he
      exact he1 _ _ he
  have hup : ∀ id eb, e id = some eb → mixE Hm.length H'.length e e1' id = some eb := fun id eb he => by
    rw [mixE_at]
    split
    · rename_i hn
      rw [hfresh id hn.1 hn.2] at he
      cases he
    · exact he
  have hzup : ∀ b o, e.frz b = some o → (mixE Hm.length H'.length e e1').frz b = some o := fun b o hb => k.fup b o (by rw [hz1]; exact hb)
  refine ⟨?_, hup1, hup⟩
  -- a live block of the part: its place among the caller's
  have hmlive : ∀ (z : Nat) (bz : Blk) (ez : EB), Hm[z]? = some (some bz) → e1 z = some ez → G[z]? = some (some bz) ∧ e z = some ez := fun z bz ez h1 h2 => ⟨hHm z bz h1, he1 z ez h2⟩
  have hglive : ∀ (z : Nat) (bz : Blk) (ez : EB), G[z]? = some (some bz) → e z = some ez → ws.heap.size ≤ ez.b ∨ ∃ i bi ei, H0[i]? = some (some bi) ∧ e0 i = some ei ∧ ei.b = ez.b := fun z bz ez h1 h2 => by
    rcases Nat.lt_or_ge z H0.length with hz | hz
    · obtain ⟨b', hb'⟩ := h.alive z bz hz h1
      rw [h.ext z hz] at h2
      exact .inr ⟨z, b', ez, hb', h2, rfl⟩
    · exact h.new z ez hz h2
  -- what a live block of the new heap was
  have hwas : ∀ (id : Nat) (b : Blk), G'[id]? = some (some b) → ¬ (Hm.length ≤ id ∧ id < H'.length) → ∃ b', G[id]? = some (some b') := fun id b hb hn => by
    rcases hG' id b hb with h1 | h1
    · have := (List.getElem?_eq_some_iff.1 h1).1
      obtain ⟨b', hb'⟩ := k.alive id b (by omega) h1
      exact ⟨b', hHm _ _ hb'⟩
    · exact ⟨b, h1.1⟩
  have hsize := k.size
  have hsz0 := h.size
  refine ⟨⟨k.hs.old, k.hs.szB, fun id eb he => ?_, fun id b hb => ?_, fun i j bi bj ei ej hi hj h1 h2 h3 => ?_, k.hs.frz, fun id bk eb hb he => ?_⟩, fun id hid => ?_, by have := h.len; omega, fun id b hid hb => ?_, fun id eb hid he => ?_, fun b hb hne => ?_, by omega, by rw [k.os, h.os], by rw [k.tape, h.tape], by rw [k.output, h.output], fun b o hb => hzup b o (h.fup b o hb), fun b o hb => ?_, fun h0 => Nat.le_trans (h.drawn h0) (k.drawn h0)⟩
  · rw [mixE_at] at he
    rw [hlen]
    split at he
    · have := k.hs.dom id eb he; exact ⟨by omega, this.2⟩
    · have := h.hs.dom id eb he; exact ⟨by omega, by omega, by omega⟩
  · rcases hG' id b hb with h1 | ⟨h1, h2, h3⟩
    · obtain ⟨eb, o, he, ho, hok⟩ := k.hs.live id b h1
      exact ⟨eb, o, hup1 _ _ he, ho, hok.mono hup1⟩
    · obtain ⟨eb, o, he, ho, hok⟩ := h.hs.live id b h1
      refine ⟨eb, o, hup _ _ he, ?_, hok.mono hup hzup⟩
      rw [k.frame eb.b (h.hs.dom id eb he).2.2 fun i bi ei hi hei heq => ?_]
      · exact ho
      · obtain ⟨g1, g2⟩ := hmlive i bi ei hi hei
        have := h.hs.inj i id bi b ei eb g1 h1 g2 he heq
        subst this
        exact h3 bi hi
  · -- one block for each name
    have other : ∀ (x y : Nat) (bx «by» : Blk) (ex ey : EB), G'[x]? = some (some bx) → G'[y]? = some (some «by») → (Hm.length ≤ x ∧ x < H'.length) → ¬ (Hm.length ≤ y ∧ y < H'.length) → e1' x = some ex → e y = some ey → ex.b = ey.b → x = y := by
      intro x y bx by' ex ey hx hy hcx hcy h1 h2 h3
      have hxH : H'[x]? = some (some bx) := by
        rcases hG' x bx hx with g | ⟨_, g, _⟩
        · exact g
        · exact absurd hcx g
      obtain ⟨by0, hyG⟩ := hwas y by' hy hcy
      have hylt := (h.hs.dom y ey h2).2.2
      rcases k.new x ex hcx.1 h1 with g | ⟨z, bz, ez, z1, z2, z3⟩
      · omega
      · obtain ⟨g1, g2⟩ := hmlive z bz ez z1 z2
        have := h.hs.inj z y bz by0 ez ey g1 hyG g2 h2 (by omega)
        subst this
        rcases hG' z by' hy with g | ⟨_, _, g⟩
        · have hez : e1' z = some ez := by
            rw [k.ext z (List.getElem?_eq_some_iff.1 z1).1]; exact z2
          exact k.hs.inj x z bx by' ex ez hxH g h1 hez z3.symm
        · exact absurd z1 (g _)
    rw [mixE_at] at h1 h2
    split at h1 <;> split at h2
    · rename_i c1 c2
      have hiH : H'[i]? = some (some bi) := by
        rcases hG' i bi hi with g | ⟨_, g, _⟩
        · exact g
        · exact absurd c1 g
      have hjH : H'[j]? = some (some bj) := by
        rcases hG' j bj hj with g | ⟨_, g, _⟩
        · exact g
        · exact absurd c2 g
      exact k.hs.inj i j bi bj ei ej hiH hjH h1 h2 h3
    · rename_i c1 c2
      exact other i j bi bj ei ej hi hj c1 c2 h1 h2 h3
    · rename_i c1 c2
      exact (other j i bj bi ej ei hj hi c2 c1 h2 h1 h3.symm).symm
    · rename_i c1 c2
      obtain ⟨bi', hi'⟩ := hwas i bi hi c1
      obtain ⟨bj', hj'⟩ := hwas j bj hj c2
      exact h.hs.inj i j bi' bj' ei ej hi' hj' h1 h2 h3
  · show e1'.frz eb.b = none
    rw [mixE_at] at he
    split at he
    · rename_i c1
      have hH : H'[id]? = some (some bk) := by
        rcases hG' id bk hb with g | ⟨_, g, _⟩
        · exact g
        · exact absurd c1 g
      exact k.hs.frl id bk eb hH he
    · rename_i c1
      obtain ⟨b', hb'⟩ := hwas id bk hb c1
      cases hz : e1'.frz eb.b with
      | none => rfl
      | some o =>
        rcases k.fnew eb.b o hz with g | g | ⟨z, bz, ez, z1, z2, z3⟩
        · have := h.hs.frl id b' eb hb' he
          rw [hz1, this] at g; cases g
        · have := (h.hs.dom id eb he).2.2; omega
        · obtain ⟨g1, g2⟩ := hmlive z bz ez z1 z2
          have := h.hs.inj z id bz b' ez eb g1 hb' g2 he z3
          subst this
          rcases hG' z bk hb with g | ⟨_, _, g⟩
          · have hez : e1' z = some ez := by
              rw [k.ext z (List.getElem?_eq_some_iff.1 z1).1]; exact z2
            have h5 := k.hs.frl z bk ez g hez
            rw [z3, hz] at h5; cases h5
          · exact absurd z1 (g _)
  · rw [mixE_at]
    rw [if_neg (by omega)]
    exact h.ext id hid
  · obtain ⟨b', hb'⟩ := hwas id b hb (by omega)
    exact h.alive id b' hid hb'
  · rw [mixE_at] at he
    split at he
    · rename_i c
      rcases k.new id eb c.1 he with g | ⟨z, bz, ez, z1, z2, z3⟩
      · left; omega
      · obtain ⟨g1, g2⟩ := hmlive z bz ez z1 z2
        rcases hglive z bz ez g1 g2 with g | ⟨i, bi, ei, i1, i2, i3⟩
        · left; omega
        · right; exact ⟨i, bi, ei, i1, i2, by omega⟩
    · exact h.new id eb hid he
  · rw [k.frame b (by omega) fun i bi ei hi hei heq => ?_]
    · exact h.frame b hb hne
    · obtain ⟨g1, g2⟩ := hmlive i bi ei hi hei
      rcases hglive i bi ei g1 g2 with g | ⟨z, bz, ez, z1, z2, z3⟩
      · omega
      · exact hne z bz ez z1 z2 (by omega)
  · rcases k.fnew b o hb with g | g | ⟨z, bz, ez, z1, z2, z3⟩
    · exact h.fnew b o (by rw [← hz1]; exact g)
    · right; left; omega
    · obtain ⟨g1, g2⟩ := hmlive z bz ez z1 z2
      rcases hglive z bz ez g1 g2 with g | ⟨i, bi, ei, i1, i2, i3⟩
      · right; left; omega
      · right; right; exact ⟨i, bi, ei, i1, i2, by omega⟩
end
end Go.Ev
