/-
  CALLS, second part (own work).
-/
import Derived.Test.YtnalmdnfoicokaaEv14
set_option linter.unusedSimpArgs false
set_option linter.unusedVariables false
namespace Go.Ev
open Go

section
variable {P : Program} {w0 : World} {B : Nat} {e : Emb} {H : Heap} {w : World} {Γ : Env}

/-- A function can be called. -/
def Callable (P : Program) (f : Nat) : Prop := ∃ fn, P.funcs[f]? = some fn ∧ fn.body.isSome = true ∧ fn.name ≠ "runtime.NumGoroutine"

/-- What a call comes to. -/
def CallAt (P : Program) (f : Nat) (vs : List Value) (w0 : World) (B : Nat) (e : Emb) (H : Heap) (w : World) (r : V × Heap) : Prop :=
  Callable P f ∧ Calls P f ⟨vs⟩ w fun ed w' => ∃ v e', ed = .returned v ∧ Stp w0 B e H w e' r.2 w' ∧ Rep w0 B e' r.1 v

def CallOk (P : Program) (Γ : Env) (call : CallF) : Prop := ∀ f args H r, call f args H = some r → ∀ w0 B e w vs, GlobOk Γ w0 B → HS w0 B e H w → RepL w0 B e args vs → CallAt P f vs w0 B e H w r

theorem HS.fresh (w : World) : HS w w.heap.size emp [] w :=
  ⟨fun _ _ => rfl, Nat.le_refl _, (fun id eb h => by cases h), (fun id k h => by simp at h), (fun i j bi bj ei ej h => by simp at h), (fun b o h => by cases h), (fun id k eb h => by simp at h)⟩
/-- A fresh start, the base's count of draws told otherwise. -/
theorem HS.freshAt (w : World) (d : Nat) : HS { w with drawn := d } w.heap.size emp [] w :=
  ⟨fun _ _ => rfl, Nat.le_refl _, (fun id eb h => by cases h), (fun id k h => by simp at h), (fun i j bi bj ei ej h => by simp at h), (fun b o h => by cases h), (fun id k eb h => by simp at h)⟩

theorem GlobMem.move (hg : GlobMem Γ w0 B) (hs : HS w0 B e H w) : GlobMem Γ w w.heap.size := fun g cs hc => by
  obtain ⟨this, hgB, c, el, fr, hob, hsz⟩ := hg g cs hc
  refine ⟨?_, by have := hs.szB; omega, c, el, fr, by rw [hs.old g hgB]; exact hob, hsz⟩
  have h2 := Rep.sub (hp := fun id off => .junk) (hs := fun _ _ _ _ => .junk) (hm := fun _ => .junk) (e1 := emp) (w1 := w) (B1 := w.heap.size) (fun b o h => by
    have hb : w.heap[b]? = some o := by
      unfold known at h
      split at h
      · rename_i hb; rw [hs.old b hb]; exact h
      · cases h
    unfold known; rw [if_pos (Array.getElem?_eq_some_iff.1 hb).1]; exact hb) (fun _ _ _ _ => .junk _ _) (fun _ _ _ _ _ _ => .junk _ _) (fun _ _ _ => .junk _ _) this
  exact h2
theorem GlobOk.move (hg : GlobOk Γ w0 B) (hs : HS w0 B e H w) : GlobOk Γ { w with drawn := w0.drawn } w.heap.size :=
  ⟨hg.1, fun g cs hc => ⟨Rep.rebase (w0 := w) (w1 := { w with drawn := w0.drawn }) rfl (hg.2.move hs g cs hc).1, (hg.2.move hs g cs hc).2⟩⟩

/-- The callee's new names behind the caller's. -/
def shiftE (n : Nat) (e e1 : Emb) : Emb := ⟨fun id => if id < n then e id else e1 (id - n), e.frz⟩

theorem callPlain_ok {call : CallF} (hc : CallOk P Γ call) {f : Nat} {args : List V} {vs : List Value} (hg : GlobOk Γ w0 B) (hs : HS w0 B e H w) (ha : RepL w0 B e args vs) {r : V × Heap} (h : callPlain call H f args = some r) :
    CallAt P f vs w0 B e H w r := by
  unfold callPlain at h
  split at h
  · rename_i r0 G hcall
    split at h
    · rename_i hown
      simp only [Bool.and_eq_true] at hown
      cases h
      have hsnap : RepL w w.heap.size emp (args.map (snap 4 H)) vs := ⟨by simp [ha.1], fun j h1 h2 => by simpa using snap_ok 4 hs (ha.2 j (by simpa using h1) h2)⟩
      obtain ⟨hcb, hcalls⟩ := hc f _ _ _ hcall { w with drawn := w0.drawn } w.heap.size emp w vs (hg.move hs) (HS.freshAt w _) (RepL.rebase (w0 := w) (w1 := { w with drawn := w0.drawn }) rfl hsnap)
      refine ⟨hcb, hcalls.mono fun ed w' hpost => ?_⟩
      obtain ⟨v, e1, hed, hst, hr⟩ := hpost
      refine ⟨v, shiftE H.length e e1, hed, ?_, ?_⟩
      · have hsame : ∀ b, b < w.heap.size → w'.heap[b]? = w.heap[b]? := fun b hb => hst.hs.old b hb
        have hren : ∀ id j eb, (fun j => some (H.length + j)) id = some j → e1 id = some eb → shiftE H.length e e1 j = some eb := fun id j eb hj he => by
          cases hj
          simp only [shiftE]
          rw [if_neg (by omega), Nat.add_sub_cancel_left]
          exact he
        have hup : ∀ id eb, e id = some eb → shiftE H.length e e1 id = some eb := fun id eb he => by
          simp only [shiftE]; rw [if_pos (hs.ge he)]; exact he
        have hget : ∀ id k, (H ++ G.map (Option.map (Blk.ren fun j => some (H.length + j))))[id]? = some (some k) → (id < H.length ∧ H[id]? = some (some k)) ∨ (H.length ≤ id ∧ ∃ k0, G[id - H.length]? = some (some k0) ∧ k = k0.ren fun j => some (H.length + j)) := by
          intro id k hk
          rcases Nat.lt_or_ge id H.length with hl | hge
          · left; rw [List.getElem?_append_left hl] at hk; exact ⟨hl, hk⟩
          · right
            rw [List.getElem?_append_right hge, List.getElem?_map] at hk
            cases hG : G[id - H.length]? with
            | none => rw [hG] at hk; cases hk
            | some o =>
              rw [hG] at hk
              cases o with
              | none => simp at hk
              | some k0 => simp at hk; exact ⟨hge, k0, rfl, hk.symm⟩
        refine ⟨⟨fun b hb => ?_, by have := hst.size; have := hs.szB; omega, fun id eb he => ?_, fun id k hk => ?_, fun i j bi bj ei ej hi hj h1 h2 h3 => ?_, fun b o hb => by rw [hsame b (hs.frzlt hb)]; exact hs.frz b o hb, fun id k eb hk he => ?_⟩, fun id hid => ?_, by simp, fun id b hid hb => ?_, fun id eb hid he => ?_, fun b hb _ => hsame b hb, hst.size, hst.os, hst.tape, hst.output, fun _ _ h => h, fun _ _ h => .inl h, hst.drawn⟩
        · rw [hsame b (by have := hs.szB; omega)]; exact hs.old b hb
        · simp only [shiftE] at he
          split at he
          · have := hs.dom id eb he; have := hst.size; simp; omega
          · have h1 := hst.hs.dom _ _ he
            dsimp only at h1
            have := hs.szB
            simp only [List.length_append, List.length_map]
            omega
        · rcases hget id k hk with ⟨hl, hk'⟩ | ⟨hge, k0, hk', rfl⟩
          · obtain ⟨eb, o, he, ho, hok⟩ := hs.live id k hk'
            exact ⟨eb, o, hup _ _ he, by rw [hsame _ (hs.dom id eb he).2.2]; exact ho, hok.mono hup⟩
          · obtain ⟨eb, o, he, ho, hok⟩ := hst.hs.live _ _ hk'
            have hown' : k0.own = true := by
              have := (List.all_eq_true.1 hown.2) _ (List.mem_of_getElem? hk')
              exact this
            exact ⟨eb, o, by simp only [shiftE]; rw [if_neg (by omega)]; exact he, ho, hok.ownRen hren hown'⟩
        · simp only [shiftE] at h1 h2
          rcases hget i bi hi with ⟨hl, hk'⟩ | ⟨hge, k0, hk', _⟩ <;> rcases hget j bj hj with ⟨hl2, hk2⟩ | ⟨hge2, k2, hk2, _⟩
          · rw [if_pos hl] at h1; rw [if_pos hl2] at h2
            exact hs.inj i j bi bj ei ej hk' hk2 h1 h2 h3
          · rw [if_pos hl] at h1; rw [if_neg (by omega)] at h2
            have a1 := hs.dom i ei h1
            have a2 := hst.hs.dom _ ej h2
            omega
          · rw [if_neg (by omega)] at h1; rw [if_pos hl2] at h2
            have a1 := hs.dom j ej h2
            have a2 := hst.hs.dom _ ei h1
            omega
          · rw [if_neg (by omega)] at h1; rw [if_neg (by omega)] at h2
            have := hst.hs.inj _ _ k0 k2 ei ej hk' hk2 h1 h2 h3
            omega
        · show e.frz eb.b = none
          simp only [shiftE] at he
          rcases hget id k hk with ⟨hl, hk'⟩ | ⟨hge, k0, hk', _⟩
          · rw [if_pos hl] at he
            exact hs.frl id k eb hk' he
          · rw [if_neg (by omega)] at he
            have a2 := hst.hs.dom _ eb he
            cases hz : e.frz eb.b with
            | none => rfl
            | some o => have := hs.frzlt hz; omega
        · simp only [shiftE]; rw [if_pos hid]
        · rcases hget id b hb with ⟨_, hk'⟩ | ⟨hge, _⟩
          · exact ⟨b, hk'⟩
          · omega
        · simp only [shiftE] at he
          rw [if_neg (by omega)] at he
          left
          have := hst.hs.dom _ _ he
          omega
      · exact hr.ownRen (ρ := fun j => some (H.length + j)) (fun id j eb hj he => by
          cases hj
          simp only [shiftE]
          rw [if_neg (by omega), Nat.add_sub_cancel_left]
          exact he) hown.1
    · cases h
  · cases h
end
end Go.Ev
