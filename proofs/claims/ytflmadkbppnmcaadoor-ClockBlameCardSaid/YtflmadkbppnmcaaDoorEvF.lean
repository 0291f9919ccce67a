/-
  ORACLES THAT YIELD A VALUE AND LEAVE THE CALLER's MEMORY ALONE; ARGUMENTS OPENED, TYPE BY TYPE (own work).
-/
import Derived.Test.YtflmadkbppnmcaaDoorEvD
import Derived.Lib.LaidTab
import Derived.Deep.Slices
import Derived.ChangeArms
import Derived.Test.YtflmadkbppnmcaaDoorEvC
set_option linter.unusedSimpArgs false
set_option linter.unusedVariables false
namespace Go.Ev
open Go Go.RowKit

section
variable {P : Program} {w0 : World} {B : Nat} {e : Emb} {H : Heap} {w : World} {Γ : Env}

/-- Nothing that lay before has turned: the caller goes on as it was. -/
theorem Stp.ofBelow {w' : World} (hs : HS w0 B e H w) (hb : Below w.heap.size w w') (h0 : w0.drawn ≠ 0) : Stp w0 B e H w e H w' := by
  have hget : ∀ b, b < w.heap.size → w'.heap[b]? = w.heap[b]? := fun b hlt => hb.block b hlt
  have hsz := hb.size
  refine ⟨⟨fun b hB => ?_, by have := hs.szB; omega, fun id eb he => ?_, fun id k hk => ?_, hs.inj, fun b o hz => ?_, hs.frl⟩, fun _ _ => rfl, Nat.le_refl _, fun _ b _ hb => ⟨b, hb⟩, fun id eb hi he => absurd (hs.dom id eb he).1 (by omega), fun b hlt _ => hget b hlt, hsz, hb.os, hb.tape, hb.output, fun _ _ h => h, fun _ _ h => .inl h, fun h => absurd h h0⟩
  · have := hs.szB; rw [hget b (by omega)]; exact hs.old b hB
  · have := hs.dom id eb he; omega
  · obtain ⟨eb, o, he, ho, hok⟩ := hs.live id k hk
    exact ⟨eb, o, he, by rw [hget _ (hs.dom id eb he).2.2]; exact ho, hok⟩
  · rw [hget _ (hs.frzlt hz)]; exact hs.frz b o hz

/-- A contract that yields a value: what a call comes to. -/
theorem CallAt.pure {f : Nat} {vs : List Value} {r : V} {v : Value} (hmono : Γ.mono = false) (hg : GlobOk Γ w0 B) (hs : HS w0 B e H w) (hcb : Callable P f)
    (hc : Calls P f ⟨vs⟩ w fun ed w' => ed = .returned v ∧ Below w.heap.size w w') (hr : Rep w0 B e r v) : CallAt P f vs w0 B e H w (r, H) := by
  refine Or.inl ⟨hcb, hc.mono fun ed w' hp => ?_⟩
  obtain ⟨rfl, hb⟩ := hp
  exact ⟨v, e, rfl, Stp.ofBelow hs hb (fun h => by have := hg.1 h; rw [hmono] at this; cases this), hr⟩

end

/-! ### Arguments opened -/
section
variable {H : Type} {P : Program} {W : World}

variable {enc : TypeId × Value → H} {held : Bool} {n : Nat} {t : TypeId}

theorem trod_int {k : IntKind} (ht : P.underlying t = some (.int k)) {cs : List Value} {d : DataW H} {ps : List MemPlace} (h : DataW.trod enc P W 0 (fun _ => true) held n t cs = some (d, ps)) :
    ∃ z, (Lit.int k z).wf = true ∧ d = .lit (.int k z) ∧ cs = [.int k z] := by
  cases n with
  | zero => simp [DataW.trod] at h
  | succ n =>
    unfold DataW.trod at h
    rw [ht] at h
    generalize hT : some (TypeDesc.int k) = T at h
    split at h <;> first | (cases hT; done) | skip
    · cases hT
      split at h
      · rename_i hc
        obtain ⟨rfl, hw⟩ := hc
        cases h
        exact ⟨_, hw, rfl, rfl⟩
      · cases h
    · cases h
end
end Go.Ev

/-
  STRUCTS OPENED, FIELD BY FIELD, WHATEVER THEIR FIELDS (own work).
-/
set_option linter.unusedSimpArgs false
set_option linter.unusedVariables false
namespace Go.Ev
open Go Go.RowKit

section
variable {H : Type} {P : Program} {W : World} {enc : TypeId × Value → H} {held : Bool} {n : Nat} {t : TypeId}

/-- Parts that are each read as they should be, one behind the other. -/
def Parts : List (DataW H → List V → Prop) → List (DataW H) → List V → Prop
  | [], [], vs => vs = []
  | Q :: Qs, d :: ds, vs => ∃ v1 v2, vs = v1 ++ v2 ∧ Q d v1 ∧ Parts Qs ds v2
  | _, _, _ => False

end
end Go.Ev
