/-
  THE REDACT SEAT: arguments opened: bytes, spans, exhibits (own work).
-/
import Derived.Test.YtnalmdnfoicokaaRdG
import Derived.Test.YtnalmdnfoicokaaEvF
import Derived.WalkKit
import Derived.ProofKit
import Derived.OpenShut
set_option linter.unusedVariables false
set_option linter.unusedSimpArgs false
set_option maxRecDepth 100000
namespace Go.Ev.Try
open Go Go.Ev Go.Proofs Go.RowKit

section
variable {H : Type} {enc : TypeId × Value → H} {W : World} {held : Bool}
theorem Opn.mono {P : Program} {n : Nat} {t : TypeId} {Q Q' : DataW H → List V → Prop} (h : Opn enc P W held n t Q) (hq : ∀ d vs, Q d vs → Q' d vs) : Opn enc P W held n t Q' := fun cs d ps hc => by
  obtain ⟨vs, h1, h2⟩ := h cs d ps hc
  exact ⟨vs, hq d vs h1, h2⟩
theorem cells5 : Try.prog.cellsOf 5 = 1 := by kernel_rfl
theorem cells42 : Try.prog.cellsOf 42 = 2 := by kernel_rfl

def BytesQ : DataW H → List V → Prop := fun _ vs => ∃ (z : Bool) (l : List Int), (z = true → l = []) ∧ vs = [roV z l.length (flatE (intE .u8) l)] ∧ l.length ≤ 9223372036854775807
theorem opn_bytes (n : Nat) : Opn enc Try.prog W held n 23 BytesQ :=
  Opn.mono (opn_slice (α := Int) (intE .u8) (by decide) Try.underlying23 cells5 (G := fun _ _ => True) (fun n => Opn.mono (opn_int Try.underlying5) fun d vs ⟨z, _, _, h⟩ => ⟨z, trivial, h⟩))
    fun d vs ⟨z, l, h1, h2, h3, _⟩ => ⟨z, l, h1, h2, h3⟩
theorem opn_span (n : Nat) : Opn enc Try.prog W held n 42 (fun _ vs => ∃ s : Span, True ∧ vs = spanE.f s) := by
  refine Opn.mono (opn_struct (Qs := [(fun _ vs => ∃ z, vs = [V.int .i64 z]), (fun _ vs => ∃ z, vs = [V.int .i64 z])]) Try.underlying42 (by kernel_rfl) (by kernel_rfl) rfl ?_) ?_
  · intro i f Q hf hQ n
    match i with
    | 0 => cases hf; cases hQ; exact Opn.mono (opn_int Try.underlying3) fun d vs ⟨z, _, _, h⟩ => ⟨z, h⟩
    | 1 => cases hf; cases hQ; exact Opn.mono (opn_int Try.underlying3) fun d vs ⟨z, _, _, h⟩ => ⟨z, h⟩
    | i + 2 => simp at hQ
  · rintro d vs ⟨ds, rfl, hp⟩
    match ds, hp with
    | [d1, d2], hp =>
      obtain ⟨v1, v2, rfl, ⟨z1, rfl⟩, w1, w2, rfl, ⟨z2, rfl⟩, hw⟩ := hp
      obtain rfl : w2 = [] := hw
      exact ⟨⟨z1, z2⟩, trivial, rfl⟩
end
end Go.Ev.Try
