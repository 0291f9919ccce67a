/-
  THE REDACT SEAT: arguments opened: bytes, spans, exhibits (own work).
-/
import Derived.Test.YtnalmdnfoicokaaRdG
import Derived.Test.YtnalmdnfoicokaaEvF
import Derived.WalkKit
import Derived.ProofKit
import Derived.OpenShut
set_option linter.unusedVariables false
set_option linter.unusedSimpArgs false
set_option maxRecDepth 100000
namespace Go.Ev.Try
open Go Go.Ev Go.Proofs Go.RowKit

section
variable {H : Type} {enc : TypeId × Value → H} {W : World} {held : Bool}
theorem Opn.mono {P : Program} {n : Nat} {t : TypeId} {Q Q' : DataW H → List V → Prop} (h : Opn enc P W held n t Q) (hq : ∀ d vs, Q d vs → Q' d vs) : Opn enc P W held n t Q' := fun cs d ps hc => by
  obtain ⟨vs, h1, h2⟩ := h cs d ps hc
  exact ⟨vs, hq d vs h1, h2⟩
theorem cells3 : Try.prog.cellsOf 3 = 1 := by kernel_rfl
theorem cells4 : Try.prog.cellsOf 4 = 1 := by kernel_rfl
theorem cells5 : Try.prog.cellsOf 5 = 1 := by kernel_rfl
theorem cells23 : Try.prog.cellsOf 23 = 1 := by kernel_rfl
theorem cells25 : Try.prog.cellsOf 25 = 1 := by kernel_rfl
theorem cells27 : Try.prog.cellsOf 27 = 2 := by kernel_rfl
theorem cells36 : Try.prog.cellsOf 36 = 1 := by kernel_rfl
theorem cells38 : Try.prog.cellsOf 38 = 3 := by kernel_rfl
theorem cells42 : Try.prog.cellsOf 42 = 2 := by kernel_rfl

def BytesQ : DataW H → List V → Prop := fun _ vs => ∃ (z : Bool) (l : List Int), (z = true → l = []) ∧ vs = [roV z l.length (flatE (intE .u8) l)] ∧ l.length ≤ 9223372036854775807
theorem opn_bytes (n : Nat) : Opn enc Try.prog W held n 23 BytesQ :=
  Opn.mono (opn_slice (α := Int) (intE .u8) (by decide) Try.underlying23 cells5 (G := fun _ _ => True) (fun n => Opn.mono (opn_int Try.underlying5) fun d vs ⟨z, _, _, h⟩ => ⟨z, trivial, h⟩))
    fun d vs ⟨z, l, h1, h2, h3, _⟩ => ⟨z, l, h1, h2, h3⟩
theorem opn_span (n : Nat) : Opn enc Try.prog W held n 42 (fun _ vs => ∃ s : Span, True ∧ vs = spanE.f s) := by
  refine Opn.mono (opn_struct (Qs := [(fun _ vs => ∃ z, vs = [V.int .i64 z]), (fun _ vs => ∃ z, vs = [V.int .i64 z])]) Try.underlying42 (by kernel_rfl) (by kernel_rfl) rfl ?_) ?_
  · intro i f Q hf hQ n
    match i with
    | 0 => cases hf; cases hQ; exact Opn.mono (opn_int Try.underlying3) fun d vs ⟨z, _, _, h⟩ => ⟨z, h⟩
    | 1 => cases hf; cases hQ; exact Opn.mono (opn_int Try.underlying3) fun d vs ⟨z, _, _, h⟩ => ⟨z, h⟩
    | i + 2 => simp at hQ
  · rintro d vs ⟨ds, rfl, hp⟩
    match ds, hp with
    | [d1, d2], hp =>
      obtain ⟨v1, v2, rfl, ⟨z1, rfl⟩, w1, w2, rfl, ⟨z2, rfl⟩, hw⟩ := hp
      obtain rfl : w2 = [] := hw
      exact ⟨⟨z1, z2⟩, trivial, rfl⟩
def SpansQ : DataW H → List V → Prop := fun _ vs => ∃ (z : Bool) (l : List Span), (z = true → l = []) ∧ vs = [roV z l.length (flatE spanE l)] ∧ l.length ≤ 9223372036854775807
theorem opn_spans (n : Nat) : Opn enc Try.prog W held n 31 SpansQ :=
  Opn.mono (opn_slice (α := Span) spanE (by decide) Try.underlying31 cells42 (G := fun _ _ => True) (fun n => opn_span n)) fun d vs ⟨z, l, h1, h2, h3, _⟩ => ⟨z, l, h1, h2, h3⟩
theorem opn_piece (n : Nat) : Opn enc Try.prog W held n 38 (fun _ vs => ∃ p : Piece, p.bs.length ≤ 9223372036854775807 ∧ vs = pieceE.f p) := by
  refine Opn.mono (opn_struct (Qs := [(fun _ vs => ∃ b, vs = [V.bool b]), BytesQ, (fun _ vs => ∃ z, vs = [V.int .u64 z])]) Try.underlying38 (by kernel_rfl) (by kernel_rfl) rfl ?_) ?_
  · intro i f Q hf hQ n
    match i with
    | 0 => cases hf; cases hQ; exact Opn.mono (opn_bool Try.underlying4) fun d vs ⟨b, _, h⟩ => ⟨b, h⟩
    | 1 => cases hf; cases hQ; exact opn_bytes n
    | 2 => cases hf; cases hQ; exact Opn.mono (opn_int Try.underlying36) fun d vs ⟨z, _, _, h⟩ => ⟨z, h⟩
    | i + 3 => simp at hQ
  · rintro d vs ⟨ds, rfl, hp⟩
    match ds, hp with
    | [d1, d2, d3], hp =>
      obtain ⟨v1, v2, rfl, ⟨b, rfl⟩, w1, w2, rfl, ⟨z, l, hz, rfl, hl⟩, u1, u2, rfl, ⟨h, rfl⟩, hw⟩ := hp
      obtain rfl : u2 = [] := hw
      exact ⟨⟨b, z, l, h⟩, hl, rfl⟩
def PiecesQ : DataW H → List V → Prop := fun _ vs => ∃ (z : Bool) (l : List Piece), (z = true → l = []) ∧ vs = [roV z l.length (flatE pieceE l)] ∧ l.length ≤ 9223372036854775807 ∧ ∀ p ∈ l, p.bs.length ≤ 9223372036854775807
theorem opn_pieces (n : Nat) : Opn enc Try.prog W held n 25 PiecesQ :=
  Opn.mono (opn_slice (α := Piece) pieceE (by decide) Try.underlying25 cells38 (G := fun p _ => p.bs.length ≤ 9223372036854775807) (fun n => opn_piece n))
    fun d vs ⟨z, l, h1, h2, h3, h4⟩ => ⟨z, l, h1, h2, h3, fun p hp => by obtain ⟨_, _, _, _, _, h⟩ := h4 p hp; exact h⟩
theorem opn_exhibit (n : Nat) : Opn enc Try.prog W held n 27 (fun _ vs => ∃ (size : Int) (z : Bool) (l : List Piece), (z = true → l = []) ∧ vs = [.int .i64 size, roV z l.length (flatE pieceE l)] ∧ l.length ≤ 9223372036854775807 ∧ ∀ p ∈ l, p.bs.length ≤ 9223372036854775807) := by
  refine Opn.mono (opn_struct (Qs := [(fun _ vs => ∃ z, vs = [V.int .i64 z]), PiecesQ]) Try.underlying27 (by kernel_rfl) (by kernel_rfl) rfl ?_) ?_
  · intro i f Q hf hQ n
    match i with
    | 0 => cases hf; cases hQ; exact Opn.mono (opn_int Try.underlying3) fun d vs ⟨z, _, _, h⟩ => ⟨z, h⟩
    | 1 => cases hf; cases hQ; exact opn_pieces n
    | i + 2 => simp at hQ
  · rintro d vs ⟨ds, rfl, hp⟩
    match ds, hp with
    | [d1, d2], hp =>
      obtain ⟨v1, v2, rfl, ⟨size, rfl⟩, w1, w2, rfl, ⟨z, l, hz, rfl, hl, hb⟩, hw⟩ := hp
      obtain rfl : w2 = [] := hw
      exact ⟨size, z, l, hz, rfl, hl, hb⟩
end
end Go.Ev.Try
