/-
  LOOPS: a loop in its place, by what holds at its head (own work).
-/
import Derived.Test.YtnalmdnfoicokaaEv28
set_option linter.unusedSimpArgs false
set_option linter.unusedVariables false
namespace Go.Ev
open Go

section
variable {P : Program} {Γ : Env} {call : CallF} {n f m : Nat}

/-- What a round owes: another state at the head that is smaller; or the loop is left, and the rest is as wanted. -/
def Rnd {σ : Type} (Γ : Env) (f m r : Nat) (S : σ → List V × Heap) (I : σ → Prop) (μ : σ → Nat) (G : Option (Ex × List V × Heap) → Prop) (a : σ) : Option (Ex × List V × Heap) → Prop
  | some (.normal, s, H) => ∃ b, I b ∧ μ b < μ a ∧ tidy Γ f m r s H = S b
  | some x => G (some x)
  | none => False

section
variable {σ : Type} {r : Nat} {S : σ → List V × Heap} {I : σ → Prop} {μ : σ → Nat} {G : Option (Ex × List V × Heap) → Prop} {a : σ}
theorem rnd_normal {s : List V} {H : Heap} : Rnd Γ f m r S I μ G a (some (.normal, s, H)) = ∃ b, I b ∧ μ b < μ a ∧ tidy Γ f m r s H = S b := rfl
@[simp] theorem rnd_exit {i : Nat} {s : List V} {H : Heap} : Rnd Γ f m r S I μ G a (some (.exit i, s, H)) = G (some (.exit i, s, H)) := rfl
@[simp] theorem rnd_ret {s : List V} {H : Heap} : Rnd Γ f m r S I μ G a (some (.ret, s, H)) = G (some (.ret, s, H)) := rfl
@[simp] theorem rnd_none : Rnd Γ f m r S I μ G a none = False := rfl
@[simp] theorem rnd_ite {c : Prop} [Decidable c] {x y : Option (Ex × List V × Heap)} : Rnd Γ f m r S I μ G a (if c then x else y) = if c then Rnd Γ f m r S I μ G a x else Rnd Γ f m r S I μ G a y := by split <;> rfl
/-- A round's end. -/
theorem rnd_next {s : List V} {H : Heap} (b : σ) (hI : I b) (hμ : μ b < μ a) (ht : tidy Γ f m r s H = S b) : Rnd Γ f m r S I μ G a (some (.normal, s, H)) := ⟨b, hI, hμ, ht⟩

theorem loop_gen {C : Code} {q : Nat} {s : List V} {H : Heap} {R : Option (Ex × List V × Heap)} (hx : evLoopC P Γ call n f m C q s H = R) (S : σ → List V × Heap) (I : σ → Prop) (μ : σ → Nat) (a : σ)
    (hI : I a) (ht : tidy Γ f m (firstRegion C) s H = S a) (hq : μ a < q)
    (round : ∀ a, I a → μ a < q → Rnd Γ f m (firstRegion C) S I μ G a (evCode P Γ call n f m C (S a).1 (S a).2)) : G R := by
  subst hx
  suffices h : ∀ (q' : Nat) (a : σ) (s : List V) (H : Heap), q' ≤ q → I a → tidy Γ f m (firstRegion C) s H = S a → μ a < q' → G (evLoopC P Γ call n f m C q' s H) from h q a s H (Nat.le_refl _) hI ht hq
  intro q'
  induction q' with
  | zero => intro a s H _ _ _ h; omega
  | succ q' ih =>
    intro a s H hle hI ht hq
    have hr := round a hI (by omega)
    unfold evLoopC
    simp only [evLoop, ht]
    revert hr
    cases hc : evCode P Γ call n f m C (S a).1 (S a).2 with
    | none => intro hr; exact hr.elim
    | some x =>
      obtain ⟨ex, s1, H1⟩ := x
      intro hr
      cases ex with
      | normal =>
        obtain ⟨b, hb, hm, hb2⟩ := hr
        exact ih b s1 H1 (by omega) hb hb2 (by omega)
      | exit i => exact hr
      | ret => exact hr
end
end
end Go.Ev
