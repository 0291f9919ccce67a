/-
  FINDINGS: the library's searches: slices.Contains, ContainsFunc at conditions, strings, spans (own work).
-/
import Derived.Test.YtmcakfjbefelgaaDoorAhA
set_option linter.unusedSimpArgs false
set_option linter.unusedVariables false
set_option maxRecDepth 100000
set_option maxHeartbeats 4000000
namespace Go.Ev.Tryd.Hd
open Go Go.Ev Go.Proofs
variable {mx : Int}

def anyL {α : Type} (p : α → Bool) (l : List α) : Bool := l.any p
theorem any_take_step {α : Type} (p : α → Bool) (l : List α) (i : Nat) (h : i < l.length) (h1 : anyL p (l.take i) = false) (h2 : p l[i] = false) : anyL p (l.take (i + 1)) = false := by
  unfold anyL at *
  rw [List.take_succ_eq_append_getElem h, List.any_append, h1]; simp [h2]
theorem any_hit {α : Type} (p : α → Bool) (l : List α) (i : Nat) (h : i < l.length) (h2 : p l[i] = true) : anyL p l = true := List.any_eq_true.2 ⟨_, List.getElem_mem h, h2⟩

theorem index56 (l : List ByteArray) (x : ByteArray) (z : Bool) (hl : l.length ≤ 4294967300) {k : Nat} (hk : l.length + 10 < k) :
    ∃ r : Int, evF Tryd.prog (Γ mx) (k + 1) 56 [roV z l.length (flatE strE l), .str x] [] = some (.int .i64 r, []) ∧ decide (0 ≤ r) = anyL (fun y => decide (x = y)) l := by
  obtain ⟨k, rfl⟩ : ∃ j, k = j + 1 := ⟨k - 1, by omega⟩
  generalize hp : (fun y : ByteArray => decide (x = y)) = p
  rw [b56 (fun _ _ => rfl) _ _ (by simp)]
  simp -implicitDefEqProofs
  generalize hx : evLoopC _ _ _ _ _ _ _ _ _ _ = R
  apply loop_gen hx (fun i : Nat => (mkL 19 .junk [(0, roV z l.length (flatE strE l)), (1, .str x), (7, .int .i64 l.length), (8, .int .i64 i)], [none]))
    (fun i => i ≤ l.length ∧ anyL p (l.take i) = false) (fun i => l.length - i) 0
  case hI => exact ⟨Nat.zero_le _, rfl⟩
  case hq => omega
  case ht => simp -implicitDefEqProofs [liveOf]
  case round =>
    rintro i ⟨hi, hn⟩ _
    clear hx
    by_cases hlt : i < l.length
    · have hlt2 : (i : Int) < l.length := by omega
      have e2 : addI .i64 (i : Int) 1 = (i : Int) + 1 := addI_i64 (by omega) (by omega)
      have hm := drop_str l i hlt
      have hst := any_take_step p l i hlt hn
      have hht := any_hit p l i hlt
      have h3 : 1 ≤ l.length - i := by omega
      generalize l[i] = y at *
      by_cases he : x = y
      · have hpy : p y = true := by rw [← hp]; simp [he]
        have hany := hht hpy
        simp -implicitDefEqProofs [hlt2, e2, hm, he, h3, hany]
      · have hpy : p y = false := by rw [← hp]; simp [he]
        simp -implicitDefEqProofs [hlt2, e2, hm, he, h3]
        exact rnd_next (i + 1) ⟨hlt, hst hpy⟩ (by omega) (by simp -implicitDefEqProofs [liveOf])
    · have hi' : i = l.length := by omega
      subst hi'
      rw [List.take_length] at hn
      simp -implicitDefEqProofs [hn]
theorem contains30 (l : List ByteArray) (x : ByteArray) (z : Bool) (hl : l.length ≤ 4294967300) {k : Nat} (hk : l.length + 20 < k) :
    evF Tryd.prog (Γ mx) (k + 1) 30 [roV z l.length (flatE strE l), .str x] [] = some (.bool (anyL (fun y => decide (x = y)) l), []) := by
  obtain ⟨k, rfl⟩ : ∃ j, k = j + 1 := ⟨k - 1, by omega⟩
  obtain ⟨r, c, hr⟩ := index56 (mx := mx) l x z hl (k := k) (by omega)
  rw [b30 (fun _ _ => rfl) _ _ (by simp), ← hr]
  simp -implicitDefEqProofs [c]

/-! ### ContainsFunc at conditions -/
theorem drop_cond (l : List Cond) (i : Nat) (h : i < l.length) : List.take 5 (List.drop (i * 5) (flatE condE l)) = condE.f l[i] := at_flatE condE rfl l i h
theorem index58 (l : List Cond) (z : Bool) (g : Nat) (F : List V) (hw : (Γ mx).plain g = true) (p : Cond → Bool) (hl : l.length ≤ 4294967300) {k : Nat} (hk : l.length + 10 < k)
    (hg : ∀ c ∈ l, evF Tryd.prog (Γ mx) k g [.agg (condE.f c), .ro F] [] = some (.bool (p c), [])) :
    ∃ r : Int, evF Tryd.prog (Γ mx) (k + 1) 58 [roV z l.length (flatE condE l), .fn (.func g) [] [.ro F]] [] = some (.int .i64 r, []) ∧ decide (0 ≤ r) = anyL p l := by
  rw [b58 (fun _ _ => rfl) _ _ (by simp)]
  simp -implicitDefEqProofs
  generalize hx : evLoopC _ _ _ _ _ _ _ _ _ _ = R
  apply loop_gen hx (fun i : Nat => (mkL 19 .junk [(0, roV z l.length (flatE condE l)), (1, .fn (.func g) [] [.ro F]), (7, .int .i64 l.length), (8, .int .i64 i)], [none, none]))
    (fun i => i ≤ l.length ∧ anyL p (l.take i) = false) (fun i => l.length - i) 0
  case hI => exact ⟨Nat.zero_le _, rfl⟩
  case hq => omega
  case ht => simp -implicitDefEqProofs [liveOf]
  case round =>
    rintro i ⟨hi, hn⟩ _
    clear hx
    by_cases hlt : i < l.length
    · have hlt2 : (i : Int) < l.length := by omega
      have e2 : addI .i64 (i : Int) 1 = (i : Int) + 1 := addI_i64 (by omega) (by omega)
      have hm := drop_cond l i hlt
      have hst := any_take_step p l i hlt hn
      have hht := any_hit p l i hlt
      have h3 : 5 ≤ l.length * 5 - i * 5 := by omega
      have c := hg l[i] (List.getElem_mem hlt)
      generalize l[i] = y at *
      rw [condE_f] at hm c
      cases hp : p y with
      | true =>
        have hany := hht hp
        rw [hp] at c
        simp -implicitDefEqProofs [hlt2, e2, hm, h3, hany, c, hw]
      | false =>
        rw [hp] at c
        simp -implicitDefEqProofs [hlt2, e2, hm, h3, c, hw]
        exact rnd_next (i + 1) ⟨hlt, hst hp⟩ (by omega) (by simp -implicitDefEqProofs [liveOf])
    · have hi' : i = l.length := by omega
      subst hi'
      rw [List.take_length] at hn
      simp -implicitDefEqProofs [hn]
theorem contains33 (l : List Cond) (z : Bool) (g : Nat) (F : List V) (hw : (Γ mx).plain g = true) (p : Cond → Bool) (hl : l.length ≤ 4294967300) {k : Nat} (hk : l.length + 10 < k)
    (hg : ∀ c ∈ l, evF Tryd.prog (Γ mx) k g [.agg (condE.f c), .ro F] [] = some (.bool (p c), [])) :
    evF Tryd.prog (Γ mx) (k + 2) 33 [roV z l.length (flatE condE l), .fn (.func g) [] [.ro F]] [] = some (.bool (anyL p l), []) := by
  obtain ⟨r, c, hr⟩ := index58 l z g F hw p hl hk hg
  rw [b33 (fun _ _ => rfl) _ _ (by simp), ← hr]
  simp -implicitDefEqProofs [c]
end Go.Ev.Tryd.Hd
