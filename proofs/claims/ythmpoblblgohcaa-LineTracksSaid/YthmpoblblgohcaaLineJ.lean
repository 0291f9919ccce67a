/-
  THE LINE SEAT: the law LineTracks (own work).
-/
import Derived.Test.YthmpoblblgohcaaLineI
set_option linter.unusedSimpArgs false
set_option linter.unusedVariables false
set_option maxRecDepth 100000
set_option maxHeartbeats 4000000
namespace Go.Ev.Try
open Go Go.Ev Go.Proofs

/-- A map from 0, 1, .. to the numbers of a list. -/
def ents (b : Nat) : List Int → List (V × V × Nat)
  | [] => []
  | e :: E => (.int .i64 (b : Int), .int .i64 e, b) :: ents (b + 1) E
theorem ents_length (E : List Int) : ∀ b, (ents b E).length = E.length := by
  induction E with
  | nil => intro b; rfl
  | cons e E ih => intro b; simp [ents, ih]
@[simp] theorem ents_len (b : Nat) (E : List Int) : (ents b E).length = E.length := ents_length E b
@[simp] theorem ents_map (f : V × V × Nat → V × V × Nat) (hf : ∀ a b c, f (.int .i64 a, .int .i64 b, c) = (.int .i64 a, .int .i64 b, c)) (E : List Int) : ∀ b, (ents b E).map f = ents b E := by
  induction E with
  | nil => intro b; rfl
  | cons e E ih => intro b; simp [ents, ih, hf]
@[simp high] theorem ents_ren (ρ : Nat → Option Nat) (b c : Nat) (E : List Int) : Blk.ren ρ (.map (ents b E) c) = .map (ents b E) c := by
  rw [Blk.ren, ents_map _ (fun a b c => rfl)]
@[simp] theorem ents_flat {β : Type} (f : V × V × Nat → List β) (hf : ∀ a b c, f (.int .i64 a, .int .i64 b, c) = []) (E : List Int) : ∀ b, (ents b E).flatMap f = [] := by
  induction E with
  | nil => intro b; rfl
  | cons e E ih => intro b; simp [ents, ih, hf]
@[simp high] theorem ents_refs (b c : Nat) (E : List Int) : Blk.refs (.map (ents b E) c) = [] := by
  rw [Blk.refs, ents_flat _ (fun a b c => rfl)]
@[simp high] theorem ents_leaves (b c : Nat) (E : List Int) : Blk.leaves (.map (ents b E) c) = [] := by
  show (Blk.refs (.map (ents b E) c)).map some = []
  rw [ents_refs]; rfl
theorem find_has (E : List Int) : ∀ (b t i : Nat) (h : t < E.length), findE (.int .i64 ((b + t : Nat) : Int)) (ents b E) i = some (some (i + t, .int .i64 E[t])) := by
  induction E with
  | nil => intro b t i h; simp at h
  | cons e E ih =>
    intro b t i h
    cases t with
    | zero => simp [ents, findE, keyEq]
    | succ t =>
      have h1 : ¬ ((b : Int) + ((t : Int) + 1) = b) := by omega
      have := ih (b + 1) t (i + 1) (by simpa using h)
      rw [show b + 1 + t = b + (t + 1) by omega, show i + 1 + t = i + (t + 1) by omega] at this
      rw [ents, findE, keyEq, if_pos rfl]
      rw [show (((b + (t + 1) : Nat) : Int) == (b : Int)) = false by simp; omega]
      simpa using this
theorem find_not (E : List Int) : ∀ (b t i : Nat), b + E.length ≤ t → findE (.int .i64 (t : Int)) (ents b E) i = some none := by
  induction E with
  | nil => intro b t i h; rfl
  | cons e E ih =>
    intro b t i h
    simp at h
    rw [ents, findE, keyEq, if_pos rfl]
    rw [show (((t : Nat) : Int) == (b : Int)) = false by simp; omega]
    exact ih _ _ _ (by omega)
theorem find_at (E : List Int) {t : Nat} (h : t < E.length) : findE (.int .i64 (t : Int)) (ents 0 E) 0 = some (some (t, .int .i64 E[t])) := by
  have := find_has E 0 t 0 h
  simpa using this
theorem find_end (E : List Int) : findE (.int .i64 (E.length : Int)) (ents 0 E) 0 = some none := find_not E 0 _ 0 (by omega)
theorem ents_modify (E : List Int) (y : Int) : ∀ (b t : Nat), (h : t < E.length) → (ents b E).modify t (fun e => (.int .i64 ((b + t : Nat) : Int), .int .i64 y, e.2.2)) = ents b (E.set t y) := by
  induction E with
  | nil => intro b t h; simp at h
  | cons e E ih =>
    intro b t h
    cases t with
    | zero => simp [ents]
    | succ t =>
      have := ih (b + 1) t (by simpa using h)
      rw [show b + 1 + t = b + (t + 1) by omega] at this
      simp only [ents, List.modify_succ_cons, List.set_cons_succ, this]
theorem ents_set (E : List Int) (y : Int) {t : Nat} (h : t < E.length) : setEntry t (fun e => (.int .i64 (t : Int), .int .i64 y, e.2.2)) (ents 0 E) = ents 0 (E.set t y) := by
  have := ents_modify E y 0 t h
  simpa [setEntry] using this
theorem ents_app (E : List Int) (y : Int) : ∀ b, ents b (E ++ [y]) = ents b E ++ [(.int .i64 ((b + E.length : Nat) : Int), .int .i64 y, b + E.length)] := by
  induction E with
  | nil => intro b; simp [ents]
  | cons e E ih => intro b; rw [List.cons_append, ents, ents, ih, List.length_cons, show b + 1 + E.length = b + (E.length + 1) by omega]; rfl
theorem ents_snoc (E : List Int) (y : Int) : ents 0 E ++ [(.int .i64 (E.length : Int), .int .i64 y, E.length)] = ents 0 (E ++ [y]) := by
  rw [ents_app]; simp

/-- The track of one mark. -/
theorem fold_lay_prefix (l : List Mark) : ∀ s, ∃ R, (l.foldl lay s).1 = s.1 ++ R := by
  induction l with
  | nil => intro s; exact ⟨[], by simp⟩
  | cons m l ih =>
    intro s
    obtain ⟨R, hR⟩ := ih (lay s m)
    have : ∃ t, (lay s m).1 = s.1 ++ [t] := by unfold lay; split <;> exact ⟨_, rfl⟩
    obtain ⟨t, ht⟩ := this
    exact ⟨t :: R, by rw [List.foldl_cons, hR, ht]; simp⟩
theorem track_at (S : List Mark) (i : Nat) (h : i < S.length) : ∃ (t : Nat) (ht : i < (tracks S).1.length), (tracks S).1[i] = (t : Int) ∧
    ((∃ hj : t < (tracks (S.take i)).2.length, (tracks (S.take i)).2[t] < S[i].low ∧ (tracks (S.take (i + 1))).2 = (tracks (S.take i)).2.set t S[i].high) ∨
     (t = (tracks (S.take i)).2.length ∧ (tracks (S.take (i + 1))).2 = (tracks (S.take i)).2 ++ [S[i].high])) := by
  have hs := tracks_snoc S i h
  have hl : (tracks (S.take i)).1.length = i := by rw [tracks_length1, List.length_take]; omega
  obtain ⟨R, hR⟩ := fold_lay_prefix (S.drop (i + 1)) (tracks (S.take (i + 1)))
  have hall : (tracks S).1 = (tracks (S.take (i + 1))).1 ++ R := by
    rw [← hR, tracks, tracks, ← List.foldl_append, List.take_append_drop]
  have hlt : i < (tracks S).1.length := by rw [tracks_length1]; exact h
  have hget : ∀ t : Int, (tracks (S.take (i + 1))).1 = (tracks (S.take i)).1 ++ [t] → (tracks S).1[i] = t := by
    intro t ht
    have e : (tracks S).1 = (tracks (S.take i)).1 ++ (t :: R) := by rw [hall, ht]; simp
    simp only [e]
    rw [List.getElem_append_right (by omega)]
    simp [hl]
  cases hf : free (tracks (S.take i)).2 S[i].low with
  | some j =>
    obtain ⟨hj, hlow⟩ := free_lt hf
    rw [lay, hf] at hs
    simp only at hs
    exact ⟨j, hlt, hget _ (by rw [hs]), .inl ⟨hj, hlow, by rw [hs]⟩⟩
  | none =>
    rw [lay, hf] at hs
    simp only at hs
    exact ⟨_, hlt, hget _ (by rw [hs]), .inr ⟨rfl, by rw [hs]⟩⟩
end Go.Ev.Try
