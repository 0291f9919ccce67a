import Derived.Test.YtflmadkbppnmcaaCkP
set_option linter.unusedSimpArgs false
set_option linter.unusedVariables false
namespace Go.Ev.Try
open Go Go.Ev
structure Bd where
  f : Nat
  t : Nat
  n : Int
def upd {α : Type} (g : Nat → α) (i : Nat) (v : α) : Nat → α := fun j => if j = i then v else g j
@[simp] theorem upd_same {α : Type} (g : Nat → α) (i : Nat) (v : α) : upd g i v i = v := by simp [upd]
theorem upd_ne {α : Type} (g : Nat → α) {i j : Nat} (h : j ≠ i) (v : α) : upd g i v j = g j := by simp [upd, h]
abbrev Mat := Nat → Nat → Int
def upd2 (d : Mat) (i j : Nat) (v : Int) : Mat := fun a b => if a = i ∧ b = j then v else d a b
def Sol (L : List Bd) (x : Nat → Int) : Prop := ∀ b ∈ L, x b.t - x b.f ≤ b.n
def SolM (n : Nat) (d : Mat) (x : Nat → Int) : Prop := ∀ i j, i < n → j < n → x j - x i ≤ d i j
def phase (k : Nat) (d : Mat) : Mat := fun a b => min (d a b) (d a k + d k b)
def fw (n : Nat) (D : Mat) : Nat → Option Mat
  | 0 => some D
  | k + 1 => match fw n D k with
    | some d => if (List.range n).all (fun i => decide (0 ≤ phase k d i i)) = true then some (phase k d) else none
    | none => none
theorem fw_none {n : Nat} {D : Mat} {k : Nat} (h : fw n D k = none) : ∀ m, k ≤ m → fw n D m = none := by
  intro m hm
  induction m with
  | zero => obtain rfl : k = 0 := by omega
            exact h
  | succ m ih =>
    rcases Nat.lt_or_ge k (m + 1) with hk | hk
    · rw [fw, ih (by omega)]
    · obtain rfl : k = m + 1 := by omega
      exact h
structure Inv1 (n : Nat) (D : Mat) (k : Nat) (d : Mat) : Prop where
  diag : ∀ i, i < n → 0 ≤ d i i
  diag0 : ∀ i, i < n → d i i ≤ D i i
  le : ∀ i j, i < n → j < n → d i j ≤ D i j
  sol : ∀ x, SolM n D x → SolM n d x
  tri : ∀ i j p, i < n → j < n → p < k → d i j ≤ d i p + d p j
  from_ : ∀ i j, i < n → j < n → D i j ≤ d i j ∨ ∃ p, p < k ∧ d i p + d p j ≤ d i j
theorem fw_inv {n : Nat} {D : Mat} (h0 : ∀ i, i < n → 0 ≤ D i i) : ∀ k, k ≤ n → ∀ d, fw n D k = some d → Inv1 n D k d
  | 0, _, d, h => by
    cases h
    exact ⟨h0, fun _ _ => Int.le_refl _, fun _ _ _ _ => Int.le_refl _, fun _ h => h, fun _ _ _ _ _ h => by omega, fun _ _ _ _ => .inl (Int.le_refl _)⟩
  | k + 1, hk, d', h => by
    rw [fw] at h
    cases hd : fw n D k with
    | none => rw [hd] at h; cases h
    | some d =>
      rw [hd] at h
      simp only at h
      split at h
      · rename_i hall
        cases h
        have ih := fw_inv h0 k (by omega) d hd
        have hkk := ih.diag k (by omega)
        refine ⟨fun i hi => by simpa using List.all_eq_true.1 hall i (List.mem_range.2 hi), fun i hi => Int.le_trans (Int.min_le_left _ _) (ih.diag0 i hi), fun i j hi hj => Int.le_trans (Int.min_le_left _ _) (ih.le i j hi hj), fun x hx i j hi hj => ?_, fun i j p hi hj hp => ?_, fun i j hi hj => ?_⟩
        · have h1 := ih.sol x hx i j hi hj
          have h2 := ih.sol x hx i k hi (by omega)
          have h3 := ih.sol x hx k j (by omega) hj
          simp only [phase]
          omega
        · simp only [phase]
          rcases Nat.lt_or_ge p k with hpk | hpk
          · have t1 := ih.tri i j p hi hj hpk
            have t2 := ih.tri i k p hi (by omega) hpk
            have t3 := ih.tri k j p (by omega) hj hpk
            have t4 := ih.tri k k p (by omega) (by omega) hpk
            omega
          · obtain rfl : p = k := by omega
            omega
        · simp only [phase]
          rcases Int.le_total (d i j) (d i k + d k j) with hm | hm
          · rw [Int.min_eq_left hm]
            rcases ih.from_ i j hi hj with h1 | ⟨p, hp, h1⟩
            · exact .inl h1
            · exact .inr ⟨p, by omega, by omega⟩
          · rw [Int.min_eq_right hm]
            exact .inr ⟨k, by omega, by omega⟩
      · cases h
theorem fw_some {n : Nat} {D d : Mat} (h0 : ∀ i, i < n → 0 ≤ D i i) (h : fw n D n = some d) : Inv1 n D n d := fw_inv h0 n (Nat.le_refl _) d h
theorem fw_no {n : Nat} {D : Mat} (h0 : ∀ i, i < n → 0 ≤ D i i) : ∀ k, k ≤ n → fw n D k = none → ∀ x, ¬ SolM n D x
  | 0, _, h => by cases h
  | k + 1, hk, h => by
    intro x hx
    rw [fw] at h
    cases hd : fw n D k with
    | none => exact fw_no h0 k (by omega) hd x hx
    | some d =>
      rw [hd] at h
      simp only at h
      split at h
      · cases h
      · rename_i hall
        have ih := fw_inv h0 k (by omega) d hd
        refine hall (List.all_eq_true.2 fun i hi => decide_eq_true ?_)
        have hi' := List.mem_range.1 hi
        have h1 := ih.sol x hx i k hi' (by omega)
        have h2 := ih.sol x hx k i (by omega) hi'
        have h3 := ih.diag i hi'
        simp only [phase]
        omega
structure Tame (n : Nat) (D : Mat) : Prop where
  diag : ∀ i, i < n → 0 ≤ D i i
  out : ∀ i, i < n → D 0 i ≤ 4294967295
  back : ∀ i, i < n → D i 0 ≤ 4294967295
  low : ∀ i j, i < n → j < n → -8589934590 ≤ D i j
  high : ∀ i j, i < n → j < n → D i j ≤ 17179869180
theorem fw_tame {n : Nat} {D : Mat} (t : Tame n D) {k : Nat} (hk : k ≤ n) {d : Mat} (h : fw n D k = some d) : ∀ i j, i < n → j < n → -17179869180 ≤ d i j ∧ d i j ≤ 17179869180 := by
  have iv := fw_inv t.diag k hk d h
  intro i j hi hj
  refine ⟨?_, Int.le_trans (iv.le i j hi hj) (t.high i j hi hj)⟩
  rcases iv.from_ i j hi hj with h1 | ⟨p, hp, h1⟩
  · have := t.low i j hi hj; omega
  · have s1 := iv.tri i 0 p hi (by omega) hp
    have s2 := iv.tri 0 j p (by omega) hj hp
    have s3 := iv.tri i i 0 hi hi (by omega)
    have s4 := iv.tri j j 0 hj hj (by omega)
    have s5 := iv.diag i hi
    have s6 := iv.diag j hj
    have a1 := Int.le_trans (iv.le p 0 (by omega) (by omega)) (t.back p (by omega))
    have a2 := Int.le_trans (iv.le 0 p (by omega) (by omega)) (t.out p (by omega))
    have a3 := Int.le_trans (iv.le 0 i (by omega) hi) (t.out i hi)
    have a4 := Int.le_trans (iv.le j 0 hj (by omega)) (t.back j hj)
    omega
def matOf (init : Mat) (L : List Bd) : Mat := L.foldl (fun D b => upd2 D b.f b.t (min (D b.f b.t) b.n)) init
theorem matOf_cons (init : Mat) (b : Bd) (L : List Bd) : matOf init (b :: L) = matOf (upd2 init b.f b.t (min (init b.f b.t) b.n)) L := rfl
theorem matOf_le (init : Mat) : ∀ (L : List Bd) (init : Mat) (i j : Nat), matOf init L i j ≤ init i j
  | [], init, i, j => Int.le_refl _
  | b :: L, init, i, j => by
    rw [matOf_cons]
    refine Int.le_trans (matOf_le init L _ i j) ?_
    simp only [upd2]
    split
    · rename_i h; rw [← h.1, ← h.2]; exact Int.min_le_left _ _
    · exact Int.le_refl _
theorem matOf_mem : ∀ (L : List Bd) (init : Mat) (b : Bd), b ∈ L → matOf init L b.f b.t ≤ b.n
  | c :: L, init, b, h => by
    rw [matOf_cons]
    rcases List.mem_cons.1 h with rfl | h
    · refine Int.le_trans (matOf_le init L _ _ _) ?_
      simp only [upd2, and_self, if_true]
      exact Int.min_le_right _ _
    · exact matOf_mem L _ b h
theorem matOf_from : ∀ (L : List Bd) (init : Mat) (i j : Nat), matOf init L i j = init i j ∨ ∃ b ∈ L, b.f = i ∧ b.t = j ∧ matOf init L i j = b.n
  | [], init, i, j => .inl rfl
  | c :: L, init, i, j => by
    rw [matOf_cons]
    rcases matOf_from L (upd2 init c.f c.t (min (init c.f c.t) c.n)) i j with h | ⟨b, hb, h1, h2, h3⟩
    · rw [h]
      simp only [upd2]
      split
      · rename_i hc
        obtain ⟨rfl, rfl⟩ := hc
        rcases Int.le_total (init c.f c.t) c.n with hm | hm
        · rw [Int.min_eq_left hm]; exact .inl rfl
        · rw [Int.min_eq_right hm]; exact .inr ⟨c, by simp, rfl, rfl, rfl⟩
      · exact .inl rfl
    · exact .inr ⟨b, by simp [hb], h1, h2, h3⟩
structure Fit (n : Nat) (L : List Bd) : Prop where
  pos : 0 < n
  at_ : ∀ b ∈ L, b.f < n ∧ b.t < n
  loop : ∀ b ∈ L, b.f = b.t → 0 ≤ b.n
  lo : ∀ b ∈ L, -8589934590 ≤ b.n
  hi : ∀ b ∈ L, b.n ≤ 8589934590
  out : ∀ i, 0 < i → i < n → ⟨0, i, 4294967295⟩ ∈ L
  back : ∀ i, 0 < i → i < n → ⟨i, 0, 4294967295⟩ ∈ L
def net0 : Mat := fun i j => if i = j then 0 else 17179869180
theorem Fit.tame {n : Nat} {L : List Bd} (h : Fit n L) : Tame n (matOf net0 L) where
  diag i hi := by
    rcases matOf_from L net0 i i with h1 | ⟨b, hb, h1, h2, h3⟩
    · rw [h1]; simp [net0]
    · rw [h3]; exact h.loop b hb (by omega)
  out i hi := by
    rcases Nat.eq_zero_or_pos i with rfl | hp
    · refine Int.le_trans (matOf_le net0 L net0 0 0) ?_; simp [net0]
    · exact matOf_mem L net0 _ (h.out i hp hi)
  back i hi := by
    rcases Nat.eq_zero_or_pos i with rfl | hp
    · refine Int.le_trans (matOf_le net0 L net0 0 0) ?_; simp [net0]
    · exact matOf_mem L net0 _ (h.back i hp hi)
  low i j hi hj := by
    rcases matOf_from L net0 i j with h1 | ⟨b, hb, h1, h2, h3⟩
    · rw [h1]; simp only [net0]; split <;> omega
    · rw [h3]; exact h.lo b hb
  high i j hi hj := by
    refine Int.le_trans (matOf_le net0 L net0 i j) ?_
    simp only [net0]; split <;> omega
theorem sol_mat {n : Nat} {L : List Bd} (h : Fit n L) (x : Nat → Int) : SolM n (matOf net0 L) x ↔ Sol L x := by
  constructor
  · intro hs b hb
    exact Int.le_trans (hs b.f b.t (h.at_ b hb).1 (h.at_ b hb).2) (matOf_mem L net0 b hb)
  · intro hs i j hi hj
    rcases matOf_from L net0 i j with h1 | ⟨b, hb, h1, h2, h3⟩
    · rw [h1]
      simp only [net0]
      have b1 : ∀ i, i < n → x i - x 0 ≤ 4294967295 := fun i hi => by
        rcases Nat.eq_zero_or_pos i with rfl | hp
        · omega
        · exact hs _ (h.out i hp hi)
      have b2 : ∀ i, i < n → x 0 - x i ≤ 4294967295 := fun i hi => by
        rcases Nat.eq_zero_or_pos i with rfl | hp
        · omega
        · exact hs _ (h.back i hp hi)
      have := b1 j hj
      have := b2 i hi
      split
      · rename_i e; subst e; omega
      · omega
    · rw [h3, ← h1, ← h2]; exact hs b hb
def closed (n : Nat) (L : List Bd) : Option Mat := fw n (matOf net0 L) n
structure Clo (n : Nat) (L : List Bd) (d : Mat) : Prop where
  most : ∀ x, Sol L x → ∀ i j, i < n → j < n → x j - x i ≤ d i j
  row : ∀ i, i < n → Sol L (d i)
  diag : ∀ i, i < n → d i i = 0
  tri : ∀ i j p, i < n → j < n → p < n → d i j ≤ d i p + d p j
theorem closed_some {n : Nat} {L : List Bd} (h : Fit n L) {d : Mat} (hc : closed n L = some d) : Clo n L d := by
  have iv := fw_some h.tame.diag hc
  refine ⟨fun x hx => iv.sol x ((sol_mat h x).2 hx), fun i hi b hb => ?_, fun i hi => ?_, fun i j p hi hj hp => iv.tri i j p hi hj hp⟩
  · have a := h.at_ b hb
    have h1 := iv.tri i b.t b.f hi a.2 a.1
    have h2 := iv.le b.f b.t a.1 a.2
    have h3 := matOf_mem L net0 b hb
    omega
  · have h1 := iv.diag i hi
    have h2 := iv.diag0 i hi
    have h3 := matOf_le net0 L net0 i i
    simp only [net0, if_true] at h3
    omega
theorem Clo.bound {n : Nat} {L : List Bd} {d : Mat} (h : Fit n L) (c : Clo n L d) {b : Bd} (hb : b ∈ L) : d b.f b.t ≤ b.n := by
  have h1 := c.row b.f (h.at_ b hb).1 b hb
  have h2 := c.diag b.f (h.at_ b hb).1
  omega
theorem closed_none {n : Nat} {L : List Bd} (h : Fit n L) (hc : closed n L = none) : ∀ x, ¬ Sol L x := fun x hx => fw_no h.tame.diag n (Nat.le_refl _) hc x ((sol_mat h x).2 hx)
structure BF where
  x : Nat → Int
  kn : Nat → Bool
  ch : Bool
def relax (s : BF) (b : Bd) : BF := if s.kn b.f = true ∧ (s.kn b.t = false ∨ s.x b.f + b.n < s.x b.t) then ⟨upd s.x b.t (s.x b.f + b.n), upd s.kn b.t true, true⟩ else s
def still (s : BF) : BF := ⟨s.x, s.kn, false⟩
def far (L : List Bd) : Nat → BF → Option (Nat → Int)
  | 0, _ => none
  | r + 1, s => if (L.foldl relax (still s)).ch = true then far L r (L.foldl relax (still s)) else some (L.foldl relax (still s)).x
def far0 : BF := ⟨fun _ => 0, fun i => i == 0, false⟩
structure Fair (L : List Bd) (s : BF) : Prop where
  kn0 : s.kn 0 = true
  x0 : s.x 0 ≤ 0
  le : ∀ y, Sol L y → ∀ i, s.kn i = true → y i - y 0 ≤ s.x i
theorem Fair.relax {L : List Bd} {s : BF} (h : Fair L s) {b : Bd} (hb : b ∈ L) : Fair L (relax s b) := by
  unfold Try.relax
  split
  · rename_i hc
    refine ⟨?_, ?_, fun y hy i hi => ?_⟩
    · simp only [upd]; split
      · rfl
      · exact h.kn0
    · simp only [upd]; split
      · rename_i h0
        rcases hc.2 with h1 | h1
        · rw [← h0, h.kn0] at h1; cases h1
        · rw [← h0] at h1; have := h.x0; omega
      · exact h.x0
    · simp only [upd] at hi ⊢
      split
      · rename_i h0
        subst h0
        have h1 := h.le y hy b.f hc.1
        have h2 := hy b hb
        omega
      · rename_i h0
        rw [if_neg h0] at hi
        exact h.le y hy i hi
  · exact h
theorem Fair.fold {L : List Bd} : ∀ (M : List Bd) {s : BF}, Fair L s → (∀ b ∈ M, b ∈ L) → Fair L (M.foldl Try.relax s)
  | [], _, h, _ => h
  | b :: M, _, h, hm => Fair.fold M (h.relax (hm b (by simp))) fun c hc => hm c (by simp [hc])
theorem Fair.still {L : List Bd} {s : BF} (h : Fair L s) : Fair L (still s) := ⟨h.kn0, h.x0, h.le⟩
theorem fair0 (L : List Bd) : Fair L far0 := ⟨rfl, Int.le_refl _, fun y _ i hi => by
  have : i = 0 := by simpa [far0] using hi
  subst this
  simp [far0]⟩
theorem relax_ch (s : BF) (b : Bd) (h : (relax s b).ch = false) : relax s b = s ∧ ¬ (s.kn b.f = true ∧ (s.kn b.t = false ∨ s.x b.f + b.n < s.x b.t)) := by
  unfold relax at *
  split at h
  · cases h
  · rename_i hc
    rw [if_neg hc]
    exact ⟨rfl, hc⟩
theorem relax_keeps (s : BF) (b : Bd) (h : s.ch = true) : (relax s b).ch = true := by
  unfold relax; split
  · rfl
  · exact h
theorem fold_keeps : ∀ (L : List Bd) (s : BF), s.ch = true → (L.foldl relax s).ch = true
  | [], _, h => h
  | b :: L, s, h => fold_keeps L _ (relax_keeps s b h)
theorem fold_ch : ∀ (L : List Bd) (s : BF), (L.foldl relax s).ch = false → L.foldl relax s = s ∧ ∀ b ∈ L, ¬ (s.kn b.f = true ∧ (s.kn b.t = false ∨ s.x b.f + b.n < s.x b.t))
  | [], s, _ => ⟨rfl, fun b hb => by simp at hb⟩
  | b :: L, s, h => by
    have h1 : (relax s b).ch = false := by
      cases hc : (relax s b).ch with
      | false => rfl
      | true => rw [List.foldl_cons, fold_keeps L _ hc] at h; cases h
    obtain ⟨e, hn⟩ := relax_ch s b h1
    rw [List.foldl_cons, e] at h ⊢
    obtain ⟨e2, hn2⟩ := fold_ch L s h
    exact ⟨e2, fun c hc => by
      rcases List.mem_cons.1 hc with rfl | hc
      · exact hn
      · exact hn2 c hc⟩
theorem far_some {n : Nat} {L : List Bd} (hf : Fit n L) : ∀ (r : Nat) (s : BF) (x : Nat → Int), Fair L s → far L r s = some x → Sol L x ∧ x 0 = 0 ∧ ∀ y, Sol L y → ∀ i, i < n → y i - y 0 ≤ x i
  | r + 1, s, x, hs, h => by
    rw [far] at h
    have hs' := Fair.fold L hs.still fun b hb => hb
    split at h
    · exact far_some hf r _ x hs' h
    · rename_i hc
      obtain ⟨e, hn⟩ := fold_ch L (still s) (by simpa using hc)
      cases h
      rw [e] at hs' ⊢
      generalize still s = u at *
      have hk : ∀ i, i < n → u.kn i = true := fun i hi => by
        rcases Nat.eq_zero_or_pos i with rfl | hp
        · exact hs'.kn0
        · cases hu : u.kn i with
          | true => rfl
          | false => exact absurd ⟨hs'.kn0, .inl hu⟩ (hn _ (hf.out i hp hi))
      have hsol : Sol L u.x := fun b hb => by
        have h1 := hn b hb
        have h2 := hk b.f (hf.at_ b hb).1
        have h3 := hk b.t (hf.at_ b hb).2
        by_cases hlt : u.x b.f + b.n < u.x b.t
        · exact absurd ⟨h2, .inr hlt⟩ h1
        · omega
      refine ⟨hsol, ?_, fun y hy i hi => hs'.le y hy i (hk i hi)⟩
      have h1 := hs'.le _ hsol 0 hs'.kn0
      have h2 := hs'.x0
      have h3 := hs'.le _ hsol 0 (hk 0 hf.pos)
      rcases Nat.lt_or_ge 1 n with hn1 | hn1
      · have h4 := hs'.le _ hsol 1 (hk 1 hn1); omega
      · omega
structure Peak (n : Nat) (L : List Bd) (δ : Nat → Int) : Prop where
  sol : Sol L δ
  zero : δ 0 = 0
  most : ∀ y, Sol L y → ∀ i, i < n → y i - y 0 ≤ δ i
def tight (δ : Nat → Int) (s : BF) (i : Nat) : Bool := s.kn i && decide (s.x i = δ i)
def slack (n : Nat) (δ : Nat → Int) (s : BF) : Nat := (List.range n).countP fun i => !tight δ s i
theorem tight_relax {n : Nat} {L : List Bd} {δ : Nat → Int} (hp : Peak n L δ) {s : BF} (hs : Fair L s) {b : Bd} (hb : b ∈ L) {i : Nat} (h : tight δ s i = true) : tight δ (relax s b) i = true := by
  unfold relax
  split
  · rename_i hc
    simp only [tight, Bool.and_eq_true, decide_eq_true_eq] at h ⊢
    by_cases e : i = b.t
    · subst e
      exfalso
      have h1 := hs.le δ hp.sol b.f hc.1
      have h2 := hp.sol b hb
      have h3 := hp.zero
      rcases hc.2 with h4 | h4
      · rw [h.1] at h4; cases h4
      · rw [h.2] at h4; omega
    · rw [upd_ne _ e, upd_ne _ e]; exact h
  · exact h
theorem tight_fold {n : Nat} {L : List Bd} {δ : Nat → Int} (hp : Peak n L δ) {i : Nat} : ∀ (M : List Bd) {s : BF}, Fair L s → (∀ b ∈ M, b ∈ L) → tight δ s i = true → tight δ (M.foldl relax s) i = true
  | [], _, _, _, h => h
  | b :: M, s, hs, hm, h => tight_fold hp M (hs.relax (hm b (by simp))) (fun c hc => hm c (by simp [hc])) (tight_relax hp hs (hm b (by simp)) h)
theorem tight_now {n : Nat} {L : List Bd} {δ : Nat → Int} (hp : Peak n L δ) {s : BF} (hs : Fair L s) {b : Bd} (hb : b ∈ L) (h : tight δ s b.f = true) (he : δ b.t = δ b.f + b.n) : tight δ (relax s b) b.t = true := by
  simp only [tight, Bool.and_eq_true, decide_eq_true_eq] at h
  unfold relax
  split
  · rename_i hc
    simp [tight, h.2, he]
  · rename_i hc
    simp only [tight, Bool.and_eq_true, decide_eq_true_eq]
    have hk : s.kn b.t = true := by
      cases hk : s.kn b.t with
      | true => rfl
      | false => exact absurd ⟨h.1, .inl hk⟩ hc
    refine ⟨hk, ?_⟩
    have h1 := hs.le δ hp.sol b.t hk
    have h2 := hp.zero
    by_cases hlt : s.x b.f + b.n < s.x b.t
    · exact absurd ⟨h.1, .inr hlt⟩ hc
    · rw [h.2] at hlt; omega
theorem tight_fold_new {n : Nat} {L : List Bd} {δ : Nat → Int} (hp : Peak n L δ) {b : Bd} (he : δ b.t = δ b.f + b.n) : ∀ (M : List Bd) {s : BF}, Fair L s → (∀ c ∈ M, c ∈ L) → b ∈ M → tight δ s b.f = true → tight δ (M.foldl relax s) b.t = true
  | c :: M, s, hs, hm, hb, h => by
    have hc := hm c (by simp)
    have hm' : ∀ x ∈ M, x ∈ L := fun x hx => hm x (by simp [hx])
    rw [List.foldl_cons]
    rcases List.mem_cons.1 hb with rfl | hb
    · exact tight_fold hp M (hs.relax hc) hm' (tight_now hp hs hc h he)
    · exact tight_fold_new hp he M (hs.relax hc) hm' hb (tight_relax hp hs hc h)
theorem tight_zero {n : Nat} {L : List Bd} {δ : Nat → Int} (hp : Peak n L δ) {s : BF} (hs : Fair L s) : tight δ s 0 = true := by
  simp only [tight, Bool.and_eq_true, decide_eq_true_eq]
  have h1 := hs.le δ hp.sol 0 hs.kn0
  have h2 := hs.x0
  have h3 := hp.zero
  exact ⟨hs.kn0, by omega⟩
theorem tight_edge {n : Nat} {L : List Bd} (hf : Fit n L) {δ : Nat → Int} (hp : Peak n L δ) {s : BF} (hs : Fair L s) {j : Nat} (hj : j < n) (h : tight δ s j = false) : ∃ b ∈ L, tight δ s b.f = true ∧ tight δ s b.t = false ∧ δ b.t = δ b.f + b.n := by
  apply Classical.byContradiction
  intro hno
  have hy : Sol L (fun i => if tight δ s i = true then δ i else δ i + 1) := by
    intro b hb
    have h1 := hp.sol b hb
    simp only
    split
    · split <;> omega
    · rename_i ht
      split
      · rename_i hf2
        have : δ b.t ≠ δ b.f + b.n := fun e => hno ⟨b, hb, hf2, by simpa using ht, e⟩
        omega
      · omega
  have h1 := hp.most _ hy j hj
  simp only [h, tight_zero hp hs, if_true] at h1
  have h2 := hp.zero
  simp only [Bool.false_eq_true, if_false] at h1
  omega
theorem slack_lt {n : Nat} {L : List Bd} (hf : Fit n L) {δ : Nat → Int} (hp : Peak n L δ) {s : BF} (hs : Fair L s) (hc : (L.foldl relax (still s)).ch = true) : slack n δ (L.foldl relax (still s)) < slack n δ s := by
  have hst : ∀ i, tight δ (still s) i = tight δ s i := fun i => rfl
  have hmono : ∀ i, tight δ s i = true → tight δ (L.foldl relax (still s)) i = true := fun i h => tight_fold hp L hs.still (fun _ h => h) (by rw [hst]; exact h)
  by_cases hall : ∀ j, j < n → tight δ s j = true
  · exfalso
    have : ∀ (M : List Bd) (u : BF), (∀ b ∈ M, b ∈ L) → Fair L u → u.ch = false → (∀ j, j < n → tight δ u j = true) → (M.foldl relax u).ch = false := by
      intro M
      induction M with
      | nil => intro u _ _ h _; exact h
      | cons b M ih =>
        intro u hm hu h ha
        have hb := hm b (by simp)
        have e : relax u b = u := by
          unfold relax
          rw [if_neg]
          intro hc
          have hf1 := ha b.f (hf.at_ b hb).1
          have hf2 := ha b.t (hf.at_ b hb).2
          simp only [tight, Bool.and_eq_true, decide_eq_true_eq] at hf1 hf2
          have := hp.sol b hb
          rcases hc.2 with h4 | h4
          · rw [hf2.1] at h4; cases h4
          · rw [hf2.2, hf1.2] at h4; omega
        rw [List.foldl_cons, e]
        exact ih u (fun c hc => hm c (by simp [hc])) hu h ha
    have hn := this L (still s) (fun _ h => h) hs.still rfl (fun j hj => by rw [hst]; exact hall j hj)
    rw [hn] at hc; cases hc
  · obtain ⟨j, hj⟩ : ∃ j, ¬ (j < n → tight δ s j = true) := Classical.not_forall.1 hall
    have hj1 : j < n := Classical.byContradiction fun h => hj fun h2 => absurd h2 h
    have hj2 : tight δ s j = false := by
      cases h : tight δ s j with
      | false => rfl
      | true => exact absurd (fun _ => h) hj
    obtain ⟨b, hb, h1, h2, h3⟩ := tight_edge hf hp hs hj1 hj2
    have h4 := tight_fold_new hp h3 L hs.still (fun _ h => h) hb (by rw [hst]; exact h1)
    unfold slack
    have key : ∀ (l : List Nat), b.t ∈ l → (l.countP fun i => !tight δ (L.foldl relax (still s)) i) < (l.countP fun i => !tight δ s i) := by
      intro l
      induction l with
      | nil => intro h; cases h
      | cons a l ih =>
        intro hm
        have hle : (l.countP fun i => !tight δ (L.foldl relax (still s)) i) ≤ (l.countP fun i => !tight δ s i) := by
          refine List.countP_mono_left fun i _ h => ?_
          cases ht : tight δ s i with
          | false => rfl
          | true => rw [hmono i ht] at h; cases h
        rw [List.countP_cons, List.countP_cons]
        by_cases e : a = b.t
        · subst e
          rw [h4, h2]
          simp only [Bool.not_true, Bool.not_false, Bool.false_eq_true, if_false, if_true]
          omega
        · have := ih ((List.mem_cons.1 hm).resolve_left fun h => e h.symm)
          cases ht : tight δ s a with
          | true => rw [hmono a ht]; simp only [Bool.not_true, Bool.false_eq_true, if_false]; omega
          | false => cases ht2 : tight δ (L.foldl relax (still s)) a <;> simp only [Bool.not_true, Bool.not_false, Bool.false_eq_true, if_false, if_true] <;> omega
    exact key _ (List.mem_range.2 (hf.at_ b hb).2)
theorem far_rest {n : Nat} {L : List Bd} (hf : Fit n L) {δ : Nat → Int} (hp : Peak n L δ) : ∀ (r : Nat) (s : BF), Fair L s → slack n δ s < r → ∃ x, far L r s = some x
  | r + 1, s, hs, h => by
    rw [far]
    split
    · rename_i hc
      exact far_rest hf hp r _ (Fair.fold L hs.still fun _ h => h) (by have := slack_lt hf hp hs hc; omega)
    · exact ⟨_, rfl⟩
theorem far_peak {n : Nat} {L : List Bd} (hf : Fit n L) {δ : Nat → Int} (hp : Peak n L δ) : ∃ x, far L (n + 1) far0 = some x ∧ ∀ i, i < n → x i = δ i := by
  obtain ⟨x, hx⟩ := far_rest hf hp (n + 1) far0 (fair0 L) (by
    have : slack n δ far0 ≤ (List.range n).length := List.countP_le_length
    rw [List.length_range] at this; omega)
  refine ⟨x, hx, fun i hi => ?_⟩
  obtain ⟨h1, h2, h3⟩ := far_some hf _ _ _ (fair0 L) hx
  have h4 := h3 δ hp.sol i hi
  have h5 := hp.most x h1 i hi
  have h6 := hp.zero
  omega
theorem far_no {n : Nat} {L : List Bd} (hf : Fit n L) (h : ∀ x, ¬ Sol L x) : far L (n + 1) far0 = none := by
  cases hx : far L (n + 1) far0 with
  | none => rfl
  | some x => exact absurd (far_some hf _ _ _ (fair0 L) hx).1 (h x)
def turned (L : List Bd) : List Bd := L.map fun b => ⟨b.t, b.f, b.n⟩
theorem sol_turned {L : List Bd} {x : Nat → Int} : Sol (turned L) x ↔ Sol L (fun i => - x i) := by
  constructor
  · intro h b hb
    have := h ⟨b.t, b.f, b.n⟩ (List.mem_map.2 ⟨b, hb, rfl⟩)
    simp only at this ⊢
    omega
  · intro h b hb
    obtain ⟨c, hc, rfl⟩ := List.mem_map.1 hb
    have := h c hc
    simp only at this ⊢
    omega
theorem Fit.turned {n : Nat} {L : List Bd} (h : Fit n L) : Fit n (turned L) where
  pos := h.pos
  at_ b hb := by obtain ⟨c, hc, rfl⟩ := List.mem_map.1 hb; exact ⟨(h.at_ c hc).2, (h.at_ c hc).1⟩
  loop b hb e := by obtain ⟨c, hc, rfl⟩ := List.mem_map.1 hb; exact h.loop c hc e.symm
  lo b hb := by obtain ⟨c, hc, rfl⟩ := List.mem_map.1 hb; exact h.lo c hc
  hi b hb := by obtain ⟨c, hc, rfl⟩ := List.mem_map.1 hb; exact h.hi c hc
  out i h1 h2 := List.mem_map.2 ⟨_, h.back i h1 h2, rfl⟩
  back i h1 h2 := List.mem_map.2 ⟨_, h.out i h1 h2, rfl⟩
theorem Clo.peak {n : Nat} {L : List Bd} {d : Mat} (hf : Fit n L) (c : Clo n L d) : Peak n L (d 0) := ⟨c.row 0 hf.pos, c.diag 0 hf.pos, fun y hy i hi => c.most y hy 0 i hf.pos hi⟩
theorem Clo.peak' {n : Nat} {L : List Bd} {d : Mat} (hf : Fit n L) (c : Clo n L d) : Peak n (turned L) (fun i => d i 0) where
  sol := sol_turned.2 fun b hb => by
    have h1 := c.tri b.f 0 b.t (hf.at_ b hb).1 hf.pos (hf.at_ b hb).2
    have h2 := c.bound hf hb
    show - d b.t 0 - - d b.f 0 ≤ b.n
    omega
  zero := c.diag 0 hf.pos
  most y hy i hi := by
    have := c.most _ (sol_turned.1 hy) i 0 hi hf.pos
    show y i - y 0 ≤ d i 0
    omega
theorem far_closed {n : Nat} {L : List Bd} (hf : Fit n L) : match closed n L with
    | some d => Clo n L d ∧ (∃ x, far L (n + 1) far0 = some x ∧ ∀ i, i < n → x i = d 0 i) ∧ ∃ y, far (turned L) (n + 1) far0 = some y ∧ ∀ i, i < n → y i = d i 0
    | none => (∀ x, ¬ Sol L x) ∧ far L (n + 1) far0 = none := by
  cases hc : closed n L with
  | none => exact ⟨closed_none hf hc, far_no hf (closed_none hf hc)⟩
  | some d =>
    have c := closed_some hf hc
    exact ⟨c, far_peak hf (c.peak hf), far_peak hf.turned (c.peak' hf)⟩
end Go.Ev.Try
