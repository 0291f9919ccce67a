import Derived.Test.YtflmadkbppnmcaaCkM
import Derived.Test.YtflmadkbppnmcaaCkH
set_option linter.unusedSimpArgs false
set_option linter.unusedVariables false
namespace Go.Ev.Try
open Go Go.Ev
structure Right (l : List Event) (ties : List Tie) : Prop where
  hl : l.length ≤ 40
  ht : ties.length ≤ 80
  hc : (insF (clks l)).length ≤ 12
  ev : ∀ e ∈ l, 0 ≤ e.show' ∧ e.show' ≤ 4294967295 ∧ 0 ≤ e.wide' ∧ e.wide' ≤ 4294967295
  tie : ∀ t ∈ ties, -1 ≤ t.a ∧ t.a < l.length ∧ 0 ≤ t.b ∧ t.b < l.length ∧ t.a ≠ t.b ∧ t.low ≤ t.high ∧ -4294967295 ≤ t.low ∧ t.high ≤ 4294967295
theorem firstNZ_zero : ∀ {l : List Int}, firstNZ l = 0 → ∀ x ∈ l, x = 0
  | a :: l, h, x, hx => by
    rw [firstNZ] at h
    split at h
    · rename_i h0
      rcases List.mem_cons.1 hx with rfl | hx
      · exact h0
      · exact firstNZ_zero h x hx
    · rename_i h0; exact absurd h h0
theorem right_of {l : List Event} {ties : List Tie} (h : faultC l ties = 0) : Right l ties := by
  unfold faultC at h
  split at h
  · cases h
  · rename_i hb
    have hz := firstNZ_zero h
    refine ⟨by omega, by omega, by omega, fun e he => ?_, fun t ht => ?_⟩
    · have := hz (evFault e) (by simp; exact .inl ⟨e, he, rfl⟩)
      unfold evFault at this
      split at this
      · cases this
      · split at this
        · cases this
        · omega
    · have := hz (tieFault l.length t) (by simp; exact .inr ⟨t, ht, rfl⟩)
      unfold tieFault at this
      split at this
      · cases this
      · split at this
        · cases this
        · split at this
          · cases this
          · omega
theorem Right.sub {l : List Event} {ties ties' : List Tie} (h : Right l ties) (hs : ∀ t ∈ ties', t ∈ ties) (hn : ties'.length ≤ 80) : Right l ties' := ⟨h.hl, hn, h.hc, h.ev, fun t ht => h.tie t (hs t ht)⟩
def pair (i j : Nat) (lo hi : Int) : List Bd := [⟨i, j, hi⟩, ⟨j, i, -lo⟩]
theorem mem_pair {i j : Nat} {lo hi : Int} {b : Bd} : b ∈ pair i j lo hi ↔ b = ⟨i, j, hi⟩ ∨ b = ⟨j, i, -lo⟩ := by simp [pair]
def nC (l : List Event) : Nat := (insF (clks l)).length
def ix (l : List Event) (e : Event) : Nat := (insF (clks l)).findIdx fun x => decide (x = e.clock)
def atV (c : Nat) (a : Int) : Nat := if a < 0 then 0 else 1 + c + a.toNat
def nV (l : List Event) : Nat := 1 + nC l + l.length
def bd0 (k : Nat) : List Bd := (List.range k).flatMap fun a => pair 0 (a + 1) (-4294967295) 4294967295
def evB (l : List Event) (i : Nat) : List Bd := match l[i]? with
  | some e => pair (1 + ix l e) (1 + nC l + i) (e.show' - e.wide') (e.show' + e.wide')
  | none => []
def bdE (l : List Event) (k : Nat) : List Bd := (List.range k).flatMap (evB l)
def tieB (c : Nat) (t : Tie) : List Bd := pair (atV c t.a) (atV c t.b) t.low t.high
def bdT (c : Nat) (ties : List Tie) : List Bd := ties.flatMap (tieB c)
def bds (l : List Event) (ties : List Tie) : List Bd := bd0 (nC l + l.length) ++ bdE l l.length ++ bdT (nC l) ties
theorem bd0_succ (k : Nat) : bd0 (k + 1) = bd0 k ++ pair 0 (k + 1) (-4294967295) 4294967295 := by simp [bd0, List.range_succ]
theorem bdE_succ (l : List Event) (k : Nat) (h : k < l.length) : bdE l (k + 1) = bdE l k ++ pair (1 + ix l l[k]) (1 + nC l + k) (l[k].show' - l[k].wide') (l[k].show' + l[k].wide') := by
  simp [bdE, List.range_succ, evB, h]
theorem bdT_snoc (c : Nat) (ts : List Tie) (t : Tie) : bdT c (ts ++ [t]) = bdT c ts ++ tieB c t := by simp [bdT]
theorem ix_lt {l : List Event} {e : Event} (h : e ∈ l) : ix l e < nC l := by
  have : e.clock ∈ insF (clks l) := ((insF_facts (clks l)).2 e.clock).2 (List.mem_map.2 ⟨e, h, rfl⟩)
  exact List.findIdx_lt_length_of_exists ⟨_, this, by simp⟩
theorem ix_at {l : List Event} {e : Event} (h : e ∈ l) : (insF (clks l))[ix l e]'(ix_lt h) = e.clock := by
  have := List.findIdx_getElem (xs := insF (clks l)) (p := fun x => decide (x = e.clock)) (w := ix_lt h)
  exact of_decide_eq_true this
theorem ix_not {l : List Event} {e : Event} {i : Nat} (hi : i < (insF (clks l)).length) (h : i < ix l e) : (insF (clks l))[i] ≠ e.clock := by
  have := List.not_of_lt_findIdx (xs := insF (clks l)) (p := fun x => decide (x = e.clock)) h
  exact of_decide_eq_false this
theorem mem_bd0 {k : Nat} {b : Bd} : b ∈ bd0 k ↔ ∃ a, a < k ∧ (b = ⟨0, a + 1, 4294967295⟩ ∨ b = ⟨a + 1, 0, 4294967295⟩) := by
  simp only [bd0, List.mem_flatMap, List.mem_range, mem_pair]
  rfl
theorem mem_bdE {l : List Event} {k : Nat} {b : Bd} (h : b ∈ bdE l k) : ∃ i, ∃ hi : i < l.length, i < k ∧ (b = ⟨1 + ix l l[i], 1 + nC l + i, l[i].show' + l[i].wide'⟩ ∨ b = ⟨1 + nC l + i, 1 + ix l l[i], -(l[i].show' - l[i].wide')⟩) := by
  simp only [bdE, List.mem_flatMap, List.mem_range] at h
  obtain ⟨i, hi, hb⟩ := h
  unfold evB at hb
  cases hg : l[i]? with
  | none => rw [hg] at hb; cases hb
  | some e =>
    obtain ⟨h1, h2⟩ := List.getElem?_eq_some_iff.1 hg
    rw [hg] at hb
    subst h2
    exact ⟨i, h1, hi, mem_pair.1 hb⟩
theorem mem_bdT {c : Nat} {ties : List Tie} {b : Bd} : b ∈ bdT c ties ↔ ∃ t ∈ ties, b = ⟨atV c t.a, atV c t.b, t.high⟩ ∨ b = ⟨atV c t.b, atV c t.a, -t.low⟩ := by
  simp only [bdT, List.mem_flatMap, tieB, mem_pair]
theorem mem_bds {l : List Event} {ties : List Tie} {b : Bd} : b ∈ bds l ties ↔ b ∈ bd0 (nC l + l.length) ∨ b ∈ bdE l l.length ∨ b ∈ bdT (nC l) ties := by
  simp only [bds, List.mem_append, or_assoc]
theorem fit {l : List Event} {ties : List Tie} (h : Right l ties) : Fit (nV l) (bds l ties) := by
  have hat : ∀ t ∈ ties, atV (nC l) t.a < nV l ∧ atV (nC l) t.b < nV l ∧ atV (nC l) t.a ≠ atV (nC l) t.b := fun t ht => by
    have := h.tie t ht
    unfold atV nV
    split <;> split <;> omega
  have key : ∀ b ∈ bds l ties, (b.f < nV l ∧ b.t < nV l) ∧ b.f ≠ b.t ∧ -8589934590 ≤ b.n ∧ b.n ≤ 8589934590 := by
    intro b hb
    rcases mem_bds.1 hb with hb | hb | hb
    · obtain ⟨a, ha, rfl | rfl⟩ := mem_bd0.1 hb <;> refine ⟨⟨?_, ?_⟩, ?_, ?_, ?_⟩ <;> simp only [nV] <;> omega
    · obtain ⟨i, hi, _, hb⟩ := mem_bdE hb
      have h1 := ix_lt (List.getElem_mem hi)
      have h2 := h.ev _ (List.getElem_mem hi)
      rcases hb with rfl | rfl <;> refine ⟨⟨?_, ?_⟩, ?_, ?_, ?_⟩ <;> simp only [nV] <;> omega
    · obtain ⟨t, ht, rfl | rfl⟩ := mem_bdT.1 hb
      · have h1 := hat t ht
        have h2 := h.tie t ht
        refine ⟨⟨h1.1, h1.2.1⟩, h1.2.2, ?_, ?_⟩ <;> simp only <;> omega
      · have h1 := hat t ht
        have h2 := h.tie t ht
        refine ⟨⟨h1.2.1, h1.1⟩, h1.2.2.symm, ?_, ?_⟩ <;> simp only <;> omega
  refine ⟨by simp only [nV]; omega, fun b hb => (key b hb).1, fun b hb e => absurd e (key b hb).2.1, fun b hb => (key b hb).2.2.1, fun b hb => (key b hb).2.2.2, fun i h1 h2 => ?_, fun i h1 h2 => ?_⟩
  · refine mem_bds.2 (.inl (mem_bd0.2 ⟨i - 1, ?_, .inl ?_⟩))
    · simp only [nV] at h2; omega
    · rw [show i - 1 + 1 = i by omega]
  · refine mem_bds.2 (.inl (mem_bd0.2 ⟨i - 1, ?_, .inr ?_⟩))
    · simp only [nV] at h2; omega
    · rw [show i - 1 + 1 = i by omega]
theorem matOf_append (D : Mat) (a b : List Bd) : matOf D (a ++ b) = matOf (matOf D a) b := List.foldl_append ..
theorem nV_le {l : List Event} {ties : List Tie} (h : Right l ties) : nV l ≤ 53 := by have := h.hc; have := h.hl; unfold nV nC; omega
theorem nC_pos {l : List Event} (h : l ≠ []) : 0 < nC l := by
  cases l with
  | nil => exact absurd rfl h
  | cons e l => exact Nat.lt_of_le_of_lt (Nat.zero_le _) (ix_lt (l := e :: l) (e := e) (by simp))
end Go.Ev.Try
