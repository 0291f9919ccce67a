/-
  THE REDACT SEAT: span.Norm, plain and walked (own work).
-/
import Derived.Test.YtnalmdnfoicokaaRdA
set_option linter.unusedSimpArgs false
set_option linter.unusedVariables false
set_option maxRecDepth 100000
set_option maxHeartbeats 4000000
namespace Go.Ev.Try
open Go Go.Ev Go.Proofs

/-! ### Plain -/
def Span.e (s : Span) : Int := s.off + s.len
def mstep (out : List Span) (s : Span) : List Span := match out.getLast? with
  | some p => if s.off ≤ p.e then out.dropLast ++ [⟨p.off, (if p.e < s.e then s.e else p.e) - p.off⟩] else out ++ [s]
  | none => out ++ [s]
def mergeL (l : List Span) : List Span := l.foldl mstep []
def goodsG (l : List Span) : List GSpan := l.filterMap fun s => if h : s.good then some ⟨s, h⟩ else none
noncomputable def sortedS (l : List Span) : List Span := (pdqL cmpG (goodsG l)).map (·.1)
noncomputable def normL (l : List Span) : List Span := mergeL (sortedS l)
theorem mstep_nil (s : Span) : mstep [] s = [s] := rfl
theorem mstep_snoc (O : List Span) (p s : Span) : mstep (O ++ [p]) s = if s.off ≤ p.e then O ++ [⟨p.off, (if p.e < s.e then s.e else p.e) - p.off⟩] else O ++ [p] ++ [s] := by
  simp [mstep]
theorem mergeL_snoc (l : List Span) (s : Span) : mergeL (l ++ [s]) = mstep (mergeL l) s := by simp [mergeL]
theorem ltG (a b : GSpan) : Go.Proofs.ltOf cmpG a b = decide (a.1.off < b.1.off) := by
  show decide (cmpG a b < 0) = _
  unfold cmpG
  rw [Bool.eq_iff_iff, decide_eq_true_eq, decide_eq_true_eq]
  omega
theorem swoG : Go.Sort.SWO (Go.Proofs.ltOf cmpG) where
  irrefl x := by rw [ltG]; simp
  trans x y z h1 h2 := by rw [ltG, decide_eq_true_eq] at *; omega
  ntrans x y z h1 h2 := by rw [ltG, decide_eq_false_iff_not] at *; omega
theorem pdqG (l : List GSpan) : (pdqL cmpG l).Perm l ∧ (pdqL cmpG l).Pairwise (fun a b => a.1.off ≤ b.1.off) := by
  obtain ⟨h1, h2⟩ := Go.Sort.pdq_sorts (Go.Proofs.ltOf cmpG) swoG l.toArray 0 l.toArray.size (Lib.bitLen l.toArray.size) true true (Nat.zero_le _) (Nat.le_refl _) (Or.inl rfl)
  unfold pdqL
  generalize Go.Sort.pdq (Go.Proofs.ltOf cmpG) l.toArray 0 l.toArray.size (Lib.bitLen l.toArray.size) true true = d at *
  have hsz : d.size = l.length := by simpa using h1.1
  have hperm : d.toList.Perm l := by
    have := h1.2.2
    have e1 : (d.extract 0 l.toArray.size).toList = d.toList := by simp [← hsz]
    have e2 : (l.toArray.extract 0 l.toArray.size).toList = l := by simp
    rwa [e1, e2] at this
  refine ⟨hperm, ?_⟩
  rw [List.pairwise_iff_getElem]
  intro i j hi hj hij
  have h := h2 i j (Nat.zero_le _) hij (by simpa [hsz] using hj)
  rw [getElem!_pos d j (by simpa using hj), getElem!_pos d i (by simpa using hi), ltG, decide_eq_false_iff_not] at h
  simpa using h
theorem sortedS_mem (l : List Span) (s : Span) : s ∈ sortedS l ↔ s ∈ l ∧ s.good := by
  unfold sortedS
  rw [List.mem_map]
  constructor
  · rintro ⟨g, hg, rfl⟩
    have := (pdqG _).1.mem_iff.1 hg
    unfold goodsG at this
    obtain ⟨t, ht, hs⟩ := List.mem_filterMap.1 this
    split at hs
    · obtain rfl := Option.some.inj hs; exact ⟨ht, by assumption⟩
    · cases hs
  · rintro ⟨h1, h2⟩
    exact ⟨⟨s, h2⟩, (pdqG _).1.mem_iff.2 (List.mem_filterMap.2 ⟨s, h1, by rw [dif_pos h2]⟩), rfl⟩
theorem sortedS_asc (l : List Span) : (sortedS l).Pairwise (fun a b => a.off ≤ b.off) := by
  unfold sortedS
  rw [List.pairwise_map]
  exact (pdqG _).2
/-- Apart, each behind the one before. -/
def Sep (l : List Span) : Prop := (∀ s ∈ l, s.good) ∧ l.Pairwise (fun a b => a.e < b.off)
def covered (l : List Span) (x : Int) : Prop := ∃ s ∈ l, s.good ∧ s.off ≤ x ∧ x < s.e
theorem covered_append (a b : List Span) (x : Int) : covered (a ++ b) x ↔ covered a x ∨ covered b x := by
  unfold covered
  constructor
  · rintro ⟨s, hs, h⟩
    rcases List.mem_append.1 hs with hs | hs
    · exact .inl ⟨s, hs, h⟩
    · exact .inr ⟨s, hs, h⟩
  · rintro (⟨s, hs, h⟩ | ⟨s, hs, h⟩)
    · exact ⟨s, List.mem_append_left _ hs, h⟩
    · exact ⟨s, List.mem_append_right _ hs, h⟩
theorem covered_one (s : Span) (x : Int) : covered [s] x ↔ s.good ∧ s.off ≤ x ∧ x < s.e := by
  unfold covered; simp
theorem merge_facts (S : List Span) (hg : ∀ s ∈ S, s.good) (ha : S.Pairwise (fun a b => a.off ≤ b.off)) : ∀ n, n ≤ S.length →
    Sep (mergeL (S.take n)) ∧ (mergeL (S.take n)).length ≤ n ∧ (∀ x, covered (mergeL (S.take n)) x ↔ covered (S.take n) x) ∧ (∀ p ∈ mergeL (S.take n), ∀ s ∈ S.drop n, p.off ≤ s.off) := by
  intro n
  induction n with
  | zero => intro _; simp [mergeL, Sep]
  | succ n ih =>
    intro hn
    obtain ⟨⟨i1, i1'⟩, i2, i3, i4⟩ := ih (by omega)
    have hlt : n < S.length := by omega
    have hs := hg _ (List.getElem_mem hlt)
    rw [List.take_succ_eq_append_getElem hlt, mergeL_snoc]
    have hlow : ∀ t ∈ S.drop (n + 1), (S[n]).off ≤ t.off := fun t ht => by
      obtain ⟨j, hj, rfl⟩ := List.mem_iff_getElem.1 ht
      rw [List.getElem_drop]
      rw [List.length_drop] at hj
      exact List.pairwise_iff_getElem.1 ha n (n + 1 + j) hlt (by omega) (by omega)
    have hi4 : ∀ p ∈ mergeL (S.take n), p.off ≤ (S[n]).off := fun p hp => i4 p hp _ (by rw [List.drop_eq_getElem_cons hlt]; exact List.mem_cons_self ..)
    have hi5 : ∀ p ∈ mergeL (S.take n), ∀ t ∈ S.drop (n + 1), p.off ≤ t.off := fun p hp t ht => i4 p hp t (by rw [List.drop_eq_getElem_cons hlt]; exact List.mem_cons_of_mem _ ht)
    generalize S[n] = s at *
    generalize mergeL (S.take n) = M at *
    have hcov : ∀ x, covered (S.take n ++ [s]) x ↔ covered M x ∨ (s.good ∧ s.off ≤ x ∧ x < s.e) := fun x => by rw [covered_append, covered_one, i3]
    simp only [hcov]
    rcases List.eq_nil_or_concat M with rfl | ⟨O, p, rfl⟩
    · rw [mstep_nil]
      refine ⟨⟨by simpa using hs, by simp⟩, by simp, fun x => ?_, by simpa using hlow⟩
      rw [covered_one]; simp [covered]
    · rw [List.concat_eq_append] at *
      rw [mstep_snoc]
      have hp := i1 p (by simp)
      have hO := fun q (hq : q ∈ O) => i1 q (by simp [hq])
      obtain ⟨hOO, _, hOp⟩ := List.pairwise_append.1 i1'
      have hps := hi4 p (by simp)
      split
      · rename_i hle
        obtain ⟨⟨g1, g2, g3, g4⟩, g5⟩ := hp
        obtain ⟨⟨k1, k2, k3, k4⟩, k5⟩ := hs
        have hE : p.e ≤ (if p.e < s.e then s.e else p.e) ∧ s.e ≤ (if p.e < s.e then s.e else p.e) ∧ ((if p.e < s.e then s.e else p.e) = p.e ∨ (if p.e < s.e then s.e else p.e) = s.e) := by split <;> omega
        generalize (if p.e < s.e then s.e else p.e) = E at *
        simp only [Span.e] at hle hOp hE ⊢
        have hnew : (Span.mk p.off (E - p.off)).good := by
          unfold Span.good Span.ok; simp only; omega
        refine ⟨⟨fun q hq => ?_, ?_⟩, by simpa using (by simp at i2; omega), fun x => ?_, fun q hq t ht => ?_⟩
        · rcases List.mem_append.1 hq with hq | hq
          · exact hO q hq
          · rw [List.mem_singleton.1 hq]; exact hnew
        · refine List.pairwise_append.2 ⟨hOO, by simp, fun a ha b hb => ?_⟩
          rw [List.mem_singleton.1 hb]
          exact hOp a ha p (by simp)
        · rw [covered_append, covered_append, covered_one, covered_one]
          have hpg : p.good := ⟨⟨g1, g2, g3, g4⟩, g5⟩
          have hsg : s.good := ⟨⟨k1, k2, k3, k4⟩, k5⟩
          simp only [hnew, hpg, hsg, true_and, Span.e]
          rw [or_assoc]
          refine or_congr Iff.rfl ?_
          omega
        · rcases List.mem_append.1 hq with hq | hq
          · exact hi5 q (by simp [hq]) t ht
          · rw [List.mem_singleton.1 hq]; exact hi5 p (by simp) t ht
      · rename_i hgt
        refine ⟨⟨fun q hq => ?_, ?_⟩, by simp at i2 ⊢; omega, fun x => ?_, fun q hq t ht => ?_⟩
        · rcases List.mem_append.1 hq with hq | hq
          · exact i1 q hq
          · rw [List.mem_singleton.1 hq]; exact hs
        · refine List.pairwise_append.2 ⟨i1', by simp, fun a ha b hb => ?_⟩
          rw [List.mem_singleton.1 hb]
          rcases List.mem_append.1 ha with ha | ha
          · have h1 := hOp a ha p (by simp)
            have := hp.2
            unfold Span.e at *
            omega
          · rw [List.mem_singleton.1 ha]; omega
        · rw [covered_append, covered_one]
        · rcases List.mem_append.1 hq with hq | hq
          · exact hi5 q hq t ht
          · rw [List.mem_singleton.1 hq]; exact hlow t ht
theorem norm_facts (l : List Span) : Sep (normL l) ∧ (normL l).length ≤ l.length ∧ ∀ x, covered (normL l) x ↔ covered l x := by
  have h := merge_facts (sortedS l) (fun s hs => ((sortedS_mem l s).1 hs).2) (sortedS_asc l) _ (Nat.le_refl _)
  rw [List.take_length] at h
  have hlen : (sortedS l).length ≤ l.length := by
    unfold sortedS
    rw [List.length_map, (pdqG _).1.length_eq]
    exact List.length_filterMap_le _ _
  refine ⟨h.1, Nat.le_trans h.2.1 hlen, fun x => ?_⟩
  unfold normL
  rw [h.2.2.1]
  unfold covered
  constructor
  · rintro ⟨s, hs, h⟩; exact ⟨s, ((sortedS_mem l s).1 hs).1, h⟩
  · rintro ⟨s, hs, h⟩; exact ⟨s, (sortedS_mem l s).2 ⟨hs, h.1⟩, h⟩

/-! ### Walked -/
theorem goodE_inj (a b : GSpan) (h : goodE.f a = goodE.f b) : a = b := by
  obtain ⟨⟨a1, a2⟩, ha⟩ := a
  obtain ⟨⟨b1, b2⟩, hb⟩ := b
  simp [goodE] at h
  simp [h]
theorem flat_good (L : List GSpan) : flatE goodE L = flatE spanE (L.map (·.1)) := by
  induction L with
  | nil => rfl
  | cons a L ih => rw [flatE_cons, List.map_cons, flatE_cons, ih]; rfl
theorem sortNil8 : evF Try.prog Γ 8 54 [.nils, .fn (.func 55) [] []] [] = some (V.undef, []) := by kernel_rfl
theorem sort54_nil {k : Nat} (hk : 8 ≤ k) : evF Try.prog Γ k 54 [.nils, .fn (.func 55) [] []] [] = some (.tup [], []) := evF_mono hk _ _ _ _ sortNil8
theorem sort54 (l : List GSpan) (hl : l.length < 4611686018427387904) {ex : Bool} {k : Nat} :
    evF Try.prog Γ (k + 1) 54 [.sl 0 0 l.length 2, .fn (.func 55) [] []] [some (.cells (flatE goodE l) ex)] = some (.tup [], [some (.cells (flatE goodE (pdqL cmpG l)) ex)]) := by
  refine evF_orc ?_
  have ho : ∀ a H, Γ.orc 54 a H = sortOrc goodE cmpG 55 a H := fun a H => rfl
  rw [ho]
  have hlen := (pdqG l).1.length_eq
  have := sortOrc_eq goodE (by decide) goodE_inj cmpG 55 (id := 0) (off := 0) (len := l.length) (sz := 2) (H := [some (.cells (flatE goodE l) ex)]) (cs := flatE goodE l) (ex := ex) (l := l) rfl rfl (by rw [List.take_of_length_le]; rfl; simp [goodE]) rfl hl (by simp [goodE])
  rcases this with h | h
  · rw [h]
    simp [hlen, goodE]
  · rw [hlen] at h; exact absurd rfl h

/-- The cells of an element, loaded. -/
theorem at_spans (L : List Span) (j : Nat) (h : j < L.length) : List.take 2 (List.drop (j * 2) (flatE spanE L)) = [.int .i64 L[j].off, .int .i64 L[j].len] := by
  rw [at_flatE (n := 2) spanE rfl L j h, spanE_f]
theorem drop_spans (L : List Span) (j : Nat) (h : j < L.length) : List.drop (j * 2) (flatE spanE L) = .int .i64 L[j].off :: .int .i64 L[j].len :: flatE spanE (L.drop (j + 1)) := by
  rw [drop_flatE' (n := 2) spanE rfl, List.drop_eq_getElem_cons h]; rfl
end Go.Ev.Try
