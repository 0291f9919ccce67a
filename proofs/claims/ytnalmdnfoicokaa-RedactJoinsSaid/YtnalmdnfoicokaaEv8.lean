/-
  EACH OPERATION THAT CALLS NOTHING DOES WHAT THE EVALUATOR SAYS, fifth part: places, slices, strings (own work).
-/
import Derived.Test.YtnalmdnfoicokaaEv7
set_option linter.unusedSimpArgs false
set_option linter.unusedVariables false
namespace Go.Ev
open Go

section
variable {P : Program} {w0 : World} {B : Nat} {e : Emb} {H : Heap} {w : World}

/-- A part of what is read only. -/
theorem ro_part {cs : List V} {b o : Nat} {v : Value} (h : Rep w0 B e (.ro cs) v) (k n : Nat) :
    ∃ b o, v = .pointer (some ⟨b, o, none⟩) ∧ Rep w0 B e (.ro ((cs.drop k).take n)) (.pointer (some ⟨b, o + k, none⟩)) := by
  cases h with
  | ro _ _ b o f hc h1 hr =>
    refine ⟨b, o, rfl, .ro _ _ b (o + k) (fun j => f (k + j)) (fun j hj => ?_) (fun j hj => ?_) (fun j hj => ?_)⟩
    · simp only [List.length_take, List.length_drop] at hj
      rw [Nat.add_assoc]; exact hc (k + j) (by omega)
    · simp only [List.length_take, List.length_drop] at hj
      exact h1 (k + j) (by omega)
    · simp only [List.getElem_take, List.getElem_drop]
      exact hr _ _

theorem fieldAddr_ok {t : TypeId} {f : Nat} {x z : V} {v : Value} (h : fieldAddrV P t x f = some z) (hx : Rep w0 B e x v) :
    ∃ vz, (Instr.fieldAt t v f).run P w = .ok vz w ∧ Rep w0 B e z vz := by
  unfold fieldAddrV at h
  split at h
  · rename_i fs hu
    split at h
    · rename_i fd hf
      split at h
      · rename_i n hz
        split at h
        · cases h
        · rename_i hn
          split at h
          · rename_i id off
            cases h
            cases hx with
            | ptr _ _ _ eb he =>
              refine ⟨.pointer (some ⟨eb.b, eb.base + (off + fd.offset), none⟩), ?_, .ptr _ _ _ _ he⟩
              simp [Instr.fieldAt, runder hu, hf, Instr.sureAddr, fieldPlace, rsizeOf hz, hn, add_plain, Nat.add_assoc]
          · rename_i cs
            cases h
            obtain ⟨b, o, rfl, hr⟩ := ro_part (b := 0) (o := 0) hx fd.offset n
            refine ⟨_, ?_, hr⟩
            simp [Instr.fieldAt, runder hu, hf, Instr.sureAddr, fieldPlace, rsizeOf hz, hn, add_plain]
          · cases h
      · cases h
    · cases h
  · cases h

theorem field_ok {t : TypeId} {f : Nat} {x z : V} {v : Value} (h : fieldV P t x f = some z) (hx : Rep w0 B e x v) :
    ∃ vz, (Instr.field t v f).run P w = .ok vz w ∧ Rep w0 B e z vz := by
  unfold fieldV at h
  split at h
  · rename_i fs cs hu
    split at h
    · rename_i fd hf
      cases hx with
      | agg _ _ vs hl h1 hr =>
        obtain ⟨u, hu', hru⟩ := part_ok (P := P) ⟨⟨hl, hr⟩, h1⟩ h w
        exact ⟨u, by simp [Instr.field, runder hu, hf, asAgg, hu'], hru⟩
    · cases h
  · cases h

theorem indexAddr_ok {t : TypeId} {x i z : V} {v vi : Value} (h : indexAddrV P t x i = some z) (hx : Rep w0 B e x v) (hi : Rep w0 B e i vi) :
    ∃ vz, (Instr.indexAt t v vi).run P w = .ok vz w ∧ Rep w0 B e z vz := by
  unfold indexAddrV at h
  split at h
  · rename_i el id off len sz k i hu
    split at h
    · rename_i n hz
      split at h
      · rename_i hc
        simp only [Bool.and_eq_true, decide_eq_true_eq] at hc
        obtain ⟨⟨h0, h1⟩, h2⟩ := hc
        cases h; cases hi
        cases hx with
        | sl _ _ _ _ _ cap eb o he h3 h4 h5 h6 =>
          have ho := h6 (by omega)
          subst ho
          refine ⟨.pointer (some ⟨eb.b, eb.base + (off + i.toNat * sz), none⟩), ?_, .ptr _ _ _ _ he⟩
          simp [Instr.indexAt, asIntOf, runder hu, h0, h1, rsizeOf hz, add_plain, h2, Nat.add_assoc]
      · cases h
    · cases h
  · rename_i el len cs k i hu
    split at h
    · rename_i n hz
      split at h
      · rename_i hc
        simp only [Bool.and_eq_true, decide_eq_true_eq] at hc
        obtain ⟨h0, h1⟩ := hc
        cases h; cases hi
        cases hx with
        | rose _ a => omega
        | ros _ _ _ b o cap f hl hcc hone hr =>
          obtain ⟨b', o', hbo, hr'⟩ := ro_part (b := 0) (o := 0) (Rep.ro e cs b o f hcc hone hr) (i.toNat * n) n
          cases hbo
          refine ⟨_, ?_, hr'⟩
          simp [Instr.indexAt, asIntOf, runder hu, h0, h1, rsizeOf hz, add_plain]
      · cases h
    · cases h
  · rename_i m el id off k i hu
    split at h
    · rename_i n hz
      split at h
      · rename_i hc
        simp only [Bool.and_eq_true, decide_eq_true_eq] at hc
        obtain ⟨h0, h1⟩ := hc
        cases h; cases hi
        cases hx with
        | ptr _ _ _ eb he =>
          refine ⟨.pointer (some ⟨eb.b, eb.base + (off + i.toNat * n), none⟩), ?_, .ptr _ _ _ _ he⟩
          simp [Instr.indexAt, asIntOf, runder hu, h0, h1, rsizeOf hz, add_plain, Instr.sureAddr, Nat.add_assoc]
      · cases h
    · cases h
  · rename_i m el cs k i hu
    split at h
    · rename_i n hz
      split at h
      · rename_i hc
        simp only [Bool.and_eq_true, decide_eq_true_eq] at hc
        obtain ⟨h0, h1⟩ := hc
        cases h; cases hi
        obtain ⟨b', o', rfl, hr'⟩ := ro_part (b := 0) (o := 0) hx (i.toNat * n) n
        refine ⟨_, ?_, hr'⟩
        simp [Instr.indexAt, asIntOf, runder hu, h0, h1, rsizeOf hz, add_plain, Instr.sureAddr]
      · cases h
    · cases h
  · cases h

theorem index_ok {t : TypeId} {x i z : V} {v vi : Value} (h : indexV P t x i = some z) (hx : Rep w0 B e x v) (hi : Rep w0 B e i vi) :
    ∃ vz, (Instr.index t v vi).run P w = .ok vz w ∧ Rep w0 B e z vz := by
  unfold indexV at h
  split at h
  · rename_i m el cs k i hu
    split at h
    · rename_i n hz
      split at h
      · rename_i hc
        simp only [Bool.and_eq_true, decide_eq_true_eq] at hc
        obtain ⟨h0, h1⟩ := hc
        cases hi
        cases hx with
        | agg _ _ vs hl hone hr =>
          obtain ⟨u, hu', hru⟩ := part_ok (P := P) ⟨⟨hl, hr⟩, hone⟩ h w
          exact ⟨u, by simp [Instr.index, asIntOf, runder hu, h0, h1, rsizeOf hz, hu'], hru⟩
      · cases h
    · cases h
  · rename_i s k i hu
    split at h
    · rename_i h0
      split at h
      · rename_i b hb
        cases h; cases hi; cases hx
        exact ⟨.int .u8 b.toNat, by simp [Instr.index, asIntOf, runder hu, h0, hb], .int _ _ _⟩
      · cases h
    · cases h
  · cases h

/-! ### Slices -/
theorem bound_ok {k : Nat} {o : Option V} {o' : Option Value} {l : Nat} (ho : match o, o' with | none, none => True | some x, some v => Rep w0 B e x v | _, _ => False) (h : boundV k o = some l) :
    (o' = none ∧ l = k) ∨ ∃ kk, o' = some (.int kk (l : Int)) := by
  unfold boundV at h
  split at h
  · cases o' with
    | none => left; exact ⟨rfl, by cases h; rfl⟩
    | some v => exact ho.elim
  · rename_i kk i
    cases o' with
    | none => exact ho.elim
    | some v =>
      split at h
      · rename_i h0
        cases h
        cases ho
        right
        exact ⟨kk, by rw [Int.toNat_of_nonneg h0]⟩
      · cases h
  · cases h

def OptRep (w0 : World) (B : Nat) (e : Emb) (o : Option V) (o' : Option Value) : Prop := match o, o' with | none, none => True | some x, some v => Rep w0 B e x v | _, _ => False

theorem sliceBounds_ok {isS : Bool} {len cap : Nat} {lo hi : Option V} {lo' hi' : Option Value} {l h : Nat} (h1 : OptRep w0 B e lo lo') (h2 : OptRep w0 B e hi hi')
    (hl : boundV 0 lo = some l) (hh : boundV len hi = some h) (hle : l ≤ h) (hc : h ≤ cap) :
    (Instr.sliceBounds isS len cap lo' hi' none).run P w = .ok (l, h, cap) w := by
  rcases bound_ok h1 hl with ⟨rfl, rfl⟩ | ⟨k1, rfl⟩ <;> rcases bound_ok h2 hh with ⟨rfl, rfl⟩ | ⟨k2, rfl⟩
  · simp [Instr.sliceBounds]
  · simp [Instr.sliceBounds, Instr.sliceBound, asIntOf, hc]
  · simp [Instr.sliceBounds, Instr.sliceBound, asIntOf, hle]
  · simp [Instr.sliceBounds, Instr.sliceBound, asIntOf, hc, hle]

theorem slice_ok (hs : HS w0 B e H w) {t : TypeId} {x z : V} {v : Value} {lo hi mx : Option V} {lo' hi' mx' : Option Value} (h : sliceV P H t x lo hi mx = some z) (hx : Rep w0 B e x v)
    (h1 : OptRep w0 B e lo lo') (h2 : OptRep w0 B e hi hi') (h3 : OptRep w0 B e mx mx') : ∃ vz, (Instr.sliceAt t v lo' hi' mx').run P w = .ok vz w ∧ Rep w0 B e z vz := by
  unfold sliceV at h
  split at h
  · cases h
  · have hm : mx' = none := by cases mx' with | none => rfl | some _ => exact h3.elim
    subst hm
    split at h
    · rename_i s hu
      split at h
      · rename_i l hh hl hhh
        split at h
        · rename_i hc
          simp only [Bool.and_eq_true, decide_eq_true_eq] at hc
          cases h; cases hx
          have := sliceBounds_ok (P := P) (w := w) (isS := false) (cap := s.size) h1 h2 hl hhh hc.1 hc.2
          exact ⟨.string (s.extract l hh), by simp [Instr.sliceAt, Instr.slice, runder hu, this], .str _ _⟩
        · cases h
      · cases h
    · rename_i el hu
      split at h
      · rename_i n hl hhh hz
        cases h; cases hx
        have := sliceBounds_ok (P := P) (w := w) (isS := true) (len := 0) (cap := 0) h1 h2 hl hhh (Nat.le_refl _) (Nat.le_refl _)
        exact ⟨.slice none 0 0, by simp [Instr.sliceAt, Instr.slice, runder hu, this, rsizeOf hz], .nils _⟩
      · cases h
    · rename_i el id off len sz hu
      split at h
      · rename_i l hh n hl hhh hz
        split at h
        · rename_i hc
          simp only [Bool.and_eq_true, decide_eq_true_eq] at hc
          obtain ⟨⟨⟨hc1, hc2⟩, hc3⟩, hc4⟩ := hc
          cases h
          cases hx with
          | sl _ _ _ _ _ cap eb o he k1 k2 k3 k4 =>
            have := sliceBounds_ok (P := P) (w := w) (isS := true) (cap := cap) h1 h2 hl hhh hc1 (by omega)
            have hadd : l * sz + (cap - l) * sz = cap * sz := by rw [← Nat.add_mul]; congr 1; omega
            by_cases hcl : cap = l
            · refine ⟨.slice (some ⟨eb.b, o, none⟩) (hh - l) (cap - l), ?_, .sl _ _ _ _ _ _ eb _ he (by omega) k2 (by omega) (by omega)⟩
              subst hcl
              simp [Instr.sliceAt, Instr.slice, runder hu, this, rsizeOf hz]
            · have ho := k4 (by omega)
              subst ho
              refine ⟨.slice (some ⟨eb.b, eb.base + off + l * sz, none⟩) (hh - l) (cap - l), ?_, .sl _ _ _ _ _ _ eb _ he (by omega) k2 (by omega) (by omega)⟩
              simp [Instr.sliceAt, Instr.slice, runder hu, this, rsizeOf hz, hcl, add_plain, hc3]
        · cases h
      · cases h
    · rename_i el len cs hu
      split at h
      · rename_i l hh n hl hhh hz
        split at h
        · rename_i hc
          simp only [Bool.and_eq_true, decide_eq_true_eq] at hc
          obtain ⟨hc1, hc2⟩ := hc
          cases h
          cases hx with
          | rose _ a =>
            have := sliceBounds_ok (P := P) (w := w) (isS := true) (cap := 0) h1 h2 hl hhh hc1 (by omega)
            have hl0 : l = 0 := by omega
            subst hl0
            have hh0 : hh = 0 := by omega
            subst hh0
            simp only [Nat.zero_mul, Nat.sub_self, List.drop_nil, List.take_nil]
            refine ⟨.slice (some a) 0 0, ?_, .rose _ _⟩
            simp [Instr.sliceAt, Instr.slice, runder hu, this, rsizeOf hz]
          | ros _ _ _ b o cap f k1 hcc hone hr =>
            have := sliceBounds_ok (P := P) (w := w) (isS := true) (cap := cap) h1 h2 hl hhh hc1 (by omega)
            by_cases hcl : cap = l
            · have h0 : (hh - l) * n = 0 := by rw [show hh - l = 0 by omega]; simp
              rw [h0, List.take_zero]
              refine ⟨.slice (some ⟨b, o, none⟩) (hh - l) (cap - l), ?_, .ros _ _ [] b o (cap - l) f (by omega) (fun j hj => by simp at hj) (fun j hj => by simp at hj) (fun j hj => by simp at hj)⟩
              subst hcl
              simp [Instr.sliceAt, Instr.slice, runder hu, this, rsizeOf hz]
            · obtain ⟨b', o', hbo, hr'⟩ := ro_part (b := 0) (o := 0) (Rep.ro e cs b o f hcc hone hr) (l * n) ((hh - l) * n)
              cases hbo
              cases hr' with
              | ro _ _ _ _ f' hcc' hone' hr'' =>
                refine ⟨.slice (some ⟨b, o + l * n, none⟩) (hh - l) (cap - l), ?_, .ros _ _ _ _ _ _ f' (by omega) hcc' hone' hr''⟩
                simp [Instr.sliceAt, Instr.slice, runder hu, this, rsizeOf hz, hcl, add_plain]
        · cases h
      · cases h
    · rename_i k el id off hu
      split at h
      · rename_i l hh n cs hl hhh hz hid
        split at h
        · rename_i hc
          simp only [Bool.and_eq_true, decide_eq_true_eq] at hc
          obtain ⟨⟨⟨⟨hc1, hc2⟩, hc3⟩, hc4⟩, hc5⟩ := hc
          cases h
          cases hx with
          | ptr _ _ _ eb he =>
            have := sliceBounds_ok (P := P) (w := w) (isS := false) (cap := k) h1 h2 hl hhh hc1 (by omega)
            obtain ⟨eb', o', he', ho', hok⟩ := hs.live id _ hid
            rw [he] at he'; cases he'
            cases o' <;> simp only [BlkOk] at hok
            obtain ⟨m1, m2, m3, _⟩ := hok
            have m4 := m3 trivial
            have hadd : l * n + (k - l) * n = k * n := by rw [← Nat.add_mul]; congr 1; omega
            refine ⟨.slice (some ⟨eb.b, eb.base + off + l * n, none⟩) (hh - l) (k - l), ?_, .sl _ _ _ _ _ _ eb _ he (by omega) hc4 (by omega) (by omega)⟩
            have hne : ¬ k = l := by omega
            simp [Instr.sliceAt, runder hu, this, rsizeOf hz, hne, add_plain, Instr.sureAddr]
        · cases h
      · cases h
    · cases h
end
end Go.Ev
