/-
  ASKHOLDS'S ARGUMENTS OPENED: findings and conditions, with their bulk (own work).
-/
import Derived.Test.YtmcakfjbefelgaaDoorAhH
import Derived.Test.YtmcakfjbefelgaaDoorEvL
import Derived.Test.YtmcakfjbefelgaaDoorRows
import Derived.WalkKit
import Derived.ProofKit
import Derived.OpenShut
import Derived.Deep.DeepHandedRow
import Derived.Lib.LaidTab
set_option linter.unusedVariables false
set_option maxRecDepth 100000
set_option maxHeartbeats 4000000
namespace Go.Proofs.YtmcakfjbefelgaaDoor.askHolds
open Go.ChangeShapes Go.WideShapes Go.ChangeAt Go.RowKit Go.Ev

theorem own : ownKnob Tryd.prog.godebug = none := by kernel_rfl
theorem laidOut : laidOutB Tryd.prog = true := by kernel_rfl
theorem cells27 : Tryd.prog.cellsOf 27 = 5 := by kernel_rfl
theorem cells74 : Tryd.prog.cellsOf 74 = 2 := by kernel_rfl
theorem cells9 : Tryd.prog.cellsOf 9 = 1 := by kernel_rfl
theorem cells5 : Tryd.prog.cellsOf 5 = 1 := by kernel_rfl
theorem hrec : ∀ t ∈ Tryd.f4.params.toList, Tryd.prog.readableRec t = true ∧ t < Tryd.prog.types.size := by
  rw [Tryd.params4]
  intro t ht
  have h37 : Tryd.prog.readableRec 37 = true ∧ 37 < Tryd.prog.types.size := ⟨by kernel_rfl, by decide +kernel⟩
  have h27 : Tryd.prog.readableRec 27 = true ∧ 27 < Tryd.prog.types.size := ⟨by kernel_rfl, by decide +kernel⟩
  have h3 : Tryd.prog.readableRec 3 = true ∧ 3 < Tryd.prog.types.size := ⟨by kernel_rfl, by decide +kernel⟩
  simp at ht
  rcases ht with rfl | rfl | rfl <;> assumption

/-! ### The argument opened -/
mutual
/-- The datum of a condition. -/
def relC {H : Type} : Tryd.Cond → DataW H → Prop
  | .mk o s l h z ks, d => ∃ dk, d = .agg [.lit (.int .i64 o), .lit (.string s.data.toList), .lit (.int .i64 l), .lit (.int .i64 h), dk] ∧ ((z = true ∧ ks = [] ∧ dk = .nil) ∨ (z = false ∧ ∃ D sp, dk = .slice D sp ∧ relCs ks D))
def relCs {H : Type} : List Tryd.Cond → List (DataW H) → Prop
  | [], D => D = []
  | c :: l, D => ∃ d D', D = d :: D' ∧ relC c d ∧ relCs l D'
end
theorem relCs_of {H : Type} : ∀ (l : List Tryd.Cond) (D : List (DataW H)), D.length = l.length → (∀ (i : Nat) (h : i < l.length) (h' : i < D.length), relC l[i] D[i]) → relCs l D
  | [], D, h, _ => by rw [relCs]; exact List.length_eq_zero_iff.1 (by simpa using h)
  | c :: l, [], h, _ => by simp at h
  | c :: l, d :: D, h, hx => by
    rw [relCs]
    refine ⟨d, D, rfl, hx 0 (by simp) (by simp), relCs_of l D (by simpa using h) fun i h1 h2 => ?_⟩
    have := hx (i + 1) (by simpa using h1) (by simpa using h2)
    simpa using this
theorem bulk_both {H : Type} : ∀ n : Nat, (∀ (c : Tryd.Cond) (d : DataW H), Tryd.wt c ≤ n → relC c d → Tryd.wt c + 1 ≤ Rows.uptoBulk d) ∧ (∀ (l : List Tryd.Cond) (D : List (DataW H)), Tryd.wts l ≤ n → relCs l D → Tryd.wts l ≤ Rows.uptoBulkAll D) := by
  intro n
  induction n with
  | zero =>
    refine ⟨fun c d h => ?_, fun l D h hr => ?_⟩
    · have := Tryd.wt_eq c; omega
    · cases l with
      | nil => simp [Tryd.wts]
      | cons c l => simp only [Tryd.wts] at h; omega
  | succ n ih =>
    have hc : ∀ (c : Tryd.Cond) (d : DataW H), Tryd.wt c ≤ n + 1 → relC c d → Tryd.wt c + 1 ≤ Rows.uptoBulk d := fun c d h hr => by
      cases c with
      | mk o s l h' z ks =>
        rw [relC] at hr
        obtain ⟨dk, rfl, hk⟩ := hr
        have hw := Tryd.wt_eq (.mk o s l h' z ks)
        have hks : (Tryd.Cond.mk o s l h' z ks).kids = ks := rfl
        have hs : (Tryd.Cond.mk o s l h' z ks).s = s := rfl
        rw [hks, hs] at hw
        have hsl : s.data.toList.length = s.size := rfl
        simp only [Rows.uptoBulk, Rows.uptoBulkAll, hsl]
        rcases hk with ⟨rfl, rfl, rfl⟩ | ⟨rfl, D, sp, rfl, hD⟩
        · simp only [Rows.uptoBulk]
          have : Tryd.wts [] = 0 := rfl
          omega
        · simp only [Rows.uptoBulk]
          have := ih.2 ks D (by omega) hD
          omega
    refine ⟨hc, fun l D h hr => ?_⟩
    cases l with
    | nil => simp [Tryd.wts]
    | cons c l =>
      rw [relCs] at hr
      obtain ⟨d, D', rfl, h1, h2⟩ := hr
      simp only [Tryd.wts] at h ⊢
      have a := ih.1 c d (by omega) h1
      have b := ih.2 l D' (by omega) h2
      simp only [Rows.uptoBulkAll]
      omega
theorem one_le {H : Type} (d : DataW H) : 1 ≤ Rows.uptoBulk d := by
  cases d with
  | lit l => cases l <;> simp [Rows.uptoBulk]
  | nil => simp [Rows.uptoBulk]
  | ptr d => simp [Rows.uptoBulk]
  | slice elems spare => simp [Rows.uptoBulk]
  | agg parts => simp [Rows.uptoBulk]
  | iface t d => simp [Rows.uptoBulk]
  | map entries => simp [Rows.uptoBulk]
  | held h => simp [Rows.uptoBulk]
theorem length_le {H : Type} (l : List (DataW H)) : l.length ≤ Rows.uptoBulkAll l := by
  induction l with
  | nil => simp [Rows.uptoBulkAll]
  | cons x r ih => have := one_le x; simp only [Rows.uptoBulkAll, List.length_cons]; omega
section
variable {H : Type} {enc : TypeId × Value → H} {W : World} {held : Bool}
theorem opn_i64 (n : Nat) : Opn enc Tryd.prog W held n 3 (fun d vs => ∃ z, d = .lit (.int .i64 z) ∧ vs = [V.int .i64 z]) := Opn.mono' (opn_int Tryd.underlying3) fun d vs ⟨z, _, h1, h2⟩ => ⟨z, h1, h2⟩
theorem opn_string (n : Nat) : Opn enc Tryd.prog W held n 9 (fun d vs => ∃ s, d = .lit (.string s.data.toList) ∧ vs = [V.str s]) := fun cs d ps h => by
  obtain ⟨vs, h1, h2⟩ := opn_str Tryd.underlying9 cs d ps h
  exact ⟨vs, h1, h2⟩
theorem opn_conds (n : Nat) (ih : ∀ m, m < n → Opn enc Tryd.prog W held m 27 (fun d vs => ∃ c, relC c d ∧ vs = Tryd.condE.f c)) :
    Opn enc Tryd.prog W held n 22 (fun d vs => ∃ (z : Bool) (l : List Tryd.Cond), vs = [roV z l.length (flatE Tryd.condE l)] ∧ ((z = true ∧ l = [] ∧ d = .nil) ∨ (z = false ∧ ∃ D sp, d = .slice D sp ∧ relCs l D))) := by
  refine Opn.mono' (opn_sliceR (α := Tryd.Cond) Tryd.condE (by decide) Tryd.underlying22 cells27 (G := fun c d => relC c d) ih) fun d vs ⟨z, l, h1, h2, h3, h4⟩ => ⟨z, l, h2, ?_⟩
  rcases h4 with ⟨rfl, rfl⟩ | ⟨rfl, D, sp, rfl, h5, h6⟩
  · exact .inl ⟨rfl, h1 rfl, rfl⟩
  · exact .inr ⟨rfl, D, sp, rfl, relCs_of l D h5 h6⟩
theorem opn_cond : ∀ n : Nat, ∀ m, m ≤ n → Opn enc Tryd.prog W held m 27 (fun d vs => ∃ c, relC c d ∧ vs = Tryd.condE.f c) := by
  intro n
  induction n with
  | zero =>
    intro m hm cs d ps h
    obtain rfl : m = 0 := by omega
    simp [DataW.trod] at h
  | succ n ih =>
    intro m hm
    refine Opn.mono' (opn_structR (Qs := [(fun d vs => ∃ z, d = .lit (.int .i64 z) ∧ vs = [V.int .i64 z]), (fun d vs => ∃ s, d = .lit (.string s.data.toList) ∧ vs = [V.str s]), (fun d vs => ∃ z, d = .lit (.int .i64 z) ∧ vs = [V.int .i64 z]), (fun d vs => ∃ z, d = .lit (.int .i64 z) ∧ vs = [V.int .i64 z]),
        (fun d vs => ∃ (z : Bool) (l : List Tryd.Cond), vs = [roV z l.length (flatE Tryd.condE l)] ∧ ((z = true ∧ l = [] ∧ d = .nil) ∨ (z = false ∧ ∃ D sp, d = .slice D sp ∧ relCs l D)))]) Tryd.underlying27 (by kernel_rfl) (by kernel_rfl) rfl ?_) ?_
    · intro i f Q hf hQ q hq
      match i with
      | 0 => cases hf; cases hQ; exact opn_i64 q
      | 1 => cases hf; cases hQ; exact opn_string q
      | 2 => cases hf; cases hQ; exact opn_i64 q
      | 3 => cases hf; cases hQ; exact opn_i64 q
      | 4 => cases hf; cases hQ; exact opn_conds q fun r hr => ih r (by omega)
      | i + 5 => simp at hQ
    · rintro d vs ⟨ds, rfl, hp⟩
      match ds, hp with
      | [d1, d2, d3, d4, d5], hp =>
        obtain ⟨v1, v2, rfl, ⟨o, rfl, rfl⟩, w1, w2, rfl, ⟨s, rfl, rfl⟩, u1, u2, rfl, ⟨lo, rfl, rfl⟩, t1, t2, rfl, ⟨hi, rfl, rfl⟩, p1, p2, rfl, ⟨z, l, rfl, hk⟩, hw⟩ := hp
        obtain rfl : p2 = [] := hw
        refine ⟨.mk o s lo hi z l, ?_, ?_⟩
        · rw [relC]; exact ⟨_, rfl, hk⟩
        · rw [Tryd.condE_f]; rfl
end
section
variable {H : Type} {enc : TypeId × Value → H} {W : World} {held : Bool}
def top (z : Int) : Prop := z ≤ 9223372036854775807
theorem wf_in {z : Int} (h : (Lit.int .i64 z).wf = true) : top z := by
  simp only [Lit.wf, Bool.and_eq_true, decide_eq_true_eq] at h
  exact h.2
theorem opn_top (n : Nat) : Opn enc Tryd.prog W held n 3 (fun d vs => ∃ z, top z ∧ d = .lit (.int .i64 z) ∧ vs = [V.int .i64 z]) := Opn.mono' (opn_int Tryd.underlying3) fun d vs ⟨z, h, h1, h2⟩ => ⟨z, wf_in h, h1, h2⟩
theorem wf_u8 {z : Int} (h : (Lit.int .u8 z).wf = true) : 0 ≤ z ∧ z < 256 := by
  simp only [Lit.wf, Bool.and_eq_true, decide_eq_true_eq] at h
  have h1 : IntKind.u8.min = 0 := rfl
  have h2 : IntKind.u8.max = 255 := rfl
  rw [h1, h2] at h
  exact ⟨h.1, by omega⟩
theorem opn_span (n : Nat) : Opn enc Tryd.prog W held n 74 (fun d vs => ∃ x : Tryd.Hd.Span, top x.len ∧ vs = Tryd.Hd.spanE.f x) := by
  refine Opn.mono' (opn_struct (Qs := [(fun d vs => ∃ z, top z ∧ d = .lit (.int .i64 z) ∧ vs = [V.int .i64 z]), (fun d vs => ∃ z, top z ∧ d = .lit (.int .i64 z) ∧ vs = [V.int .i64 z])]) Tryd.underlying74 (by kernel_rfl) (by kernel_rfl) rfl ?_) ?_
  · intro i f Q hf hQ n
    match i with
    | 0 => cases hf; cases hQ; exact opn_top n
    | 1 => cases hf; cases hQ; exact opn_top n
    | i + 2 => simp at hQ
  · rintro d vs ⟨ds, rfl, hp⟩
    match ds, hp with
    | [d1, d2], hp =>
      obtain ⟨v1, v2, rfl, ⟨z1, w1, rfl, rfl⟩, u1, u2, rfl, ⟨z2, w2, rfl, rfl⟩, hw⟩ := hp
      obtain rfl : u2 = [] := hw
      exact ⟨⟨z1, z2⟩, w2, rfl⟩
/-- A finding opened, with its bulk. -/
theorem opn_finding (n : Nat) : Opn enc Tryd.prog W held n 37 (fun d vs => ∃ f : Tryd.Hd.Finding, vs = Tryd.Hd.findE.f f ∧ f.text.size + f.bytes.length + f.via.length + f.at_.length ≤ Rows.uptoBulk d ∧ inU8 f.bytes ∧ ∀ x ∈ f.at_, top x.len) := by
  refine Opn.mono' (opn_struct (Qs := [(fun d vs => ∃ s, d = .lit (.string s.data.toList) ∧ vs = [V.str s]),
      (fun d vs => ∃ (z : Bool) (l : List ByteArray), vs = [roV z l.length (flatE strE l)] ∧ (l = [] ∨ ∃ D sp, d = .slice D sp ∧ l.length ≤ D.length)),
      (fun d vs => ∃ (z : Bool) (l : List Tryd.Hd.Span), vs = [roV z l.length (flatE Tryd.Hd.spanE l)] ∧ (∀ x ∈ l, top x.len) ∧ (l = [] ∨ ∃ D sp, d = .slice D sp ∧ l.length ≤ D.length)),
      (fun d vs => ∃ (z : Bool) (l : List Int), vs = [roV z l.length (flatE (intE .u8) l)] ∧ inU8 l ∧ (l = [] ∨ ∃ D sp, d = .slice D sp ∧ l.length ≤ D.length)),
      (fun d vs => ∃ s, d = .lit (.string s.data.toList) ∧ vs = [V.str s]), (fun d vs => ∃ z, d = .lit (.int .i64 z) ∧ vs = [V.int .i64 z]), (fun d vs => ∃ z, d = .lit (.int .i64 z) ∧ vs = [V.int .i64 z])]) Tryd.underlying37 (by kernel_rfl) (by kernel_rfl) rfl ?_) ?_
  · intro i f Q hf hQ n
    match i with
    | 0 => cases hf; cases hQ; exact opn_string n
    | 1 => cases hf; cases hQ; exact Opn.mono' (opn_slice2 (α := ByteArray) strE (by decide) Tryd.underlying33 cells9 (G := fun _ _ => True) (fun n => Opn.mono' (opn_string n) fun d vs ⟨s, h1, h2⟩ => ⟨s, trivial, h2⟩)) fun d vs ⟨z, l, h1, h2, h3, _, h4⟩ => ⟨z, l, h2, h4⟩
    | 2 => cases hf; cases hQ; exact Opn.mono' (opn_slice2 (α := Tryd.Hd.Span) Tryd.Hd.spanE (by decide) Tryd.underlying34 cells74 (G := fun x _ => top x.len) (fun n => opn_span n)) fun d vs ⟨z, l, h1, h2, h3, h5, h4⟩ => ⟨z, l, h2, fun x hx => (h5 x hx).elim fun D h => h.elim fun sp h => h.elim fun y h => h.2.2, h4⟩
    | 3 => cases hf; cases hQ; exact Opn.mono' (opn_slice2 (α := Int) (intE .u8) (by decide) Tryd.underlying35 cells5 (G := fun x _ => 0 ≤ x ∧ x < 256) (fun n => Opn.mono' (opn_int Tryd.underlying5) fun d vs ⟨z, h1, h2, h3⟩ => ⟨z, wf_u8 h1, h3⟩)) fun d vs ⟨z, l, h1, h2, h3, h5, h4⟩ => ⟨z, l, h2, fun x hx => (h5 x hx).elim fun D h => h.elim fun sp h => h.elim fun y h => h.2.2, h4⟩
    | 4 => cases hf; cases hQ; exact opn_string n
    | 5 => cases hf; cases hQ; exact opn_i64 n
    | 6 => cases hf; cases hQ; exact opn_i64 n
    | i + 7 => simp at hQ
  · rintro d vs ⟨ds, rfl, hp⟩
    match ds, hp with
    | [d1, d2, d3, d4, d5, d6, d7], hp =>
      obtain ⟨a1, a2, rfl, ⟨s1, rfl, rfl⟩, b1, b2, rfl, ⟨zv, lv, rfl, hv⟩, c1, c2, rfl, ⟨za, la, rfl, hla, ha⟩, e1, e2, rfl, ⟨zb, lb, rfl, hlb, hb⟩, g1, g2, rfl, ⟨s5, rfl, rfl⟩, i1, i2, rfl, ⟨lo, rfl, rfl⟩, j1, j2, rfl, ⟨hi, rfl, rfl⟩, hw⟩ := hp
      obtain rfl : j2 = [] := hw
      refine ⟨⟨s1, zv, lv, za, la, zb, lb, s5, lo, hi⟩, rfl, ?_, hlb, hla⟩
      have hsl : s5.data.toList.length = s5.size := rfl
      have key : ∀ {α : Type} (l : List α) (d : DataW H), (l = [] ∨ ∃ D sp, d = .slice D sp ∧ l.length ≤ D.length) → l.length ≤ Rows.uptoBulk d := fun l d h => by
        rcases h with rfl | ⟨D, sp, rfl, hD⟩
        · simp
        · have := length_le D
          simp only [Rows.uptoBulk]; omega
      have k1 := key lv d2 hv
      have k2 := key la d3 ha
      have k3 := key lb d4 hb
      simp only [Rows.uptoBulk, Rows.uptoBulkAll, hsl]
      omega
end

end Go.Proofs.YtmcakfjbefelgaaDoor.askHolds
