/-
  FINDINGS: maps of words; the reference's Tied (own work).
-/
import Derived.Test.YtmcakfjbefelgaaDoorAhH
set_option linter.unusedSimpArgs false
set_option linter.unusedVariables false
set_option maxRecDepth 100000
set_option maxHeartbeats 4000000
namespace Go.Ev.Tryd.Hd
open Go Go.Ev Go.Proofs
variable {mx : Int}

/-! ### The map of words -/
def wents (b : Nat) : List ByteArray → List (V × V × Nat)
  | [] => []
  | e :: E => (.str e, .bool (!decide (e = ByteArray.empty)), b) :: wents (b + 1) E
@[simp] theorem wents_map (f : V × V × Nat → V × V × Nat) (hf : ∀ a b c, f (.str a, .bool b, c) = (.str a, .bool b, c)) (E : List ByteArray) : ∀ b, (wents b E).map f = wents b E := by
  induction E with
  | nil => intro b; rfl
  | cons e E ih => intro b; simp [wents, ih, hf]
@[simp high] theorem wents_ren (ρ : Nat → Option Nat) (b c : Nat) (E : List ByteArray) : Blk.ren ρ (.map (wents b E) c) = .map (wents b E) c := by
  rw [Blk.ren, wents_map _ (fun a b c => rfl)]
@[simp] theorem wents_flat {β : Type} (f : V × V × Nat → List β) (hf : ∀ a b c, f (.str a, .bool b, c) = []) (E : List ByteArray) : ∀ b, (wents b E).flatMap f = [] := by
  induction E with
  | nil => intro b; rfl
  | cons e E ih => intro b; simp [wents, ih, hf]
@[simp high] theorem wents_refs (b c : Nat) (E : List ByteArray) : Blk.refs (.map (wents b E) c) = [] := by
  rw [Blk.refs, wents_flat _ (fun a b c => rfl)]
@[simp high] theorem wents_leaves (m b c : Nat) (E : List ByteArray) : Blk.leavesM m (.map (wents b E) c) = [] := by
  show ((Blk.refs (.map (wents b E) c)).filter _).map some = []
  rw [wents_refs]; rfl
theorem keyEq_str (a b : ByteArray) : keyEq (.str a) (.str b) = some (decide (a = b)) := by
  have h : (a == b) = decide (a = b) := by
    obtain ⟨x⟩ := a
    obtain ⟨y⟩ := b
    show ByteArray.beq ⟨x⟩ ⟨y⟩ = _
    have h1 : ByteArray.beq ⟨x⟩ ⟨y⟩ = (x == y) := by first | rfl | (unfold ByteArray.beq; rfl) | simp [ByteArray.beq]
    rw [h1, Bool.eq_iff_iff]
    simp
  show some (a == b) = _
  rw [h]
theorem wfind_not (E : List ByteArray) (w : ByteArray) (h : ¬ w ∈ E) : ∀ b i, Go.Ev.findE (.str w) (wents b E) i = some none := by
  induction E with
  | nil => intro b i; rfl
  | cons e E ih =>
    intro b i
    have h1 : ¬ w = e := fun h' => h (by rw [h']; simp)
    rw [wents, Go.Ev.findE, keyEq_str, decide_eq_false h1]
    exact ih (fun h' => h (List.mem_cons_of_mem _ h')) _ _
theorem wfind_has (E : List ByteArray) (w : ByteArray) (h : w ∈ E) : ∀ b i, ∃ p, Go.Ev.findE (.str w) (wents b E) i = some (some (i + p, .bool (!decide (w = ByteArray.empty)))) ∧ (wents b E).modify p (fun e => (.str w, .bool (!decide (w = ByteArray.empty)), e.2.2)) = wents b E := by
  induction E with
  | nil => simp at h
  | cons e E ih =>
    intro b i
    by_cases h1 : w = e
    · subst h1
      refine ⟨0, ?_, ?_⟩
      · rw [wents, Go.Ev.findE, keyEq_str, decide_eq_true rfl]; rfl
      · simp [wents]
    · obtain ⟨p, h2, h3⟩ := ih (by rcases List.mem_cons.1 h with h | h; exact absurd h h1; exact h) (b + 1) (i + 1)
      refine ⟨p + 1, ?_, ?_⟩
      · rw [wents, Go.Ev.findE, keyEq_str, decide_eq_false h1]
        show Go.Ev.findE _ _ _ = _
        rw [h2]
        simp only [Option.some.injEq, Prod.mk.injEq, and_true]
        omega
      · rw [wents, List.modify_succ_cons, h3]
theorem wents_app (E : List ByteArray) (y : ByteArray) : ∀ b, wents b (E ++ [y]) = wents b E ++ [(.str y, .bool (!decide (y = ByteArray.empty)), b + E.length)] := by
  induction E with
  | nil => intro b; simp [wents]
  | cons e E ih => intro b; rw [List.cons_append, wents, wents, ih, List.length_cons, show b + 1 + E.length = b + (E.length + 1) by omega]; rfl
theorem wents_snoc (E : List ByteArray) (y : ByteArray) : wents 0 E ++ [(.str y, .bool (!decide (y = ByteArray.empty)), E.length)] = wents 0 (E ++ [y]) := by
  rw [wents_app]; simp

/-- Tied's places: how two places meet, from the greater one on. -/
noncomputable def meetsT (x y : Span) : Bool := decide (0 < x.len) && (decide (0 < y.len) && (decide (subI .u64 (w64 (max x.off y.off)) (w64 x.off) < w64 x.len) && decide (subI .u64 (w64 (max x.off y.off)) (w64 y.off) < w64 y.len)))

def inL (A : List ByteArray) (w : ByteArray) : Bool := anyL (fun y => decide (w = y)) A
theorem inL_iff (A : List ByteArray) (w : ByteArray) : inL A w = true ↔ w ∈ A := by
  unfold inL anyL
  rw [List.any_eq_true]
  constructor
  · rintro ⟨x, h, e⟩
    rw [of_decide_eq_true e]; exact h
  · intro h; exact ⟨w, h, decide_eq_true rfl⟩
theorem share_eq (a b : Finding) : share a b = anyL (fun w => inL (pcs a.text) w && !decide (w = ByteArray.empty)) (pcs b.text) := by
  unfold share anyL words
  rw [Bool.eq_iff_iff]
  simp only [List.any_eq_true, List.mem_filter, Bool.not_eq_true', decide_eq_false_iff_not, decide_eq_true_eq, Bool.and_eq_true, inL_iff]
  constructor
  · rintro ⟨w, ⟨h1, h2⟩, y, ⟨h3, h4⟩, rfl⟩
    exact ⟨w, h3, h1, h2⟩
  · rintro ⟨w, h1, h2, h3⟩
    exact ⟨w, ⟨h2, h3⟩, w, ⟨h1, h3⟩, rfl⟩
theorem tz4 : tzero Tryd.prog 4 = some (.bool false) := by kernel_rfl
theorem w64_pos {n : Int} (h : 0 < n) (h2 : n ≤ 9223372036854775807) : 0 < w64 n := by
  have : w64 n = n := by
    unfold w64
    simp [IntKind.wrap, IntKind.bits, IntKind.signed]
    omega
  omega
theorem sub_self64 (n : Int) : subI .u64 n n = 0 := by rw [subI_eq]; simp [IntKind.wrap, IntKind.bits, IntKind.signed]
theorem meetsT_eq (x y : Span) (hx : x.len ≤ 9223372036854775807) (hy : y.len ≤ 9223372036854775807) : meetsT x y = common x y := by
  unfold meetsT common meets
  by_cases h1 : 0 < x.len
  · by_cases h2 : 0 < y.len
    · have p1 := w64_pos h1 hx
      have p2 := w64_pos h2 hy
      by_cases h : y.off < x.off
      · have hm : max x.off y.off = x.off := by omega
        simp [h1, h2, h, hm, sub_self64, p1]
      · have hm : max x.off y.off = y.off := by omega
        simp [h1, h2, h, hm, sub_self64, p2]
    · simp [h2]
  · simp [h1]
theorem anyL_and {α : Type} (s : Bool) (p : α → Bool) (l : List α) : anyL (fun x => s && p x) l = (s && anyL p l) := by
  unfold anyL
  cases s with
  | true => simp
  | false => simp
/-- The same layers, as far as they are looked at. -/
def sameTo (a b : Finding) (i : Nat) : Bool := decide (a.via.length = b.via.length ∧ a.via.take i = b.via.take i)
theorem tied_ok (a b : Finding) (op : Int) (ha : small a) (hb : small b) (ha2 : small2 a) (hb2 : small2 b) {k : Nat} (hk : a.text.size + b.text.size + a.via.length + a.at_.length + b.at_.length + 200 < k) :
    evF Tryd.prog (Γ mx) (k + 1) 15 [.agg (findE.f a), .agg (findE.f b), .int .i64 op] [] = some (.bool (linkedF a b op), []) := by
  rw [b15 (fun _ _ => rfl) _ _ (by simp)]
  have hA := findE_f a
  have hB := findE_f b
  rw [hA, hB]
  simp -implicitDefEqProofs
  generalize hx : evLoopC _ _ _ _ _ _ _ _ _ _ = R
  apply loop_gen hx (fun i : Nat => (mkL 144 .junk [(2, .int .i64 op), (3, .ptr 0 0), (4, .ptr 1 0), (7, .bool (sameTo a b i)), (28, .int .i64 a.via.length), (29, .int .i64 i)],
      [some (.cells [.str a.kind, roV a.zv a.via.length (flatE strE a.via), roV a.za a.at_.length (flatE spanE a.at_), roV a.zb a.bytes.length (flatE (intE .u8) a.bytes), .str a.text, .int .i64 a.low, .int .i64 a.high] true),
       some (.cells [.str b.kind, roV b.zv b.via.length (flatE strE b.via), roV b.za b.at_.length (flatE spanE b.at_), roV b.zb b.bytes.length (flatE (intE .u8) b.bytes), .str b.text, .int .i64 b.low, .int .i64 b.high] true), none, none, none, none, none, none]))
    (fun i => i ≤ a.via.length) (fun i => a.via.length - i) 0
  case hI => exact Nat.zero_le _
  case hq => omega
  case ht =>
    have h0 : sameTo a b 0 = decide ((a.via.length : Int) = b.via.length) := by unfold sameTo; rw [Bool.eq_iff_iff]; simp; omega
    simp -implicitDefEqProofs [liveOf, h0]
  case round =>
    rintro i hi _
    have hi : i ≤ a.via.length := hi
    have hav := ha2.1
    clear hx
    by_cases hlt : i < a.via.length
    · have hlt2 : (i : Int) < a.via.length := by omega
      have e2 : addI .i64 (i : Int) 1 = (i : Int) + 1 := addI_i64 (by omega) (by omega)
      by_cases hs : a.via.length = b.via.length ∧ a.via.take i = b.via.take i
      · have hb' : i < b.via.length := by omega
        have hlb2 : (i : Int) < b.via.length := by omega
        have ma := drop_str a.via i hlt
        have mb := drop_str b.via i hb'
        have h3 : 1 ≤ a.via.length - i := by omega
        have h4 : 1 ≤ b.via.length - i := by omega
        have hnext : (a.via.length = b.via.length ∧ a.via.take (i + 1) = b.via.take (i + 1)) ↔ a.via[i] = b.via[i] := by
          have t1 := List.take_succ_eq_append_getElem hlt
          have t2 := List.take_succ_eq_append_getElem hb'
          rw [t1, t2, hs.2]
          constructor
          · rintro ⟨_, h⟩
            have := List.append_cancel_left h
            simpa using this
          · intro h
            exact ⟨hs.1, by rw [h]⟩
        have hd : sameTo a b i = true := decide_eq_true hs
        have hd2 : sameTo a b (i + 1) = decide (a.via[i] = b.via[i]) := by unfold sameTo; rw [Bool.eq_iff_iff]; simp only [decide_eq_true_eq]; exact hnext
        rw [hd]
        generalize a.via[i] = x at *
        generalize b.via[i] = y at *
        simp -implicitDefEqProofs [hlt2, hlb2, e2, ma, mb, h3, h4]
        exact rnd_next (i + 1) hlt (by omega) (by simp -implicitDefEqProofs [liveOf, hd2])
      · have hd : sameTo a b i = false := decide_eq_false hs
        have hd2 : sameTo a b (i + 1) = false := by
          refine decide_eq_false fun h => hs ⟨h.1, ?_⟩
          have := congrArg (List.take i) h.2
          simpa [List.take_take, Nat.min_eq_left (Nat.le_succ i)] using this
        rw [hd]
        simp -implicitDefEqProofs [hlt2, e2]
        exact rnd_next (i + 1) hlt (by omega) (by simp -implicitDefEqProofs [liveOf, hd2])
    · obtain rfl : i = a.via.length := by omega
      have hd : sameTo a b a.via.length = decide (a.via = b.via) := by
        unfold sameTo
        rw [Bool.eq_iff_iff]
        simp only [decide_eq_true_eq, List.take_length]
        constructor
        · rintro ⟨h1, h2⟩
          rw [h1, List.take_length] at h2
          exact h2
        · intro h
          rw [h, List.take_length]
          exact ⟨rfl, rfl⟩
      rw [hd]
      unfold linkedF
      by_cases h0 : op = 0
      · simp -implicitDefEqProofs [h0]
      by_cases h1 : op = 1
      · simp -implicitDefEqProofs [h1]
      by_cases h2 : op = 2
      · subst h2
        have cb := splitS_ok (mx := mx) b.text (by have := hb.1; omega) (k := k - 1) (by omega)
        have ca := splitS_ok (mx := mx) a.text (by have := ha.1; omega) (k := k - 1) (by omega)
        have hk1 : k - 1 + 1 = k := by omega
        rw [hk1] at ca cb
        have hsp : (⟨#[32]⟩ : ByteArray) = sp := rfl
        have la : (pcs a.text).length ≤ a.text.size + 1 := by
          rw [pcs_length]
          have h2 : Lib.countByte a.text.data.toList 32 ≤ a.text.size := List.count_le_length
          omega
        have lb : (pcs b.text).length ≤ b.text.size + 1 := by
          rw [pcs_length]
          have h2 : Lib.countByte b.text.data.toList 32 ≤ b.text.size := List.count_le_length
          omega
        have hta := ha.1
        have htb := hb.1
        rw [share_eq]
        generalize pcs a.text = A at *
        generalize pcs b.text = L at *
        generalize a.text = ta at *
        generalize b.text = tb at *
        simp -implicitDefEqProofs [hsp, ca, mapUpdateV, keyKind, Go.Ev.findE]
        generalize hx : evLoopC _ _ _ _ _ _ _ _ _ _ = R
        apply loop_gen hx (fun s : Nat × List ByteArray => (mkL 144 .junk [(4, .ptr 0 0), (9, .map 1), (64, .sl 2 0 A.length 1), (65, .int .i64 A.length), (66, .int .i64 s.1)],
            [some (.cells [.str b.kind, roV b.zv b.via.length (flatE strE b.via), roV b.za b.at_.length (flatE spanE b.at_), roV b.zb b.bytes.length (flatE (intE .u8) b.bytes), .str tb, .int .i64 b.low, .int .i64 b.high] true),
             some (.map (wents 0 s.2) s.2.length), some (.cells (flatE strE A) true), none, none, none]))
          (fun s => s.1 ≤ A.length ∧ ∀ w, w ∈ s.2 ↔ w = ByteArray.empty ∨ w ∈ A.take s.1) (fun s => A.length - s.1) (0, [ByteArray.empty])
        case hI => simp
        case hq => simp only; omega
        case ht => simp -implicitDefEqProofs [liveOf, wents]
        case round =>
          rintro ⟨i, E⟩ ⟨hi, hE⟩ _
          clear hx ca
          dsimp only at hi hE ⊢
          by_cases hlt : i < A.length
          · have hlt2 : (i : Int) < A.length := by omega
            have e2 : addI .i64 (i : Int) 1 = (i : Int) + 1 := addI_i64 (by omega) (by omega)
            have hm := drop_str A i hlt
            have h3 : 1 ≤ A.length - i := by omega
            have ht : ∀ w, w ∈ A.take (i + 1) ↔ w ∈ A.take i ∨ w = A[i] := fun w => by
              rw [List.take_succ_eq_append_getElem hlt]; simp only [List.mem_append, List.mem_singleton]
            generalize A[i] = x at *
            by_cases hmem : x ∈ E
            · obtain ⟨p, f1, s1⟩ := wfind_has E x hmem 0 0
              rw [Nat.zero_add] at f1
              have hs1 : setEntry p (fun e => (V.str x, V.bool (!decide (x = ByteArray.empty)), e.2.2)) (wents 0 E) = wents 0 E := s1
              simp -implicitDefEqProofs [hlt2, e2, hm, h3, mapUpdateV, keyKind, f1, hs1]
              refine rnd_next (i + 1, E) ⟨hlt, fun w => ?_⟩ (by simp only; omega) ?_
              · dsimp only
                rw [hE, ht]
                constructor
                · rintro (h | h)
                  · exact .inl h
                  · exact .inr (.inl h)
                · rintro (h | h | rfl)
                  · exact .inl h
                  · exact .inr h
                  · exact (hE w).1 hmem
              · simp -implicitDefEqProofs [liveOf]
                exact wents_map _ (fun _ _ _ => rfl) _ _
            · have f1 := wfind_not E x hmem 0 0
              have s1 := wents_snoc E x
              simp -implicitDefEqProofs [hlt2, e2, hm, h3, mapUpdateV, keyKind, f1, s1]
              refine rnd_next (i + 1, E ++ [x]) ⟨hlt, fun w => ?_⟩ (by simp only; omega) ?_
              · dsimp only
                rw [List.mem_append, hE, ht]
                simp only [List.mem_singleton]
                constructor
                · rintro ((h | h) | h)
                  · exact .inl h
                  · exact .inr (.inl h)
                  · exact .inr (.inr h)
                · rintro (h | h | h)
                  · exact .inl (.inl h)
                  · exact .inl (.inr h)
                  · exact .inr h
              · simp -implicitDefEqProofs [liveOf]
                exact wents_map _ (fun _ _ _ => rfl) _ _
          · obtain rfl : i = A.length := by omega
            rw [List.take_length] at hE
            simp -implicitDefEqProofs [hsp, cb]
            generalize hp : (fun w : ByteArray => inL A w && !decide (w = ByteArray.empty)) = p
            generalize hx : evLoopC _ _ _ _ _ _ _ _ _ _ = R
            apply loop_gen hx (fun j : Nat => (mkL 144 .junk [(9, .map 0), (77, .sl 1 0 L.length 1), (78, .int .i64 L.length), (79, .int .i64 j)],
                [some (.map (wents 0 E) E.length), some (.cells (flatE strE L) true)]))
              (fun j => j ≤ L.length ∧ anyL p (L.take j) = false) (fun j => L.length - j) 0
            case hI => exact ⟨Nat.zero_le _, rfl⟩
            case hq => omega
            case ht =>
              simp -implicitDefEqProofs [liveOf]
              exact wents_map _ (fun _ _ _ => rfl) _ _
            case round =>
              rintro j ⟨hj, hn⟩ _
              clear hx cb
              by_cases hlt : j < L.length
              · have hlt2 : (j : Int) < L.length := by omega
                have e2 : addI .i64 (j : Int) 1 = (j : Int) + 1 := addI_i64 (by omega) (by omega)
                have hm := drop_str L j hlt
                have hst := any_take_step p L j hlt hn
                have hht := any_hit p L j hlt
                have h3 : 1 ≤ L.length - j := by omega
                generalize L[j] = x at *
                by_cases hmem : x ∈ E
                · obtain ⟨q, f1, _⟩ := wfind_has E x hmem 0 0
                  by_cases hxe : x = ByteArray.empty
                  · have hpx : p x = false := by rw [← hp]; simp [hxe]
                    rw [hxe] at f1 hm
                    simp -implicitDefEqProofs [hlt2, e2, hm, h3, lookupV, keyKind, findAny, pickV, f1]
                    exact rnd_next (j + 1) ⟨hlt, hst hpx⟩ (by omega) (by simp -implicitDefEqProofs [liveOf]; exact wents_map _ (fun _ _ _ => rfl) _ _)
                  · have hxA : x ∈ A := by
                      rcases (hE x).1 hmem with h | h
                      · exact absurd h hxe
                      · exact h
                    have hpx : p x = true := by rw [← hp]; simp [hxe, (inL_iff A x).2 hxA]
                    have hany := hht hpx
                    have hde : decide (x = ByteArray.empty) = false := decide_eq_false hxe
                    rw [hde] at f1
                    simp -implicitDefEqProofs [hlt2, e2, hm, h3, lookupV, keyKind, findAny, pickV, f1, hany]
                · have f1 := wfind_not E x hmem 0 0
                  have hpx : p x = false := by
                    rw [← hp]
                    have : inL A x = false := by rw [← Bool.not_eq_true, inL_iff]; exact fun h => hmem ((hE x).2 (.inr h))
                    simp [this]
                  simp -implicitDefEqProofs [hlt2, e2, hm, h3, lookupV, keyKind, findAny, pickV, f1, tz4]
                  exact rnd_next (j + 1) ⟨hlt, hst hpx⟩ (by omega) (by simp -implicitDefEqProofs [liveOf]; exact wents_map _ (fun _ _ _ => rfl) _ _)
              · obtain rfl : j = L.length := by omega
                rw [List.take_length] at hn
                simp -implicitDefEqProofs [hn]
      by_cases h3 : op = 3
      · subst h3
        have hlA := ha2.2.1
        have hlB := hb2.2.1
        have hrA := ha2.2.2
        have hrB := hb2.2.2
        unfold touch
        rw [if_neg h0, if_neg h1, if_neg h2, if_pos rfl]
        rw [← anyL_and]
        generalize decide (a.via = b.via) = sm at *
        generalize a.at_ = A at *
        generalize b.at_ = L at *
        simp -implicitDefEqProofs
        generalize hp : (fun x => sm && anyL (fun y => common x y) L) = p
        generalize hx : evLoopC _ _ _ _ _ _ _ _ _ _ = R
        apply loop_gen hx (fun i : Nat => (mkL 144 .junk [(4, .ptr 0 0), (7, .bool sm), (90, roV a.za A.length (flatE spanE A)), (91, .int .i64 A.length), (92, .int .i64 i)],
            [some (.cells [.str b.kind, roV b.zv b.via.length (flatE strE b.via), roV b.za L.length (flatE spanE L), roV b.zb b.bytes.length (flatE (intE .u8) b.bytes), .str b.text, .int .i64 b.low, .int .i64 b.high] true), none, none, none, none]))
          (fun i => i ≤ A.length ∧ anyL p (A.take i) = false) (fun i => A.length - i) 0
        case hI => exact ⟨Nat.zero_le _, rfl⟩
        case hq => omega
        case ht => simp -implicitDefEqProofs [liveOf]
        case round =>
          rintro i ⟨hi, hn⟩ _
          clear hx
          by_cases hlt : i < A.length
          · have hlt2 : (i : Int) < A.length := by omega
            have e2 : addI .i64 (i : Int) 1 = (i : Int) + 1 := addI_i64 (by omega) (by omega)
            have hm := drop_span A i hlt
            have hst := any_take_step p A i hlt hn
            have hht := any_hit p A i hlt
            have h3 : 2 ≤ A.length * 2 - i * 2 := by omega
            have hxr := hrA A[i] (List.getElem_mem hlt)
            generalize A[i] = x at *
            rw [spanE_f] at hm
            have hpx : p x = anyL (fun y => sm && meetsT x y) L := by
              have hpe : p x = anyL (fun y => sm && common x y) L := by rw [anyL_and, ← hp]
              rw [hpe]
              unfold anyL
              rw [Bool.eq_iff_iff, List.any_eq_true, List.any_eq_true]
              constructor
              · rintro ⟨y, h1, h2⟩
                exact ⟨y, h1, by rw [meetsT_eq x y hxr (hrB y h1)]; exact h2⟩
              · rintro ⟨y, h1, h2⟩
                exact ⟨y, h1, by rw [← meetsT_eq x y hxr (hrB y h1)]; exact h2⟩
            generalize hq : (fun y => sm && meetsT x y) = q at hpx
            simp -implicitDefEqProofs [hlt2, hm, h3]
            generalize hx : evLoopC _ _ _ _ _ _ _ _ _ _ = R2
            apply loop_gen hx (fun j : Nat => (mkL 144 .junk [(4, .ptr 0 0), (7, .bool sm), (15, .ptr 1 0), (90, roV a.za A.length (flatE spanE A)), (91, .int .i64 A.length), (92, .int .i64 i), (97, roV b.za L.length (flatE spanE L)), (98, .int .i64 L.length), (99, .int .i64 j)],
                [some (.cells [.str b.kind, roV b.zv b.via.length (flatE strE b.via), roV b.za L.length (flatE spanE L), roV b.zb b.bytes.length (flatE (intE .u8) b.bytes), .str b.text, .int .i64 b.low, .int .i64 b.high] true), some (.cells [.int .i64 x.off, .int .i64 x.len] true), none, none, none, none, none]))
              (fun j => j ≤ L.length ∧ anyL q (L.take j) = false) (fun j => L.length - j) 0
            case hI => exact ⟨Nat.zero_le _, rfl⟩
            case hq => omega
            case ht => simp -implicitDefEqProofs [liveOf]
            case round =>
              rintro j ⟨hj, hnj⟩ _
              clear hx
              by_cases hltj : j < L.length
              · have hltj2 : (j : Int) < L.length := by omega
                have e2j : addI .i64 (j : Int) 1 = (j : Int) + 1 := addI_i64 (by omega) (by omega)
                have hmj := drop_span L j hltj
                have hstj := any_take_step q L j hltj hnj
                have hhtj := any_hit q L j hltj
                have h3j : 2 ≤ L.length * 2 - j * 2 := by omega
                generalize L[j] = y at *
                rw [spanE_f] at hmj
                have hqy : q y = (sm && meetsT x y) := by rw [← hq]
                clear hq hp
                cases sm with
                | false =>
                  rw [Bool.false_and] at hqy
                  simp -implicitDefEqProofs [hltj2, hmj, h3j, e2j, conv64]
                  exact rnd_next (j + 1) ⟨hltj, hstj hqy⟩ (by omega) (by simp -implicitDefEqProofs [liveOf])
                | true =>
                  rw [Bool.true_and] at hqy
                  unfold meetsT at hqy
                  have hmx : (if x.off < y.off then y.off else x.off) = max x.off y.off := by split <;> omega
                  generalize max x.off y.off = mo at *
                  by_cases c1 : 0 < x.len
                  · by_cases c2 : 0 < y.len
                    · by_cases c3 : subI .u64 (w64 mo) (w64 x.off) < w64 x.len
                      · by_cases c4 : subI .u64 (w64 mo) (w64 y.off) < w64 y.len
                        · have hany : anyL p A = true := hht (by rw [hpx]; exact hhtj (by rw [hqy]; simp [c1, c2, c3, c4]))
                          simp -implicitDefEqProofs [hltj2, hmj, h3j, e2j, conv64, hmx, c1, c2, c3, c4, hany]
                        · have hqf : q y = false := by rw [hqy]; simp [c4]
                          simp -implicitDefEqProofs [hltj2, hmj, h3j, e2j, conv64, hmx, c1, c2, c3, c4]
                          exact rnd_next (j + 1) ⟨hltj, hstj hqf⟩ (by omega) (by simp -implicitDefEqProofs [liveOf])
                      · have hqf : q y = false := by rw [hqy]; simp [c3]
                        simp -implicitDefEqProofs [hltj2, hmj, h3j, e2j, conv64, hmx, c1, c2, c3]
                        exact rnd_next (j + 1) ⟨hltj, hstj hqf⟩ (by omega) (by simp -implicitDefEqProofs [liveOf])
                    · have hqf : q y = false := by rw [hqy]; simp [c2]
                      simp -implicitDefEqProofs [hltj2, hmj, h3j, e2j, conv64, hmx, c1, c2]
                      exact rnd_next (j + 1) ⟨hltj, hstj hqf⟩ (by omega) (by simp -implicitDefEqProofs [liveOf])
                  · have hqf : q y = false := by rw [hqy]; simp [c1]
                    simp -implicitDefEqProofs [hltj2, hmj, h3j, e2j, conv64, hmx, c1]
                    exact rnd_next (j + 1) ⟨hltj, hstj hqf⟩ (by omega) (by simp -implicitDefEqProofs [liveOf])
              · obtain rfl : j = L.length := by omega
                rw [List.take_length, ← hpx] at hnj
                simp -implicitDefEqProofs [e2]
                exact rnd_next (i + 1) ⟨hlt, hst hnj⟩ (by omega) (by simp -implicitDefEqProofs [liveOf])
          · obtain rfl : i = A.length := by omega
            rw [List.take_length] at hn
            simp -implicitDefEqProofs [hn]
      simp -implicitDefEqProofs [h0, h1, h2, h3]
end Go.Ev.Tryd.Hd
