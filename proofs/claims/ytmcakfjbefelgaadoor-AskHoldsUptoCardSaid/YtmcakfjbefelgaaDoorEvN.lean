/-
  THE SHELF's CONTRACTS OF strings.Contains AND bytes.Contains AS ORACLES (own work).
-/
import Derived.Test.YtmcakfjbefelgaaDoorEvF
import Derived.Test.YtmcakfjbefelgaaDoorEvM
import Derived.Shelf.Strings.Search3
import Derived.Shelf.Bytes.SlIndexWhole
set_option linter.unusedSimpArgs false
set_option linter.unusedVariables false
namespace Go.Ev
open Go Go.RowKit Go.Shelf Go.Proofs

section
variable {P : Program} {w0 : World} {B : Nat} {e : Emb} {H : Heap} {w : World} {Γ : Env} {ρ : Ren}

theorem below_drewN' (w : World) (n : Nat) : Below w.heap.size w (w.drewN n) := (Below.refl _ w).trans ⟨rfl, rfl, rfl, Nat.le_refl _, fun _ _ => rfl⟩
theorem repL_pair {x y : V} {vs : List Value} (h : RepL w0 B e [x, y] vs) : ∃ v u, vs = [v, u] ∧ Rep w0 B e x v ∧ Rep w0 B e y u := by
  match vs, h with
  | [v, u], h => exact ⟨v, u, rfl, h.head, h.tail.head⟩
  | [], h => exact absurd h.1 (by simp)
  | [_], h => exact absurd h.1 (by simp)
  | _ :: _ :: _ :: _, h => exact absurd h.1 (by simp)
/-- A listed variable of one cell holds what is told. -/
theorem cell_of_glob (hg : GlobOk Γ w0 B) (hs : HS w0 B e H w) {g : Nat} {k : IntKind} {z : Int} (h : Γ.glob g = some [V.int k z]) : w.cell? ⟨g, 0, none⟩ = some (.int k z) := by
  obtain ⟨hr, hgB, c, el, fr, hob, hsz⟩ := hg.2 g _ h
  cases hr with
  | ro _ _ _ _ f hc h1' hrr =>
    have hc1 := hc 0 (by simp)
    rw [kcell_old hgB, Nat.zero_add] at hc1
    have hr1 := hrr 0 (by simp)
    have hcell : w.cell? ⟨g, 0, none⟩ = w0.cell? ⟨g, 0, none⟩ := by
      simp only [World.cell?]
      rw [hs.old g hgB]
    rw [hcell, hc1]
    simp only [List.getElem_cons_zero] at hr1
    generalize f 0 = x at hr1
    cases hr1
    rfl

/-! ### strings.Contains -/
def containsOrc (args : List V) (H : Heap) : Option (V × Heap) := match args with
  | [.str s, .str sub] => if s.size < 4294967281 then some (.bool (Lib.contains s.data.toList sub.data.toList), H) else none
  | _ => none
theorem containsOrc_eq {s sub : ByteArray} (h : s.size < 4294967281) (H : Heap) : containsOrc [.str s, .str sub] H = some (.bool (Lib.contains s.data.toList sub.data.toList), H) := by simp [containsOrc, h]
theorem containsOrc_ok (hmono : Γ.mono = false) (L : Lays.n144 P ρ) {mx : Int} (hgl : Γ.glob (ρ.g 1) = some [V.int .i64 mx]) (hcb : Callable P (ρ.f 144))
    {args : List V} {r : V × Heap} (h : containsOrc args H = some r) {vs : List Value} (hg : GlobOk Γ w0 B) (hs : HS w0 B e H w) (ha : RepL w0 B e args vs) : CallAt P (ρ.f 144) vs w0 B e H w r := by
  unfold containsOrc at h
  split at h
  · rename_i s sub
    split at h
    · rename_i hi
      cases h
      obtain ⟨v, u, rfl, hv, hu⟩ := repL_pair ha
      cases hv
      cases hu
      refine CallAt.pure hmono hg hs hcb ((Any.strings_Contains L s sub mx w hi (cell_of_glob hg hs hgl)).mono fun ed w' hp => ?_) (.bool _ _)
      obtain ⟨rfl, rfl⟩ := hp
      exact ⟨rfl, Below.refl _ _⟩
    · cases h
  · cases h

/-! ### bytes.Contains -/
def u8sOf : List V → Option (List Int)
  | [] => some []
  | .int .u8 z :: l => (u8sOf l).map (z :: ·)
  | _ => none
theorem u8sOf_get : ∀ {cs : List V} {xs : List Int}, u8sOf cs = some xs → cs = xs.map (V.int .u8)
  | [], xs, h => by cases h; rfl
  | .int .u8 z :: l, xs, h => by
    simp only [u8sOf, Option.map_eq_some_iff] at h
    obtain ⟨ys, hy, rfl⟩ := h
    rw [u8sOf_get hy]; rfl
theorem u8sOf_map (xs : List Int) : u8sOf (xs.map (V.int .u8)) = some xs := by
  induction xs with
  | nil => rfl
  | cons x l ih => simp [u8sOf, ih]
def inU8 (xs : List Int) : Prop := ∀ x ∈ xs, 0 ≤ x ∧ x < 256
instance (xs : List Int) : Decidable (inU8 xs) := by unfold inU8; infer_instance
def bcontainsOrc (args : List V) (H : Heap) : Option (V × Heap) := match args with
  | [.ros n cs, .ros k ds] => (u8sOf cs).bind fun xs => (u8sOf ds).bind fun ys =>
    if n = xs.length ∧ k = ys.length ∧ n < 4294967281 ∧ k ≤ 9223372036854775807 ∧ inU8 xs ∧ inU8 ys then some (.bool (Lib.contains (Lib.bytesOf xs) (Lib.bytesOf ys)), H) else none
  | [.nils, .ros k ds] => (u8sOf ds).bind fun ys => if k = ys.length ∧ k ≤ 9223372036854775807 then some (.bool (decide (k = 0)), H) else none
  | _ => none
/-- A read-only slice of bytes and its cells. -/
theorem ros_u8 (hs : HS w0 B e H w) {n : Nat} {cs : List V} {xs : List Int} (hc : u8sOf cs = some xs) (hn : n = xs.length) {v : Value} (h : Rep w0 B e (.ros n cs) v) :
    ∃ (b o cap : Nat), v = .slice (some ⟨b, o, none⟩) n cap ∧ n ≤ cap ∧ (∀ i, i < n → w.cell? ⟨b, o + i, none⟩ = some (.int .u8 (xs.getD i 0))) ∨ n = 0 ∧ ∃ a cap, v = .slice (some a) 0 cap := by
  have hcs := u8sOf_get hc
  have hl : cs.length = xs.length := by rw [hcs]; simp
  cases h with
  | rose _ a => exact ⟨0, 0, 0, .inr ⟨rfl, a, 0, rfl⟩⟩
  | ros _ _ _ b o cap f hcap hcell h1 hr =>
    refine ⟨b, o, cap, .inl ⟨rfl, hcap, fun i hi => ?_⟩⟩
    have hj : i < cs.length := by omega
    have hr1 := hr i hj
    have hcell1 := hs.kcell (hcell i hj)
    have hx' : cs[i] = V.int .u8 (xs.getD i 0) := by
      have h1 : xs.getD i 0 = xs[i]'(by omega) := by rw [List.getD_eq_getElem?_getD, List.getElem?_eq_getElem (by omega)]; rfl
      rw [h1]
      simp only [hcs, List.getElem_map]
    rw [hx'] at hr1
    generalize f i = y at hr1 hcell1
    cases hr1
    exact hcell1
/-- The same, in one form. -/
theorem ros_u8' (hs : HS w0 B e H w) {n : Nat} {cs : List V} {xs : List Int} (hc : u8sOf cs = some xs) (hn : n = xs.length) {v : Value} (h : Rep w0 B e (.ros n cs) v) :
    ∃ (a : Addr) (cap : Nat), v = .slice (some a) n cap ∧ n ≤ cap ∧ (∀ i, i < n → w.cell? (a.add i) = some (.int .u8 (xs.getD i 0))) ∧ (n = 1 → ∃ b o, a = ⟨b, o, none⟩) := by
  obtain ⟨b, o, cap, ⟨rfl, h1, h2⟩ | ⟨rfl, a, cap, rfl⟩⟩ := ros_u8 hs hc hn h
  · refine ⟨⟨b, o, none⟩, cap, rfl, h1, fun i hi => ?_, fun _ => ⟨b, o, rfl⟩⟩
    have h := h2 i hi
    unfold Addr.add
    split
    · rename_i h0; subst h0; exact h
    · exact h
  · exact ⟨a, cap, rfl, Nat.zero_le _, fun i hi => by omega, fun h => by omega⟩
theorem bcontainsOrc_ok (hmono : Γ.mono = false) (L : Lays.n186 P ρ) {mx : Int} (hgl : Γ.glob (ρ.g 1) = some [V.int .i64 mx]) (hcb : Callable P (ρ.f 186))
    {args : List V} {r : V × Heap} (h : bcontainsOrc args H = some r) {vs : List Value} (hg : GlobOk Γ w0 B) (hs : HS w0 B e H w) (ha : RepL w0 B e args vs) : CallAt P (ρ.f 186) vs w0 B e H w r := by
  unfold bcontainsOrc at h
  split at h
  · rename_i n cs k ds
    obtain ⟨xs, hxs, h⟩ := Option.bind_eq_some_iff.1 h
    obtain ⟨ys, hys, h⟩ := Option.bind_eq_some_iff.1 h
    split at h
    · rename_i hc
      obtain ⟨hn, hk, h1, h2, h3, h4⟩ := hc
      cases h
      obtain ⟨v, u, rfl, hv, hu⟩ := repL_pair ha
      obtain ⟨a1, c1, rfl, hc1, hcell1, _⟩ := ros_u8' hs hxs hn hv
      obtain ⟨a2, c2, rfl, hc2, hcell2, _⟩ := ros_u8' hs hys hk hu
      refine CallAt.pure hmono hg hs hcb ((Any.bytes_Contains_at L a1 a2 n c1 k c2 xs ys mx w hn.symm hk.symm h3 h4 hcell1 hcell2 hc1 h1 h2 (cell_of_glob hg hs hgl)).mono fun ed w' hp => ?_) (.bool _ _)
      obtain ⟨rfl, q, rfl⟩ := hp
      exact ⟨rfl, below_drewN' _ _⟩
    · cases h
  · rename_i k ds
    obtain ⟨ys, hys, h⟩ := Option.bind_eq_some_iff.1 h
    split at h
    · rename_i hc
      obtain ⟨hk, h2⟩ := hc
      cases h
      obtain ⟨v, u, rfl, hv, hu⟩ := repL_pair ha
      obtain ⟨a2, c2, rfl, hc2, hcell2, hview⟩ := ros_u8' hs hys hk hu
      cases hv
      refine CallAt.pure hmono hg hs hcb ((Any.bytes_Contains_nil L (some a2) k c2 w h2 (fun hk1 => ?_)).mono fun ed w' hp => ?_) (.bool _ _)
      · have h0 := hcell2 0 (by omega)
        obtain ⟨b2, o2, rfl⟩ := hview hk1
        exact ⟨b2, o2, _, rfl, h0⟩
      · obtain ⟨rfl, rfl⟩ := hp
        exact ⟨rfl, Below.refl _ _⟩
    · cases h
  · cases h
theorem bcontainsOrc_eq {xs ys : List Int} (h1 : xs.length < 4294967281) (h2 : ys.length ≤ 9223372036854775807) (h3 : inU8 xs) (h4 : inU8 ys) (H : Heap) :
    bcontainsOrc [.ros xs.length (xs.map (V.int .u8)), .ros ys.length (ys.map (V.int .u8))] H = some (.bool (Lib.contains (Lib.bytesOf xs) (Lib.bytesOf ys)), H) := by
  simp [bcontainsOrc, u8sOf_map, h1, h2, h3, h4]
theorem bcontainsOrc_nil {ys : List Int} (h2 : ys.length ≤ 9223372036854775807) (H : Heap) :
    bcontainsOrc [.nils, .ros ys.length (ys.map (V.int .u8))] H = some (.bool (decide (ys.length = 0)), H) := by
  simp [bcontainsOrc, u8sOf_map, h2]
end
end Go.Ev
