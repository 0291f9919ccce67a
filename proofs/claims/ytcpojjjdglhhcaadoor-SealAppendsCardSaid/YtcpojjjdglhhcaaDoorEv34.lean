/-
  THE SHELF's CONTRACTS OF strconv.Itoa AND strings.Join AS ORACLES (own work).
-/
import Derived.Test.YtcpojjjdglhhcaaDoorEv33
import Derived.Room.Shelf.Join48
import Derived.Shelf.Strconv.Itoa3
import Derived.Lib.AppendIntMem
import Derived.Lib.ItoaLen
set_option linter.unusedSimpArgs false
set_option linter.unusedVariables false
namespace Go.Ev
open Go Go.RowKit Go.Shelf Go.Proofs

section
variable {P : Program} {w0 : World} {B : Nat} {e : Emb} {H : Heap} {w : World} {Γ : Env} {ρ : Ren}

theorem repL_one {x : V} {vs : List Value} (h : RepL w0 B e [x] vs) : ∃ v, vs = [v] ∧ Rep w0 B e x v := by
  match vs, h with
  | [v], h => exact ⟨v, rfl, h.head⟩
  | [], h => exact absurd h.1 (by simp)
  | _ :: _ :: _, h => exact absurd h.1 (by simp)
theorem repL_two {x y : V} {vs : List Value} (h : RepL w0 B e [x, y] vs) : ∃ v u, vs = [v, u] ∧ Rep w0 B e x v ∧ Rep w0 B e y u := by
  match vs, h with
  | v :: l, h =>
    obtain ⟨u, rfl, hu⟩ := repL_one h.tail
    exact ⟨v, u, rfl, h.head, hu⟩
  | [], h => exact absurd h.1 (by simp)

def itoaB (n : Int) : ByteArray := ⟨(Lib.itoa n).toArray⟩
def i64 (n : Int) : Prop := -9223372036854775808 ≤ n ∧ n ≤ 9223372036854775807
instance (n : Int) : Decidable (i64 n) := by unfold i64; infer_instance
theorem itoaB_size {n : Int} (h : i64 n) : (itoaB n).size ≤ 21 := by
  have := Lib.itoa_length_le n h.1 h.2
  simpa [itoaB, ByteArray.size] using this
def itoaOrc (args : List V) (H : Heap) : Option (V × Heap) := match args with
  | [.int .i64 n] => if i64 n then some (.str (itoaB n), H) else none
  | _ => none
theorem itoaOrc_eq {n : Int} (h : i64 n) (H : Heap) : itoaOrc [.int .i64 n] H = some (.str (itoaB n), H) := by simp [itoaOrc, h]

theorem itoaOrc_ok (hmono : Γ.mono = false) (L : LaysM.n171 P ρ) {g : Nat} (hn : P.globalNamed "internal/strconv.uint64pow10" = some g) (hgl : Γ.glob g = some (Lib.pow10Tab.map (V.int .u64))) (hcb : Callable P (ρ.f 171))
    {args : List V} {r : V × Heap} (h : itoaOrc args H = some r) {vs : List Value} (hg : GlobOk Γ w0 B) (hs : HS w0 B e H w) (ha : RepL w0 B e args vs) : CallAt P (ρ.f 171) vs w0 B e H w r := by
  unfold itoaOrc at h
  split at h
  · rename_i n
    split at h
    · rename_i hi
      cases h
      obtain ⟨v, rfl, hv⟩ := repL_one ha
      cases hv
      refine CallAt.pure hmono hg hs hcb ((Any.strconv_Itoa L n hi.1 hi.2 w (tab_of_glob hg hs hgl hn)).mono fun ed w' hp => ?_) (.str _ _)
      obtain ⟨rfl, k, os, rfl⟩ := hp
      exact ⟨rfl, Lib.below_grow _ _ (Nat.le_refl _) _ _⟩
    · cases h
  · cases h

def joinB (xs : List ByteArray) (sep : ByteArray) : ByteArray := ⟨(Lib.join (xs.map (·.data.toList)) sep.data.toList).toArray⟩
def strsOf : List V → Option (List ByteArray)
  | [] => some []
  | .str s :: l => (strsOf l).map (s :: ·)
  | _ => none
def joinOrc (args : List V) (H : Heap) : Option (V × Heap) := match args with
  | [.ros n cs, .str sep] => (strsOf cs).bind fun xs => if 0 < n ∧ n = cs.length ∧ n ≤ 140737488355328 ∧ (joinB xs sep).size ≤ 281474976710656 then some (.str (joinB xs sep), H) else none
  | _ => none
theorem strsOf_get : ∀ {cs : List V} {xs : List ByteArray}, strsOf cs = some xs → cs = xs.map V.str
  | [], xs, h => by cases h; rfl
  | .str s :: l, xs, h => by
    simp only [strsOf, Option.map_eq_some_iff] at h
    obtain ⟨ys, hy, rfl⟩ := h
    rw [strsOf_get hy]; rfl

theorem joinOrc_ok (hmono : Γ.mono = false) (L : Lays.n156 P ρ) (X : Builder.Extra P ρ) (hcb : Callable P (ρ.f 156))
    {args : List V} {r : V × Heap} (h : joinOrc args H = some r) {vs : List Value} (hg : GlobOk Γ w0 B) (hs : HS w0 B e H w) (ha : RepL w0 B e args vs) : CallAt P (ρ.f 156) vs w0 B e H w r := by
  unfold joinOrc at h
  split at h
  · rename_i n cs sep
    obtain ⟨xs, hxs, h⟩ := Option.bind_eq_some_iff.1 h
    split at h
    · rename_i hc
      obtain ⟨h0, hn, hN, hlen⟩ := hc
      cases h
      have hcs := strsOf_get hxs
      obtain ⟨v1, v2, rfl, hv1, hv2⟩ := repL_two ha
      cases hv2
      have hl : cs.length = xs.length := by rw [hcs]; simp
      cases hv1 with
      | rose _ a => omega
      | ros _ _ _ b o cap f hcap hcell h1 hr =>
        have hcc : ∀ (j : Nat) x, xs[j]? = some x → w.cell? ⟨b, o + j, none⟩ = some (.string x) := fun j x hx => by
          have hj : j < cs.length := by rw [hl]; exact (List.getElem?_eq_some_iff.1 hx).1
          have hr1 := hr j hj
          have hx' : cs[j] = V.str x := by
            have : cs[j]? = some (V.str x) := by rw [hcs, List.getElem?_map, hx]; rfl
            rw [List.getElem?_eq_getElem hj] at this; exact Option.some.inj this
          rw [hx'] at hr1
          have hcell1 := hs.kcell (hcell j hj)
          generalize f j = y at hr1 hcell1
          cases hr1
          exact hcell1
        have hbk : b < w.heap.size := by
          have hj : 0 < xs.length := by omega
          exact cell_lt (hcc 0 _ (List.getElem?_eq_getElem hj))
        have hlen' : (Lib.join (xs.map (·.data.toList)) sep.data.toList).length ≤ 281474976710656 := by simpa [joinB, ByteArray.size] using hlen
        have hnx : n = xs.length := by omega
        rw [hnx] at hcap ⊢
        exact CallAt.pure hmono hg hs hcb (Any.strings_Join_48 L X b o cap xs sep w hcc hbk (by omega) hcap hlen') (.str _ _)
    · cases h
  · cases h
end
end Go.Ev
