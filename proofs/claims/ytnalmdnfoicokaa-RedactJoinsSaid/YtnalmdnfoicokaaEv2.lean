/-
  WHAT ABSTRACT VALUES STAND FOR (own work): 'Rep'; the heap's relation 'HS'; what a step may do, 'Go'.
-/
import Derived.Test.YtnalmdnfoicokaaEv1
namespace Go.Ev
open Go

/-- Where a block lies: the real block, where its first cell lies in it, how many cells the real row has. -/
structure EB where
  b : Nat
  base : Nat
  size : Nat

/-- Where the blocks lie that have a name; which blocks will never turn again, with what they hold. -/
structure Emb where
  loc : Nat → Option EB
  frz : Nat → Option Obj
instance : CoeFun Emb (fun _ => Nat → Option EB) := ⟨Emb.loc⟩
def emp : Emb := ⟨fun _ => none, fun _ => none⟩
def Emb.bare (e : Emb) : Emb := ⟨fun _ => none, e.frz⟩
/-- What is known of a block for good. -/
def known (w0 : World) (B : Nat) (e : Emb) (b : Nat) : Option Obj := if b < B then w0.heap[b]? else e.frz b
def kcell (w0 : World) (B : Nat) (e : Emb) (b o : Nat) : Option Value := match known w0 B e b with
  | some (.cells c _ _) => c[o]?
  | _ => none
theorem kcell_mono {w0 w1 : World} {B B1 : Nat} {e e1 : Emb} (hk : ∀ b o, known w0 B e b = some o → known w1 B1 e1 b = some o) {b o : Nat} {v : Value} (h : kcell w0 B e b o = some v) : kcell w1 B1 e1 b o = some v := by
  unfold kcell at h ⊢
  cases hb : known w0 B e b with
  | none => rw [hb] at h; cases h
  | some x => rw [hb] at h; rw [hk _ _ hb]; exact h
theorem known_frz {w0 : World} {B : Nat} {e e1 : Emb} (hz : ∀ b o, e.frz b = some o → e1.frz b = some o) : ∀ b o, known w0 B e b = some o → known w0 B e1 b = some o := fun b o h => by
  unfold known at h ⊢
  split at h
  · rename_i hb; rw [if_pos hb]; exact h
  · rename_i hb; rw [if_neg hb]; exact hz b o h
theorem kcell_old {w0 : World} {B : Nat} {e : Emb} {b o : Nat} (hb : b < B) : kcell w0 B e b o = w0.cell? ⟨b, o, none⟩ := by
  unfold kcell known World.cell?
  rw [if_pos hb]
  cases w0.heap[b]? with
  | none => rfl
  | some x => cases x <;> rfl

abbrev one : Value → Bool := Value.oneCell'

inductive Rep (w0 : World) (B : Nat) : Emb → V → Value → Prop
  | bool (e b) : Rep w0 B e (.bool b) (.bool b)
  | int (e k n) : Rep w0 B e (.int k n) (.int k n)
  | str (e s) : Rep w0 B e (.str s) (.string s)
  | nilp (e) : Rep w0 B e .nilp (.pointer none)
  | ptr (e : Emb) (id off eb) (h : e id = some eb) : Rep w0 B e (.ptr id off) (.pointer (some ⟨eb.b, eb.base + off, none⟩))
  | ro (e : Emb) (cs : List V) (b o : Nat) (f : Nat → Value)
      (hc : ∀ j, j < cs.length → kcell w0 B e b (o + j) = some (f j)) (h1 : ∀ j, j < cs.length → one (f j) = true)
      (hr : ∀ j (h : j < cs.length), Rep w0 B e.bare (cs[j]'h) (f j)) : Rep w0 B e (.ro cs) (.pointer (some ⟨b, o, none⟩))
  | nils (e) : Rep w0 B e .nils (.slice none 0 0)
  | sl (e : Emb) (id off len sz cap eb o) (h : e id = some eb) (hl : len ≤ cap) (hz : 0 < sz) (hs : eb.base + off + cap * sz = eb.size) (ho : 0 < cap → o = eb.base + off) :
      Rep w0 B e (.sl id off len sz) (.slice (some ⟨eb.b, o, none⟩) len cap)
  | ros (e : Emb) (len : Nat) (cs : List V) (b o cap : Nat) (f : Nat → Value) (hl : len ≤ cap)
      (hc : ∀ j, j < cs.length → kcell w0 B e b (o + j) = some (f j)) (h1 : ∀ j, j < cs.length → one (f j) = true)
      (hr : ∀ j (h : j < cs.length), Rep w0 B e.bare (cs[j]'h) (f j)) : Rep w0 B e (.ros len cs) (.slice (some ⟨b, o, none⟩) len cap)
  | rose (e : Emb) (a : Addr) : Rep w0 B e (.ros 0 []) (.slice (some a) 0 0)
  | nilm (e) : Rep w0 B e .nilm (.map none)
  | map (e : Emb) (id eb) (h : e id = some eb) : Rep w0 B e (.map id) (.map (some eb.b))
  | rom (e : Emb) (ks vs : List V) (r clock : Nat) (es : List MapEntry) (hm : known w0 B e r = some (.map ⟨es⟩ clock))
      (hk : ks.length = es.length) (hv : vs.length = es.length)
      (hkr : ∀ j (h : j < ks.length) (h' : j < es.length), Rep w0 B e.bare (ks[j]'h) (es[j]'h').key)
      (hvr : ∀ j (h : j < vs.length) (h' : j < es.length), Rep w0 B e.bare (vs[j]'h) (es[j]'h').val) : Rep w0 B e (.rom ks vs) (.map (some r))
  | fn (e f) (a b : List V) (a' b' : List Value) (ha : a.length = a'.length) (hb : b.length = b'.length)
      (har : ∀ j (h : j < a.length) (h' : j < a'.length), Rep w0 B e (a[j]'h) (a'[j]'h'))
      (hbr : ∀ j (h : j < b.length) (h' : j < b'.length), Rep w0 B e (b[j]'h) (b'[j]'h')) : Rep w0 B e (.fn f a b) (.func f ⟨a'⟩ ⟨b'⟩)
  | nilf (e) : Rep w0 B e .nilf .nilFunc
  | iface (e t v v') (h : Rep w0 B e v v') : Rep w0 B e (.iface t v) (.iface t v')
  | nili (e) : Rep w0 B e .nili .nilIface
  | agg (e) (a : List V) (a' : List Value) (ha : a.length = a'.length) (h1 : ∀ v ∈ a', one v = true)
      (har : ∀ j (h : j < a.length) (h' : j < a'.length), Rep w0 B e (a[j]'h) (a'[j]'h')) : Rep w0 B e (.agg a) (.agg ⟨a'⟩)
  | tup (e) (a : List V) (a' : List Value) (ha : a.length = a'.length)
      (har : ∀ j (h : j < a.length) (h' : j < a'.length), Rep w0 B e (a[j]'h) (a'[j]'h')) : Rep w0 B e (.tup a) (.tuple ⟨a'⟩)
  | junk (e v) : Rep w0 B e .junk v

def RepL (w0 : World) (B : Nat) (e : Emb) (a : List V) (a' : List Value) : Prop :=
  a.length = a'.length ∧ ∀ j (h : j < a.length) (h' : j < a'.length), Rep w0 B e (a[j]'h) (a'[j]'h')

theorem RepL.nil (w0 B e) : RepL w0 B e [] [] := ⟨rfl, fun j h => by simp at h⟩
theorem RepL.cons {w0 B e v v' l l'} (h : Rep w0 B e v v') (hl : RepL w0 B e l l') : RepL w0 B e (v :: l) (v' :: l') := by
  refine ⟨by simp [hl.1], fun j h1 h2 => ?_⟩
  cases j with
  | zero => exact h
  | succ j => simpa using hl.2 j (by simpa using h1) (by simpa using h2)
theorem RepL.head {w0 B e v v' l l'} (h : RepL w0 B e (v :: l) (v' :: l')) : Rep w0 B e v v' := h.2 0 (by simp) (by simp)
theorem RepL.tail {w0 B e v v' l l'} (h : RepL w0 B e (v :: l) (v' :: l')) : RepL w0 B e l l' :=
  ⟨by simpa using h.1, fun j h1 h2 => h.2 (j + 1) (by simpa using h1) (by simpa using h2)⟩
theorem RepL.append {w0 B e a a' b b'} (h : RepL w0 B e a a') (k : RepL w0 B e b b') : RepL w0 B e (a ++ b) (a' ++ b') := by
  refine ⟨by simp [h.1, k.1], fun j h1 h2 => ?_⟩
  rcases Nat.lt_or_ge j a.length with hj | hj
  · rw [List.getElem_append_left hj, List.getElem_append_left (by rw [← h.1]; exact hj)]
    exact h.2 j hj _
  · rw [List.getElem_append_right hj, List.getElem_append_right (by rw [← h.1]; exact hj)]
    simp only [← h.1]
    have e1 : (a ++ b).length = a.length + b.length := List.length_append
    have e2 : (a' ++ b').length = a'.length + b'.length := List.length_append
    have := h.1
    exact k.2 _ (by omega) (by omega)
theorem RepL.take {w0 B e a a'} (h : RepL w0 B e a a') (n : Nat) : RepL w0 B e (a.take n) (a'.take n) := by
  refine ⟨by simp [h.1], fun j h1 h2 => ?_⟩
  simp only [List.getElem_take]
  exact h.2 j _ _
theorem RepL.drop {w0 B e a a'} (h : RepL w0 B e a a') (n : Nat) : RepL w0 B e (a.drop n) (a'.drop n) := by
  refine ⟨by simp [h.1], fun j h1 h2 => ?_⟩
  simp only [List.getElem_drop]
  exact h.2 _ _ _
theorem RepL.get? {w0 B e a a'} (h : RepL w0 B e a a') {j : Nat} {v : V} (hv : a[j]? = some v) : ∃ v', a'[j]? = some v' ∧ Rep w0 B e v v' := by
  obtain ⟨hj, rfl⟩ := List.getElem?_eq_some_iff.1 hv
  have hj' : j < a'.length := h.1 ▸ hj
  exact ⟨a'[j], by simp [hj'], h.2 j hj hj'⟩
theorem RepL.replicate {w0 B e v v'} (h : Rep w0 B e v v') (n : Nat) : RepL w0 B e (List.replicate n v) (List.replicate n v') :=
  ⟨by simp, fun j h1 h2 => by simpa using h⟩
theorem RepL.set {w0 B e a a' v v'} (h : RepL w0 B e a a') (k : Rep w0 B e v v') (t : Nat) : RepL w0 B e (a.set t v) (a'.set t v') := by
  refine ⟨by simp [h.1], fun j h1 h2 => ?_⟩
  simp only [List.getElem_set]
  split
  · exact k
  · exact h.2 j (by simpa using h1) (by simpa using h2)

theorem subL_eq (hp hs hm) : ∀ l : List V, subL hp hs hm l = l.map (V.sub hp hs hm)
  | [] => rfl
  | v :: l => by simp [subL, subL_eq hp hs hm l]
theorem renL_eq (ρ : Nat → Option Nat) (l : List V) : renL ρ l = l.map (V.ren ρ) := by
  unfold renL
  rw [subL_eq]
  rfl

/-- THE GENERAL LAW: references replaced, the base world moved on. -/
theorem Rep.sub {w0 w1 : World} {B B1 : Nat}
    {hp : Nat → Nat → V} {hs : Nat → Nat → Nat → Nat → V} {hm : Nat → V} {e e1 : Emb} (hk : ∀ b o, known w0 B e b = some o → known w1 B1 e1 b = some o)
    (Hp : ∀ id off v, Rep w0 B e (.ptr id off) v → Rep w1 B1 e1 (hp id off) v)
    (Hs : ∀ id off len sz v, Rep w0 B e (.sl id off len sz) v → Rep w1 B1 e1 (hs id off len sz) v)
    (Hm : ∀ id v, Rep w0 B e (.map id) v → Rep w1 B1 e1 (hm id) v) {a : V} {v : Value} (h : Rep w0 B e a v) :
    Rep w1 B1 e1 (a.sub hp hs hm) v := by
  -- what is read only holds nothing but what is read only
  have key : ∀ {e a v}, Rep w0 B e a v → (∀ id, e id = none) → (∀ b o, known w0 B e b = some o → known w1 B1 e1 b = some o) → Rep w1 B1 e1.bare a v := by
    intro e a v h
    induction h with
    | bool => intro _ _; constructor
    | int => intro _ _; constructor
    | str => intro _ _; constructor
    | nilp => intro _ _; constructor
    | ptr e id off eb h => intro he _; rw [he] at h; cases h
    | ro e cs b o f hc h1 hr ih => intro _ hk; exact .ro _ cs b o f (fun j hj => kcell_mono (e := e) (e1 := e1) hk (hc j hj)) h1 (fun j hj => ih j hj (fun _ => rfl) hk)
    | nils => intro _ _; constructor
    | sl e id off len sz cap eb o h => intro he _; rw [he] at h; cases h
    | ros e len cs b o cap f hl hc h1 hr ih => intro _ hk; exact .ros _ len cs b o cap f hl (fun j hj => kcell_mono (e := e) (e1 := e1) hk (hc j hj)) h1 (fun j hj => ih j hj (fun _ => rfl) hk)
    | rose e a => intro _ _; exact .rose _ _
    | nilm => intro _ _; constructor
    | map e id eb h => intro he _; rw [he] at h; cases h
    | rom e ks vs r clock es hm' hlk hlv hkr hvr ih1 ih2 => intro _ hk; exact .rom _ ks vs r clock es (hk _ _ hm') hlk hlv (fun j h h' => ih1 j h h' (fun _ => rfl) hk) (fun j h h' => ih2 j h h' (fun _ => rfl) hk)
    | fn e f a b a' b' ha hb har hbr ih1 ih2 => intro he hk; exact .fn _ f a b a' b' ha hb (fun j h h' => ih1 j h h' he hk) (fun j h h' => ih2 j h h' he hk)
    | nilf => intro _ _; constructor
    | iface e t v v' h ih => intro he hk; exact .iface _ _ _ _ (ih he hk)
    | nili => intro _ _; constructor
    | agg e a a' ha h1 har ih => intro he hk; exact .agg _ a a' ha h1 (fun j h h' => ih j h h' he hk)
    | tup e a a' ha har ih => intro he hk; exact .tup _ a a' ha (fun j h h' => ih j h h' he hk)
    | junk => intro _ _; constructor
  induction h with
  | bool => constructor
  | int => constructor
  | str => constructor
  | nilp => constructor
  | ptr e id off eb h => exact Hp _ _ _ (.ptr _ _ _ _ h)
  | ro e cs b o f hc h1 hr => exact .ro _ cs b o f (fun j hj => kcell_mono hk (hc j hj)) h1 (fun j hj => key (hr j hj) (fun _ => rfl) hk)
  | nils => constructor
  | sl e id off len sz cap eb o h h2 h3 h4 h5 => exact Hs _ _ _ _ _ (.sl _ _ _ _ _ _ _ _ h h2 h3 h4 h5)
  | ros e len cs b o cap f hl hc h1 hr => exact .ros _ len cs b o cap f hl (fun j hj => kcell_mono hk (hc j hj)) h1 (fun j hj => key (hr j hj) (fun _ => rfl) hk)
  | rose e a => exact .rose _ _
  | nilm => constructor
  | map e id eb h => exact Hm _ _ (.map _ _ _ h)
  | rom e ks vs r clock es hm' hlk hlv hkr hvr => exact .rom _ ks vs r clock es (hk _ _ hm') hlk hlv (fun j h h' => key (hkr j h h') (fun _ => rfl) hk) (fun j h h' => key (hvr j h h') (fun _ => rfl) hk)
  | fn e f a b a' b' ha hb har hbr ih1 ih2 =>
    simp only [V.sub, subL_eq]
    exact .fn _ f _ _ a' b' (by simp [ha]) (by simp [hb]) (fun j h h' => by simpa using ih1 j (by simpa using h) h' hk Hp Hs Hm) (fun j h h' => by simpa using ih2 j (by simpa using h) h' hk Hp Hs Hm)
  | nilf => constructor
  | iface e t v v' h ih => exact .iface _ _ _ _ (ih hk Hp Hs Hm)
  | nili => constructor
  | agg e a a' ha h1 har ih =>
    simp only [V.sub, subL_eq]
    exact .agg _ _ a' (by simp [ha]) h1 (fun j h h' => by simpa using ih j (by simpa using h) h' hk Hp Hs Hm)
  | tup e a a' ha har ih =>
    simp only [V.sub, subL_eq]
    exact .tup _ _ a' (by simp [ha]) (fun j h h' => by simpa using ih j (by simpa using h) h' hk Hp Hs Hm)
  | junk => constructor
end Go.Ev
