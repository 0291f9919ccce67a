/-
  EACH OPERATION THAT CALLS NOTHING DOES WHAT THE EVALUATOR SAYS, ninth part: copy, len, min, max, maps, strings' iterators; all together (own work).
-/
import Derived.Test.YtnalmdnfoicokaaEv11
set_option linter.unusedSimpArgs false
set_option linter.unusedVariables false
namespace Go.Ev
open Go

section
variable {P : Program} {w0 : World} {B : Nat} {e : Emb} {H : Heap} {w : World}

theorem storeCells_nil (a : Addr) (w : World) : (storeCells a []).run P w = .ok () w := rfl

theorem copy_ok (hs : HS w0 B e H w) {t : TypeId} {ts : Array TypeId} {ty : TypeId} (ht : ts[0]? = some t) {d x : V} {vd vx : Value} (hvd : Rep w0 B e d vd) (hvx : Rep w0 B e x vx) {r : V × Heap} (h : copyV P H t d x = some r) :
    OpOk P w0 B e H w (do Pure.pure (.value (← Builtin.copy_ ts ty #[vd, vx]))) r := by
  unfold copyV at h
  split at h
  · rename_i el hu
    split at h
    · rename_i n hn
      split at h
      · rename_i k cs hit
        obtain ⟨news, hlen, hf, hcs, hnl, hft⟩ := items_ok (P := P) hs hvx hit
        split at h
        · cases h; cases hvd
          refine OpOk.pure hs (v' := .int .i64 0) ?_ (.int _ _ _)
          have := hft 0 (Nat.zero_le _)
          simp [Builtin.copy_, ht, runder hu, hlen, rsizeOf hn, this, goInt]
        · rename_i id off len sz
          split at h
          · cases h
          · rename_i hsz
            have hsz' : sz = n := by simpa using hsz
            subst hsz'
            obtain ⟨H', hw, rfl⟩ := Option.map_eq_some_iff.1 h
            cases hvd with
            | sl _ _ _ _ _ cap eb o he k1 k2 k3 k4 =>
              have hmin : Nat.min k len ≤ k := Nat.min_le_left _ _
              have hcs' := hcs.take (min k len * sz)
              obtain ⟨w', hst, hstp⟩ := write_ok (P := P) hs he hcs' hw
              have hrun : (storeCells ⟨eb.b, o, none⟩ (news.take (min k len * sz))).run P w = .ok () w' := by
                rcases Nat.eq_zero_or_pos (min k len) with h0 | h0
                · rw [h0] at hst ⊢
                  simp only [Nat.zero_mul, List.take_zero] at hst ⊢
                  exact hst
                · rw [k4 (by omega)]; exact hst
              have := hft (min k len) hmin
              exact OpOk.val (v' := .int .i64 (min k len : Nat)) (by simp [Builtin.copy_, ht, runder hu, hlen, rsizeOf hn, this, hrun, goInt]) hstp (.int _ _ _)
        · cases h
      · cases h
    · cases h
  · cases h

theorem clear_ok (hs : HS w0 B e H w) {t : TypeId} {ts : Array TypeId} {ty : TypeId} (ht : ts[0]? = some t) {x : V} {vx : Value} (hvx : Rep w0 B e x vx) {r : V × Heap} (h : clearV P H t x = some r) :
    OpOk P w0 B e H w (do Pure.pure (.value (← Builtin.clear_ ts ty #[vx]))) r := by
  unfold clearV at h
  split at h
  · rename_i el hu
    cases h; cases hvx
    exact OpOk.pure hs (v' := undef) (by simp [Builtin.clear_, ht, runder hu]; rfl) undef_ok
  · rename_i el id off len sz hu
    split at h
    · rename_i n z hn hz
      split at h
      · rename_i hc
        simp only [Bool.and_eq_true, decide_eq_true_eq, beq_iff_eq] at hc
        obtain ⟨rfl, hzl⟩ := hc
        cases hvx with
        | sl _ _ _ _ _ cap eb o he k1 k2 k3 k4 =>
          cases len with
          | zero =>
            simp only [if_true, Option.some.injEq] at h
            subst h
            exact OpOk.pure hs (v' := undef) (by simp [Builtin.clear_, ht, runder hu]; rfl) undef_ok
          | succ len =>
            simp only [Nat.add_one_ne_zero, if_false] at h
            obtain ⟨H', hw, rfl⟩ := Option.map_eq_some_iff.1 h
            obtain ⟨zx, hzx, hzc⟩ := Option.bind_eq_some_iff.1 hz
            obtain ⟨zv, hzv, hzr, _⟩ := rzero hzx
            have hcz := cells_ok (hzr w0 B e) hzc
            have hsz : zv.cells.size = n := by have := hcz.1.1; simp at this; omega
            have hcs := zeros_ok hcz (len + 1) ((len + 1) * n) (by rw [hzl])
            obtain ⟨w', hst, hstp⟩ := write_ok (P := P) hs he hcs hw
            rw [← k4 (by omega)] at hst
            have hzz : (Builtin.zeroCells zv.cells (len + 1)).toList = ((Array.range ((len + 1) * n)).map (fun i => zv.cells[i % zv.cells.size]!)).toList := by
              simp [Builtin.zeroCells, hsz]
            rw [← hzz] at hst
            exact OpOk.val (v' := undef) (by simp [Builtin.clear_, ht, runder hu, hzv, hst]; rfl) hstp undef_ok
      · cases h
    · cases h
  · cases h

theorem cap_ok (hs : HS w0 B e H w) {t : TypeId} {ts : Array TypeId} {ty : TypeId} (ht : ts[0]? = some t) {x z : V} {v : Value} (hx : Rep w0 B e x v) (h : capV P H t x = some z) :
    ∃ vz, (Builtin.cap_ ts ty #[v]).run P w = .ok vz w ∧ Rep w0 B e z vz := by
  unfold capV at h
  split at h
  · rename_i el hu
    cases h; cases hx
    exact ⟨.int .i64 0, by simp [Builtin.cap_, ht, runder hu, goInt], .int _ _ _⟩
  · rename_i el id off len sz hu
    split at h
    · rename_i cs hid
      cases h
      cases hx with
      | sl _ _ _ _ _ cap eb o he k1 k2 k3 k4 =>
        obtain ⟨eb', o', he', ho', hok⟩ := hs.live id _ hid
        rw [he] at he'; cases he'
        cases o' <;> simp only [BlkOk] at hok
        have h1 := hok.1
        have h2 := hok.2.2.1 trivial
        have h3 : cs.length - off = cap * sz := by omega
        have hcap : (cs.length - off) / sz = cap := by rw [h3]; exact Nat.mul_div_cancel _ k2
        rw [hcap]
        exact ⟨.int .i64 cap, by simp [Builtin.cap_, ht, runder hu, goInt], .int _ _ _⟩
    · cases h
  · cases h

theorem len_ok (hs : HS w0 B e H w) {t : TypeId} {ts : Array TypeId} {ty : TypeId} (ht : ts[0]? = some t) {x z : V} {v : Value} (hx : Rep w0 B e x v) (h : lenV P H t x = some z) :
    ∃ vz, (Builtin.len_ ts ty #[v]).run P w = .ok vz w ∧ Rep w0 B e z vz := by
  unfold lenV at h
  split at h
  · rename_i s hu
    cases h; cases hx
    exact ⟨.int .i64 s.size, by simp [Builtin.len_, ht, runder hu, goInt], .int _ _ _⟩
  · rename_i el hu
    cases h; cases hx
    exact ⟨.int .i64 0, by simp [Builtin.len_, ht, runder hu, goInt], .int _ _ _⟩
  · rename_i el id off len sz hu
    cases h; cases hx
    exact ⟨.int .i64 len, by simp [Builtin.len_, ht, runder hu, goInt], .int _ _ _⟩
  · rename_i el len cs hu
    cases h; cases hx
    · exact ⟨.int .i64 len, by simp [Builtin.len_, ht, runder hu, goInt], .int _ _ _⟩
    · exact ⟨.int .i64 0, by simp [Builtin.len_, ht, runder hu, goInt], .int _ _ _⟩
  · rename_i k el hu
    cases h; cases hx
    exact ⟨.int .i64 0, by simp [Builtin.len_, ht, runder hu, goInt], .int _ _ _⟩
  · rename_i k el ks vs hu
    cases h
    cases hx with
    | rom _ _ _ r clock es hm hk hv hkr hvr =>
      have hm' : w.heap[r]? = some (.map ⟨es⟩ clock) := hs.known _ _ hm
      exact ⟨.int .i64 ks.length, by simp [Builtin.len_, ht, runder hu, goInt, getObj, Sem.run, hm', hk], .int _ _ _⟩
  · rename_i k el id hu
    split at h
    · rename_i es c hid
      cases h
      cases hx with
      | map _ _ eb he =>
        obtain ⟨eb', o', he', ho', hok⟩ := hs.live id _ hid
        rw [he] at he'; cases he'
        cases o' <;> simp only [BlkOk] at hok
        rename_i ces cl
        have hsz : ces.size = es.length := by have := hok.2.1; simp at this; omega
        exact ⟨.int .i64 es.length, by simp [Builtin.len_, ht, runder hu, goInt, getObj, Sem.run, ho', hsz], .int _ _ _⟩
    · cases h
  · cases h

theorem min2_ok {x y z : V} {vx vy : Value} (h : minV x y = some z) (hx : Rep w0 B e x vx) (hy : Rep w0 B e y vy) : ∃ vz, (Builtin.min2 vx vy).run P w = .ok vz w ∧ Rep w0 B e z vz := by
  unfold minV at h
  split at h
  · cases h; cases hx; cases hy
    exact ⟨_, rfl, .int _ _ _⟩
  · cases h
theorem max2_ok {x y z : V} {vx vy : Value} (h : maxV x y = some z) (hx : Rep w0 B e x vx) (hy : Rep w0 B e y vy) : ∃ vz, (Builtin.max2 vx vy).run P w = .ok vz w ∧ Rep w0 B e z vz := by
  unfold maxV at h
  split at h
  · cases h; cases hx; cases hy
    exact ⟨_, rfl, .int _ _ _⟩
  · cases h
theorem fold_ok {f : V → V → Option V} {g : Value → Value → Sem Value} (hfg : ∀ x y z vx vy, f x y = some z → Rep w0 B e x vx → Rep w0 B e y vy → ∃ vz, (g vx vy).run P w = .ok vz w ∧ Rep w0 B e z vz) :
    ∀ (l : List V) (l' : List Value) (x z : V) (vx : Value), RepL w0 B e l l' → Rep w0 B e x vx → foldV f x l = some z → ∃ vz, (l'.foldlM g vx).run P w = .ok vz w ∧ Rep w0 B e z vz
  | [], l', x, z, vx, hl, hx, h => by
    cases l' with
    | nil => simp only [foldV, Option.some.injEq] at h; subst h; exact ⟨vx, by simp, hx⟩
    | cons a b => have := hl.1; simp at this
  | y :: l, l', x, z, vx, hl, hx, h => by
    cases l' with
    | nil => have := hl.1; simp at this
    | cons vy l' =>
      simp only [foldV] at h
      obtain ⟨u, hu, hz⟩ := Option.bind_eq_some_iff.1 h
      obtain ⟨vu, hvu, hru⟩ := hfg x y u vx vy hu hx hl.head
      obtain ⟨vz, hvz, hrz⟩ := fold_ok hfg l l' u z vu hl.tail hru hz
      exact ⟨vz, by simp [List.foldlM_cons, hvu, hvz], hrz⟩

/-! ### Maps -/
theorem key_ok {d : TypeDesc} {k : V} {vk : Value} (hk : Rep w0 B e k vk) (hkk : keyKind (some d) k = true) {k' : V} {vk' : Value} (hk' : Rep w0 B e k' vk') {b : Bool} (h : keyEq k k' = some b) :
    Instr.sameNow d vk vk' = some b := by
  unfold keyEq at h
  split at h
  · cases hk; cases hk'
    split at h
    · rename_i hkk'; subst hkk'; cases h
      cases d <;> simp [keyKind] at hkk
      simp [Instr.sameNow]
    · cases h
  · cases hk; cases hk'; cases h
    cases d <;> simp [keyKind] at hkk
    simp [Instr.sameNow]
  · cases hk; cases hk'; cases h
    cases d <;> simp [keyKind] at hkk
    simp [Instr.sameNow]
  · cases h

theorem checkKey_ok {kt : TypeId} {d : TypeDesc} {k : V} {vk : Value} (hd : P.underlying kt = some d) (hk : Rep w0 B e k vk) (hkk : keyKind (some d) k = true) (b : Bool) (n : Nat) (w : World) : (Instr.checkKey b (n + 1) kt vk).run P w = .ok () w := by
  cases hk <;> cases d <;> simp [keyKind] at hkk <;> simp [Instr.checkKey, runder hd]

theorem sameBits_ok {k k' : V} {vk vk' : Value} (hk : Rep w0 B e k vk) (hk' : Rep w0 B e k' vk') (h : keyEq k k' = some true) : Instr.sameBits 10000 vk' vk = true := by
  unfold keyEq at h
  split at h
  · cases hk; cases hk'
    split at h
    · rename_i hkk; subst hkk
      simp only [Option.some.injEq, beq_iff_eq] at h
      simp [Instr.sameBits, h]
    · cases h
  · cases hk; cases hk'
    simp only [Option.some.injEq] at h
    simp only [Instr.sameBits]
    rw [beq_toListBytes, beq_iff_eq] at h ⊢
    exact h.symm
  · cases hk; cases hk'
    simp only [Option.some.injEq, beq_iff_eq] at h
    simp [Instr.sameBits, h]
  · cases h

def Found (w0 : World) (B : Nat) (e : Emb) (vk : Value) (ces : List MapEntry) (i n : Nat) : Option (Nat × V) → Option (Nat × Value) → Prop
  | none, none => True
  | some (a, v), some (b, v') => a = b ∧ Rep w0 B e v v' ∧ i ≤ a ∧ a < i + n ∧ ∃ c, ces[a - i]? = some c ∧ Instr.sameBits 10000 c.key vk = true ∧ c.val = v'
  | _, _ => False

theorem findE_ok {d : TypeDesc} {k : V} {vk : Value} (hk : Rep w0 B e k vk) (hkk : keyKind (some d) k = true) :
    ∀ (es : List (V × V × Nat)) (ces : List MapEntry) (i : Nat) (r : Option (Nat × V)), es.length = ces.length →
      (∀ j (h : j < es.length) (h' : j < ces.length), Rep w0 B e (es[j]'h).1 (ces[j]'h').key ∧ Rep w0 B e (es[j]'h).2.1 (ces[j]'h').val ∧ (es[j]'h).2.2 = (ces[j]'h').born) →
      findE k es i = some r → ∃ r', Instr.findNow d vk ces i = some r' ∧ Found w0 B e vk ces i es.length r r'
  | [], ces, i, r, hl, hes, h => by
    cases ces with
    | nil => simp only [findE, Option.some.injEq] at h; subst h; exact ⟨none, rfl, trivial⟩
    | cons a b => simp at hl
  | (k', v, b) :: es, ces, i, r, hl, hes, h => by
    cases ces with
    | nil => simp at hl
    | cons c ces =>
      have h0 := hes 0 (by simp) (by simp)
      simp only [findE] at h
      split at h
      · rename_i hq
        cases h
        have := key_ok hk hkk h0.1 hq
        have hsb := sameBits_ok hk h0.1 hq
        simp only [List.getElem_cons_zero] at this hsb
        exact ⟨some (i, c.val), by simp [Instr.findNow, this], rfl, h0.2.1, Nat.le_refl _, by simp, c, by simp, hsb, rfl⟩
      · rename_i hq
        have := key_ok hk hkk h0.1 hq
        simp only [List.getElem_cons_zero] at this
        obtain ⟨r', hr', hm⟩ := findE_ok hk hkk es ces (i + 1) r (by simpa using hl) (fun j h h' => hes (j + 1) (by simpa using h) (by simpa using h')) h
        refine ⟨r', by simp [Instr.findNow, this, hr'], ?_⟩
        cases r with
        | none =>
          cases r' with
          | none => trivial
          | some x => exact hm
        | some x =>
          cases r' with
          | none => exact hm
          | some y =>
            obtain ⟨a, v⟩ := x
            obtain ⟨a', v'⟩ := y
            obtain ⟨h1, h2, h3, h4, c', h5, h6, h7⟩ := hm
            refine ⟨h1, h2, by omega, by simp; omega, c', ?_, h6, h7⟩
            rw [show a - i = (a - (i + 1)) + 1 by omega, List.getElem?_cons_succ]
            exact h5
      · cases h

theorem findRo_ok {d : TypeDesc} {k : V} {vk : Value} (hk : Rep w0 B e k vk) (hkk : keyKind (some d) k = true) :
    ∀ (ks vs : List V) (ces : List MapEntry) (i : Nat) (r : Option V), ks.length = ces.length → vs.length = ces.length →
      (∀ j (h : j < ks.length) (h' : j < ces.length), Rep w0 B e (ks[j]'h) (ces[j]'h').key) → (∀ j (h : j < vs.length) (h' : j < ces.length), Rep w0 B e (vs[j]'h) (ces[j]'h').val) →
      findRo k ks vs = some r → ∃ r', Instr.findNow d vk ces i = some r' ∧ (match r, r' with | none, none => True | some v, some (_, v') => Rep w0 B e v v' | _, _ => False)
  | [], vs, ces, i, r, hl, hl2, h1, h2, h => by
    cases ces with
    | nil =>
      cases vs with
      | nil => simp only [findRo, Option.some.injEq] at h; subst h; exact ⟨none, rfl, trivial⟩
      | cons a b => simp at hl2
    | cons a b => simp at hl
  | k' :: ks, vs, ces, i, r, hl, hl2, h1, h2, h => by
    cases ces with
    | nil => simp at hl
    | cons c ces =>
      cases vs with
      | nil => simp at hl2
      | cons v vs =>
        simp only [findRo] at h
        have hk0 := h1 0 (by simp) (by simp)
        have hv0 := h2 0 (by simp) (by simp)
        split at h
        · rename_i hq
          cases h
          have := key_ok hk hkk hk0 hq
          simp only [List.getElem_cons_zero] at this
          exact ⟨some (i, c.val), by simp [Instr.findNow, this], hv0⟩
        · rename_i hq
          have := key_ok hk hkk hk0 hq
          simp only [List.getElem_cons_zero] at this
          obtain ⟨r', hr', hm⟩ := findRo_ok hk hkk ks vs ces (i + 1) r (by simpa using hl) (by simpa using hl2) (fun j h h' => h1 (j + 1) (by simpa using h) (by simpa using h')) (fun j h h' => h2 (j + 1) (by simpa using h) (by simpa using h')) h
          exact ⟨r', by simp [Instr.findNow, this, hr'], hm⟩
        · cases h

theorem live_map (hs : HS w0 B e H w) {id : Nat} {eb : EB} (he : e id = some eb) {es : List (V × V × Nat)} {c : Nat} (hid : H[id]? = some (some (.map es c))) :
    ∃ ces, w.heap[eb.b]? = some (.map ⟨ces⟩ c) ∧ es.length = ces.length ∧ ∀ j (h : j < es.length) (h' : j < ces.length), Rep w0 B e (es[j]'h).1 (ces[j]'h').key ∧ Rep w0 B e (es[j]'h).2.1 (ces[j]'h').val ∧ (es[j]'h).2.2 = (ces[j]'h').born := by
  obtain ⟨eb', o', he', ho', hok⟩ := hs.live id _ hid
  rw [he] at he'; cases he'
  cases o' <;> simp only [BlkOk] at hok
  rename_i ces cl
  obtain ⟨rfl, h2, h3⟩ := hok
  exact ⟨ces.toList, ho', h2, h3⟩

def FoundV (w0 : World) (B : Nat) (e : Emb) : Option V → Option (Nat × Value) → Prop
  | none, none => True
  | some v, some (_, v') => Rep w0 B e v v'
  | _, _ => False

theorem pick_ok {et : TypeId} {ok : Bool} {r : Option V} {r' : Option (Nat × Value)} {z : V} (hm : FoundV w0 B e r r') (hz : pickV P et ok r = some z) :
    ∃ vz, (do
      let (v, ok') ← match r' with
        | some (_, v) => Pure.pure (v, true)
        | none => Pure.pure (← zeroValue et, false)
      Pure.pure (if ok then Value.tuple #[v, .bool ok'] else v) : Sem Value).run P w = .ok vz w ∧ Rep w0 B e z vz := by
  cases r with
  | none =>
    cases r' with
    | some y => exact hm.elim
    | none =>
      simp only [pickV] at hz
      obtain ⟨zz, hzz, rfl⟩ := Option.map_eq_some_iff.1 hz
      obtain ⟨zv, hzv, hr, _⟩ := rzero hzz
      cases ok
      · exact ⟨zv, by simp [hzv], by simpa using hr w0 B e⟩
      · exact ⟨.tuple #[zv, .bool false], by simp [hzv], .tup _ _ [zv, .bool false] rfl (RepL.cons (hr w0 B e) (RepL.cons (.bool _ _) (RepL.nil _ _ _))).2⟩
  | some v =>
    cases r' with
    | none => exact hm.elim
    | some y =>
      obtain ⟨i, v'⟩ := y
      simp only [pickV, Option.some.injEq] at hz
      subst hz
      cases ok
      · exact ⟨v', by simp, by simp only [Bool.false_eq_true, if_false]; exact hm⟩
      · exact ⟨.tuple #[v', .bool true], by simp, .tup _ _ [v', .bool true] rfl (RepL.cons hm (RepL.cons (.bool _ _) (RepL.nil _ _ _))).2⟩

theorem lookup_ok (hs : HS w0 B e H w) {t : TypeId} {x k z : V} {vx vk : Value} {ok : Bool} (hx : Rep w0 B e x vx) (hk : Rep w0 B e k vk) (h : lookupV P H t x k ok = some z) :
    ∃ vz, (Instr.lookup t vx vk ok).run P w = .ok vz w ∧ Rep w0 B e z vz := by
  unfold lookupV at h
  split at h
  · rename_i kt et hu
    split at h
    · rename_i hkk
      cases hd : P.underlying kt with
      | none => exfalso; rw [hd] at hkk; cases k <;> simp [keyKind] at hkk
      | some d =>
        rw [hd] at hkk
        obtain ⟨r, hr, hz⟩ := Option.bind_eq_some_iff.1 h
        unfold findAny at hr
        split at hr
        · cases hr; cases hx
          obtain ⟨vz, hvz, hrz⟩ := pick_ok (w := w) (w0 := w0) (B := B) (e := e) (r := none) (r' := none) trivial hz
          refine ⟨vz, ?_, hrz⟩
          rw [← hvz]
          simp [Instr.lookup, runder hu, checkKey_ok hd hk hkk, Instr.findKey, runder hd, Instr.findNow]
        · rename_i id
          split at hr
          · rename_i es c hid
            cases hx with
            | map _ _ eb he =>
              obtain ⟨ces, hob, hl, hes⟩ := live_map hs he hid
              obtain ⟨r0, hf, rfl⟩ := Option.map_eq_some_iff.1 hr
              obtain ⟨r', hr', hm⟩ := findE_ok hk hkk es ces 0 r0 hl hes hf
              have hm' : FoundV w0 B e (r0.map (·.2)) r' := by
                cases r0 with
                | none => cases r' with
                  | none => trivial
                  | some y => exact hm.elim
                | some x => cases r' with
                  | none => exact hm.elim
                  | some y => exact hm.2.1
              obtain ⟨vz, hvz, hrz⟩ := pick_ok (w := w) hm' hz
              refine ⟨vz, ?_, hrz⟩
              rw [← hvz]
              cases r' <;> simp [Instr.lookup, runder hu, getObj, Sem.run, hob, checkKey_ok hd hk hkk, Instr.findKey, runder hd, hr']
          · cases hr
        · rename_i ks vs
          cases hx with
          | rom _ _ _ r0 clock es hm0 hlk hlv hkr hvr =>
            have hm1 : w.heap[r0]? = some (.map ⟨es⟩ clock) := hs.known _ _ hm0
            obtain ⟨r', hr', hm⟩ := findRo_ok hk hkk ks vs es 0 r hlk hlv (fun j h h' => (hkr j h h').mono (fun _ _ h => by cases h)) (fun j h h' => (hvr j h h').mono (fun _ _ h => by cases h)) hr
            have hm' : FoundV w0 B e r r' := by
              cases r <;> cases r' <;> exact hm
            obtain ⟨vz, hvz, hrz⟩ := pick_ok (w := w) hm' hz
            refine ⟨vz, ?_, hrz⟩
            rw [← hvz]
            cases r' <;> simp [Instr.lookup, runder hu, getObj, Sem.run, hm1, checkKey_ok hd hk hkk, Instr.findKey, runder hd, hr']
        · cases hr
    · cases h
  · cases h
theorem rsetMap {r : Nat} {es es' : Array MapEntry} {c c' : Nat} (h : w.heap[r]? = some (.map es c)) : (setObj r (.map es' c')).run P w = .ok () { w with heap := w.heap.setIfInBounds r (.map es' c') } := by
  simp [setObj, Sem.run, h]

theorem entries_set {es : List (V × V × Nat)} {ces : List MapEntry} (hl : es.length = ces.length)
    (hes : ∀ j (h : j < es.length) (h' : j < ces.length), Rep w0 B e (es[j]'h).1 (ces[j]'h').key ∧ Rep w0 B e (es[j]'h).2.1 (ces[j]'h').val ∧ (es[j]'h).2.2 = (ces[j]'h').born)
    {i : Nat} {f : V × V × Nat → V × V × Nat} {g : MapEntry → MapEntry} (hfg : ∀ x y, Rep w0 B e x.1 y.key → Rep w0 B e x.2.1 y.val → x.2.2 = y.born → Rep w0 B e (f x).1 (g y).key ∧ Rep w0 B e (f x).2.1 (g y).val ∧ (f x).2.2 = (g y).born) :
    ∀ j (h : j < (setEntry i f es).length) (h' : j < (ces.modify i g).length), Rep w0 B e ((setEntry i f es)[j]'h).1 ((ces.modify i g)[j]'h').key ∧ Rep w0 B e ((setEntry i f es)[j]'h).2.1 ((ces.modify i g)[j]'h').val ∧ ((setEntry i f es)[j]'h).2.2 = ((ces.modify i g)[j]'h').born := by
  intro j h h'
  simp only [setEntry, List.length_modify] at h h'
  have := hes j h h'
  simp only [setEntry, List.getElem_modify]
  split
  · exact hfg _ _ this.1 this.2.1 this.2.2
  · exact this

theorem mapUpdate_ok (hs : HS w0 B e H w) {t : TypeId} {m k v : V} {vm vk vv : Value} (hm : Rep w0 B e m vm) (hk : Rep w0 B e k vk) (hv : Rep w0 B e v vv) {H' : Heap} (h : mapUpdateV P H t m k v = some H') :
    OpOk P w0 B e H w (do Instr.mapUpdate t vm vk vv; Pure.pure .skip) (V.undef, H') := by
  unfold mapUpdateV at h
  split at h
  · rename_i kt et id hu
    split at h
    · cases h
    · rename_i hkk
      cases hd : P.underlying kt with
      | none => exfalso; rw [hd] at hkk; cases k <;> simp [keyKind] at hkk
      | some d =>
        rw [hd] at hkk
        have hkk : keyKind (some d) k = true := by simpa using hkk
        split at h
        · rename_i es c hid
          cases hm with
          | map _ _ eb he =>
            obtain ⟨ces, hob, hl, hes⟩ := live_map hs he hid
            have hset := fun es' c' => rsetMap (P := P) (es' := es') (c' := c') hob
            split at h
            · rename_i i v0 hf
              cases h
              obtain ⟨r', hr', hfd⟩ := findE_ok hk hkk es ces 0 _ hl hes hf
              cases r' with
              | none => exact hfd.elim
              | some y =>
                obtain ⟨a, v'⟩ := y
                obtain ⟨rfl, h2, h3, h4, ce, h5, h6, h7⟩ := hfd
                simp only [Nat.sub_zero] at h5
                refine OpOk.unit (w' := { w with heap := w.heap.setIfInBounds eb.b (.map ((⟨ces⟩ : Array MapEntry).modify i fun x => { x with key := vk, val := vv }) c) }) ?_
                  (Stp.write hs hid he _ _ ?_ rfl rfl rfl rfl)
                · simp [Instr.mapUpdate, runder hu, getObj, Sem.run, hob, checkKey_ok hd hk hkk, Instr.findKey, runder hd, hr', Instr.keyThatStays, h5, h6, hset]
                · refine ⟨rfl, by simp [setEntry, hl], ?_⟩
                  have := entries_set (i := i) (f := fun x => (k, v, x.2.2)) (g := fun x => { x with key := vk, val := vv }) hl hes (fun x y _ _ h3 => ⟨hk, hv, h3⟩)
                  simpa using this
            · rename_i hf
              cases h
              obtain ⟨r', hr', hfd⟩ := findE_ok hk hkk es ces 0 _ hl hes hf
              cases r' with
              | some y => exact hfd.elim
              | none =>
                refine OpOk.unit (w' := { w with heap := w.heap.setIfInBounds eb.b (.map ((⟨ces⟩ : Array MapEntry).push { key := vk, val := vv, born := c }) (c + 1)) }) ?_
                  (Stp.write hs hid he _ _ ?_ rfl rfl rfl rfl)
                · simp [Instr.mapUpdate, runder hu, getObj, Sem.run, hob, checkKey_ok hd hk hkk, Instr.findKey, runder hd, hr', hset]
                · refine ⟨rfl, by simp [hl], fun j h1 h2 => ?_⟩
                  simp only [Array.toList_push] at h2 ⊢
                  rcases Nat.lt_or_ge j es.length with hj | hj
                  · rw [List.getElem_append_left hj, List.getElem_append_left (by omega)]
                    exact hes j hj (by omega)
                  · have hj' : j = es.length := by simp at h1; omega
                    subst hj'
                    rw [List.getElem_append_right (by omega), List.getElem_append_right (by omega)]
                    simp only [Nat.sub_self, hl, List.getElem_cons_zero]
                    exact ⟨hk, hv, trivial⟩
            · cases h
        · cases h
  · cases h

theorem mapEntry_ok (hs : HS w0 B e H w) {t : TypeId} {m k : V} {vm vk : Value} (hm : Rep w0 B e m vm) (hk : Rep w0 B e k vk) {r : V × Heap} (h : mapEntryV P H t m k = some r) :
    OpOk P w0 B e H w (do Pure.pure (.value (← Instr.mapEntry t vm vk))) r := by
  unfold mapEntryV at h
  split at h
  · rename_i kt et id hu
    split at h
    · cases h
    · rename_i hkk
      cases hd : P.underlying kt with
      | none => exfalso; rw [hd] at hkk; cases k <;> simp [keyKind] at hkk
      | some d =>
        rw [hd] at hkk
        have hkk : keyKind (some d) k = true := by simpa using hkk
        split at h
        · rename_i es c z hid hz
          cases hm with
          | map _ _ eb he =>
            obtain ⟨ces, hob, hl, hes⟩ := live_map hs he hid
            have hset := fun es' c' => rsetMap (P := P) (es' := es') (c' := c') hob
            split at h
            · rename_i i v0 hf
              split at h
              · rename_i en hen
                cases h
                obtain ⟨r', hr', hfd⟩ := findE_ok hk hkk es ces 0 _ hl hes hf
                cases r' with
                | none => exact hfd.elim
                | some y =>
                  obtain ⟨a, v'⟩ := y
                  obtain ⟨rfl, h2, h3, h4, ce, h5, h6, h7⟩ := hfd
                  simp only [Nat.sub_zero] at h5
                  have hbn : en.2.2 = ce.born := by
                    obtain ⟨hi1, rfl⟩ := List.getElem?_eq_some_iff.1 hen
                    obtain ⟨hi2, rfl⟩ := List.getElem?_eq_some_iff.1 h5
                    exact (hes _ hi1 hi2).2.2
                  refine OpOk.val (v' := .tuple #[v', .int .i64 ce.born]) (w' := { w with heap := w.heap.setIfInBounds eb.b (.map ((⟨ces⟩ : Array MapEntry).modify i fun x => { x with key := vk }) c) }) ?_
                    (Stp.write hs hid he _ _ ?_ rfl rfl rfl rfl) ?_
                  · simp [Instr.mapEntry, runder hu, getObj, Sem.run, hob, checkKey_ok hd hk hkk, Instr.findKey, runder hd, hr', Instr.keyThatStays, h5, h6, hset, goInt]
                  · refine ⟨rfl, by simp [setEntry, hl], ?_⟩
                    have := entries_set (i := i) (f := fun x => (k, x.2)) (g := fun x => { x with key := vk }) hl hes (fun x y _ h2 h3 => ⟨hk, h2, h3⟩)
                    simpa using this
                  · rw [hbn]
                    exact .tup _ _ [v', .int .i64 ce.born] rfl (RepL.cons h2 (RepL.cons (.int _ _ _) (RepL.nil _ _ _))).2
              · cases h
            · rename_i hf
              cases h
              obtain ⟨r', hr', hfd⟩ := findE_ok hk hkk es ces 0 _ hl hes hf
              obtain ⟨zv, hzv, hzr, _⟩ := rzero hz
              cases r' with
              | some y => exact hfd.elim
              | none =>
                refine OpOk.val (v' := .tuple #[zv, .int .i64 c]) (w' := { w with heap := w.heap.setIfInBounds eb.b (.map ((⟨ces⟩ : Array MapEntry).push { key := vk, val := zv, born := c }) (c + 1)) }) ?_
                  (Stp.write hs hid he _ _ ?_ rfl rfl rfl rfl) (.tup _ _ [zv, .int .i64 c] rfl (RepL.cons (hzr w0 B e) (RepL.cons (.int _ _ _) (RepL.nil _ _ _))).2)
                · simp [Instr.mapEntry, runder hu, getObj, Sem.run, hob, checkKey_ok hd hk hkk, Instr.findKey, runder hd, hr', hset, hzv, goInt]
                · refine ⟨rfl, by simp [hl], fun j h1 h2 => ?_⟩
                  simp only [Array.toList_push] at h2 ⊢
                  rcases Nat.lt_or_ge j es.length with hj | hj
                  · rw [List.getElem_append_left hj, List.getElem_append_left (by omega)]
                    exact hes j hj (by omega)
                  · have hj' : j = es.length := by simp at h1; omega
                    subst hj'
                    rw [List.getElem_append_right (by omega), List.getElem_append_right (by omega)]
                    simp only [Nat.sub_self, hl, List.getElem_cons_zero]
                    exact ⟨hk, hzr w0 B e, trivial⟩
            · cases h
        · cases h
  · cases h
theorem findBorn_ok (b : Int) : ∀ (es : List (V × V × Nat)) (ces : List MapEntry) (i : Nat) (r : Nat), es.length = ces.length → (∀ j (h : j < es.length) (h' : j < ces.length), (es[j]'h).2.2 = (ces[j]'h').born) →
    findBorn b es i = some r → (ces.findIdx? (fun e => (e.born : Int) == b)).map (· + i) = some r
  | [], ces, i, r, hl, hes, h => by simp [findBorn] at h
  | x :: es, ces, i, r, hl, hes, h => by
    cases ces with
    | nil => simp at hl
    | cons c ces =>
      have h0 := hes 0 (by simp) (by simp)
      simp only [List.getElem_cons_zero] at h0
      simp only [findBorn] at h
      rw [List.findIdx?_cons]
      split at h
      · rename_i hq
        cases h
        rw [h0] at hq
        simp [hq]
      · rename_i hq
        rw [h0] at hq
        have ih := findBorn_ok b es ces (i + 1) r (by simpa using hl) (fun j h h' => hes (j + 1) (by simpa using h) (by simpa using h')) h
        simp only [hq, Bool.false_eq_true, if_false]
        obtain ⟨q, hq1, hq2⟩ := Option.map_eq_some_iff.1 ih
        simp [hq1]
        omega

theorem entryStore_ok (hs : HS w0 B e H w) {t : TypeId} {m st v : V} {vm vst vv : Value} (hm : Rep w0 B e m vm) (hst : Rep w0 B e st vst) (hv : Rep w0 B e v vv) {H' : Heap} (h : entryStoreV H m st v = some H') :
    OpOk P w0 B e H w (do Instr.entryStore t vm vst vv; Pure.pure .skip) (V.undef, H') := by
  unfold entryStoreV at h
  split at h
  · rename_i id kk b
    split at h
    · rename_i es c hid
      split at h
      · rename_i i hf
        cases h; cases hst
        cases hm with
        | map _ _ eb he =>
          obtain ⟨ces, hob, hl, hes⟩ := live_map hs he hid
          have hset := fun es' c' => rsetMap (P := P) (es' := es') (c' := c') hob
          have hfi := findBorn_ok b es ces 0 i hl (fun j h h' => (hes j h h').2.2) hf
          simp only [Nat.add_zero, Option.map_id'] at hfi
          refine OpOk.unit (w' := { w with heap := w.heap.setIfInBounds eb.b (.map ((⟨ces⟩ : Array MapEntry).modify i fun x => { x with val := vv }) c) }) ?_ (Stp.write hs hid he _ _ ?_ rfl rfl rfl rfl)
          · simp [Instr.entryStore, getObj, Sem.run, hob, asInt, asIntOf, hfi, hset]
          · refine ⟨rfl, by simp [setEntry, hl], ?_⟩
            have := entries_set (i := i) (f := fun x => (x.1, v, x.2.2)) (g := fun x => { x with val := vv }) hl hes (fun x y h1 _ h3 => ⟨h1, hv, h3⟩)
            simpa using this
      · cases h
    · cases h
  · cases h

theorem range_ok (hs : HS w0 B e H w) {t : TypeId} {z : ByteArray} (hu : P.underlying t = some .string) :
    OpOk P w0 B e H w (do Pure.pure (.value (← Instr.range t (.string z)))) (.ptr H.length 0, H ++ [some (.siter z 0)]) := by
  refine OpOk.val (v' := .pointer (some ⟨w.heap.size, 0, none⟩)) (w' := { w with heap := w.heap.push (.stringIter z 0) }) ?_
    (Stp.alloc hs (.siter z 0) ⟨w.heap.size, 0, 0⟩ (.stringIter z 0) rfl ⟨rfl, rfl, rfl⟩ rfl rfl rfl rfl) (ptr_new _ _ _ rfl)
  simp only [Instr.range, Sem.run_bind, runder hu, Result.andThen_ok, Sem.run_pure]
  rfl

theorem next_ok (hs : HS w0 B e H w) {ty : TypeId} {it : V} {vi : Value} (hi : Rep w0 B e it vi) {r : V × Heap}
    (h : nextV H it = some r) : OpOk P w0 B e H w (do Pure.pure (.value (← Instr.next vi true ty))) r := by
  unfold nextV at h
  split at h
  · rename_i id
    split at h
    · rename_i z p hid
      cases hi with
      | ptr _ _ _ eb he =>
        obtain ⟨eb', o', he', ho', hok⟩ := hs.live id _ hid
        rw [he] at he'; cases he'
        cases o' <;> simp only [BlkOk] at hok
        obtain ⟨rfl, rfl, hbase⟩ := hok
        have ha : eb.base + 0 = 0 := by omega
        rw [ha]
        split at h
        · rename_i hlt
          cases h
          refine OpOk.val (v' := .tuple #[.bool true, .int .i64 p, .int .i32 (Utf8.decode z p).1]) (w' := { w with heap := w.heap.setIfInBounds eb.b (.stringIter z (p + (Utf8.decode z p).2)) }) ?_
            (Stp.write hs hid he (.siter z (p + (Utf8.decode z p).2)) (.stringIter z (p + (Utf8.decode z p).2)) ⟨rfl, rfl, hbase⟩ rfl rfl rfl rfl)
            (.tup _ _ [.bool true, .int .i64 p, .int .i32 (Utf8.decode z p).1] rfl (RepL.cons (.bool _ _) (RepL.cons (.int _ _ _) (RepL.cons (.int _ _ _) (RepL.nil _ _ _)))).2)
          simp [Instr.next, getObj, setObj, Sem.run, ho', hlt, goInt]
        · rename_i hlt
          cases h
          exact OpOk.pure hs (v' := .tuple #[.bool false]) (by simp [Instr.next, getObj, Sem.run, ho', hlt]) (.tup _ _ [.bool false] rfl (RepL.cons (.bool _ _) (RepL.nil _ _ _)).2)
    · cases h
  · cases h

/-! ### All together -/
theorem opt_ok {Γ : Env} (hg : GlobOk Γ w0 B) {s : List V} {a : Act} (h : RepL w0 B e s a.tmps.toList) (x : Option Operand) : OptRep w0 B e (x.map (evOperand Γ s)) (x.map a.eval) := by
  cases x with
  | none => trivial
  | some x => exact evOperand_ok hg h x

theorem mapRep {Γ : Env} (hg : GlobOk Γ w0 B) {s : List V} {a : Act} (h : RepL w0 B e s a.tmps.toList) : ∀ l : List Operand, RepL w0 B e (l.map (evOperand Γ s)) (l.map a.eval)
  | [] => RepL.nil _ _ _
  | x :: l => RepL.cons (evOperand_ok hg h x) (mapRep hg h l)

theorem builtin_ok {Γ : Env} (hg : GlobOk Γ w0 B) (hs : HS w0 B e H w) {s : List V} {a : Act} (h : RepL w0 B e s a.tmps.toList) {b : Builtin} {as : Array Operand} {ts : Array TypeId} {ty : TypeId} {r : V × Heap}
    (hr : evBuiltin P H b ts (as.toList.map (evOperand Γ s)) = some r) {consts : Array Bool} : OpOk P w0 B e H w (builtin b ts ty consts (as.map a.eval)) r := by
  have hrep := mapRep hg h as.toList
  obtain ⟨l⟩ := as
  simp only at hr hrep
  unfold evBuiltin at hr
  split at hr
  · rename_i x hl
    split at hr
    · rename_i t ht
      obtain ⟨z, hz, rfl⟩ := Option.map_eq_some_iff.1 hr
      match l, hl, hrep with
      | [o], hl, hrep =>
        simp only [List.map_cons, List.map_nil, List.cons.injEq, and_true] at hl
        subst hl
        obtain ⟨vz, hvz, hrz⟩ := len_ok (P := P) (ty := ty) hs ht (evOperand_ok hg h o) hz
        have ha : (⟨[o]⟩ : Array Operand).map a.eval = #[a.eval o] := by simp
        rw [ha]
        exact OpOk.pure hs hvz hrz
    · cases hr
  · rename_i s' x hl
    split at hr
    · rename_i t ht
      match l, hl, hrep with
      | [o1, o2], hl, hrep =>
        simp only [List.map_cons, List.map_nil, List.cons.injEq, and_true] at hl
        obtain ⟨rfl, rfl⟩ := hl
        have ha : (⟨[o1, o2]⟩ : Array Operand).map a.eval = #[a.eval o1, a.eval o2] := by simp
        rw [ha]
        exact append_ok hs ht (evOperand_ok hg h o1) (evOperand_ok hg h o2) hr
    · cases hr
  · rename_i d x hl
    split at hr
    · rename_i t ht
      match l, hl, hrep with
      | [o1, o2], hl, hrep =>
        simp only [List.map_cons, List.map_nil, List.cons.injEq, and_true] at hl
        obtain ⟨rfl, rfl⟩ := hl
        have ha : (⟨[o1, o2]⟩ : Array Operand).map a.eval = #[a.eval o1, a.eval o2] := by simp
        rw [ha]
        exact copy_ok hs ht (evOperand_ok hg h o1) (evOperand_ok hg h o2) hr
    · cases hr
  · rename_i x l' hl
    obtain ⟨z, hz, rfl⟩ := Option.map_eq_some_iff.1 hr
    match l, hl, hrep with
    | o :: os, hl, hrep =>
      simp only [List.map_cons, List.cons.injEq] at hl
      obtain ⟨rfl, rfl⟩ := hl
      obtain ⟨vz, hvz, hrz⟩ := fold_ok (P := P) (w := w) (f := minV) (g := Builtin.min2) (fun x y z vx vy => min2_ok) _ _ _ z (a.eval o) hrep.tail (evOperand_ok hg h o) hz
      exact OpOk.pure hs (by simpa [Builtin.min_] using hvz) hrz
  · rename_i x l' hl
    obtain ⟨z, hz, rfl⟩ := Option.map_eq_some_iff.1 hr
    match l, hl, hrep with
    | o :: os, hl, hrep =>
      simp only [List.map_cons, List.cons.injEq] at hl
      obtain ⟨rfl, rfl⟩ := hl
      obtain ⟨vz, hvz, hrz⟩ := fold_ok (P := P) (w := w) (f := maxV) (g := Builtin.max2) (fun x y z vx vy => max2_ok) _ _ _ z (a.eval o) hrep.tail (evOperand_ok hg h o) hz
      exact OpOk.pure hs (by simpa [Builtin.max_] using hvz) hrz
  · rename_i x hl
    split at hr
    · rename_i t ht
      match l, hl, hrep with
      | [o], hl, hrep =>
        simp only [List.map_cons, List.map_nil, List.cons.injEq, and_true] at hl
        subst hl
        have ha : (⟨[o]⟩ : Array Operand).map a.eval = #[a.eval o] := by simp
        rw [ha]
        exact clear_ok hs ht (evOperand_ok hg h o) hr
    · cases hr
  · rename_i x hl
    split at hr
    · rename_i t ht
      obtain ⟨z, hz, rfl⟩ := Option.map_eq_some_iff.1 hr
      match l, hl, hrep with
      | [o], hl, hrep =>
        simp only [List.map_cons, List.map_nil, List.cons.injEq, and_true] at hl
        subst hl
        obtain ⟨vz, hvz, hrz⟩ := cap_ok (P := P) (ty := ty) hs ht (evOperand_ok hg h o) hz
        have ha : (⟨[o]⟩ : Array Operand).map a.eval = #[a.eval o] := by simp
        rw [ha]
        exact OpOk.pure hs hvz hrz
    · cases hr
  · cases hr
end
end Go.Ev
