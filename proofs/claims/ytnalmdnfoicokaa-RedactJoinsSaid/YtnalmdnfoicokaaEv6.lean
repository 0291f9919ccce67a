/-
  EACH OPERATION THAT CALLS NOTHING DOES WHAT THE EVALUATOR SAYS, third part: values (own work).
-/
import Derived.Test.YtnalmdnfoicokaaEv5
import Derived.Laws.StructEq
set_option linter.unusedSimpArgs false
set_option linter.unusedVariables false
namespace Go.Ev
open Go

section
variable {P : Program} {w0 : World} {B : Nat} {e : Emb} {H : Heap} {w : World}

theorem part_ok {t : TypeId} {cs : List V} {vs : List Value} (hc : CellsOk w0 B e cs vs) {off : Nat} {x : V} (h : partV P t cs off = some x) (w : World) :
    ∃ v, (part t ⟨vs⟩ off).run P w = .ok v w ∧ Rep w0 B e x v := by
  unfold partV at h
  split at h
  · rename_i ha
    split at h
    · rename_i n hz
      split at h
      · rename_i hle
        cases h
        have hcc := (hc.drop off).take n
        refine ⟨.agg ⟨(vs.drop off).take n⟩, ?_, .agg _ _ _ hcc.1.1 hcc.2 hcc.1.2⟩
        simp [part, risAgg ha, rsizeOf hz]
      · cases h
    · cases h
  · rename_i ha
    obtain ⟨v, hv, hr⟩ := hc.1.get? h
    exact ⟨v, by simp [part, risAgg ha, hv], hr⟩
  · cases h

/-- '==' by the type. -/
theorem eqFields_ok (d : Nat) (ih : ∀ t x y b vx vy, eqV P d t x y = some b → Rep w0 B e x vx → Rep w0 B e y vy → (Op.equalIn d t vx vy).run P w = .ok b w) :
    ∀ (fs : List Field) (xs ys : List V) (vxs vys : List Value) (b : Bool), eqFields P d fs xs ys = some b → CellsOk w0 B e xs vxs → CellsOk w0 B e ys vys →
      (Op.eqFields d ⟨vxs⟩ ⟨vys⟩ fs).run P w = .ok b w
  | [], xs, ys, vxs, vys, b, h, _, _ => by
    simp only [eqFields, Option.some.injEq] at h
    subst h
    simp [Op.eqFields]
  | f :: fs, xs, ys, vxs, vys, b, h, hx, hy => by
    rw [eqFields] at h
    rw [Op.eqFields]
    split at h
    · rename_i hn
      rw [if_neg (by simpa using hn)]
      exact eqFields_ok d ih fs xs ys vxs vys b h hx hy
    · rename_i hn
      rw [if_pos (by simpa using hn)]
      split at h
      · rename_i a c hpa hpc
        obtain ⟨va, hva, hra⟩ := part_ok (P := P) hx hpa w
        obtain ⟨vc, hvc, hrc⟩ := part_ok (P := P) hy hpc w
        split at h
        · rename_i hq
          have := ih _ _ _ _ _ _ hq hra hrc
          simp [hva, hvc, this, eqFields_ok d ih fs xs ys vxs vys b h hx hy]
        · rename_i hq
          cases h
          have := ih _ _ _ _ _ _ hq hra hrc
          simp [hva, hvc, this]
        · cases h
      · cases h

/-- The elements of an array, compared one by one. -/
def eqElemsM (d : Nat) (e' : TypeId) (sz : Nat) (xs ys : Array Value) : Nat → Nat → Sem Bool
  | 0, _ => pure true
  | n + 1, i => do
    let a ← part e' xs (i * sz)
    let b ← part e' ys (i * sz)
    let r ← Op.equalIn d e' a b
    if (!r) = true then pure false else eqElemsM d e' sz xs ys n (i + 1)

theorem run_equalIn_array (d : Nat) (t e' : TypeId) (n sz : Nat) (xs ys : Array Value) (ht : P.underlying t = some (.array n e')) (hz : tsz P e' = some sz) (w : World) :
    (Op.equalIn (d + 1) t (.agg xs) (.agg ys)).run P w = (eqElemsM d e' sz xs ys n 0).run P w := by
  simp only [Op.equalIn, Sem.run_bind, runder ht, Result.andThen_ok, rsizeOf hz]
  rw [Std.Legacy.Range.forIn_eq_forIn_range']
  simp only [Std.Legacy.Range.size, Nat.sub_zero, Nat.add_sub_cancel, Nat.div_one]
  clear ht
  generalize 0 = i
  induction n generalizing i w with
  | zero => simp [eqElemsM]
  | succ n ih =>
    simp only [List.range'_succ, List.forIn_cons, eqElemsM, Sem.run_bind]
    generalize (part e' xs (i * sz)).run P w = r1
    cases r1 with
    | ok a w1 =>
      simp only [Result.andThen_ok]
      generalize (part e' ys (i * sz)).run P w1 = r2
      cases r2 with
      | ok b w2 =>
        simp only [Result.andThen_ok]
        generalize (Op.equalIn d e' a b).run P w2 = r3
        cases r3 with
        | ok r w3 =>
          cases r
          · simp
          · simp only [Result.andThen_ok, Bool.not_true, Bool.false_eq_true, if_false, Sem.run_pure]
            have := ih w3 (i + 1)
            simpa using this
        | halt x w3 => simp [Result.andThen]
      | halt x w2 => simp [Result.andThen]
    | halt x w1 => simp [Result.andThen]
theorem eqElems_ok (d : Nat) (ih : ∀ t x y b vx vy, eqV P d t x y = some b → Rep w0 B e x vx → Rep w0 B e y vy → (Op.equalIn d t vx vy).run P w = .ok b w) (e' : TypeId) (sz : Nat) :
    ∀ (n i : Nat) (xs ys : List V) (vxs vys : List Value) (b : Bool), eqElems P d n i e' sz xs ys = some b → CellsOk w0 B e xs vxs → CellsOk w0 B e ys vys →
      (eqElemsM d e' sz ⟨vxs⟩ ⟨vys⟩ n i).run P w = .ok b w
  | 0, i, xs, ys, vxs, vys, b, h, _, _ => by
    simp only [eqElems, Option.some.injEq] at h
    subst h
    simp [eqElemsM]
  | n + 1, i, xs, ys, vxs, vys, b, h, hx, hy => by
    rw [eqElems] at h
    rw [eqElemsM]
    split at h
    · rename_i a c hpa hpc
      obtain ⟨va, hva, hra⟩ := part_ok (P := P) hx hpa w
      obtain ⟨vc, hvc, hrc⟩ := part_ok (P := P) hy hpc w
      split at h
      · rename_i hq
        have := ih _ _ _ _ _ _ hq hra hrc
        simp [hva, hvc, this, eqElems_ok d ih e' sz n (i + 1) xs ys vxs vys b h hx hy]
      · rename_i hq
        cases h
        have := ih _ _ _ _ _ _ hq hra hrc
        simp [hva, hvc, this]
      · cases h
    · cases h

theorem aggOf_ok {x : V} {v : Value} {xs : List V} (h : Rep w0 B e x v) (hx : aggOf x = some xs) : ∃ vs, v = .agg ⟨vs⟩ ∧ CellsOk w0 B e xs vs := by
  cases h <;> simp only [aggOf, reduceCtorEq, Option.some.injEq] at hx
  subst hx
  rename_i a' ha h1 har
  exact ⟨a', rfl, ⟨ha, har⟩, h1⟩

theorem eqB_ok {d : Nat} {t : TypeId} {x y : V} {b : Bool} {vx vy : Value} (hu : P.underlying t = some .bool) (h : eqB x y = some b) (hx : Rep w0 B e x vx) (hy : Rep w0 B e y vy) :
    (Op.equalIn (d + 1) t vx vy).run P w = .ok b w := by
  unfold eqB at h
  split at h <;> first | (cases h; done) | (cases hx; cases hy; cases h; simp [Op.equalIn, runder hu]; done)

theorem eqS_ok {d : Nat} {t : TypeId} {x y : V} {b : Bool} {vx vy : Value} (hu : P.underlying t = some .string) (h : eqS x y = some b) (hx : Rep w0 B e x vx) (hy : Rep w0 B e y vy) :
    (Op.equalIn (d + 1) t vx vy).run P w = .ok b w := by
  unfold eqS at h
  split at h <;> first | (cases h; done) | (cases hx; cases hy; cases h; simp [Op.equalIn, runder hu]; done)

theorem eqSlice_ok {d : Nat} {t : TypeId} {x y : V} {b : Bool} {vx vy : Value} {el : TypeId} (hu : P.underlying t = some (.slice el)) (h : eqSlice x y = some b) (hx : Rep w0 B e x vx) (hy : Rep w0 B e y vy) :
    (Op.equalIn (d + 1) t vx vy).run P w = .ok b w := by
  unfold eqSlice at h
  split at h <;> first | (cases h; done) | (cases hx <;> cases hy <;> cases h <;> simp [Op.equalIn, runder hu]; done)

theorem eqFn_ok {d : Nat} {t : TypeId} {x y : V} {b : Bool} {vx vy : Value} {a1 a2 : Array TypeId} {a3 : Bool} (hu : P.underlying t = some (.func a1 a2 a3)) (h : eqFn x y = some b) (hx : Rep w0 B e x vx) (hy : Rep w0 B e y vy) :
    (Op.equalIn (d + 1) t vx vy).run P w = .ok b w := by
  unfold eqFn at h
  split at h <;> first | (cases h; done) | (cases hx; cases hy; cases h; simp [Op.equalIn, runder hu]; done)

theorem eqIface_ok {d : Nat} {t : TypeId} {x y : V} {b : Bool} {vx vy : Value} {ms : Array (String × TypeId)} (hu : P.underlying t = some (.interface ms)) (h : eqIface x y = some b) (hx : Rep w0 B e x vx) (hy : Rep w0 B e y vy) :
    (Op.equalIn (d + 1) t vx vy).run P w = .ok b w := by
  unfold eqIface at h
  split at h <;> first | (cases h; done) | (cases hx; cases hy; cases h; simp [Op.equalIn, runder hu]; done)

theorem eqMap_ok {d : Nat} {t : TypeId} {x y : V} {b : Bool} {vx vy : Value} {k1 k2 : TypeId} (hu : P.underlying t = some (.map k1 k2)) (h : eqMap x y = some b) (hx : Rep w0 B e x vx) (hy : Rep w0 B e y vy) :
    (Op.equalIn (d + 1) t vx vy).run P w = .ok b w := by
  unfold eqMap at h
  split at h <;> first | (cases h; done) | (cases hx; cases hy; cases h; simp [Op.equalIn, runder hu]; done)

theorem eqPtr_ok {d : Nat} {t : TypeId} {x y : V} {b : Bool} {vx vy : Value} {el : TypeId} (hu : P.underlying t = some (.pointer el)) (h : eqPtr x y = some b) (hx : Rep w0 B e x vx) (hy : Rep w0 B e y vy) :
    (Op.equalIn (d + 1) t vx vy).run P w = .ok b w := by
  unfold eqPtr at h
  split at h <;> first | (cases h; done) | (cases hx; cases hy; cases h; simp [Op.equalIn, runder hu]; done)

theorem eqI_ok {d : Nat} {t : TypeId} {x y : V} {b : Bool} {vx vy : Value} {k0 : IntKind} (hu : P.underlying t = some (.int k0)) (h : eqI x y = some b) (hx : Rep w0 B e x vx) (hy : Rep w0 B e y vy) :
    (Op.equalIn (d + 1) t vx vy).run P w = .ok b w := by
  unfold eqI at h
  split at h
  · cases hx; cases hy
    split at h
    · rename_i hk; subst hk; cases h; simp [Op.equalIn, runder hu]
    · cases h
  · cases h

theorem eqV_ok : ∀ (d : Nat) (t : TypeId) (x y : V) (b : Bool) (vx vy : Value), eqV P d t x y = some b → Rep w0 B e x vx → Rep w0 B e y vy → (Op.equalIn d t vx vy).run P w = .ok b w
  | 0, t, x, y, b, vx, vy, h, _, _ => by simp [eqV] at h
  | d + 1, t, x, y, b, vx, vy, h, hx, hy => by
    have ih := eqV_ok d
    unfold eqV at h
    split at h
    · rename_i hu; exact eqB_ok hu h hx hy
    · rename_i hu; exact eqI_ok hu h hx hy
    · rename_i hu; exact eqS_ok hu h hx hy
    · rename_i hu; exact eqSlice_ok hu h hx hy
    · rename_i hu; exact eqFn_ok hu h hx hy
    · rename_i hu; exact eqIface_ok hu h hx hy
    · rename_i hu; exact eqMap_ok hu h hx hy
    · rename_i hu; exact eqPtr_ok hu h hx hy
    · rename_i fs hu
      split at h
      · cases h
      · rename_i hst
        split at h
        · rename_i xs ys hxs hys
          obtain ⟨vxs, rfl, hcx⟩ := aggOf_ok hx hxs
          obtain ⟨vys, rfl, hcy⟩ := aggOf_ok hy hys
          have hf : P.fieldsOf t = fs := by simp [Program.fieldsOf, hu]
          rw [run_equalIn_struct (P := P) w d t ⟨vxs⟩ ⟨vys⟩ (by rw [hf]; exact hu) (by simpa using hst), hf]
          exact eqFields_ok d ih fs.toList _ _ vxs vys b h hcx hcy
        · cases h
    · rename_i n e' hu
      split at h
      · rename_i sz xs ys hz hxs hys
        obtain ⟨vxs, rfl, hcx⟩ := aggOf_ok hx hxs
        obtain ⟨vys, rfl, hcy⟩ := aggOf_ok hy hys
        rw [run_equalIn_array d t e' n sz ⟨vxs⟩ ⟨vys⟩ hu hz]
        exact eqElems_ok d ih e' sz n 0 _ _ vxs vys b h hcx hcy
      · cases h
    · cases h
end
end Go.Ev
