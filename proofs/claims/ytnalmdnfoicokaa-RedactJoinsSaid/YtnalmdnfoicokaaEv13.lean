/-
  ALL OPERATIONS THAT CALL NOTHING, TOGETHER; CALLS (own work).
-/
import Derived.Test.YtnalmdnfoicokaaEv12
set_option linter.unusedSimpArgs false
set_option linter.unusedVariables false
namespace Go.Ev
open Go

section
variable {P : Program} {w0 : World} {B : Nat} {e : Emb} {H : Heap} {w : World} {Γ : Env}

theorem pure_of (hs : HS w0 B e H w) {m : Sem Value} {z : V} (h : ∃ vz, m.run P w = .ok vz w ∧ Rep w0 B e z vz) : OpOk P w0 B e H w (do Pure.pure (.value (← m))) (z, H) := by
  obtain ⟨vz, h1, h2⟩ := h
  exact OpOk.pure hs h1 h2

theorem OpOk.ret (hs : HS w0 B e H w) {v : V} {v' : Value} (hr : Rep w0 B e v v') : OpOk P w0 B e H w (Pure.pure (.value v')) (v, H) :=
  ⟨v', w, e, .inl rfl, Stp.refl hs, hr⟩

theorem sliceMax_ok (hs : HS w0 B e H w) {t : TypeId} {x hi m : V} {v vh vm : Value} {r : V × Heap} (h : sliceMaxV P H t x hi m = some r) (hx : Rep w0 B e x v) (h2 : Rep w0 B e hi vh) (h3 : Rep w0 B e m vm) :
    OpOk P w0 B e H w (do Pure.pure (.value (← Instr.sliceAt t v none (some vh) (some vm)))) r := by
  unfold sliceMaxV at h
  split at h
  · rename_i el id off len sz k1 hh k2 kk hu
    split at h
    · rename_i n cs ex hz hid
      split at h
      · rename_i hc
        simp only [Bool.and_eq_true, decide_eq_true_eq, beq_iff_eq] at hc
        obtain ⟨⟨⟨⟨⟨c1, c2⟩, c3⟩, c4⟩, c5⟩, c6⟩ := hc
        cases h
        subst c3
        cases h2
        cases h3
        cases hx with
        | sl _ _ _ _ _ cap eb o he k1 k2 k3 k4 =>
          obtain ⟨j, rfl⟩ : ∃ j : Nat, kk = j := ⟨kk.toNat, by omega⟩
          have hjc : j ≤ cap := by omega
          simp only [Int.toNat_natCast] at c6 ⊢
          obtain ⟨eb', ob, he', ho, hok⟩ := hs.live id _ hid
          rw [he] at he'; cases he'
          cases ob <;> simp only [BlkOk] at hok
          rename_i c elr fr
          obtain ⟨m1, m2, m3, m4, m5⟩ := hok
          have hself : w.heap = w.heap.setIfInBounds eb.b (.cells c elr fr) := by
            apply Array.ext_getElem?
            intro i
            by_cases hi : i = eb.b
            · subst hi; rw [ho, Array.getElem?_setIfInBounds_self_of_lt (Array.getElem?_eq_some_iff.1 ho).1]
            · rw [Array.getElem?_setIfInBounds_ne (Ne.symm hi)]
          have hlen : (cs.take (off + j * sz)).length = off + j * sz := by rw [List.length_take]; omega
          have hseg : (seg c eb.base cs.length).take (off + j * sz) = seg c eb.base (off + j * sz) := by
            unfold seg; rw [List.take_take, Nat.min_eq_left c6]
          refine OpOk.val (v' := .slice (some ⟨eb.b, o, none⟩) j j) (w' := w) ?_ (Stp.renew hs hid he (eb' := ⟨eb.b, eb.base, eb.base + off + j * sz⟩) rfl (.cells (cs.take (off + j * sz)) true) (.cells c elr fr) ?_ hself rfl rfl rfl)
            (.sl _ _ _ _ _ j ⟨eb.b, eb.base, eb.base + off + j * sz⟩ _ (put_self _ _ _) (Nat.le_refl _) k2 rfl (fun h => k4 (by omega)))
          · simp [Instr.sliceAt, Instr.slice, Instr.sliceBounds, Instr.sliceBound, asIntOf, runder hu, rsizeOf hz, hjc, Addr.add]
          · refine ⟨by simp only; omega, by rw [hlen]; simp only; omega, fun _ => by rw [hlen]; simp only; omega, m4, ?_⟩
            rw [hlen, ← hseg]
            exact (m5.take _).mono (hs.put_up _)
      · cases h
    · cases h
  · rename_i el k1 hh k2 kk hu
    split at h
    · rename_i n hz
      split at h
      · rename_i hc
        obtain ⟨rfl, rfl⟩ := hc
        cases h
        cases h2
        cases h3
        cases hx
        exact OpOk.pure hs (v' := .slice none 0 0) (by simp [Instr.sliceAt, Instr.slice, Instr.sliceBounds, Instr.sliceBound, asIntOf, runder hu, rsizeOf hz]) (.nils _)
      · cases h
    · cases h
  · cases h

theorem plain_ok (hg : GlobOk Γ w0 B) (hs : HS w0 B e H w) {s : List V} {a : Act} (hrep : RepL w0 B e s a.tmps.toList) {o : Oper} {r : V × Heap} (h : evPlain P Γ s H o.op = some r) : OpOk P w0 B e H w (execOp a.eval o) r := by
  have hop := fun x => evOperand_ok hg hrep x
  unfold execOp
  generalize o.type = ty at *
  generalize o.op = op at *
  unfold evPlain at h
  split at h
  · cases h; exact OpOk.ret hs (hop _)
  · cases h; exact OpOk.ret hs (hop _)
  · rename_i c x y
    split at h
    · rename_i t hc
      cases h
      have hcv := hop c
      rw [hc] at hcv
      generalize hv : a.eval c = vc at hcv
      cases hcv
      refine ⟨if t then a.eval x else a.eval y, w, e, .inl ?_, Stp.refl hs, ?_⟩
      · simp only [hv, asBool, Sem.run_bind, Sem.run_pure, Result.andThen_ok]
      · cases t
        · exact hop y
        · exact hop x
    · cases h
  · rename_i t
    split at h
    · rename_i cs hc; cases h; exact alloc_ok hs hc
    · cases h
  · rename_i t x
    split at h
    · rename_i cs hc; cases h; exact box_ok hs (hop x) hc
    · cases h
  · rename_i t ps
    obtain ⟨z, hz, rfl⟩ := Option.map_eq_some_iff.1 h
    exact pure_of hs (build_ok hop ps hz)
  · rename_i t n ps
    exact buildSlice_ok hs hop ps h
  · rename_i t x
    obtain ⟨z, hz, rfl⟩ := Option.map_eq_some_iff.1 h
    exact load_ok hs (hop x) hz
  · rename_i t x y
    obtain ⟨H', hz, rfl⟩ := Option.map_eq_some_iff.1 h
    exact store_ok hs (hop x) (hop y) hz
  · rename_i x
    have hx := hop x
    split at h
    · rename_i id off hc
      cases h
      rw [hc] at hx
      generalize hv : a.eval x = vx at hx
      cases hx with
      | ptr _ _ _ eb he => exact ⟨_, w, e, .inl (by simp only [hv]; rfl), Stp.refl hs, .ptr _ _ _ _ he⟩
    · rename_i cs hc
      cases h
      rw [hc] at hx
      generalize hv : a.eval x = vx at hx
      cases hx with
      | ro _ _ b o f h2 h3 h4 => exact ⟨_, w, e, .inl (by simp only [hv]; rfl), Stp.refl hs, .ro _ _ _ _ _ h2 h3 h4⟩
    · rename_i f c d hc
      cases h
      rw [hc] at hx
      generalize hv : a.eval x = vx at hx
      cases hx with
      | fn _ _ _ _ a' b' h1 h2 h3 h4 => exact ⟨_, w, e, .inl (by simp only [hv]; rfl), Stp.refl hs, .fn _ _ _ _ _ _ h1 h2 h3 h4⟩
    · cases h
  · rename_i op t x y u
    obtain ⟨z, hz, rfl⟩ := Option.map_eq_some_iff.1 h
    exact pure_of hs (bin_ok hz (hop x) (hop y) x y)
  · rename_i op t x
    obtain ⟨z, hz, rfl⟩ := Option.map_eq_some_iff.1 h
    exact pure_of hs (un_ok hz (hop x))
  · rename_i c d x
    exact convert_ok hs (hop x) h
  · rename_i t x
    split at h
    · cases h
    · rename_i d hn hu
      cases h
      refine OpOk.pure hs (v' := .iface t (a.eval x)) ?_ (.iface _ _ _ _ (hop x))
      simp only [Instr.makeInterface, Sem.run_bind, runder hu, Result.andThen_ok]
      cases d <;> first | rfl | exact absurd rfl (hn _)
    · cases h
  · rename_i f x y
    cases h
    have h1 := mapRep (e := e) hg hrep x.toList
    have h2 := mapRep (e := e) hg hrep y.toList
    refine OpOk.pure hs (v' := .func f (x.map a.eval) (y.map a.eval)) (by simp [Instr.makeFunc]) ?_
    have e1 : x.map a.eval = ⟨x.toList.map a.eval⟩ := by apply Array.ext'; simp
    have e2 : y.map a.eval = ⟨y.toList.map a.eval⟩ := by apply Array.ext'; simp
    rw [e1, e2]
    exact .fn _ _ _ _ _ _ h1.1 h2.1 h1.2 h2.2
  · rename_i t
    cases h
    refine OpOk.val (v' := .map (some w.heap.size)) (w' := { w with heap := w.heap.push (.map #[] 0) }) (by rfl)
      (Stp.alloc hs (.map [] 0) ⟨w.heap.size, 0, 0⟩ (.map #[] 0) rfl ⟨rfl, rfl, fun j h => by simp at h⟩ rfl rfl rfl rfl) (.map _ _ ⟨w.heap.size, 0, 0⟩ (put_self _ _ _))
  · rename_i t l c
    exact makeSlice_ok hs (hop l) (hop c) h
  · rename_i t x hi m
    exact sliceMax_ok hs h (hop x) (hop hi) (hop m)
  · rename_i t x lo hi mx _
    obtain ⟨z, hz, rfl⟩ := Option.map_eq_some_iff.1 h
    exact pure_of hs (slice_ok hs hz (hop x) (opt_ok hg hrep lo) (opt_ok hg hrep hi) (opt_ok hg hrep mx))
  · rename_i t x f
    obtain ⟨z, hz, rfl⟩ := Option.map_eq_some_iff.1 h
    exact pure_of hs (fieldAddr_ok hz (hop x))
  · rename_i t x f
    obtain ⟨z, hz, rfl⟩ := Option.map_eq_some_iff.1 h
    exact pure_of hs (field_ok hz (hop x))
  · rename_i t x i
    obtain ⟨z, hz, rfl⟩ := Option.map_eq_some_iff.1 h
    exact pure_of hs (indexAddr_ok hz (hop x) (hop i))
  · rename_i t x i
    obtain ⟨z, hz, rfl⟩ := Option.map_eq_some_iff.1 h
    exact pure_of hs (index_ok hz (hop x) (hop i))
  · rename_i t x k ok
    obtain ⟨z, hz, rfl⟩ := Option.map_eq_some_iff.1 h
    exact pure_of hs (lookup_ok hs (hop x) (hop k) hz)
  · rename_i t m k x
    obtain ⟨H', hz, rfl⟩ := Option.map_eq_some_iff.1 h
    exact mapUpdate_ok hs (hop m) (hop k) (hop x) hz
  · rename_i t m k x
    obtain ⟨H', hz, rfl⟩ := Option.map_eq_some_iff.1 h
    exact mapUpdate_ok hs (hop m) (hop k) (hop x) hz
  · rename_i t m k
    exact mapEntry_ok hs (hop m) (hop k) h
  · rename_i t m st x
    obtain ⟨H', hz, rfl⟩ := Option.map_eq_some_iff.1 h
    exact entryStore_ok hs (hop m) (hop st) (hop x) hz
  · rename_i t x
    have hx := hop x
    split at h
    · rename_i z hu hc
      cases h
      rw [hc] at hx
      generalize hv : a.eval x = vx at hx
      cases hx
      simp only [hv]
      exact range_ok hs hu
    · cases h
  · rename_i it
    exact next_ok hs (hop it) h
  · rename_i x i
    have hx := hop x
    split at h
    · rename_i vs hc
      obtain ⟨z, hz, rfl⟩ := Option.map_eq_some_iff.1 h
      rw [hc] at hx
      generalize hv : a.eval x = vx at hx
      cases hx with
      | tup _ _ a' ha har =>
        obtain ⟨v', hv', hr⟩ := RepL.get? ⟨ha, har⟩ hz
        simp only [hv]
        exact OpOk.pure hs (by simp [Instr.extract, hv']) hr
    · cases h
  · rename_i b as ts
    unfold OpOk
    simp only [resolve, Sem.run_bind, Sem.run_pure, Result.andThen_ok, invoke]
    exact builtin_ok hg hs hrep h
  · cases h
end
end Go.Ev
