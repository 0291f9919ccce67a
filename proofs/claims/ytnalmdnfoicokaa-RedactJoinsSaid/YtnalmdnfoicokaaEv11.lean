/-
  EACH OPERATION THAT CALLS NOTHING DOES WHAT THE EVALUATOR SAYS, eighth part: append, copy (own work).
-/
import Derived.Test.YtnalmdnfoicokaaEv10
set_option linter.unusedSimpArgs false
set_option linter.unusedVariables false
namespace Go.Ev
open Go

section
variable {P : Program} {w0 : World} {B : Nat} {e : Emb} {H : Heap} {w : World}

/-- A block written in place and told anew, under a new name. -/
theorem Stp.renew (h : HS w0 B e H w) {id : Nat} {k0 : Blk} (hid : H[id]? = some (some k0)) {eb eb' : EB} (he : e id = some eb) (hb : eb'.b = eb.b) (k : Blk) (o : Obj)
    (hk : BlkOk w0 B (Emb.put e H.length eb') k eb' o) {w' : World} (hw : w'.heap = w.heap.setIfInBounds eb.b o) (ho : w'.os = w.os) (ht : w'.tape = w.tape) (hp : w'.output = w.output) (hdr : w.drawn ≤ w'.drawn := by first | exact Nat.le_refl _ | exact Nat.le_succ _) :
    Stp w0 B e H w (Emb.put e H.length eb') (H.set id none ++ [some k]) w' := by
  have hd := h.dom id eb he
  have hget : ∀ b, b ≠ eb.b → w'.heap[b]? = w.heap[b]? := fun b hb => by rw [hw, Array.getElem?_setIfInBounds_ne (Ne.symm hb)]
  have hsize : w'.heap.size = w.heap.size := by rw [hw, Array.size_setIfInBounds]
  have low : ∀ i bi, (H.set id none ++ [some k])[i]? = some (some bi) → (i < H.length ∧ i ≠ id ∧ H[i]? = some (some bi)) ∨ (i = H.length ∧ bi = k) := by
    intro i bi hi
    rcases Nat.lt_or_ge i H.length with hl | hg
    · left
      rw [List.getElem?_append_left (by simpa using hl), List.getElem?_set] at hi
      split at hi
      · split at hi <;> cases hi
      · rename_i hne; exact ⟨hl, fun h => hne h.symm, hi⟩
    · right
      rw [List.getElem?_append_right (by simpa using hg)] at hi
      simp only [List.length_set] at hi
      have h0 : i - H.length = 0 := by
        rcases Nat.eq_zero_or_pos (i - H.length) with h0 | h0
        · exact h0
        · rw [List.getElem?_eq_none (by simp; omega)] at hi; cases hi
      rw [h0] at hi
      simp at hi
      exact ⟨by omega, hi.symm⟩
  have eput : ∀ i x, i < H.length → (Emb.put e H.length eb') i = some x → e i = some x := fun i x hi hx => by
    simp only [Emb.put] at hx; rw [if_neg (by omega)] at hx; exact hx
  refine ⟨⟨fun b hb' => ?_, by rw [hsize]; exact h.szB, fun i x hx => ?_, fun i k' hk' => ?_, fun i j bi bj ei ej hi hj h1 h2 h3 => ?_, fun b o hb => by rw [hget b fun hbe => by have := h.frl id k0 eb hid he; rw [← hbe, show e.frz b = some o from hb] at this; cases this]; exact h.frz b o hb, fun i k' x hk' hx => ?_⟩, fun i hi => ?_, by simp, fun i b hi hb' => ?_, fun i x hi hx => ?_, fun b hb' hn => hget b fun hbe => ?_, by omega, ho, ht, hp, fun _ _ h => h, fun _ _ h => .inl h, fun _ => hdr⟩
  · rw [hget b (by omega)]; exact h.old b hb'
  · simp only [Emb.put] at hx
    split at hx
    · cases hx; rw [hsize]; simp; omega
    · have := h.dom i x hx; rw [hsize]; simp; omega
  · rcases low i k' hk' with ⟨hl, hne, hi⟩ | ⟨rfl, rfl⟩
    · obtain ⟨x, o', hx, ho', hok⟩ := h.live i k' hi
      refine ⟨x, o', h.put_up eb' _ _ hx, ?_, hok.mono (h.put_up eb')⟩
      rw [hget x.b fun hb => hne (h.inj i id k' k0 x eb hi hid hx he hb)]
      exact ho'
    · exact ⟨eb', o, put_self _ _ _, by rw [hw, hb, Array.getElem?_setIfInBounds_self, if_pos hd.2.2], hk⟩
  · rcases low i bi hi with ⟨a1, a2, a3⟩ | ⟨a1, a2⟩ <;> rcases low j bj hj with ⟨b1, b2, b3⟩ | ⟨b1, b2⟩
    · exact h.inj i j bi bj ei ej a3 b3 (eput _ _ a1 h1) (eput _ _ b1 h2) h3
    · exfalso
      subst b1
      rw [put_self] at h2; cases h2
      exact a2 (h.inj i id bi k0 ei eb a3 hid (eput _ _ a1 h1) he (by omega))
    · exfalso
      subst a1
      rw [put_self] at h1; cases h1
      exact b2 (h.inj j id bj k0 ej eb b3 hid (eput _ _ b1 h2) he (by omega))
    · omega
  · show e.frz x.b = none
    rcases low i k' hk' with ⟨a1, a2, a3⟩ | ⟨a1, a2⟩
    · exact h.frl i k' x a3 (eput _ _ a1 hx)
    · subst a1
      rw [put_self] at hx; cases hx
      rw [hb]; exact h.frl id k0 eb hid he
  · simp only [Emb.put]; rw [if_neg (by omega)]
  · rcases low i b hb' with ⟨_, _, h3⟩ | ⟨h3, _⟩
    · exact ⟨b, h3⟩
    · omega
  · simp only [Emb.put] at hx
    split at hx
    · cases hx; right; exact ⟨id, k0, eb, hid, he, hb.symm⟩
    · have := h.dom i x hx; omega
  · exact hn id k0 eb hid he hbe.symm

theorem rappend_room {t el u : TypeId} {ty : TypeId} {ts : Array TypeId} {n k : Nat} {a : Addr} {sLen sCap : Nat} {vx : Value} {news : List Value} {w' : World} (ht : ts[0]? = some t) (hts : ts[1]? = some u)
    (hu : P.underlying t = some (.slice el)) (hn : tsz P el = some n) (hni : notInt P u = true) (hlen : ∀ W, (Builtin.lenOf vx).run P W = .ok k W) (hf : (Builtin.firstCells n k vx).run P w = .ok ⟨news⟩ w)
    (hroom : sLen + k ≤ sCap) (hst : (storeCells (a.add (sLen * n)) news).run P w = .ok () w') :
    (Builtin.append_ ts ty #[.slice (some a) sLen sCap, vx]).run P w = .ok (.slice (some a) (sLen + k) sCap) w' := by
  unfold notInt at hni
  cases hd : P.underlying u with
  | none => rw [hd] at hni; cases hni
  | some d =>
    rw [hd] at hni
    simp only [Builtin.append_, ht, hts]
    cases d <;> first
      | (cases hni; done)
      | (simp [runder hu, runder hd, rsizeOf hn, hlen, hf, hroom, hst]; done)

theorem rappend_none {t el u : TypeId} {ty : TypeId} {ts : Array TypeId} {n : Nat} {vx : Value} {news : List Value} (ht : ts[0]? = some t) (hts : ts[1]? = some u)
    (hu : P.underlying t = some (.slice el)) (hn : tsz P el = some n) (hni : notInt P u = true) (hlen : ∀ W, (Builtin.lenOf vx).run P W = .ok 0 W) (hf : (Builtin.firstCells n 0 vx).run P w = .ok ⟨news⟩ w) :
    (Builtin.append_ ts ty #[.slice none 0 0, vx]).run P w = .ok (.slice none 0 0) w := by
  unfold notInt at hni
  cases hd : P.underlying u with
  | none => rw [hd] at hni; cases hni
  | some d =>
    rw [hd] at hni
    simp only [Builtin.append_, ht, hts]
    cases d <;> first
      | (cases hni; done)
      | (simp [runder hu, runder hd, rsizeOf hn, hlen, hf]; done)

set_option maxHeartbeats 2000000 in
theorem rappend_grow {t el u : TypeId} {ty : TypeId} {ts : Array TypeId} {n b k : Nat} {base : Option Addr} {sLen sCap : Nat} {vx z : Value} {old news : Array Value} (ht : ts[0]? = some t) (hts : ts[1]? = some u)
    (hu : P.underlying t = some (.slice el)) (hn : tsz P el = some n) (hb : tbytes P el = some b) (hb0 : b ≠ 0) (hz : ∀ w, (zeroValue el).run P w = .ok z w) (hni : notInt P u = true) (hlen : ∀ W, (Builtin.lenOf vx).run P W = .ok k W)
    (hf : (Builtin.firstCells n k vx).run P w.drew = .ok news w.drew) (hold : (Builtin.firstCells n sLen (.slice base sLen sCap)).run P w.drew = .ok old w.drew)
    (hroom : sCap < sLen + k) (hfit : (sLen + k) * b ≤ 140737488355328) :
    (Builtin.append_ ts ty #[.slice base sLen sCap, vx]).run P w = .ok (.slice (some ⟨w.heap.size, 0, none⟩) (sLen + k) (grownCap w (sLen + k) sCap el))
      (w.drew.alloc (.cells (old ++ news ++ Builtin.zeroCells z.cells (grownCap w (sLen + k) sCap el - (sLen + k))) el)) := by
  obtain ⟨i, hi, rfl⟩ := info_of_tbytes hb
  have hfits := growslice_fits hroom hfit
  unfold notInt at hni
  have hnot : ¬ (sLen + k ≤ sCap) := by omega
  have hbig : ¬ (2 ^ 48 < Builtin.nextslicecap (sLen + k) sCap * i.bytes) := by omega
  have hbig' : ¬ (281474976710656 < Builtin.nextslicecap (sLen + k) sCap * i.bytes) := by omega
  have hforced : (Question.appendCap (sLen + k) sCap el).forced = false := rfl
  cases hd : P.underlying u with
  | none => rw [hd] at hni; cases hni
  | some d =>
    rw [hd] at hni
    simp only [Builtin.append_, ht, hts]
    cases d <;> first
      | (cases hni; done)
      | (simp [runder hu, runder hd, rsizeOf hn, hlen, hf, hold, hnot, hb0, hbig, hbig', rtypeInfo hi, raskRoom, rnewRow, hforced, hz, grownCap]; done)
theorem zeroCells_size (z : Array Value) (n : Nat) : (Builtin.zeroCells z n).size = n * z.size := by simp [Builtin.zeroCells]

/-- The new row of an append. -/
theorem grown_ok (hs : HS w0 B e H w) {el : TypeId} {cs : List V} {vs : List Value} (hc : CellsOk w0 B e cs vs) (rest : Array Value) {old news : List Value} (ho : old ++ news = vs) {len cap sz : Nat} (hl : len ≤ cap) (hz : 0 < sz) (hsz : vs.length + rest.size = cap * sz) :
    Stp w0 B e H w (Emb.put e H.length ⟨w.heap.size, 0, cap * sz⟩) (H ++ [some (.cells cs false)]) (w.drew.alloc (.cells ((⟨old⟩ : Array Value) ++ ⟨news⟩ ++ rest) el)) ∧
      Rep w0 B (Emb.put e H.length ⟨w.heap.size, 0, cap * sz⟩) (.sl H.length 0 len sz) (.slice (some ⟨w.heap.size, 0, none⟩) len cap) := by
  refine ⟨?_, sl_new e H.length len cap sz w.heap.size _ hl hz rfl⟩
  have := row_more_ok (more := rest.toList) (el := el) hs hc
  have e1 : vs.length + rest.toList.length = cap * sz := by simpa using hsz
  rw [e1] at this
  have e2 : (⟨vs ++ rest.toList⟩ : Array Value) = (⟨old⟩ : Array Value) ++ ⟨news⟩ ++ rest := by
    apply Array.ext'
    simp [← ho]
  rw [e2] at this
  exact ⟨this.hs.same rfl, this.ext, this.len, this.alive, this.new, this.frame, this.size, rfl, rfl, rfl, this.fup, this.fnew, fun _ => Nat.le_succ _⟩

set_option maxHeartbeats 2000000 in
theorem rappendZ_grow {t el u : TypeId} {ty : TypeId} {ts : Array TypeId} {n b l : Nat} {k ik : IntKind} {z : Value} (ht : ts[0]? = some t) (hts : ts[1]? = some u)
    (hu : P.underlying t = some (.slice el)) (hd : P.underlying u = some (.int ik)) (hn : tsz P el = some n) (hb : tbytes P el = some b) (hb0 : b ≠ 0) (hn0 : n ≠ 0) (hz : ∀ w, (zeroValue el).run P w = .ok z w) (hl : l ≠ 0) (hfit : l * b ≤ 140737488355328) :
    (Builtin.append_ ts ty #[.slice none 0 0, .int k (l : Int)]).run P w = .ok (.slice (some ⟨w.heap.size, 0, none⟩) l (grownCap w l 0 el))
      (w.drew.alloc (.cells ((⟨[]⟩ : Array Value) ++ Builtin.zeroCells z.cells l ++ Builtin.zeroCells z.cells (grownCap w l 0 el - l)) el)) := by
  obtain ⟨i, hi, rfl⟩ := info_of_tbytes hb
  have hroom : 0 < 0 + l := by omega
  have hfits := growslice_fits hroom (bytes := i.bytes) (by simpa using hfit)
  have hle : l ≤ 140737488355328 := Nat.le_trans (Nat.le_mul_of_pos_right l (by omega)) hfit
  have hw : IntKind.i64.wrap (l : Int) = l := by unfold IntKind.wrap; simp [IntKind.bits, IntKind.signed]; omega
  have hneg : ¬ ((l : Int) < 0) := by omega
  have hbig0 : ¬ (281474976710656 < (l : Int) * (i.bytes : Int)) := by
    have := Int.ofNat_le.2 hfit
    rw [Int.natCast_mul] at this
    omega
  simp only [Nat.zero_add] at hfits
  have hbig' : ¬ (281474976710656 < Builtin.nextslicecap l 0 * i.bytes) := by omega
  have hmax : ¬ ((9223372036854775807 : Int) < (l : Int)) := by omega
  have hln : ¬ (l * n = 0) := Nat.mul_ne_zero hl hn0
  have hforced : (Question.appendCap l 0 el).forced = false := rfl
  have hempty : (⟨[]⟩ : Array Value) = #[] := rfl
  simp only [Builtin.append_, ht, hts]
  simp [runder hu, runder hd, rsizeOf hn, asInt, asIntOf, hw, hneg, hbig0, rtypeInfo hi, hl, hmax, IntKind.max, IntKind.signed, IntKind.bits, hbig', raskRoom, rnewRow, hforced, hz, grownCap, hln, Builtin.firstCells, loadCells, loadCellsFrom, hn0]

theorem appendZ_ok (hs : HS w0 B e H w) {t el u : TypeId} {ts : Array TypeId} {ty : TypeId} {ik : IntKind} (ht : ts[0]? = some t) (hts : ts[1]? = some u) (hu : P.underlying t = some (.slice el)) (hd : P.underlying u = some (.int ik))
    {s x : V} {vs vx : Value} (hvs : Rep w0 B e s vs) (hvx : Rep w0 B e x vx) {r : V × Heap} (h : appendZ P H el s x = some r) : OpOk P w0 B e H w (do Pure.pure (.value (← Builtin.append_ ts ty #[vs, vx]))) r := by
  unfold appendZ at h
  split at h
  · rename_i k l
    split at h
    · rename_i n b z hn hb hz
      split at h
      · cases h
      · rename_i hc
        simp only [Bool.or_eq_true, decide_eq_true_eq, bne_iff_ne, ne_eq, not_or, Classical.not_not, Nat.not_lt, Int.not_lt] at hc
        obtain ⟨⟨⟨⟨hn0, hb0⟩, hzl⟩, hl0⟩, hfit⟩ := hc
        cases hvs
        cases hvx
        obtain ⟨m, rfl⟩ := Int.eq_ofNat_of_zero_le hl0
        simp only [Int.toNat_natCast] at h hfit
        split at h
        · rename_i h0
          subst h0
          cases h
          obtain ⟨i, hi, rfl⟩ := info_of_tbytes hb
          refine OpOk.pure hs (v' := .slice none 0 0) ?_ (.nils _)
          have hw : IntKind.i64.wrap 0 = 0 := rfl
          simp only [Builtin.append_, ht, hts]
          simp [runder hu, runder hd, rsizeOf hn, asInt, asIntOf, hw, rtypeInfo hi]
        · rename_i h0
          cases h
          obtain ⟨zv, hzv, hzc, _⟩ := tzc_ok hz
          have hzs : zv.cells.size = n := by have := (hzc w0 B e).1.1; simp at this; omega
          have hzero := zeros_ok (hzc w0 B e) m (m * n) (by rw [hzl])
          have hge := grownCap_ge w m 0 el
          have hrun := rappendZ_grow (P := P) (w := w) (ty := ty) (k := k) ht hts hu hd hn hb hb0 hn0 hzv h0 hfit
          have ecells : (Builtin.zeroCells zv.cells m) = ⟨((Array.range (m * n)).map (fun i => zv.cells[i % zv.cells.size]!)).toList⟩ := by
            apply Array.ext'
            simp [Builtin.zeroCells, hzs]
          obtain ⟨h1, h2⟩ := grown_ok (el := el) hs hzero (Builtin.zeroCells zv.cells (grownCap w m 0 el - m)) (old := []) (news := ((Array.range (m * n)).map (fun i => zv.cells[i % zv.cells.size]!)).toList) rfl (len := m) (cap := grownCap w m 0 el) (sz := n) hge (by omega)
            (by rw [zeroCells_size, hzs]; simp; rw [← Nat.add_mul]; congr 1; omega)
          rw [← ecells] at h1
          exact OpOk.val hrun h1 h2
    · cases h
  · cases h

theorem append_ok (hs : HS w0 B e H w) {t : TypeId} {ts : Array TypeId} {ty : TypeId} (ht : ts[0]? = some t) {s x : V} {vs vx : Value} (hvs : Rep w0 B e s vs) (hvx : Rep w0 B e x vx) {r : V × Heap} (h : appendV P H t ts[1]? s x = some r) :
    OpOk P w0 B e H w (do Pure.pure (.value (← Builtin.append_ ts ty #[vs, vx]))) r := by
  unfold appendV at h
  split at h
  · rename_i el u hu hts
    split at h
    · rename_i hni
      split at h
      · rename_i n b z hn hb hz
        split at h
        · cases h
        · rename_i hc
          simp only [Bool.or_eq_true, decide_eq_true_eq, bne_iff_ne, ne_eq, not_or, Classical.not_not] at hc
          obtain ⟨⟨hn0, hb0⟩, hzl⟩ := hc
          split at h
          · rename_i k cs hit
            obtain ⟨zv, hzv, hzc, _⟩ := tzc_ok hz
            have hzs : zv.cells.size = n := by have := (hzc w0 B e).1.1; simp at this; omega
            obtain ⟨news, hlen, hf, hcs, hnl, _⟩ := items_ok (P := P) hs hvx hit
            obtain ⟨news', _, hfd, hcs', hnl', _⟩ := items_ok (P := P) (hs.same (w' := w.drew) rfl) hvx hit
            unfold appendS at h
            split at h
            · -- onto nil
              cases hvs
              split at h
              · rename_i hk
                subst hk
                cases h
                exact OpOk.pure hs (rappend_none ht hts hu hn hni hlen hf) (.nils _)
              · split at h
                · rename_i hk hfit
                  cases h
                  have hrun := rappend_grow (P := P) (w := w) (ty := ty) (z := zv) (old := ⟨[]⟩) (news := ⟨news'⟩) (base := none) (sLen := 0) (sCap := 0) ht hts hu hn hb hb0 hzv hni hlen hfd (by simp [Builtin.firstCells]) (by omega) (by simpa using hfit)
                  have hge := grownCap_ge w (0 + k) 0 el
                  obtain ⟨h1, h2⟩ := grown_ok (el := el) hs hcs' (Builtin.zeroCells zv.cells (grownCap w (0 + k) 0 el - (0 + k))) (old := []) (news := news') rfl (len := 0 + k) (cap := grownCap w (0 + k) 0 el) (sz := n) hge (by omega)
                    (by rw [zeroCells_size, hzs, hnl', ← Nat.add_mul]; congr 1; omega)
                  simp only [Nat.zero_add] at hrun h1 h2
                  exact OpOk.val hrun h1 h2
                · cases h
            · rename_i id off len sz
              split at h
              · cases h
              · rename_i hsz
                have hsz' : sz = n := by simpa using hsz
                subst hsz'
                split at h
                · rename_i cs0 ex hid
                  cases hvs with
                  | sl _ _ _ _ _ cap eb o he k1 k2 k3 k4 =>
                    obtain ⟨eb', o', he', ho', hok⟩ := hs.live id _ hid
                    rw [he] at he'; cases he'
                    cases o' <;> simp only [BlkOk] at hok
                    rename_i c elr fr
                    obtain ⟨m1, m2, m3, m4, m5⟩ := hok
                    split at h
                    · -- nothing is appended
                      rename_i hk
                      subst hk
                      cases h
                      have hnil : news = [] := List.eq_nil_of_length_eq_zero (by omega)
                      subst hnil
                      refine OpOk.pure hs (v' := .slice (some ⟨eb.b, o, none⟩) len cap) ?_ (.sl _ _ _ _ _ _ _ _ he k1 k2 k3 k4)
                      exact rappend_room (sLen := len) ht hts hu hn hni hlen hf (by omega) (by simp [storeCells])
                    · rename_i hk
                      split at h
                      · -- there is room within what is told
                        rename_i hroom
                        obtain ⟨H', hw, rfl⟩ := Option.map_eq_some_iff.1 h
                        have hcap : (len + k) * sz ≤ cap * sz := by omega
                        have hcap' : len + k ≤ cap := Nat.le_of_mul_le_mul_right hcap k2
                        have ho := k4 (by omega)
                        subst ho
                        obtain ⟨w', hst, hstp⟩ := write_ok (P := P) hs he hcs hw
                        refine OpOk.val (rappend_room (sLen := len) ht hts hu hn hni hlen hf hcap' (by rw [add_plain, Nat.add_assoc]; exact hst)) hstp ?_
                        exact (Rep.sl _ _ _ _ _ _ _ _ he hcap' k2 k3 k4).mono (hstp.up hs)
                      · rename_i hroom
                        split at h
                        · rename_i hfit
                          simp only [Bool.and_eq_true, decide_eq_true_eq] at hfit
                          -- the old cells
                          have hold : ∀ W : World, W.heap = w.heap → (0 < len → o = eb.base + off) → (Builtin.firstCells sz len (.slice (some ⟨eb.b, o, none⟩) len cap)).run P W = .ok ⟨((seg c eb.base cs0.length).drop off).take (len * sz)⟩ W := by
                            intro W hW hoo
                            have hl2 : (((seg c eb.base cs0.length).drop off).take (len * sz)).length = len * sz := by
                              have : (seg c eb.base cs0.length).length = cs0.length := m5.1.1.symm
                              rw [List.length_take, List.length_drop, this]; omega
                            rcases Nat.eq_zero_or_pos len with h0 | h0
                            · subst h0
                              simp [Builtin.firstCells, loadCells, loadCellsFrom]
                            · have := run_loadCells_list (P := P) W ⟨eb.b, o, none⟩ (((seg c eb.base cs0.length).drop off).take (len * sz)) (fun j u hu => by
                                rw [add_plain, hoo h0]
                                rw [List.getElem?_take] at hu
                                split at hu
                                · rw [List.getElem?_drop] at hu
                                  have := seg_get hu
                                  simp only [World.cell?, hW, ho']
                                  simpa [Nat.add_assoc] using this
                                · cases hu)
                              rw [hl2] at this
                              simpa [Builtin.firstCells] using this
                          have hoo : 0 < len → o = eb.base + off := fun hp => k4 (by omega)
                          have grow : cap < len + k → ∃ w' e', (Builtin.append_ ts ty #[.slice (some ⟨eb.b, o, none⟩) len cap, vx]).run P w = .ok (.slice (some ⟨w.heap.size, 0, none⟩) (len + k) (grownCap w (len + k) cap el)) w' ∧
                              Stp w0 B e H w e' (H ++ [some (.cells ((cs0.drop off).take (len * sz) ++ cs) false)]) w' ∧ Rep w0 B e' (.sl H.length 0 (len + k) sz) (.slice (some ⟨w.heap.size, 0, none⟩) (len + k) (grownCap w (len + k) cap el)) := by
                            intro hgrow
                            have hrun := rappend_grow (P := P) (w := w) (ty := ty) (z := zv) (base := some ⟨eb.b, o, none⟩) (sLen := len) (sCap := cap) ht hts hu hn hb hb0 hzv hni hlen hfd (hold w.drew rfl hoo) hgrow hfit.2
                            have hge := grownCap_ge w (len + k) cap el
                            have hcold : CellsOk w0 B e ((cs0.drop off).take (len * sz)) (((seg c eb.base cs0.length).drop off).take (len * sz)) := (m5.drop off).take _
                            have hlo : (((seg c eb.base cs0.length).drop off).take (len * sz)).length = len * sz := by
                              have : (seg c eb.base cs0.length).length = cs0.length := m5.1.1.symm
                              rw [List.length_take, List.length_drop, this]; omega
                            obtain ⟨h1, h2⟩ := grown_ok (el := el) hs (hcold.append hcs') (Builtin.zeroCells zv.cells (grownCap w (len + k) cap el - (len + k))) rfl (len := len + k) (cap := grownCap w (len + k) cap el) (sz := sz) hge k2
                              (by rw [List.length_append, hlo, zeroCells_size, hzs, hnl', ← Nat.add_mul, ← Nat.add_mul]; congr 1; omega)
                            exact ⟨_, _, hrun, h1, h2⟩
                          split at h
                          · -- a row whose end is known
                            rename_i hex
                            cases h
                            have m6 := m3 hex
                            have hlt : cap * sz < (len + k) * sz := by omega
                            obtain ⟨w', e', hrun, h1, h2⟩ := grow (Nat.lt_of_mul_lt_mul_right hlt)
                            exact OpOk.val hrun h1 h2
                          · split at h
                            · rename_i hex hend
                              cases h
                              have hall : (cs0.drop off).take (len * sz) = cs0.drop off := by apply List.take_of_length_le; rw [List.length_drop]; omega
                              by_cases hcap : len + k ≤ cap
                              · -- written in place
                                have ho := k4 (by omega)
                                subst ho
                                have hsum : off + (len + k) * sz = off + len * sz + k * sz := by rw [Nat.add_mul, Nat.add_assoc]
                                have hcs2 : (len + k) * sz ≤ cap * sz := Nat.mul_le_mul_right _ hcap
                                have hst := rstoreCells (P := P) news 0 c w eb.b (eb.base + off + len * sz) elr fr ho' m4 (by omega) hcs.2
                                simp only [Nat.add_zero] at hst
                                rw [← add_plain eb.b (eb.base + off) (len * sz)] at hst
                                refine OpOk.val (rappend_room (sLen := len) ht hts hu hn hni hlen hf hcap hst)
                                  (Stp.renew hs hid he (eb' := ⟨eb.b, eb.base + off, eb.size⟩) rfl _ _ ?_ rfl rfl rfl rfl) ?_
                                · have hsize : (⟨c.toList.take (eb.base + off + len * sz) ++ news ++ c.toList.drop (eb.base + off + len * sz + news.length)⟩ : Array Value).size = c.size := by simp; omega
                                  have hlcs : (cs0.drop off ++ cs).length = (len + k) * sz := by
                                    have := hcs.1.1
                                    rw [List.length_append, List.length_drop]; omega
                                  refine ⟨by rw [hsize]; exact m1, by rw [hlcs]; simp only; omega, (fun h => by cases h), by rw [hsize]; exact m4, ?_⟩
                                  rw [hlcs]
                                  have hsp := seg_splice c.toList news (eb.base + off) (len * sz) ((len + k) * sz) (by omega) (by simp; omega)
                                  show CellsOk _ _ _ _ (seg _ (eb.base + off) ((len + k) * sz))
                                  unfold seg
                                  rw [hsp, List.take_take, Nat.min_eq_left (by omega), List.drop_eq_nil_of_le (as := (c.toList.drop (eb.base + off)).take ((len + k) * sz)) (i := len * sz + news.length) (by rw [List.length_take]; omega), List.append_nil]
                                  have hseg : (c.toList.drop (eb.base + off)).take (len * sz) = (seg c eb.base cs0.length).drop off := by
                                    unfold seg
                                    rw [List.drop_take, List.drop_drop]
                                    congr 1
                                    omega
                                  rw [hseg]
                                  exact ((m5.drop off).append hcs).mono (hs.put_up _)
                                · exact .sl _ _ _ _ _ cap ⟨eb.b, eb.base + off, eb.size⟩ _ (put_self _ _ _) hcap k2 (by simp only; omega) (fun _ => rfl)
                              · obtain ⟨w', e', hrun, h1, h2⟩ := grow (by omega)
                                rw [hall] at h1
                                have hk1 := Stp.kill h1.hs id
                                have hidl : id < H.length := hs.ge he
                                rw [List.set_append_left _ _ hidl] at hk1
                                exact OpOk.val hrun (h1.trans hk1) h2
                            · cases h
                        · cases h
                · cases h
            · cases h
          · cases h
      · cases h
    · split at h
      · rename_i ik hd
        exact appendZ_ok hs ht hts hu hd hvs hvx h
      · cases h
  · cases h
end
end Go.Ev
