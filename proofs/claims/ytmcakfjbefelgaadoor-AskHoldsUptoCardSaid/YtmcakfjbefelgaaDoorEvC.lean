/-
  AN OPERATION, A REGION IN ORDER (own work).
-/
import Derived.Test.YtmcakfjbefelgaaDoorEvB
import Derived.Test.YtmcakfjbefelgaaDoorEvA
import Derived.Orders
import Derived.LoopN
import Derived.Scope
import Derived.Carry
import Derived.OpenShut
import Derived.ProofKit
import Derived.Lib.LaidTab
import Derived.Deep.Slices
set_option linter.unusedSimpArgs false
set_option linter.unusedVariables false
namespace Go.Ev
open Go

section
variable {P : Program} {w0 : World} {B : Nat} {e : Emb} {H : Heap} {w : World} {Γ : Env} {call : CallF}

theorem put_tmps (a : Act) (d : Option Tmp) (v : Value) : (a.put d v).tmps.toList = match d with | some t => a.tmps.toList.set t v | none => a.tmps.toList := by
  cases d <;> simp [Act.put]
theorem put_def (a : Act) (d : Option Tmp) (v : Value) : (a.put d v).defers = a.defers := by
  cases d <;> rfl

theorem putS_ok {s : List V} {a : Act} (h : RepL w0 B e s a.tmps.toList) {v : V} {v' : Value} (k : Rep w0 B e v v') (d : Option Tmp) : RepL w0 B e (putS s d v) (a.put d v').tmps.toList := by
  rw [put_tmps]
  cases d with
  | none => exact h
  | some t => exact h.set k t

def OpDone (P : Program) (o : Oper) (a : Act) (w0 : World) (B : Nat) (e : Emb) (H : Heap) (w : World) (r : V × Heap) : Prop :=
  ∀ (next : Act → World → Prop) (Q : Exit → Act → World → Prop), (∀ v' w' e', Stp w0 B e H w e' r.2 w' → Rep w0 B e' r.1 v' → next (a.put o.dst v') w') → o.wp P a w next Q

theorem callFunc_run {g : Nat} (hc : Callable P g) (args : Array Value) : (callFunc g args).run P w = .ok (.enter g args) w := by
  obtain ⟨fn, hf, hb, hn⟩ := hc
  unfold callFunc
  have hn' : (fn.name == "runtime.NumGoroutine") = false := by simp [hn]
  have hb' : fn.body.isNone = false := by simpa using hb
  rw [Sem.run_bind, run_program, Result.andThen_ok, hf]
  simp only [hn', hb', Bool.false_eq_true, if_false, Sem.run_pure]

theorem op_ok (hc : CallOk P Γ call) (hg : GlobOk Γ w0 B) (hs : HS w0 B e H w) {s : List V} {a : Act} (hrep : RepL w0 B e s a.tmps.toList) {o : Oper} {r : V × Heap} (h : evOp P Γ call s H o.op = some r) :
    OpDone P o a w0 B e H w r := by
  intro next Q hk
  have key : evPlain P Γ s H o.op = some r → o.wp P a w next Q := fun h => by
    obtain ⟨v', w', e', hrun, hst, hr⟩ := plain_ok hg hs hrep h
    unfold Oper.wp
    rcases hrun with hrun | ⟨hrun, rfl⟩
    · rw [hrun]; exact hk _ _ _ hst hr
    · rw [hrun]; exact hk _ _ _ hst hr
  unfold evOp at h
  split at h
  · rename_i c hc'
    split at h
    · rename_i f hf
      unfold evCall at h
      rw [hf] at h
      simp only at h
      split at h
      · rename_i g x y hv
        have hfn := evOperand_ok hg hrep f
        rw [hv] at hfn
        have hargs := mapRep hg hrep c.args.toList
        generalize hfe : a.eval f = vf at hfn
        cases hfn with
        | fn _ _ _ _ x' y' hx hy hxr hyr =>
          have hall : RepL w0 B e (x ++ c.args.toList.map (evOperand Γ s) ++ y) (x' ++ c.args.toList.map a.eval ++ y') := (RepL.append ⟨hx, hxr⟩ hargs).append ⟨hy, hyr⟩
          have hat : CallAt P g (x' ++ c.args.toList.map a.eval ++ y') w0 B e H w r := by
            split at h
            · exact callPlain_ok hc hg hs hall h
            · exact callWide_ok hc hg hs hall h
          rcases hat with ⟨hcb, hcalls⟩ | ⟨v, w', hext, v2, e', hed, hst, hr⟩
          rotate_left
          · cases hed
            have hrun : ((do let d ← resolve a.eval c o.type; invoke d.target d.args) : Sem Next).run P w = .ok (.value v) w' := by
              unfold resolve
              rw [hf]
              have he : (⟨x'⟩ : Array Value) ++ (Array.map a.eval c.args ++ ⟨y'⟩) = ⟨x' ++ c.args.toList.map a.eval ++ y'⟩ := by apply Array.ext'; simp
              simp [hfe, Deferred.ofValue, invoke, he]
              simpa using hext
            unfold Oper.wp execOp
            rw [hc']
            simp only at hrun ⊢
            rw [hrun]
            exact hk _ _ _ hst hr
          unfold Oper.wp execOp
          rw [hc']
          have hrun : ((do let d ← resolve a.eval c o.type; invoke d.target d.args) : Sem Next).run P w = .ok (.enter g ⟨x' ++ c.args.toList.map a.eval ++ y'⟩) w := by
            unfold resolve
            rw [hf]
            simp [hfe, Deferred.ofValue, invoke, callFunc_run hcb]
          have hrun2 := hrun
          simp only at hrun2 ⊢
          rw [hrun2, Oper.upon_enter]
          refine hcalls.mono fun ed w' hp => ?_
          obtain ⟨v, e', rfl, hst, hr⟩ := hp
          exact hk _ _ _ hst hr
      · cases h
    · rw [hc'] at key; exact key h
  · exact key h

theorem wanted_ok {ops : Array Oper} {s : List V} {a : Act} (hrep : RepL w0 B e s a.tmps.toList) {o : Oper} {b : Bool} (h : wantedV ops.toList s o = some b) :
    Region.wanted o (yielded ops a.tmps) = b := by
  unfold wantedV at h
  unfold Region.wanted
  split at h
  · cases h; simp [*]
  · rename_i j want hj
    split at h
    · rename_i d hd
      rw [hj]
      have hd' : (ops[j]?).bind (·.dst) = some d := by simpa using hd
      have hr := getS_ok hrep d
      simp only [yielded, hd', Option.bind_some]
      have hget : ∀ v, (⟨a.tmps.toList⟩ : Array Value).getD d undef = v → v ≠ undef → a.tmps[d]? = some v := by
        intro v hv hne
        rw [Array.getD_eq_getD_getElem?] at hv
        cases hx : a.tmps[d]? with
        | none => rw [show (⟨a.tmps.toList⟩ : Array Value) = a.tmps from rfl, hx] at hv; exact absurd hv.symm hne
        | some y => rw [show (⟨a.tmps.toList⟩ : Array Value) = a.tmps from rfl, hx] at hv; simpa using hv
      split at h
      · rename_i t ht
        rw [ht] at hr
        generalize hv : (⟨a.tmps.toList⟩ : Array Value).getD d undef = vv at hr
        cases hr
        rw [hget _ hv (by simp [undef])]
        cases h
        rfl
      · rename_i ht
        rw [ht] at hr
        generalize hv : (⟨a.tmps.toList⟩ : Array Value).getD d undef = vv at hr
        cases hr with
        | tup _ _ a' ha _ =>
          cases h
          have ha' : a' = [] := by cases a' with
            | nil => rfl
            | cons x l => simp at ha
          subst ha'
          rw [Array.getD_eq_getD_getElem?] at hv
          cases hx : a.tmps[d]? with
          | none => rfl
          | some y => rw [show (⟨a.tmps.toList⟩ : Array Value) = a.tmps from rfl, hx] at hv; simp at hv; subst hv; rfl
      · cases h
    · cases h

theorem ops_ok (hc : CallOk P Γ call) (hg : GlobOk Γ w0 B) {ops : Array Oper} {Q : Exit → Act → World → Prop} : ∀ (rest : List Oper) (i : Nat) (s : List V) (H : Heap) (e : Emb) (a : Act) (w : World) (r : List V × Heap),
    ops.toList.drop i = rest → HS w0 B e H w → RepL w0 B e s a.tmps.toList → evOpsGo P Γ call ops.toList rest s H = some r →
    (∀ a' w' e', Stp w0 B e H w e' r.2 w' → RepL w0 B e' r.1 a'.tmps.toList → a'.defers = a.defers → Q .normal a' w') →
    wpOps P ops Q (List.range' i (ops.size - i)) a w
  | [], i, s, H, e, a, w, r, hd, hs, hrep, h, hQ => by
    have hi : ops.size ≤ i := by simpa using hd
    rw [show ops.size - i = 0 by omega]
    simp only [evOpsGo, Option.some.injEq] at h
    subst h
    exact hQ a w e (Stp.refl hs) hrep rfl
  | o :: rest, i, s, H, e, a, w, r, hd, hs, hrep, h, hQ => by
    have hi : i < ops.size := by
      rcases Nat.lt_or_ge i ops.size with h | h
      · exact h
      · rw [List.drop_eq_nil_of_le (by simpa using h)] at hd; cases hd
    have ho : ops[i]? = some o := by
      have := congrArg List.head? hd
      simpa [List.head?_drop] using this
    have hrest : ops.toList.drop (i + 1) = rest := by
      have := congrArg List.tail hd
      simpa using this
    rw [show ops.size - i = (ops.size - (i + 1)) + 1 by omega, List.range'_succ]
    simp only [wpOps, ho]
    simp only [evOpsGo] at h
    split at h
    · rename_i hw
      rw [wanted_ok hrep hw]
      split at h
      · rename_i v H' hop
        left
        refine op_ok hc hg hs hrep hop _ _ fun v' w' e' hst hr => ?_
        refine ops_ok hc hg rest (i + 1) _ _ e' _ w' r hrest hst.hs (putS_ok (hrep.mono (hst.up hs) hst.fup) hr _) h fun a2 w2 e2 hst2 hr2 hd2 => ?_
        exact hQ a2 w2 e2 (hst.trans hst2) hr2 (by rw [hd2, put_def])
      · cases h
    · rename_i hw
      rw [wanted_ok hrep hw]
      simp only [Bool.false_eq_true, if_false]
      refine ops_ok hc hg rest (i + 1) _ _ e _ w r hrest hs (putS_ok hrep undef_ok _) h fun a2 w2 e2 hst2 hr2 hd2 => ?_
      exact hQ a2 w2 e2 hst2 hr2 (by rw [hd2, put_def])
    · cases h

def RegOk (P : Program) (Γ : Env) (call : CallF) : Prop := ∀ (ops : Array Oper) (draw : Bool) (s : List V) (H : Heap) (r : List V × Heap), evRegion P Γ call ops.toList draw s H = some r →
  ∀ (w0 : World) (B : Nat) (e : Emb) (w : World) (a : Act) (id : Nat) (Q : Exit → Act → World → Prop), GlobOk Γ w0 B → HS w0 B e H w → RepL w0 B e s a.tmps.toList →
    (∀ a' w' e', Stp w0 B e H w e' r.2 w' → RepL w0 B e' r.1 a'.tmps.toList → a'.defers = a.defers → Q .normal a' w') → (Code.region id ops draw).wp P Q a w

theorem straight_ok (hc : CallOk P Γ call) {ops : Array Oper} {s : List V} {H : Heap} {r : List V × Heap} (h : evOpsGo P Γ call ops.toList ops.toList s H = some r)
    (w0 : World) (B : Nat) (e : Emb) (w : World) (a : Act) (id : Nat) (Q : Exit → Act → World → Prop) (hg : GlobOk Γ w0 B) (hs : HS w0 B e H w) (hrep : RepL w0 B e s a.tmps.toList)
    (hQ : ∀ a' w' e', Stp w0 B e H w e' r.2 w' → RepL w0 B e' r.1 a'.tmps.toList → a'.defers = a.defers → Q .normal a' w') : (Code.region id ops false).wp P Q a w := by
  refine wp_region ?_
  rw [List.range_eq_range']
  exact ops_ok hc hg ops.toList 0 s H e a w r rfl hs hrep h hQ
end
end Go.Ev

/-
  CODE AND FUNCTIONS (own work).
-/
set_option linter.unusedSimpArgs false
set_option linter.unusedVariables false
namespace Go.Ev
open Go

section
variable {P : Program} {w0 : World} {B : Nat} {e : Emb} {H : Heap} {w : World} {Γ : Env} {call : CallF}

def keepE (m : Nat) (L : List Nat) (e : Emb) : Emb := ⟨fun id => if id < m then e id else (L[id - m]?).bind e.loc, e.frz⟩
theorem keepE_at (m : Nat) (L : List Nat) (e : Emb) (id : Nat) : keepE m L e id = if id < m then e id else (L[id - m]?).bind e.loc := rfl

/-- What a list of places has: numbers at or above m, and no block twice. -/
def PlaceOk (m : Nat) (H : Heap) (L : List Nat) : Prop := (∀ id ∈ L, m ≤ id) ∧ ∀ (i j id : Nat) (b : Blk), L[i]? = some id → L[j]? = some id → H[id]? = some (some b) → i = j

theorem PlaceOk.pad {m : Nat} {H : Heap} {L : List Nat} (hm : m ≤ H.length) (h : PlaceOk m H L) : PlaceOk m H (L ++ [H.length]) := by
  have key : ∀ (i id : Nat) (b : Blk), (L ++ [H.length])[i]? = some id → H[id]? = some (some b) → L[i]? = some id := by
    intro i id b hi hb
    rcases Nat.lt_or_ge i L.length with hl | hg
    · rwa [List.getElem?_append_left hl] at hi
    · rw [List.getElem?_append_right hg] at hi
      have h0 : i - L.length = 0 := by
        rcases Nat.eq_zero_or_pos (i - L.length) with h0 | h0
        · exact h0
        · rw [List.getElem?_eq_none (by simp; omega)] at hi; cases hi
      rw [h0] at hi
      simp at hi
      subst hi
      simp at hb
  refine ⟨fun id hid => ?_, fun i j id b hi hj hb => h.2 i j id b (key i id b hi hb) (key j id b hj hb) hb⟩
  rcases List.mem_append.1 hid with hx | hx
  · exact h.1 id hx
  · simp at hx; omega

theorem PlaceOk.add {m : Nat} {H : Heap} {L : List Nat} {x : Nat} (hx : m ≤ x) (hn : ¬ L.contains x) (h : PlaceOk m H L) : PlaceOk m H (L ++ [x]) := by
  have hn' : x ∉ L := by simpa using hn
  have key : ∀ (i id : Nat), (L ++ [x])[i]? = some id → (i < L.length ∧ L[i]? = some id ∧ id ≠ x) ∨ (i = L.length ∧ id = x) := by
    intro i id hi
    rcases Nat.lt_or_ge i L.length with hl | hg
    · rw [List.getElem?_append_left hl] at hi
      exact .inl ⟨hl, hi, fun hxx => hn' (hxx ▸ List.mem_of_getElem? hi)⟩
    · rw [List.getElem?_append_right hg] at hi
      have h0 : i - L.length = 0 := by
        rcases Nat.eq_zero_or_pos (i - L.length) with h0 | h0
        · exact h0
        · rw [List.getElem?_eq_none (by simp; omega)] at hi; cases hi
      rw [h0] at hi
      simp at hi
      exact .inr ⟨by omega, hi.symm⟩
  refine ⟨fun id hid => ?_, fun i j id b hi hj hb => ?_⟩
  · rcases List.mem_append.1 hid with hy | hy
    · exact h.1 id hy
    · simp at hy; omega
  · rcases key i id hi with ⟨_, a, a'⟩ | ⟨a, a'⟩ <;> rcases key j id hj with ⟨_, c, c'⟩ | ⟨c, c'⟩
    · exact h.2 i j id b a c hb
    · exact absurd c' a'
    · exact absurd a' c'
    · omega

theorem place_spec (m : Nat) (H : Heap) (hm : m ≤ H.length) : ∀ (k : Nat) (todo : List (Option Nat)) (seen : List Nat), PlaceOk m H seen → PlaceOk m H (place m H k todo seen)
  | 0, todo, seen, h => by simp only [place]; exact h
  | k + 1, [], seen, h => by simp only [place]; exact h
  | k + 1, none :: todo, seen, h => by simp only [place]; exact place_spec m H hm k todo _ (h.pad hm)
  | k + 1, some id :: todo, seen, h => by
    simp only [place]
    split
    · exact place_spec m H hm k todo _ (h.pad hm)
    · rename_i hlt
      split
      · exact place_spec m H hm k todo _ (h.pad hm)
      · rename_i hc
        split
        · exact place_spec m H hm k _ _ (h.add (by omega) hc)
        · exact place_spec m H hm k todo _ (h.pad hm)

theorem placeOk_nil (m : Nat) (H : Heap) : PlaceOk m H [] := ⟨fun id h => by simp at h, fun i j id b h => by simp at h⟩

theorem keep_ok {e0 : Emb} {H0 : Heap} {ws : World} (h : Stp w0 B e0 H0 ws e H w) {L : List Nat} (hP : PlaceOk H0.length H L) :
    Stp w0 B e0 H0 ws (keepE H0.length L e) (keepHeap H0.length L H) w ∧ ∀ id j eb, keepOf H0.length L id = some j → e id = some eb → keepE H0.length L e j = some eb := by
  have hren : ∀ id j eb, keepOf H0.length L id = some j → e id = some eb → keepE H0.length L e j = some eb := by
    intro id j eb hj he
    unfold keepOf at hj
    rw [keepE_at]
    split at hj
    · cases hj; rw [if_pos (by assumption)]; exact he
    · obtain ⟨i, hi, rfl⟩ := Option.map_eq_some_iff.1 hj
      rw [if_neg (by omega), Nat.add_sub_cancel_left, indexIn_get hi]
      exact he
  refine ⟨?_, hren⟩
  have hmle := h.len
  have hlenK : (keepHeap H0.length L H).length = H0.length + L.length := by
    unfold keepHeap
    simp only [List.length_append, List.length_map, List.length_take]
    omega
  have hget : ∀ (id : Nat) (k : Blk), (keepHeap H0.length L H)[id]? = some (some k) → ∃ (src : Nat) (k0 : Blk), (id < H0.length ∧ src = id ∨ H0.length ≤ id ∧ H0.length ≤ src ∧ L[id - H0.length]? = some src) ∧ H[src]? = some (some k0) ∧ k = k0.ren (keepOf H0.length L) ∧ keepE H0.length L e id = e src := by
    intro id k hk
    unfold keepHeap at hk
    have hl1 : ((H.take H0.length).map (fun b => b.map (Blk.ren (keepOf H0.length L)))).length = H0.length := by
      simp only [List.length_map, List.length_take]; omega
    rcases Nat.lt_or_ge id H0.length with hl | hge
    · rw [List.getElem?_append_left (by omega), List.getElem?_map, List.getElem?_take, if_pos hl] at hk
      cases hH : H[id]? with
      | none => rw [hH] at hk; cases hk
      | some o =>
        rw [hH] at hk
        simp only [Option.map_some, Option.some.injEq] at hk
        obtain ⟨k0, rfl, hk0⟩ := renB_get hk
        exact ⟨id, k0, .inl ⟨hl, rfl⟩, hH, hk0, by rw [keepE_at]; rw [if_pos hl]⟩
    · rw [List.getElem?_append_right (by omega), hl1, List.getElem?_map] at hk
      cases hL : L[id - H0.length]? with
      | none => rw [hL] at hk; cases hk
      | some src =>
        rw [hL] at hk
        simp only [Option.map_some, Option.some.injEq] at hk
        obtain ⟨k0, h1, h2⟩ := renB_get hk
        have hm := hP.1 src (List.mem_of_getElem? hL)
        refine ⟨src, k0, .inr ⟨hge, hm, rfl⟩, ?_, h2, by rw [keepE_at]; rw [if_neg (by omega), hL]; rfl⟩
        rw [List.getD_eq_getElem?_getD] at h1
        cases hH : H[src]? with
        | none => rw [hH] at h1; cases h1
        | some o => rw [hH] at h1; simp at h1; rw [h1]
  refine ⟨⟨h.hs.old, h.hs.szB, fun id eb he => ?_, fun id k hk => ?_, fun i j bi bj ei ej hi hj h1 h2 h3 => ?_, h.hs.frz, fun id k eb hk he => ?_⟩, fun id hid => ?_, by omega, fun id b hid hb => ?_, fun id eb hid he => ?_, h.frame, h.size, h.os, h.tape, h.output, h.fup, h.fnew, h.drawn⟩
  · rw [hlenK]
    rw [keepE_at] at he
    split at he
    · have := h.hs.dom id eb he; exact ⟨by omega, this.2⟩
    · obtain ⟨src, h1, h2⟩ := Option.bind_eq_some_iff.1 he
      have := h.hs.dom src eb h2
      have := (List.getElem?_eq_some_iff.1 h1).1
      exact ⟨by omega, by omega, by omega⟩
  · obtain ⟨src, k0, _, h2, rfl, h4⟩ := hget id k hk
    obtain ⟨eb, o, he, ho, hok⟩ := h.hs.live src k0 h2
    exact ⟨eb, o, by rw [h4]; exact he, ho, hok.ren hren⟩
  · obtain ⟨a, ka, a1, a2, _, a4⟩ := hget i bi hi
    obtain ⟨b, kb, b1, b2, _, b4⟩ := hget j bj hj
    rw [a4] at h1
    rw [b4] at h2
    have := h.hs.inj a b ka kb ei ej a2 b2 h1 h2 h3
    subst this
    rcases a1 with ⟨a1, rfl⟩ | ⟨a1, a3, a5⟩ <;> rcases b1 with ⟨b1, rfl⟩ | ⟨b1, b3, b5⟩
    · rfl
    · omega
    · omega
    · have := hP.2 _ _ _ _ a5 b5 a2
      omega
  · show e.frz eb.b = none
    obtain ⟨src, k0, _, h2, _, h4⟩ := hget id k hk
    rw [h4] at he
    exact h.hs.frl src k0 eb h2 he
  · rw [keepE_at]; rw [if_pos hid]; exact h.ext id hid
  · obtain ⟨src, k0, h1, h2, _⟩ := hget id b hb
    rcases h1 with ⟨_, rfl⟩ | ⟨h1, _⟩
    · exact h.alive _ _ hid h2
    · omega
  · rw [keepE_at] at he
    rw [if_neg (by omega)] at he
    obtain ⟨src, h1, h2⟩ := Option.bind_eq_some_iff.1 he
    exact h.new src eb (hP.1 src (List.mem_of_getElem? h1)) h2

theorem topPlace_spec (m : Nat) (H : Heap) (hm : m ≤ H.length) : ∀ (k : Nat) (todo : List (Option Nat)) (seen : List Nat), PlaceOk m H seen → PlaceOk m H (topPlace m H k todo seen)
  | 0, _, seen, h => by simp only [topPlace]; exact h
  | _ + 1, [], seen, h => by simp only [topPlace]; exact h
  | k + 1, none :: todo, seen, h => by simp only [topPlace]; exact topPlace_spec m H hm k todo _ (h.pad hm)
  | k + 1, some id :: todo, seen, h => by
    simp only [topPlace]
    split
    · exact topPlace_spec m H hm k todo _ (h.pad hm)
    · rename_i hlt
      split
      · exact topPlace_spec m H hm k todo _ (h.pad hm)
      · rename_i hc
        split
        · exact topPlace_spec m H hm k _ _ (h.add (by omega) hc)
        · exact topPlace_spec m H hm k _ _ (h.add (by omega) hc)
        · exact topPlace_spec m H hm k todo _ (h.pad hm)

theorem BlkOk.mapV {e1 : Emb} {f : V → V} (hf : ∀ v x, Rep w0 B e v x → Rep w0 B e1 (f v) x) {k : Blk} {eb : EB} {o : Obj} (h : BlkOk w0 B e k eb o) : BlkOk w0 B e1 (k.mapV f) eb o := by
  cases k <;> cases o <;> simp only [BlkOk, Blk.mapV] at h ⊢
  · simp only [List.length_map]
    refine ⟨h.1, h.2.1, h.2.2.1, h.2.2.2.1, ⟨by simpa using h.2.2.2.2.1.1, fun j h1 h2 => ?_⟩, h.2.2.2.2.2⟩
    rw [List.getElem_map]
    exact hf _ _ (h.2.2.2.2.1.2 j (by simpa using h1) h2)
  · refine ⟨h.1, by simpa using h.2.1, fun j h1 h2 => ?_⟩
    have := h.2.2 j (by simpa using h1) h2
    simp only [List.getElem_map]
    exact ⟨hf _ _ this.1, hf _ _ this.2.1, this.2.2⟩
  · exact h

/-- The blocks that nobody keeps never turn again. -/
def FrozenBy (m : Nat) (L : List Nat) (e : Emb) (H : Heap) (b : Nat) : Prop := ∃ id k eb, H[id]? = some (some k) ∧ keptB m L id = false ∧ e id = some eb ∧ eb.b = b
open Classical in
noncomputable def coldE (m : Nat) (L : List Nat) (e : Emb) (H : Heap) (w : World) : Emb := ⟨(keepE m L e).loc, fun b => if FrozenBy m L e H b then w.heap[b]? else e.frz b⟩
theorem coldE_at (m : Nat) (L : List Nat) (e : Emb) (H : Heap) (w : World) (id : Nat) : coldE m L e H w id = if id < m then e id else (L[id - m]?).bind e.loc := rfl
open Classical in
theorem coldE_frz (m : Nat) (L : List Nat) (e : Emb) (H : Heap) (w : World) (b : Nat) : (coldE m L e H w).frz b = if FrozenBy m L e H b then w.heap[b]? else e.frz b := rfl

theorem cold_ok {e0 : Emb} {H0 : Heap} {ws : World} (h : Stp w0 B e0 H0 ws e H w) {L : List Nat} (hP : PlaceOk H0.length H L) :
    Stp w0 B e0 H0 ws (coldE H0.length L e H w) (coldHeap H0.length L H) w ∧ ∀ v x, Rep w0 B e v x → Rep w0 B (coldE H0.length L e H w) (coldV H0.length L H v) x := by
  have hz : ∀ b o, e.frz b = some o → (coldE H0.length L e H w).frz b = some o := fun b o hb => by
    rw [coldE_frz]
    split
    · exact h.hs.frz b o hb
    · exact hb
  have hren : ∀ id j eb, keepOf H0.length L id = some j → e id = some eb → coldE H0.length L e H w j = some eb := (keep_ok h hP).2
  have hl : ∀ id k eb, keptB H0.length L id = false → H[id]? = some (some k) → e id = some eb → ∀ o, w.heap[eb.b]? = some o → known w0 B (coldE H0.length L e H w) eb.b = some o := fun id k eb h1 h2 h3 o h4 => by
    unfold known
    rw [if_neg (by have := (h.hs.dom id eb h3).2.1; omega), coldE_frz, if_pos ⟨id, k, eb, h2, h1, h3, rfl⟩]
    exact h4
  have bareUp : ∀ {v x}, Rep w0 B (coldE H0.length L e H w).bare v x → Rep w0 B (coldE H0.length L e H w) v x := fun hr => hr.mono (fun _ _ hb => by cases hb)
  have hV : ∀ v x, Rep w0 B e v x → Rep w0 B (coldE H0.length L e H w) (coldV H0.length L H v) x := by
    intro v x hr
    unfold coldV
    refine Rep.sub (known_frz hz) (fun id off v hv => ?_) (fun id off len sz v hv => ?_) (fun id v hv => ?_) hr
    · split
      · exact Rep.ren hren hv hz
      · rename_i hk
        exact bareUp (snapK_ok h.hs (known_frz hz) hl 4 hv)
    · split
      · exact Rep.ren hren hv hz
      · exact bareUp (snapK_ok h.hs (known_frz hz) hl 4 hv)
    · split
      · exact Rep.ren hren hv hz
      · exact bareUp (snapK_ok h.hs (known_frz hz) hl 4 hv)
  refine ⟨?_, hV⟩
  have hmle := h.len
  have hlenK : (coldHeap H0.length L H).length = H0.length + L.length := by
    unfold coldHeap
    simp only [List.length_append, List.length_map, List.length_take]
    omega
  have hget : ∀ (id : Nat) (k : Blk), (coldHeap H0.length L H)[id]? = some (some k) → ∃ (src : Nat) (k0 : Blk), (id < H0.length ∧ src = id ∨ H0.length ≤ id ∧ H0.length ≤ src ∧ L[id - H0.length]? = some src) ∧ H[src]? = some (some k0) ∧ k = k0.mapV (coldV H0.length L H) ∧ coldE H0.length L e H w id = e src ∧ keptB H0.length L src = true := by
    intro id k hk
    unfold coldHeap at hk
    have hl1 : ((H.take H0.length).map (Option.map (Blk.mapV (coldV H0.length L H)))).length = H0.length := by
      simp only [List.length_map, List.length_take]; omega
    rcases Nat.lt_or_ge id H0.length with hl | hge
    · rw [List.getElem?_append_left (by omega), List.getElem?_map, List.getElem?_take, if_pos hl] at hk
      cases hH : H[id]? with
      | none => rw [hH] at hk; cases hk
      | some o =>
        rw [hH] at hk
        simp only [Option.map_some, Option.some.injEq] at hk
        obtain ⟨k0, rfl, hk0⟩ := Option.map_eq_some_iff.1 hk
        exact ⟨id, k0, .inl ⟨hl, rfl⟩, hH, hk0.symm, by rw [coldE_at, if_pos hl], by simp [keptB, hl]⟩
    · rw [List.getElem?_append_right (by omega), hl1, List.getElem?_map] at hk
      cases hL : L[id - H0.length]? with
      | none => rw [hL] at hk; cases hk
      | some src =>
        rw [hL] at hk
        simp only [Option.map_some, Option.some.injEq] at hk
        obtain ⟨k0, h1, h2⟩ := Option.map_eq_some_iff.1 hk
        have hm := hP.1 src (List.mem_of_getElem? hL)
        refine ⟨src, k0, .inr ⟨hge, hm, rfl⟩, ?_, h2.symm, by rw [coldE_at, if_neg (by omega), hL]; rfl, by simp [keptB, List.mem_of_getElem? hL]⟩
        rw [List.getD_eq_getElem?_getD] at h1
        cases hH : H[src]? with
        | none => rw [hH] at h1; cases h1
        | some o => rw [hH] at h1; simp at h1; rw [h1]
  refine ⟨⟨h.hs.old, h.hs.szB, fun id eb he => ?_, fun id k hk => ?_, fun i j bi bj ei ej hi hj h1 h2 h3 => ?_, fun b o hb => ?_, fun id k eb hk he => ?_⟩, fun id hid => ?_, by omega, fun id b hid hb => ?_, fun id eb hid he => ?_, h.frame, h.size, h.os, h.tape, h.output, fun b o hb => hz b o (h.fup b o hb), fun b o hb => ?_, h.drawn⟩
  · rw [hlenK]
    rw [coldE_at] at he
    split at he
    · have := h.hs.dom id eb he; exact ⟨by omega, this.2⟩
    · obtain ⟨src, h1, h2⟩ := Option.bind_eq_some_iff.1 he
      have := h.hs.dom src eb h2
      have := (List.getElem?_eq_some_iff.1 h1).1
      exact ⟨by omega, by omega, by omega⟩
  · obtain ⟨src, k0, _, h2, rfl, h4, _⟩ := hget id k hk
    obtain ⟨eb, o, he, ho, hok⟩ := h.hs.live src k0 h2
    exact ⟨eb, o, by rw [h4]; exact he, ho, hok.mapV hV⟩
  · obtain ⟨a, ka, a1, a2, _, a4, _⟩ := hget i bi hi
    obtain ⟨b, kb, b1, b2, _, b4, _⟩ := hget j bj hj
    rw [a4] at h1
    rw [b4] at h2
    have := h.hs.inj a b ka kb ei ej a2 b2 h1 h2 h3
    subst this
    rcases a1 with ⟨a1, rfl⟩ | ⟨a1, a3, a5⟩ <;> rcases b1 with ⟨b1, rfl⟩ | ⟨b1, b3, b5⟩
    · rfl
    · omega
    · omega
    · have := hP.2 _ _ _ _ a5 b5 a2
      omega
  · rw [coldE_frz] at hb
    split at hb
    · exact hb
    · exact h.hs.frz b o hb
  · obtain ⟨src, k0, _, h2, _, h4, h5⟩ := hget id k hk
    rw [h4] at he
    rw [coldE_frz, if_neg]
    · exact h.hs.frl src k0 eb h2 he
    · rintro ⟨id', k', eb', g1, g2, g3, g4⟩
      have := h.hs.inj id' src k' k0 eb' eb g1 h2 g3 he g4
      subst this
      rw [h5] at g2; cases g2
  · rw [coldE_at, if_pos hid]; exact h.ext id hid
  · obtain ⟨src, k0, h1, h2, _⟩ := hget id b hb
    rcases h1 with ⟨_, rfl⟩ | ⟨h1, _⟩
    · exact h.alive _ _ hid h2
    · omega
  · rw [coldE_at] at he
    rw [if_neg (by omega)] at he
    obtain ⟨src, h1, h2⟩ := Option.bind_eq_some_iff.1 he
    exact h.new src eb (hP.1 src (List.mem_of_getElem? h1)) h2
  · rw [coldE_frz] at hb
    split at hb
    · rename_i hF
      obtain ⟨id, k, eb, g1, g2, g3, g4⟩ := hF
      simp only [keptB, Bool.or_eq_false_iff, decide_eq_false_iff_not] at g2
      rcases h.new id eb (by omega) g3 with g | ⟨i, bi, ei, i1, i2, i3⟩
      · right; left; omega
      · right; right; exact ⟨i, bi, ei, i1, i2, by omega⟩
    · exact h.fnew b o hb

/-- Where an activation stands. -/
def Inv (w0 : World) (B : Nat) (e0 : Emb) (H0 : Heap) (ws : World) (s : List V) (H : Heap) (a : Act) (w : World) : Prop :=
  ∃ e, Stp w0 B e0 H0 ws e H w ∧ RepL w0 B e s a.tmps.toList ∧ a.defers = []

theorem keepLive_ok {l : List Nat} {s : List V} {t : List Value} (h : RepL w0 B e s t) : RepL w0 B e (keepLive l s) t := by
  refine ⟨by simp [keepLive, h.1], fun j h1 h2 => ?_⟩
  simp only [keepLive, List.getElem_mapIdx]
  split
  · exact h.2 j (by simpa [keepLive] using h1) h2
  · exact .junk _ _

theorem tidy_ok {e0 : Emb} {H0 : Heap} {ws : World} {s : List V} {a : Act} (h : Inv w0 B e0 H0 ws s H a w) (f id : Nat) :
    Inv w0 B e0 H0 ws (tidy Γ f H0.length id s H).1 (tidy Γ f H0.length id s H).2 a w := by
  unfold tidy
  split
  · exact h
  · rename_i l hl
    obtain ⟨e, hst, hr, hd⟩ := h
    dsimp only
    split
    · exact ⟨e, hst, keepLive_ok hr, hd⟩
    split
    · obtain ⟨h1, h2⟩ := cold_ok hst (topPlace_spec H0.length H hst.len fuelR (leavesL (keepLive l s)) [] (placeOk_nil _ _))
      refine ⟨_, h1, ?_, hd⟩
      have hk := keepLive_ok (l := l) hr
      exact ⟨by simpa using hk.1, fun j h3 h4 => by rw [List.getElem_map]; exact h2 _ _ (hk.2 j (by simpa using h3) h4)⟩
    obtain ⟨h1, h2⟩ := keep_ok hst (place_spec H0.length H hst.len fuelR (rootLeaves H0.length H ++ leavesL (keepLive l s)) [] (placeOk_nil _ _))
    exact ⟨_, h1, by dsimp only; rw [renL_eq]; exact (keepLive_ok hr).ren h2, hd⟩

def ExOk : Ex → Exit → Prop
  | .normal, e => e = .normal
  | .exit id, e => e = .exit id
  | .ret, e => e = .ret

def Post (w0 : World) (B : Nat) (e0 : Emb) (H0 : Heap) (ws : World) (r : Ex × List V × Heap) : Exit → Act → World → Prop :=
  fun x a w => ExOk r.1 x ∧ Inv w0 B e0 H0 ws r.2.1 r.2.2 a w

theorem code_ok (hr : RegOk P Γ call) (hg : GlobOk Γ w0 B) {e0 : Emb} {H0 : Heap} {ws : World} {n f : Nat} : ∀ (c : Code) (s : List V) (H : Heap) (r : Ex × List V × Heap), evCode P Γ call n f H0.length c s H = some r →
    ∀ (a : Act) (w : World), Inv w0 B e0 H0 ws s H a w → c.wp P (Post w0 B e0 H0 ws r) a w := by
  intro c
  induction c with
  | skip => intro s H r h a w hi; simp only [evCode, Option.some.injEq] at h; subst h; exact wp_skip ⟨rfl, hi⟩
  | region id ops draw =>
    intro s H r h a w hi
    simp only [evCode] at h
    split at h
    · rename_i s' H' hreg
      cases h
      obtain ⟨e, hst, hrep, hd⟩ := hi
      refine hr ops draw s H _ hreg w0 B e w a id _ hg hst.hs hrep fun a' w' e' hst' hrep' hd' => ⟨rfl, e', hst.trans hst', hrep', by rw [hd', hd]⟩
    · cases h
  | seq x y ihx ihy =>
    intro s H r h a w hi
    simp only [evCode] at h
    refine wp_seq ?_
    split at h
    · rename_i s' H' hx
      refine wp_mono (ihx s H _ hx a w hi) fun ex a' w' hp => ?_
      obtain ⟨h1, h2⟩ := hp
      cases h1
      exact ihy _ _ _ h _ _ h2
    · rename_i hne
      cases hx : evCode P Γ call n f H0.length x s H with
      | none => rw [hx] at h; cases h
      | some q =>
        obtain ⟨ex, s', H'⟩ := q
        rw [hx] at h
        cases h
        refine wp_mono (ihx s H _ hx a w hi) fun ex' a' w' hp => ?_
        obtain ⟨h1, h2⟩ := hp
        cases ex with
        | normal => exact absurd hx (hne _ _)
        | exit id => cases h1; exact ⟨rfl, h2⟩
        | ret => cases h1; exact ⟨rfl, h2⟩
  | cond c x y ihx ihy =>
    intro s H r h a w hi
    simp only [evCode] at h
    obtain ⟨e, hst, hrep, hd⟩ := hi
    have hc := evOperand_ok hg hrep c
    split at h
    · rename_i t ht
      rw [ht] at hc
      generalize hv : a.eval c = v at hc
      cases hc
      refine wp_cond hv ?_
      cases t
      · exact ihy s H r h a w ⟨e, hst, hrep, hd⟩
      · exact ihx s H r h a w ⟨e, hst, hrep, hd⟩
    · cases h
  | block id c ih =>
    intro s H r h a w hi
    simp only [evCode] at h
    refine wp_block ?_
    split at h
    · rename_i j s' H' hx
      refine wp_mono (ih s H _ hx a w hi) fun ex a' w' hp => ?_
      obtain ⟨h1, h2⟩ := hp
      cases h1
      simp only [Exit.inBlock]
      split at h
      · rename_i hj
        cases h
        rw [if_pos hj]
        exact ⟨rfl, h2⟩
      · rename_i hj
        cases h
        rw [if_neg hj]
        exact ⟨rfl, h2⟩
    · rename_i hne
      refine wp_mono (ih s H _ h a w hi) fun ex a' w' hp => ?_
      obtain ⟨h1, h2⟩ := hp
      obtain ⟨ex', s', H'⟩ := r
      cases ex' with
      | normal => cases h1; exact ⟨rfl, h2⟩
      | exit id => exact absurd h (hne _ _ _)
      | ret => cases h1; exact ⟨rfl, h2⟩
  | loop c ih =>
    intro s H r h a w hi
    simp only [evCode] at h
    refine wp_loop_rounds n ?_
    suffices hk : ∀ (k : Nat) (s : List V) (H : Heap), evLoop (fun s H => evCode P Γ call n f H0.length c (tidy Γ f H0.length (firstRegion c) s H).1 (tidy Γ f H0.length (firstRegion c) s H).2) k s H = some r →
        ∀ (a : Act) (w : World), Inv w0 B e0 H0 ws s H a w → Code.rounds P c (Post w0 B e0 H0 ws r) k a w from hk n s H h a w hi
    intro k
    induction k with
    | zero => intro s H h; simp [evLoop] at h
    | succ k ihk =>
      intro s H h a w hi
      simp only [evLoop] at h
      rw [rounds_succ]
      have hi' := tidy_ok (Γ := Γ) hi f (firstRegion c)
      split at h
      · rename_i s' H' hx
        refine wp_mono (ih _ _ _ hx a w hi') fun ex a' w' hp => ?_
        obtain ⟨h1, h2⟩ := hp
        cases h1
        exact ihk _ _ h _ _ h2
      · rename_i hne
        refine wp_mono (ih _ _ _ h a w hi') fun ex a' w' hp => ?_
        obtain ⟨h1, h2⟩ := hp
        obtain ⟨ex', s', H'⟩ := r
        cases ex' with
        | normal => exact absurd h (hne _ _)
        | exit id => cases h1; exact ⟨rfl, h2⟩
        | ret => cases h1; exact ⟨rfl, h2⟩
  | rangeFunc => intro s H r h; simp [evCode] at h
  | exit id => intro s H r h a w hi; simp only [evCode, Option.some.injEq] at h; subst h; exact wp_exit ⟨rfl, hi⟩
  | scope c ih =>
    intro s H r h a w hi
    simp only [evCode] at h
    refine wp_scope_straight (wp_mono (ih s H r h a w hi) fun ex a' w' hp => ?_)
    cases ex with
    | goto l => obtain ⟨ex', s', H'⟩ := r; cases ex' <;> cases hp.1
    | _ => exact hp
  | label l => intro s H r h a w hi; simp only [evCode, Option.some.injEq] at h; subst h; exact wp_label ⟨rfl, hi⟩
  | goto l => intro s H r h; simp [evCode] at h
  | refuse => intro s H r h; simp [evCode] at h
  | ret => intro s H r h a w hi; simp only [evCode, Option.some.injEq] at h; subst h; exact wp_ret ⟨rfl, hi⟩

theorem results_ok (hs : HS w0 B e H w) {s : List V} {t : Array Value} (hrep : RepL w0 B e s t.toList) : ∀ (rs : List ResultVar) (l : List V), resultsO P s H rs = some l →
    ∃ vs, (rs.mapM fun
      | .tmp t' => Pure.pure (t.getD t' undef)
      | .cell a ty => do loadVar ty (← asAddr (t.getD a undef)) : Sem (List Value)).run P w = .ok vs w ∧ RepL w0 B e l vs
  | [], l, h => by
    simp only [resultsO, Option.some.injEq] at h
    subst h
    exact ⟨[], by simp, RepL.nil _ _ _⟩
  | r :: rs, l, h => by
    simp only [resultsO] at h
    split at h
    · rename_i v l' h1 h2
      cases h
      obtain ⟨vs, hv, hvr⟩ := results_ok hs hrep rs l' h2
      have : ∃ v', ((match r with
        | .tmp t' => Pure.pure (t.getD t' undef)
        | .cell a ty => do loadVar ty (← asAddr (t.getD a undef))) : Sem Value).run P w = .ok v' w ∧ Rep w0 B e v v' := by
        cases r with
        | tmp t' =>
          simp only [resultO, Option.some.injEq] at h1
          subst h1
          exact ⟨_, by simp, getS_ok hrep t'⟩
        | cell a ty =>
          simp only [resultO] at h1
          unfold loadV at h1
          have ha := getS_ok hrep a
          cases hc : cellsAt H (getS s a) with
          | none => rw [hc] at h1; simp at h1
          | some cs =>
            rw [hc] at h1
            obtain ⟨b, o, vs, hva, hcs, hcell⟩ := cellsAt_ok hs ha hc
            obtain ⟨u, hu, hr⟩ := rload (P := P) (t := ty) hcs hcell h1
            refine ⟨u, ?_, hr⟩
            have hva' : t.getD a undef = .pointer (some ⟨b, o, none⟩) := hva
            simp [hva', asAddr, hu]
      obtain ⟨v', h3, h4⟩ := this
      refine ⟨v' :: vs, ?_, RepL.cons h4 hvr⟩
      rw [List.mapM_cons, Sem.run_bind, h3, Result.andThen_ok, Sem.run_bind, hv, Result.andThen_ok]
      simp
    · cases h

theorem body_ok (hc : CallOk P Γ call) (hr : RegOk P Γ call) {n f : Nat} {fn : Func} (hf : P.funcs[f]? = some fn) (hnm : fn.name ≠ "runtime.NumGoroutine") {args : List V} {H : Heap} {r : V × Heap} (h : evBody P Γ call n f fn args H = some r)
    {w0 : World} {B : Nat} {e : Emb} {w : World} {vs : List Value} (hg : GlobOk Γ w0 B) (hs : HS w0 B e H w) (ha : RepL w0 B e args vs) : CallAt P f vs w0 B e H w r := by
  unfold evBody at h
  split at h
  · cases h
  · rename_i c hb
    refine Or.inl ⟨⟨fn, hf, by rw [hb]; rfl, hnm⟩, calls_of_wp hf hb ?_⟩
    have hinit : Inv w0 B e H w (args ++ List.replicate (fn.ntmps - args.length) V.undef) H { tmps := (⟨vs⟩ : Array Value) ++ Array.replicate (fn.ntmps - (⟨vs⟩ : Array Value).size) undef, defers := [] } w := by
      refine ⟨e, Stp.refl hs, ?_, rfl⟩
      simp only [Array.toList_append, Array.toList_replicate, List.size_toArray]
      rw [← ha.1]
      exact ha.append (RepL.replicate undef_ok _)
    split at h
    · cases h
    · rename_i ex s G hnex hcode
      split at h
      · rename_i l hl
        cases h
        refine wp_mono (code_ok hr hg c _ _ _ hcode _ _ hinit) fun x a' w' hp => ?_
        obtain ⟨h1, e', hst, hrep, hd⟩ := hp
        have hfin : a'.defers = [] ∧ ∃ v, (results fn a'.tmps).run P w' = .ok v w' ∧ ∃ v2 e2, Ending.returned v = .returned v2 ∧ Stp w0 B e H w e2 (finish H.length G (packV l)).2 w' ∧ Rep w0 B e2 (finish H.length G (packV l)).1 v2 := by
          refine ⟨hd, ?_⟩
          obtain ⟨us, hus, hur⟩ := results_ok hst.hs hrep fn.results.toList l hl
          obtain ⟨k1, k2⟩ := keep_ok hst (place_spec H.length G hst.len fuelR (rootLeaves H.length G ++ (packV l).leaves) [] (placeOk_nil _ _))
          have hpack : Rep w0 B e' (packV l) (if h : us.toArray.size = 1 then us.toArray[0] else .tuple us.toArray) := by
            unfold packV
            split
            · rename_i v
              obtain ⟨hlen, hel⟩ := hur
              have : us.toArray.size = 1 := by simpa using hlen.symm
              rw [dif_pos this]
              have hl0 : 0 < us.length := by rw [← hlen]; simp
              have h0 := hel 0 (by simp) hl0
              exact h0
            · rename_i hne
              have : us.toArray.size ≠ 1 := by
                intro hx
                have hx' : l.length = 1 := by rw [hur.1]; simpa using hx
                obtain ⟨v, rfl⟩ := List.length_eq_one_iff.1 hx'
                exact hne v rfl
              rw [dif_neg this]
              exact .tup _ _ _ hur.1 hur.2
          refine ⟨_, ?_, _, _, rfl, k1, hpack.ren k2⟩
          unfold results
          rw [Array.mapM_eq_mapM_toList]
          rw [Sem.run_bind, Sem.run_map]
          exact congrArg (fun z : Result (List Value) => (z.andThen fun a w' => Result.ok a.toArray w').andThen fun a w' => Sem.run P (Pure.pure (if h : a.size = 1 then a[0] else Value.tuple a)) w') hus
        cases ex with
        | normal => cases h1; exact hfin
        | ret => cases h1; exact hfin
        | exit id => exact absurd rfl (hnex _)
      · cases h
    · cases h

theorem evF_ok (ho : CallOk P Γ Γ.orc) (hr : ∀ call, CallOk P Γ call → RegOk P Γ call) : ∀ k, CallOk P Γ (evF P Γ k)
  | 0 => fun f args H r h => by simp [evF] at h
  | k + 1 => fun f args H r h w0 B e w vs hg hs ha => by
    simp only [evF] at h
    split at h
    · rename_i r' hr'
      cases h
      exact ho f args H r hr' w0 B e w vs hg hs ha
    · split at h
      · rename_i fn hf
        split at h
        · cases h
        · rename_i hn
          exact body_ok (evF_ok ho hr k) (hr _ (evF_ok ho hr k)) hf hn h hg hs ha
      · cases h
end
end Go.Ev

/-
  WHAT AN OPERATION LEAVES ALONE; TWO PARTS OF A HEAP TOGETHER (own work).
-/
set_option linter.unusedSimpArgs false
set_option linter.unusedVariables false
namespace Go.Ev
open Go

section
variable {P : Program} {Γ : Env} {call : CallF}

def Keeps (H : Heap) (ws : List Nat) (H' : Heap) : Prop := H.length ≤ H'.length ∧ ∀ id, id < H.length → id ∉ ws → H'[id]? = H[id]?

theorem Keeps.refl (H : Heap) (ws : List Nat) : Keeps H ws H := ⟨Nat.le_refl _, fun _ _ _ => rfl⟩
theorem Keeps.app (H G : Heap) (ws : List Nat) : Keeps H ws (H ++ G) := ⟨by simp, fun id h _ => List.getElem?_append_left h⟩
theorem Keeps.set (H : Heap) (id : Nat) (b : Option Blk) : Keeps H [id] (H.set id b) := ⟨by simp, fun j h hn => by
  simp only [List.mem_singleton] at hn
  rw [List.getElem?_set_ne (by omega)]⟩
theorem Keeps.setApp (H G : Heap) (id : Nat) (b : Option Blk) : Keeps H [id] (H.set id b ++ G) := ⟨by simp, fun j h hn => by
  simp only [List.mem_singleton] at hn
  rw [List.getElem?_append_left (by simpa using h), List.getElem?_set_ne (by omega)]⟩

theorem Keeps.cells {H H' : Heap} {id off : Nat} {vs : List V} (h : writeCells H id off vs = some H') : Keeps H [id] H' := by
  unfold writeCells at h
  split at h
  · split at h
    · cases h; exact Keeps.set _ _ _
    · cases h
  · cases h

theorem appendS_keeps {H : Heap} {n b k : Nat} {s : V} {vs : List V} {r : V × Heap} (h : appendS H n b s k vs = some r) : Keeps H (refOf s) r.2 := by
  unfold appendS at h
  split at h
  · split at h
    · cases h; exact Keeps.refl _ _
    · split at h
      · cases h; exact Keeps.app _ _ _
      · cases h
  · split at h
    · cases h
    · split at h
      · split at h
        · cases h; exact Keeps.refl _ _
        · split at h
          · obtain ⟨H', hw, rfl⟩ := Option.map_eq_some_iff.1 h
            exact Keeps.cells hw
          · split at h
            · split at h
              · cases h; exact Keeps.app _ _ _
              · split at h
                · cases h; exact Keeps.setApp _ _ _ _
                · cases h
            · cases h
      · cases h
  · cases h

theorem appendV_keeps {H : Heap} {t : TypeId} {u : Option TypeId} {s x : V} {r : V × Heap} (h : appendV P H t u s x = some r) : Keeps H (refOf s) r.2 := by
  unfold appendV at h
  split at h
  · split at h
    · split at h
      · split at h
        · cases h
        · split at h
          · exact appendS_keeps h
          · cases h
      · cases h
    · split at h
      · unfold appendZ at h
        split at h
        · split at h
          · split at h
            · cases h
            · split at h
              · cases h; exact Keeps.refl _ _
              · cases h; exact Keeps.app _ _ _
          · cases h
        · split at h
          · split at h
            · cases h
            · cases h; exact Keeps.app _ _ _
          · cases h
        · cases h
      · cases h
  · cases h

theorem copyV_keeps {H : Heap} {t : TypeId} {d x : V} {r : V × Heap} (h : copyV P H t d x = some r) : Keeps H (refOf d) r.2 := by
  unfold copyV at h
  split at h
  · split at h
    · split at h
      · split at h
        · cases h; exact Keeps.refl _ _
        · split at h
          · cases h
          · obtain ⟨H', hw, rfl⟩ := Option.map_eq_some_iff.1 h
            exact Keeps.cells hw
        · cases h
      · cases h
    · cases h
  · cases h

theorem mapUpdateV_keeps {H H' : Heap} {t : TypeId} {m k v : V} (h : mapUpdateV P H t m k v = some H') : Keeps H (refOf m) H' := by
  unfold mapUpdateV at h
  split at h
  · split at h
    · cases h
    · split at h
      · split at h
        · cases h; exact Keeps.set _ _ _
        · cases h; exact Keeps.set _ _ _
        · cases h
      · cases h
  · cases h
theorem mapEntryV_keeps {H : Heap} {t : TypeId} {m k : V} {r : V × Heap} (h : mapEntryV P H t m k = some r) : Keeps H (refOf m) r.2 := by
  unfold mapEntryV at h
  split at h
  · split at h
    · cases h
    · split at h
      · split at h
        · split at h
          · cases h; exact Keeps.set _ _ _
          · cases h
        · cases h; exact Keeps.set _ _ _
        · cases h
      · cases h
  · cases h
theorem entryStoreV_keeps {H H' : Heap} {m st v : V} (h : entryStoreV H m st v = some H') : Keeps H (refOf m) H' := by
  unfold entryStoreV at h
  split at h
  · split at h
    · split at h
      · cases h; exact Keeps.set _ _ _
      · cases h
    · cases h
  · cases h
theorem nextV_keeps {H : Heap} {it : V} {r : V × Heap} (h : nextV H it = some r) : Keeps H (refOf it) r.2 := by
  unfold nextV at h
  split at h
  · split at h
    · split at h
      · cases h; exact Keeps.set _ _ _
      · cases h; exact Keeps.refl _ _
    · cases h
  · cases h
theorem storeV_keeps {H H' : Heap} {t : TypeId} {a x : V} (h : storeV P H t a x = some H') : Keeps H (refOf a) H' := by
  unfold storeV at h
  split at h
  · split at h
    · exact Keeps.cells h
    · cases h
  · cases h

theorem buildSliceV_keeps {H : Heap} {t : TypeId} {n : Nat} {ps : List (Nat × V)} {r : V × Heap} {ws : List Nat} (h : buildSliceV P H t n ps = some r) : Keeps H ws r.2 := by
  unfold buildSliceV at h
  repeat' split at h
  all_goals first
    | (cases h; done)
    | (cases h; exact Keeps.app _ _ _)
theorem makeSliceV_keeps {H : Heap} {t : TypeId} {l c : V} {r : V × Heap} {ws : List Nat} (h : makeSliceV P H t l c = some r) : Keeps H ws r.2 := by
  unfold makeSliceV at h
  repeat' split at h
  all_goals first
    | (cases h; done)
    | (cases h; exact Keeps.app _ _ _)

theorem convertV_keeps {H : Heap} {a b : TypeId} {x : V} {r : V × Heap} {ws : List Nat} (h : convertV P H a b x = some r) : Keeps H ws r.2 := by
  unfold convertV at h
  repeat' split at h
  all_goals first
    | (cases h; done)
    | (cases h; exact Keeps.refl _ _)
    | (cases h; exact Keeps.app _ _ _)
    | (obtain ⟨z, hz, rfl⟩ := Option.map_eq_some_iff.1 h; exact Keeps.refl _ _)

theorem sliceMaxV_keeps {H : Heap} {t : TypeId} {x hi m : V} {r : V × Heap} (h : sliceMaxV P H t x hi m = some r) : Keeps H (refOf x) r.2 := by
  unfold sliceMaxV at h
  split at h
  · split at h
    · split at h
      · cases h; exact Keeps.setApp _ _ _ _
      · cases h
    · cases h
  · split at h
    · split at h
      · cases h; exact Keeps.refl _ _
      · cases h
    · cases h
  · cases h
theorem clearV_keeps {H : Heap} {t : TypeId} {x : V} {r : V × Heap} (h : clearV P H t x = some r) : Keeps H (refOf x) r.2 := by
  unfold clearV at h
  split at h
  · cases h; exact Keeps.refl _ _
  · split at h
    · split at h
      · split at h
        · cases h; exact Keeps.refl _ _
        · obtain ⟨z, hz, rfl⟩ := Option.map_eq_some_iff.1 h; exact Keeps.cells hz
      · cases h
    · cases h
  · cases h

def bWrites : Builtin → List V → List Nat
  | .append, x :: _ => refOf x
  | .copy, x :: _ => refOf x
  | .clear, x :: _ => refOf x
  | _, _ => []

theorem builtin_keeps {H : Heap} {b : Builtin} {ts : Array TypeId} {xs : List V} {r : V × Heap} (h : evBuiltin P H b ts xs = some r) : Keeps H (bWrites b xs) r.2 := by
  unfold evBuiltin at h
  split at h
  · split at h
    · obtain ⟨z, hz, rfl⟩ := Option.map_eq_some_iff.1 h; exact Keeps.refl _ _
    · cases h
  · split at h
    · exact appendV_keeps h
    · cases h
  · split at h
    · exact copyV_keeps h
    · cases h
  · obtain ⟨z, hz, rfl⟩ := Option.map_eq_some_iff.1 h; exact Keeps.refl _ _
  · obtain ⟨z, hz, rfl⟩ := Option.map_eq_some_iff.1 h; exact Keeps.refl _ _
  · split at h
    · exact clearV_keeps h
    · cases h
  · split at h
    · obtain ⟨z, hz, rfl⟩ := Option.map_eq_some_iff.1 h; exact Keeps.refl _ _
    · cases h
  · cases h

theorem op_keeps {s : List V} {H : Heap} {o : Op} {r : V × Heap} (h : evOp P Γ call s H o = some r) : Keeps H (writesOf Γ s H o) r.2 := by
  unfold evOp at h
  split at h
  · rename_i c
    split at h
    · rename_i f hf
      unfold evCall at h
      rw [hf] at h
      simp only at h
      split at h
      · rename_i g x y hv
        split at h
        · unfold callPlain at h
          split at h
          · split at h
            · cases h; exact Keeps.app _ _ _
            · cases h
          · cases h
        · rename_i hpl
          unfold callWide at h
          simp only at h
          split at h
          · split at h
            · cases h
              simp only [writesOf, hf, hv, if_neg hpl]
              refine ⟨by simp [setMany_length], fun id hid hn => ?_⟩
              rw [List.getElem?_append_left (by rw [setMany_length]; exact hid)]
              exact setMany_out _ _ _ _ hn
            · cases h
          · cases h
      · cases h
    · rename_i hne
      obtain ⟨callee, args, ats⟩ := c
      cases callee with
      | value f => exact absurd rfl (hne f)
      | invoke a b => simp [evPlain] at h
      | builtin b =>
        simp only [evPlain] at h
        have hk := builtin_keeps h
        have he : writesOf Γ s H (.call ⟨.builtin b, args, ats⟩) = bWrites b (args.toList.map (evOperand Γ s)) := by
          simp only [writesOf]
          generalize args.toList.map (evOperand Γ s) = xs
          cases b <;> cases xs <;> rfl
        rw [he]
        exact hk
  · unfold evPlain at h
    split at h
    all_goals first
      | (cases h; done)
      | (cases h; exact Keeps.refl _ _)
      | (cases h; exact Keeps.app _ _ _)
      | (obtain ⟨z, hz, rfl⟩ := Option.map_eq_some_iff.1 h; exact Keeps.refl _ _)
      | (split at h <;> first | (cases h; done) | (cases h; exact Keeps.refl _ _) | (cases h; exact Keeps.app _ _ _) | (obtain ⟨z, hz, rfl⟩ := Option.map_eq_some_iff.1 h; exact Keeps.refl _ _))
      | (obtain ⟨z, hz, rfl⟩ := Option.map_eq_some_iff.1 h; exact storeV_keeps hz)
      | (obtain ⟨z, hz, rfl⟩ := Option.map_eq_some_iff.1 h; exact mapUpdateV_keeps hz)
      | (obtain ⟨z, hz, rfl⟩ := Option.map_eq_some_iff.1 h; exact entryStoreV_keeps hz)
      | exact mapEntryV_keeps h
      | exact nextV_keeps h
      | exact convertV_keeps h
      | exact buildSliceV_keeps h
      | exact makeSliceV_keeps h
      | exact sliceMaxV_keeps h
      | (rename_i hx; exact absurd rfl (hx _))
end

section
variable {P : Program} {w0 : World} {B : Nat}

def mixE (lo hi : Nat) (e e1 : Emb) : Emb := ⟨fun id => if lo ≤ id ∧ id < hi then e1 id else e id, e1.frz⟩
theorem mixE_at (lo hi : Nat) (e e1 : Emb) (id : Nat) : mixE lo hi e e1 id = if lo ≤ id ∧ id < hi then e1 id else e id := rfl

/-- A step on a part of the heap is a step on the whole. -/
theorem mix {e0 e e1 e1' : Emb} {H0 G Hm H' G' : Heap} {ws w w' : World} (h : Stp w0 B e0 H0 ws e G w) (k : Stp w0 B e1 Hm w e1' H' w')
    (hHm : ∀ (id : Nat) (b : Blk), Hm[id]? = some (some b) → G[id]? = some (some b))
    (he1 : ∀ id eb, e1 id = some eb → e id = some eb) (hz1 : e1.frz = e.frz)
    (hlb : H0.length ≤ Hm.length) (hN : H'.length ≤ G.length) (hfresh : ∀ id, Hm.length ≤ id → id < H'.length → e id = none)
    (hlen : G'.length = G.length)
    (hG' : ∀ (id : Nat) (b : Blk), G'[id]? = some (some b) → (H'[id]? = some (some b)) ∨
      (G[id]? = some (some b) ∧ ¬ (Hm.length ≤ id ∧ id < H'.length) ∧ ∀ b0, Hm[id]? ≠ some (some b0))) :
    Stp w0 B e0 H0 ws (mixE Hm.length H'.length e e1') G' w' ∧ (∀ id eb, e1' id = some eb → mixE Hm.length H'.length e e1' id = some eb) ∧ (∀ id eb, e id = some eb → mixE Hm.length H'.length e e1' id = some eb) := by
  have hup1 : ∀ id eb, e1' id = some eb → mixE Hm.length H'.length e e1' id = some eb := fun id eb he => by
    rw [mixE_at]
    split
    · exact he
    · rename_i hn
      have := (k.hs.dom id eb he).1
      rw [k.ext id (by omega)] at he
      exact he1 _ _ he
  have hup : ∀ id eb, e id = some eb → mixE Hm.length H'.length e e1' id = some eb := fun id eb he => by
    rw [mixE_at]
    split
    · rename_i hn
      rw [hfresh id hn.1 hn.2] at he
      cases he
    · exact he
  have hzup : ∀ b o, e.frz b = some o → (mixE Hm.length H'.length e e1').frz b = some o := fun b o hb => k.fup b o (by rw [hz1]; exact hb)
  refine ⟨?_, hup1, hup⟩
  -- a live block of the part: its place among the caller's
  have hmlive : ∀ (z : Nat) (bz : Blk) (ez : EB), Hm[z]? = some (some bz) → e1 z = some ez → G[z]? = some (some bz) ∧ e z = some ez := fun z bz ez h1 h2 => ⟨hHm z bz h1, he1 z ez h2⟩
  have hglive : ∀ (z : Nat) (bz : Blk) (ez : EB), G[z]? = some (some bz) → e z = some ez → ws.heap.size ≤ ez.b ∨ ∃ i bi ei, H0[i]? = some (some bi) ∧ e0 i = some ei ∧ ei.b = ez.b := fun z bz ez h1 h2 => by
    rcases Nat.lt_or_ge z H0.length with hz | hz
    · obtain ⟨b', hb'⟩ := h.alive z bz hz h1
      rw [h.ext z hz] at h2
      exact .inr ⟨z, b', ez, hb', h2, rfl⟩
    · exact h.new z ez hz h2
  -- what a live block of the new heap was
  have hwas : ∀ (id : Nat) (b : Blk), G'[id]? = some (some b) → ¬ (Hm.length ≤ id ∧ id < H'.length) → ∃ b', G[id]? = some (some b') := fun id b hb hn => by
    rcases hG' id b hb with h1 | h1
    · have := (List.getElem?_eq_some_iff.1 h1).1
      obtain ⟨b', hb'⟩ := k.alive id b (by omega) h1
      exact ⟨b', hHm _ _ hb'⟩
    · exact ⟨b, h1.1⟩
  have hsize := k.size
  have hsz0 := h.size
  refine ⟨⟨k.hs.old, k.hs.szB, fun id eb he => ?_, fun id b hb => ?_, fun i j bi bj ei ej hi hj h1 h2 h3 => ?_, k.hs.frz, fun id bk eb hb he => ?_⟩, fun id hid => ?_, by have := h.len; omega, fun id b hid hb => ?_, fun id eb hid he => ?_, fun b hb hne => ?_, by omega, by rw [k.os, h.os], by rw [k.tape, h.tape], by rw [k.output, h.output], fun b o hb => hzup b o (h.fup b o hb), fun b o hb => ?_, fun h0 => Nat.le_trans (h.drawn h0) (k.drawn h0)⟩
  · rw [mixE_at] at he
    rw [hlen]
    split at he
    · have := k.hs.dom id eb he; exact ⟨by omega, this.2⟩
    · have := h.hs.dom id eb he; exact ⟨by omega, by omega, by omega⟩
  · rcases hG' id b hb with h1 | ⟨h1, h2, h3⟩
    · obtain ⟨eb, o, he, ho, hok⟩ := k.hs.live id b h1
      exact ⟨eb, o, hup1 _ _ he, ho, hok.mono hup1⟩
    · obtain ⟨eb, o, he, ho, hok⟩ := h.hs.live id b h1
      refine ⟨eb, o, hup _ _ he, ?_, hok.mono hup hzup⟩
      rw [k.frame eb.b (h.hs.dom id eb he).2.2 fun i bi ei hi hei heq => ?_]
      · exact ho
      · obtain ⟨g1, g2⟩ := hmlive i bi ei hi hei
        have := h.hs.inj i id bi b ei eb g1 h1 g2 he heq
        subst this
        exact h3 bi hi
  · -- one block for each name
    have other : ∀ (x y : Nat) (bx «by» : Blk) (ex ey : EB), G'[x]? = some (some bx) → G'[y]? = some (some «by») → (Hm.length ≤ x ∧ x < H'.length) → ¬ (Hm.length ≤ y ∧ y < H'.length) → e1' x = some ex → e y = some ey → ex.b = ey.b → x = y := by
      intro x y bx by' ex ey hx hy hcx hcy h1 h2 h3
      have hxH : H'[x]? = some (some bx) := by
        rcases hG' x bx hx with g | ⟨_, g, _⟩
        · exact g
        · exact absurd hcx g
      obtain ⟨by0, hyG⟩ := hwas y by' hy hcy
      have hylt := (h.hs.dom y ey h2).2.2
      rcases k.new x ex hcx.1 h1 with g | ⟨z, bz, ez, z1, z2, z3⟩
      · omega
      · obtain ⟨g1, g2⟩ := hmlive z bz ez z1 z2
        have := h.hs.inj z y bz by0 ez ey g1 hyG g2 h2 (by omega)
        subst this
        rcases hG' z by' hy with g | ⟨_, _, g⟩
        · have hez : e1' z = some ez := by
            rw [k.ext z (List.getElem?_eq_some_iff.1 z1).1]; exact z2
          exact k.hs.inj x z bx by' ex ez hxH g h1 hez z3.symm
        · exact absurd z1 (g _)
    rw [mixE_at] at h1 h2
    split at h1 <;> split at h2
    · rename_i c1 c2
      have hiH : H'[i]? = some (some bi) := by
        rcases hG' i bi hi with g | ⟨_, g, _⟩
        · exact g
        · exact absurd c1 g
      have hjH : H'[j]? = some (some bj) := by
        rcases hG' j bj hj with g | ⟨_, g, _⟩
        · exact g
        · exact absurd c2 g
      exact k.hs.inj i j bi bj ei ej hiH hjH h1 h2 h3
    · rename_i c1 c2
      exact other i j bi bj ei ej hi hj c1 c2 h1 h2 h3
    · rename_i c1 c2
      exact (other j i bj bi ej ei hj hi c2 c1 h2 h1 h3.symm).symm
    · rename_i c1 c2
      obtain ⟨bi', hi'⟩ := hwas i bi hi c1
      obtain ⟨bj', hj'⟩ := hwas j bj hj c2
      exact h.hs.inj i j bi' bj' ei ej hi' hj' h1 h2 h3
  · show e1'.frz eb.b = none
    rw [mixE_at] at he
    split at he
    · rename_i c1
      have hH : H'[id]? = some (some bk) := by
        rcases hG' id bk hb with g | ⟨_, g, _⟩
        · exact g
        · exact absurd c1 g
      exact k.hs.frl id bk eb hH he
    · rename_i c1
      obtain ⟨b', hb'⟩ := hwas id bk hb c1
      cases hz : e1'.frz eb.b with
      | none => rfl
      | some o =>
        rcases k.fnew eb.b o hz with g | g | ⟨z, bz, ez, z1, z2, z3⟩
        · have := h.hs.frl id b' eb hb' he
          rw [hz1, this] at g; cases g
        · have := (h.hs.dom id eb he).2.2; omega
        · obtain ⟨g1, g2⟩ := hmlive z bz ez z1 z2
          have := h.hs.inj z id bz b' ez eb g1 hb' g2 he z3
          subst this
          rcases hG' z bk hb with g | ⟨_, _, g⟩
          · have hez : e1' z = some ez := by
              rw [k.ext z (List.getElem?_eq_some_iff.1 z1).1]; exact z2
            have h5 := k.hs.frl z bk ez g hez
            rw [z3, hz] at h5; cases h5
          · exact absurd z1 (g _)
  · rw [mixE_at]
    rw [if_neg (by omega)]
    exact h.ext id hid
  · obtain ⟨b', hb'⟩ := hwas id b hb (by omega)
    exact h.alive id b' hid hb'
  · rw [mixE_at] at he
    split at he
    · rename_i c
      rcases k.new id eb c.1 he with g | ⟨z, bz, ez, z1, z2, z3⟩
      · left; omega
      · obtain ⟨g1, g2⟩ := hmlive z bz ez z1 z2
        rcases hglive z bz ez g1 g2 with g | ⟨i, bi, ei, i1, i2, i3⟩
        · left; omega
        · right; exact ⟨i, bi, ei, i1, i2, by omega⟩
    · exact h.new id eb hid he
  · rw [k.frame b (by omega) fun i bi ei hi hei heq => ?_]
    · exact h.frame b hb hne
    · obtain ⟨g1, g2⟩ := hmlive i bi ei hi hei
      rcases hglive i bi ei g1 g2 with g | ⟨z, bz, ez, z1, z2, z3⟩
      · omega
      · exact hne z bz ez z1 z2 (by omega)
  · rcases k.fnew b o hb with g | g | ⟨z, bz, ez, z1, z2, z3⟩
    · exact h.fnew b o (by rw [← hz1]; exact g)
    · right; left; omega
    · obtain ⟨g1, g2⟩ := hmlive z bz ez z1 z2
      rcases hglive z bz ez g1 g2 with g | ⟨i, bi, ei, i1, i2, i3⟩
      · right; left; omega
      · right; right; exact ⟨i, bi, ei, i1, i2, by omega⟩
end
end Go.Ev

/-
  REGIONS IN ANY ORDER (own work).
-/
set_option linter.unusedSimpArgs false
set_option linter.unusedVariables false
namespace Go.Ev
open Go

/-! ### The last writer -/
def lastOf {α : Type} (wr : Nat → Bool) (val : Nat → α) (base : α) : Nat → α
  | 0 => base
  | j + 1 => if wr j then val j else lastOf wr val base j

theorem lastOf_congr {α : Type} {wr wr' : Nat → Bool} {val : Nat → α} {base : α} : ∀ {n : Nat}, (∀ j, j < n → wr j = wr' j) → lastOf wr val base n = lastOf wr' val base n
  | 0, _ => rfl
  | n + 1, h => by
    simp only [lastOf]
    rw [h n (by omega), lastOf_congr fun j hj => h j (by omega)]
theorem lastOf_cut {α : Type} {wr : Nat → Bool} {val : Nat → α} {base : α} {i : Nat} : ∀ {n : Nat}, i ≤ n → (∀ j, i ≤ j → j < n → wr j = false) → lastOf wr val base n = lastOf wr val base i
  | 0, h, _ => by rw [show i = 0 by omega]
  | n + 1, h, hf => by
    rcases Nat.lt_or_ge n i with hi | hi
    · rw [show i = n + 1 by omega]
    · simp only [lastOf]
      rw [hf n hi (by omega)]
      exact lastOf_cut hi fun j h1 h2 => hf j h1 (by omega)
theorem lastOf_at {α : Type} {wr : Nat → Bool} {val : Nat → α} {base : α} {i n : Nat} (hi : i < n) (hw : wr i = true) (hf : ∀ j, i < j → j < n → wr j = false) : lastOf wr val base n = val i := by
  rw [lastOf_cut (i := i + 1) hi fun j h1 h2 => hf j (by omega) h2]
  simp only [lastOf, hw, if_true]

/-! ### Masks -/
def wId (h : Hint) (id : Nat) : Bool := h.w.contains id || (decide (h.lb ≤ id) && decide (id < h.la))

theorem maskIds_mem {as : List (List Nat)} {i id : Nat} : ∀ (hs : List Hint) (j : Nat), id ∈ maskIds as i hs j ↔ ∃ (q : Nat) (h : Hint), hs[q]? = some h ∧ unordered as i (j + q) = true ∧ wId h id = true
  | [], j => by simp [maskIds]
  | h :: hs, j => by
    simp only [maskIds, List.mem_append]
    rw [maskIds_mem hs (j + 1)]
    have hhead : id ∈ (if unordered as i j then h.w ++ (List.range (h.la - h.lb)).map (h.lb + ·) else []) ↔ unordered as i j = true ∧ wId h id = true := by
      split
      · rename_i hu
        simp only [List.mem_append, List.mem_map, List.mem_range, wId, Bool.or_eq_true, List.contains_iff_mem, Bool.and_eq_true, decide_eq_true_eq, hu, true_and]
        constructor
        · rintro (h1 | ⟨x, h1, h2⟩)
          · exact .inl h1
          · exact .inr ⟨by omega, by omega⟩
        · rintro (h1 | ⟨h1, h2⟩)
          · exact .inl h1
          · exact .inr ⟨id - h.lb, by omega, by omega⟩
      · rename_i hu
        simp [hu]
    rw [hhead]
    constructor
    · rintro (⟨h1, h2⟩ | ⟨q, h', h1, h2, h3⟩)
      · exact ⟨0, h, by simp, by simpa using h1, h2⟩
      · exact ⟨q + 1, h', by simpa using h1, by rw [show j + (q + 1) = j + 1 + q by omega]; exact h2, h3⟩
    · rintro ⟨q, h', h1, h2, h3⟩
      cases q with
      | zero => simp at h1; subst h1; exact .inl ⟨by simpa using h2, h3⟩
      | succ q => exact .inr ⟨q, h', by simpa using h1, by rw [show j + 1 + q = j + (q + 1) by omega]; exact h2, h3⟩

theorem maskHeap_length (M : List Nat) (H : Heap) : (maskHeap M H).length = H.length := by simp [maskHeap]
theorem maskHeap_get (M : List Nat) (H : Heap) (id : Nat) : (maskHeap M H)[id]? = (H[id]?).map fun b => if M.contains id then none else b := by
  simp [maskHeap, List.getElem?_mapIdx]
theorem maskHeap_live {M : List Nat} {H : Heap} {id : Nat} {b : Blk} : (maskHeap M H)[id]? = some (some b) ↔ id ∉ M ∧ H[id]? = some (some b) := by
  rw [maskHeap_get]
  cases hH : H[id]? with
  | none => simp
  | some o =>
    by_cases hm : id ∈ M
    · simp [hm]
    · simp [hm]
theorem mergeHeap_length (M : List Nat) (H H' : Heap) : (mergeHeap M H H').length = H'.length := by simp [mergeHeap]
theorem mergeHeap_getD (M : List Nat) (H H' : Heap) (id : Nat) (hid : id < H'.length) : (mergeHeap M H H').getD id none = if M.contains id then H.getD id none else H'.getD id none := by
  rw [List.getD_eq_getElem?_getD]
  simp [mergeHeap, List.getElem?_mapIdx, hid]

theorem maskSlots_length (as : List (List Nat)) (i : Nat) : ∀ (ops : List Oper) (j : Nat) (s : List V), (maskSlots as i ops j s).length = s.length
  | [], j, s => rfl
  | o :: ops, j, s => by
    simp only [maskSlots]
    rw [maskSlots_length as i ops]
    split
    · cases o.dst <;> simp [putS]
    · rfl
theorem maskSlots_out {as : List (List Nat)} {i t : Nat} : ∀ (ops : List Oper) (j : Nat) (s : List V), (∀ (q : Nat) (o : Oper), ops[q]? = some o → unordered as i (j + q) = true → o.dst ≠ some t) → (maskSlots as i ops j s)[t]? = s[t]?
  | [], j, s, h => rfl
  | o :: ops, j, s, h => by
    simp only [maskSlots]
    rw [maskSlots_out ops (j + 1) _ fun q o' h1 h2 => h (q + 1) o' (by simpa using h1) (by rw [show j + (q + 1) = j + 1 + q by omega]; exact h2)]
    split
    · rename_i hu
      have := h 0 o (by simp) (by simpa using hu)
      cases hd : o.dst with
      | none => rfl
      | some d =>
        rw [hd] at this
        simp only [putS]
        rw [List.getElem?_set_ne (fun hx => this (by rw [hx]))]
    · rfl
theorem maskSlots_junk {as : List (List Nat)} {i t : Nat} : ∀ (ops : List Oper) (j : Nat) (s : List V), s[t]? = some .junk → (maskSlots as i ops j s)[t]? = some .junk
  | [], j, s, h => h
  | o :: ops, j, s, h => by
    simp only [maskSlots]
    refine maskSlots_junk ops (j + 1) _ ?_
    split
    · cases o.dst with
      | none => exact h
      | some d =>
        have hlt := (List.getElem?_eq_some_iff.1 h).1
        simp only [putS]
        by_cases hd : d = t
        · subst hd; simp [hlt]
        · rw [List.getElem?_set_ne hd]; exact h
    · exact h
theorem maskSlots_in {as : List (List Nat)} {i t : Nat} : ∀ (ops : List Oper) (j : Nat) (s : List V) (q : Nat) (o : Oper), ops[q]? = some o → unordered as i (j + q) = true → o.dst = some t → t < s.length → (maskSlots as i ops j s)[t]? = some .junk
  | [], j, s, q, o, h, _, _, _ => by simp at h
  | o :: ops, j, s, q, o', h, hu, hd, ht => by
    simp only [maskSlots]
    cases q with
    | zero =>
      simp only [List.getElem?_cons_zero, Option.some.injEq] at h
      subst h
      refine maskSlots_junk ops (j + 1) _ ?_
      rw [if_pos (by simpa using hu), hd]
      simp [putS, ht]
    | succ q =>
      refine maskSlots_in ops (j + 1) _ q o' (by simpa using h) (by rw [show j + 1 + q = j + (q + 1) by omega]; exact hu) hd ?_
      split
      · cases o.dst <;> simp [putS, ht]
      · exact ht

/-! ### Whom an operation comes after -/
def AncOk (all : List Oper) (as : List (List Nat)) : Prop := ∀ (j : Nat) (o : Oper), all[j]? = some o → ∀ k ∈ as.getD j [], ∃ ed ∈ o.after.toList, bindsAny ed = true ∧ (k = ed.on ∨ k ∈ as.getD ed.on [])

theorem getD_app {α : Type} (l m : List (List α)) (j : Nat) {k : α} (h : k ∈ l.getD j []) : k ∈ (l ++ m).getD j [] := by
  rw [List.getD_eq_getElem?_getD] at h ⊢
  rcases Nat.lt_or_ge j l.length with hj | hj
  · rw [List.getElem?_append_left hj]; exact h
  · rw [List.getElem?_eq_none hj] at h; simp at h

theorem anc_fold {acc : List (List Nat)} {k : Nat} : ∀ (es : List Edge) (l : List Nat), k ∈ es.foldl (fun l e => if bindsAny e then l ++ [e.on] ++ acc.getD e.on [] else l) l → k ∈ l ∨ ∃ ed ∈ es, bindsAny ed = true ∧ (k = ed.on ∨ k ∈ acc.getD ed.on [])
  | [], l, h => .inl h
  | e :: es, l, h => by
    simp only [List.foldl_cons] at h
    rcases anc_fold es _ h with h1 | ⟨ed, h1, h2⟩
    · split at h1
      · rename_i hb
        simp only [List.mem_append, List.mem_singleton] at h1
        rcases h1 with (h1 | h1) | h1
        · exact .inl h1
        · exact .inr ⟨e, by simp, hb, .inl h1⟩
        · exact .inr ⟨e, by simp, hb, .inr h1⟩
      · exact .inl h1
    · exact .inr ⟨ed, by simp [h1], h2⟩

theorem ancGo_ok {all : List Oper} : ∀ (rest : List Oper) (acc : List (List Nat)), all.drop acc.length = rest → AncOk all acc → AncOk all (ancGo rest acc)
  | [], acc, _, h => h
  | o :: rest, acc, hd, h => by
    simp only [ancGo]
    have ho : all[acc.length]? = some o := by
      have := congrArg List.head? hd
      simpa [List.head?_drop] using this
    refine ancGo_ok rest _ ?_ fun j o' hj k hk => ?_
    · have := congrArg List.tail hd
      simpa using this
    · rcases Nat.lt_trichotomy j acc.length with hlt | rfl | hgt
      · rw [List.getD_eq_getElem?_getD, List.getElem?_append_left hlt, ← List.getD_eq_getElem?_getD] at hk
        obtain ⟨ed, h1, h2, h3⟩ := h j o' hj k hk
        exact ⟨ed, h1, h2, h3.imp id (getD_app _ _ _)⟩
      · rw [ho] at hj
        cases hj
        rw [List.getD_eq_getElem?_getD, List.getElem?_append_right (Nat.le_refl _)] at hk
        simp only [Nat.sub_self, List.getElem?_cons_zero, Option.getD_some] at hk
        rcases anc_fold _ _ hk with h1 | ⟨ed, h1, h2, h3⟩
        · simp at h1
        · exact ⟨ed, h1, h2, h3.imp id (getD_app _ _ _)⟩
      · rw [List.getD_eq_getElem?_getD, List.getElem?_append_right (by omega), List.getElem?_eq_none (by simp; omega)] at hk
        simp at hk

theorem ancs_ok (all : List Oper) : AncOk all (ancs all) := ancGo_ok all [] (by simp) (fun j o _ k hk => by simp at hk)

theorem backward_spec : ∀ (ops : List Oper) (i : Nat), backward ops i = true → ∀ (q : Nat) (o : Oper), ops[q]? = some o → ∀ ed ∈ o.after.toList, bindsAny ed = true → ed.on < i + q
  | [], i, h, q, o, hq => by simp at hq
  | o :: ops, i, h, q, o', hq => by
    simp only [backward, Bool.and_eq_true] at h
    cases q with
    | zero =>
      simp only [List.getElem?_cons_zero, Option.some.injEq] at hq
      subst hq
      intro ed he hb
      have h1 := h.1
      rw [List.all_eq_true] at h1
      have := h1 ed he
      simpa [hb] using this
    | succ q =>
      intro ed he hb
      have := backward_spec ops (i + 1) h.2 q o' (by simpa using hq) ed he hb
      omega

theorem anc_lt {all : List Oper} {as : List (List Nat)} (ha : AncOk all as) (hlen : as.length ≤ all.length) (hb : backward all 0 = true) : ∀ (j k : Nat), k ∈ as.getD j [] → k < j := by
  intro j
  induction j using Nat.strongRecOn with
  | _ j ih =>
    intro k hk
    have hj : j < all.length := by
      rcases Nat.lt_or_ge j as.length with h | h
      · omega
      · rw [List.getD_eq_getElem?_getD, List.getElem?_eq_none h] at hk; simp at hk
    obtain ⟨ed, h1, h2, h3⟩ := ha j all[j] (List.getElem?_eq_getElem hj) k hk
    have := backward_spec all 0 hb j all[j] (List.getElem?_eq_getElem hj) ed h1 h2
    rcases h3 with rfl | h3
    · omega
    · have := ih ed.on (by omega) k h3
      omega
theorem ancGo_length : ∀ (rest : List Oper) (acc : List (List Nat)), (ancGo rest acc).length = acc.length + rest.length
  | [], acc => by simp [ancGo]
  | o :: rest, acc => by simp only [ancGo]; rw [ancGo_length rest]; simp; omega

theorem nodupB_spec : ∀ {l : List Nat}, nodupB l = true → l.Nodup
  | [], _ => by simp
  | x :: l, h => by
    simp only [nodupB, Bool.and_eq_true, Bool.not_eq_true', List.contains_eq_mem, decide_eq_false_iff_not] at h
    exact List.nodup_cons.2 ⟨h.1, nodupB_spec h.2⟩
theorem dsts_inj : ∀ (ops : List Oper), (dsts ops).Nodup → ∀ (i j : Nat) (a b : Oper) (t : Nat), ops[i]? = some a → ops[j]? = some b → a.dst = some t → b.dst = some t → i = j
  | [], _, i, j, a, b, t, h, _, _, _ => by simp at h
  | o :: ops, hn, i, j, a, b, t, hi, hj, ha, hb => by
    have hmem : ∀ (q : Nat) (c : Oper), ops[q]? = some c → c.dst = some t → t ∈ dsts ops := fun q c h1 h2 => List.mem_filterMap.2 ⟨c, List.mem_of_getElem? h1, h2⟩
    have hn2 : (dsts ops).Nodup := by
      unfold dsts at hn ⊢
      rw [List.filterMap_cons] at hn
      split at hn
      · exact hn
      · exact (List.nodup_cons.1 hn).2
    have hne : o.dst = some t → t ∉ dsts ops := fun hd => by
      unfold dsts at hn ⊢
      rw [List.filterMap_cons, hd] at hn
      exact (List.nodup_cons.1 hn).1
    cases i with
    | zero =>
      cases j with
      | zero => rfl
      | succ j =>
        simp only [List.getElem?_cons_zero, Option.some.injEq] at hi
        subst hi
        exact absurd (hmem j b (by simpa using hj) hb) (hne ha)
    | succ i =>
      cases j with
      | zero =>
        simp only [List.getElem?_cons_zero, Option.some.injEq] at hj
        subst hj
        exact absurd (hmem i a (by simpa using hi) ha) (hne hb)
      | succ j => rw [dsts_inj ops hn2 i j a b t (by simpa using hi) (by simpa using hj) ha hb]

/-! ### References bounded -/
def restrE (n : Nat) (e : Emb) : Emb := ⟨fun id => if id < n then e id else none, e.frz⟩
theorem restrE_at (n : Nat) (e : Emb) (id : Nat) : restrE n e id = if id < n then e id else none := rfl
mutual
theorem V.ren_id {ρ : Nat → Option Nat} : ∀ (v : V), (∀ r ∈ v.refs, ρ r = some r) → v.ren ρ = v
  | .bool _, _ => rfl
  | .int _ _, _ => rfl
  | .str _, _ => rfl
  | .nilp, _ => rfl
  | .ptr id off, h => by simp only [V.ren, V.sub]; rw [h id (by simp [V.refs])]
  | .ro _, _ => rfl
  | .nils, _ => rfl
  | .sl id off len sz, h => by simp only [V.ren, V.sub]; rw [h id (by simp [V.refs])]
  | .ros _ _, _ => rfl
  | .nilm, _ => rfl
  | .map id, h => by simp only [V.ren, V.sub]; rw [h id (by simp [V.refs])]
  | .rom _ _, _ => rfl
  | .fn f a b, h => by
    have h1 := renL_id a fun r hr => h r (by simp [V.refs, hr])
    have h2 := renL_id b fun r hr => h r (by simp [V.refs, hr])
    simp only [V.ren, V.sub]
    unfold renL at h1 h2
    rw [h1, h2]
  | .nilf, _ => rfl
  | .iface t v, h => by
    have h1 := V.ren_id v fun r hr => h r (by simpa [V.refs] using hr)
    simp only [V.ren, V.sub] at h1 ⊢
    rw [h1]
  | .nili, _ => rfl
  | .agg cs, h => by
    have h1 := renL_id cs fun r hr => h r (by simpa [V.refs] using hr)
    simp only [V.ren, V.sub]
    unfold renL at h1
    rw [h1]
  | .tup cs, h => by
    have h1 := renL_id cs fun r hr => h r (by simpa [V.refs] using hr)
    simp only [V.ren, V.sub]
    unfold renL at h1
    rw [h1]
  | .junk, _ => rfl
theorem renL_id {ρ : Nat → Option Nat} : ∀ (l : List V), (∀ r ∈ refsL l, ρ r = some r) → renL ρ l = l
  | [], _ => rfl
  | v :: l, h => by
    have h1 := V.ren_id v fun r hr => h r (by simp [refsL, hr])
    have h2 := renL_id l fun r hr => h r (by simp [refsL, hr])
    unfold renL at h2 ⊢
    unfold V.ren at h1
    simp only [subL]
    rw [h1, h2]
end
theorem Blk.ren_id {ρ : Nat → Option Nat} (k : Blk) (h : ∀ r ∈ k.refs, ρ r = some r) : k.ren ρ = k := by
  cases k with
  | cells cs ex => simp only [Blk.ren]; rw [renL_id cs h]
  | map es c =>
    simp only [Blk.ren, Blk.map.injEq, and_true]
    refine (List.map_congr_left fun x hx => ?_).trans (List.map_id es)
    obtain ⟨k, v, b⟩ := x
    have hk : ∀ r ∈ k.refs ++ v.refs, ρ r = some r := fun r hr => h r (by
      simp only [Blk.refs, List.mem_flatMap]
      exact ⟨_, hx, hr⟩)
    simp only [id]
    rw [V.ren_id k fun r hr => hk r (by simp [hr]), V.ren_id v fun r hr => hk r (by simp [hr])]
  | siter s p => rfl
end Go.Ev

/-
  REGIONS IN ANY ORDER, second part (own work).
-/
set_option linter.unusedSimpArgs false
set_option linter.unusedVariables false
namespace Go.Ev
open Go

theorem Rep.restr {w0 : World} {B n : Nat} {e : Emb} {v : V} {v' : Value} (hb : ∀ r ∈ v.refs, r < n) (h : Rep w0 B e v v') : Rep w0 B (restrE n e) v v' := by
  have := h.ren (ρ := fun id => if id < n then some id else none) (e1 := restrE n e) fun id j eb hj he => by
    split at hj
    · cases hj; rw [restrE_at]; rw [if_pos (by assumption)]; exact he
    · cases hj
  rwa [V.ren_id v fun r hr => by simp [hb r hr]] at this
theorem BlkOk.restr {w0 : World} {B n : Nat} {e : Emb} {k : Blk} {eb : EB} {o : Obj} (hb : ∀ r ∈ k.refs, r < n) (h : BlkOk w0 B e k eb o) : BlkOk w0 B (restrE n e) k eb o := by
  have := h.ren (ρ := fun id => if id < n then some id else none) (e1 := restrE n e) fun id j eb hj he => by
    split at hj
    · cases hj; rw [restrE_at]; rw [if_pos (by assumption)]; exact he
    · cases hj
  rwa [Blk.ren_id k fun r hr => by simp [hb r hr]] at this

section
variable (P : Program) (Γ : Env) (call : CallF)

/-- One operation of the run in order. -/
def StepAt (all : List Oper) (as : List (List Nat)) (hs : List Hint) (j : Nat) (o : Oper) (h : Hint) (s : List V) (H : Heap) (v : V) (X : Heap) (s1 : List V) (H1 : Heap) : Prop :=
  s1 = putS s o.dst v ∧ h.lb = H.length ∧
  ((wantedV all (maskSlots as j all 0 s) o = some true ∧ evOp P Γ call (maskSlots as j all 0 s) (maskHeap (maskIds as j hs 0) H) o.op = some (v, X) ∧ h.la = X.length ∧
      h.w = writesOf Γ (maskSlots as j all 0 s) (maskHeap (maskIds as j hs 0) H) o.op ∧ (∀ id ∈ h.w, id < H.length ∧ id ∉ maskIds as j hs 0) ∧
      (laterOk as j hs 0 || boundedS H.length (maskSlots as j all 0 s) (maskHeap (maskIds as j hs 0) H)) = true ∧ H1 = mergeHeap (maskIds as j hs 0) H X) ∨
   (wantedV all (maskSlots as j all 0 s) o = some false ∧ v = V.undef ∧ h.la = H.length ∧ h.w = [] ∧ H1 = H))

theorem draw_trace {all : List Oper} {as : List (List Nat)} {hs : List Hint} : ∀ (rest : List Oper) (i : Nat) (s : List V) (H : Heap) (r : List V × Heap), all.drop i = rest → drawGo P Γ call all as hs rest i s H = some r →
    ∃ (S : Nat → List V) (G : Nat → Heap) (v : Nat → V) (X : Nat → Heap), S i = s ∧ G i = H ∧ (S (i + rest.length), G (i + rest.length)) = r ∧
      ∀ (j : Nat) (o : Oper), i ≤ j → all[j]? = some o → ∃ h, hs[j]? = some h ∧ StepAt P Γ call all as hs j o h (S j) (G j) (v j) (X j) (S (j + 1)) (G (j + 1))
  | [], i, s, H, r, hd, h => by
    simp only [drawGo, Option.some.injEq] at h
    subst h
    refine ⟨fun _ => s, fun _ => H, fun _ => .junk, fun _ => [], rfl, rfl, rfl, fun j o hj ho => ?_⟩
    have : all.length ≤ i := by simpa using hd
    have := (List.getElem?_eq_some_iff.1 ho).1
    omega
  | o :: rest, i, s, H, r, hd, h => by
    have ho : all[i]? = some o := by
      have := congrArg List.head? hd
      simpa [List.head?_drop] using this
    have hrest : all.drop (i + 1) = rest := by
      have := congrArg List.tail hd
      simpa using this
    have key : ∀ (hh : Hint) (v : V) (X : Heap) (s1 : List V) (H1 : Heap), hs[i]? = some hh → drawGo P Γ call all as hs rest (i + 1) s1 H1 = some r → StepAt P Γ call all as hs i o hh s H v X s1 H1 →
        ∃ (S : Nat → List V) (G : Nat → Heap) (v : Nat → V) (X : Nat → Heap), S i = s ∧ G i = H ∧ (S (i + (o :: rest).length), G (i + (o :: rest).length)) = r ∧
          ∀ (j : Nat) (o : Oper), i ≤ j → all[j]? = some o → ∃ h, hs[j]? = some h ∧ StepAt P Γ call all as hs j o h (S j) (G j) (v j) (X j) (S (j + 1)) (G (j + 1)) := by
      intro hh v X s1 H1 hhs hgo hst
      obtain ⟨S, G, v', X', h1, h2, h3, h4⟩ := draw_trace rest (i + 1) s1 H1 r hrest hgo
      refine ⟨fun j => if j = i then s else S j, fun j => if j = i then H else G j, fun j => if j = i then v else v' j, fun j => if j = i then X else X' j, by simp, by simp, ?_, fun j o' hj ho' => ?_⟩
      · simp only [List.length_cons]
        rw [if_neg (by omega), if_neg (by omega), ← h3, show i + (rest.length + 1) = i + 1 + rest.length by omega]
      · by_cases hji : j = i
        · subst hji
          rw [ho] at ho'
          cases ho'
          refine ⟨hh, hhs, ?_⟩
          simp only [if_true, if_neg (show ¬ j + 1 = j by omega), h1, h2]
          exact hst
        · obtain ⟨h, g1, g2⟩ := h4 j o' (by omega) ho'
          refine ⟨h, g1, ?_⟩
          simp only [if_neg hji, if_neg (show ¬ j + 1 = i by omega)]
          exact g2
    simp only [drawGo] at h
    split at h
    · rename_i hh hw hhs
      split at h
      · rename_i v X hop
        split at h
        · rename_i hc
          obtain ⟨c1, c2, c3, c4, c5⟩ := hc
          refine key hh v X _ _ hhs h ⟨rfl, c1, .inl ⟨hw, hop, c2, c3, fun id hid => ?_, c5, rfl⟩⟩
          have := (List.all_eq_true.1 c4) id hid
          simpa using this
        · cases h
      · cases h
    · rename_i hh hw hhs
      split at h
      · rename_i hc
        obtain ⟨c1, c2, c3⟩ := hc
        exact key hh _ [] _ _ hhs h ⟨rfl, c1, .inr ⟨hw, rfl, c2, c3, rfl⟩⟩
      · cases h
    · cases h
end

theorem laterOk_spec {as : List (List Nat)} {i : Nat} : ∀ (hs : List Hint) (j : Nat), laterOk as i hs j = true → ∀ (q : Nat) (h : Hint), hs[q]? = some h → i < j + q → unordered as i (j + q) = true → h.la = h.lb
  | [], j, _, q, h, hq, _, _ => by simp at hq
  | h0 :: hs, j, hl, q, h, hq, hi, hu => by
    simp only [laterOk, Bool.and_eq_true, Bool.or_eq_true, decide_eq_true_eq, Bool.not_eq_true', beq_iff_eq] at hl
    cases q with
    | zero =>
      simp only [List.getElem?_cons_zero, Option.some.injEq] at hq
      subst hq
      simp only [Nat.add_zero] at hi hu
      rcases hl.1 with (h1 | h1) | h1
      · omega
      · rw [h1] at hu; cases hu
      · exact h1
    | succ q => exact laterOk_spec hs (j + 1) hl.2 q h (by simpa using hq) (by omega) (by rw [show j + 1 + q = j + (q + 1) by omega]; exact hu)

theorem unordered_symm {as : List (List Nat)} {i j : Nat} : unordered as i j = unordered as j i := by
  unfold unordered
  rw [Bool.and_assoc, Bool.and_assoc, Bool.and_comm (!(as.getD i []).contains j), show (i != j) = (j != i) by
    rw [Bool.eq_iff_iff]; simp; omega]

/-- What is known of a run in order. -/
structure Run (P : Program) (Γ : Env) (call : CallF) (all : List Oper) (as : List (List Nat)) (hs : List Hint) (S : Nat → List V) (G : Nat → Heap) (v : Nat → V) (X : Nat → Heap) : Prop where
  step : ∀ (j : Nat) (o : Oper), all[j]? = some o → ∃ h, hs[j]? = some h ∧ StepAt P Γ call all as hs j o h (S j) (G j) (v j) (X j) (S (j + 1)) (G (j + 1))
  hl : hs.length ≤ all.length
  anc : AncOk all as
  lt : ∀ (j k : Nat), k ∈ as.getD j [] → k < j
  inj : ∀ (i j : Nat) (a b : Oper) (t : Nat), all[i]? = some a → all[j]? = some b → a.dst = some t → b.dst = some t → i = j

def wAt (hs : List Hint) (j id : Nat) : Bool := match hs[j]? with
  | some h => wId h id
  | none => false
def dAt (all : List Oper) (j t : Nat) : Bool := match all[j]? with
  | some o => o.dst == some t
  | none => false

section
variable {P : Program} {Γ : Env} {call : CallF} {all : List Oper} {as : List (List Nat)} {hs : List Hint} {S : Nat → List V} {G : Nat → Heap} {v : Nat → V} {X : Nat → Heap}

theorem Run.lens (R : Run P Γ call all as hs S G v X) {j : Nat} {o : Oper} (ho : all[j]? = some o) : ∃ h, hs[j]? = some h ∧ h.lb = (G j).length ∧ h.la = (G (j + 1)).length ∧ h.lb ≤ h.la ∧ (S (j + 1)).length = (S j).length := by
  obtain ⟨h, h1, h2, h3, h4⟩ := R.step j o ho
  refine ⟨h, h1, h3, ?_⟩
  have hS : (S (j + 1)).length = (S j).length := by rw [h2]; cases o.dst <;> simp [putS]
  rcases h4 with ⟨_, hop, hla, _, _, _, hG⟩ | ⟨_, _, hla, _, hG⟩
  · have hk := (op_keeps hop).1
    rw [maskHeap_length] at hk
    refine ⟨by rw [hG, mergeHeap_length, hla], ?_, hS⟩
    rw [h3, hla]
    exact hk
  · exact ⟨by rw [hG, hla], by omega, hS⟩

theorem Run.mono (R : Run P Γ call all as hs S G v X) {i : Nat} : ∀ {j : Nat}, i ≤ j → j ≤ all.length → (G i).length ≤ (G j).length
  | 0, h, _ => by rw [show i = 0 by omega]; exact Nat.le_refl _
  | j + 1, h, hj => by
    rcases Nat.lt_or_ge j i with hi | hi
    · rw [show i = j + 1 by omega]; exact Nat.le_refl _
    · have := R.mono hi (by omega)
      obtain ⟨h, _, h2, h3, h4, _⟩ := R.lens (List.getElem?_eq_getElem (show j < all.length by omega))
      omega
theorem Run.slen (R : Run P Γ call all as hs S G v X) : ∀ {j : Nat}, j ≤ all.length → (S j).length = (S 0).length
  | 0, _ => rfl
  | j + 1, hj => by
    obtain ⟨h, _, _, _, _, h5⟩ := R.lens (List.getElem?_eq_getElem (show j < all.length by omega))
    rw [h5, R.slen (by omega)]

/-- What an operation writes or makes is not hidden from it. -/
theorem Run.seen (R : Run P Γ call all as hs S G v X) {i : Nat} (hi : i < all.length) {id : Nat} (hw : wAt hs i id = true) : id ∉ maskIds as i hs 0 := by
  obtain ⟨h, h1, h2, h3, h4⟩ := R.step i all[i] (List.getElem?_eq_getElem hi)
  obtain ⟨h', h1', hlb, hla, hle, _⟩ := R.lens (List.getElem?_eq_getElem hi)
  rw [h1] at h1'; cases h1'
  unfold wAt at hw
  rw [h1] at hw
  simp only [wId, Bool.or_eq_true, List.contains_iff_mem, Bool.and_eq_true, decide_eq_true_eq] at hw
  rcases hw with hw | hw
  · rcases h4 with ⟨_, _, _, _, hck, _⟩ | ⟨_, _, _, hnil, _⟩
    · exact (hck id hw).2
    · rw [hnil] at hw; simp at hw
  · intro hm
    obtain ⟨q, hq, g1, g2, g3⟩ := (maskIds_mem hs 0).1 hm
    rw [Nat.zero_add] at g2
    -- q is not i, and made or wrote the block
    have hqi : q ≠ i := by
      intro hx; subst hx; simp [unordered] at g2
    have hqn : q < all.length := Nat.lt_of_lt_of_le (List.getElem?_eq_some_iff.1 g1).1 R.hl
    · obtain ⟨hh, k1, k2, k3, k4⟩ := R.step q all[q] (List.getElem?_eq_getElem hqn)
      obtain ⟨hh', k1', qlb, qla, qle, _⟩ := R.lens (List.getElem?_eq_getElem hqn)
      rw [k1] at k1'; cases k1'
      rw [g1] at k1; cases k1
      simp only [wId, Bool.or_eq_true, List.contains_iff_mem, Bool.and_eq_true, decide_eq_true_eq] at g3
      rcases g3 with g3 | g3
      · rcases k4 with ⟨_, _, _, _, hck, _⟩ | ⟨_, _, _, hnil, _⟩
        · refine (hck id g3).2 ((maskIds_mem hs 0).2 ⟨i, h, h1, ?_, ?_⟩)
          · rw [Nat.zero_add, unordered_symm]; exact g2
          · simp only [wId, Bool.or_eq_true, List.contains_iff_mem, Bool.and_eq_true, decide_eq_true_eq]
            exact .inr hw
        · rw [hnil] at g3; simp at g3
      · rcases Nat.lt_or_gt_of_ne hqi with hlt | hgt
        · have := R.mono (i := q + 1) (j := i) hlt (by omega)
          omega
        · have := R.mono (i := i + 1) (j := q) hgt (by omega)
          omega

/-- The content of a block when the operations of Y have been done. -/
def gAt (hs : List Hint) (G : Nat → Heap) (Y : Nat → Bool) (n id : Nat) : Option Blk := lastOf (fun j => Y j && wAt hs j id) (fun j => (G (j + 1)).getD id none) ((G 0).getD id none) n
def sAt (all : List Oper) (S : Nat → List V) (v : Nat → V) (Y : Nat → Bool) (n t : Nat) : V := lastOf (fun j => Y j && dAt all j t) v (getS (S 0) t) n
def gHeap (hs : List Hint) (G : Nat → Heap) (Y : Nat → Bool) (n N : Nat) : Heap := (List.range N).map (gAt hs G Y n)
def sList (all : List Oper) (S : Nat → List V) (v : Nat → V) (Y : Nat → Bool) (n : Nat) : List V := (List.range (S 0).length).map (sAt all S v Y n)

theorem Run.order (R : Run P Γ call all as hs S G v X) : ∀ {i : Nat} (id : Nat), i ≤ all.length → gAt hs G (fun _ => true) i id = (G i).getD id none
  | 0, id, _ => rfl
  | i + 1, id, hi => by
    have ih := R.order (i := i) id (by omega)
    unfold gAt at ih ⊢
    simp only [lastOf, Bool.true_and] at ih ⊢
    split
    · rfl
    · rename_i hw
      rw [ih]
      obtain ⟨h, h1, h2, h3, h4⟩ := R.step i all[i] (List.getElem?_eq_getElem hi)
      obtain ⟨h', h1', hlb, hla, hle, _⟩ := R.lens (List.getElem?_eq_getElem hi)
      rw [h1] at h1'; cases h1'
      simp only [wAt, h1, wId, Bool.or_eq_true, List.contains_iff_mem, Bool.and_eq_true, decide_eq_true_eq, not_or, not_and, Nat.not_lt] at hw
      rcases h4 with ⟨_, hop, hla', hws, _, _, hG⟩ | ⟨_, _, _, _, hG⟩
      · rcases Nat.lt_or_ge id (G i).length with hl | hl
        · have hk := op_keeps hop
          unfold Keeps at hk
          rw [maskHeap_length] at hk
          have hlX : id < (X i).length := by omega
          rw [hG, mergeHeap_getD _ _ _ _ hlX]
          split
          · rfl
          · rename_i hm
            have := hk.2 id hl (by rw [← hws]; exact hw.1)
            rw [List.getD_eq_getElem?_getD, List.getD_eq_getElem?_getD, this, maskHeap_get, List.getElem?_eq_getElem hl, Option.map_some, if_neg hm]
        · have := hw.2 (by omega)
          rw [List.getD_eq_getElem?_getD, List.getD_eq_getElem?_getD, List.getElem?_eq_none hl, List.getElem?_eq_none (by omega)]
      · rw [hG]

theorem Run.orderS (R : Run P Γ call all as hs S G v X) : ∀ {i : Nat} (t : Nat), i ≤ all.length → t < (S 0).length → sAt all S v (fun _ => true) i t = getS (S i) t
  | 0, t, _, _ => rfl
  | i + 1, t, hi, ht => by
    have ih := R.orderS (i := i) t (by omega) ht
    unfold sAt at ih ⊢
    simp only [lastOf, Bool.true_and] at ih ⊢
    obtain ⟨h, h1, h2, _⟩ := R.step i all[i] (List.getElem?_eq_getElem hi)
    have hlen := R.slen (j := i) (by omega)
    rw [h2]
    have hd : dAt all i t = (all[i].dst == some t) := by unfold dAt; rw [List.getElem?_eq_getElem hi]
    rw [hd]
    cases hdst : all[i].dst with
    | none => simpa [putS] using ih
    | some d =>
      by_cases hdt : d = t
      · subst hdt
        simp [putS, getS, hlen, ht]
      · simp only [putS]
        rw [if_neg (by simpa using hdt), ih]
        unfold getS
        rw [List.getD_eq_getElem?_getD, List.getD_eq_getElem?_getD, List.getElem?_set_ne hdt]

def Closed (as : List (List Nat)) (Y : Nat → Bool) : Prop := ∀ j, Y j = true → ∀ k ∈ as.getD j [], Y k = true

/-- Of those that are ordered with i, the ones before it are done and no other. -/
theorem Run.done (R : Run P Γ call all as hs S G v X) {Y : Nat → Bool} (hY : Closed as Y) {i j : Nat} (hi : Y i = false) (hanc : ∀ k ∈ as.getD i [], Y k = true) (hu : unordered as i j = false) : Y j = decide (j < i) := by
  unfold unordered at hu
  simp only [Bool.and_eq_false_iff, bne_eq_false_iff_eq, Bool.not_eq_eq_eq_not, Bool.not_false, List.contains_iff_mem] at hu
  rcases hu with (rfl | hu) | hu
  · rw [hi]; simp
  · rw [hanc j hu]
    have := R.lt i j hu
    simp [this]
  · have := R.lt j i hu
    cases hj : Y j with
    | false => simp; omega
    | true => rw [hY j hj i hu] at hi; cases hi

theorem Run.atG (R : Run P Γ call all as hs S G v X) {Y : Nat → Bool} (hY : Closed as Y) {i : Nat} (hin : i < all.length) (hi : Y i = false) (hanc : ∀ k ∈ as.getD i [], Y k = true) {id : Nat} (hid : id ∉ maskIds as i hs 0) :
    gAt hs G Y all.length id = (G i).getD id none := by
  have hw : ∀ j, j < all.length → wAt hs j id = true → Y j = decide (j < i) := fun j hj hw => by
    refine R.done hY hi hanc ?_
    cases hu : unordered as i j with
    | false => rfl
    | true =>
      unfold wAt at hw
      split at hw
      · rename_i h hh
        exact absurd ((maskIds_mem hs 0).2 ⟨j, h, hh, by rw [Nat.zero_add]; exact hu, hw⟩) hid
      · cases hw
  rw [← R.order id (Nat.le_of_lt hin)]
  unfold gAt
  rw [lastOf_cut (i := i) (Nat.le_of_lt hin) fun j h1 h2 => ?_]
  · refine lastOf_congr fun j hj => ?_
    cases hwj : wAt hs j id with
    | false => simp
    | true => rw [hw j (by omega) hwj]; simp [hj]
  · cases hwj : wAt hs j id with
    | false => simp
    | true => rw [hw j h2 hwj]; simp; omega

theorem Run.atS (R : Run P Γ call all as hs S G v X) {Y : Nat → Bool} (hY : Closed as Y) {i : Nat} (hin : i < all.length) (hi : Y i = false) (hanc : ∀ k ∈ as.getD i [], Y k = true) {t : Nat} (ht : t < (S 0).length)
    (hd : ∀ (q : Nat) (o : Oper), all[q]? = some o → unordered as i (0 + q) = true → o.dst ≠ some t) : sAt all S v Y all.length t = getS (S i) t := by
  have hw : ∀ j, j < all.length → dAt all j t = true → Y j = decide (j < i) := fun j hj hw => by
    refine R.done hY hi hanc ?_
    cases hu : unordered as i j with
    | false => rfl
    | true =>
      unfold dAt at hw
      rw [List.getElem?_eq_getElem hj] at hw
      exact absurd (by simpa using hw) (hd j all[j] (List.getElem?_eq_getElem hj) (by rw [Nat.zero_add]; exact hu))
  rw [← R.orderS t (Nat.le_of_lt hin) ht]
  unfold sAt
  rw [lastOf_cut (i := i) (Nat.le_of_lt hin) fun j h1 h2 => ?_]
  · refine lastOf_congr fun j hj => ?_
    cases hwj : dAt all j t with
    | false => simp
    | true => rw [hw j (by omega) hwj]; simp [hj]
  · cases hwj : dAt all j t with
    | false => simp
    | true => rw [hw j h2 hwj]; simp; omega

def upd (Y : Nat → Bool) (i : Nat) : Nat → Bool := fun j => decide (j = i) || Y j

theorem gAt_same {Y : Nat → Bool} {i n id : Nat} (hw : wAt hs i id = false) : gAt hs G (upd Y i) n id = gAt hs G Y n id := by
  unfold gAt
  refine lastOf_congr fun j hj => ?_
  by_cases hji : j = i
  · subst hji; simp [hw]
  · simp [upd, hji]
theorem sAt_same {Y : Nat → Bool} {i n t : Nat} (hw : dAt all i t = false) : sAt all S v (upd Y i) n t = sAt all S v Y n t := by
  unfold sAt
  refine lastOf_congr fun j hj => ?_
  by_cases hji : j = i
  · subst hji; simp [hw]
  · simp [upd, hji]

theorem Run.newG (R : Run P Γ call all as hs S G v X) {Y : Nat → Bool} (hY : Closed as Y) {i : Nat} (hin : i < all.length) (hi : Y i = false) (hanc : ∀ k ∈ as.getD i [], Y k = true) {id : Nat} (hw : wAt hs i id = true) :
    gAt hs G (upd Y i) all.length id = (G (i + 1)).getD id none := by
  unfold gAt
  refine lastOf_at (val := fun j => (G (j + 1)).getD id none) hin (by simp [upd, hw]) fun j h1 h2 => ?_
  cases hwj : wAt hs j id with
  | false => simp
  | true =>
    have hji : ¬ j = i := by omega
    simp only [upd, hji, decide_false, Bool.false_or, Bool.and_true]
    cases hyj : Y j with
    | false => rfl
    | true =>
      exfalso
      have hu : unordered as i j = true := by
        cases hu : unordered as i j with
        | true => rfl
        | false =>
          have := R.done hY hi hanc hu
          rw [hyj] at this
          have := of_decide_eq_true this.symm
          omega
      have hm := R.seen hin hw
      unfold wAt at hwj
      split at hwj
      · rename_i h hh
        exact hm ((maskIds_mem hs 0).2 ⟨j, h, hh, by rw [Nat.zero_add]; exact hu, hwj⟩)
      · cases hwj
theorem Run.newS (R : Run P Γ call all as hs S G v X) {Y : Nat → Bool} {i : Nat} (hin : i < all.length) {t : Nat} (hd : all[i].dst = some t) : sAt all S v (upd Y i) all.length t = v i := by
  have hdi : dAt all i t = true := by unfold dAt; rw [List.getElem?_eq_getElem hin]; simp [hd]
  unfold sAt
  refine lastOf_at (val := v) hin (by simp [upd, hdi]) fun j h1 h2 => ?_
  cases hwj : dAt all j t with
  | false => simp
  | true =>
    exfalso
    unfold dAt at hwj
    rw [List.getElem?_eq_getElem h2] at hwj
    have := R.inj i j all[i] all[j] t (List.getElem?_eq_getElem hin) (List.getElem?_eq_getElem h2) hd (by simpa using hwj)
    omega
end
end Go.Ev

/-
  REGIONS IN ANY ORDER, third part (own work).
-/
set_option linter.unusedSimpArgs false
set_option linter.unusedVariables false
namespace Go.Ev
open Go

section
variable {P : Program} {Γ : Env} {call : CallF}

theorem hintsGo_length {all : List Oper} : ∀ (ops : List Oper) (s : List V) (H : Heap) (hs : List Hint), hintsGo P Γ call all ops s H = some hs → hs.length = ops.length
  | [], s, H, hs, h => by simp only [hintsGo, Option.some.injEq] at h; subst h; rfl
  | o :: ops, s, H, hs, h => by
    simp only [hintsGo] at h
    split at h
    · split at h
      · obtain ⟨l, hl, rfl⟩ := Option.map_eq_some_iff.1 h
        simp [hintsGo_length ops _ _ _ hl]
      · cases h
    · obtain ⟨l, hl, rfl⟩ := Option.map_eq_some_iff.1 h
      simp [hintsGo_length ops _ _ _ hl]
    · cases h

variable {all : List Oper} {as : List (List Nat)} {hs : List Hint} {S : Nat → List V} {G : Nat → Heap} {v : Nat → V} {X : Nat → Heap} {w0 : World} {B : Nat}

structure DInv (all : List Oper) (as : List (List Nat)) (hs : List Hint) (S : Nat → List V) (G : Nat → Heap) (v : Nat → V) (w0 : World) (B : Nat) (e0 : Emb) (ws : World) (df : List Deferred) (Y : Nat → Bool) (a : Act) (w : World) (e : Emb) : Prop where
  stp : Stp w0 B e0 (G 0) ws e (gHeap hs G Y all.length (G all.length).length) w
  rep : RepL w0 B e (sList all S v Y all.length) a.tmps.toList
  dfs : a.defers = df
  dom : ∀ id eb, e id = some eb → id < (G 0).length ∨ ∃ j, Y j = true ∧ j < all.length ∧ (G j).length ≤ id ∧ id < (G (j + 1)).length
  closed : Closed as Y

theorem gHeap_get {Y : Nat → Bool} {n N id : Nat} {b : Blk} : (gHeap hs G Y n N)[id]? = some (some b) ↔ id < N ∧ gAt hs G Y n id = some b := by
  unfold gHeap
  rw [List.getElem?_map]
  rcases Nat.lt_or_ge id N with h | h
  · rw [List.getElem?_range h]; simp [h]
  · rw [List.getElem?_eq_none (by simpa using h)]; simp; omega
theorem gHeap_length {Y : Nat → Bool} {n N : Nat} : (gHeap hs G Y n N).length = N := by simp [gHeap]

theorem Run.put (R : Run P Γ call all as hs S G v X) {Y : Nat → Bool} {i : Nat} {a : Act} {e e' : Emb} (hin : i < all.length) (hup : ∀ id eb, e id = some eb → e' id = some eb) (hz : ∀ b o, e.frz b = some o → e'.frz b = some o)
    (h : RepL w0 B e (sList all S v Y all.length) a.tmps.toList) {v' : Value} (hv : Rep w0 B e' (v i) v') :
    RepL w0 B e' (sList all S v (upd Y i) all.length) (a.put all[i].dst v').tmps.toList := by
  have hlen : (S 0).length = a.tmps.toList.length := by simpa [sList] using h.1
  have hold : ∀ t (ht : t < (S 0).length) (ht' : t < a.tmps.toList.length), Rep w0 B e' (sAt all S v Y all.length t) a.tmps.toList[t] := fun t ht ht' => by
    have := h.2 t (by simpa [sList] using ht) ht'
    simp only [sList, List.getElem_map, List.getElem_range] at this
    exact this.mono hup hz
  generalize hdst : all[i].dst = dd
  rw [put_tmps]
  refine ⟨?_, fun t h1 h2 => ?_⟩
  · cases dd <;> simp [sList, hlen]
  · have ht : t < (S 0).length := by simpa [sList] using h1
    simp only [sList, List.getElem_map, List.getElem_range]
    have hd : dAt all i t = (dd == some t) := by unfold dAt; rw [List.getElem?_eq_getElem hin]; simp only [hdst]
    cases dd with
    | none =>
      rw [sAt_same (by rw [hd]; rfl)]
      exact hold t ht (by omega)
    | some d =>
      by_cases hdt : d = t
      · subst hdt
        rw [R.newS hin hdst]
        simpa using hv
      · rw [sAt_same (by rw [hd]; simpa using hdt)]
        simp only [List.getElem_set_ne hdt]
        exact hold t ht (by omega)

theorem upd_closed {Y : Nat → Bool} {i : Nat} (hY : Closed as Y) (hanc : ∀ k ∈ as.getD i [], Y k = true) : Closed as (upd Y i) := by
  intro j hj k hk
  simp only [upd, Bool.or_eq_true, decide_eq_true_eq] at hj ⊢
  right
  rcases hj with rfl | hj
  · exact hanc k hk
  · exact hY j hj k hk

theorem boundedS_spec {n : Nat} {s : List V} {H : Heap} (h : boundedS n s H = true) : (∀ r ∈ refsL s, r < n) ∧ ∀ (id : Nat) (b : Blk), H[id]? = some (some b) → ∀ r ∈ b.refs, r < n := by
  simp only [boundedS, Bool.and_eq_true, List.all_eq_true, decide_eq_true_eq] at h
  exact ⟨h.1, fun id b hb r hr => h.2 _ (List.mem_of_getElem? hb) r hr⟩
theorem refsL_mem {s : List V} {t : Nat} {x : V} (h : s[t]? = some x) {r : Nat} (hr : r ∈ x.refs) : r ∈ refsL s := by
  induction s generalizing t with
  | nil => simp at h
  | cons y s ih =>
    simp only [refsL, List.mem_append]
    cases t with
    | zero => simp at h; subst h; exact .inl hr
    | succ t => exact .inr (ih (by simpa using h))

theorem draw_step (hc : CallOk P Γ call) (hg : GlobOk Γ w0 B) (R : Run P Γ call all as hs S G v X) {e0 : Emb} {ws : World} {df : List Deferred} {Y : Nat → Bool} {a : Act} {w : World} {e : Emb} (I : DInv all as hs S G v w0 B e0 ws df Y a w e)
    {i : Nat} (hin : i < all.length) (hi : Y i = false) (hanc : ∀ k ∈ as.getD i [], Y k = true) {ops : Array Oper} (hops : ops.toList = all) {Q : Exit → Act → World → Prop} {K : Act → World → Prop}
    (hK : ∀ a' w' e', DInv all as hs S G v w0 B e0 ws df (upd Y i) a' w' e' → K a' w') : wpOp P ops Q i K a w := by
  have hiops : ops[i]? = some all[i] := by
    rw [← Array.getElem?_toList, hops]; exact List.getElem?_eq_getElem hin
  unfold wpOp
  rw [hiops]
  simp only
  obtain ⟨h, h1, h2, h3, h4⟩ := R.step i all[i] (List.getElem?_eq_getElem hin)
  obtain ⟨h', h1', hlb, hla, hle, _⟩ := R.lens (List.getElem?_eq_getElem hin)
  rw [h1] at h1'; cases h1'
  have hm0 : (G 0).length ≤ (G i).length := R.mono (Nat.zero_le _) (by omega)
  have hmN : (G (i + 1)).length ≤ (G all.length).length := R.mono hin (Nat.le_refl _)
  have hwAt : ∀ id, wAt hs i id = wId h id := fun id => by unfold wAt; rw [h1]
  -- the names above: none is used yet, unless an operation behind made some
  have hnone : ∀ id eb, (G i).length ≤ id → e id = some eb → ∃ j, i < j ∧ Y j = true ∧ j < all.length ∧ (G j).length ≤ id ∧ id < (G (j + 1)).length := by
    intro id eb hid he
    rcases I.dom id eb he with hlt | ⟨j, j1, j2, j3, j4⟩
    · omega
    · rcases Nat.lt_trichotomy j i with hj | rfl | hj
      · have := R.mono (i := j + 1) (j := i) hj (by omega); omega
      · rw [hi] at j1; cases j1
      · exact ⟨j, hj, j1, j2, j3, j4⟩
  have hslots : ∀ t (ht : t < (S 0).length) (ht' : t < a.tmps.toList.length), Rep w0 B e (sAt all S v Y all.length t) a.tmps.toList[t] := fun t ht ht' => by
    have := I.rep.2 t (by simpa [sList] using ht) ht'
    simpa only [sList, List.getElem_map, List.getElem_range] using this
  have hslen : (S 0).length = a.tmps.toList.length := by simpa [sList] using I.rep.1
  have hSi : (S i).length = (S 0).length := R.slen (Nat.le_of_lt hin)
  -- a slot as the operation sees it
  have hsee : ∀ t, t < (S 0).length → (maskSlots as i all 0 (S i))[t]? = some .junk ∨ (maskSlots as i all 0 (S i))[t]? = some (sAt all S v Y all.length t) := by
    intro t ht
    by_cases hex : ∃ (q : Nat) (o : Oper), all[q]? = some o ∧ unordered as i (0 + q) = true ∧ o.dst = some t
    · obtain ⟨q, o, q1, q2, q3⟩ := hex
      exact .inl (maskSlots_in all 0 (S i) q o q1 q2 q3 (by omega))
    · have hd : ∀ (q : Nat) (o : Oper), all[q]? = some o → unordered as i (0 + q) = true → o.dst ≠ some t := fun q o q1 q2 q3 => hex ⟨q, o, q1, q2, q3⟩
      right
      rw [maskSlots_out all 0 (S i) hd, R.atS I.closed hin hi hanc ht hd]
      unfold getS
      rw [List.getD_eq_getElem?_getD, List.getElem?_eq_getElem (by omega)]
      rfl
  -- the blocks as it sees them
  have hHm : ∀ (id : Nat) (b : Blk), (maskHeap (maskIds as i hs 0) (G i))[id]? = some (some b) → id < (G i).length ∧ (gHeap hs G Y all.length (G all.length).length)[id]? = some (some b) := by
    intro id b hb
    obtain ⟨hm, hb'⟩ := maskHeap_live.1 hb
    have hlt := (List.getElem?_eq_some_iff.1 hb').1
    refine ⟨hlt, gHeap_get.2 ⟨by have := R.mono (Nat.le_of_lt hin) (Nat.le_refl all.length); omega, ?_⟩⟩
    rw [R.atG I.closed hin hi hanc hm, List.getD_eq_getElem?_getD, hb']
    rfl
  -- with a guard not met
  have hrest : (∀ (V0 : wantedV all (maskSlots as i all 0 (S i)) all[i] = some false), v i = V.undef → h.la = (G i).length → h.w = [] → K (a.put all[i].dst undef) w) := by
    intro _ hv hla' hw
    have hno : ∀ id, wAt hs i id = false := fun id => by
      rw [hwAt]; simp only [wId, hw, List.contains_nil, Bool.false_or, Bool.and_eq_false_iff, decide_eq_false_iff_not]; omega
    refine hK _ _ e ⟨?_, R.put hin (fun _ _ he => he) (fun _ _ he => he) I.rep (by rw [hv]; exact undef_ok), by rw [put_def]; exact I.dfs, fun id eb he => ?_, upd_closed I.closed hanc⟩
    · have : gHeap hs G (upd Y i) all.length (G all.length).length = gHeap hs G Y all.length (G all.length).length := by
        unfold gHeap
        exact List.map_congr_left fun id _ => gAt_same (hno id)
      rw [this]
      exact I.stp
    · rcases I.dom id eb he with g | ⟨j, j1, j2⟩
      · exact .inl g
      · exact .inr ⟨j, by simp [upd, j1], j2⟩
  -- what holds in the part that it sees
  have hpart : (laterOk as i hs 0 || boundedS (G i).length (maskSlots as i all 0 (S i)) (maskHeap (maskIds as i hs 0) (G i))) = true →
      HS w0 B (restrE (G i).length e) (maskHeap (maskIds as i hs 0) (G i)) w ∧ RepL w0 B (restrE (G i).length e) (maskSlots as i all 0 (S i)) a.tmps.toList := by
    intro hck
    have hre0 : laterOk as i hs 0 = true → ∀ id, (if id < (G i).length then e id else none) = e id := fun hlater id => by
      split
      · rfl
      · rename_i hid
        cases he : e id with
        | none => rfl
        | some eb =>
          exfalso
          obtain ⟨j, j1, j2, j3, j4, j5⟩ := hnone id eb (by omega) he
          obtain ⟨hj, g1, g2, g3, g4, _⟩ := R.lens (List.getElem?_eq_getElem j3)
          have hu : unordered as i j = true := by
            cases hu : unordered as i j with
            | true => rfl
            | false =>
              have := R.done I.closed hi hanc hu
              rw [j2] at this
              have := of_decide_eq_true this.symm
              omega
          have := laterOk_spec hs 0 hlater j hj g1 (by omega) (by rw [Nat.zero_add]; exact hu)
          omega
    have hre : laterOk as i hs 0 = true → restrE (G i).length e = e := fun hlater => by
      have hloc : (restrE (G i).length e).loc = e.loc := by
       funext id
       rw [restrE_at]
       exact hre0 hlater id
      calc restrE (G i).length e = ⟨(restrE (G i).length e).loc, e.frz⟩ := rfl
        _ = ⟨e.loc, e.frz⟩ := by rw [hloc]
        _ = e := rfl
    have hV : ∀ (t : Nat) (x : V) (x' : Value), (maskSlots as i all 0 (S i))[t]? = some x → Rep w0 B e x x' → Rep w0 B (restrE (G i).length e) x x' := by
      intro t x x' hx hr
      rcases Bool.or_eq_true _ _ ▸ hck with hl | hb
      · rw [hre hl]; exact hr
      · exact hr.restr fun r hr' => (boundedS_spec hb).1 r (refsL_mem hx hr')
    have hB : ∀ (id : Nat) (b : Blk) (eb : EB) (o : Obj), (maskHeap (maskIds as i hs 0) (G i))[id]? = some (some b) → BlkOk w0 B e b eb o → BlkOk w0 B (restrE (G i).length e) b eb o := by
      intro id b eb o hx hr
      rcases Bool.or_eq_true _ _ ▸ hck with hl | hb
      · rw [hre hl]; exact hr
      · exact hr.restr fun r hr' => (boundedS_spec hb).2 id b hx r hr'
    refine ⟨⟨I.stp.hs.old, I.stp.hs.szB, fun id eb he => ?_, fun id b hb => ?_, fun x y bx by' ex ey hx hy hex hey heq => ?_, I.stp.hs.frz, fun x bx ex hx hex => ?_⟩, ?_, fun t ht ht' => ?_⟩
    · rw [restrE_at] at he
      split at he
      · rw [maskHeap_length]
        exact ⟨by assumption, (I.stp.hs.dom id eb he).2⟩
      · cases he
    · obtain ⟨g1, g2⟩ := hHm id b hb
      obtain ⟨eb, o, he, ho, hok⟩ := I.stp.hs.live id b g2
      exact ⟨eb, o, by rw [restrE_at]; rw [if_pos g1]; exact he, ho, hB id b eb o hb hok⟩
    · rw [restrE_at] at hex hey
      rw [if_pos (hHm x bx hx).1] at hex
      rw [if_pos (hHm y by' hy).1] at hey
      exact I.stp.hs.inj x y bx by' ex ey (hHm x bx hx).2 (hHm y by' hy).2 hex hey heq
    · rw [restrE_at, if_pos (hHm x bx hx).1] at hex
      exact I.stp.hs.frl x bx ex (hHm x bx hx).2 hex
    · rw [maskSlots_length, hSi, hslen]
    · have ht0 : t < (S 0).length := by rw [maskSlots_length] at ht; omega
      rcases hsee t ht0 with hj | hj
      · rw [List.getElem?_eq_getElem ht] at hj
        rw [Option.some.inj hj]
        exact .junk _ _
      · have hj2 := hj
        rw [List.getElem?_eq_getElem ht] at hj
        rw [Option.some.inj hj]
        exact hV t _ _ hj2 (hslots t ht0 ht')
  rcases h4 with ⟨hw, hop, hlaX, hws, hck, hlater, hG⟩ | ⟨hw, hv, hla', hwn, hG⟩
  · obtain ⟨hsm, hrm⟩ := hpart hlater
    rw [wanted_ok (ops := ops) hrm (by rw [hops]; exact hw), if_pos rfl]
    left
    refine op_ok hc hg hsm hrm hop _ _ fun v' w' e1' hst hr => ?_
    dsimp only at hst hr
    have hkeep := op_keeps hop
    unfold Keeps at hkeep
    rw [maskHeap_length] at hkeep
    dsimp only at hkeep
    have hXl : (X i).length = (G (i + 1)).length := by omega
    have hnocreate : ∀ id eb, (G i).length ≤ id → id < (X i).length → e id = some eb → False := fun id eb g1 g2 he => by
      obtain ⟨j, j1, j2, j3, j4, j5⟩ := hnone id eb g1 he
      have := R.mono (i := i + 1) (j := j) j1 (by omega)
      omega
    obtain ⟨m1, m2, m3⟩ := mix (G' := gHeap hs G (upd Y i) all.length (G all.length).length) I.stp hst (fun id b hb => (hHm id b hb).2)
      (fun id eb he => by rw [restrE_at] at he; split at he <;> first | exact he | cases he) rfl
      (by rw [maskHeap_length]; exact hm0) (by rw [gHeap_length]; omega)
      (fun id g1 g2 => by
        rw [maskHeap_length] at g1
        cases he : e id with
        | none => rfl
        | some eb => exact (hnocreate id eb g1 g2 he).elim)
      (by rw [gHeap_length, gHeap_length]) (fun id b hb => by
        obtain ⟨b1, b2⟩ := gHeap_get.1 hb
        cases hwi : wAt hs i id with
        | true =>
          left
          rw [R.newG I.closed hin hi hanc hwi] at b2
          have hm := R.seen hin hwi
          have hidX : id < (X i).length := by
            rw [hwAt] at hwi
            simp only [wId, Bool.or_eq_true, List.contains_iff_mem, Bool.and_eq_true, decide_eq_true_eq] at hwi
            rcases hwi with hwi | hwi
            · have := (hck id hwi).1; omega
            · omega
          rw [hG, mergeHeap_getD _ _ _ _ hidX, if_neg (by simpa using hm), List.getD_eq_getElem?_getD, List.getElem?_eq_getElem hidX] at b2
          rw [List.getElem?_eq_getElem hidX]
          simpa using b2
        | false =>
          have b3 := gAt_same (G := G) (Y := Y) (n := all.length) hwi
          rw [b3] at b2
          have hnw := hwi
          rw [hwAt] at hnw
          simp only [wId, Bool.or_eq_false_iff, List.contains_eq_mem, decide_eq_false_iff_not, Bool.and_eq_false_iff] at hnw
          by_cases hvis : id < (G i).length ∧ id ∉ maskIds as i hs 0
          · left
            have hGi := R.atG I.closed hin hi hanc hvis.2
            rw [hGi, List.getD_eq_getElem?_getD, List.getElem?_eq_getElem hvis.1] at b2
            rw [hkeep.2 id hvis.1 (by rw [← hws]; exact hnw.1)]
            refine maskHeap_live.2 ⟨hvis.2, ?_⟩
            rw [List.getElem?_eq_getElem hvis.1]
            simpa using b2
          · right
            refine ⟨gHeap_get.2 ⟨b1, b2⟩, by rw [maskHeap_length]; omega, fun b0 hb0 => ?_⟩
            obtain ⟨g1, g2⟩ := maskHeap_live.1 hb0
            exact hvis ⟨(List.getElem?_eq_some_iff.1 g2).1, g1⟩)
    refine hK _ _ _ ⟨m1, R.put hin m3 (fun b o hb => hst.fup b o hb) I.rep (hr.mono m2), by rw [put_def]; exact I.dfs, fun id eb he => ?_, upd_closed I.closed hanc⟩
    rw [mixE_at] at he
    split at he
    · rename_i hrange
      rw [maskHeap_length] at hrange
      exact .inr ⟨i, by simp [upd], hin, hrange.1, by omega⟩
    · rcases I.dom id eb he with g | ⟨j, j1, j2⟩
      · exact .inl g
      · exact .inr ⟨j, by simp [upd, j1], j2⟩
  · have hrm : RepL w0 B e (maskSlots as i all 0 (S i)) a.tmps.toList := by
      refine ⟨by rw [maskSlots_length, hSi, hslen], fun t ht ht' => ?_⟩
      have ht0 : t < (S 0).length := by rw [maskSlots_length] at ht; omega
      rcases hsee t ht0 with hj | hj
      · rw [List.getElem?_eq_getElem ht] at hj
        rw [Option.some.inj hj]
        exact .junk _ _
      · rw [List.getElem?_eq_getElem ht] at hj
        rw [Option.some.inj hj]
        exact hslots t ht0 ht'
    rw [wanted_ok (ops := ops) hrm (by rw [hops]; exact hw)]
    exact hrest hw hv hla' hwn

theorem draw_go (hc : CallOk P Γ call) (hg : GlobOk Γ w0 B) (R : Run P Γ call all as hs S G v X) (hbk : backward all 0 = true) {e0 : Emb} {ws : World} {df : List Deferred} {ops : Array Oper} (hops : ops.toList = all) {Q : Exit → Act → World → Prop}
    (hQ : ∀ a' w' e', Stp w0 B e0 (G 0) ws e' (G all.length) w' → RepL w0 B e' (S all.length) a'.tmps.toList → a'.defers = df → Q .normal a' w') :
    ∀ (fuel : Nat) (listed : Array Bool) (a : Act) (w : World) (e : Emb), listed.size = ops.size → listed.toList.count false ≤ fuel → DInv all as hs S G v w0 B e0 ws df (fun j => listed.getD j false) a w e → wpAny P .any ops Q fuel listed a w := by
  have hsz : ops.size = all.length := by rw [← hops]; simp
  have hbind : ∀ ed : Edge, bindsAny ed = Region.binds .any ed := fun _ => rfl
  -- all done
  have hall : ∀ (listed : Array Bool) (a : Act) (w : World) (e : Emb), listed.size = ops.size → (∀ j, j < ops.size → listed.getD j true = true) → DInv all as hs S G v w0 B e0 ws df (fun j => listed.getD j false) a w e → Q .normal a w := by
    intro listed a w e hl hd I
    have hY : ∀ j, j < all.length → (fun j => listed.getD j false) j = (fun _ => true) j := fun j hj => by
      have := hd j (by omega)
      have hj' : j < listed.size := by omega
      simp only [Array.getD_eq_getD_getElem?, Array.getElem?_eq_getElem hj', Option.getD_some] at this ⊢
      exact this
    have hg1 : gHeap hs G (fun j => listed.getD j false) all.length (G all.length).length = G all.length := by
      refine List.ext_getElem? fun id => ?_
      unfold gHeap
      rw [List.getElem?_map]
      rcases Nat.lt_or_ge id (G all.length).length with h | h
      · rw [List.getElem?_range h, Option.map_some, List.getElem?_eq_getElem h]
        have h1 : gAt hs G (fun j => listed.getD j false) all.length id = gAt hs G (fun _ => true) all.length id := by
          unfold gAt
          exact lastOf_congr fun j hj => by rw [hY j hj]
        rw [h1, R.order id (Nat.le_refl _), List.getD_eq_getElem?_getD, List.getElem?_eq_getElem h]
        rfl
      · rw [List.getElem?_eq_none (by simpa using h), List.getElem?_eq_none h]; rfl
    have hs1 : sList all S v (fun j => listed.getD j false) all.length = S all.length := by
      refine List.ext_getElem? fun t => ?_
      unfold sList
      rw [List.getElem?_map]
      have hlen := R.slen (Nat.le_refl all.length)
      rcases Nat.lt_or_ge t (S 0).length with h | h
      · rw [List.getElem?_range h, Option.map_some, List.getElem?_eq_getElem (by omega)]
        have h1 : sAt all S v (fun j => listed.getD j false) all.length t = sAt all S v (fun _ => true) all.length t := by
          unfold sAt
          exact lastOf_congr fun j hj => by rw [hY j hj]
        rw [h1, R.orderS t (Nat.le_refl _) h]
        unfold getS
        rw [List.getD_eq_getElem?_getD, List.getElem?_eq_getElem (by omega)]
        rfl
      · rw [List.getElem?_eq_none (by simpa using h), List.getElem?_eq_none (by omega)]; rfl
    refine hQ a w e ?_ ?_ I.dfs
    · have := I.stp; rwa [hg1] at this
    · have := I.rep; rwa [hs1] at this
  -- none ready: all done
  have hnone : ∀ (listed : Array Bool), listed.size = ops.size → Region.ready .any ops listed = [] → ∀ j, j < ops.size → listed.getD j true = true := by
    intro listed hl hr j
    induction j using Nat.strongRecOn with
    | _ j ih =>
      intro hj
      cases hlj : listed.getD j true with
      | true => rfl
      | false =>
        exfalso
        have : j ∈ Region.ready .any ops listed := by
          refine mem_ready.2 ⟨hlj, ops[j], Array.getElem?_eq_getElem hj, fun ed he hb => ?_⟩
          have hon := backward_spec all 0 hbk j ops[j] (by rw [← hops]; simp [hj]) ed (by simpa using he) hb
          have := ih ed.on (by omega) (by omega)
          have hlt : ed.on < listed.size := by omega
          simp only [Array.getD_eq_getD_getElem?, Array.getElem?_eq_getElem hlt, Option.getD_some] at this ⊢
          exact this
        rw [hr] at this
        simp at this
  intro fuel
  induction fuel with
  | zero =>
    intro listed a w e hl hcnt I
    have hd : ∀ j, j < ops.size → listed.getD j true = true := fun j hj => by
      have hj' : j < listed.size := by omega
      have h0 : listed.toList.count false = 0 := by omega
      rw [List.count_eq_zero] at h0
      simp only [Array.getD_eq_getD_getElem?, Array.getElem?_eq_getElem hj', Option.getD_some]
      cases hx : listed[j] with
      | true => rfl
      | false => exact absurd (by rw [← hx]; simp) h0
    refine ⟨?_, hall listed a w e hl hd I⟩
    refine List.eq_nil_iff_forall_not_mem.2 fun j hj => ?_
    obtain ⟨g1, o, g2, _⟩ := mem_ready.1 hj
    rw [hd j (Array.getElem?_eq_some_iff.1 g2).1] at g1
    cases g1
  | succ fuel ih =>
    intro listed a w e hl hcnt I
    refine ⟨fun hr => hall listed a w e hl (hnone listed hl hr) I, fun i hi => ?_⟩
    obtain ⟨g1, o, g2, g3⟩ := mem_ready.1 hi
    have hin : i < ops.size := (Array.getElem?_eq_some_iff.1 g2).1
    have hi' : i < listed.size := by omega
    have hli : listed[i] = false := by
      simpa only [Array.getD_eq_getD_getElem?, Array.getElem?_eq_getElem hi', Option.getD_some] using g1
    refine draw_step hc hg R I (i := i) (by omega) ?_ ?_ hops fun a' w' e' I' => ?_
    · simp only [Array.getD_eq_getD_getElem?, Array.getElem?_eq_getElem hi', Option.getD_some]
      exact hli
    · intro k hk
      have ho : all[i]? = some o := by rw [← hops]; simpa using g2
      obtain ⟨ed, h1, h2, h3⟩ := R.anc i o ho k hk
      have hed := g3 ed (by simpa using h1) h2
      rcases h3 with rfl | h3
      · exact hed
      · exact I.closed ed.on hed k h3
    · refine ih (listed.setIfInBounds i true) a' w' e' (by simpa using hl) ?_ ?_
      · have hc1 : (listed.setIfInBounds i true).toList = listed.toList.set i true := by simp
        rw [hc1, List.count_set (by simpa using hi')]
        have hx : (listed.toList[i]'(by simpa using hi') == false) = true := by simp [hli]
        rw [hx, show (true == false) = false from rfl]
        simp only [if_true, Bool.false_eq_true, if_false]
        omega
      · have hY : (fun j => (listed.setIfInBounds i true).getD j false) = upd (fun j => listed.getD j false) i := by
          funext j
          simp only [upd, Array.getD_eq_getD_getElem?, Array.getElem?_setIfInBounds]
          by_cases hji : j = i
          · subst hji; simp [hi']
          · simp [hji, Ne.symm hji]
        rw [hY]
        exact I'

theorem region_ok (hm : P.follows .mixedOrders = true) (hc : CallOk P Γ call) : RegOk P Γ call := by
  intro ops draw s H r h w0 B e w a id Q hg hs hrep hQ
  unfold evRegion at h
  cases draw with
  | false => exact straight_ok hc (by simpa using h) w0 B e w a id Q hg hs hrep hQ
  | true =>
    rw [if_pos rfl] at h
    split at h
    · rename_i hbn
      simp only [Bool.and_eq_true] at hbn
      split at h
      · rename_i hints hh
        obtain ⟨S, G, v, X, h1, h2, h3, h4⟩ := draw_trace P Γ call ops.toList 0 s H r rfl h
        rw [Nat.zero_add] at h3
        have hR : Run P Γ call ops.toList (ancs ops.toList) hints S G v X := by
          refine ⟨fun j o ho => h4 j o (Nat.zero_le _) ho, by rw [hintsGo_length _ _ _ _ hh]; exact Nat.le_refl _, ancs_ok _, anc_lt (ancs_ok _) ?_ hbn.1, dsts_inj _ (nodupB_spec hbn.2)⟩
          unfold ancs
          rw [ancGo_length]
          simp
        subst h1 h2
        cases h3
        refine wp_region_any hm (draw_go hc hg hR hbn.1 (df := a.defers) (e0 := e) (ws := w) rfl (fun a' w' e' hst hr hd => hQ a' w' e' hst hr hd) ops.size _ a _ e (by simp) (by simp [List.count_replicate]) ?_)
        have hY : (fun j => (Array.replicate ops.size false).getD j false) = fun _ => false := by
          funext j
          simp only [Array.getD_eq_getD_getElem?, Array.getElem?_replicate]
          split <;> rfl
        rw [hY]
        have hgA : ∀ n id, gAt hints G (fun _ => false) n id = (G 0).getD id none := fun n id => by
          unfold gAt
          exact lastOf_cut (Nat.zero_le n) fun j _ _ => rfl
        have hsA : ∀ n t, sAt ops.toList S v (fun _ => false) n t = getS (S 0) t := fun n t => by
          unfold sAt
          exact lastOf_cut (Nat.zero_le n) fun j _ _ => rfl
        have hlive : ∀ (id : Nat) (b : Blk), (gHeap hints G (fun _ => false) ops.toList.length (G ops.toList.length).length)[id]? = some (some b) → (G 0)[id]? = some (some b) := fun id b hb => by
          obtain ⟨_, hb2⟩ := gHeap_get.1 hb
          rw [hgA, List.getD_eq_getElem?_getD] at hb2
          cases hx : (G 0)[id]? with
          | none => rw [hx] at hb2; cases hb2
          | some o => rw [hx] at hb2; simp at hb2; rw [hb2]
        have hN := hR.mono (Nat.zero_le _) (Nat.le_refl ops.toList.length)
        refine ⟨⟨⟨hs.old, hs.szB, fun id eb he => ?_, fun id b hb => hs.live id b (hlive id b hb), fun i j bi bj ei ej hi hj h1 h2 h3 => hs.inj i j bi bj ei ej (hlive _ _ hi) (hlive _ _ hj) h1 h2 h3, hs.frz, fun i k x hk hx => hs.frl i k x (hlive i k hk) hx⟩, fun _ _ => rfl, by rw [gHeap_length]; exact hN, fun id b hid hb => ⟨b, hlive id b hb⟩, fun id eb hid he => absurd (hs.dom id eb he).1 (by omega), fun _ _ _ => rfl, Nat.le_refl _, rfl, rfl, rfl, fun _ _ h => h, fun _ _ h => .inl h, fun _ => Nat.le_succ _⟩, ?_, rfl, fun id eb he => .inl (hs.dom id eb he).1, fun j hj => by cases hj⟩
        · rw [gHeap_length]
          exact ⟨by have := (hs.dom id eb he).1; omega, (hs.dom id eb he).2⟩
        · have : sList ops.toList S v (fun _ => false) ops.toList.length = S 0 := by
            refine List.ext_getElem? fun t => ?_
            unfold sList
            rw [List.getElem?_map]
            rcases Nat.lt_or_ge t (S 0).length with h | h
            · rw [List.getElem?_range h, Option.map_some, hsA, List.getElem?_eq_getElem h]
              unfold getS
              rw [List.getD_eq_getElem?_getD, List.getElem?_eq_getElem h]
              rfl
            · rw [List.getElem?_eq_none (by simpa using h), List.getElem?_eq_none h]; rfl
          rw [this]
          exact hrep
      · cases h
    · cases h

theorem evF_sound (ho : CallOk P Γ Γ.orc) (hm : P.follows .mixedOrders = true) (k : Nat) : CallOk P Γ (evF P Γ k) := evF_ok ho (fun call hc => region_ok hm hc) k
end
end Go.Ev

/-
  MORE FUEL, THE SAME ANSWER (own work).
-/
set_option linter.unusedSimpArgs false
set_option linter.unusedVariables false
namespace Go.Ev
open Go

def CallLe (c d : CallF) : Prop := ∀ f args H r, c f args H = some r → d f args H = some r

section
variable {P : Program} {Γ : Env} {c d : CallF}

theorem callPlain_mono (h : CallLe c d) {H : Heap} {f : Nat} {args : List V} {r : V × Heap} (hc : callPlain c H f args = some r) : callPlain d H f args = some r := by
  unfold callPlain at hc ⊢
  split at hc
  · rename_i x G hx
    rw [h _ _ _ _ hx]
    exact hc
  · cases hc
theorem callWide_mono (h : CallLe c d) {H : Heap} {f : Nat} {args : List V} {r : V × Heap} (hc : callWide c H f args = some r) : callWide d H f args = some r := by
  unfold callWide at hc ⊢
  simp only at hc ⊢
  split at hc
  · rename_i x G hx
    rw [h _ _ _ _ hx]
    exact hc
  · cases hc
theorem evOp_mono (h : CallLe c d) {s : List V} {H : Heap} {o : Op} {r : V × Heap} (ho : evOp P Γ c s H o = some r) : evOp P Γ d s H o = some r := by
  unfold evOp at ho ⊢
  split at ho
  · split at ho
    · rename_i f hf
      try simp only [hf]
      unfold evCall at ho ⊢
      rw [hf] at ho ⊢
      simp only at ho ⊢
      split at ho
      · split at ho
        · rename_i hp; simp only [hp, if_true]; exact callPlain_mono h ho
        · rename_i hp; simp only [hp, if_false]; exact callWide_mono h ho
      · cases ho
    · rename_i hne
      first
        | exact ho
        | (split
           · rename_i f hf; exact absurd hf (hne f)
           · exact ho)
  · exact ho
theorem evOpsGo_mono (h : CallLe c d) {all : List Oper} : ∀ (ops : List Oper) (s : List V) (H : Heap) (r : List V × Heap), evOpsGo P Γ c all ops s H = some r → evOpsGo P Γ d all ops s H = some r
  | [], s, H, r, hr => hr
  | o :: ops, s, H, r, hr => by
    simp only [evOpsGo] at hr ⊢
    split at hr
    · rename_i hw
      try simp only [hw]
      split at hr
      · rename_i v H' ho
        rw [evOp_mono h ho]
        exact evOpsGo_mono h ops _ _ _ hr
      · cases hr
    · rename_i hw
      try simp only [hw]
      exact evOpsGo_mono h ops _ _ _ hr
    · cases hr
theorem hintsGo_mono (h : CallLe c d) {all : List Oper} : ∀ (ops : List Oper) (s : List V) (H : Heap) (r : List Hint), hintsGo P Γ c all ops s H = some r → hintsGo P Γ d all ops s H = some r
  | [], s, H, r, hr => hr
  | o :: ops, s, H, r, hr => by
    simp only [hintsGo] at hr ⊢
    split at hr
    · rename_i hw
      try simp only [hw]
      split at hr
      · rename_i v H' ho
        rw [evOp_mono h ho]
        obtain ⟨l, hl, rfl⟩ := Option.map_eq_some_iff.1 hr
        simp only
        rw [hintsGo_mono h ops _ _ _ hl]
        rfl
      · cases hr
    · rename_i hw
      try simp only [hw]
      obtain ⟨l, hl, rfl⟩ := Option.map_eq_some_iff.1 hr
      rw [hintsGo_mono h ops _ _ _ hl]
      rfl
    · cases hr
theorem drawGo_mono (h : CallLe c d) {all : List Oper} {as : List (List Nat)} {hs : List Hint} : ∀ (ops : List Oper) (i : Nat) (s : List V) (H : Heap) (r : List V × Heap), drawGo P Γ c all as hs ops i s H = some r → drawGo P Γ d all as hs ops i s H = some r
  | [], i, s, H, r, hr => hr
  | o :: ops, i, s, H, r, hr => by
    simp only [drawGo] at hr ⊢
    split at hr
    · rename_i hh hw hi
      try simp only [hw, hi]
      split at hr
      · rename_i v H' ho
        rw [evOp_mono h ho]
        simp only
        split at hr
        · rename_i hc
          rw [if_pos hc]
          exact drawGo_mono h ops _ _ _ _ hr
        · cases hr
      · cases hr
    · rename_i hh hw hi
      try simp only [hw, hi]
      split at hr
      · rename_i hc
        rw [if_pos hc]
        exact drawGo_mono h ops _ _ _ _ hr
      · cases hr
    · cases hr
theorem evRegion_mono (h : CallLe c d) {ops : List Oper} {draw : Bool} {s : List V} {H : Heap} {r : List V × Heap} (hr : evRegion P Γ c ops draw s H = some r) : evRegion P Γ d ops draw s H = some r := by
  unfold evRegion at hr ⊢
  split at hr
  · rename_i hd
    rw [if_pos hd]
    split at hr
    · rename_i hb
      rw [if_pos hb]
      split at hr
      · rename_i hs hh
        rw [hintsGo_mono h _ _ _ _ hh]
        exact drawGo_mono h _ _ _ _ _ hr
      · cases hr
    · cases hr
  · rename_i hd
    rw [if_neg hd]
    exact evOpsGo_mono h _ _ _ _ hr
theorem evLoop_mono {step step' : List V → Heap → Option (Ex × List V × Heap)} (hst : ∀ s H r, step s H = some r → step' s H = some r) : ∀ (n m : Nat) (s : List V) (H : Heap) (r : Ex × List V × Heap), n ≤ m → evLoop step n s H = some r → evLoop step' m s H = some r
  | 0, m, s, H, r, _, hr => by simp [evLoop] at hr
  | n + 1, 0, s, H, r, hnm, _ => by omega
  | n + 1, m + 1, s, H, r, hnm, hr => by
    simp only [evLoop] at hr ⊢
    split at hr
    · rename_i s' H' hs
      rw [hst _ _ _ hs]
      exact evLoop_mono hst n m _ _ _ (by omega) hr
    · rename_i hne
      cases hs : step s H with
      | none => rw [hs] at hr; cases hr
      | some q =>
        obtain ⟨ex, s', H'⟩ := q
        rw [hst _ _ _ hs]
        rw [hs] at hr
        cases ex with
        | normal => exact absurd hs (hne _ _)
        | exit id => exact hr
        | ret => exact hr
theorem evCode_mono (h : CallLe c d) {n m f q : Nat} (hnm : n ≤ m) : ∀ (code : Code) (s : List V) (H : Heap) (r : Ex × List V × Heap), evCode P Γ c n f q code s H = some r → evCode P Γ d m f q code s H = some r := by
  intro code
  induction code with
  | skip => intro s H r hr; exact hr
  | region id ops draw =>
    intro s H r hr
    simp only [evCode] at hr ⊢
    split at hr
    · rename_i s' H' hx
      rw [evRegion_mono h hx]
      exact hr
    · cases hr
  | seq a b iha ihb =>
    intro s H r hr
    simp only [evCode] at hr ⊢
    cases hx : evCode P Γ c n f q a s H with
    | none => rw [hx] at hr; cases hr
    | some y =>
      obtain ⟨ex, s', H'⟩ := y
      rw [iha _ _ _ hx]
      rw [hx] at hr
      cases ex with
      | normal => exact ihb _ _ _ hr
      | exit id => exact hr
      | ret => exact hr
  | cond o x y ihx ihy =>
    intro s H r hr
    simp only [evCode] at hr ⊢
    split at hr
    · rename_i t ht
      cases t
      · exact ihy _ _ _ hr
      · exact ihx _ _ _ hr
    · cases hr
  | block id b ih =>
    intro s H r hr
    simp only [evCode] at hr ⊢
    cases hx : evCode P Γ c n f q b s H with
    | none => rw [hx] at hr; cases hr
    | some y =>
      obtain ⟨ex, s', H'⟩ := y
      rw [ih _ _ _ hx]
      rw [hx] at hr
      exact hr
  | loop b ih =>
    intro s H r hr
    simp only [evCode] at hr ⊢
    exact evLoop_mono (fun s H r hs => ih _ _ _ hs) n m s H r hnm hr
  | rangeFunc => intro s H r hr; simp [evCode] at hr
  | exit id => intro s H r hr; exact hr
  | scope b ih => intro s H r hr; simp only [evCode] at hr ⊢; exact ih _ _ _ hr
  | label l => intro s H r hr; exact hr
  | goto l => intro s H r hr; simp [evCode] at hr
  | refuse => intro s H r hr; simp [evCode] at hr
  | ret => intro s H r hr; exact hr
theorem evBody_mono (h : CallLe c d) {n m f : Nat} (hnm : n ≤ m) {fn : Func} {args : List V} {H : Heap} {r : V × Heap} (hr : evBody P Γ c n f fn args H = some r) : evBody P Γ d m f fn args H = some r := by
  unfold evBody at hr ⊢
  split at hr
  · cases hr
  · rename_i code hb
    try simp only [hb]
    cases hx : evCode P Γ c n f H.length code (args ++ List.replicate (fn.ntmps - args.length) V.undef) H with
    | none => rw [hx] at hr; cases hr
    | some y =>
      rw [evCode_mono h hnm _ _ _ _ hx]
      rw [hx] at hr
      exact hr
theorem evF_step : ∀ k, CallLe (evF P Γ k) (evF P Γ (k + 1))
  | 0 => fun f args H r hr => by simp [evF] at hr
  | k + 1 => fun f args H r hr => by
    rw [evF] at hr ⊢
    cases ho : Γ.orc f args H with
    | some r' =>
      rw [ho] at hr
      simpa [ho] using hr
    | none =>
      rw [ho] at hr
      simp only [ho] at hr ⊢
      split at hr
      · rename_i fn hf
        try simp only [hf]
        split at hr
        · cases hr
        · rename_i hn
          rw [if_neg hn]
          exact evBody_mono (evF_step k) (Nat.le_succ k) hr
      · cases hr
theorem evF_mono {k m : Nat} (hkm : k ≤ m) : CallLe (evF P Γ k) (evF P Γ m) := by
  induction m with
  | zero => rw [show k = 0 by omega]; exact fun _ _ _ _ h => h
  | succ m ih =>
    rcases Nat.lt_or_ge m k with hm | hm
    · rw [show k = m + 1 by omega]; exact fun _ _ _ _ h => h
    · exact fun f args H r hr => evF_step m f args H r (ih hm f args H r hr)

/-- With enough fuel the function answers so. -/
def Runs (P : Program) (Γ : Env) (f : Nat) (args : List V) (H : Heap) (r : V × Heap) : Prop := ∃ k, evF P Γ k f args H = some r
/-- At every fuel from some on. -/
theorem Runs.from {f : Nat} {args : List V} {H : Heap} {r : V × Heap} (h : Runs P Γ f args H r) : ∃ k, ∀ m, k ≤ m → evF P Γ m f args H = some r := by
  obtain ⟨k, hk⟩ := h
  exact ⟨k, fun m hm => evF_mono hm _ _ _ _ hk⟩
end
end Go.Ev

/-
  FROM THE EVALUATOR TO A ROW's CONTRACT (own work).
-/
set_option linter.unusedSimpArgs false
set_option linter.unusedVariables false
namespace Go.Ev
open Go Go.RowKit Go.ChangeShapes Go.WideShapes

section
variable {P : Program} {Γ : Env}

theorem Stp.below {e e' : Emb} {H' : Heap} {w0 w w' : World} {B : Nat} (h : Stp w0 B e [] w e' H' w') : Below w.heap.size w w' :=
  ⟨h.os, h.tape, h.output, h.size, fun k hk => h.frame k hk fun i bi ei hi => by simp at hi⟩

/-- What the program does where the evaluator answers true. -/
theorem law_calls (ho : CallOk P Γ Γ.orc) (hm : P.follows .mixedOrders = true) {f : Nat} (hcb : Callable P f) {args : List Value} {vs : List V} {W : World} {G : Heap} (hg : GlobMem Γ W W.heap.size) (hrep : RepL W W.heap.size emp vs args)
    (h : Runs P Γ f vs [] (.bool true, G)) : Calls P f ⟨args⟩ W fun e W' => e = .returned (.bool true) ∧ Below W.heap.size W W' := by
  obtain ⟨k, hk⟩ := h
  have hat := evF_sound ho hm k f vs [] _ hk { W with drawn := 1 } W.heap.size emp W args ⟨fun h => by simp at h, fun g cs hc => ⟨Rep.rebase (w0 := W) (w1 := { W with drawn := 1 }) rfl (hg g cs hc).1, (hg g cs hc).2⟩⟩ (HS.freshAt W 1) (RepL.rebase (w0 := W) (w1 := { W with drawn := 1 }) rfl hrep)
  rcases hat with ⟨_, hc⟩ | ⟨v, w', hext, _⟩
  rotate_left
  · rw [callFunc_run hcb] at hext; cases hext
  refine hc.mono fun ed w' hp => ?_
  obtain ⟨v, e', rfl, hst, hr⟩ := hp
  cases hr
  exact ⟨rfl, hst.below⟩

theorem trodAll_below {H : Type} {enc : TypeId × Value → H} (hl : laidOutB P = true) {W W' : World} (hb : Below W.heap.size W W') : ∀ (ts : List TypeId) (vs : List Value) (ds : List (DataW H)) (ps : List MemPlace),
    (∀ t ∈ ts, P.readableRec t = true ∧ t < P.types.size) → DataW.TrodAll enc P W 0 (fun _ => true) true ts vs ds ps → (∀ x ∈ ps, x.block < W.heap.size) →
    DataW.TrodAll enc P W' 0 (fun b => decide (b < W.heap.size)) true ts vs ds ps
  | [], vs, ds, ps, _, h, _ => by
    obtain ⟨rfl, rfl, rfl⟩ := trodAll_nil h
    exact trodAll_mk0
  | t :: ts, vs, ds, ps, ht, h, hp => by
    obtain ⟨v, vs', d, ds', p, q, rfl, rfl, rfl, h1, h2⟩ := trodAll_cons h
    exact trodAll_cons_mk (Below.trod hl (ht t (by simp)).1 (ht t (by simp)).2 h1 hb fun x hx => hp x (by simp [hx]))
      (trodAll_below hl hb ts vs' ds' q (fun t' h' => ht t' (by simp [h'])) h2 fun x hx => hp x (by simp [hx]))

/-- What a law's row asks at the end. -/
theorem law_post {H : Type} {enc : TypeId × Value → H} (hl : laidOutB P = true) {fn : Func} {s : ChangeSpec} {W W' : World} {args : Array Value} {ds gs : List (DataW H)} {before : List MemPlace} {tb : TypeId}
    (hrec : ∀ t ∈ fn.params.toList, P.readableRec t = true ∧ t < P.types.size) (hrt : fn.resultTypes = #[tb]) (htb : P.underlying tb = some .bool) (hvars : s.vars = [])
    (hW : DataW.Whole enc P fn.params.toList s.vars false W args.toList ds gs before) (hb : Below W.heap.size W W') (hs : s.fn H (ds ++ gs) = { results := [.lit (.bool true)], args := ds }) :
    s.post enc P fn false true false false W args (.bool true) W' := by
  have hlt : ∀ x ∈ before, x.block < W.heap.size := fun x hx => hW.lt x hx
  have hW' := hW
  obtain ⟨p, q, hA, hV, rfl, hfz, hnd⟩ := hW
  rw [hvars] at hV
  obtain ⟨rfl, rfl⟩ := trodVars_none hV
  refine ⟨ds, [], p ++ [], [], p, [], hW', ?_, ?_, ?_, hb.frame _, fun h => by cases h⟩
  · rw [hs, hrt]
    have : DataW.TrodAll enc P W' W.heap.size (fun _ => false) false [tb] [.bool true] [.lit (.bool true)] ([] ++ []) :=
      trodAll_cons_mk ⟨1, by simp [DataW.trod, Value.cells, htb]⟩ trodAll_mk0
    exact this
  · rw [hs]
    exact trodAll_below hl hb _ _ _ _ hrec hA fun x hx => hlt x (by simp [hx])
  · rw [hvars, hs]
    rfl

/-! ### Arguments -/
theorem cell_lt {w : World} {a : Addr} {v : Value} (h : w.cell? a = some v) : a.block < w.heap.size := by
  unfold World.cell? at h
  rcases Nat.lt_or_ge a.block w.heap.size with hl | hl
  · exact hl
  · rw [Array.getElem?_eq_none hl] at h; simp at h

theorem addr_add (b o j : Nat) : (⟨b, o, none⟩ : Addr).add j = ⟨b, o + j, none⟩ := by
  unfold Addr.add
  split
  · rename_i h; subst h; rfl
  · rfl
end
end Go.Ev
