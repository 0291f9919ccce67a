/-
  AN OPERATION, A REGION IN ORDER (own work).
-/
import Derived.Test.YtnalmdnfoicokaaEv16
import Derived.Test.YtnalmdnfoicokaaEv1
import Derived.Orders
set_option linter.unusedSimpArgs false
set_option linter.unusedVariables false
namespace Go.Ev
open Go

section
variable {P : Program} {w0 : World} {B : Nat} {e : Emb} {H : Heap} {w : World} {Γ : Env} {call : CallF}

theorem put_tmps (a : Act) (d : Option Tmp) (v : Value) : (a.put d v).tmps.toList = match d with | some t => a.tmps.toList.set t v | none => a.tmps.toList := by
  cases d <;> simp [Act.put]
theorem put_def (a : Act) (d : Option Tmp) (v : Value) : (a.put d v).defers = a.defers := by
  cases d <;> rfl

theorem putS_ok {s : List V} {a : Act} (h : RepL w0 B e s a.tmps.toList) {v : V} {v' : Value} (k : Rep w0 B e v v') (d : Option Tmp) : RepL w0 B e (putS s d v) (a.put d v').tmps.toList := by
  rw [put_tmps]
  cases d with
  | none => exact h
  | some t => exact h.set k t

def OpDone (P : Program) (o : Oper) (a : Act) (w0 : World) (B : Nat) (e : Emb) (H : Heap) (w : World) (r : V × Heap) : Prop :=
  ∀ (next : Act → World → Prop) (Q : Exit → Act → World → Prop), (∀ v' w' e', Stp w0 B e H w e' r.2 w' → Rep w0 B e' r.1 v' → next (a.put o.dst v') w') → o.wp P a w next Q

theorem callFunc_run {g : Nat} (hc : Callable P g) (args : Array Value) : (callFunc g args).run P w = .ok (.enter g args) w := by
  obtain ⟨fn, hf, hb, hn⟩ := hc
  unfold callFunc
  have hn' : (fn.name == "runtime.NumGoroutine") = false := by simp [hn]
  have hb' : fn.body.isNone = false := by simpa using hb
  rw [Sem.run_bind, run_program, Result.andThen_ok, hf]
  simp only [hn', hb', Bool.false_eq_true, if_false, Sem.run_pure]

theorem op_ok (hc : CallOk P Γ call) (hg : GlobOk Γ w0 B) (hs : HS w0 B e H w) {s : List V} {a : Act} (hrep : RepL w0 B e s a.tmps.toList) {o : Oper} {r : V × Heap} (h : evOp P Γ call s H o.op = some r) :
    OpDone P o a w0 B e H w r := by
  intro next Q hk
  have key : evPlain P Γ s H o.op = some r → o.wp P a w next Q := fun h => by
    obtain ⟨v', w', e', hrun, hst, hr⟩ := plain_ok hg hs hrep h
    unfold Oper.wp
    rcases hrun with hrun | ⟨hrun, rfl⟩
    · rw [hrun]; exact hk _ _ _ hst hr
    · rw [hrun]; exact hk _ _ _ hst hr
  unfold evOp at h
  split at h
  · rename_i c hc'
    split at h
    · rename_i f hf
      unfold evCall at h
      rw [hf] at h
      simp only at h
      split at h
      · rename_i g x y hv
        have hfn := evOperand_ok hg hrep f
        rw [hv] at hfn
        have hargs := mapRep hg hrep c.args.toList
        generalize hfe : a.eval f = vf at hfn
        cases hfn with
        | fn _ _ _ _ x' y' hx hy hxr hyr =>
          have hall : RepL w0 B e (x ++ c.args.toList.map (evOperand Γ s) ++ y) (x' ++ c.args.toList.map a.eval ++ y') := (RepL.append ⟨hx, hxr⟩ hargs).append ⟨hy, hyr⟩
          have hat : CallAt P g (x' ++ c.args.toList.map a.eval ++ y') w0 B e H w r := by
            split at h
            · exact callPlain_ok hc hg hs hall h
            · exact callWide_ok hc hg hs hall h
          obtain ⟨hcb, hcalls⟩ := hat
          unfold Oper.wp execOp
          rw [hc']
          have hrun : ((do let d ← resolve a.eval c o.type; invoke d.target d.args) : Sem Next).run P w = .ok (.enter g ⟨x' ++ c.args.toList.map a.eval ++ y'⟩) w := by
            unfold resolve
            rw [hf]
            simp [hfe, Deferred.ofValue, invoke, callFunc_run hcb]
          have hrun2 := hrun
          simp only at hrun2 ⊢
          rw [hrun2, Oper.upon_enter]
          refine hcalls.mono fun ed w' hp => ?_
          obtain ⟨v, e', rfl, hst, hr⟩ := hp
          exact hk _ _ _ hst hr
      · cases h
    · rw [hc'] at key; exact key h
  · exact key h

theorem wanted_ok {ops : Array Oper} {s : List V} {a : Act} (hrep : RepL w0 B e s a.tmps.toList) {o : Oper} {b : Bool} (h : wantedV ops.toList s o = some b) :
    Region.wanted o (yielded ops a.tmps) = b := by
  unfold wantedV at h
  unfold Region.wanted
  split at h
  · cases h; simp [*]
  · rename_i j want hj
    split at h
    · rename_i d hd
      rw [hj]
      have hd' : (ops[j]?).bind (·.dst) = some d := by simpa using hd
      have hr := getS_ok hrep d
      simp only [yielded, hd', Option.bind_some]
      have hget : ∀ v, (⟨a.tmps.toList⟩ : Array Value).getD d undef = v → v ≠ undef → a.tmps[d]? = some v := by
        intro v hv hne
        rw [Array.getD_eq_getD_getElem?] at hv
        cases hx : a.tmps[d]? with
        | none => rw [show (⟨a.tmps.toList⟩ : Array Value) = a.tmps from rfl, hx] at hv; exact absurd hv.symm hne
        | some y => rw [show (⟨a.tmps.toList⟩ : Array Value) = a.tmps from rfl, hx] at hv; simpa using hv
      split at h
      · rename_i t ht
        rw [ht] at hr
        generalize hv : (⟨a.tmps.toList⟩ : Array Value).getD d undef = vv at hr
        cases hr
        rw [hget _ hv (by simp [undef])]
        cases h
        rfl
      · rename_i ht
        rw [ht] at hr
        generalize hv : (⟨a.tmps.toList⟩ : Array Value).getD d undef = vv at hr
        cases hr with
        | tup _ _ a' ha _ =>
          cases h
          have ha' : a' = [] := by cases a' with
            | nil => rfl
            | cons x l => simp at ha
          subst ha'
          rw [Array.getD_eq_getD_getElem?] at hv
          cases hx : a.tmps[d]? with
          | none => rfl
          | some y => rw [show (⟨a.tmps.toList⟩ : Array Value) = a.tmps from rfl, hx] at hv; simp at hv; subst hv; rfl
      · cases h
    · cases h

theorem ops_ok (hc : CallOk P Γ call) (hg : GlobOk Γ w0 B) {ops : Array Oper} {Q : Exit → Act → World → Prop} : ∀ (rest : List Oper) (i : Nat) (s : List V) (H : Heap) (e : Emb) (a : Act) (w : World) (r : List V × Heap),
    ops.toList.drop i = rest → HS w0 B e H w → RepL w0 B e s a.tmps.toList → evOpsGo P Γ call ops.toList rest s H = some r →
    (∀ a' w' e', Stp w0 B e H w e' r.2 w' → RepL w0 B e' r.1 a'.tmps.toList → a'.defers = a.defers → Q .normal a' w') →
    wpOps P ops Q (List.range' i (ops.size - i)) a w
  | [], i, s, H, e, a, w, r, hd, hs, hrep, h, hQ => by
    have hi : ops.size ≤ i := by simpa using hd
    rw [show ops.size - i = 0 by omega]
    simp only [evOpsGo, Option.some.injEq] at h
    subst h
    exact hQ a w e (Stp.refl hs) hrep rfl
  | o :: rest, i, s, H, e, a, w, r, hd, hs, hrep, h, hQ => by
    have hi : i < ops.size := by
      rcases Nat.lt_or_ge i ops.size with h | h
      · exact h
      · rw [List.drop_eq_nil_of_le (by simpa using h)] at hd; cases hd
    have ho : ops[i]? = some o := by
      have := congrArg List.head? hd
      simpa [List.head?_drop] using this
    have hrest : ops.toList.drop (i + 1) = rest := by
      have := congrArg List.tail hd
      simpa using this
    rw [show ops.size - i = (ops.size - (i + 1)) + 1 by omega, List.range'_succ]
    simp only [wpOps, ho]
    simp only [evOpsGo] at h
    split at h
    · rename_i hw
      rw [wanted_ok hrep hw]
      split at h
      · rename_i v H' hop
        left
        refine op_ok hc hg hs hrep hop _ _ fun v' w' e' hst hr => ?_
        refine ops_ok hc hg rest (i + 1) _ _ e' _ w' r hrest hst.hs (putS_ok (hrep.mono (hst.up hs) hst.fup) hr _) h fun a2 w2 e2 hst2 hr2 hd2 => ?_
        exact hQ a2 w2 e2 (hst.trans hst2) hr2 (by rw [hd2, put_def])
      · cases h
    · rename_i hw
      rw [wanted_ok hrep hw]
      simp only [Bool.false_eq_true, if_false]
      refine ops_ok hc hg rest (i + 1) _ _ e _ w r hrest hs (putS_ok hrep undef_ok _) h fun a2 w2 e2 hst2 hr2 hd2 => ?_
      exact hQ a2 w2 e2 hst2 hr2 (by rw [hd2, put_def])
    · cases h

def RegOk (P : Program) (Γ : Env) (call : CallF) : Prop := ∀ (ops : Array Oper) (draw : Bool) (s : List V) (H : Heap) (r : List V × Heap), evRegion P Γ call ops.toList draw s H = some r →
  ∀ (w0 : World) (B : Nat) (e : Emb) (w : World) (a : Act) (id : Nat) (Q : Exit → Act → World → Prop), GlobOk Γ w0 B → HS w0 B e H w → RepL w0 B e s a.tmps.toList →
    (∀ a' w' e', Stp w0 B e H w e' r.2 w' → RepL w0 B e' r.1 a'.tmps.toList → a'.defers = a.defers → Q .normal a' w') → (Code.region id ops draw).wp P Q a w

theorem straight_ok (hc : CallOk P Γ call) {ops : Array Oper} {s : List V} {H : Heap} {r : List V × Heap} (h : evOpsGo P Γ call ops.toList ops.toList s H = some r)
    (w0 : World) (B : Nat) (e : Emb) (w : World) (a : Act) (id : Nat) (Q : Exit → Act → World → Prop) (hg : GlobOk Γ w0 B) (hs : HS w0 B e H w) (hrep : RepL w0 B e s a.tmps.toList)
    (hQ : ∀ a' w' e', Stp w0 B e H w e' r.2 w' → RepL w0 B e' r.1 a'.tmps.toList → a'.defers = a.defers → Q .normal a' w') : (Code.region id ops false).wp P Q a w := by
  refine wp_region ?_
  rw [List.range_eq_range']
  exact ops_ok hc hg ops.toList 0 s H e a w r rfl hs hrep h hQ
end
end Go.Ev
