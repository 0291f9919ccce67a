/-
  MORE FUEL, THE SAME ANSWER (own work).
-/
import Derived.Test.YtnalmdnfoicokaaEv22
set_option linter.unusedSimpArgs false
set_option linter.unusedVariables false
namespace Go.Ev
open Go

def CallLe (c d : CallF) : Prop := ∀ f args H r, c f args H = some r → d f args H = some r

section
variable {P : Program} {Γ : Env} {c d : CallF}

theorem callPlain_mono (h : CallLe c d) {H : Heap} {f : Nat} {args : List V} {r : V × Heap} (hc : callPlain c H f args = some r) : callPlain d H f args = some r := by
  unfold callPlain at hc ⊢
  split at hc
  · rename_i x G hx
    rw [h _ _ _ _ hx]
    exact hc
  · cases hc
theorem callWide_mono (h : CallLe c d) {H : Heap} {f : Nat} {args : List V} {r : V × Heap} (hc : callWide c H f args = some r) : callWide d H f args = some r := by
  unfold callWide at hc ⊢
  simp only at hc ⊢
  split at hc
  · rename_i x G hx
    rw [h _ _ _ _ hx]
    exact hc
  · cases hc
theorem evOp_mono (h : CallLe c d) {s : List V} {H : Heap} {o : Op} {r : V × Heap} (ho : evOp P Γ c s H o = some r) : evOp P Γ d s H o = some r := by
  unfold evOp at ho ⊢
  split at ho
  · split at ho
    · rename_i f hf
      try simp only [hf]
      unfold evCall at ho ⊢
      rw [hf] at ho ⊢
      simp only at ho ⊢
      split at ho
      · split at ho
        · rename_i hp; simp only [hp, if_true]; exact callPlain_mono h ho
        · rename_i hp; simp only [hp, if_false]; exact callWide_mono h ho
      · cases ho
    · rename_i hne
      first
        | exact ho
        | (split
           · rename_i f hf; exact absurd hf (hne f)
           · exact ho)
  · exact ho
theorem evOpsGo_mono (h : CallLe c d) {all : List Oper} : ∀ (ops : List Oper) (s : List V) (H : Heap) (r : List V × Heap), evOpsGo P Γ c all ops s H = some r → evOpsGo P Γ d all ops s H = some r
  | [], s, H, r, hr => hr
  | o :: ops, s, H, r, hr => by
    simp only [evOpsGo] at hr ⊢
    split at hr
    · rename_i hw
      try simp only [hw]
      split at hr
      · rename_i v H' ho
        rw [evOp_mono h ho]
        exact evOpsGo_mono h ops _ _ _ hr
      · cases hr
    · rename_i hw
      try simp only [hw]
      exact evOpsGo_mono h ops _ _ _ hr
    · cases hr
theorem hintsGo_mono (h : CallLe c d) {all : List Oper} : ∀ (ops : List Oper) (s : List V) (H : Heap) (r : List Hint), hintsGo P Γ c all ops s H = some r → hintsGo P Γ d all ops s H = some r
  | [], s, H, r, hr => hr
  | o :: ops, s, H, r, hr => by
    simp only [hintsGo] at hr ⊢
    split at hr
    · rename_i hw
      try simp only [hw]
      split at hr
      · rename_i v H' ho
        rw [evOp_mono h ho]
        obtain ⟨l, hl, rfl⟩ := Option.map_eq_some_iff.1 hr
        simp only
        rw [hintsGo_mono h ops _ _ _ hl]
        rfl
      · cases hr
    · rename_i hw
      try simp only [hw]
      obtain ⟨l, hl, rfl⟩ := Option.map_eq_some_iff.1 hr
      rw [hintsGo_mono h ops _ _ _ hl]
      rfl
    · cases hr
theorem drawGo_mono (h : CallLe c d) {all : List Oper} {as : List (List Nat)} {hs : List Hint} : ∀ (ops : List Oper) (i : Nat) (s : List V) (H : Heap) (r : List V × Heap), drawGo P Γ c all as hs ops i s H = some r → drawGo P Γ d all as hs ops i s H = some r
  | [], i, s, H, r, hr => hr
  | o :: ops, i, s, H, r, hr => by
    simp only [drawGo] at hr ⊢
    split at hr
    · rename_i hh hw hi
      try simp only [hw, hi]
      split at hr
      · rename_i v H' ho
        rw [evOp_mono h ho]
        simp only
        split at hr
        · rename_i hc
          rw [if_pos hc]
          exact drawGo_mono h ops _ _ _ _ hr
        · cases hr
      · cases hr
    · rename_i hh hw hi
      try simp only [hw, hi]
      split at hr
      · rename_i hc
        rw [if_pos hc]
        exact drawGo_mono h ops _ _ _ _ hr
      · cases hr
    · cases hr
theorem evRegion_mono (h : CallLe c d) {ops : List Oper} {draw : Bool} {s : List V} {H : Heap} {r : List V × Heap} (hr : evRegion P Γ c ops draw s H = some r) : evRegion P Γ d ops draw s H = some r := by
  unfold evRegion at hr ⊢
  split at hr
  · rename_i hd
    rw [if_pos hd]
    split at hr
    · rename_i hb
      rw [if_pos hb]
      split at hr
      · rename_i hs hh
        rw [hintsGo_mono h _ _ _ _ hh]
        exact drawGo_mono h _ _ _ _ _ hr
      · cases hr
    · cases hr
  · rename_i hd
    rw [if_neg hd]
    exact evOpsGo_mono h _ _ _ _ hr
theorem evLoop_mono {step step' : List V → Heap → Option (Ex × List V × Heap)} (hst : ∀ s H r, step s H = some r → step' s H = some r) : ∀ (n m : Nat) (s : List V) (H : Heap) (r : Ex × List V × Heap), n ≤ m → evLoop step n s H = some r → evLoop step' m s H = some r
  | 0, m, s, H, r, _, hr => by simp [evLoop] at hr
  | n + 1, 0, s, H, r, hnm, _ => by omega
  | n + 1, m + 1, s, H, r, hnm, hr => by
    simp only [evLoop] at hr ⊢
    split at hr
    · rename_i s' H' hs
      rw [hst _ _ _ hs]
      exact evLoop_mono hst n m _ _ _ (by omega) hr
    · rename_i hne
      cases hs : step s H with
      | none => rw [hs] at hr; cases hr
      | some q =>
        obtain ⟨ex, s', H'⟩ := q
        rw [hst _ _ _ hs]
        rw [hs] at hr
        cases ex with
        | normal => exact absurd hs (hne _ _)
        | exit id => exact hr
        | ret => exact hr
theorem evCode_mono (h : CallLe c d) {n m f q : Nat} (hnm : n ≤ m) : ∀ (code : Code) (s : List V) (H : Heap) (r : Ex × List V × Heap), evCode P Γ c n f q code s H = some r → evCode P Γ d m f q code s H = some r := by
  intro code
  induction code with
  | skip => intro s H r hr; exact hr
  | region id ops draw =>
    intro s H r hr
    simp only [evCode] at hr ⊢
    split at hr
    · rename_i s' H' hx
      rw [evRegion_mono h hx]
      exact hr
    · cases hr
  | seq a b iha ihb =>
    intro s H r hr
    simp only [evCode] at hr ⊢
    cases hx : evCode P Γ c n f q a s H with
    | none => rw [hx] at hr; cases hr
    | some y =>
      obtain ⟨ex, s', H'⟩ := y
      rw [iha _ _ _ hx]
      rw [hx] at hr
      cases ex with
      | normal => exact ihb _ _ _ hr
      | exit id => exact hr
      | ret => exact hr
  | cond o x y ihx ihy =>
    intro s H r hr
    simp only [evCode] at hr ⊢
    split at hr
    · rename_i t ht
      cases t
      · exact ihy _ _ _ hr
      · exact ihx _ _ _ hr
    · cases hr
  | block id b ih =>
    intro s H r hr
    simp only [evCode] at hr ⊢
    cases hx : evCode P Γ c n f q b s H with
    | none => rw [hx] at hr; cases hr
    | some y =>
      obtain ⟨ex, s', H'⟩ := y
      rw [ih _ _ _ hx]
      rw [hx] at hr
      exact hr
  | loop b ih =>
    intro s H r hr
    simp only [evCode] at hr ⊢
    exact evLoop_mono (fun s H r hs => ih _ _ _ hs) n m s H r hnm hr
  | rangeFunc => intro s H r hr; simp [evCode] at hr
  | exit id => intro s H r hr; exact hr
  | scope b ih => intro s H r hr; simp only [evCode] at hr ⊢; exact ih _ _ _ hr
  | label l => intro s H r hr; exact hr
  | goto l => intro s H r hr; simp [evCode] at hr
  | refuse => intro s H r hr; simp [evCode] at hr
  | ret => intro s H r hr; exact hr
theorem evBody_mono (h : CallLe c d) {n m f : Nat} (hnm : n ≤ m) {fn : Func} {args : List V} {H : Heap} {r : V × Heap} (hr : evBody P Γ c n f fn args H = some r) : evBody P Γ d m f fn args H = some r := by
  unfold evBody at hr ⊢
  split at hr
  · cases hr
  · rename_i code hb
    try simp only [hb]
    cases hx : evCode P Γ c n f H.length code (args ++ List.replicate (fn.ntmps - args.length) V.undef) H with
    | none => rw [hx] at hr; cases hr
    | some y =>
      rw [evCode_mono h hnm _ _ _ _ hx]
      rw [hx] at hr
      exact hr
theorem evF_step : ∀ k, CallLe (evF P Γ k) (evF P Γ (k + 1))
  | 0 => fun f args H r hr => by simp [evF] at hr
  | k + 1 => fun f args H r hr => by
    rw [evF] at hr ⊢
    cases ho : Γ.orc f args H with
    | some r' =>
      rw [ho] at hr
      simpa [ho] using hr
    | none =>
      rw [ho] at hr
      simp only [ho] at hr ⊢
      split at hr
      · rename_i fn hf
        try simp only [hf]
        split at hr
        · cases hr
        · rename_i hn
          rw [if_neg hn]
          exact evBody_mono (evF_step k) (Nat.le_succ k) hr
      · cases hr
theorem evF_mono {k m : Nat} (hkm : k ≤ m) : CallLe (evF P Γ k) (evF P Γ m) := by
  induction m with
  | zero => rw [show k = 0 by omega]; exact fun _ _ _ _ h => h
  | succ m ih =>
    rcases Nat.lt_or_ge m k with hm | hm
    · rw [show k = m + 1 by omega]; exact fun _ _ _ _ h => h
    · exact fun f args H r hr => evF_step m f args H r (ih hm f args H r hr)

/-- With enough fuel the function answers so. -/
def Runs (P : Program) (Γ : Env) (f : Nat) (args : List V) (H : Heap) (r : V × Heap) : Prop := ∃ k, evF P Γ k f args H = some r
theorem Runs.det {f : Nat} {args : List V} {H : Heap} {r r' : V × Heap} (h : Runs P Γ f args H r) (h' : Runs P Γ f args H r') : r = r' := by
  obtain ⟨k, hk⟩ := h
  obtain ⟨m, hm⟩ := h'
  have a := evF_mono (Nat.le_max_left k m) _ _ _ _ hk
  have b := evF_mono (Nat.le_max_right k m) _ _ _ _ hm
  rw [a] at b
  exact Option.some.inj b
/-- At every fuel from some on. -/
theorem Runs.from {f : Nat} {args : List V} {H : Heap} {r : V × Heap} (h : Runs P Γ f args H r) : ∃ k, ∀ m, k ≤ m → evF P Γ m f args H = some r := by
  obtain ⟨k, hk⟩ := h
  exact ⟨k, fun m hm => evF_mono hm _ _ _ _ hk⟩
end
end Go.Ev
