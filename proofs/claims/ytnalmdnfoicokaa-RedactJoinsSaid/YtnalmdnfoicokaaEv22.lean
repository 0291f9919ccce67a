/-
  REGIONS IN ANY ORDER, third part (own work).
-/
import Derived.Test.YtnalmdnfoicokaaEv21
set_option linter.unusedSimpArgs false
set_option linter.unusedVariables false
namespace Go.Ev
open Go

section
variable {P : Program} {Γ : Env} {call : CallF}

theorem hintsGo_length {all : List Oper} : ∀ (ops : List Oper) (s : List V) (H : Heap) (hs : List Hint), hintsGo P Γ call all ops s H = some hs → hs.length = ops.length
  | [], s, H, hs, h => by simp only [hintsGo, Option.some.injEq] at h; subst h; rfl
  | o :: ops, s, H, hs, h => by
    simp only [hintsGo] at h
    split at h
    · split at h
      · obtain ⟨l, hl, rfl⟩ := Option.map_eq_some_iff.1 h
        simp [hintsGo_length ops _ _ _ hl]
      · cases h
    · obtain ⟨l, hl, rfl⟩ := Option.map_eq_some_iff.1 h
      simp [hintsGo_length ops _ _ _ hl]
    · cases h

variable {all : List Oper} {as : List (List Nat)} {hs : List Hint} {S : Nat → List V} {G : Nat → Heap} {v : Nat → V} {X : Nat → Heap} {w0 : World} {B : Nat}

structure DInv (all : List Oper) (as : List (List Nat)) (hs : List Hint) (S : Nat → List V) (G : Nat → Heap) (v : Nat → V) (w0 : World) (B : Nat) (e0 : Emb) (ws : World) (df : List Deferred) (Y : Nat → Bool) (a : Act) (w : World) (e : Emb) : Prop where
  stp : Stp w0 B e0 (G 0) ws e (gHeap hs G Y all.length (G all.length).length) w
  rep : RepL w0 B e (sList all S v Y all.length) a.tmps.toList
  dfs : a.defers = df
  dom : ∀ id eb, e id = some eb → id < (G 0).length ∨ ∃ j, Y j = true ∧ j < all.length ∧ (G j).length ≤ id ∧ id < (G (j + 1)).length
  closed : Closed as Y

theorem gHeap_get {Y : Nat → Bool} {n N id : Nat} {b : Blk} : (gHeap hs G Y n N)[id]? = some (some b) ↔ id < N ∧ gAt hs G Y n id = some b := by
  unfold gHeap
  rw [List.getElem?_map]
  rcases Nat.lt_or_ge id N with h | h
  · rw [List.getElem?_range h]; simp [h]
  · rw [List.getElem?_eq_none (by simpa using h)]; simp; omega
theorem gHeap_length {Y : Nat → Bool} {n N : Nat} : (gHeap hs G Y n N).length = N := by simp [gHeap]

theorem Run.put (R : Run P Γ call all as hs S G v X) {Y : Nat → Bool} {i : Nat} {a : Act} {e e' : Emb} (hin : i < all.length) (hup : ∀ id eb, e id = some eb → e' id = some eb) (hz : ∀ b o, e.frz b = some o → e'.frz b = some o)
    (h : RepL w0 B e (sList all S v Y all.length) a.tmps.toList) {v' : Value} (hv : Rep w0 B e' (v i) v') :
    RepL w0 B e' (sList all S v (upd Y i) all.length) (a.put all[i].dst v').tmps.toList := by
  have hlen : (S 0).length = a.tmps.toList.length := by simpa [sList] using h.1
  have hold : ∀ t (ht : t < (S 0).length) (ht' : t < a.tmps.toList.length), Rep w0 B e' (sAt all S v Y all.length t) a.tmps.toList[t] := fun t ht ht' => by
    have := h.2 t (by simpa [sList] using ht) ht'
    simp only [sList, List.getElem_map, List.getElem_range] at this
    exact this.mono hup hz
  generalize hdst : all[i].dst = dd
  rw [put_tmps]
  refine ⟨?_, fun t h1 h2 => ?_⟩
  · cases dd <;> simp [sList, hlen]
  · have ht : t < (S 0).length := by simpa [sList] using h1
    simp only [sList, List.getElem_map, List.getElem_range]
    have hd : dAt all i t = (dd == some t) := by unfold dAt; rw [List.getElem?_eq_getElem hin]; simp only [hdst]
    cases dd with
    | none =>
      rw [sAt_same (by rw [hd]; rfl)]
      exact hold t ht (by omega)
    | some d =>
      by_cases hdt : d = t
      · subst hdt
        rw [R.newS hin hdst]
        simpa using hv
      · rw [sAt_same (by rw [hd]; simpa using hdt)]
        simp only [List.getElem_set_ne hdt]
        exact hold t ht (by omega)

theorem upd_closed {Y : Nat → Bool} {i : Nat} (hY : Closed as Y) (hanc : ∀ k ∈ as.getD i [], Y k = true) : Closed as (upd Y i) := by
  intro j hj k hk
  simp only [upd, Bool.or_eq_true, decide_eq_true_eq] at hj ⊢
  right
  rcases hj with rfl | hj
  · exact hanc k hk
  · exact hY j hj k hk

theorem boundedS_spec {n : Nat} {s : List V} {H : Heap} (h : boundedS n s H = true) : (∀ r ∈ refsL s, r < n) ∧ ∀ (id : Nat) (b : Blk), H[id]? = some (some b) → ∀ r ∈ b.refs, r < n := by
  simp only [boundedS, Bool.and_eq_true, List.all_eq_true, decide_eq_true_eq] at h
  exact ⟨h.1, fun id b hb r hr => h.2 _ (List.mem_of_getElem? hb) r hr⟩
theorem refsL_mem {s : List V} {t : Nat} {x : V} (h : s[t]? = some x) {r : Nat} (hr : r ∈ x.refs) : r ∈ refsL s := by
  induction s generalizing t with
  | nil => simp at h
  | cons y s ih =>
    simp only [refsL, List.mem_append]
    cases t with
    | zero => simp at h; subst h; exact .inl hr
    | succ t => exact .inr (ih (by simpa using h))

theorem draw_step (hc : CallOk P Γ call) (hg : GlobOk Γ w0 B) (R : Run P Γ call all as hs S G v X) {e0 : Emb} {ws : World} {df : List Deferred} {Y : Nat → Bool} {a : Act} {w : World} {e : Emb} (I : DInv all as hs S G v w0 B e0 ws df Y a w e)
    {i : Nat} (hin : i < all.length) (hi : Y i = false) (hanc : ∀ k ∈ as.getD i [], Y k = true) {ops : Array Oper} (hops : ops.toList = all) {Q : Exit → Act → World → Prop} {K : Act → World → Prop}
    (hK : ∀ a' w' e', DInv all as hs S G v w0 B e0 ws df (upd Y i) a' w' e' → K a' w') : wpOp P ops Q i K a w := by
  have hiops : ops[i]? = some all[i] := by
    rw [← Array.getElem?_toList, hops]; exact List.getElem?_eq_getElem hin
  unfold wpOp
  rw [hiops]
  simp only
  obtain ⟨h, h1, h2, h3, h4⟩ := R.step i all[i] (List.getElem?_eq_getElem hin)
  obtain ⟨h', h1', hlb, hla, hle, _⟩ := R.lens (List.getElem?_eq_getElem hin)
  rw [h1] at h1'; cases h1'
  have hm0 : (G 0).length ≤ (G i).length := R.mono (Nat.zero_le _) (by omega)
  have hmN : (G (i + 1)).length ≤ (G all.length).length := R.mono hin (Nat.le_refl _)
  have hwAt : ∀ id, wAt hs i id = wId h id := fun id => by unfold wAt; rw [h1]
  -- the names above: none is used yet, unless an operation behind made some
  have hnone : ∀ id eb, (G i).length ≤ id → e id = some eb → ∃ j, i < j ∧ Y j = true ∧ j < all.length ∧ (G j).length ≤ id ∧ id < (G (j + 1)).length := by
    intro id eb hid he
    rcases I.dom id eb he with hlt | ⟨j, j1, j2, j3, j4⟩
    · omega
    · rcases Nat.lt_trichotomy j i with hj | rfl | hj
      · have := R.mono (i := j + 1) (j := i) hj (by omega); omega
      · rw [hi] at j1; cases j1
      · exact ⟨j, hj, j1, j2, j3, j4⟩
  have hslots : ∀ t (ht : t < (S 0).length) (ht' : t < a.tmps.toList.length), Rep w0 B e (sAt all S v Y all.length t) a.tmps.toList[t] := fun t ht ht' => by
    have := I.rep.2 t (by simpa [sList] using ht) ht'
    simpa only [sList, List.getElem_map, List.getElem_range] using this
  have hslen : (S 0).length = a.tmps.toList.length := by simpa [sList] using I.rep.1
  have hSi : (S i).length = (S 0).length := R.slen (Nat.le_of_lt hin)
  -- a slot as the operation sees it
  have hsee : ∀ t, t < (S 0).length → (maskSlots as i all 0 (S i))[t]? = some .junk ∨ (maskSlots as i all 0 (S i))[t]? = some (sAt all S v Y all.length t) := by
    intro t ht
    by_cases hex : ∃ (q : Nat) (o : Oper), all[q]? = some o ∧ unordered as i (0 + q) = true ∧ o.dst = some t
    · obtain ⟨q, o, q1, q2, q3⟩ := hex
      exact .inl (maskSlots_in all 0 (S i) q o q1 q2 q3 (by omega))
    · have hd : ∀ (q : Nat) (o : Oper), all[q]? = some o → unordered as i (0 + q) = true → o.dst ≠ some t := fun q o q1 q2 q3 => hex ⟨q, o, q1, q2, q3⟩
      right
      rw [maskSlots_out all 0 (S i) hd, R.atS I.closed hin hi hanc ht hd]
      unfold getS
      rw [List.getD_eq_getElem?_getD, List.getElem?_eq_getElem (by omega)]
      rfl
  -- the blocks as it sees them
  have hHm : ∀ (id : Nat) (b : Blk), (maskHeap (maskIds as i hs 0) (G i))[id]? = some (some b) → id < (G i).length ∧ (gHeap hs G Y all.length (G all.length).length)[id]? = some (some b) := by
    intro id b hb
    obtain ⟨hm, hb'⟩ := maskHeap_live.1 hb
    have hlt := (List.getElem?_eq_some_iff.1 hb').1
    refine ⟨hlt, gHeap_get.2 ⟨by have := R.mono (Nat.le_of_lt hin) (Nat.le_refl all.length); omega, ?_⟩⟩
    rw [R.atG I.closed hin hi hanc hm, List.getD_eq_getElem?_getD, hb']
    rfl
  -- with a guard not met
  have hrest : (∀ (V0 : wantedV all (maskSlots as i all 0 (S i)) all[i] = some false), v i = V.undef → h.la = (G i).length → h.w = [] → K (a.put all[i].dst undef) w) := by
    intro _ hv hla' hw
    have hno : ∀ id, wAt hs i id = false := fun id => by
      rw [hwAt]; simp only [wId, hw, List.contains_nil, Bool.false_or, Bool.and_eq_false_iff, decide_eq_false_iff_not]; omega
    refine hK _ _ e ⟨?_, R.put hin (fun _ _ he => he) (fun _ _ he => he) I.rep (by rw [hv]; exact undef_ok), by rw [put_def]; exact I.dfs, fun id eb he => ?_, upd_closed I.closed hanc⟩
    · have : gHeap hs G (upd Y i) all.length (G all.length).length = gHeap hs G Y all.length (G all.length).length := by
        unfold gHeap
        exact List.map_congr_left fun id _ => gAt_same (hno id)
      rw [this]
      exact I.stp
    · rcases I.dom id eb he with g | ⟨j, j1, j2⟩
      · exact .inl g
      · exact .inr ⟨j, by simp [upd, j1], j2⟩
  -- what holds in the part that it sees
  have hpart : (laterOk as i hs 0 || boundedS (G i).length (maskSlots as i all 0 (S i)) (maskHeap (maskIds as i hs 0) (G i))) = true →
      HS w0 B (restrE (G i).length e) (maskHeap (maskIds as i hs 0) (G i)) w ∧ RepL w0 B (restrE (G i).length e) (maskSlots as i all 0 (S i)) a.tmps.toList := by
    intro hck
    have hre0 : laterOk as i hs 0 = true → ∀ id, (if id < (G i).length then e id else none) = e id := fun hlater id => by
      split
      · rfl
      · rename_i hid
        cases he : e id with
        | none => rfl
        | some eb =>
          exfalso
          obtain ⟨j, j1, j2, j3, j4, j5⟩ := hnone id eb (by omega) he
          obtain ⟨hj, g1, g2, g3, g4, _⟩ := R.lens (List.getElem?_eq_getElem j3)
          have hu : unordered as i j = true := by
            cases hu : unordered as i j with
            | true => rfl
            | false =>
              have := R.done I.closed hi hanc hu
              rw [j2] at this
              have := of_decide_eq_true this.symm
              omega
          have := laterOk_spec hs 0 hlater j hj g1 (by omega) (by rw [Nat.zero_add]; exact hu)
          omega
    have hre : laterOk as i hs 0 = true → restrE (G i).length e = e := fun hlater => by
      have hloc : (restrE (G i).length e).loc = e.loc := by
       funext id
       rw [restrE_at]
       exact hre0 hlater id
      calc restrE (G i).length e = ⟨(restrE (G i).length e).loc, e.frz⟩ := rfl
        _ = ⟨e.loc, e.frz⟩ := by rw [hloc]
        _ = e := rfl
    have hV : ∀ (t : Nat) (x : V) (x' : Value), (maskSlots as i all 0 (S i))[t]? = some x → Rep w0 B e x x' → Rep w0 B (restrE (G i).length e) x x' := by
      intro t x x' hx hr
      rcases Bool.or_eq_true _ _ ▸ hck with hl | hb
      · rw [hre hl]; exact hr
      · exact hr.restr fun r hr' => (boundedS_spec hb).1 r (refsL_mem hx hr')
    have hB : ∀ (id : Nat) (b : Blk) (eb : EB) (o : Obj), (maskHeap (maskIds as i hs 0) (G i))[id]? = some (some b) → BlkOk w0 B e b eb o → BlkOk w0 B (restrE (G i).length e) b eb o := by
      intro id b eb o hx hr
      rcases Bool.or_eq_true _ _ ▸ hck with hl | hb
      · rw [hre hl]; exact hr
      · exact hr.restr fun r hr' => (boundedS_spec hb).2 id b hx r hr'
    refine ⟨⟨I.stp.hs.old, I.stp.hs.szB, fun id eb he => ?_, fun id b hb => ?_, fun x y bx by' ex ey hx hy hex hey heq => ?_, I.stp.hs.frz, fun x bx ex hx hex => ?_⟩, ?_, fun t ht ht' => ?_⟩
    · rw [restrE_at] at he
      split at he
      · rw [maskHeap_length]
        exact ⟨by assumption, (I.stp.hs.dom id eb he).2⟩
      · cases he
    · obtain ⟨g1, g2⟩ := hHm id b hb
      obtain ⟨eb, o, he, ho, hok⟩ := I.stp.hs.live id b g2
      exact ⟨eb, o, by rw [restrE_at]; rw [if_pos g1]; exact he, ho, hB id b eb o hb hok⟩
    · rw [restrE_at] at hex hey
      rw [if_pos (hHm x bx hx).1] at hex
      rw [if_pos (hHm y by' hy).1] at hey
      exact I.stp.hs.inj x y bx by' ex ey (hHm x bx hx).2 (hHm y by' hy).2 hex hey heq
    · rw [restrE_at, if_pos (hHm x bx hx).1] at hex
      exact I.stp.hs.frl x bx ex (hHm x bx hx).2 hex
    · rw [maskSlots_length, hSi, hslen]
    · have ht0 : t < (S 0).length := by rw [maskSlots_length] at ht; omega
      rcases hsee t ht0 with hj | hj
      · rw [List.getElem?_eq_getElem ht] at hj
        rw [Option.some.inj hj]
        exact .junk _ _
      · have hj2 := hj
        rw [List.getElem?_eq_getElem ht] at hj
        rw [Option.some.inj hj]
        exact hV t _ _ hj2 (hslots t ht0 ht')
  rcases h4 with ⟨hw, hop, hlaX, hws, hck, hlater, hG⟩ | ⟨hw, hv, hla', hwn, hG⟩
  · obtain ⟨hsm, hrm⟩ := hpart hlater
    rw [wanted_ok (ops := ops) hrm (by rw [hops]; exact hw), if_pos rfl]
    left
    refine op_ok hc hg hsm hrm hop _ _ fun v' w' e1' hst hr => ?_
    dsimp only at hst hr
    have hkeep := op_keeps hop
    unfold Keeps at hkeep
    rw [maskHeap_length] at hkeep
    dsimp only at hkeep
    have hXl : (X i).length = (G (i + 1)).length := by omega
    have hnocreate : ∀ id eb, (G i).length ≤ id → id < (X i).length → e id = some eb → False := fun id eb g1 g2 he => by
      obtain ⟨j, j1, j2, j3, j4, j5⟩ := hnone id eb g1 he
      have := R.mono (i := i + 1) (j := j) j1 (by omega)
      omega
    obtain ⟨m1, m2, m3⟩ := mix (G' := gHeap hs G (upd Y i) all.length (G all.length).length) I.stp hst (fun id b hb => (hHm id b hb).2)
      (fun id eb he => by rw [restrE_at] at he; split at he <;> first | exact he | cases he) rfl
      (by rw [maskHeap_length]; exact hm0) (by rw [gHeap_length]; omega)
      (fun id g1 g2 => by
        rw [maskHeap_length] at g1
        cases he : e id with
        | none => rfl
        | some eb => exact (hnocreate id eb g1 g2 he).elim)
      (by rw [gHeap_length, gHeap_length]) (fun id b hb => by
        obtain ⟨b1, b2⟩ := gHeap_get.1 hb
        cases hwi : wAt hs i id with
        | true =>
          left
          rw [R.newG I.closed hin hi hanc hwi] at b2
          have hm := R.seen hin hwi
          have hidX : id < (X i).length := by
            rw [hwAt] at hwi
            simp only [wId, Bool.or_eq_true, List.contains_iff_mem, Bool.and_eq_true, decide_eq_true_eq] at hwi
            rcases hwi with hwi | hwi
            · have := (hck id hwi).1; omega
            · omega
          rw [hG, mergeHeap_getD _ _ _ _ hidX, if_neg (by simpa using hm), List.getD_eq_getElem?_getD, List.getElem?_eq_getElem hidX] at b2
          rw [List.getElem?_eq_getElem hidX]
          simpa using b2
        | false =>
          have b3 := gAt_same (G := G) (Y := Y) (n := all.length) hwi
          rw [b3] at b2
          have hnw := hwi
          rw [hwAt] at hnw
          simp only [wId, Bool.or_eq_false_iff, List.contains_eq_mem, decide_eq_false_iff_not, Bool.and_eq_false_iff] at hnw
          by_cases hvis : id < (G i).length ∧ id ∉ maskIds as i hs 0
          · left
            have hGi := R.atG I.closed hin hi hanc hvis.2
            rw [hGi, List.getD_eq_getElem?_getD, List.getElem?_eq_getElem hvis.1] at b2
            rw [hkeep.2 id hvis.1 (by rw [← hws]; exact hnw.1)]
            refine maskHeap_live.2 ⟨hvis.2, ?_⟩
            rw [List.getElem?_eq_getElem hvis.1]
            simpa using b2
          · right
            refine ⟨gHeap_get.2 ⟨b1, b2⟩, by rw [maskHeap_length]; omega, fun b0 hb0 => ?_⟩
            obtain ⟨g1, g2⟩ := maskHeap_live.1 hb0
            exact hvis ⟨(List.getElem?_eq_some_iff.1 g2).1, g1⟩)
    refine hK _ _ _ ⟨m1, R.put hin m3 (fun b o hb => hst.fup b o hb) I.rep (hr.mono m2), by rw [put_def]; exact I.dfs, fun id eb he => ?_, upd_closed I.closed hanc⟩
    rw [mixE_at] at he
    split at he
    · rename_i hrange
      rw [maskHeap_length] at hrange
      exact .inr ⟨i, by simp [upd], hin, hrange.1, by omega⟩
    · rcases I.dom id eb he with g | ⟨j, j1, j2⟩
      · exact .inl g
      · exact .inr ⟨j, by simp [upd, j1], j2⟩
  · have hrm : RepL w0 B e (maskSlots as i all 0 (S i)) a.tmps.toList := by
      refine ⟨by rw [maskSlots_length, hSi, hslen], fun t ht ht' => ?_⟩
      have ht0 : t < (S 0).length := by rw [maskSlots_length] at ht; omega
      rcases hsee t ht0 with hj | hj
      · rw [List.getElem?_eq_getElem ht] at hj
        rw [Option.some.inj hj]
        exact .junk _ _
      · rw [List.getElem?_eq_getElem ht] at hj
        rw [Option.some.inj hj]
        exact hslots t ht0 ht'
    rw [wanted_ok (ops := ops) hrm (by rw [hops]; exact hw)]
    exact hrest hw hv hla' hwn

theorem draw_go (hc : CallOk P Γ call) (hg : GlobOk Γ w0 B) (R : Run P Γ call all as hs S G v X) (hbk : backward all 0 = true) {e0 : Emb} {ws : World} {df : List Deferred} {ops : Array Oper} (hops : ops.toList = all) {Q : Exit → Act → World → Prop}
    (hQ : ∀ a' w' e', Stp w0 B e0 (G 0) ws e' (G all.length) w' → RepL w0 B e' (S all.length) a'.tmps.toList → a'.defers = df → Q .normal a' w') :
    ∀ (fuel : Nat) (listed : Array Bool) (a : Act) (w : World) (e : Emb), listed.size = ops.size → listed.toList.count false ≤ fuel → DInv all as hs S G v w0 B e0 ws df (fun j => listed.getD j false) a w e → wpAny P .any ops Q fuel listed a w := by
  have hsz : ops.size = all.length := by rw [← hops]; simp
  have hbind : ∀ ed : Edge, bindsAny ed = Region.binds .any ed := fun _ => rfl
  -- all done
  have hall : ∀ (listed : Array Bool) (a : Act) (w : World) (e : Emb), listed.size = ops.size → (∀ j, j < ops.size → listed.getD j true = true) → DInv all as hs S G v w0 B e0 ws df (fun j => listed.getD j false) a w e → Q .normal a w := by
    intro listed a w e hl hd I
    have hY : ∀ j, j < all.length → (fun j => listed.getD j false) j = (fun _ => true) j := fun j hj => by
      have := hd j (by omega)
      have hj' : j < listed.size := by omega
      simp only [Array.getD_eq_getD_getElem?, Array.getElem?_eq_getElem hj', Option.getD_some] at this ⊢
      exact this
    have hg1 : gHeap hs G (fun j => listed.getD j false) all.length (G all.length).length = G all.length := by
      refine List.ext_getElem? fun id => ?_
      unfold gHeap
      rw [List.getElem?_map]
      rcases Nat.lt_or_ge id (G all.length).length with h | h
      · rw [List.getElem?_range h, Option.map_some, List.getElem?_eq_getElem h]
        have h1 : gAt hs G (fun j => listed.getD j false) all.length id = gAt hs G (fun _ => true) all.length id := by
          unfold gAt
          exact lastOf_congr fun j hj => by rw [hY j hj]
        rw [h1, R.order id (Nat.le_refl _), List.getD_eq_getElem?_getD, List.getElem?_eq_getElem h]
        rfl
      · rw [List.getElem?_eq_none (by simpa using h), List.getElem?_eq_none h]; rfl
    have hs1 : sList all S v (fun j => listed.getD j false) all.length = S all.length := by
      refine List.ext_getElem? fun t => ?_
      unfold sList
      rw [List.getElem?_map]
      have hlen := R.slen (Nat.le_refl all.length)
      rcases Nat.lt_or_ge t (S 0).length with h | h
      · rw [List.getElem?_range h, Option.map_some, List.getElem?_eq_getElem (by omega)]
        have h1 : sAt all S v (fun j => listed.getD j false) all.length t = sAt all S v (fun _ => true) all.length t := by
          unfold sAt
          exact lastOf_congr fun j hj => by rw [hY j hj]
        rw [h1, R.orderS t (Nat.le_refl _) h]
        unfold getS
        rw [List.getD_eq_getElem?_getD, List.getElem?_eq_getElem (by omega)]
        rfl
      · rw [List.getElem?_eq_none (by simpa using h), List.getElem?_eq_none (by omega)]; rfl
    refine hQ a w e ?_ ?_ I.dfs
    · have := I.stp; rwa [hg1] at this
    · have := I.rep; rwa [hs1] at this
  -- none ready: all done
  have hnone : ∀ (listed : Array Bool), listed.size = ops.size → Region.ready .any ops listed = [] → ∀ j, j < ops.size → listed.getD j true = true := by
    intro listed hl hr j
    induction j using Nat.strongRecOn with
    | _ j ih =>
      intro hj
      cases hlj : listed.getD j true with
      | true => rfl
      | false =>
        exfalso
        have : j ∈ Region.ready .any ops listed := by
          refine mem_ready.2 ⟨hlj, ops[j], Array.getElem?_eq_getElem hj, fun ed he hb => ?_⟩
          have hon := backward_spec all 0 hbk j ops[j] (by rw [← hops]; simp [hj]) ed (by simpa using he) hb
          have := ih ed.on (by omega) (by omega)
          have hlt : ed.on < listed.size := by omega
          simp only [Array.getD_eq_getD_getElem?, Array.getElem?_eq_getElem hlt, Option.getD_some] at this ⊢
          exact this
        rw [hr] at this
        simp at this
  intro fuel
  induction fuel with
  | zero =>
    intro listed a w e hl hcnt I
    have hd : ∀ j, j < ops.size → listed.getD j true = true := fun j hj => by
      have hj' : j < listed.size := by omega
      have h0 : listed.toList.count false = 0 := by omega
      rw [List.count_eq_zero] at h0
      simp only [Array.getD_eq_getD_getElem?, Array.getElem?_eq_getElem hj', Option.getD_some]
      cases hx : listed[j] with
      | true => rfl
      | false => exact absurd (by rw [← hx]; simp) h0
    refine ⟨?_, hall listed a w e hl hd I⟩
    refine List.eq_nil_iff_forall_not_mem.2 fun j hj => ?_
    obtain ⟨g1, o, g2, _⟩ := mem_ready.1 hj
    rw [hd j (Array.getElem?_eq_some_iff.1 g2).1] at g1
    cases g1
  | succ fuel ih =>
    intro listed a w e hl hcnt I
    refine ⟨fun hr => hall listed a w e hl (hnone listed hl hr) I, fun i hi => ?_⟩
    obtain ⟨g1, o, g2, g3⟩ := mem_ready.1 hi
    have hin : i < ops.size := (Array.getElem?_eq_some_iff.1 g2).1
    have hi' : i < listed.size := by omega
    have hli : listed[i] = false := by
      simpa only [Array.getD_eq_getD_getElem?, Array.getElem?_eq_getElem hi', Option.getD_some] using g1
    refine draw_step hc hg R I (i := i) (by omega) ?_ ?_ hops fun a' w' e' I' => ?_
    · simp only [Array.getD_eq_getD_getElem?, Array.getElem?_eq_getElem hi', Option.getD_some]
      exact hli
    · intro k hk
      have ho : all[i]? = some o := by rw [← hops]; simpa using g2
      obtain ⟨ed, h1, h2, h3⟩ := R.anc i o ho k hk
      have hed := g3 ed (by simpa using h1) h2
      rcases h3 with rfl | h3
      · exact hed
      · exact I.closed ed.on hed k h3
    · refine ih (listed.setIfInBounds i true) a' w' e' (by simpa using hl) ?_ ?_
      · have hc1 : (listed.setIfInBounds i true).toList = listed.toList.set i true := by simp
        rw [hc1, List.count_set (by simpa using hi')]
        have hx : (listed.toList[i]'(by simpa using hi') == false) = true := by simp [hli]
        rw [hx, show (true == false) = false from rfl]
        simp only [if_true, Bool.false_eq_true, if_false]
        omega
      · have hY : (fun j => (listed.setIfInBounds i true).getD j false) = upd (fun j => listed.getD j false) i := by
          funext j
          simp only [upd, Array.getD_eq_getD_getElem?, Array.getElem?_setIfInBounds]
          by_cases hji : j = i
          · subst hji; simp [hi']
          · simp [hji, Ne.symm hji]
        rw [hY]
        exact I'

theorem region_ok (hm : P.follows .mixedOrders = true) (hc : CallOk P Γ call) : RegOk P Γ call := by
  intro ops draw s H r h w0 B e w a id Q hg hs hrep hQ
  unfold evRegion at h
  cases draw with
  | false => exact straight_ok hc (by simpa using h) w0 B e w a id Q hg hs hrep hQ
  | true =>
    rw [if_pos rfl] at h
    split at h
    · rename_i hbn
      simp only [Bool.and_eq_true] at hbn
      split at h
      · rename_i hints hh
        obtain ⟨S, G, v, X, h1, h2, h3, h4⟩ := draw_trace P Γ call ops.toList 0 s H r rfl h
        rw [Nat.zero_add] at h3
        have hR : Run P Γ call ops.toList (ancs ops.toList) hints S G v X := by
          refine ⟨fun j o ho => h4 j o (Nat.zero_le _) ho, by rw [hintsGo_length _ _ _ _ hh]; exact Nat.le_refl _, ancs_ok _, anc_lt (ancs_ok _) ?_ hbn.1, dsts_inj _ (nodupB_spec hbn.2)⟩
          unfold ancs
          rw [ancGo_length]
          simp
        subst h1 h2
        cases h3
        refine wp_region_any hm (draw_go hc hg hR hbn.1 (df := a.defers) (e0 := e) (ws := w) rfl (fun a' w' e' hst hr hd => hQ a' w' e' hst hr hd) ops.size _ a _ e (by simp) (by simp [List.count_replicate]) ?_)
        have hY : (fun j => (Array.replicate ops.size false).getD j false) = fun _ => false := by
          funext j
          simp only [Array.getD_eq_getD_getElem?, Array.getElem?_replicate]
          split <;> rfl
        rw [hY]
        have hgA : ∀ n id, gAt hints G (fun _ => false) n id = (G 0).getD id none := fun n id => by
          unfold gAt
          exact lastOf_cut (Nat.zero_le n) fun j _ _ => rfl
        have hsA : ∀ n t, sAt ops.toList S v (fun _ => false) n t = getS (S 0) t := fun n t => by
          unfold sAt
          exact lastOf_cut (Nat.zero_le n) fun j _ _ => rfl
        have hlive : ∀ (id : Nat) (b : Blk), (gHeap hints G (fun _ => false) ops.toList.length (G ops.toList.length).length)[id]? = some (some b) → (G 0)[id]? = some (some b) := fun id b hb => by
          obtain ⟨_, hb2⟩ := gHeap_get.1 hb
          rw [hgA, List.getD_eq_getElem?_getD] at hb2
          cases hx : (G 0)[id]? with
          | none => rw [hx] at hb2; cases hb2
          | some o => rw [hx] at hb2; simp at hb2; rw [hb2]
        have hN := hR.mono (Nat.zero_le _) (Nat.le_refl ops.toList.length)
        refine ⟨⟨⟨hs.old, hs.szB, fun id eb he => ?_, fun id b hb => hs.live id b (hlive id b hb), fun i j bi bj ei ej hi hj h1 h2 h3 => hs.inj i j bi bj ei ej (hlive _ _ hi) (hlive _ _ hj) h1 h2 h3, hs.frz, fun i k x hk hx => hs.frl i k x (hlive i k hk) hx⟩, fun _ _ => rfl, by rw [gHeap_length]; exact hN, fun id b hid hb => ⟨b, hlive id b hb⟩, fun id eb hid he => absurd (hs.dom id eb he).1 (by omega), fun _ _ _ => rfl, Nat.le_refl _, rfl, rfl, rfl, fun _ _ h => h, fun _ _ h => .inl h, fun _ => Nat.le_succ _⟩, ?_, rfl, fun id eb he => .inl (hs.dom id eb he).1, fun j hj => by cases hj⟩
        · rw [gHeap_length]
          exact ⟨by have := (hs.dom id eb he).1; omega, (hs.dom id eb he).2⟩
        · have : sList ops.toList S v (fun _ => false) ops.toList.length = S 0 := by
            refine List.ext_getElem? fun t => ?_
            unfold sList
            rw [List.getElem?_map]
            rcases Nat.lt_or_ge t (S 0).length with h | h
            · rw [List.getElem?_range h, Option.map_some, hsA, List.getElem?_eq_getElem h]
              unfold getS
              rw [List.getD_eq_getElem?_getD, List.getElem?_eq_getElem h]
              rfl
            · rw [List.getElem?_eq_none (by simpa using h), List.getElem?_eq_none h]; rfl
          rw [this]
          exact hrep
      · cases h
    · cases h

theorem evF_sound (ho : CallOk P Γ Γ.orc) (hm : P.follows .mixedOrders = true) (k : Nat) : CallOk P Γ (evF P Γ k) := evF_ok ho (fun call hc => region_ok hm hc) k
end
end Go.Ev
