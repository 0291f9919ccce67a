import Derived.Test.YtflmadkbppnmcaaEvE
import Derived.Lib.Overlaps
import Derived.Laws.Externs
set_option linter.unusedSimpArgs false
set_option linter.unusedVariables false
namespace Go.Ev
open Go
theorem wrap_i64 {z : Int} (h1 : -9223372036854775808 ≤ z) (h2 : z ≤ 9223372036854775807) : IntKind.i64.wrap z = z := by
  rw [IntKind.wrap_i64]; omega
theorem addI_i64 {a b : Int} (h1 : -9223372036854775808 ≤ a + b) (h2 : a + b ≤ 9223372036854775807) : addI .i64 a b = a + b := by
  rw [addI_eq]; exact wrap_i64 h1 h2
theorem subI_i64 {a b : Int} (h1 : -9223372036854775808 ≤ a - b) (h2 : a - b ≤ 9223372036854775807) : subI .i64 a b = a - b := by
  rw [subI_eq]; exact wrap_i64 h1 h2
def junkL (q : Nat) : List V := List.replicate q V.junk
@[simp] theorem junkL_length (q : Nat) : (junkL q).length = q := List.length_replicate
theorem junkL_succ (q : Nat) : junkL (q + 1) = V.junk :: junkL q := rfl
@[simp] theorem junkL_drop (q n : Nat) : List.drop n (junkL q) = junkL (q - n) := List.drop_replicate
@[simp] theorem junkL_take (q n : Nat) : List.take n (junkL q) = junkL (min n q) := List.take_replicate
@[simp] theorem refs_junkL : ∀ q : Nat, refsL (junkL q) = []
  | 0 => rfl
  | q + 1 => by rw [junkL_succ]; simp [refsL, V.refs, refs_junkL q]
@[simp] theorem leaves_junkL : ∀ q : Nat, leavesL (junkL q) = []
  | 0 => rfl
  | q + 1 => by rw [junkL_succ]; simp [leavesL, V.leaves, leaves_junkL q]
@[simp] theorem own_junkL : ∀ q : Nat, ownL (junkL q) = true
  | 0 => rfl
  | q + 1 => by rw [junkL_succ]; simp [ownL, V.own, own_junkL q]
@[simp] theorem sub_junkL {hp : Nat → Nat → V} {hs : Nat → Nat → Nat → Nat → V} {hm : Nat → V} : ∀ q : Nat, subL hp hs hm (junkL q) = junkL q
  | 0 => rfl
  | q + 1 => by rw [junkL_succ]; simp [subL, V.sub, sub_junkL q]
@[simp] theorem snap_junkL {d : Nat} {H : Heap} : ∀ q : Nat, (junkL q).map (snap d H) = junkL q
  | 0 => rfl
  | q + 1 => by
    rw [junkL_succ, List.map_cons, snap_junkL q]
    congr 1
    cases d <;> simp [snap, V.sub]
@[simp] theorem appendS_room {H : Heap} {n b id off len k : Nat} {cs vs : List V} {ex : Bool} (hH : H[id]? = some (some (.cells cs ex))) (hk : k ≠ 0) (hr : off + (len + k) * n ≤ cs.length) :
    appendS H n b (.sl id off len n) k vs = (writeCells H id (off + len * n) vs).map fun H' => (.sl id off (len + k) n, H') := by
  simp [appendS, hH, hk, hr]
section
variable {P : Program} {w0 : World} {B : Nat} {e : Emb} {H : Heap} {w : World} {Γ : Env}
theorem HS.exactify (hs : HS w0 B e H w) {id : Nat} {cs : List V} {ex : Bool} (hid : H[id]? = some (some (.cells cs ex))) {eb : EB} (he : e id = some eb) :
    HS w0 B e (H.set id (some (.cells (cs ++ List.replicate (eb.size - (eb.base + cs.length)) V.junk) true))) w := by
  have hget : ∀ i k, (H.set id (some (.cells (cs ++ List.replicate (eb.size - (eb.base + cs.length)) V.junk) true)))[i]? = some (some k) → (i = id ∧ k = .cells (cs ++ List.replicate (eb.size - (eb.base + cs.length)) V.junk) true) ∨ (i ≠ id ∧ H[i]? = some (some k)) := fun i k hk => by
    rw [List.getElem?_set] at hk
    split at hk
    · rename_i hi
      split at hk
      · cases hk; exact .inl ⟨hi.symm, rfl⟩
      · cases hk
    · rename_i hi; exact .inr ⟨fun h => hi h.symm, hk⟩
  have halive : ∀ i k, (H.set id (some (.cells (cs ++ List.replicate (eb.size - (eb.base + cs.length)) V.junk) true)))[i]? = some (some k) → ∃ k', H[i]? = some (some k') := fun i k hk => by
    rcases hget i k hk with ⟨rfl, _⟩ | ⟨_, h⟩
    · exact ⟨_, hid⟩
    · exact ⟨_, h⟩
  refine ⟨hs.old, hs.szB, fun i x hx => by rw [List.length_set]; exact hs.dom i x hx, fun i k hk => ?_, fun i j bi bj ei ej hi hj h1 h2 h3 => ?_, hs.frz, fun i k x hk hx => ?_⟩
  · rcases hget i k hk with ⟨rfl, rfl⟩ | ⟨_, h⟩
    · obtain ⟨eb', o, he', ho, hok⟩ := hs.live i _ hid
      rw [he] at he'; cases he'
      cases o <;> simp only [BlkOk] at hok
      rename_i c el fr
      obtain ⟨k1, k2, k3, k4, k5⟩ := hok
      refine ⟨eb, _, he, ho, ?_⟩
      have hl : (cs ++ List.replicate (eb.size - (eb.base + cs.length)) V.junk).length = eb.size - eb.base := by simp; omega
      refine ⟨k1, by rw [hl]; omega, fun _ => by rw [hl]; omega, k4, ?_⟩
      rw [hl]
      have hseg : seg c eb.base (eb.size - eb.base) = seg c eb.base cs.length ++ (c.toList.drop (eb.base + cs.length)).take (eb.size - (eb.base + cs.length)) := by
        unfold seg
        rw [show eb.size - eb.base = cs.length + (eb.size - (eb.base + cs.length)) by omega, List.take_add, List.drop_drop]
      rw [hseg]
      refine k5.append ⟨⟨?_, fun j h1 h2 => ?_⟩, fun v hv => k4.2 v (List.mem_of_mem_drop (List.mem_of_mem_take hv))⟩
      · simp; omega
      · rw [List.getElem_replicate]; exact .junk _ _
    · exact hs.live i k h
  · obtain ⟨bi', hi'⟩ := halive i bi hi
    obtain ⟨bj', hj'⟩ := halive j bj hj
    exact hs.inj i j bi' bj' ei ej hi' hj' h1 h2 h3
  · obtain ⟨k', hk'⟩ := halive i k hk
    exact hs.frl i k' x hk' hx
theorem Stp.retell {H2 : Heap} (hlen : H2.length = H.length) (hal : ∀ (i : Nat) (b : Blk), H2[i]? = some (some b) → ∃ b', H[i]? = some (some b')) (hal2 : ∀ (i : Nat) (b : Blk), H[i]? = some (some b) → ∃ b', H2[i]? = some (some b')) {e' : Emb} {H' : Heap} {w' : World}
    (h : Stp w0 B e H2 w e' H' w') : Stp w0 B e H w e' H' w' := by
  refine ⟨h.hs, fun id hi => h.ext id (by omega), by rw [← hlen]; exact h.len, fun id b hi hb => ?_, fun id eb hi he => ?_, fun b hb hn => h.frame b hb fun i bi ei hi he => ?_, h.size, h.os, h.tape, h.output, h.fup, fun b o hb => ?_, h.drawn⟩
  · obtain ⟨b', hb'⟩ := h.alive id b (by omega) hb
    exact hal id b' hb'
  · rcases h.new id eb (by omega) he with h1 | ⟨i, bi, ei, h1, h2, h3⟩
    · exact .inl h1
    · obtain ⟨b', hb'⟩ := hal i bi h1
      exact .inr ⟨i, b', ei, hb', h2, h3⟩
  · obtain ⟨b', hb'⟩ := hal i bi hi
    exact hn i b' ei hb' he
  · rcases h.fnew b o hb with h1 | h1 | ⟨i, bi, ei, h1, h2, h3⟩
    · exact .inl h1
    · exact .inr (.inl h1)
    · obtain ⟨b', hb'⟩ := hal i bi h1
      exact .inr (.inr ⟨i, b', ei, hb', h2, h3⟩)
theorem Stp.collect {e' : Emb} {H' : Heap} {w' : World} (h : Stp w0 B e H w e' H' w') {j n sz T : Nat} {cs more : List V} {ex : Bool} (hj : H'[j]? = some (some (.cells (cs ++ more) ex))) (hT : H'.length ≤ T) {v : Value}
    (hv : Rep w0 B e' (.sl j 0 n sz) v) : ∃ e2, Stp w0 B e H w e2 (List.replicate T none ++ [some (.cells cs false)]) w' ∧ Rep w0 B e2 (.sl T 0 n sz) v := by
  cases hv with
  | sl _ _ _ _ _ cap eb o he k1 k2 k3 k4 =>
  have hget : ∀ i k, (List.replicate T (none : Option Blk) ++ [some (.cells cs false)])[i]? = some (some k) → i = T ∧ k = .cells cs false := fun i k hk => by
    rcases Nat.lt_or_ge i T with hl | hg
    · rw [List.getElem?_append_left (by simpa using hl), List.getElem?_replicate, if_pos hl] at hk; cases hk
    · rw [List.getElem?_append_right (by simpa using hg)] at hk
      simp only [List.length_replicate] at hk
      rcases Nat.eq_zero_or_pos (i - T) with h0 | h0
      · rw [h0] at hk; simp at hk; exact ⟨by omega, hk.symm⟩
      · rw [List.getElem?_eq_none (by simp; omega)] at hk; cases hk
  have hd := h.hs.dom j eb he
  have hup : ∀ i x, e' i = some x → (Emb.put e' T eb) i = some x := fun i x hx => by
    have := (h.hs.dom i x hx).1
    simp only [Emb.put]
    rw [if_neg (by omega)]; exact hx
  have hput : (Emb.put e' T eb) T = some eb := by simp [Emb.put]
  refine ⟨Emb.put e' T eb, ⟨⟨h.hs.old, h.hs.szB, fun i x hx => ?_, fun i k hk => ?_, fun i i2 bi bj ei ej hi hj' h1 h2 h3 => ?_, h.hs.frz, fun i k x hk hx => ?_⟩, fun i hi => ?_, ?_, fun i b hi hb => ?_, fun i x hi hx => ?_, h.frame, h.size, h.os, h.tape, h.output, h.fup, h.fnew, h.drawn⟩, .sl _ _ _ _ _ _ _ _ hput k1 k2 k3 k4⟩
  · simp only [Emb.put] at hx
    split at hx
    · cases hx; simp; omega
    · have := h.hs.dom i x hx; simp; omega
  · obtain ⟨rfl, rfl⟩ := hget i k hk
    obtain ⟨eb', ob, he', ho, hok⟩ := h.hs.live j _ hj
    rw [he] at he'; cases he'
    cases ob <;> simp only [BlkOk] at hok
    rename_i c el fr
    obtain ⟨m1, m2, m3, m4, m5⟩ := hok
    refine ⟨eb, _, hput, ho, ?_⟩
    simp only [List.length_append] at m2
    refine ⟨m1, by omega, (fun h => by cases h), m4, ?_⟩
    have := (m5.take cs.length).mono hup
    rw [List.take_append_of_le_length (Nat.le_refl _), List.take_length] at this
    unfold seg at this ⊢
    rwa [List.take_take, Nat.min_eq_left (by simp)] at this
  · obtain ⟨rfl, _⟩ := hget i bi hi
    obtain ⟨rfl, _⟩ := hget i2 bj hj'
    rfl
  · obtain ⟨rfl, _⟩ := hget i k hk
    rw [hput] at hx; cases hx
    exact h.hs.frl j _ eb hj he
  · have := h.len
    simp only [Emb.put]
    rw [if_neg (by omega)]; exact h.ext i hi
  · have := h.len; simp; omega
  · obtain ⟨rfl, _⟩ := hget i b hb
    have := h.len; omega
  · simp only [Emb.put] at hx
    split at hx
    · cases hx
      rcases Nat.lt_or_ge j H.length with hl | hg
      · obtain ⟨b', hb'⟩ := h.alive j _ hl hj
        exact .inr ⟨j, b', eb, hb', by rw [← h.ext j hl]; exact he, rfl⟩
      · exact h.new j eb hg he
    · exact h.new i x hi hx
def overlapsOrc (args : List V) (H : Heap) : Option (V × Heap) :=
  match args with
  | [.sl a oa la _, .sl b ob lb _] => if a = b then none else match H[a]?, H[b]? with
    | some (some (.cells ca _)), some (some (.cells cb _)) => if la = 0 || cb.length = 0 then none else some (.bool false, H)
    | _, _ => none
  | _ => none
theorem overlapsOrc_ok {f : Nat} {fn : Func} {tS tR el : TypeId} {size : Nat} (hf : P.funcs[f]? = some fn) (hname : (fn.name == "runtime.NumGoroutine") = false)
    (hb : fn.body.isNone = true) (hn : Extern.findNext fn = none) (hx : Extern.find fn = some (Extern.SlicesOverlaps.overlaps #[tS, tS] #[tR])) (ht : P.underlying tS = some (.slice el)) (hz : ∀ w, (Go.sizeOf el).run P w = .ok size w)
    {args : List V} {r : V × Heap} (h : overlapsOrc args H = some r) {vs : List Value} (hs : HS w0 B e H w) (ha : RepL w0 B e args vs) : CallAt P f vs w0 B e H w r := by
  unfold overlapsOrc at h
  split at h
  case h_2 => cases h
  rename_i a oa la sa b ob lb sb
  split at h
  · cases h
  rename_i hab
  split at h
  case h_2 => cases h
  rename_i ca exa cb exb hca hcb
  split at h
  · cases h
  rename_i hc
  simp only [Bool.or_eq_true, decide_eq_true_eq, not_or] at hc
  cases h
  obtain ⟨v0, v1, rfl⟩ : ∃ x y, vs = [x, y] := by
    have := ha.1
    match vs, this with
    | [x, y], _ => exact ⟨x, y, rfl⟩
  have h0 := ha.head
  have h1 := ha.tail.head
  cases h0 with
  | sl _ _ _ _ _ capa ea pa hea a1 a2 a3 a4 =>
  cases h1 with
  | sl _ _ _ _ _ capb eb pb heb b1 b2 b3 b4 =>
  obtain ⟨ea', oa', hea', hoa, hoka⟩ := hs.live a _ hca
  rw [hea] at hea'; cases hea'
  obtain ⟨eb', ob', heb', hob, hokb⟩ := hs.live b _ hcb
  rw [heb] at heb'; cases heb'
  cases oa' <;> simp only [BlkOk] at hoka
  rename_i cA elA frA
  cases ob' <;> simp only [BlkOk] at hokb
  rename_i cB elB frB
  obtain ⟨m1, m2, m3, m4, m5⟩ := hoka
  obtain ⟨n1, n2, n3, n4, n5⟩ := hokb
  have hne : ea.b ≠ eb.b := fun hh => hab (hs.inj a b _ _ ea eb hca hcb hea heb hh)
  have hpos : 0 < capa := by omega
  have hpa := a4 hpos
  have hpl : ea.base + oa < ea.size := by
    have := Nat.mul_pos hpos a2
    omega
  have hrun := Lib.run_overlaps_apart (P := P) w tS tR el ht size hz ⟨ea.b, pa, none⟩ ⟨eb.b, pb, none⟩ la capa lb capb hne elA elB cA.size cB.size
    (by simp [World.shape?, hoa]) (by simp [World.shape?, hob]) (by omega)
    (by have := m4.1 pa (by omega); obtain ⟨x, y⟩ := frA; simpa [World.frozen?, hoa] using this)
    (by have := m4.1 cA.size (Nat.le_refl _); obtain ⟨x, y⟩ := frA; simpa [World.frozen?, hoa] using this)
  refine Or.inr ⟨.bool false, w, ?_, .bool false, e, rfl, Stp.refl hs, .bool _ _⟩
  rw [run_callFunc_extern hf hname hb hn hx]
  show ((Extern.SlicesOverlaps.overlaps #[tS, tS] #[tR] #[.slice (some ⟨ea.b, pa, none⟩) la capa, .slice (some ⟨eb.b, pb, none⟩) lb capb]).run P w).andThen _ = _
  rw [hrun]; rfl
def insL {α : Type} (l : List α) (i : Nat) (x : α) : List α := l.take i ++ x :: l.drop i
theorem insL_length {α : Type} (l : List α) (i : Nat) (x : α) (h : i ≤ l.length) : (insL l i x).length = l.length + 1 := by simp [insL]; omega
def InsWalk {α : Type} (E : Enc α) (P : Program) (Γ0 : Env) (f b T : Nat) : Prop :=
  (∀ x : α, ∃ k j H' more ex, evF P Γ0 k f [.nils, .int .i64 0, .sl 0 0 1 E.k] [some (.cells (E.f x) true)] = some (.sl j 0 1 E.k, H') ∧ H'[j]? = some (some (.cells (E.f x ++ more) ex)) ∧ H'.length ≤ T) ∧
  ∀ (l : List α) (x : α) (i q : Nat), i ≤ l.length → (l.length + 1) * b ≤ 140737488355328 → ∃ k j H' more ex,
    evF P Γ0 k f [.sl 0 0 l.length E.k, .int .i64 i, .sl 1 0 1 E.k] [some (.cells (flatE E l ++ junkL (q * E.k)) true), some (.cells (E.f x) true)] = some (.sl j 0 (l.length + 1) E.k, H') ∧
      H'[j]? = some (some (.cells (flatE E (insL l i x) ++ more) ex)) ∧ H'.length ≤ T
open Classical in
noncomputable def insOrc {α : Type} [Inhabited α] (E : Enc α) (b T : Nat) (args : List V) (H : Heap) : Option (V × Heap) :=
  match args, H with
  | [.sl 0 0 len sz, .int .i64 n, .sl 1 0 1 sz2], [some (.cells cs false), some (.cells xs true)] =>
    if h : ∃ p : List α × α, sz = E.k ∧ sz2 = E.k ∧ cs = flatE E p.1 ∧ p.1.length = len ∧ xs = E.f p.2 ∧ 0 ≤ n ∧ n.toNat ≤ len ∧ (len + 1) * b ≤ 140737488355328 then
      some (.sl T 0 (len + 1) sz, List.replicate T none ++ [some (.cells (flatE E (insL (Classical.choose h).1 n.toNat (Classical.choose h).2)) false)])
    else none
  | [.nils, .int .i64 0, .sl 0 0 1 sz2], [some (.cells xs true)] =>
    if h : ∃ x : α, sz2 = E.k ∧ xs = E.f x then some (.sl T 0 1 sz2, List.replicate T none ++ [some (.cells xs false)]) else none
  | _, _ => none
theorem insOrc_ok {α : Type} [Inhabited α] (E : Enc α) (hk0 : 0 < E.k) {Γ0 : Env} (hglob : Γ0.glob = Γ.glob) (hmono : Γ0.mono = Γ.mono) {f b T : Nat} (hw : InsWalk E P Γ0 f b T) (hsound : ∀ k, CallOk P Γ0 (evF P Γ0 k))
    {args : List V} {r : V × Heap} (h : insOrc E b T args H = some r) {vs : List Value} (hg : GlobOk Γ w0 B) (hs : HS w0 B e H w) (ha : RepL w0 B e args vs) : CallAt P f vs w0 B e H w r := by
  have hg0 : GlobOk Γ0 w0 B := ⟨fun h => by rw [hmono]; exact hg.1 h, fun g cs hc => hg.2 g cs (by rw [← hglob]; exact hc)⟩
  unfold insOrc at h
  split at h
  case h_3 => cases h
  rotate_left
  · rename_i sz2 xs
    split at h
    case isFalse => cases h
    rename_i hex
    obtain ⟨x, rfl, rfl⟩ := hex
    cases h
    obtain ⟨k, j, H', more, ex, hev, hj, hT⟩ := hw.1 x
    have hat := hsound k f _ _ _ hev w0 B e w _ hg0 hs ha
    refine CallsE.mono hat fun ed w' hp => ?_
    obtain ⟨v, e', rfl, hst, hr⟩ := hp
    obtain ⟨e2, hst3, hr3⟩ := hst.collect hj hT hr
    exact ⟨v, e2, rfl, hst3, hr3⟩
  rename_i len sz n sz2 cs xs
  split at h
  case isFalse => cases h
  rename_i hex
  obtain ⟨h1, h2, h3, h4, h5, h6, h7, h8⟩ := Classical.choose_spec hex
  generalize Classical.choose hex = p at *
  obtain ⟨l, x⟩ := p
  simp only at h1 h2 h3 h4 h5 h6 h7 h8 h
  subst h1 h2 h3 h4 h5
  obtain ⟨i, rfl⟩ := Int.eq_ofNat_of_zero_le h6
  simp only [Int.toNat_natCast] at h h7
  cases h
  obtain ⟨v0, v1, v2, rfl⟩ : ∃ x y z, vs = [x, y, z] := by
    have := ha.1
    match vs, this with
    | [x, y, z], _ => exact ⟨x, y, z, rfl⟩
  have a0 := ha.head
  cases a0 with
  | sl _ _ _ _ _ cap eb o he k1 k2 k3 k4 =>
  have hid : ([some (.cells (flatE E l) false), some (.cells (E.f x) true)] : Heap)[0]? = some (some (.cells (flatE E l) false)) := rfl
  obtain ⟨eb', o', he', ho', hok⟩ := hs.live 0 _ hid
  rw [he] at he'; cases he'
  cases o' <;> simp only [BlkOk] at hok
  rename_i c el fr
  obtain ⟨m1, m2, m3, m4, m5⟩ := hok
  have hx := hs.exactify hid he
  have hq : eb.size - (eb.base + (flatE E l).length) = (cap - l.length) * E.k := by
    rw [flatE_length, Nat.sub_mul]
    have : l.length * E.k ≤ cap * E.k := Nat.mul_le_mul_right _ k1
    omega
  rw [hq] at hx
  obtain ⟨k, j, H', more, ex, hev, hj, hT⟩ := hw.2 l x i (cap - l.length) h7 h8
  have hat := hsound k f _ _ _ hev w0 B e w _ hg0 hx ha
  refine CallsE.mono hat fun ed w' hp => ?_
  obtain ⟨v, e', rfl, hst, hr⟩ := hp
  have hst2 : Stp w0 B e [some (.cells (flatE E l) false), some (.cells (E.f x) true)] w e' H' w' := Stp.retell (H := [some (.cells (flatE E l) false), some (.cells (E.f x) true)]) (H2 := [some (.cells (flatE E l ++ List.replicate ((cap - l.length) * E.k) V.junk) true), some (.cells (E.f x) true)]) rfl
    (fun i b hb => by
      match i, hb with
      | 0, _ => exact ⟨_, rfl⟩
      | 1, _ => exact ⟨_, rfl⟩)
    (fun i b hb => by
      match i, hb with
      | 0, _ => exact ⟨_, rfl⟩
      | 1, _ => exact ⟨_, rfl⟩) hst
  obtain ⟨e2, hst3, hr3⟩ := hst2.collect hj hT hr
  exact ⟨v, e2, rfl, hst3, hr3⟩
theorem insOrc_eq {α : Type} [Inhabited α] (E : Enc α) (hk : 0 < E.k) (hinj : ∀ a b, E.f a = E.f b → a = b) (b T : Nat) (l : List α) (x : α) (i : Nat) (hi : i ≤ l.length) (hb : (l.length + 1) * b ≤ 140737488355328) :
    insOrc E b T [.sl 0 0 l.length E.k, .int .i64 i, .sl 1 0 1 E.k] [some (.cells (flatE E l) false), some (.cells (E.f x) true)] = some (.sl T 0 (l.length + 1) E.k, List.replicate T none ++ [some (.cells (flatE E (insL l i x)) false)]) := by
  have hex : ∃ p : List α × α, E.k = E.k ∧ E.k = E.k ∧ flatE E l = flatE E p.1 ∧ p.1.length = l.length ∧ E.f x = E.f p.2 ∧ (0 : Int) ≤ (i : Int) ∧ ((i : Int)).toNat ≤ l.length ∧ (l.length + 1) * b ≤ 140737488355328 :=
    ⟨(l, x), rfl, rfl, rfl, rfl, rfl, by omega, by omega, hb⟩
  have h1 := Classical.choose_spec hex
  have e1 : Classical.choose hex = (l, x) := Prod.ext (flatE_inj E hk hinj _ _ h1.2.2.1.symm) (hinj _ _ h1.2.2.2.2.1.symm)
  refine (dif_pos hex).trans ?_
  rw [e1, Int.toNat_natCast]
theorem insOrc_nil {α : Type} [Inhabited α] (E : Enc α) (b T : Nat) (x : α) : insOrc E b T [.nils, .int .i64 0, .sl 0 0 1 E.k] [some (.cells (E.f x) true)] = some (.sl T 0 1 E.k, List.replicate T none ++ [some (.cells (E.f x) false)]) :=
  dif_pos ⟨x, rfl, rfl⟩
end
end Go.Ev
