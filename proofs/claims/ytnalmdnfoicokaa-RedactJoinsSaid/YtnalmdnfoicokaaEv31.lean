/-
  LOOP HEADS AT WHICH WHAT IS WITHIN BLOCKS IS READ OUT FOR GOOD, FOR EVALUATION BY 'simp' (own work).
-/
import Derived.Test.YtnalmdnfoicokaaEv30
set_option linter.unusedSimpArgs false
set_option linter.unusedVariables false
namespace Go.Ev
open Go

section
variable (keep : Nat → Bool) (d : Nat) (H : Heap)
@[simp] theorem snapK_bool (b : Bool) : snapK keep d H (.bool b) = .bool b := by cases d <;> rfl
@[simp] theorem snapK_int (k : IntKind) (n : Int) : snapK keep d H (.int k n) = .int k n := by cases d <;> rfl
@[simp] theorem snapK_str (s : ByteArray) : snapK keep d H (.str s) = .str s := by cases d <;> rfl
@[simp] theorem snapK_nilp : snapK keep d H .nilp = .nilp := by cases d <;> rfl
@[simp] theorem snapK_nils : snapK keep d H .nils = .nils := by cases d <;> rfl
@[simp] theorem snapK_nilm : snapK keep d H .nilm = .nilm := by cases d <;> rfl
@[simp] theorem snapK_nilf : snapK keep d H .nilf = .nilf := by cases d <;> rfl
@[simp] theorem snapK_nili : snapK keep d H .nili = .nili := by cases d <;> rfl
@[simp] theorem snapK_junk : snapK keep d H .junk = .junk := by cases d <;> rfl
@[simp] theorem snapK_ros (n : Nat) (cs : List V) : snapK keep d H (.ros n cs) = .ros n cs := by cases d <;> rfl
@[simp] theorem snapK_rov (cs : List V) : snapK keep d H (.ro cs) = .ro cs := by cases d <;> rfl
@[simp] theorem snapK_rom (ks vs : List V) : snapK keep d H (.rom ks vs) = .rom ks vs := by cases d <;> rfl
@[simp] theorem snapK_roV (z : Bool) (n : Nat) (cs : List V) : snapK keep d H (roV z n cs) = roV z n cs := by unfold roV; split <;> simp
/-- A block, read out. -/
def snapKB (off : Nat) (n : Option (Nat × Nat)) : Option (Option Blk) → V
  | some (some (.cells cs _)) => match n with
    | none => .ro ((cs.drop off).map (snapK keep d H))
    | some (len, sz) => .ros len (((cs.drop off).take (len * sz)).map (snapK keep d H))
  | _ => .junk
@[simp] theorem snapKB_ptr (off : Nat) (cs : List V) (e : Bool) : snapKB keep d H off none (some (some (.cells cs e))) = .ro ((cs.drop off).map (snapK keep d H)) := rfl
@[simp] theorem snapKB_sl (off len sz : Nat) (cs : List V) (e : Bool) : snapKB keep d H off (some (len, sz)) (some (some (.cells cs e))) = .ros len (((cs.drop off).take (len * sz)).map (snapK keep d H)) := rfl
@[simp] theorem snapK_ptr (id off : Nat) : snapK keep (d + 1) H (.ptr id off) = if keep id then .junk else snapKB keep d H off none H[id]? := by
  rw [snapK, V.sub, snapKB.eq_def]
  cases keep id <;> simp
  cases H[id]? with
  | none => rfl
  | some o => cases o with
    | none => rfl
    | some b => cases b <;> rfl
@[simp] theorem snapK_sl (id off len sz : Nat) : snapK keep (d + 1) H (.sl id off len sz) = if keep id then .junk else snapKB keep d H off (some (len, sz)) H[id]? := by
  rw [snapK, V.sub, snapKB.eq_def]
  cases keep id <;> simp
  cases H[id]? with
  | none => rfl
  | some o => cases o with
    | none => rfl
    | some b => cases b <;> rfl
end
theorem flat_snapK {keep : Nat → Bool} {d : Nat} {H : Heap} {cs : List V} (h : ∀ v ∈ cs, v.flat = true) : cs.map (snapK keep d H) = cs := by
  induction cs with
  | nil => rfl
  | cons v l ih =>
    have h1 := h v (by simp)
    have h2 : snapK keep d H v = v := by cases v <;> simp [V.flat] at h1 <;> simp
    simp [h2, ih fun v hv => h v (by simp [hv])]
@[simp] theorem snapK_flatE {α : Type} (E : Enc α) {keep : Nat → Bool} {d : Nat} {H : Heap} (l : List α) : (flatE E l).map (snapK keep d H) = flatE E l := flat_snapK (flatE_flat E l)
@[simp] theorem snapK_f {α : Type} (E : Enc α) {keep : Nat → Bool} {d : Nat} {H : Heap} (a : α) : (E.f a).map (snapK keep d H) = E.f a := flat_snapK (E.flat a)

section
variable (m : Nat) (L : List Nat) (H : Heap)
@[simp] theorem coldV_bool (b : Bool) : coldV m L H (.bool b) = .bool b := rfl
@[simp] theorem coldV_int (k : IntKind) (n : Int) : coldV m L H (.int k n) = .int k n := rfl
@[simp] theorem coldV_str (s : ByteArray) : coldV m L H (.str s) = .str s := rfl
@[simp] theorem coldV_nilp : coldV m L H .nilp = .nilp := rfl
@[simp] theorem coldV_nils : coldV m L H .nils = .nils := rfl
@[simp] theorem coldV_nilm : coldV m L H .nilm = .nilm := rfl
@[simp] theorem coldV_nilf : coldV m L H .nilf = .nilf := rfl
@[simp] theorem coldV_nili : coldV m L H .nili = .nili := rfl
@[simp] theorem coldV_junk : coldV m L H .junk = .junk := rfl
@[simp] theorem coldV_ros (n : Nat) (cs : List V) : coldV m L H (.ros n cs) = .ros n cs := rfl
@[simp] theorem coldV_rov (cs : List V) : coldV m L H (.ro cs) = .ro cs := rfl
@[simp] theorem coldV_rom (ks vs : List V) : coldV m L H (.rom ks vs) = .rom ks vs := rfl
@[simp] theorem coldV_roV (z : Bool) (n : Nat) (cs : List V) : coldV m L H (roV z n cs) = roV z n cs := by unfold roV; split <;> rfl
@[simp] theorem coldV_agg (cs : List V) : coldV m L H (.agg cs) = .agg (cs.map (coldV m L H)) := by
  unfold coldV; rw [V.sub, subL_eq]
@[simp] theorem coldV_tup (cs : List V) : coldV m L H (.tup cs) = .tup (cs.map (coldV m L H)) := by
  unfold coldV; rw [V.sub, subL_eq]
@[simp] theorem coldV_fn (f : Fn) (a b : List V) : coldV m L H (.fn f a b) = .fn f (a.map (coldV m L H)) (b.map (coldV m L H)) := by
  unfold coldV; rw [V.sub, subL_eq, subL_eq]
@[simp] theorem coldV_iface (t : Nat) (v : V) : coldV m L H (.iface t v) = .iface t (coldV m L H v) := rfl
@[simp] theorem coldV_ptr (id off : Nat) : coldV m L H (.ptr id off) = if keptB m L id = true then (V.ptr id off).ren (keepOf m L) else snapK (keptB m L) 4 H (.ptr id off) := rfl
@[simp] theorem coldV_sl (id off len sz : Nat) : coldV m L H (.sl id off len sz) = if keptB m L id = true then (V.sl id off len sz).ren (keepOf m L) else snapK (keptB m L) 4 H (.sl id off len sz) := rfl
@[simp] theorem coldV_map (id : Nat) : coldV m L H (.map id) = if keptB m L id = true then (V.map id).ren (keepOf m L) else snapK (keptB m L) 4 H (.map id) := rfl
/-- An own slice within a block: read out. -/
@[simp] theorem coldV_own {z : Bool} {id off n sz : Nat} {cs : List V} (hk : keptB m L id = false) (hH : H[id]? = some (ownB z n cs)) : coldV m L H (ownV z id off n sz) = roV z n (((cs.drop off).take (n * sz)).map (snapK (keptB m L) 3 H)) := by
  unfold ownV roV; split
  · rfl
  · rename_i hz
    rw [ownB, if_neg hz] at hH
    simp [hk, hH]
end
theorem flat_cold {m : Nat} {L : List Nat} {H : Heap} {cs : List V} (h : ∀ v ∈ cs, v.flat = true) : cs.map (coldV m L H) = cs := by
  induction cs with
  | nil => rfl
  | cons v l ih =>
    have h1 := h v (by simp)
    have h2 : coldV m L H v = v := by cases v <;> simp [V.flat] at h1 <;> simp
    simp [h2, ih fun v hv => h v (by simp [hv])]
@[simp] theorem cold_flatE {α : Type} (E : Enc α) {m : Nat} {L : List Nat} {H : Heap} (l : List α) : (flatE E l).map (coldV m L H) = flatE E l := flat_cold (flatE_flat E l)
@[simp] theorem cold_f {α : Type} (E : Enc α) {m : Nat} {L : List Nat} {H : Heap} (a : α) : (E.f a).map (coldV m L H) = E.f a := flat_cold (E.flat a)

def coldA (m : Nat) (L : List Nat) (H : Heap) : List (Nat × V) → List (Nat × V)
  | [] => []
  | (i, v) :: l => (i, coldV m L H v) :: coldA m L H l
@[simp] theorem coldA_nil (m : Nat) (L : List Nat) (H : Heap) : coldA m L H [] = [] := rfl
@[simp] theorem coldA_cons (m : Nat) (L : List Nat) (H : Heap) (i : Nat) (v : V) (l : List (Nat × V)) : coldA m L H ((i, v) :: l) = (i, coldV m L H v) :: coldA m L H l := rfl
theorem look_cold (m : Nat) (L : List Nat) (H : Heap) (j : Nat) : ∀ l : List (Nat × V), lookD .junk (coldA m L H l) j = coldV m L H (lookD .junk l j)
  | [] => rfl
  | (i, v) :: l => by
    simp only [coldA_cons, lookD_cons, look_cold m L H j l]
    split <;> rfl
theorem cold_mkL (m : Nat) (L : List Nat) (H : Heap) (n : Nat) (l : List (Nat × V)) : (mkL n .junk l).map (coldV m L H) = mkL n .junk (coldA m L H l) := by
  refine List.ext_getElem? fun j => ?_
  rw [List.getElem?_map, mkL_get, mkL_get, look_cold]
  split <;> rfl
/-- A loop's head, by what was written: what lies within blocks is read out for good. -/
@[simp] theorem tidy_cold {Γ : Env} {f m id n : Nat} {d : V} {l : List (Nat × V)} {H : Heap} {is : List Nat} (h : Γ.live f id = some is) (hc : Γ.cold f id = true) (ha : asc n is = true) :
    tidy Γ f m id (mkL n d l) H = (mkL n .junk (coldA m (topPlace m H fuelR (leavesA (pick d l is)) []) H (pick d l is)), coldHeap m (topPlace m H fuelR (leavesA (pick d l is)) []) H) := by
  unfold tidy
  rw [h]
  simp only [hc, if_true]
  rw [keepLive_mkL, cold_mkL, leavesL_mkL _ _ (by rw [pick_keys]; exact ha)]
theorem ownV_pos {z : Bool} {id off n sz : Nat} (h : 0 < n) : ownV z id off n sz = .sl id off n sz := by
  obtain ⟨m, rfl⟩ : ∃ m, n = m + 1 := ⟨n - 1, by omega⟩
  simp
theorem ownB_pos {z : Bool} {n : Nat} {cs : List V} (h : 0 < n) : ownB z n cs = some (.cells cs false) := by
  obtain ⟨m, rfl⟩ : ∃ m, n = m + 1 := ⟨n - 1, by omega⟩
  simp
theorem roV_pos {z : Bool} {n : Nat} {cs : List V} (h : 0 < n) : roV z n cs = .ros n cs := by
  obtain ⟨m, rfl⟩ : ∃ m, n = m + 1 := ⟨n - 1, by omega⟩
  simp
/-- Nothing appended. -/
@[simp] theorem appendS_zero_t {H : Heap} {n b id off len : Nat} {cs vs : List V} (hH : H[id]? = some (some (.cells cs true))) : appendS H n b (.sl id off len n) 0 vs = some (.sl id off len n, H) := by
  simp only [appendS, hH, bne_self_eq_false, Bool.false_eq_true, if_false, if_true]
@[simp] theorem appendS_zero_f {H : Heap} {n b id off len : Nat} {cs vs : List V} (hH : H[id]? = some (some (.cells cs false))) : appendS H n b (.sl id off len n) 0 vs = some (.sl id off len n, H) := by
  simp only [appendS, hH, bne_self_eq_false, Bool.false_eq_true, if_false, if_true]
theorem appendS_zero {H : Heap} {n b id off len : Nat} {cs vs : List V} {ex : Bool} (hH : H[id]? = some (some (.cells cs ex))) : appendS H n b (.sl id off len n) 0 vs = some (.sl id off len n, H) := by
  simp only [appendS, hH, bne_self_eq_false, Bool.false_eq_true, if_false, if_true]
attribute [simp] coldHeap topPlace keptB Blk.mapV
theorem evF_orc {P : Program} {Γ : Env} {k f : Nat} {args : List V} {H : Heap} {r : V × Heap} (h : Γ.orc f args H = some r) : evF P Γ (k + 1) f args H = some r := by
  simp only [evF, h]
end Go.Ev
