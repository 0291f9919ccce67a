/-
  DRAWN REGIONS, FOR EVALUATION BY 'simp' (own work).
-/
import Derived.Test.YtnalmdnfoicokaaEv26
set_option linter.unusedSimpArgs false
set_option linter.unusedVariables false
namespace Go.Ev
open Go

section
variable (P : Program) (Γ : Env) (call : CallF)

def hintNext (all rest : List Oper) (o : Oper) (s : List V) (H : Heap) (r : Option (V × Heap)) : Option (List Hint) := match r with
  | some (v, H') => (hintsGo P Γ call all rest (putS s o.dst v) H').map (⟨writesOf Γ s H o.op, H.length, H'.length⟩ :: ·)
  | none => none
def hintF (all rest : List Oper) (o : Oper) (s : List V) (H : Heap) (b : Bool) : Option (List Hint) :=
  if b then hintNext P Γ call all rest o s H (evOp P Γ call s H o.op) else (hintsGo P Γ call all rest (putS s o.dst V.undef) H).map (⟨[], H.length, H.length⟩ :: ·)
def hintW (all rest : List Oper) (o : Oper) (s : List V) (H : Heap) (w : Option Bool) : Option (List Hint) := match w with
  | some b => hintF P Γ call all rest o s H b
  | none => none

variable {P Γ call}
theorem hintF_true (all rest : List Oper) (o : Oper) (s : List V) (H : Heap) : hintF P Γ call all rest o s H true = hintNext P Γ call all rest o s H (evOp P Γ call s H o.op) := rfl
theorem hintF_false (all rest : List Oper) (o : Oper) (s : List V) (H : Heap) : hintF P Γ call all rest o s H false = (hintsGo P Γ call all rest (putS s o.dst V.undef) H).map (⟨[], H.length, H.length⟩ :: ·) := rfl
@[simp] theorem hintNext_some (all rest : List Oper) (o : Oper) (s : List V) (H : Heap) (v : V) (H' : Heap) : hintNext P Γ call all rest o s H (some (v, H')) = (hintsGo P Γ call all rest (putS s o.dst v) H').map (⟨writesOf Γ s H o.op, H.length, H'.length⟩ :: ·) := rfl
@[simp] theorem hintNext_none (all rest : List Oper) (o : Oper) (s : List V) (H : Heap) : hintNext P Γ call all rest o s H none = none := rfl
@[simp] theorem hintNext_ite (all rest : List Oper) (o : Oper) (s : List V) (H : Heap) (c : Prop) [Decidable c] (x y : Option (V × Heap)) : hintNext P Γ call all rest o s H (if c then x else y) = if c then hintNext P Γ call all rest o s H x else hintNext P Γ call all rest o s H y := by split <;> rfl
@[simp] theorem hintW_true (all rest : List Oper) (o : Oper) (s : List V) (H : Heap) : hintW P Γ call all rest o s H (some true) = hintNext P Γ call all rest o s H (evOp P Γ call s H o.op) := rfl
@[simp] theorem hintW_false (all rest : List Oper) (o : Oper) (s : List V) (H : Heap) : hintW P Γ call all rest o s H (some false) = (hintsGo P Γ call all rest (putS s o.dst V.undef) H).map (⟨[], H.length, H.length⟩ :: ·) := rfl
@[simp] theorem hintW_none (all rest : List Oper) (o : Oper) (s : List V) (H : Heap) : hintW P Γ call all rest o s H none = none := rfl
@[simp low] theorem hintW_any (all rest : List Oper) (o : Oper) (s : List V) (H : Heap) (b : Bool) : hintW P Γ call all rest o s H (some b) = if b = true then hintF P Γ call all rest o s H true else hintF P Γ call all rest o s H false := by cases b <;> rfl
@[simp 500] theorem hintW_not (all rest : List Oper) (o : Oper) (s : List V) (H : Heap) (b : Bool) : hintW P Γ call all rest o s H (some (!b)) = if b = true then hintF P Γ call all rest o s H false else hintF P Γ call all rest o s H true := by cases b <;> rfl
@[simp] theorem hintsGo_nil (all : List Oper) (s : List V) (H : Heap) : hintsGo P Γ call all [] s H = some [] := rfl
@[simp] theorem hintsGo_cons (all : List Oper) (o : Oper) (rest : List Oper) (s : List V) (H : Heap) : hintsGo P Γ call all (o :: rest) s H = hintW P Γ call all rest o s H (wantedV all s o) := by
  rw [hintsGo]
  cases wantedV all s o with
  | none => rfl
  | some b => cases b <;> rfl

def drawNext (P : Program) (Γ : Env) (call : CallF) (all : List Oper) (as : List (List Nat)) (hs : List Hint) (rest : List Oper) (o : Oper) (i : Nat) (s : List V) (H : Heap) (h : Hint) (r : Option (V × Heap)) : Option (List V × Heap) := match r with
  | some (v, H') => if h.lb = H.length ∧ h.la = H'.length ∧ h.w = writesOf Γ (maskSlots as i all 0 s) (maskHeap (maskIds as i hs 0) H) o.op ∧ (h.w.all (fun id => decide (id < H.length) && !(maskIds as i hs 0).contains id)) = true ∧ (laterOk as i hs 0 || boundedS H.length (maskSlots as i all 0 s) (maskHeap (maskIds as i hs 0) H)) = true then
      drawGo P Γ call all as hs rest (i + 1) (putS s o.dst v) (mergeHeap (maskIds as i hs 0) H H') else none
  | none => none
def drawF (P : Program) (Γ : Env) (call : CallF) (all : List Oper) (as : List (List Nat)) (hs : List Hint) (rest : List Oper) (o : Oper) (i : Nat) (s : List V) (H : Heap) (h : Hint) (b : Bool) : Option (List V × Heap) :=
  if b then drawNext P Γ call all as hs rest o i s H h (evOp P Γ call (maskSlots as i all 0 s) (maskHeap (maskIds as i hs 0) H) o.op)
  else if h.lb = H.length ∧ h.la = H.length ∧ h.w = [] then drawGo P Γ call all as hs rest (i + 1) (putS s o.dst V.undef) H else none
def drawW (P : Program) (Γ : Env) (call : CallF) (all : List Oper) (as : List (List Nat)) (hs : List Hint) (rest : List Oper) (o : Oper) (i : Nat) (s : List V) (H : Heap) (w : Option Bool) (h : Option Hint) : Option (List V × Heap) := match w, h with
  | some b, some h => drawF P Γ call all as hs rest o i s H h b
  | _, _ => none
section
variable (all : List Oper) (as : List (List Nat)) (hs : List Hint) (rest : List Oper) (o : Oper) (i : Nat) (s : List V) (H : Heap) (h : Hint)
theorem drawF_true : drawF P Γ call all as hs rest o i s H h true = drawNext P Γ call all as hs rest o i s H h (evOp P Γ call (maskSlots as i all 0 s) (maskHeap (maskIds as i hs 0) H) o.op) := rfl
theorem drawF_false : drawF P Γ call all as hs rest o i s H h false = if h.lb = H.length ∧ h.la = H.length ∧ h.w = [] then drawGo P Γ call all as hs rest (i + 1) (putS s o.dst V.undef) H else none := rfl
@[simp] theorem drawNext_some (v : V) (H' : Heap) : drawNext P Γ call all as hs rest o i s H h (some (v, H')) = if h.lb = H.length ∧ h.la = H'.length ∧ h.w = writesOf Γ (maskSlots as i all 0 s) (maskHeap (maskIds as i hs 0) H) o.op ∧ (h.w.all (fun id => decide (id < H.length) && !(maskIds as i hs 0).contains id)) = true ∧ (laterOk as i hs 0 || boundedS H.length (maskSlots as i all 0 s) (maskHeap (maskIds as i hs 0) H)) = true then
      drawGo P Γ call all as hs rest (i + 1) (putS s o.dst v) (mergeHeap (maskIds as i hs 0) H H') else none := rfl
@[simp] theorem drawNext_none : drawNext P Γ call all as hs rest o i s H h none = none := rfl
@[simp] theorem drawNext_ite (c : Prop) [Decidable c] (x y : Option (V × Heap)) : drawNext P Γ call all as hs rest o i s H h (if c then x else y) = if c then drawNext P Γ call all as hs rest o i s H h x else drawNext P Γ call all as hs rest o i s H h y := by split <;> rfl
@[simp] theorem drawW_true : drawW P Γ call all as hs rest o i s H (some true) (some h) = drawNext P Γ call all as hs rest o i s H h (evOp P Γ call (maskSlots as i all 0 s) (maskHeap (maskIds as i hs 0) H) o.op) := rfl
@[simp] theorem drawW_false : drawW P Γ call all as hs rest o i s H (some false) (some h) = if h.lb = H.length ∧ h.la = H.length ∧ h.w = [] then drawGo P Γ call all as hs rest (i + 1) (putS s o.dst V.undef) H else none := rfl
@[simp low] theorem drawW_any (b : Bool) : drawW P Γ call all as hs rest o i s H (some b) (some h) = if b = true then drawF P Γ call all as hs rest o i s H h true else drawF P Γ call all as hs rest o i s H h false := by cases b <;> rfl
@[simp 500] theorem drawW_not (b : Bool) : drawW P Γ call all as hs rest o i s H (some (!b)) (some h) = if b = true then drawF P Γ call all as hs rest o i s H h false else drawF P Γ call all as hs rest o i s H h true := by cases b <;> rfl
@[simp] theorem drawGo_nil : drawGo P Γ call all as hs [] i s H = some (s, H) := rfl
@[simp] theorem drawGo_cons : drawGo P Γ call all as hs (o :: rest) i s H = drawW P Γ call all as hs rest o i s H (wantedV all (maskSlots as i all 0 s) o) hs[i]? := by
  rw [drawGo]
  cases wantedV all (maskSlots as i all 0 s) o with
  | none => rfl
  | some b => cases hs[i]? with
    | none => cases b <;> rfl
    | some h => cases b <;> rfl
end

def afterHints (P : Program) (Γ : Env) (call : CallF) (ops : List Oper) (s : List V) (H : Heap) (r : Option (List Hint)) : Option (List V × Heap) := match r with
  | some hs => drawGo P Γ call ops (ancs ops) hs ops 0 s H
  | none => none
@[simp] theorem afterHints_some (ops : List Oper) (s : List V) (H : Heap) (hs : List Hint) : afterHints P Γ call ops s H (some hs) = drawGo P Γ call ops (ancs ops) hs ops 0 s H := rfl
@[simp] theorem afterHints_none (ops : List Oper) (s : List V) (H : Heap) : afterHints P Γ call ops s H none = none := rfl
@[simp] theorem afterHints_ite (ops : List Oper) (s : List V) (H : Heap) (c : Prop) [Decidable c] (x y : Option (List Hint)) : afterHints P Γ call ops s H (if c then x else y) = if c then afterHints P Γ call ops s H x else afterHints P Γ call ops s H y := by split <;> rfl
@[simp] theorem map_ite_hints (c : Prop) [Decidable c] (g : List Hint → List Hint) (x y : Option (List Hint)) : (if c then x else y).map g = if c then x.map g else y.map g := by split <;> rfl
@[simp] theorem evRegion_draw (ops : List Oper) (s : List V) (H : Heap) : evRegion P Γ call ops true s H = if (backward ops 0 && nodupB (dsts ops)) = true then afterHints P Γ call ops s H (hintsGo P Γ call ops ops s H) else none := by
  unfold evRegion afterHints
  simp
  rfl
end
attribute [simp] backward dsts nodupB bindsAny Region.binds ancs ancGo unordered maskSlots maskIds maskHeap mergeHeap laterOk writesOf refOf
end Go.Ev
namespace Go.Ev
open Go
/-! ### Strings -/
theorem toList_loop (b : ByteArray) : ∀ (n i : Nat) (r : List UInt8), b.size - i = n → ByteArray.toList.loop b i r = r.reverse ++ b.data.toList.drop i
  | 0, i, r, h => by
    rw [ByteArray.toList.loop, if_neg (by omega), List.drop_of_length_le (by show b.data.toList.length ≤ i; simp; show b.size ≤ i; omega)]; simp
  | n + 1, i, r, h => by
    have hi : i < b.size := by omega
    have hi' : i < b.data.toList.length := by simpa using hi
    rw [ByteArray.toList.loop, if_pos hi, toList_loop b n (i + 1) _ (by omega), List.drop_eq_getElem_cons hi']
    have e : b.get! i = b.data.toList[i] := by
      show b.data[i]! = _
      have hd : i < b.data.size := hi
      simp [getElem!_pos b.data i hd]
    simp [e]
theorem toList_data (b : ByteArray) : b.toList = b.data.toList := by
  rw [ByteArray.toList, toList_loop b b.size 0 [] rfl]; simp
@[simp] theorem toList_inj {a b : ByteArray} : a.toList = b.toList ↔ a = b := by
  rw [toList_data, toList_data]
  exact ⟨fun h => ByteArray.ext (Array.toList_inj.1 h), fun h => by rw [h]⟩

/-! ### Values built; '==' -/
section
variable {P : Program} {t e : TypeId}
@[simp] theorem buildV_struct {cs : List V} {fs : Array Field} {pl : List (Nat × Nat)} (hz : tzc P t = some cs) (h : P.underlying t = some (.struct fs)) (hp : placesOf P fs.toList = some pl) (parts : List (Nat × V)) :
    buildV P t parts = (fillV (fun i => pl[i]?) cs parts).map .agg := by
  unfold tzc at hz
  obtain ⟨z, h1, h2⟩ := Option.bind_eq_some_iff.1 hz
  simp only [buildV, h1, h, h2, hp]
theorem buildV_array {cs : List V} {n m : Nat} (hz : tzc P t = some cs) (h : P.underlying t = some (.array n e)) (hm : tsz P e = some m) (parts : List (Nat × V)) :
    buildV P t parts = (fillV (fun i => some (i * m, m)) cs parts).map .agg := by
  unfold tzc at hz
  obtain ⟨z, h1, h2⟩ := Option.bind_eq_some_iff.1 hz
  simp only [buildV, h1, h, h2, hm]
theorem eqV_bool (h : P.underlying t = some .bool) (d : Nat) (x y : V) : eqV P (d + 1) t x y = eqB x y := by simp only [eqV, h]
theorem eqV_slice (h : P.underlying t = some (.slice e)) (d : Nat) (x y : V) : eqV P (d + 1) t x y = eqSlice x y := by simp only [eqV, h]
@[simp] theorem evBin_bool_eq (h : P.underlying t = some .bool) (a b : Bool) : evBin P .eql t (.bool a) (.bool b) = some (.bool (a == b)) := by
  simp only [evBin, noNumV, aggOf, Option.isNone_none, Bool.true_or, Bool.and_self, if_true]
  rw [show (10000 : Nat) = 9999 + 1 from rfl, eqV_bool h]
  rfl
@[simp] theorem evBin_bool_ne (h : P.underlying t = some .bool) (a b : Bool) : evBin P .neq t (.bool a) (.bool b) = some (.bool (a != b)) := by
  simp only [evBin, noNumV, aggOf, Option.isNone_none, Bool.true_or, Bool.and_self, if_true]
  rw [show (10000 : Nat) = 9999 + 1 from rfl, eqV_bool h]
  rfl
theorem evBin_sl (h : P.underlying t = some (.slice e)) (x y : V) (hx : noNumV x = true) (hx' : aggOf x = none) (hi : x ≠ .nili) :
    evBin P .eql t x y = (eqSlice x y).map .bool ∧ evBin P .neq t x y = (eqSlice x y).map fun b => .bool !b := by
  have key : eqV P 10000 t x y = eqSlice x y := by
    exact eqV_slice h 9999 x y
  cases x <;> simp [noNumV] at hx <;> simp [aggOf] at hx' <;> first | (exact absurd rfl hi) | (constructor <;> simp [evBin, noNumV, aggOf, key])
@[simp] theorem evBin_ro_eq (h' : isSl P t = true) (z : Bool) (n : Nat) (cs : List V) : evBin P .eql t (roV z n cs) .nils = some (.bool (z && n == 0)) := by
  obtain ⟨e, h, _⟩ := isSl_spec h'
  rw [(evBin_sl h _ _ (by unfold roV; split <;> rfl) (by unfold roV; split <;> rfl) (by unfold roV; split <;> simp)).1, eqSlice_ro1]; rfl
@[simp] theorem evBin_ro_ne (h' : isSl P t = true) (z : Bool) (n : Nat) (cs : List V) : evBin P .neq t (roV z n cs) .nils = some (.bool !(z && n == 0)) := by
  obtain ⟨e, h, _⟩ := isSl_spec h'
  rw [(evBin_sl h _ _ (by unfold roV; split <;> rfl) (by unfold roV; split <;> rfl) (by unfold roV; split <;> simp)).2, eqSlice_ro1]; rfl
@[simp] theorem evBin_own_eq (h' : isSl P t = true) (z : Bool) (id off n sz : Nat) : evBin P .eql t (ownV z id off n sz) .nils = some (.bool (z && n == 0)) := by
  obtain ⟨e, h, _⟩ := isSl_spec h'
  rw [(evBin_sl h _ _ (by unfold ownV; split <;> rfl) (by unfold ownV; split <;> rfl) (by unfold ownV; split <;> simp)).1, eqSlice_own1]; rfl
@[simp] theorem evBin_own_ne (h' : isSl P t = true) (z : Bool) (id off n sz : Nat) : evBin P .neq t (ownV z id off n sz) .nils = some (.bool !(z && n == 0)) := by
  obtain ⟨e, h, _⟩ := isSl_spec h'
  rw [(evBin_sl h _ _ (by unfold ownV; split <;> rfl) (by unfold ownV; split <;> rfl) (by unfold ownV; split <;> simp)).2, eqSlice_own1]; rfl
@[simp] theorem evBin_sl_eq (h' : isSl P t = true) (id off n sz : Nat) : evBin P .eql t (.sl id off n sz) .nils = some (.bool false) := by
  obtain ⟨e, h, _⟩ := isSl_spec h'
  rw [(evBin_sl h _ _ rfl rfl (by simp)).1]; rfl
@[simp] theorem evBin_sl_ne (h' : isSl P t = true) (id off n sz : Nat) : evBin P .neq t (.sl id off n sz) .nils = some (.bool true) := by
  obtain ⟨e, h, _⟩ := isSl_spec h'
  rw [(evBin_sl h _ _ rfl rfl (by simp)).2]; rfl
@[simp] theorem evBin_ros_eq (h' : isSl P t = true) (n : Nat) (cs : List V) : evBin P .eql t (.ros n cs) .nils = some (.bool false) := by
  obtain ⟨e, h, _⟩ := isSl_spec h'
  rw [(evBin_sl h _ _ rfl rfl (by simp)).1]; rfl
@[simp] theorem evBin_ros_ne (h' : isSl P t = true) (n : Nat) (cs : List V) : evBin P .neq t (.ros n cs) .nils = some (.bool true) := by
  obtain ⟨e, h, _⟩ := isSl_spec h'
  rw [(evBin_sl h _ _ rfl rfl (by simp)).2]; rfl
@[simp] theorem evBin_nils_eq (h' : isSl P t = true) : evBin P .eql t .nils .nils = some (.bool true) := by
  obtain ⟨e, h, _⟩ := isSl_spec h'
  rw [(evBin_sl h _ _ rfl rfl (by simp)).1]; rfl
@[simp] theorem evBin_nils_ne (h' : isSl P t = true) : evBin P .neq t .nils .nils = some (.bool false) := by
  obtain ⟨e, h, _⟩ := isSl_spec h'
  rw [(evBin_sl h _ _ rfl rfl (by simp)).2]; rfl
@[simp] theorem evBin_int (op : BinOp) (k k' : IntKind) (a b : Int) : evBin P op t (.int k a) (.int k' b) = match op with
    | .shl => binShift .shl k a b
    | .shr => binShift .shr k a b
    | op => if k = k' then binInt op k a b else none := rfl
@[simp] theorem evBin_str (op : BinOp) (a b : ByteArray) : evBin P op t (.str a) (.str b) = binStr op a b := rfl
end
section
variable (a b : ByteArray)
@[simp] theorem binStr_add : binStr .add a b = if a.size + b.size ≤ 9223372036854775807 then some (.str (a ++ b)) else none := rfl
@[simp] theorem binStr_eql : binStr .eql a b = some (.bool (decide (a = b))) := by rw [binStr]; by_cases h : a = b <;> simp [h]
@[simp] theorem binStr_neq : binStr .neq a b = some (.bool (!decide (a = b))) := by rw [binStr]; by_cases h : a = b <;> simp [h]
@[simp] theorem binStr_lss : binStr .lss a b = some (.bool (Op.bytesLess a.toList b.toList)) := rfl
@[simp] theorem binStr_leq : binStr .leq a b = some (.bool (Op.bytesLess a.toList b.toList || decide (a = b))) := by rw [binStr]; by_cases h : a = b <;> simp [h]
@[simp] theorem binStr_gtr : binStr .gtr a b = some (.bool !(Op.bytesLess a.toList b.toList || decide (a = b))) := by rw [binStr]; by_cases h : a = b <;> simp [h]
@[simp] theorem binStr_geq : binStr .geq a b = some (.bool !(Op.bytesLess a.toList b.toList)) := rfl
@[simp] theorem bsize_mk (a : Array UInt8) : (ByteArray.mk a).size = a.size := rfl
@[simp] theorem empty_mk : (⟨#[]⟩ : ByteArray) = ByteArray.empty := rfl
end
attribute [simp] clearV capV fillV placesOf buildSliceV zerosV makeSliceV appendV appendZ copyV minV maxV foldV
end Go.Ev
