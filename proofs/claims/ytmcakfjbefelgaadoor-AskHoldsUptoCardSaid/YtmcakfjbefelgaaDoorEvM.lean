/-
  THE MODEL'S OWN ENTRIES OF internal/bytealg AT STRINGS, as oracles: CountString, IndexByteString (own work).
-/
import Derived.Test.YtmcakfjbefelgaaDoorEvH
import Derived.Lib.Bytealg
set_option linter.unusedSimpArgs false
set_option linter.unusedVariables false
namespace Go.Ev
open Go
section
variable {P : Program} {Γ : Env} {w0 : World} {B : Nat} {e : Emb} {H : Heap} {w : World}
theorem rep_two {s : ByteArray} {c : Int} {vs : List Value} (ha : RepL w0 B e [.str s, .int .u8 c] vs) : vs = [.string s, .int .u8 c] := by
  obtain ⟨v0, v1, rfl⟩ : ∃ x y, vs = [x, y] := by
    have := ha.1
    match vs, this with
    | [x, y], _ => exact ⟨x, y, rfl⟩
  have h0 := ha.head
  have h1 := ha.tail.head
  cases h0
  cases h1
  rfl
def countOrc (args : List V) (H : Heap) : Option (V × Heap) :=
  match args with
  | [.str s, .int .u8 c] => some (.int .i64 (Lib.countByte s.data.toList c.toNat.toUInt8), H)
  | _ => none
theorem countOrc_ok {f : Nat} {fn : Func} (hf : P.funcs[f]? = some fn) (hname : (fn.name == "runtime.NumGoroutine") = false)
    (hb : fn.body.isNone = true) (hn : Extern.findNext fn = none) (hx : Extern.find fn = some Extern.BytealgCount.count)
    {args : List V} {r : V × Heap} (h : countOrc args H = some r) {vs : List Value} (hs : HS w0 B e H w) (ha : RepL w0 B e args vs) : CallAt P f vs w0 B e H w r := by
  unfold countOrc at h
  split at h
  case h_2 => cases h
  rename_i s c
  cases h
  obtain rfl := rep_two ha
  refine Or.inr ⟨.int .i64 (Lib.countByte s.data.toList c.toNat.toUInt8), w, ?_, _, e, rfl, Stp.refl hs, .int _ _ _⟩
  rw [run_callFunc_extern hf hname hb hn hx]
  show ((Extern.BytealgCount.count #[.string s, .int .u8 c]).run P w).andThen _ = _
  rw [Lib.run_countString]; rfl
def idxByteOrc (args : List V) (H : Heap) : Option (V × Heap) :=
  match args with
  | [.str s, .int .u8 c] => some (.int .i64 (Lib.indexByte s.data.toList c.toNat.toUInt8), H)
  | _ => none
theorem idxByteOrc_ok {f : Nat} {fn : Func} (hf : P.funcs[f]? = some fn) (hname : (fn.name == "runtime.NumGoroutine") = false)
    (hb : fn.body.isNone = true) (hn : Extern.findNext fn = none) (hx : Extern.find fn = some Extern.BytealgIndexByte.indexByte)
    {args : List V} {r : V × Heap} (h : idxByteOrc args H = some r) {vs : List Value} (hs : HS w0 B e H w) (ha : RepL w0 B e args vs) : CallAt P f vs w0 B e H w r := by
  unfold idxByteOrc at h
  split at h
  case h_2 => cases h
  rename_i s c
  cases h
  obtain rfl := rep_two ha
  refine Or.inr ⟨.int .i64 (Lib.indexByte s.data.toList c.toNat.toUInt8), w, ?_, _, e, rfl, Stp.refl hs, .int _ _ _⟩
  rw [run_callFunc_extern hf hname hb hn hx]
  show ((Extern.BytealgIndexByte.indexByte #[.string s, .int .u8 c]).run P w).andThen _ = _
  rw [Lib.run_indexByteString]; rfl
end
end Go.Ev
