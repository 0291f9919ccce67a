/-
  EACH OPERATION THAT CALLS NOTHING DOES WHAT THE EVALUATOR SAYS, fourth part: operators (own work).
-/
import Derived.Test.YtnalmdnfoicokaaEv6
set_option linter.unusedSimpArgs false
set_option linter.unusedVariables false
namespace Go.Ev
open Go

section
variable {P : Program} {w0 : World} {B : Nat} {e : Emb} {H : Heap} {w : World}

def noNum : Value → Bool
  | .bool _ => true
  | .pointer _ => true
  | .slice _ _ _ => true
  | .map _ => true
  | .func _ _ _ => true
  | .nilFunc => true
  | .iface _ _ => true
  | .nilIface => true
  | .agg _ => true
  | _ => false

theorem binOp_eql (t : TypeId) {x : Value} (y : Value) (h : noNum x = true) : binOp .eql t x y = (do Pure.pure (.bool (← Op.equal t x y))) := by
  cases x <;> simp only [noNum, reduceCtorEq] at h <;> cases y <;> rfl
theorem binOp_neq (t : TypeId) {x : Value} (y : Value) (h : noNum x = true) : binOp .neq t x y = (do Pure.pure (.bool (!(← Op.equal t x y)))) := by
  cases x <;> simp only [noNum, reduceCtorEq] at h <;> cases y <;> rfl

theorem guard_off (op : BinOp) (t : TypeId) (ox oy : Operand) (x y : Value) (h1 : ∀ a b, ¬ (x = .agg a ∧ y = .agg b)) (h2 : ¬ (x = .nilIface ∧ y = .nilIface)) : (eqGuard op t ox oy x y).run P w = .ok () w := by
  cases op <;> first | rfl | skip
  all_goals
    unfold eqGuard
    simp only [Bool.not_true, Bool.false_eq_true, if_false, Sem.run_bind, Sem.run_pure, Result.andThen_ok, pure_bind]
    split
    · exact absurd ⟨rfl, rfl⟩ h2
    · exact absurd ⟨rfl, rfl⟩ (h1 _ _)
    · rfl

def scal : V → Value
  | .int k n => .int k n
  | .bool b => .bool b
  | .str s => .string s
  | _ => undef

theorem binInt_ok {op : BinOp} {k : IntKind} {a b : Int} {z : V} {t : TypeId} (hs1 : op ≠ .shl) (hs2 : op ≠ .shr) (h : binInt op k a b = some z) : ∃ vz, (binOp op t (.int k a) (.int k b)).run P w = .ok vz w ∧ Rep w0 B e z vz := by
  refine ⟨scal z, ?_, ?_⟩
  · cases op <;> simp only [binInt, Option.some.injEq, reduceCtorEq] at h <;> first
      | (exact absurd rfl hs1)
      | (exact absurd rfl hs2)
      | (subst h; simp [scal, binOp, Op.intArith, Op.intBits, Op.intCmp]; done)
      | (split at h
         · cases h
         · rename_i hb; cases h; simp [scal, binOp, Op.intDiv, hb])
  · cases op <;> simp only [binInt, Option.some.injEq, reduceCtorEq] at h <;> first
      | (subst h; constructor; done)
      | (split at h
         · cases h
         · rename_i hb; cases h; constructor)

theorem binShift_ok {op : BinOp} {k k' : IntKind} {a b : Int} {z : V} {t : TypeId} (hop : op = .shl ∨ op = .shr) (h : binShift op k a b = some z) : ∃ vz, (binOp op t (.int k a) (.int k' b)).run P w = .ok vz w ∧ Rep w0 B e z vz := by
  unfold binShift at h
  split at h
  · cases h
  · rename_i hb
    rcases hop with rfl | rfl
    · simp only [Option.some.injEq] at h; subst h
      exact ⟨.int k (k.wrap (a * 2 ^ (min b.toNat k.bits))), by simp [binOp, Op.shift, hb], .int _ _ _⟩
    · simp only [Option.some.injEq] at h; subst h
      exact ⟨.int k (a.fdiv (2 ^ (min b.toNat k.bits))), by simp [binOp, Op.shift, hb], .int _ _ _⟩

theorem i64_max : IntKind.i64.max = 9223372036854775807 := by decide

theorem binStr_ok {op : BinOp} {a b : ByteArray} {z : V} {t : TypeId} (h : binStr op a b = some z) : ∃ vz, (binOp op t (.string a) (.string b)).run P w = .ok vz w ∧ Rep w0 B e z vz := by
  refine ⟨scal z, ?_, ?_⟩
  · cases op <;> simp only [binStr, Option.some.injEq, reduceCtorEq] at h <;> first
      | (subst h; simp [scal, binOp, Op.stringOp]; done)
      | (split at h
         · rename_i hl
           cases h
           have hn : ¬ (((a.size + b.size : Nat) : Int) > IntKind.i64.max) := by rw [i64_max]; omega
           simp only [scal, binOp, Op.stringOp]
           rw [if_neg hn]
           rfl
         · cases h)
  · cases op <;> simp only [binStr, Option.some.injEq, reduceCtorEq] at h <;> first
      | (subst h; constructor; done)
      | (split at h
         · cases h; constructor
         · cases h)

theorem noNum_ok {x : V} {v : Value} (h : Rep w0 B e x v) (hx : noNumV x = true) : noNum v = true := by
  cases h <;> first | rfl | simp [noNumV] at hx
theorem aggOf_none {x : V} {v : Value} (h : Rep w0 B e x v) (hx : noNumV x = true) (ha : (aggOf x).isNone = true) : ∀ a, v ≠ .agg a := by
  intro a hv
  subst hv
  cases h with
  | agg => simp [aggOf] at ha
  | junk => simp [noNumV] at hx

theorem bin_ok {op : BinOp} {t : TypeId} {x y z : V} {vx vy : Value} (h : evBin P op t x y = some z) (hx : Rep w0 B e x vx) (hy : Rep w0 B e y vy) (ox oy : Operand) :
    ∃ vz, (do eqGuard op t ox oy vx vy; binOp op t vx vy : Sem Value).run P w = .ok vz w ∧ Rep w0 B e z vz := by
  unfold evBin at h
  split at h
  · rename_i k a k' b
    cases hx; cases hy
    have hg := guard_off (P := P) (w := w) op t ox oy (.int k a) (.int k' b) (fun _ _ h => by cases h.1) (fun h => by cases h.1)
    simp only [Sem.run_bind, hg, Result.andThen_ok]
    split at h
    · exact binShift_ok (.inl rfl) h
    · exact binShift_ok (.inr rfl) h
    · rename_i hn1 hn2
      split at h
      · rename_i hk; subst hk
        exact binInt_ok (fun h => hn1 h) (fun h => hn2 h) h
      · cases h
  · rename_i a b
    cases hx; cases hy
    have hg := guard_off (P := P) (w := w) op t ox oy (.string a) (.string b) (fun _ _ h => by cases h.1) (fun h => by cases h.1)
    simp only [Sem.run_bind, hg, Result.andThen_ok]
    exact binStr_ok h
  · cases h
  · cases h
  · rename_i hii hss hnn hnj
    split at h
    · rename_i hc
      simp only [Bool.and_eq_true, Bool.or_eq_true, Bool.not_eq_true'] at hc
      have hno := noNum_ok hx hc.1
      have hG : (eqGuard op t ox oy vx vy).run P w = .ok () w := by
        by_cases hagg : ∃ a b, vx = .agg a ∧ vy = .agg b
        · obtain ⟨a, b, rfl, rfl⟩ := hagg
          rcases hc.2 with h1 | h1
          · exact absurd rfl (aggOf_none hx hc.1 h1 a)
          · exact run_eqGuard_agg w op t ox oy a b h1
        · refine guard_off op t ox oy vx vy (fun a b hab => hagg ⟨a, b, hab⟩) fun hn => ?_
          obtain ⟨rfl, rfl⟩ := hn
          cases hx with
          | nili =>
            cases hy with
            | nili => exact hnn rfl rfl
            | junk => exact hnj rfl rfl
          | junk => simp [noNumV] at hc
      simp only [Sem.run_bind, hG, Result.andThen_ok]
      split at h
      · obtain ⟨b, hb, rfl⟩ := Option.map_eq_some_iff.1 h
        have := eqV_ok (w := w) 10000 t x y b vx vy hb hx hy
        rw [binOp_eql t vy hno]
        exact ⟨.bool b, by simp [Op.equal, Op.maxDepth, this], .bool _ _⟩
      · obtain ⟨b, hb, rfl⟩ := Option.map_eq_some_iff.1 h
        have := eqV_ok (w := w) 10000 t x y b vx vy hb hx hy
        rw [binOp_neq t vy hno]
        exact ⟨.bool !b, by simp [Op.equal, Op.maxDepth, this], .bool _ _⟩
      · cases h
    · cases h

theorem un_ok {op : UnOp} {x z : V} {v : Value} (h : evUn op x = some z) (hx : Rep w0 B e x v) : ∃ vz, (Op.unary op v).run P w = .ok vz w ∧ Rep w0 B e z vz := by
  refine ⟨scal z, ?_, ?_⟩
  · unfold evUn at h
    split at h <;> first
      | (cases h; done)
      | (cases hx; cases h; simp only [scal, Op.unary, Op.intArith, Op.intBits, Sem.run_pure]; done)
  · unfold evUn at h
    split at h <;> first
      | (cases h; done)
      | (cases hx; cases h; constructor)
end
end Go.Ev
