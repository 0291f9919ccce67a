/-
  THE REDACT SEAT: the law RedactShows returns true at all arguments (own work).
-/
import Derived.Test.YtnalmdnfoicokaaRsX
import Derived.Test.YtnalmdnfoicokaaRsX1
import Derived.Test.YtnalmdnfoicokaaRsX2
import Derived.Test.YtnalmdnfoicokaaRsX3
import Derived.Test.YtnalmdnfoicokaaRsX4
import Derived.Test.YtnalmdnfoicokaaRsX5
import Derived.Test.YtnalmdnfoicokaaRsX6
set_option linter.unusedSimpArgs false
set_option linter.unusedVariables false
set_option maxRecDepth 100000
set_option maxHeartbeats 4000000
namespace Go.Ev.Try
open Go Go.Ev Go.Proofs

theorem keep_within (l : List Span) (n : Nat) (h : n ≤ 65536) : Within n (keepL l n) := fun s hs => by
  have := (List.mem_filter.1 hs).2
  obtain ⟨⟨h1, h2, _⟩, h3⟩ := (inside_iff s n h).1 this
  exact ⟨h1, h2, h3⟩
theorem shows_ok (bs : List Int) (zb : Bool) (hzb : zb = true → bs = []) (l m : List Span) (zl zm : Bool) (hzl : zl = true → l = []) (hzm : zm = true → m = []) (s : Span) (hbl : bs.length ≤ 9223372036854775807) (hl : l.length ≤ 8796093022208) (hm : m.length ≤ 8796093022208) {k : Nat} (hk : 400000 + l.length + m.length < k) :
    evF Try.prog Γ (k + 1) 6 [roV zb bs.length (flatE (intE .u8) bs), roV zl l.length (flatE spanE l), roV zm m.length (flatE spanE m), .agg [.int .i64 s.off, .int .i64 s.len]] [] = some (.bool true, []) := by
  have wl := keep_within l bs.length
  have wm := keep_within m bs.length
  cases zl with
  | true =>
    obtain rfl := hzl rfl
    cases zm with
    | true =>
      obtain rfl := hzm rfl
      exact shows_nn bs zb hzb s hbl (by simpa using hk)
    | false =>
      rcases Nat.eq_zero_or_pos (keepL m bs.length).length with h | h
      · exact shows_ng0 bs zb hzb m s hbl hm wm h (by simpa using hk)
      · exact shows_ng bs zb hzb m s hbl hm wm h (by simpa using hk)
  | false =>
    cases zm with
    | true =>
      obtain rfl := hzm rfl
      rcases Nat.eq_zero_or_pos (keepL l bs.length).length with h | h
      · exact shows_gn0 bs zb hzb l s hbl hl wl h (by simpa using hk)
      · exact shows_gn bs zb hzb l s hbl hl wl h (by simpa using hk)
    | false =>
      rcases Nat.eq_zero_or_pos ((keepL l bs.length).length + (keepL m bs.length).length) with h | h
      · exact shows_gg0 bs zb hzb l m s hbl hl hm wl wm h hk
      · exact shows_gg bs zb hzb l m s hbl hl hm wl wm h hk
end Go.Ev.Try
