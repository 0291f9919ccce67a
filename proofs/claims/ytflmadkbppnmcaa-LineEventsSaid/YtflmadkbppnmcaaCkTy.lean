/-
  FACTS ON THE TYPES, printed by wip/tools/facts.py (own work).
-/
import Derived.Test.YtflmadkbppnmcaaEvD
import Derived.Test.YtflmadkbppnmcaaProg
import Derived.KernelRfl
set_option maxRecDepth 100000
namespace Go.Ev.Try
open Go Go.Ev Go.Proofs

@[simp] theorem tsz0 : tsz Try.prog 0 = some 1 := by kernel_rfl
@[simp] theorem tbytes0 : tbytes Try.prog 0 = some 0 := by kernel_rfl
@[simp] theorem tagg0 : tagg Try.prog 0 = some false := by kernel_rfl
@[simp] theorem notInt0 : notInt Try.prog 0 = true := by kernel_rfl
@[simp] theorem tzc0 : tzc Try.prog 0 = none := by kernel_rfl
attribute [simp] Try.underlying0
@[simp] theorem tsz1 : tsz Try.prog 1 = some 1 := by kernel_rfl
@[simp] theorem tbytes1 : tbytes Try.prog 1 = some 8 := by kernel_rfl
@[simp] theorem tagg1 : tagg Try.prog 1 = some false := by kernel_rfl
@[simp] theorem notInt1 : notInt Try.prog 1 = true := by kernel_rfl
@[simp] theorem tzc1 : tzc Try.prog 1 = some [.nilf] := by kernel_rfl
attribute [simp] Try.underlying1
@[simp] theorem tsz2 : tsz Try.prog 2 = some 1 := by kernel_rfl
@[simp] theorem tbytes2 : tbytes Try.prog 2 = some 8 := by kernel_rfl
@[simp] theorem tagg2 : tagg Try.prog 2 = some false := by kernel_rfl
@[simp] theorem notInt2 : notInt Try.prog 2 = false := by kernel_rfl
@[simp] theorem tzc2 : tzc Try.prog 2 = some [(.int .i64 (0))] := by kernel_rfl
attribute [simp] Try.underlying2
@[simp] theorem tsz3 : tsz Try.prog 3 = some 1 := by kernel_rfl
@[simp] theorem tbytes3 : tbytes Try.prog 3 = some 8 := by kernel_rfl
@[simp] theorem tagg3 : tagg Try.prog 3 = some false := by kernel_rfl
@[simp] theorem notInt3 : notInt Try.prog 3 = false := by kernel_rfl
@[simp] theorem tzc3 : tzc Try.prog 3 = some [(.int .i64 (0))] := by kernel_rfl
attribute [simp] Try.underlying3
@[simp] theorem tsz4 : tsz Try.prog 4 = some 1 := by kernel_rfl
@[simp] theorem tbytes4 : tbytes Try.prog 4 = some 1 := by kernel_rfl
@[simp] theorem tagg4 : tagg Try.prog 4 = some false := by kernel_rfl
@[simp] theorem notInt4 : notInt Try.prog 4 = true := by kernel_rfl
@[simp] theorem tzc4 : tzc Try.prog 4 = some [(.bool false)] := by kernel_rfl
attribute [simp] Try.underlying4
@[simp] theorem tsz5 : tsz Try.prog 5 = some 1 := by kernel_rfl
@[simp] theorem tbytes5 : tbytes Try.prog 5 = some 1 := by kernel_rfl
@[simp] theorem tagg5 : tagg Try.prog 5 = some false := by kernel_rfl
@[simp] theorem notInt5 : notInt Try.prog 5 = false := by kernel_rfl
@[simp] theorem tzc5 : tzc Try.prog 5 = some [(.int .u8 (0))] := by kernel_rfl
attribute [simp] Try.underlying5
@[simp] theorem tsz6 : tsz Try.prog 6 = some 1 := by kernel_rfl
@[simp] theorem tbytes6 : tbytes Try.prog 6 = some 1 := by kernel_rfl
@[simp] theorem tagg6 : tagg Try.prog 6 = some false := by kernel_rfl
@[simp] theorem notInt6 : notInt Try.prog 6 = false := by kernel_rfl
@[simp] theorem tzc6 : tzc Try.prog 6 = some [(.int .u8 (0))] := by kernel_rfl
attribute [simp] Try.underlying6
@[simp] theorem tsz7 : tsz Try.prog 7 = some 4 := by kernel_rfl
@[simp] theorem tbytes7 : tbytes Try.prog 7 = some 24 := by kernel_rfl
@[simp] theorem tagg7 : tagg Try.prog 7 = some true := by kernel_rfl
@[simp] theorem notInt7 : notInt Try.prog 7 = true := by kernel_rfl
@[simp] theorem tzc7 : tzc Try.prog 7 = some [(.int .i64 (0)), (.int .i64 (0)), (.bool false), (.int .u8 (0))] := by kernel_rfl
attribute [simp] Try.underlying7
@[simp] theorem tsz8 : tsz Try.prog 8 = some 4 := by kernel_rfl
@[simp] theorem tbytes8 : tbytes Try.prog 8 = some 24 := by kernel_rfl
@[simp] theorem tagg8 : tagg Try.prog 8 = some true := by kernel_rfl
@[simp] theorem notInt8 : notInt Try.prog 8 = true := by kernel_rfl
@[simp] theorem tzc8 : tzc Try.prog 8 = some [(.int .i64 (0)), (.int .i64 (0)), (.bool false), (.int .u8 (0))] := by kernel_rfl
attribute [simp] Try.underlying8
@[simp] theorem tsz9 : tsz Try.prog 9 = some 1 := by kernel_rfl
@[simp] theorem tbytes9 : tbytes Try.prog 9 = some 16 := by kernel_rfl
@[simp] theorem tagg9 : tagg Try.prog 9 = some false := by kernel_rfl
@[simp] theorem notInt9 : notInt Try.prog 9 = true := by kernel_rfl
@[simp] theorem tzc9 : tzc Try.prog 9 = some [(.str ⟨#[]⟩)] := by kernel_rfl
attribute [simp] Try.underlying9
@[simp] theorem tsz10 : tsz Try.prog 10 = some 1 := by kernel_rfl
@[simp] theorem tbytes10 : tbytes Try.prog 10 = some 16 := by kernel_rfl
@[simp] theorem tagg10 : tagg Try.prog 10 = some false := by kernel_rfl
@[simp] theorem notInt10 : notInt Try.prog 10 = true := by kernel_rfl
@[simp] theorem tzc10 : tzc Try.prog 10 = some [(.str ⟨#[]⟩)] := by kernel_rfl
attribute [simp] Try.underlying10
@[simp] theorem tsz11 : tsz Try.prog 11 = some 1 := by kernel_rfl
@[simp] theorem tbytes11 : tbytes Try.prog 11 = some 16 := by kernel_rfl
@[simp] theorem tagg11 : tagg Try.prog 11 = some false := by kernel_rfl
@[simp] theorem notInt11 : notInt Try.prog 11 = true := by kernel_rfl
@[simp] theorem tzc11 : tzc Try.prog 11 = some [(.str ⟨#[]⟩)] := by kernel_rfl
attribute [simp] Try.underlying11
@[simp] theorem tsz12 : tsz Try.prog 12 = some 1 := by kernel_rfl
@[simp] theorem tbytes12 : tbytes Try.prog 12 = some 8 := by kernel_rfl
@[simp] theorem tagg12 : tagg Try.prog 12 = some false := by kernel_rfl
@[simp] theorem notInt12 : notInt Try.prog 12 = false := by kernel_rfl
@[simp] theorem tzc12 : tzc Try.prog 12 = some [(.int .u64 (0))] := by kernel_rfl
attribute [simp] Try.underlying12
@[simp] theorem tsz13 : tsz Try.prog 13 = some 2 := by kernel_rfl
@[simp] theorem tbytes13 : tbytes Try.prog 13 = some 24 := by kernel_rfl
@[simp] theorem tagg13 : tagg Try.prog 13 = some true := by kernel_rfl
@[simp] theorem notInt13 : notInt Try.prog 13 = true := by kernel_rfl
@[simp] theorem tzc13 : tzc Try.prog 13 = some [(.str ⟨#[]⟩), (.int .u64 (0))] := by kernel_rfl
attribute [simp] Try.underlying13
@[simp] theorem tsz14 : tsz Try.prog 14 = some 2 := by kernel_rfl
@[simp] theorem tbytes14 : tbytes Try.prog 14 = some 24 := by kernel_rfl
@[simp] theorem tagg14 : tagg Try.prog 14 = some true := by kernel_rfl
@[simp] theorem notInt14 : notInt Try.prog 14 = true := by kernel_rfl
@[simp] theorem tzc14 : tzc Try.prog 14 = some [(.str ⟨#[]⟩), (.int .u64 (0))] := by kernel_rfl
attribute [simp] Try.underlying14
@[simp] theorem tsz15 : tsz Try.prog 15 = some 1 := by kernel_rfl
@[simp] theorem tbytes15 : tbytes Try.prog 15 = some 8 := by kernel_rfl
@[simp] theorem tagg15 : tagg Try.prog 15 = some false := by kernel_rfl
@[simp] theorem notInt15 : notInt Try.prog 15 = true := by kernel_rfl
@[simp] theorem tzc15 : tzc Try.prog 15 = some [.nilp] := by kernel_rfl
attribute [simp] Try.underlying15
@[simp] theorem tsz16 : tsz Try.prog 16 = some 1 := by kernel_rfl
@[simp] theorem tbytes16 : tbytes Try.prog 16 = some 8 := by kernel_rfl
@[simp] theorem tagg16 : tagg Try.prog 16 = some false := by kernel_rfl
@[simp] theorem notInt16 : notInt Try.prog 16 = true := by kernel_rfl
@[simp] theorem tzc16 : tzc Try.prog 16 = some [.nilp] := by kernel_rfl
attribute [simp] Try.underlying16
@[simp] theorem tsz17 : tsz Try.prog 17 = some 1 := by kernel_rfl
@[simp] theorem tbytes17 : tbytes Try.prog 17 = some 8 := by kernel_rfl
@[simp] theorem tagg17 : tagg Try.prog 17 = some false := by kernel_rfl
@[simp] theorem notInt17 : notInt Try.prog 17 = true := by kernel_rfl
@[simp] theorem tzc17 : tzc Try.prog 17 = some [.nilp] := by kernel_rfl
attribute [simp] Try.underlying17
@[simp] theorem tsz18 : tsz Try.prog 18 = some 1 := by kernel_rfl
@[simp] theorem tbytes18 : tbytes Try.prog 18 = some 8 := by kernel_rfl
@[simp] theorem tagg18 : tagg Try.prog 18 = some true := by kernel_rfl
@[simp] theorem notInt18 : notInt Try.prog 18 = true := by kernel_rfl
@[simp] theorem tzc18 : tzc Try.prog 18 = some [.nilp] := by kernel_rfl
attribute [simp] Try.underlying18
@[simp] theorem tsz19 : tsz Try.prog 19 = some 1 := by kernel_rfl
@[simp] theorem tbytes19 : tbytes Try.prog 19 = some 8 := by kernel_rfl
@[simp] theorem tagg19 : tagg Try.prog 19 = some true := by kernel_rfl
@[simp] theorem notInt19 : notInt Try.prog 19 = true := by kernel_rfl
@[simp] theorem tzc19 : tzc Try.prog 19 = some [.nilp] := by kernel_rfl
attribute [simp] Try.underlying19
@[simp] theorem tsz20 : tsz Try.prog 20 = some 1 := by kernel_rfl
@[simp] theorem tbytes20 : tbytes Try.prog 20 = some 16 := by kernel_rfl
@[simp] theorem tagg20 : tagg Try.prog 20 = some false := by kernel_rfl
@[simp] theorem notInt20 : notInt Try.prog 20 = true := by kernel_rfl
@[simp] theorem tzc20 : tzc Try.prog 20 = some [.nili] := by kernel_rfl
attribute [simp] Try.underlying20
@[simp] theorem tsz21 : tsz Try.prog 21 = some 1 := by kernel_rfl
@[simp] theorem tbytes21 : tbytes Try.prog 21 = some 4 := by kernel_rfl
@[simp] theorem tagg21 : tagg Try.prog 21 = some false := by kernel_rfl
@[simp] theorem notInt21 : notInt Try.prog 21 = false := by kernel_rfl
@[simp] theorem tzc21 : tzc Try.prog 21 = some [(.int .i32 (0))] := by kernel_rfl
attribute [simp] Try.underlying21
@[simp] theorem tsz22 : tsz Try.prog 22 = some 1 := by kernel_rfl
@[simp] theorem tbytes22 : tbytes Try.prog 22 = some 24 := by kernel_rfl
@[simp] theorem tagg22 : tagg Try.prog 22 = some false := by kernel_rfl
@[simp] theorem notInt22 : notInt Try.prog 22 = true := by kernel_rfl
@[simp] theorem tzc22 : tzc Try.prog 22 = some [.nils] := by kernel_rfl
attribute [simp] Try.underlying22
@[simp] theorem tsz23 : tsz Try.prog 23 = some 1 := by kernel_rfl
@[simp] theorem tbytes23 : tbytes Try.prog 23 = some 24 := by kernel_rfl
@[simp] theorem tagg23 : tagg Try.prog 23 = some false := by kernel_rfl
@[simp] theorem notInt23 : notInt Try.prog 23 = true := by kernel_rfl
@[simp] theorem tzc23 : tzc Try.prog 23 = some [.nils] := by kernel_rfl
attribute [simp] Try.underlying23
@[simp] theorem tsz24 : tsz Try.prog 24 = some 1 := by kernel_rfl
@[simp] theorem tbytes24 : tbytes Try.prog 24 = some 8 := by kernel_rfl
@[simp] theorem tagg24 : tagg Try.prog 24 = some false := by kernel_rfl
@[simp] theorem notInt24 : notInt Try.prog 24 = true := by kernel_rfl
@[simp] theorem tzc24 : tzc Try.prog 24 = some [.nilf] := by kernel_rfl
attribute [simp] Try.underlying24
@[simp] theorem tsz25 : tsz Try.prog 25 = some 1 := by kernel_rfl
@[simp] theorem tbytes25 : tbytes Try.prog 25 = some 8 := by kernel_rfl
@[simp] theorem tagg25 : tagg Try.prog 25 = some false := by kernel_rfl
@[simp] theorem notInt25 : notInt Try.prog 25 = true := by kernel_rfl
@[simp] theorem tzc25 : tzc Try.prog 25 = some [.nilf] := by kernel_rfl
attribute [simp] Try.underlying25
@[simp] theorem tsz26 : tsz Try.prog 26 = some 1 := by kernel_rfl
@[simp] theorem tbytes26 : tbytes Try.prog 26 = some 24 := by kernel_rfl
@[simp] theorem tagg26 : tagg Try.prog 26 = some false := by kernel_rfl
@[simp] theorem notInt26 : notInt Try.prog 26 = true := by kernel_rfl
@[simp] theorem tzc26 : tzc Try.prog 26 = some [.nils] := by kernel_rfl
attribute [simp] Try.underlying26
@[simp] theorem tsz27 : tsz Try.prog 27 = some 1 := by kernel_rfl
@[simp] theorem tbytes27 : tbytes Try.prog 27 = some 8 := by kernel_rfl
@[simp] theorem tagg27 : tagg Try.prog 27 = some false := by kernel_rfl
@[simp] theorem notInt27 : notInt Try.prog 27 = true := by kernel_rfl
@[simp] theorem tzc27 : tzc Try.prog 27 = some [.nilf] := by kernel_rfl
attribute [simp] Try.underlying27
@[simp] theorem tsz28 : tsz Try.prog 28 = some 1 := by kernel_rfl
@[simp] theorem tbytes28 : tbytes Try.prog 28 = some 8 := by kernel_rfl
@[simp] theorem tagg28 : tagg Try.prog 28 = some false := by kernel_rfl
@[simp] theorem notInt28 : notInt Try.prog 28 = false := by kernel_rfl
@[simp] theorem tzc28 : tzc Try.prog 28 = some [(.int .i64 (0))] := by kernel_rfl
attribute [simp] Try.underlying28
@[simp] theorem tsz29 : tsz Try.prog 29 = some 1 := by kernel_rfl
@[simp] theorem tbytes29 : tbytes Try.prog 29 = some 8 := by kernel_rfl
@[simp] theorem tagg29 : tagg Try.prog 29 = some false := by kernel_rfl
@[simp] theorem notInt29 : notInt Try.prog 29 = true := by kernel_rfl
@[simp] theorem tzc29 : tzc Try.prog 29 = some [.nilf] := by kernel_rfl
attribute [simp] Try.underlying29
@[simp] theorem tsz30 : tsz Try.prog 30 = some 1 := by kernel_rfl
@[simp] theorem tbytes30 : tbytes Try.prog 30 = some 8 := by kernel_rfl
@[simp] theorem tagg30 : tagg Try.prog 30 = some false := by kernel_rfl
@[simp] theorem notInt30 : notInt Try.prog 30 = true := by kernel_rfl
@[simp] theorem tzc30 : tzc Try.prog 30 = some [.nilf] := by kernel_rfl
attribute [simp] Try.underlying30
@[simp] theorem tsz31 : tsz Try.prog 31 = some 1 := by kernel_rfl
@[simp] theorem tbytes31 : tbytes Try.prog 31 = some 24 := by kernel_rfl
@[simp] theorem tagg31 : tagg Try.prog 31 = some false := by kernel_rfl
@[simp] theorem notInt31 : notInt Try.prog 31 = true := by kernel_rfl
@[simp] theorem tzc31 : tzc Try.prog 31 = some [.nils] := by kernel_rfl
attribute [simp] Try.underlying31
@[simp] theorem tsz32 : tsz Try.prog 32 = some 1 := by kernel_rfl
@[simp] theorem tbytes32 : tbytes Try.prog 32 = some 0 := by kernel_rfl
@[simp] theorem tagg32 : tagg Try.prog 32 = some false := by kernel_rfl
@[simp] theorem notInt32 : notInt Try.prog 32 = true := by kernel_rfl
@[simp] theorem tzc32 : tzc Try.prog 32 = none := by kernel_rfl
attribute [simp] Try.underlying32
@[simp] theorem tsz33 : tsz Try.prog 33 = some 1 := by kernel_rfl
@[simp] theorem tbytes33 : tbytes Try.prog 33 = some 8 := by kernel_rfl
@[simp] theorem tagg33 : tagg Try.prog 33 = some false := by kernel_rfl
@[simp] theorem notInt33 : notInt Try.prog 33 = true := by kernel_rfl
@[simp] theorem tzc33 : tzc Try.prog 33 = some [.nilf] := by kernel_rfl
attribute [simp] Try.underlying33
@[simp] theorem tsz34 : tsz Try.prog 34 = some 1 := by kernel_rfl
@[simp] theorem tbytes34 : tbytes Try.prog 34 = some 24 := by kernel_rfl
@[simp] theorem tagg34 : tagg Try.prog 34 = some false := by kernel_rfl
@[simp] theorem notInt34 : notInt Try.prog 34 = true := by kernel_rfl
@[simp] theorem tzc34 : tzc Try.prog 34 = some [.nils] := by kernel_rfl
attribute [simp] Try.underlying34
@[simp] theorem tsz35 : tsz Try.prog 35 = some 1 := by kernel_rfl
@[simp] theorem tbytes35 : tbytes Try.prog 35 = some 0 := by kernel_rfl
@[simp] theorem tagg35 : tagg Try.prog 35 = some false := by kernel_rfl
@[simp] theorem notInt35 : notInt Try.prog 35 = true := by kernel_rfl
@[simp] theorem tzc35 : tzc Try.prog 35 = none := by kernel_rfl
attribute [simp] Try.underlying35
@[simp] theorem tsz36 : tsz Try.prog 36 = some 1 := by kernel_rfl
@[simp] theorem tbytes36 : tbytes Try.prog 36 = some 8 := by kernel_rfl
@[simp] theorem tagg36 : tagg Try.prog 36 = some false := by kernel_rfl
@[simp] theorem notInt36 : notInt Try.prog 36 = true := by kernel_rfl
@[simp] theorem tzc36 : tzc Try.prog 36 = some [.nilf] := by kernel_rfl
attribute [simp] Try.underlying36
@[simp] theorem tsz37 : tsz Try.prog 37 = some 1 := by kernel_rfl
@[simp] theorem tbytes37 : tbytes Try.prog 37 = some 8 := by kernel_rfl
@[simp] theorem tagg37 : tagg Try.prog 37 = some false := by kernel_rfl
@[simp] theorem notInt37 : notInt Try.prog 37 = true := by kernel_rfl
@[simp] theorem tzc37 : tzc Try.prog 37 = some [.nilf] := by kernel_rfl
attribute [simp] Try.underlying37
@[simp] theorem tsz38 : tsz Try.prog 38 = some 1 := by kernel_rfl
@[simp] theorem tbytes38 : tbytes Try.prog 38 = some 8 := by kernel_rfl
@[simp] theorem tagg38 : tagg Try.prog 38 = some false := by kernel_rfl
@[simp] theorem notInt38 : notInt Try.prog 38 = true := by kernel_rfl
@[simp] theorem tzc38 : tzc Try.prog 38 = some [.nilf] := by kernel_rfl
attribute [simp] Try.underlying38
@[simp] theorem tsz39 : tsz Try.prog 39 = some 1 := by kernel_rfl
@[simp] theorem tbytes39 : tbytes Try.prog 39 = some 0 := by kernel_rfl
@[simp] theorem tagg39 : tagg Try.prog 39 = some false := by kernel_rfl
@[simp] theorem notInt39 : notInt Try.prog 39 = true := by kernel_rfl
@[simp] theorem tzc39 : tzc Try.prog 39 = none := by kernel_rfl
attribute [simp] Try.underlying39
@[simp] theorem tsz40 : tsz Try.prog 40 = some 1 := by kernel_rfl
@[simp] theorem tbytes40 : tbytes Try.prog 40 = some 8 := by kernel_rfl
@[simp] theorem tagg40 : tagg Try.prog 40 = some false := by kernel_rfl
@[simp] theorem notInt40 : notInt Try.prog 40 = true := by kernel_rfl
@[simp] theorem tzc40 : tzc Try.prog 40 = some [.nilf] := by kernel_rfl
attribute [simp] Try.underlying40
@[simp] theorem tsz41 : tsz Try.prog 41 = some 1 := by kernel_rfl
@[simp] theorem tbytes41 : tbytes Try.prog 41 = some 0 := by kernel_rfl
@[simp] theorem tagg41 : tagg Try.prog 41 = some false := by kernel_rfl
@[simp] theorem notInt41 : notInt Try.prog 41 = true := by kernel_rfl
@[simp] theorem tzc41 : tzc Try.prog 41 = none := by kernel_rfl
attribute [simp] Try.underlying41
@[simp] theorem tsz42 : tsz Try.prog 42 = some 1 := by kernel_rfl
@[simp] theorem tbytes42 : tbytes Try.prog 42 = some 8 := by kernel_rfl
@[simp] theorem tagg42 : tagg Try.prog 42 = some false := by kernel_rfl
@[simp] theorem notInt42 : notInt Try.prog 42 = true := by kernel_rfl
@[simp] theorem tzc42 : tzc Try.prog 42 = some [.nilf] := by kernel_rfl
attribute [simp] Try.underlying42
@[simp] theorem tsz43 : tsz Try.prog 43 = some 1 := by kernel_rfl
@[simp] theorem tbytes43 : tbytes Try.prog 43 = some 8 := by kernel_rfl
@[simp] theorem tagg43 : tagg Try.prog 43 = some false := by kernel_rfl
@[simp] theorem notInt43 : notInt Try.prog 43 = true := by kernel_rfl
@[simp] theorem tzc43 : tzc Try.prog 43 = some [.nilf] := by kernel_rfl
attribute [simp] Try.underlying43
@[simp] theorem tsz44 : tsz Try.prog 44 = some 2 := by kernel_rfl
@[simp] theorem tbytes44 : tbytes Try.prog 44 = some 16 := by kernel_rfl
@[simp] theorem tagg44 : tagg Try.prog 44 = some true := by kernel_rfl
@[simp] theorem notInt44 : notInt Try.prog 44 = true := by kernel_rfl
@[simp] theorem tzc44 : tzc Try.prog 44 = some [(.int .i64 (0)), (.int .i64 (0))] := by kernel_rfl
attribute [simp] Try.underlying44
@[simp] theorem tsz45 : tsz Try.prog 45 = some 1 := by kernel_rfl
@[simp] theorem tbytes45 : tbytes Try.prog 45 = some 8 := by kernel_rfl
@[simp] theorem tagg45 : tagg Try.prog 45 = some false := by kernel_rfl
@[simp] theorem notInt45 : notInt Try.prog 45 = true := by kernel_rfl
@[simp] theorem tzc45 : tzc Try.prog 45 = some [.nilf] := by kernel_rfl
attribute [simp] Try.underlying45
@[simp] theorem tsz46 : tsz Try.prog 46 = some 1 := by kernel_rfl
@[simp] theorem tbytes46 : tbytes Try.prog 46 = some 0 := by kernel_rfl
@[simp] theorem tagg46 : tagg Try.prog 46 = some false := by kernel_rfl
@[simp] theorem notInt46 : notInt Try.prog 46 = true := by kernel_rfl
@[simp] theorem tzc46 : tzc Try.prog 46 = none := by kernel_rfl
attribute [simp] Try.underlying46
@[simp] theorem tsz47 : tsz Try.prog 47 = some 1 := by kernel_rfl
@[simp] theorem tbytes47 : tbytes Try.prog 47 = some 8 := by kernel_rfl
@[simp] theorem tagg47 : tagg Try.prog 47 = some false := by kernel_rfl
@[simp] theorem notInt47 : notInt Try.prog 47 = true := by kernel_rfl
@[simp] theorem tzc47 : tzc Try.prog 47 = some [.nilf] := by kernel_rfl
attribute [simp] Try.underlying47
@[simp] theorem tsz48 : tsz Try.prog 48 = some 1 := by kernel_rfl
@[simp] theorem tbytes48 : tbytes Try.prog 48 = some 8 := by kernel_rfl
@[simp] theorem tagg48 : tagg Try.prog 48 = some false := by kernel_rfl
@[simp] theorem notInt48 : notInt Try.prog 48 = true := by kernel_rfl
@[simp] theorem tzc48 : tzc Try.prog 48 = some [.nilf] := by kernel_rfl
attribute [simp] Try.underlying48
@[simp] theorem tsz49 : tsz Try.prog 49 = some 1 := by kernel_rfl
@[simp] theorem tbytes49 : tbytes Try.prog 49 = some 24 := by kernel_rfl
@[simp] theorem tagg49 : tagg Try.prog 49 = some false := by kernel_rfl
@[simp] theorem notInt49 : notInt Try.prog 49 = true := by kernel_rfl
@[simp] theorem tzc49 : tzc Try.prog 49 = some [.nils] := by kernel_rfl
attribute [simp] Try.underlying49
@[simp] theorem tsz50 : tsz Try.prog 50 = some 1 := by kernel_rfl
@[simp] theorem tbytes50 : tbytes Try.prog 50 = some 0 := by kernel_rfl
@[simp] theorem tagg50 : tagg Try.prog 50 = some false := by kernel_rfl
@[simp] theorem notInt50 : notInt Try.prog 50 = true := by kernel_rfl
@[simp] theorem tzc50 : tzc Try.prog 50 = none := by kernel_rfl
attribute [simp] Try.underlying50
@[simp] theorem tsz51 : tsz Try.prog 51 = some 1 := by kernel_rfl
@[simp] theorem tbytes51 : tbytes Try.prog 51 = some 8 := by kernel_rfl
@[simp] theorem tagg51 : tagg Try.prog 51 = some false := by kernel_rfl
@[simp] theorem notInt51 : notInt Try.prog 51 = true := by kernel_rfl
@[simp] theorem tzc51 : tzc Try.prog 51 = some [.nilf] := by kernel_rfl
attribute [simp] Try.underlying51
@[simp] theorem tsz52 : tsz Try.prog 52 = some 3 := by kernel_rfl
@[simp] theorem tbytes52 : tbytes Try.prog 52 = some 24 := by kernel_rfl
@[simp] theorem tagg52 : tagg Try.prog 52 = some true := by kernel_rfl
@[simp] theorem notInt52 : notInt Try.prog 52 = true := by kernel_rfl
@[simp] theorem tzc52 : tzc Try.prog 52 = some [(.int .i64 (0)), (.int .i64 (0)), (.int .i64 (0))] := by kernel_rfl
attribute [simp] Try.underlying52
@[simp] theorem tsz53 : tsz Try.prog 53 = some 3 := by kernel_rfl
@[simp] theorem tbytes53 : tbytes Try.prog 53 = some 24 := by kernel_rfl
@[simp] theorem tagg53 : tagg Try.prog 53 = some true := by kernel_rfl
@[simp] theorem notInt53 : notInt Try.prog 53 = true := by kernel_rfl
@[simp] theorem tzc53 : tzc Try.prog 53 = some [(.int .i64 (0)), (.int .i64 (0)), (.int .i64 (0))] := by kernel_rfl
attribute [simp] Try.underlying53
@[simp] theorem tsz54 : tsz Try.prog 54 = some 1 := by kernel_rfl
@[simp] theorem tbytes54 : tbytes Try.prog 54 = some 8 := by kernel_rfl
@[simp] theorem tagg54 : tagg Try.prog 54 = some false := by kernel_rfl
@[simp] theorem notInt54 : notInt Try.prog 54 = true := by kernel_rfl
@[simp] theorem tzc54 : tzc Try.prog 54 = some [.nilf] := by kernel_rfl
attribute [simp] Try.underlying54
@[simp] theorem tsz55 : tsz Try.prog 55 = some 1 := by kernel_rfl
@[simp] theorem tbytes55 : tbytes Try.prog 55 = some 8 := by kernel_rfl
@[simp] theorem tagg55 : tagg Try.prog 55 = some false := by kernel_rfl
@[simp] theorem notInt55 : notInt Try.prog 55 = true := by kernel_rfl
@[simp] theorem tzc55 : tzc Try.prog 55 = some [.nilf] := by kernel_rfl
attribute [simp] Try.underlying55
@[simp] theorem tsz56 : tsz Try.prog 56 = some 1 := by kernel_rfl
@[simp] theorem tbytes56 : tbytes Try.prog 56 = some 24 := by kernel_rfl
@[simp] theorem tagg56 : tagg Try.prog 56 = some false := by kernel_rfl
@[simp] theorem notInt56 : notInt Try.prog 56 = true := by kernel_rfl
@[simp] theorem tzc56 : tzc Try.prog 56 = some [.nils] := by kernel_rfl
attribute [simp] Try.underlying56
@[simp] theorem tsz57 : tsz Try.prog 57 = some 1 := by kernel_rfl
@[simp] theorem tbytes57 : tbytes Try.prog 57 = some 0 := by kernel_rfl
@[simp] theorem tagg57 : tagg Try.prog 57 = some false := by kernel_rfl
@[simp] theorem notInt57 : notInt Try.prog 57 = true := by kernel_rfl
@[simp] theorem tzc57 : tzc Try.prog 57 = none := by kernel_rfl
attribute [simp] Try.underlying57
@[simp] theorem tsz58 : tsz Try.prog 58 = some 1 := by kernel_rfl
@[simp] theorem tbytes58 : tbytes Try.prog 58 = some 8 := by kernel_rfl
@[simp] theorem tagg58 : tagg Try.prog 58 = some false := by kernel_rfl
@[simp] theorem notInt58 : notInt Try.prog 58 = true := by kernel_rfl
@[simp] theorem tzc58 : tzc Try.prog 58 = some [.nilf] := by kernel_rfl
attribute [simp] Try.underlying58
@[simp] theorem tsz59 : tsz Try.prog 59 = some 3 := by kernel_rfl
@[simp] theorem tbytes59 : tbytes Try.prog 59 = some 24 := by kernel_rfl
@[simp] theorem tagg59 : tagg Try.prog 59 = some true := by kernel_rfl
@[simp] theorem notInt59 : notInt Try.prog 59 = true := by kernel_rfl
@[simp] theorem tzc59 : tzc Try.prog 59 = some [(.int .i64 (0)), (.int .i64 (0)), (.int .i64 (0))] := by kernel_rfl
attribute [simp] Try.underlying59
@[simp] theorem tsz60 : tsz Try.prog 60 = some 3 := by kernel_rfl
@[simp] theorem tbytes60 : tbytes Try.prog 60 = some 24 := by kernel_rfl
@[simp] theorem tagg60 : tagg Try.prog 60 = some true := by kernel_rfl
@[simp] theorem notInt60 : notInt Try.prog 60 = true := by kernel_rfl
@[simp] theorem tzc60 : tzc Try.prog 60 = some [(.int .i64 (0)), (.int .i64 (0)), (.int .i64 (0))] := by kernel_rfl
attribute [simp] Try.underlying60
@[simp] theorem tsz61 : tsz Try.prog 61 = some 1 := by kernel_rfl
@[simp] theorem tbytes61 : tbytes Try.prog 61 = some 8 := by kernel_rfl
@[simp] theorem tagg61 : tagg Try.prog 61 = some false := by kernel_rfl
@[simp] theorem notInt61 : notInt Try.prog 61 = true := by kernel_rfl
@[simp] theorem tzc61 : tzc Try.prog 61 = some [.nilf] := by kernel_rfl
attribute [simp] Try.underlying61
@[simp] theorem tsz62 : tsz Try.prog 62 = some 1 := by kernel_rfl
@[simp] theorem tbytes62 : tbytes Try.prog 62 = some 8 := by kernel_rfl
@[simp] theorem tagg62 : tagg Try.prog 62 = some false := by kernel_rfl
@[simp] theorem notInt62 : notInt Try.prog 62 = true := by kernel_rfl
@[simp] theorem tzc62 : tzc Try.prog 62 = some [.nilf] := by kernel_rfl
attribute [simp] Try.underlying62
@[simp] theorem tsz63 : tsz Try.prog 63 = some 3 := by kernel_rfl
@[simp] theorem tbytes63 : tbytes Try.prog 63 = some 32 := by kernel_rfl
@[simp] theorem tagg63 : tagg Try.prog 63 = some true := by kernel_rfl
@[simp] theorem notInt63 : notInt Try.prog 63 = true := by kernel_rfl
@[simp] theorem tzc63 : tzc Try.prog 63 = some [(.str ⟨#[]⟩), (.int .i64 (0)), (.int .i64 (0))] := by kernel_rfl
attribute [simp] Try.underlying63
@[simp] theorem tsz64 : tsz Try.prog 64 = some 3 := by kernel_rfl
@[simp] theorem tbytes64 : tbytes Try.prog 64 = some 32 := by kernel_rfl
@[simp] theorem tagg64 : tagg Try.prog 64 = some true := by kernel_rfl
@[simp] theorem notInt64 : notInt Try.prog 64 = true := by kernel_rfl
@[simp] theorem tzc64 : tzc Try.prog 64 = some [(.str ⟨#[]⟩), (.int .i64 (0)), (.int .i64 (0))] := by kernel_rfl
attribute [simp] Try.underlying64
@[simp] theorem tsz65 : tsz Try.prog 65 = some 4 := by kernel_rfl
@[simp] theorem tbytes65 : tbytes Try.prog 65 = some 32 := by kernel_rfl
@[simp] theorem tagg65 : tagg Try.prog 65 = some true := by kernel_rfl
@[simp] theorem notInt65 : notInt Try.prog 65 = true := by kernel_rfl
@[simp] theorem tzc65 : tzc Try.prog 65 = some [(.int .i64 (0)), (.int .i64 (0)), (.int .i64 (0)), (.int .i64 (0))] := by kernel_rfl
attribute [simp] Try.underlying65
@[simp] theorem tsz66 : tsz Try.prog 66 = some 4 := by kernel_rfl
@[simp] theorem tbytes66 : tbytes Try.prog 66 = some 32 := by kernel_rfl
@[simp] theorem tagg66 : tagg Try.prog 66 = some true := by kernel_rfl
@[simp] theorem notInt66 : notInt Try.prog 66 = true := by kernel_rfl
@[simp] theorem tzc66 : tzc Try.prog 66 = some [(.int .i64 (0)), (.int .i64 (0)), (.int .i64 (0)), (.int .i64 (0))] := by kernel_rfl
attribute [simp] Try.underlying66
@[simp] theorem tsz67 : tsz Try.prog 67 = some 1 := by kernel_rfl
@[simp] theorem tbytes67 : tbytes Try.prog 67 = some 8 := by kernel_rfl
@[simp] theorem tagg67 : tagg Try.prog 67 = some false := by kernel_rfl
@[simp] theorem notInt67 : notInt Try.prog 67 = true := by kernel_rfl
@[simp] theorem tzc67 : tzc Try.prog 67 = some [.nilf] := by kernel_rfl
attribute [simp] Try.underlying67
@[simp] theorem tsz68 : tsz Try.prog 68 = some 1 := by kernel_rfl
@[simp] theorem tbytes68 : tbytes Try.prog 68 = some 8 := by kernel_rfl
@[simp] theorem tagg68 : tagg Try.prog 68 = some false := by kernel_rfl
@[simp] theorem notInt68 : notInt Try.prog 68 = true := by kernel_rfl
@[simp] theorem tzc68 : tzc Try.prog 68 = some [.nilf] := by kernel_rfl
attribute [simp] Try.underlying68
@[simp] theorem tsz69 : tsz Try.prog 69 = some 1 := by kernel_rfl
@[simp] theorem tbytes69 : tbytes Try.prog 69 = some 8 := by kernel_rfl
@[simp] theorem tagg69 : tagg Try.prog 69 = some false := by kernel_rfl
@[simp] theorem notInt69 : notInt Try.prog 69 = true := by kernel_rfl
@[simp] theorem tzc69 : tzc Try.prog 69 = some [.nilf] := by kernel_rfl
attribute [simp] Try.underlying69
@[simp] theorem tsz70 : tsz Try.prog 70 = some 1 := by kernel_rfl
@[simp] theorem tbytes70 : tbytes Try.prog 70 = some 8 := by kernel_rfl
@[simp] theorem tagg70 : tagg Try.prog 70 = some false := by kernel_rfl
@[simp] theorem notInt70 : notInt Try.prog 70 = true := by kernel_rfl
@[simp] theorem tzc70 : tzc Try.prog 70 = some [.nilf] := by kernel_rfl
attribute [simp] Try.underlying70
@[simp] theorem tsz71 : tsz Try.prog 71 = some 1 := by kernel_rfl
@[simp] theorem tbytes71 : tbytes Try.prog 71 = some 24 := by kernel_rfl
@[simp] theorem tagg71 : tagg Try.prog 71 = some false := by kernel_rfl
@[simp] theorem notInt71 : notInt Try.prog 71 = true := by kernel_rfl
@[simp] theorem tzc71 : tzc Try.prog 71 = some [.nils] := by kernel_rfl
attribute [simp] Try.underlying71
@[simp] theorem tsz72 : tsz Try.prog 72 = some 1 := by kernel_rfl
@[simp] theorem tbytes72 : tbytes Try.prog 72 = some 24 := by kernel_rfl
@[simp] theorem tagg72 : tagg Try.prog 72 = some false := by kernel_rfl
@[simp] theorem notInt72 : notInt Try.prog 72 = true := by kernel_rfl
@[simp] theorem tzc72 : tzc Try.prog 72 = some [.nils] := by kernel_rfl
attribute [simp] Try.underlying72
@[simp] theorem tsz73 : tsz Try.prog 73 = some 1 := by kernel_rfl
@[simp] theorem tbytes73 : tbytes Try.prog 73 = some 0 := by kernel_rfl
@[simp] theorem tagg73 : tagg Try.prog 73 = some false := by kernel_rfl
@[simp] theorem notInt73 : notInt Try.prog 73 = true := by kernel_rfl
@[simp] theorem tzc73 : tzc Try.prog 73 = none := by kernel_rfl
attribute [simp] Try.underlying73
@[simp] theorem tsz74 : tsz Try.prog 74 = some 1 := by kernel_rfl
@[simp] theorem tbytes74 : tbytes Try.prog 74 = some 8 := by kernel_rfl
@[simp] theorem tagg74 : tagg Try.prog 74 = some false := by kernel_rfl
@[simp] theorem notInt74 : notInt Try.prog 74 = true := by kernel_rfl
@[simp] theorem tzc74 : tzc Try.prog 74 = some [.nilf] := by kernel_rfl
attribute [simp] Try.underlying74
@[simp] theorem tsz75 : tsz Try.prog 75 = some 1 := by kernel_rfl
@[simp] theorem tbytes75 : tbytes Try.prog 75 = some 8 := by kernel_rfl
@[simp] theorem tagg75 : tagg Try.prog 75 = some false := by kernel_rfl
@[simp] theorem notInt75 : notInt Try.prog 75 = true := by kernel_rfl
@[simp] theorem tzc75 : tzc Try.prog 75 = some [.nilf] := by kernel_rfl
attribute [simp] Try.underlying75
@[simp] theorem tsz76 : tsz Try.prog 76 = some 1 := by kernel_rfl
@[simp] theorem tbytes76 : tbytes Try.prog 76 = some 0 := by kernel_rfl
@[simp] theorem tagg76 : tagg Try.prog 76 = some false := by kernel_rfl
@[simp] theorem notInt76 : notInt Try.prog 76 = true := by kernel_rfl
@[simp] theorem tzc76 : tzc Try.prog 76 = none := by kernel_rfl
attribute [simp] Try.underlying76
@[simp] theorem tsz77 : tsz Try.prog 77 = some 1 := by kernel_rfl
@[simp] theorem tbytes77 : tbytes Try.prog 77 = some 8 := by kernel_rfl
@[simp] theorem tagg77 : tagg Try.prog 77 = some false := by kernel_rfl
@[simp] theorem notInt77 : notInt Try.prog 77 = true := by kernel_rfl
@[simp] theorem tzc77 : tzc Try.prog 77 = some [.nilf] := by kernel_rfl
attribute [simp] Try.underlying77
@[simp] theorem tsz78 : tsz Try.prog 78 = some 1 := by kernel_rfl
@[simp] theorem tbytes78 : tbytes Try.prog 78 = some 24 := by kernel_rfl
@[simp] theorem tagg78 : tagg Try.prog 78 = some false := by kernel_rfl
@[simp] theorem notInt78 : notInt Try.prog 78 = true := by kernel_rfl
@[simp] theorem tzc78 : tzc Try.prog 78 = some [.nils] := by kernel_rfl
attribute [simp] Try.underlying78
@[simp] theorem tsz79 : tsz Try.prog 79 = some 1 := by kernel_rfl
@[simp] theorem tbytes79 : tbytes Try.prog 79 = some 8 := by kernel_rfl
@[simp] theorem tagg79 : tagg Try.prog 79 = some false := by kernel_rfl
@[simp] theorem notInt79 : notInt Try.prog 79 = true := by kernel_rfl
@[simp] theorem tzc79 : tzc Try.prog 79 = some [.nilf] := by kernel_rfl
attribute [simp] Try.underlying79
@[simp] theorem tsz80 : tsz Try.prog 80 = some 1 := by kernel_rfl
@[simp] theorem tbytes80 : tbytes Try.prog 80 = some 8 := by kernel_rfl
@[simp] theorem tagg80 : tagg Try.prog 80 = some false := by kernel_rfl
@[simp] theorem notInt80 : notInt Try.prog 80 = true := by kernel_rfl
@[simp] theorem tzc80 : tzc Try.prog 80 = some [.nilf] := by kernel_rfl
attribute [simp] Try.underlying80
@[simp] theorem tsz81 : tsz Try.prog 81 = some 1 := by kernel_rfl
@[simp] theorem tbytes81 : tbytes Try.prog 81 = some 0 := by kernel_rfl
@[simp] theorem tagg81 : tagg Try.prog 81 = some false := by kernel_rfl
@[simp] theorem notInt81 : notInt Try.prog 81 = true := by kernel_rfl
@[simp] theorem tzc81 : tzc Try.prog 81 = none := by kernel_rfl
attribute [simp] Try.underlying81
@[simp] theorem tsz82 : tsz Try.prog 82 = some 1 := by kernel_rfl
@[simp] theorem tbytes82 : tbytes Try.prog 82 = some 8 := by kernel_rfl
@[simp] theorem tagg82 : tagg Try.prog 82 = some false := by kernel_rfl
@[simp] theorem notInt82 : notInt Try.prog 82 = true := by kernel_rfl
@[simp] theorem tzc82 : tzc Try.prog 82 = some [.nilf] := by kernel_rfl
attribute [simp] Try.underlying82
@[simp] theorem tsz83 : tsz Try.prog 83 = some 1 := by kernel_rfl
@[simp] theorem tbytes83 : tbytes Try.prog 83 = some 8 := by kernel_rfl
@[simp] theorem tagg83 : tagg Try.prog 83 = some false := by kernel_rfl
@[simp] theorem notInt83 : notInt Try.prog 83 = true := by kernel_rfl
@[simp] theorem tzc83 : tzc Try.prog 83 = some [.nilf] := by kernel_rfl
attribute [simp] Try.underlying83
@[simp] theorem tsz84 : tsz Try.prog 84 = some 1 := by kernel_rfl
@[simp] theorem tbytes84 : tbytes Try.prog 84 = some 8 := by kernel_rfl
@[simp] theorem tagg84 : tagg Try.prog 84 = some false := by kernel_rfl
@[simp] theorem notInt84 : notInt Try.prog 84 = true := by kernel_rfl
@[simp] theorem tzc84 : tzc Try.prog 84 = some [.nilf] := by kernel_rfl
attribute [simp] Try.underlying84
@[simp] theorem tsz85 : tsz Try.prog 85 = some 1 := by kernel_rfl
@[simp] theorem tbytes85 : tbytes Try.prog 85 = some 8 := by kernel_rfl
@[simp] theorem tagg85 : tagg Try.prog 85 = some false := by kernel_rfl
@[simp] theorem notInt85 : notInt Try.prog 85 = true := by kernel_rfl
@[simp] theorem tzc85 : tzc Try.prog 85 = some [.nilf] := by kernel_rfl
attribute [simp] Try.underlying85
@[simp] theorem tsz86 : tsz Try.prog 86 = some 1 := by kernel_rfl
@[simp] theorem tbytes86 : tbytes Try.prog 86 = some 8 := by kernel_rfl
@[simp] theorem tagg86 : tagg Try.prog 86 = some false := by kernel_rfl
@[simp] theorem notInt86 : notInt Try.prog 86 = true := by kernel_rfl
@[simp] theorem tzc86 : tzc Try.prog 86 = some [.nilf] := by kernel_rfl
attribute [simp] Try.underlying86
@[simp] theorem tsz87 : tsz Try.prog 87 = some 1 := by kernel_rfl
@[simp] theorem tbytes87 : tbytes Try.prog 87 = some 8 := by kernel_rfl
@[simp] theorem tagg87 : tagg Try.prog 87 = some false := by kernel_rfl
@[simp] theorem notInt87 : notInt Try.prog 87 = true := by kernel_rfl
@[simp] theorem tzc87 : tzc Try.prog 87 = some [.nilf] := by kernel_rfl
attribute [simp] Try.underlying87
@[simp] theorem tsz88 : tsz Try.prog 88 = some 1 := by kernel_rfl
@[simp] theorem tbytes88 : tbytes Try.prog 88 = some 8 := by kernel_rfl
@[simp] theorem tagg88 : tagg Try.prog 88 = some false := by kernel_rfl
@[simp] theorem notInt88 : notInt Try.prog 88 = true := by kernel_rfl
@[simp] theorem tzc88 : tzc Try.prog 88 = some [.nilf] := by kernel_rfl
attribute [simp] Try.underlying88
@[simp] theorem tsz89 : tsz Try.prog 89 = some 1 := by kernel_rfl
@[simp] theorem tbytes89 : tbytes Try.prog 89 = some 8 := by kernel_rfl
@[simp] theorem tagg89 : tagg Try.prog 89 = some false := by kernel_rfl
@[simp] theorem notInt89 : notInt Try.prog 89 = true := by kernel_rfl
@[simp] theorem tzc89 : tzc Try.prog 89 = some [.nilf] := by kernel_rfl
attribute [simp] Try.underlying89
@[simp] theorem tsz90 : tsz Try.prog 90 = some 1 := by kernel_rfl
@[simp] theorem tbytes90 : tbytes Try.prog 90 = some 8 := by kernel_rfl
@[simp] theorem tagg90 : tagg Try.prog 90 = some false := by kernel_rfl
@[simp] theorem notInt90 : notInt Try.prog 90 = true := by kernel_rfl
@[simp] theorem tzc90 : tzc Try.prog 90 = some [.nilf] := by kernel_rfl
attribute [simp] Try.underlying90
@[simp] theorem tsz91 : tsz Try.prog 91 = some 1 := by kernel_rfl
@[simp] theorem tbytes91 : tbytes Try.prog 91 = some 8 := by kernel_rfl
@[simp] theorem tagg91 : tagg Try.prog 91 = some false := by kernel_rfl
@[simp] theorem notInt91 : notInt Try.prog 91 = false := by kernel_rfl
@[simp] theorem tzc91 : tzc Try.prog 91 = some [(.int .u64 (0))] := by kernel_rfl
attribute [simp] Try.underlying91
@[simp] theorem tsz92 : tsz Try.prog 92 = some 1 := by kernel_rfl
@[simp] theorem tbytes92 : tbytes Try.prog 92 = some 8 := by kernel_rfl
@[simp] theorem tagg92 : tagg Try.prog 92 = some false := by kernel_rfl
@[simp] theorem notInt92 : notInt Try.prog 92 = true := by kernel_rfl
@[simp] theorem tzc92 : tzc Try.prog 92 = some [.nilf] := by kernel_rfl
attribute [simp] Try.underlying92
@[simp] theorem tsz93 : tsz Try.prog 93 = some 1 := by kernel_rfl
@[simp] theorem tbytes93 : tbytes Try.prog 93 = some 24 := by kernel_rfl
@[simp] theorem tagg93 : tagg Try.prog 93 = some false := by kernel_rfl
@[simp] theorem notInt93 : notInt Try.prog 93 = true := by kernel_rfl
@[simp] theorem tzc93 : tzc Try.prog 93 = some [.nils] := by kernel_rfl
attribute [simp] Try.underlying93
@[simp] theorem tsz94 : tsz Try.prog 94 = some 1 := by kernel_rfl
@[simp] theorem tbytes94 : tbytes Try.prog 94 = some 8 := by kernel_rfl
@[simp] theorem tagg94 : tagg Try.prog 94 = some false := by kernel_rfl
@[simp] theorem notInt94 : notInt Try.prog 94 = true := by kernel_rfl
@[simp] theorem tzc94 : tzc Try.prog 94 = some [.nilf] := by kernel_rfl
attribute [simp] Try.underlying94
@[simp] theorem tsz95 : tsz Try.prog 95 = some 1 := by kernel_rfl
@[simp] theorem tbytes95 : tbytes Try.prog 95 = some 8 := by kernel_rfl
@[simp] theorem tagg95 : tagg Try.prog 95 = some false := by kernel_rfl
@[simp] theorem notInt95 : notInt Try.prog 95 = true := by kernel_rfl
@[simp] theorem tzc95 : tzc Try.prog 95 = some [.nilf] := by kernel_rfl
attribute [simp] Try.underlying95
@[simp] theorem tsz96 : tsz Try.prog 96 = some 1 := by kernel_rfl
@[simp] theorem tbytes96 : tbytes Try.prog 96 = some 8 := by kernel_rfl
@[simp] theorem tagg96 : tagg Try.prog 96 = some false := by kernel_rfl
@[simp] theorem notInt96 : notInt Try.prog 96 = true := by kernel_rfl
@[simp] theorem tzc96 : tzc Try.prog 96 = some [.nilf] := by kernel_rfl
attribute [simp] Try.underlying96
@[simp] theorem tsz97 : tsz Try.prog 97 = some 1 := by kernel_rfl
@[simp] theorem tbytes97 : tbytes Try.prog 97 = some 8 := by kernel_rfl
@[simp] theorem tagg97 : tagg Try.prog 97 = some false := by kernel_rfl
@[simp] theorem notInt97 : notInt Try.prog 97 = true := by kernel_rfl
@[simp] theorem tzc97 : tzc Try.prog 97 = some [.nilf] := by kernel_rfl
attribute [simp] Try.underlying97
@[simp] theorem tsz98 : tsz Try.prog 98 = some 1 := by kernel_rfl
@[simp] theorem tbytes98 : tbytes Try.prog 98 = some 8 := by kernel_rfl
@[simp] theorem tagg98 : tagg Try.prog 98 = some false := by kernel_rfl
@[simp] theorem notInt98 : notInt Try.prog 98 = true := by kernel_rfl
@[simp] theorem tzc98 : tzc Try.prog 98 = some [.nilf] := by kernel_rfl
attribute [simp] Try.underlying98
@[simp] theorem tsz99 : tsz Try.prog 99 = some 1 := by kernel_rfl
@[simp] theorem tbytes99 : tbytes Try.prog 99 = some 8 := by kernel_rfl
@[simp] theorem tagg99 : tagg Try.prog 99 = some false := by kernel_rfl
@[simp] theorem notInt99 : notInt Try.prog 99 = true := by kernel_rfl
@[simp] theorem tzc99 : tzc Try.prog 99 = some [.nilf] := by kernel_rfl
attribute [simp] Try.underlying99
@[simp] theorem tsz100 : tsz Try.prog 100 = some 1 := by kernel_rfl
@[simp] theorem tbytes100 : tbytes Try.prog 100 = some 8 := by kernel_rfl
@[simp] theorem tagg100 : tagg Try.prog 100 = some false := by kernel_rfl
@[simp] theorem notInt100 : notInt Try.prog 100 = true := by kernel_rfl
@[simp] theorem tzc100 : tzc Try.prog 100 = some [.nilf] := by kernel_rfl
attribute [simp] Try.underlying100
@[simp] theorem tsz101 : tsz Try.prog 101 = some 1 := by kernel_rfl
@[simp] theorem tbytes101 : tbytes Try.prog 101 = some 8 := by kernel_rfl
@[simp] theorem tagg101 : tagg Try.prog 101 = some false := by kernel_rfl
@[simp] theorem notInt101 : notInt Try.prog 101 = false := by kernel_rfl
@[simp] theorem tzc101 : tzc Try.prog 101 = some [(.int .i64 (0))] := by kernel_rfl
attribute [simp] Try.underlying101
@[simp] theorem tsz102 : tsz Try.prog 102 = some 1 := by kernel_rfl
@[simp] theorem tbytes102 : tbytes Try.prog 102 = some 0 := by kernel_rfl
@[simp] theorem tagg102 : tagg Try.prog 102 = some false := by kernel_rfl
@[simp] theorem notInt102 : notInt Try.prog 102 = true := by kernel_rfl
@[simp] theorem tzc102 : tzc Try.prog 102 = none := by kernel_rfl
attribute [simp] Try.underlying102
@[simp] theorem tsz103 : tsz Try.prog 103 = some 1 := by kernel_rfl
@[simp] theorem tbytes103 : tbytes Try.prog 103 = some 8 := by kernel_rfl
@[simp] theorem tagg103 : tagg Try.prog 103 = some false := by kernel_rfl
@[simp] theorem notInt103 : notInt Try.prog 103 = true := by kernel_rfl
@[simp] theorem tzc103 : tzc Try.prog 103 = some [.nilf] := by kernel_rfl
attribute [simp] Try.underlying103
@[simp] theorem tsz104 : tsz Try.prog 104 = some 1 := by kernel_rfl
@[simp] theorem tbytes104 : tbytes Try.prog 104 = some 8 := by kernel_rfl
@[simp] theorem tagg104 : tagg Try.prog 104 = some false := by kernel_rfl
@[simp] theorem notInt104 : notInt Try.prog 104 = true := by kernel_rfl
@[simp] theorem tzc104 : tzc Try.prog 104 = some [.nilf] := by kernel_rfl
attribute [simp] Try.underlying104
@[simp] theorem tsz105 : tsz Try.prog 105 = some 1 := by kernel_rfl
@[simp] theorem tbytes105 : tbytes Try.prog 105 = some 8 := by kernel_rfl
@[simp] theorem tagg105 : tagg Try.prog 105 = some false := by kernel_rfl
@[simp] theorem notInt105 : notInt Try.prog 105 = true := by kernel_rfl
@[simp] theorem tzc105 : tzc Try.prog 105 = some [.nilf] := by kernel_rfl
attribute [simp] Try.underlying105
@[simp] theorem tsz106 : tsz Try.prog 106 = some 1 := by kernel_rfl
@[simp] theorem tbytes106 : tbytes Try.prog 106 = some 8 := by kernel_rfl
@[simp] theorem tagg106 : tagg Try.prog 106 = some false := by kernel_rfl
@[simp] theorem notInt106 : notInt Try.prog 106 = true := by kernel_rfl
@[simp] theorem tzc106 : tzc Try.prog 106 = some [.nilf] := by kernel_rfl
attribute [simp] Try.underlying106
@[simp] theorem tsz107 : tsz Try.prog 107 = some 1 := by kernel_rfl
@[simp] theorem tbytes107 : tbytes Try.prog 107 = some 8 := by kernel_rfl
@[simp] theorem tagg107 : tagg Try.prog 107 = some false := by kernel_rfl
@[simp] theorem notInt107 : notInt Try.prog 107 = true := by kernel_rfl
@[simp] theorem tzc107 : tzc Try.prog 107 = some [.nilf] := by kernel_rfl
attribute [simp] Try.underlying107
@[simp] theorem tsz108 : tsz Try.prog 108 = some 1 := by kernel_rfl
@[simp] theorem tbytes108 : tbytes Try.prog 108 = some 4 := by kernel_rfl
@[simp] theorem tagg108 : tagg Try.prog 108 = some false := by kernel_rfl
@[simp] theorem notInt108 : notInt Try.prog 108 = false := by kernel_rfl
@[simp] theorem tzc108 : tzc Try.prog 108 = some [(.int .u32 (0))] := by kernel_rfl
attribute [simp] Try.underlying108
@[simp] theorem tsz109 : tsz Try.prog 109 = some 1 := by kernel_rfl
@[simp] theorem tbytes109 : tbytes Try.prog 109 = some 8 := by kernel_rfl
@[simp] theorem tagg109 : tagg Try.prog 109 = some false := by kernel_rfl
@[simp] theorem notInt109 : notInt Try.prog 109 = true := by kernel_rfl
@[simp] theorem tzc109 : tzc Try.prog 109 = some [.nilf] := by kernel_rfl
attribute [simp] Try.underlying109
@[simp] theorem tsz110 : tsz Try.prog 110 = some 1 := by kernel_rfl
@[simp] theorem tbytes110 : tbytes Try.prog 110 = some 8 := by kernel_rfl
@[simp] theorem tagg110 : tagg Try.prog 110 = some false := by kernel_rfl
@[simp] theorem notInt110 : notInt Try.prog 110 = false := by kernel_rfl
@[simp] theorem tzc110 : tzc Try.prog 110 = some [(.int .u64 (0))] := by kernel_rfl
attribute [simp] Try.underlying110
@[simp] theorem tsz111 : tsz Try.prog 111 = some 1 := by kernel_rfl
@[simp] theorem tbytes111 : tbytes Try.prog 111 = some 8 := by kernel_rfl
@[simp] theorem tagg111 : tagg Try.prog 111 = some false := by kernel_rfl
@[simp] theorem notInt111 : notInt Try.prog 111 = true := by kernel_rfl
@[simp] theorem tzc111 : tzc Try.prog 111 = some [.nilf] := by kernel_rfl
attribute [simp] Try.underlying111
@[simp] theorem tsz112 : tsz Try.prog 112 = some 1 := by kernel_rfl
@[simp] theorem tbytes112 : tbytes Try.prog 112 = some 8 := by kernel_rfl
@[simp] theorem tagg112 : tagg Try.prog 112 = some false := by kernel_rfl
@[simp] theorem notInt112 : notInt Try.prog 112 = true := by kernel_rfl
@[simp] theorem tzc112 : tzc Try.prog 112 = some [.nilf] := by kernel_rfl
attribute [simp] Try.underlying112
@[simp] theorem tsz113 : tsz Try.prog 113 = some 1 := by kernel_rfl
@[simp] theorem tbytes113 : tbytes Try.prog 113 = some 8 := by kernel_rfl
@[simp] theorem tagg113 : tagg Try.prog 113 = some false := by kernel_rfl
@[simp] theorem notInt113 : notInt Try.prog 113 = true := by kernel_rfl
@[simp] theorem tzc113 : tzc Try.prog 113 = some [.nilf] := by kernel_rfl
attribute [simp] Try.underlying113
@[simp] theorem tsz114 : tsz Try.prog 114 = some 1 := by kernel_rfl
@[simp] theorem tbytes114 : tbytes Try.prog 114 = some 8 := by kernel_rfl
@[simp] theorem tagg114 : tagg Try.prog 114 = some false := by kernel_rfl
@[simp] theorem notInt114 : notInt Try.prog 114 = false := by kernel_rfl
@[simp] theorem tzc114 : tzc Try.prog 114 = some [(.int .u64 (0))] := by kernel_rfl
attribute [simp] Try.underlying114
@[simp] theorem tsz115 : tsz Try.prog 115 = some 1 := by kernel_rfl
@[simp] theorem tbytes115 : tbytes Try.prog 115 = some 8 := by kernel_rfl
@[simp] theorem tagg115 : tagg Try.prog 115 = some false := by kernel_rfl
@[simp] theorem notInt115 : notInt Try.prog 115 = true := by kernel_rfl
@[simp] theorem tzc115 : tzc Try.prog 115 = some [.nilf] := by kernel_rfl
attribute [simp] Try.underlying115
@[simp] theorem tsz116 : tsz Try.prog 116 = some 1 := by kernel_rfl
@[simp] theorem tbytes116 : tbytes Try.prog 116 = some 8 := by kernel_rfl
@[simp] theorem tagg116 : tagg Try.prog 116 = some false := by kernel_rfl
@[simp] theorem notInt116 : notInt Try.prog 116 = true := by kernel_rfl
@[simp] theorem tzc116 : tzc Try.prog 116 = some [.nilf] := by kernel_rfl
attribute [simp] Try.underlying116
@[simp] theorem tsz117 : tsz Try.prog 117 = some 1 := by kernel_rfl
@[simp] theorem tbytes117 : tbytes Try.prog 117 = some 8 := by kernel_rfl
@[simp] theorem tagg117 : tagg Try.prog 117 = some false := by kernel_rfl
@[simp] theorem notInt117 : notInt Try.prog 117 = true := by kernel_rfl
@[simp] theorem tzc117 : tzc Try.prog 117 = some [.nilf] := by kernel_rfl
attribute [simp] Try.underlying117
@[simp] theorem tsz118 : tsz Try.prog 118 = some 1 := by kernel_rfl
@[simp] theorem tbytes118 : tbytes Try.prog 118 = some 8 := by kernel_rfl
@[simp] theorem tagg118 : tagg Try.prog 118 = some false := by kernel_rfl
@[simp] theorem notInt118 : notInt Try.prog 118 = true := by kernel_rfl
@[simp] theorem tzc118 : tzc Try.prog 118 = some [.nilp] := by kernel_rfl
attribute [simp] Try.underlying118
@[simp] theorem tsz119 : tsz Try.prog 119 = some 1 := by kernel_rfl
@[simp] theorem tbytes119 : tbytes Try.prog 119 = some 8 := by kernel_rfl
@[simp] theorem tagg119 : tagg Try.prog 119 = some false := by kernel_rfl
@[simp] theorem notInt119 : notInt Try.prog 119 = true := by kernel_rfl
@[simp] theorem tzc119 : tzc Try.prog 119 = some [.nilf] := by kernel_rfl
attribute [simp] Try.underlying119
@[simp] theorem tsz120 : tsz Try.prog 120 = some 1 := by kernel_rfl
@[simp] theorem tbytes120 : tbytes Try.prog 120 = some 8 := by kernel_rfl
@[simp] theorem tagg120 : tagg Try.prog 120 = some false := by kernel_rfl
@[simp] theorem notInt120 : notInt Try.prog 120 = true := by kernel_rfl
@[simp] theorem tzc120 : tzc Try.prog 120 = some [.nilf] := by kernel_rfl
attribute [simp] Try.underlying120
@[simp] theorem tsz121 : tsz Try.prog 121 = some 1 := by kernel_rfl
@[simp] theorem tbytes121 : tbytes Try.prog 121 = some 8 := by kernel_rfl
@[simp] theorem tagg121 : tagg Try.prog 121 = some false := by kernel_rfl
@[simp] theorem notInt121 : notInt Try.prog 121 = true := by kernel_rfl
@[simp] theorem tzc121 : tzc Try.prog 121 = some [.nilf] := by kernel_rfl
attribute [simp] Try.underlying121
@[simp] theorem tsz122 : tsz Try.prog 122 = some 1 := by kernel_rfl
@[simp] theorem tbytes122 : tbytes Try.prog 122 = some 8 := by kernel_rfl
@[simp] theorem tagg122 : tagg Try.prog 122 = some false := by kernel_rfl
@[simp] theorem notInt122 : notInt Try.prog 122 = true := by kernel_rfl
@[simp] theorem tzc122 : tzc Try.prog 122 = some [.nilf] := by kernel_rfl
attribute [simp] Try.underlying122
@[simp] theorem tsz123 : tsz Try.prog 123 = some 1 := by kernel_rfl
@[simp] theorem tbytes123 : tbytes Try.prog 123 = some 8 := by kernel_rfl
@[simp] theorem tagg123 : tagg Try.prog 123 = some false := by kernel_rfl
@[simp] theorem notInt123 : notInt Try.prog 123 = true := by kernel_rfl
@[simp] theorem tzc123 : tzc Try.prog 123 = some [.nilf] := by kernel_rfl
attribute [simp] Try.underlying123
@[simp] theorem tsz124 : tsz Try.prog 124 = some 1 := by kernel_rfl
@[simp] theorem tbytes124 : tbytes Try.prog 124 = some 8 := by kernel_rfl
@[simp] theorem tagg124 : tagg Try.prog 124 = some false := by kernel_rfl
@[simp] theorem notInt124 : notInt Try.prog 124 = true := by kernel_rfl
@[simp] theorem tzc124 : tzc Try.prog 124 = some [.nilf] := by kernel_rfl
attribute [simp] Try.underlying124
@[simp] theorem tsz125 : tsz Try.prog 125 = some 1 := by kernel_rfl
@[simp] theorem tbytes125 : tbytes Try.prog 125 = some 8 := by kernel_rfl
@[simp] theorem tagg125 : tagg Try.prog 125 = some false := by kernel_rfl
@[simp] theorem notInt125 : notInt Try.prog 125 = true := by kernel_rfl
@[simp] theorem tzc125 : tzc Try.prog 125 = some [.nilf] := by kernel_rfl
attribute [simp] Try.underlying125
@[simp] theorem tsz126 : tsz Try.prog 126 = some 1 := by kernel_rfl
@[simp] theorem tbytes126 : tbytes Try.prog 126 = some 8 := by kernel_rfl
@[simp] theorem tagg126 : tagg Try.prog 126 = some false := by kernel_rfl
@[simp] theorem notInt126 : notInt Try.prog 126 = true := by kernel_rfl
@[simp] theorem tzc126 : tzc Try.prog 126 = some [.nilf] := by kernel_rfl
attribute [simp] Try.underlying126
@[simp] theorem tsz127 : tsz Try.prog 127 = some 1 := by kernel_rfl
@[simp] theorem tbytes127 : tbytes Try.prog 127 = some 8 := by kernel_rfl
@[simp] theorem tagg127 : tagg Try.prog 127 = some false := by kernel_rfl
@[simp] theorem notInt127 : notInt Try.prog 127 = true := by kernel_rfl
@[simp] theorem tzc127 : tzc Try.prog 127 = some [.nilp] := by kernel_rfl
attribute [simp] Try.underlying127
@[simp] theorem tsz128 : tsz Try.prog 128 = some 1 := by kernel_rfl
@[simp] theorem tbytes128 : tbytes Try.prog 128 = some 0 := by kernel_rfl
@[simp] theorem tagg128 : tagg Try.prog 128 = some false := by kernel_rfl
@[simp] theorem notInt128 : notInt Try.prog 128 = true := by kernel_rfl
@[simp] theorem tzc128 : tzc Try.prog 128 = none := by kernel_rfl
attribute [simp] Try.underlying128
@[simp] theorem tsz129 : tsz Try.prog 129 = some 1 := by kernel_rfl
@[simp] theorem tbytes129 : tbytes Try.prog 129 = some 8 := by kernel_rfl
@[simp] theorem tagg129 : tagg Try.prog 129 = some false := by kernel_rfl
@[simp] theorem notInt129 : notInt Try.prog 129 = true := by kernel_rfl
@[simp] theorem tzc129 : tzc Try.prog 129 = some [.nilf] := by kernel_rfl
attribute [simp] Try.underlying129
@[simp] theorem tsz130 : tsz Try.prog 130 = some 1 := by kernel_rfl
@[simp] theorem tbytes130 : tbytes Try.prog 130 = some 8 := by kernel_rfl
@[simp] theorem tagg130 : tagg Try.prog 130 = some false := by kernel_rfl
@[simp] theorem notInt130 : notInt Try.prog 130 = true := by kernel_rfl
@[simp] theorem tzc130 : tzc Try.prog 130 = some [.nilf] := by kernel_rfl
attribute [simp] Try.underlying130
@[simp] theorem tsz131 : tsz Try.prog 131 = some 1 := by kernel_rfl
@[simp] theorem tbytes131 : tbytes Try.prog 131 = some 8 := by kernel_rfl
@[simp] theorem tagg131 : tagg Try.prog 131 = some false := by kernel_rfl
@[simp] theorem notInt131 : notInt Try.prog 131 = true := by kernel_rfl
@[simp] theorem tzc131 : tzc Try.prog 131 = some [.nilf] := by kernel_rfl
attribute [simp] Try.underlying131
@[simp] theorem tsz132 : tsz Try.prog 132 = some 1 := by kernel_rfl
@[simp] theorem tbytes132 : tbytes Try.prog 132 = some 8 := by kernel_rfl
@[simp] theorem tagg132 : tagg Try.prog 132 = some false := by kernel_rfl
@[simp] theorem notInt132 : notInt Try.prog 132 = true := by kernel_rfl
@[simp] theorem tzc132 : tzc Try.prog 132 = some [.nilf] := by kernel_rfl
attribute [simp] Try.underlying132
@[simp] theorem tsz133 : tsz Try.prog 133 = some 1 := by kernel_rfl
@[simp] theorem tbytes133 : tbytes Try.prog 133 = some 8 := by kernel_rfl
@[simp] theorem tagg133 : tagg Try.prog 133 = some false := by kernel_rfl
@[simp] theorem notInt133 : notInt Try.prog 133 = true := by kernel_rfl
@[simp] theorem tzc133 : tzc Try.prog 133 = some [.nilf] := by kernel_rfl
attribute [simp] Try.underlying133
@[simp] theorem tsz134 : tsz Try.prog 134 = some 4 := by kernel_rfl
@[simp] theorem tbytes134 : tbytes Try.prog 134 = some 40 := by kernel_rfl
@[simp] theorem tagg134 : tagg Try.prog 134 = some true := by kernel_rfl
@[simp] theorem notInt134 : notInt Try.prog 134 = true := by kernel_rfl
@[simp] theorem tzc134 : tzc Try.prog 134 = some [.nilp, .nilp, .nilp, (.str ⟨#[]⟩)] := by kernel_rfl
attribute [simp] Try.underlying134
@[simp] theorem tsz135 : tsz Try.prog 135 = some 4 := by kernel_rfl
@[simp] theorem tbytes135 : tbytes Try.prog 135 = some 40 := by kernel_rfl
@[simp] theorem tagg135 : tagg Try.prog 135 = some true := by kernel_rfl
@[simp] theorem notInt135 : notInt Try.prog 135 = true := by kernel_rfl
@[simp] theorem tzc135 : tzc Try.prog 135 = some [.nilp, .nilp, .nilp, (.str ⟨#[]⟩)] := by kernel_rfl
attribute [simp] Try.underlying135
@[simp] theorem tsz136 : tsz Try.prog 136 = some 0 := by kernel_rfl
@[simp] theorem tbytes136 : tbytes Try.prog 136 = some 0 := by kernel_rfl
@[simp] theorem tagg136 : tagg Try.prog 136 = some true := by kernel_rfl
@[simp] theorem notInt136 : notInt Try.prog 136 = true := by kernel_rfl
@[simp] theorem tzc136 : tzc Try.prog 136 = some [] := by kernel_rfl
attribute [simp] Try.underlying136
@[simp] theorem tsz137 : tsz Try.prog 137 = some 0 := by kernel_rfl
@[simp] theorem tbytes137 : tbytes Try.prog 137 = some 0 := by kernel_rfl
@[simp] theorem tagg137 : tagg Try.prog 137 = some true := by kernel_rfl
@[simp] theorem notInt137 : notInt Try.prog 137 = true := by kernel_rfl
@[simp] theorem tzc137 : tzc Try.prog 137 = some [] := by kernel_rfl
attribute [simp] Try.underlying137
@[simp] theorem tsz138 : tsz Try.prog 138 = some 0 := by kernel_rfl
@[simp] theorem tbytes138 : tbytes Try.prog 138 = some 0 := by kernel_rfl
@[simp] theorem tagg138 : tagg Try.prog 138 = some true := by kernel_rfl
@[simp] theorem notInt138 : notInt Try.prog 138 = true := by kernel_rfl
@[simp] theorem tzc138 : tzc Try.prog 138 = some [] := by kernel_rfl
attribute [simp] Try.underlying138
@[simp] theorem tsz139 : tsz Try.prog 139 = some 1 := by kernel_rfl
@[simp] theorem tbytes139 : tbytes Try.prog 139 = some 8 := by kernel_rfl
@[simp] theorem tagg139 : tagg Try.prog 139 = some false := by kernel_rfl
@[simp] theorem notInt139 : notInt Try.prog 139 = true := by kernel_rfl
@[simp] theorem tzc139 : tzc Try.prog 139 = some [.nilf] := by kernel_rfl
attribute [simp] Try.underlying139
@[simp] theorem tsz140 : tsz Try.prog 140 = some 1 := by kernel_rfl
@[simp] theorem tbytes140 : tbytes Try.prog 140 = some 1 := by kernel_rfl
@[simp] theorem tagg140 : tagg Try.prog 140 = some false := by kernel_rfl
@[simp] theorem notInt140 : notInt Try.prog 140 = false := by kernel_rfl
@[simp] theorem tzc140 : tzc Try.prog 140 = some [(.int .u8 (0))] := by kernel_rfl
attribute [simp] Try.underlying140
@[simp] theorem tsz141 : tsz Try.prog 141 = some 1 := by kernel_rfl
@[simp] theorem tbytes141 : tbytes Try.prog 141 = some 1 := by kernel_rfl
@[simp] theorem tagg141 : tagg Try.prog 141 = some false := by kernel_rfl
@[simp] theorem notInt141 : notInt Try.prog 141 = false := by kernel_rfl
@[simp] theorem tzc141 : tzc Try.prog 141 = some [(.int .u8 (0))] := by kernel_rfl
attribute [simp] Try.underlying141
@[simp] theorem tsz142 : tsz Try.prog 142 = some 1 := by kernel_rfl
@[simp] theorem tbytes142 : tbytes Try.prog 142 = some 8 := by kernel_rfl
@[simp] theorem tagg142 : tagg Try.prog 142 = some false := by kernel_rfl
@[simp] theorem notInt142 : notInt Try.prog 142 = true := by kernel_rfl
@[simp] theorem tzc142 : tzc Try.prog 142 = some [.nilf] := by kernel_rfl
attribute [simp] Try.underlying142
@[simp] theorem tsz143 : tsz Try.prog 143 = some 1 := by kernel_rfl
@[simp] theorem tbytes143 : tbytes Try.prog 143 = some 8 := by kernel_rfl
@[simp] theorem tagg143 : tagg Try.prog 143 = some false := by kernel_rfl
@[simp] theorem notInt143 : notInt Try.prog 143 = true := by kernel_rfl
@[simp] theorem tzc143 : tzc Try.prog 143 = some [.nilp] := by kernel_rfl
attribute [simp] Try.underlying143
@[simp] theorem tsz144 : tsz Try.prog 144 = some 1 := by kernel_rfl
@[simp] theorem tbytes144 : tbytes Try.prog 144 = some 4 := by kernel_rfl
@[simp] theorem tagg144 : tagg Try.prog 144 = some false := by kernel_rfl
@[simp] theorem notInt144 : notInt Try.prog 144 = false := by kernel_rfl
@[simp] theorem tzc144 : tzc Try.prog 144 = some [(.int .i32 (0))] := by kernel_rfl
attribute [simp] Try.underlying144
@[simp] theorem tsz145 : tsz Try.prog 145 = some 1 := by kernel_rfl
@[simp] theorem tbytes145 : tbytes Try.prog 145 = some 4 := by kernel_rfl
@[simp] theorem tagg145 : tagg Try.prog 145 = some false := by kernel_rfl
@[simp] theorem notInt145 : notInt Try.prog 145 = false := by kernel_rfl
@[simp] theorem tzc145 : tzc Try.prog 145 = some [(.int .i32 (0))] := by kernel_rfl
attribute [simp] Try.underlying145
@[simp] theorem tsz146 : tsz Try.prog 146 = some 11 := by kernel_rfl
@[simp] theorem tbytes146 : tbytes Try.prog 146 = some 48 := by kernel_rfl
@[simp] theorem tagg146 : tagg Try.prog 146 = some true := by kernel_rfl
@[simp] theorem notInt146 : notInt Try.prog 146 = true := by kernel_rfl
@[simp] theorem tzc146 : tzc Try.prog 146 = some [(.int .u64 (0)), (.int .u64 (0)), (.int .u32 (0)), (.int .u8 (0)), (.int .u8 (0)), (.int .u8 (0)), (.int .u8 (0)), .nilf, .nilp, (.int .i32 (0)), (.int .i32 (0))] := by kernel_rfl
attribute [simp] Try.underlying146
@[simp] theorem tsz147 : tsz Try.prog 147 = some 11 := by kernel_rfl
@[simp] theorem tbytes147 : tbytes Try.prog 147 = some 48 := by kernel_rfl
@[simp] theorem tagg147 : tagg Try.prog 147 = some true := by kernel_rfl
@[simp] theorem notInt147 : notInt Try.prog 147 = true := by kernel_rfl
@[simp] theorem tzc147 : tzc Try.prog 147 = some [(.int .u64 (0)), (.int .u64 (0)), (.int .u32 (0)), (.int .u8 (0)), (.int .u8 (0)), (.int .u8 (0)), (.int .u8 (0)), .nilf, .nilp, (.int .i32 (0)), (.int .i32 (0))] := by kernel_rfl
attribute [simp] Try.underlying147
@[simp] theorem tsz148 : tsz Try.prog 148 = some 1 := by kernel_rfl
@[simp] theorem tbytes148 : tbytes Try.prog 148 = some 8 := by kernel_rfl
@[simp] theorem tagg148 : tagg Try.prog 148 = some false := by kernel_rfl
@[simp] theorem notInt148 : notInt Try.prog 148 = true := by kernel_rfl
@[simp] theorem tzc148 : tzc Try.prog 148 = some [.nilp] := by kernel_rfl
attribute [simp] Try.underlying148
end Go.Ev.Try
