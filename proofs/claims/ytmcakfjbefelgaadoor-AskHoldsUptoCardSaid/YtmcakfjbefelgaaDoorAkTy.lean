/-
  FACTS ON THE TYPES, printed by wip/tools/facts.py (own work).
-/
import Derived.Test.YtmcakfjbefelgaaDoorEvD
import Derived.Test.YtmcakfjbefelgaaDoorProg
import Derived.KernelRfl
set_option maxRecDepth 100000
namespace Go.Ev.Tryd
open Go Go.Ev Go.Proofs

@[simp] theorem tsz0 : tsz Tryd.prog 0 = some 1 := by kernel_rfl
@[simp] theorem tbytes0 : tbytes Tryd.prog 0 = some 0 := by kernel_rfl
@[simp] theorem tagg0 : tagg Tryd.prog 0 = some false := by kernel_rfl
@[simp] theorem notInt0 : notInt Tryd.prog 0 = true := by kernel_rfl
@[simp] theorem tzc0 : tzc Tryd.prog 0 = none := by kernel_rfl
attribute [simp] Tryd.underlying0
@[simp] theorem tsz1 : tsz Tryd.prog 1 = some 1 := by kernel_rfl
@[simp] theorem tbytes1 : tbytes Tryd.prog 1 = some 8 := by kernel_rfl
@[simp] theorem tagg1 : tagg Tryd.prog 1 = some false := by kernel_rfl
@[simp] theorem notInt1 : notInt Tryd.prog 1 = true := by kernel_rfl
@[simp] theorem tzc1 : tzc Tryd.prog 1 = some [.nilf] := by kernel_rfl
attribute [simp] Tryd.underlying1
@[simp] theorem tsz2 : tsz Tryd.prog 2 = some 1 := by kernel_rfl
@[simp] theorem tbytes2 : tbytes Tryd.prog 2 = some 8 := by kernel_rfl
@[simp] theorem tagg2 : tagg Tryd.prog 2 = some false := by kernel_rfl
@[simp] theorem notInt2 : notInt Tryd.prog 2 = false := by kernel_rfl
@[simp] theorem tzc2 : tzc Tryd.prog 2 = some [(.int .i64 (0))] := by kernel_rfl
attribute [simp] Tryd.underlying2
@[simp] theorem tsz3 : tsz Tryd.prog 3 = some 1 := by kernel_rfl
@[simp] theorem tbytes3 : tbytes Tryd.prog 3 = some 8 := by kernel_rfl
@[simp] theorem tagg3 : tagg Tryd.prog 3 = some false := by kernel_rfl
@[simp] theorem notInt3 : notInt Tryd.prog 3 = false := by kernel_rfl
@[simp] theorem tzc3 : tzc Tryd.prog 3 = some [(.int .i64 (0))] := by kernel_rfl
attribute [simp] Tryd.underlying3
@[simp] theorem tsz4 : tsz Tryd.prog 4 = some 1 := by kernel_rfl
@[simp] theorem tbytes4 : tbytes Tryd.prog 4 = some 1 := by kernel_rfl
@[simp] theorem tagg4 : tagg Tryd.prog 4 = some false := by kernel_rfl
@[simp] theorem notInt4 : notInt Tryd.prog 4 = true := by kernel_rfl
@[simp] theorem tzc4 : tzc Tryd.prog 4 = some [(.bool false)] := by kernel_rfl
attribute [simp] Tryd.underlying4
@[simp] theorem tsz5 : tsz Tryd.prog 5 = some 1 := by kernel_rfl
@[simp] theorem tbytes5 : tbytes Tryd.prog 5 = some 1 := by kernel_rfl
@[simp] theorem tagg5 : tagg Tryd.prog 5 = some false := by kernel_rfl
@[simp] theorem notInt5 : notInt Tryd.prog 5 = false := by kernel_rfl
@[simp] theorem tzc5 : tzc Tryd.prog 5 = some [(.int .u8 (0))] := by kernel_rfl
attribute [simp] Tryd.underlying5
@[simp] theorem tsz6 : tsz Tryd.prog 6 = some 1 := by kernel_rfl
@[simp] theorem tbytes6 : tbytes Tryd.prog 6 = some 1 := by kernel_rfl
@[simp] theorem tagg6 : tagg Tryd.prog 6 = some false := by kernel_rfl
@[simp] theorem notInt6 : notInt Tryd.prog 6 = false := by kernel_rfl
@[simp] theorem tzc6 : tzc Tryd.prog 6 = some [(.int .u8 (0))] := by kernel_rfl
attribute [simp] Tryd.underlying6
@[simp] theorem tsz7 : tsz Tryd.prog 7 = some 4 := by kernel_rfl
@[simp] theorem tbytes7 : tbytes Tryd.prog 7 = some 24 := by kernel_rfl
@[simp] theorem tagg7 : tagg Tryd.prog 7 = some true := by kernel_rfl
@[simp] theorem notInt7 : notInt Tryd.prog 7 = true := by kernel_rfl
@[simp] theorem tzc7 : tzc Tryd.prog 7 = some [(.int .i64 (0)), (.int .i64 (0)), (.bool false), (.int .u8 (0))] := by kernel_rfl
attribute [simp] Tryd.underlying7
@[simp] theorem tsz8 : tsz Tryd.prog 8 = some 4 := by kernel_rfl
@[simp] theorem tbytes8 : tbytes Tryd.prog 8 = some 24 := by kernel_rfl
@[simp] theorem tagg8 : tagg Tryd.prog 8 = some true := by kernel_rfl
@[simp] theorem notInt8 : notInt Tryd.prog 8 = true := by kernel_rfl
@[simp] theorem tzc8 : tzc Tryd.prog 8 = some [(.int .i64 (0)), (.int .i64 (0)), (.bool false), (.int .u8 (0))] := by kernel_rfl
attribute [simp] Tryd.underlying8
@[simp] theorem tsz9 : tsz Tryd.prog 9 = some 1 := by kernel_rfl
@[simp] theorem tbytes9 : tbytes Tryd.prog 9 = some 16 := by kernel_rfl
@[simp] theorem tagg9 : tagg Tryd.prog 9 = some false := by kernel_rfl
@[simp] theorem notInt9 : notInt Tryd.prog 9 = true := by kernel_rfl
@[simp] theorem tzc9 : tzc Tryd.prog 9 = some [(.str ⟨#[]⟩)] := by kernel_rfl
attribute [simp] Tryd.underlying9
@[simp] theorem tsz10 : tsz Tryd.prog 10 = some 1 := by kernel_rfl
@[simp] theorem tbytes10 : tbytes Tryd.prog 10 = some 16 := by kernel_rfl
@[simp] theorem tagg10 : tagg Tryd.prog 10 = some false := by kernel_rfl
@[simp] theorem notInt10 : notInt Tryd.prog 10 = true := by kernel_rfl
@[simp] theorem tzc10 : tzc Tryd.prog 10 = some [(.str ⟨#[]⟩)] := by kernel_rfl
attribute [simp] Tryd.underlying10
@[simp] theorem tsz11 : tsz Tryd.prog 11 = some 1 := by kernel_rfl
@[simp] theorem tbytes11 : tbytes Tryd.prog 11 = some 16 := by kernel_rfl
@[simp] theorem tagg11 : tagg Tryd.prog 11 = some false := by kernel_rfl
@[simp] theorem notInt11 : notInt Tryd.prog 11 = true := by kernel_rfl
@[simp] theorem tzc11 : tzc Tryd.prog 11 = some [(.str ⟨#[]⟩)] := by kernel_rfl
attribute [simp] Tryd.underlying11
@[simp] theorem tsz12 : tsz Tryd.prog 12 = some 1 := by kernel_rfl
@[simp] theorem tbytes12 : tbytes Tryd.prog 12 = some 8 := by kernel_rfl
@[simp] theorem tagg12 : tagg Tryd.prog 12 = some false := by kernel_rfl
@[simp] theorem notInt12 : notInt Tryd.prog 12 = false := by kernel_rfl
@[simp] theorem tzc12 : tzc Tryd.prog 12 = some [(.int .u64 (0))] := by kernel_rfl
attribute [simp] Tryd.underlying12
@[simp] theorem tsz13 : tsz Tryd.prog 13 = some 2 := by kernel_rfl
@[simp] theorem tbytes13 : tbytes Tryd.prog 13 = some 24 := by kernel_rfl
@[simp] theorem tagg13 : tagg Tryd.prog 13 = some true := by kernel_rfl
@[simp] theorem notInt13 : notInt Tryd.prog 13 = true := by kernel_rfl
@[simp] theorem tzc13 : tzc Tryd.prog 13 = some [(.str ⟨#[]⟩), (.int .u64 (0))] := by kernel_rfl
attribute [simp] Tryd.underlying13
@[simp] theorem tsz14 : tsz Tryd.prog 14 = some 2 := by kernel_rfl
@[simp] theorem tbytes14 : tbytes Tryd.prog 14 = some 24 := by kernel_rfl
@[simp] theorem tagg14 : tagg Tryd.prog 14 = some true := by kernel_rfl
@[simp] theorem notInt14 : notInt Tryd.prog 14 = true := by kernel_rfl
@[simp] theorem tzc14 : tzc Tryd.prog 14 = some [(.str ⟨#[]⟩), (.int .u64 (0))] := by kernel_rfl
attribute [simp] Tryd.underlying14
@[simp] theorem tsz15 : tsz Tryd.prog 15 = some 1 := by kernel_rfl
@[simp] theorem tbytes15 : tbytes Tryd.prog 15 = some 8 := by kernel_rfl
@[simp] theorem tagg15 : tagg Tryd.prog 15 = some false := by kernel_rfl
@[simp] theorem notInt15 : notInt Tryd.prog 15 = true := by kernel_rfl
@[simp] theorem tzc15 : tzc Tryd.prog 15 = some [.nilp] := by kernel_rfl
attribute [simp] Tryd.underlying15
@[simp] theorem tsz16 : tsz Tryd.prog 16 = some 1 := by kernel_rfl
@[simp] theorem tbytes16 : tbytes Tryd.prog 16 = some 8 := by kernel_rfl
@[simp] theorem tagg16 : tagg Tryd.prog 16 = some false := by kernel_rfl
@[simp] theorem notInt16 : notInt Tryd.prog 16 = true := by kernel_rfl
@[simp] theorem tzc16 : tzc Tryd.prog 16 = some [.nilp] := by kernel_rfl
attribute [simp] Tryd.underlying16
@[simp] theorem tsz17 : tsz Tryd.prog 17 = some 1 := by kernel_rfl
@[simp] theorem tbytes17 : tbytes Tryd.prog 17 = some 8 := by kernel_rfl
@[simp] theorem tagg17 : tagg Tryd.prog 17 = some false := by kernel_rfl
@[simp] theorem notInt17 : notInt Tryd.prog 17 = true := by kernel_rfl
@[simp] theorem tzc17 : tzc Tryd.prog 17 = some [.nilp] := by kernel_rfl
attribute [simp] Tryd.underlying17
@[simp] theorem tsz18 : tsz Tryd.prog 18 = some 1 := by kernel_rfl
@[simp] theorem tbytes18 : tbytes Tryd.prog 18 = some 8 := by kernel_rfl
@[simp] theorem tagg18 : tagg Tryd.prog 18 = some true := by kernel_rfl
@[simp] theorem notInt18 : notInt Tryd.prog 18 = true := by kernel_rfl
@[simp] theorem tzc18 : tzc Tryd.prog 18 = some [.nilp] := by kernel_rfl
attribute [simp] Tryd.underlying18
@[simp] theorem tsz19 : tsz Tryd.prog 19 = some 1 := by kernel_rfl
@[simp] theorem tbytes19 : tbytes Tryd.prog 19 = some 8 := by kernel_rfl
@[simp] theorem tagg19 : tagg Tryd.prog 19 = some true := by kernel_rfl
@[simp] theorem notInt19 : notInt Tryd.prog 19 = true := by kernel_rfl
@[simp] theorem tzc19 : tzc Tryd.prog 19 = some [.nilp] := by kernel_rfl
attribute [simp] Tryd.underlying19
@[simp] theorem tsz20 : tsz Tryd.prog 20 = some 1 := by kernel_rfl
@[simp] theorem tbytes20 : tbytes Tryd.prog 20 = some 16 := by kernel_rfl
@[simp] theorem tagg20 : tagg Tryd.prog 20 = some false := by kernel_rfl
@[simp] theorem notInt20 : notInt Tryd.prog 20 = true := by kernel_rfl
@[simp] theorem tzc20 : tzc Tryd.prog 20 = some [.nili] := by kernel_rfl
attribute [simp] Tryd.underlying20
@[simp] theorem tsz21 : tsz Tryd.prog 21 = some 1 := by kernel_rfl
@[simp] theorem tbytes21 : tbytes Tryd.prog 21 = some 4 := by kernel_rfl
@[simp] theorem tagg21 : tagg Tryd.prog 21 = some false := by kernel_rfl
@[simp] theorem notInt21 : notInt Tryd.prog 21 = false := by kernel_rfl
@[simp] theorem tzc21 : tzc Tryd.prog 21 = some [(.int .i32 (0))] := by kernel_rfl
attribute [simp] Tryd.underlying21
@[simp] theorem tsz22 : tsz Tryd.prog 22 = some 1 := by kernel_rfl
@[simp] theorem tbytes22 : tbytes Tryd.prog 22 = some 24 := by kernel_rfl
@[simp] theorem tagg22 : tagg Tryd.prog 22 = some false := by kernel_rfl
@[simp] theorem notInt22 : notInt Tryd.prog 22 = true := by kernel_rfl
@[simp] theorem tzc22 : tzc Tryd.prog 22 = some [.nils] := by kernel_rfl
attribute [simp] Tryd.underlying22
@[simp] theorem tsz23 : tsz Tryd.prog 23 = some 1 := by kernel_rfl
@[simp] theorem tbytes23 : tbytes Tryd.prog 23 = some 24 := by kernel_rfl
@[simp] theorem tagg23 : tagg Tryd.prog 23 = some false := by kernel_rfl
@[simp] theorem notInt23 : notInt Tryd.prog 23 = true := by kernel_rfl
@[simp] theorem tzc23 : tzc Tryd.prog 23 = some [.nils] := by kernel_rfl
attribute [simp] Tryd.underlying23
@[simp] theorem tsz24 : tsz Tryd.prog 24 = some 3 := by kernel_rfl
@[simp] theorem tbytes24 : tbytes Tryd.prog 24 = some 56 := by kernel_rfl
@[simp] theorem tagg24 : tagg Tryd.prog 24 = some true := by kernel_rfl
@[simp] theorem notInt24 : notInt Tryd.prog 24 = true := by kernel_rfl
@[simp] theorem tzc24 : tzc Tryd.prog 24 = some [.nils, .nils, (.int .i64 (0))] := by kernel_rfl
attribute [simp] Tryd.underlying24
@[simp] theorem tsz25 : tsz Tryd.prog 25 = some 3 := by kernel_rfl
@[simp] theorem tbytes25 : tbytes Tryd.prog 25 = some 56 := by kernel_rfl
@[simp] theorem tagg25 : tagg Tryd.prog 25 = some true := by kernel_rfl
@[simp] theorem notInt25 : notInt Tryd.prog 25 = true := by kernel_rfl
@[simp] theorem tzc25 : tzc Tryd.prog 25 = some [.nils, .nils, (.int .i64 (0))] := by kernel_rfl
attribute [simp] Tryd.underlying25
@[simp] theorem tsz26 : tsz Tryd.prog 26 = some 5 := by kernel_rfl
@[simp] theorem tbytes26 : tbytes Tryd.prog 26 = some 64 := by kernel_rfl
@[simp] theorem tagg26 : tagg Tryd.prog 26 = some true := by kernel_rfl
@[simp] theorem notInt26 : notInt Tryd.prog 26 = true := by kernel_rfl
@[simp] theorem tzc26 : tzc Tryd.prog 26 = some [(.int .i64 (0)), (.str ⟨#[]⟩), (.int .i64 (0)), (.int .i64 (0)), .nils] := by kernel_rfl
attribute [simp] Tryd.underlying26
@[simp] theorem tsz27 : tsz Tryd.prog 27 = some 5 := by kernel_rfl
@[simp] theorem tbytes27 : tbytes Tryd.prog 27 = some 64 := by kernel_rfl
@[simp] theorem tagg27 : tagg Tryd.prog 27 = some true := by kernel_rfl
@[simp] theorem notInt27 : notInt Tryd.prog 27 = true := by kernel_rfl
@[simp] theorem tzc27 : tzc Tryd.prog 27 = some [(.int .i64 (0)), (.str ⟨#[]⟩), (.int .i64 (0)), (.int .i64 (0)), .nils] := by kernel_rfl
attribute [simp] Tryd.underlying27
@[simp] theorem tsz28 : tsz Tryd.prog 28 = some 1 := by kernel_rfl
@[simp] theorem tbytes28 : tbytes Tryd.prog 28 = some 8 := by kernel_rfl
@[simp] theorem tagg28 : tagg Tryd.prog 28 = some false := by kernel_rfl
@[simp] theorem notInt28 : notInt Tryd.prog 28 = true := by kernel_rfl
@[simp] theorem tzc28 : tzc Tryd.prog 28 = some [.nilf] := by kernel_rfl
attribute [simp] Tryd.underlying28
@[simp] theorem tsz29 : tsz Tryd.prog 29 = some 1 := by kernel_rfl
@[simp] theorem tbytes29 : tbytes Tryd.prog 29 = some 8 := by kernel_rfl
@[simp] theorem tagg29 : tagg Tryd.prog 29 = some false := by kernel_rfl
@[simp] theorem notInt29 : notInt Tryd.prog 29 = true := by kernel_rfl
@[simp] theorem tzc29 : tzc Tryd.prog 29 = some [.nilf] := by kernel_rfl
attribute [simp] Tryd.underlying29
@[simp] theorem tsz30 : tsz Tryd.prog 30 = some 1 := by kernel_rfl
@[simp] theorem tbytes30 : tbytes Tryd.prog 30 = some 8 := by kernel_rfl
@[simp] theorem tagg30 : tagg Tryd.prog 30 = some false := by kernel_rfl
@[simp] theorem notInt30 : notInt Tryd.prog 30 = false := by kernel_rfl
@[simp] theorem tzc30 : tzc Tryd.prog 30 = some [(.int .i64 (0))] := by kernel_rfl
attribute [simp] Tryd.underlying30
@[simp] theorem tsz31 : tsz Tryd.prog 31 = some 1 := by kernel_rfl
@[simp] theorem tbytes31 : tbytes Tryd.prog 31 = some 8 := by kernel_rfl
@[simp] theorem tagg31 : tagg Tryd.prog 31 = some false := by kernel_rfl
@[simp] theorem notInt31 : notInt Tryd.prog 31 = true := by kernel_rfl
@[simp] theorem tzc31 : tzc Tryd.prog 31 = some [.nilf] := by kernel_rfl
attribute [simp] Tryd.underlying31
@[simp] theorem tsz32 : tsz Tryd.prog 32 = some 1 := by kernel_rfl
@[simp] theorem tbytes32 : tbytes Tryd.prog 32 = some 8 := by kernel_rfl
@[simp] theorem tagg32 : tagg Tryd.prog 32 = some false := by kernel_rfl
@[simp] theorem notInt32 : notInt Tryd.prog 32 = true := by kernel_rfl
@[simp] theorem tzc32 : tzc Tryd.prog 32 = some [.nilf] := by kernel_rfl
attribute [simp] Tryd.underlying32
@[simp] theorem tsz33 : tsz Tryd.prog 33 = some 1 := by kernel_rfl
@[simp] theorem tbytes33 : tbytes Tryd.prog 33 = some 24 := by kernel_rfl
@[simp] theorem tagg33 : tagg Tryd.prog 33 = some false := by kernel_rfl
@[simp] theorem notInt33 : notInt Tryd.prog 33 = true := by kernel_rfl
@[simp] theorem tzc33 : tzc Tryd.prog 33 = some [.nils] := by kernel_rfl
attribute [simp] Tryd.underlying33
@[simp] theorem tsz34 : tsz Tryd.prog 34 = some 1 := by kernel_rfl
@[simp] theorem tbytes34 : tbytes Tryd.prog 34 = some 24 := by kernel_rfl
@[simp] theorem tagg34 : tagg Tryd.prog 34 = some false := by kernel_rfl
@[simp] theorem notInt34 : notInt Tryd.prog 34 = true := by kernel_rfl
@[simp] theorem tzc34 : tzc Tryd.prog 34 = some [.nils] := by kernel_rfl
attribute [simp] Tryd.underlying34
@[simp] theorem tsz35 : tsz Tryd.prog 35 = some 1 := by kernel_rfl
@[simp] theorem tbytes35 : tbytes Tryd.prog 35 = some 24 := by kernel_rfl
@[simp] theorem tagg35 : tagg Tryd.prog 35 = some false := by kernel_rfl
@[simp] theorem notInt35 : notInt Tryd.prog 35 = true := by kernel_rfl
@[simp] theorem tzc35 : tzc Tryd.prog 35 = some [.nils] := by kernel_rfl
attribute [simp] Tryd.underlying35
@[simp] theorem tsz36 : tsz Tryd.prog 36 = some 7 := by kernel_rfl
@[simp] theorem tbytes36 : tbytes Tryd.prog 36 = some 120 := by kernel_rfl
@[simp] theorem tagg36 : tagg Tryd.prog 36 = some true := by kernel_rfl
@[simp] theorem notInt36 : notInt Tryd.prog 36 = true := by kernel_rfl
@[simp] theorem tzc36 : tzc Tryd.prog 36 = some [(.str ⟨#[]⟩), .nils, .nils, .nils, (.str ⟨#[]⟩), (.int .i64 (0)), (.int .i64 (0))] := by kernel_rfl
attribute [simp] Tryd.underlying36
@[simp] theorem tsz37 : tsz Tryd.prog 37 = some 7 := by kernel_rfl
@[simp] theorem tbytes37 : tbytes Tryd.prog 37 = some 120 := by kernel_rfl
@[simp] theorem tagg37 : tagg Tryd.prog 37 = some true := by kernel_rfl
@[simp] theorem notInt37 : notInt Tryd.prog 37 = true := by kernel_rfl
@[simp] theorem tzc37 : tzc Tryd.prog 37 = some [(.str ⟨#[]⟩), .nils, .nils, .nils, (.str ⟨#[]⟩), (.int .i64 (0)), (.int .i64 (0))] := by kernel_rfl
attribute [simp] Tryd.underlying37
@[simp] theorem tsz38 : tsz Tryd.prog 38 = some 1 := by kernel_rfl
@[simp] theorem tbytes38 : tbytes Tryd.prog 38 = some 8 := by kernel_rfl
@[simp] theorem tagg38 : tagg Tryd.prog 38 = some false := by kernel_rfl
@[simp] theorem notInt38 : notInt Tryd.prog 38 = true := by kernel_rfl
@[simp] theorem tzc38 : tzc Tryd.prog 38 = some [.nilf] := by kernel_rfl
attribute [simp] Tryd.underlying38
@[simp] theorem tsz39 : tsz Tryd.prog 39 = some 1 := by kernel_rfl
@[simp] theorem tbytes39 : tbytes Tryd.prog 39 = some 8 := by kernel_rfl
@[simp] theorem tagg39 : tagg Tryd.prog 39 = some false := by kernel_rfl
@[simp] theorem notInt39 : notInt Tryd.prog 39 = true := by kernel_rfl
@[simp] theorem tzc39 : tzc Tryd.prog 39 = some [.nilf] := by kernel_rfl
attribute [simp] Tryd.underlying39
@[simp] theorem tsz40 : tsz Tryd.prog 40 = some 1 := by kernel_rfl
@[simp] theorem tbytes40 : tbytes Tryd.prog 40 = some 8 := by kernel_rfl
@[simp] theorem tagg40 : tagg Tryd.prog 40 = some false := by kernel_rfl
@[simp] theorem notInt40 : notInt Tryd.prog 40 = true := by kernel_rfl
@[simp] theorem tzc40 : tzc Tryd.prog 40 = some [.nilf] := by kernel_rfl
attribute [simp] Tryd.underlying40
@[simp] theorem tsz41 : tsz Tryd.prog 41 = some 1 := by kernel_rfl
@[simp] theorem tbytes41 : tbytes Tryd.prog 41 = some 24 := by kernel_rfl
@[simp] theorem tagg41 : tagg Tryd.prog 41 = some false := by kernel_rfl
@[simp] theorem notInt41 : notInt Tryd.prog 41 = true := by kernel_rfl
@[simp] theorem tzc41 : tzc Tryd.prog 41 = some [.nils] := by kernel_rfl
attribute [simp] Tryd.underlying41
@[simp] theorem tsz42 : tsz Tryd.prog 42 = some 1 := by kernel_rfl
@[simp] theorem tbytes42 : tbytes Tryd.prog 42 = some 24 := by kernel_rfl
@[simp] theorem tagg42 : tagg Tryd.prog 42 = some false := by kernel_rfl
@[simp] theorem notInt42 : notInt Tryd.prog 42 = true := by kernel_rfl
@[simp] theorem tzc42 : tzc Tryd.prog 42 = some [.nils] := by kernel_rfl
attribute [simp] Tryd.underlying42
@[simp] theorem tsz43 : tsz Tryd.prog 43 = some 1 := by kernel_rfl
@[simp] theorem tbytes43 : tbytes Tryd.prog 43 = some 0 := by kernel_rfl
@[simp] theorem tagg43 : tagg Tryd.prog 43 = some false := by kernel_rfl
@[simp] theorem notInt43 : notInt Tryd.prog 43 = true := by kernel_rfl
@[simp] theorem tzc43 : tzc Tryd.prog 43 = none := by kernel_rfl
attribute [simp] Tryd.underlying43
@[simp] theorem tsz44 : tsz Tryd.prog 44 = some 1 := by kernel_rfl
@[simp] theorem tbytes44 : tbytes Tryd.prog 44 = some 8 := by kernel_rfl
@[simp] theorem tagg44 : tagg Tryd.prog 44 = some false := by kernel_rfl
@[simp] theorem notInt44 : notInt Tryd.prog 44 = true := by kernel_rfl
@[simp] theorem tzc44 : tzc Tryd.prog 44 = some [.nilf] := by kernel_rfl
attribute [simp] Tryd.underlying44
@[simp] theorem tsz45 : tsz Tryd.prog 45 = some 1 := by kernel_rfl
@[simp] theorem tbytes45 : tbytes Tryd.prog 45 = some 8 := by kernel_rfl
@[simp] theorem tagg45 : tagg Tryd.prog 45 = some false := by kernel_rfl
@[simp] theorem notInt45 : notInt Tryd.prog 45 = true := by kernel_rfl
@[simp] theorem tzc45 : tzc Tryd.prog 45 = some [.nilf] := by kernel_rfl
attribute [simp] Tryd.underlying45
@[simp] theorem tsz46 : tsz Tryd.prog 46 = some 1 := by kernel_rfl
@[simp] theorem tbytes46 : tbytes Tryd.prog 46 = some 8 := by kernel_rfl
@[simp] theorem tagg46 : tagg Tryd.prog 46 = some false := by kernel_rfl
@[simp] theorem notInt46 : notInt Tryd.prog 46 = true := by kernel_rfl
@[simp] theorem tzc46 : tzc Tryd.prog 46 = some [.nilf] := by kernel_rfl
attribute [simp] Tryd.underlying46
@[simp] theorem tsz47 : tsz Tryd.prog 47 = some 1 := by kernel_rfl
@[simp] theorem tbytes47 : tbytes Tryd.prog 47 = some 8 := by kernel_rfl
@[simp] theorem tagg47 : tagg Tryd.prog 47 = some false := by kernel_rfl
@[simp] theorem notInt47 : notInt Tryd.prog 47 = true := by kernel_rfl
@[simp] theorem tzc47 : tzc Tryd.prog 47 = some [.nilf] := by kernel_rfl
attribute [simp] Tryd.underlying47
@[simp] theorem tsz48 : tsz Tryd.prog 48 = some 1 := by kernel_rfl
@[simp] theorem tbytes48 : tbytes Tryd.prog 48 = some 24 := by kernel_rfl
@[simp] theorem tagg48 : tagg Tryd.prog 48 = some false := by kernel_rfl
@[simp] theorem notInt48 : notInt Tryd.prog 48 = true := by kernel_rfl
@[simp] theorem tzc48 : tzc Tryd.prog 48 = some [.nils] := by kernel_rfl
attribute [simp] Tryd.underlying48
@[simp] theorem tsz49 : tsz Tryd.prog 49 = some 1 := by kernel_rfl
@[simp] theorem tbytes49 : tbytes Tryd.prog 49 = some 8 := by kernel_rfl
@[simp] theorem tagg49 : tagg Tryd.prog 49 = some false := by kernel_rfl
@[simp] theorem notInt49 : notInt Tryd.prog 49 = true := by kernel_rfl
@[simp] theorem tzc49 : tzc Tryd.prog 49 = some [.nilf] := by kernel_rfl
attribute [simp] Tryd.underlying49
@[simp] theorem tsz50 : tsz Tryd.prog 50 = some 1 := by kernel_rfl
@[simp] theorem tbytes50 : tbytes Tryd.prog 50 = some 8 := by kernel_rfl
@[simp] theorem tagg50 : tagg Tryd.prog 50 = some false := by kernel_rfl
@[simp] theorem notInt50 : notInt Tryd.prog 50 = true := by kernel_rfl
@[simp] theorem tzc50 : tzc Tryd.prog 50 = some [.nilf] := by kernel_rfl
attribute [simp] Tryd.underlying50
@[simp] theorem tsz51 : tsz Tryd.prog 51 = some 1 := by kernel_rfl
@[simp] theorem tbytes51 : tbytes Tryd.prog 51 = some 8 := by kernel_rfl
@[simp] theorem tagg51 : tagg Tryd.prog 51 = some false := by kernel_rfl
@[simp] theorem notInt51 : notInt Tryd.prog 51 = true := by kernel_rfl
@[simp] theorem tzc51 : tzc Tryd.prog 51 = some [.nilf] := by kernel_rfl
attribute [simp] Tryd.underlying51
@[simp] theorem tsz52 : tsz Tryd.prog 52 = some 1 := by kernel_rfl
@[simp] theorem tbytes52 : tbytes Tryd.prog 52 = some 8 := by kernel_rfl
@[simp] theorem tagg52 : tagg Tryd.prog 52 = some false := by kernel_rfl
@[simp] theorem notInt52 : notInt Tryd.prog 52 = true := by kernel_rfl
@[simp] theorem tzc52 : tzc Tryd.prog 52 = some [.nilf] := by kernel_rfl
attribute [simp] Tryd.underlying52
@[simp] theorem tsz53 : tsz Tryd.prog 53 = some 1 := by kernel_rfl
@[simp] theorem tbytes53 : tbytes Tryd.prog 53 = some 8 := by kernel_rfl
@[simp] theorem tagg53 : tagg Tryd.prog 53 = some false := by kernel_rfl
@[simp] theorem notInt53 : notInt Tryd.prog 53 = true := by kernel_rfl
@[simp] theorem tzc53 : tzc Tryd.prog 53 = some [.nilf] := by kernel_rfl
attribute [simp] Tryd.underlying53
@[simp] theorem tsz54 : tsz Tryd.prog 54 = some 1 := by kernel_rfl
@[simp] theorem tbytes54 : tbytes Tryd.prog 54 = some 8 := by kernel_rfl
@[simp] theorem tagg54 : tagg Tryd.prog 54 = some false := by kernel_rfl
@[simp] theorem notInt54 : notInt Tryd.prog 54 = true := by kernel_rfl
@[simp] theorem tzc54 : tzc Tryd.prog 54 = some [.nilf] := by kernel_rfl
attribute [simp] Tryd.underlying54
@[simp] theorem tsz55 : tsz Tryd.prog 55 = some 1 := by kernel_rfl
@[simp] theorem tbytes55 : tbytes Tryd.prog 55 = some 8 := by kernel_rfl
@[simp] theorem tagg55 : tagg Tryd.prog 55 = some false := by kernel_rfl
@[simp] theorem notInt55 : notInt Tryd.prog 55 = true := by kernel_rfl
@[simp] theorem tzc55 : tzc Tryd.prog 55 = some [.nilf] := by kernel_rfl
attribute [simp] Tryd.underlying55
@[simp] theorem tsz56 : tsz Tryd.prog 56 = some 1 := by kernel_rfl
@[simp] theorem tbytes56 : tbytes Tryd.prog 56 = some 8 := by kernel_rfl
@[simp] theorem tagg56 : tagg Tryd.prog 56 = some false := by kernel_rfl
@[simp] theorem notInt56 : notInt Tryd.prog 56 = true := by kernel_rfl
@[simp] theorem tzc56 : tzc Tryd.prog 56 = some [.nilf] := by kernel_rfl
attribute [simp] Tryd.underlying56
@[simp] theorem tsz57 : tsz Tryd.prog 57 = some 1 := by kernel_rfl
@[simp] theorem tbytes57 : tbytes Tryd.prog 57 = some 8 := by kernel_rfl
@[simp] theorem tagg57 : tagg Tryd.prog 57 = some false := by kernel_rfl
@[simp] theorem notInt57 : notInt Tryd.prog 57 = true := by kernel_rfl
@[simp] theorem tzc57 : tzc Tryd.prog 57 = some [.nilf] := by kernel_rfl
attribute [simp] Tryd.underlying57
@[simp] theorem tsz58 : tsz Tryd.prog 58 = some 3 := by kernel_rfl
@[simp] theorem tbytes58 : tbytes Tryd.prog 58 = some 24 := by kernel_rfl
@[simp] theorem tagg58 : tagg Tryd.prog 58 = some true := by kernel_rfl
@[simp] theorem notInt58 : notInt Tryd.prog 58 = true := by kernel_rfl
@[simp] theorem tzc58 : tzc Tryd.prog 58 = some [(.int .i64 (0)), (.int .i64 (0)), (.int .i64 (0))] := by kernel_rfl
attribute [simp] Tryd.underlying58
@[simp] theorem tsz59 : tsz Tryd.prog 59 = some 3 := by kernel_rfl
@[simp] theorem tbytes59 : tbytes Tryd.prog 59 = some 24 := by kernel_rfl
@[simp] theorem tagg59 : tagg Tryd.prog 59 = some true := by kernel_rfl
@[simp] theorem notInt59 : notInt Tryd.prog 59 = true := by kernel_rfl
@[simp] theorem tzc59 : tzc Tryd.prog 59 = some [(.int .i64 (0)), (.int .i64 (0)), (.int .i64 (0))] := by kernel_rfl
attribute [simp] Tryd.underlying59
@[simp] theorem tsz60 : tsz Tryd.prog 60 = some 1 := by kernel_rfl
@[simp] theorem tbytes60 : tbytes Tryd.prog 60 = some 8 := by kernel_rfl
@[simp] theorem tagg60 : tagg Tryd.prog 60 = some false := by kernel_rfl
@[simp] theorem notInt60 : notInt Tryd.prog 60 = true := by kernel_rfl
@[simp] theorem tzc60 : tzc Tryd.prog 60 = some [.nilf] := by kernel_rfl
attribute [simp] Tryd.underlying60
@[simp] theorem tsz61 : tsz Tryd.prog 61 = some 1 := by kernel_rfl
@[simp] theorem tbytes61 : tbytes Tryd.prog 61 = some 8 := by kernel_rfl
@[simp] theorem tagg61 : tagg Tryd.prog 61 = some false := by kernel_rfl
@[simp] theorem notInt61 : notInt Tryd.prog 61 = true := by kernel_rfl
@[simp] theorem tzc61 : tzc Tryd.prog 61 = some [.nilf] := by kernel_rfl
attribute [simp] Tryd.underlying61
@[simp] theorem tsz62 : tsz Tryd.prog 62 = some 1 := by kernel_rfl
@[simp] theorem tbytes62 : tbytes Tryd.prog 62 = some 8 := by kernel_rfl
@[simp] theorem tagg62 : tagg Tryd.prog 62 = some false := by kernel_rfl
@[simp] theorem notInt62 : notInt Tryd.prog 62 = true := by kernel_rfl
@[simp] theorem tzc62 : tzc Tryd.prog 62 = some [.nilf] := by kernel_rfl
attribute [simp] Tryd.underlying62
@[simp] theorem tsz63 : tsz Tryd.prog 63 = some 1 := by kernel_rfl
@[simp] theorem tbytes63 : tbytes Tryd.prog 63 = some 8 := by kernel_rfl
@[simp] theorem tagg63 : tagg Tryd.prog 63 = some false := by kernel_rfl
@[simp] theorem notInt63 : notInt Tryd.prog 63 = true := by kernel_rfl
@[simp] theorem tzc63 : tzc Tryd.prog 63 = some [.nilf] := by kernel_rfl
attribute [simp] Tryd.underlying63
@[simp] theorem tsz64 : tsz Tryd.prog 64 = some 1 := by kernel_rfl
@[simp] theorem tbytes64 : tbytes Tryd.prog 64 = some 8 := by kernel_rfl
@[simp] theorem tagg64 : tagg Tryd.prog 64 = some false := by kernel_rfl
@[simp] theorem notInt64 : notInt Tryd.prog 64 = true := by kernel_rfl
@[simp] theorem tzc64 : tzc Tryd.prog 64 = some [.nilf] := by kernel_rfl
attribute [simp] Tryd.underlying64
@[simp] theorem tsz65 : tsz Tryd.prog 65 = some 1 := by kernel_rfl
@[simp] theorem tbytes65 : tbytes Tryd.prog 65 = some 8 := by kernel_rfl
@[simp] theorem tagg65 : tagg Tryd.prog 65 = some false := by kernel_rfl
@[simp] theorem notInt65 : notInt Tryd.prog 65 = true := by kernel_rfl
@[simp] theorem tzc65 : tzc Tryd.prog 65 = some [.nilf] := by kernel_rfl
attribute [simp] Tryd.underlying65
@[simp] theorem tsz66 : tsz Tryd.prog 66 = some 1 := by kernel_rfl
@[simp] theorem tbytes66 : tbytes Tryd.prog 66 = some 8 := by kernel_rfl
@[simp] theorem tagg66 : tagg Tryd.prog 66 = some false := by kernel_rfl
@[simp] theorem notInt66 : notInt Tryd.prog 66 = true := by kernel_rfl
@[simp] theorem tzc66 : tzc Tryd.prog 66 = some [.nilf] := by kernel_rfl
attribute [simp] Tryd.underlying66
@[simp] theorem tsz67 : tsz Tryd.prog 67 = some 1 := by kernel_rfl
@[simp] theorem tbytes67 : tbytes Tryd.prog 67 = some 8 := by kernel_rfl
@[simp] theorem tagg67 : tagg Tryd.prog 67 = some false := by kernel_rfl
@[simp] theorem notInt67 : notInt Tryd.prog 67 = true := by kernel_rfl
@[simp] theorem tzc67 : tzc Tryd.prog 67 = some [.nilf] := by kernel_rfl
attribute [simp] Tryd.underlying67
@[simp] theorem tsz68 : tsz Tryd.prog 68 = some 1 := by kernel_rfl
@[simp] theorem tbytes68 : tbytes Tryd.prog 68 = some 8 := by kernel_rfl
@[simp] theorem tagg68 : tagg Tryd.prog 68 = some false := by kernel_rfl
@[simp] theorem notInt68 : notInt Tryd.prog 68 = true := by kernel_rfl
@[simp] theorem tzc68 : tzc Tryd.prog 68 = some [.nilf] := by kernel_rfl
attribute [simp] Tryd.underlying68
@[simp] theorem tsz69 : tsz Tryd.prog 69 = some 1 := by kernel_rfl
@[simp] theorem tbytes69 : tbytes Tryd.prog 69 = some 8 := by kernel_rfl
@[simp] theorem tagg69 : tagg Tryd.prog 69 = some false := by kernel_rfl
@[simp] theorem notInt69 : notInt Tryd.prog 69 = true := by kernel_rfl
@[simp] theorem tzc69 : tzc Tryd.prog 69 = some [.nilf] := by kernel_rfl
attribute [simp] Tryd.underlying69
@[simp] theorem tsz70 : tsz Tryd.prog 70 = some 1 := by kernel_rfl
@[simp] theorem tbytes70 : tbytes Tryd.prog 70 = some 8 := by kernel_rfl
@[simp] theorem tagg70 : tagg Tryd.prog 70 = some false := by kernel_rfl
@[simp] theorem notInt70 : notInt Tryd.prog 70 = true := by kernel_rfl
@[simp] theorem tzc70 : tzc Tryd.prog 70 = some [.nilf] := by kernel_rfl
attribute [simp] Tryd.underlying70
@[simp] theorem tsz71 : tsz Tryd.prog 71 = some 1 := by kernel_rfl
@[simp] theorem tbytes71 : tbytes Tryd.prog 71 = some 8 := by kernel_rfl
@[simp] theorem tagg71 : tagg Tryd.prog 71 = some false := by kernel_rfl
@[simp] theorem notInt71 : notInt Tryd.prog 71 = true := by kernel_rfl
@[simp] theorem tzc71 : tzc Tryd.prog 71 = some [.nilm] := by kernel_rfl
attribute [simp] Tryd.underlying71
@[simp] theorem tsz72 : tsz Tryd.prog 72 = some 1 := by kernel_rfl
@[simp] theorem tbytes72 : tbytes Tryd.prog 72 = some 8 := by kernel_rfl
@[simp] theorem tagg72 : tagg Tryd.prog 72 = some false := by kernel_rfl
@[simp] theorem notInt72 : notInt Tryd.prog 72 = true := by kernel_rfl
@[simp] theorem tzc72 : tzc Tryd.prog 72 = some [.nilf] := by kernel_rfl
attribute [simp] Tryd.underlying72
@[simp] theorem tsz73 : tsz Tryd.prog 73 = some 2 := by kernel_rfl
@[simp] theorem tbytes73 : tbytes Tryd.prog 73 = some 16 := by kernel_rfl
@[simp] theorem tagg73 : tagg Tryd.prog 73 = some true := by kernel_rfl
@[simp] theorem notInt73 : notInt Tryd.prog 73 = true := by kernel_rfl
@[simp] theorem tzc73 : tzc Tryd.prog 73 = some [(.int .i64 (0)), (.int .i64 (0))] := by kernel_rfl
attribute [simp] Tryd.underlying73
@[simp] theorem tsz74 : tsz Tryd.prog 74 = some 2 := by kernel_rfl
@[simp] theorem tbytes74 : tbytes Tryd.prog 74 = some 16 := by kernel_rfl
@[simp] theorem tagg74 : tagg Tryd.prog 74 = some true := by kernel_rfl
@[simp] theorem notInt74 : notInt Tryd.prog 74 = true := by kernel_rfl
@[simp] theorem tzc74 : tzc Tryd.prog 74 = some [(.int .i64 (0)), (.int .i64 (0))] := by kernel_rfl
attribute [simp] Tryd.underlying74
@[simp] theorem tsz75 : tsz Tryd.prog 75 = some 1 := by kernel_rfl
@[simp] theorem tbytes75 : tbytes Tryd.prog 75 = some 8 := by kernel_rfl
@[simp] theorem tagg75 : tagg Tryd.prog 75 = some false := by kernel_rfl
@[simp] theorem notInt75 : notInt Tryd.prog 75 = false := by kernel_rfl
@[simp] theorem tzc75 : tzc Tryd.prog 75 = some [(.int .u64 (0))] := by kernel_rfl
attribute [simp] Tryd.underlying75
@[simp] theorem tsz76 : tsz Tryd.prog 76 = some 1 := by kernel_rfl
@[simp] theorem tbytes76 : tbytes Tryd.prog 76 = some 8 := by kernel_rfl
@[simp] theorem tagg76 : tagg Tryd.prog 76 = some false := by kernel_rfl
@[simp] theorem notInt76 : notInt Tryd.prog 76 = true := by kernel_rfl
@[simp] theorem tzc76 : tzc Tryd.prog 76 = some [.nilf] := by kernel_rfl
attribute [simp] Tryd.underlying76
@[simp] theorem tsz77 : tsz Tryd.prog 77 = some 1 := by kernel_rfl
@[simp] theorem tbytes77 : tbytes Tryd.prog 77 = some 8 := by kernel_rfl
@[simp] theorem tagg77 : tagg Tryd.prog 77 = some false := by kernel_rfl
@[simp] theorem notInt77 : notInt Tryd.prog 77 = true := by kernel_rfl
@[simp] theorem tzc77 : tzc Tryd.prog 77 = some [.nilf] := by kernel_rfl
attribute [simp] Tryd.underlying77
@[simp] theorem tsz78 : tsz Tryd.prog 78 = some 1 := by kernel_rfl
@[simp] theorem tbytes78 : tbytes Tryd.prog 78 = some 8 := by kernel_rfl
@[simp] theorem tagg78 : tagg Tryd.prog 78 = some false := by kernel_rfl
@[simp] theorem notInt78 : notInt Tryd.prog 78 = true := by kernel_rfl
@[simp] theorem tzc78 : tzc Tryd.prog 78 = some [.nilf] := by kernel_rfl
attribute [simp] Tryd.underlying78
@[simp] theorem tsz79 : tsz Tryd.prog 79 = some 1 := by kernel_rfl
@[simp] theorem tbytes79 : tbytes Tryd.prog 79 = some 8 := by kernel_rfl
@[simp] theorem tagg79 : tagg Tryd.prog 79 = some false := by kernel_rfl
@[simp] theorem notInt79 : notInt Tryd.prog 79 = true := by kernel_rfl
@[simp] theorem tzc79 : tzc Tryd.prog 79 = some [.nilf] := by kernel_rfl
attribute [simp] Tryd.underlying79
@[simp] theorem tsz80 : tsz Tryd.prog 80 = some 1 := by kernel_rfl
@[simp] theorem tbytes80 : tbytes Tryd.prog 80 = some 8 := by kernel_rfl
@[simp] theorem tagg80 : tagg Tryd.prog 80 = some false := by kernel_rfl
@[simp] theorem notInt80 : notInt Tryd.prog 80 = true := by kernel_rfl
@[simp] theorem tzc80 : tzc Tryd.prog 80 = some [.nilf] := by kernel_rfl
attribute [simp] Tryd.underlying80
@[simp] theorem tsz81 : tsz Tryd.prog 81 = some 1 := by kernel_rfl
@[simp] theorem tbytes81 : tbytes Tryd.prog 81 = some 8 := by kernel_rfl
@[simp] theorem tagg81 : tagg Tryd.prog 81 = some false := by kernel_rfl
@[simp] theorem notInt81 : notInt Tryd.prog 81 = true := by kernel_rfl
@[simp] theorem tzc81 : tzc Tryd.prog 81 = some [.nilf] := by kernel_rfl
attribute [simp] Tryd.underlying81
@[simp] theorem tsz82 : tsz Tryd.prog 82 = some 1 := by kernel_rfl
@[simp] theorem tbytes82 : tbytes Tryd.prog 82 = some 8 := by kernel_rfl
@[simp] theorem tagg82 : tagg Tryd.prog 82 = some false := by kernel_rfl
@[simp] theorem notInt82 : notInt Tryd.prog 82 = true := by kernel_rfl
@[simp] theorem tzc82 : tzc Tryd.prog 82 = some [.nilp] := by kernel_rfl
attribute [simp] Tryd.underlying82
@[simp] theorem tsz83 : tsz Tryd.prog 83 = some 1 := by kernel_rfl
@[simp] theorem tbytes83 : tbytes Tryd.prog 83 = some 24 := by kernel_rfl
@[simp] theorem tagg83 : tagg Tryd.prog 83 = some true := by kernel_rfl
@[simp] theorem notInt83 : notInt Tryd.prog 83 = true := by kernel_rfl
@[simp] theorem tzc83 : tzc Tryd.prog 83 = some [.nils] := by kernel_rfl
attribute [simp] Tryd.underlying83
@[simp] theorem tsz84 : tsz Tryd.prog 84 = some 1 := by kernel_rfl
@[simp] theorem tbytes84 : tbytes Tryd.prog 84 = some 24 := by kernel_rfl
@[simp] theorem tagg84 : tagg Tryd.prog 84 = some true := by kernel_rfl
@[simp] theorem notInt84 : notInt Tryd.prog 84 = true := by kernel_rfl
@[simp] theorem tzc84 : tzc Tryd.prog 84 = some [.nils] := by kernel_rfl
attribute [simp] Tryd.underlying84
@[simp] theorem tsz85 : tsz Tryd.prog 85 = some 1 := by kernel_rfl
@[simp] theorem tbytes85 : tbytes Tryd.prog 85 = some 8 := by kernel_rfl
@[simp] theorem tagg85 : tagg Tryd.prog 85 = some false := by kernel_rfl
@[simp] theorem notInt85 : notInt Tryd.prog 85 = true := by kernel_rfl
@[simp] theorem tzc85 : tzc Tryd.prog 85 = some [.nilf] := by kernel_rfl
attribute [simp] Tryd.underlying85
@[simp] theorem tsz86 : tsz Tryd.prog 86 = some 1 := by kernel_rfl
@[simp] theorem tbytes86 : tbytes Tryd.prog 86 = some 8 := by kernel_rfl
@[simp] theorem tagg86 : tagg Tryd.prog 86 = some false := by kernel_rfl
@[simp] theorem notInt86 : notInt Tryd.prog 86 = true := by kernel_rfl
@[simp] theorem tzc86 : tzc Tryd.prog 86 = some [.nilf] := by kernel_rfl
attribute [simp] Tryd.underlying86
@[simp] theorem tsz87 : tsz Tryd.prog 87 = some 1 := by kernel_rfl
@[simp] theorem tbytes87 : tbytes Tryd.prog 87 = some 8 := by kernel_rfl
@[simp] theorem tagg87 : tagg Tryd.prog 87 = some false := by kernel_rfl
@[simp] theorem notInt87 : notInt Tryd.prog 87 = true := by kernel_rfl
@[simp] theorem tzc87 : tzc Tryd.prog 87 = some [.nilf] := by kernel_rfl
attribute [simp] Tryd.underlying87
@[simp] theorem tsz88 : tsz Tryd.prog 88 = some 1 := by kernel_rfl
@[simp] theorem tbytes88 : tbytes Tryd.prog 88 = some 8 := by kernel_rfl
@[simp] theorem tagg88 : tagg Tryd.prog 88 = some false := by kernel_rfl
@[simp] theorem notInt88 : notInt Tryd.prog 88 = true := by kernel_rfl
@[simp] theorem tzc88 : tzc Tryd.prog 88 = some [.nilf] := by kernel_rfl
attribute [simp] Tryd.underlying88
@[simp] theorem tsz89 : tsz Tryd.prog 89 = some 1 := by kernel_rfl
@[simp] theorem tbytes89 : tbytes Tryd.prog 89 = some 8 := by kernel_rfl
@[simp] theorem tagg89 : tagg Tryd.prog 89 = some false := by kernel_rfl
@[simp] theorem notInt89 : notInt Tryd.prog 89 = true := by kernel_rfl
@[simp] theorem tzc89 : tzc Tryd.prog 89 = some [.nilf] := by kernel_rfl
attribute [simp] Tryd.underlying89
@[simp] theorem tsz90 : tsz Tryd.prog 90 = some 1 := by kernel_rfl
@[simp] theorem tbytes90 : tbytes Tryd.prog 90 = some 8 := by kernel_rfl
@[simp] theorem tagg90 : tagg Tryd.prog 90 = some false := by kernel_rfl
@[simp] theorem notInt90 : notInt Tryd.prog 90 = true := by kernel_rfl
@[simp] theorem tzc90 : tzc Tryd.prog 90 = some [.nilf] := by kernel_rfl
attribute [simp] Tryd.underlying90
@[simp] theorem tsz91 : tsz Tryd.prog 91 = some 1 := by kernel_rfl
@[simp] theorem tbytes91 : tbytes Tryd.prog 91 = some 8 := by kernel_rfl
@[simp] theorem tagg91 : tagg Tryd.prog 91 = some false := by kernel_rfl
@[simp] theorem notInt91 : notInt Tryd.prog 91 = true := by kernel_rfl
@[simp] theorem tzc91 : tzc Tryd.prog 91 = some [.nilf] := by kernel_rfl
attribute [simp] Tryd.underlying91
@[simp] theorem tsz92 : tsz Tryd.prog 92 = some 1 := by kernel_rfl
@[simp] theorem tbytes92 : tbytes Tryd.prog 92 = some 8 := by kernel_rfl
@[simp] theorem tagg92 : tagg Tryd.prog 92 = some false := by kernel_rfl
@[simp] theorem notInt92 : notInt Tryd.prog 92 = true := by kernel_rfl
@[simp] theorem tzc92 : tzc Tryd.prog 92 = some [.nilf] := by kernel_rfl
attribute [simp] Tryd.underlying92
@[simp] theorem tsz93 : tsz Tryd.prog 93 = some 1 := by kernel_rfl
@[simp] theorem tbytes93 : tbytes Tryd.prog 93 = some 8 := by kernel_rfl
@[simp] theorem tagg93 : tagg Tryd.prog 93 = some false := by kernel_rfl
@[simp] theorem notInt93 : notInt Tryd.prog 93 = true := by kernel_rfl
@[simp] theorem tzc93 : tzc Tryd.prog 93 = some [.nilf] := by kernel_rfl
attribute [simp] Tryd.underlying93
@[simp] theorem tsz94 : tsz Tryd.prog 94 = some 1 := by kernel_rfl
@[simp] theorem tbytes94 : tbytes Tryd.prog 94 = some 8 := by kernel_rfl
@[simp] theorem tagg94 : tagg Tryd.prog 94 = some false := by kernel_rfl
@[simp] theorem notInt94 : notInt Tryd.prog 94 = true := by kernel_rfl
@[simp] theorem tzc94 : tzc Tryd.prog 94 = some [.nilf] := by kernel_rfl
attribute [simp] Tryd.underlying94
@[simp] theorem tsz95 : tsz Tryd.prog 95 = some 1 := by kernel_rfl
@[simp] theorem tbytes95 : tbytes Tryd.prog 95 = some 8 := by kernel_rfl
@[simp] theorem tagg95 : tagg Tryd.prog 95 = some false := by kernel_rfl
@[simp] theorem notInt95 : notInt Tryd.prog 95 = true := by kernel_rfl
@[simp] theorem tzc95 : tzc Tryd.prog 95 = some [.nilf] := by kernel_rfl
attribute [simp] Tryd.underlying95
@[simp] theorem tsz96 : tsz Tryd.prog 96 = some 1 := by kernel_rfl
@[simp] theorem tbytes96 : tbytes Tryd.prog 96 = some 8 := by kernel_rfl
@[simp] theorem tagg96 : tagg Tryd.prog 96 = some false := by kernel_rfl
@[simp] theorem notInt96 : notInt Tryd.prog 96 = true := by kernel_rfl
@[simp] theorem tzc96 : tzc Tryd.prog 96 = some [.nilf] := by kernel_rfl
attribute [simp] Tryd.underlying96
@[simp] theorem tsz97 : tsz Tryd.prog 97 = some 1 := by kernel_rfl
@[simp] theorem tbytes97 : tbytes Tryd.prog 97 = some 8 := by kernel_rfl
@[simp] theorem tagg97 : tagg Tryd.prog 97 = some false := by kernel_rfl
@[simp] theorem notInt97 : notInt Tryd.prog 97 = true := by kernel_rfl
@[simp] theorem tzc97 : tzc Tryd.prog 97 = some [.nilf] := by kernel_rfl
attribute [simp] Tryd.underlying97
@[simp] theorem tsz98 : tsz Tryd.prog 98 = some 1 := by kernel_rfl
@[simp] theorem tbytes98 : tbytes Tryd.prog 98 = some 8 := by kernel_rfl
@[simp] theorem tagg98 : tagg Tryd.prog 98 = some false := by kernel_rfl
@[simp] theorem notInt98 : notInt Tryd.prog 98 = true := by kernel_rfl
@[simp] theorem tzc98 : tzc Tryd.prog 98 = some [.nilf] := by kernel_rfl
attribute [simp] Tryd.underlying98
@[simp] theorem tsz99 : tsz Tryd.prog 99 = some 1 := by kernel_rfl
@[simp] theorem tbytes99 : tbytes Tryd.prog 99 = some 8 := by kernel_rfl
@[simp] theorem tagg99 : tagg Tryd.prog 99 = some false := by kernel_rfl
@[simp] theorem notInt99 : notInt Tryd.prog 99 = true := by kernel_rfl
@[simp] theorem tzc99 : tzc Tryd.prog 99 = some [.nilf] := by kernel_rfl
attribute [simp] Tryd.underlying99
@[simp] theorem tsz100 : tsz Tryd.prog 100 = some 1 := by kernel_rfl
@[simp] theorem tbytes100 : tbytes Tryd.prog 100 = some 8 := by kernel_rfl
@[simp] theorem tagg100 : tagg Tryd.prog 100 = some false := by kernel_rfl
@[simp] theorem notInt100 : notInt Tryd.prog 100 = true := by kernel_rfl
@[simp] theorem tzc100 : tzc Tryd.prog 100 = some [.nilf] := by kernel_rfl
attribute [simp] Tryd.underlying100
@[simp] theorem tsz101 : tsz Tryd.prog 101 = some 1 := by kernel_rfl
@[simp] theorem tbytes101 : tbytes Tryd.prog 101 = some 8 := by kernel_rfl
@[simp] theorem tagg101 : tagg Tryd.prog 101 = some false := by kernel_rfl
@[simp] theorem notInt101 : notInt Tryd.prog 101 = true := by kernel_rfl
@[simp] theorem tzc101 : tzc Tryd.prog 101 = some [.nilf] := by kernel_rfl
attribute [simp] Tryd.underlying101
@[simp] theorem tsz102 : tsz Tryd.prog 102 = some 1 := by kernel_rfl
@[simp] theorem tbytes102 : tbytes Tryd.prog 102 = some 8 := by kernel_rfl
@[simp] theorem tagg102 : tagg Tryd.prog 102 = some false := by kernel_rfl
@[simp] theorem notInt102 : notInt Tryd.prog 102 = false := by kernel_rfl
@[simp] theorem tzc102 : tzc Tryd.prog 102 = some [(.int .u64 (0))] := by kernel_rfl
attribute [simp] Tryd.underlying102
@[simp] theorem tsz103 : tsz Tryd.prog 103 = some 1 := by kernel_rfl
@[simp] theorem tbytes103 : tbytes Tryd.prog 103 = some 8 := by kernel_rfl
@[simp] theorem tagg103 : tagg Tryd.prog 103 = some false := by kernel_rfl
@[simp] theorem notInt103 : notInt Tryd.prog 103 = true := by kernel_rfl
@[simp] theorem tzc103 : tzc Tryd.prog 103 = some [.nilf] := by kernel_rfl
attribute [simp] Tryd.underlying103
@[simp] theorem tsz104 : tsz Tryd.prog 104 = some 1 := by kernel_rfl
@[simp] theorem tbytes104 : tbytes Tryd.prog 104 = some 8 := by kernel_rfl
@[simp] theorem tagg104 : tagg Tryd.prog 104 = some false := by kernel_rfl
@[simp] theorem notInt104 : notInt Tryd.prog 104 = true := by kernel_rfl
@[simp] theorem tzc104 : tzc Tryd.prog 104 = some [.nilf] := by kernel_rfl
attribute [simp] Tryd.underlying104
@[simp] theorem tsz105 : tsz Tryd.prog 105 = some 1 := by kernel_rfl
@[simp] theorem tbytes105 : tbytes Tryd.prog 105 = some 8 := by kernel_rfl
@[simp] theorem tagg105 : tagg Tryd.prog 105 = some false := by kernel_rfl
@[simp] theorem notInt105 : notInt Tryd.prog 105 = true := by kernel_rfl
@[simp] theorem tzc105 : tzc Tryd.prog 105 = some [.nilf] := by kernel_rfl
attribute [simp] Tryd.underlying105
@[simp] theorem tsz106 : tsz Tryd.prog 106 = some 1 := by kernel_rfl
@[simp] theorem tbytes106 : tbytes Tryd.prog 106 = some 8 := by kernel_rfl
@[simp] theorem tagg106 : tagg Tryd.prog 106 = some false := by kernel_rfl
@[simp] theorem notInt106 : notInt Tryd.prog 106 = true := by kernel_rfl
@[simp] theorem tzc106 : tzc Tryd.prog 106 = some [.nilf] := by kernel_rfl
attribute [simp] Tryd.underlying106
@[simp] theorem tsz107 : tsz Tryd.prog 107 = some 1 := by kernel_rfl
@[simp] theorem tbytes107 : tbytes Tryd.prog 107 = some 8 := by kernel_rfl
@[simp] theorem tagg107 : tagg Tryd.prog 107 = some false := by kernel_rfl
@[simp] theorem notInt107 : notInt Tryd.prog 107 = true := by kernel_rfl
@[simp] theorem tzc107 : tzc Tryd.prog 107 = some [.nilf] := by kernel_rfl
attribute [simp] Tryd.underlying107
@[simp] theorem tsz108 : tsz Tryd.prog 108 = some 1 := by kernel_rfl
@[simp] theorem tbytes108 : tbytes Tryd.prog 108 = some 4 := by kernel_rfl
@[simp] theorem tagg108 : tagg Tryd.prog 108 = some false := by kernel_rfl
@[simp] theorem notInt108 : notInt Tryd.prog 108 = false := by kernel_rfl
@[simp] theorem tzc108 : tzc Tryd.prog 108 = some [(.int .u32 (0))] := by kernel_rfl
attribute [simp] Tryd.underlying108
@[simp] theorem tsz109 : tsz Tryd.prog 109 = some 1 := by kernel_rfl
@[simp] theorem tbytes109 : tbytes Tryd.prog 109 = some 0 := by kernel_rfl
@[simp] theorem tagg109 : tagg Tryd.prog 109 = some false := by kernel_rfl
@[simp] theorem notInt109 : notInt Tryd.prog 109 = true := by kernel_rfl
@[simp] theorem tzc109 : tzc Tryd.prog 109 = none := by kernel_rfl
attribute [simp] Tryd.underlying109
@[simp] theorem tsz110 : tsz Tryd.prog 110 = some 1 := by kernel_rfl
@[simp] theorem tbytes110 : tbytes Tryd.prog 110 = some 8 := by kernel_rfl
@[simp] theorem tagg110 : tagg Tryd.prog 110 = some false := by kernel_rfl
@[simp] theorem notInt110 : notInt Tryd.prog 110 = true := by kernel_rfl
@[simp] theorem tzc110 : tzc Tryd.prog 110 = some [.nilf] := by kernel_rfl
attribute [simp] Tryd.underlying110
@[simp] theorem tsz111 : tsz Tryd.prog 111 = some 1 := by kernel_rfl
@[simp] theorem tbytes111 : tbytes Tryd.prog 111 = some 8 := by kernel_rfl
@[simp] theorem tagg111 : tagg Tryd.prog 111 = some false := by kernel_rfl
@[simp] theorem notInt111 : notInt Tryd.prog 111 = true := by kernel_rfl
@[simp] theorem tzc111 : tzc Tryd.prog 111 = some [.nilf] := by kernel_rfl
attribute [simp] Tryd.underlying111
@[simp] theorem tsz112 : tsz Tryd.prog 112 = some 1 := by kernel_rfl
@[simp] theorem tbytes112 : tbytes Tryd.prog 112 = some 8 := by kernel_rfl
@[simp] theorem tagg112 : tagg Tryd.prog 112 = some false := by kernel_rfl
@[simp] theorem notInt112 : notInt Tryd.prog 112 = true := by kernel_rfl
@[simp] theorem tzc112 : tzc Tryd.prog 112 = some [.nilf] := by kernel_rfl
attribute [simp] Tryd.underlying112
@[simp] theorem tsz113 : tsz Tryd.prog 113 = some 1 := by kernel_rfl
@[simp] theorem tbytes113 : tbytes Tryd.prog 113 = some 0 := by kernel_rfl
@[simp] theorem tagg113 : tagg Tryd.prog 113 = some false := by kernel_rfl
@[simp] theorem notInt113 : notInt Tryd.prog 113 = true := by kernel_rfl
@[simp] theorem tzc113 : tzc Tryd.prog 113 = none := by kernel_rfl
attribute [simp] Tryd.underlying113
@[simp] theorem tsz114 : tsz Tryd.prog 114 = some 1 := by kernel_rfl
@[simp] theorem tbytes114 : tbytes Tryd.prog 114 = some 8 := by kernel_rfl
@[simp] theorem tagg114 : tagg Tryd.prog 114 = some false := by kernel_rfl
@[simp] theorem notInt114 : notInt Tryd.prog 114 = true := by kernel_rfl
@[simp] theorem tzc114 : tzc Tryd.prog 114 = some [.nilf] := by kernel_rfl
attribute [simp] Tryd.underlying114
@[simp] theorem tsz115 : tsz Tryd.prog 115 = some 24 := by kernel_rfl
@[simp] theorem tbytes115 : tbytes Tryd.prog 115 = some 24 := by kernel_rfl
@[simp] theorem tagg115 : tagg Tryd.prog 115 = some true := by kernel_rfl
@[simp] theorem notInt115 : notInt Tryd.prog 115 = true := by kernel_rfl
@[simp] theorem tzc115 : tzc Tryd.prog 115 = some (flatE (intE .u8) (zeroI 24)) := by kernel_rfl
attribute [simp] Tryd.underlying115
@[simp] theorem tsz116 : tsz Tryd.prog 116 = some 1 := by kernel_rfl
@[simp] theorem tbytes116 : tbytes Tryd.prog 116 = some 8 := by kernel_rfl
@[simp] theorem tagg116 : tagg Tryd.prog 116 = some false := by kernel_rfl
@[simp] theorem notInt116 : notInt Tryd.prog 116 = true := by kernel_rfl
@[simp] theorem tzc116 : tzc Tryd.prog 116 = some [.nilf] := by kernel_rfl
attribute [simp] Tryd.underlying116
@[simp] theorem tsz117 : tsz Tryd.prog 117 = some 1 := by kernel_rfl
@[simp] theorem tbytes117 : tbytes Tryd.prog 117 = some 8 := by kernel_rfl
@[simp] theorem tagg117 : tagg Tryd.prog 117 = some false := by kernel_rfl
@[simp] theorem notInt117 : notInt Tryd.prog 117 = true := by kernel_rfl
@[simp] theorem tzc117 : tzc Tryd.prog 117 = some [.nilf] := by kernel_rfl
attribute [simp] Tryd.underlying117
@[simp] theorem tsz118 : tsz Tryd.prog 118 = some 1 := by kernel_rfl
@[simp] theorem tbytes118 : tbytes Tryd.prog 118 = some 0 := by kernel_rfl
@[simp] theorem tagg118 : tagg Tryd.prog 118 = some false := by kernel_rfl
@[simp] theorem notInt118 : notInt Tryd.prog 118 = true := by kernel_rfl
@[simp] theorem tzc118 : tzc Tryd.prog 118 = none := by kernel_rfl
attribute [simp] Tryd.underlying118
@[simp] theorem tsz119 : tsz Tryd.prog 119 = some 1 := by kernel_rfl
@[simp] theorem tbytes119 : tbytes Tryd.prog 119 = some 8 := by kernel_rfl
@[simp] theorem tagg119 : tagg Tryd.prog 119 = some false := by kernel_rfl
@[simp] theorem notInt119 : notInt Tryd.prog 119 = true := by kernel_rfl
@[simp] theorem tzc119 : tzc Tryd.prog 119 = some [.nilf] := by kernel_rfl
attribute [simp] Tryd.underlying119
@[simp] theorem tsz120 : tsz Tryd.prog 120 = some 1 := by kernel_rfl
@[simp] theorem tbytes120 : tbytes Tryd.prog 120 = some 8 := by kernel_rfl
@[simp] theorem tagg120 : tagg Tryd.prog 120 = some false := by kernel_rfl
@[simp] theorem notInt120 : notInt Tryd.prog 120 = true := by kernel_rfl
@[simp] theorem tzc120 : tzc Tryd.prog 120 = some [.nilf] := by kernel_rfl
attribute [simp] Tryd.underlying120
@[simp] theorem tsz121 : tsz Tryd.prog 121 = some 1 := by kernel_rfl
@[simp] theorem tbytes121 : tbytes Tryd.prog 121 = some 8 := by kernel_rfl
@[simp] theorem tagg121 : tagg Tryd.prog 121 = some false := by kernel_rfl
@[simp] theorem notInt121 : notInt Tryd.prog 121 = true := by kernel_rfl
@[simp] theorem tzc121 : tzc Tryd.prog 121 = some [.nilf] := by kernel_rfl
attribute [simp] Tryd.underlying121
@[simp] theorem tsz122 : tsz Tryd.prog 122 = some 1 := by kernel_rfl
@[simp] theorem tbytes122 : tbytes Tryd.prog 122 = some 8 := by kernel_rfl
@[simp] theorem tagg122 : tagg Tryd.prog 122 = some false := by kernel_rfl
@[simp] theorem notInt122 : notInt Tryd.prog 122 = true := by kernel_rfl
@[simp] theorem tzc122 : tzc Tryd.prog 122 = some [.nilf] := by kernel_rfl
attribute [simp] Tryd.underlying122
@[simp] theorem tsz123 : tsz Tryd.prog 123 = some 20 := by kernel_rfl
@[simp] theorem tbytes123 : tbytes Tryd.prog 123 = some 160 := by kernel_rfl
@[simp] theorem tagg123 : tagg Tryd.prog 123 = some true := by kernel_rfl
@[simp] theorem notInt123 : notInt Tryd.prog 123 = true := by kernel_rfl
@[simp] theorem tzc123 : tzc Tryd.prog 123 = some (flatE (intE .u64) (zeroI 20)) := by kernel_rfl
attribute [simp] Tryd.underlying123
@[simp] theorem tsz124 : tsz Tryd.prog 124 = some 65 := by kernel_rfl
@[simp] theorem tbytes124 : tbytes Tryd.prog 124 = some 65 := by kernel_rfl
@[simp] theorem tagg124 : tagg Tryd.prog 124 = some true := by kernel_rfl
@[simp] theorem notInt124 : notInt Tryd.prog 124 = true := by kernel_rfl
@[simp] theorem tzc124 : tzc Tryd.prog 124 = some (flatE (intE .u8) (zeroI 65)) := by kernel_rfl
attribute [simp] Tryd.underlying124
@[simp] theorem tsz125 : tsz Tryd.prog 125 = some 1 := by kernel_rfl
@[simp] theorem tbytes125 : tbytes Tryd.prog 125 = some 8 := by kernel_rfl
@[simp] theorem tagg125 : tagg Tryd.prog 125 = some false := by kernel_rfl
@[simp] theorem notInt125 : notInt Tryd.prog 125 = true := by kernel_rfl
@[simp] theorem tzc125 : tzc Tryd.prog 125 = some [.nilf] := by kernel_rfl
attribute [simp] Tryd.underlying125
@[simp] theorem tsz126 : tsz Tryd.prog 126 = some 1 := by kernel_rfl
@[simp] theorem tbytes126 : tbytes Tryd.prog 126 = some 8 := by kernel_rfl
@[simp] theorem tagg126 : tagg Tryd.prog 126 = some false := by kernel_rfl
@[simp] theorem notInt126 : notInt Tryd.prog 126 = true := by kernel_rfl
@[simp] theorem tzc126 : tzc Tryd.prog 126 = some [.nilf] := by kernel_rfl
attribute [simp] Tryd.underlying126
@[simp] theorem tsz127 : tsz Tryd.prog 127 = some 256 := by kernel_rfl
@[simp] theorem tbytes127 : tbytes Tryd.prog 127 = some 256 := by kernel_rfl
@[simp] theorem tagg127 : tagg Tryd.prog 127 = some true := by kernel_rfl
@[simp] theorem notInt127 : notInt Tryd.prog 127 = true := by kernel_rfl
@[simp] theorem tzc127 : tzc Tryd.prog 127 = some (flatE (intE .u8) (zeroI 256)) := by kernel_rfl
attribute [simp] Tryd.underlying127
@[simp] theorem tsz128 : tsz Tryd.prog 128 = some 2 := by kernel_rfl
@[simp] theorem tbytes128 : tbytes Tryd.prog 128 = some 2 := by kernel_rfl
@[simp] theorem tagg128 : tagg Tryd.prog 128 = some true := by kernel_rfl
@[simp] theorem notInt128 : notInt Tryd.prog 128 = true := by kernel_rfl
@[simp] theorem tzc128 : tzc Tryd.prog 128 = some [(.int .u8 (0)), (.int .u8 (0))] := by kernel_rfl
attribute [simp] Tryd.underlying128
@[simp] theorem tsz129 : tsz Tryd.prog 129 = some 2 := by kernel_rfl
@[simp] theorem tbytes129 : tbytes Tryd.prog 129 = some 2 := by kernel_rfl
@[simp] theorem tagg129 : tagg Tryd.prog 129 = some true := by kernel_rfl
@[simp] theorem notInt129 : notInt Tryd.prog 129 = true := by kernel_rfl
@[simp] theorem tzc129 : tzc Tryd.prog 129 = some [(.int .u8 (0)), (.int .u8 (0))] := by kernel_rfl
attribute [simp] Tryd.underlying129
@[simp] theorem tsz130 : tsz Tryd.prog 130 = some 32 := by kernel_rfl
@[simp] theorem tbytes130 : tbytes Tryd.prog 130 = some 32 := by kernel_rfl
@[simp] theorem tagg130 : tagg Tryd.prog 130 = some true := by kernel_rfl
@[simp] theorem notInt130 : notInt Tryd.prog 130 = true := by kernel_rfl
@[simp] theorem tzc130 : tzc Tryd.prog 130 = some (flatE (intE .u8) (zeroI 32)) := by kernel_rfl
attribute [simp] Tryd.underlying130
@[simp] theorem tsz131 : tsz Tryd.prog 131 = some 1 := by kernel_rfl
@[simp] theorem tbytes131 : tbytes Tryd.prog 131 = some 8 := by kernel_rfl
@[simp] theorem tagg131 : tagg Tryd.prog 131 = some false := by kernel_rfl
@[simp] theorem notInt131 : notInt Tryd.prog 131 = true := by kernel_rfl
@[simp] theorem tzc131 : tzc Tryd.prog 131 = some [.nilf] := by kernel_rfl
attribute [simp] Tryd.underlying131
@[simp] theorem tsz132 : tsz Tryd.prog 132 = some 32 := by kernel_rfl
@[simp] theorem tbytes132 : tbytes Tryd.prog 132 = some 32 := by kernel_rfl
@[simp] theorem tagg132 : tagg Tryd.prog 132 = some true := by kernel_rfl
@[simp] theorem notInt132 : notInt Tryd.prog 132 = true := by kernel_rfl
@[simp] theorem tzc132 : tzc Tryd.prog 132 = some (flatE (intE .u8) (zeroI 32)) := by kernel_rfl
attribute [simp] Tryd.underlying132
@[simp] theorem tsz133 : tsz Tryd.prog 133 = some 64 := by kernel_rfl
@[simp] theorem tbytes133 : tbytes Tryd.prog 133 = some 64 := by kernel_rfl
@[simp] theorem tagg133 : tagg Tryd.prog 133 = some true := by kernel_rfl
@[simp] theorem notInt133 : notInt Tryd.prog 133 = true := by kernel_rfl
@[simp] theorem tzc133 : tzc Tryd.prog 133 = some (flatE (intE .u8) (zeroI 64)) := by kernel_rfl
attribute [simp] Tryd.underlying133
@[simp] theorem tsz134 : tsz Tryd.prog 134 = some 1 := by kernel_rfl
@[simp] theorem tbytes134 : tbytes Tryd.prog 134 = some 8 := by kernel_rfl
@[simp] theorem tagg134 : tagg Tryd.prog 134 = some false := by kernel_rfl
@[simp] theorem notInt134 : notInt Tryd.prog 134 = true := by kernel_rfl
@[simp] theorem tzc134 : tzc Tryd.prog 134 = some [.nilf] := by kernel_rfl
attribute [simp] Tryd.underlying134
@[simp] theorem tsz135 : tsz Tryd.prog 135 = some 4 := by kernel_rfl
@[simp] theorem tbytes135 : tbytes Tryd.prog 135 = some 40 := by kernel_rfl
@[simp] theorem tagg135 : tagg Tryd.prog 135 = some true := by kernel_rfl
@[simp] theorem notInt135 : notInt Tryd.prog 135 = true := by kernel_rfl
@[simp] theorem tzc135 : tzc Tryd.prog 135 = some [.nilp, .nilp, .nilp, (.str ⟨#[]⟩)] := by kernel_rfl
attribute [simp] Tryd.underlying135
@[simp] theorem tsz136 : tsz Tryd.prog 136 = some 4 := by kernel_rfl
@[simp] theorem tbytes136 : tbytes Tryd.prog 136 = some 40 := by kernel_rfl
@[simp] theorem tagg136 : tagg Tryd.prog 136 = some true := by kernel_rfl
@[simp] theorem notInt136 : notInt Tryd.prog 136 = true := by kernel_rfl
@[simp] theorem tzc136 : tzc Tryd.prog 136 = some [.nilp, .nilp, .nilp, (.str ⟨#[]⟩)] := by kernel_rfl
attribute [simp] Tryd.underlying136
@[simp] theorem tsz137 : tsz Tryd.prog 137 = some 0 := by kernel_rfl
@[simp] theorem tbytes137 : tbytes Tryd.prog 137 = some 0 := by kernel_rfl
@[simp] theorem tagg137 : tagg Tryd.prog 137 = some true := by kernel_rfl
@[simp] theorem notInt137 : notInt Tryd.prog 137 = true := by kernel_rfl
@[simp] theorem tzc137 : tzc Tryd.prog 137 = some [] := by kernel_rfl
attribute [simp] Tryd.underlying137
@[simp] theorem tsz138 : tsz Tryd.prog 138 = some 0 := by kernel_rfl
@[simp] theorem tbytes138 : tbytes Tryd.prog 138 = some 0 := by kernel_rfl
@[simp] theorem tagg138 : tagg Tryd.prog 138 = some true := by kernel_rfl
@[simp] theorem notInt138 : notInt Tryd.prog 138 = true := by kernel_rfl
@[simp] theorem tzc138 : tzc Tryd.prog 138 = some [] := by kernel_rfl
attribute [simp] Tryd.underlying138
@[simp] theorem tsz139 : tsz Tryd.prog 139 = some 0 := by kernel_rfl
@[simp] theorem tbytes139 : tbytes Tryd.prog 139 = some 0 := by kernel_rfl
@[simp] theorem tagg139 : tagg Tryd.prog 139 = some true := by kernel_rfl
@[simp] theorem notInt139 : notInt Tryd.prog 139 = true := by kernel_rfl
@[simp] theorem tzc139 : tzc Tryd.prog 139 = some [] := by kernel_rfl
attribute [simp] Tryd.underlying139
@[simp] theorem tsz140 : tsz Tryd.prog 140 = some 1 := by kernel_rfl
@[simp] theorem tbytes140 : tbytes Tryd.prog 140 = some 8 := by kernel_rfl
@[simp] theorem tagg140 : tagg Tryd.prog 140 = some false := by kernel_rfl
@[simp] theorem notInt140 : notInt Tryd.prog 140 = true := by kernel_rfl
@[simp] theorem tzc140 : tzc Tryd.prog 140 = some [.nilf] := by kernel_rfl
attribute [simp] Tryd.underlying140
@[simp] theorem tsz141 : tsz Tryd.prog 141 = some 1 := by kernel_rfl
@[simp] theorem tbytes141 : tbytes Tryd.prog 141 = some 1 := by kernel_rfl
@[simp] theorem tagg141 : tagg Tryd.prog 141 = some false := by kernel_rfl
@[simp] theorem notInt141 : notInt Tryd.prog 141 = false := by kernel_rfl
@[simp] theorem tzc141 : tzc Tryd.prog 141 = some [(.int .u8 (0))] := by kernel_rfl
attribute [simp] Tryd.underlying141
@[simp] theorem tsz142 : tsz Tryd.prog 142 = some 1 := by kernel_rfl
@[simp] theorem tbytes142 : tbytes Tryd.prog 142 = some 1 := by kernel_rfl
@[simp] theorem tagg142 : tagg Tryd.prog 142 = some false := by kernel_rfl
@[simp] theorem notInt142 : notInt Tryd.prog 142 = false := by kernel_rfl
@[simp] theorem tzc142 : tzc Tryd.prog 142 = some [(.int .u8 (0))] := by kernel_rfl
attribute [simp] Tryd.underlying142
@[simp] theorem tsz143 : tsz Tryd.prog 143 = some 1 := by kernel_rfl
@[simp] theorem tbytes143 : tbytes Tryd.prog 143 = some 8 := by kernel_rfl
@[simp] theorem tagg143 : tagg Tryd.prog 143 = some false := by kernel_rfl
@[simp] theorem notInt143 : notInt Tryd.prog 143 = true := by kernel_rfl
@[simp] theorem tzc143 : tzc Tryd.prog 143 = some [.nilf] := by kernel_rfl
attribute [simp] Tryd.underlying143
@[simp] theorem tsz144 : tsz Tryd.prog 144 = some 1 := by kernel_rfl
@[simp] theorem tbytes144 : tbytes Tryd.prog 144 = some 8 := by kernel_rfl
@[simp] theorem tagg144 : tagg Tryd.prog 144 = some false := by kernel_rfl
@[simp] theorem notInt144 : notInt Tryd.prog 144 = true := by kernel_rfl
@[simp] theorem tzc144 : tzc Tryd.prog 144 = some [.nilp] := by kernel_rfl
attribute [simp] Tryd.underlying144
@[simp] theorem tsz145 : tsz Tryd.prog 145 = some 1 := by kernel_rfl
@[simp] theorem tbytes145 : tbytes Tryd.prog 145 = some 4 := by kernel_rfl
@[simp] theorem tagg145 : tagg Tryd.prog 145 = some false := by kernel_rfl
@[simp] theorem notInt145 : notInt Tryd.prog 145 = false := by kernel_rfl
@[simp] theorem tzc145 : tzc Tryd.prog 145 = some [(.int .i32 (0))] := by kernel_rfl
attribute [simp] Tryd.underlying145
@[simp] theorem tsz146 : tsz Tryd.prog 146 = some 1 := by kernel_rfl
@[simp] theorem tbytes146 : tbytes Tryd.prog 146 = some 4 := by kernel_rfl
@[simp] theorem tagg146 : tagg Tryd.prog 146 = some false := by kernel_rfl
@[simp] theorem notInt146 : notInt Tryd.prog 146 = false := by kernel_rfl
@[simp] theorem tzc146 : tzc Tryd.prog 146 = some [(.int .i32 (0))] := by kernel_rfl
attribute [simp] Tryd.underlying146
@[simp] theorem tsz147 : tsz Tryd.prog 147 = some 11 := by kernel_rfl
@[simp] theorem tbytes147 : tbytes Tryd.prog 147 = some 48 := by kernel_rfl
@[simp] theorem tagg147 : tagg Tryd.prog 147 = some true := by kernel_rfl
@[simp] theorem notInt147 : notInt Tryd.prog 147 = true := by kernel_rfl
@[simp] theorem tzc147 : tzc Tryd.prog 147 = some [(.int .u64 (0)), (.int .u64 (0)), (.int .u32 (0)), (.int .u8 (0)), (.int .u8 (0)), (.int .u8 (0)), (.int .u8 (0)), .nilf, .nilp, (.int .i32 (0)), (.int .i32 (0))] := by kernel_rfl
attribute [simp] Tryd.underlying147
@[simp] theorem tsz148 : tsz Tryd.prog 148 = some 11 := by kernel_rfl
@[simp] theorem tbytes148 : tbytes Tryd.prog 148 = some 48 := by kernel_rfl
@[simp] theorem tagg148 : tagg Tryd.prog 148 = some true := by kernel_rfl
@[simp] theorem notInt148 : notInt Tryd.prog 148 = true := by kernel_rfl
@[simp] theorem tzc148 : tzc Tryd.prog 148 = some [(.int .u64 (0)), (.int .u64 (0)), (.int .u32 (0)), (.int .u8 (0)), (.int .u8 (0)), (.int .u8 (0)), (.int .u8 (0)), .nilf, .nilp, (.int .i32 (0)), (.int .i32 (0))] := by kernel_rfl
attribute [simp] Tryd.underlying148
@[simp] theorem tsz149 : tsz Tryd.prog 149 = some 1 := by kernel_rfl
@[simp] theorem tbytes149 : tbytes Tryd.prog 149 = some 8 := by kernel_rfl
@[simp] theorem tagg149 : tagg Tryd.prog 149 = some false := by kernel_rfl
@[simp] theorem notInt149 : notInt Tryd.prog 149 = true := by kernel_rfl
@[simp] theorem tzc149 : tzc Tryd.prog 149 = some [.nilp] := by kernel_rfl
attribute [simp] Tryd.underlying149
end Go.Ev.Tryd
