/- A part of the proof, merged out of smaller texts. Nothing is assumed. -/
import Derived.Test.YtkghcmcapmblgaaGreatDoorXB
import Derived.Test.YtkghcmcapmblgaaGreatDoorProg
import Derived.Lib.Bytealg
import Derived.Lib.SplitLaws
set_option linter.all false
/- The types of this seat's program (printed by gen16.py). Nothing is assumed. -/
set_option maxRecDepth 20000
namespace Go.V
open Go.Proofs

@[go_sem] theorem ta0 : tyAgg Tryz.prog 0 = some (false, 1) := by kernel_rfl
@[go_sem] theorem ts0 : (Tryz.prog.underlying 0).isSome = true := by kernel_rfl
@[go_sem] theorem ta1 : tyAgg Tryz.prog 1 = some (false, 1) := by kernel_rfl
@[go_sem] theorem ts1 : (Tryz.prog.underlying 1).isSome = true := by kernel_rfl
@[go_sem] theorem tz1 : tyZero Tryz.prog 1 = some [.nilfn] := by kernel_rfl
@[go_sem] theorem tb1 : tyBytes Tryz.prog 1 = some 8 := by kernel_rfl
@[go_sem] theorem ta2 : tyAgg Tryz.prog 2 = some (false, 1) := by kernel_rfl
@[go_sem] theorem ts2 : (Tryz.prog.underlying 2).isSome = true := by kernel_rfl
@[go_sem] theorem tz2 : tyZero Tryz.prog 2 = some [.int .i64 0] := by kernel_rfl
@[go_sem] theorem tb2 : tyBytes Tryz.prog 2 = some 8 := by kernel_rfl
@[go_sem] theorem ti2 : tyInt Tryz.prog 2 = some .i64 := by kernel_rfl
@[go_sem] theorem ta3 : tyAgg Tryz.prog 3 = some (false, 1) := by kernel_rfl
@[go_sem] theorem ts3 : (Tryz.prog.underlying 3).isSome = true := by kernel_rfl
@[go_sem] theorem tz3 : tyZero Tryz.prog 3 = some [.int .i64 0] := by kernel_rfl
@[go_sem] theorem tb3 : tyBytes Tryz.prog 3 = some 8 := by kernel_rfl
@[go_sem] theorem ti3 : tyInt Tryz.prog 3 = some .i64 := by kernel_rfl
@[go_sem] theorem ta4 : tyAgg Tryz.prog 4 = some (false, 1) := by kernel_rfl
@[go_sem] theorem ts4 : (Tryz.prog.underlying 4).isSome = true := by kernel_rfl
@[go_sem] theorem tz4 : tyZero Tryz.prog 4 = some [.bool false] := by kernel_rfl
@[go_sem] theorem tb4 : tyBytes Tryz.prog 4 = some 1 := by kernel_rfl
@[go_sem] theorem tx4 : tyIs Tryz.prog 4 .bool = true := by kernel_rfl
@[go_sem] theorem ta5 : tyAgg Tryz.prog 5 = some (false, 1) := by kernel_rfl
@[go_sem] theorem ts5 : (Tryz.prog.underlying 5).isSome = true := by kernel_rfl
@[go_sem] theorem tz5 : tyZero Tryz.prog 5 = some [.int .u8 0] := by kernel_rfl
@[go_sem] theorem tb5 : tyBytes Tryz.prog 5 = some 1 := by kernel_rfl
@[go_sem] theorem ti5 : tyInt Tryz.prog 5 = some .u8 := by kernel_rfl
@[go_sem] theorem ta6 : tyAgg Tryz.prog 6 = some (false, 1) := by kernel_rfl
@[go_sem] theorem ts6 : (Tryz.prog.underlying 6).isSome = true := by kernel_rfl
@[go_sem] theorem tz6 : tyZero Tryz.prog 6 = some [.int .u8 0] := by kernel_rfl
@[go_sem] theorem tb6 : tyBytes Tryz.prog 6 = some 1 := by kernel_rfl
@[go_sem] theorem ti6 : tyInt Tryz.prog 6 = some .u8 := by kernel_rfl
@[go_sem] theorem ta7 : tyAgg Tryz.prog 7 = some (true, 4) := by kernel_rfl
@[go_sem] theorem ts7 : (Tryz.prog.underlying 7).isSome = true := by kernel_rfl
@[go_sem] theorem tz7 : tyZero Tryz.prog 7 = some [.int .i64 0, .int .i64 0, .bool false, .int .u8 0] := by kernel_rfl
@[go_sem] theorem tf7_0 : tyField Tryz.prog 7 0 = some 0 := by kernel_rfl
@[go_sem] theorem tf7_1 : tyField Tryz.prog 7 1 = some 1 := by kernel_rfl
@[go_sem] theorem tf7_2 : tyField Tryz.prog 7 2 = some 2 := by kernel_rfl
@[go_sem] theorem tf7_3 : tyField Tryz.prog 7 3 = some 3 := by kernel_rfl
@[go_sem] theorem tp7 : tyPlaces Tryz.prog 7 = some [(0, 1), (1, 1), (2, 1), (3, 1)] := by kernel_rfl
@[go_sem] theorem tb7 : tyBytes Tryz.prog 7 = some 24 := by kernel_rfl
@[go_sem] theorem ta8 : tyAgg Tryz.prog 8 = some (true, 4) := by kernel_rfl
@[go_sem] theorem ts8 : (Tryz.prog.underlying 8).isSome = true := by kernel_rfl
@[go_sem] theorem tz8 : tyZero Tryz.prog 8 = some [.int .i64 0, .int .i64 0, .bool false, .int .u8 0] := by kernel_rfl
@[go_sem] theorem tf8_0 : tyField Tryz.prog 8 0 = some 0 := by kernel_rfl
@[go_sem] theorem tf8_1 : tyField Tryz.prog 8 1 = some 1 := by kernel_rfl
@[go_sem] theorem tf8_2 : tyField Tryz.prog 8 2 = some 2 := by kernel_rfl
@[go_sem] theorem tf8_3 : tyField Tryz.prog 8 3 = some 3 := by kernel_rfl
@[go_sem] theorem tp8 : tyPlaces Tryz.prog 8 = some [(0, 1), (1, 1), (2, 1), (3, 1)] := by kernel_rfl
@[go_sem] theorem tb8 : tyBytes Tryz.prog 8 = some 24 := by kernel_rfl
@[go_sem] theorem ta9 : tyAgg Tryz.prog 9 = some (false, 1) := by kernel_rfl
@[go_sem] theorem ts9 : (Tryz.prog.underlying 9).isSome = true := by kernel_rfl
@[go_sem] theorem tz9 : tyZero Tryz.prog 9 = some [.str []] := by kernel_rfl
@[go_sem] theorem tb9 : tyBytes Tryz.prog 9 = some 16 := by kernel_rfl
@[go_sem] theorem tx9 : tyIs Tryz.prog 9 .string = true := by kernel_rfl
@[go_sem] theorem ta10 : tyAgg Tryz.prog 10 = some (false, 1) := by kernel_rfl
@[go_sem] theorem ts10 : (Tryz.prog.underlying 10).isSome = true := by kernel_rfl
@[go_sem] theorem tz10 : tyZero Tryz.prog 10 = some [.str []] := by kernel_rfl
@[go_sem] theorem tb10 : tyBytes Tryz.prog 10 = some 16 := by kernel_rfl
@[go_sem] theorem tx10 : tyIs Tryz.prog 10 .string = true := by kernel_rfl
@[go_sem] theorem ta11 : tyAgg Tryz.prog 11 = some (false, 1) := by kernel_rfl
@[go_sem] theorem ts11 : (Tryz.prog.underlying 11).isSome = true := by kernel_rfl
@[go_sem] theorem tz11 : tyZero Tryz.prog 11 = some [.str []] := by kernel_rfl
@[go_sem] theorem tb11 : tyBytes Tryz.prog 11 = some 16 := by kernel_rfl
@[go_sem] theorem tx11 : tyIs Tryz.prog 11 .string = true := by kernel_rfl
@[go_sem] theorem ta12 : tyAgg Tryz.prog 12 = some (false, 1) := by kernel_rfl
@[go_sem] theorem ts12 : (Tryz.prog.underlying 12).isSome = true := by kernel_rfl
@[go_sem] theorem tz12 : tyZero Tryz.prog 12 = some [.int .u64 0] := by kernel_rfl
@[go_sem] theorem tb12 : tyBytes Tryz.prog 12 = some 8 := by kernel_rfl
@[go_sem] theorem ti12 : tyInt Tryz.prog 12 = some .u64 := by kernel_rfl
@[go_sem] theorem ta13 : tyAgg Tryz.prog 13 = some (true, 2) := by kernel_rfl
@[go_sem] theorem ts13 : (Tryz.prog.underlying 13).isSome = true := by kernel_rfl
@[go_sem] theorem tz13 : tyZero Tryz.prog 13 = some [.str [], .int .u64 0] := by kernel_rfl
@[go_sem] theorem tf13_0 : tyField Tryz.prog 13 0 = some 0 := by kernel_rfl
@[go_sem] theorem tf13_1 : tyField Tryz.prog 13 1 = some 1 := by kernel_rfl
@[go_sem] theorem tp13 : tyPlaces Tryz.prog 13 = some [(0, 1), (1, 1)] := by kernel_rfl
@[go_sem] theorem tb13 : tyBytes Tryz.prog 13 = some 24 := by kernel_rfl
@[go_sem] theorem ta14 : tyAgg Tryz.prog 14 = some (true, 2) := by kernel_rfl
@[go_sem] theorem ts14 : (Tryz.prog.underlying 14).isSome = true := by kernel_rfl
@[go_sem] theorem tz14 : tyZero Tryz.prog 14 = some [.str [], .int .u64 0] := by kernel_rfl
@[go_sem] theorem tf14_0 : tyField Tryz.prog 14 0 = some 0 := by kernel_rfl
@[go_sem] theorem tf14_1 : tyField Tryz.prog 14 1 = some 1 := by kernel_rfl
@[go_sem] theorem tp14 : tyPlaces Tryz.prog 14 = some [(0, 1), (1, 1)] := by kernel_rfl
@[go_sem] theorem tb14 : tyBytes Tryz.prog 14 = some 24 := by kernel_rfl
@[go_sem] theorem ta15 : tyAgg Tryz.prog 15 = some (false, 1) := by kernel_rfl
@[go_sem] theorem ts15 : (Tryz.prog.underlying 15).isSome = true := by kernel_rfl
@[go_sem] theorem tz15 : tyZero Tryz.prog 15 = some [.nilp] := by kernel_rfl
@[go_sem] theorem tb15 : tyBytes Tryz.prog 15 = some 8 := by kernel_rfl
@[go_sem] theorem ta16 : tyAgg Tryz.prog 16 = some (false, 1) := by kernel_rfl
@[go_sem] theorem ts16 : (Tryz.prog.underlying 16).isSome = true := by kernel_rfl
@[go_sem] theorem tz16 : tyZero Tryz.prog 16 = some [.nilp] := by kernel_rfl
@[go_sem] theorem tb16 : tyBytes Tryz.prog 16 = some 8 := by kernel_rfl
@[go_sem] theorem ta17 : tyAgg Tryz.prog 17 = some (false, 1) := by kernel_rfl
@[go_sem] theorem ts17 : (Tryz.prog.underlying 17).isSome = true := by kernel_rfl
@[go_sem] theorem tz17 : tyZero Tryz.prog 17 = some [.nilp] := by kernel_rfl
@[go_sem] theorem tb17 : tyBytes Tryz.prog 17 = some 8 := by kernel_rfl
@[go_sem] theorem ta18 : tyAgg Tryz.prog 18 = some (true, 1) := by kernel_rfl
@[go_sem] theorem ts18 : (Tryz.prog.underlying 18).isSome = true := by kernel_rfl
@[go_sem] theorem tz18 : tyZero Tryz.prog 18 = some [.nilp] := by kernel_rfl
@[go_sem] theorem tf18_0 : tyField Tryz.prog 18 0 = some 0 := by kernel_rfl
@[go_sem] theorem tp18 : tyPlaces Tryz.prog 18 = some [(0, 1)] := by kernel_rfl
@[go_sem] theorem tb18 : tyBytes Tryz.prog 18 = some 8 := by kernel_rfl
@[go_sem] theorem ta19 : tyAgg Tryz.prog 19 = some (true, 1) := by kernel_rfl
@[go_sem] theorem ts19 : (Tryz.prog.underlying 19).isSome = true := by kernel_rfl
@[go_sem] theorem tz19 : tyZero Tryz.prog 19 = some [.nilp] := by kernel_rfl
@[go_sem] theorem tf19_0 : tyField Tryz.prog 19 0 = some 0 := by kernel_rfl
@[go_sem] theorem tp19 : tyPlaces Tryz.prog 19 = some [(0, 1)] := by kernel_rfl
@[go_sem] theorem tb19 : tyBytes Tryz.prog 19 = some 8 := by kernel_rfl
@[go_sem] theorem ta20 : tyAgg Tryz.prog 20 = some (false, 1) := by kernel_rfl
@[go_sem] theorem ts20 : (Tryz.prog.underlying 20).isSome = true := by kernel_rfl
@[go_sem] theorem tz20 : tyZero Tryz.prog 20 = some [.nili] := by kernel_rfl
@[go_sem] theorem tb20 : tyBytes Tryz.prog 20 = some 16 := by kernel_rfl
@[go_sem] theorem ta21 : tyAgg Tryz.prog 21 = some (false, 1) := by kernel_rfl
@[go_sem] theorem ts21 : (Tryz.prog.underlying 21).isSome = true := by kernel_rfl
@[go_sem] theorem tz21 : tyZero Tryz.prog 21 = some [.int .i32 0] := by kernel_rfl
@[go_sem] theorem tb21 : tyBytes Tryz.prog 21 = some 4 := by kernel_rfl
@[go_sem] theorem ti21 : tyInt Tryz.prog 21 = some .i32 := by kernel_rfl
@[go_sem] theorem ta22 : tyAgg Tryz.prog 22 = some (false, 1) := by kernel_rfl
@[go_sem] theorem ts22 : (Tryz.prog.underlying 22).isSome = true := by kernel_rfl
@[go_sem] theorem tz22 : tyZero Tryz.prog 22 = some [.nils] := by kernel_rfl
@[go_sem] theorem te22 : tyElem Tryz.prog 22 = some (42, 8) := by kernel_rfl
@[go_sem] theorem tb22 : tyBytes Tryz.prog 22 = some 24 := by kernel_rfl
@[go_sem] theorem ta23 : tyAgg Tryz.prog 23 = some (false, 1) := by kernel_rfl
@[go_sem] theorem ts23 : (Tryz.prog.underlying 23).isSome = true := by kernel_rfl
@[go_sem] theorem tz23 : tyZero Tryz.prog 23 = some [.nils] := by kernel_rfl
@[go_sem] theorem te23 : tyElem Tryz.prog 23 = some (44, 5) := by kernel_rfl
@[go_sem] theorem tb23 : tyBytes Tryz.prog 23 = some 24 := by kernel_rfl
@[go_sem] theorem ta24 : tyAgg Tryz.prog 24 = some (false, 1) := by kernel_rfl
@[go_sem] theorem ts24 : (Tryz.prog.underlying 24).isSome = true := by kernel_rfl
@[go_sem] theorem tz24 : tyZero Tryz.prog 24 = some [.nils] := by kernel_rfl
@[go_sem] theorem te24 : tyElem Tryz.prog 24 = some (9, 1) := by kernel_rfl
@[go_sem] theorem tb24 : tyBytes Tryz.prog 24 = some 24 := by kernel_rfl
@[go_sem] theorem ta25 : tyAgg Tryz.prog 25 = some (true, 3) := by kernel_rfl
@[go_sem] theorem ts25 : (Tryz.prog.underlying 25).isSome = true := by kernel_rfl
@[go_sem] theorem tz25 : tyZero Tryz.prog 25 = some [.nils, .nils, .nils] := by kernel_rfl
@[go_sem] theorem tf25_0 : tyField Tryz.prog 25 0 = some 0 := by kernel_rfl
@[go_sem] theorem tf25_1 : tyField Tryz.prog 25 1 = some 1 := by kernel_rfl
@[go_sem] theorem tf25_2 : tyField Tryz.prog 25 2 = some 2 := by kernel_rfl
@[go_sem] theorem tp25 : tyPlaces Tryz.prog 25 = some [(0, 1), (1, 1), (2, 1)] := by kernel_rfl
@[go_sem] theorem tb25 : tyBytes Tryz.prog 25 = some 72 := by kernel_rfl
@[go_sem] theorem ta26 : tyAgg Tryz.prog 26 = some (true, 3) := by kernel_rfl
@[go_sem] theorem ts26 : (Tryz.prog.underlying 26).isSome = true := by kernel_rfl
@[go_sem] theorem tz26 : tyZero Tryz.prog 26 = some [.nils, .nils, .nils] := by kernel_rfl
@[go_sem] theorem tf26_0 : tyField Tryz.prog 26 0 = some 0 := by kernel_rfl
@[go_sem] theorem tf26_1 : tyField Tryz.prog 26 1 = some 1 := by kernel_rfl
@[go_sem] theorem tf26_2 : tyField Tryz.prog 26 2 = some 2 := by kernel_rfl
@[go_sem] theorem tp26 : tyPlaces Tryz.prog 26 = some [(0, 1), (1, 1), (2, 1)] := by kernel_rfl
@[go_sem] theorem tb26 : tyBytes Tryz.prog 26 = some 72 := by kernel_rfl
@[go_sem] theorem ta27 : tyAgg Tryz.prog 27 = some (false, 1) := by kernel_rfl
@[go_sem] theorem ts27 : (Tryz.prog.underlying 27).isSome = true := by kernel_rfl
@[go_sem] theorem tz27 : tyZero Tryz.prog 27 = some [.nils] := by kernel_rfl
@[go_sem] theorem te27 : tyElem Tryz.prog 27 = some (46, 17) := by kernel_rfl
@[go_sem] theorem tb27 : tyBytes Tryz.prog 27 = some 24 := by kernel_rfl
@[go_sem] theorem ta28 : tyAgg Tryz.prog 28 = some (false, 1) := by kernel_rfl
@[go_sem] theorem ts28 : (Tryz.prog.underlying 28).isSome = true := by kernel_rfl
@[go_sem] theorem tz28 : tyZero Tryz.prog 28 = some [.nilfn] := by kernel_rfl
@[go_sem] theorem tb28 : tyBytes Tryz.prog 28 = some 8 := by kernel_rfl
@[go_sem] theorem ta29 : tyAgg Tryz.prog 29 = some (false, 1) := by kernel_rfl
@[go_sem] theorem ts29 : (Tryz.prog.underlying 29).isSome = true := by kernel_rfl
@[go_sem] theorem tz29 : tyZero Tryz.prog 29 = some [.int .i64 0] := by kernel_rfl
@[go_sem] theorem tb29 : tyBytes Tryz.prog 29 = some 8 := by kernel_rfl
@[go_sem] theorem ti29 : tyInt Tryz.prog 29 = some .i64 := by kernel_rfl
@[go_sem] theorem ta30 : tyAgg Tryz.prog 30 = some (false, 1) := by kernel_rfl
@[go_sem] theorem ts30 : (Tryz.prog.underlying 30).isSome = true := by kernel_rfl
@[go_sem] theorem tz30 : tyZero Tryz.prog 30 = some [.nilfn] := by kernel_rfl
@[go_sem] theorem tb30 : tyBytes Tryz.prog 30 = some 8 := by kernel_rfl
@[go_sem] theorem ta31 : tyAgg Tryz.prog 31 = some (false, 1) := by kernel_rfl
@[go_sem] theorem ts31 : (Tryz.prog.underlying 31).isSome = true := by kernel_rfl
@[go_sem] theorem tz31 : tyZero Tryz.prog 31 = some [.nilfn] := by kernel_rfl
@[go_sem] theorem tb31 : tyBytes Tryz.prog 31 = some 8 := by kernel_rfl
@[go_sem] theorem ta32 : tyAgg Tryz.prog 32 = some (false, 1) := by kernel_rfl
@[go_sem] theorem ts32 : (Tryz.prog.underlying 32).isSome = true := by kernel_rfl
@[go_sem] theorem ta33 : tyAgg Tryz.prog 33 = some (false, 1) := by kernel_rfl
@[go_sem] theorem ts33 : (Tryz.prog.underlying 33).isSome = true := by kernel_rfl
@[go_sem] theorem tz33 : tyZero Tryz.prog 33 = some [.nilfn] := by kernel_rfl
@[go_sem] theorem tb33 : tyBytes Tryz.prog 33 = some 8 := by kernel_rfl
@[go_sem] theorem ta34 : tyAgg Tryz.prog 34 = some (false, 1) := by kernel_rfl
@[go_sem] theorem ts34 : (Tryz.prog.underlying 34).isSome = true := by kernel_rfl
@[go_sem] theorem tz34 : tyZero Tryz.prog 34 = some [.nilfn] := by kernel_rfl
@[go_sem] theorem tb34 : tyBytes Tryz.prog 34 = some 8 := by kernel_rfl
@[go_sem] theorem ta35 : tyAgg Tryz.prog 35 = some (false, 1) := by kernel_rfl
@[go_sem] theorem ts35 : (Tryz.prog.underlying 35).isSome = true := by kernel_rfl
@[go_sem] theorem tz35 : tyZero Tryz.prog 35 = some [.nilfn] := by kernel_rfl
@[go_sem] theorem tb35 : tyBytes Tryz.prog 35 = some 8 := by kernel_rfl
@[go_sem] theorem ta36 : tyAgg Tryz.prog 36 = some (false, 1) := by kernel_rfl
@[go_sem] theorem ts36 : (Tryz.prog.underlying 36).isSome = true := by kernel_rfl
@[go_sem] theorem tz36 : tyZero Tryz.prog 36 = some [.int .u64 0] := by kernel_rfl
@[go_sem] theorem tb36 : tyBytes Tryz.prog 36 = some 8 := by kernel_rfl
@[go_sem] theorem ti36 : tyInt Tryz.prog 36 = some .u64 := by kernel_rfl
@[go_sem] theorem ta37 : tyAgg Tryz.prog 37 = some (true, 3) := by kernel_rfl
@[go_sem] theorem ts37 : (Tryz.prog.underlying 37).isSome = true := by kernel_rfl
@[go_sem] theorem tz37 : tyZero Tryz.prog 37 = some [.bool false, .int .u64 0, .int .u64 0] := by kernel_rfl
@[go_sem] theorem tf37_0 : tyField Tryz.prog 37 0 = some 0 := by kernel_rfl
@[go_sem] theorem tf37_1 : tyField Tryz.prog 37 1 = some 1 := by kernel_rfl
@[go_sem] theorem tf37_2 : tyField Tryz.prog 37 2 = some 2 := by kernel_rfl
@[go_sem] theorem tp37 : tyPlaces Tryz.prog 37 = some [(0, 1), (1, 1), (2, 1)] := by kernel_rfl
@[go_sem] theorem tb37 : tyBytes Tryz.prog 37 = some 24 := by kernel_rfl
@[go_sem] theorem ta38 : tyAgg Tryz.prog 38 = some (true, 3) := by kernel_rfl
@[go_sem] theorem ts38 : (Tryz.prog.underlying 38).isSome = true := by kernel_rfl
@[go_sem] theorem tz38 : tyZero Tryz.prog 38 = some [.bool false, .int .u64 0, .int .u64 0] := by kernel_rfl
@[go_sem] theorem tf38_0 : tyField Tryz.prog 38 0 = some 0 := by kernel_rfl
@[go_sem] theorem tf38_1 : tyField Tryz.prog 38 1 = some 1 := by kernel_rfl
@[go_sem] theorem tf38_2 : tyField Tryz.prog 38 2 = some 2 := by kernel_rfl
@[go_sem] theorem tp38 : tyPlaces Tryz.prog 38 = some [(0, 1), (1, 1), (2, 1)] := by kernel_rfl
@[go_sem] theorem teq38 (a0 b0 : Bool) (a1 b1 : Int) (a2 b2 : Int) : bin Tryz.prog .eql 38 (.agg [.bool a0, .int .u64 a1, .int .u64 a2]) (.agg [.bool b0, .int .u64 b1, .int .u64 b2]) = some (.bool ((a0 == b0) && ((a1 == b1) && ((a2 == b2) && true)))) := by kernel_rfl
@[go_sem] theorem tne38 (a0 b0 : Bool) (a1 b1 : Int) (a2 b2 : Int) : bin Tryz.prog .neq 38 (.agg [.bool a0, .int .u64 a1, .int .u64 a2]) (.agg [.bool b0, .int .u64 b1, .int .u64 b2]) = some (.bool (!((a0 == b0) && ((a1 == b1) && ((a2 == b2) && true))))) := by kernel_rfl
@[go_sem] theorem tb38 : tyBytes Tryz.prog 38 = some 24 := by kernel_rfl
@[go_sem] theorem ta39 : tyAgg Tryz.prog 39 = some (true, 4) := by kernel_rfl
@[go_sem] theorem ts39 : (Tryz.prog.underlying 39).isSome = true := by kernel_rfl
@[go_sem] theorem tz39 : tyZero Tryz.prog 39 = some [.bool false, .int .u64 0, .int .u64 0, .int .i64 0] := by kernel_rfl
@[go_sem] theorem tf39_0 : tyField Tryz.prog 39 0 = some 0 := by kernel_rfl
@[go_sem] theorem tf39_1 : tyField Tryz.prog 39 1 = some 3 := by kernel_rfl
@[go_sem] theorem tp39 : tyPlaces Tryz.prog 39 = some [(0, 3), (3, 1)] := by kernel_rfl
@[go_sem] theorem tb39 : tyBytes Tryz.prog 39 = some 32 := by kernel_rfl
@[go_sem] theorem ta40 : tyAgg Tryz.prog 40 = some (true, 4) := by kernel_rfl
@[go_sem] theorem ts40 : (Tryz.prog.underlying 40).isSome = true := by kernel_rfl
@[go_sem] theorem tz40 : tyZero Tryz.prog 40 = some [.bool false, .int .u64 0, .int .u64 0, .int .i64 0] := by kernel_rfl
@[go_sem] theorem tf40_0 : tyField Tryz.prog 40 0 = some 0 := by kernel_rfl
@[go_sem] theorem tf40_1 : tyField Tryz.prog 40 1 = some 3 := by kernel_rfl
@[go_sem] theorem tp40 : tyPlaces Tryz.prog 40 = some [(0, 3), (3, 1)] := by kernel_rfl
@[go_sem] theorem teq40 (a0 b0 : Bool) (a1 b1 : Int) (a2 b2 : Int) (a3 b3 : Int) : bin Tryz.prog .eql 40 (.agg [.bool a0, .int .u64 a1, .int .u64 a2, .int .i64 a3]) (.agg [.bool b0, .int .u64 b1, .int .u64 b2, .int .i64 b3]) = some (.bool (((a0 == b0) && ((a1 == b1) && ((a2 == b2) && true))) && ((a3 == b3) && true))) := by kernel_rfl
@[go_sem] theorem tne40 (a0 b0 : Bool) (a1 b1 : Int) (a2 b2 : Int) (a3 b3 : Int) : bin Tryz.prog .neq 40 (.agg [.bool a0, .int .u64 a1, .int .u64 a2, .int .i64 a3]) (.agg [.bool b0, .int .u64 b1, .int .u64 b2, .int .i64 b3]) = some (.bool (!(((a0 == b0) && ((a1 == b1) && ((a2 == b2) && true))) && ((a3 == b3) && true)))) := by kernel_rfl
@[go_sem] theorem tb40 : tyBytes Tryz.prog 40 = some 32 := by kernel_rfl
@[go_sem] theorem ta41 : tyAgg Tryz.prog 41 = some (true, 8) := by kernel_rfl
@[go_sem] theorem ts41 : (Tryz.prog.underlying 41).isSome = true := by kernel_rfl
@[go_sem] theorem tz41 : tyZero Tryz.prog 41 = some [.bool false, .int .u64 0, .int .u64 0, .int .i64 0, .int .i64 0, .str [], .str [], .int .i64 0] := by kernel_rfl
@[go_sem] theorem tf41_0 : tyField Tryz.prog 41 0 = some 0 := by kernel_rfl
@[go_sem] theorem tf41_1 : tyField Tryz.prog 41 1 = some 4 := by kernel_rfl
@[go_sem] theorem tf41_2 : tyField Tryz.prog 41 2 = some 5 := by kernel_rfl
@[go_sem] theorem tf41_3 : tyField Tryz.prog 41 3 = some 6 := by kernel_rfl
@[go_sem] theorem tf41_4 : tyField Tryz.prog 41 4 = some 7 := by kernel_rfl
@[go_sem] theorem tp41 : tyPlaces Tryz.prog 41 = some [(0, 4), (4, 1), (5, 1), (6, 1), (7, 1)] := by kernel_rfl
@[go_sem] theorem tb41 : tyBytes Tryz.prog 41 = some 80 := by kernel_rfl
@[go_sem] theorem ta42 : tyAgg Tryz.prog 42 = some (true, 8) := by kernel_rfl
@[go_sem] theorem ts42 : (Tryz.prog.underlying 42).isSome = true := by kernel_rfl
@[go_sem] theorem tz42 : tyZero Tryz.prog 42 = some [.bool false, .int .u64 0, .int .u64 0, .int .i64 0, .int .i64 0, .str [], .str [], .int .i64 0] := by kernel_rfl
@[go_sem] theorem tf42_0 : tyField Tryz.prog 42 0 = some 0 := by kernel_rfl
@[go_sem] theorem tf42_1 : tyField Tryz.prog 42 1 = some 4 := by kernel_rfl
@[go_sem] theorem tf42_2 : tyField Tryz.prog 42 2 = some 5 := by kernel_rfl
@[go_sem] theorem tf42_3 : tyField Tryz.prog 42 3 = some 6 := by kernel_rfl
@[go_sem] theorem tf42_4 : tyField Tryz.prog 42 4 = some 7 := by kernel_rfl
@[go_sem] theorem tp42 : tyPlaces Tryz.prog 42 = some [(0, 4), (4, 1), (5, 1), (6, 1), (7, 1)] := by kernel_rfl
@[go_sem] theorem teq42 (a0 b0 : Bool) (a1 b1 : Int) (a2 b2 : Int) (a3 b3 : Int) (a4 b4 : Int) (a5 b5 : List UInt8) (a6 b6 : List UInt8) (a7 b7 : Int) : bin Tryz.prog .eql 42 (.agg [.bool a0, .int .u64 a1, .int .u64 a2, .int .i64 a3, .int .i64 a4, .str a5, .str a6, .int .i64 a7]) (.agg [.bool b0, .int .u64 b1, .int .u64 b2, .int .i64 b3, .int .i64 b4, .str b5, .str b6, .int .i64 b7]) = some (.bool ((((a0 == b0) && ((a1 == b1) && ((a2 == b2) && true))) && ((a3 == b3) && true)) && ((a4 == b4) && ((a5 == b5) && ((a6 == b6) && ((a7 == b7) && true)))))) := by kernel_rfl
@[go_sem] theorem tne42 (a0 b0 : Bool) (a1 b1 : Int) (a2 b2 : Int) (a3 b3 : Int) (a4 b4 : Int) (a5 b5 : List UInt8) (a6 b6 : List UInt8) (a7 b7 : Int) : bin Tryz.prog .neq 42 (.agg [.bool a0, .int .u64 a1, .int .u64 a2, .int .i64 a3, .int .i64 a4, .str a5, .str a6, .int .i64 a7]) (.agg [.bool b0, .int .u64 b1, .int .u64 b2, .int .i64 b3, .int .i64 b4, .str b5, .str b6, .int .i64 b7]) = some (.bool (!((((a0 == b0) && ((a1 == b1) && ((a2 == b2) && true))) && ((a3 == b3) && true)) && ((a4 == b4) && ((a5 == b5) && ((a6 == b6) && ((a7 == b7) && true))))))) := by kernel_rfl
@[go_sem] theorem tb42 : tyBytes Tryz.prog 42 = some 80 := by kernel_rfl
@[go_sem] theorem ta43 : tyAgg Tryz.prog 43 = some (true, 5) := by kernel_rfl
@[go_sem] theorem ts43 : (Tryz.prog.underlying 43).isSome = true := by kernel_rfl
@[go_sem] theorem tz43 : tyZero Tryz.prog 43 = some [.str [], .bool false, .int .u64 0, .int .u64 0, .int .i64 0] := by kernel_rfl
@[go_sem] theorem tf43_0 : tyField Tryz.prog 43 0 = some 0 := by kernel_rfl
@[go_sem] theorem tf43_1 : tyField Tryz.prog 43 1 = some 1 := by kernel_rfl
@[go_sem] theorem tf43_2 : tyField Tryz.prog 43 2 = some 4 := by kernel_rfl
@[go_sem] theorem tp43 : tyPlaces Tryz.prog 43 = some [(0, 1), (1, 3), (4, 1)] := by kernel_rfl
@[go_sem] theorem tb43 : tyBytes Tryz.prog 43 = some 48 := by kernel_rfl
@[go_sem] theorem ta44 : tyAgg Tryz.prog 44 = some (true, 5) := by kernel_rfl
@[go_sem] theorem ts44 : (Tryz.prog.underlying 44).isSome = true := by kernel_rfl
@[go_sem] theorem tz44 : tyZero Tryz.prog 44 = some [.str [], .bool false, .int .u64 0, .int .u64 0, .int .i64 0] := by kernel_rfl
@[go_sem] theorem tf44_0 : tyField Tryz.prog 44 0 = some 0 := by kernel_rfl
@[go_sem] theorem tf44_1 : tyField Tryz.prog 44 1 = some 1 := by kernel_rfl
@[go_sem] theorem tf44_2 : tyField Tryz.prog 44 2 = some 4 := by kernel_rfl
@[go_sem] theorem tp44 : tyPlaces Tryz.prog 44 = some [(0, 1), (1, 3), (4, 1)] := by kernel_rfl
@[go_sem] theorem teq44 (a0 b0 : List UInt8) (a1 b1 : Bool) (a2 b2 : Int) (a3 b3 : Int) (a4 b4 : Int) : bin Tryz.prog .eql 44 (.agg [.str a0, .bool a1, .int .u64 a2, .int .u64 a3, .int .i64 a4]) (.agg [.str b0, .bool b1, .int .u64 b2, .int .u64 b3, .int .i64 b4]) = some (.bool ((a0 == b0) && (((a1 == b1) && ((a2 == b2) && ((a3 == b3) && true))) && ((a4 == b4) && true)))) := by kernel_rfl
@[go_sem] theorem tne44 (a0 b0 : List UInt8) (a1 b1 : Bool) (a2 b2 : Int) (a3 b3 : Int) (a4 b4 : Int) : bin Tryz.prog .neq 44 (.agg [.str a0, .bool a1, .int .u64 a2, .int .u64 a3, .int .i64 a4]) (.agg [.str b0, .bool b1, .int .u64 b2, .int .u64 b3, .int .i64 b4]) = some (.bool (!((a0 == b0) && (((a1 == b1) && ((a2 == b2) && ((a3 == b3) && true))) && ((a4 == b4) && true))))) := by kernel_rfl
@[go_sem] theorem tb44 : tyBytes Tryz.prog 44 = some 48 := by kernel_rfl
@[go_sem] theorem ta45 : tyAgg Tryz.prog 45 = some (true, 17) := by kernel_rfl
@[go_sem] theorem ts45 : (Tryz.prog.underlying 45).isSome = true := by kernel_rfl
@[go_sem] theorem tz45 : tyZero Tryz.prog 45 = some [.int .i64 0, .bool false, .int .u64 0, .int .u64 0, .int .i64 0, .int .i64 0, .str [], .str [], .int .i64 0, .int .i64 0, .int .i64 0, .str [], .bool false, .int .u64 0, .int .u64 0, .int .i64 0, .str []] := by kernel_rfl
@[go_sem] theorem tf45_0 : tyField Tryz.prog 45 0 = some 0 := by kernel_rfl
@[go_sem] theorem tf45_1 : tyField Tryz.prog 45 1 = some 1 := by kernel_rfl
@[go_sem] theorem tf45_2 : tyField Tryz.prog 45 2 = some 9 := by kernel_rfl
@[go_sem] theorem tf45_3 : tyField Tryz.prog 45 3 = some 10 := by kernel_rfl
@[go_sem] theorem tf45_4 : tyField Tryz.prog 45 4 = some 11 := by kernel_rfl
@[go_sem] theorem tf45_5 : tyField Tryz.prog 45 5 = some 16 := by kernel_rfl
@[go_sem] theorem tp45 : tyPlaces Tryz.prog 45 = some [(0, 1), (1, 8), (9, 1), (10, 1), (11, 5), (16, 1)] := by kernel_rfl
@[go_sem] theorem tb45 : tyBytes Tryz.prog 45 = some 168 := by kernel_rfl
@[go_sem] theorem ta46 : tyAgg Tryz.prog 46 = some (true, 17) := by kernel_rfl
@[go_sem] theorem ts46 : (Tryz.prog.underlying 46).isSome = true := by kernel_rfl
@[go_sem] theorem tz46 : tyZero Tryz.prog 46 = some [.int .i64 0, .bool false, .int .u64 0, .int .u64 0, .int .i64 0, .int .i64 0, .str [], .str [], .int .i64 0, .int .i64 0, .int .i64 0, .str [], .bool false, .int .u64 0, .int .u64 0, .int .i64 0, .str []] := by kernel_rfl
@[go_sem] theorem tf46_0 : tyField Tryz.prog 46 0 = some 0 := by kernel_rfl
@[go_sem] theorem tf46_1 : tyField Tryz.prog 46 1 = some 1 := by kernel_rfl
@[go_sem] theorem tf46_2 : tyField Tryz.prog 46 2 = some 9 := by kernel_rfl
@[go_sem] theorem tf46_3 : tyField Tryz.prog 46 3 = some 10 := by kernel_rfl
@[go_sem] theorem tf46_4 : tyField Tryz.prog 46 4 = some 11 := by kernel_rfl
@[go_sem] theorem tf46_5 : tyField Tryz.prog 46 5 = some 16 := by kernel_rfl
@[go_sem] theorem tp46 : tyPlaces Tryz.prog 46 = some [(0, 1), (1, 8), (9, 1), (10, 1), (11, 5), (16, 1)] := by kernel_rfl
@[go_sem] theorem teq46 (a0 b0 : Int) (a1 b1 : Bool) (a2 b2 : Int) (a3 b3 : Int) (a4 b4 : Int) (a5 b5 : Int) (a6 b6 : List UInt8) (a7 b7 : List UInt8) (a8 b8 : Int) (a9 b9 : Int) (a10 b10 : Int) (a11 b11 : List UInt8) (a12 b12 : Bool) (a13 b13 : Int) (a14 b14 : Int) (a15 b15 : Int) (a16 b16 : List UInt8) : bin Tryz.prog .eql 46 (.agg [.int .i64 a0, .bool a1, .int .u64 a2, .int .u64 a3, .int .i64 a4, .int .i64 a5, .str a6, .str a7, .int .i64 a8, .int .i64 a9, .int .i64 a10, .str a11, .bool a12, .int .u64 a13, .int .u64 a14, .int .i64 a15, .str a16]) (.agg [.int .i64 b0, .bool b1, .int .u64 b2, .int .u64 b3, .int .i64 b4, .int .i64 b5, .str b6, .str b7, .int .i64 b8, .int .i64 b9, .int .i64 b10, .str b11, .bool b12, .int .u64 b13, .int .u64 b14, .int .i64 b15, .str b16]) = some (.bool ((a0 == b0) && (((((a1 == b1) && ((a2 == b2) && ((a3 == b3) && true))) && ((a4 == b4) && true)) && ((a5 == b5) && ((a6 == b6) && ((a7 == b7) && ((a8 == b8) && true))))) && ((a9 == b9) && ((a10 == b10) && (((a11 == b11) && (((a12 == b12) && ((a13 == b13) && ((a14 == b14) && true))) && ((a15 == b15) && true))) && ((a16 == b16) && true))))))) := by kernel_rfl
@[go_sem] theorem tne46 (a0 b0 : Int) (a1 b1 : Bool) (a2 b2 : Int) (a3 b3 : Int) (a4 b4 : Int) (a5 b5 : Int) (a6 b6 : List UInt8) (a7 b7 : List UInt8) (a8 b8 : Int) (a9 b9 : Int) (a10 b10 : Int) (a11 b11 : List UInt8) (a12 b12 : Bool) (a13 b13 : Int) (a14 b14 : Int) (a15 b15 : Int) (a16 b16 : List UInt8) : bin Tryz.prog .neq 46 (.agg [.int .i64 a0, .bool a1, .int .u64 a2, .int .u64 a3, .int .i64 a4, .int .i64 a5, .str a6, .str a7, .int .i64 a8, .int .i64 a9, .int .i64 a10, .str a11, .bool a12, .int .u64 a13, .int .u64 a14, .int .i64 a15, .str a16]) (.agg [.int .i64 b0, .bool b1, .int .u64 b2, .int .u64 b3, .int .i64 b4, .int .i64 b5, .str b6, .str b7, .int .i64 b8, .int .i64 b9, .int .i64 b10, .str b11, .bool b12, .int .u64 b13, .int .u64 b14, .int .i64 b15, .str b16]) = some (.bool (!((a0 == b0) && (((((a1 == b1) && ((a2 == b2) && ((a3 == b3) && true))) && ((a4 == b4) && true)) && ((a5 == b5) && ((a6 == b6) && ((a7 == b7) && ((a8 == b8) && true))))) && ((a9 == b9) && ((a10 == b10) && (((a11 == b11) && (((a12 == b12) && ((a13 == b13) && ((a14 == b14) && true))) && ((a15 == b15) && true))) && ((a16 == b16) && true)))))))) := by kernel_rfl
@[go_sem] theorem tb46 : tyBytes Tryz.prog 46 = some 168 := by kernel_rfl
@[go_sem] theorem ta47 : tyAgg Tryz.prog 47 = some (false, 1) := by kernel_rfl
@[go_sem] theorem ts47 : (Tryz.prog.underlying 47).isSome = true := by kernel_rfl
@[go_sem] theorem ta48 : tyAgg Tryz.prog 48 = some (false, 1) := by kernel_rfl
@[go_sem] theorem ts48 : (Tryz.prog.underlying 48).isSome = true := by kernel_rfl
@[go_sem] theorem tz48 : tyZero Tryz.prog 48 = some [.nilfn] := by kernel_rfl
@[go_sem] theorem tb48 : tyBytes Tryz.prog 48 = some 8 := by kernel_rfl
@[go_sem] theorem ta49 : tyAgg Tryz.prog 49 = some (false, 1) := by kernel_rfl
@[go_sem] theorem ts49 : (Tryz.prog.underlying 49).isSome = true := by kernel_rfl
@[go_sem] theorem ta50 : tyAgg Tryz.prog 50 = some (false, 1) := by kernel_rfl
@[go_sem] theorem ts50 : (Tryz.prog.underlying 50).isSome = true := by kernel_rfl
@[go_sem] theorem tz50 : tyZero Tryz.prog 50 = some [.nilfn] := by kernel_rfl
@[go_sem] theorem tb50 : tyBytes Tryz.prog 50 = some 8 := by kernel_rfl
@[go_sem] theorem ta51 : tyAgg Tryz.prog 51 = some (false, 1) := by kernel_rfl
@[go_sem] theorem ts51 : (Tryz.prog.underlying 51).isSome = true := by kernel_rfl
@[go_sem] theorem tz51 : tyZero Tryz.prog 51 = some [.nilfn] := by kernel_rfl
@[go_sem] theorem tb51 : tyBytes Tryz.prog 51 = some 8 := by kernel_rfl
@[go_sem] theorem ta52 : tyAgg Tryz.prog 52 = some (false, 1) := by kernel_rfl
@[go_sem] theorem ts52 : (Tryz.prog.underlying 52).isSome = true := by kernel_rfl
@[go_sem] theorem tz52 : tyZero Tryz.prog 52 = some [.nilfn] := by kernel_rfl
@[go_sem] theorem tb52 : tyBytes Tryz.prog 52 = some 8 := by kernel_rfl
@[go_sem] theorem ta53 : tyAgg Tryz.prog 53 = some (false, 1) := by kernel_rfl
@[go_sem] theorem ts53 : (Tryz.prog.underlying 53).isSome = true := by kernel_rfl
@[go_sem] theorem ta54 : tyAgg Tryz.prog 54 = some (false, 1) := by kernel_rfl
@[go_sem] theorem ts54 : (Tryz.prog.underlying 54).isSome = true := by kernel_rfl
@[go_sem] theorem tz54 : tyZero Tryz.prog 54 = some [.nilfn] := by kernel_rfl
@[go_sem] theorem tb54 : tyBytes Tryz.prog 54 = some 8 := by kernel_rfl
@[go_sem] theorem ta55 : tyAgg Tryz.prog 55 = some (false, 1) := by kernel_rfl
@[go_sem] theorem ts55 : (Tryz.prog.underlying 55).isSome = true := by kernel_rfl
@[go_sem] theorem tz55 : tyZero Tryz.prog 55 = some [.nilfn] := by kernel_rfl
@[go_sem] theorem tb55 : tyBytes Tryz.prog 55 = some 8 := by kernel_rfl
@[go_sem] theorem ta56 : tyAgg Tryz.prog 56 = some (false, 1) := by kernel_rfl
@[go_sem] theorem ts56 : (Tryz.prog.underlying 56).isSome = true := by kernel_rfl
@[go_sem] theorem tz56 : tyZero Tryz.prog 56 = some [.nilfn] := by kernel_rfl
@[go_sem] theorem tb56 : tyBytes Tryz.prog 56 = some 8 := by kernel_rfl
@[go_sem] theorem ta57 : tyAgg Tryz.prog 57 = some (false, 1) := by kernel_rfl
@[go_sem] theorem ts57 : (Tryz.prog.underlying 57).isSome = true := by kernel_rfl
@[go_sem] theorem tz57 : tyZero Tryz.prog 57 = some [.nilfn] := by kernel_rfl
@[go_sem] theorem tb57 : tyBytes Tryz.prog 57 = some 8 := by kernel_rfl
@[go_sem] theorem ta58 : tyAgg Tryz.prog 58 = some (false, 1) := by kernel_rfl
@[go_sem] theorem ts58 : (Tryz.prog.underlying 58).isSome = true := by kernel_rfl
@[go_sem] theorem tz58 : tyZero Tryz.prog 58 = some [.nilfn] := by kernel_rfl
@[go_sem] theorem tb58 : tyBytes Tryz.prog 58 = some 8 := by kernel_rfl
@[go_sem] theorem ta59 : tyAgg Tryz.prog 59 = some (false, 1) := by kernel_rfl
@[go_sem] theorem ts59 : (Tryz.prog.underlying 59).isSome = true := by kernel_rfl
@[go_sem] theorem tz59 : tyZero Tryz.prog 59 = some [.nilfn] := by kernel_rfl
@[go_sem] theorem tb59 : tyBytes Tryz.prog 59 = some 8 := by kernel_rfl
@[go_sem] theorem ta60 : tyAgg Tryz.prog 60 = some (false, 1) := by kernel_rfl
@[go_sem] theorem ts60 : (Tryz.prog.underlying 60).isSome = true := by kernel_rfl
@[go_sem] theorem tz60 : tyZero Tryz.prog 60 = some [.nilfn] := by kernel_rfl
@[go_sem] theorem tb60 : tyBytes Tryz.prog 60 = some 8 := by kernel_rfl
@[go_sem] theorem ta61 : tyAgg Tryz.prog 61 = some (false, 1) := by kernel_rfl
@[go_sem] theorem ts61 : (Tryz.prog.underlying 61).isSome = true := by kernel_rfl
@[go_sem] theorem tz61 : tyZero Tryz.prog 61 = some [.nilfn] := by kernel_rfl
@[go_sem] theorem tb61 : tyBytes Tryz.prog 61 = some 8 := by kernel_rfl
@[go_sem] theorem ta62 : tyAgg Tryz.prog 62 = some (false, 1) := by kernel_rfl
@[go_sem] theorem ts62 : (Tryz.prog.underlying 62).isSome = true := by kernel_rfl
@[go_sem] theorem tz62 : tyZero Tryz.prog 62 = some [.nilfn] := by kernel_rfl
@[go_sem] theorem tb62 : tyBytes Tryz.prog 62 = some 8 := by kernel_rfl
@[go_sem] theorem ta63 : tyAgg Tryz.prog 63 = some (false, 1) := by kernel_rfl
@[go_sem] theorem ts63 : (Tryz.prog.underlying 63).isSome = true := by kernel_rfl
@[go_sem] theorem tz63 : tyZero Tryz.prog 63 = some [.nilfn] := by kernel_rfl
@[go_sem] theorem tb63 : tyBytes Tryz.prog 63 = some 8 := by kernel_rfl
@[go_sem] theorem ta64 : tyAgg Tryz.prog 64 = some (false, 1) := by kernel_rfl
@[go_sem] theorem ts64 : (Tryz.prog.underlying 64).isSome = true := by kernel_rfl
@[go_sem] theorem tz64 : tyZero Tryz.prog 64 = some [.nilfn] := by kernel_rfl
@[go_sem] theorem tb64 : tyBytes Tryz.prog 64 = some 8 := by kernel_rfl
@[go_sem] theorem ta65 : tyAgg Tryz.prog 65 = some (false, 1) := by kernel_rfl
@[go_sem] theorem ts65 : (Tryz.prog.underlying 65).isSome = true := by kernel_rfl
@[go_sem] theorem tz65 : tyZero Tryz.prog 65 = some [.nilfn] := by kernel_rfl
@[go_sem] theorem tb65 : tyBytes Tryz.prog 65 = some 8 := by kernel_rfl
@[go_sem] theorem ta66 : tyAgg Tryz.prog 66 = some (false, 1) := by kernel_rfl
@[go_sem] theorem ts66 : (Tryz.prog.underlying 66).isSome = true := by kernel_rfl
@[go_sem] theorem ta67 : tyAgg Tryz.prog 67 = some (false, 1) := by kernel_rfl
@[go_sem] theorem ts67 : (Tryz.prog.underlying 67).isSome = true := by kernel_rfl
@[go_sem] theorem tz67 : tyZero Tryz.prog 67 = some [.nilfn] := by kernel_rfl
@[go_sem] theorem tb67 : tyBytes Tryz.prog 67 = some 8 := by kernel_rfl
@[go_sem] theorem ta68 : tyAgg Tryz.prog 68 = some (false, 1) := by kernel_rfl
@[go_sem] theorem ts68 : (Tryz.prog.underlying 68).isSome = true := by kernel_rfl
@[go_sem] theorem ta69 : tyAgg Tryz.prog 69 = some (false, 1) := by kernel_rfl
@[go_sem] theorem ts69 : (Tryz.prog.underlying 69).isSome = true := by kernel_rfl
@[go_sem] theorem tz69 : tyZero Tryz.prog 69 = some [.nilfn] := by kernel_rfl
@[go_sem] theorem tb69 : tyBytes Tryz.prog 69 = some 8 := by kernel_rfl
@[go_sem] theorem ta70 : tyAgg Tryz.prog 70 = some (false, 1) := by kernel_rfl
@[go_sem] theorem ts70 : (Tryz.prog.underlying 70).isSome = true := by kernel_rfl
@[go_sem] theorem tz70 : tyZero Tryz.prog 70 = some [.nilfn] := by kernel_rfl
@[go_sem] theorem tb70 : tyBytes Tryz.prog 70 = some 8 := by kernel_rfl
@[go_sem] theorem ta71 : tyAgg Tryz.prog 71 = some (false, 1) := by kernel_rfl
@[go_sem] theorem ts71 : (Tryz.prog.underlying 71).isSome = true := by kernel_rfl
@[go_sem] theorem tz71 : tyZero Tryz.prog 71 = some [.nilfn] := by kernel_rfl
@[go_sem] theorem tb71 : tyBytes Tryz.prog 71 = some 8 := by kernel_rfl
@[go_sem] theorem ta72 : tyAgg Tryz.prog 72 = some (false, 1) := by kernel_rfl
@[go_sem] theorem ts72 : (Tryz.prog.underlying 72).isSome = true := by kernel_rfl
@[go_sem] theorem tz72 : tyZero Tryz.prog 72 = some [.nilfn] := by kernel_rfl
@[go_sem] theorem tb72 : tyBytes Tryz.prog 72 = some 8 := by kernel_rfl
@[go_sem] theorem ta73 : tyAgg Tryz.prog 73 = some (false, 1) := by kernel_rfl
@[go_sem] theorem ts73 : (Tryz.prog.underlying 73).isSome = true := by kernel_rfl
@[go_sem] theorem ta74 : tyAgg Tryz.prog 74 = some (false, 1) := by kernel_rfl
@[go_sem] theorem ts74 : (Tryz.prog.underlying 74).isSome = true := by kernel_rfl
@[go_sem] theorem tz74 : tyZero Tryz.prog 74 = some [.nilfn] := by kernel_rfl
@[go_sem] theorem tb74 : tyBytes Tryz.prog 74 = some 8 := by kernel_rfl
@[go_sem] theorem ta75 : tyAgg Tryz.prog 75 = some (false, 1) := by kernel_rfl
@[go_sem] theorem ts75 : (Tryz.prog.underlying 75).isSome = true := by kernel_rfl
@[go_sem] theorem tz75 : tyZero Tryz.prog 75 = some [.nilfn] := by kernel_rfl
@[go_sem] theorem tb75 : tyBytes Tryz.prog 75 = some 8 := by kernel_rfl
@[go_sem] theorem ta76 : tyAgg Tryz.prog 76 = some (false, 1) := by kernel_rfl
@[go_sem] theorem ts76 : (Tryz.prog.underlying 76).isSome = true := by kernel_rfl
@[go_sem] theorem ta77 : tyAgg Tryz.prog 77 = some (false, 1) := by kernel_rfl
@[go_sem] theorem ts77 : (Tryz.prog.underlying 77).isSome = true := by kernel_rfl
@[go_sem] theorem tz77 : tyZero Tryz.prog 77 = some [.nilfn] := by kernel_rfl
@[go_sem] theorem tb77 : tyBytes Tryz.prog 77 = some 8 := by kernel_rfl
@[go_sem] theorem ta78 : tyAgg Tryz.prog 78 = some (false, 1) := by kernel_rfl
@[go_sem] theorem ts78 : (Tryz.prog.underlying 78).isSome = true := by kernel_rfl
@[go_sem] theorem tz78 : tyZero Tryz.prog 78 = some [.nilfn] := by kernel_rfl
@[go_sem] theorem tb78 : tyBytes Tryz.prog 78 = some 8 := by kernel_rfl
@[go_sem] theorem ta79 : tyAgg Tryz.prog 79 = some (false, 1) := by kernel_rfl
@[go_sem] theorem ts79 : (Tryz.prog.underlying 79).isSome = true := by kernel_rfl
@[go_sem] theorem ta80 : tyAgg Tryz.prog 80 = some (false, 1) := by kernel_rfl
@[go_sem] theorem ts80 : (Tryz.prog.underlying 80).isSome = true := by kernel_rfl
@[go_sem] theorem tz80 : tyZero Tryz.prog 80 = some [.nilfn] := by kernel_rfl
@[go_sem] theorem tb80 : tyBytes Tryz.prog 80 = some 8 := by kernel_rfl
@[go_sem] theorem ta81 : tyAgg Tryz.prog 81 = some (false, 1) := by kernel_rfl
@[go_sem] theorem ts81 : (Tryz.prog.underlying 81).isSome = true := by kernel_rfl
@[go_sem] theorem tz81 : tyZero Tryz.prog 81 = some [.nilfn] := by kernel_rfl
@[go_sem] theorem tb81 : tyBytes Tryz.prog 81 = some 8 := by kernel_rfl
@[go_sem] theorem ta82 : tyAgg Tryz.prog 82 = some (false, 1) := by kernel_rfl
@[go_sem] theorem ts82 : (Tryz.prog.underlying 82).isSome = true := by kernel_rfl
@[go_sem] theorem tz82 : tyZero Tryz.prog 82 = some [.nilfn] := by kernel_rfl
@[go_sem] theorem tb82 : tyBytes Tryz.prog 82 = some 8 := by kernel_rfl
@[go_sem] theorem ta83 : tyAgg Tryz.prog 83 = some (false, 1) := by kernel_rfl
@[go_sem] theorem ts83 : (Tryz.prog.underlying 83).isSome = true := by kernel_rfl
@[go_sem] theorem tz83 : tyZero Tryz.prog 83 = some [.nilfn] := by kernel_rfl
@[go_sem] theorem tb83 : tyBytes Tryz.prog 83 = some 8 := by kernel_rfl
@[go_sem] theorem ta84 : tyAgg Tryz.prog 84 = some (false, 1) := by kernel_rfl
@[go_sem] theorem ts84 : (Tryz.prog.underlying 84).isSome = true := by kernel_rfl
@[go_sem] theorem tz84 : tyZero Tryz.prog 84 = some [.nilfn] := by kernel_rfl
@[go_sem] theorem tb84 : tyBytes Tryz.prog 84 = some 8 := by kernel_rfl
@[go_sem] theorem ta85 : tyAgg Tryz.prog 85 = some (false, 1) := by kernel_rfl
@[go_sem] theorem ts85 : (Tryz.prog.underlying 85).isSome = true := by kernel_rfl
@[go_sem] theorem tz85 : tyZero Tryz.prog 85 = some [.nilfn] := by kernel_rfl
@[go_sem] theorem tb85 : tyBytes Tryz.prog 85 = some 8 := by kernel_rfl
@[go_sem] theorem ta86 : tyAgg Tryz.prog 86 = some (false, 1) := by kernel_rfl
@[go_sem] theorem ts86 : (Tryz.prog.underlying 86).isSome = true := by kernel_rfl
@[go_sem] theorem tz86 : tyZero Tryz.prog 86 = some [.nilfn] := by kernel_rfl
@[go_sem] theorem tb86 : tyBytes Tryz.prog 86 = some 8 := by kernel_rfl
@[go_sem] theorem ta87 : tyAgg Tryz.prog 87 = some (false, 1) := by kernel_rfl
@[go_sem] theorem ts87 : (Tryz.prog.underlying 87).isSome = true := by kernel_rfl
@[go_sem] theorem tz87 : tyZero Tryz.prog 87 = some [.nilfn] := by kernel_rfl
@[go_sem] theorem tb87 : tyBytes Tryz.prog 87 = some 8 := by kernel_rfl
@[go_sem] theorem ta88 : tyAgg Tryz.prog 88 = some (false, 1) := by kernel_rfl
@[go_sem] theorem ts88 : (Tryz.prog.underlying 88).isSome = true := by kernel_rfl
@[go_sem] theorem tz88 : tyZero Tryz.prog 88 = some [.nilfn] := by kernel_rfl
@[go_sem] theorem tb88 : tyBytes Tryz.prog 88 = some 8 := by kernel_rfl
@[go_sem] theorem ta89 : tyAgg Tryz.prog 89 = some (false, 1) := by kernel_rfl
@[go_sem] theorem ts89 : (Tryz.prog.underlying 89).isSome = true := by kernel_rfl
@[go_sem] theorem tz89 : tyZero Tryz.prog 89 = some [.nilfn] := by kernel_rfl
@[go_sem] theorem tb89 : tyBytes Tryz.prog 89 = some 8 := by kernel_rfl
@[go_sem] theorem ta90 : tyAgg Tryz.prog 90 = some (false, 1) := by kernel_rfl
@[go_sem] theorem ts90 : (Tryz.prog.underlying 90).isSome = true := by kernel_rfl
@[go_sem] theorem tz90 : tyZero Tryz.prog 90 = some [.nilfn] := by kernel_rfl
@[go_sem] theorem tb90 : tyBytes Tryz.prog 90 = some 8 := by kernel_rfl
@[go_sem] theorem ta91 : tyAgg Tryz.prog 91 = some (false, 1) := by kernel_rfl
@[go_sem] theorem ts91 : (Tryz.prog.underlying 91).isSome = true := by kernel_rfl
@[go_sem] theorem tz91 : tyZero Tryz.prog 91 = some [.nilfn] := by kernel_rfl
@[go_sem] theorem tb91 : tyBytes Tryz.prog 91 = some 8 := by kernel_rfl
@[go_sem] theorem ta92 : tyAgg Tryz.prog 92 = some (false, 1) := by kernel_rfl
@[go_sem] theorem ts92 : (Tryz.prog.underlying 92).isSome = true := by kernel_rfl
@[go_sem] theorem tz92 : tyZero Tryz.prog 92 = some [.nilfn] := by kernel_rfl
@[go_sem] theorem tb92 : tyBytes Tryz.prog 92 = some 8 := by kernel_rfl
@[go_sem] theorem ta93 : tyAgg Tryz.prog 93 = some (false, 1) := by kernel_rfl
@[go_sem] theorem ts93 : (Tryz.prog.underlying 93).isSome = true := by kernel_rfl
@[go_sem] theorem tz93 : tyZero Tryz.prog 93 = some [.nilfn] := by kernel_rfl
@[go_sem] theorem tb93 : tyBytes Tryz.prog 93 = some 8 := by kernel_rfl
@[go_sem] theorem ta94 : tyAgg Tryz.prog 94 = some (false, 1) := by kernel_rfl
@[go_sem] theorem ts94 : (Tryz.prog.underlying 94).isSome = true := by kernel_rfl
@[go_sem] theorem tz94 : tyZero Tryz.prog 94 = some [.nilfn] := by kernel_rfl
@[go_sem] theorem tb94 : tyBytes Tryz.prog 94 = some 8 := by kernel_rfl
@[go_sem] theorem ta95 : tyAgg Tryz.prog 95 = some (false, 1) := by kernel_rfl
@[go_sem] theorem ts95 : (Tryz.prog.underlying 95).isSome = true := by kernel_rfl
@[go_sem] theorem tz95 : tyZero Tryz.prog 95 = some [.nilfn] := by kernel_rfl
@[go_sem] theorem tb95 : tyBytes Tryz.prog 95 = some 8 := by kernel_rfl
@[go_sem] theorem ta96 : tyAgg Tryz.prog 96 = some (false, 1) := by kernel_rfl
@[go_sem] theorem ts96 : (Tryz.prog.underlying 96).isSome = true := by kernel_rfl
@[go_sem] theorem ta97 : tyAgg Tryz.prog 97 = some (false, 1) := by kernel_rfl
@[go_sem] theorem ts97 : (Tryz.prog.underlying 97).isSome = true := by kernel_rfl
@[go_sem] theorem tz97 : tyZero Tryz.prog 97 = some [.nilfn] := by kernel_rfl
@[go_sem] theorem tb97 : tyBytes Tryz.prog 97 = some 8 := by kernel_rfl
@[go_sem] theorem ta98 : tyAgg Tryz.prog 98 = some (false, 1) := by kernel_rfl
@[go_sem] theorem ts98 : (Tryz.prog.underlying 98).isSome = true := by kernel_rfl
@[go_sem] theorem tz98 : tyZero Tryz.prog 98 = some [.nilfn] := by kernel_rfl
@[go_sem] theorem tb98 : tyBytes Tryz.prog 98 = some 8 := by kernel_rfl
@[go_sem] theorem ta99 : tyAgg Tryz.prog 99 = some (false, 1) := by kernel_rfl
@[go_sem] theorem ts99 : (Tryz.prog.underlying 99).isSome = true := by kernel_rfl
@[go_sem] theorem tz99 : tyZero Tryz.prog 99 = some [.nilfn] := by kernel_rfl
@[go_sem] theorem tb99 : tyBytes Tryz.prog 99 = some 8 := by kernel_rfl
@[go_sem] theorem ta100 : tyAgg Tryz.prog 100 = some (false, 1) := by kernel_rfl
@[go_sem] theorem ts100 : (Tryz.prog.underlying 100).isSome = true := by kernel_rfl
@[go_sem] theorem tz100 : tyZero Tryz.prog 100 = some [.nilfn] := by kernel_rfl
@[go_sem] theorem tb100 : tyBytes Tryz.prog 100 = some 8 := by kernel_rfl
@[go_sem] theorem ta101 : tyAgg Tryz.prog 101 = some (false, 1) := by kernel_rfl
@[go_sem] theorem ts101 : (Tryz.prog.underlying 101).isSome = true := by kernel_rfl
@[go_sem] theorem tz101 : tyZero Tryz.prog 101 = some [.nilfn] := by kernel_rfl
@[go_sem] theorem tb101 : tyBytes Tryz.prog 101 = some 8 := by kernel_rfl
@[go_sem] theorem ta102 : tyAgg Tryz.prog 102 = some (false, 1) := by kernel_rfl
@[go_sem] theorem ts102 : (Tryz.prog.underlying 102).isSome = true := by kernel_rfl
@[go_sem] theorem tz102 : tyZero Tryz.prog 102 = some [.nilfn] := by kernel_rfl
@[go_sem] theorem tb102 : tyBytes Tryz.prog 102 = some 8 := by kernel_rfl
@[go_sem] theorem ta103 : tyAgg Tryz.prog 103 = some (false, 1) := by kernel_rfl
@[go_sem] theorem ts103 : (Tryz.prog.underlying 103).isSome = true := by kernel_rfl
@[go_sem] theorem tz103 : tyZero Tryz.prog 103 = some [.nilfn] := by kernel_rfl
@[go_sem] theorem tb103 : tyBytes Tryz.prog 103 = some 8 := by kernel_rfl
@[go_sem] theorem ta104 : tyAgg Tryz.prog 104 = some (false, 1) := by kernel_rfl
@[go_sem] theorem ts104 : (Tryz.prog.underlying 104).isSome = true := by kernel_rfl
@[go_sem] theorem tz104 : tyZero Tryz.prog 104 = some [.nilfn] := by kernel_rfl
@[go_sem] theorem tb104 : tyBytes Tryz.prog 104 = some 8 := by kernel_rfl
@[go_sem] theorem ta105 : tyAgg Tryz.prog 105 = some (false, 1) := by kernel_rfl
@[go_sem] theorem ts105 : (Tryz.prog.underlying 105).isSome = true := by kernel_rfl
@[go_sem] theorem tz105 : tyZero Tryz.prog 105 = some [.nilfn] := by kernel_rfl
@[go_sem] theorem tb105 : tyBytes Tryz.prog 105 = some 8 := by kernel_rfl
@[go_sem] theorem ta106 : tyAgg Tryz.prog 106 = some (false, 1) := by kernel_rfl
@[go_sem] theorem ts106 : (Tryz.prog.underlying 106).isSome = true := by kernel_rfl
@[go_sem] theorem tz106 : tyZero Tryz.prog 106 = some [.nilfn] := by kernel_rfl
@[go_sem] theorem tb106 : tyBytes Tryz.prog 106 = some 8 := by kernel_rfl
@[go_sem] theorem ta107 : tyAgg Tryz.prog 107 = some (false, 1) := by kernel_rfl
@[go_sem] theorem ts107 : (Tryz.prog.underlying 107).isSome = true := by kernel_rfl
@[go_sem] theorem tz107 : tyZero Tryz.prog 107 = some [.nilfn] := by kernel_rfl
@[go_sem] theorem tb107 : tyBytes Tryz.prog 107 = some 8 := by kernel_rfl
@[go_sem] theorem ta108 : tyAgg Tryz.prog 108 = some (false, 1) := by kernel_rfl
@[go_sem] theorem ts108 : (Tryz.prog.underlying 108).isSome = true := by kernel_rfl
@[go_sem] theorem tz108 : tyZero Tryz.prog 108 = some [.nilfn] := by kernel_rfl
@[go_sem] theorem tb108 : tyBytes Tryz.prog 108 = some 8 := by kernel_rfl
@[go_sem] theorem ta109 : tyAgg Tryz.prog 109 = some (false, 1) := by kernel_rfl
@[go_sem] theorem ts109 : (Tryz.prog.underlying 109).isSome = true := by kernel_rfl
@[go_sem] theorem tz109 : tyZero Tryz.prog 109 = some [.nilfn] := by kernel_rfl
@[go_sem] theorem tb109 : tyBytes Tryz.prog 109 = some 8 := by kernel_rfl
@[go_sem] theorem ta110 : tyAgg Tryz.prog 110 = some (false, 1) := by kernel_rfl
@[go_sem] theorem ts110 : (Tryz.prog.underlying 110).isSome = true := by kernel_rfl
@[go_sem] theorem tz110 : tyZero Tryz.prog 110 = some [.nilfn] := by kernel_rfl
@[go_sem] theorem tb110 : tyBytes Tryz.prog 110 = some 8 := by kernel_rfl
@[go_sem] theorem ta111 : tyAgg Tryz.prog 111 = some (false, 1) := by kernel_rfl
@[go_sem] theorem ts111 : (Tryz.prog.underlying 111).isSome = true := by kernel_rfl
@[go_sem] theorem tz111 : tyZero Tryz.prog 111 = some [.nilfn] := by kernel_rfl
@[go_sem] theorem tb111 : tyBytes Tryz.prog 111 = some 8 := by kernel_rfl
@[go_sem] theorem ta112 : tyAgg Tryz.prog 112 = some (false, 1) := by kernel_rfl
@[go_sem] theorem ts112 : (Tryz.prog.underlying 112).isSome = true := by kernel_rfl
@[go_sem] theorem tz112 : tyZero Tryz.prog 112 = some [.nilfn] := by kernel_rfl
@[go_sem] theorem tb112 : tyBytes Tryz.prog 112 = some 8 := by kernel_rfl
@[go_sem] theorem ta113 : tyAgg Tryz.prog 113 = some (false, 1) := by kernel_rfl
@[go_sem] theorem ts113 : (Tryz.prog.underlying 113).isSome = true := by kernel_rfl
@[go_sem] theorem tz113 : tyZero Tryz.prog 113 = some [.nilfn] := by kernel_rfl
@[go_sem] theorem tb113 : tyBytes Tryz.prog 113 = some 8 := by kernel_rfl
@[go_sem] theorem ta114 : tyAgg Tryz.prog 114 = some (false, 1) := by kernel_rfl
@[go_sem] theorem ts114 : (Tryz.prog.underlying 114).isSome = true := by kernel_rfl
@[go_sem] theorem tz114 : tyZero Tryz.prog 114 = some [.nilfn] := by kernel_rfl
@[go_sem] theorem tb114 : tyBytes Tryz.prog 114 = some 8 := by kernel_rfl
@[go_sem] theorem ta115 : tyAgg Tryz.prog 115 = some (false, 1) := by kernel_rfl
@[go_sem] theorem ts115 : (Tryz.prog.underlying 115).isSome = true := by kernel_rfl
@[go_sem] theorem tz115 : tyZero Tryz.prog 115 = some [.nilfn] := by kernel_rfl
@[go_sem] theorem tb115 : tyBytes Tryz.prog 115 = some 8 := by kernel_rfl
@[go_sem] theorem ta116 : tyAgg Tryz.prog 116 = some (false, 1) := by kernel_rfl
@[go_sem] theorem ts116 : (Tryz.prog.underlying 116).isSome = true := by kernel_rfl
@[go_sem] theorem ta117 : tyAgg Tryz.prog 117 = some (false, 1) := by kernel_rfl
@[go_sem] theorem ts117 : (Tryz.prog.underlying 117).isSome = true := by kernel_rfl
@[go_sem] theorem tz117 : tyZero Tryz.prog 117 = some [.nilfn] := by kernel_rfl
@[go_sem] theorem tb117 : tyBytes Tryz.prog 117 = some 8 := by kernel_rfl
@[go_sem] theorem ta118 : tyAgg Tryz.prog 118 = some (false, 1) := by kernel_rfl
@[go_sem] theorem ts118 : (Tryz.prog.underlying 118).isSome = true := by kernel_rfl
@[go_sem] theorem ta119 : tyAgg Tryz.prog 119 = some (false, 1) := by kernel_rfl
@[go_sem] theorem ts119 : (Tryz.prog.underlying 119).isSome = true := by kernel_rfl
@[go_sem] theorem tz119 : tyZero Tryz.prog 119 = some [.nilfn] := by kernel_rfl
@[go_sem] theorem tb119 : tyBytes Tryz.prog 119 = some 8 := by kernel_rfl
@[go_sem] theorem ta120 : tyAgg Tryz.prog 120 = some (false, 1) := by kernel_rfl
@[go_sem] theorem ts120 : (Tryz.prog.underlying 120).isSome = true := by kernel_rfl
@[go_sem] theorem tz120 : tyZero Tryz.prog 120 = some [.nilfn] := by kernel_rfl
@[go_sem] theorem tb120 : tyBytes Tryz.prog 120 = some 8 := by kernel_rfl
@[go_sem] theorem ta121 : tyAgg Tryz.prog 121 = some (false, 1) := by kernel_rfl
@[go_sem] theorem ts121 : (Tryz.prog.underlying 121).isSome = true := by kernel_rfl
@[go_sem] theorem tz121 : tyZero Tryz.prog 121 = some [.nilfn] := by kernel_rfl
@[go_sem] theorem tb121 : tyBytes Tryz.prog 121 = some 8 := by kernel_rfl
@[go_sem] theorem ta122 : tyAgg Tryz.prog 122 = some (false, 1) := by kernel_rfl
@[go_sem] theorem ts122 : (Tryz.prog.underlying 122).isSome = true := by kernel_rfl
@[go_sem] theorem tz122 : tyZero Tryz.prog 122 = some [.nilfn] := by kernel_rfl
@[go_sem] theorem tb122 : tyBytes Tryz.prog 122 = some 8 := by kernel_rfl
@[go_sem] theorem ta123 : tyAgg Tryz.prog 123 = some (false, 1) := by kernel_rfl
@[go_sem] theorem ts123 : (Tryz.prog.underlying 123).isSome = true := by kernel_rfl
@[go_sem] theorem tz123 : tyZero Tryz.prog 123 = some [.nilfn] := by kernel_rfl
@[go_sem] theorem tb123 : tyBytes Tryz.prog 123 = some 8 := by kernel_rfl
@[go_sem] theorem ta124 : tyAgg Tryz.prog 124 = some (false, 1) := by kernel_rfl
@[go_sem] theorem ts124 : (Tryz.prog.underlying 124).isSome = true := by kernel_rfl
@[go_sem] theorem tz124 : tyZero Tryz.prog 124 = some [.nilfn] := by kernel_rfl
@[go_sem] theorem tb124 : tyBytes Tryz.prog 124 = some 8 := by kernel_rfl
@[go_sem] theorem ta125 : tyAgg Tryz.prog 125 = some (false, 1) := by kernel_rfl
@[go_sem] theorem ts125 : (Tryz.prog.underlying 125).isSome = true := by kernel_rfl
@[go_sem] theorem ta126 : tyAgg Tryz.prog 126 = some (false, 1) := by kernel_rfl
@[go_sem] theorem ts126 : (Tryz.prog.underlying 126).isSome = true := by kernel_rfl
@[go_sem] theorem tz126 : tyZero Tryz.prog 126 = some [.nilfn] := by kernel_rfl
@[go_sem] theorem tb126 : tyBytes Tryz.prog 126 = some 8 := by kernel_rfl
@[go_sem] theorem ta127 : tyAgg Tryz.prog 127 = some (false, 1) := by kernel_rfl
@[go_sem] theorem ts127 : (Tryz.prog.underlying 127).isSome = true := by kernel_rfl
@[go_sem] theorem tz127 : tyZero Tryz.prog 127 = some [.nilfn] := by kernel_rfl
@[go_sem] theorem tb127 : tyBytes Tryz.prog 127 = some 8 := by kernel_rfl
@[go_sem] theorem ta128 : tyAgg Tryz.prog 128 = some (false, 1) := by kernel_rfl
@[go_sem] theorem ts128 : (Tryz.prog.underlying 128).isSome = true := by kernel_rfl
@[go_sem] theorem ta129 : tyAgg Tryz.prog 129 = some (false, 1) := by kernel_rfl
@[go_sem] theorem ts129 : (Tryz.prog.underlying 129).isSome = true := by kernel_rfl
@[go_sem] theorem tz129 : tyZero Tryz.prog 129 = some [.nilfn] := by kernel_rfl
@[go_sem] theorem tb129 : tyBytes Tryz.prog 129 = some 8 := by kernel_rfl
@[go_sem] theorem ta130 : tyAgg Tryz.prog 130 = some (false, 1) := by kernel_rfl
@[go_sem] theorem ts130 : (Tryz.prog.underlying 130).isSome = true := by kernel_rfl
@[go_sem] theorem tz130 : tyZero Tryz.prog 130 = some [.nilfn] := by kernel_rfl
@[go_sem] theorem tb130 : tyBytes Tryz.prog 130 = some 8 := by kernel_rfl
@[go_sem] theorem ta131 : tyAgg Tryz.prog 131 = some (false, 1) := by kernel_rfl
@[go_sem] theorem ts131 : (Tryz.prog.underlying 131).isSome = true := by kernel_rfl
@[go_sem] theorem tz131 : tyZero Tryz.prog 131 = some [.nilfn] := by kernel_rfl
@[go_sem] theorem tb131 : tyBytes Tryz.prog 131 = some 8 := by kernel_rfl
@[go_sem] theorem ta132 : tyAgg Tryz.prog 132 = some (false, 1) := by kernel_rfl
@[go_sem] theorem ts132 : (Tryz.prog.underlying 132).isSome = true := by kernel_rfl
@[go_sem] theorem tz132 : tyZero Tryz.prog 132 = some [.nilfn] := by kernel_rfl
@[go_sem] theorem tb132 : tyBytes Tryz.prog 132 = some 8 := by kernel_rfl
@[go_sem] theorem ta133 : tyAgg Tryz.prog 133 = some (false, 1) := by kernel_rfl
@[go_sem] theorem ts133 : (Tryz.prog.underlying 133).isSome = true := by kernel_rfl
@[go_sem] theorem tz133 : tyZero Tryz.prog 133 = some [.nilfn] := by kernel_rfl
@[go_sem] theorem tb133 : tyBytes Tryz.prog 133 = some 8 := by kernel_rfl
@[go_sem] theorem ta134 : tyAgg Tryz.prog 134 = some (false, 1) := by kernel_rfl
@[go_sem] theorem ts134 : (Tryz.prog.underlying 134).isSome = true := by kernel_rfl
@[go_sem] theorem tz134 : tyZero Tryz.prog 134 = some [.nilfn] := by kernel_rfl
@[go_sem] theorem tb134 : tyBytes Tryz.prog 134 = some 8 := by kernel_rfl
@[go_sem] theorem ta135 : tyAgg Tryz.prog 135 = some (false, 1) := by kernel_rfl
@[go_sem] theorem ts135 : (Tryz.prog.underlying 135).isSome = true := by kernel_rfl
@[go_sem] theorem tz135 : tyZero Tryz.prog 135 = some [.nilfn] := by kernel_rfl
@[go_sem] theorem tb135 : tyBytes Tryz.prog 135 = some 8 := by kernel_rfl
@[go_sem] theorem ta136 : tyAgg Tryz.prog 136 = some (false, 1) := by kernel_rfl
@[go_sem] theorem ts136 : (Tryz.prog.underlying 136).isSome = true := by kernel_rfl
@[go_sem] theorem tz136 : tyZero Tryz.prog 136 = some [.nilfn] := by kernel_rfl
@[go_sem] theorem tb136 : tyBytes Tryz.prog 136 = some 8 := by kernel_rfl
@[go_sem] theorem ta137 : tyAgg Tryz.prog 137 = some (false, 1) := by kernel_rfl
@[go_sem] theorem ts137 : (Tryz.prog.underlying 137).isSome = true := by kernel_rfl
@[go_sem] theorem tz137 : tyZero Tryz.prog 137 = some [.nilfn] := by kernel_rfl
@[go_sem] theorem tb137 : tyBytes Tryz.prog 137 = some 8 := by kernel_rfl
@[go_sem] theorem ta138 : tyAgg Tryz.prog 138 = some (false, 1) := by kernel_rfl
@[go_sem] theorem ts138 : (Tryz.prog.underlying 138).isSome = true := by kernel_rfl
@[go_sem] theorem tz138 : tyZero Tryz.prog 138 = some [.nilfn] := by kernel_rfl
@[go_sem] theorem tb138 : tyBytes Tryz.prog 138 = some 8 := by kernel_rfl
@[go_sem] theorem ta139 : tyAgg Tryz.prog 139 = some (false, 1) := by kernel_rfl
@[go_sem] theorem ts139 : (Tryz.prog.underlying 139).isSome = true := by kernel_rfl
@[go_sem] theorem tz139 : tyZero Tryz.prog 139 = some [.nilfn] := by kernel_rfl
@[go_sem] theorem tb139 : tyBytes Tryz.prog 139 = some 8 := by kernel_rfl
@[go_sem] theorem ta140 : tyAgg Tryz.prog 140 = some (false, 1) := by kernel_rfl
@[go_sem] theorem ts140 : (Tryz.prog.underlying 140).isSome = true := by kernel_rfl
@[go_sem] theorem tz140 : tyZero Tryz.prog 140 = some [.nilfn] := by kernel_rfl
@[go_sem] theorem tb140 : tyBytes Tryz.prog 140 = some 8 := by kernel_rfl
@[go_sem] theorem ta141 : tyAgg Tryz.prog 141 = some (false, 1) := by kernel_rfl
@[go_sem] theorem ts141 : (Tryz.prog.underlying 141).isSome = true := by kernel_rfl
@[go_sem] theorem tz141 : tyZero Tryz.prog 141 = some [.nilfn] := by kernel_rfl
@[go_sem] theorem tb141 : tyBytes Tryz.prog 141 = some 8 := by kernel_rfl
@[go_sem] theorem ta142 : tyAgg Tryz.prog 142 = some (false, 1) := by kernel_rfl
@[go_sem] theorem ts142 : (Tryz.prog.underlying 142).isSome = true := by kernel_rfl
@[go_sem] theorem tz142 : tyZero Tryz.prog 142 = some [.nilfn] := by kernel_rfl
@[go_sem] theorem tb142 : tyBytes Tryz.prog 142 = some 8 := by kernel_rfl
@[go_sem] theorem ta143 : tyAgg Tryz.prog 143 = some (false, 1) := by kernel_rfl
@[go_sem] theorem ts143 : (Tryz.prog.underlying 143).isSome = true := by kernel_rfl
@[go_sem] theorem tb143 : tyBytes Tryz.prog 143 = some 8 := by kernel_rfl
@[go_sem] theorem ta144 : tyAgg Tryz.prog 144 = some (false, 1) := by kernel_rfl
@[go_sem] theorem ts144 : (Tryz.prog.underlying 144).isSome = true := by kernel_rfl
@[go_sem] theorem tz144 : tyZero Tryz.prog 144 = some [.nilfn] := by kernel_rfl
@[go_sem] theorem tb144 : tyBytes Tryz.prog 144 = some 8 := by kernel_rfl
@[go_sem] theorem ta145 : tyAgg Tryz.prog 145 = some (false, 1) := by kernel_rfl
@[go_sem] theorem ts145 : (Tryz.prog.underlying 145).isSome = true := by kernel_rfl
@[go_sem] theorem tz145 : tyZero Tryz.prog 145 = some [.nils] := by kernel_rfl
@[go_sem] theorem te145 : tyElem Tryz.prog 145 = some (40, 4) := by kernel_rfl
@[go_sem] theorem tb145 : tyBytes Tryz.prog 145 = some 24 := by kernel_rfl
@[go_sem] theorem ta146 : tyAgg Tryz.prog 146 = some (false, 1) := by kernel_rfl
@[go_sem] theorem ts146 : (Tryz.prog.underlying 146).isSome = true := by kernel_rfl
@[go_sem] theorem tz146 : tyZero Tryz.prog 146 = some [.nilfn] := by kernel_rfl
@[go_sem] theorem tb146 : tyBytes Tryz.prog 146 = some 8 := by kernel_rfl
@[go_sem] theorem ta147 : tyAgg Tryz.prog 147 = some (false, 1) := by kernel_rfl
@[go_sem] theorem ts147 : (Tryz.prog.underlying 147).isSome = true := by kernel_rfl
@[go_sem] theorem ta148 : tyAgg Tryz.prog 148 = some (false, 1) := by kernel_rfl
@[go_sem] theorem ts148 : (Tryz.prog.underlying 148).isSome = true := by kernel_rfl
@[go_sem] theorem tz148 : tyZero Tryz.prog 148 = some [.nilfn] := by kernel_rfl
@[go_sem] theorem tb148 : tyBytes Tryz.prog 148 = some 8 := by kernel_rfl
@[go_sem] theorem ta149 : tyAgg Tryz.prog 149 = some (false, 1) := by kernel_rfl
@[go_sem] theorem ts149 : (Tryz.prog.underlying 149).isSome = true := by kernel_rfl
@[go_sem] theorem tz149 : tyZero Tryz.prog 149 = some [.nilfn] := by kernel_rfl
@[go_sem] theorem tb149 : tyBytes Tryz.prog 149 = some 8 := by kernel_rfl
@[go_sem] theorem ta150 : tyAgg Tryz.prog 150 = some (false, 1) := by kernel_rfl
@[go_sem] theorem ts150 : (Tryz.prog.underlying 150).isSome = true := by kernel_rfl
@[go_sem] theorem tz150 : tyZero Tryz.prog 150 = some [.nilfn] := by kernel_rfl
@[go_sem] theorem tb150 : tyBytes Tryz.prog 150 = some 8 := by kernel_rfl
@[go_sem] theorem ta151 : tyAgg Tryz.prog 151 = some (false, 1) := by kernel_rfl
@[go_sem] theorem ts151 : (Tryz.prog.underlying 151).isSome = true := by kernel_rfl
@[go_sem] theorem tz151 : tyZero Tryz.prog 151 = some [.nilfn] := by kernel_rfl
@[go_sem] theorem tb151 : tyBytes Tryz.prog 151 = some 8 := by kernel_rfl
@[go_sem] theorem ta152 : tyAgg Tryz.prog 152 = some (false, 1) := by kernel_rfl
@[go_sem] theorem ts152 : (Tryz.prog.underlying 152).isSome = true := by kernel_rfl
@[go_sem] theorem tz152 : tyZero Tryz.prog 152 = some [.nilfn] := by kernel_rfl
@[go_sem] theorem tb152 : tyBytes Tryz.prog 152 = some 8 := by kernel_rfl
@[go_sem] theorem ta153 : tyAgg Tryz.prog 153 = some (false, 1) := by kernel_rfl
@[go_sem] theorem ts153 : (Tryz.prog.underlying 153).isSome = true := by kernel_rfl
@[go_sem] theorem tz153 : tyZero Tryz.prog 153 = some [.nilfn] := by kernel_rfl
@[go_sem] theorem tb153 : tyBytes Tryz.prog 153 = some 8 := by kernel_rfl
@[go_sem] theorem ta154 : tyAgg Tryz.prog 154 = some (false, 1) := by kernel_rfl
@[go_sem] theorem ts154 : (Tryz.prog.underlying 154).isSome = true := by kernel_rfl
@[go_sem] theorem tz154 : tyZero Tryz.prog 154 = some [.nilfn] := by kernel_rfl
@[go_sem] theorem tb154 : tyBytes Tryz.prog 154 = some 8 := by kernel_rfl
@[go_sem] theorem ta155 : tyAgg Tryz.prog 155 = some (false, 1) := by kernel_rfl
@[go_sem] theorem ts155 : (Tryz.prog.underlying 155).isSome = true := by kernel_rfl
@[go_sem] theorem tz155 : tyZero Tryz.prog 155 = some [.nilfn] := by kernel_rfl
@[go_sem] theorem tb155 : tyBytes Tryz.prog 155 = some 8 := by kernel_rfl
@[go_sem] theorem ta156 : tyAgg Tryz.prog 156 = some (false, 1) := by kernel_rfl
@[go_sem] theorem ts156 : (Tryz.prog.underlying 156).isSome = true := by kernel_rfl
@[go_sem] theorem tz156 : tyZero Tryz.prog 156 = some [.nilfn] := by kernel_rfl
@[go_sem] theorem tb156 : tyBytes Tryz.prog 156 = some 8 := by kernel_rfl
@[go_sem] theorem ta157 : tyAgg Tryz.prog 157 = some (false, 1) := by kernel_rfl
@[go_sem] theorem ts157 : (Tryz.prog.underlying 157).isSome = true := by kernel_rfl
@[go_sem] theorem tz157 : tyZero Tryz.prog 157 = some [.nilfn] := by kernel_rfl
@[go_sem] theorem tb157 : tyBytes Tryz.prog 157 = some 8 := by kernel_rfl
@[go_sem] theorem ta158 : tyAgg Tryz.prog 158 = some (false, 1) := by kernel_rfl
@[go_sem] theorem ts158 : (Tryz.prog.underlying 158).isSome = true := by kernel_rfl
@[go_sem] theorem tz158 : tyZero Tryz.prog 158 = some [.nilfn] := by kernel_rfl
@[go_sem] theorem tb158 : tyBytes Tryz.prog 158 = some 8 := by kernel_rfl
@[go_sem] theorem ta159 : tyAgg Tryz.prog 159 = some (false, 1) := by kernel_rfl
@[go_sem] theorem ts159 : (Tryz.prog.underlying 159).isSome = true := by kernel_rfl
@[go_sem] theorem tz159 : tyZero Tryz.prog 159 = some [.nilfn] := by kernel_rfl
@[go_sem] theorem tb159 : tyBytes Tryz.prog 159 = some 8 := by kernel_rfl
@[go_sem] theorem ta160 : tyAgg Tryz.prog 160 = some (false, 1) := by kernel_rfl
@[go_sem] theorem ts160 : (Tryz.prog.underlying 160).isSome = true := by kernel_rfl
@[go_sem] theorem tz160 : tyZero Tryz.prog 160 = some [.nilfn] := by kernel_rfl
@[go_sem] theorem tb160 : tyBytes Tryz.prog 160 = some 8 := by kernel_rfl
@[go_sem] theorem ta161 : tyAgg Tryz.prog 161 = some (false, 1) := by kernel_rfl
@[go_sem] theorem ts161 : (Tryz.prog.underlying 161).isSome = true := by kernel_rfl
@[go_sem] theorem tz161 : tyZero Tryz.prog 161 = some [.nilfn] := by kernel_rfl
@[go_sem] theorem tb161 : tyBytes Tryz.prog 161 = some 8 := by kernel_rfl
@[go_sem] theorem ta162 : tyAgg Tryz.prog 162 = some (false, 1) := by kernel_rfl
@[go_sem] theorem ts162 : (Tryz.prog.underlying 162).isSome = true := by kernel_rfl
@[go_sem] theorem tz162 : tyZero Tryz.prog 162 = some [.nilfn] := by kernel_rfl
@[go_sem] theorem tb162 : tyBytes Tryz.prog 162 = some 8 := by kernel_rfl
@[go_sem] theorem ta163 : tyAgg Tryz.prog 163 = some (false, 1) := by kernel_rfl
@[go_sem] theorem ts163 : (Tryz.prog.underlying 163).isSome = true := by kernel_rfl
@[go_sem] theorem tz163 : tyZero Tryz.prog 163 = some [.int .u64 0] := by kernel_rfl
@[go_sem] theorem tb163 : tyBytes Tryz.prog 163 = some 8 := by kernel_rfl
@[go_sem] theorem ti163 : tyInt Tryz.prog 163 = some .u64 := by kernel_rfl
@[go_sem] theorem ta164 : tyAgg Tryz.prog 164 = some (false, 1) := by kernel_rfl
@[go_sem] theorem ts164 : (Tryz.prog.underlying 164).isSome = true := by kernel_rfl
@[go_sem] theorem tz164 : tyZero Tryz.prog 164 = some [.nilfn] := by kernel_rfl
@[go_sem] theorem tb164 : tyBytes Tryz.prog 164 = some 8 := by kernel_rfl
@[go_sem] theorem ta165 : tyAgg Tryz.prog 165 = some (false, 1) := by kernel_rfl
@[go_sem] theorem ts165 : (Tryz.prog.underlying 165).isSome = true := by kernel_rfl
@[go_sem] theorem ta166 : tyAgg Tryz.prog 166 = some (false, 1) := by kernel_rfl
@[go_sem] theorem ts166 : (Tryz.prog.underlying 166).isSome = true := by kernel_rfl
@[go_sem] theorem tz166 : tyZero Tryz.prog 166 = some [.nilfn] := by kernel_rfl
@[go_sem] theorem tb166 : tyBytes Tryz.prog 166 = some 8 := by kernel_rfl
@[go_sem] theorem ta167 : tyAgg Tryz.prog 167 = some (false, 1) := by kernel_rfl
@[go_sem] theorem ts167 : (Tryz.prog.underlying 167).isSome = true := by kernel_rfl
@[go_sem] theorem tz167 : tyZero Tryz.prog 167 = some [.nilfn] := by kernel_rfl
@[go_sem] theorem tb167 : tyBytes Tryz.prog 167 = some 8 := by kernel_rfl
@[go_sem] theorem ta168 : tyAgg Tryz.prog 168 = some (false, 1) := by kernel_rfl
@[go_sem] theorem ts168 : (Tryz.prog.underlying 168).isSome = true := by kernel_rfl
@[go_sem] theorem tz168 : tyZero Tryz.prog 168 = some [.nilfn] := by kernel_rfl
@[go_sem] theorem tb168 : tyBytes Tryz.prog 168 = some 8 := by kernel_rfl
@[go_sem] theorem ta169 : tyAgg Tryz.prog 169 = some (false, 1) := by kernel_rfl
@[go_sem] theorem ts169 : (Tryz.prog.underlying 169).isSome = true := by kernel_rfl
@[go_sem] theorem tz169 : tyZero Tryz.prog 169 = some [.nilfn] := by kernel_rfl
@[go_sem] theorem tb169 : tyBytes Tryz.prog 169 = some 8 := by kernel_rfl
@[go_sem] theorem ta170 : tyAgg Tryz.prog 170 = some (false, 1) := by kernel_rfl
@[go_sem] theorem ts170 : (Tryz.prog.underlying 170).isSome = true := by kernel_rfl
@[go_sem] theorem tz170 : tyZero Tryz.prog 170 = some [.nilfn] := by kernel_rfl
@[go_sem] theorem tb170 : tyBytes Tryz.prog 170 = some 8 := by kernel_rfl
@[go_sem] theorem ta172 : tyAgg Tryz.prog 172 = some (true, 2) := by kernel_rfl
@[go_sem] theorem ts172 : (Tryz.prog.underlying 172).isSome = true := by kernel_rfl
@[go_sem] theorem tz172 : tyZero Tryz.prog 172 = some [.int .u8 0, .int .u8 0] := by kernel_rfl
@[go_sem] theorem tf172_0 : tyField Tryz.prog 172 0 = some 0 := by kernel_rfl
@[go_sem] theorem tf172_1 : tyField Tryz.prog 172 1 = some 1 := by kernel_rfl
@[go_sem] theorem tp172 : tyPlaces Tryz.prog 172 = some [(0, 1), (1, 1)] := by kernel_rfl
@[go_sem] theorem tb172 : tyBytes Tryz.prog 172 = some 2 := by kernel_rfl
@[go_sem] theorem ta173 : tyAgg Tryz.prog 173 = some (true, 2) := by kernel_rfl
@[go_sem] theorem ts173 : (Tryz.prog.underlying 173).isSome = true := by kernel_rfl
@[go_sem] theorem tz173 : tyZero Tryz.prog 173 = some [.int .u8 0, .int .u8 0] := by kernel_rfl
@[go_sem] theorem tf173_0 : tyField Tryz.prog 173 0 = some 0 := by kernel_rfl
@[go_sem] theorem tf173_1 : tyField Tryz.prog 173 1 = some 1 := by kernel_rfl
@[go_sem] theorem tp173 : tyPlaces Tryz.prog 173 = some [(0, 1), (1, 1)] := by kernel_rfl
@[go_sem] theorem tb173 : tyBytes Tryz.prog 173 = some 2 := by kernel_rfl
@[go_sem] theorem ta174 : tyAgg Tryz.prog 174 = some (true, 32) := by kernel_rfl
@[go_sem] theorem ts174 : (Tryz.prog.underlying 174).isSome = true := by kernel_rfl
@[go_sem] theorem tz174 : tyZero Tryz.prog 174 = some [.int .u8 0, .int .u8 0, .int .u8 0, .int .u8 0, .int .u8 0, .int .u8 0, .int .u8 0, .int .u8 0, .int .u8 0, .int .u8 0, .int .u8 0, .int .u8 0, .int .u8 0, .int .u8 0, .int .u8 0, .int .u8 0, .int .u8 0, .int .u8 0, .int .u8 0, .int .u8 0, .int .u8 0, .int .u8 0, .int .u8 0, .int .u8 0, .int .u8 0, .int .u8 0, .int .u8 0, .int .u8 0, .int .u8 0, .int .u8 0, .int .u8 0, .int .u8 0] := by kernel_rfl
@[go_sem] theorem tb174 : tyBytes Tryz.prog 174 = some 32 := by kernel_rfl
@[go_sem] theorem ta175 : tyAgg Tryz.prog 175 = some (false, 1) := by kernel_rfl
@[go_sem] theorem ts175 : (Tryz.prog.underlying 175).isSome = true := by kernel_rfl
@[go_sem] theorem tz175 : tyZero Tryz.prog 175 = some [.int .u32 0] := by kernel_rfl
@[go_sem] theorem tb175 : tyBytes Tryz.prog 175 = some 4 := by kernel_rfl
@[go_sem] theorem ti175 : tyInt Tryz.prog 175 = some .u32 := by kernel_rfl
@[go_sem] theorem ta176 : tyAgg Tryz.prog 176 = some (false, 1) := by kernel_rfl
@[go_sem] theorem ts176 : (Tryz.prog.underlying 176).isSome = true := by kernel_rfl
@[go_sem] theorem ta177 : tyAgg Tryz.prog 177 = some (false, 1) := by kernel_rfl
@[go_sem] theorem ts177 : (Tryz.prog.underlying 177).isSome = true := by kernel_rfl
@[go_sem] theorem tz177 : tyZero Tryz.prog 177 = some [.nilfn] := by kernel_rfl
@[go_sem] theorem tb177 : tyBytes Tryz.prog 177 = some 8 := by kernel_rfl
@[go_sem] theorem ta178 : tyAgg Tryz.prog 178 = some (false, 1) := by kernel_rfl
@[go_sem] theorem ts178 : (Tryz.prog.underlying 178).isSome = true := by kernel_rfl
@[go_sem] theorem tz178 : tyZero Tryz.prog 178 = some [.nilfn] := by kernel_rfl
@[go_sem] theorem tb178 : tyBytes Tryz.prog 178 = some 8 := by kernel_rfl
@[go_sem] theorem ta179 : tyAgg Tryz.prog 179 = some (true, 4) := by kernel_rfl
@[go_sem] theorem ts179 : (Tryz.prog.underlying 179).isSome = true := by kernel_rfl
@[go_sem] theorem tz179 : tyZero Tryz.prog 179 = some [.nilp, .nilp, .nilp, .str []] := by kernel_rfl
@[go_sem] theorem tf179_0 : tyField Tryz.prog 179 0 = some 0 := by kernel_rfl
@[go_sem] theorem tf179_1 : tyField Tryz.prog 179 1 = some 1 := by kernel_rfl
@[go_sem] theorem tf179_2 : tyField Tryz.prog 179 2 = some 2 := by kernel_rfl
@[go_sem] theorem tf179_3 : tyField Tryz.prog 179 3 = some 3 := by kernel_rfl
@[go_sem] theorem tp179 : tyPlaces Tryz.prog 179 = some [(0, 1), (1, 1), (2, 1), (3, 1)] := by kernel_rfl
@[go_sem] theorem tb179 : tyBytes Tryz.prog 179 = some 40 := by kernel_rfl
@[go_sem] theorem ta180 : tyAgg Tryz.prog 180 = some (true, 4) := by kernel_rfl
@[go_sem] theorem ts180 : (Tryz.prog.underlying 180).isSome = true := by kernel_rfl
@[go_sem] theorem tz180 : tyZero Tryz.prog 180 = some [.nilp, .nilp, .nilp, .str []] := by kernel_rfl
@[go_sem] theorem tf180_0 : tyField Tryz.prog 180 0 = some 0 := by kernel_rfl
@[go_sem] theorem tf180_1 : tyField Tryz.prog 180 1 = some 1 := by kernel_rfl
@[go_sem] theorem tf180_2 : tyField Tryz.prog 180 2 = some 2 := by kernel_rfl
@[go_sem] theorem tf180_3 : tyField Tryz.prog 180 3 = some 3 := by kernel_rfl
@[go_sem] theorem tp180 : tyPlaces Tryz.prog 180 = some [(0, 1), (1, 1), (2, 1), (3, 1)] := by kernel_rfl
@[go_sem] theorem tb180 : tyBytes Tryz.prog 180 = some 40 := by kernel_rfl
@[go_sem] theorem ta184 : tyAgg Tryz.prog 184 = some (false, 1) := by kernel_rfl
@[go_sem] theorem ts184 : (Tryz.prog.underlying 184).isSome = true := by kernel_rfl
@[go_sem] theorem tz184 : tyZero Tryz.prog 184 = some [.nilfn] := by kernel_rfl
@[go_sem] theorem tb184 : tyBytes Tryz.prog 184 = some 8 := by kernel_rfl
@[go_sem] theorem ta185 : tyAgg Tryz.prog 185 = some (false, 1) := by kernel_rfl
@[go_sem] theorem ts185 : (Tryz.prog.underlying 185).isSome = true := by kernel_rfl
@[go_sem] theorem tz185 : tyZero Tryz.prog 185 = some [.int .u8 0] := by kernel_rfl
@[go_sem] theorem tb185 : tyBytes Tryz.prog 185 = some 1 := by kernel_rfl
@[go_sem] theorem ti185 : tyInt Tryz.prog 185 = some .u8 := by kernel_rfl
@[go_sem] theorem ta186 : tyAgg Tryz.prog 186 = some (false, 1) := by kernel_rfl
@[go_sem] theorem ts186 : (Tryz.prog.underlying 186).isSome = true := by kernel_rfl
@[go_sem] theorem tz186 : tyZero Tryz.prog 186 = some [.int .u8 0] := by kernel_rfl
@[go_sem] theorem tb186 : tyBytes Tryz.prog 186 = some 1 := by kernel_rfl
@[go_sem] theorem ti186 : tyInt Tryz.prog 186 = some .u8 := by kernel_rfl
@[go_sem] theorem ta187 : tyAgg Tryz.prog 187 = some (false, 1) := by kernel_rfl
@[go_sem] theorem ts187 : (Tryz.prog.underlying 187).isSome = true := by kernel_rfl
@[go_sem] theorem tz187 : tyZero Tryz.prog 187 = some [.nilfn] := by kernel_rfl
@[go_sem] theorem tb187 : tyBytes Tryz.prog 187 = some 8 := by kernel_rfl
@[go_sem] theorem ta188 : tyAgg Tryz.prog 188 = some (false, 1) := by kernel_rfl
@[go_sem] theorem ts188 : (Tryz.prog.underlying 188).isSome = true := by kernel_rfl
@[go_sem] theorem tz188 : tyZero Tryz.prog 188 = some [.nilp] := by kernel_rfl
@[go_sem] theorem tb188 : tyBytes Tryz.prog 188 = some 8 := by kernel_rfl
@[go_sem] theorem ta189 : tyAgg Tryz.prog 189 = some (false, 1) := by kernel_rfl
@[go_sem] theorem ts189 : (Tryz.prog.underlying 189).isSome = true := by kernel_rfl
@[go_sem] theorem tz189 : tyZero Tryz.prog 189 = some [.int .i32 0] := by kernel_rfl
@[go_sem] theorem tb189 : tyBytes Tryz.prog 189 = some 4 := by kernel_rfl
@[go_sem] theorem ti189 : tyInt Tryz.prog 189 = some .i32 := by kernel_rfl
@[go_sem] theorem ta190 : tyAgg Tryz.prog 190 = some (false, 1) := by kernel_rfl
@[go_sem] theorem ts190 : (Tryz.prog.underlying 190).isSome = true := by kernel_rfl
@[go_sem] theorem tz190 : tyZero Tryz.prog 190 = some [.int .i32 0] := by kernel_rfl
@[go_sem] theorem tb190 : tyBytes Tryz.prog 190 = some 4 := by kernel_rfl
@[go_sem] theorem ti190 : tyInt Tryz.prog 190 = some .i32 := by kernel_rfl
@[go_sem] theorem ta191 : tyAgg Tryz.prog 191 = some (true, 11) := by kernel_rfl
@[go_sem] theorem ts191 : (Tryz.prog.underlying 191).isSome = true := by kernel_rfl
@[go_sem] theorem tz191 : tyZero Tryz.prog 191 = some [.int .u64 0, .int .u64 0, .int .u32 0, .int .u8 0, .int .u8 0, .int .u8 0, .int .u8 0, .nilfn, .nilp, .int .i32 0, .int .i32 0] := by kernel_rfl
@[go_sem] theorem tf191_0 : tyField Tryz.prog 191 0 = some 0 := by kernel_rfl
@[go_sem] theorem tf191_1 : tyField Tryz.prog 191 1 = some 1 := by kernel_rfl
@[go_sem] theorem tf191_2 : tyField Tryz.prog 191 2 = some 2 := by kernel_rfl
@[go_sem] theorem tf191_3 : tyField Tryz.prog 191 3 = some 3 := by kernel_rfl
@[go_sem] theorem tf191_4 : tyField Tryz.prog 191 4 = some 4 := by kernel_rfl
@[go_sem] theorem tf191_5 : tyField Tryz.prog 191 5 = some 5 := by kernel_rfl
@[go_sem] theorem tf191_6 : tyField Tryz.prog 191 6 = some 6 := by kernel_rfl
@[go_sem] theorem tf191_7 : tyField Tryz.prog 191 7 = some 7 := by kernel_rfl
@[go_sem] theorem tf191_8 : tyField Tryz.prog 191 8 = some 8 := by kernel_rfl
@[go_sem] theorem tf191_9 : tyField Tryz.prog 191 9 = some 9 := by kernel_rfl
@[go_sem] theorem tf191_10 : tyField Tryz.prog 191 10 = some 10 := by kernel_rfl
@[go_sem] theorem tp191 : tyPlaces Tryz.prog 191 = some [(0, 1), (1, 1), (2, 1), (3, 1), (4, 1), (5, 1), (6, 1), (7, 1), (8, 1), (9, 1), (10, 1)] := by kernel_rfl
@[go_sem] theorem tb191 : tyBytes Tryz.prog 191 = some 48 := by kernel_rfl
@[go_sem] theorem ta192 : tyAgg Tryz.prog 192 = some (true, 11) := by kernel_rfl
@[go_sem] theorem ts192 : (Tryz.prog.underlying 192).isSome = true := by kernel_rfl
@[go_sem] theorem tz192 : tyZero Tryz.prog 192 = some [.int .u64 0, .int .u64 0, .int .u32 0, .int .u8 0, .int .u8 0, .int .u8 0, .int .u8 0, .nilfn, .nilp, .int .i32 0, .int .i32 0] := by kernel_rfl
@[go_sem] theorem tf192_0 : tyField Tryz.prog 192 0 = some 0 := by kernel_rfl
@[go_sem] theorem tf192_1 : tyField Tryz.prog 192 1 = some 1 := by kernel_rfl
@[go_sem] theorem tf192_2 : tyField Tryz.prog 192 2 = some 2 := by kernel_rfl
@[go_sem] theorem tf192_3 : tyField Tryz.prog 192 3 = some 3 := by kernel_rfl
@[go_sem] theorem tf192_4 : tyField Tryz.prog 192 4 = some 4 := by kernel_rfl
@[go_sem] theorem tf192_5 : tyField Tryz.prog 192 5 = some 5 := by kernel_rfl
@[go_sem] theorem tf192_6 : tyField Tryz.prog 192 6 = some 6 := by kernel_rfl
@[go_sem] theorem tf192_7 : tyField Tryz.prog 192 7 = some 7 := by kernel_rfl
@[go_sem] theorem tf192_8 : tyField Tryz.prog 192 8 = some 8 := by kernel_rfl
@[go_sem] theorem tf192_9 : tyField Tryz.prog 192 9 = some 9 := by kernel_rfl
@[go_sem] theorem tf192_10 : tyField Tryz.prog 192 10 = some 10 := by kernel_rfl
@[go_sem] theorem tp192 : tyPlaces Tryz.prog 192 = some [(0, 1), (1, 1), (2, 1), (3, 1), (4, 1), (5, 1), (6, 1), (7, 1), (8, 1), (9, 1), (10, 1)] := by kernel_rfl
@[go_sem] theorem tb192 : tyBytes Tryz.prog 192 = some 48 := by kernel_rfl
@[go_sem] theorem ta193 : tyAgg Tryz.prog 193 = some (false, 1) := by kernel_rfl
@[go_sem] theorem ts193 : (Tryz.prog.underlying 193).isSome = true := by kernel_rfl
@[go_sem] theorem tz193 : tyZero Tryz.prog 193 = some [.nilp] := by kernel_rfl
@[go_sem] theorem tb193 : tyBytes Tryz.prog 193 = some 8 := by kernel_rfl
@[go_sem] theorem tfol : Tryz.prog.follows .mixedOrders = true := by kernel_rfl
theorem ok3 : fnOk Tryz.prog 3 = true := by kernel_rfl
theorem ok4 : fnOk Tryz.prog 4 = true := by kernel_rfl
theorem ok5 : fnOk Tryz.prog 5 = true := by kernel_rfl
theorem ok6 : fnOk Tryz.prog 6 = true := by kernel_rfl
theorem ok7 : fnOk Tryz.prog 7 = true := by kernel_rfl
theorem ok8 : fnOk Tryz.prog 8 = true := by kernel_rfl
theorem ok9 : fnOk Tryz.prog 9 = true := by kernel_rfl
theorem ok10 : fnOk Tryz.prog 10 = true := by kernel_rfl
theorem ok11 : fnOk Tryz.prog 11 = true := by kernel_rfl
theorem ok12 : fnOk Tryz.prog 12 = true := by kernel_rfl
theorem ok13 : fnOk Tryz.prog 13 = true := by kernel_rfl
theorem ok14 : fnOk Tryz.prog 14 = true := by kernel_rfl
theorem ok15 : fnOk Tryz.prog 15 = true := by kernel_rfl
theorem ok16 : fnOk Tryz.prog 16 = true := by kernel_rfl
theorem ok17 : fnOk Tryz.prog 17 = true := by kernel_rfl
theorem ok18 : fnOk Tryz.prog 18 = true := by kernel_rfl
theorem ok19 : fnOk Tryz.prog 19 = true := by kernel_rfl
theorem ok20 : fnOk Tryz.prog 20 = true := by kernel_rfl
theorem ok21 : fnOk Tryz.prog 21 = true := by kernel_rfl
theorem ok22 : fnOk Tryz.prog 22 = true := by kernel_rfl
theorem ok23 : fnOk Tryz.prog 23 = true := by kernel_rfl
theorem ok24 : fnOk Tryz.prog 24 = true := by kernel_rfl
theorem ok25 : fnOk Tryz.prog 25 = true := by kernel_rfl
theorem ok26 : fnOk Tryz.prog 26 = true := by kernel_rfl
theorem ok27 : fnOk Tryz.prog 27 = true := by kernel_rfl
theorem ok28 : fnOk Tryz.prog 28 = true := by kernel_rfl
theorem ok29 : fnOk Tryz.prog 29 = true := by kernel_rfl
theorem ok30 : fnOk Tryz.prog 30 = true := by kernel_rfl
theorem ok31 : fnOk Tryz.prog 31 = true := by kernel_rfl
theorem ok32 : fnOk Tryz.prog 32 = true := by kernel_rfl
theorem ok33 : fnOk Tryz.prog 33 = true := by kernel_rfl
theorem ok34 : fnOk Tryz.prog 34 = true := by kernel_rfl
theorem ok35 : fnOk Tryz.prog 35 = true := by kernel_rfl
theorem ok36 : fnOk Tryz.prog 36 = true := by kernel_rfl
theorem ok37 : fnOk Tryz.prog 37 = true := by kernel_rfl
theorem ok38 : fnOk Tryz.prog 38 = true := by kernel_rfl
theorem ok39 : fnOk Tryz.prog 39 = true := by kernel_rfl
theorem ok40 : fnOk Tryz.prog 40 = true := by kernel_rfl
theorem ok41 : fnOk Tryz.prog 41 = true := by kernel_rfl
theorem ok42 : fnOk Tryz.prog 42 = true := by kernel_rfl
theorem ok43 : fnOk Tryz.prog 43 = true := by kernel_rfl
theorem ok44 : fnOk Tryz.prog 44 = true := by kernel_rfl
theorem ok45 : fnOk Tryz.prog 45 = true := by kernel_rfl
theorem ok46 : fnOk Tryz.prog 46 = true := by kernel_rfl
theorem ok47 : fnOk Tryz.prog 47 = true := by kernel_rfl
theorem ok48 : fnOk Tryz.prog 48 = true := by kernel_rfl
theorem ok49 : fnOk Tryz.prog 49 = true := by kernel_rfl
theorem ok50 : fnOk Tryz.prog 50 = true := by kernel_rfl
theorem ok51 : fnOk Tryz.prog 51 = true := by kernel_rfl
theorem ok52 : fnOk Tryz.prog 52 = true := by kernel_rfl
theorem ok53 : fnOk Tryz.prog 53 = true := by kernel_rfl
theorem ok54 : fnOk Tryz.prog 54 = true := by kernel_rfl
theorem ok55 : fnOk Tryz.prog 55 = true := by kernel_rfl
theorem ok56 : fnOk Tryz.prog 56 = true := by kernel_rfl
theorem ok57 : fnOk Tryz.prog 57 = true := by kernel_rfl
theorem ok58 : fnOk Tryz.prog 58 = true := by kernel_rfl
theorem ok59 : fnOk Tryz.prog 59 = true := by kernel_rfl
theorem ok60 : fnOk Tryz.prog 60 = true := by kernel_rfl
theorem ok61 : fnOk Tryz.prog 61 = true := by kernel_rfl
theorem ok62 : fnOk Tryz.prog 62 = true := by kernel_rfl
theorem ok63 : fnOk Tryz.prog 63 = true := by kernel_rfl
theorem ok64 : fnOk Tryz.prog 64 = true := by kernel_rfl
theorem ok65 : fnOk Tryz.prog 65 = true := by kernel_rfl
theorem ok66 : fnOk Tryz.prog 66 = true := by kernel_rfl
theorem ok67 : fnOk Tryz.prog 67 = true := by kernel_rfl
theorem ok68 : fnOk Tryz.prog 68 = true := by kernel_rfl
theorem ok69 : fnOk Tryz.prog 69 = true := by kernel_rfl
theorem ok70 : fnOk Tryz.prog 70 = true := by kernel_rfl
theorem ok71 : fnOk Tryz.prog 71 = true := by kernel_rfl
theorem ok72 : fnOk Tryz.prog 72 = true := by kernel_rfl
theorem ok73 : fnOk Tryz.prog 73 = true := by kernel_rfl
theorem ok74 : fnOk Tryz.prog 74 = true := by kernel_rfl
theorem ok75 : fnOk Tryz.prog 75 = true := by kernel_rfl
theorem ok76 : fnOk Tryz.prog 76 = true := by kernel_rfl
theorem ok77 : fnOk Tryz.prog 77 = true := by kernel_rfl
theorem ok78 : fnOk Tryz.prog 78 = true := by kernel_rfl
theorem ok79 : fnOk Tryz.prog 79 = true := by kernel_rfl
theorem ok80 : fnOk Tryz.prog 80 = true := by kernel_rfl
theorem ok81 : fnOk Tryz.prog 81 = true := by kernel_rfl
theorem ok82 : fnOk Tryz.prog 82 = true := by kernel_rfl
theorem ok83 : fnOk Tryz.prog 83 = true := by kernel_rfl
theorem ok84 : fnOk Tryz.prog 84 = true := by kernel_rfl
theorem ok85 : fnOk Tryz.prog 85 = true := by kernel_rfl
theorem ok86 : fnOk Tryz.prog 86 = true := by kernel_rfl
theorem ok87 : fnOk Tryz.prog 87 = true := by kernel_rfl
theorem ok88 : fnOk Tryz.prog 88 = true := by kernel_rfl
theorem ok89 : fnOk Tryz.prog 89 = true := by kernel_rfl
theorem ok90 : fnOk Tryz.prog 90 = true := by kernel_rfl
theorem ok91 : fnOk Tryz.prog 91 = true := by kernel_rfl
theorem ok92 : fnOk Tryz.prog 92 = true := by kernel_rfl
theorem ok93 : fnOk Tryz.prog 93 = true := by kernel_rfl
theorem ok94 : fnOk Tryz.prog 94 = true := by kernel_rfl
theorem ok95 : fnOk Tryz.prog 95 = true := by kernel_rfl
theorem ok96 : fnOk Tryz.prog 96 = true := by kernel_rfl
theorem ok97 : fnOk Tryz.prog 97 = true := by kernel_rfl
theorem ok98 : fnOk Tryz.prog 98 = true := by kernel_rfl
theorem ok99 : fnOk Tryz.prog 99 = true := by kernel_rfl
theorem ok100 : fnOk Tryz.prog 100 = true := by kernel_rfl
theorem ok101 : fnOk Tryz.prog 101 = true := by kernel_rfl
theorem ok102 : fnOk Tryz.prog 102 = true := by kernel_rfl
theorem ok103 : fnOk Tryz.prog 103 = true := by kernel_rfl
theorem ok104 : fnOk Tryz.prog 104 = true := by kernel_rfl
theorem ok105 : fnOk Tryz.prog 105 = true := by kernel_rfl
theorem ok106 : fnOk Tryz.prog 106 = true := by kernel_rfl
theorem ok107 : fnOk Tryz.prog 107 = true := by kernel_rfl
theorem ok108 : fnOk Tryz.prog 108 = true := by kernel_rfl
theorem ok109 : fnOk Tryz.prog 109 = true := by kernel_rfl
theorem ok110 : fnOk Tryz.prog 110 = true := by kernel_rfl
theorem ok111 : fnOk Tryz.prog 111 = true := by kernel_rfl
theorem ok112 : fnOk Tryz.prog 112 = true := by kernel_rfl
theorem ok113 : fnOk Tryz.prog 113 = true := by kernel_rfl
theorem ok114 : fnOk Tryz.prog 114 = true := by kernel_rfl
theorem ok115 : fnOk Tryz.prog 115 = true := by kernel_rfl
theorem ok116 : fnOk Tryz.prog 116 = true := by kernel_rfl
theorem ok117 : fnOk Tryz.prog 117 = true := by kernel_rfl
theorem ok118 : fnOk Tryz.prog 118 = true := by kernel_rfl
theorem ok119 : fnOk Tryz.prog 119 = true := by kernel_rfl
theorem ok120 : fnOk Tryz.prog 120 = true := by kernel_rfl
theorem ok121 : fnOk Tryz.prog 121 = true := by kernel_rfl
theorem ok122 : fnOk Tryz.prog 122 = true := by kernel_rfl
theorem ok123 : fnOk Tryz.prog 123 = true := by kernel_rfl
theorem ok124 : fnOk Tryz.prog 124 = true := by kernel_rfl
theorem ok125 : fnOk Tryz.prog 125 = true := by kernel_rfl
theorem ok126 : fnOk Tryz.prog 126 = true := by kernel_rfl
theorem ok127 : fnOk Tryz.prog 127 = true := by kernel_rfl
theorem ok128 : fnOk Tryz.prog 128 = true := by kernel_rfl
theorem ok129 : fnOk Tryz.prog 129 = true := by kernel_rfl
theorem ok130 : fnOk Tryz.prog 130 = true := by kernel_rfl
theorem ok131 : fnOk Tryz.prog 131 = true := by kernel_rfl
theorem ok132 : fnOk Tryz.prog 132 = true := by kernel_rfl
theorem ok133 : fnOk Tryz.prog 133 = true := by kernel_rfl
theorem ok134 : fnOk Tryz.prog 134 = true := by kernel_rfl
theorem ok135 : fnOk Tryz.prog 135 = true := by kernel_rfl
theorem ok136 : fnOk Tryz.prog 136 = true := by kernel_rfl
theorem ok137 : fnOk Tryz.prog 137 = true := by kernel_rfl
theorem ok138 : fnOk Tryz.prog 138 = true := by kernel_rfl
theorem ok139 : fnOk Tryz.prog 139 = true := by kernel_rfl
theorem ok140 : fnOk Tryz.prog 140 = true := by kernel_rfl
theorem ok141 : fnOk Tryz.prog 141 = true := by kernel_rfl
theorem ok142 : fnOk Tryz.prog 142 = true := by kernel_rfl
theorem ok143 : fnOk Tryz.prog 143 = true := by kernel_rfl
theorem ok144 : fnOk Tryz.prog 144 = true := by kernel_rfl
theorem ok145 : fnOk Tryz.prog 145 = true := by kernel_rfl
theorem ok146 : fnOk Tryz.prog 146 = true := by kernel_rfl
theorem ok147 : fnOk Tryz.prog 147 = true := by kernel_rfl
theorem ok148 : fnOk Tryz.prog 148 = true := by kernel_rfl
theorem ok149 : fnOk Tryz.prog 149 = true := by kernel_rfl
theorem ok150 : fnOk Tryz.prog 150 = true := by kernel_rfl
theorem ok151 : fnOk Tryz.prog 151 = true := by kernel_rfl
theorem ok152 : fnOk Tryz.prog 152 = true := by kernel_rfl
theorem ok153 : fnOk Tryz.prog 153 = true := by kernel_rfl
theorem ok154 : fnOk Tryz.prog 154 = true := by kernel_rfl
theorem ok155 : fnOk Tryz.prog 155 = true := by kernel_rfl
theorem ok156 : fnOk Tryz.prog 156 = true := by kernel_rfl
theorem ok157 : fnOk Tryz.prog 157 = true := by kernel_rfl
theorem ok158 : fnOk Tryz.prog 158 = true := by kernel_rfl
theorem ok159 : fnOk Tryz.prog 159 = true := by kernel_rfl
theorem ok160 : fnOk Tryz.prog 160 = true := by kernel_rfl
theorem ok162 : fnOk Tryz.prog 162 = true := by kernel_rfl
theorem ok163 : fnOk Tryz.prog 163 = true := by kernel_rfl
theorem ok164 : fnOk Tryz.prog 164 = true := by kernel_rfl
theorem ok165 : fnOk Tryz.prog 165 = true := by kernel_rfl
theorem ok166 : fnOk Tryz.prog 166 = true := by kernel_rfl
theorem ok167 : fnOk Tryz.prog 167 = true := by kernel_rfl
theorem ok168 : fnOk Tryz.prog 168 = true := by kernel_rfl
theorem ok169 : fnOk Tryz.prog 169 = true := by kernel_rfl
theorem ok170 : fnOk Tryz.prog 170 = true := by kernel_rfl
theorem ok171 : fnOk Tryz.prog 171 = true := by kernel_rfl
theorem ok172 : fnOk Tryz.prog 172 = true := by kernel_rfl
theorem ok173 : fnOk Tryz.prog 173 = true := by kernel_rfl
theorem ok174 : fnOk Tryz.prog 174 = true := by kernel_rfl
theorem ok175 : fnOk Tryz.prog 175 = true := by kernel_rfl
theorem ok178 : fnOk Tryz.prog 178 = true := by kernel_rfl
theorem ok179 : fnOk Tryz.prog 179 = true := by kernel_rfl
theorem ok180 : fnOk Tryz.prog 180 = true := by kernel_rfl
theorem ok181 : fnOk Tryz.prog 181 = true := by kernel_rfl
theorem ok182 : fnOk Tryz.prog 182 = true := by kernel_rfl
theorem ok183 : fnOk Tryz.prog 183 = true := by kernel_rfl
theorem ok184 : fnOk Tryz.prog 184 = true := by kernel_rfl
theorem ok185 : fnOk Tryz.prog 185 = true := by kernel_rfl
theorem ok187 : fnOk Tryz.prog 187 = true := by kernel_rfl
theorem ok188 : fnOk Tryz.prog 188 = true := by kernel_rfl
theorem ok189 : fnOk Tryz.prog 189 = true := by kernel_rfl
theorem ok190 : fnOk Tryz.prog 190 = true := by kernel_rfl
theorem ok191 : fnOk Tryz.prog 191 = true := by kernel_rfl
theorem ok192 : fnOk Tryz.prog 192 = true := by kernel_rfl
theorem ok193 : fnOk Tryz.prog 193 = true := by kernel_rfl
theorem ok195 : fnOk Tryz.prog 195 = true := by kernel_rfl
theorem ok196 : fnOk Tryz.prog 196 = true := by kernel_rfl
theorem ok197 : fnOk Tryz.prog 197 = true := by kernel_rfl
theorem ok199 : fnOk Tryz.prog 199 = true := by kernel_rfl

end Go.V
/- Names: what the functions on domain names reckon. No program is in sight. Nothing is assumed. -/
set_option linter.unusedVariables false
set_option linter.unusedSimpArgs false
namespace Go.V

abbrev Str := List UInt8
def ordC (c : UInt8) : Bool := (decide (97 ≤ c.toNat) && decide (c.toNat ≤ 122)) || (decide (48 ≤ c.toNat) && decide (c.toNat ≤ 57)) || c.toNat == 45 || c.toNat == 95
def ordinary (s : Str) : Bool := decide (1 ≤ s.length) && decide (s.length ≤ 63) && s.all ordC
def isLabel (s : Str) : Bool := s == [42] || ordinary s
/-- What stands before each period. -/
def cutsA (cur : Str) : Str → List Str
  | [] => []
  | c :: r => if c = 46 then cur :: cutsA [] r else cutsA (cur ++ [c]) r
/-- What stands between the periods. -/
def piecesA (cur : Str) : Str → List Str
  | [] => [cur]
  | c :: r => if c = 46 then cur :: piecesA [] r else piecesA (cur ++ [c]) r
theorem cutsA_dot (m : Str) : ∀ cur, cutsA cur (m ++ [46]) = piecesA cur m := by
  induction m with
  | nil => intro cur; simp [cutsA, piecesA]
  | cons c r ih => intro cur; simp only [List.cons_append, cutsA, piecesA]; split <;> simp [ih]
/-- The first of the labels may be a star. -/
def labelsOk : List Str → Bool
  | [] => true
  | l :: r => (l == [42] || ordinary l) && r.all ordinary
def nameOk (n : Str) : Bool := n == [46] || (decide (2 ≤ n.length) && decide (n.length ≤ 254) && n.getLast? == some 46 && labelsOk (cutsA [] n))
def labelsOf (n : Str) : List Str := if n == [46] then [] else if nameOk n then cutsA [] n else []
theorem labelsOk_iff {L : List Str} : labelsOk L = true ↔ ∀ (i : Nat) (x : Str), L[i]? = some x → ordinary x = true ∨ (i = 0 ∧ x = [42]) := by
  cases L with
  | nil => simp [labelsOk]
  | cons y r =>
    simp only [labelsOk, Bool.and_eq_true, Bool.or_eq_true, beq_iff_eq, List.all_eq_true]
    constructor
    · rintro ⟨h1, h2⟩ i x hx
      cases i with
      | zero => simp at hx; subst hx; rcases h1 with h1 | h1; exact .inr ⟨rfl, h1⟩; exact .inl h1
      | succ i => exact .inl (h2 x (List.mem_of_getElem? (by simpa using hx)))
    · intro h
      refine ⟨?_, fun x hx => ?_⟩
      · rcases h 0 y rfl with h | h; exact .inr h; exact .inl h.2
      · obtain ⟨j, hj, e⟩ := List.mem_iff_getElem.1 hx
        rcases h (j + 1) x (by simp [List.getElem?_eq_getElem hj, e]) with h | h
        · exact h
        · omega
theorem ord_star : ordinary [42] = false := by decide

/-- strings.Split at a period. -/
theorem pieces_cons (c : UInt8) (r cur : Str) (h : c ≠ 46) : piecesA cur (c :: r) = piecesA (cur ++ [c]) r := by simp [piecesA, h]
theorem pieces_take : ∀ (i : Nat) (s cur : Str), (∀ j, j < i → s[j]? ≠ some 46) → s[i]? = some 46 → piecesA cur s = (cur ++ s.take i) :: piecesA [] (s.drop (i + 1))
  | 0, s, cur, _, h => by
    cases s with
    | nil => simp at h
    | cons c r => simp at h; subst h; simp [piecesA]
  | i + 1, s, cur, hn, h => by
    cases s with
    | nil => simp at h
    | cons c r =>
      have hc : c ≠ 46 := by have := hn 0 (by omega); simpa using this
      rw [pieces_cons c r cur hc, pieces_take i r (cur ++ [c]) (fun j hj => by have := hn (j + 1) (by omega); simpa using this) (by simpa using h)]
      simp
theorem pieces_none : ∀ (s cur : Str), (∀ c ∈ s, c ≠ 46) → piecesA cur s = [cur ++ s]
  | [], cur, _ => by simp [piecesA]
  | c :: r, cur, h => by
    rw [pieces_cons c r cur (h c List.mem_cons_self), pieces_none r _ (fun x hx => h x (List.mem_cons_of_mem _ hx))]
    simp
theorem splitK_pieces : ∀ (k : Nat) (s : Str), s.count 46 = k → Go.Lib.splitK [46] 0 k s = piecesA [] s
  | 0, s, h => by
    rw [pieces_none s [] (fun c hc e => by rw [List.count_eq_zero] at h; exact h (e ▸ hc))]; simp [Go.Lib.splitK]
  | k + 1, s, h => by
    simp only [Go.Lib.splitK, Go.Lib.index_one]
    have hmem : (46 : UInt8) ∈ s := by
      rcases Classical.em ((46 : UInt8) ∈ s) with h1 | h1
      · exact h1
      · rw [List.count_eq_zero.2 h1] at h; omega
    rcases hi : Go.Lib.indexByte s 46 with i | i
    · obtain ⟨h1, h2⟩ := Go.Lib.indexByte_some (o := i) hi
      have hlt := (List.getElem?_eq_some_iff.1 h1).1
      have e1 : (Int.ofNat i == -1) = false := by rw [beq_eq_false_iff_ne]; intro e; have : (i : Int) = -1 := e; omega
      rw [e1, pieces_take i s [] (fun j hj => h2 j hj) h1]
      simp only [Bool.false_eq_true, if_false, List.nil_append, List.length_cons, List.length_nil, Nat.add_zero, Int.ofNat_eq_natCast, Int.toNat_natCast]
      congr 1
      refine splitK_pieces k _ ?_
      have := List.take_append_drop (i + 1) s
      have h3 : s.take (i + 1) = s.take i ++ [46] := by rw [List.take_succ_eq_append_getElem hlt]; congr; simpa [List.getElem?_eq_getElem hlt] using h1
      have h4 : (s.take i).count 46 = 0 := by
        rw [List.count_eq_zero]; intro hm
        obtain ⟨j, hj, he⟩ := List.mem_iff_getElem.1 hm
        simp at he
        have hj' := hj
        rw [List.length_take] at hj'
        exact h2 j (by omega) (by rw [List.getElem?_eq_getElem (by omega), he])
      have h5 : s.count 46 = (s.take (i + 1)).count 46 + (s.drop (i + 1)).count 46 := by rw [← List.count_append, this]
      rw [h3, List.count_append, h4] at h5
      simp at h5; simp; omega
    · have hge := Go.Lib.indexByte_ge s 46
      have h1 : Go.Lib.indexByte s 46 = -1 := by rw [hi] at hge ⊢; have : Int.negSucc i = -(i + 1 : Int) := Int.negSucc_eq i; omega
      obtain ⟨j, hj, he⟩ := List.mem_iff_getElem.1 hmem
      exact absurd (by rw [List.getElem?_eq_getElem hj, he]) (Go.Lib.indexByte_none h1 j)
theorem hasSuffix_one (s : Str) (c : UInt8) : Go.Lib.hasSuffix s [c] = (s.getLast? == some c) := by
  unfold Go.Lib.hasSuffix
  rw [Bool.eq_iff_iff, List.isSuffixOf_iff_suffix, beq_iff_eq]
  constructor
  · rintro ⟨t, rfl⟩; simp
  · intro h
    rw [List.getLast?_eq_some_iff] at h
    obtain ⟨t, rfl⟩ := h
    exact ⟨t, rfl⟩
end Go.V
