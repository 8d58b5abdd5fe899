/-
  Facts on the types and functions of the translation of seat Ytfdhfnoljejkkaa, each closed by the kernel. Printed by my program ty.py.
-/
import Derived.Test.YtfdhfnoljejkkaaProg
import Derived.Test.YtfdhfnoljejkkaaSepS
import Derived.KernelRfl
set_option linter.unusedVariables false
namespace Go.Proofs.Ytfdhfnoljejkkaa
open Go Go.Sep
theorem sz2 : tsz Try.prog 2 = some 1 := by kernel_rfl
theorem ag2 : tagg Try.prog 2 = some false := by kernel_rfl
theorem st2 : tstr Try.prog 2 = false := by kernel_rfl
theorem un2 : (Try.prog.underlying 2).isSome = true := by kernel_rfl
theorem in2 : tint Try.prog 2 = some .i64 := by kernel_rfl
theorem ze2 : tzero Try.prog 2 = some [.int .i64 0] := by kernel_rfl
theorem by2 : tbytes Try.prog 2 = some 8 := by kernel_rfl
theorem sz3 : tsz Try.prog 3 = some 1 := by kernel_rfl
theorem ag3 : tagg Try.prog 3 = some false := by kernel_rfl
theorem st3 : tstr Try.prog 3 = false := by kernel_rfl
theorem un3 : (Try.prog.underlying 3).isSome = true := by kernel_rfl
theorem in3 : tint Try.prog 3 = some .i64 := by kernel_rfl
theorem ze3 : tzero Try.prog 3 = some [.int .i64 0] := by kernel_rfl
theorem by3 : tbytes Try.prog 3 = some 8 := by kernel_rfl
theorem sz4 : tsz Try.prog 4 = some 1 := by kernel_rfl
theorem ag4 : tagg Try.prog 4 = some false := by kernel_rfl
theorem st4 : tstr Try.prog 4 = false := by kernel_rfl
theorem un4 : (Try.prog.underlying 4).isSome = true := by kernel_rfl
theorem bo4 : tbool Try.prog 4 = true := by kernel_rfl
theorem ze4 : tzero Try.prog 4 = some [.bool false] := by kernel_rfl
theorem by4 : tbytes Try.prog 4 = some 1 := by kernel_rfl
theorem sz5 : tsz Try.prog 5 = some 1 := by kernel_rfl
theorem ag5 : tagg Try.prog 5 = some false := by kernel_rfl
theorem st5 : tstr Try.prog 5 = false := by kernel_rfl
theorem un5 : (Try.prog.underlying 5).isSome = true := by kernel_rfl
theorem in5 : tint Try.prog 5 = some .u8 := by kernel_rfl
theorem ze5 : tzero Try.prog 5 = some [.int .u8 0] := by kernel_rfl
theorem by5 : tbytes Try.prog 5 = some 1 := by kernel_rfl
theorem sz9 : tsz Try.prog 9 = some 1 := by kernel_rfl
theorem ag9 : tagg Try.prog 9 = some false := by kernel_rfl
theorem st9 : tstr Try.prog 9 = true := by kernel_rfl
theorem un9 : (Try.prog.underlying 9).isSome = true := by kernel_rfl
theorem sr9 : srcT Try.prog 9 = true := by kernel_rfl
theorem ze9 : tzero Try.prog 9 = some [.string ⟨#[]⟩] := by kernel_rfl
theorem by9 : tbytes Try.prog 9 = some 16 := by kernel_rfl
theorem sz12 : tsz Try.prog 12 = some 1 := by kernel_rfl
theorem ag12 : tagg Try.prog 12 = some false := by kernel_rfl
theorem st12 : tstr Try.prog 12 = false := by kernel_rfl
theorem un12 : (Try.prog.underlying 12).isSome = true := by kernel_rfl
theorem in12 : tint Try.prog 12 = some .u64 := by kernel_rfl
theorem ze12 : tzero Try.prog 12 = some [.int .u64 0] := by kernel_rfl
theorem by12 : tbytes Try.prog 12 = some 8 := by kernel_rfl
theorem sz13 : tsz Try.prog 13 = some 2 := by kernel_rfl
theorem ag13 : tagg Try.prog 13 = some true := by kernel_rfl
theorem st13 : tstr Try.prog 13 = false := by kernel_rfl
theorem un13 : (Try.prog.underlying 13).isSome = true := by kernel_rfl
theorem ze13 : tzero Try.prog 13 = some [.string ⟨#[]⟩, .int .u64 0] := by kernel_rfl
theorem by13 : tbytes Try.prog 13 = some 24 := by kernel_rfl
theorem fo13_0 : tfo Try.prog 13 0 = some 0 := by kernel_rfl
theorem fv13_0 : tfv Try.prog 13 0 = some (0, 1, false) := by kernel_rfl
theorem fo13_1 : tfo Try.prog 13 1 = some 1 := by kernel_rfl
theorem fv13_1 : tfv Try.prog 13 1 = some (1, 1, false) := by kernel_rfl
theorem pp13 : tplaces Try.prog 13 = some [(0, 1), (1, 1)] := by kernel_rfl
theorem sz18 : tsz Try.prog 18 = some 1 := by kernel_rfl
theorem ag18 : tagg Try.prog 18 = some true := by kernel_rfl
theorem st18 : tstr Try.prog 18 = false := by kernel_rfl
theorem un18 : (Try.prog.underlying 18).isSome = true := by kernel_rfl
theorem ze18 : tzero Try.prog 18 = some [.pointer none] := by kernel_rfl
theorem by18 : tbytes Try.prog 18 = some 8 := by kernel_rfl
theorem fo18_0 : tfo Try.prog 18 0 = some 0 := by kernel_rfl
theorem fv18_0 : tfv Try.prog 18 0 = some (0, 1, false) := by kernel_rfl
theorem pp18 : tplaces Try.prog 18 = some [(0, 1)] := by kernel_rfl
theorem sz21 : tsz Try.prog 21 = some 1 := by kernel_rfl
theorem ag21 : tagg Try.prog 21 = some false := by kernel_rfl
theorem st21 : tstr Try.prog 21 = false := by kernel_rfl
theorem un21 : (Try.prog.underlying 21).isSome = true := by kernel_rfl
theorem in21 : tint Try.prog 21 = some .i32 := by kernel_rfl
theorem ze21 : tzero Try.prog 21 = some [.int .i32 0] := by kernel_rfl
theorem by21 : tbytes Try.prog 21 = some 4 := by kernel_rfl
theorem sz22 : tsz Try.prog 22 = some 1 := by kernel_rfl
theorem ag22 : tagg Try.prog 22 = some false := by kernel_rfl
theorem st22 : tstr Try.prog 22 = false := by kernel_rfl
theorem un22 : (Try.prog.underlying 22).isSome = true := by kernel_rfl
theorem sl22 : tsl Try.prog 22 = some 81 := by kernel_rfl
theorem sr22 : srcT Try.prog 22 = true := by kernel_rfl
theorem ze22 : tzero Try.prog 22 = some [.slice none 0 0] := by kernel_rfl
theorem by22 : tbytes Try.prog 22 = some 24 := by kernel_rfl
theorem sz23 : tsz Try.prog 23 = some 1 := by kernel_rfl
theorem ag23 : tagg Try.prog 23 = some false := by kernel_rfl
theorem st23 : tstr Try.prog 23 = false := by kernel_rfl
theorem un23 : (Try.prog.underlying 23).isSome = true := by kernel_rfl
theorem sl23 : tsl Try.prog 23 = some 28 := by kernel_rfl
theorem sr23 : srcT Try.prog 23 = true := by kernel_rfl
theorem ze23 : tzero Try.prog 23 = some [.slice none 0 0] := by kernel_rfl
theorem by23 : tbytes Try.prog 23 = some 24 := by kernel_rfl
theorem sz24 : tsz Try.prog 24 = some 1 := by kernel_rfl
theorem ag24 : tagg Try.prog 24 = some false := by kernel_rfl
theorem st24 : tstr Try.prog 24 = false := by kernel_rfl
theorem un24 : (Try.prog.underlying 24).isSome = true := by kernel_rfl
theorem sl24 : tsl Try.prog 24 = some 42 := by kernel_rfl
theorem sr24 : srcT Try.prog 24 = true := by kernel_rfl
theorem ze24 : tzero Try.prog 24 = some [.slice none 0 0] := by kernel_rfl
theorem by24 : tbytes Try.prog 24 = some 24 := by kernel_rfl
theorem sz25 : tsz Try.prog 25 = some 3 := by kernel_rfl
theorem ag25 : tagg Try.prog 25 = some true := by kernel_rfl
theorem st25 : tstr Try.prog 25 = false := by kernel_rfl
theorem un25 : (Try.prog.underlying 25).isSome = true := by kernel_rfl
theorem ze25 : tzero Try.prog 25 = some [.slice none 0 0, .slice none 0 0, .slice none 0 0] := by kernel_rfl
theorem by25 : tbytes Try.prog 25 = some 72 := by kernel_rfl
theorem fo25_0 : tfo Try.prog 25 0 = some 0 := by kernel_rfl
theorem fv25_0 : tfv Try.prog 25 0 = some (0, 1, false) := by kernel_rfl
theorem fo25_1 : tfo Try.prog 25 1 = some 1 := by kernel_rfl
theorem fv25_1 : tfv Try.prog 25 1 = some (1, 1, false) := by kernel_rfl
theorem fo25_2 : tfo Try.prog 25 2 = some 2 := by kernel_rfl
theorem fv25_2 : tfv Try.prog 25 2 = some (2, 1, false) := by kernel_rfl
theorem pp25 : tplaces Try.prog 25 = some [(0, 1), (1, 1), (2, 1)] := by kernel_rfl
theorem sz26 : tsz Try.prog 26 = some 3 := by kernel_rfl
theorem ag26 : tagg Try.prog 26 = some true := by kernel_rfl
theorem st26 : tstr Try.prog 26 = false := by kernel_rfl
theorem un26 : (Try.prog.underlying 26).isSome = true := by kernel_rfl
theorem ze26 : tzero Try.prog 26 = some [.slice none 0 0, .slice none 0 0, .slice none 0 0] := by kernel_rfl
theorem by26 : tbytes Try.prog 26 = some 72 := by kernel_rfl
theorem fo26_0 : tfo Try.prog 26 0 = some 0 := by kernel_rfl
theorem fv26_0 : tfv Try.prog 26 0 = some (0, 1, false) := by kernel_rfl
theorem fo26_1 : tfo Try.prog 26 1 = some 1 := by kernel_rfl
theorem fv26_1 : tfv Try.prog 26 1 = some (1, 1, false) := by kernel_rfl
theorem fo26_2 : tfo Try.prog 26 2 = some 2 := by kernel_rfl
theorem fv26_2 : tfv Try.prog 26 2 = some (2, 1, false) := by kernel_rfl
theorem pp26 : tplaces Try.prog 26 = some [(0, 1), (1, 1), (2, 1)] := by kernel_rfl
theorem sz27 : tsz Try.prog 27 = some 1 := by kernel_rfl
theorem ag27 : tagg Try.prog 27 = some false := by kernel_rfl
theorem st27 : tstr Try.prog 27 = false := by kernel_rfl
theorem un27 : (Try.prog.underlying 27).isSome = true := by kernel_rfl
theorem sl27 : tsl Try.prog 27 = some 46 := by kernel_rfl
theorem sr27 : srcT Try.prog 27 = true := by kernel_rfl
theorem ze27 : tzero Try.prog 27 = some [.slice none 0 0] := by kernel_rfl
theorem by27 : tbytes Try.prog 27 = some 24 := by kernel_rfl
theorem sz28 : tsz Try.prog 28 = some 1 := by kernel_rfl
theorem ag28 : tagg Try.prog 28 = some false := by kernel_rfl
theorem st28 : tstr Try.prog 28 = false := by kernel_rfl
theorem un28 : (Try.prog.underlying 28).isSome = true := by kernel_rfl
theorem sl28 : tsl Try.prog 28 = some 9 := by kernel_rfl
theorem sr28 : srcT Try.prog 28 = true := by kernel_rfl
theorem ze28 : tzero Try.prog 28 = some [.slice none 0 0] := by kernel_rfl
theorem by28 : tbytes Try.prog 28 = some 24 := by kernel_rfl
theorem sz29 : tsz Try.prog 29 = some 1 := by kernel_rfl
theorem ag29 : tagg Try.prog 29 = some false := by kernel_rfl
theorem st29 : tstr Try.prog 29 = false := by kernel_rfl
theorem un29 : (Try.prog.underlying 29).isSome = true := by kernel_rfl
theorem sl29 : tsl Try.prog 29 = some 68 := by kernel_rfl
theorem sr29 : srcT Try.prog 29 = true := by kernel_rfl
theorem ze29 : tzero Try.prog 29 = some [.slice none 0 0] := by kernel_rfl
theorem by29 : tbytes Try.prog 29 = some 24 := by kernel_rfl
theorem sz30 : tsz Try.prog 30 = some 6 := by kernel_rfl
theorem ag30 : tagg Try.prog 30 = some true := by kernel_rfl
theorem st30 : tstr Try.prog 30 = false := by kernel_rfl
theorem un30 : (Try.prog.underlying 30).isSome = true := by kernel_rfl
theorem ze30 : tzero Try.prog 30 = some [.slice none 0 0, .slice none 0 0, .slice none 0 0, .slice none 0 0, .slice none 0 0, .slice none 0 0] := by kernel_rfl
theorem by30 : tbytes Try.prog 30 = some 144 := by kernel_rfl
theorem fo30_0 : tfo Try.prog 30 0 = some 0 := by kernel_rfl
theorem fv30_0 : tfv Try.prog 30 0 = some (0, 3, true) := by kernel_rfl
theorem fo30_1 : tfo Try.prog 30 1 = some 3 := by kernel_rfl
theorem fv30_1 : tfv Try.prog 30 1 = some (3, 1, false) := by kernel_rfl
theorem fo30_2 : tfo Try.prog 30 2 = some 4 := by kernel_rfl
theorem fv30_2 : tfv Try.prog 30 2 = some (4, 1, false) := by kernel_rfl
theorem fo30_3 : tfo Try.prog 30 3 = some 5 := by kernel_rfl
theorem fv30_3 : tfv Try.prog 30 3 = some (5, 1, false) := by kernel_rfl
theorem pp30 : tplaces Try.prog 30 = some [(0, 3), (3, 1), (4, 1), (5, 1)] := by kernel_rfl
theorem sz31 : tsz Try.prog 31 = some 6 := by kernel_rfl
theorem ag31 : tagg Try.prog 31 = some true := by kernel_rfl
theorem st31 : tstr Try.prog 31 = false := by kernel_rfl
theorem un31 : (Try.prog.underlying 31).isSome = true := by kernel_rfl
theorem ze31 : tzero Try.prog 31 = some [.slice none 0 0, .slice none 0 0, .slice none 0 0, .slice none 0 0, .slice none 0 0, .slice none 0 0] := by kernel_rfl
theorem by31 : tbytes Try.prog 31 = some 144 := by kernel_rfl
theorem fo31_0 : tfo Try.prog 31 0 = some 0 := by kernel_rfl
theorem fv31_0 : tfv Try.prog 31 0 = some (0, 3, true) := by kernel_rfl
theorem fo31_1 : tfo Try.prog 31 1 = some 3 := by kernel_rfl
theorem fv31_1 : tfv Try.prog 31 1 = some (3, 1, false) := by kernel_rfl
theorem fo31_2 : tfo Try.prog 31 2 = some 4 := by kernel_rfl
theorem fv31_2 : tfv Try.prog 31 2 = some (4, 1, false) := by kernel_rfl
theorem fo31_3 : tfo Try.prog 31 3 = some 5 := by kernel_rfl
theorem fv31_3 : tfv Try.prog 31 3 = some (5, 1, false) := by kernel_rfl
theorem pp31 : tplaces Try.prog 31 = some [(0, 3), (3, 1), (4, 1), (5, 1)] := by kernel_rfl
theorem sz39 : tsz Try.prog 39 = some 1 := by kernel_rfl
theorem ag39 : tagg Try.prog 39 = some false := by kernel_rfl
theorem st39 : tstr Try.prog 39 = false := by kernel_rfl
theorem un39 : (Try.prog.underlying 39).isSome = true := by kernel_rfl
theorem sl39 : tsl Try.prog 39 = some 75 := by kernel_rfl
theorem sr39 : srcT Try.prog 39 = true := by kernel_rfl
theorem ze39 : tzero Try.prog 39 = some [.slice none 0 0] := by kernel_rfl
theorem by39 : tbytes Try.prog 39 = some 24 := by kernel_rfl
theorem sz40 : tsz Try.prog 40 = some 2 := by kernel_rfl
theorem ag40 : tagg Try.prog 40 = some true := by kernel_rfl
theorem st40 : tstr Try.prog 40 = false := by kernel_rfl
theorem un40 : (Try.prog.underlying 40).isSome = true := by kernel_rfl
theorem ze40 : tzero Try.prog 40 = some [.int .i64 0, .slice none 0 0] := by kernel_rfl
theorem by40 : tbytes Try.prog 40 = some 32 := by kernel_rfl
theorem fo40_0 : tfo Try.prog 40 0 = some 0 := by kernel_rfl
theorem fv40_0 : tfv Try.prog 40 0 = some (0, 1, false) := by kernel_rfl
theorem fo40_1 : tfo Try.prog 40 1 = some 1 := by kernel_rfl
theorem fv40_1 : tfv Try.prog 40 1 = some (1, 1, false) := by kernel_rfl
theorem pp40 : tplaces Try.prog 40 = some [(0, 1), (1, 1)] := by kernel_rfl
theorem sz41 : tsz Try.prog 41 = some 2 := by kernel_rfl
theorem ag41 : tagg Try.prog 41 = some true := by kernel_rfl
theorem st41 : tstr Try.prog 41 = false := by kernel_rfl
theorem un41 : (Try.prog.underlying 41).isSome = true := by kernel_rfl
theorem ze41 : tzero Try.prog 41 = some [.int .i64 0, .slice none 0 0] := by kernel_rfl
theorem by41 : tbytes Try.prog 41 = some 32 := by kernel_rfl
theorem fo41_0 : tfo Try.prog 41 0 = some 0 := by kernel_rfl
theorem fv41_0 : tfv Try.prog 41 0 = some (0, 1, false) := by kernel_rfl
theorem fo41_1 : tfo Try.prog 41 1 = some 1 := by kernel_rfl
theorem fv41_1 : tfv Try.prog 41 1 = some (1, 1, false) := by kernel_rfl
theorem pp41 : tplaces Try.prog 41 = some [(0, 1), (1, 1)] := by kernel_rfl
theorem sz42 : tsz Try.prog 42 = some 1 := by kernel_rfl
theorem ag42 : tagg Try.prog 42 = some false := by kernel_rfl
theorem st42 : tstr Try.prog 42 = false := by kernel_rfl
theorem un42 : (Try.prog.underlying 42).isSome = true := by kernel_rfl
theorem sl42 : tsl Try.prog 42 = some 2 := by kernel_rfl
theorem sr42 : srcT Try.prog 42 = true := by kernel_rfl
theorem ze42 : tzero Try.prog 42 = some [.slice none 0 0] := by kernel_rfl
theorem by42 : tbytes Try.prog 42 = some 24 := by kernel_rfl
theorem sz43 : tsz Try.prog 43 = some 2 := by kernel_rfl
theorem ag43 : tagg Try.prog 43 = some true := by kernel_rfl
theorem st43 : tstr Try.prog 43 = false := by kernel_rfl
theorem un43 : (Try.prog.underlying 43).isSome = true := by kernel_rfl
theorem ze43 : tzero Try.prog 43 = some [.int .i64 0, .slice none 0 0] := by kernel_rfl
theorem by43 : tbytes Try.prog 43 = some 32 := by kernel_rfl
theorem fo43_0 : tfo Try.prog 43 0 = some 0 := by kernel_rfl
theorem fv43_0 : tfv Try.prog 43 0 = some (0, 1, false) := by kernel_rfl
theorem fo43_1 : tfo Try.prog 43 1 = some 1 := by kernel_rfl
theorem fv43_1 : tfv Try.prog 43 1 = some (1, 1, false) := by kernel_rfl
theorem pp43 : tplaces Try.prog 43 = some [(0, 1), (1, 1)] := by kernel_rfl
theorem sz44 : tsz Try.prog 44 = some 2 := by kernel_rfl
theorem ag44 : tagg Try.prog 44 = some true := by kernel_rfl
theorem st44 : tstr Try.prog 44 = false := by kernel_rfl
theorem un44 : (Try.prog.underlying 44).isSome = true := by kernel_rfl
theorem ze44 : tzero Try.prog 44 = some [.int .i64 0, .slice none 0 0] := by kernel_rfl
theorem by44 : tbytes Try.prog 44 = some 32 := by kernel_rfl
theorem fo44_0 : tfo Try.prog 44 0 = some 0 := by kernel_rfl
theorem fv44_0 : tfv Try.prog 44 0 = some (0, 1, false) := by kernel_rfl
theorem fo44_1 : tfo Try.prog 44 1 = some 1 := by kernel_rfl
theorem fv44_1 : tfv Try.prog 44 1 = some (1, 1, false) := by kernel_rfl
theorem pp44 : tplaces Try.prog 44 = some [(0, 1), (1, 1)] := by kernel_rfl
theorem sz45 : tsz Try.prog 45 = some 9 := by kernel_rfl
theorem ag45 : tagg Try.prog 45 = some true := by kernel_rfl
theorem st45 : tstr Try.prog 45 = false := by kernel_rfl
theorem un45 : (Try.prog.underlying 45).isSome = true := by kernel_rfl
theorem ze45 : tzero Try.prog 45 = some [.int .i64 0, .slice none 0 0, .int .i64 0, .int .i64 0, .slice none 0 0, .int .i64 0, .int .i64 0, .slice none 0 0, .int .i64 0] := by kernel_rfl
theorem by45 : tbytes Try.prog 45 = some 120 := by kernel_rfl
theorem fo45_0 : tfo Try.prog 45 0 = some 0 := by kernel_rfl
theorem fv45_0 : tfv Try.prog 45 0 = some (0, 1, false) := by kernel_rfl
theorem fo45_1 : tfo Try.prog 45 1 = some 1 := by kernel_rfl
theorem fv45_1 : tfv Try.prog 45 1 = some (1, 1, false) := by kernel_rfl
theorem fo45_2 : tfo Try.prog 45 2 = some 2 := by kernel_rfl
theorem fv45_2 : tfv Try.prog 45 2 = some (2, 1, false) := by kernel_rfl
theorem fo45_3 : tfo Try.prog 45 3 = some 3 := by kernel_rfl
theorem fv45_3 : tfv Try.prog 45 3 = some (3, 2, true) := by kernel_rfl
theorem fo45_4 : tfo Try.prog 45 4 = some 5 := by kernel_rfl
theorem fv45_4 : tfv Try.prog 45 4 = some (5, 1, false) := by kernel_rfl
theorem fo45_5 : tfo Try.prog 45 5 = some 6 := by kernel_rfl
theorem fv45_5 : tfv Try.prog 45 5 = some (6, 2, true) := by kernel_rfl
theorem fo45_6 : tfo Try.prog 45 6 = some 8 := by kernel_rfl
theorem fv45_6 : tfv Try.prog 45 6 = some (8, 1, false) := by kernel_rfl
theorem pp45 : tplaces Try.prog 45 = some [(0, 1), (1, 1), (2, 1), (3, 2), (5, 1), (6, 2), (8, 1)] := by kernel_rfl
theorem sz46 : tsz Try.prog 46 = some 9 := by kernel_rfl
theorem ag46 : tagg Try.prog 46 = some true := by kernel_rfl
theorem st46 : tstr Try.prog 46 = false := by kernel_rfl
theorem un46 : (Try.prog.underlying 46).isSome = true := by kernel_rfl
theorem ze46 : tzero Try.prog 46 = some [.int .i64 0, .slice none 0 0, .int .i64 0, .int .i64 0, .slice none 0 0, .int .i64 0, .int .i64 0, .slice none 0 0, .int .i64 0] := by kernel_rfl
theorem by46 : tbytes Try.prog 46 = some 120 := by kernel_rfl
theorem fo46_0 : tfo Try.prog 46 0 = some 0 := by kernel_rfl
theorem fv46_0 : tfv Try.prog 46 0 = some (0, 1, false) := by kernel_rfl
theorem fo46_1 : tfo Try.prog 46 1 = some 1 := by kernel_rfl
theorem fv46_1 : tfv Try.prog 46 1 = some (1, 1, false) := by kernel_rfl
theorem fo46_2 : tfo Try.prog 46 2 = some 2 := by kernel_rfl
theorem fv46_2 : tfv Try.prog 46 2 = some (2, 1, false) := by kernel_rfl
theorem fo46_3 : tfo Try.prog 46 3 = some 3 := by kernel_rfl
theorem fv46_3 : tfv Try.prog 46 3 = some (3, 2, true) := by kernel_rfl
theorem fo46_4 : tfo Try.prog 46 4 = some 5 := by kernel_rfl
theorem fv46_4 : tfv Try.prog 46 4 = some (5, 1, false) := by kernel_rfl
theorem fo46_5 : tfo Try.prog 46 5 = some 6 := by kernel_rfl
theorem fv46_5 : tfv Try.prog 46 5 = some (6, 2, true) := by kernel_rfl
theorem fo46_6 : tfo Try.prog 46 6 = some 8 := by kernel_rfl
theorem fv46_6 : tfv Try.prog 46 6 = some (8, 1, false) := by kernel_rfl
theorem pp46 : tplaces Try.prog 46 = some [(0, 1), (1, 1), (2, 1), (3, 2), (5, 1), (6, 2), (8, 1)] := by kernel_rfl
theorem sz67 : tsz Try.prog 67 = some 2 := by kernel_rfl
theorem ag67 : tagg Try.prog 67 = some true := by kernel_rfl
theorem st67 : tstr Try.prog 67 = false := by kernel_rfl
theorem un67 : (Try.prog.underlying 67).isSome = true := by kernel_rfl
theorem ze67 : tzero Try.prog 67 = some [.int .i64 0, .string ⟨#[]⟩] := by kernel_rfl
theorem by67 : tbytes Try.prog 67 = some 24 := by kernel_rfl
theorem fo67_0 : tfo Try.prog 67 0 = some 0 := by kernel_rfl
theorem fv67_0 : tfv Try.prog 67 0 = some (0, 1, false) := by kernel_rfl
theorem fo67_1 : tfo Try.prog 67 1 = some 1 := by kernel_rfl
theorem fv67_1 : tfv Try.prog 67 1 = some (1, 1, false) := by kernel_rfl
theorem pp67 : tplaces Try.prog 67 = some [(0, 1), (1, 1)] := by kernel_rfl
theorem eq67 : eqT Try.prog 67 = some [(0, 1), (1, 2)] := by kernel_rfl
theorem sz68 : tsz Try.prog 68 = some 2 := by kernel_rfl
theorem ag68 : tagg Try.prog 68 = some true := by kernel_rfl
theorem st68 : tstr Try.prog 68 = false := by kernel_rfl
theorem un68 : (Try.prog.underlying 68).isSome = true := by kernel_rfl
theorem ze68 : tzero Try.prog 68 = some [.int .i64 0, .string ⟨#[]⟩] := by kernel_rfl
theorem by68 : tbytes Try.prog 68 = some 24 := by kernel_rfl
theorem fo68_0 : tfo Try.prog 68 0 = some 0 := by kernel_rfl
theorem fv68_0 : tfv Try.prog 68 0 = some (0, 1, false) := by kernel_rfl
theorem fo68_1 : tfo Try.prog 68 1 = some 1 := by kernel_rfl
theorem fv68_1 : tfv Try.prog 68 1 = some (1, 1, false) := by kernel_rfl
theorem pp68 : tplaces Try.prog 68 = some [(0, 1), (1, 1)] := by kernel_rfl
theorem eq68 : eqT Try.prog 68 = some [(0, 1), (1, 2)] := by kernel_rfl
theorem sz75 : tsz Try.prog 75 = some 1 := by kernel_rfl
theorem ag75 : tagg Try.prog 75 = some false := by kernel_rfl
theorem st75 : tstr Try.prog 75 = false := by kernel_rfl
theorem un75 : (Try.prog.underlying 75).isSome = true := by kernel_rfl
theorem sl75 : tsl Try.prog 75 = some 88 := by kernel_rfl
theorem sr75 : srcT Try.prog 75 = true := by kernel_rfl
theorem ze75 : tzero Try.prog 75 = some [.slice none 0 0] := by kernel_rfl
theorem by75 : tbytes Try.prog 75 = some 24 := by kernel_rfl
theorem sz77 : tsz Try.prog 77 = some 5 := by kernel_rfl
theorem ag77 : tagg Try.prog 77 = some true := by kernel_rfl
theorem st77 : tstr Try.prog 77 = false := by kernel_rfl
theorem un77 : (Try.prog.underlying 77).isSome = true := by kernel_rfl
theorem ze77 : tzero Try.prog 77 = some [.int .i64 0, .int .i64 0, .bool false, .bool false, .bool false] := by kernel_rfl
theorem by77 : tbytes Try.prog 77 = some 24 := by kernel_rfl
theorem fo77_0 : tfo Try.prog 77 0 = some 0 := by kernel_rfl
theorem fv77_0 : tfv Try.prog 77 0 = some (0, 1, false) := by kernel_rfl
theorem fo77_1 : tfo Try.prog 77 1 = some 1 := by kernel_rfl
theorem fv77_1 : tfv Try.prog 77 1 = some (1, 1, false) := by kernel_rfl
theorem fo77_2 : tfo Try.prog 77 2 = some 2 := by kernel_rfl
theorem fv77_2 : tfv Try.prog 77 2 = some (2, 1, false) := by kernel_rfl
theorem fo77_3 : tfo Try.prog 77 3 = some 3 := by kernel_rfl
theorem fv77_3 : tfv Try.prog 77 3 = some (3, 1, false) := by kernel_rfl
theorem fo77_4 : tfo Try.prog 77 4 = some 4 := by kernel_rfl
theorem fv77_4 : tfv Try.prog 77 4 = some (4, 1, false) := by kernel_rfl
theorem pp77 : tplaces Try.prog 77 = some [(0, 1), (1, 1), (2, 1), (3, 1), (4, 1)] := by kernel_rfl
theorem eq77 : eqT Try.prog 77 = some [(0, 1), (1, 1), (2, 0), (3, 0), (4, 0)] := by kernel_rfl
theorem sz78 : tsz Try.prog 78 = some 5 := by kernel_rfl
theorem ag78 : tagg Try.prog 78 = some true := by kernel_rfl
theorem st78 : tstr Try.prog 78 = false := by kernel_rfl
theorem un78 : (Try.prog.underlying 78).isSome = true := by kernel_rfl
theorem ze78 : tzero Try.prog 78 = some [.int .i64 0, .int .i64 0, .bool false, .bool false, .bool false] := by kernel_rfl
theorem by78 : tbytes Try.prog 78 = some 24 := by kernel_rfl
theorem fo78_0 : tfo Try.prog 78 0 = some 0 := by kernel_rfl
theorem fv78_0 : tfv Try.prog 78 0 = some (0, 1, false) := by kernel_rfl
theorem fo78_1 : tfo Try.prog 78 1 = some 1 := by kernel_rfl
theorem fv78_1 : tfv Try.prog 78 1 = some (1, 1, false) := by kernel_rfl
theorem fo78_2 : tfo Try.prog 78 2 = some 2 := by kernel_rfl
theorem fv78_2 : tfv Try.prog 78 2 = some (2, 1, false) := by kernel_rfl
theorem fo78_3 : tfo Try.prog 78 3 = some 3 := by kernel_rfl
theorem fv78_3 : tfv Try.prog 78 3 = some (3, 1, false) := by kernel_rfl
theorem fo78_4 : tfo Try.prog 78 4 = some 4 := by kernel_rfl
theorem fv78_4 : tfv Try.prog 78 4 = some (4, 1, false) := by kernel_rfl
theorem pp78 : tplaces Try.prog 78 = some [(0, 1), (1, 1), (2, 1), (3, 1), (4, 1)] := by kernel_rfl
theorem eq78 : eqT Try.prog 78 = some [(0, 1), (1, 1), (2, 0), (3, 0), (4, 0)] := by kernel_rfl
theorem sz80 : tsz Try.prog 80 = some 2 := by kernel_rfl
theorem ag80 : tagg Try.prog 80 = some true := by kernel_rfl
theorem st80 : tstr Try.prog 80 = false := by kernel_rfl
theorem un80 : (Try.prog.underlying 80).isSome = true := by kernel_rfl
theorem ze80 : tzero Try.prog 80 = some [.slice none 0 0, .int .i64 0] := by kernel_rfl
theorem by80 : tbytes Try.prog 80 = some 32 := by kernel_rfl
theorem fo80_0 : tfo Try.prog 80 0 = some 0 := by kernel_rfl
theorem fv80_0 : tfv Try.prog 80 0 = some (0, 1, false) := by kernel_rfl
theorem fo80_1 : tfo Try.prog 80 1 = some 1 := by kernel_rfl
theorem fv80_1 : tfv Try.prog 80 1 = some (1, 1, false) := by kernel_rfl
theorem pp80 : tplaces Try.prog 80 = some [(0, 1), (1, 1)] := by kernel_rfl
theorem sz81 : tsz Try.prog 81 = some 2 := by kernel_rfl
theorem ag81 : tagg Try.prog 81 = some true := by kernel_rfl
theorem st81 : tstr Try.prog 81 = false := by kernel_rfl
theorem un81 : (Try.prog.underlying 81).isSome = true := by kernel_rfl
theorem ze81 : tzero Try.prog 81 = some [.slice none 0 0, .int .i64 0] := by kernel_rfl
theorem by81 : tbytes Try.prog 81 = some 32 := by kernel_rfl
theorem fo81_0 : tfo Try.prog 81 0 = some 0 := by kernel_rfl
theorem fv81_0 : tfv Try.prog 81 0 = some (0, 1, false) := by kernel_rfl
theorem fo81_1 : tfo Try.prog 81 1 = some 1 := by kernel_rfl
theorem fv81_1 : tfv Try.prog 81 1 = some (1, 1, false) := by kernel_rfl
theorem pp81 : tplaces Try.prog 81 = some [(0, 1), (1, 1)] := by kernel_rfl
theorem sz86 : tsz Try.prog 86 = some 1 := by kernel_rfl
theorem ag86 : tagg Try.prog 86 = some false := by kernel_rfl
theorem st86 : tstr Try.prog 86 = false := by kernel_rfl
theorem un86 : (Try.prog.underlying 86).isSome = true := by kernel_rfl
theorem sl86 : tsl Try.prog 86 = some 5 := by kernel_rfl
theorem sr86 : srcT Try.prog 86 = true := by kernel_rfl
theorem ze86 : tzero Try.prog 86 = some [.slice none 0 0] := by kernel_rfl
theorem by86 : tbytes Try.prog 86 = some 24 := by kernel_rfl
theorem sz87 : tsz Try.prog 87 = some 7 := by kernel_rfl
theorem ag87 : tagg Try.prog 87 = some true := by kernel_rfl
theorem st87 : tstr Try.prog 87 = false := by kernel_rfl
theorem un87 : (Try.prog.underlying 87).isSome = true := by kernel_rfl
theorem ze87 : tzero Try.prog 87 = some [.int .i64 0, .int .i64 0, .int .i64 0, .bool false, .bool false, .bool false, .int .i64 0] := by kernel_rfl
theorem by87 : tbytes Try.prog 87 = some 40 := by kernel_rfl
theorem fo87_0 : tfo Try.prog 87 0 = some 0 := by kernel_rfl
theorem fv87_0 : tfv Try.prog 87 0 = some (0, 1, false) := by kernel_rfl
theorem fo87_1 : tfo Try.prog 87 1 = some 1 := by kernel_rfl
theorem fv87_1 : tfv Try.prog 87 1 = some (1, 5, true) := by kernel_rfl
theorem fo87_2 : tfo Try.prog 87 2 = some 6 := by kernel_rfl
theorem fv87_2 : tfv Try.prog 87 2 = some (6, 1, false) := by kernel_rfl
theorem pp87 : tplaces Try.prog 87 = some [(0, 1), (1, 5), (6, 1)] := by kernel_rfl
theorem eq87 : eqT Try.prog 87 = some [(0, 1), (1, 1), (2, 1), (3, 0), (4, 0), (5, 0), (6, 1)] := by kernel_rfl
theorem sz88 : tsz Try.prog 88 = some 7 := by kernel_rfl
theorem ag88 : tagg Try.prog 88 = some true := by kernel_rfl
theorem st88 : tstr Try.prog 88 = false := by kernel_rfl
theorem un88 : (Try.prog.underlying 88).isSome = true := by kernel_rfl
theorem ze88 : tzero Try.prog 88 = some [.int .i64 0, .int .i64 0, .int .i64 0, .bool false, .bool false, .bool false, .int .i64 0] := by kernel_rfl
theorem by88 : tbytes Try.prog 88 = some 40 := by kernel_rfl
theorem fo88_0 : tfo Try.prog 88 0 = some 0 := by kernel_rfl
theorem fv88_0 : tfv Try.prog 88 0 = some (0, 1, false) := by kernel_rfl
theorem fo88_1 : tfo Try.prog 88 1 = some 1 := by kernel_rfl
theorem fv88_1 : tfv Try.prog 88 1 = some (1, 5, true) := by kernel_rfl
theorem fo88_2 : tfo Try.prog 88 2 = some 6 := by kernel_rfl
theorem fv88_2 : tfv Try.prog 88 2 = some (6, 1, false) := by kernel_rfl
theorem pp88 : tplaces Try.prog 88 = some [(0, 1), (1, 5), (6, 1)] := by kernel_rfl
theorem eq88 : eqT Try.prog 88 = some [(0, 1), (1, 1), (2, 1), (3, 0), (4, 0), (5, 0), (6, 1)] := by kernel_rfl
theorem sz93 : tsz Try.prog 93 = some 1 := by kernel_rfl
theorem ag93 : tagg Try.prog 93 = some false := by kernel_rfl
theorem st93 : tstr Try.prog 93 = false := by kernel_rfl
theorem un93 : (Try.prog.underlying 93).isSome = true := by kernel_rfl
theorem in93 : tint Try.prog 93 = some .u64 := by kernel_rfl
theorem ze93 : tzero Try.prog 93 = some [.int .u64 0] := by kernel_rfl
theorem by93 : tbytes Try.prog 93 = some 8 := by kernel_rfl
theorem sz97 : tsz Try.prog 97 = some 1 := by kernel_rfl
theorem ag97 : tagg Try.prog 97 = some false := by kernel_rfl
theorem st97 : tstr Try.prog 97 = false := by kernel_rfl
theorem un97 : (Try.prog.underlying 97).isSome = true := by kernel_rfl
theorem in97 : tint Try.prog 97 = some .u32 := by kernel_rfl
theorem ze97 : tzero Try.prog 97 = some [.int .u32 0] := by kernel_rfl
theorem by97 : tbytes Try.prog 97 = some 4 := by kernel_rfl
theorem sz100 : tsz Try.prog 100 = some 1 := by kernel_rfl
theorem ag100 : tagg Try.prog 100 = some false := by kernel_rfl
theorem st100 : tstr Try.prog 100 = false := by kernel_rfl
theorem un100 : (Try.prog.underlying 100).isSome = true := by kernel_rfl
theorem in100 : tint Try.prog 100 = some .u64 := by kernel_rfl
theorem ze100 : tzero Try.prog 100 = some [.int .u64 0] := by kernel_rfl
theorem by100 : tbytes Try.prog 100 = some 8 := by kernel_rfl
theorem sz106 : tsz Try.prog 106 = some 4 := by kernel_rfl
theorem ag106 : tagg Try.prog 106 = some true := by kernel_rfl
theorem st106 : tstr Try.prog 106 = false := by kernel_rfl
theorem un106 : (Try.prog.underlying 106).isSome = true := by kernel_rfl
theorem ze106 : tzero Try.prog 106 = some [.pointer none, .pointer none, .pointer none, .string ⟨#[]⟩] := by kernel_rfl
theorem by106 : tbytes Try.prog 106 = some 40 := by kernel_rfl
theorem fo106_0 : tfo Try.prog 106 0 = some 0 := by kernel_rfl
theorem fv106_0 : tfv Try.prog 106 0 = some (0, 1, false) := by kernel_rfl
theorem fo106_1 : tfo Try.prog 106 1 = some 1 := by kernel_rfl
theorem fv106_1 : tfv Try.prog 106 1 = some (1, 1, false) := by kernel_rfl
theorem fo106_2 : tfo Try.prog 106 2 = some 2 := by kernel_rfl
theorem fv106_2 : tfv Try.prog 106 2 = some (2, 1, false) := by kernel_rfl
theorem fo106_3 : tfo Try.prog 106 3 = some 3 := by kernel_rfl
theorem fv106_3 : tfv Try.prog 106 3 = some (3, 1, false) := by kernel_rfl
theorem pp106 : tplaces Try.prog 106 = some [(0, 1), (1, 1), (2, 1), (3, 1)] := by kernel_rfl
theorem sz108 : tsz Try.prog 108 = some 0 := by kernel_rfl
theorem ag108 : tagg Try.prog 108 = some true := by kernel_rfl
theorem st108 : tstr Try.prog 108 = false := by kernel_rfl
theorem un108 : (Try.prog.underlying 108).isSome = true := by kernel_rfl
theorem ze108 : tzero Try.prog 108 = some [] := by kernel_rfl
theorem by108 : tbytes Try.prog 108 = some 0 := by kernel_rfl
theorem sz109 : tsz Try.prog 109 = some 0 := by kernel_rfl
theorem ag109 : tagg Try.prog 109 = some true := by kernel_rfl
theorem st109 : tstr Try.prog 109 = false := by kernel_rfl
theorem un109 : (Try.prog.underlying 109).isSome = true := by kernel_rfl
theorem ze109 : tzero Try.prog 109 = some [] := by kernel_rfl
theorem by109 : tbytes Try.prog 109 = some 0 := by kernel_rfl
theorem fv109_0 : tfv Try.prog 109 0 = some (0, 0, true) := by kernel_rfl
theorem pp109 : tplaces Try.prog 109 = some [(0, 0)] := by kernel_rfl
theorem sz118 : tsz Try.prog 118 = some 11 := by kernel_rfl
theorem ag118 : tagg Try.prog 118 = some true := by kernel_rfl
theorem st118 : tstr Try.prog 118 = false := by kernel_rfl
theorem un118 : (Try.prog.underlying 118).isSome = true := by kernel_rfl
theorem ze118 : tzero Try.prog 118 = some [.int .u64 0, .int .u64 0, .int .u32 0, .int .u8 0, .int .u8 0, .int .u8 0, .int .u8 0, .nilFunc, .pointer none, .int .i32 0, .int .i32 0] := by kernel_rfl
theorem by118 : tbytes Try.prog 118 = some 48 := by kernel_rfl
theorem fo118_0 : tfo Try.prog 118 0 = some 0 := by kernel_rfl
theorem fv118_0 : tfv Try.prog 118 0 = some (0, 1, false) := by kernel_rfl
theorem fo118_1 : tfo Try.prog 118 1 = some 1 := by kernel_rfl
theorem fv118_1 : tfv Try.prog 118 1 = some (1, 1, false) := by kernel_rfl
theorem fo118_2 : tfo Try.prog 118 2 = some 2 := by kernel_rfl
theorem fv118_2 : tfv Try.prog 118 2 = some (2, 1, false) := by kernel_rfl
theorem fo118_3 : tfo Try.prog 118 3 = some 3 := by kernel_rfl
theorem fv118_3 : tfv Try.prog 118 3 = some (3, 1, false) := by kernel_rfl
theorem fo118_4 : tfo Try.prog 118 4 = some 4 := by kernel_rfl
theorem fv118_4 : tfv Try.prog 118 4 = some (4, 1, false) := by kernel_rfl
theorem fo118_5 : tfo Try.prog 118 5 = some 5 := by kernel_rfl
theorem fv118_5 : tfv Try.prog 118 5 = some (5, 1, false) := by kernel_rfl
theorem fo118_6 : tfo Try.prog 118 6 = some 6 := by kernel_rfl
theorem fv118_6 : tfv Try.prog 118 6 = some (6, 1, false) := by kernel_rfl
theorem fo118_7 : tfo Try.prog 118 7 = some 7 := by kernel_rfl
theorem fv118_7 : tfv Try.prog 118 7 = some (7, 1, false) := by kernel_rfl
theorem fo118_8 : tfo Try.prog 118 8 = some 8 := by kernel_rfl
theorem fv118_8 : tfv Try.prog 118 8 = some (8, 1, false) := by kernel_rfl
theorem fo118_9 : tfo Try.prog 118 9 = some 9 := by kernel_rfl
theorem fv118_9 : tfv Try.prog 118 9 = some (9, 1, false) := by kernel_rfl
theorem fo118_10 : tfo Try.prog 118 10 = some 10 := by kernel_rfl
theorem fv118_10 : tfv Try.prog 118 10 = some (10, 1, false) := by kernel_rfl
theorem pp118 : tplaces Try.prog 118 = some [(0, 1), (1, 1), (2, 1), (3, 1), (4, 1), (5, 1), (6, 1), (7, 1), (8, 1), (9, 1), (10, 1)] := by kernel_rfl
attribute [go_sem] sz2 ag2 st2 un2 in2 ze2 by2 sz3 ag3 st3 un3 in3 ze3 by3 sz4 ag4 st4 un4 bo4 ze4 by4 sz5 ag5 st5 un5 in5 ze5 by5 sz9 ag9 st9 un9 sr9 ze9 by9 sz12 ag12 st12 un12 in12 ze12 by12 sz13 ag13 st13 un13 ze13 by13 fo13_0 fv13_0 fo13_1 fv13_1 pp13 sz18 ag18 st18 un18 ze18 by18 fo18_0 fv18_0 pp18 sz21 ag21 st21 un21 in21 ze21 by21 sz22 ag22 st22 un22 sl22 sr22 ze22 by22 sz23 ag23 st23 un23 sl23 sr23 ze23 by23 sz24 ag24 st24 un24 sl24 sr24 ze24 by24 sz25 ag25 st25 un25 ze25 by25 fo25_0 fv25_0 fo25_1 fv25_1 fo25_2 fv25_2 pp25 sz26 ag26 st26 un26 ze26 by26 fo26_0 fv26_0 fo26_1 fv26_1 fo26_2 fv26_2 pp26 sz27 ag27 st27 un27 sl27 sr27 ze27 by27 sz28 ag28 st28 un28 sl28 sr28 ze28 by28 sz29 ag29 st29 un29 sl29 sr29 ze29 by29 sz30 ag30 st30 un30 ze30 by30 fo30_0 fv30_0 fo30_1 fv30_1 fo30_2 fv30_2 fo30_3 fv30_3 pp30 sz31 ag31 st31 un31 ze31 by31 fo31_0 fv31_0 fo31_1 fv31_1 fo31_2 fv31_2 fo31_3 fv31_3 pp31 sz39 ag39 st39 un39 sl39 sr39 ze39 by39 sz40 ag40 st40 un40 ze40 by40 fo40_0 fv40_0 fo40_1 fv40_1 pp40 sz41 ag41 st41 un41 ze41 by41 fo41_0 fv41_0 fo41_1 fv41_1 pp41 sz42 ag42 st42 un42 sl42 sr42 ze42 by42 sz43 ag43 st43 un43 ze43 by43 fo43_0 fv43_0 fo43_1 fv43_1 pp43 sz44 ag44 st44 un44 ze44 by44 fo44_0 fv44_0 fo44_1 fv44_1 pp44 sz45 ag45 st45 un45 ze45 by45 fo45_0 fv45_0 fo45_1 fv45_1 fo45_2 fv45_2 fo45_3 fv45_3 fo45_4 fv45_4 fo45_5 fv45_5 fo45_6 fv45_6 pp45 sz46 ag46 st46 un46 ze46 by46 fo46_0 fv46_0 fo46_1 fv46_1 fo46_2 fv46_2 fo46_3 fv46_3 fo46_4 fv46_4 fo46_5 fv46_5 fo46_6 fv46_6 pp46 sz67 ag67 st67 un67 ze67 by67 fo67_0 fv67_0 fo67_1 fv67_1 pp67 eq67 sz68 ag68 st68 un68 ze68 by68 fo68_0 fv68_0 fo68_1 fv68_1 pp68 eq68 sz75 ag75 st75 un75 sl75 sr75 ze75 by75 sz77 ag77 st77 un77 ze77 by77 fo77_0 fv77_0 fo77_1 fv77_1 fo77_2 fv77_2 fo77_3 fv77_3 fo77_4 fv77_4 pp77 eq77 sz78 ag78 st78 un78 ze78 by78 fo78_0 fv78_0 fo78_1 fv78_1 fo78_2 fv78_2 fo78_3 fv78_3 fo78_4 fv78_4 pp78 eq78 sz80 ag80 st80 un80 ze80 by80 fo80_0 fv80_0 fo80_1 fv80_1 pp80 sz81 ag81 st81 un81 ze81 by81 fo81_0 fv81_0 fo81_1 fv81_1 pp81 sz86 ag86 st86 un86 sl86 sr86 ze86 by86 sz87 ag87 st87 un87 ze87 by87 fo87_0 fv87_0 fo87_1 fv87_1 fo87_2 fv87_2 pp87 eq87 sz88 ag88 st88 un88 ze88 by88 fo88_0 fv88_0 fo88_1 fv88_1 fo88_2 fv88_2 pp88 eq88 sz93 ag93 st93 un93 in93 ze93 by93 sz97 ag97 st97 un97 in97 ze97 by97 sz100 ag100 st100 un100 in100 ze100 by100 sz106 ag106 st106 un106 ze106 by106 fo106_0 fv106_0 fo106_1 fv106_1 fo106_2 fv106_2 fo106_3 fv106_3 pp106 sz108 ag108 st108 un108 ze108 by108 sz109 ag109 st109 un109 ze109 by109 fv109_0 pp109 sz118 ag118 st118 un118 ze118 by118 fo118_0 fv118_0 fo118_1 fv118_1 fo118_2 fv118_2 fo118_3 fv118_3 fo118_4 fv118_4 fo118_5 fv118_5 fo118_6 fv118_6 fo118_7 fv118_7 fo118_8 fv118_8 fo118_9 fv118_9 fo118_10 fv118_10 pp118
theorem mixed : Try.prog.follows .mixedOrders = true := by kernel_rfl
theorem cf3 : callable Try.prog 3 = true := by kernel_rfl
theorem cf4 : callable Try.prog 4 = true := by kernel_rfl
theorem cf5 : callable Try.prog 5 = true := by kernel_rfl
theorem cf6 : callable Try.prog 6 = true := by kernel_rfl
theorem cf7 : callable Try.prog 7 = true := by kernel_rfl
theorem cf8 : callable Try.prog 8 = true := by kernel_rfl
theorem cf9 : callable Try.prog 9 = true := by kernel_rfl
theorem cf10 : callable Try.prog 10 = true := by kernel_rfl
theorem cf11 : callable Try.prog 11 = true := by kernel_rfl
theorem cf12 : callable Try.prog 12 = true := by kernel_rfl
theorem cf13 : callable Try.prog 13 = true := by kernel_rfl
theorem cf14 : callable Try.prog 14 = true := by kernel_rfl
theorem cf15 : callable Try.prog 15 = true := by kernel_rfl
theorem cf16 : callable Try.prog 16 = true := by kernel_rfl
theorem cf17 : callable Try.prog 17 = true := by kernel_rfl
theorem cf18 : callable Try.prog 18 = true := by kernel_rfl
theorem cf19 : callable Try.prog 19 = true := by kernel_rfl
theorem cf20 : callable Try.prog 20 = true := by kernel_rfl
theorem cf21 : callable Try.prog 21 = true := by kernel_rfl
theorem cf22 : callable Try.prog 22 = true := by kernel_rfl
theorem cf23 : callable Try.prog 23 = true := by kernel_rfl
theorem cf24 : callable Try.prog 24 = true := by kernel_rfl
theorem cf25 : callable Try.prog 25 = true := by kernel_rfl
theorem cf26 : callable Try.prog 26 = true := by kernel_rfl
theorem cf27 : callable Try.prog 27 = true := by kernel_rfl
theorem cf28 : callable Try.prog 28 = true := by kernel_rfl
theorem cf29 : callable Try.prog 29 = true := by kernel_rfl
theorem cf30 : callable Try.prog 30 = true := by kernel_rfl
theorem cf31 : callable Try.prog 31 = true := by kernel_rfl
theorem cf32 : callable Try.prog 32 = true := by kernel_rfl
theorem cf33 : callable Try.prog 33 = true := by kernel_rfl
theorem cf34 : callable Try.prog 34 = true := by kernel_rfl
theorem cf35 : callable Try.prog 35 = true := by kernel_rfl
theorem cf36 : callable Try.prog 36 = true := by kernel_rfl
theorem cf37 : callable Try.prog 37 = true := by kernel_rfl
theorem cf38 : callable Try.prog 38 = true := by kernel_rfl
theorem cf39 : callable Try.prog 39 = true := by kernel_rfl
theorem cf40 : callable Try.prog 40 = true := by kernel_rfl
theorem cf41 : callable Try.prog 41 = true := by kernel_rfl
theorem cf42 : callable Try.prog 42 = true := by kernel_rfl
theorem cf43 : callable Try.prog 43 = true := by kernel_rfl
theorem cf44 : callable Try.prog 44 = true := by kernel_rfl
theorem cf45 : callable Try.prog 45 = true := by kernel_rfl
theorem cf46 : callable Try.prog 46 = true := by kernel_rfl
theorem cf47 : callable Try.prog 47 = true := by kernel_rfl
theorem cf48 : callable Try.prog 48 = true := by kernel_rfl
theorem cf49 : callable Try.prog 49 = true := by kernel_rfl
theorem cf50 : callable Try.prog 50 = true := by kernel_rfl
theorem cf51 : callable Try.prog 51 = true := by kernel_rfl
theorem cf52 : callable Try.prog 52 = true := by kernel_rfl
theorem cf53 : callable Try.prog 53 = true := by kernel_rfl
theorem cf54 : callable Try.prog 54 = true := by kernel_rfl
theorem cf55 : callable Try.prog 55 = true := by kernel_rfl
theorem cf56 : callable Try.prog 56 = true := by kernel_rfl
theorem cf57 : callable Try.prog 57 = true := by kernel_rfl
theorem cf58 : callable Try.prog 58 = true := by kernel_rfl
theorem cf59 : callable Try.prog 59 = true := by kernel_rfl
theorem cf60 : callable Try.prog 60 = true := by kernel_rfl
theorem cf61 : callable Try.prog 61 = true := by kernel_rfl
theorem cf62 : callable Try.prog 62 = true := by kernel_rfl
theorem cf63 : callable Try.prog 63 = true := by kernel_rfl
end Go.Proofs.Ytfdhfnoljejkkaa
