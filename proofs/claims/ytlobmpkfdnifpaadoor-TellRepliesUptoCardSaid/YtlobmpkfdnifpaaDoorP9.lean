/- Parts of this claim's proof, 9. No statement of the claim stands here. -/
import Derived.Test.YtlobmpkfdnifpaaDoorP8
import Derived.Test.YtlobmpkfdnifpaaDoorProg
namespace Go.Gh
open Go Go.Proofs
set_option maxRecDepth 100000
theorem gf3 : yW Tryd.prog 3 = true := by kernel_rfl
theorem rs3 : Tryd.f3.results.toList = [.tmp 6] := by kernel_rfl
theorem ok3 : zL Tryd.prog Tryd.f3.ntmps (Tryd.f3.body.getD .skip) = true := by kernel_rfl
theorem gf4 : yW Tryd.prog 4 = true := by kernel_rfl
theorem rs4 : Tryd.f4.results.toList = [.tmp 2] := by kernel_rfl
theorem ok4 : zL Tryd.prog Tryd.f4.ntmps (Tryd.f4.body.getD .skip) = true := by kernel_rfl
theorem gf5 : yW Tryd.prog 5 = true := by kernel_rfl
theorem rs5 : Tryd.f5.results.toList = [.tmp 0] := by kernel_rfl
theorem ok5 : zL Tryd.prog Tryd.f5.ntmps (Tryd.f5.body.getD .skip) = true := by kernel_rfl
theorem gf6 : yW Tryd.prog 6 = true := by kernel_rfl
theorem rs6 : Tryd.f6.results.toList = [.tmp 4] := by kernel_rfl
theorem ok6 : zL Tryd.prog Tryd.f6.ntmps (Tryd.f6.body.getD .skip) = true := by kernel_rfl
theorem gf7 : yW Tryd.prog 7 = true := by kernel_rfl
theorem rs7 : Tryd.f7.results.toList = [.tmp 6] := by kernel_rfl
theorem ok7 : zL Tryd.prog Tryd.f7.ntmps (Tryd.f7.body.getD .skip) = true := by kernel_rfl
theorem gf8 : yW Tryd.prog 8 = true := by kernel_rfl
theorem rs8 : Tryd.f8.results.toList = [.tmp 6] := by kernel_rfl
theorem ok8 : zL Tryd.prog Tryd.f8.ntmps (Tryd.f8.body.getD .skip) = true := by kernel_rfl
theorem gf9 : yW Tryd.prog 9 = true := by kernel_rfl
theorem rs9 : Tryd.f9.results.toList = [.tmp 4] := by kernel_rfl
theorem ok9 : zL Tryd.prog Tryd.f9.ntmps (Tryd.f9.body.getD .skip) = true := by kernel_rfl
theorem gf10 : yW Tryd.prog 10 = true := by kernel_rfl
theorem rs10 : Tryd.f10.results.toList = [.tmp 6] := by kernel_rfl
theorem ok10 : zL Tryd.prog Tryd.f10.ntmps (Tryd.f10.body.getD .skip) = true := by kernel_rfl
theorem gf11 : yW Tryd.prog 11 = true := by kernel_rfl
theorem rs11 : Tryd.f11.results.toList = [] := by kernel_rfl
theorem ok11 : zL Tryd.prog Tryd.f11.ntmps (Tryd.f11.body.getD .skip) = true := by kernel_rfl
theorem gf12 : yW Tryd.prog 12 = true := by kernel_rfl
theorem rs12 : Tryd.f12.results.toList = [.tmp 4] := by kernel_rfl
theorem ok12 : zL Tryd.prog Tryd.f12.ntmps (Tryd.f12.body.getD .skip) = true := by kernel_rfl
theorem gf13 : yW Tryd.prog 13 = true := by kernel_rfl
theorem rs13 : Tryd.f13.results.toList = [.tmp 4] := by kernel_rfl
theorem ok13 : zL Tryd.prog Tryd.f13.ntmps (Tryd.f13.body.getD .skip) = true := by kernel_rfl
theorem gf14 : yW Tryd.prog 14 = true := by kernel_rfl
theorem rs14 : Tryd.f14.results.toList = [] := by kernel_rfl
theorem ok14 : zL Tryd.prog Tryd.f14.ntmps (Tryd.f14.body.getD .skip) = true := by kernel_rfl
theorem gf15 : yW Tryd.prog 15 = true := by kernel_rfl
theorem rs15 : Tryd.f15.results.toList = [] := by kernel_rfl
theorem ok15 : zL Tryd.prog Tryd.f15.ntmps (Tryd.f15.body.getD .skip) = true := by kernel_rfl
theorem gf16 : yW Tryd.prog 16 = true := by kernel_rfl
theorem rs16 : Tryd.f16.results.toList = [.tmp 2] := by kernel_rfl
theorem ok16 : zL Tryd.prog Tryd.f16.ntmps (Tryd.f16.body.getD .skip) = true := by kernel_rfl
theorem gf17 : yW Tryd.prog 17 = true := by kernel_rfl
theorem rs17 : Tryd.f17.results.toList = [] := by kernel_rfl
theorem ok17 : zL Tryd.prog Tryd.f17.ntmps (Tryd.f17.body.getD .skip) = true := by kernel_rfl
theorem gf18 : yW Tryd.prog 18 = true := by kernel_rfl
theorem rs18 : Tryd.f18.results.toList = [.tmp 4] := by kernel_rfl
theorem ok18 : zL Tryd.prog Tryd.f18.ntmps (Tryd.f18.body.getD .skip) = true := by kernel_rfl
theorem gf19 : yW Tryd.prog 19 = true := by kernel_rfl
theorem rs19 : Tryd.f19.results.toList = [.tmp 6] := by kernel_rfl
theorem ok19 : zL Tryd.prog Tryd.f19.ntmps (Tryd.f19.body.getD .skip) = true := by kernel_rfl
theorem gf20 : yW Tryd.prog 20 = true := by kernel_rfl
theorem rs20 : Tryd.f20.results.toList = [.tmp 4] := by kernel_rfl
theorem ok20 : zL Tryd.prog Tryd.f20.ntmps (Tryd.f20.body.getD .skip) = true := by kernel_rfl
theorem gf21 : yW Tryd.prog 21 = true := by kernel_rfl
theorem rs21 : Tryd.f21.results.toList = [.tmp 6] := by kernel_rfl
theorem ok21 : zL Tryd.prog Tryd.f21.ntmps (Tryd.f21.body.getD .skip) = true := by kernel_rfl
theorem gf22 : yW Tryd.prog 22 = true := by kernel_rfl
theorem rs22 : Tryd.f22.results.toList = [.tmp 4] := by kernel_rfl
theorem ok22 : zL Tryd.prog Tryd.f22.ntmps (Tryd.f22.body.getD .skip) = true := by kernel_rfl
theorem gf23 : yW Tryd.prog 23 = true := by kernel_rfl
theorem rs23 : Tryd.f23.results.toList = [.tmp 4] := by kernel_rfl
theorem ok23 : zL Tryd.prog Tryd.f23.ntmps (Tryd.f23.body.getD .skip) = true := by kernel_rfl
theorem gf24 : yW Tryd.prog 24 = true := by kernel_rfl
theorem rs24 : Tryd.f24.results.toList = [] := by kernel_rfl
theorem ok24 : zL Tryd.prog Tryd.f24.ntmps (Tryd.f24.body.getD .skip) = true := by kernel_rfl
theorem gf25 : yW Tryd.prog 25 = true := by kernel_rfl
theorem rs25 : Tryd.f25.results.toList = [] := by kernel_rfl
theorem ok25 : zL Tryd.prog Tryd.f25.ntmps (Tryd.f25.body.getD .skip) = true := by kernel_rfl
theorem gf26 : yW Tryd.prog 26 = true := by kernel_rfl
theorem rs26 : Tryd.f26.results.toList = [] := by kernel_rfl
theorem ok26 : zL Tryd.prog Tryd.f26.ntmps (Tryd.f26.body.getD .skip) = true := by kernel_rfl
theorem gf27 : yW Tryd.prog 27 = true := by kernel_rfl
theorem rs27 : Tryd.f27.results.toList = [] := by kernel_rfl
theorem ok27 : zL Tryd.prog Tryd.f27.ntmps (Tryd.f27.body.getD .skip) = true := by kernel_rfl
theorem gf28 : yW Tryd.prog 28 = true := by kernel_rfl
theorem rs28 : Tryd.f28.results.toList = [.tmp 4] := by kernel_rfl
theorem ok28 : zL Tryd.prog Tryd.f28.ntmps (Tryd.f28.body.getD .skip) = true := by kernel_rfl
theorem gf29 : yW Tryd.prog 29 = true := by kernel_rfl
theorem rs29 : Tryd.f29.results.toList = [.tmp 4] := by kernel_rfl
theorem ok29 : zL Tryd.prog Tryd.f29.ntmps (Tryd.f29.body.getD .skip) = true := by kernel_rfl
theorem gf30 : yW Tryd.prog 30 = true := by kernel_rfl
theorem rs30 : Tryd.f30.results.toList = [.tmp 4] := by kernel_rfl
theorem ok30 : zL Tryd.prog Tryd.f30.ntmps (Tryd.f30.body.getD .skip) = true := by kernel_rfl
theorem gf31 : yW Tryd.prog 31 = true := by kernel_rfl
theorem rs31 : Tryd.f31.results.toList = [.tmp 4, .tmp 5] := by kernel_rfl
theorem ok31 : zL Tryd.prog Tryd.f31.ntmps (Tryd.f31.body.getD .skip) = true := by kernel_rfl
theorem gf32 : yW Tryd.prog 32 = true := by kernel_rfl
theorem rs32 : Tryd.f32.results.toList = [.tmp 4] := by kernel_rfl
theorem ok32 : zL Tryd.prog Tryd.f32.ntmps (Tryd.f32.body.getD .skip) = true := by kernel_rfl
theorem gf33 : yW Tryd.prog 33 = true := by kernel_rfl
theorem rs33 : Tryd.f33.results.toList = [.tmp 4] := by kernel_rfl
theorem ok33 : zL Tryd.prog Tryd.f33.ntmps (Tryd.f33.body.getD .skip) = true := by kernel_rfl
theorem gf34 : yW Tryd.prog 34 = true := by kernel_rfl
theorem rs34 : Tryd.f34.results.toList = [.tmp 4] := by kernel_rfl
theorem ok34 : zL Tryd.prog Tryd.f34.ntmps (Tryd.f34.body.getD .skip) = true := by kernel_rfl
theorem gf35 : yW Tryd.prog 35 = true := by kernel_rfl
theorem rs35 : Tryd.f35.results.toList = [.tmp 4] := by kernel_rfl
theorem ok35 : zL Tryd.prog Tryd.f35.ntmps (Tryd.f35.body.getD .skip) = true := by kernel_rfl
theorem gf36 : yW Tryd.prog 36 = true := by kernel_rfl
theorem rs36 : Tryd.f36.results.toList = [.tmp 4, .tmp 5] := by kernel_rfl
theorem ok36 : zL Tryd.prog Tryd.f36.ntmps (Tryd.f36.body.getD .skip) = true := by kernel_rfl
theorem gf37 : yW Tryd.prog 37 = true := by kernel_rfl
theorem rs37 : Tryd.f37.results.toList = [.tmp 4] := by kernel_rfl
theorem ok37 : zL Tryd.prog Tryd.f37.ntmps (Tryd.f37.body.getD .skip) = true := by kernel_rfl
theorem gf38 : yW Tryd.prog 38 = true := by kernel_rfl
theorem rs38 : Tryd.f38.results.toList = [.tmp 2] := by kernel_rfl
theorem ok38 : zL Tryd.prog Tryd.f38.ntmps (Tryd.f38.body.getD .skip) = true := by kernel_rfl
theorem gf39 : yW Tryd.prog 39 = true := by kernel_rfl
theorem rs39 : Tryd.f39.results.toList = [.tmp 2] := by kernel_rfl
theorem ok39 : zL Tryd.prog Tryd.f39.ntmps (Tryd.f39.body.getD .skip) = true := by kernel_rfl
theorem gf40 : yW Tryd.prog 40 = true := by kernel_rfl
theorem rs40 : Tryd.f40.results.toList = [.tmp 2] := by kernel_rfl
theorem ok40 : zL Tryd.prog Tryd.f40.ntmps (Tryd.f40.body.getD .skip) = true := by kernel_rfl
theorem gf41 : yW Tryd.prog 41 = true := by kernel_rfl
theorem rs41 : Tryd.f41.results.toList = [.tmp 4] := by kernel_rfl
theorem ok41 : zL Tryd.prog Tryd.f41.ntmps (Tryd.f41.body.getD .skip) = true := by kernel_rfl
theorem gf42 : yW Tryd.prog 42 = true := by kernel_rfl
theorem rs42 : Tryd.f42.results.toList = [.tmp 4] := by kernel_rfl
theorem ok42 : zL Tryd.prog Tryd.f42.ntmps (Tryd.f42.body.getD .skip) = true := by kernel_rfl
theorem gf44 : yW Tryd.prog 44 = true := by kernel_rfl
theorem rs44 : Tryd.f44.results.toList = [.tmp 2] := by kernel_rfl
theorem ok44 : zL Tryd.prog Tryd.f44.ntmps (Tryd.f44.body.getD .skip) = true := by kernel_rfl
theorem gf45 : yW Tryd.prog 45 = true := by kernel_rfl
theorem rs45 : Tryd.f45.results.toList = [.tmp 4] := by kernel_rfl
theorem ok45 : zL Tryd.prog Tryd.f45.ntmps (Tryd.f45.body.getD .skip) = true := by kernel_rfl
theorem gf46 : yW Tryd.prog 46 = true := by kernel_rfl
theorem rs46 : Tryd.f46.results.toList = [.tmp 4] := by kernel_rfl
theorem ok46 : zL Tryd.prog Tryd.f46.ntmps (Tryd.f46.body.getD .skip) = true := by kernel_rfl
theorem gf47 : yW Tryd.prog 47 = true := by kernel_rfl
theorem rs47 : Tryd.f47.results.toList = [.tmp 4] := by kernel_rfl
theorem ok47 : zL Tryd.prog Tryd.f47.ntmps (Tryd.f47.body.getD .skip) = true := by kernel_rfl
theorem gf48 : yW Tryd.prog 48 = true := by kernel_rfl
theorem rs48 : Tryd.f48.results.toList = [.tmp 2] := by kernel_rfl
theorem ok48 : zL Tryd.prog Tryd.f48.ntmps (Tryd.f48.body.getD .skip) = true := by kernel_rfl
theorem gf49 : yW Tryd.prog 49 = true := by kernel_rfl
theorem qG8 : Tryd.f49.results.toList = [.tmp 2] := by kernel_rfl
theorem ok49 : zL Tryd.prog Tryd.f49.ntmps (Tryd.f49.body.getD .skip) = true := by kernel_rfl
theorem gf50 : yW Tryd.prog 50 = true := by kernel_rfl
theorem rs50 : Tryd.f50.results.toList = [.tmp 2] := by kernel_rfl
theorem ok50 : zL Tryd.prog Tryd.f50.ntmps (Tryd.f50.body.getD .skip) = true := by kernel_rfl
theorem gf52 : yW Tryd.prog 52 = true := by kernel_rfl
theorem rs52 : Tryd.f52.results.toList = [.tmp 2] := by kernel_rfl
theorem ok52 : zL Tryd.prog Tryd.f52.ntmps (Tryd.f52.body.getD .skip) = true := by kernel_rfl
theorem ud3 : Tryd.prog.underlying 3 = some (.int .i64) := Tryd.underlying3
theorem xU : wB Tryd.prog 3 = some (false, 1) := by kernel_rfl
theorem zr3 : zQ Tryd.prog 3 = some [.int .i64 0] := by kernel_rfl
theorem ni3 : zC Tryd.prog 3 = true := by kernel_rfl
theorem ud4 : Tryd.prog.underlying 4 = some .bool := Tryd.underlying4
theorem sG : wB Tryd.prog 4 = some (false, 1) := by kernel_rfl
theorem zr4 : zQ Tryd.prog 4 = some [.bool false] := by kernel_rfl
theorem ni4 : zC Tryd.prog 4 = true := by kernel_rfl
theorem ud5 : Tryd.prog.underlying 5 = some (.int .u8) := Tryd.underlying5
theorem sz5 : wB Tryd.prog 5 = some (false, 1) := by kernel_rfl
theorem zr5 : zQ Tryd.prog 5 = some [.int .u8 0] := by kernel_rfl
theorem ni5 : zC Tryd.prog 5 = true := by kernel_rfl
theorem ud9 : Tryd.prog.underlying 9 = some .string := Tryd.underlying9
theorem sz9 : wB Tryd.prog 9 = some (false, 1) := by kernel_rfl
theorem zr9 : zQ Tryd.prog 9 = some [.string ByteArray.empty] := by kernel_rfl
theorem ni9 : zC Tryd.prog 9 = true := by kernel_rfl
theorem ud22 : Tryd.prog.underlying 22 = some (.int .i64) := Tryd.underlying22
theorem yD : wB Tryd.prog 22 = some (false, 1) := by kernel_rfl
theorem zr22 : zQ Tryd.prog 22 = some [.int .i64 0] := by kernel_rfl
theorem ni22 : zC Tryd.prog 22 = true := by kernel_rfl
theorem ud23 : Tryd.prog.underlying 23 = some (.slice 5) := Tryd.underlying23
theorem zI : wB Tryd.prog 23 = some (false, 1) := by kernel_rfl
theorem vJ : kI Tryd.prog 23 = some (5, 1, 1, .int .u8 0) := by kernel_rfl
theorem zr23 : zQ Tryd.prog 23 = some [.slice none 0 0] := by kernel_rfl
theorem ni23 : zC Tryd.prog 23 = true := by kernel_rfl
theorem ud24 : Tryd.prog.underlying 24 = some (.slice 74) := Tryd.underlying24
theorem qG7 : wB Tryd.prog 24 = some (false, 1) := by kernel_rfl
theorem el24 : kI Tryd.prog 24 = some (74, 3, 56, .agg #[.slice none 0 0, .slice none 0 0, .int .i64 0]) := by kernel_rfl
theorem zr24 : zQ Tryd.prog 24 = some [.slice none 0 0] := by kernel_rfl
theorem ni24 : zC Tryd.prog 24 = true := by kernel_rfl
theorem ud25 : Tryd.prog.underlying 25 = some (.slice 77) := Tryd.underlying25
theorem qG6 : wB Tryd.prog 25 = some (false, 1) := by kernel_rfl
theorem el25 : kI Tryd.prog 25 = some (77, 4, 64, .agg #[.int .i64 0, .int .i64 0, .slice none 0 0, .slice none 0 0]) := by kernel_rfl
theorem zr25 : zQ Tryd.prog 25 = some [.slice none 0 0] := by kernel_rfl
theorem ni25 : zC Tryd.prog 25 = true := by kernel_rfl
theorem qA8 : wB Tryd.prog 27 = some (true, 9) := by kernel_rfl
theorem zr27 : zQ Tryd.prog 27 = some [.int .i64 0, .int .i64 0, .bool false, .bool false, .slice none 0 0, .int .i64 0, .slice none 0 0, .slice none 0 0, .bool false] := by kernel_rfl
theorem fo27_0 : wD Tryd.prog 27 0 = some (22, 0) := by kernel_rfl
theorem fo27_1 : wD Tryd.prog 27 1 = some (3, 1) := by kernel_rfl
theorem fo27_2 : wD Tryd.prog 27 2 = some (4, 2) := by kernel_rfl
theorem fo27_3 : wD Tryd.prog 27 3 = some (4, 3) := by kernel_rfl
theorem fo27_4 : wD Tryd.prog 27 4 = some (23, 4) := by kernel_rfl
theorem fo27_5 : wD Tryd.prog 27 5 = some (3, 5) := by kernel_rfl
theorem fo27_6 : wD Tryd.prog 27 6 = some (24, 6) := by kernel_rfl
theorem fo27_7 : wD Tryd.prog 27 7 = some (25, 7) := by kernel_rfl
theorem fo27_8 : wD Tryd.prog 27 8 = some (4, 8) := by kernel_rfl
theorem sh27 : xX Tryd.prog 27 = some (.fields [(0, 1), (1, 1), (2, 1), (3, 1), (4, 1), (5, 1), (6, 1), (7, 1), (8, 1)], [.int .i64 0, .int .i64 0, .bool false, .bool false, .slice none 0 0, .int .i64 0, .slice none 0 0, .slice none 0 0, .bool false]) := by kernel_rfl
theorem ni27 : zC Tryd.prog 27 = true := by kernel_rfl
theorem ud28 : Tryd.prog.underlying 28 = some (.slice 66) := Tryd.underlying28
theorem qG5 : wB Tryd.prog 28 = some (false, 1) := by kernel_rfl
theorem el28 : kI Tryd.prog 28 = some (66, 3, 40, .agg #[.int .i64 0, .int .i64 0, .slice none 0 0]) := by kernel_rfl
theorem zr28 : zQ Tryd.prog 28 = some [.slice none 0 0] := by kernel_rfl
theorem ni28 : zC Tryd.prog 28 = true := by kernel_rfl
theorem ud29 : Tryd.prog.underlying 29 = some (.slice 31) := Tryd.underlying29
theorem dE : wB Tryd.prog 29 = some (false, 1) := by kernel_rfl
theorem el29 : kI Tryd.prog 29 = some (31, 10, 176, .agg #[.int .i64 0, .slice none 0 0, .slice none 0 0, .int .i64 0, .int .i64 0, .slice none 0 0, .int .i64 0, .slice none 0 0, .slice none 0 0, .slice none 0 0]) := by kernel_rfl
theorem zr29 : zQ Tryd.prog 29 = some [.slice none 0 0] := by kernel_rfl
theorem ni29 : zC Tryd.prog 29 = true := by kernel_rfl
theorem uM : wB Tryd.prog 31 = some (true, 10) := by kernel_rfl
theorem zr31 : zQ Tryd.prog 31 = some [.int .i64 0, .slice none 0 0, .slice none 0 0, .int .i64 0, .int .i64 0, .slice none 0 0, .int .i64 0, .slice none 0 0, .slice none 0 0, .slice none 0 0] := by kernel_rfl
theorem fo31_0 : wD Tryd.prog 31 0 = some (3, 0) := by kernel_rfl
theorem fo31_1 : wD Tryd.prog 31 1 = some (23, 1) := by kernel_rfl
theorem fo31_2 : wD Tryd.prog 31 2 = some (23, 2) := by kernel_rfl
theorem fo31_3 : wD Tryd.prog 31 3 = some (3, 3) := by kernel_rfl
theorem fo31_4 : wD Tryd.prog 31 4 = some (3, 4) := by kernel_rfl
theorem fo31_5 : wD Tryd.prog 31 5 = some (23, 5) := by kernel_rfl
theorem fo31_6 : wD Tryd.prog 31 6 = some (3, 6) := by kernel_rfl
theorem fo31_7 : wD Tryd.prog 31 7 = some (23, 7) := by kernel_rfl
theorem fo31_8 : wD Tryd.prog 31 8 = some (23, 8) := by kernel_rfl
theorem fo31_9 : wD Tryd.prog 31 9 = some (29, 9) := by kernel_rfl
theorem sh31 : xX Tryd.prog 31 = some (.fields [(0, 1), (1, 1), (2, 1), (3, 1), (4, 1), (5, 1), (6, 1), (7, 1), (8, 1), (9, 1)], [.int .i64 0, .slice none 0 0, .slice none 0 0, .int .i64 0, .int .i64 0, .slice none 0 0, .int .i64 0, .slice none 0 0, .slice none 0 0, .slice none 0 0]) := by kernel_rfl
theorem ni31 : zC Tryd.prog 31 = true := by kernel_rfl
theorem kK : wB Tryd.prog 33 = some (true, 11) := by kernel_rfl
theorem zr33 : zQ Tryd.prog 33 = some [.slice none 0 0, .int .i64 0, .slice none 0 0, .slice none 0 0, .int .i64 0, .int .i64 0, .slice none 0 0, .int .i64 0, .slice none 0 0, .slice none 0 0, .slice none 0 0] := by kernel_rfl
theorem fo33_0 : wD Tryd.prog 33 0 = some (28, 0) := by kernel_rfl
theorem fo33_1 : wD Tryd.prog 33 1 = some (31, 1) := by kernel_rfl
theorem sh33 : xX Tryd.prog 33 = some (.fields [(0, 1), (1, 10)], [.slice none 0 0, .int .i64 0, .slice none 0 0, .slice none 0 0, .int .i64 0, .int .i64 0, .slice none 0 0, .int .i64 0, .slice none 0 0, .slice none 0 0, .slice none 0 0]) := by kernel_rfl
theorem ni33 : zC Tryd.prog 33 = true := by kernel_rfl
theorem ud34 : Tryd.prog.underlying 34 = some (.slice 33) := Tryd.underlying34
theorem qG4 : wB Tryd.prog 34 = some (false, 1) := by kernel_rfl
theorem el34 : kI Tryd.prog 34 = some (33, 11, 200, .agg #[.slice none 0 0, .int .i64 0, .slice none 0 0, .slice none 0 0, .int .i64 0, .int .i64 0, .slice none 0 0, .int .i64 0, .slice none 0 0, .slice none 0 0, .slice none 0 0]) := by kernel_rfl
theorem zr34 : zQ Tryd.prog 34 = some [.slice none 0 0] := by kernel_rfl
theorem ni34 : zC Tryd.prog 34 = true := by kernel_rfl
theorem ud35 : Tryd.prog.underlying 35 = some (.slice 62) := Tryd.underlying35
theorem sz35 : wB Tryd.prog 35 = some (false, 1) := by kernel_rfl
theorem el35 : kI Tryd.prog 35 = some (62, 1, 24, .slice none 0 0) := by kernel_rfl
theorem zr35 : zQ Tryd.prog 35 = some [.slice none 0 0] := by kernel_rfl
theorem ni35 : zC Tryd.prog 35 = true := by kernel_rfl
theorem ud36 : Tryd.prog.underlying 36 = some (.slice 46) := Tryd.underlying36
theorem rR : wB Tryd.prog 36 = some (false, 1) := by kernel_rfl
theorem el36 : kI Tryd.prog 36 = some (46, 1, 24, .slice none 0 0) := by kernel_rfl
theorem zr36 : zQ Tryd.prog 36 = some [.slice none 0 0] := by kernel_rfl
theorem ni36 : zC Tryd.prog 36 = true := by kernel_rfl
theorem sz38 : wB Tryd.prog 38 = some (true, 24) := by kernel_rfl
theorem zr38 : zQ Tryd.prog 38 = some [.slice none 0 0, .int .i64 0, .slice none 0 0, .slice none 0 0, .int .i64 0, .int .i64 0, .slice none 0 0, .int .i64 0, .slice none 0 0, .slice none 0 0, .slice none 0 0, .slice none 0 0, .int .i64 0, .slice none 0 0, .slice none 0 0, .int .i64 0, .int .i64 0, .slice none 0 0, .int .i64 0, .slice none 0 0, .slice none 0 0, .slice none 0 0, .slice none 0 0, .slice none 0 0] := by kernel_rfl
theorem fo38_0 : wD Tryd.prog 38 0 = some (33, 0) := by kernel_rfl
theorem fo38_1 : wD Tryd.prog 38 1 = some (34, 11) := by kernel_rfl
theorem fo38_2 : wD Tryd.prog 38 2 = some (31, 12) := by kernel_rfl
theorem fo38_3 : wD Tryd.prog 38 3 = some (35, 22) := by kernel_rfl
theorem fo38_4 : wD Tryd.prog 38 4 = some (36, 23) := by kernel_rfl
theorem sh38 : xX Tryd.prog 38 = some (.fields [(0, 11), (11, 1), (12, 10), (22, 1), (23, 1)], [.slice none 0 0, .int .i64 0, .slice none 0 0, .slice none 0 0, .int .i64 0, .int .i64 0, .slice none 0 0, .int .i64 0, .slice none 0 0, .slice none 0 0, .slice none 0 0, .slice none 0 0, .int .i64 0, .slice none 0 0, .slice none 0 0, .int .i64 0, .int .i64 0, .slice none 0 0, .int .i64 0, .slice none 0 0, .slice none 0 0, .slice none 0 0, .slice none 0 0, .slice none 0 0]) := by kernel_rfl
theorem ni38 : zC Tryd.prog 38 = true := by kernel_rfl
theorem sz40 : wB Tryd.prog 40 = some (true, 33) := by kernel_rfl
theorem zr40 : zQ Tryd.prog 40 = some [.int .i64 0, .int .i64 0, .bool false, .bool false, .slice none 0 0, .int .i64 0, .slice none 0 0, .slice none 0 0, .bool false, .slice none 0 0, .int .i64 0, .slice none 0 0, .slice none 0 0, .int .i64 0, .int .i64 0, .slice none 0 0, .int .i64 0, .slice none 0 0, .slice none 0 0, .slice none 0 0, .slice none 0 0, .int .i64 0, .slice none 0 0, .slice none 0 0, .int .i64 0, .int .i64 0, .slice none 0 0, .int .i64 0, .slice none 0 0, .slice none 0 0, .slice none 0 0, .slice none 0 0, .slice none 0 0] := by kernel_rfl
theorem fo40_0 : wD Tryd.prog 40 0 = some (27, 0) := by kernel_rfl
theorem fo40_1 : wD Tryd.prog 40 1 = some (38, 9) := by kernel_rfl
theorem sh40 : xX Tryd.prog 40 = some (.fields [(0, 9), (9, 24)], [.int .i64 0, .int .i64 0, .bool false, .bool false, .slice none 0 0, .int .i64 0, .slice none 0 0, .slice none 0 0, .bool false, .slice none 0 0, .int .i64 0, .slice none 0 0, .slice none 0 0, .int .i64 0, .int .i64 0, .slice none 0 0, .int .i64 0, .slice none 0 0, .slice none 0 0, .slice none 0 0, .slice none 0 0, .int .i64 0, .slice none 0 0, .slice none 0 0, .int .i64 0, .int .i64 0, .slice none 0 0, .int .i64 0, .slice none 0 0, .slice none 0 0, .slice none 0 0, .slice none 0 0, .slice none 0 0]) := by kernel_rfl
theorem ni40 : zC Tryd.prog 40 = true := by kernel_rfl
theorem ud46 : Tryd.prog.underlying 46 = some (.slice 68) := Tryd.underlying46
theorem qA7 : wB Tryd.prog 46 = some (false, 1) := by kernel_rfl
theorem el46 : kI Tryd.prog 46 = some (68, 6, 96, .agg #[.int .i64 0, .int .i64 0, .slice none 0 0, .int .i64 0, .slice none 0 0, .slice none 0 0]) := by kernel_rfl
theorem zr46 : zQ Tryd.prog 46 = some [.slice none 0 0] := by kernel_rfl
theorem ni46 : zC Tryd.prog 46 = true := by kernel_rfl
theorem ud49 : Tryd.prog.underlying 49 = some (.pointer 51) := Tryd.underlying49
theorem sz49 : wB Tryd.prog 49 = some (false, 1) := by kernel_rfl
theorem zr49 : zQ Tryd.prog 49 = some [.pointer none] := by kernel_rfl
theorem ni49 : zC Tryd.prog 49 = true := by kernel_rfl
theorem sz51 : wB Tryd.prog 51 = some (true, 1) := by kernel_rfl
theorem zr51 : zQ Tryd.prog 51 = some [.slice none 0 0] := by kernel_rfl
theorem fo51_0 : wD Tryd.prog 51 0 = some (23, 0) := by kernel_rfl
theorem sh51 : xX Tryd.prog 51 = some (.fields [(0, 1)], [.slice none 0 0]) := by kernel_rfl
theorem ni51 : zC Tryd.prog 51 = true := by kernel_rfl
theorem ud62 : Tryd.prog.underlying 62 = some (.slice 23) := Tryd.underlying62
theorem rC : wB Tryd.prog 62 = some (false, 1) := by kernel_rfl
theorem el62 : kI Tryd.prog 62 = some (23, 1, 24, .slice none 0 0) := by kernel_rfl
theorem zr62 : zQ Tryd.prog 62 = some [.slice none 0 0] := by kernel_rfl
theorem ni62 : zC Tryd.prog 62 = true := by kernel_rfl
theorem qA6 : wB Tryd.prog 66 = some (true, 3) := by kernel_rfl
theorem zr66 : zQ Tryd.prog 66 = some [.int .i64 0, .int .i64 0, .slice none 0 0] := by kernel_rfl
theorem fo66_0 : wD Tryd.prog 66 0 = some (3, 0) := by kernel_rfl
theorem fo66_1 : wD Tryd.prog 66 1 = some (3, 1) := by kernel_rfl
theorem fo66_2 : wD Tryd.prog 66 2 = some (23, 2) := by kernel_rfl
theorem sh66 : xX Tryd.prog 66 = some (.fields [(0, 1), (1, 1), (2, 1)], [.int .i64 0, .int .i64 0, .slice none 0 0]) := by kernel_rfl
theorem ni66 : zC Tryd.prog 66 = true := by kernel_rfl
theorem rQ : wB Tryd.prog 68 = some (true, 6) := by kernel_rfl
theorem zr68 : zQ Tryd.prog 68 = some [.int .i64 0, .int .i64 0, .slice none 0 0, .int .i64 0, .slice none 0 0, .slice none 0 0] := by kernel_rfl
theorem fo68_0 : wD Tryd.prog 68 0 = some (3, 0) := by kernel_rfl
theorem fo68_1 : wD Tryd.prog 68 1 = some (3, 1) := by kernel_rfl
theorem fo68_2 : wD Tryd.prog 68 2 = some (23, 2) := by kernel_rfl
theorem fo68_3 : wD Tryd.prog 68 3 = some (3, 3) := by kernel_rfl
theorem fo68_4 : wD Tryd.prog 68 4 = some (23, 4) := by kernel_rfl
theorem fo68_5 : wD Tryd.prog 68 5 = some (62, 5) := by kernel_rfl
theorem sh68 : xX Tryd.prog 68 = some (.fields [(0, 1), (1, 1), (2, 1), (3, 1), (4, 1), (5, 1)], [.int .i64 0, .int .i64 0, .slice none 0 0, .int .i64 0, .slice none 0 0, .slice none 0 0]) := by kernel_rfl
theorem ni68 : zC Tryd.prog 68 = true := by kernel_rfl
theorem qA5 : wB Tryd.prog 74 = some (true, 3) := by kernel_rfl
theorem zr74 : zQ Tryd.prog 74 = some [.slice none 0 0, .slice none 0 0, .int .i64 0] := by kernel_rfl
theorem fo74_0 : wD Tryd.prog 74 0 = some (23, 0) := by kernel_rfl
theorem fo74_1 : wD Tryd.prog 74 1 = some (23, 1) := by kernel_rfl
theorem fo74_2 : wD Tryd.prog 74 2 = some (3, 2) := by kernel_rfl
theorem sh74 : xX Tryd.prog 74 = some (.fields [(0, 1), (1, 1), (2, 1)], [.slice none 0 0, .slice none 0 0, .int .i64 0]) := by kernel_rfl
theorem ni74 : zC Tryd.prog 74 = true := by kernel_rfl
theorem ud75 : Tryd.prog.underlying 75 = some (.int .u64) := Tryd.underlying75
theorem sz75 : wB Tryd.prog 75 = some (false, 1) := by kernel_rfl
theorem zr75 : zQ Tryd.prog 75 = some [.int .u64 0] := by kernel_rfl
theorem ni75 : zC Tryd.prog 75 = true := by kernel_rfl
theorem qA4 : wB Tryd.prog 77 = some (true, 4) := by kernel_rfl
theorem zr77 : zQ Tryd.prog 77 = some [.int .i64 0, .int .i64 0, .slice none 0 0, .slice none 0 0] := by kernel_rfl
theorem fo77_0 : wD Tryd.prog 77 0 = some (3, 0) := by kernel_rfl
theorem fo77_1 : wD Tryd.prog 77 1 = some (3, 1) := by kernel_rfl
theorem fo77_2 : wD Tryd.prog 77 2 = some (23, 2) := by kernel_rfl
theorem fo77_3 : wD Tryd.prog 77 3 = some (23, 3) := by kernel_rfl
theorem sh77 : xX Tryd.prog 77 = some (.fields [(0, 1), (1, 1), (2, 1), (3, 1)], [.int .i64 0, .int .i64 0, .slice none 0 0, .slice none 0 0]) := by kernel_rfl
theorem ni77 : zC Tryd.prog 77 = true := by kernel_rfl
theorem ud83 : Tryd.prog.underlying 83 = some (.int .u32) := Tryd.underlying83
theorem sz83 : wB Tryd.prog 83 = some (false, 1) := by kernel_rfl
theorem zr83 : zQ Tryd.prog 83 = some [.int .u32 0] := by kernel_rfl
theorem ni83 : zC Tryd.prog 83 = true := by kernel_rfl
theorem ud85 : Tryd.prog.underlying 85 = some (.int .u64) := Tryd.underlying85
theorem sz85 : wB Tryd.prog 85 = some (false, 1) := by kernel_rfl
theorem zr85 : zQ Tryd.prog 85 = some [.int .u64 0] := by kernel_rfl
theorem ni85 : zC Tryd.prog 85 = true := by kernel_rfl
theorem sz90 : wB Tryd.prog 90 = some (true, 64) := by kernel_rfl
theorem zr90 : zQ Tryd.prog 90 = some [.int .u8 0, .int .u8 0, .int .u8 0, .int .u8 0, .int .u8 0, .int .u8 0, .int .u8 0, .int .u8 0, .int .u8 0, .int .u8 0, .int .u8 0, .int .u8 0, .int .u8 0, .int .u8 0, .int .u8 0, .int .u8 0, .int .u8 0, .int .u8 0, .int .u8 0, .int .u8 0, .int .u8 0, .int .u8 0, .int .u8 0, .int .u8 0, .int .u8 0, .int .u8 0, .int .u8 0, .int .u8 0, .int .u8 0, .int .u8 0, .int .u8 0, .int .u8 0, .int .u8 0, .int .u8 0, .int .u8 0, .int .u8 0, .int .u8 0, .int .u8 0, .int .u8 0, .int .u8 0, .int .u8 0, .int .u8 0, .int .u8 0, .int .u8 0, .int .u8 0, .int .u8 0, .int .u8 0, .int .u8 0, .int .u8 0, .int .u8 0, .int .u8 0, .int .u8 0, .int .u8 0, .int .u8 0, .int .u8 0, .int .u8 0, .int .u8 0, .int .u8 0, .int .u8 0, .int .u8 0, .int .u8 0, .int .u8 0, .int .u8 0, .int .u8 0] := by kernel_rfl
theorem sh90 : xX Tryd.prog 90 = some (.elems 1, [.int .u8 0, .int .u8 0, .int .u8 0, .int .u8 0, .int .u8 0, .int .u8 0, .int .u8 0, .int .u8 0, .int .u8 0, .int .u8 0, .int .u8 0, .int .u8 0, .int .u8 0, .int .u8 0, .int .u8 0, .int .u8 0, .int .u8 0, .int .u8 0, .int .u8 0, .int .u8 0, .int .u8 0, .int .u8 0, .int .u8 0, .int .u8 0, .int .u8 0, .int .u8 0, .int .u8 0, .int .u8 0, .int .u8 0, .int .u8 0, .int .u8 0, .int .u8 0, .int .u8 0, .int .u8 0, .int .u8 0, .int .u8 0, .int .u8 0, .int .u8 0, .int .u8 0, .int .u8 0, .int .u8 0, .int .u8 0, .int .u8 0, .int .u8 0, .int .u8 0, .int .u8 0, .int .u8 0, .int .u8 0, .int .u8 0, .int .u8 0, .int .u8 0, .int .u8 0, .int .u8 0, .int .u8 0, .int .u8 0, .int .u8 0, .int .u8 0, .int .u8 0, .int .u8 0, .int .u8 0, .int .u8 0, .int .u8 0, .int .u8 0, .int .u8 0]) := by kernel_rfl
theorem ni90 : zC Tryd.prog 90 = true := by kernel_rfl
theorem qF5 : ∀ (h : GH) (n : Int), vF Tryd.prog 3 5 h (.int .i64 n) = some (.int .u8 (IntKind.wrap .u8 n)) := by intros; simp [vF, fO, Tryd.underlying3, Tryd.underlying5]
theorem mC : ∀ (h : GH) (n : Int), vF Tryd.prog 3 75 h (.int .i64 n) = some (.int .u64 (IntKind.wrap .u64 n)) := by intros; simp [vF, fO, Tryd.underlying3, Tryd.underlying75]
theorem qF4 : ∀ (h : GH) (n : Int), vF Tryd.prog 5 3 h (.int .u8 n) = some (.int .i64 (IntKind.wrap .i64 n)) := by intros; simp [vF, fO, Tryd.underlying5, Tryd.underlying3]
theorem rK : ∀ (h : GH) (n : Int), vF Tryd.prog 75 83 h (.int .u64 n) = some (.int .u32 (IntKind.wrap .u32 n)) := by intros; simp [vF, fO, Tryd.underlying75, Tryd.underlying83]
theorem cv85_5 : ∀ (h : GH) (n : Int), vF Tryd.prog 85 5 h (.int .u64 n) = some (.int .u8 (IntKind.wrap .u8 n)) := by intros; simp [vF, fO, Tryd.underlying85, Tryd.underlying5]
theorem qX : Tryd.prog.follows .mixedOrders = true := by kernel_rfl
theorem wJ : (zC Tryd.prog 3 = true) ∧ (wB Tryd.prog 3 = some (false, 1)) ∧ (Tryd.prog.underlying 3 = some (.int .i64)) ∧ (zQ Tryd.prog 3 = some [.int .i64 0]) := ⟨ni3, xU, ud3, zr3⟩
theorem gO : (zC Tryd.prog 4 = true) ∧ (wB Tryd.prog 4 = some (false, 1)) ∧ (Tryd.prog.underlying 4 = some .bool) ∧ (zQ Tryd.prog 4 = some [.bool false]) := ⟨ni4, sG, ud4, zr4⟩
theorem wS : (zC Tryd.prog 5 = true) ∧ (wB Tryd.prog 5 = some (false, 1)) ∧ (Tryd.prog.underlying 5 = some (.int .u8)) ∧ (zQ Tryd.prog 5 = some [.int .u8 0]) := ⟨ni5, sz5, ud5, zr5⟩
theorem ty9 : (zC Tryd.prog 9 = true) ∧ (wB Tryd.prog 9 = some (false, 1)) ∧ (Tryd.prog.underlying 9 = some .string) ∧ (zQ Tryd.prog 9 = some [.string ByteArray.empty]) := ⟨ni9, sz9, ud9, zr9⟩
theorem uX : (zC Tryd.prog 22 = true) ∧ (wB Tryd.prog 22 = some (false, 1)) ∧ (Tryd.prog.underlying 22 = some (.int .i64)) ∧ (zQ Tryd.prog 22 = some [.int .i64 0]) := ⟨ni22, yD, ud22, zr22⟩
theorem zX : (kI Tryd.prog 23 = some (5, 1, 1, .int .u8 0)) ∧ (zC Tryd.prog 23 = true) ∧ (wB Tryd.prog 23 = some (false, 1)) ∧ (Tryd.prog.underlying 23 = some (.slice 5)) ∧ (zQ Tryd.prog 23 = some [.slice none 0 0]) := ⟨vJ, ni23, zI, ud23, zr23⟩
theorem uW : (kI Tryd.prog 24 = some (74, 3, 56, .agg #[.slice none 0 0, .slice none 0 0, .int .i64 0])) ∧ (zC Tryd.prog 24 = true) ∧ (wB Tryd.prog 24 = some (false, 1)) ∧ (Tryd.prog.underlying 24 = some (.slice 74)) ∧ (zQ Tryd.prog 24 = some [.slice none 0 0]) := ⟨el24, ni24, qG7, ud24, zr24⟩
theorem uV : (kI Tryd.prog 25 = some (77, 4, 64, .agg #[.int .i64 0, .int .i64 0, .slice none 0 0, .slice none 0 0])) ∧ (zC Tryd.prog 25 = true) ∧ (wB Tryd.prog 25 = some (false, 1)) ∧ (Tryd.prog.underlying 25 = some (.slice 77)) ∧ (zQ Tryd.prog 25 = some [.slice none 0 0]) := ⟨el25, ni25, qG6, ud25, zr25⟩
theorem uD : (wD Tryd.prog 27 0 = some (22, 0)) ∧ (wD Tryd.prog 27 1 = some (3, 1)) ∧ (wD Tryd.prog 27 2 = some (4, 2)) ∧ (wD Tryd.prog 27 3 = some (4, 3)) ∧ (wD Tryd.prog 27 4 = some (23, 4)) ∧ (wD Tryd.prog 27 5 = some (3, 5)) ∧ (wD Tryd.prog 27 6 = some (24, 6)) ∧ (wD Tryd.prog 27 7 = some (25, 7)) ∧ (wD Tryd.prog 27 8 = some (4, 8)) ∧ (zC Tryd.prog 27 = true) ∧ (xX Tryd.prog 27 = some (.fields [(0, 1), (1, 1), (2, 1), (3, 1), (4, 1), (5, 1), (6, 1), (7, 1), (8, 1)], [.int .i64 0, .int .i64 0, .bool false, .bool false, .slice none 0 0, .int .i64 0, .slice none 0 0, .slice none 0 0, .bool false])) ∧ (wB Tryd.prog 27 = some (true, 9)) ∧ (zQ Tryd.prog 27 = some [.int .i64 0, .int .i64 0, .bool false, .bool false, .slice none 0 0, .int .i64 0, .slice none 0 0, .slice none 0 0, .bool false]) := ⟨fo27_0, fo27_1, fo27_2, fo27_3, fo27_4, fo27_5, fo27_6, fo27_7, fo27_8, ni27, sh27, qA8, zr27⟩
theorem tV : (kI Tryd.prog 28 = some (66, 3, 40, .agg #[.int .i64 0, .int .i64 0, .slice none 0 0])) ∧ (zC Tryd.prog 28 = true) ∧ (wB Tryd.prog 28 = some (false, 1)) ∧ (Tryd.prog.underlying 28 = some (.slice 66)) ∧ (zQ Tryd.prog 28 = some [.slice none 0 0]) := ⟨el28, ni28, qG5, ud28, zr28⟩
theorem jM : (kI Tryd.prog 29 = some (31, 10, 176, .agg #[.int .i64 0, .slice none 0 0, .slice none 0 0, .int .i64 0, .int .i64 0, .slice none 0 0, .int .i64 0, .slice none 0 0, .slice none 0 0, .slice none 0 0])) ∧ (zC Tryd.prog 29 = true) ∧ (wB Tryd.prog 29 = some (false, 1)) ∧ (Tryd.prog.underlying 29 = some (.slice 31)) ∧ (zQ Tryd.prog 29 = some [.slice none 0 0]) := ⟨el29, ni29, dE, ud29, zr29⟩
theorem jL : (wD Tryd.prog 31 0 = some (3, 0)) ∧ (wD Tryd.prog 31 1 = some (23, 1)) ∧ (wD Tryd.prog 31 2 = some (23, 2)) ∧ (wD Tryd.prog 31 3 = some (3, 3)) ∧ (wD Tryd.prog 31 4 = some (3, 4)) ∧ (wD Tryd.prog 31 5 = some (23, 5)) ∧ (wD Tryd.prog 31 6 = some (3, 6)) ∧ (wD Tryd.prog 31 7 = some (23, 7)) ∧ (wD Tryd.prog 31 8 = some (23, 8)) ∧ (wD Tryd.prog 31 9 = some (29, 9)) ∧ (zC Tryd.prog 31 = true) ∧ (xX Tryd.prog 31 = some (.fields [(0, 1), (1, 1), (2, 1), (3, 1), (4, 1), (5, 1), (6, 1), (7, 1), (8, 1), (9, 1)], [.int .i64 0, .slice none 0 0, .slice none 0 0, .int .i64 0, .int .i64 0, .slice none 0 0, .int .i64 0, .slice none 0 0, .slice none 0 0, .slice none 0 0])) ∧ (wB Tryd.prog 31 = some (true, 10)) ∧ (zQ Tryd.prog 31 = some [.int .i64 0, .slice none 0 0, .slice none 0 0, .int .i64 0, .int .i64 0, .slice none 0 0, .int .i64 0, .slice none 0 0, .slice none 0 0, .slice none 0 0]) := ⟨fo31_0, fo31_1, fo31_2, fo31_3, fo31_4, fo31_5, fo31_6, fo31_7, fo31_8, fo31_9, ni31, sh31, uM, zr31⟩
theorem tU : (wD Tryd.prog 33 0 = some (28, 0)) ∧ (wD Tryd.prog 33 1 = some (31, 1)) ∧ (zC Tryd.prog 33 = true) ∧ (xX Tryd.prog 33 = some (.fields [(0, 1), (1, 10)], [.slice none 0 0, .int .i64 0, .slice none 0 0, .slice none 0 0, .int .i64 0, .int .i64 0, .slice none 0 0, .int .i64 0, .slice none 0 0, .slice none 0 0, .slice none 0 0])) ∧ (wB Tryd.prog 33 = some (true, 11)) ∧ (zQ Tryd.prog 33 = some [.slice none 0 0, .int .i64 0, .slice none 0 0, .slice none 0 0, .int .i64 0, .int .i64 0, .slice none 0 0, .int .i64 0, .slice none 0 0, .slice none 0 0, .slice none 0 0]) := ⟨fo33_0, fo33_1, ni33, sh33, kK, zr33⟩
theorem qG3 : (kI Tryd.prog 34 = some (33, 11, 200, .agg #[.slice none 0 0, .int .i64 0, .slice none 0 0, .slice none 0 0, .int .i64 0, .int .i64 0, .slice none 0 0, .int .i64 0, .slice none 0 0, .slice none 0 0, .slice none 0 0])) ∧ (zC Tryd.prog 34 = true) ∧ (wB Tryd.prog 34 = some (false, 1)) ∧ (Tryd.prog.underlying 34 = some (.slice 33)) ∧ (zQ Tryd.prog 34 = some [.slice none 0 0]) := ⟨el34, ni34, qG4, ud34, zr34⟩
theorem mR : (kI Tryd.prog 35 = some (62, 1, 24, .slice none 0 0)) ∧ (zC Tryd.prog 35 = true) ∧ (wB Tryd.prog 35 = some (false, 1)) ∧ (Tryd.prog.underlying 35 = some (.slice 62)) ∧ (zQ Tryd.prog 35 = some [.slice none 0 0]) := ⟨el35, ni35, sz35, ud35, zr35⟩
theorem tT : (kI Tryd.prog 36 = some (46, 1, 24, .slice none 0 0)) ∧ (zC Tryd.prog 36 = true) ∧ (wB Tryd.prog 36 = some (false, 1)) ∧ (Tryd.prog.underlying 36 = some (.slice 46)) ∧ (zQ Tryd.prog 36 = some [.slice none 0 0]) := ⟨el36, ni36, rR, ud36, zr36⟩
theorem mQ : (wD Tryd.prog 38 0 = some (33, 0)) ∧ (wD Tryd.prog 38 1 = some (34, 11)) ∧ (wD Tryd.prog 38 2 = some (31, 12)) ∧ (wD Tryd.prog 38 3 = some (35, 22)) ∧ (wD Tryd.prog 38 4 = some (36, 23)) ∧ (zC Tryd.prog 38 = true) ∧ (xX Tryd.prog 38 = some (.fields [(0, 11), (11, 1), (12, 10), (22, 1), (23, 1)], [.slice none 0 0, .int .i64 0, .slice none 0 0, .slice none 0 0, .int .i64 0, .int .i64 0, .slice none 0 0, .int .i64 0, .slice none 0 0, .slice none 0 0, .slice none 0 0, .slice none 0 0, .int .i64 0, .slice none 0 0, .slice none 0 0, .int .i64 0, .int .i64 0, .slice none 0 0, .int .i64 0, .slice none 0 0, .slice none 0 0, .slice none 0 0, .slice none 0 0, .slice none 0 0])) ∧ (wB Tryd.prog 38 = some (true, 24)) ∧ (zQ Tryd.prog 38 = some [.slice none 0 0, .int .i64 0, .slice none 0 0, .slice none 0 0, .int .i64 0, .int .i64 0, .slice none 0 0, .int .i64 0, .slice none 0 0, .slice none 0 0, .slice none 0 0, .slice none 0 0, .int .i64 0, .slice none 0 0, .slice none 0 0, .int .i64 0, .int .i64 0, .slice none 0 0, .int .i64 0, .slice none 0 0, .slice none 0 0, .slice none 0 0, .slice none 0 0, .slice none 0 0]) := ⟨fo38_0, fo38_1, fo38_2, fo38_3, fo38_4, ni38, sh38, sz38, zr38⟩
theorem mP : (wD Tryd.prog 40 0 = some (27, 0)) ∧ (wD Tryd.prog 40 1 = some (38, 9)) ∧ (zC Tryd.prog 40 = true) ∧ (xX Tryd.prog 40 = some (.fields [(0, 9), (9, 24)], [.int .i64 0, .int .i64 0, .bool false, .bool false, .slice none 0 0, .int .i64 0, .slice none 0 0, .slice none 0 0, .bool false, .slice none 0 0, .int .i64 0, .slice none 0 0, .slice none 0 0, .int .i64 0, .int .i64 0, .slice none 0 0, .int .i64 0, .slice none 0 0, .slice none 0 0, .slice none 0 0, .slice none 0 0, .int .i64 0, .slice none 0 0, .slice none 0 0, .int .i64 0, .int .i64 0, .slice none 0 0, .int .i64 0, .slice none 0 0, .slice none 0 0, .slice none 0 0, .slice none 0 0, .slice none 0 0])) ∧ (wB Tryd.prog 40 = some (true, 33)) ∧ (zQ Tryd.prog 40 = some [.int .i64 0, .int .i64 0, .bool false, .bool false, .slice none 0 0, .int .i64 0, .slice none 0 0, .slice none 0 0, .bool false, .slice none 0 0, .int .i64 0, .slice none 0 0, .slice none 0 0, .int .i64 0, .int .i64 0, .slice none 0 0, .int .i64 0, .slice none 0 0, .slice none 0 0, .slice none 0 0, .slice none 0 0, .int .i64 0, .slice none 0 0, .slice none 0 0, .int .i64 0, .int .i64 0, .slice none 0 0, .int .i64 0, .slice none 0 0, .slice none 0 0, .slice none 0 0, .slice none 0 0, .slice none 0 0]) := ⟨fo40_0, fo40_1, ni40, sh40, sz40, zr40⟩
theorem tS : (kI Tryd.prog 46 = some (68, 6, 96, .agg #[.int .i64 0, .int .i64 0, .slice none 0 0, .int .i64 0, .slice none 0 0, .slice none 0 0])) ∧ (zC Tryd.prog 46 = true) ∧ (wB Tryd.prog 46 = some (false, 1)) ∧ (Tryd.prog.underlying 46 = some (.slice 68)) ∧ (zQ Tryd.prog 46 = some [.slice none 0 0]) := ⟨el46, ni46, qA7, ud46, zr46⟩
theorem fB : (zC Tryd.prog 49 = true) ∧ (wB Tryd.prog 49 = some (false, 1)) ∧ (Tryd.prog.underlying 49 = some (.pointer 51)) ∧ (zQ Tryd.prog 49 = some [.pointer none]) := ⟨ni49, sz49, ud49, zr49⟩
theorem jK : (wD Tryd.prog 51 0 = some (23, 0)) ∧ (zC Tryd.prog 51 = true) ∧ (xX Tryd.prog 51 = some (.fields [(0, 1)], [.slice none 0 0])) ∧ (wB Tryd.prog 51 = some (true, 1)) ∧ (zQ Tryd.prog 51 = some [.slice none 0 0]) := ⟨fo51_0, ni51, sh51, sz51, zr51⟩
theorem yU : (kI Tryd.prog 62 = some (23, 1, 24, .slice none 0 0)) ∧ (zC Tryd.prog 62 = true) ∧ (wB Tryd.prog 62 = some (false, 1)) ∧ (Tryd.prog.underlying 62 = some (.slice 23)) ∧ (zQ Tryd.prog 62 = some [.slice none 0 0]) := ⟨el62, ni62, rC, ud62, zr62⟩
theorem qG2 : (wD Tryd.prog 66 0 = some (3, 0)) ∧ (wD Tryd.prog 66 1 = some (3, 1)) ∧ (wD Tryd.prog 66 2 = some (23, 2)) ∧ (zC Tryd.prog 66 = true) ∧ (xX Tryd.prog 66 = some (.fields [(0, 1), (1, 1), (2, 1)], [.int .i64 0, .int .i64 0, .slice none 0 0])) ∧ (wB Tryd.prog 66 = some (true, 3)) ∧ (zQ Tryd.prog 66 = some [.int .i64 0, .int .i64 0, .slice none 0 0]) := ⟨fo66_0, fo66_1, fo66_2, ni66, sh66, qA6, zr66⟩
theorem fA : (wD Tryd.prog 68 0 = some (3, 0)) ∧ (wD Tryd.prog 68 1 = some (3, 1)) ∧ (wD Tryd.prog 68 2 = some (23, 2)) ∧ (wD Tryd.prog 68 3 = some (3, 3)) ∧ (wD Tryd.prog 68 4 = some (23, 4)) ∧ (wD Tryd.prog 68 5 = some (62, 5)) ∧ (zC Tryd.prog 68 = true) ∧ (xX Tryd.prog 68 = some (.fields [(0, 1), (1, 1), (2, 1), (3, 1), (4, 1), (5, 1)], [.int .i64 0, .int .i64 0, .slice none 0 0, .int .i64 0, .slice none 0 0, .slice none 0 0])) ∧ (wB Tryd.prog 68 = some (true, 6)) ∧ (zQ Tryd.prog 68 = some [.int .i64 0, .int .i64 0, .slice none 0 0, .int .i64 0, .slice none 0 0, .slice none 0 0]) := ⟨fo68_0, fo68_1, fo68_2, fo68_3, fo68_4, fo68_5, ni68, sh68, rQ, zr68⟩
theorem qG1 : (wD Tryd.prog 74 0 = some (23, 0)) ∧ (wD Tryd.prog 74 1 = some (23, 1)) ∧ (wD Tryd.prog 74 2 = some (3, 2)) ∧ (zC Tryd.prog 74 = true) ∧ (xX Tryd.prog 74 = some (.fields [(0, 1), (1, 1), (2, 1)], [.slice none 0 0, .slice none 0 0, .int .i64 0])) ∧ (wB Tryd.prog 74 = some (true, 3)) ∧ (zQ Tryd.prog 74 = some [.slice none 0 0, .slice none 0 0, .int .i64 0]) := ⟨fo74_0, fo74_1, fo74_2, ni74, sh74, qA5, zr74⟩
theorem mO : (zC Tryd.prog 75 = true) ∧ (wB Tryd.prog 75 = some (false, 1)) ∧ (Tryd.prog.underlying 75 = some (.int .u64)) ∧ (zQ Tryd.prog 75 = some [.int .u64 0]) := ⟨ni75, sz75, ud75, zr75⟩
theorem qG0 : (wD Tryd.prog 77 0 = some (3, 0)) ∧ (wD Tryd.prog 77 1 = some (3, 1)) ∧ (wD Tryd.prog 77 2 = some (23, 2)) ∧ (wD Tryd.prog 77 3 = some (23, 3)) ∧ (zC Tryd.prog 77 = true) ∧ (xX Tryd.prog 77 = some (.fields [(0, 1), (1, 1), (2, 1), (3, 1)], [.int .i64 0, .int .i64 0, .slice none 0 0, .slice none 0 0])) ∧ (wB Tryd.prog 77 = some (true, 4)) ∧ (zQ Tryd.prog 77 = some [.int .i64 0, .int .i64 0, .slice none 0 0, .slice none 0 0]) := ⟨fo77_0, fo77_1, fo77_2, fo77_3, ni77, sh77, qA4, zr77⟩
theorem ty83 : (zC Tryd.prog 83 = true) ∧ (wB Tryd.prog 83 = some (false, 1)) ∧ (Tryd.prog.underlying 83 = some (.int .u32)) ∧ (zQ Tryd.prog 83 = some [.int .u32 0]) := ⟨ni83, sz83, ud83, zr83⟩
theorem mN : (zC Tryd.prog 85 = true) ∧ (wB Tryd.prog 85 = some (false, 1)) ∧ (Tryd.prog.underlying 85 = some (.int .u64)) ∧ (zQ Tryd.prog 85 = some [.int .u64 0]) := ⟨ni85, sz85, ud85, zr85⟩
theorem ty90 : (zC Tryd.prog 90 = true) ∧ (xX Tryd.prog 90 = some (.elems 1, [.int .u8 0, .int .u8 0, .int .u8 0, .int .u8 0, .int .u8 0, .int .u8 0, .int .u8 0, .int .u8 0, .int .u8 0, .int .u8 0, .int .u8 0, .int .u8 0, .int .u8 0, .int .u8 0, .int .u8 0, .int .u8 0, .int .u8 0, .int .u8 0, .int .u8 0, .int .u8 0, .int .u8 0, .int .u8 0, .int .u8 0, .int .u8 0, .int .u8 0, .int .u8 0, .int .u8 0, .int .u8 0, .int .u8 0, .int .u8 0, .int .u8 0, .int .u8 0, .int .u8 0, .int .u8 0, .int .u8 0, .int .u8 0, .int .u8 0, .int .u8 0, .int .u8 0, .int .u8 0, .int .u8 0, .int .u8 0, .int .u8 0, .int .u8 0, .int .u8 0, .int .u8 0, .int .u8 0, .int .u8 0, .int .u8 0, .int .u8 0, .int .u8 0, .int .u8 0, .int .u8 0, .int .u8 0, .int .u8 0, .int .u8 0, .int .u8 0, .int .u8 0, .int .u8 0, .int .u8 0, .int .u8 0, .int .u8 0, .int .u8 0, .int .u8 0])) ∧ (wB Tryd.prog 90 = some (true, 64)) ∧ (zQ Tryd.prog 90 = some [.int .u8 0, .int .u8 0, .int .u8 0, .int .u8 0, .int .u8 0, .int .u8 0, .int .u8 0, .int .u8 0, .int .u8 0, .int .u8 0, .int .u8 0, .int .u8 0, .int .u8 0, .int .u8 0, .int .u8 0, .int .u8 0, .int .u8 0, .int .u8 0, .int .u8 0, .int .u8 0, .int .u8 0, .int .u8 0, .int .u8 0, .int .u8 0, .int .u8 0, .int .u8 0, .int .u8 0, .int .u8 0, .int .u8 0, .int .u8 0, .int .u8 0, .int .u8 0, .int .u8 0, .int .u8 0, .int .u8 0, .int .u8 0, .int .u8 0, .int .u8 0, .int .u8 0, .int .u8 0, .int .u8 0, .int .u8 0, .int .u8 0, .int .u8 0, .int .u8 0, .int .u8 0, .int .u8 0, .int .u8 0, .int .u8 0, .int .u8 0, .int .u8 0, .int .u8 0, .int .u8 0, .int .u8 0, .int .u8 0, .int .u8 0, .int .u8 0, .int .u8 0, .int .u8 0, .int .u8 0, .int .u8 0, .int .u8 0, .int .u8 0, .int .u8 0]) := ⟨ni90, sh90, sz90, zr90⟩
end Go.Gh
namespace Go.Gh
open Go Go.Proofs Go.RowKit
set_option linter.unusedVariables false
set_option linter.unusedSimpArgs false
set_option maxRecDepth 100000
theorem fxBits_6 : type_of% (And.intro zX (And.intro wS (And.intro ty9 rs6))) := And.intro zX (And.intro wS (And.intro ty9 rs6))
theorem qF8 (N : Nat) (h : GH) {a b : Option Addr} {n m c d : Nat} {l k : List UInt8} (r1 : RB h (.slice a n c) l) (r2 : RB h (.slice b m d) k) : GTri Tryd.prog N 6 [.slice a n c, .slice b m d] h fun v h' => v = .bool (l == k) ∧ h' = h := by
  refine xW Tryd.func6 rfl gf6 ok6 (by simp [Tryd.ntmps6]) ?_
  repeat' (first | (with_reducible first | apply qJ | apply qB) | ((first | (with_reducible first | apply qA | apply qP | apply qD | apply qE | apply qK) | ((with_reducible first | apply qQ | apply qH | apply qI) <;> intro hb <;> (try simp only [hb]))) <;> try simp only [qY, qF, qM, qO, qG, qC, qN, reduceIte, seval, Int.cast_ofNat_Int, qZ, zA, fxBits_6, r1.conv Tryd.underlying23 Tryd.underlying5 Tryd.underlying9, r2.conv Tryd.underlying23 Tryd.underlying5 Tryd.underlying9, bstr_eq]))
def uQ (x : Nat) : Nat := if x = 0 then 0 else Nat.log2 x + 1
theorem fR : type_of% (And.intro zX (And.intro wS rs39)) := And.intro zX (And.intro wS rs39)
theorem lX (N : Nat) (h : GH) {a : Option Addr} {n c : Nat} {l : List UInt8} (r : RB h (.slice a n c) l) (hl : l.length ≤ 140737488355328) : GTri Tryd.prog N 39 [.slice a n c] h fun v h' => HS h h' ∧ OWN h h' v l := by
  refine xW Tryd.func39 rfl gf39 ok39 (by simp [Tryd.ntmps39]) ?_
  repeat' (first | (with_reducible first | apply qJ | apply qB) | ((first | (with_reducible first | apply qA | apply qP | apply qD | apply qE | apply qK) | ((with_reducible first | apply qQ | apply qH | apply qI) <;> intro hb <;> (try simp only [hb]))) <;> try simp only [qY, qF, qM, qO, qG, qC, qN, reduceIte, seval, Int.cast_ofNat_Int, qZ, zA, fR]))
  · obtain rfl := r.isnil hb
    exact ⟨HS.refl h, OWN.nil h h⟩
  · refine bs0_g vJ rfl ?_
    simp only [qY, qF, qM, qO, qG, qC, qN, reduceIte, seval, Int.cast_ofNat_Int, qZ, zA, fR]
    refine xK vJ Tryd.underlying23 rfl (HS.refl h) (.inr (.inl ⟨_, rfl, rfl⟩)) r.src (by simpa using hl) fun v h' s1 _ o => ?_
    simp only [qY, qF, qM, qO, qG, qC, qN, reduceIte, seval, Int.cast_ofNat_Int, qZ, zA, fR]
    repeat' (first | (with_reducible first | apply qJ | apply qB) | ((first | (with_reducible first | apply qA | apply qP | apply qD | apply qE | apply qK) | ((with_reducible first | apply qQ | apply qH | apply qI) <;> intro hb <;> (try simp only [hb]))) <;> try simp only [qY, qF, qM, qO, qG, qC, qN, reduceIte, seval, Int.cast_ofNat_Int, qZ, zA, fR]))
    exact ⟨s1, o⟩
theorem lQ : type_of% (And.intro qF4 (And.intro cv85_5 (And.intro wJ (And.intro wS (And.intro mN (And.intro ty9 rs44)))))) := And.intro qF4 (And.intro cv85_5 (And.intro wJ (And.intro wS (And.intro mN (And.intro ty9 rs44)))))
theorem fxCod_38 : type_of% (And.intro rK (And.intro mO (And.intro ty83 (And.intro mN rs38)))) := And.intro rK (And.intro mO (And.intro ty83 (And.intro mN rs38)))
theorem uS : type_of% (And.intro qF5 (And.intro mC (And.intro zX (And.intro wJ (And.intro wS (And.intro mO rs29)))))) := And.intro qF5 (And.intro mC (And.intro zX (And.intro wJ (And.intro wS (And.intro mO rs29)))))
def xJ (n : Nat) : List UInt8 := if n = 0 then [] else xJ (n / 256) ++ [UInt8.ofNat (n % 256)]
termination_by n
decreasing_by omega
theorem vE : xJ 0 = [] := by rw [xJ]; simp
theorem yP {n : Nat} (h : n ≠ 0) : xJ n = xJ (n / 256) ++ [UInt8.ofNat (n % 256)] := by rw [xJ]; simp [h]
theorem sF : ∀ (k n : Nat), n < 256 ^ k → (xJ n).length ≤ k
  | 0, n, h => by
    obtain rfl : n = 0 := by simpa using h
    simp [vE]
  | k + 1, n, h => by
    by_cases h0 : n = 0
    · subst h0; simp [vE]
    · rw [yP h0, List.length_append, List.length_singleton]
      have := sF k (n / 256) (by rw [Nat.pow_succ] at h; omega)
      omega
theorem qA3 (n : Nat) : ∀ j, j < (xJ n).length → (xJ n)[j]? = some (UInt8.ofNat (n / 256 ^ ((xJ n).length - 1 - j) % 256)) := by
  induction n using Nat.strongRecOn with
  | _ n ih =>
    intro j hj
    by_cases h : n = 0
    · subst h; simp [vE] at hj
    · rw [yP h] at hj ⊢
      simp only [List.length_append, List.length_singleton] at hj ⊢
      by_cases hl : j < (xJ (n / 256)).length
      · rw [List.getElem?_append_left hl, ih (n / 256) (by omega) j hl]
        congr 3
        rw [show (xJ (n / 256)).length + 1 - 1 - j = ((xJ (n / 256)).length - 1 - j) + 1 by omega, Nat.pow_succ, Nat.mul_comm, Nat.div_div_eq_div_mul]
      · obtain rfl : j = (xJ (n / 256)).length := by omega
        rw [List.getElem?_append_right (by omega)]
        simp
theorem yV {x k : Nat} (h : 2 ^ k ≤ x) : uQ x = k + uQ (x / 2 ^ k) := by
  have hk : 0 < 2 ^ k := Nat.two_pow_pos k
  have h0 : x ≠ 0 := by omega
  have h1 : x / 2 ^ k ≠ 0 := by
    have := Nat.div_pos h hk
    omega
  simp only [uQ, if_neg h0, if_neg h1]
  have : Nat.log2 x = k + Nat.log2 (x / 2 ^ k) := by
    have a1 := Nat.log2_self_le h1
    have a2 := Nat.lt_log2_self (n := x / 2 ^ k)
    refine (Nat.log2_eq_iff h0).2 ⟨?_, ?_⟩
    · rw [Nat.pow_add]
      calc 2 ^ k * 2 ^ (x / 2 ^ k).log2 ≤ 2 ^ k * (x / 2 ^ k) := Nat.mul_le_mul_left _ a1
        _ ≤ x := Nat.mul_div_le _ _
    · rw [Nat.add_assoc, Nat.pow_add, Nat.mul_comm]
      exact (Nat.div_lt_iff_lt_mul hk).1 a2
  omega
theorem rX {n : Nat} (h : n < 256) (h0 : n ≠ 0) : 1 ≤ uQ n ∧ uQ n ≤ 8 := by
  have : Nat.log2 n < 8 := (Nat.log2_lt h0).2 (by omega)
  simp only [uQ, if_neg h0]
  omega
theorem qB5 (n : Nat) : (uQ n + 7) / 8 = (xJ n).length := by
  induction n using Nat.strongRecOn with
  | _ n ih =>
    by_cases h : n = 0
    · subst h; rw [vE]; rfl
    · rw [yP h, List.length_append, List.length_singleton, ← ih (n / 256) (by omega)]
      by_cases h2 : n < 256
      · have := rX h2 h
        rw [show n / 256 = 0 by omega]
        simp only [uQ, if_true] at this ⊢
        omega
      · have := yV (x := n) (k := 8) (by omega)
        rw [show (2 : Nat) ^ 8 = 256 from rfl] at this
        rw [this]; omega
theorem qD9 (x k : Nat) (hk : k ≤ 64) : (x : Int).fdiv (2 ^ min k IntKind.u64.bits) = ((x / 2 ^ k : Nat) : Int) := by
  have := tG x (2 ^ k)
  rw [Int.natCast_pow] at this
  have e : min k IntKind.u64.bits = k := Nat.min_eq_left hk
  rw [e]; exact this
theorem tab_nat {T : List UInt8} {f : Nat → Nat} {x : Nat} (h : ((List.range 256).all fun n => T[n]? == some (UInt8.ofNat (f n))) = true) (hx : x < 256) : T[x]? = some (UInt8.ofNat (f x)) := by
  rw [List.all_eq_true] at h
  simpa using h x (by simpa using hx)
theorem pK {n : Nat} (h : n < 256) : uQ n ≤ 8 := by
  by_cases h0 : n = 0
  · subst h0; decide
  · exact (rX h h0).2
theorem qH4 {n : Nat} (h : n < 256) : ((UInt8.ofNat (uQ n)).toNat : Int) = (uQ n : Int) := by
  have := pK h
  rw [UInt8.toNat_ofNat_of_lt' (by simpa using (by omega : uQ n < 256))]
theorem optK_tab {T : List UInt8} {K : Value → GH → Prop} {h : GH} {i : Int} {y : Nat} (hT : ((List.range 256).all fun n => T[n]? == some (UInt8.ofNat (uQ n))) = true) (hi : i = y) (hy : y < 256) (g : uQ y ≤ 8 → IntKind.i64.wrap (uQ y : Int) = (uQ y : Int) → K (.int .u8 (uQ y : Int)) h) :
    wH (if 0 ≤ i then Option.map (fun b : UInt8 => Value.int .u8 (b.toNat : Int)) T[i.toNat]? else none) h K := by
  subst hi
  rw [if_pos (by omega), Int.toNat_natCast, tab_nat (f := uQ) hT hy]
  simp only [Option.map_some, sI, qH4 hy]
  exact g (pK hy) (wrap64 (by omega) (by have := pK hy; omega))
theorem c_Len64 (N : Nat) (h : GH) (x : Nat) (hx : x < 18446744073709551616) : GTri Tryd.prog N 44 [.int .u64 x] h fun v h' => v = .int .i64 (uQ x : Int) ∧ h' = h := by
  have a1 := fun y => qD9 y 32 (by omega)
  have a2 := fun y => qD9 y 16 (by omega)
  have a3 := fun y => qD9 y 8 (by omega)
  simp only [Nat.reducePow] at a1 a2 a3
  have b1 := @yV x 32
  have b2 := @yV (x / 4294967296) 16
  have b3 := @yV (x / 4294967296 / 65536) 8
  have b4 := @yV (x / 4294967296) 8
  have b5 := @yV x 16
  have b6 := @yV (x / 65536) 8
  have b7 := @yV x 8
  simp only [Nat.reducePow] at b1 b2 b3 b4 b5 b6 b7
  refine xW Tryd.func44 rfl gf44 ok44 (by simp [Tryd.ntmps44]) ?_
  repeat' (first | (with_reducible first | apply qJ | apply qB) | ((first | (with_reducible first | apply qA | apply qP | apply qD | apply qE | apply qK) | ((with_reducible first | apply qQ | apply qH | apply qI) <;> intro hb <;> (try simp only [hb]) <;> (try simp only [zB] at hb))) <;> try simp only [qY, qF, qM, qO, qG, qC, qN, reduceIte, seval, Int.cast_ofNat_Int, qZ, zA, lQ, a1, a2, a3]))
  all_goals
    refine optK_tab (by decide +kernel) (sX (by omega) (by omega)) (by omega) fun c2 c3 => ?_
    refine qT ?_; repeat' (first | (with_reducible first | apply qJ | apply qB) | ((first | (with_reducible apply qS) | (with_reducible first | apply qA | apply qP | apply qD | apply qE | apply qK) | ((with_reducible first | apply qQ | apply qH | apply qI) <;> intro hb <;> (try simp only [hb]) <;> (try simp only [zB] at hb))) <;> try simp only [qY, qF, qM, qO, qG, qC, qN, reduceIte, seval, Int.cast_ofNat_Int, qZ, zA, lQ, c3]))
    refine congrArg (Value.int .i64) ?_
    rw [wrap64 (by omega) (by omega)]
    omega
theorem c_Len (N : Nat) (h : GH) (x : Nat) (hx : x < 18446744073709551616) : GTri Tryd.prog N 38 [.int .u64 x] h fun v h' => v = .int .i64 (uQ x : Int) ∧ h' = h := by
  refine xW Tryd.func38 rfl gf38 ok38 (by simp [Tryd.ntmps38]) ?_
  repeat' (first | (with_reducible first | apply qJ | apply qB) | ((first | (with_reducible first | apply qA | apply qP | apply qD | apply qE | apply qK) | ((with_reducible first | apply qQ | apply qH | apply qI) <;> intro hb <;> (try simp only [hb]) <;> (try simp only [zB] at hb)) | ((refine GTri.mono (c_Len64 _ _ x hx) ?_); rintro _ _ ⟨rfl, hh9⟩; replace hh9 := hh9.symm; subst hh9)) <;> try simp only [qY, qF, qM, qO, qG, qC, qN, reduceIte, seval, Int.cast_ofNat_Int, qZ, zA, fxCod_38]))
def kM (n : Int) : Nat := (min (max n 0) 4611686018427387904).toNat
def qU (n : Int) : List UInt8 := UInt8.ofNat (xJ (kM n)).length :: xJ (kM n)
theorem pN (n : Int) : kM n ≤ 4611686018427387904 := by unfold kM; omega
theorem qB9 (n : Int) : (xJ (kM n)).length ≤ 8 := sF 8 _ (by have := pN n; simp; omega)
theorem qW (n : Int) : (qU n).length ≤ 9 := by have := qB9 n; simp [qU]; omega
theorem yK (N : Nat) (h : GH) {a : Option Addr} {n c : Nat} {l : List UInt8} (r : RB h (.slice a n c) l) (hl : l.length ≤ 70368744177664) (i : Int) : GTri Tryd.prog N 29 [.slice a n c, .int .i64 i] h fun v h' => HS h h' ∧ OWN h h' v (l ++ qU i) := by
  have mm : (if 4611686018427387904 < (if 0 > i then 0 else i) then 4611686018427387904 else (if 0 > i then 0 else i)) = ((kM i : Nat) : Int) := by unfold kM; split <;> split <;> omega
  have g1 := pN i
  have g2 := qB9 i
  have wd := qB5 (kM i)
  have gu : qU i = UInt8.ofNat (xJ (kM i)).length :: xJ (kM i) := rfl
  generalize kM i = m at *
  generalize hw : (xJ m).length = w at *
  have w0 : IntKind.u64.wrap (m : Int) = m := jU (by omega) (by omega)
  have w1 : IntKind.i64.wrap ((uQ m : Int) + 7) = ((uQ m + 7 : Nat) : Int) := by rw [wrap64 (by omega) (by omega)]; omega
  have w2 : IntKind.i64.wrap (Int.tdiv ((uQ m + 7 : Nat) : Int) 8) = (w : Int) := by
    rw [show (8 : Int) = ((8 : Nat) : Int) from rfl, tdiv_nat, wd]
    exact wrap64 (by omega) (by omega)
  have w3 : IntKind.u8.wrap (w : Int) = ((UInt8.ofNat w).toNat : Int) := by
    rw [UInt8.toNat_ofNat_of_lt' (by simpa using (by omega : w < 256))]
    exact sX (by omega) (by omega)
  have w4 : IntKind.i64.wrap ((w : Int) - 1) = (w : Int) - 1 - ((0 : Nat) : Int) := by rw [wrap64 (by omega) (by omega)]; omega
  refine xW Tryd.func29 rfl gf29 ok29 (by simp [Tryd.ntmps29]) ?_
  repeat' (first | (with_reducible first | apply qJ | apply qB) | ((first | (with_reducible first | apply qA | apply qP | apply qD | apply qE | apply qK) | ((with_reducible first | apply qQ | apply qH | apply qI) <;> intro hb <;> (try simp only [hb]) <;> (try simp only [zB] at hb)) | ((refine GTri.mono (c_Len _ _ m (by omega)) ?_); rintro _ _ ⟨rfl, hh9⟩; replace hh9 := hh9.symm; subst hh9) | ((refine GTri.mono (lX _ _ r (by omega)) ?_); rintro _ h1 ⟨s1, o1⟩)) <;> try simp only [qY, qF, qM, qO, qG, qC, qN, reduceIte, seval, Int.cast_ofNat_Int, qZ, zA, uS, mm, w0, w1, w2, w3]))
  refine tO vJ fun k2 h2 r2 s2 f2 n2 => ?_
  refine qT ?_; repeat' (first | (with_reducible first | apply qJ | apply qB) | ((first | (with_reducible apply qS) | (with_reducible first | apply qA | apply qP | apply qD | apply qE | apply qK) | ((with_reducible first | apply qQ | apply qH | apply qI) <;> intro hb <;> (try simp only [hb]) <;> (try simp only [zB] at hb))) <;> try simp only [qY, qF, qM, qO, qG, qC, qN, reduceIte, seval, Int.cast_ofNat_Int, qZ, zA, uS]))
  refine xK vJ Tryd.underlying23 rfl (s1.trans s2) (o1.hs s2) r2.src (by simp; omega) fun v3 h3 s3 _ o3 => ?_
  refine qT ?_; repeat' (first | (with_reducible first | apply qJ | apply qB) | ((first | (with_reducible apply qS) | (with_reducible first | apply qA | apply qP | apply qD | apply qE | apply qK) | ((with_reducible first | apply qQ | apply qH | apply qI) <;> intro hb <;> (try simp only [hb]) <;> (try simp only [zB] at hb))) <;> try simp only [qY, qF, qM, qO, qG, qC, qN, reduceIte, seval, Int.cast_ofNat_Int, qZ, zA, uS, w4]))
  refine zZ [1, 4] (fun (x : Nat × Value) => [(6, x.2), (7, .int .i64 ((w : Int) - 1 - (x.1 : Int)))])
    (fun q x h' => q = w - x.1 ∧ x.1 ≤ w ∧ HS h h' ∧ OWN h h' x.2 (l ++ (UInt8.ofNat w :: (xJ m).take x.1))) w (0, v3) (by simp [lk]) ⟨rfl, by omega, s3, by simpa using o3⟩ ?_
  rintro q ⟨j, v⟩ h4 ⟨rfl, hj, s4, o4⟩
  simp only at *
  by_cases hjw : j < w
  · have e1 : (w : Int) - 1 - (j : Int) = ((w - 1 - j : Nat) : Int) := by omega
    have d1 : decide (((w - 1 - j : Nat) : Int) ≥ 0) = true := decide_eq_true (by omega)
    have w5 : IntKind.i64.wrap (8 * ((w - 1 - j : Nat) : Int)) = ((8 * (w - 1 - j) : Nat) : Int) := by rw [wrap64 (by omega) (by omega)]; omega
    have w6 : IntKind.u8.wrap ((m : Int).fdiv (2 ^ min (((8 * (w - 1 - j) : Nat) : Int)).toNat IntKind.i64.bits)) = ((UInt8.ofNat (m / 256 ^ (w - 1 - j) % 256)).toNat : Int) := by
      have e8 : min (((8 * (w - 1 - j) : Nat) : Int)).toNat IntKind.i64.bits = 8 * (w - 1 - j) := by
        rw [Int.toNat_natCast]; exact Nat.min_eq_left (by show _ ≤ 64; omega)
      have := tG m (2 ^ (8 * (w - 1 - j)))
      rw [Int.natCast_pow] at this
      rw [e8, UInt8.toNat_ofNat_of_lt' (by simpa using Nat.mod_lt _ (by decide : 0 < 256))]
      have e9 : (2 : Nat) ^ (8 * (w - 1 - j)) = 256 ^ (w - 1 - j) := by rw [Nat.pow_mul]
      rw [e9] at this
      have e10 : (m : Int).fdiv (2 ^ (8 * (w - 1 - j))) = ((m / 256 ^ (w - 1 - j) : Nat) : Int) := this
      rw [e10]
      simp [IntKind.wrap, IntKind.signed, IntKind.bits]
    have w7 : IntKind.i64.wrap (((w - 1 - j : Nat) : Int) - 1) = (w : Int) - 1 - ((j + 1 : Nat) : Int) := by rw [wrap64 (by omega) (by omega)]; omega
    refine qT ?_; repeat' (first | (with_reducible first | apply qJ | apply qB) | ((first | (with_reducible apply qS) | (with_reducible first | apply qA | apply qP | apply qD | apply qE | apply qK) | ((with_reducible first | apply qQ | apply qH | apply qI) <;> intro hb <;> (try simp only [hb]) <;> (try simp only [zB] at hb))) <;> try simp only [qY, qF, qM, qO, qG, qC, qN, reduceIte, seval, Int.cast_ofNat_Int, qZ, zA, uS, e1, d1, w5]))
    refine ⟨by omega, ?_⟩
    rw [w6]
    refine tO vJ fun k5 h5 r5 s5 f5 n5 => ?_
    refine qT ?_; repeat' (first | (with_reducible first | apply qJ | apply qB) | ((first | (with_reducible apply qS) | (with_reducible first | apply qA | apply qP | apply qD | apply qE | apply qK) | ((with_reducible first | apply qQ | apply qH | apply qI) <;> intro hb <;> (try simp only [hb]) <;> (try simp only [zB] at hb))) <;> try simp only [qY, qF, qM, qO, qG, qC, qN, reduceIte, seval, Int.cast_ofNat_Int, qZ, zA, uS]))
    refine xK vJ Tryd.underlying23 rfl (s4.trans s5) (o4.hs s5) r5.src (by simp; omega) fun v6 h6 s6 _ o6 => ?_
    refine qT ?_; repeat' (first | (with_reducible first | apply qJ | apply qB) | ((first | (with_reducible apply qS) | (with_reducible first | apply qA | apply qP | apply qD | apply qE | apply qK) | ((with_reducible first | apply qQ | apply qH | apply qI) <;> intro hb <;> (try simp only [hb]) <;> (try simp only [zB] at hb))) <;> try simp only [qY, qF, qM, qO, qG, qC, qN, reduceIte, seval, Int.cast_ofNat_Int, qZ, zA, uS, w7]))
    refine ⟨_, (j + 1, v6), ?_, (by simp only [List.forall_mem_cons, List.not_mem_nil, false_implies, implies_true, List.map, List.cons_append, List.nil_append, lk, Nat.reduceEqDiff, reduceIte, and_true, true_and]), rfl, by omega, s6, ?_⟩
    · omega
    · have := qA3 m j (by omega)
      rw [hw] at this
      rw [List.take_add_one, this]
      simpa using o6
  · have d1 : decide ((w : Int) - 1 - (j : Int) ≥ 0) = false := decide_eq_false (by omega)
    refine qT ?_; repeat' (first | (with_reducible first | apply qJ | apply qB) | ((first | (with_reducible apply qS) | (with_reducible first | apply qA | apply qP | apply qD | apply qE | apply qK) | ((with_reducible first | apply qQ | apply qH | apply qI) <;> intro hb <;> (try simp only [hb]) <;> (try simp only [zB] at hb))) <;> try simp only [qY, qF, qM, qO, qG, qC, qN, reduceIte, seval, Int.cast_ofNat_Int, qZ, zA, uS, d1]))
    rw [gu]
    rw [List.take_of_length_le (by omega)] at o4
    exact ⟨s4, o4⟩
theorem wZ : type_of% (And.intro qF5 (And.intro zX (And.intro wJ (And.intro wS rs22)))) := And.intro qF5 (And.intro zX (And.intro wJ (And.intro wS rs22)))
theorem sR : type_of% (And.intro zX (And.intro wJ (And.intro wS rs28))) := And.intro zX (And.intro wJ (And.intro wS rs28))
theorem sS : type_of% (And.intro zX (And.intro wJ (And.intro wS rs18))) := And.intro zX (And.intro wJ (And.intro wS rs18))
theorem jR : type_of% (And.intro zX (And.intro wS rs33)) := And.intro zX (And.intro wS rs33)
theorem jQ : type_of% (And.intro zX (And.intro wJ (And.intro wS rs37))) := And.intro zX (And.intro wJ (And.intro wS rs37))
theorem xA (N : Nat) (h : GH) {a : Option Addr} {n c : Nat} {l : List UInt8} (r : RB h (.slice a n c) l) (hl : l.length ≤ 70368744177664) (i : Int) : GTri Tryd.prog N 22 [.slice a n c, .int .i64 i] h fun v h' => HS h h' ∧ OWN h h' v (l ++ qU i) := by
  have mm : (if (if 4611686018427387904 < i then 4611686018427387904 else i) > 0 then (if 4611686018427387904 < i then 4611686018427387904 else i) else 0) = ((kM i : Nat) : Int) := by unfold kM; split <;> split <;> omega
  have g1 := pN i
  have g2 := qB9 i
  have gu : qU i = UInt8.ofNat (xJ (kM i)).length :: xJ (kM i) := rfl
  generalize kM i = m at *
  refine xW Tryd.func22 rfl gf22 ok22 (by simp [Tryd.ntmps22]) ?_
  repeat' (first | (with_reducible first | apply qJ | apply qB) | ((first | (with_reducible first | apply qA | apply qP | apply qD | apply qE | apply qK) | ((with_reducible first | apply qQ | apply qH | apply qI) <;> intro hb <;> (try simp only [hb]) <;> (try simp only [zB] at hb))) <;> try simp only [qY, qF, qM, qO, qG, qC, qN, reduceIte, seval, Int.cast_ofNat_Int, qZ, zA, wZ, mm]))
  refine zZ [0, 4] (fun (x : Nat × Value) => [(1, .int .i64 (x.1 : Int)), (5, x.2)])
    (fun q x h' => x.1 = q ∧ x.1 ≤ m ∧ HS h h' ∧ ∃ L, RB h' x.2 L ∧ AP h h' x.2 1 ∧ xJ m = xJ x.1 ++ L) m (m, .slice none 0 0) (by simp [lk]) ⟨rfl, by omega, HS.refl h, [], RB.nil h, AP.nil _ _ _, by simp⟩ ?_
  rintro q ⟨j, v⟩ h4 ⟨rfl, hj, s4, L, rL, ap, e⟩
  simp only at *
  have hL : L.length ≤ 8 := by rw [e, List.length_append] at g2; omega
  by_cases hjw : 0 < j
  · have d1 : decide ((j : Int) > 0) = true := decide_eq_true (by omega)
    have w6 : IntKind.u8.wrap (j : Int) = ((UInt8.ofNat (j % 256)).toNat : Int) := by
      rw [UInt8.toNat_ofNat_of_lt' (by simpa using Nat.mod_lt _ (by decide : 0 < 256))]
      simp [IntKind.wrap, IntKind.signed, IntKind.bits]
    have w7 : (j : Int).fdiv (2 ^ min 8 IntKind.i64.bits) = ((j / 256 : Nat) : Int) := tG j 256
    refine qT ?_; repeat' (first | (with_reducible first | apply qJ | apply qB) | ((first | (with_reducible apply qS) | (with_reducible first | apply qA | apply qP | apply qD | apply qE | apply qK) | ((with_reducible first | apply qQ | apply qH | apply qI) <;> intro hb <;> (try simp only [hb]) <;> (try simp only [zB] at hb))) <;> try simp only [qY, qF, qM, qO, qG, qC, qN, reduceIte, seval, Int.cast_ofNat_Int, qZ, zA, wZ, d1, w6]))
    refine tO vJ fun k5 h5 r5 s5 f5 n5 => ?_
    refine qT ?_; repeat' (first | (with_reducible first | apply qJ | apply qB) | ((first | (with_reducible apply qS) | (with_reducible first | apply qA | apply qP | apply qD | apply qE | apply qK) | ((with_reducible first | apply qQ | apply qH | apply qI) <;> intro hb <;> (try simp only [hb]) <;> (try simp only [zB] at hb))) <;> try simp only [qY, qF, qM, qO, qG, qC, qN, reduceIte, seval, Int.cast_ofNat_Int, qZ, zA, wZ]))
    refine mF vJ Tryd.underlying23 rfl (s4.trans s5) r5 (.inr (.inl ⟨_, 1, rfl⟩)) (rL.hs s5).src (by simp; omega) fun v6 h6 s6 _ _ ap6 r6 => ?_
    refine qT ?_; repeat' (first | (with_reducible first | apply qJ | apply qB) | ((first | (with_reducible apply qS) | (with_reducible first | apply qA | apply qP | apply qD | apply qE | apply qK) | ((with_reducible first | apply qQ | apply qH | apply qI) <;> intro hb <;> (try simp only [hb]) <;> (try simp only [zB] at hb))) <;> try simp only [qY, qF, qM, qO, qG, qC, qN, reduceIte, seval, Int.cast_ofNat_Int, qZ, zA, wZ, w7]))
    refine ⟨_, (j / 256, v6), ?_, (by simp only [List.forall_mem_cons, List.not_mem_nil, false_implies, implies_true, List.map, List.cons_append, List.nil_append, lk, Nat.reduceEqDiff, reduceIte, and_true, true_and]), rfl, by omega, s6, _, r6, ap6, ?_⟩
    · omega
    · rw [e, yP (by omega), List.append_assoc]
  · have d1 : decide ((j : Int) > 0) = false := decide_eq_false (by omega)
    obtain rfl : j = 0 := by omega
    rw [vE, List.nil_append] at e
    subst e
    obtain ⟨a', c', rfl, _⟩ := rL.form
    have w3 : IntKind.u8.wrap (((xJ m).length : Nat) : Int) = ((UInt8.ofNat (xJ m).length).toNat : Int) := by
      rw [UInt8.toNat_ofNat_of_lt' (by simpa using (by omega : (xJ m).length < 256))]
      exact sX (by omega) (by omega)
    refine qT ?_; repeat' (first | (with_reducible first | apply qJ | apply qB) | ((first | (with_reducible apply qS) | (with_reducible first | apply qA | apply qP | apply qD | apply qE | apply qK) | ((with_reducible first | apply qQ | apply qH | apply qI) <;> intro hb <;> (try simp only [hb]) <;> (try simp only [zB] at hb))) <;> try simp only [qY, qF, qM, qO, qG, qC, qN, reduceIte, seval, Int.cast_ofNat_Int, qZ, zA, wZ, d1, w3]))
    refine bs0_g vJ rfl ?_
    refine qT ?_; repeat' (first | (with_reducible first | apply qJ | apply qB) | ((first | (with_reducible apply qS) | (with_reducible first | apply qA | apply qP | apply qD | apply qE | apply qK) | ((with_reducible first | apply qQ | apply qH | apply qI) <;> intro hb <;> (try simp only [hb]) <;> (try simp only [zB] at hb))) <;> try simp only [qY, qF, qM, qO, qG, qC, qN, reduceIte, seval, Int.cast_ofNat_Int, qZ, zA, wZ, w3]))
    refine xK vJ Tryd.underlying23 rfl (HS.refl h4) (OWN.zero _ _ _) (r.hs s4).src (by simp; omega) fun v5 h5 s5 _ o5 => ?_
    refine qT ?_; repeat' (first | (with_reducible first | apply qJ | apply qB) | ((first | (with_reducible apply qS) | (with_reducible first | apply qA | apply qP | apply qD | apply qE | apply qK) | ((with_reducible first | apply qQ | apply qH | apply qI) <;> intro hb <;> (try simp only [hb]) <;> (try simp only [zB] at hb))) <;> try simp only [qY, qF, qM, qO, qG, qC, qN, reduceIte, seval, Int.cast_ofNat_Int, qZ, zA, wZ, w3]))
    refine tO vJ fun k6 h6 r6 s6 f6 n6 => ?_
    refine qT ?_; repeat' (first | (with_reducible first | apply qJ | apply qB) | ((first | (with_reducible apply qS) | (with_reducible first | apply qA | apply qP | apply qD | apply qE | apply qK) | ((with_reducible first | apply qQ | apply qH | apply qI) <;> intro hb <;> (try simp only [hb]) <;> (try simp only [zB] at hb))) <;> try simp only [qY, qF, qM, qO, qG, qC, qN, reduceIte, seval, Int.cast_ofNat_Int, qZ, zA, wZ]))
    refine xK vJ Tryd.underlying23 rfl (s5.trans s6) (o5.hs s6) r6.src (by simp; omega) fun v7 h7 s7 _ o7 => ?_
    refine qT ?_; repeat' (first | (with_reducible first | apply qJ | apply qB) | ((first | (with_reducible apply qS) | (with_reducible first | apply qA | apply qP | apply qD | apply qE | apply qK) | ((with_reducible first | apply qQ | apply qH | apply qI) <;> intro hb <;> (try simp only [hb]) <;> (try simp only [zB] at hb))) <;> try simp only [qY, qF, qM, qO, qG, qC, qN, reduceIte, seval, Int.cast_ofNat_Int, qZ, zA, wZ]))
    refine xK vJ Tryd.underlying23 rfl s7 o7 (rL.hs s7).src (by simp; omega) fun v8 h8 s8 _ o8 => ?_
    refine qT ?_; repeat' (first | (with_reducible first | apply qJ | apply qB) | ((first | (with_reducible apply qS) | (with_reducible first | apply qA | apply qP | apply qD | apply qE | apply qK) | ((with_reducible first | apply qQ | apply qH | apply qI) <;> intro hb <;> (try simp only [hb]) <;> (try simp only [zB] at hb))) <;> try simp only [qY, qF, qM, qO, qG, qC, qN, reduceIte, seval, Int.cast_ofNat_Int, qZ, zA, wZ]))
    rw [gu]
    refine ⟨s4.trans s8, OWN.weak s4 ?_⟩
    simpa using o8
theorem jD (N : Nat) (h : GH) {a b : Option Addr} {n c m d : Nat} {l k : List UInt8} (r : RB h (.slice a n c) l) (r2 : RB h (.slice b m d) k) (hl : l.length + k.length ≤ 70368744177664) : GTri Tryd.prog N 28 [.slice a n c, .slice b m d] h fun v h' => HS h h' ∧ OWN h h' v (l ++ qU k.length ++ k) := by
  obtain rfl := r2.len_eq
  have hg := qW k.length
  refine xW Tryd.func28 rfl gf28 ok28 (by simp [Tryd.ntmps28]) ?_
  repeat' (first | (with_reducible first | apply qJ | apply qB) | ((first | (with_reducible first | apply qA | apply qP | apply qD | apply qE | apply qK) | ((with_reducible first | apply qQ | apply qH | apply qI) <;> intro hb <;> (try simp only [hb]) <;> (try simp only [zB] at hb)) | ((refine GTri.mono (yK _ _ r (by omega) _) ?_); rintro _ h1 ⟨s1, o1⟩)) <;> try simp only [qY, qF, qM, qO, qG, qC, qN, reduceIte, seval, Int.cast_ofNat_Int, qZ, zA, sR]))
  refine xK vJ Tryd.underlying23 rfl s1 o1 (r2.hs s1).src (by simp; omega) fun v2 h2 s2 _ o2 => ?_
  refine qT ?_; repeat' (first | (with_reducible first | apply qJ | apply qB) | ((first | (with_reducible apply qS) | (with_reducible first | apply qA | apply qP | apply qD | apply qE | apply qK) | ((with_reducible first | apply qQ | apply qH | apply qI) <;> intro hb <;> (try simp only [hb]) <;> (try simp only [zB] at hb))) <;> try simp only [qY, qF, qM, qO, qG, qC, qN, reduceIte, seval, Int.cast_ofNat_Int, qZ, zA, sR]))
  exact ⟨s2, o2⟩
theorem wA (N : Nat) (h : GH) {a b : Option Addr} {n c m d : Nat} {l k : List UInt8} (r : RB h (.slice a n c) l) (r2 : RB h (.slice b m d) k) (hl : l.length + k.length ≤ 70368744177664) : GTri Tryd.prog N 18 [.slice a n c, .slice b m d] h fun v h' => HS h h' ∧ OWN h h' v (l ++ qU k.length ++ k) := by
  obtain rfl := r2.len_eq
  have hg := qW k.length
  refine xW Tryd.func18 rfl gf18 ok18 (by simp [Tryd.ntmps18]) ?_
  repeat' (first | (with_reducible first | apply qJ | apply qB) | ((first | (with_reducible first | apply qA | apply qP | apply qD | apply qE | apply qK) | ((with_reducible first | apply qQ | apply qH | apply qI) <;> intro hb <;> (try simp only [hb]) <;> (try simp only [zB] at hb)) | ((refine GTri.mono (xA _ _ r (by omega) _) ?_); rintro _ h1 ⟨s1, o1⟩)) <;> try simp only [qY, qF, qM, qO, qG, qC, qN, reduceIte, seval, Int.cast_ofNat_Int, qZ, zA, sS]))
  refine xK vJ Tryd.underlying23 rfl s1 o1 (r2.hs s1).src (by simp; omega) fun v2 h2 s2 _ o2 => ?_
  refine qT ?_; repeat' (first | (with_reducible first | apply qJ | apply qB) | ((first | (with_reducible apply qS) | (with_reducible first | apply qA | apply qP | apply qD | apply qE | apply qK) | ((with_reducible first | apply qQ | apply qH | apply qI) <;> intro hb <;> (try simp only [hb]) <;> (try simp only [zB] at hb))) <;> try simp only [qY, qF, qM, qO, qG, qC, qN, reduceIte, seval, Int.cast_ofNat_Int, qZ, zA, sS]))
  exact ⟨s2, o2⟩
def jC (b : Bool) : UInt8 := if b = true then 1 else 0
theorem rM (N : Nat) (h : GH) {a : Option Addr} {n c : Nat} {l : List UInt8} (r : RB h (.slice a n c) l) (hl : l.length ≤ 70368744177664) (b : Bool) : GTri Tryd.prog N 33 [.slice a n c, .bool b] h fun v h' => HS h h' ∧ OWN h h' v (l ++ [jC b]) := by
  refine xW Tryd.func33 rfl gf33 ok33 (by simp [Tryd.ntmps33]) ?_
  cases b
  all_goals
    repeat' (first | (with_reducible first | apply qJ | apply qB) | ((first | (with_reducible first | apply qA | apply qP | apply qD | apply qE | apply qK) | ((with_reducible first | apply qQ | apply qH | apply qI) <;> intro hb <;> (try simp only [hb]) <;> (try simp only [zB] at hb))) <;> try simp only [qY, qF, qM, qO, qG, qC, qN, reduceIte, seval, Int.cast_ofNat_Int, qZ, zA, jR]))
    refine bs0_g vJ rfl ?_
    refine qT ?_; repeat' (first | (with_reducible first | apply qJ | apply qB) | ((first | (with_reducible apply qS) | (with_reducible first | apply qA | apply qP | apply qD | apply qE | apply qK) | ((with_reducible first | apply qQ | apply qH | apply qI) <;> intro hb <;> (try simp only [hb]) <;> (try simp only [zB] at hb))) <;> try simp only [qY, qF, qM, qO, qG, qC, qN, reduceIte, seval, Int.cast_ofNat_Int, qZ, zA, jR]))
    refine xK vJ Tryd.underlying23 rfl (HS.refl h) (OWN.zero _ _ _) r.src (by simp; omega) fun v5 h5 s5 _ o5 => ?_
    refine qT ?_; repeat' (first | (with_reducible first | apply qJ | apply qB) | ((first | (with_reducible apply qS) | (with_reducible first | apply qA | apply qP | apply qD | apply qE | apply qK) | ((with_reducible first | apply qQ | apply qH | apply qI) <;> intro hb <;> (try simp only [hb]) <;> (try simp only [zB] at hb))) <;> try simp only [qY, qF, qM, qO, qG, qC, qN, reduceIte, seval, Int.cast_ofNat_Int, qZ, zA, jR]))
    first | refine tO (x := 0) vJ fun k6 h6 r6 s6 f6 n6 => ?_ | refine tO (x := 1) vJ fun k6 h6 r6 s6 f6 n6 => ?_
    refine qT ?_; repeat' (first | (with_reducible first | apply qJ | apply qB) | ((first | (with_reducible apply qS) | (with_reducible first | apply qA | apply qP | apply qD | apply qE | apply qK) | ((with_reducible first | apply qQ | apply qH | apply qI) <;> intro hb <;> (try simp only [hb]) <;> (try simp only [zB] at hb))) <;> try simp only [qY, qF, qM, qO, qG, qC, qN, reduceIte, seval, Int.cast_ofNat_Int, qZ, zA, jR]))
    refine xK vJ Tryd.underlying23 rfl (s5.trans s6) (o5.hs s6) r6.src (by simp; omega) fun v7 h7 s7 _ o7 => ?_
    refine qT ?_; repeat' (first | (with_reducible first | apply qJ | apply qB) | ((first | (with_reducible apply qS) | (with_reducible first | apply qA | apply qP | apply qD | apply qE | apply qK) | ((with_reducible first | apply qQ | apply qH | apply qI) <;> intro hb <;> (try simp only [hb]) <;> (try simp only [zB] at hb))) <;> try simp only [qY, qF, qM, qO, qG, qC, qN, reduceIte, seval, Int.cast_ofNat_Int, qZ, zA, jR]))
    exact ⟨s7, o7⟩
theorem c_Flag (N : Nat) (h : GH) {a : Option Addr} {n c : Nat} {l : List UInt8} (r : RB h (.slice a n c) l) (hl : l.length ≤ 70368744177664) (b : Bool) : GTri Tryd.prog N 37 [.slice a n c, .bool b] h fun v h' => HS h h' ∧ OWN h h' v (l ++ [jC b]) := by
  refine xW Tryd.func37 rfl gf37 ok37 (by simp [Tryd.ntmps37]) ?_
  repeat' (first | (with_reducible first | apply qJ | apply qB) | ((first | (with_reducible first | apply qA | apply qP | apply qD | apply qE | apply qK) | ((with_reducible first | apply qQ | apply qH | apply qI) <;> intro hb <;> (try simp only [hb]) <;> (try simp only [zB] at hb)) | ((refine GTri.mono (lX _ _ r (by omega)) ?_); rintro _ h1 ⟨s1, o1⟩)) <;> try simp only [qY, qF, qM, qO, qG, qC, qN, reduceIte, seval, Int.cast_ofNat_Int, qZ, zA, jQ]))
  refine tO (x := 0) vJ fun k6 h6 r6 s6 f6 n6 => ?_
  refine qT ?_; repeat' (first | (with_reducible first | apply qJ | apply qB) | ((first | (with_reducible apply qS) | (with_reducible first | apply qA | apply qP | apply qD | apply qE | apply qK) | ((with_reducible first | apply qQ | apply qH | apply qI) <;> intro hb <;> (try simp only [hb]) <;> (try simp only [zB] at hb))) <;> try simp only [qY, qF, qM, qO, qG, qC, qN, reduceIte, seval, Int.cast_ofNat_Int, qZ, zA, jQ]))
  refine xK vJ Tryd.underlying23 rfl (s1.trans s6) (o1.hs s6) r6.src (by simp; omega) fun v7 h7 s7 _ o7 => ?_
  obtain ⟨k, c7, rfl, q1, q2, q3, q4⟩ := o7.block (by simp)
  have el : (l ++ [(0 : UInt8)]).length = l.length + 1 := by simp
  cases b
  · refine qT ?_; repeat' (first | (with_reducible first | apply qJ | apply qB) | ((first | (with_reducible apply qS) | (with_reducible first | apply qA | apply qP | apply qD | apply qE | apply qK) | ((with_reducible first | apply qQ | apply qH | apply qI) <;> intro hb <;> (try simp only [hb]) <;> (try simp only [zB] at hb))) <;> try simp only [qY, qF, qM, qO, qG, qC, qN, reduceIte, seval, Int.cast_ofNat_Int, qZ, zA, jQ]))
    exact ⟨s7, o7⟩
  · have w1 : IntKind.i64.wrap (((l ++ [(0 : UInt8)]).length : Int) - 1) = (l.length : Int) := by rw [el, wrap64 (by omega) (by omega)]; omega
    have i1 := qC7 (P := Tryd.prog) (t := 23) (k := k) (n := (l ++ [(0 : UInt8)]).length) (c := c7) (i := l.length) Tryd.underlying23 sz5 (by omega)
    rw [Nat.mul_one] at i1
    have g1 : xS Tryd.prog 5 h7 (.pointer (some ⟨k, l.length, none⟩)) = some (.int .u8 0) := by
      rw [qL q3 sz5]
      simp [bv]
    refine qT ?_; repeat' (first | (with_reducible first | apply qJ | apply qB) | ((first | (with_reducible apply qS) | (with_reducible first | apply qA | apply qP | apply qD | apply qE | apply qK) | ((with_reducible first | apply qQ | apply qH | apply qI) <;> intro hb <;> (try simp only [hb]) <;> (try simp only [zB] at hb))) <;> try simp only [qY, qF, qM, qO, qG, qC, qN, reduceIte, seval, Int.cast_ofNat_Int, qZ, zA, jQ, w1, i1, g1]))
    refine jX q3 sz5 rfl (by simp) rfl rfl fun h8 m8 f8 => ?_
    have s8 := s7.upd q4 f8
    have e8 : ((l ++ [(0 : UInt8)]).map bv).set l.length (.int .u8 1) = (l ++ [jC true]).map bv := by
      have := set_bv (l ++ [(0 : UInt8)]) l.length 1
      rw [show bv 1 = .int .u8 1 from rfl] at this
      rw [this, List.set_append_right _ _ (by omega), Nat.sub_self]; rfl
    simp only [e8] at m8
    refine qT ?_; repeat' (first | (with_reducible first | apply qJ | apply qB) | ((first | (with_reducible apply qS) | (with_reducible first | apply qA | apply qP | apply qD | apply qE | apply qK) | ((with_reducible first | apply qQ | apply qH | apply qI) <;> intro hb <;> (try simp only [hb]) <;> (try simp only [zB] at hb))) <;> try simp only [qY, qF, qM, qO, qG, qC, qN, reduceIte, seval, Int.cast_ofNat_Int, qZ, zA, jQ]))
    exact ⟨s8, OWN.of_block q1 (by simpa using q2) (by simp) (by simp) m8 q4⟩
theorem fM {P : Program} {t : TypeId} {h h' : GH} {p v : Value} (x : HS h h') (e : xS P t h p = some v) : xS P t h' p = some v := by
  unfold xS at e ⊢
  split at e
  case h_2 => cases e
  split at e
  · rename_i n hz
    obtain ⟨cs, h1, h2⟩ := Option.map_eq_some_iff.1 e
    simp [kW x.hc h1, h2]
  · obtain ⟨cs, h1, h2⟩ := Option.bind_eq_some_iff.1 e
    simp [kW x.hc h1, h2]
  · cases e
theorem wC {P : Program} {h : GH} {ad : Addr} {t n : Nat} {cs : List Value} (hz : wB P t = some (true, n)) (hr : zY h ad n = some cs) : xS P t h (.pointer (some ad)) = some (.agg cs.toArray) := by
  simp [xS, hz, hr]
theorem uA {P : Program} {h : GH} {k : Nat} {B : GB} {t n : Nat} {b : Bool} {cs : List Value} {K : Value → GH → Prop} (hk : h k = some B) (hz : wB P t = some (b, n)) (hw : B.wr = true) (hn : n ≠ 0) (hl : cs.length = n) (hB : B.cells.length = n) (hc : cs.all xE = true)
    (g : ∀ h', h' k = some { B with cells := cs } → (∀ j, j ≠ k → h' j = h j) → K U h') : qB2 (kX P t h (.pointer (some ⟨k, 0, none⟩)) (.agg cs.toArray)) K :=
  st_all hk hz hw hn (by simpa [vcells] using hl) hB (by simpa [vcells] using hc) fun h' m f => g h' (by simpa [vcells] using m) f
theorem HX.skip {kr k : Nat} {h a b : GH} (y : HX kr h a) (n : h k = none) (x : HX k a b) : HX kr h b := fun j B n1 e => x j B (ne_of e n) (y j B n1 e)
theorem wP {P : Program} {h : GH} {ad : Addr} {t : Nat} {v : Value} (hz : wB P t = some (false, 1)) (hr : zY h ad 1 = some [v]) : xS P t h (.pointer (some ad)) = some v := by
  simp [xS, hz, hr]
end Go.Gh
namespace Go.Gh
open Go Go.Proofs Go.RowKit Go.ChangeShapes Go.WideShapes Go.ChangeAt
set_option linter.unusedVariables false
set_option linter.unusedSimpArgs false
set_option maxRecDepth 100000
set_option maxHeartbeats 1000000
abbrev It : Type := List UInt8 × List UInt8 × Int
abbrev Ev : Type := Int × Int × List UInt8 × List UInt8
structure An where
  (cd ep si : Int)
  (pr sm mo : Bool)
  (ky : List UInt8)
  (its : List It)
  (evs : List Ev)
def An.cs (q : An) (k i e : Value) : List Value := [.int .i64 q.cd, .int .i64 q.ep, .bool q.pr, .bool q.sm, k, .int .i64 q.si, i, e, .bool q.mo]
theorem An.cs_len (q : An) (k i e : Value) : (q.cs k i e).length = 9 := rfl
def RIt (h : GH) (cs : List Value) (x : It) : Prop := ∃ a n c b m d, cs = [.slice a n c, .slice b m d, .int .i64 x.2.2] ∧ RB h (.slice a n c) x.1 ∧ RB h (.slice b m d) x.2.1
def REv (h : GH) (cs : List Value) (x : Ev) : Prop := ∃ a n c b m d, cs = [.int .i64 x.1, .int .i64 x.2.1, .slice a n c, .slice b m d] ∧ RB h (.slice a n c) x.2.2.1 ∧ RB h (.slice b m d) x.2.2.2
theorem RIt.hs {h h' : GH} (x : HS h h') {cs : List Value} {y : It} (r : RIt h cs y) : RIt h' cs y := by
  obtain ⟨a, n, c, b, m, d, rfl, r1, r2⟩ := r
  exact ⟨a, n, c, b, m, d, rfl, r1.hs x, r2.hs x⟩
theorem REv.hs {h h' : GH} (x : HS h h') {cs : List Value} {y : Ev} (r : REv h cs y) : REv h' cs y := by
  obtain ⟨a, n, c, b, m, d, rfl, r1, r2⟩ := r
  exact ⟨a, n, c, b, m, d, rfl, r1.hs x, r2.hs x⟩
theorem RIt.hy {k : Nat} {h h' : GH} {B : GB} (m : h k = some B) (hc : B.cells.all rW = true) (x : HX k h h') {cs : List Value} {y : It} (r : RIt h cs y) : RIt h' cs y := by
  obtain ⟨a, n, c, b, m', d, rfl, r1, r2⟩ := r
  exact ⟨a, n, c, b, m', d, rfl, r1.hx m hc x, r2.hx m hc x⟩
theorem REv.hy {k : Nat} {h h' : GH} {B : GB} (m : h k = some B) (hc : B.cells.all rW = true) (x : HX k h h') {cs : List Value} {y : Ev} (r : REv h cs y) : REv h' cs y := by
  obtain ⟨a, n, c, b, m', d, rfl, r1, r2⟩ := r
  exact ⟨a, n, c, b, m', d, rfl, r1.hx m hc x, r2.hx m hc x⟩
abbrev LI (h : GH) (v : Value) (l : List It) : Prop := RL 3 RIt h v l
abbrev LE (h : GH) (v : Value) (l : List Ev) : Prop := RL 4 REv h v l
theorem LI.hs {h h' : GH} {v : Value} {l : List It} (r : LI h v l) (x : HS h h') : LI h' v l := r.hcR x.hc fun _ _ q => q.hs x
theorem LE.hs {h h' : GH} {v : Value} {l : List Ev} (r : LE h v l) (x : HS h h') : LE h' v l := r.hcR x.hc fun _ _ q => q.hs x
theorem LI.hy {k : Nat} {h h' : GH} {B : GB} {v : Value} {l : List It} (r : LI h v l) (m : h k = some B) (hB : B.es = 0 ∧ B.wr = true) (hc : B.cells.all rW = true) (x : HX k h h') : LI h' v l := r.hxR m hB x fun _ _ q => q.hy m hc x
theorem LE.hy {k : Nat} {h h' : GH} {B : GB} {v : Value} {l : List Ev} (r : LE h v l) (m : h k = some B) (hB : B.es = 0 ∧ B.wr = true) (hc : B.cells.all rW = true) (x : HX k h h') : LE h' v l := r.hxR m hB x fun _ _ q => q.hy m hc x
def RA (h : GH) (q : An) (v : Value) : Prop := ∃ a c b d b' d', v = .agg (q.cs (.slice a q.ky.length c) (.slice b q.its.length d) (.slice b' q.evs.length d')).toArray ∧ RB h (.slice a q.ky.length c) q.ky ∧ LI h (.slice b q.its.length d) q.its ∧ LE h (.slice b' q.evs.length d') q.evs
theorem RA.hs {h h' : GH} {q : An} {v : Value} (r : RA h q v) (x : HS h h') : RA h' q v := by
  obtain ⟨a, c, b, d, b', d', rfl, r1, r2, r3⟩ := r
  exact ⟨a, c, b, d, b', d', rfl, r1.hs x, r2.hs x, r3.hs x⟩
theorem RA.hy {k : Nat} {h h' : GH} {B : GB} {q : An} {v : Value} (r : RA h q v) (m : h k = some B) (hB : B.es = 0 ∧ B.wr = true) (hc : B.cells.all rW = true) (x : HX k h h') : RA h' q v := by
  obtain ⟨a, c, b, d, b', d', rfl, r1, r2, r3⟩ := r
  exact ⟨a, c, b, d, b', d', rfl, r1.hx m hc x, r2.hy m hB hc x, r3.hy m hB hc x⟩
def jG (x : It) : List UInt8 := qU x.1.length ++ x.1 ++ (qU x.2.1.length ++ x.2.1) ++ qU x.2.2
def vQ (x : Ev) : List UInt8 := qU x.1 ++ qU x.2.1 ++ (qU x.2.2.1.length ++ x.2.2.1) ++ (qU x.2.2.2.length ++ x.2.2.2)
def kP (q : An) : List UInt8 := [jC q.pr] ++ (if q.pr = true then qU q.ky.length ++ q.ky ++ qU q.si else [])
def qA1 (q : An) : List UInt8 := qU q.its.length ++ q.its.flatMap jG ++ [jC q.mo]
def dD (q : An) : List UInt8 := qU q.evs.length ++ q.evs.flatMap vQ ++ [jC q.mo] ++ (if q.mo = true then qU q.ep ++ qU q.si else [])
def dW (kind : Int) (q : An) : List UInt8 :=
  if kind = 1 then qU q.ep
  else if kind = 3 then kP q
  else if kind = 4 then qU q.ep ++ kP q
  else if kind = 5 then [jC q.sm] ++ kP q
  else if kind = 6 ∨ kind = 10 then qA1 q
  else if kind = 7 then dD q
  else []
def vR (kind : Int) (q : An) : List UInt8 := qU q.cd ++ (if q.cd ≠ 0 then [] else dW kind q)
def An.bulk (q : An) : Nat := q.ky.length + (q.its.map fun x => x.1.length + x.2.1.length + 3).sum + (q.evs.map fun x => x.2.2.1.length + x.2.2.2.length + 4).sum
theorem gE : ∀ l : List It, (l.flatMap jG).length ≤ 9 * (l.map fun x => x.1.length + x.2.1.length + 3).sum ∧ l.length ≤ (l.map fun x => x.1.length + x.2.1.length + 3).sum
  | [] => by simp
  | x :: l => by
    have ih := gE l
    have g1 := qW x.1.length
    have g2 := qW x.2.1.length
    have g3 := qW x.2.2
    simp only [List.flatMap_cons, List.length_append, jG, List.map_cons, List.sum_cons, List.length_cons]
    omega
theorem gK : ∀ l : List Ev, (l.flatMap vQ).length ≤ 9 * (l.map fun x => x.2.2.1.length + x.2.2.2.length + 4).sum ∧ l.length ≤ (l.map fun x => x.2.2.1.length + x.2.2.2.length + 4).sum
  | [] => by simp
  | x :: l => by
    have ih := gK l
    have g1 := qW x.1
    have g2 := qW x.2.1
    have g3 := qW x.2.2.1.length
    have g4 := qW x.2.2.2.length
    simp only [List.flatMap_cons, List.length_append, vQ, List.map_cons, List.sum_cons, List.length_cons]
    omega
theorem xN {α : Type} (f : α → List UInt8) (L : List α) {i : Nat} {x : α} (h : L[i]? = some x) : (L.take (i + 1)).flatMap f = (L.take i).flatMap f ++ f x := by
  simp [List.take_add_one, h]
theorem vP {α : Type} (f : α → List UInt8) (L : List α) (i : Nat) : ((L.take i).flatMap f).length ≤ (L.flatMap f).length := by
  have : L.flatMap f = (L.take i).flatMap f ++ (L.drop i).flatMap f := by rw [← List.flatMap_append, List.take_append_drop]
  rw [this, List.length_append]; omega
abbrev itTy : Ty := .fcons .bs (.fcons .bs (.fcons (.i .i64) .fnil))
abbrev evTy : Ty := .fcons (.i .i64) (.fcons (.i .i64) (.fcons .bs (.fcons .bs .fnil)))
abbrev anTy : Ty := .fcons (.i .i64) (.fcons (.i .i64) (.fcons .b (.fcons .b (.fcons .bs (.fcons (.i .i64) (.fcons (.sl itTy) (.fcons (.sl evTy) (.fcons .b .fnil))))))))
theorem an_ok : Ty.ok Tryd.prog anTy 27 = true := by kernel_rfl
theorem it_R {h : GH} {cs : List Value} {x : itTy.den} (r : itTy.R h cs x) : RIt h cs (x.1, x.2.1, x.2.2.1) := by
  obtain ⟨y1, y2, y3, y4⟩ := x
  obtain ⟨c1, c2, rfl, _, ⟨v, rfl, r1, _⟩, c3, c4, rfl, _, ⟨w, rfl, r2, _⟩, c5, c6, rfl, _, ⟨rfl, _⟩, rfl⟩ := r
  obtain ⟨a, c, rfl, _⟩ := r1.form
  obtain ⟨b, d, rfl, _⟩ := r2.form
  exact ⟨_, _, _, _, _, _, rfl, r1, r2⟩
theorem ev_R {h : GH} {cs : List Value} {x : evTy.den} (r : evTy.R h cs x) : REv h cs (x.1, x.2.1, x.2.2.1, x.2.2.2.1) := by
  obtain ⟨y1, y2, y3, y4, y5⟩ := x
  obtain ⟨c1, c2, rfl, _, ⟨rfl, _⟩, c3, c4, rfl, _, ⟨rfl, _⟩, c5, c6, rfl, _, ⟨v, rfl, r1, _⟩, c7, c8, rfl, _, ⟨w, rfl, r2, _⟩, rfl⟩ := r
  obtain ⟨a, c, rfl, _⟩ := r1.form
  obtain ⟨b, d, rfl, _⟩ := r2.form
  exact ⟨_, _, _, _, _, _, rfl, r1, r2⟩
end Go.Gh
namespace Go.Gh
open Go Go.Proofs Go.RowKit
set_option linter.unusedVariables false
set_option linter.unusedSimpArgs false
set_option maxRecDepth 100000
set_option maxHeartbeats 2000000
theorem dO : type_of% (And.intro zX (And.intro jK (And.intro wJ (And.intro wS rs15)))) := And.intro zX (And.intro jK (And.intro wJ (And.intro wS rs15)))
theorem dP : type_of% (And.intro zX (And.intro jK (And.intro wS rs11))) := And.intro zX (And.intro jK (And.intro wS rs11))
theorem dN : type_of% (And.intro zX (And.intro jK (And.intro gO (And.intro wS rs25)))) := And.intro zX (And.intro jK (And.intro gO (And.intro wS rs25)))
theorem uJ : type_of% (And.intro zX (And.intro uW (And.intro uV (And.intro uD (And.intro jK (And.intro uX (And.intro wJ (And.intro gO (And.intro fB (And.intro wS rs24)))))))))) := And.intro zX (And.intro uW (And.intro uV (And.intro uD (And.intro jK (And.intro uX (And.intro wJ (And.intro gO (And.intro fB (And.intro wS rs24)))))))))
theorem wQ : type_of% (And.intro zX (And.intro uW (And.intro uV (And.intro uD (And.intro jK (And.intro qG1 (And.intro uX (And.intro wJ (And.intro gO (And.intro fB (And.intro wS rs26))))))))))) := And.intro zX (And.intro uW (And.intro uV (And.intro uD (And.intro jK (And.intro qG1 (And.intro uX (And.intro wJ (And.intro gO (And.intro fB (And.intro wS rs26))))))))))
def OT (h : GH) (ko : Nat) (out : List UInt8) : Prop := ∃ a c, h ko = some ⟨[.slice a out.length c], 0, true, false⟩ ∧ RB h (.slice a out.length c) out
theorem OT.hs {ko : Nat} {h h' : GH} {out : List UInt8} (o : OT h ko out) (s : HS h h') : OT h' ko out := by
  obtain ⟨a, c, m, r⟩ := o
  exact ⟨a, c, s _ _ m, r.hs s⟩
theorem OT.put {ko : Nat} {h h2 h3 : GH} {out out2 : List UInt8} (i : OT h ko out) (s : HS h h2) {a : Option Addr} {c : Nat} (o : RB h2 (.slice a out2.length c) out2) (q3 : h3 ko = some ⟨[.slice a out2.length c], 0, true, false⟩) (f3 : ∀ j, j ≠ ko → h3 j = h2 j) : OT h3 ko out2 ∧ HX ko h h3 := by
  obtain ⟨a1, c1, m1, r1⟩ := i
  have x : HX ko h2 h3 := fun j B n e => by rw [f3 j n]; exact e
  exact ⟨⟨a, c, q3, o.hx (s _ _ m1) rfl x⟩, fun j B n e => x _ _ n (s _ _ e)⟩
theorem RB.ot {h h' : GH} {k : Nat} {out : List UInt8} {v : Value} {l : List UInt8} (q : RB h v l) (r : OT h k out) (x : HX k h h') : RB h' v l := by
  obtain ⟨a, c, m, _⟩ := r
  exact q.hx m rfl x
theorem LI.ot {h h' : GH} {k : Nat} {out : List UInt8} {v : Value} {l : List It} (q : LI h v l) (r : OT h k out) (x : HX k h h') : LI h' v l := by
  obtain ⟨a, c, m, _⟩ := r
  exact q.hy m ⟨rfl, rfl⟩ rfl x
theorem LE.ot {h h' : GH} {k : Nat} {out : List UInt8} {v : Value} {l : List Ev} (q : LE h v l) (r : OT h k out) (x : HX k h h') : LE h' v l := by
  obtain ⟨a, c, m, _⟩ := r
  exact q.hy m ⟨rfl, rfl⟩ rfl x
theorem RA.ot {h h' : GH} {k : Nat} {out : List UInt8} {v : Value} {q : An} (ra : RA h q v) (r : OT h k out) (x : HX k h h') : RA h' q v := by
  obtain ⟨a, c, m, _⟩ := r
  exact ra.hy m ⟨rfl, rfl⟩ rfl x
theorem OT.ne {h : GH} {k j : Nat} {out : List UInt8} (o : OT h k out) (n : h j = none) : j ≠ k := by
  obtain ⟨a, c, m, _⟩ := o
  rintro rfl; rw [m] at n; cases n
theorem vS {N ko : Nat} {h : GH} {out : List UInt8} (i : OT h ko out) (hl : out.length ≤ 1000000000) (n : Int) : GTri Tryd.prog N 15 [.pointer (some ⟨ko, 0, none⟩), .int .i64 n] h fun _ h' => OT h' ko (out ++ qU n) ∧ HX ko h h' := by
  have i0 := i
  obtain ⟨a1, c1, m1, r1⟩ := i
  refine xW Tryd.func15 rfl gf15 ok15 (by simp [Tryd.ntmps15]) ?_
  repeat' (first | (with_reducible first | apply qJ | apply qB) | ((first | (with_reducible first | apply qA | apply qP | apply qD | apply qE | apply qK) | ((with_reducible first | apply qQ | apply qH | apply qI) <;> intro hb <;> (try simp only [hb]) <;> (try simp only [zB] at hb))) <;> try simp only [qY, qF, qM, qO, qG, qC, qN, reduceIte, seval, Int.cast_ofNat_Int, qZ, zA, dO, gNil, qL m1 zI]))
  refine (yK N h r1 (by omega) n).mono ?_
  rintro _ h2 ⟨s2, o2⟩
  obtain ⟨a3, c3, rfl⟩ := o2.form
  refine qT ?_; repeat' (first | (with_reducible first | apply qJ | apply qB) | ((first | (with_reducible apply qS) | (with_reducible first | apply qA | apply qP | apply qD | apply qE | apply qK) | ((with_reducible first | apply qQ | apply qH | apply qI) <;> intro hb <;> (try simp only [hb]) <;> (try simp only [zB] at hb))) <;> try simp only [qY, qF, qM, qO, qG, qC, qN, reduceIte, seval, Int.cast_ofNat_Int, qZ, zA, dO, gNil, qL (s2 _ _ m1) zI]))
  refine jX (s2 _ _ m1) zI rfl (by simp) rfl rfl fun h3 q3 f3 => ?_
  refine qT ?_; repeat' (first | (with_reducible first | apply qJ | apply qB) | ((first | (with_reducible apply qS) | (with_reducible first | apply qA | apply qP | apply qD | apply qE | apply qK) | ((with_reducible first | apply qQ | apply qH | apply qI) <;> intro hb <;> (try simp only [hb]) <;> (try simp only [zB] at hb))) <;> try simp only [qY, qF, qM, qO, qG, qC, qN, reduceIte, seval, Int.cast_ofNat_Int, qZ, zA, dO]))
  exact i0.put s2 o2.rb q3 f3
theorem jA {N ko : Nat} {h : GH} {out : List UInt8} (i : OT h ko out) {b : Option Addr} {m d : Nat} {k : List UInt8} (rk : RB h (.slice b m d) k) (hl : out.length + k.length ≤ 1000000000) : GTri Tryd.prog N 11 [.pointer (some ⟨ko, 0, none⟩), .slice b m d] h fun _ h' => OT h' ko (out ++ (qU k.length ++ k)) ∧ HX ko h h' := by
  have i0 := i
  obtain ⟨a1, c1, m1, r1⟩ := i
  refine xW Tryd.func11 rfl gf11 ok11 (by simp [Tryd.ntmps11]) ?_
  repeat' (first | (with_reducible first | apply qJ | apply qB) | ((first | (with_reducible first | apply qA | apply qP | apply qD | apply qE | apply qK) | ((with_reducible first | apply qQ | apply qH | apply qI) <;> intro hb <;> (try simp only [hb]) <;> (try simp only [zB] at hb))) <;> try simp only [qY, qF, qM, qO, qG, qC, qN, reduceIte, seval, Int.cast_ofNat_Int, qZ, zA, dP, gNil, qL m1 zI]))
  refine (jD N h r1 rk (by omega)).mono ?_
  rintro _ h2 ⟨s2, o2⟩
  rw [List.append_assoc] at o2
  obtain ⟨a3, c3, rfl⟩ := o2.form
  refine qT ?_; repeat' (first | (with_reducible first | apply qJ | apply qB) | ((first | (with_reducible apply qS) | (with_reducible first | apply qA | apply qP | apply qD | apply qE | apply qK) | ((with_reducible first | apply qQ | apply qH | apply qI) <;> intro hb <;> (try simp only [hb]) <;> (try simp only [zB] at hb))) <;> try simp only [qY, qF, qM, qO, qG, qC, qN, reduceIte, seval, Int.cast_ofNat_Int, qZ, zA, dP, gNil, qL (s2 _ _ m1) zI]))
  refine jX (s2 _ _ m1) zI rfl (by simp) rfl rfl fun h3 q3 f3 => ?_
  refine qT ?_; repeat' (first | (with_reducible first | apply qJ | apply qB) | ((first | (with_reducible apply qS) | (with_reducible first | apply qA | apply qP | apply qD | apply qE | apply qK) | ((with_reducible first | apply qQ | apply qH | apply qI) <;> intro hb <;> (try simp only [hb]) <;> (try simp only [zB] at hb))) <;> try simp only [qY, qF, qM, qO, qG, qC, qN, reduceIte, seval, Int.cast_ofNat_Int, qZ, zA, dP]))
  exact i0.put s2 o2.rb q3 f3
theorem pI {N ko : Nat} {h : GH} {out : List UInt8} (i : OT h ko out) (hl : out.length ≤ 1000000000) (y : Bool) : GTri Tryd.prog N 25 [.pointer (some ⟨ko, 0, none⟩), .bool y] h fun _ h' => OT h' ko (out ++ [jC y]) ∧ HX ko h h' := by
  have i0 := i
  obtain ⟨a1, c1, m1, r1⟩ := i
  refine xW Tryd.func25 rfl gf25 ok25 (by simp [Tryd.ntmps25]) ?_
  repeat' (first | (with_reducible first | apply qJ | apply qB) | ((first | (with_reducible first | apply qA | apply qP | apply qD | apply qE | apply qK) | ((with_reducible first | apply qQ | apply qH | apply qI) <;> intro hb <;> (try simp only [hb]) <;> (try simp only [zB] at hb))) <;> try simp only [qY, qF, qM, qO, qG, qC, qN, reduceIte, seval, Int.cast_ofNat_Int, qZ, zA, dN, gNil, qL m1 zI]))
  refine (c_Flag N h r1 (by omega) y).mono ?_
  rintro _ h2 ⟨s2, o2⟩
  obtain ⟨a3, c3, rfl⟩ := o2.form
  refine qT ?_; repeat' (first | (with_reducible first | apply qJ | apply qB) | ((first | (with_reducible apply qS) | (with_reducible first | apply qA | apply qP | apply qD | apply qE | apply qK) | ((with_reducible first | apply qQ | apply qH | apply qI) <;> intro hb <;> (try simp only [hb]) <;> (try simp only [zB] at hb))) <;> try simp only [qY, qF, qM, qO, qG, qC, qN, reduceIte, seval, Int.cast_ofNat_Int, qZ, zA, dN, gNil, qL (s2 _ _ m1) zI]))
  refine jX (s2 _ _ m1) zI rfl (by simp) rfl rfl fun h3 q3 f3 => ?_
  refine qT ?_; repeat' (first | (with_reducible first | apply qJ | apply qB) | ((first | (with_reducible apply qS) | (with_reducible first | apply qA | apply qP | apply qD | apply qE | apply qK) | ((with_reducible first | apply qQ | apply qH | apply qI) <;> intro hb <;> (try simp only [hb]) <;> (try simp only [zB] at hb))) <;> try simp only [qY, qF, qM, qO, qG, qC, qN, reduceIte, seval, Int.cast_ofNat_Int, qZ, zA, dN]))
  exact i0.put s2 o2.rb q3 f3
theorem o_one {N ko : Nat} {h : GH} {out : List UInt8} (i : OT h ko out) {q : An} {v : Value} (ra : RA h q v) (hl : out.length + q.ky.length ≤ 100000000) : GTri Tryd.prog N 24 [.pointer (some ⟨ko, 0, none⟩), v] h fun _ h' => OT h' ko (out ++ kP q) ∧ HX ko h h' := by
  obtain ⟨a, c, b, d, b', d', rfl, r1, r2, r3⟩ := ra
  generalize hw : kP q = w
  obtain ⟨cd, ep, si, pr, sm, mo, ky, its, evs⟩ := q
  simp only at r1 r2 r3 hl
  have g1 := qW ky.length
  refine xW Tryd.func24 rfl gf24 ok24 (by simp [Tryd.ntmps24]) ?_
  repeat' (first | (with_reducible first | apply qJ | apply qB) | ((first | (with_reducible first | apply qA | apply qP | apply qD | apply qE | apply qK) | ((with_reducible first | apply qQ | apply qH | apply qI) <;> intro hb <;> (try simp only [hb]) <;> (try simp only [zB] at hb))) <;> try simp only [qY, qF, qM, qO, qG, qC, qN, reduceIte, seval, Int.cast_ofNat_Int, qZ, zA, uJ, An.cs]))
  refine vD rfl fun k1 h1 m1 s1 f1 n1 => ?_
  have kne := i.ne n1
  have i1 := i.hs s1
  refine qT ?_; repeat' (first | (with_reducible first | apply qJ | apply qB) | ((first | (with_reducible apply qS) | (with_reducible first | apply qA | apply qP | apply qD | apply qE | apply qK) | ((with_reducible first | apply qQ | apply qH | apply qI) <;> intro hb <;> (try simp only [hb]) <;> (try simp only [zB] at hb))) <;> try simp only [qY, qF, qM, qO, qG, qC, qN, reduceIte, seval, Int.cast_ofNat_Int, qZ, zA, uJ, qL m1 sG]))
  refine (pI i1 (by omega) pr).mono ?_
  rintro _ h2 ⟨i2, x2⟩
  have m2 := x2 _ _ kne m1
  have q2 := (r1.hs s1).ot i1 x2
  have y2 : HX ko h h2 := (s1.hx ko).trans x2
  cases pr
  · refine qT ?_; repeat' (first | (with_reducible first | apply qJ | apply qB) | ((first | (with_reducible apply qS) | (with_reducible first | apply qA | apply qP | apply qD | apply qE | apply qK) | ((with_reducible first | apply qQ | apply qH | apply qI) <;> intro hb <;> (try simp only [hb]) <;> (try simp only [zB] at hb))) <;> try simp only [qY, qF, qM, qO, qG, qC, qN, reduceIte, seval, Int.cast_ofNat_Int, qZ, zA, uJ, qL m2 sG]))
    rw [← hw]
    exact ⟨by simpa [kP] using i2, y2⟩
  refine qT ?_; repeat' (first | (with_reducible first | apply qJ | apply qB) | ((first | (with_reducible apply qS) | (with_reducible first | apply qA | apply qP | apply qD | apply qE | apply qK) | ((with_reducible first | apply qQ | apply qH | apply qI) <;> intro hb <;> (try simp only [hb]) <;> (try simp only [zB] at hb))) <;> try simp only [qY, qF, qM, qO, qG, qC, qN, reduceIte, seval, Int.cast_ofNat_Int, qZ, zA, uJ, qL m2 sG, qL m2 zI]))
  refine (jA i2 q2 (by simp only [List.length_append, List.length_singleton]; omega)).mono ?_
  rintro _ h3 ⟨i3, x3⟩
  have m3 := x3 _ _ kne m2
  refine qT ?_; repeat' (first | (with_reducible first | apply qJ | apply qB) | ((first | (with_reducible apply qS) | (with_reducible first | apply qA | apply qP | apply qD | apply qE | apply qK) | ((with_reducible first | apply qQ | apply qH | apply qI) <;> intro hb <;> (try simp only [hb]) <;> (try simp only [zB] at hb))) <;> try simp only [qY, qF, qM, qO, qG, qC, qN, reduceIte, seval, Int.cast_ofNat_Int, qZ, zA, uJ, qL m3 xU]))
  refine (vS i3 (by simp only [List.length_append, List.length_singleton]; omega) si).mono ?_
  rintro _ h4 ⟨i4, x4⟩
  refine qT ?_; repeat' (first | (with_reducible first | apply qJ | apply qB) | ((first | (with_reducible apply qS) | (with_reducible first | apply qA | apply qP | apply qD | apply qE | apply qK) | ((with_reducible first | apply qQ | apply qH | apply qI) <;> intro hb <;> (try simp only [hb]) <;> (try simp only [zB] at hb))) <;> try simp only [qY, qF, qM, qO, qG, qC, qN, reduceIte, seval, Int.cast_ofNat_Int, qZ, zA, uJ]))
  rw [← hw]
  exact ⟨by simpa [kP] using i4, (y2.trans x3).trans x4⟩
theorem qE1 {N ko : Nat} {h : GH} {out : List UInt8} (i : OT h ko out) {q : An} {v : Value} (ra : RA h q v) (hl : out.length + q.bulk * 10 ≤ 100000000) : GTri Tryd.prog N 26 [.pointer (some ⟨ko, 0, none⟩), v] h fun _ h' => OT h' ko (out ++ qA1 q) ∧ HX ko h h' := by
  obtain ⟨a, c, b, d, b', d', rfl, r1, r2, r3⟩ := ra
  generalize hw : qA1 q = w
  obtain ⟨cd, ep, si, pr, sm, mo, ky, its, evs⟩ := q
  simp only [An.bulk] at r1 r2 r3 hl
  have il := gE its
  have g1 := qW its.length
  refine xW Tryd.func26 rfl gf26 ok26 (by simp [Tryd.ntmps26]) ?_
  repeat' (first | (with_reducible first | apply qJ | apply qB) | ((first | (with_reducible first | apply qA | apply qP | apply qD | apply qE | apply qK) | ((with_reducible first | apply qQ | apply qH | apply qI) <;> intro hb <;> (try simp only [hb]) <;> (try simp only [zB] at hb))) <;> try simp only [qY, qF, qM, qO, qG, qC, qN, reduceIte, seval, Int.cast_ofNat_Int, qZ, zA, wQ, An.cs]))
  refine vD rfl fun k1 h1 m1 s1 f1 n1 => ?_
  have kne := i.ne n1
  have i1 := i.hs s1
  refine qT ?_; repeat' (first | (with_reducible first | apply qJ | apply qB) | ((first | (with_reducible apply qS) | (with_reducible first | apply qA | apply qP | apply qD | apply qE | apply qK) | ((with_reducible first | apply qQ | apply qH | apply qI) <;> intro hb <;> (try simp only [hb]) <;> (try simp only [zB] at hb))) <;> try simp only [qY, qF, qM, qO, qG, qC, qN, reduceIte, seval, Int.cast_ofNat_Int, qZ, zA, wQ, qL m1 qG7]))
  refine (vS i1 (by omega) its.length).mono ?_
  rintro _ h2 ⟨i2, x2⟩
  have m2 := x2 _ _ kne m1
  have q2 := (r2.hs s1).ot i1 x2
  have y2 : HX ko h h2 := (s1.hx ko).trans x2
  refine qT ?_; repeat' (first | (with_reducible first | apply qJ | apply qB) | ((first | (with_reducible apply qS) | (with_reducible first | apply qA | apply qP | apply qD | apply qE | apply qK) | ((with_reducible first | apply qQ | apply qH | apply qI) <;> intro hb <;> (try simp only [hb]) <;> (try simp only [zB] at hb))) <;> try simp only [qY, qF, qM, qO, qG, qC, qN, reduceIte, seval, Int.cast_ofNat_Int, qZ, zA, wQ, qL m2 qG7]))
  refine zZ [0, 3, 12, 13] (fun (i : Nat) => [(14, .int .i64 (i : Int))]) (fun q i h' => its.length - i = q ∧ i ≤ its.length ∧ OT h' ko (out ++ qU its.length ++ (its.take i).flatMap jG) ∧ HX ko h2 h') its.length 0 (by simp [lk]) ⟨rfl, by omega, by simpa using i2, HX.refl _ _⟩ ?_
  rintro _ j h3 ⟨rfl, hj, i3, x3⟩
  have m3 := x3 _ _ kne m2
  have q3 := q2.ot i2 x3
  have fl := vP jG its j
  by_cases hil : j < its.length
  case neg =>
    have d3 : decide ((j : Int) < (its.length : Int)) = false := decide_eq_false (by omega)
    obtain rfl : j = its.length := by omega
    rw [List.take_length] at i3 fl
    refine qT ?_; repeat' (first | (with_reducible first | apply qJ | apply qB) | ((first | (with_reducible apply qS) | (with_reducible first | apply qA | apply qP | apply qD | apply qE | apply qK) | ((with_reducible first | apply qQ | apply qH | apply qI) <;> intro hb <;> (try simp only [hb]) <;> (try simp only [zB] at hb))) <;> try simp only [qY, qF, qM, qO, qG, qC, qN, reduceIte, seval, Int.cast_ofNat_Int, qZ, zA, wQ, d3, qL m3 sG]))
    refine (pI i3 (by simp only [List.length_append]; omega) mo).mono ?_
    rintro _ h4 ⟨i4, x4⟩
    refine qT ?_; repeat' (first | (with_reducible first | apply qJ | apply qB) | ((first | (with_reducible apply qS) | (with_reducible first | apply qA | apply qP | apply qD | apply qE | apply qK) | ((with_reducible first | apply qQ | apply qH | apply qI) <;> intro hb <;> (try simp only [hb]) <;> (try simp only [zB] at hb))) <;> try simp only [qY, qF, qM, qO, qG, qC, qN, reduceIte, seval, Int.cast_ofNat_Int, qZ, zA, wQ]))
    rw [← hw]
    exact ⟨by simpa [qA1] using i4, (y2.trans x3).trans x4⟩
  have d3 : decide ((j : Int) < (its.length : Int)) = true := decide_eq_true (by omega)
  have wi : IntKind.i64.wrap ((j : Int) + 1) = ((j + 1 : Nat) : Int) := by rw [wrap64 (by omega) (by omega)]; omega
  obtain ⟨x, hx⟩ : ∃ x, its[j]? = some x := ⟨_, List.getElem?_eq_getElem hil⟩
  obtain ⟨ad, cs2, g1, g2, a', n', c', b', m', d', rfl, p1, p2⟩ := RL.at (P := Tryd.prog) q3 Tryd.underlying24 qA5 hx
  obtain rfl := p1.len_eq
  obtain rfl := p2.len_eq
  have ft := xN jG its hx
  have fl1 := vP jG its (j + 1)
  rw [ft, List.length_append] at fl1
  have b1 : (jG x).length = (qU x.1.length).length + x.1.length + ((qU x.2.1.length).length + x.2.1.length) + (qU x.2.2).length := by simp [jG]; omega
  refine qT ?_; repeat' (first | (with_reducible first | apply qJ | apply qB) | ((first | (with_reducible apply qS) | (with_reducible first | apply qA | apply qP | apply qD | apply qE | apply qK) | ((with_reducible first | apply qQ | apply qH | apply qI) <;> intro hb <;> (try simp only [hb]) <;> (try simp only [zB] at hb))) <;> try simp only [qY, qF, qM, qO, qG, qC, qN, reduceIte, seval, Int.cast_ofNat_Int, qZ, zA, wQ, d3, g1, wC qA5 g2]))
  refine jN fun k4 h4 m4 s4 f4 n4 => ?_
  refine qT ?_; repeat' (first | (with_reducible first | apply qJ | apply qB) | ((first | (with_reducible apply qS) | (with_reducible first | apply qA | apply qP | apply qD | apply qE | apply qK) | ((with_reducible first | apply qQ | apply qH | apply qI) <;> intro hb <;> (try simp only [hb]) <;> (try simp only [zB] at hb))) <;> try simp only [qY, qF, qM, qO, qG, qC, qN, reduceIte, seval, Int.cast_ofNat_Int, qZ, zA, wQ]))
  refine uA m4 qA5 rfl (by decide) rfl rfl rfl fun h5 m5 f5 => ?_
  have s5 : HS h3 h5 := (HS.refl _).upd n4 fun j hj => (f5 j hj).trans (f4 j hj)
  have kne4 := i3.ne n4
  have i5 := i3.hs s5
  refine qT ?_; repeat' (first | (with_reducible first | apply qJ | apply qB) | ((first | (with_reducible apply qS) | (with_reducible first | apply qA | apply qP | apply qD | apply qE | apply qK) | ((with_reducible first | apply qQ | apply qH | apply qI) <;> intro hb <;> (try simp only [hb]) <;> (try simp only [zB] at hb))) <;> try simp only [qY, qF, qM, qO, qG, qC, qN, reduceIte, seval, Int.cast_ofNat_Int, qZ, zA, wQ, qL m5 zI]))
  refine (jA i5 (p1.hs s5) (by simp only [List.length_append]; omega)).mono ?_
  rintro _ h6 ⟨i6, x6⟩
  have m6 := x6 _ _ kne4 m5
  have p26 := (p2.hs s5).ot i5 x6
  refine qT ?_; repeat' (first | (with_reducible first | apply qJ | apply qB) | ((first | (with_reducible apply qS) | (with_reducible first | apply qA | apply qP | apply qD | apply qE | apply qK) | ((with_reducible first | apply qQ | apply qH | apply qI) <;> intro hb <;> (try simp only [hb]) <;> (try simp only [zB] at hb))) <;> try simp only [qY, qF, qM, qO, qG, qC, qN, reduceIte, seval, Int.cast_ofNat_Int, qZ, zA, wQ, qL m6 zI]))
  refine (jA i6 p26 (by simp only [List.length_append]; omega)).mono ?_
  rintro _ h7 ⟨i7, x7⟩
  have m7 := x7 _ _ kne4 m6
  refine qT ?_; repeat' (first | (with_reducible first | apply qJ | apply qB) | ((first | (with_reducible apply qS) | (with_reducible first | apply qA | apply qP | apply qD | apply qE | apply qK) | ((with_reducible first | apply qQ | apply qH | apply qI) <;> intro hb <;> (try simp only [hb]) <;> (try simp only [zB] at hb))) <;> try simp only [qY, qF, qM, qO, qG, qC, qN, reduceIte, seval, Int.cast_ofNat_Int, qZ, zA, wQ, qL m7 xU]))
  refine (vS i7 (by simp only [List.length_append]; omega) x.2.2).mono ?_
  rintro _ h8 ⟨i8, x8⟩
  refine qT ?_; repeat' (first | (with_reducible first | apply qJ | apply qB) | ((first | (with_reducible apply qS) | (with_reducible first | apply qA | apply qP | apply qD | apply qE | apply qK) | ((with_reducible first | apply qQ | apply qH | apply qI) <;> intro hb <;> (try simp only [hb]) <;> (try simp only [zB] at hb))) <;> try simp only [qY, qF, qM, qO, qG, qC, qN, reduceIte, seval, Int.cast_ofNat_Int, qZ, zA, wQ, wi]))
  refine ⟨_, j + 1, ?_, (by simp only [List.forall_mem_cons, List.not_mem_nil, false_implies, implies_true, List.map, List.cons_append, List.nil_append, lk, Nat.reduceEqDiff, reduceIte, and_true, true_and]), rfl, by omega, ?_, (((x3.trans (s5.hx ko)).trans x6).trans x7).trans x8⟩
  · omega
  · rw [ft, jG]
    simpa only [List.append_assoc] using i8
theorem xP : type_of% (And.intro zX (And.intro uW (And.intro uV (And.intro uD (And.intro jK (And.intro qG0 (And.intro uX (And.intro wJ (And.intro gO (And.intro fB (And.intro wS rs27))))))))))) := And.intro zX (And.intro uW (And.intro uV (And.intro uD (And.intro jK (And.intro qG0 (And.intro uX (And.intro wJ (And.intro gO (And.intro fB (And.intro wS rs27))))))))))
theorem xB : type_of% (And.intro zX (And.intro uW (And.intro uV (And.intro uD (And.intro jK (And.intro uX (And.intro wJ (And.intro gO (And.intro fB (And.intro wS rs10)))))))))) := And.intro zX (And.intro uW (And.intro uV (And.intro uD (And.intro jK (And.intro uX (And.intro wJ (And.intro gO (And.intro fB (And.intro wS rs10)))))))))
theorem o_events {N ko : Nat} {h : GH} {out : List UInt8} (i : OT h ko out) {q : An} {v : Value} (ra : RA h q v) (hl : out.length + q.bulk * 10 ≤ 100000000) : GTri Tryd.prog N 27 [.pointer (some ⟨ko, 0, none⟩), v] h fun _ h' => OT h' ko (out ++ dD q) ∧ HX ko h h' := by
  obtain ⟨a, c, b, d, b', d', rfl, r1, r2, r3⟩ := ra
  generalize hw : dD q = w
  obtain ⟨cd, ep, si, pr, sm, mo, ky, its, evs⟩ := q
  simp only [An.bulk] at r1 r2 r3 hl
  have il := gK evs
  have g1 := qW evs.length
  have g2 := qW ep
  refine xW Tryd.func27 rfl gf27 ok27 (by simp [Tryd.ntmps27]) ?_
  repeat' (first | (with_reducible first | apply qJ | apply qB) | ((first | (with_reducible first | apply qA | apply qP | apply qD | apply qE | apply qK) | ((with_reducible first | apply qQ | apply qH | apply qI) <;> intro hb <;> (try simp only [hb]) <;> (try simp only [zB] at hb))) <;> try simp only [qY, qF, qM, qO, qG, qC, qN, reduceIte, seval, Int.cast_ofNat_Int, qZ, zA, xP, An.cs]))
  refine vD rfl fun k1 h1 m1 s1 f1 n1 => ?_
  have kne := i.ne n1
  have i1 := i.hs s1
  refine qT ?_; repeat' (first | (with_reducible first | apply qJ | apply qB) | ((first | (with_reducible apply qS) | (with_reducible first | apply qA | apply qP | apply qD | apply qE | apply qK) | ((with_reducible first | apply qQ | apply qH | apply qI) <;> intro hb <;> (try simp only [hb]) <;> (try simp only [zB] at hb))) <;> try simp only [qY, qF, qM, qO, qG, qC, qN, reduceIte, seval, Int.cast_ofNat_Int, qZ, zA, xP, qL m1 qG6]))
  refine (vS i1 (by omega) evs.length).mono ?_
  rintro _ h2 ⟨i2, x2⟩
  have m2 := x2 _ _ kne m1
  have q2 := (r3.hs s1).ot i1 x2
  have y2 : HX ko h h2 := (s1.hx ko).trans x2
  refine qT ?_; repeat' (first | (with_reducible first | apply qJ | apply qB) | ((first | (with_reducible apply qS) | (with_reducible first | apply qA | apply qP | apply qD | apply qE | apply qK) | ((with_reducible first | apply qQ | apply qH | apply qI) <;> intro hb <;> (try simp only [hb]) <;> (try simp only [zB] at hb))) <;> try simp only [qY, qF, qM, qO, qG, qC, qN, reduceIte, seval, Int.cast_ofNat_Int, qZ, zA, xP, qL m2 qG6]))
  refine zZ [0, 3, 12, 13] (fun (i : Nat) => [(14, .int .i64 (i : Int))]) (fun q i h' => evs.length - i = q ∧ i ≤ evs.length ∧ OT h' ko (out ++ qU evs.length ++ (evs.take i).flatMap vQ) ∧ HX ko h2 h') evs.length 0 (by simp [lk]) ⟨rfl, by omega, by simpa using i2, HX.refl _ _⟩ ?_
  rintro _ j h3 ⟨rfl, hj, i3, x3⟩
  have m3 := x3 _ _ kne m2
  have q3 := q2.ot i2 x3
  have fl := vP vQ evs j
  by_cases hil : j < evs.length
  case neg =>
    have d3 : decide ((j : Int) < (evs.length : Int)) = false := decide_eq_false (by omega)
    obtain rfl : j = evs.length := by omega
    rw [List.take_length] at i3 fl
    refine qT ?_; repeat' (first | (with_reducible first | apply qJ | apply qB) | ((first | (with_reducible apply qS) | (with_reducible first | apply qA | apply qP | apply qD | apply qE | apply qK) | ((with_reducible first | apply qQ | apply qH | apply qI) <;> intro hb <;> (try simp only [hb]) <;> (try simp only [zB] at hb))) <;> try simp only [qY, qF, qM, qO, qG, qC, qN, reduceIte, seval, Int.cast_ofNat_Int, qZ, zA, xP, d3, qL m3 sG]))
    refine (pI i3 (by simp only [List.length_append]; omega) mo).mono ?_
    rintro _ h4 ⟨i4, x4⟩
    have m4 := x4 _ _ kne m3
    cases mo
    · refine qT ?_; repeat' (first | (with_reducible first | apply qJ | apply qB) | ((first | (with_reducible apply qS) | (with_reducible first | apply qA | apply qP | apply qD | apply qE | apply qK) | ((with_reducible first | apply qQ | apply qH | apply qI) <;> intro hb <;> (try simp only [hb]) <;> (try simp only [zB] at hb))) <;> try simp only [qY, qF, qM, qO, qG, qC, qN, reduceIte, seval, Int.cast_ofNat_Int, qZ, zA, xP, qL m4 sG]))
      rw [← hw]
      exact ⟨by simpa [dD] using i4, (y2.trans x3).trans x4⟩
    refine qT ?_; repeat' (first | (with_reducible first | apply qJ | apply qB) | ((first | (with_reducible apply qS) | (with_reducible first | apply qA | apply qP | apply qD | apply qE | apply qK) | ((with_reducible first | apply qQ | apply qH | apply qI) <;> intro hb <;> (try simp only [hb]) <;> (try simp only [zB] at hb))) <;> try simp only [qY, qF, qM, qO, qG, qC, qN, reduceIte, seval, Int.cast_ofNat_Int, qZ, zA, xP, qL m4 sG, qL m4 xU]))
    refine (vS i4 (by simp only [List.length_append, List.length_singleton]; omega) ep).mono ?_
    rintro _ h5 ⟨i5, x5⟩
    have m5 := x5 _ _ kne m4
    refine qT ?_; repeat' (first | (with_reducible first | apply qJ | apply qB) | ((first | (with_reducible apply qS) | (with_reducible first | apply qA | apply qP | apply qD | apply qE | apply qK) | ((with_reducible first | apply qQ | apply qH | apply qI) <;> intro hb <;> (try simp only [hb]) <;> (try simp only [zB] at hb))) <;> try simp only [qY, qF, qM, qO, qG, qC, qN, reduceIte, seval, Int.cast_ofNat_Int, qZ, zA, xP, qL m5 xU]))
    refine (vS i5 (by simp only [List.length_append, List.length_singleton]; omega) si).mono ?_
    rintro _ h6 ⟨i6, x6⟩
    refine qT ?_; repeat' (first | (with_reducible first | apply qJ | apply qB) | ((first | (with_reducible apply qS) | (with_reducible first | apply qA | apply qP | apply qD | apply qE | apply qK) | ((with_reducible first | apply qQ | apply qH | apply qI) <;> intro hb <;> (try simp only [hb]) <;> (try simp only [zB] at hb))) <;> try simp only [qY, qF, qM, qO, qG, qC, qN, reduceIte, seval, Int.cast_ofNat_Int, qZ, zA, xP]))
    rw [← hw]
    exact ⟨by simpa [dD] using i6, (((y2.trans x3).trans x4).trans x5).trans x6⟩
  have d3 : decide ((j : Int) < (evs.length : Int)) = true := decide_eq_true (by omega)
  have wi : IntKind.i64.wrap ((j : Int) + 1) = ((j + 1 : Nat) : Int) := by rw [wrap64 (by omega) (by omega)]; omega
  obtain ⟨x, hx⟩ : ∃ x, evs[j]? = some x := ⟨_, List.getElem?_eq_getElem hil⟩
  obtain ⟨ad, cs2, e1, e2, a', n', c', b', m', d', rfl, p1, p2⟩ := RL.at (P := Tryd.prog) q3 Tryd.underlying25 qA4 hx
  obtain rfl := p1.len_eq
  obtain rfl := p2.len_eq
  have ft := xN vQ evs hx
  have fl1 := vP vQ evs (j + 1)
  rw [ft, List.length_append] at fl1
  have b1 : (vQ x).length = (qU x.1).length + (qU x.2.1).length + ((qU x.2.2.1.length).length + x.2.2.1.length) + ((qU x.2.2.2.length).length + x.2.2.2.length) := by simp [vQ]; omega
  refine qT ?_; repeat' (first | (with_reducible first | apply qJ | apply qB) | ((first | (with_reducible apply qS) | (with_reducible first | apply qA | apply qP | apply qD | apply qE | apply qK) | ((with_reducible first | apply qQ | apply qH | apply qI) <;> intro hb <;> (try simp only [hb]) <;> (try simp only [zB] at hb))) <;> try simp only [qY, qF, qM, qO, qG, qC, qN, reduceIte, seval, Int.cast_ofNat_Int, qZ, zA, xP, d3, e1, wC qA4 e2]))
  refine jN fun k4 h4 m4 s4 f4 n4 => ?_
  refine qT ?_; repeat' (first | (with_reducible first | apply qJ | apply qB) | ((first | (with_reducible apply qS) | (with_reducible first | apply qA | apply qP | apply qD | apply qE | apply qK) | ((with_reducible first | apply qQ | apply qH | apply qI) <;> intro hb <;> (try simp only [hb]) <;> (try simp only [zB] at hb))) <;> try simp only [qY, qF, qM, qO, qG, qC, qN, reduceIte, seval, Int.cast_ofNat_Int, qZ, zA, xP]))
  refine uA m4 qA4 rfl (by decide) rfl rfl rfl fun h5 m5 f5 => ?_
  have s5 : HS h3 h5 := (HS.refl _).upd n4 fun j hj => (f5 j hj).trans (f4 j hj)
  have kne4 := i3.ne n4
  have i5 := i3.hs s5
  refine qT ?_; repeat' (first | (with_reducible first | apply qJ | apply qB) | ((first | (with_reducible apply qS) | (with_reducible first | apply qA | apply qP | apply qD | apply qE | apply qK) | ((with_reducible first | apply qQ | apply qH | apply qI) <;> intro hb <;> (try simp only [hb]) <;> (try simp only [zB] at hb))) <;> try simp only [qY, qF, qM, qO, qG, qC, qN, reduceIte, seval, Int.cast_ofNat_Int, qZ, zA, xP, qL m5 xU]))
  refine (vS i5 (by simp only [List.length_append]; omega) x.1).mono ?_
  rintro _ h6 ⟨i6, x6⟩
  have m6 := x6 _ _ kne4 m5
  refine qT ?_; repeat' (first | (with_reducible first | apply qJ | apply qB) | ((first | (with_reducible apply qS) | (with_reducible first | apply qA | apply qP | apply qD | apply qE | apply qK) | ((with_reducible first | apply qQ | apply qH | apply qI) <;> intro hb <;> (try simp only [hb]) <;> (try simp only [zB] at hb))) <;> try simp only [qY, qF, qM, qO, qG, qC, qN, reduceIte, seval, Int.cast_ofNat_Int, qZ, zA, xP, qL m6 xU]))
  refine (vS i6 (by simp only [List.length_append]; omega) x.2.1).mono ?_
  rintro _ h7 ⟨i7, x7⟩
  have m7 := x7 _ _ kne4 m6
  have p17 := ((p1.hs s5).ot i5 x6).ot i6 x7
  have p27 := ((p2.hs s5).ot i5 x6).ot i6 x7
  refine qT ?_; repeat' (first | (with_reducible first | apply qJ | apply qB) | ((first | (with_reducible apply qS) | (with_reducible first | apply qA | apply qP | apply qD | apply qE | apply qK) | ((with_reducible first | apply qQ | apply qH | apply qI) <;> intro hb <;> (try simp only [hb]) <;> (try simp only [zB] at hb))) <;> try simp only [qY, qF, qM, qO, qG, qC, qN, reduceIte, seval, Int.cast_ofNat_Int, qZ, zA, xP, qL m7 zI]))
  refine (jA i7 p17 (by simp only [List.length_append]; omega)).mono ?_
  rintro _ h8 ⟨i8, x8⟩
  have m8 := x8 _ _ kne4 m7
  have p28 := p27.ot i7 x8
  refine qT ?_; repeat' (first | (with_reducible first | apply qJ | apply qB) | ((first | (with_reducible apply qS) | (with_reducible first | apply qA | apply qP | apply qD | apply qE | apply qK) | ((with_reducible first | apply qQ | apply qH | apply qI) <;> intro hb <;> (try simp only [hb]) <;> (try simp only [zB] at hb))) <;> try simp only [qY, qF, qM, qO, qG, qC, qN, reduceIte, seval, Int.cast_ofNat_Int, qZ, zA, xP, qL m8 zI]))
  refine (jA i8 p28 (by simp only [List.length_append]; omega)).mono ?_
  rintro _ h9 ⟨i9, x9⟩
  refine qT ?_; repeat' (first | (with_reducible first | apply qJ | apply qB) | ((first | (with_reducible apply qS) | (with_reducible first | apply qA | apply qP | apply qD | apply qE | apply qK) | ((with_reducible first | apply qQ | apply qH | apply qI) <;> intro hb <;> (try simp only [hb]) <;> (try simp only [zB] at hb))) <;> try simp only [qY, qF, qM, qO, qG, qC, qN, reduceIte, seval, Int.cast_ofNat_Int, qZ, zA, xP, wi]))
  refine ⟨_, j + 1, ?_, (by simp only [List.forall_mem_cons, List.not_mem_nil, false_implies, implies_true, List.map, List.cons_append, List.nil_append, lk, Nat.reduceEqDiff, reduceIte, and_true, true_and]), rfl, by omega, ?_, ((((x3.trans (s5.hx ko)).trans x6).trans x7).trans x8).trans x9⟩
  · omega
  · rw [ft, vQ]
    simpa only [List.append_assoc] using i9
theorem sW (N : Nat) (h : GH) {q : An} {v : Value} (ra : RA h q v) (kind : Int) {b : Option Addr} {n c : Nat} {l : List UInt8} (r : RB h (.slice b n c) l) (hl : l.length + q.bulk * 10 ≤ 50000000) : GTri Tryd.prog N 10 [.slice b n c, .int .i64 kind, v] h fun v h' => HS h h' ∧ ∃ a c, v = .slice a (l ++ vR kind q).length c ∧ RB h' (.slice a (l ++ vR kind q).length c) (l ++ vR kind q) := by
  obtain rfl := r.len_eq
  have ra0 := ra
  obtain ⟨a, c1, b1, d, b', d', rfl, r1, r2, r3⟩ := ra
  have two : kind = 1 ∨ kind = 3 ∨ kind = 4 ∨ kind = 5 ∨ kind = 6 ∨ kind = 10 ∨ kind = 7 ∨ (kind ≠ 1 ∧ kind ≠ 3 ∧ kind ≠ 4 ∧ kind ≠ 5 ∧ kind ≠ 6 ∧ kind ≠ 10 ∧ kind ≠ 7) := by omega
  generalize hW : l ++ vR kind q = W
  have hky : q.ky.length ≤ q.bulk := by unfold An.bulk; omega
  have g1 := qW q.cd
  have g2 := qW q.ep
  refine xW Tryd.func10 rfl gf10 ok10 (by simp [Tryd.ntmps10]) ?_
  repeat' (first | (with_reducible first | apply qJ | apply qB) | ((first | (with_reducible first | apply qA | apply qP | apply qD | apply qE | apply qK) | ((with_reducible first | apply qQ | apply qH | apply qI) <;> intro hb <;> (try simp only [hb]) <;> (try simp only [zB] at hb))) <;> try simp only [qY, qF, qM, qO, qG, qC, qN, reduceIte, seval, Int.cast_ofNat_Int, qZ, zA, xB]))
  refine vD rfl fun k1 h1 m1 s1 f1 n1 => ?_
  have c0 : (q.cs (.slice a q.ky.length c1) (.slice b1 q.its.length d) (.slice b' q.evs.length d'))[0]? = some (.int .i64 q.cd) := rfl
  have cc1 : (q.cs (.slice a q.ky.length c1) (.slice b1 q.its.length d) (.slice b' q.evs.length d'))[1]? = some (.int .i64 q.ep) := rfl
  have cc3 : (q.cs (.slice a q.ky.length c1) (.slice b1 q.its.length d) (.slice b' q.evs.length d'))[3]? = some (.bool q.sm) := rfl
  refine qT ?_; repeat' (first | (with_reducible first | apply qJ | apply qB) | ((first | (with_reducible apply qS) | (with_reducible first | apply qA | apply qP | apply qD | apply qE | apply qK) | ((with_reducible first | apply qQ | apply qH | apply qI) <;> intro hb <;> (try simp only [hb]) <;> (try simp only [zB] at hb))) <;> try simp only [qY, qF, qM, qO, qG, qC, qN, reduceIte, seval, Int.cast_ofNat_Int, qZ, zA, xB, gX, kU, tX, Shape.pl, List.all_cons, List.all_nil, xE]))
  refine vD rfl fun ko h2 m2 s2 f2 n2 => ?_
  have m1' := s2 _ _ m1
  have hs2 := s1.trans s2
  have i2 : OT h2 ko l := ⟨b, c, m2, r.hs hs2⟩
  have n0 : h ko = none := s1.none_of n2
  have kne : k1 ≠ ko := ne_of m1 n2
  refine qT ?_; repeat' (first | (with_reducible first | apply qJ | apply qB) | ((first | (with_reducible apply qS) | (with_reducible first | apply qA | apply qP | apply qD | apply qE | apply qK) | ((with_reducible first | apply qQ | apply qH | apply qI) <;> intro hb <;> (try simp only [hb]) <;> (try simp only [zB] at hb))) <;> try simp only [qY, qF, qM, qO, qG, qC, qN, reduceIte, seval, Int.cast_ofNat_Int, qZ, zA, xB, qL m1' yD, c0]))
  refine (vS i2 (by omega) q.cd).mono ?_
  rintro _ h3 ⟨i3, x3⟩
  have m3 := x3 _ _ kne m1'
  have hs3 : HS h h3 := x3.new hs2 n0
  have fin : ∀ h4 out, OT h4 ko out → HX ko h3 h4 → out = W → ∃ a c, h4 ko = some ⟨[.slice a W.length c], 0, true, false⟩ ∧ HS h h4 ∧ RB h4 (.slice a W.length c) W := by
    rintro h4 _ ⟨a, c, m, r⟩ x rfl
    exact ⟨a, c, m, x.new hs3 n0, r⟩
  have ra3 := ra0.hs hs3
  have ga3 : xS Tryd.prog 27 h3 (.pointer (some ⟨k1, 0, none⟩)) = some (.agg (q.cs (.slice a q.ky.length c1) (.slice b1 q.its.length d) (.slice b' q.evs.length d')).toArray) := vA m3 qA8 (An.cs_len _ _ _ _)
  by_cases hcd : q.cd = 0
  case neg =>
    have d3 : (q.cd != 0) = true := by simpa using hcd
    have hw : l ++ qU q.cd = W := by rw [← hW, vR, if_pos hcd]; simp
    obtain ⟨a4, c4, m4, s4, r4⟩ := fin h3 _ i3 (HX.refl _ _) hw
    refine qT ?_; repeat' (first | (with_reducible first | apply qJ | apply qB) | ((first | (with_reducible apply qS) | (with_reducible first | apply qA | apply qP | apply qD | apply qE | apply qK) | ((with_reducible first | apply qQ | apply qH | apply qI) <;> intro hb <;> (try simp only [hb]) <;> (try simp only [zB] at hb))) <;> try simp only [qY, qF, qM, qO, qG, qC, qN, reduceIte, seval, Int.cast_ofNat_Int, qZ, zA, xB, qL m3 yD, c0, d3, gNil, qL m4 zI]))
    exact ⟨s4, a4, c4, rfl, r4⟩
  have d3 : (q.cd != 0) = false := by simpa using hcd
  have hw : l ++ qU q.cd ++ dW kind q = W := by rw [← hW, vR, if_neg (by simpa using hcd), List.append_assoc]
  clear hW
  rcases two with rfl | rfl | rfl | rfl | rfl | rfl | rfl | ⟨e1, e3, e4, e5, e6, e10, e7⟩
  · refine qT ?_; repeat' (first | (with_reducible first | apply qJ | apply qB) | ((first | (with_reducible apply qS) | (with_reducible first | apply qA | apply qP | apply qD | apply qE | apply qK) | ((with_reducible first | apply qQ | apply qH | apply qI) <;> intro hb <;> (try simp only [hb]) <;> (try simp only [zB] at hb))) <;> try simp only [qY, qF, qM, qO, qG, qC, qN, reduceIte, seval, Int.cast_ofNat_Int, qZ, zA, xB, qL m3 yD, c0, d3, qL m3 xU, cc1]))
    refine (vS i3 (by simp only [List.length_append]; omega) q.ep).mono ?_
    rintro _ h4 ⟨i4, x4⟩
    obtain ⟨a4, c4, m4, s4, r4⟩ := fin h4 _ i4 x4 (by rw [← hw]; rfl)
    refine qT ?_; repeat' (first | (with_reducible first | apply qJ | apply qB) | ((first | (with_reducible apply qS) | (with_reducible first | apply qA | apply qP | apply qD | apply qE | apply qK) | ((with_reducible first | apply qQ | apply qH | apply qI) <;> intro hb <;> (try simp only [hb]) <;> (try simp only [zB] at hb))) <;> try simp only [qY, qF, qM, qO, qG, qC, qN, reduceIte, seval, Int.cast_ofNat_Int, qZ, zA, xB, gNil, qL m4 zI]))
    exact ⟨s4, a4, c4, rfl, r4⟩
  · refine qT ?_; repeat' (first | (with_reducible first | apply qJ | apply qB) | ((first | (with_reducible apply qS) | (with_reducible first | apply qA | apply qP | apply qD | apply qE | apply qK) | ((with_reducible first | apply qQ | apply qH | apply qI) <;> intro hb <;> (try simp only [hb]) <;> (try simp only [zB] at hb))) <;> try simp only [qY, qF, qM, qO, qG, qC, qN, reduceIte, seval, Int.cast_ofNat_Int, qZ, zA, xB, qL m3 yD, c0, d3, ga3]))
    refine (o_one i3 ra3 (by simp only [List.length_append]; omega)).mono ?_
    rintro _ h4 ⟨i4, x4⟩
    obtain ⟨a4, c4, m4, s4, r4⟩ := fin h4 _ i4 x4 (by rw [← hw]; rfl)
    refine qT ?_; repeat' (first | (with_reducible first | apply qJ | apply qB) | ((first | (with_reducible apply qS) | (with_reducible first | apply qA | apply qP | apply qD | apply qE | apply qK) | ((with_reducible first | apply qQ | apply qH | apply qI) <;> intro hb <;> (try simp only [hb]) <;> (try simp only [zB] at hb))) <;> try simp only [qY, qF, qM, qO, qG, qC, qN, reduceIte, seval, Int.cast_ofNat_Int, qZ, zA, xB, gNil, qL m4 zI]))
    exact ⟨s4, a4, c4, rfl, r4⟩
  · refine qT ?_; repeat' (first | (with_reducible first | apply qJ | apply qB) | ((first | (with_reducible apply qS) | (with_reducible first | apply qA | apply qP | apply qD | apply qE | apply qK) | ((with_reducible first | apply qQ | apply qH | apply qI) <;> intro hb <;> (try simp only [hb]) <;> (try simp only [zB] at hb))) <;> try simp only [qY, qF, qM, qO, qG, qC, qN, reduceIte, seval, Int.cast_ofNat_Int, qZ, zA, xB, qL m3 yD, c0, d3, qL m3 xU, cc1]))
    refine (vS i3 (by simp only [List.length_append]; omega) q.ep).mono ?_
    rintro _ h4 ⟨i4, x4⟩
    have m4 := x4 _ _ kne m3
    have ga4 : xS Tryd.prog 27 h4 (.pointer (some ⟨k1, 0, none⟩)) = some (.agg (q.cs (.slice a q.ky.length c1) (.slice b1 q.its.length d) (.slice b' q.evs.length d')).toArray) := vA m4 qA8 (An.cs_len _ _ _ _)
    refine qT ?_; repeat' (first | (with_reducible first | apply qJ | apply qB) | ((first | (with_reducible apply qS) | (with_reducible first | apply qA | apply qP | apply qD | apply qE | apply qK) | ((with_reducible first | apply qQ | apply qH | apply qI) <;> intro hb <;> (try simp only [hb]) <;> (try simp only [zB] at hb))) <;> try simp only [qY, qF, qM, qO, qG, qC, qN, reduceIte, seval, Int.cast_ofNat_Int, qZ, zA, xB, ga4]))
    refine (o_one i4 (ra3.ot i3 x4) (by simp only [List.length_append]; omega)).mono ?_
    rintro _ h5 ⟨i5, x5⟩
    obtain ⟨a5, c5, m5, s5, r5⟩ := fin h5 _ i5 (x4.trans x5) (by rw [← hw, List.append_assoc]; rfl)
    refine qT ?_; repeat' (first | (with_reducible first | apply qJ | apply qB) | ((first | (with_reducible apply qS) | (with_reducible first | apply qA | apply qP | apply qD | apply qE | apply qK) | ((with_reducible first | apply qQ | apply qH | apply qI) <;> intro hb <;> (try simp only [hb]) <;> (try simp only [zB] at hb))) <;> try simp only [qY, qF, qM, qO, qG, qC, qN, reduceIte, seval, Int.cast_ofNat_Int, qZ, zA, xB, gNil, qL m5 zI]))
    exact ⟨s5, a5, c5, rfl, r5⟩
  · refine qT ?_; repeat' (first | (with_reducible first | apply qJ | apply qB) | ((first | (with_reducible apply qS) | (with_reducible first | apply qA | apply qP | apply qD | apply qE | apply qK) | ((with_reducible first | apply qQ | apply qH | apply qI) <;> intro hb <;> (try simp only [hb]) <;> (try simp only [zB] at hb))) <;> try simp only [qY, qF, qM, qO, qG, qC, qN, reduceIte, seval, Int.cast_ofNat_Int, qZ, zA, xB, qL m3 yD, c0, d3, qL m3 sG, cc3]))
    refine (pI i3 (by simp only [List.length_append]; omega) q.sm).mono ?_
    rintro _ h4 ⟨i4, x4⟩
    have m4 := x4 _ _ kne m3
    have ga4 : xS Tryd.prog 27 h4 (.pointer (some ⟨k1, 0, none⟩)) = some (.agg (q.cs (.slice a q.ky.length c1) (.slice b1 q.its.length d) (.slice b' q.evs.length d')).toArray) := vA m4 qA8 (An.cs_len _ _ _ _)
    refine qT ?_; repeat' (first | (with_reducible first | apply qJ | apply qB) | ((first | (with_reducible apply qS) | (with_reducible first | apply qA | apply qP | apply qD | apply qE | apply qK) | ((with_reducible first | apply qQ | apply qH | apply qI) <;> intro hb <;> (try simp only [hb]) <;> (try simp only [zB] at hb))) <;> try simp only [qY, qF, qM, qO, qG, qC, qN, reduceIte, seval, Int.cast_ofNat_Int, qZ, zA, xB, ga4]))
    refine (o_one i4 (ra3.ot i3 x4) (by simp only [List.length_append, List.length_singleton]; omega)).mono ?_
    rintro _ h5 ⟨i5, x5⟩
    obtain ⟨a5, c5, m5, s5, r5⟩ := fin h5 _ i5 (x4.trans x5) (by rw [← hw, List.append_assoc]; rfl)
    refine qT ?_; repeat' (first | (with_reducible first | apply qJ | apply qB) | ((first | (with_reducible apply qS) | (with_reducible first | apply qA | apply qP | apply qD | apply qE | apply qK) | ((with_reducible first | apply qQ | apply qH | apply qI) <;> intro hb <;> (try simp only [hb]) <;> (try simp only [zB] at hb))) <;> try simp only [qY, qF, qM, qO, qG, qC, qN, reduceIte, seval, Int.cast_ofNat_Int, qZ, zA, xB, gNil, qL m5 zI]))
    exact ⟨s5, a5, c5, rfl, r5⟩
  · refine qT ?_; repeat' (first | (with_reducible first | apply qJ | apply qB) | ((first | (with_reducible apply qS) | (with_reducible first | apply qA | apply qP | apply qD | apply qE | apply qK) | ((with_reducible first | apply qQ | apply qH | apply qI) <;> intro hb <;> (try simp only [hb]) <;> (try simp only [zB] at hb))) <;> try simp only [qY, qF, qM, qO, qG, qC, qN, reduceIte, seval, Int.cast_ofNat_Int, qZ, zA, xB, qL m3 yD, c0, d3, ga3]))
    refine (qE1 i3 ra3 (by simp only [List.length_append]; omega)).mono ?_
    rintro _ h4 ⟨i4, x4⟩
    obtain ⟨a4, c4, m4, s4, r4⟩ := fin h4 _ i4 x4 (by rw [← hw]; rfl)
    refine qT ?_; repeat' (first | (with_reducible first | apply qJ | apply qB) | ((first | (with_reducible apply qS) | (with_reducible first | apply qA | apply qP | apply qD | apply qE | apply qK) | ((with_reducible first | apply qQ | apply qH | apply qI) <;> intro hb <;> (try simp only [hb]) <;> (try simp only [zB] at hb))) <;> try simp only [qY, qF, qM, qO, qG, qC, qN, reduceIte, seval, Int.cast_ofNat_Int, qZ, zA, xB, gNil, qL m4 zI]))
    exact ⟨s4, a4, c4, rfl, r4⟩
  · refine qT ?_; repeat' (first | (with_reducible first | apply qJ | apply qB) | ((first | (with_reducible apply qS) | (with_reducible first | apply qA | apply qP | apply qD | apply qE | apply qK) | ((with_reducible first | apply qQ | apply qH | apply qI) <;> intro hb <;> (try simp only [hb]) <;> (try simp only [zB] at hb))) <;> try simp only [qY, qF, qM, qO, qG, qC, qN, reduceIte, seval, Int.cast_ofNat_Int, qZ, zA, xB, qL m3 yD, c0, d3, ga3]))
    refine (qE1 i3 ra3 (by simp only [List.length_append]; omega)).mono ?_
    rintro _ h4 ⟨i4, x4⟩
    obtain ⟨a4, c4, m4, s4, r4⟩ := fin h4 _ i4 x4 (by rw [← hw]; rfl)
    refine qT ?_; repeat' (first | (with_reducible first | apply qJ | apply qB) | ((first | (with_reducible apply qS) | (with_reducible first | apply qA | apply qP | apply qD | apply qE | apply qK) | ((with_reducible first | apply qQ | apply qH | apply qI) <;> intro hb <;> (try simp only [hb]) <;> (try simp only [zB] at hb))) <;> try simp only [qY, qF, qM, qO, qG, qC, qN, reduceIte, seval, Int.cast_ofNat_Int, qZ, zA, xB, gNil, qL m4 zI]))
    exact ⟨s4, a4, c4, rfl, r4⟩
  · refine qT ?_; repeat' (first | (with_reducible first | apply qJ | apply qB) | ((first | (with_reducible apply qS) | (with_reducible first | apply qA | apply qP | apply qD | apply qE | apply qK) | ((with_reducible first | apply qQ | apply qH | apply qI) <;> intro hb <;> (try simp only [hb]) <;> (try simp only [zB] at hb))) <;> try simp only [qY, qF, qM, qO, qG, qC, qN, reduceIte, seval, Int.cast_ofNat_Int, qZ, zA, xB, qL m3 yD, c0, d3, ga3]))
    refine (o_events i3 ra3 (by simp only [List.length_append]; omega)).mono ?_
    rintro _ h4 ⟨i4, x4⟩
    obtain ⟨a4, c4, m4, s4, r4⟩ := fin h4 _ i4 x4 (by rw [← hw]; rfl)
    refine qT ?_; repeat' (first | (with_reducible first | apply qJ | apply qB) | ((first | (with_reducible apply qS) | (with_reducible first | apply qA | apply qP | apply qD | apply qE | apply qK) | ((with_reducible first | apply qQ | apply qH | apply qI) <;> intro hb <;> (try simp only [hb]) <;> (try simp only [zB] at hb))) <;> try simp only [qY, qF, qM, qO, qG, qC, qN, reduceIte, seval, Int.cast_ofNat_Int, qZ, zA, xB, gNil, qL m4 zI]))
    exact ⟨s4, a4, c4, rfl, r4⟩
  · have eb : dW kind q = [] := by simp only [dW, e1, e3, e4, e5, e6, e10, e7, if_false, or_self]
    rw [eb, List.append_nil] at hw
    replace e1 : (kind == 1) = false := by simpa using e1
    replace e3 : (kind == 3) = false := by simpa using e3
    replace e4 : (kind == 4) = false := by simpa using e4
    replace e5 : (kind == 5) = false := by simpa using e5
    replace e6 : (kind == 6) = false := by simpa using e6
    replace e10 : (kind == 10) = false := by simpa using e10
    replace e7 : (kind == 7) = false := by simpa using e7
    obtain ⟨a4, c4, m4, s4, r4⟩ := fin h3 _ i3 (HX.refl _ _) hw
    refine qT ?_; repeat' (first | (with_reducible first | apply qJ | apply qB) | ((first | (with_reducible apply qS) | (with_reducible first | apply qA | apply qP | apply qD | apply qE | apply qK) | ((with_reducible first | apply qQ | apply qH | apply qI) <;> intro hb <;> (try simp only [hb]) <;> (try simp only [zB] at hb))) <;> try simp only [qY, qF, qM, qO, qG, qC, qN, reduceIte, seval, Int.cast_ofNat_Int, qZ, zA, xB, qL m3 yD, c0, d3, e1, e3, e4, e5, e6, e10, e7, gNil, qL m4 zI]))
    exact ⟨s4, a4, c4, rfl, r4⟩
end Go.Gh
namespace Go.Gh
open Go Go.Proofs Go.RowKit Go.ChangeShapes Go.WideShapes Go.ChangeAt
set_option linter.unusedVariables false
set_option linter.unusedSimpArgs false
set_option maxRecDepth 100000
set_option maxHeartbeats 1000000
structure Keeps (h h' : GH) : Prop where
  rb : ∀ {v : Value} {l : List UInt8}, RB h v l → RB h' v l
  rl : ∀ {α : Type} {es : Nat} {R R' : GH → List Value → α → Prop} {v : Value} {l : List α}, (∀ cs x, R h cs x → R' h' cs x) → RL es R h v l → RL es R' h' v l
theorem RL.to {α : Type} {es : Nat} {R R' : GH → List Value → α → Prop} {h h' : GH} {v : Value} {l : List α} (f : ∀ cs x, R h cs x → R' h' cs x) (b : RL es (fun _ => R h) h' v l) : RL es R' h' v l := by
  have c := b.map (R' := R') id f
  rwa [List.map_id] at c
theorem Keeps.hs {h h' : GH} (x : HS h h') : Keeps h h' := ⟨fun r => r.hs x, fun {α es R R' v l} f r => RL.to f (RL.hcR (R := fun _ => R h) r x.hc fun _ _ q => q)⟩
theorem Keeps.ot {h h' : GH} {k : Nat} {out : List UInt8} (r : OT h k out) (x : HX k h h') : Keeps h h' := by
  obtain ⟨a, c, m, q⟩ := r
  exact ⟨fun r => r.hx m rfl x, fun {α es R R' v l} f r => RL.to f (RL.hxR (R := fun _ => R h) r m ⟨rfl, rfl⟩ x fun _ _ q => q)⟩
theorem Keeps.trans {a b c : GH} (x : Keeps a b) (y : Keeps b c) : Keeps a c := ⟨fun r => y.rb (x.rb r), fun {α es R R' v l} f r => y.rl (R := fun _ cs z => R a cs z) f (x.rl (R' := fun _ cs z => R a cs z) (fun _ _ q => q) r)⟩
def RBc (h : GH) (cs : List Value) (x : List UInt8) : Prop := ∃ a c, cs = [.slice a x.length c] ∧ RB h (.slice a x.length c) x
theorem RBc.keep {h h' : GH} (k : Keeps h h') {cs : List Value} {x : List UInt8} (r : RBc h cs x) : RBc h' cs x := by
  obtain ⟨a, c, rfl, q⟩ := r
  exact ⟨a, c, rfl, k.rb q⟩
abbrev RBs (h : GH) (v : Value) (l : List (List UInt8)) : Prop := RL 1 RBc h v l
def RBsc (h : GH) (cs : List Value) (x : List (List UInt8)) : Prop := ∃ a c, cs = [.slice a x.length c] ∧ RBs h (.slice a x.length c) x
theorem RBsc.keep {h h' : GH} (k : Keeps h h') {cs : List Value} {x : List (List UInt8)} (r : RBsc h cs x) : RBsc h' cs x := by
  obtain ⟨a, c, rfl, q⟩ := r
  exact ⟨a, c, rfl, k.rl (fun _ _ q => q.keep k) q⟩
structure Pn (K : Type) where
  (kd si dp nw : Int)
  (id ky pf lf rt : List UInt8)
  (kids : List K)
def Pn.cs {K : Type} (p : Pn K) (i k x l r s : Value) : List Value := [.int .i64 p.kd, i, k, .int .i64 p.si, .int .i64 p.dp, x, .int .i64 p.nw, l, r, s]
theorem Pn.cs_len {K : Type} (p : Pn K) (i k x l r s : Value) : (p.cs i k x l r s).length = 10 := rfl
def RPn {K : Type} (R : GH → List Value → K → Prop) (h : GH) (cs : List Value) (p : Pn K) : Prop :=
  ∃ a1 c1 a2 c2 a3 c3 a4 c4 a5 c5 a6 c6, cs = p.cs (.slice a1 p.id.length c1) (.slice a2 p.ky.length c2) (.slice a3 p.pf.length c3) (.slice a4 p.lf.length c4) (.slice a5 p.rt.length c5) (.slice a6 p.kids.length c6) ∧
    RB h (.slice a1 p.id.length c1) p.id ∧ RB h (.slice a2 p.ky.length c2) p.ky ∧ RB h (.slice a3 p.pf.length c3) p.pf ∧ RB h (.slice a4 p.lf.length c4) p.lf ∧ RB h (.slice a5 p.rt.length c5) p.rt ∧ RL 10 R h (.slice a6 p.kids.length c6) p.kids
theorem RPn.keep {K : Type} {R : GH → List Value → K → Prop} {h h' : GH} (k : Keeps h h') (f : ∀ cs x, R h cs x → R h' cs x) {cs : List Value} {p : Pn K} (r : RPn R h cs p) : RPn R h' cs p := by
  obtain ⟨a1, c1, a2, c2, a3, c3, a4, c4, a5, c5, a6, c6, rfl, r1, r2, r3, r4, r5, r6⟩ := r
  exact ⟨a1, c1, a2, c2, a3, c3, a4, c4, a5, c5, a6, c6, rfl, k.rb r1, k.rb r2, k.rb r3, k.rb r4, k.rb r5, k.rl f r6⟩
def Pd : Nat → Type
  | 0 => Empty
  | n + 1 => Pn (Pd n)
def RPd : (n : Nat) → GH → List Value → Pd n → Prop
  | 0, _, _, _ => False
  | n + 1, h, cs, p => RPn (RPd n) h cs p
theorem RPd.keep {h h' : GH} (k : Keeps h h') : ∀ (n : Nat) {cs : List Value} {p : Pd n}, RPd n h cs p → RPd n h' cs p
  | 0, _, _, r => r
  | n + 1, _, _, r => RPn.keep k (fun _ _ q => RPd.keep k n q) r
abbrev Hp : Type := Int × Int × List UInt8
def RHp (h : GH) (cs : List Value) (x : Hp) : Prop := ∃ a c, cs = [.int .i64 x.1, .int .i64 x.2.1, .slice a x.2.2.length c] ∧ RB h (.slice a x.2.2.length c) x.2.2
theorem RHp.keep {h h' : GH} (k : Keeps h h') {cs : List Value} {x : Hp} (r : RHp h cs x) : RHp h' cs x := by
  obtain ⟨a, c, rfl, q⟩ := r
  exact ⟨a, c, rfl, k.rb q⟩
structure Pw (n : Nat) where
  (hops : List Hp)
  (en : Pd n)
def RPw {n : Nat} (h : GH) (cs : List Value) (p : Pw n) : Prop := ∃ a c ce, cs = .slice a p.hops.length c :: ce ∧ ce.length = 10 ∧ RL 3 RHp h (.slice a p.hops.length c) p.hops ∧ RPd n h ce p.en
theorem RPw.keep {n : Nat} {h h' : GH} (k : Keeps h h') {cs : List Value} {p : Pw n} (r : RPw h cs p) : RPw h' cs p := by
  obtain ⟨a, c, ce, rfl, hl, q, q2⟩ := r
  exact ⟨a, c, ce, rfl, hl, k.rl (fun _ _ q => q.keep k) q, q2.keep k n⟩
structure Rc where
  (ep tm cn : Int)
  (tr ls : List UInt8)
  (lk : List (List UInt8))
def Rc.cs (x : Rc) (t l k : Value) : List Value := [.int .i64 x.ep, .int .i64 x.tm, t, .int .i64 x.cn, l, k]
def RRc (h : GH) (cs : List Value) (x : Rc) : Prop := ∃ a1 c1 a2 c2 a3 c3, cs = x.cs (.slice a1 x.tr.length c1) (.slice a2 x.ls.length c2) (.slice a3 x.lk.length c3) ∧ RB h (.slice a1 x.tr.length c1) x.tr ∧ RB h (.slice a2 x.ls.length c2) x.ls ∧ RBs h (.slice a3 x.lk.length c3) x.lk
theorem RRc.keep {h h' : GH} (k : Keeps h h') {cs : List Value} {x : Rc} (r : RRc h cs x) : RRc h' cs x := by
  obtain ⟨a1, c1, a2, c2, a3, c3, rfl, r1, r2, r3⟩ := r
  exact ⟨a1, c1, a2, c2, a3, c3, rfl, k.rb r1, k.rb r2, k.rl (fun _ _ q => q.keep k) r3⟩
def RRcs (h : GH) (cs : List Value) (x : List Rc) : Prop := ∃ a c, cs = [.slice a x.length c] ∧ RL 6 RRc h (.slice a x.length c) x
theorem RRcs.keep {h h' : GH} (k : Keeps h h') {cs : List Value} {x : List Rc} (r : RRcs h cs x) : RRcs h' cs x := by
  obtain ⟨a, c, rfl, q⟩ := r
  exact ⟨a, c, rfl, k.rl (fun _ _ q => q.keep k) q⟩
structure Pf (n : Nat) where
  (way : Pw n)
  (ways : List (Pw n))
  (tree : Pd n)
  (lists : List (List (List UInt8)))
  (seen : List (List Rc))
def RPf {n : Nat} (h : GH) (cs : List Value) (p : Pf n) : Prop := ∃ cw cp a1 c1 a2 c2 a3 c3, cs = cw ++ ([.slice a1 p.ways.length c1] ++ (cp ++ [.slice a2 p.lists.length c2, .slice a3 p.seen.length c3])) ∧ cw.length = 11 ∧ cp.length = 10 ∧ RPw h cw p.way ∧
  RL 11 RPw h (.slice a1 p.ways.length c1) p.ways ∧ RPd n h cp p.tree ∧ RL 1 RBsc h (.slice a2 p.lists.length c2) p.lists ∧ RL 1 RRcs h (.slice a3 p.seen.length c3) p.seen
theorem RPf.keep {n : Nat} {h h' : GH} (k : Keeps h h') {cs : List Value} {p : Pf n} (r : RPf h cs p) : RPf h' cs p := by
  obtain ⟨cw, cp, a1, c1, a2, c2, a3, c3, rfl, l1, l2, r1, r2, r3, r4, r5⟩ := r
  exact ⟨cw, cp, a1, c1, a2, c2, a3, c3, rfl, l1, l2, r1.keep k, k.rl (fun _ _ q => q.keep k) r2, r3.keep k n, k.rl (fun _ _ q => q.keep k) r4, k.rl (fun _ _ q => q.keep k) r5⟩
def wby (l : List UInt8) : List UInt8 := qU l.length ++ l
def xQ {K : Type} (p : Pn K) : List UInt8 :=
  qU p.kd ++ (if p.kd = 1 then wby p.id ++ wby p.ky ++ qU p.si else if p.kd = 2 ∨ p.kd = 3 then qU p.dp ++ wby p.pf ++ qU p.nw else []) ++ (if p.kd = 2 then p.lf ++ p.rt else [])
def vC : (n : Nat) → Pd n → List UInt8
  | 0, p => nomatch p
  | n + 1, (p : Pn (Pd n)) => if p.kd = 3 then (match p.kids with | [x, y] => xQ p ++ vC n x ++ vC n y | _ => qU 3) else xQ p
def wend : (n : Nat) → Pd n → List UInt8
  | 0, p => nomatch p
  | _ + 1, p => xQ p
def whop (x : Hp) : List UInt8 := qU x.1 ++ qU x.2.1 ++ x.2.2
def wpath {n : Nat} (p : Pw n) : List UInt8 := qU p.hops.length ++ p.hops.flatMap whop ++ wend n p.en
def tz : Nat → Nat → Nat
  | 0, _ => 0
  | f + 1, n => if n % 2 = 1 then 0 else tz f (n / 2) + 1
def tR (e : Int) : Nat := if e < 1 then 0 else tz 8 e.toNat + 1
def mH (size : Int) (l : List (List UInt8)) : Bool := l.all fun y => ((y.length : Int) == size)
def canN (size : Int) (x : Rc) : Bool := decide (1 ≤ size ∧ size ≤ 32) && decide (0 ≤ x.ep ∧ x.ep ≤ 255) && decide (0 ≤ x.tm ∧ x.tm ≤ 1125899906842624) && decide (0 ≤ x.cn ∧ x.cn ≤ 32)
def mD (size : Int) (x : Rc) : Bool := canN size x && mH size [x.tr, x.ls] && ((x.lk.length : Int) == (tR x.ep : Int)) && mH size x.lk
def jJ (size : Int) (x : Rc) : List UInt8 := if mD size x = true then qU x.ep ++ qU x.tm ++ wby x.tr ++ qU x.cn ++ wby x.ls ++ x.lk.flatMap wby else []
def uL (size : Int) (r : Rc) : List UInt8 := wby (jJ size r)
def yB (size : Int) (w : List Rc) : List UInt8 := qU w.length ++ w.flatMap (uL size)
def yE (size : Int) (l : List (List Rc)) : List UInt8 := qU l.length ++ l.flatMap (yB size)
def wlist (w : List (List UInt8)) : List UInt8 := qU w.length ++ w.flatMap wby
def dB (l : List (List (List UInt8))) : List UInt8 := qU l.length ++ l.flatMap wlist
def gR (size kind : Int) {n : Nat} (p : Pf n) : List UInt8 :=
  if kind = 3 ∨ kind = 5 then wpath p.way
  else if kind = 4 then wpath p.way ++ yE size p.seen
  else if kind = 10 then qU p.ways.length ++ p.ways.flatMap wpath ++ yE size p.seen
  else if kind = 6 then vC n p.tree
  else if kind = 7 then dB p.lists ++ yE size p.seen
  else []
def yF (size kind : Int) (q : An) {n : Nat} (p : Pf n) : List UInt8 := wby (vR kind q) ++ (if q.cd ≠ 0 then [] else gR size kind p)
def Pn.bulk {K : Type} (f : K → Nat) (p : Pn K) : Nat := p.id.length + p.ky.length + p.pf.length + p.lf.length + p.rt.length + (p.kids.map f).sum + 10
def Pd.bulk : (n : Nat) → Pd n → Nat
  | 0, p => nomatch p
  | n + 1, p => Pn.bulk (Pd.bulk n) p
def Hp.bulk (x : Hp) : Nat := x.2.2.length + 3
def Pw.bulk {n : Nat} (p : Pw n) : Nat := (p.hops.map Hp.bulk).sum + p.en.bulk n + 1
def jS (l : List (List UInt8)) : Nat := (l.map fun x => x.length + 1).sum
def Rc.bulk (x : Rc) : Nat := x.tr.length + x.ls.length + jS x.lk + 6
def kL (l : List (List (List UInt8))) : Nat := (l.map fun x => jS x + 1).sum
def jY (l : List (List Rc)) : Nat := (l.map fun x => (x.map Rc.bulk).sum + 1).sum
def Pf.bulk {n : Nat} (p : Pf n) : Nat := p.way.bulk + (p.ways.map Pw.bulk).sum + p.tree.bulk n + kL p.lists + jY p.seen + 3
theorem vU {α : Type} (f : α → List UInt8) (g : α → Nat) (h : ∀ x, (f x).length ≤ 9 * g x) : ∀ l : List α, (l.flatMap f).length ≤ 9 * (l.map g).sum
  | [] => by simp
  | x :: l => by
    have := vU f g h l
    have := h x
    simp only [List.flatMap_cons, List.length_append, List.map_cons, List.sum_cons]
    omega
theorem wL {α : Type} (g : α → Nat) (h : ∀ x, 1 ≤ g x) : ∀ l : List α, l.length ≤ (l.map g).sum
  | [] => by simp
  | x :: l => by
    have := wL g h l
    have := h x
    simp only [List.length_cons, List.map_cons, List.sum_cons]
    omega
theorem jV (l : List UInt8) : (wby l).length ≤ 9 + l.length := by
  have := qW l.length
  simp only [wby, List.length_append]; omega
theorem gZ (l : List UInt8) : (wby l).length ≤ 9 * (l.length + 1) := by have := jV l; omega
theorem uH {K : Type} (f : K → Nat) (p : Pn K) : (xQ p).length + 9 * (p.kids.map f).sum ≤ 9 * p.bulk f := by
  have g1 := qW p.kd
  have g2 := qW p.si
  have g3 := qW p.dp
  have g4 := qW p.nw
  have g5 := jV p.id
  have g6 := jV p.ky
  have g7 := jV p.pf
  unfold xQ Pn.bulk
  repeat' split
  all_goals simp only [List.length_append, List.length_nil]
  all_goals omega
theorem uG : ∀ (n : Nat) (p : Pd n), (vC n p).length ≤ 9 * p.bulk n
  | 0, p => nomatch p
  | n + 1, p => by
    have h := uH (Pd.bulk n) p
    have g1 := qW 3
    have hb : Pd.bulk (n + 1) p = Pn.bulk (Pd.bulk n) p := rfl
    rw [hb]
    unfold vC
    split
    · split
      · rename_i x y hk
        rw [hk] at h
        have h1 := uG n x
        have h2 := uG n y
        simp only [List.map_cons, List.map_nil, List.sum_cons, List.sum_nil] at h
        simp only [List.length_append]
        omega
      · unfold Pn.bulk; omega
    · omega
theorem wend_len : ∀ (n : Nat) (p : Pd n), (wend n p).length ≤ 9 * p.bulk n
  | 0, p => nomatch p
  | n + 1, p => by
    have h := uH (Pd.bulk n) p
    show (xQ p).length ≤ 9 * Pn.bulk (Pd.bulk n) p
    omega
theorem mL (x : Hp) : (whop x).length ≤ 9 * x.bulk := by
  have g1 := qW x.1
  have g2 := qW x.2.1
  simp only [whop, Hp.bulk, List.length_append]; omega
theorem gD {n : Nat} (p : Pw n) : (wpath p).length ≤ 9 * p.bulk := by
  have h1 := vU whop Hp.bulk mL p.hops
  have h2 := wend_len n p.en
  have g := qW p.hops.length
  simp only [wpath, Pw.bulk, List.length_append]; omega
theorem wrec_len (size : Int) (x : Rc) : (jJ size x).length + 9 ≤ 9 * x.bulk := by
  have g1 := qW x.ep
  have g2 := qW x.tm
  have g3 := qW x.cn
  have g4 := jV x.tr
  have g5 := jV x.ls
  have g6 := vU wby (fun x => x.length + 1) gZ x.lk
  unfold jJ Rc.bulk jS
  split
  · simp only [List.length_append]; omega
  · simp only [List.length_nil]; omega
theorem qF9 (size : Int) (r : Rc) : (uL size r).length ≤ 9 * r.bulk := by
  have h1 := jV (jJ size r)
  have h2 := wrec_len size r
  unfold uL; omega
def rT (x : List Rc) : Nat := (x.map Rc.bulk).sum + 1
theorem fY (size : Int) (w : List Rc) : (yB size w).length ≤ 9 * rT w := by
  have g1 := qW w.length
  have g2 := vU (uL size) Rc.bulk (qF9 size) w
  simp only [yB, rT, List.length_append]; omega
theorem sE (size : Int) (l : List (List Rc)) : (yE size l).length ≤ 9 * (jY l + 1) := by
  have g1 := qW l.length
  have g2 := vU (yB size) rT (fY size) l
  have e : (l.map rT).sum = jY l := rfl
  simp only [yE, List.length_append]; omega
def gQ (w : List (List UInt8)) : Nat := jS w + 1
theorem dC (w : List (List UInt8)) : (wlist w).length ≤ 9 * gQ w := by
  have g1 := qW w.length
  have g2 := vU wby (fun x => x.length + 1) gZ w
  have e : (w.map (fun x => x.length + 1)).sum = jS w := rfl
  simp only [wlist, gQ, List.length_append]; omega
theorem qA0 (l : List (List (List UInt8))) : (dB l).length ≤ 9 * (kL l + 1) := by
  have g1 := qW l.length
  have g2 := vU wlist gQ dC l
  have e : (l.map gQ).sum = kL l := rfl
  simp only [dB, List.length_append]; omega
end Go.Gh
namespace Go.Gh
open Go Go.Proofs Go.RowKit
set_option linter.unusedVariables false
set_option linter.unusedSimpArgs false
set_option maxRecDepth 100000
set_option maxHeartbeats 8000000
theorem fxRec_52 : type_of% (And.intro Tryd.underlying90 (And.intro qF4 (And.intro wJ (And.intro wS (And.intro mN (And.intro ty90 rs52)))))) := And.intro Tryd.underlying90 (And.intro qF4 (And.intro wJ (And.intro wS (And.intro mN (And.intro ty90 rs52)))))
theorem fxRec_50 : type_of% (And.intro rK (And.intro mO (And.intro ty83 (And.intro mN rs50)))) := And.intro rK (And.intro mO (And.intro ty83 (And.intro mN rs50)))
theorem lP : type_of% (And.intro mC (And.intro wJ (And.intro mO rs48))) := And.intro mC (And.intro wJ (And.intro mO rs48))
theorem fQ : type_of% (And.intro zX (And.intro yU (And.intro wJ (And.intro wS rs47)))) := And.intro zX (And.intro yU (And.intro wJ (And.intro wS rs47)))
def dbT : List Int := [0, 1, 56, 2, 57, 49, 28, 3, 61, 58, 42, 50, 38, 29, 17, 4, 62, 47, 59, 36, 45, 43, 51, 22, 53, 39, 33, 30, 24, 18, 12, 5, 63, 55, 48, 27, 60, 41, 37, 16, 46, 35, 44, 21, 52, 32, 23, 11, 54, 26, 40, 15, 34, 20, 31, 10, 25, 14, 19, 9, 13, 8, 7, 6]
abbrev TBd (h : GH) : Prop := TB 1 (dbT.map fun z => Value.int .u8 z) h
def tzi (x : Nat) : Nat := (x &&& (18446744073709551616 - x)) * 285870213051353865 % 18446744073709551616 / 288230376151711744
theorem tz_tab : ((List.range 256).all fun x => x == 0 || (decide (tzi x < 64) && dbT[tzi x]? == some (tz 8 x : Int) && decide (tz 8 x < 8))) = true := by decide +kernel
theorem tz_at {x : Nat} (h0 : 0 < x) (h : x < 256) : tzi x < 64 ∧ dbT[tzi x]? = some (tz 8 x : Int) ∧ tz 8 x < 8 := by
  have := List.all_eq_true.1 tz_tab x (List.mem_range.2 h)
  have e : (x == 0) = false := by simpa using (by omega : x ≠ 0)
  simp only [e, Bool.false_or, Bool.and_eq_true, decide_eq_true_eq, beq_iff_eq] at this
  exact ⟨this.1.1, this.1.2, this.2⟩
theorem tz_e1 {x : Nat} (h0 : 0 < x) (hx : x < 256) : IntKind.u64.wrap (0 - (x : Int)) = ((18446744073709551616 - x : Nat) : Int) := by
  simp [IntKind.wrap, IntKind.signed, IntKind.bits]
  omega
theorem tz_e3 (y : Nat) : IntKind.u64.wrap ((y : Int) * 285870213051353865) = ((y * 285870213051353865 % 18446744073709551616 : Nat) : Int) := by
  simp [IntKind.wrap, IntKind.signed, IntKind.bits]
theorem tz_e4 (y : Nat) : (y : Int).fdiv (2 ^ min 58 IntKind.u64.bits) = ((y / 288230376151711744 : Nat) : Int) := qD9 y 58 (by omega)
theorem tz_gi (i : Nat) (h : i < 64) : wE Tryd.prog 90 (.pointer (some ⟨1, 0, none⟩)) (i : Int) = some (.pointer (some ⟨1, i, none⟩)) := by
  simp [wE, Tryd.underlying90, sz5]; omega
def tzy (x : Nat) : Nat := x &&& (18446744073709551616 - x)
theorem tzi_eq (x : Nat) : tzy x * 285870213051353865 % 18446744073709551616 / 288230376151711744 = tzi x := rfl
theorem tz_e2 {x : Nat} (h0 : 0 < x) (hx : x < 256) : bits .and .u64 (x : Int) ((18446744073709551616 - x : Nat) : Int) = (tzy x : Int) := (bits_u64 (a := x) (b := 18446744073709551616 - x) (by omega) (by omega)).1
theorem c_TZ64 (N : Nat) {h : GH} (tb : TBd h) {x : Nat} (h0 : 0 < x) (hx : x < 256) : GTri Tryd.prog N 52 [.int .u64 x] h fun v h' => v = .int .i64 (tz 8 x : Int) ∧ h' = h := by
  obtain ⟨t1, t2, t3⟩ := tz_at h0 hx
  have e0 : ((x : Int) == 0) = false := by simpa using (by omega : x ≠ 0)
  have e1 := tz_e1 h0 hx
  have e2 := tz_e2 h0 hx
  have e5 := tzi_eq x
  generalize 18446744073709551616 - x = X at e1 e2
  generalize tzy x = Y at e2 e5
  have e3 := tz_e3 Y
  generalize Y * 285870213051353865 % 18446744073709551616 = Z at e3 e5
  have e4 := tz_e4 Z
  rw [e5] at e4
  have hi : (dbT.map fun z => Value.int .u8 z)[tzi x]? = some (.int .u8 (tz 8 x : Int)) := by rw [List.getElem?_map, t2]; rfl
  obtain ⟨ds, md, ed⟩ := tb.at hi
  have gi := tz_gi (tzi x) t1
  have w1 : IntKind.i64.wrap (tz 8 x : Int) = (tz 8 x : Int) := rO (by omega)
  refine xW Tryd.func52 rfl gf52 ok52 (by simp [Tryd.ntmps52]) ?_
  repeat' (first | (with_reducible first | apply qJ | apply qB) | ((first | (with_reducible first | apply qA | apply qP | apply qD | apply qE | apply qK) | ((with_reducible first | apply qQ | apply qH | apply qI) <;> intro hb <;> (try simp only [hb]) <;> (try simp only [zB] at hb))) <;> try simp only [qY, qF, qM, qO, qG, qC, qN, reduceIte, seval, Int.cast_ofNat_Int, qZ, zA, fxRec_52, e0, e1, e2, e3, e4, gi, qL md sz5, ed, w1]))
theorem c_TZ (N : Nat) {h : GH} (tb : TBd h) {x : Nat} (h0 : 0 < x) (hx : x < 256) : GTri Tryd.prog N 50 [.int .u64 x] h fun v h' => v = .int .i64 (tz 8 x : Int) ∧ h' = h := by
  have w0 : IntKind.u64.wrap (x : Int) = x := jU (by omega) (by omega)
  refine xW Tryd.func50 rfl gf50 ok50 (by simp [Tryd.ntmps50]) ?_
  repeat' (first | (with_reducible first | apply qJ | apply qB) | ((first | (with_reducible first | apply qA | apply qP | apply qD | apply qE | apply qK) | ((with_reducible first | apply qQ | apply qH | apply qI) <;> intro hb <;> (try simp only [hb]) <;> (try simp only [zB] at hb)) | ((refine GTri.mono (c_TZ64 _ tb h0 hx) ?_); rintro _ _ ⟨rfl, hh9⟩; replace hh9 := hh9.symm; subst hh9)) <;> try simp only [qY, qF, qM, qO, qG, qC, qN, reduceIte, seval, Int.cast_ofNat_Int, qZ, zA, fxRec_50, w0]))
theorem qB4 {e : Int} (h : e ≤ 255) : tR e ≤ 8 := by
  unfold tR
  split
  · omega
  · have := (tz_at (x := e.toNat) (by omega) (by omega)).2.2
    omega
theorem c_links (N : Nat) {h : GH} (tb : TBd h) {e : Int} (h0 : 0 ≤ e) (he : e ≤ 255) : GTri Tryd.prog N 48 [.int .i64 e] h fun v h' => v = .int .i64 (tR e : Int) ∧ h' = h := by
  obtain ⟨x, rfl⟩ : ∃ x : Nat, e = x := ⟨e.toNat, by omega⟩
  have hn := qB4 he
  by_cases h1 : x = 0
  · subst h1
    refine xW Tryd.func48 rfl gf48 ok48 (by simp [Tryd.ntmps48]) ?_
    repeat' (first | (with_reducible first | apply qJ | apply qB) | ((first | (with_reducible first | apply qA | apply qP | apply qD | apply qE | apply qK) | ((with_reducible first | apply qQ | apply qH | apply qI) <;> intro hb <;> (try simp only [hb]) <;> (try simp only [zB] at hb))) <;> try simp only [qY, qF, qM, qO, qG, qC, qN, reduceIte, seval, Int.cast_ofNat_Int, qZ, zA, lP]))
    rfl
  · have d1 : decide ((x : Int) < 1) = false := decide_eq_false (by omega)
    have w0 : IntKind.u64.wrap (x : Int) = x := jU (by omega) (by omega)
    have en : tR (x : Int) = tz 8 x + 1 := by unfold tR; rw [if_neg (by omega), Int.toNat_natCast]
    have w1 : IntKind.i64.wrap ((tz 8 x : Int) + 1) = (tR (x : Int) : Int) := by rw [wrap64 (by omega) (by omega)]; omega
    refine xW Tryd.func48 rfl gf48 ok48 (by simp [Tryd.ntmps48]) ?_
    repeat' (first | (with_reducible first | apply qJ | apply qB) | ((first | (with_reducible first | apply qA | apply qP | apply qD | apply qE | apply qK) | ((with_reducible first | apply qQ | apply qH | apply qI) <;> intro hb <;> (try simp only [hb]) <;> (try simp only [zB] at hb)) | ((refine GTri.mono (c_TZ _ tb (by omega) (by omega)) ?_); rintro _ _ ⟨rfl, hh9⟩; replace hh9 := hh9.symm; subst hh9)) <;> try simp only [qY, qF, qM, qO, qG, qC, qN, reduceIte, seval, Int.cast_ofNat_Int, qZ, zA, lP, d1, w0, w1]))
theorem c_within (N : Nat) (h : GH) (n m : Int) : GTri Tryd.prog N 46 [.int .i64 n, .int .i64 m] h fun v h' => v = .bool (decide (0 ≤ n ∧ n ≤ m)) ∧ h' = h := by
  refine xW Tryd.func46 rfl gf46 ok46 (by simp [Tryd.ntmps46]) ?_
  by_cases h0 : 0 ≤ n
  · have d0 : decide (n ≥ 0) = true := decide_eq_true h0
    have dd : decide (0 ≤ n ∧ n ≤ m) = decide (n ≤ m) := by simp [h0]
    repeat' (first | (with_reducible first | apply qJ | apply qB) | ((first | (with_reducible first | apply qA | apply qP | apply qD | apply qE | apply qK) | ((with_reducible first | apply qQ | apply qH | apply qI) <;> intro hb <;> (try simp only [hb]) <;> (try simp only [zB] at hb))) <;> try simp only [qY, qF, qM, qO, qG, qC, qN, reduceIte, seval, Int.cast_ofNat_Int, qZ, zA, wJ, rs46, d0, dd]))
  · have d0 : decide (n ≥ 0) = false := decide_eq_false h0
    have dd : decide (0 ≤ n ∧ n ≤ m) = false := decide_eq_false (by omega)
    repeat' (first | (with_reducible first | apply qJ | apply qB) | ((first | (with_reducible first | apply qA | apply qP | apply qD | apply qE | apply qK) | ((with_reducible first | apply qQ | apply qH | apply qI) <;> intro hb <;> (try simp only [hb]) <;> (try simp only [zB] at hb))) <;> try simp only [qY, qF, qM, qO, qG, qC, qN, reduceIte, seval, Int.cast_ofNat_Int, qZ, zA, wJ, rs46, d0, dd]))
theorem qF7 (N : Nat) (h : GH) (size : Int) {a : Option Addr} {c : Nat} {l : List (List UInt8)} (r : RBs h (.slice a l.length c) l) (hl : l.length ≤ 1000000000) : GTri Tryd.prog N 47 [.int .i64 size, .slice a l.length c] h fun v h' => v = .bool (mH size l) ∧ h' = h := by
  refine xW Tryd.func47 rfl gf47 ok47 (by simp [Tryd.ntmps47]) ?_
  repeat' (first | (with_reducible first | apply qJ | apply qB) | ((first | (with_reducible first | apply qA | apply qP | apply qD | apply qE | apply qK) | ((with_reducible first | apply qQ | apply qH | apply qI) <;> intro hb <;> (try simp only [hb]) <;> (try simp only [zB] at hb))) <;> try simp only [qY, qF, qM, qO, qG, qC, qN, reduceIte, seval, Int.cast_ofNat_Int, qZ, zA, fQ]))
  refine zZ [0, 7, 8] (fun (i : Nat) => [(9, .int .i64 (i : Int))]) (fun q i h' => l.length - i = q ∧ i ≤ l.length ∧ h = h' ∧ mH size (l.take i) = true) l.length 0 (by simp [lk]) ⟨rfl, by omega, rfl, rfl⟩ ?_
  rintro _ j _ ⟨rfl, hj, rfl, hz⟩
  by_cases hil : j < l.length
  case neg =>
    have d3 : decide ((j : Int) < (l.length : Int)) = false := decide_eq_false (by omega)
    obtain rfl : j = l.length := by omega
    rw [List.take_length] at hz
    refine qT ?_; repeat' (first | (with_reducible first | apply qJ | apply qB) | ((first | (with_reducible apply qS) | (with_reducible first | apply qA | apply qP | apply qD | apply qE | apply qK) | ((with_reducible first | apply qQ | apply qH | apply qI) <;> intro hb <;> (try simp only [hb]) <;> (try simp only [zB] at hb))) <;> try simp only [qY, qF, qM, qO, qG, qC, qN, reduceIte, seval, Int.cast_ofNat_Int, qZ, zA, fQ, d3, hz]))
  have d3 : decide ((j : Int) < (l.length : Int)) = true := decide_eq_true (by omega)
  have wi : IntKind.i64.wrap ((j : Int) + 1) = ((j + 1 : Nat) : Int) := by rw [wrap64 (by omega) (by omega)]; omega
  obtain ⟨x, hx⟩ : ∃ x, l[j]? = some x := ⟨_, List.getElem?_eq_getElem hil⟩
  obtain ⟨ad, cs2, g1, g2, a', c', rfl, p1⟩ := RL.at (P := Tryd.prog) r Tryd.underlying62 zI hx
  by_cases hs : (x.length : Int) = size
  · have d4 : ((x.length : Int) != size) = false := by simpa using hs
    refine qT ?_; repeat' (first | (with_reducible first | apply qJ | apply qB) | ((first | (with_reducible apply qS) | (with_reducible first | apply qA | apply qP | apply qD | apply qE | apply qK) | ((with_reducible first | apply qQ | apply qH | apply qI) <;> intro hb <;> (try simp only [hb]) <;> (try simp only [zB] at hb))) <;> try simp only [qY, qF, qM, qO, qG, qC, qN, reduceIte, seval, Int.cast_ofNat_Int, qZ, zA, fQ, d3, g1, wP zI g2, d4, wi]))
    have e : mH size (l.take (j + 1)) = (mH size (l.take j) && ((x.length : Int) == size)) := by simp [mH, List.take_add_one, hx]
    rw [hz] at e
    refine ⟨_, j + 1, by omega, (by simp only [List.forall_mem_cons, List.not_mem_nil, false_implies, implies_true, List.map, List.cons_append, List.nil_append, lk, Nat.reduceEqDiff, reduceIte, and_true, true_and]), rfl, by omega, ?_⟩
    rw [e]; simpa using hs
  · have d4 : ((x.length : Int) != size) = true := by simpa using hs
    have hf : mH size l = false := by
      unfold mH
      rw [List.all_eq_false]
      exact ⟨x, List.mem_of_getElem? hx, by simpa using hs⟩
    refine qT ?_; repeat' (first | (with_reducible first | apply qJ | apply qB) | ((first | (with_reducible apply qS) | (with_reducible first | apply qA | apply qP | apply qD | apply qE | apply qK) | ((with_reducible first | apply qQ | apply qH | apply qI) <;> intro hb <;> (try simp only [hb]) <;> (try simp only [zB] at hb))) <;> try simp only [qY, qF, qM, qO, qG, qC, qN, reduceIte, seval, Int.cast_ofNat_Int, qZ, zA, fQ, d3, g1, wP zI g2, d4, hf]))
theorem jP : type_of% (And.intro zX (And.intro yU (And.intro fA (And.intro wJ (And.intro wS rs41))))) := And.intro zX (And.intro yU (And.intro fA (And.intro wJ (And.intro wS rs41))))
def wY : Nat → List (Nat × List Nat) × List Nat
  | 2 => ([(0, []), (1, []), (2, []), (3, []), (4, []), (5, []), (6, []), (7, []), (8, []), (9, []), (10, []), (11, []), (12, []), (13, []), (14, []), (15, []), (16, [12, 13]), (17, []), (18, []), (19, []), (20, []), (21, []), (22, []), (23, []), (24, []), (25, [])], [0, 1, 3, 3, 11, 3, 35, 123, 255, 511, 1023, 2047, 4095, 8191, 2047, 18431, 51199, 131071, 262143, 524287, 1048575, 1048575, 3145727, 8388607, 16777215, 33554431])
  | _ => ([], [])
theorem wf64 {n : Int} (h : (Lit.int .i64 n).wf = true) : -9223372036854775808 ≤ n ∧ n ≤ 9223372036854775807 := by
  simp only [Lit.wf, Bool.and_eq_true, decide_eq_true_eq] at h
  have h1 : IntKind.i64.min = -9223372036854775808 := rfl
  have h2 : IntKind.i64.max = 9223372036854775807 := rfl
  omega
theorem qH2 {h : GH} {k es : Nat} {wr tl : Bool} {vs : List Value} {l : List (List UInt8)} (hk : h k = some ⟨vs, es, wr, tl⟩) (he : es ≠ 0) (hl : vs.length = l.length) (hv : ∀ (i : Nat) x, l[i]? = some x → ∃ a c, vs[i]? = some (.slice a x.length c) ∧ RB h (.slice a x.length c) x) : RBs h (.slice (some ⟨k, 0, none⟩) l.length (2 * l.length + 1)) l := by
  refine .inr ⟨⟨k, 0, none⟩, _, vs, rfl, vM hk (by rw [List.drop_zero, Nat.mul_one, ← hl, List.take_length]) (by omega), by omega, fun i x hx => ?_, .inr ⟨_, hk, .inl he⟩⟩
  obtain ⟨a, c, h1, h2⟩ := hv i x hx
  refine ⟨a, c, ?_, h2⟩
  rw [Nat.mul_one]
  obtain ⟨h3, h4⟩ := List.getElem?_eq_some_iff.1 h1
  rw [List.drop_eq_getElem_cons h3, h4]; rfl
theorem size_w {size : Int} (hw : (Lit.int .i64 size).wf = true) : decide (0 ≤ IntKind.i64.wrap (size - 1) ∧ IntKind.i64.wrap (size - 1) ≤ 31) = decide (1 ≤ size ∧ size ≤ 32) := by
  rw [decide_eq_decide]
  have := wf64 hw
  by_cases h : size = -9223372036854775808
  · subst h
    exact ⟨fun h => by revert h; decide, fun h => by omega⟩
  · rw [wrap64 (by omega) (by omega)]; omega
theorem c_RCan (N : Nat) {h : GH} (tb : TBd h) {size : Int} (hw : (Lit.int .i64 size).wf = true) {cs : List Value} {x : Rc} (q : RRc h cs x) (hl : x.lk.length ≤ 100000000) : GTri Tryd.prog N 41 [.int .i64 size, .agg cs.toArray] h fun v h' => v = .bool (mD size x) ∧ HS h h' := by
  obtain ⟨a1, c1, a2, c2, a3, c3, rfl, r1, r2, r3⟩ := q
  generalize hc : mD size x = b
  obtain ⟨ep, tm, cn, tr, ls, lk⟩ := x
  simp only at r1 r2 r3 hl
  simp only [mD, canN] at hc
  have e1 := size_w hw
  refine xW Tryd.func41 rfl gf41 ok41 (by simp [Tryd.ntmps41]) ?_
  repeat' (first | (with_reducible first | apply qJ | apply qB) | ((first | (with_reducible first | apply qA | apply qP | apply qD | apply qE | apply qK) | ((with_reducible first | apply qQ | apply qH | apply qI | apply zF | apply zG) <;> intro hb <;> (try simp only [hb]) <;> (try simp only [zB] at hb)) | with_reducible refine qR wY qX (by kernel_rfl) ?_) <;> try simp only [qY, qF, qM, qO, qG, qC, qN, reduceIte, seval, Int.cast_ofNat_Int, qZ, zA, qV, zS, zU, zV, jP, wY, Rc.cs]))
  refine vD rfl fun k1 h1 m1 s1 f1 n1 => ?_
  refine qT ?_; repeat' (first | (with_reducible first | apply qJ | apply qB) | ((first | (with_reducible apply qS) | (with_reducible first | apply qA | apply qP | apply qD | apply qE | apply qK) | ((with_reducible first | apply qQ | apply qH | apply qI | apply zF | apply zG) <;> intro hb <;> (try simp only [hb]) <;> (try simp only [zB] at hb)) | with_reducible refine qR wY qX (by kernel_rfl) ?_ | ((refine GTri.mono (c_within _ _ _ _) ?_); rintro _ _ ⟨rfl, hh9⟩; replace hh9 := hh9.symm; subst hh9)) <;> try simp only [qY, qF, qM, qO, qG, qC, qN, reduceIte, seval, Int.cast_ofNat_Int, qZ, zA, qV, zS, zU, zV, jP, wY, qL m1 xU, e1]))
  case hf => rw [← hc, decide_eq_false hb]; exact ⟨rfl, s1⟩
  case ht.hf => rw [← hc, decide_eq_false hb]; exact ⟨by simp, s1⟩
  case ht.ht.hf => rw [← hc, decide_eq_false hb]; exact ⟨by simp, s1⟩
  case ht.ht.ht.hf => rw [← hc, decide_eq_false hb]; exact ⟨by simp, s1⟩
  rename_i hb1 hb2 hb3
  rw [decide_eq_true hb1, decide_eq_true hb2, decide_eq_true hb3, decide_eq_true hb] at hc
  simp only [Bool.true_and] at hc
  refine qT ?_; repeat' (first | (with_reducible first | apply qJ | apply qB) | ((first | (with_reducible apply qS) | (with_reducible first | apply qA | apply qP | apply qD | apply qE | apply qK) | ((with_reducible first | apply qQ | apply qH | apply qI | apply zF | apply zG) <;> intro hb <;> (try simp only [hb]) <;> (try simp only [zB] at hb)) | with_reducible refine qR wY qX (by kernel_rfl) ?_) <;> try simp only [qY, qF, qM, qO, qG, qC, qN, reduceIte, seval, Int.cast_ofNat_Int, qZ, zA, qV, zS, zU, zV, jP, wY, qL m1 zI, qL m1 rC, qL m1 xU]))
  refine bs_g (cs := [.slice a1 tr.length c1, .slice a2 ls.length c2]) el62 rfl (by decide) (by decide) (by rw [jI _ rfl]; rfl) rfl fun k2 h2 m2 s2 f2 n2 => ?_
  have m3 := s2 _ _ m1
  have t2 := s1.trans s2
  have rr : RBs h2 (.slice (some ⟨k2, 0, none⟩) ([tr, ls] : List (List UInt8)).length 5) [tr, ls] := qH2 m2 (by decide) rfl fun i x hx => by
    rcases i with _ | _ | i
    · cases hx; exact ⟨a1, c1, rfl, r1.hs t2⟩
    · cases hx; exact ⟨a2, c2, rfl, r2.hs t2⟩
    · simp at hx
  have tb2 := tb.hs t2
  refine qT ?_; repeat' (first | (with_reducible first | apply qJ | apply qB) | ((first | (with_reducible apply qS) | (with_reducible first | apply qA | apply qP | apply qD | apply qE | apply qK) | ((with_reducible first | apply qQ | apply qH | apply qI | apply zF | apply zG) <;> intro hb <;> (try simp only [hb]) <;> (try simp only [zB] at hb)) | with_reducible refine qR wY qX (by kernel_rfl) ?_ | ((refine GTri.mono (qF7 _ _ _ rr (by simp)) ?_); rintro _ _ ⟨rfl, hh9⟩; replace hh9 := hh9.symm; subst hh9)) <;> try simp only [qY, qF, qM, qO, qG, qC, qN, reduceIte, seval, Int.cast_ofNat_Int, qZ, zA, qV, zS, zU, zV, jP, wY, qL m3 zI, qL m3 rC, qL m3 xU]))
  case hf => rw [← hc]; exact ⟨by simp [hb], t2⟩
  rw [hb] at hc
  have r3' := RL.hcR (R := RBc) r3 t2.hc fun _ _ q => q.keep (.hs t2)
  refine qT ?_; repeat' (first | (with_reducible first | apply qJ | apply qB) | ((first | (with_reducible apply qS) | (with_reducible first | apply qA | apply qP | apply qD | apply qE | apply qK) | ((with_reducible first | apply qQ | apply qH | apply qI | apply zF | apply zG) <;> intro hb <;> (try simp only [hb]) <;> (try simp only [zB] at hb)) | with_reducible refine qR wY qX (by kernel_rfl) ?_ | ((refine GTri.mono (c_links _ tb2 hb2.1 hb2.2) ?_); rintro _ _ ⟨rfl, hh9⟩; replace hh9 := hh9.symm; subst hh9) | ((refine GTri.mono (qF7 _ _ _ r3' (by omega)) ?_); rintro _ _ ⟨rfl, hh9⟩; replace hh9 := hh9.symm; subst hh9)) <;> try simp only [qY, qF, qM, qO, qG, qC, qN, reduceIte, seval, Int.cast_ofNat_Int, qZ, zA, qV, zS, zU, zV, jP, wY, qL m3 rC, qL m3 xU]))
  case hf =>
    have hd : ((lk.length : Int) == (tR ep : Int)) = false := by rw [beq_eq_false_iff_ne]; exact hb
    rw [← hc, hd]; exact ⟨by simp, t2⟩
  have hd : ((lk.length : Int) == (tR ep : Int)) = true := by rw [beq_iff_eq]; exact hb
  rw [← hc, hd]; exact ⟨by simp, t2⟩
theorem nlk_tab : ((List.range 256).all fun e => (List.range 9).all fun n => decide (tR (e : Int) ≤ 8) && (!decide (n ≤ tR (e : Int)) || (decide (2 ^ n ≤ e ∧ e % 2 ^ n = 0) == decide (n < tR (e : Int))))) = true := by decide +kernel
theorem nlk_at {e n : Nat} (he : e < 256) (hn : n ≤ tR (e : Int)) : tR (e : Int) ≤ 8 ∧ ((2 ^ n ≤ e ∧ e % 2 ^ n = 0) ↔ n < tR (e : Int)) := by
  have h8 := qB4 (e := (e : Int)) (by omega)
  have h1 := List.all_eq_true.1 nlk_tab e (List.mem_range.2 he)
  have h2 := List.all_eq_true.1 h1 n (List.mem_range.2 (by omega))
  simp only [Bool.and_eq_true, decide_eq_true_eq, Bool.or_eq_true, Bool.not_eq_true', decide_eq_false_iff_not, beq_iff_eq, decide_eq_decide] at h2
  refine ⟨h8, ?_⟩
  rcases h2.2 with h | h
  · exact absurd hn h
  · exact h
theorem c_rLinks (N : Nat) (h : GH) {e : Int} (h0 : 0 ≤ e) (he : e ≤ 255) : GTri Tryd.prog N 49 [.int .i64 e] h fun v h' => v = .int .i64 (tR e : Int) ∧ h' = h := by
  obtain ⟨x, rfl⟩ : ∃ x : Nat, e = x := ⟨e.toNat, by omega⟩
  have h8 := qB4 he
  refine xW Tryd.func49 rfl gf49 ok49 (by simp [Tryd.ntmps49]) ?_
  repeat' (first | (with_reducible first | apply qJ | apply qB) | ((first | (with_reducible first | apply qA | apply qP | apply qD | apply qE | apply qK) | ((with_reducible first | apply qQ | apply qH | apply qI) <;> intro hb <;> (try simp only [hb]) <;> (try simp only [zB] at hb))) <;> try simp only [qY, qF, qM, qO, qG, qC, qN, reduceIte, seval, Int.cast_ofNat_Int, qZ, zA, wJ, qG8]))
  refine zZ [0, 2] (fun (n : Nat) => [(3, .int .i64 (n : Int)), (4, .int .i64 ((2 ^ n : Nat) : Int))]) (fun q n h' => tR (x : Int) - n = q ∧ n ≤ tR (x : Int) ∧ h = h') (tR (x : Int)) 0 (by simp [lk]) ⟨rfl, by omega, rfl⟩ ?_
  rintro _ n _ ⟨rfl, hn, rfl⟩
  obtain ⟨_, hs⟩ := nlk_at (e := x) (by omega) hn
  have hp : 2 ^ n ≤ 256 := Nat.le_trans (Nat.pow_le_pow_right (by decide) (show n ≤ 8 by omega)) (by decide)
  have hp0 : 0 < 2 ^ n := Nat.pow_pos (by decide)
  have d1 : decide (((2 ^ n : Nat) : Int) > 0) = true := decide_eq_true (by omega)
  have hq : 2 ^ (n + 1) = 2 * 2 ^ n := by rw [Nat.pow_succ, Nat.mul_comm]
  generalize hP : 2 ^ n = Q at *
  have w1 : IntKind.i64.wrap ((n : Int) + 1) = ((n + 1 : Nat) : Int) := by rw [wrap64 (by omega) (by omega)]; omega
  have w2 : IntKind.i64.wrap (2 * (Q : Int)) = ((2 ^ (n + 1) : Nat) : Int) := by rw [wrap64 (by omega) (by omega), hq]; omega
  by_cases hlt : n < tR (x : Int)
  · obtain ⟨s1, s2⟩ := hs.2 hlt
    have d2 : decide ((Q : Int) ≤ (x : Int)) = true := decide_eq_true (by omega)
    have d3 : (Int.tmod (x : Int) (Q : Int) == 0) = true := by rw [← Int.ofNat_tmod, s2]; rfl
    refine qT ?_; repeat' (first | (with_reducible first | apply qJ | apply qB) | ((first | (with_reducible apply qS) | (with_reducible first | apply qA | apply qP | apply qD | apply qE | apply qK) | ((with_reducible first | apply qQ | apply qH | apply qI) <;> intro hb <;> (try simp only [hb]) <;> (try simp only [zB] at hb))) <;> try simp only [qY, qF, qM, qO, qG, qC, qN, reduceIte, seval, Int.cast_ofNat_Int, qZ, zA, wJ, qG8, d1, d2, d3, w1, w2]))
    refine ⟨by omega, ?_⟩
    refine qT ?_; repeat' (first | (with_reducible first | apply qJ | apply qB) | ((first | (with_reducible apply qS) | (with_reducible first | apply qA | apply qP | apply qD | apply qE | apply qK) | ((with_reducible first | apply qQ | apply qH | apply qI) <;> intro hb <;> (try simp only [hb]) <;> (try simp only [zB] at hb))) <;> try simp only [qY, qF, qM, qO, qG, qC, qN, reduceIte, seval, Int.cast_ofNat_Int, qZ, zA, wJ, qG8, d1, d2, d3, w1, w2]))
    exact ⟨_, n + 1, by omega, (by simp only [List.forall_mem_cons, List.not_mem_nil, false_implies, implies_true, List.map, List.cons_append, List.nil_append, lk, Nat.reduceEqDiff, reduceIte, and_true, true_and]), rfl, by omega⟩
  · have en : n = tR (x : Int) := by omega
    by_cases hle : Q ≤ x
    · have s2 : ¬ x % Q = 0 := fun h => hlt (hs.1 ⟨hle, h⟩)
      have d2 : decide ((Q : Int) ≤ (x : Int)) = true := decide_eq_true (by omega)
      have d3 : (Int.tmod (x : Int) (Q : Int) == 0) = false := by
        rw [beq_eq_false_iff_ne, ← Int.ofNat_tmod]
        intro h; exact s2 (by exact_mod_cast h)
      refine qT ?_; repeat' (first | (with_reducible first | apply qJ | apply qB) | ((first | (with_reducible apply qS) | (with_reducible first | apply qA | apply qP | apply qD | apply qE | apply qK) | ((with_reducible first | apply qQ | apply qH | apply qI) <;> intro hb <;> (try simp only [hb]) <;> (try simp only [zB] at hb))) <;> try simp only [qY, qF, qM, qO, qG, qC, qN, reduceIte, seval, Int.cast_ofNat_Int, qZ, zA, wJ, qG8, d1, d2, d3, w1, w2]))
      refine ⟨by omega, ?_⟩
      refine qT ?_; repeat' (first | (with_reducible first | apply qJ | apply qB) | ((first | (with_reducible apply qS) | (with_reducible first | apply qA | apply qP | apply qD | apply qE | apply qK) | ((with_reducible first | apply qQ | apply qH | apply qI) <;> intro hb <;> (try simp only [hb]) <;> (try simp only [zB] at hb))) <;> try simp only [qY, qF, qM, qO, qG, qC, qN, reduceIte, seval, Int.cast_ofNat_Int, qZ, zA, wJ, qG8, d1, d2, d3, w1, w2]))
      rw [en]
    · have d2 : decide ((Q : Int) ≤ (x : Int)) = false := decide_eq_false (by omega)
      refine qT ?_; repeat' (first | (with_reducible first | apply qJ | apply qB) | ((first | (with_reducible apply qS) | (with_reducible first | apply qA | apply qP | apply qD | apply qE | apply qK) | ((with_reducible first | apply qQ | apply qH | apply qI) <;> intro hb <;> (try simp only [hb]) <;> (try simp only [zB] at hb))) <;> try simp only [qY, qF, qM, qO, qG, qC, qN, reduceIte, seval, Int.cast_ofNat_Int, qZ, zA, wJ, qG8, d1, d2, w1, w2]))
      rw [en]
theorem uK : type_of% (And.intro zX (And.intro yU (And.intro fA (And.intro wJ (And.intro wS rs42))))) := And.intro zX (And.intro yU (And.intro fA (And.intro wJ (And.intro wS rs42))))
def wG : Nat → List (Nat × List Nat) × List Nat
  | 1 => ([(0, []), (1, []), (2, []), (3, []), (4, []), (5, []), (6, []), (7, []), (8, []), (9, []), (10, []), (11, []), (12, []), (13, []), (14, []), (15, []), (16, []), (17, []), (18, []), (19, []), (20, []), (21, []), (22, []), (23, []), (24, []), (25, []), (26, []), (27, []), (28, []), (29, []), (30, []), (31, []), (32, []), (33, []), (34, []), (35, []), (36, []), (37, []), (38, []), (39, []), (40, []), (41, []), (42, []), (43, []), (44, []), (45, []), (46, []), (47, []), (48, []), (49, []), (50, []), (51, []), (52, []), (53, []), (54, []), (55, []), (56, [52, 53]), (57, []), (58, [])], [0, 1, 3, 7, 15, 31, 63, 127, 255, 511, 1023, 2047, 4095, 8191, 16383, 32767, 65535, 131071, 262143, 524287, 1048575, 2097151, 4194303, 8388607, 16777215, 33554431, 67108863, 134217727, 268435455, 536870911, 1073741823, 2147483647, 4294967295, 8589934591, 17179869183, 34359738367, 68719476735, 137438953471, 274877906943, 549755813887, 137438953471, 2199023255551, 4398046511103, 8796093022207, 17592186044415, 35184372088831, 70368744177663, 17592186044415, 281474976710655, 562949953421311, 1125899906842623, 2251799813685247, 4503599627370495, 9007199254740991, 2251799813685247, 20266198323167231, 56294995342131199, 144115188075855871, 288230376151711743])
  | _ => ([], [])
theorem c_rCan (N : Nat) (h : GH) {size : Int} {cs : List Value} {x : Rc} (q : RRc h cs x) (hl : x.lk.length ≤ 100000000) : GTri Tryd.prog N 42 [.int .i64 size, .agg cs.toArray] h fun v h' => v = .bool (mD size x) ∧ HS h h' := by
  obtain ⟨a1, c1, a2, c2, a3, c3, rfl, r1, r2, r3⟩ := q
  generalize hc : mD size x = b
  obtain ⟨ep, tm, cn, tr, ls, ll⟩ := x
  simp only at r1 r2 r3 hl
  simp only [mD, canN] at hc
  refine xW Tryd.func42 rfl gf42 ok42 (by simp [Tryd.ntmps42]) ?_
  repeat' (first | (with_reducible first | apply qJ | apply qB) | ((first | (with_reducible first | apply qA | apply qP | apply qD | apply qE | apply qK) | ((with_reducible first | apply qQ | apply qH | apply qI | apply zF | apply zG) <;> intro hb <;> (try simp only [hb]) <;> (try simp only [zB] at hb)) | with_reducible refine qR wG qX (by kernel_rfl) ?_) <;> try simp only [qY, qF, qM, qO, qG, qC, qN, reduceIte, seval, Int.cast_ofNat_Int, qZ, zA, qV, zS, zU, zV, uK, wG, Rc.cs]))
  refine vD rfl fun k1 h1 m1 s1 f1 n1 => ?_
  refine qT ?_; repeat' (first | (with_reducible first | apply qJ | apply qB) | ((first | (with_reducible apply qS) | (with_reducible first | apply qA | apply qP | apply qD | apply qE | apply qK) | ((with_reducible first | apply qQ | apply qH | apply qI | apply zF | apply zG) <;> intro hb <;> (try simp only [hb]) <;> (try simp only [zB] at hb)) | with_reducible refine qR wG qX (by kernel_rfl) ?_ | ((refine GTri.mono (c_rLinks _ _ (by omega) (by omega)) ?_); rintro _ _ ⟨rfl, hh9⟩; replace hh9 := hh9.symm; subst hh9)) <;> try simp only [qY, qF, qM, qO, qG, qC, qN, reduceIte, seval, Int.cast_ofNat_Int, qZ, zA, qV, zS, zU, zV, uK, wG, qL m1 xU, qL m1 zI, qL m1 rC]))
  all_goals first
    | (refine ⟨?_, s1⟩; rw [← hc]; refine congrArg Value.bool (Eq.symm ?_); rw [Bool.eq_false_iff]; intro hh; simp only [Bool.and_eq_true, decide_eq_true_eq, beq_iff_eq, mH, List.all_cons, List.all_nil, Bool.and_true] at hh; omega)
    | skip
  rename_i b1 b2 b3 b4 b5 b6 b7 b8 b9 b10
  have hd : ((ll.length : Int) == (tR ep : Int)) = true := by rw [beq_iff_eq]; exact hb
  have hs : mH size [tr, ls] = true := by simp [mH, b9, b10]
  rw [decide_eq_true (by omega), decide_eq_true (by omega), decide_eq_true (by omega), decide_eq_true (by omega), hs, hd] at hc
  simp only [Bool.true_and] at hc
  have r3' := RL.hcR (R := RBc) r3 s1.hc fun _ _ q => q.keep (.hs s1)
  refine qT ?_; repeat' (first | (with_reducible first | apply qJ | apply qB) | ((first | (with_reducible apply qS) | (with_reducible first | apply qA | apply qP | apply qD | apply qE | apply qK) | ((with_reducible first | apply qQ | apply qH | apply qI | apply zF | apply zG) <;> intro hb <;> (try simp only [hb]) <;> (try simp only [zB] at hb)) | with_reducible refine qR wG qX (by kernel_rfl) ?_) <;> try simp only [qY, qF, qM, qO, qG, qC, qN, reduceIte, seval, Int.cast_ofNat_Int, qZ, zA, qV, zS, zU, zV, uK, wG, qL m1 rC]))
  refine zZ [0, 67, 68] (fun (i : Nat) => [(69, .int .i64 (i : Int))]) (fun q i h' => ll.length - i = q ∧ i ≤ ll.length ∧ h1 = h' ∧ mH size (ll.take i) = true) ll.length 0 (by simp [lk]) ⟨rfl, by omega, rfl, rfl⟩ ?_
  rintro _ j _ ⟨rfl, hj, rfl, hz⟩
  by_cases hil : j < ll.length
  case neg =>
    have d3 : decide ((j : Int) < (ll.length : Int)) = false := decide_eq_false (by omega)
    obtain rfl : j = ll.length := by omega
    rw [List.take_length] at hz
    refine qT ?_; repeat' (first | (with_reducible first | apply qJ | apply qB) | ((first | (with_reducible apply qS) | (with_reducible first | apply qA | apply qP | apply qD | apply qE | apply qK) | ((with_reducible first | apply qQ | apply qH | apply qI | apply zF | apply zG) <;> intro hb <;> (try simp only [hb]) <;> (try simp only [zB] at hb)) | with_reducible refine qR wG qX (by kernel_rfl) ?_) <;> try simp only [qY, qF, qM, qO, qG, qC, qN, reduceIte, seval, Int.cast_ofNat_Int, qZ, zA, qV, zS, zU, zV, uK, wG, d3]))
    rw [← hc, hz]
    exact ⟨rfl, s1⟩
  have d3 : decide ((j : Int) < (ll.length : Int)) = true := decide_eq_true (by omega)
  have wi : IntKind.i64.wrap ((j : Int) + 1) = ((j + 1 : Nat) : Int) := by rw [wrap64 (by omega) (by omega)]; omega
  obtain ⟨x, hx⟩ : ∃ x, ll[j]? = some x := ⟨_, List.getElem?_eq_getElem hil⟩
  obtain ⟨ad, cs2, g1, g2, a', c', rfl, p1⟩ := RL.at (P := Tryd.prog) r3' Tryd.underlying62 zI hx
  by_cases hss : (x.length : Int) = size
  · have d4 : ((x.length : Int) != size) = false := by simpa using hss
    refine qT ?_; repeat' (first | (with_reducible first | apply qJ | apply qB) | ((first | (with_reducible apply qS) | (with_reducible first | apply qA | apply qP | apply qD | apply qE | apply qK) | ((with_reducible first | apply qQ | apply qH | apply qI | apply zF | apply zG) <;> intro hb <;> (try simp only [hb]) <;> (try simp only [zB] at hb)) | with_reducible refine qR wG qX (by kernel_rfl) ?_) <;> try simp only [qY, qF, qM, qO, qG, qC, qN, reduceIte, seval, Int.cast_ofNat_Int, qZ, zA, qV, zS, zU, zV, uK, wG, d3, g1, wP zI g2, d4, wi]))
    have e : mH size (ll.take (j + 1)) = (mH size (ll.take j) && ((x.length : Int) == size)) := by simp [mH, List.take_add_one, hx]
    rw [hz] at e
    refine ⟨_, j + 1, by omega, (by simp only [List.forall_mem_cons, List.not_mem_nil, false_implies, implies_true, List.map, List.cons_append, List.nil_append, lk, Nat.reduceEqDiff, reduceIte, and_true, true_and]), rfl, by omega, ?_⟩
    rw [e]; simpa using hss
  · have d4 : ((x.length : Int) != size) = true := by simpa using hss
    have hf : mH size ll = false := by
      unfold mH
      rw [List.all_eq_false]
      exact ⟨x, List.mem_of_getElem? hx, by simpa using hss⟩
    refine qT ?_; repeat' (first | (with_reducible first | apply qJ | apply qB) | ((first | (with_reducible apply qS) | (with_reducible first | apply qA | apply qP | apply qD | apply qE | apply qK) | ((with_reducible first | apply qQ | apply qH | apply qI | apply zF | apply zG) <;> intro hb <;> (try simp only [hb]) <;> (try simp only [zB] at hb)) | with_reducible refine qR wG qX (by kernel_rfl) ?_) <;> try simp only [qY, qF, qM, qO, qG, qC, qN, reduceIte, seval, Int.cast_ofNat_Int, qZ, zA, qV, zS, zU, zV, uK, wG, d3, g1, wP zI g2, d4]))
    rw [← hc, hf]
    exact ⟨rfl, s1⟩
theorem wX : type_of% (And.intro zX (And.intro yU (And.intro fA (And.intro wJ (And.intro gO (And.intro wS rs31)))))) := And.intro zX (And.intro yU (And.intro fA (And.intro wJ (And.intro gO (And.intro wS rs31)))))
theorem wW : type_of% (And.intro zX (And.intro yU (And.intro fA (And.intro wJ (And.intro gO (And.intro wS rs36)))))) := And.intro zX (And.intro yU (And.intro fA (And.intro wJ (And.intro gO (And.intro wS rs36)))))
def xC : Nat → List (Nat × List Nat) × List Nat
  | 3 => ([(0, []), (1, []), (3, []), (4, []), (2, [4]), (5, []), (6, [])], [0, 1, 3, 0, 8, 31, 63])
  | 4 => ([(0, []), (1, []), (2, []), (4, []), (5, []), (3, [5]), (6, []), (7, [])], [0, 0, 2, 7, 0, 16, 63, 127])
  | _ => ([], [])
theorem c_REnc (N : Nat) {h : GH} (tb : TBd h) {size : Int} (hw : (Lit.int .i64 size).wf = true) {cs : List Value} {x : Rc} (q : RRc h cs x) (hl : 10 * x.bulk ≤ 300000000) : GTri Tryd.prog N 31 [.int .i64 size, .agg cs.toArray] h fun v h' => HS h h' ∧ ∃ a c e, v = .tuple #[.slice a (jJ size x).length c, e] ∧ RB h' (.slice a (jJ size x).length c) (jJ size x) := by
  have q0 := q
  have hb : x.bulk = x.tr.length + x.ls.length + jS x.lk + 6 := rfl
  have hlk : x.lk.length ≤ jS x.lk := wL _ (fun y => Nat.le_add_left _ _) x.lk
  have hfl : (x.lk.flatMap wby).length ≤ 9 * jS x.lk := vU wby (fun x => x.length + 1) gZ x.lk
  obtain ⟨a1, c1, a2, c2, a3, c3, rfl, r1, r2, r3⟩ := q
  generalize hw' : jJ size x = w
  obtain ⟨ep, tm, cn, tr, ls, ll⟩ := x
  simp only at r1 r2 r3 hb hlk hfl
  rw [hb] at hl
  have g1 := qW ep
  have g2 := qW tm
  have g3 := qW cn
  have g4 := qW tr.length
  have g5 := qW ls.length
  refine xW Tryd.func31 rfl gf31 ok31 (by simp [Tryd.ntmps31]) ?_
  repeat' (first | (with_reducible first | apply qJ | apply qB) | ((first | (with_reducible first | apply qA | apply qP | apply qD | apply qE | apply qK) | ((with_reducible first | apply qQ | apply qH | apply qI) <;> intro hb <;> (try simp only [hb]) <;> (try simp only [zB] at hb))) <;> try simp only [qY, qF, qM, qO, qG, qC, qN, reduceIte, seval, Int.cast_ofNat_Int, qZ, zA, wX, Rc.cs]))
  refine vD rfl fun k1 h1 m1 s1 f1 n1 => ?_
  have gA := vA m1 rQ rfl
  refine qT ?_; repeat' (first | (with_reducible first | apply qJ | apply qB) | ((first | (with_reducible apply qS) | (with_reducible first | apply qA | apply qP | apply qD | apply qE | apply qK) | ((with_reducible first | apply qQ | apply qH | apply qI) <;> intro hb <;> (try simp only [hb]) <;> (try simp only [zB] at hb))) <;> try simp only [qY, qF, qM, qO, qG, qC, qN, reduceIte, seval, Int.cast_ofNat_Int, qZ, zA, wX, gA]))
  refine (c_RCan N (tb.hs s1) hw (q0.keep (.hs s1)) (by simp only; omega)).mono ?_
  rintro _ h2 ⟨rfl, s2⟩
  have m2 := s2 _ _ m1
  have t2 := s1.trans s2
  cases hc : mD size ⟨ep, tm, cn, tr, ls, ll⟩
  · refine qT ?_; repeat' (first | (with_reducible first | apply qJ | apply qB) | ((first | (with_reducible apply qS) | (with_reducible first | apply qA | apply qP | apply qD | apply qE | apply qK) | ((with_reducible first | apply qQ | apply qH | apply qI) <;> intro hb <;> (try simp only [hb]) <;> (try simp only [zB] at hb))) <;> try simp only [qY, qF, qM, qO, qG, qC, qN, reduceIte, seval, Int.cast_ofNat_Int, qZ, zA, wX]))
    rw [← hw', jJ, hc, if_neg (by decide)]
    exact ⟨t2, none, 0, _, rfl, RB.nil _⟩
  rw [jJ, hc, if_pos rfl] at hw'
  refine qT ?_; repeat' (first | (with_reducible first | apply qJ | apply qB) | ((first | (with_reducible apply qS) | (with_reducible first | apply qA | apply qP | apply qD | apply qE | apply qK) | ((with_reducible first | apply qQ | apply qH | apply qI) <;> intro hb <;> (try simp only [hb]) <;> (try simp only [zB] at hb))) <;> try simp only [qY, qF, qM, qO, qG, qC, qN, reduceIte, seval, Int.cast_ofNat_Int, qZ, zA, wX, qL m2 xU, qL m2 zI]))
  refine (yK N h2 (RB.nil h2) (by simp) ep).mono ?_
  rintro _ h3 ⟨s3, o3⟩
  obtain ⟨b3, d3, rfl⟩ := o3.form
  have m3 := s3 _ _ m2
  have t3 := t2.trans s3
  refine qT ?_; repeat' (first | (with_reducible first | apply qJ | apply qB) | ((first | (with_reducible apply qS) | (with_reducible first | apply qA | apply qP | apply qD | apply qE | apply qK) | ((with_reducible first | apply qQ | apply qH | apply qI) <;> intro hb <;> (try simp only [hb]) <;> (try simp only [zB] at hb))) <;> try simp only [qY, qF, qM, qO, qG, qC, qN, reduceIte, seval, Int.cast_ofNat_Int, qZ, zA, wX, qL m2 xU, qL m2 zI, qL m3 xU, qL m3 zI]))
  refine (yK N h3 o3.rb (by simp only [List.length_append, List.length_nil]; omega) tm).mono ?_
  rintro _ h4 ⟨s4, o4⟩
  obtain ⟨b4, d4, rfl⟩ := o4.form
  have m4 := s4 _ _ m3
  have t4 := t3.trans s4
  refine qT ?_; repeat' (first | (with_reducible first | apply qJ | apply qB) | ((first | (with_reducible apply qS) | (with_reducible first | apply qA | apply qP | apply qD | apply qE | apply qK) | ((with_reducible first | apply qQ | apply qH | apply qI) <;> intro hb <;> (try simp only [hb]) <;> (try simp only [zB] at hb))) <;> try simp only [qY, qF, qM, qO, qG, qC, qN, reduceIte, seval, Int.cast_ofNat_Int, qZ, zA, wX, qL m3 xU, qL m3 zI, qL m4 xU, qL m4 zI]))
  refine (jD N h4 o4.rb (r1.hs t4) (by simp only [List.length_append, List.length_nil]; omega)).mono ?_
  rintro _ h5 ⟨s5, o5⟩
  obtain ⟨b5, d5, rfl⟩ := o5.form
  have m5 := s5 _ _ m4
  have t5 := t4.trans s5
  refine qT ?_; repeat' (first | (with_reducible first | apply qJ | apply qB) | ((first | (with_reducible apply qS) | (with_reducible first | apply qA | apply qP | apply qD | apply qE | apply qK) | ((with_reducible first | apply qQ | apply qH | apply qI) <;> intro hb <;> (try simp only [hb]) <;> (try simp only [zB] at hb))) <;> try simp only [qY, qF, qM, qO, qG, qC, qN, reduceIte, seval, Int.cast_ofNat_Int, qZ, zA, wX, qL m4 xU, qL m4 zI, qL m5 xU, qL m5 zI]))
  refine (yK N h5 o5.rb (by simp only [List.length_append, List.length_nil]; omega) cn).mono ?_
  rintro _ h6 ⟨s6, o6⟩
  obtain ⟨b6, d6, rfl⟩ := o6.form
  have m6 := s6 _ _ m5
  have t6 := t5.trans s6
  refine qT ?_; repeat' (first | (with_reducible first | apply qJ | apply qB) | ((first | (with_reducible apply qS) | (with_reducible first | apply qA | apply qP | apply qD | apply qE | apply qK) | ((with_reducible first | apply qQ | apply qH | apply qI) <;> intro hb <;> (try simp only [hb]) <;> (try simp only [zB] at hb))) <;> try simp only [qY, qF, qM, qO, qG, qC, qN, reduceIte, seval, Int.cast_ofNat_Int, qZ, zA, wX, qL m5 xU, qL m5 zI, qL m6 xU, qL m6 zI]))
  refine (jD N h6 o6.rb (r2.hs t6) (by simp only [List.length_append, List.length_nil]; omega)).mono ?_
  rintro _ h7 ⟨s7, o7⟩
  obtain ⟨b7, d7, rfl⟩ := o7.form
  have m7 := s7 _ _ m6
  have t7 := t6.trans s7
  obtain ⟨W, hW⟩ : ∃ W : Nat → List UInt8, ∀ i, W i = [] ++ qU ep ++ qU tm ++ qU tr.length ++ tr ++ qU cn ++ qU ls.length ++ ls ++ (ll.take i).flatMap wby := ⟨_, fun _ => rfl⟩
  have w0 : [] ++ qU ep ++ qU tm ++ qU tr.length ++ tr ++ qU cn ++ qU ls.length ++ ls = W 0 := by rw [hW]; simp
  have wl : ∀ i, (W i).length ≤ 45 + tr.length + ls.length + 9 * jS ll := fun i => by
    have := vP wby ll i
    rw [hW]; simp only [List.length_append, List.length_nil]; omega
  have rb7 := o7.rb
  rw [w0] at rb7
  simp only [w0]
  have q7 := RL.hcR (R := RBc) r3 t7.hc fun _ _ q => q.keep (.hs t7)
  refine qT ?_; repeat' (first | (with_reducible first | apply qJ | apply qB) | ((first | (with_reducible apply qS) | (with_reducible first | apply qA | apply qP | apply qD | apply qE | apply qK) | ((with_reducible first | apply qQ | apply qH | apply qI) <;> intro hb <;> (try simp only [hb]) <;> (try simp only [zB] at hb))) <;> try simp only [qY, qF, qM, qO, qG, qC, qN, reduceIte, seval, Int.cast_ofNat_Int, qZ, zA, wX, qL m7 rC]))
  refine zZ [4, 5, 33, 34] (fun (y : Nat × (Option Addr × Nat)) => [(6, .slice y.2.1 (W y.1).length y.2.2), (35, .int .i64 (y.1 : Int))]) (fun q y h' => ll.length - y.1 = q ∧ y.1 ≤ ll.length ∧ HS h7 h' ∧ RB h' (.slice y.2.1 (W y.1).length y.2.2) (W y.1)) ll.length (0, b7, d7) (by simp [lk]) ⟨rfl, by omega, HS.refl _, rb7⟩ ?_
  rintro _ ⟨j, b8, d8⟩ h8 ⟨rfl, hj, s8, r8⟩
  simp only at hj r8
  have wj := wl j
  by_cases hil : j < ll.length
  case neg =>
    have d4 : decide ((j : Int) < (ll.length : Int)) = false := decide_eq_false (by omega)
    obtain rfl : j = ll.length := by omega
    refine qT ?_; repeat' (first | (with_reducible first | apply qJ | apply qB) | ((first | (with_reducible apply qS) | (with_reducible first | apply qA | apply qP | apply qD | apply qE | apply qK) | ((with_reducible first | apply qQ | apply qH | apply qI) <;> intro hb <;> (try simp only [hb]) <;> (try simp only [zB] at hb))) <;> try simp only [qY, qF, qM, qO, qG, qC, qN, reduceIte, seval, Int.cast_ofNat_Int, qZ, zA, wX, d4]))
    have e : W ll.length = w := by rw [← hw', hW, List.take_length]; simp only [wby, List.append_assoc, List.nil_append]
    rw [e] at r8 ⊢
    exact ⟨t7.trans s8, b8, d8, _, rfl, r8⟩
  have d4 : decide ((j : Int) < (ll.length : Int)) = true := decide_eq_true (by omega)
  have wi : IntKind.i64.wrap ((j : Int) + 1) = ((j + 1 : Nat) : Int) := by rw [wrap64 (by omega) (by omega)]; omega
  obtain ⟨y, hy⟩ : ∃ y, ll[j]? = some y := ⟨_, List.getElem?_eq_getElem hil⟩
  have q8 := RL.hcR (R := RBc) q7 s8.hc fun _ _ q => q.keep (.hs s8)
  obtain ⟨ad, cs2, e1, e2, a', c', rfl, p1⟩ := RL.at (P := Tryd.prog) q8 Tryd.underlying62 zI hy
  have wj1 := wl (j + 1)
  have ww : W (j + 1) = W j ++ qU y.length ++ y := by rw [hW, hW, xN wby ll hy, wby]; simp only [List.append_assoc]
  rw [ww] at wj1
  simp only [List.length_append] at wj1
  refine qT ?_; repeat' (first | (with_reducible first | apply qJ | apply qB) | ((first | (with_reducible apply qS) | (with_reducible first | apply qA | apply qP | apply qD | apply qE | apply qK) | ((with_reducible first | apply qQ | apply qH | apply qI) <;> intro hb <;> (try simp only [hb]) <;> (try simp only [zB] at hb))) <;> try simp only [qY, qF, qM, qO, qG, qC, qN, reduceIte, seval, Int.cast_ofNat_Int, qZ, zA, wX, d4, e1, wP zI e2]))
  refine (jD N h8 r8 p1 (by omega)).mono ?_
  rintro _ h9 ⟨s9, o9⟩
  rw [← ww] at o9
  obtain ⟨b9, d9, rfl⟩ := o9.form
  refine qT ?_; repeat' (first | (with_reducible first | apply qJ | apply qB) | ((first | (with_reducible apply qS) | (with_reducible first | apply qA | apply qP | apply qD | apply qE | apply qK) | ((with_reducible first | apply qQ | apply qH | apply qI) <;> intro hb <;> (try simp only [hb]) <;> (try simp only [zB] at hb))) <;> try simp only [qY, qF, qM, qO, qG, qC, qN, reduceIte, seval, Int.cast_ofNat_Int, qZ, zA, wX, wi]))
  exact ⟨_, (j + 1, b9, d9), by omega, (by simp only [List.forall_mem_cons, List.not_mem_nil, false_implies, implies_true, List.map, List.cons_append, List.nil_append, lk, Nat.reduceEqDiff, reduceIte, and_true, true_and]), rfl, by omega, s8.trans s9, o9.rb⟩
theorem c_rREnc (N : Nat) {h : GH} {size : Int} {cs : List Value} {x : Rc} (q : RRc h cs x) (hl : 10 * x.bulk ≤ 300000000) : GTri Tryd.prog N 36 [.int .i64 size, .agg cs.toArray] h fun v h' => HS h h' ∧ ∃ a c e, v = .tuple #[.slice a (jJ size x).length c, e] ∧ RB h' (.slice a (jJ size x).length c) (jJ size x) := by
  have q0 := q
  have hb : x.bulk = x.tr.length + x.ls.length + jS x.lk + 6 := rfl
  have hlk : x.lk.length ≤ jS x.lk := wL _ (fun y => Nat.le_add_left _ _) x.lk
  have hfl : (x.lk.flatMap wby).length ≤ 9 * jS x.lk := vU wby (fun x => x.length + 1) gZ x.lk
  obtain ⟨a1, c1, a2, c2, a3, c3, rfl, r1, r2, r3⟩ := q
  generalize hw' : jJ size x = w
  obtain ⟨ep, tm, cn, tr, ls, ll⟩ := x
  simp only at r1 r2 r3 hb hlk hfl
  rw [hb] at hl
  have g1 := qW ep
  have g2 := qW tm
  have g3 := qW cn
  have g4 := qW tr.length
  have g5 := qW ls.length
  refine xW Tryd.func36 rfl gf36 ok36 (by simp [Tryd.ntmps36]) ?_
  repeat' (first | (with_reducible first | apply qJ | apply qB) | ((first | (with_reducible first | apply qA | apply qP | apply qD | apply qE | apply qK) | ((with_reducible first | apply qQ | apply qH | apply qI | apply zF | apply zG) <;> intro hb <;> (try simp only [hb]) <;> (try simp only [zB] at hb)) | with_reducible refine qR xC qX (by kernel_rfl) ?_) <;> try simp only [qY, qF, qM, qO, qG, qC, qN, reduceIte, seval, Int.cast_ofNat_Int, qZ, zA, qV, zS, zU, zV, wW, xC, Rc.cs]))
  refine vD rfl fun k1 h1 m1 s1 f1 n1 => ?_
  have gA := vA m1 rQ rfl
  refine qT ?_; repeat' (first | (with_reducible first | apply qJ | apply qB) | ((first | (with_reducible apply qS) | (with_reducible first | apply qA | apply qP | apply qD | apply qE | apply qK) | ((with_reducible first | apply qQ | apply qH | apply qI | apply zF | apply zG) <;> intro hb <;> (try simp only [hb]) <;> (try simp only [zB] at hb)) | with_reducible refine qR xC qX (by kernel_rfl) ?_) <;> try simp only [qY, qF, qM, qO, qG, qC, qN, reduceIte, seval, Int.cast_ofNat_Int, qZ, zA, qV, zS, zU, zV, wW, xC, gA]))
  refine (c_rCan N h1 (q0.keep (.hs s1)) (by simp only; omega)).mono ?_
  rintro _ h2 ⟨rfl, s2⟩
  have m2 := s2 _ _ m1
  have t2 := s1.trans s2
  cases hc : mD size ⟨ep, tm, cn, tr, ls, ll⟩
  · refine qT ?_; repeat' (first | (with_reducible first | apply qJ | apply qB) | ((first | (with_reducible apply qS) | (with_reducible first | apply qA | apply qP | apply qD | apply qE | apply qK) | ((with_reducible first | apply qQ | apply qH | apply qI | apply zF | apply zG) <;> intro hb <;> (try simp only [hb]) <;> (try simp only [zB] at hb)) | with_reducible refine qR xC qX (by kernel_rfl) ?_) <;> try simp only [qY, qF, qM, qO, qG, qC, qN, reduceIte, seval, Int.cast_ofNat_Int, qZ, zA, qV, zS, zU, zV, wW, xC]))
    rw [← hw', jJ, hc, if_neg (by decide)]
    exact ⟨t2, none, 0, _, rfl, RB.nil _⟩
  rw [jJ, hc, if_pos rfl] at hw'
  refine qT ?_; repeat' (first | (with_reducible first | apply qJ | apply qB) | ((first | (with_reducible apply qS) | (with_reducible first | apply qA | apply qP | apply qD | apply qE | apply qK) | ((with_reducible first | apply qQ | apply qH | apply qI | apply zF | apply zG) <;> intro hb <;> (try simp only [hb]) <;> (try simp only [zB] at hb)) | with_reducible refine qR xC qX (by kernel_rfl) ?_) <;> try simp only [qY, qF, qM, qO, qG, qC, qN, reduceIte, seval, Int.cast_ofNat_Int, qZ, zA, qV, zS, zU, zV, wW, xC, qL m2 xU, qL m2 zI]))
  refine (xA N h2 (RB.nil h2) (by simp) ep).mono ?_
  rintro _ h3 ⟨s3, o3⟩
  obtain ⟨b3, d3, rfl⟩ := o3.form
  have m3 := s3 _ _ m2
  have t3 := t2.trans s3
  refine qT ?_; repeat' (first | (with_reducible first | apply qJ | apply qB) | ((first | (with_reducible apply qS) | (with_reducible first | apply qA | apply qP | apply qD | apply qE | apply qK) | ((with_reducible first | apply qQ | apply qH | apply qI | apply zF | apply zG) <;> intro hb <;> (try simp only [hb]) <;> (try simp only [zB] at hb)) | with_reducible refine qR xC qX (by kernel_rfl) ?_) <;> try simp only [qY, qF, qM, qO, qG, qC, qN, reduceIte, seval, Int.cast_ofNat_Int, qZ, zA, qV, zS, zU, zV, wW, xC, qL m2 xU, qL m2 zI, qL m3 xU, qL m3 zI]))
  refine (xA N h3 o3.rb (by simp only [List.length_append, List.length_nil]; omega) tm).mono ?_
  rintro _ h4 ⟨s4, o4⟩
  obtain ⟨b4, d4, rfl⟩ := o4.form
  have m4 := s4 _ _ m3
  have t4 := t3.trans s4
  refine qT ?_; repeat' (first | (with_reducible first | apply qJ | apply qB) | ((first | (with_reducible apply qS) | (with_reducible first | apply qA | apply qP | apply qD | apply qE | apply qK) | ((with_reducible first | apply qQ | apply qH | apply qI | apply zF | apply zG) <;> intro hb <;> (try simp only [hb]) <;> (try simp only [zB] at hb)) | with_reducible refine qR xC qX (by kernel_rfl) ?_) <;> try simp only [qY, qF, qM, qO, qG, qC, qN, reduceIte, seval, Int.cast_ofNat_Int, qZ, zA, qV, zS, zU, zV, wW, xC, qL m3 xU, qL m3 zI, qL m4 xU, qL m4 zI]))
  refine (wA N h4 o4.rb (r1.hs t4) (by simp only [List.length_append, List.length_nil]; omega)).mono ?_
  rintro _ h5 ⟨s5, o5⟩
  obtain ⟨b5, d5, rfl⟩ := o5.form
  have m5 := s5 _ _ m4
  have t5 := t4.trans s5
  refine qT ?_; repeat' (first | (with_reducible first | apply qJ | apply qB) | ((first | (with_reducible apply qS) | (with_reducible first | apply qA | apply qP | apply qD | apply qE | apply qK) | ((with_reducible first | apply qQ | apply qH | apply qI | apply zF | apply zG) <;> intro hb <;> (try simp only [hb]) <;> (try simp only [zB] at hb)) | with_reducible refine qR xC qX (by kernel_rfl) ?_) <;> try simp only [qY, qF, qM, qO, qG, qC, qN, reduceIte, seval, Int.cast_ofNat_Int, qZ, zA, qV, zS, zU, zV, wW, xC, qL m4 xU, qL m4 zI, qL m5 xU, qL m5 zI]))
  refine (xA N h5 o5.rb (by simp only [List.length_append, List.length_nil]; omega) cn).mono ?_
  rintro _ h6 ⟨s6, o6⟩
  obtain ⟨b6, d6, rfl⟩ := o6.form
  have m6 := s6 _ _ m5
  have t6 := t5.trans s6
  refine qT ?_; repeat' (first | (with_reducible first | apply qJ | apply qB) | ((first | (with_reducible apply qS) | (with_reducible first | apply qA | apply qP | apply qD | apply qE | apply qK) | ((with_reducible first | apply qQ | apply qH | apply qI | apply zF | apply zG) <;> intro hb <;> (try simp only [hb]) <;> (try simp only [zB] at hb)) | with_reducible refine qR xC qX (by kernel_rfl) ?_) <;> try simp only [qY, qF, qM, qO, qG, qC, qN, reduceIte, seval, Int.cast_ofNat_Int, qZ, zA, qV, zS, zU, zV, wW, xC, qL m5 xU, qL m5 zI, qL m6 xU, qL m6 zI]))
  refine (wA N h6 o6.rb (r2.hs t6) (by simp only [List.length_append, List.length_nil]; omega)).mono ?_
  rintro _ h7 ⟨s7, o7⟩
  obtain ⟨b7, d7, rfl⟩ := o7.form
  have m7 := s7 _ _ m6
  have t7 := t6.trans s7
  obtain ⟨W, hW⟩ : ∃ W : Nat → List UInt8, ∀ i, W i = [] ++ qU ep ++ qU tm ++ qU tr.length ++ tr ++ qU cn ++ qU ls.length ++ ls ++ (ll.take i).flatMap wby := ⟨_, fun _ => rfl⟩
  have w0 : [] ++ qU ep ++ qU tm ++ qU tr.length ++ tr ++ qU cn ++ qU ls.length ++ ls = W 0 := by rw [hW]; simp
  have wl : ∀ i, (W i).length ≤ 45 + tr.length + ls.length + 9 * jS ll := fun i => by
    have := vP wby ll i
    rw [hW]; simp only [List.length_append, List.length_nil]; omega
  have rb7 := o7.rb
  rw [w0] at rb7
  simp only [w0]
  have q7 := RL.hcR (R := RBc) r3 t7.hc fun _ _ q => q.keep (.hs t7)
  refine qT ?_; repeat' (first | (with_reducible first | apply qJ | apply qB) | ((first | (with_reducible apply qS) | (with_reducible first | apply qA | apply qP | apply qD | apply qE | apply qK) | ((with_reducible first | apply qQ | apply qH | apply qI | apply zF | apply zG) <;> intro hb <;> (try simp only [hb]) <;> (try simp only [zB] at hb)) | with_reducible refine qR xC qX (by kernel_rfl) ?_) <;> try simp only [qY, qF, qM, qO, qG, qC, qN, reduceIte, seval, Int.cast_ofNat_Int, qZ, zA, qV, zS, zU, zV, wW, xC, qL m7 rC]))
  refine zZ [4, 5, 31, 32] (fun (y : Nat × (Option Addr × Nat)) => [(6, .slice y.2.1 (W y.1).length y.2.2), (33, .int .i64 (y.1 : Int))]) (fun q y h' => ll.length - y.1 = q ∧ y.1 ≤ ll.length ∧ HS h7 h' ∧ RB h' (.slice y.2.1 (W y.1).length y.2.2) (W y.1)) ll.length (0, b7, d7) (by simp [lk]) ⟨rfl, by omega, HS.refl _, rb7⟩ ?_
  rintro _ ⟨j, b8, d8⟩ h8 ⟨rfl, hj, s8, r8⟩
  simp only at hj r8
  have wj := wl j
  by_cases hil : j < ll.length
  case neg =>
    have d4 : decide ((j : Int) < (ll.length : Int)) = false := decide_eq_false (by omega)
    obtain rfl : j = ll.length := by omega
    refine qT ?_; repeat' (first | (with_reducible first | apply qJ | apply qB) | ((first | (with_reducible apply qS) | (with_reducible first | apply qA | apply qP | apply qD | apply qE | apply qK) | ((with_reducible first | apply qQ | apply qH | apply qI | apply zF | apply zG) <;> intro hb <;> (try simp only [hb]) <;> (try simp only [zB] at hb)) | with_reducible refine qR xC qX (by kernel_rfl) ?_) <;> try simp only [qY, qF, qM, qO, qG, qC, qN, reduceIte, seval, Int.cast_ofNat_Int, qZ, zA, qV, zS, zU, zV, wW, xC, d4]))
    have e : W ll.length = w := by rw [← hw', hW, List.take_length]; simp only [wby, List.append_assoc, List.nil_append]
    rw [e] at r8 ⊢
    exact ⟨t7.trans s8, b8, d8, _, rfl, r8⟩
  have d4 : decide ((j : Int) < (ll.length : Int)) = true := decide_eq_true (by omega)
  have wi : IntKind.i64.wrap ((j : Int) + 1) = ((j + 1 : Nat) : Int) := by rw [wrap64 (by omega) (by omega)]; omega
  obtain ⟨y, hy⟩ : ∃ y, ll[j]? = some y := ⟨_, List.getElem?_eq_getElem hil⟩
  have q8 := RL.hcR (R := RBc) q7 s8.hc fun _ _ q => q.keep (.hs s8)
  obtain ⟨ad, cs2, e1, e2, a', c', rfl, p1⟩ := RL.at (P := Tryd.prog) q8 Tryd.underlying62 zI hy
  have wj1 := wl (j + 1)
  have ww : W (j + 1) = W j ++ qU y.length ++ y := by rw [hW, hW, xN wby ll hy, wby]; simp only [List.append_assoc]
  rw [ww] at wj1
  simp only [List.length_append] at wj1
  refine qT ?_; repeat' (first | (with_reducible first | apply qJ | apply qB) | ((first | (with_reducible apply qS) | (with_reducible first | apply qA | apply qP | apply qD | apply qE | apply qK) | ((with_reducible first | apply qQ | apply qH | apply qI | apply zF | apply zG) <;> intro hb <;> (try simp only [hb]) <;> (try simp only [zB] at hb)) | with_reducible refine qR xC qX (by kernel_rfl) ?_) <;> try simp only [qY, qF, qM, qO, qG, qC, qN, reduceIte, seval, Int.cast_ofNat_Int, qZ, zA, qV, zS, zU, zV, wW, xC, d4, e1, wP zI e2]))
  refine (wA N h8 r8 p1 (by omega)).mono ?_
  rintro _ h9 ⟨s9, o9⟩
  rw [← ww] at o9
  obtain ⟨b9, d9, rfl⟩ := o9.form
  refine qT ?_; repeat' (first | (with_reducible first | apply qJ | apply qB) | ((first | (with_reducible apply qS) | (with_reducible first | apply qA | apply qP | apply qD | apply qE | apply qK) | ((with_reducible first | apply qQ | apply qH | apply qI | apply zF | apply zG) <;> intro hb <;> (try simp only [hb]) <;> (try simp only [zB] at hb)) | with_reducible refine qR xC qX (by kernel_rfl) ?_) <;> try simp only [qY, qF, qM, qO, qG, qC, qN, reduceIte, seval, Int.cast_ofNat_Int, qZ, zA, qV, zS, zU, zV, wW, xC, wi]))
  exact ⟨_, (j + 1, b9, d9), by omega, (by simp only [List.forall_mem_cons, List.not_mem_nil, false_implies, implies_true, List.map, List.cons_append, List.nil_append, lk, Nat.reduceEqDiff, reduceIte, and_true, true_and]), rfl, by omega, s8.trans s9, o9.rb⟩
theorem yZ : type_of% (And.intro zX (And.intro mR (And.intro yU (And.intro jK (And.intro wJ (And.intro fB (And.intro wS rs14))))))) := And.intro zX (And.intro mR (And.intro yU (And.intro jK (And.intro wJ (And.intro fB (And.intro wS rs14))))))
theorem vG : type_of% (And.intro zX (And.intro tT (And.intro tS (And.intro yU (And.intro jK (And.intro fA (And.intro wJ (And.intro fB (And.intro wS rs17))))))))) := And.intro zX (And.intro tT (And.intro tS (And.intro yU (And.intro jK (And.intro fA (And.intro wJ (And.intro fB (And.intro wS rs17))))))))
theorem TB.ot {g : Nat} {cs : List Value} {h h' : GH} (t : TB g cs h) {k : Nat} {out : List UInt8} (r : OT h k out) (x : HX k h h') : TB g cs h' := by
  obtain ⟨a, c, m, _⟩ := r
  exact t.hx m rfl x
theorem uE {α : Type} (g : α → Nat) {l : List α} {i : Nat} {x : α} (h : l[i]? = some x) : g x ≤ (l.map g).sum := by
  have : l = l.take i ++ x :: l.drop (i + 1) := by
    obtain ⟨h1, h2⟩ := List.getElem?_eq_some_iff.1 h
    rw [← h2, List.getElem_cons_drop, List.take_append_drop]
  rw [this, List.map_append, List.sum_append, List.map_cons, List.sum_cons]; omega
theorem o_lists {N ko : Nat} {h : GH} {out : List UInt8} (i : OT h ko out) {a : Option Addr} {c : Nat} {ll : List (List (List UInt8))} (q : RL 1 RBsc h (.slice a ll.length c) ll) (hl : out.length + 10 * (kL ll + 1) ≤ 300000000) : GTri Tryd.prog N 14 [.pointer (some ⟨ko, 0, none⟩), .slice a ll.length c] h fun _ h' => OT h' ko (out ++ dB ll) ∧ HX ko h h' := by
  have hll : ll.length ≤ kL ll := wL gQ (fun _ => Nat.le_add_left _ _) ll
  have gl := qW ll.length
  obtain ⟨W, hW⟩ : ∃ W : Nat → List UInt8, ∀ i, W i = out ++ qU ll.length ++ (ll.take i).flatMap wlist := ⟨_, fun _ => rfl⟩
  have w0 : out ++ qU ll.length = W 0 := by rw [hW]; simp
  have wl : ∀ i, (W i).length ≤ out.length + 9 + 9 * kL ll := fun i => by
    have h1 := vP wlist ll i
    have h2 : (ll.flatMap wlist).length ≤ 9 * kL ll := vU wlist gQ dC ll
    rw [hW]; simp only [List.length_append]; omega
  refine xW Tryd.func14 rfl gf14 ok14 (by simp [Tryd.ntmps14]) ?_
  repeat' (first | (with_reducible first | apply qJ | apply qB) | ((first | (with_reducible first | apply qA | apply qP | apply qD | apply qE | apply qK) | ((with_reducible first | apply qQ | apply qH | apply qI) <;> intro hb <;> (try simp only [hb]) <;> (try simp only [zB] at hb))) <;> try simp only [qY, qF, qM, qO, qG, qC, qN, reduceIte, seval, Int.cast_ofNat_Int, qZ, zA, yZ]))
  refine (vS i (by omega) ll.length).mono ?_
  rintro _ h2 ⟨i2, x2⟩
  have k2 := Keeps.ot i x2
  have q2 := k2.rl (fun _ _ q => RBsc.keep k2 q) q
  rw [w0] at i2
  refine qT ?_; repeat' (first | (with_reducible first | apply qJ | apply qB) | ((first | (with_reducible apply qS) | (with_reducible first | apply qA | apply qP | apply qD | apply qE | apply qK) | ((with_reducible first | apply qQ | apply qH | apply qI) <;> intro hb <;> (try simp only [hb]) <;> (try simp only [zB] at hb))) <;> try simp only [qY, qF, qM, qO, qG, qC, qN, reduceIte, seval, Int.cast_ofNat_Int, qZ, zA, yZ]))
  refine zZ [0, 12, 13] (fun (i : Nat) => [(14, .int .i64 (i : Int))]) (fun q i h' => ll.length - i = q ∧ i ≤ ll.length ∧ OT h' ko (W i) ∧ HX ko h2 h') ll.length 0 (by simp [lk]) ⟨rfl, by omega, i2, HX.refl _ _⟩ ?_
  rintro _ j h3 ⟨rfl, hj, i3, x3⟩
  have k3 := Keeps.ot i2 x3
  have q3 := k3.rl (fun _ _ q => RBsc.keep k3 q) q2
  have wj := wl j
  by_cases hil : j < ll.length
  case neg =>
    have d3 : decide ((j : Int) < (ll.length : Int)) = false := decide_eq_false (by omega)
    obtain rfl : j = ll.length := by omega
    refine qT ?_; repeat' (first | (with_reducible first | apply qJ | apply qB) | ((first | (with_reducible apply qS) | (with_reducible first | apply qA | apply qP | apply qD | apply qE | apply qK) | ((with_reducible first | apply qQ | apply qH | apply qI) <;> intro hb <;> (try simp only [hb]) <;> (try simp only [zB] at hb))) <;> try simp only [qY, qF, qM, qO, qG, qC, qN, reduceIte, seval, Int.cast_ofNat_Int, qZ, zA, yZ, d3]))
    have e : W ll.length = out ++ dB ll := by rw [hW, List.take_length]; simp only [dB, List.append_assoc]
    rw [e] at i3
    exact ⟨i3, x2.trans x3⟩
  have d3 : decide ((j : Int) < (ll.length : Int)) = true := decide_eq_true (by omega)
  have wi : IntKind.i64.wrap ((j : Int) + 1) = ((j + 1 : Nat) : Int) := by rw [wrap64 (by omega) (by omega)]; omega
  obtain ⟨w, hx⟩ : ∃ x, ll[j]? = some x := ⟨_, List.getElem?_eq_getElem hil⟩
  obtain ⟨ad, cs2, g1, g2, a', c', rfl, p1⟩ := RL.at (P := Tryd.prog) q3 Tryd.underlying35 rC hx
  have hws := uE gQ hx
  have hws' : jS w + 1 ≤ kL ll := hws
  have hww : w.length ≤ jS w := wL _ (fun y => Nat.le_add_left _ _) w
  have gw := qW w.length
  obtain ⟨V, hV⟩ : ∃ V : Nat → List UInt8, ∀ i, V i = W j ++ qU w.length ++ (w.take i).flatMap wby := ⟨_, fun _ => rfl⟩
  have v0 : W j ++ qU w.length = V 0 := by rw [hV]; simp
  have vl : ∀ i, (V i).length ≤ out.length + 9 + 9 * kL ll := fun i => by
    have h1 := vP wby w i
    have h2 : W (j + 1) = W j ++ qU w.length ++ w.flatMap wby := by rw [hW, hW, xN wlist ll hx, wlist]; simp only [List.append_assoc]
    have h3 := wl (j + 1)
    rw [h2] at h3
    rw [hV]; simp only [List.length_append] at h3 ⊢; omega
  refine qT ?_; repeat' (first | (with_reducible first | apply qJ | apply qB) | ((first | (with_reducible apply qS) | (with_reducible first | apply qA | apply qP | apply qD | apply qE | apply qK) | ((with_reducible first | apply qQ | apply qH | apply qI) <;> intro hb <;> (try simp only [hb]) <;> (try simp only [zB] at hb))) <;> try simp only [qY, qF, qM, qO, qG, qC, qN, reduceIte, seval, Int.cast_ofNat_Int, qZ, zA, yZ, d3, g1, wP rC g2]))
  refine (vS i3 (by omega) w.length).mono ?_
  rintro _ h4 ⟨i4, x4⟩
  have k4 := Keeps.ot i3 x4
  have p4 : RBs h4 (.slice a' w.length c') w := k4.rl (fun _ _ q => RBc.keep k4 q) p1
  rw [v0] at i4
  refine qT ?_; repeat' (first | (with_reducible first | apply qJ | apply qB) | ((first | (with_reducible apply qS) | (with_reducible first | apply qA | apply qP | apply qD | apply qE | apply qK) | ((with_reducible first | apply qQ | apply qH | apply qI) <;> intro hb <;> (try simp only [hb]) <;> (try simp only [zB] at hb))) <;> try simp only [qY, qF, qM, qO, qG, qC, qN, reduceIte, seval, Int.cast_ofNat_Int, qZ, zA, yZ]))
  refine zZ [0, 5, 12, 13, 14, 15, 16, 17, 18, 19, 20, 22, 23] (fun (i : Nat) => [(24, .int .i64 (i : Int))]) (fun q i h' => w.length - i = q ∧ i ≤ w.length ∧ OT h' ko (V i) ∧ HX ko h4 h') w.length 0 (by simp [lk]) ⟨rfl, by omega, i4, HX.refl _ _⟩ ?_
  rintro _ m h5 ⟨rfl, hm, i5, x5⟩
  have k5 := Keeps.ot i4 x5
  have p5 : RBs h5 (.slice a' w.length c') w := k5.rl (fun _ _ q => RBc.keep k5 q) p4
  have vm := vl m
  by_cases him : m < w.length
  case neg =>
    have d4 : decide ((m : Int) < (w.length : Int)) = false := decide_eq_false (by omega)
    obtain rfl : m = w.length := by omega
    refine qT ?_; repeat' (first | (with_reducible first | apply qJ | apply qB) | ((first | (with_reducible apply qS) | (with_reducible first | apply qA | apply qP | apply qD | apply qE | apply qK) | ((with_reducible first | apply qQ | apply qH | apply qI) <;> intro hb <;> (try simp only [hb]) <;> (try simp only [zB] at hb))) <;> try simp only [qY, qF, qM, qO, qG, qC, qN, reduceIte, seval, Int.cast_ofNat_Int, qZ, zA, yZ, d4, wi]))
    have e : V w.length = W (j + 1) := by rw [hV, hW, hW, xN wlist ll hx, wlist, List.take_length]; simp only [List.append_assoc]
    rw [e] at i5
    exact ⟨_, j + 1, by omega, (by simp only [List.forall_mem_cons, List.not_mem_nil, false_implies, implies_true, List.map, List.cons_append, List.nil_append, lk, Nat.reduceEqDiff, reduceIte, and_true, true_and]), rfl, by omega, i5, (x3.trans x4).trans x5⟩
  have d4 : decide ((m : Int) < (w.length : Int)) = true := decide_eq_true (by omega)
  have wm : IntKind.i64.wrap ((m : Int) + 1) = ((m + 1 : Nat) : Int) := by rw [wrap64 (by omega) (by omega)]; omega
  obtain ⟨y, hy⟩ : ∃ x, w[m]? = some x := ⟨_, List.getElem?_eq_getElem him⟩
  obtain ⟨ad2, cs3, g3, g4, a3, c3, rfl, p6⟩ := RL.at (P := Tryd.prog) p5 Tryd.underlying62 zI hy
  have hV1 : V (m + 1) = V m ++ (qU y.length ++ y) := by rw [hV, hV, xN wby w hy, wby]; simp only [List.append_assoc]
  have vm1 := vl (m + 1)
  rw [hV1] at vm1
  simp only [List.length_append] at vm1
  refine qT ?_; repeat' (first | (with_reducible first | apply qJ | apply qB) | ((first | (with_reducible apply qS) | (with_reducible first | apply qA | apply qP | apply qD | apply qE | apply qK) | ((with_reducible first | apply qQ | apply qH | apply qI) <;> intro hb <;> (try simp only [hb]) <;> (try simp only [zB] at hb))) <;> try simp only [qY, qF, qM, qO, qG, qC, qN, reduceIte, seval, Int.cast_ofNat_Int, qZ, zA, yZ, d4, g3, wP zI g4]))
  refine (jA i5 p6 (by omega)).mono ?_
  rintro _ h6 ⟨i6, x6⟩
  rw [← hV1] at i6
  refine qT ?_; repeat' (first | (with_reducible first | apply qJ | apply qB) | ((first | (with_reducible apply qS) | (with_reducible first | apply qA | apply qP | apply qD | apply qE | apply qK) | ((with_reducible first | apply qQ | apply qH | apply qI) <;> intro hb <;> (try simp only [hb]) <;> (try simp only [zB] at hb))) <;> try simp only [qY, qF, qM, qO, qG, qC, qN, reduceIte, seval, Int.cast_ofNat_Int, qZ, zA, yZ, wm]))
  exact ⟨_, m + 1, by omega, (by simp only [List.forall_mem_cons, List.not_mem_nil, false_implies, implies_true, List.map, List.cons_append, List.nil_append, lk, Nat.reduceEqDiff, reduceIte, and_true, true_and]), rfl, by omega, i6, x5.trans x6⟩
theorem qB3 {N ko : Nat} {h : GH} (tb : TBd h) {out : List UInt8} (i : OT h ko out) {size : Int} (hw : (Lit.int .i64 size).wf = true) {a : Option Addr} {c : Nat} {ll : List (List Rc)} (q : RL 1 RRcs h (.slice a ll.length c) ll) (hl : out.length + 10 * (jY ll + 1) ≤ 200000000) : GTri Tryd.prog N 17 [.pointer (some ⟨ko, 0, none⟩), .int .i64 size, .slice a ll.length c] h fun _ h' => OT h' ko (out ++ yE size ll) ∧ HX ko h h' := by
  have hll : ll.length ≤ jY ll := wL rT (fun _ => Nat.le_add_left _ _) ll
  have gl := qW ll.length
  obtain ⟨W, hW⟩ : ∃ W : Nat → List UInt8, ∀ i, W i = out ++ qU ll.length ++ (ll.take i).flatMap (yB size) := ⟨_, fun _ => rfl⟩
  have w0 : out ++ qU ll.length = W 0 := by rw [hW]; simp
  have wl : ∀ i, (W i).length ≤ out.length + 9 + 9 * jY ll := fun i => by
    have h1 := vP (yB size) ll i
    have h2 : (ll.flatMap (yB size)).length ≤ 9 * jY ll := vU (yB size) rT (fY size) ll
    rw [hW]; simp only [List.length_append]; omega
  refine xW Tryd.func17 rfl gf17 ok17 (by simp [Tryd.ntmps17]) ?_
  repeat' (first | (with_reducible first | apply qJ | apply qB) | ((first | (with_reducible first | apply qA | apply qP | apply qD | apply qE | apply qK) | ((with_reducible first | apply qQ | apply qH | apply qI) <;> intro hb <;> (try simp only [hb]) <;> (try simp only [zB] at hb))) <;> try simp only [qY, qF, qM, qO, qG, qC, qN, reduceIte, seval, Int.cast_ofNat_Int, qZ, zA, vG]))
  refine (vS i (by omega) ll.length).mono ?_
  rintro _ h2 ⟨i2, x2⟩
  have k2 := Keeps.ot i x2
  have q2 := k2.rl (fun _ _ q => RRcs.keep k2 q) q
  have tb2 := tb.ot i x2
  rw [w0] at i2
  refine qT ?_; repeat' (first | (with_reducible first | apply qJ | apply qB) | ((first | (with_reducible apply qS) | (with_reducible first | apply qA | apply qP | apply qD | apply qE | apply qK) | ((with_reducible first | apply qQ | apply qH | apply qI) <;> intro hb <;> (try simp only [hb]) <;> (try simp only [zB] at hb))) <;> try simp only [qY, qF, qM, qO, qG, qC, qN, reduceIte, seval, Int.cast_ofNat_Int, qZ, zA, vG]))
  refine zZ [0, 1, 16, 17] (fun (i : Nat) => [(18, .int .i64 (i : Int))]) (fun q i h' => ll.length - i = q ∧ i ≤ ll.length ∧ OT h' ko (W i) ∧ HX ko h2 h') ll.length 0 (by simp [lk]) ⟨rfl, by omega, i2, HX.refl _ _⟩ ?_
  rintro _ j h3 ⟨rfl, hj, i3, x3⟩
  have k3 := Keeps.ot i2 x3
  have q3 := k3.rl (fun _ _ q => RRcs.keep k3 q) q2
  have tb3 := tb2.ot i2 x3
  have wj := wl j
  by_cases hil : j < ll.length
  case neg =>
    have d3 : decide ((j : Int) < (ll.length : Int)) = false := decide_eq_false (by omega)
    obtain rfl : j = ll.length := by omega
    refine qT ?_; repeat' (first | (with_reducible first | apply qJ | apply qB) | ((first | (with_reducible apply qS) | (with_reducible first | apply qA | apply qP | apply qD | apply qE | apply qK) | ((with_reducible first | apply qQ | apply qH | apply qI) <;> intro hb <;> (try simp only [hb]) <;> (try simp only [zB] at hb))) <;> try simp only [qY, qF, qM, qO, qG, qC, qN, reduceIte, seval, Int.cast_ofNat_Int, qZ, zA, vG, d3]))
    have e : W ll.length = out ++ yE size ll := by rw [hW, List.take_length]; simp only [yE, List.append_assoc]
    rw [e] at i3
    exact ⟨i3, x2.trans x3⟩
  have d3 : decide ((j : Int) < (ll.length : Int)) = true := decide_eq_true (by omega)
  have wi : IntKind.i64.wrap ((j : Int) + 1) = ((j + 1 : Nat) : Int) := by rw [wrap64 (by omega) (by omega)]; omega
  obtain ⟨w, hx⟩ : ∃ x, ll[j]? = some x := ⟨_, List.getElem?_eq_getElem hil⟩
  obtain ⟨ad, cs2, g1, g2, a', c', rfl, p1⟩ := RL.at (P := Tryd.prog) q3 Tryd.underlying36 qA7 hx
  have hws := uE rT hx
  have hws' : (w.map Rc.bulk).sum + 1 ≤ jY ll := hws
  have hww : w.length ≤ (w.map Rc.bulk).sum := wL _ (fun y => by unfold Rc.bulk; omega) w
  have gw := qW w.length
  obtain ⟨V, hV⟩ : ∃ V : Nat → List UInt8, ∀ i, V i = W j ++ qU w.length ++ (w.take i).flatMap (uL size) := ⟨_, fun _ => rfl⟩
  have v0 : W j ++ qU w.length = V 0 := by rw [hV]; simp
  have vl : ∀ i, (V i).length ≤ out.length + 9 + 9 * jY ll := fun i => by
    have h1 := vP (uL size) w i
    have h2 : W (j + 1) = W j ++ qU w.length ++ w.flatMap (uL size) := by rw [hW, hW, xN (yB size) ll hx, yB]; simp only [List.append_assoc]
    have h3 := wl (j + 1)
    rw [h2] at h3
    rw [hV]; simp only [List.length_append] at h3 ⊢; omega
  refine qT ?_; repeat' (first | (with_reducible first | apply qJ | apply qB) | ((first | (with_reducible apply qS) | (with_reducible first | apply qA | apply qP | apply qD | apply qE | apply qK) | ((with_reducible first | apply qQ | apply qH | apply qI) <;> intro hb <;> (try simp only [hb]) <;> (try simp only [zB] at hb))) <;> try simp only [qY, qF, qM, qO, qG, qC, qN, reduceIte, seval, Int.cast_ofNat_Int, qZ, zA, vG, d3, g1, wP qA7 g2]))
  refine (vS i3 (by omega) w.length).mono ?_
  rintro _ h4 ⟨i4, x4⟩
  have k4 := Keeps.ot i3 x4
  have p4 : RL 6 RRc h4 (.slice a' w.length c') w := k4.rl (fun _ _ q => RRc.keep k4 q) p1
  have tb4 := tb3.ot i3 x4
  rw [v0] at i4
  refine qT ?_; repeat' (first | (with_reducible first | apply qJ | apply qB) | ((first | (with_reducible apply qS) | (with_reducible first | apply qA | apply qP | apply qD | apply qE | apply qK) | ((with_reducible first | apply qQ | apply qH | apply qI) <;> intro hb <;> (try simp only [hb]) <;> (try simp only [zB] at hb))) <;> try simp only [qY, qF, qM, qO, qG, qC, qN, reduceIte, seval, Int.cast_ofNat_Int, qZ, zA, vG]))
  refine zZ [0, 1, 7, 16, 17, 18, 19, 20, 21, 22, 23, 24, 26, 27] (fun (i : Nat) => [(28, .int .i64 (i : Int))]) (fun q i h' => w.length - i = q ∧ i ≤ w.length ∧ OT h' ko (V i) ∧ HX ko h4 h') w.length 0 (by simp [lk]) ⟨rfl, by omega, i4, HX.refl _ _⟩ ?_
  rintro _ m h5 ⟨rfl, hm, i5, x5⟩
  have k5 := Keeps.ot i4 x5
  have p5 : RL 6 RRc h5 (.slice a' w.length c') w := k5.rl (fun _ _ q => RRc.keep k5 q) p4
  have tb5 := tb4.ot i4 x5
  have vm := vl m
  by_cases him : m < w.length
  case neg =>
    have d4 : decide ((m : Int) < (w.length : Int)) = false := decide_eq_false (by omega)
    obtain rfl : m = w.length := by omega
    refine qT ?_; repeat' (first | (with_reducible first | apply qJ | apply qB) | ((first | (with_reducible apply qS) | (with_reducible first | apply qA | apply qP | apply qD | apply qE | apply qK) | ((with_reducible first | apply qQ | apply qH | apply qI) <;> intro hb <;> (try simp only [hb]) <;> (try simp only [zB] at hb))) <;> try simp only [qY, qF, qM, qO, qG, qC, qN, reduceIte, seval, Int.cast_ofNat_Int, qZ, zA, vG, d4, wi]))
    have e : V w.length = W (j + 1) := by rw [hV, hW, hW, xN (yB size) ll hx, yB, List.take_length]; simp only [List.append_assoc]
    rw [e] at i5
    exact ⟨_, j + 1, by omega, (by simp only [List.forall_mem_cons, List.not_mem_nil, false_implies, implies_true, List.map, List.cons_append, List.nil_append, lk, Nat.reduceEqDiff, reduceIte, and_true, true_and]), rfl, by omega, i5, (x3.trans x4).trans x5⟩
  have d4 : decide ((m : Int) < (w.length : Int)) = true := decide_eq_true (by omega)
  have wm : IntKind.i64.wrap ((m : Int) + 1) = ((m + 1 : Nat) : Int) := by rw [wrap64 (by omega) (by omega)]; omega
  obtain ⟨y, hy⟩ : ∃ x, w[m]? = some x := ⟨_, List.getElem?_eq_getElem him⟩
  have hyb := uE Rc.bulk hy
  obtain ⟨ad2, cs3, g3, g4, p6⟩ := RL.at (P := Tryd.prog) p5 Tryd.underlying46 rQ hy
  have p6' := p6
  obtain ⟨a1, c1, a2, c2, a3, c3, rfl, _⟩ := p6
  have hV1 : V (m + 1) = V m ++ uL size y := by rw [hV, hV, xN (uL size) w hy]; simp only [List.append_assoc]
  have vm1 := vl (m + 1)
  rw [hV1, uL, wby] at vm1
  simp only [List.length_append] at vm1
  refine qT ?_; repeat' (first | (with_reducible first | apply qJ | apply qB) | ((first | (with_reducible apply qS) | (with_reducible first | apply qA | apply qP | apply qD | apply qE | apply qK) | ((with_reducible first | apply qQ | apply qH | apply qI) <;> intro hb <;> (try simp only [hb]) <;> (try simp only [zB] at hb))) <;> try simp only [qY, qF, qM, qO, qG, qC, qN, reduceIte, seval, Int.cast_ofNat_Int, qZ, zA, vG, d4, g3, wC rQ g4]))
  refine jN fun k6 h6 m6 s6 f6 n6 => ?_
  refine qT ?_; repeat' (first | (with_reducible first | apply qJ | apply qB) | ((first | (with_reducible apply qS) | (with_reducible first | apply qA | apply qP | apply qD | apply qE | apply qK) | ((with_reducible first | apply qQ | apply qH | apply qI) <;> intro hb <;> (try simp only [hb]) <;> (try simp only [zB] at hb))) <;> try simp only [qY, qF, qM, qO, qG, qC, qN, reduceIte, seval, Int.cast_ofNat_Int, qZ, zA, vG]))
  refine uA m6 rQ rfl (by decide) rfl rfl rfl fun h7 m7 f7 => ?_
  have s7 : HS h5 h7 := (HS.refl _).upd n6 fun j hj => (f7 j hj).trans (f6 j hj)
  refine qT ?_; repeat' (first | (with_reducible first | apply qJ | apply qB) | ((first | (with_reducible apply qS) | (with_reducible first | apply qA | apply qP | apply qD | apply qE | apply qK) | ((with_reducible first | apply qQ | apply qH | apply qI) <;> intro hb <;> (try simp only [hb]) <;> (try simp only [zB] at hb))) <;> try simp only [qY, qF, qM, qO, qG, qC, qN, reduceIte, seval, Int.cast_ofNat_Int, qZ, zA, vG, vA m7 rQ rfl]))
  refine (c_REnc N (tb5.hs s7) hw (p6'.keep (.hs s7)) (by omega)).mono ?_
  rintro _ h8 ⟨s8, a8, c8, v8, rfl, r8⟩
  refine qT ?_; repeat' (first | (with_reducible first | apply qJ | apply qB) | ((first | (with_reducible apply qS) | (with_reducible first | apply qA | apply qP | apply qD | apply qE | apply qK) | ((with_reducible first | apply qQ | apply qH | apply qI) <;> intro hb <;> (try simp only [hb]) <;> (try simp only [zB] at hb))) <;> try simp only [qY, qF, qM, qO, qG, qC, qN, reduceIte, seval, Int.cast_ofNat_Int, qZ, zA, vG]))
  have i8 := i5.hs (s7.trans s8)
  refine (jA i8 r8 (by omega)).mono ?_
  rintro _ h9 ⟨i9, x9⟩
  have e9 : V m ++ (qU (jJ size y).length ++ jJ size y) = V (m + 1) := by rw [hV1]; rfl
  rw [e9] at i9
  refine qT ?_; repeat' (first | (with_reducible first | apply qJ | apply qB) | ((first | (with_reducible apply qS) | (with_reducible first | apply qA | apply qP | apply qD | apply qE | apply qK) | ((with_reducible first | apply qQ | apply qH | apply qI) <;> intro hb <;> (try simp only [hb]) <;> (try simp only [zB] at hb))) <;> try simp only [qY, qF, qM, qO, qG, qC, qN, reduceIte, seval, Int.cast_ofNat_Int, qZ, zA, vG, wm]))
  exact ⟨_, m + 1, by omega, (by simp only [List.forall_mem_cons, List.not_mem_nil, false_implies, implies_true, List.map, List.cons_append, List.nil_append, lk, Nat.reduceEqDiff, reduceIte, and_true, true_and]), rfl, by omega, i9, (x5.trans ((s7.trans s8).hx ko)).trans x9⟩
theorem wR : type_of% (And.intro zX (And.intro tT (And.intro tS (And.intro yU (And.intro fA (And.intro wJ (And.intro wS rs21))))))) := And.intro zX (And.intro tT (And.intro tS (And.intro yU (And.intro fA (And.intro wJ (And.intro wS rs21))))))
theorem qB1 (N : Nat) (h : GH) {b : Option Addr} {n d : Nat} {out : List UInt8} (r : RB h (.slice b n d) out) {size : Int} {a : Option Addr} {c : Nat} {ll : List (List Rc)} (q : RL 1 RRcs h (.slice a ll.length c) ll) (hl : out.length + 10 * (jY ll + 1) ≤ 200000000) : GTri Tryd.prog N 21 [.slice b n d, .int .i64 size, .slice a ll.length c] h fun v h' => HS h h' ∧ ∃ a c, v = .slice a (out ++ yE size ll).length c ∧ RB h' (.slice a (out ++ yE size ll).length c) (out ++ yE size ll) := by
  obtain rfl := r.len_eq
  have hll : ll.length ≤ jY ll := wL rT (fun _ => Nat.le_add_left _ _) ll
  have gl := qW ll.length
  obtain ⟨W, hW⟩ : ∃ W : Nat → List UInt8, ∀ i, W i = out ++ qU ll.length ++ (ll.take i).flatMap (yB size) := ⟨_, fun _ => rfl⟩
  have w0 : out ++ qU ll.length = W 0 := by rw [hW]; simp
  have wl : ∀ i, (W i).length ≤ out.length + 9 + 9 * jY ll := fun i => by
    have h1 := vP (yB size) ll i
    have h2 : (ll.flatMap (yB size)).length ≤ 9 * jY ll := vU (yB size) rT (fY size) ll
    rw [hW]; simp only [List.length_append]; omega
  refine xW Tryd.func21 rfl gf21 ok21 (by simp [Tryd.ntmps21]) ?_
  repeat' (first | (with_reducible first | apply qJ | apply qB) | ((first | (with_reducible first | apply qA | apply qP | apply qD | apply qE | apply qK) | ((with_reducible first | apply qQ | apply qH | apply qI) <;> intro hb <;> (try simp only [hb]) <;> (try simp only [zB] at hb))) <;> try simp only [qY, qF, qM, qO, qG, qC, qN, reduceIte, seval, Int.cast_ofNat_Int, qZ, zA, wR]))
  refine (xA N h r (by omega) ll.length).mono ?_
  rintro _ h2 ⟨s2, o2⟩
  rw [w0] at o2
  obtain ⟨b2, d2, rfl⟩ := o2.form
  have q2 := RL.hcR (R := RRcs) q s2.hc fun _ _ q => q.keep (.hs s2)
  refine qT ?_; repeat' (first | (with_reducible first | apply qJ | apply qB) | ((first | (with_reducible apply qS) | (with_reducible first | apply qA | apply qP | apply qD | apply qE | apply qK) | ((with_reducible first | apply qQ | apply qH | apply qI) <;> intro hb <;> (try simp only [hb]) <;> (try simp only [zB] at hb))) <;> try simp only [qY, qF, qM, qO, qG, qC, qN, reduceIte, seval, Int.cast_ofNat_Int, qZ, zA, wR]))
  refine zZ [1, 6, 17, 18] (fun (y : Nat × (Option Addr × Nat)) => [(0, .slice y.2.1 (W y.1).length y.2.2), (19, .int .i64 (y.1 : Int))]) (fun q y h' => ll.length - y.1 = q ∧ y.1 ≤ ll.length ∧ HS h2 h' ∧ RB h' (.slice y.2.1 (W y.1).length y.2.2) (W y.1)) ll.length (0, b2, d2) (by simp [lk]) ⟨rfl, by omega, HS.refl _, o2.rb⟩ ?_
  rintro _ ⟨j, b3, d3⟩ h3 ⟨rfl, hj, s3, r3⟩
  simp only at hj r3
  have q3 := RL.hcR (R := RRcs) q2 s3.hc fun _ _ q => q.keep (.hs s3)
  have wj := wl j
  by_cases hil : j < ll.length
  case neg =>
    have e3 : decide ((j : Int) < (ll.length : Int)) = false := decide_eq_false (by omega)
    obtain rfl : j = ll.length := by omega
    refine qT ?_; repeat' (first | (with_reducible first | apply qJ | apply qB) | ((first | (with_reducible apply qS) | (with_reducible first | apply qA | apply qP | apply qD | apply qE | apply qK) | ((with_reducible first | apply qQ | apply qH | apply qI) <;> intro hb <;> (try simp only [hb]) <;> (try simp only [zB] at hb))) <;> try simp only [qY, qF, qM, qO, qG, qC, qN, reduceIte, seval, Int.cast_ofNat_Int, qZ, zA, wR, e3]))
    have e : W ll.length = out ++ yE size ll := by rw [hW, List.take_length]; simp only [yE, List.append_assoc]
    rw [e] at r3 ⊢
    exact ⟨s2.trans s3, b3, d3, rfl, r3⟩
  have e3 : decide ((j : Int) < (ll.length : Int)) = true := decide_eq_true (by omega)
  have wi : IntKind.i64.wrap ((j : Int) + 1) = ((j + 1 : Nat) : Int) := by rw [wrap64 (by omega) (by omega)]; omega
  obtain ⟨w, hx⟩ : ∃ x, ll[j]? = some x := ⟨_, List.getElem?_eq_getElem hil⟩
  obtain ⟨ad, cs2, g1, g2, a', c', rfl, p1⟩ := RL.at (P := Tryd.prog) q3 Tryd.underlying36 qA7 hx
  have hws := uE rT hx
  have hws' : (w.map Rc.bulk).sum + 1 ≤ jY ll := hws
  have hww : w.length ≤ (w.map Rc.bulk).sum := wL _ (fun y => by unfold Rc.bulk; omega) w
  have gw := qW w.length
  obtain ⟨V, hV⟩ : ∃ V : Nat → List UInt8, ∀ i, V i = W j ++ qU w.length ++ (w.take i).flatMap (uL size) := ⟨_, fun _ => rfl⟩
  have v0 : W j ++ qU w.length = V 0 := by rw [hV]; simp
  have vl : ∀ i, (V i).length ≤ out.length + 9 + 9 * jY ll := fun i => by
    have h1 := vP (uL size) w i
    have h2 : W (j + 1) = W j ++ qU w.length ++ w.flatMap (uL size) := by rw [hW, hW, xN (yB size) ll hx, yB]; simp only [List.append_assoc]
    have h3 := wl (j + 1)
    rw [h2] at h3
    rw [hV]; simp only [List.length_append] at h3 ⊢; omega
  refine qT ?_; repeat' (first | (with_reducible first | apply qJ | apply qB) | ((first | (with_reducible apply qS) | (with_reducible first | apply qA | apply qP | apply qD | apply qE | apply qK) | ((with_reducible first | apply qQ | apply qH | apply qI) <;> intro hb <;> (try simp only [hb]) <;> (try simp only [zB] at hb))) <;> try simp only [qY, qF, qM, qO, qG, qC, qN, reduceIte, seval, Int.cast_ofNat_Int, qZ, zA, wR, e3, g1, wP qA7 g2]))
  refine (xA N h3 r3 (by omega) w.length).mono ?_
  rintro _ h4 ⟨s4, o4⟩
  rw [v0] at o4
  obtain ⟨b4, d4, rfl⟩ := o4.form
  have p4 : RL 6 RRc h4 (.slice a' w.length c') w := RL.hcR (R := RRc) p1 s4.hc fun _ _ q => q.keep (.hs s4)
  refine qT ?_; repeat' (first | (with_reducible first | apply qJ | apply qB) | ((first | (with_reducible apply qS) | (with_reducible first | apply qA | apply qP | apply qD | apply qE | apply qK) | ((with_reducible first | apply qQ | apply qH | apply qI) <;> intro hb <;> (try simp only [hb]) <;> (try simp only [zB] at hb))) <;> try simp only [qY, qF, qM, qO, qG, qC, qN, reduceIte, seval, Int.cast_ofNat_Int, qZ, zA, wR]))
  refine zZ [1, 6, 8, 17, 18, 19, 20, 21, 22, 23, 24, 25, 26, 27, 28] (fun (y : Nat × (Option Addr × Nat)) => [(0, .slice y.2.1 (V y.1).length y.2.2), (29, .int .i64 (y.1 : Int))]) (fun q y h' => w.length - y.1 = q ∧ y.1 ≤ w.length ∧ HS h4 h' ∧ RB h' (.slice y.2.1 (V y.1).length y.2.2) (V y.1)) w.length (0, b4, d4) (by simp [lk]) ⟨rfl, by omega, HS.refl _, o4.rb⟩ ?_
  rintro _ ⟨m, b5, d5⟩ h5 ⟨rfl, hm, s5, r5⟩
  simp only at hm r5
  have p5 : RL 6 RRc h5 (.slice a' w.length c') w := RL.hcR (R := RRc) p4 s5.hc fun _ _ q => q.keep (.hs s5)
  have vm := vl m
  by_cases him : m < w.length
  case neg =>
    have e4 : decide ((m : Int) < (w.length : Int)) = false := decide_eq_false (by omega)
    obtain rfl : m = w.length := by omega
    refine qT ?_; repeat' (first | (with_reducible first | apply qJ | apply qB) | ((first | (with_reducible apply qS) | (with_reducible first | apply qA | apply qP | apply qD | apply qE | apply qK) | ((with_reducible first | apply qQ | apply qH | apply qI) <;> intro hb <;> (try simp only [hb]) <;> (try simp only [zB] at hb))) <;> try simp only [qY, qF, qM, qO, qG, qC, qN, reduceIte, seval, Int.cast_ofNat_Int, qZ, zA, wR, e4, wi]))
    have e : V w.length = W (j + 1) := by rw [hV, hW, hW, xN (yB size) ll hx, yB, List.take_length]; simp only [List.append_assoc]
    rw [e] at r5
    refine ⟨_, (j + 1, b5, d5), by omega, ?_, rfl, by omega, (s3.trans s4).trans s5, r5⟩
    simp only [e]
    exact (by simp only [List.forall_mem_cons, List.not_mem_nil, false_implies, implies_true, List.map, List.cons_append, List.nil_append, lk, Nat.reduceEqDiff, reduceIte, and_true, true_and])
  have e4 : decide ((m : Int) < (w.length : Int)) = true := decide_eq_true (by omega)
  have wm : IntKind.i64.wrap ((m : Int) + 1) = ((m + 1 : Nat) : Int) := by rw [wrap64 (by omega) (by omega)]; omega
  obtain ⟨y, hy⟩ : ∃ x, w[m]? = some x := ⟨_, List.getElem?_eq_getElem him⟩
  have hyb := uE Rc.bulk hy
  obtain ⟨ad2, cs3, g3, g4, p6⟩ := RL.at (P := Tryd.prog) p5 Tryd.underlying46 rQ hy
  have p6' := p6
  obtain ⟨a1, c1, a2, c2, a3, c3, rfl, _⟩ := p6
  have hV1 : V (m + 1) = V m ++ qU (jJ size y).length ++ jJ size y := by rw [hV, hV, xN (uL size) w hy, uL, wby]; simp only [List.append_assoc]
  have vm1 := vl (m + 1)
  rw [hV1] at vm1
  simp only [List.length_append] at vm1
  refine qT ?_; repeat' (first | (with_reducible first | apply qJ | apply qB) | ((first | (with_reducible apply qS) | (with_reducible first | apply qA | apply qP | apply qD | apply qE | apply qK) | ((with_reducible first | apply qQ | apply qH | apply qI) <;> intro hb <;> (try simp only [hb]) <;> (try simp only [zB] at hb))) <;> try simp only [qY, qF, qM, qO, qG, qC, qN, reduceIte, seval, Int.cast_ofNat_Int, qZ, zA, wR, e4, g3, wC rQ g4]))
  refine jN fun k6 h6 m6 s6 f6 n6 => ?_
  refine qT ?_; repeat' (first | (with_reducible first | apply qJ | apply qB) | ((first | (with_reducible apply qS) | (with_reducible first | apply qA | apply qP | apply qD | apply qE | apply qK) | ((with_reducible first | apply qQ | apply qH | apply qI) <;> intro hb <;> (try simp only [hb]) <;> (try simp only [zB] at hb))) <;> try simp only [qY, qF, qM, qO, qG, qC, qN, reduceIte, seval, Int.cast_ofNat_Int, qZ, zA, wR]))
  refine uA m6 rQ rfl (by decide) rfl rfl rfl fun h7 m7 f7 => ?_
  have s7 : HS h5 h7 := (HS.refl _).upd n6 fun j hj => (f7 j hj).trans (f6 j hj)
  refine qT ?_; repeat' (first | (with_reducible first | apply qJ | apply qB) | ((first | (with_reducible apply qS) | (with_reducible first | apply qA | apply qP | apply qD | apply qE | apply qK) | ((with_reducible first | apply qQ | apply qH | apply qI) <;> intro hb <;> (try simp only [hb]) <;> (try simp only [zB] at hb))) <;> try simp only [qY, qF, qM, qO, qG, qC, qN, reduceIte, seval, Int.cast_ofNat_Int, qZ, zA, wR, vA m7 rQ rfl]))
  refine (c_rREnc N (p6'.keep (.hs s7)) (by omega)).mono ?_
  rintro _ h8 ⟨s8, a8, c8, v8, rfl, r8⟩
  refine qT ?_; repeat' (first | (with_reducible first | apply qJ | apply qB) | ((first | (with_reducible apply qS) | (with_reducible first | apply qA | apply qP | apply qD | apply qE | apply qK) | ((with_reducible first | apply qQ | apply qH | apply qI) <;> intro hb <;> (try simp only [hb]) <;> (try simp only [zB] at hb))) <;> try simp only [qY, qF, qM, qO, qG, qC, qN, reduceIte, seval, Int.cast_ofNat_Int, qZ, zA, wR]))
  have t8 := s7.trans s8
  refine (wA N h8 (r5.hs t8) r8 (by omega)).mono ?_
  rintro _ h9 ⟨s9, o9⟩
  rw [← hV1] at o9
  obtain ⟨b9, d9, rfl⟩ := o9.form
  refine qT ?_; repeat' (first | (with_reducible first | apply qJ | apply qB) | ((first | (with_reducible apply qS) | (with_reducible first | apply qA | apply qP | apply qD | apply qE | apply qK) | ((with_reducible first | apply qQ | apply qH | apply qI) <;> intro hb <;> (try simp only [hb]) <;> (try simp only [zB] at hb))) <;> try simp only [qY, qF, qM, qO, qG, qC, qN, reduceIte, seval, Int.cast_ofNat_Int, qZ, zA, wR, wm]))
  exact ⟨_, (m + 1, b9, d9), by omega, (by simp only [List.forall_mem_cons, List.not_mem_nil, false_implies, implies_true, List.map, List.cons_append, List.nil_append, lk, Nat.reduceEqDiff, reduceIte, and_true, true_and]), rfl, by omega, (s5.trans t8).trans s9, o9.rb⟩
theorem kE : type_of% (And.intro zX (And.intro wJ (And.intro wS (And.intro ty9 rs45)))) := And.intro zX (And.intro wJ (And.intro wS (And.intro ty9 rs45)))
theorem c_Grow (N : Nat) (h : GH) (s : Nat) (hs : s ≤ 140737488355328) : GTri Tryd.prog N 45 [.slice none 0 0, .int .i64 s] h fun v h' => HS h h' ∧ ((s = 0 ∧ v = .slice none 0 0) ∨ (0 < s ∧ ∃ k, v = .slice (some ⟨k, 0, none⟩) 0 (2 * s) ∧ h k = none ∧ BUF h' k s [])) := by
  have w1 : IntKind.i64.wrap ((s : Int) - 0) = s := by rw [Int.sub_zero]; exact rO (by omega)
  refine xW Tryd.func45 rfl gf45 ok45 (by simp [Tryd.ntmps45]) ?_
  by_cases h0 : s = 0
  · subst h0
    repeat' (first | (with_reducible first | apply qJ | apply qB) | ((first | (with_reducible first | apply qA | apply qP | apply qD | apply qE | apply qK) | ((with_reducible first | apply qQ | apply qH | apply qI) <;> intro hb <;> (try simp only [hb]))) <;> try simp only [qY, qF, qM, qO, qG, qC, qN, reduceIte, seval, Int.cast_ofNat_Int, qZ, zA, kE, lM]))
    exact ⟨HS.refl h, .inl trivial⟩
  · have d0 : decide ((s : Int) > 0) = true := decide_eq_true (by omega)
    repeat' (first | (with_reducible first | apply qJ | apply qB) | ((first | (with_reducible first | apply qA | apply qP | apply qD | apply qE | apply qK) | ((with_reducible first | apply qQ | apply qH | apply qI) <;> intro hb <;> (try simp only [hb]))) <;> try simp only [qY, qF, qM, qO, qG, qC, qN, reduceIte, seval, Int.cast_ofNat_Int, qZ, zA, kE, lM, rJ, d0, w1, qC3 Tryd.underlying23 sz5]))
    refine tQ vJ Tryd.underlying3 (by omega) hs fun k h' hb hS hk => ?_
    simp only [qY, qF, qM, qO, qG, qC, qN, reduceIte, seval, Int.cast_ofNat_Int, qZ, zA, kE, lA Tryd.underlying23 sz5]
    repeat' (first | (with_reducible first | apply qJ | apply qB) | ((first | (with_reducible first | apply qA | apply qP | apply qD | apply qE | apply qK) | ((with_reducible first | apply qQ | apply qH | apply qI) <;> intro hb <;> (try simp only [hb]))) <;> try simp only [qY, qF, qM, qO, qG, qC, qN, reduceIte, seval, Int.cast_ofNat_Int, qZ, zA, kE]))
    exact ⟨hS, .inr ⟨by omega, k, rfl, hk, hb⟩⟩
end Go.Gh
