/- Parts of this claim's proof, 6. No statement of the claim stands here. -/
import Derived.Test.YtlobmpkfdnifpaaP5
import Derived.Test.YtlobmpkfdnifpaaProg
/- Closed facts of the loaded program, each asked of the kernel. -/
namespace Go.Gh
open Go Go.Proofs
set_option maxRecDepth 100000
theorem gf3 : gfn Try.prog 3 = true := by kernel_rfl
theorem rs3 : Try.f3.results.toList = [.tmp 6] := by kernel_rfl
theorem ok3 : codeOk Try.prog Try.f3.ntmps (Try.f3.body.getD .skip) = true := by kernel_rfl
theorem gf7 : gfn Try.prog 7 = true := by kernel_rfl
theorem rs7 : Try.f7.results.toList = [.tmp 0] := by kernel_rfl
theorem ok7 : codeOk Try.prog Try.f7.ntmps (Try.f7.body.getD .skip) = true := by kernel_rfl
theorem gf8 : gfn Try.prog 8 = true := by kernel_rfl
theorem rs8 : Try.f8.results.toList = [.tmp 2] := by kernel_rfl
theorem ok8 : codeOk Try.prog Try.f8.ntmps (Try.f8.body.getD .skip) = true := by kernel_rfl
theorem gf9 : gfn Try.prog 9 = true := by kernel_rfl
theorem rs9 : Try.f9.results.toList = [.cell 4 27, .tmp 5, .tmp 6] := by kernel_rfl
theorem ok9 : codeOk Try.prog Try.f9.ntmps (Try.f9.body.getD .skip) = true := by kernel_rfl
theorem gf10 : gfn Try.prog 10 = true := by kernel_rfl
theorem rs10 : Try.f10.results.toList = [.cell 4 27, .tmp 5, .tmp 6] := by kernel_rfl
theorem ok10 : codeOk Try.prog Try.f10.ntmps (Try.f10.body.getD .skip) = true := by kernel_rfl
theorem gf11 : gfn Try.prog 11 = true := by kernel_rfl
theorem rs11 : Try.f11.results.toList = [.tmp 4] := by kernel_rfl
theorem ok11 : codeOk Try.prog Try.f11.ntmps (Try.f11.body.getD .skip) = true := by kernel_rfl
theorem gf12 : gfn Try.prog 12 = true := by kernel_rfl
theorem rs12 : Try.f12.results.toList = [.tmp 6] := by kernel_rfl
theorem ok12 : codeOk Try.prog Try.f12.ntmps (Try.f12.body.getD .skip) = true := by kernel_rfl
theorem gf13 : gfn Try.prog 13 = true := by kernel_rfl
theorem rs13 : Try.f13.results.toList = [.tmp 6] := by kernel_rfl
theorem ok13 : codeOk Try.prog Try.f13.ntmps (Try.f13.body.getD .skip) = true := by kernel_rfl
theorem gf14 : gfn Try.prog 14 = true := by kernel_rfl
theorem rs14 : Try.f14.results.toList = [.tmp 4] := by kernel_rfl
theorem ok14 : codeOk Try.prog Try.f14.ntmps (Try.f14.body.getD .skip) = true := by kernel_rfl
theorem gf24 : gfn Try.prog 24 = true := by kernel_rfl
theorem rs24 : Try.f24.results.toList = [.tmp 2] := by kernel_rfl
theorem ok24 : codeOk Try.prog Try.f24.ntmps (Try.f24.body.getD .skip) = true := by kernel_rfl
theorem gf25 : gfn Try.prog 25 = true := by kernel_rfl
theorem rs25 : Try.f25.results.toList = [.tmp 2] := by kernel_rfl
theorem ok25 : codeOk Try.prog Try.f25.ntmps (Try.f25.body.getD .skip) = true := by kernel_rfl
theorem gf26 : gfn Try.prog 26 = true := by kernel_rfl
theorem rs26 : Try.f26.results.toList = [] := by kernel_rfl
theorem ok26 : codeOk Try.prog Try.f26.ntmps (Try.f26.body.getD .skip) = true := by kernel_rfl
theorem gf27 : gfn Try.prog 27 = true := by kernel_rfl
theorem rs27 : Try.f27.results.toList = [.tmp 2] := by kernel_rfl
theorem ok27 : codeOk Try.prog Try.f27.ntmps (Try.f27.body.getD .skip) = true := by kernel_rfl
theorem gf28 : gfn Try.prog 28 = true := by kernel_rfl
theorem rs28 : Try.f28.results.toList = [] := by kernel_rfl
theorem ok28 : codeOk Try.prog Try.f28.ntmps (Try.f28.body.getD .skip) = true := by kernel_rfl
theorem gf29 : gfn Try.prog 29 = true := by kernel_rfl
theorem rs29 : Try.f29.results.toList = [] := by kernel_rfl
theorem ok29 : codeOk Try.prog Try.f29.ntmps (Try.f29.body.getD .skip) = true := by kernel_rfl
theorem gf30 : gfn Try.prog 30 = true := by kernel_rfl
theorem rs30 : Try.f30.results.toList = [.tmp 2] := by kernel_rfl
theorem ok30 : codeOk Try.prog Try.f30.ntmps (Try.f30.body.getD .skip) = true := by kernel_rfl
theorem gf31 : gfn Try.prog 31 = true := by kernel_rfl
theorem rs31 : Try.f31.results.toList = [.tmp 2] := by kernel_rfl
theorem ok31 : codeOk Try.prog Try.f31.ntmps (Try.f31.body.getD .skip) = true := by kernel_rfl
theorem gf32 : gfn Try.prog 32 = true := by kernel_rfl
theorem rs32 : Try.f32.results.toList = [.tmp 4] := by kernel_rfl
theorem ok32 : codeOk Try.prog Try.f32.ntmps (Try.f32.body.getD .skip) = true := by kernel_rfl
theorem gf33 : gfn Try.prog 33 = true := by kernel_rfl
theorem rs33 : Try.f33.results.toList = [.cell 4 27] := by kernel_rfl
theorem ok33 : codeOk Try.prog Try.f33.ntmps (Try.f33.body.getD .skip) = true := by kernel_rfl
theorem gf34 : gfn Try.prog 34 = true := by kernel_rfl
theorem rs34 : Try.f34.results.toList = [.tmp 2] := by kernel_rfl
theorem ok34 : codeOk Try.prog Try.f34.ntmps (Try.f34.body.getD .skip) = true := by kernel_rfl
theorem gf35 : gfn Try.prog 35 = true := by kernel_rfl
theorem rs35 : Try.f35.results.toList = [.cell 4 27] := by kernel_rfl
theorem ok35 : codeOk Try.prog Try.f35.ntmps (Try.f35.body.getD .skip) = true := by kernel_rfl
theorem gf36 : gfn Try.prog 36 = true := by kernel_rfl
theorem rs36 : Try.f36.results.toList = [.cell 4 27] := by kernel_rfl
theorem ok36 : codeOk Try.prog Try.f36.ntmps (Try.f36.body.getD .skip) = true := by kernel_rfl
theorem gf37 : gfn Try.prog 37 = true := by kernel_rfl
theorem rs37 : Try.f37.results.toList = [] := by kernel_rfl
theorem ok37 : codeOk Try.prog Try.f37.ntmps (Try.f37.body.getD .skip) = true := by kernel_rfl
theorem gf38 : gfn Try.prog 38 = true := by kernel_rfl
theorem rs38 : Try.f38.results.toList = [] := by kernel_rfl
theorem ok38 : codeOk Try.prog Try.f38.ntmps (Try.f38.body.getD .skip) = true := by kernel_rfl
theorem gf39 : gfn Try.prog 39 = true := by kernel_rfl
theorem rs39 : Try.f39.results.toList = [] := by kernel_rfl
theorem ok39 : codeOk Try.prog Try.f39.ntmps (Try.f39.body.getD .skip) = true := by kernel_rfl
theorem gf40 : gfn Try.prog 40 = true := by kernel_rfl
theorem rs40 : Try.f40.results.toList = [] := by kernel_rfl
theorem ok40 : codeOk Try.prog Try.f40.ntmps (Try.f40.body.getD .skip) = true := by kernel_rfl
theorem gf41 : gfn Try.prog 41 = true := by kernel_rfl
theorem rs41 : Try.f41.results.toList = [] := by kernel_rfl
theorem ok41 : codeOk Try.prog Try.f41.ntmps (Try.f41.body.getD .skip) = true := by kernel_rfl
theorem gf42 : gfn Try.prog 42 = true := by kernel_rfl
theorem rs42 : Try.f42.results.toList = [.tmp 4] := by kernel_rfl
theorem ok42 : codeOk Try.prog Try.f42.ntmps (Try.f42.body.getD .skip) = true := by kernel_rfl
theorem gf43 : gfn Try.prog 43 = true := by kernel_rfl
theorem rs43 : Try.f43.results.toList = [.tmp 4] := by kernel_rfl
theorem ok43 : codeOk Try.prog Try.f43.ntmps (Try.f43.body.getD .skip) = true := by kernel_rfl
theorem gf44 : gfn Try.prog 44 = true := by kernel_rfl
theorem rs44 : Try.f44.results.toList = [.tmp 4] := by kernel_rfl
theorem ok44 : codeOk Try.prog Try.f44.ntmps (Try.f44.body.getD .skip) = true := by kernel_rfl
theorem gf45 : gfn Try.prog 45 = true := by kernel_rfl
theorem rs45 : Try.f45.results.toList = [.tmp 4] := by kernel_rfl
theorem ok45 : codeOk Try.prog Try.f45.ntmps (Try.f45.body.getD .skip) = true := by kernel_rfl
theorem gf46 : gfn Try.prog 46 = true := by kernel_rfl
theorem rs46 : Try.f46.results.toList = [.tmp 4] := by kernel_rfl
theorem ok46 : codeOk Try.prog Try.f46.ntmps (Try.f46.body.getD .skip) = true := by kernel_rfl
theorem gf49 : gfn Try.prog 49 = true := by kernel_rfl
theorem rs49 : Try.f49.results.toList = [.tmp 4] := by kernel_rfl
theorem ok49 : codeOk Try.prog Try.f49.ntmps (Try.f49.body.getD .skip) = true := by kernel_rfl
theorem gf51 : gfn Try.prog 51 = true := by kernel_rfl
theorem rs51 : Try.f51.results.toList = [.tmp 4] := by kernel_rfl
theorem ok51 : codeOk Try.prog Try.f51.ntmps (Try.f51.body.getD .skip) = true := by kernel_rfl
theorem gf62 : gfn Try.prog 62 = true := by kernel_rfl
theorem rs62 : Try.f62.results.toList = [.tmp 2] := by kernel_rfl
theorem ok62 : codeOk Try.prog Try.f62.ntmps (Try.f62.body.getD .skip) = true := by kernel_rfl
theorem gf63 : gfn Try.prog 63 = true := by kernel_rfl
theorem rs63 : Try.f63.results.toList = [.tmp 2] := by kernel_rfl
theorem ok63 : codeOk Try.prog Try.f63.ntmps (Try.f63.body.getD .skip) = true := by kernel_rfl
theorem gf64 : gfn Try.prog 64 = true := by kernel_rfl
theorem rs64 : Try.f64.results.toList = [.tmp 4] := by kernel_rfl
theorem ok64 : codeOk Try.prog Try.f64.ntmps (Try.f64.body.getD .skip) = true := by kernel_rfl
theorem gf65 : gfn Try.prog 65 = true := by kernel_rfl
theorem rs65 : Try.f65.results.toList = [.tmp 6] := by kernel_rfl
theorem ok65 : codeOk Try.prog Try.f65.ntmps (Try.f65.body.getD .skip) = true := by kernel_rfl
theorem gf66 : gfn Try.prog 66 = true := by kernel_rfl
theorem rs66 : Try.f66.results.toList = [.tmp 2] := by kernel_rfl
theorem ok66 : codeOk Try.prog Try.f66.ntmps (Try.f66.body.getD .skip) = true := by kernel_rfl
theorem gf67 : gfn Try.prog 67 = true := by kernel_rfl
theorem rs67 : Try.f67.results.toList = [.tmp 4] := by kernel_rfl
theorem ok67 : codeOk Try.prog Try.f67.ntmps (Try.f67.body.getD .skip) = true := by kernel_rfl
theorem gf68 : gfn Try.prog 68 = true := by kernel_rfl
theorem rs68 : Try.f68.results.toList = [] := by kernel_rfl
theorem ok68 : codeOk Try.prog Try.f68.ntmps (Try.f68.body.getD .skip) = true := by kernel_rfl
theorem gf69 : gfn Try.prog 69 = true := by kernel_rfl
theorem rs69 : Try.f69.results.toList = [.tmp 4] := by kernel_rfl
theorem ok69 : codeOk Try.prog Try.f69.ntmps (Try.f69.body.getD .skip) = true := by kernel_rfl
theorem gf70 : gfn Try.prog 70 = true := by kernel_rfl
theorem rs70 : Try.f70.results.toList = [] := by kernel_rfl
theorem ok70 : codeOk Try.prog Try.f70.ntmps (Try.f70.body.getD .skip) = true := by kernel_rfl
theorem gf71 : gfn Try.prog 71 = true := by kernel_rfl
theorem rs71 : Try.f71.results.toList = [.tmp 4] := by kernel_rfl
theorem ok71 : codeOk Try.prog Try.f71.ntmps (Try.f71.body.getD .skip) = true := by kernel_rfl
theorem gf72 : gfn Try.prog 72 = true := by kernel_rfl
theorem rs72 : Try.f72.results.toList = [.tmp 2] := by kernel_rfl
theorem ok72 : codeOk Try.prog Try.f72.ntmps (Try.f72.body.getD .skip) = true := by kernel_rfl
theorem gf74 : gfn Try.prog 74 = true := by kernel_rfl
theorem rs74 : Try.f74.results.toList = [.tmp 4] := by kernel_rfl
theorem ok74 : codeOk Try.prog Try.f74.ntmps (Try.f74.body.getD .skip) = true := by kernel_rfl
theorem gf75 : gfn Try.prog 75 = true := by kernel_rfl
theorem rs75 : Try.f75.results.toList = [.tmp 4] := by kernel_rfl
theorem ok75 : codeOk Try.prog Try.f75.ntmps (Try.f75.body.getD .skip) = true := by kernel_rfl
theorem gf77 : gfn Try.prog 77 = true := by kernel_rfl
theorem rs77 : Try.f77.results.toList = [.tmp 2] := by kernel_rfl
theorem ok77 : codeOk Try.prog Try.f77.ntmps (Try.f77.body.getD .skip) = true := by kernel_rfl
theorem gf94 : gfn Try.prog 94 = true := by kernel_rfl
theorem rs94 : Try.f94.results.toList = [] := by kernel_rfl
theorem ok94 : codeOk Try.prog Try.f94.ntmps (Try.f94.body.getD .skip) = true := by kernel_rfl
theorem gf95 : gfn Try.prog 95 = true := by kernel_rfl
theorem rs95 : Try.f95.results.toList = [] := by kernel_rfl
theorem ok95 : codeOk Try.prog Try.f95.ntmps (Try.f95.body.getD .skip) = true := by kernel_rfl
theorem gf96 : gfn Try.prog 96 = true := by kernel_rfl
theorem rs96 : Try.f96.results.toList = [] := by kernel_rfl
theorem ok96 : codeOk Try.prog Try.f96.ntmps (Try.f96.body.getD .skip) = true := by kernel_rfl
theorem gf97 : gfn Try.prog 97 = true := by kernel_rfl
theorem rs97 : Try.f97.results.toList = [] := by kernel_rfl
theorem ok97 : codeOk Try.prog Try.f97.ntmps (Try.f97.body.getD .skip) = true := by kernel_rfl
theorem sz3 : gsz Try.prog 3 = some (false, 1) := by kernel_rfl
theorem zr3 : gzero Try.prog 3 = some [.int .i64 0] := by kernel_rfl
theorem ni3 : notIface Try.prog 3 = true := by kernel_rfl
theorem sz4 : gsz Try.prog 4 = some (false, 1) := by kernel_rfl
theorem zr4 : gzero Try.prog 4 = some [.bool false] := by kernel_rfl
theorem ni4 : notIface Try.prog 4 = true := by kernel_rfl
theorem sz5 : gsz Try.prog 5 = some (false, 1) := by kernel_rfl
theorem zr5 : gzero Try.prog 5 = some [.int .u8 0] := by kernel_rfl
theorem ni5 : notIface Try.prog 5 = true := by kernel_rfl
theorem sz9 : gsz Try.prog 9 = some (false, 1) := by kernel_rfl
theorem zr9 : gzero Try.prog 9 = some [.string ByteArray.empty] := by kernel_rfl
theorem ni9 : notIface Try.prog 9 = true := by kernel_rfl
theorem sz22 : gsz Try.prog 22 = some (false, 1) := by kernel_rfl
theorem el22 : gel Try.prog 22 = some (5, 1, 1, .int .u8 0) := by kernel_rfl
theorem zr22 : gzero Try.prog 22 = some [.slice none 0 0] := by kernel_rfl
theorem ni22 : notIface Try.prog 22 = true := by kernel_rfl
theorem sz23 : gsz Try.prog 23 = some (false, 1) := by kernel_rfl
theorem zr23 : gzero Try.prog 23 = some [.int .i64 0] := by kernel_rfl
theorem ni23 : notIface Try.prog 23 = true := by kernel_rfl
theorem sz24 : gsz Try.prog 24 = some (false, 1) := by kernel_rfl
theorem el24 : gel Try.prog 24 = some (73, 3, 56, .agg #[.slice none 0 0, .slice none 0 0, .int .i64 0]) := by kernel_rfl
theorem zr24 : gzero Try.prog 24 = some [.slice none 0 0] := by kernel_rfl
theorem ni24 : notIface Try.prog 24 = true := by kernel_rfl
theorem sz25 : gsz Try.prog 25 = some (false, 1) := by kernel_rfl
theorem el25 : gel Try.prog 25 = some (76, 4, 64, .agg #[.int .i64 0, .int .i64 0, .slice none 0 0, .slice none 0 0]) := by kernel_rfl
theorem zr25 : gzero Try.prog 25 = some [.slice none 0 0] := by kernel_rfl
theorem ni25 : notIface Try.prog 25 = true := by kernel_rfl
theorem sz27 : gsz Try.prog 27 = some (true, 9) := by kernel_rfl
theorem zr27 : gzero Try.prog 27 = some [.int .i64 0, .int .i64 0, .bool false, .bool false, .slice none 0 0, .int .i64 0, .slice none 0 0, .slice none 0 0, .bool false] := by kernel_rfl
theorem fo27_0 : gfo Try.prog 27 0 = some (23, 0) := by kernel_rfl
theorem fo27_1 : gfo Try.prog 27 1 = some (3, 1) := by kernel_rfl
theorem fo27_2 : gfo Try.prog 27 2 = some (4, 2) := by kernel_rfl
theorem fo27_3 : gfo Try.prog 27 3 = some (4, 3) := by kernel_rfl
theorem fo27_4 : gfo Try.prog 27 4 = some (22, 4) := by kernel_rfl
theorem fo27_5 : gfo Try.prog 27 5 = some (3, 5) := by kernel_rfl
theorem fo27_6 : gfo Try.prog 27 6 = some (24, 6) := by kernel_rfl
theorem fo27_7 : gfo Try.prog 27 7 = some (25, 7) := by kernel_rfl
theorem fo27_8 : gfo Try.prog 27 8 = some (4, 8) := by kernel_rfl
theorem sh27 : gshape Try.prog 27 = some (.fields [(0, 1), (1, 1), (2, 1), (3, 1), (4, 1), (5, 1), (6, 1), (7, 1), (8, 1)], [.int .i64 0, .int .i64 0, .bool false, .bool false, .slice none 0 0, .int .i64 0, .slice none 0 0, .slice none 0 0, .bool false]) := by kernel_rfl
theorem ni27 : notIface Try.prog 27 = true := by kernel_rfl
theorem sz29 : gsz Try.prog 29 = some (false, 1) := by kernel_rfl
theorem sz36 : gsz Try.prog 36 = some (false, 1) := by kernel_rfl
theorem el36 : gel Try.prog 36 = some (120, 2, 48, .agg #[.slice none 0 0, .slice none 0 0]) := by kernel_rfl
theorem zr36 : gzero Try.prog 36 = some [.slice none 0 0] := by kernel_rfl
theorem ni36 : notIface Try.prog 36 = true := by kernel_rfl
theorem sz50 : gsz Try.prog 50 = some (false, 1) := by kernel_rfl
theorem zr50 : gzero Try.prog 50 = some [.pointer none] := by kernel_rfl
theorem ni50 : notIface Try.prog 50 = true := by kernel_rfl
theorem sz53 : gsz Try.prog 53 = some (true, 1) := by kernel_rfl
theorem zr53 : gzero Try.prog 53 = some [.pointer none] := by kernel_rfl
theorem fo53_0 : gfo Try.prog 53 0 = some (50, 0) := by kernel_rfl
theorem sh53 : gshape Try.prog 53 = some (.fields [(0, 1)], [.pointer none]) := by kernel_rfl
theorem ni53 : notIface Try.prog 53 = true := by kernel_rfl
theorem sz56 : gsz Try.prog 56 = some (false, 1) := by kernel_rfl
theorem zr56 : gzero Try.prog 56 = some [.pointer none] := by kernel_rfl
theorem ni56 : notIface Try.prog 56 = true := by kernel_rfl
theorem sz58 : gsz Try.prog 58 = some (false, 1) := by kernel_rfl
theorem zr58 : gzero Try.prog 58 = some [.pointer none] := by kernel_rfl
theorem ni58 : notIface Try.prog 58 = true := by kernel_rfl
theorem sz60 : gsz Try.prog 60 = some (true, 2) := by kernel_rfl
theorem zr60 : gzero Try.prog 60 = some [.slice none 0 0, .int .i64 0] := by kernel_rfl
theorem fo60_0 : gfo Try.prog 60 0 = some (22, 0) := by kernel_rfl
theorem fo60_1 : gfo Try.prog 60 1 = some (23, 1) := by kernel_rfl
theorem sh60 : gshape Try.prog 60 = some (.fields [(0, 1), (1, 1)], [.slice none 0 0, .int .i64 0]) := by kernel_rfl
theorem ni60 : notIface Try.prog 60 = true := by kernel_rfl
theorem sz63 : gsz Try.prog 63 = some (false, 1) := by kernel_rfl
theorem zr63 : gzero Try.prog 63 = some [.pointer none] := by kernel_rfl
theorem ni63 : notIface Try.prog 63 = true := by kernel_rfl
theorem sz65 : gsz Try.prog 65 = some (true, 1) := by kernel_rfl
theorem zr65 : gzero Try.prog 65 = some [.slice none 0 0] := by kernel_rfl
theorem fo65_0 : gfo Try.prog 65 0 = some (22, 0) := by kernel_rfl
theorem sh65 : gshape Try.prog 65 = some (.fields [(0, 1)], [.slice none 0 0]) := by kernel_rfl
theorem ni65 : notIface Try.prog 65 = true := by kernel_rfl
theorem sz73 : gsz Try.prog 73 = some (true, 3) := by kernel_rfl
theorem zr73 : gzero Try.prog 73 = some [.slice none 0 0, .slice none 0 0, .int .i64 0] := by kernel_rfl
theorem fo73_0 : gfo Try.prog 73 0 = some (22, 0) := by kernel_rfl
theorem fo73_1 : gfo Try.prog 73 1 = some (22, 1) := by kernel_rfl
theorem fo73_2 : gfo Try.prog 73 2 = some (3, 2) := by kernel_rfl
theorem sh73 : gshape Try.prog 73 = some (.fields [(0, 1), (1, 1), (2, 1)], [.slice none 0 0, .slice none 0 0, .int .i64 0]) := by kernel_rfl
theorem ni73 : notIface Try.prog 73 = true := by kernel_rfl
theorem sz76 : gsz Try.prog 76 = some (true, 4) := by kernel_rfl
theorem zr76 : gzero Try.prog 76 = some [.int .i64 0, .int .i64 0, .slice none 0 0, .slice none 0 0] := by kernel_rfl
theorem fo76_0 : gfo Try.prog 76 0 = some (3, 0) := by kernel_rfl
theorem fo76_1 : gfo Try.prog 76 1 = some (3, 1) := by kernel_rfl
theorem fo76_2 : gfo Try.prog 76 2 = some (22, 2) := by kernel_rfl
theorem fo76_3 : gfo Try.prog 76 3 = some (22, 3) := by kernel_rfl
theorem sh76 : gshape Try.prog 76 = some (.fields [(0, 1), (1, 1), (2, 1), (3, 1)], [.int .i64 0, .int .i64 0, .slice none 0 0, .slice none 0 0]) := by kernel_rfl
theorem ni76 : notIface Try.prog 76 = true := by kernel_rfl
theorem sz78 : gsz Try.prog 78 = some (true, 1) := by kernel_rfl
theorem zr78 : gzero Try.prog 78 = some [.bool false] := by kernel_rfl
theorem fo78_0 : gfo Try.prog 78 0 = some (4, 0) := by kernel_rfl
theorem sh78 : gshape Try.prog 78 = some (.fields [(0, 1)], [.bool false]) := by kernel_rfl
theorem ni78 : notIface Try.prog 78 = true := by kernel_rfl
theorem sz100 : gsz Try.prog 100 = some (true, 3) := by kernel_rfl
theorem zr100 : gzero Try.prog 100 = some [.bool false, .slice none 0 0, .int .i64 0] := by kernel_rfl
theorem fo100_0 : gfo Try.prog 100 0 = some (4, 0) := by kernel_rfl
theorem fo100_1 : gfo Try.prog 100 1 = some (22, 1) := by kernel_rfl
theorem fo100_2 : gfo Try.prog 100 2 = some (23, 2) := by kernel_rfl
theorem sh100 : gshape Try.prog 100 = some (.fields [(0, 1), (1, 1), (2, 1)], [.bool false, .slice none 0 0, .int .i64 0]) := by kernel_rfl
theorem ni100 : notIface Try.prog 100 = true := by kernel_rfl
theorem sz104 : gsz Try.prog 104 = some (false, 1) := by kernel_rfl
theorem zr104 : gzero Try.prog 104 = some [.int .u64 0] := by kernel_rfl
theorem ni104 : notIface Try.prog 104 = true := by kernel_rfl
theorem sz105 : gsz Try.prog 105 = some (false, 1) := by kernel_rfl
theorem zr105 : gzero Try.prog 105 = some [.int .u64 0] := by kernel_rfl
theorem ni105 : notIface Try.prog 105 = true := by kernel_rfl
theorem sz120 : gsz Try.prog 120 = some (true, 2) := by kernel_rfl
theorem zr120 : gzero Try.prog 120 = some [.slice none 0 0, .slice none 0 0] := by kernel_rfl
theorem fo120_0 : gfo Try.prog 120 0 = some (22, 0) := by kernel_rfl
theorem fo120_1 : gfo Try.prog 120 1 = some (22, 1) := by kernel_rfl
theorem sh120 : gshape Try.prog 120 = some (.fields [(0, 1), (1, 1)], [.slice none 0 0, .slice none 0 0]) := by kernel_rfl
theorem ni120 : notIface Try.prog 120 = true := by kernel_rfl
theorem sz123 : gsz Try.prog 123 = some (false, 1) := by kernel_rfl
theorem zr123 : gzero Try.prog 123 = some [.int .u32 0] := by kernel_rfl
theorem ni123 : notIface Try.prog 123 = true := by kernel_rfl
theorem cv3_5 : ∀ (h : GH) (n : Int), gConvO Try.prog 3 5 h (.int .i64 n) = some (.int .u8 (IntKind.wrap .u8 n)) := by intros; simp [gConvO, gConv, Try.underlying3, Try.underlying5]
theorem cv3_105 : ∀ (h : GH) (n : Int), gConvO Try.prog 3 105 h (.int .i64 n) = some (.int .u64 (IntKind.wrap .u64 n)) := by intros; simp [gConvO, gConv, Try.underlying3, Try.underlying105]
theorem cv5_3 : ∀ (h : GH) (n : Int), gConvO Try.prog 5 3 h (.int .u8 n) = some (.int .i64 (IntKind.wrap .i64 n)) := by intros; simp [gConvO, gConv, Try.underlying5, Try.underlying3]
theorem cv5_104 : ∀ (h : GH) (n : Int), gConvO Try.prog 5 104 h (.int .u8 n) = some (.int .u64 (IntKind.wrap .u64 n)) := by intros; simp [gConvO, gConv, Try.underlying5, Try.underlying104]
theorem cv104_3 : ∀ (h : GH) (n : Int), gConvO Try.prog 104 3 h (.int .u64 n) = some (.int .i64 (IntKind.wrap .i64 n)) := by intros; simp [gConvO, gConv, Try.underlying104, Try.underlying3]
theorem cv104_5 : ∀ (h : GH) (n : Int), gConvO Try.prog 104 5 h (.int .u64 n) = some (.int .u8 (IntKind.wrap .u8 n)) := by intros; simp [gConvO, gConv, Try.underlying104, Try.underlying5]
theorem cv105_123 : ∀ (h : GH) (n : Int), gConvO Try.prog 105 123 h (.int .u64 n) = some (.int .u32 (IntKind.wrap .u32 n)) := by intros; simp [gConvO, gConv, Try.underlying105, Try.underlying123]
theorem mixed : Try.prog.follows .mixedOrders = true := by kernel_rfl
theorem ty3 : (notIface Try.prog 3 = true) ∧ (gsz Try.prog 3 = some (false, 1)) ∧ (gzero Try.prog 3 = some [.int .i64 0]) := ⟨ni3, sz3, zr3⟩
theorem ty4 : (notIface Try.prog 4 = true) ∧ (gsz Try.prog 4 = some (false, 1)) ∧ (gzero Try.prog 4 = some [.bool false]) := ⟨ni4, sz4, zr4⟩
theorem ty5 : (notIface Try.prog 5 = true) ∧ (gsz Try.prog 5 = some (false, 1)) ∧ (gzero Try.prog 5 = some [.int .u8 0]) := ⟨ni5, sz5, zr5⟩
theorem ty9 : (notIface Try.prog 9 = true) ∧ (gsz Try.prog 9 = some (false, 1)) ∧ (gzero Try.prog 9 = some [.string ByteArray.empty]) := ⟨ni9, sz9, zr9⟩
theorem ty22 : (gel Try.prog 22 = some (5, 1, 1, .int .u8 0)) ∧ (notIface Try.prog 22 = true) ∧ (gsz Try.prog 22 = some (false, 1)) ∧ (gzero Try.prog 22 = some [.slice none 0 0]) := ⟨el22, ni22, sz22, zr22⟩
theorem ty23 : (notIface Try.prog 23 = true) ∧ (gsz Try.prog 23 = some (false, 1)) ∧ (gzero Try.prog 23 = some [.int .i64 0]) := ⟨ni23, sz23, zr23⟩
theorem ty24 : (gel Try.prog 24 = some (73, 3, 56, .agg #[.slice none 0 0, .slice none 0 0, .int .i64 0])) ∧ (notIface Try.prog 24 = true) ∧ (gsz Try.prog 24 = some (false, 1)) ∧ (gzero Try.prog 24 = some [.slice none 0 0]) := ⟨el24, ni24, sz24, zr24⟩
theorem ty25 : (gel Try.prog 25 = some (76, 4, 64, .agg #[.int .i64 0, .int .i64 0, .slice none 0 0, .slice none 0 0])) ∧ (notIface Try.prog 25 = true) ∧ (gsz Try.prog 25 = some (false, 1)) ∧ (gzero Try.prog 25 = some [.slice none 0 0]) := ⟨el25, ni25, sz25, zr25⟩
theorem ty27 : (gfo Try.prog 27 0 = some (23, 0)) ∧ (gfo Try.prog 27 1 = some (3, 1)) ∧ (gfo Try.prog 27 2 = some (4, 2)) ∧ (gfo Try.prog 27 3 = some (4, 3)) ∧ (gfo Try.prog 27 4 = some (22, 4)) ∧ (gfo Try.prog 27 5 = some (3, 5)) ∧ (gfo Try.prog 27 6 = some (24, 6)) ∧ (gfo Try.prog 27 7 = some (25, 7)) ∧ (gfo Try.prog 27 8 = some (4, 8)) ∧ (notIface Try.prog 27 = true) ∧ (gshape Try.prog 27 = some (.fields [(0, 1), (1, 1), (2, 1), (3, 1), (4, 1), (5, 1), (6, 1), (7, 1), (8, 1)], [.int .i64 0, .int .i64 0, .bool false, .bool false, .slice none 0 0, .int .i64 0, .slice none 0 0, .slice none 0 0, .bool false])) ∧ (gsz Try.prog 27 = some (true, 9)) ∧ (gzero Try.prog 27 = some [.int .i64 0, .int .i64 0, .bool false, .bool false, .slice none 0 0, .int .i64 0, .slice none 0 0, .slice none 0 0, .bool false]) := ⟨fo27_0, fo27_1, fo27_2, fo27_3, fo27_4, fo27_5, fo27_6, fo27_7, fo27_8, ni27, sh27, sz27, zr27⟩
theorem ty36 : (gel Try.prog 36 = some (120, 2, 48, .agg #[.slice none 0 0, .slice none 0 0])) ∧ (notIface Try.prog 36 = true) ∧ (gsz Try.prog 36 = some (false, 1)) ∧ (gzero Try.prog 36 = some [.slice none 0 0]) := ⟨el36, ni36, sz36, zr36⟩
theorem ty50 : (notIface Try.prog 50 = true) ∧ (gsz Try.prog 50 = some (false, 1)) ∧ (gzero Try.prog 50 = some [.pointer none]) := ⟨ni50, sz50, zr50⟩
theorem ty53 : (gfo Try.prog 53 0 = some (50, 0)) ∧ (notIface Try.prog 53 = true) ∧ (gshape Try.prog 53 = some (.fields [(0, 1)], [.pointer none])) ∧ (gsz Try.prog 53 = some (true, 1)) ∧ (gzero Try.prog 53 = some [.pointer none]) := ⟨fo53_0, ni53, sh53, sz53, zr53⟩
theorem ty56 : (notIface Try.prog 56 = true) ∧ (gsz Try.prog 56 = some (false, 1)) ∧ (gzero Try.prog 56 = some [.pointer none]) := ⟨ni56, sz56, zr56⟩
theorem ty58 : (notIface Try.prog 58 = true) ∧ (gsz Try.prog 58 = some (false, 1)) ∧ (gzero Try.prog 58 = some [.pointer none]) := ⟨ni58, sz58, zr58⟩
theorem ty60 : (gfo Try.prog 60 0 = some (22, 0)) ∧ (gfo Try.prog 60 1 = some (23, 1)) ∧ (notIface Try.prog 60 = true) ∧ (gshape Try.prog 60 = some (.fields [(0, 1), (1, 1)], [.slice none 0 0, .int .i64 0])) ∧ (gsz Try.prog 60 = some (true, 2)) ∧ (gzero Try.prog 60 = some [.slice none 0 0, .int .i64 0]) := ⟨fo60_0, fo60_1, ni60, sh60, sz60, zr60⟩
theorem ty63 : (notIface Try.prog 63 = true) ∧ (gsz Try.prog 63 = some (false, 1)) ∧ (gzero Try.prog 63 = some [.pointer none]) := ⟨ni63, sz63, zr63⟩
theorem ty65 : (gfo Try.prog 65 0 = some (22, 0)) ∧ (notIface Try.prog 65 = true) ∧ (gshape Try.prog 65 = some (.fields [(0, 1)], [.slice none 0 0])) ∧ (gsz Try.prog 65 = some (true, 1)) ∧ (gzero Try.prog 65 = some [.slice none 0 0]) := ⟨fo65_0, ni65, sh65, sz65, zr65⟩
theorem ty73 : (gfo Try.prog 73 0 = some (22, 0)) ∧ (gfo Try.prog 73 1 = some (22, 1)) ∧ (gfo Try.prog 73 2 = some (3, 2)) ∧ (notIface Try.prog 73 = true) ∧ (gshape Try.prog 73 = some (.fields [(0, 1), (1, 1), (2, 1)], [.slice none 0 0, .slice none 0 0, .int .i64 0])) ∧ (gsz Try.prog 73 = some (true, 3)) ∧ (gzero Try.prog 73 = some [.slice none 0 0, .slice none 0 0, .int .i64 0]) := ⟨fo73_0, fo73_1, fo73_2, ni73, sh73, sz73, zr73⟩
theorem ty76 : (gfo Try.prog 76 0 = some (3, 0)) ∧ (gfo Try.prog 76 1 = some (3, 1)) ∧ (gfo Try.prog 76 2 = some (22, 2)) ∧ (gfo Try.prog 76 3 = some (22, 3)) ∧ (notIface Try.prog 76 = true) ∧ (gshape Try.prog 76 = some (.fields [(0, 1), (1, 1), (2, 1), (3, 1)], [.int .i64 0, .int .i64 0, .slice none 0 0, .slice none 0 0])) ∧ (gsz Try.prog 76 = some (true, 4)) ∧ (gzero Try.prog 76 = some [.int .i64 0, .int .i64 0, .slice none 0 0, .slice none 0 0]) := ⟨fo76_0, fo76_1, fo76_2, fo76_3, ni76, sh76, sz76, zr76⟩
theorem ty78 : (gfo Try.prog 78 0 = some (4, 0)) ∧ (notIface Try.prog 78 = true) ∧ (gshape Try.prog 78 = some (.fields [(0, 1)], [.bool false])) ∧ (gsz Try.prog 78 = some (true, 1)) ∧ (gzero Try.prog 78 = some [.bool false]) := ⟨fo78_0, ni78, sh78, sz78, zr78⟩
theorem ty100 : (gfo Try.prog 100 0 = some (4, 0)) ∧ (gfo Try.prog 100 1 = some (22, 1)) ∧ (gfo Try.prog 100 2 = some (23, 2)) ∧ (notIface Try.prog 100 = true) ∧ (gshape Try.prog 100 = some (.fields [(0, 1), (1, 1), (2, 1)], [.bool false, .slice none 0 0, .int .i64 0])) ∧ (gsz Try.prog 100 = some (true, 3)) ∧ (gzero Try.prog 100 = some [.bool false, .slice none 0 0, .int .i64 0]) := ⟨fo100_0, fo100_1, fo100_2, ni100, sh100, sz100, zr100⟩
theorem ty104 : (notIface Try.prog 104 = true) ∧ (gsz Try.prog 104 = some (false, 1)) ∧ (gzero Try.prog 104 = some [.int .u64 0]) := ⟨ni104, sz104, zr104⟩
theorem ty105 : (notIface Try.prog 105 = true) ∧ (gsz Try.prog 105 = some (false, 1)) ∧ (gzero Try.prog 105 = some [.int .u64 0]) := ⟨ni105, sz105, zr105⟩
theorem ty120 : (gfo Try.prog 120 0 = some (22, 0)) ∧ (gfo Try.prog 120 1 = some (22, 1)) ∧ (notIface Try.prog 120 = true) ∧ (gshape Try.prog 120 = some (.fields [(0, 1), (1, 1)], [.slice none 0 0, .slice none 0 0])) ∧ (gsz Try.prog 120 = some (true, 2)) ∧ (gzero Try.prog 120 = some [.slice none 0 0, .slice none 0 0]) := ⟨fo120_0, fo120_1, ni120, sh120, sz120, zr120⟩
theorem ty123 : (notIface Try.prog 123 = true) ∧ (gsz Try.prog 123 = some (false, 1)) ∧ (gzero Try.prog 123 = some [.int .u32 0]) := ⟨ni123, sz123, zr123⟩
end Go.Gh

/- Contracts of bits and its reference: one bit, equality. -/
namespace Go.Gh
open Go Go.Proofs Go.RowKit
set_option linter.unusedVariables false
set_option linter.unusedSimpArgs false
set_option maxRecDepth 100000

theorem c_Equal (N : Nat) (h : GH) {a b : Option Addr} {n m c d : Nat} {l k : List UInt8} (r1 : RB h (.slice a n c) l) (r2 : RB h (.slice b m d) k) : GTri Try.prog N 11 [.slice a n c, .slice b m d] h fun v h' => v = .bool (l == k) ∧ h' = h := by
  refine gtri Try.func11 rfl gf11 ok11 (by simp [Try.ntmps11]) ?_
  repeat' (first | (with_reducible first | refine gw_seq ?_ | refine gw_block ?_) | ((first | (with_reducible first | refine gw_region ?_ | refine gw_if ?_ | refine gw_skip ?_ | refine gw_exit ?_ | refine gw_ret ?_) | ((with_reducible first | refine gif_b (fun hb => ?_) (fun hb => ?_) | refine want_t (fun hb => ?_) (fun hb => ?_) | refine want_f (fun hb => ?_) (fun hb => ?_)) <;> (try simp only [hb]))) <;> try simp only [List.map, gop, ev, lk, aenv, gyield, gBin, gInt, gStrOp, gUn, gPick, gNil, gExtract, gIfc, gConvK, gIndexO, gIndexVO, gMakeV, gMinV, gMaxV, isInt, gMin, gMax, gBlt, gCallV, gInvoke, gNilM, Array.toList_map, vcells, gField, gIndexV, gPart, reduceIte, Nat.reduceAdd, Nat.reduceSub, Nat.reduceMul, Nat.reduceLT, Nat.reduceLeDiff, Nat.reduceEqDiff, Nat.reduceBEq, Int.reduceLT, Int.reduceLE, Int.reduceGT, Int.reduceGE, Int.reduceEq, Int.reduceNe, Int.reduceAdd, Int.reduceSub, Int.reduceMul, Int.reduceNeg, Int.reduceToNat, Int.reduceBEq, Int.reduceBNe, Int.cast_ofNat_Int, List.getElem?_toArray, stp, Try.underlying22, Try.underlying5, Try.underlying9, ty22, ty5, ty9, rs11, r1.conv Try.underlying22 Try.underlying5 Try.underlying9, r2.conv Try.underlying22 Try.underlying5 Try.underlying9, bstr_eq]))

end Go.Gh

/- The length of a number in bits. -/
namespace Go.Gh
open Go Go.Proofs Go.RowKit
def len8 (x : Nat) : Nat := if x = 0 then 0 else Nat.log2 x + 1
end Go.Gh

/- Contracts of the library's clones: buffers of one's own. -/
namespace Go.Gh
open Go Go.Proofs Go.RowKit
set_option linter.unusedVariables false
set_option linter.unusedSimpArgs false
set_option maxRecDepth 100000

theorem c_SClone (N : Nat) (h : GH) {a : Option Addr} {n c : Nat} {l : List UInt8} (r : RB h (.slice a n c) l) (hl : l.length ≤ 140737488355328) : GTri Try.prog N 62 [.slice a n c] h fun v h' => HS h h' ∧ OWN h h' v l := by
  refine gtri Try.func62 rfl gf62 ok62 (by simp [Try.ntmps62]) ?_
  repeat' (first | (with_reducible first | refine gw_seq ?_ | refine gw_block ?_) | ((first | (with_reducible first | refine gw_region ?_ | refine gw_if ?_ | refine gw_skip ?_ | refine gw_exit ?_ | refine gw_ret ?_) | ((with_reducible first | refine gif_b (fun hb => ?_) (fun hb => ?_) | refine want_t (fun hb => ?_) (fun hb => ?_) | refine want_f (fun hb => ?_) (fun hb => ?_)) <;> (try simp only [hb]))) <;> try simp only [List.map, gop, ev, lk, aenv, gyield, gBin, gInt, gStrOp, gUn, gPick, gNil, gExtract, gIfc, gConvK, gIndexO, gIndexVO, gMakeV, gMinV, gMaxV, isInt, gMin, gMax, gBlt, gCallV, gInvoke, gNilM, Array.toList_map, vcells, gField, gIndexV, gPart, reduceIte, Nat.reduceAdd, Nat.reduceSub, Nat.reduceMul, Nat.reduceLT, Nat.reduceLeDiff, Nat.reduceEqDiff, Nat.reduceBEq, Int.reduceLT, Int.reduceLE, Int.reduceGT, Int.reduceGE, Int.reduceEq, Int.reduceNe, Int.reduceAdd, Int.reduceSub, Int.reduceMul, Int.reduceNeg, Int.reduceToNat, Int.reduceBEq, Int.reduceBNe, Int.cast_ofNat_Int, List.getElem?_toArray, stp, Try.underlying22, Try.underlying5, ty22, ty5, rs62]))
  · obtain rfl := r.isnil hb
    exact ⟨HS.refl h, OWN.nil h h⟩
  · refine bs0_g el22 rfl ?_
    simp only [List.map, gop, ev, lk, aenv, gyield, gBin, gInt, gStrOp, gUn, gPick, gNil, gExtract, gIfc, gConvK, gIndexO, gIndexVO, gMakeV, gMinV, gMaxV, isInt, gMin, gMax, gBlt, gCallV, gInvoke, gNilM, Array.toList_map, vcells, gField, gIndexV, gPart, reduceIte, Nat.reduceAdd, Nat.reduceSub, Nat.reduceMul, Nat.reduceLT, Nat.reduceLeDiff, Nat.reduceEqDiff, Nat.reduceBEq, Int.reduceLT, Int.reduceLE, Int.reduceGT, Int.reduceGE, Int.reduceEq, Int.reduceNe, Int.reduceAdd, Int.reduceSub, Int.reduceMul, Int.reduceNeg, Int.reduceToNat, Int.reduceBEq, Int.reduceBNe, Int.cast_ofNat_Int, List.getElem?_toArray, stp, Try.underlying22, Try.underlying5, ty22, ty5, rs62]
    refine append_own el22 Try.underlying22 rfl (HS.refl h) (.inr (.inl ⟨_, rfl, rfl⟩)) r.src (by simpa using hl) fun v h' s1 _ o => ?_
    simp only [List.map, gop, ev, lk, aenv, gyield, gBin, gInt, gStrOp, gUn, gPick, gNil, gExtract, gIfc, gConvK, gIndexO, gIndexVO, gMakeV, gMinV, gMaxV, isInt, gMin, gMax, gBlt, gCallV, gInvoke, gNilM, Array.toList_map, vcells, gField, gIndexV, gPart, reduceIte, Nat.reduceAdd, Nat.reduceSub, Nat.reduceMul, Nat.reduceLT, Nat.reduceLeDiff, Nat.reduceEqDiff, Nat.reduceBEq, Int.reduceLT, Int.reduceLE, Int.reduceGT, Int.reduceGE, Int.reduceEq, Int.reduceNe, Int.reduceAdd, Int.reduceSub, Int.reduceMul, Int.reduceNeg, Int.reduceToNat, Int.reduceBEq, Int.reduceBNe, Int.cast_ofNat_Int, List.getElem?_toArray, stp, Try.underlying22, Try.underlying5, ty22, ty5, rs62]
    repeat' (first | (with_reducible first | refine gw_seq ?_ | refine gw_block ?_) | ((first | (with_reducible first | refine gw_region ?_ | refine gw_if ?_ | refine gw_skip ?_ | refine gw_exit ?_ | refine gw_ret ?_) | ((with_reducible first | refine gif_b (fun hb => ?_) (fun hb => ?_) | refine want_t (fun hb => ?_) (fun hb => ?_) | refine want_f (fun hb => ?_) (fun hb => ?_)) <;> (try simp only [hb]))) <;> try simp only [List.map, gop, ev, lk, aenv, gyield, gBin, gInt, gStrOp, gUn, gPick, gNil, gExtract, gIfc, gConvK, gIndexO, gIndexVO, gMakeV, gMinV, gMaxV, isInt, gMin, gMax, gBlt, gCallV, gInvoke, gNilM, Array.toList_map, vcells, gField, gIndexV, gPart, reduceIte, Nat.reduceAdd, Nat.reduceSub, Nat.reduceMul, Nat.reduceLT, Nat.reduceLeDiff, Nat.reduceEqDiff, Nat.reduceBEq, Int.reduceLT, Int.reduceLE, Int.reduceGT, Int.reduceGE, Int.reduceEq, Int.reduceNe, Int.reduceAdd, Int.reduceSub, Int.reduceMul, Int.reduceNeg, Int.reduceToNat, Int.reduceBEq, Int.reduceBNe, Int.cast_ofNat_Int, List.getElem?_toArray, stp, Try.underlying22, Try.underlying5, ty22, ty5, rs62]))
    exact ⟨s1, o⟩
theorem c_BClone (N : Nat) (h : GH) {a : Option Addr} {n c : Nat} {l : List UInt8} (r : RB h (.slice a n c) l) (hl : l.length ≤ 140737488355328) : GTri Try.prog N 8 [.slice a n c] h fun v h' => HS h h' ∧ OWN h h' v l := by
  refine gtri Try.func8 rfl gf8 ok8 (by simp [Try.ntmps8]) ?_
  repeat' (first | (with_reducible first | refine gw_seq ?_ | refine gw_block ?_) | ((first | (with_reducible first | refine gw_region ?_ | refine gw_if ?_ | refine gw_skip ?_ | refine gw_exit ?_ | refine gw_ret ?_) | ((with_reducible first | refine gif_b (fun hb => ?_) (fun hb => ?_) | refine want_t (fun hb => ?_) (fun hb => ?_) | refine want_f (fun hb => ?_) (fun hb => ?_)) <;> (try simp only [hb]))) <;> try simp only [List.map, gop, ev, lk, aenv, gyield, gBin, gInt, gStrOp, gUn, gPick, gNil, gExtract, gIfc, gConvK, gIndexO, gIndexVO, gMakeV, gMinV, gMaxV, isInt, gMin, gMax, gBlt, gCallV, gInvoke, gNilM, Array.toList_map, vcells, gField, gIndexV, gPart, reduceIte, Nat.reduceAdd, Nat.reduceSub, Nat.reduceMul, Nat.reduceLT, Nat.reduceLeDiff, Nat.reduceEqDiff, Nat.reduceBEq, Int.reduceLT, Int.reduceLE, Int.reduceGT, Int.reduceGE, Int.reduceEq, Int.reduceNe, Int.reduceAdd, Int.reduceSub, Int.reduceMul, Int.reduceNeg, Int.reduceToNat, Int.reduceBEq, Int.reduceBNe, Int.cast_ofNat_Int, List.getElem?_toArray, stp, Try.underlying22, Try.underlying5, ty22, ty5, rs8]))
  · obtain rfl := r.isnil hb
    exact ⟨HS.refl h, OWN.nil h h⟩
  · refine bs0_g el22 rfl ?_
    simp only [List.map, gop, ev, lk, aenv, gyield, gBin, gInt, gStrOp, gUn, gPick, gNil, gExtract, gIfc, gConvK, gIndexO, gIndexVO, gMakeV, gMinV, gMaxV, isInt, gMin, gMax, gBlt, gCallV, gInvoke, gNilM, Array.toList_map, vcells, gField, gIndexV, gPart, reduceIte, Nat.reduceAdd, Nat.reduceSub, Nat.reduceMul, Nat.reduceLT, Nat.reduceLeDiff, Nat.reduceEqDiff, Nat.reduceBEq, Int.reduceLT, Int.reduceLE, Int.reduceGT, Int.reduceGE, Int.reduceEq, Int.reduceNe, Int.reduceAdd, Int.reduceSub, Int.reduceMul, Int.reduceNeg, Int.reduceToNat, Int.reduceBEq, Int.reduceBNe, Int.cast_ofNat_Int, List.getElem?_toArray, stp, Try.underlying22, Try.underlying5, ty22, ty5, rs8]
    refine append_own el22 Try.underlying22 rfl (HS.refl h) (.inr (.inl ⟨_, rfl, rfl⟩)) r.src (by simpa using hl) fun v h' s1 _ o => ?_
    simp only [List.map, gop, ev, lk, aenv, gyield, gBin, gInt, gStrOp, gUn, gPick, gNil, gExtract, gIfc, gConvK, gIndexO, gIndexVO, gMakeV, gMinV, gMaxV, isInt, gMin, gMax, gBlt, gCallV, gInvoke, gNilM, Array.toList_map, vcells, gField, gIndexV, gPart, reduceIte, Nat.reduceAdd, Nat.reduceSub, Nat.reduceMul, Nat.reduceLT, Nat.reduceLeDiff, Nat.reduceEqDiff, Nat.reduceBEq, Int.reduceLT, Int.reduceLE, Int.reduceGT, Int.reduceGE, Int.reduceEq, Int.reduceNe, Int.reduceAdd, Int.reduceSub, Int.reduceMul, Int.reduceNeg, Int.reduceToNat, Int.reduceBEq, Int.reduceBNe, Int.cast_ofNat_Int, List.getElem?_toArray, stp, Try.underlying22, Try.underlying5, ty22, ty5, rs8]
    repeat' (first | (with_reducible first | refine gw_seq ?_ | refine gw_block ?_) | ((first | (with_reducible first | refine gw_region ?_ | refine gw_if ?_ | refine gw_skip ?_ | refine gw_exit ?_ | refine gw_ret ?_) | ((with_reducible first | refine gif_b (fun hb => ?_) (fun hb => ?_) | refine want_t (fun hb => ?_) (fun hb => ?_) | refine want_f (fun hb => ?_) (fun hb => ?_)) <;> (try simp only [hb]))) <;> try simp only [List.map, gop, ev, lk, aenv, gyield, gBin, gInt, gStrOp, gUn, gPick, gNil, gExtract, gIfc, gConvK, gIndexO, gIndexVO, gMakeV, gMinV, gMaxV, isInt, gMin, gMax, gBlt, gCallV, gInvoke, gNilM, Array.toList_map, vcells, gField, gIndexV, gPart, reduceIte, Nat.reduceAdd, Nat.reduceSub, Nat.reduceMul, Nat.reduceLT, Nat.reduceLeDiff, Nat.reduceEqDiff, Nat.reduceBEq, Int.reduceLT, Int.reduceLE, Int.reduceGT, Int.reduceGE, Int.reduceEq, Int.reduceNe, Int.reduceAdd, Int.reduceSub, Int.reduceMul, Int.reduceNeg, Int.reduceToNat, Int.reduceBEq, Int.reduceBNe, Int.cast_ofNat_Int, List.getElem?_toArray, stp, Try.underlying22, Try.underlying5, ty22, ty5, rs8]))
    exact ⟨s1, o⟩
end Go.Gh

/- Numbers as bytes; the codec's writers and the reference's. -/

namespace Go.Gh
open Go Go.Proofs Go.RowKit
set_option linter.unusedVariables false
set_option linter.unusedSimpArgs false
set_option maxRecDepth 100000

/-- A number's bytes, the greatest first. -/
def ubytes (n : Nat) : List UInt8 := if n = 0 then [] else ubytes (n / 256) ++ [UInt8.ofNat (n % 256)]
termination_by n
decreasing_by omega
theorem ubytes_zero : ubytes 0 = [] := by rw [ubytes]; simp
theorem ubytes_pos {n : Nat} (h : n ≠ 0) : ubytes n = ubytes (n / 256) ++ [UInt8.ofNat (n % 256)] := by rw [ubytes]; simp [h]
/-- What bytes are worth. -/
def uval (l : List UInt8) : Nat := l.foldl (fun n x => n * 256 + x.toNat) 0
theorem uval_snoc (l : List UInt8) (x : UInt8) : uval (l ++ [x]) = uval l * 256 + x.toNat := by simp [uval]
theorem ubytes_le : ∀ (k n : Nat), n < 256 ^ k → (ubytes n).length ≤ k
  | 0, n, h => by
    obtain rfl : n = 0 := by simpa using h
    simp [ubytes_zero]
  | k + 1, n, h => by
    by_cases h0 : n = 0
    · subst h0; simp [ubytes_zero]
    · rw [ubytes_pos h0, List.length_append, List.length_singleton]
      have := ubytes_le k (n / 256) (by rw [Nat.pow_succ] at h; omega)
      omega
theorem rev_ind {α : Type} {p : List α → Prop} (h0 : p []) (h1 : ∀ l x, p l → p (l ++ [x])) (l : List α) : p l := by
  have : ∀ m : List α, p m.reverse := fun m => by
    induction m with
    | nil => exact h0
    | cons x m ih => rw [List.reverse_cons]; exact h1 _ _ ih
  have := this l.reverse
  rwa [List.reverse_reverse] at this
theorem uval_lt (l : List UInt8) : uval l < 256 ^ l.length := by
  induction l using rev_ind with
  | h0 => simp [uval]
  | h1 l x ih =>
    rw [uval_snoc, List.length_append, List.length_singleton, Nat.pow_succ]
    have := x.toNat_lt
    omega
/-- Byte j of a number's bytes. -/
theorem ubytes_get (n : Nat) : ∀ j, j < (ubytes n).length → (ubytes n)[j]? = some (UInt8.ofNat (n / 256 ^ ((ubytes n).length - 1 - j) % 256)) := by
  induction n using Nat.strongRecOn with
  | _ n ih =>
    intro j hj
    by_cases h : n = 0
    · subst h; simp [ubytes_zero] at hj
    · rw [ubytes_pos h] at hj ⊢
      simp only [List.length_append, List.length_singleton] at hj ⊢
      by_cases hl : j < (ubytes (n / 256)).length
      · rw [List.getElem?_append_left hl, ih (n / 256) (by omega) j hl]
        congr 3
        rw [show (ubytes (n / 256)).length + 1 - 1 - j = ((ubytes (n / 256)).length - 1 - j) + 1 by omega, Nat.pow_succ, Nat.mul_comm, Nat.div_div_eq_div_mul]
      · obtain rfl : j = (ubytes (n / 256)).length := by omega
        rw [List.getElem?_append_right (by omega)]
        simp

theorem len8_div {x k : Nat} (h : 2 ^ k ≤ x) : len8 x = k + len8 (x / 2 ^ k) := by
  have hk : 0 < 2 ^ k := Nat.two_pow_pos k
  have h0 : x ≠ 0 := by omega
  have h1 : x / 2 ^ k ≠ 0 := by
    have := Nat.div_pos h hk
    omega
  simp only [len8, if_neg h0, if_neg h1]
  have : Nat.log2 x = k + Nat.log2 (x / 2 ^ k) := by
    have a1 := Nat.log2_self_le h1
    have a2 := Nat.lt_log2_self (n := x / 2 ^ k)
    refine (Nat.log2_eq_iff h0).2 ⟨?_, ?_⟩
    · rw [Nat.pow_add]
      calc 2 ^ k * 2 ^ (x / 2 ^ k).log2 ≤ 2 ^ k * (x / 2 ^ k) := Nat.mul_le_mul_left _ a1
        _ ≤ x := Nat.mul_div_le _ _
    · rw [Nat.add_assoc, Nat.pow_add, Nat.mul_comm]
      exact (Nat.div_lt_iff_lt_mul hk).1 a2
  omega
theorem len8_small {n : Nat} (h : n < 256) (h0 : n ≠ 0) : 1 ≤ len8 n ∧ len8 n ≤ 8 := by
  have : Nat.log2 n < 8 := (Nat.log2_lt h0).2 (by omega)
  simp only [len8, if_neg h0]
  omega
theorem len8_width (n : Nat) : (len8 n + 7) / 8 = (ubytes n).length := by
  induction n using Nat.strongRecOn with
  | _ n ih =>
    by_cases h : n = 0
    · subst h; rw [ubytes_zero]; rfl
    · rw [ubytes_pos h, List.length_append, List.length_singleton, ← ih (n / 256) (by omega)]
      by_cases h2 : n < 256
      · have := len8_small h2 h
        rw [show n / 256 = 0 by omega]
        simp only [len8, if_true] at this ⊢
        omega
      · have := len8_div (x := n) (k := 8) (by omega)
        rw [show (2 : Nat) ^ 8 = 256 from rfl] at this
        rw [this]; omega

theorem shr64 (x k : Nat) (hk : k ≤ 64) : (x : Int).fdiv (2 ^ min k IntKind.u64.bits) = ((x / 2 ^ k : Nat) : Int) := by
  have := fdiv_nat x (2 ^ k)
  rw [Int.natCast_pow] at this
  have e : min k IntKind.u64.bits = k := Nat.min_eq_left hk
  rw [e]; exact this
theorem tab_nat {T : List UInt8} {f : Nat → Nat} {x : Nat} (h : ((List.range 256).all fun n => T[n]? == some (UInt8.ofNat (f n))) = true) (hx : x < 256) : T[x]? = some (UInt8.ofNat (f x)) := by
  rw [List.all_eq_true] at h
  simpa using h x (by simpa using hx)
theorem len8_le {n : Nat} (h : n < 256) : len8 n ≤ 8 := by
  by_cases h0 : n = 0
  · subst h0; decide
  · exact (len8_small h h0).2
theorem len8_byte {n : Nat} (h : n < 256) : ((UInt8.ofNat (len8 n)).toNat : Int) = (len8 n : Int) := by
  have := len8_le h
  rw [UInt8.toNat_ofNat_of_lt' (by simpa using (by omega : len8 n < 256))]
theorem optK_tab {T : List UInt8} {K : Value → GH → Prop} {h : GH} {i : Int} {y : Nat} (hT : ((List.range 256).all fun n => T[n]? == some (UInt8.ofNat (len8 n))) = true) (hi : i = y) (hy : y < 256) (g : len8 y ≤ 8 → IntKind.i64.wrap (len8 y : Int) = (len8 y : Int) → K (.int .u8 (len8 y : Int)) h) :
    optK (if 0 ≤ i then Option.map (fun b : UInt8 => Value.int .u8 (b.toNat : Int)) T[i.toNat]? else none) h K := by
  subst hi
  rw [if_pos (by omega), Int.toNat_natCast, tab_nat (f := len8) hT hy]
  simp only [Option.map_some, optK_some, len8_byte hy]
  exact g (len8_le hy) (wrap64 (by omega) (by have := len8_le hy; omega))
theorem c_Len64 (N : Nat) (h : GH) (x : Nat) (hx : x < 18446744073709551616) : GTri Try.prog N 77 [.int .u64 x] h fun v h' => v = .int .i64 (len8 x : Int) ∧ h' = h := by
  have a1 := fun y => shr64 y 32 (by omega)
  have a2 := fun y => shr64 y 16 (by omega)
  have a3 := fun y => shr64 y 8 (by omega)
  simp only [Nat.reducePow] at a1 a2 a3
  have b1 := @len8_div x 32
  have b2 := @len8_div (x / 4294967296) 16
  have b3 := @len8_div (x / 4294967296 / 65536) 8
  have b4 := @len8_div (x / 4294967296) 8
  have b5 := @len8_div x 16
  have b6 := @len8_div (x / 65536) 8
  have b7 := @len8_div x 8
  simp only [Nat.reducePow] at b1 b2 b3 b4 b5 b6 b7
  refine gtri Try.func77 rfl gf77 ok77 (by simp [Try.ntmps77]) ?_
  repeat' (first | (with_reducible first | refine gw_seq ?_ | refine gw_block ?_) | ((first | (with_reducible first | refine gw_region ?_ | refine gw_if ?_ | refine gw_skip ?_ | refine gw_exit ?_ | refine gw_ret ?_) | ((with_reducible first | refine gif_b (fun hb => ?_) (fun hb => ?_) | refine want_t (fun hb => ?_) (fun hb => ?_) | refine want_f (fun hb => ?_) (fun hb => ?_)) <;> (try simp only [hb]) <;> (try simp only [hpr] at hb))) <;> try simp only [List.map, gop, ev, lk, aenv, gyield, gBin, gInt, gStrOp, gUn, gPick, gNil, gExtract, gIfc, gConvK, gIndexO, gIndexVO, gMakeV, gMinV, gMaxV, isInt, gMin, gMax, gBlt, gCallV, gInvoke, gNilM, Array.toList_map, vcells, gField, gIndexV, gPart, reduceIte, Nat.reduceAdd, Nat.reduceSub, Nat.reduceMul, Nat.reduceLT, Nat.reduceLeDiff, Nat.reduceEqDiff, Nat.reduceBEq, Int.reduceLT, Int.reduceLE, Int.reduceGT, Int.reduceGE, Int.reduceEq, Int.reduceNe, Int.reduceAdd, Int.reduceSub, Int.reduceMul, Int.reduceNeg, Int.reduceToNat, Int.reduceBEq, Int.reduceBNe, Int.cast_ofNat_Int, List.getElem?_toArray, stp, Try.underlying104, Try.underlying3, Try.underlying5, Try.underlying9, cv104_5, cv5_3, ty104, ty3, ty5, ty9, rs77, a1, a2, a3]))
  all_goals
    refine optK_tab (by decide +kernel) (wrapu8 (by omega) (by omega)) (by omega) fun c2 c3 => ?_
    refine mk_of ?_; repeat' (first | (with_reducible first | refine gw_seq ?_ | refine gw_block ?_) | ((first | (with_reducible refine mk_to ?_) | (with_reducible first | refine gw_region ?_ | refine gw_if ?_ | refine gw_skip ?_ | refine gw_exit ?_ | refine gw_ret ?_) | ((with_reducible first | refine gif_b (fun hb => ?_) (fun hb => ?_) | refine want_t (fun hb => ?_) (fun hb => ?_) | refine want_f (fun hb => ?_) (fun hb => ?_)) <;> (try simp only [hb]) <;> (try simp only [hpr] at hb))) <;> try simp only [List.map, gop, ev, lk, aenv, gyield, gBin, gInt, gStrOp, gUn, gPick, gNil, gExtract, gIfc, gConvK, gIndexO, gIndexVO, gMakeV, gMinV, gMaxV, isInt, gMin, gMax, gBlt, gCallV, gInvoke, gNilM, Array.toList_map, vcells, gField, gIndexV, gPart, reduceIte, Nat.reduceAdd, Nat.reduceSub, Nat.reduceMul, Nat.reduceLT, Nat.reduceLeDiff, Nat.reduceEqDiff, Nat.reduceBEq, Int.reduceLT, Int.reduceLE, Int.reduceGT, Int.reduceGE, Int.reduceEq, Int.reduceNe, Int.reduceAdd, Int.reduceSub, Int.reduceMul, Int.reduceNeg, Int.reduceToNat, Int.reduceBEq, Int.reduceBNe, Int.cast_ofNat_Int, List.getElem?_toArray, stp, Try.underlying104, Try.underlying3, Try.underlying5, Try.underlying9, cv104_5, cv5_3, ty104, ty3, ty5, ty9, rs77, c3]))
    refine congrArg (Value.int .i64) ?_
    rw [wrap64 (by omega) (by omega)]
    omega
theorem c_Len (N : Nat) (h : GH) (x : Nat) (hx : x < 18446744073709551616) : GTri Try.prog N 72 [.int .u64 x] h fun v h' => v = .int .i64 (len8 x : Int) ∧ h' = h := by
  refine gtri Try.func72 rfl gf72 ok72 (by simp [Try.ntmps72]) ?_
  repeat' (first | (with_reducible first | refine gw_seq ?_ | refine gw_block ?_) | ((first | (with_reducible first | refine gw_region ?_ | refine gw_if ?_ | refine gw_skip ?_ | refine gw_exit ?_ | refine gw_ret ?_) | ((with_reducible first | refine gif_b (fun hb => ?_) (fun hb => ?_) | refine want_t (fun hb => ?_) (fun hb => ?_) | refine want_f (fun hb => ?_) (fun hb => ?_)) <;> (try simp only [hb]) <;> (try simp only [hpr] at hb)) | ((refine GTri.mono (c_Len64 _ _ x hx) ?_); rintro _ _ ⟨rfl, hh9⟩; replace hh9 := hh9.symm; subst hh9)) <;> try simp only [List.map, gop, ev, lk, aenv, gyield, gBin, gInt, gStrOp, gUn, gPick, gNil, gExtract, gIfc, gConvK, gIndexO, gIndexVO, gMakeV, gMinV, gMaxV, isInt, gMin, gMax, gBlt, gCallV, gInvoke, gNilM, Array.toList_map, vcells, gField, gIndexV, gPart, reduceIte, Nat.reduceAdd, Nat.reduceSub, Nat.reduceMul, Nat.reduceLT, Nat.reduceLeDiff, Nat.reduceEqDiff, Nat.reduceBEq, Int.reduceLT, Int.reduceLE, Int.reduceGT, Int.reduceGE, Int.reduceEq, Int.reduceNe, Int.reduceAdd, Int.reduceSub, Int.reduceMul, Int.reduceNeg, Int.reduceToNat, Int.reduceBEq, Int.reduceBNe, Int.cast_ofNat_Int, List.getElem?_toArray, stp, Try.underlying104, Try.underlying105, Try.underlying123, cv105_123, ty104, ty105, ty123, rs72]))

/-- A number as it is put. -/
def gnum (n : Int) : Nat := (min (max n 0) 4611686018427387904).toNat
def guint (n : Int) : List UInt8 := UInt8.ofNat (ubytes (gnum n)).length :: ubytes (gnum n)
theorem gnum_le (n : Int) : gnum n ≤ 4611686018427387904 := by unfold gnum; omega
theorem gnum_w (n : Int) : (ubytes (gnum n)).length ≤ 8 := ubytes_le 8 _ (by have := gnum_le n; simp; omega)
theorem guint_len (n : Int) : (guint n).length ≤ 9 := by have := gnum_w n; simp [guint]; omega

theorem c_Uint (N : Nat) (h : GH) {a : Option Addr} {n c : Nat} {l : List UInt8} (r : RB h (.slice a n c) l) (hl : l.length ≤ 70368744177664) (i : Int) : GTri Try.prog N 49 [.slice a n c, .int .i64 i] h fun v h' => HS h h' ∧ OWN h h' v (l ++ guint i) := by
  have mm : (if 4611686018427387904 < (if 0 > i then 0 else i) then 4611686018427387904 else (if 0 > i then 0 else i)) = ((gnum i : Nat) : Int) := by unfold gnum; split <;> split <;> omega
  have g1 := gnum_le i
  have g2 := gnum_w i
  have wd := len8_width (gnum i)
  have gu : guint i = UInt8.ofNat (ubytes (gnum i)).length :: ubytes (gnum i) := rfl
  generalize gnum i = m at *
  generalize hw : (ubytes m).length = w at *
  have w0 : IntKind.u64.wrap (m : Int) = m := wrapu64 (by omega) (by omega)
  have w1 : IntKind.i64.wrap ((len8 m : Int) + 7) = ((len8 m + 7 : Nat) : Int) := by rw [wrap64 (by omega) (by omega)]; omega
  have w2 : IntKind.i64.wrap (Int.tdiv ((len8 m + 7 : Nat) : Int) 8) = (w : Int) := by
    rw [show (8 : Int) = ((8 : Nat) : Int) from rfl, tdiv_nat, wd]
    exact wrap64 (by omega) (by omega)
  have w3 : IntKind.u8.wrap (w : Int) = ((UInt8.ofNat w).toNat : Int) := by
    rw [UInt8.toNat_ofNat_of_lt' (by simpa using (by omega : w < 256))]
    exact wrapu8 (by omega) (by omega)
  have w4 : IntKind.i64.wrap ((w : Int) - 1) = (w : Int) - 1 - ((0 : Nat) : Int) := by rw [wrap64 (by omega) (by omega)]; omega
  refine gtri Try.func49 rfl gf49 ok49 (by simp [Try.ntmps49]) ?_
  repeat' (first | (with_reducible first | refine gw_seq ?_ | refine gw_block ?_) | ((first | (with_reducible first | refine gw_region ?_ | refine gw_if ?_ | refine gw_skip ?_ | refine gw_exit ?_ | refine gw_ret ?_) | ((with_reducible first | refine gif_b (fun hb => ?_) (fun hb => ?_) | refine want_t (fun hb => ?_) (fun hb => ?_) | refine want_f (fun hb => ?_) (fun hb => ?_)) <;> (try simp only [hb]) <;> (try simp only [hpr] at hb)) | ((refine GTri.mono (c_Len _ _ m (by omega)) ?_); rintro _ _ ⟨rfl, hh9⟩; replace hh9 := hh9.symm; subst hh9) | ((refine GTri.mono (c_SClone _ _ r (by omega)) ?_); rintro _ h1 ⟨s1, o1⟩)) <;> try simp only [List.map, gop, ev, lk, aenv, gyield, gBin, gInt, gStrOp, gUn, gPick, gNil, gExtract, gIfc, gConvK, gIndexO, gIndexVO, gMakeV, gMinV, gMaxV, isInt, gMin, gMax, gBlt, gCallV, gInvoke, gNilM, Array.toList_map, vcells, gField, gIndexV, gPart, reduceIte, Nat.reduceAdd, Nat.reduceSub, Nat.reduceMul, Nat.reduceLT, Nat.reduceLeDiff, Nat.reduceEqDiff, Nat.reduceBEq, Int.reduceLT, Int.reduceLE, Int.reduceGT, Int.reduceGE, Int.reduceEq, Int.reduceNe, Int.reduceAdd, Int.reduceSub, Int.reduceMul, Int.reduceNeg, Int.reduceToNat, Int.reduceBEq, Int.reduceBNe, Int.cast_ofNat_Int, List.getElem?_toArray, stp, Try.underlying105, Try.underlying22, Try.underlying3, Try.underlying5, cv3_105, cv3_5, ty22, ty105, ty3, ty5, rs49, mm, w0, w1, w2, w3]))
  refine bs1_g el22 fun k2 h2 r2 s2 f2 n2 => ?_
  refine mk_of ?_; repeat' (first | (with_reducible first | refine gw_seq ?_ | refine gw_block ?_) | ((first | (with_reducible refine mk_to ?_) | (with_reducible first | refine gw_region ?_ | refine gw_if ?_ | refine gw_skip ?_ | refine gw_exit ?_ | refine gw_ret ?_) | ((with_reducible first | refine gif_b (fun hb => ?_) (fun hb => ?_) | refine want_t (fun hb => ?_) (fun hb => ?_) | refine want_f (fun hb => ?_) (fun hb => ?_)) <;> (try simp only [hb]) <;> (try simp only [hpr] at hb))) <;> try simp only [List.map, gop, ev, lk, aenv, gyield, gBin, gInt, gStrOp, gUn, gPick, gNil, gExtract, gIfc, gConvK, gIndexO, gIndexVO, gMakeV, gMinV, gMaxV, isInt, gMin, gMax, gBlt, gCallV, gInvoke, gNilM, Array.toList_map, vcells, gField, gIndexV, gPart, reduceIte, Nat.reduceAdd, Nat.reduceSub, Nat.reduceMul, Nat.reduceLT, Nat.reduceLeDiff, Nat.reduceEqDiff, Nat.reduceBEq, Int.reduceLT, Int.reduceLE, Int.reduceGT, Int.reduceGE, Int.reduceEq, Int.reduceNe, Int.reduceAdd, Int.reduceSub, Int.reduceMul, Int.reduceNeg, Int.reduceToNat, Int.reduceBEq, Int.reduceBNe, Int.cast_ofNat_Int, List.getElem?_toArray, stp, Try.underlying105, Try.underlying22, Try.underlying3, Try.underlying5, cv3_105, cv3_5, ty22, ty105, ty3, ty5, rs49]))
  refine append_own el22 Try.underlying22 rfl (s1.trans s2) (o1.hs s2) r2.src (by simp; omega) fun v3 h3 s3 _ o3 => ?_
  refine mk_of ?_; repeat' (first | (with_reducible first | refine gw_seq ?_ | refine gw_block ?_) | ((first | (with_reducible refine mk_to ?_) | (with_reducible first | refine gw_region ?_ | refine gw_if ?_ | refine gw_skip ?_ | refine gw_exit ?_ | refine gw_ret ?_) | ((with_reducible first | refine gif_b (fun hb => ?_) (fun hb => ?_) | refine want_t (fun hb => ?_) (fun hb => ?_) | refine want_f (fun hb => ?_) (fun hb => ?_)) <;> (try simp only [hb]) <;> (try simp only [hpr] at hb))) <;> try simp only [List.map, gop, ev, lk, aenv, gyield, gBin, gInt, gStrOp, gUn, gPick, gNil, gExtract, gIfc, gConvK, gIndexO, gIndexVO, gMakeV, gMinV, gMaxV, isInt, gMin, gMax, gBlt, gCallV, gInvoke, gNilM, Array.toList_map, vcells, gField, gIndexV, gPart, reduceIte, Nat.reduceAdd, Nat.reduceSub, Nat.reduceMul, Nat.reduceLT, Nat.reduceLeDiff, Nat.reduceEqDiff, Nat.reduceBEq, Int.reduceLT, Int.reduceLE, Int.reduceGT, Int.reduceGE, Int.reduceEq, Int.reduceNe, Int.reduceAdd, Int.reduceSub, Int.reduceMul, Int.reduceNeg, Int.reduceToNat, Int.reduceBEq, Int.reduceBNe, Int.cast_ofNat_Int, List.getElem?_toArray, stp, Try.underlying105, Try.underlying22, Try.underlying3, Try.underlying5, cv3_105, cv3_5, ty22, ty105, ty3, ty5, rs49, w4]))
  refine gw_loop2 [1, 4] (fun (x : Nat × Value) => [(6, x.2), (7, .int .i64 ((w : Int) - 1 - (x.1 : Int)))])
    (fun q x h' => q = w - x.1 ∧ x.1 ≤ w ∧ HS h h' ∧ OWN h h' x.2 (l ++ (UInt8.ofNat w :: (ubytes m).take x.1))) w (0, v3) (by simp [lk]) ⟨rfl, by omega, s3, by simpa using o3⟩ ?_
  rintro q ⟨j, v⟩ h4 ⟨rfl, hj, s4, o4⟩
  simp only at *
  by_cases hjw : j < w
  · have e1 : (w : Int) - 1 - (j : Int) = ((w - 1 - j : Nat) : Int) := by omega
    have d1 : decide (((w - 1 - j : Nat) : Int) ≥ 0) = true := decide_eq_true (by omega)
    have w5 : IntKind.i64.wrap (8 * ((w - 1 - j : Nat) : Int)) = ((8 * (w - 1 - j) : Nat) : Int) := by rw [wrap64 (by omega) (by omega)]; omega
    have w6 : IntKind.u8.wrap ((m : Int).fdiv (2 ^ min (((8 * (w - 1 - j) : Nat) : Int)).toNat IntKind.i64.bits)) = ((UInt8.ofNat (m / 256 ^ (w - 1 - j) % 256)).toNat : Int) := by
      have e8 : min (((8 * (w - 1 - j) : Nat) : Int)).toNat IntKind.i64.bits = 8 * (w - 1 - j) := by
        rw [Int.toNat_natCast]; exact Nat.min_eq_left (by show _ ≤ 64; omega)
      have := fdiv_nat m (2 ^ (8 * (w - 1 - j)))
      rw [Int.natCast_pow] at this
      rw [e8, UInt8.toNat_ofNat_of_lt' (by simpa using Nat.mod_lt _ (by decide : 0 < 256))]
      have e9 : (2 : Nat) ^ (8 * (w - 1 - j)) = 256 ^ (w - 1 - j) := by rw [Nat.pow_mul]
      rw [e9] at this
      have e10 : (m : Int).fdiv (2 ^ (8 * (w - 1 - j))) = ((m / 256 ^ (w - 1 - j) : Nat) : Int) := this
      rw [e10]
      simp [IntKind.wrap, IntKind.signed, IntKind.bits]
    have w7 : IntKind.i64.wrap (((w - 1 - j : Nat) : Int) - 1) = (w : Int) - 1 - ((j + 1 : Nat) : Int) := by rw [wrap64 (by omega) (by omega)]; omega
    refine mk_of ?_; repeat' (first | (with_reducible first | refine gw_seq ?_ | refine gw_block ?_) | ((first | (with_reducible refine mk_to ?_) | (with_reducible first | refine gw_region ?_ | refine gw_if ?_ | refine gw_skip ?_ | refine gw_exit ?_ | refine gw_ret ?_) | ((with_reducible first | refine gif_b (fun hb => ?_) (fun hb => ?_) | refine want_t (fun hb => ?_) (fun hb => ?_) | refine want_f (fun hb => ?_) (fun hb => ?_)) <;> (try simp only [hb]) <;> (try simp only [hpr] at hb))) <;> try simp only [List.map, gop, ev, lk, aenv, gyield, gBin, gInt, gStrOp, gUn, gPick, gNil, gExtract, gIfc, gConvK, gIndexO, gIndexVO, gMakeV, gMinV, gMaxV, isInt, gMin, gMax, gBlt, gCallV, gInvoke, gNilM, Array.toList_map, vcells, gField, gIndexV, gPart, reduceIte, Nat.reduceAdd, Nat.reduceSub, Nat.reduceMul, Nat.reduceLT, Nat.reduceLeDiff, Nat.reduceEqDiff, Nat.reduceBEq, Int.reduceLT, Int.reduceLE, Int.reduceGT, Int.reduceGE, Int.reduceEq, Int.reduceNe, Int.reduceAdd, Int.reduceSub, Int.reduceMul, Int.reduceNeg, Int.reduceToNat, Int.reduceBEq, Int.reduceBNe, Int.cast_ofNat_Int, List.getElem?_toArray, stp, Try.underlying105, Try.underlying22, Try.underlying3, Try.underlying5, cv3_105, cv3_5, ty22, ty105, ty3, ty5, rs49, e1, d1, w5]))
    refine ⟨by omega, ?_⟩
    rw [w6]
    refine bs1_g el22 fun k5 h5 r5 s5 f5 n5 => ?_
    refine mk_of ?_; repeat' (first | (with_reducible first | refine gw_seq ?_ | refine gw_block ?_) | ((first | (with_reducible refine mk_to ?_) | (with_reducible first | refine gw_region ?_ | refine gw_if ?_ | refine gw_skip ?_ | refine gw_exit ?_ | refine gw_ret ?_) | ((with_reducible first | refine gif_b (fun hb => ?_) (fun hb => ?_) | refine want_t (fun hb => ?_) (fun hb => ?_) | refine want_f (fun hb => ?_) (fun hb => ?_)) <;> (try simp only [hb]) <;> (try simp only [hpr] at hb))) <;> try simp only [List.map, gop, ev, lk, aenv, gyield, gBin, gInt, gStrOp, gUn, gPick, gNil, gExtract, gIfc, gConvK, gIndexO, gIndexVO, gMakeV, gMinV, gMaxV, isInt, gMin, gMax, gBlt, gCallV, gInvoke, gNilM, Array.toList_map, vcells, gField, gIndexV, gPart, reduceIte, Nat.reduceAdd, Nat.reduceSub, Nat.reduceMul, Nat.reduceLT, Nat.reduceLeDiff, Nat.reduceEqDiff, Nat.reduceBEq, Int.reduceLT, Int.reduceLE, Int.reduceGT, Int.reduceGE, Int.reduceEq, Int.reduceNe, Int.reduceAdd, Int.reduceSub, Int.reduceMul, Int.reduceNeg, Int.reduceToNat, Int.reduceBEq, Int.reduceBNe, Int.cast_ofNat_Int, List.getElem?_toArray, stp, Try.underlying105, Try.underlying22, Try.underlying3, Try.underlying5, cv3_105, cv3_5, ty22, ty105, ty3, ty5, rs49]))
    refine append_own el22 Try.underlying22 rfl (s4.trans s5) (o4.hs s5) r5.src (by simp; omega) fun v6 h6 s6 _ o6 => ?_
    refine mk_of ?_; repeat' (first | (with_reducible first | refine gw_seq ?_ | refine gw_block ?_) | ((first | (with_reducible refine mk_to ?_) | (with_reducible first | refine gw_region ?_ | refine gw_if ?_ | refine gw_skip ?_ | refine gw_exit ?_ | refine gw_ret ?_) | ((with_reducible first | refine gif_b (fun hb => ?_) (fun hb => ?_) | refine want_t (fun hb => ?_) (fun hb => ?_) | refine want_f (fun hb => ?_) (fun hb => ?_)) <;> (try simp only [hb]) <;> (try simp only [hpr] at hb))) <;> try simp only [List.map, gop, ev, lk, aenv, gyield, gBin, gInt, gStrOp, gUn, gPick, gNil, gExtract, gIfc, gConvK, gIndexO, gIndexVO, gMakeV, gMinV, gMaxV, isInt, gMin, gMax, gBlt, gCallV, gInvoke, gNilM, Array.toList_map, vcells, gField, gIndexV, gPart, reduceIte, Nat.reduceAdd, Nat.reduceSub, Nat.reduceMul, Nat.reduceLT, Nat.reduceLeDiff, Nat.reduceEqDiff, Nat.reduceBEq, Int.reduceLT, Int.reduceLE, Int.reduceGT, Int.reduceGE, Int.reduceEq, Int.reduceNe, Int.reduceAdd, Int.reduceSub, Int.reduceMul, Int.reduceNeg, Int.reduceToNat, Int.reduceBEq, Int.reduceBNe, Int.cast_ofNat_Int, List.getElem?_toArray, stp, Try.underlying105, Try.underlying22, Try.underlying3, Try.underlying5, cv3_105, cv3_5, ty22, ty105, ty3, ty5, rs49, w7]))
    refine ⟨_, (j + 1, v6), ?_, (by simp only [List.forall_mem_cons, List.not_mem_nil, false_implies, implies_true, List.map, List.cons_append, List.nil_append, lk, Nat.reduceEqDiff, reduceIte, and_true, true_and]), rfl, by omega, s6, ?_⟩
    · omega
    · have := ubytes_get m j (by omega)
      rw [hw] at this
      rw [List.take_add_one, this]
      simpa using o6
  · have d1 : decide ((w : Int) - 1 - (j : Int) ≥ 0) = false := decide_eq_false (by omega)
    refine mk_of ?_; repeat' (first | (with_reducible first | refine gw_seq ?_ | refine gw_block ?_) | ((first | (with_reducible refine mk_to ?_) | (with_reducible first | refine gw_region ?_ | refine gw_if ?_ | refine gw_skip ?_ | refine gw_exit ?_ | refine gw_ret ?_) | ((with_reducible first | refine gif_b (fun hb => ?_) (fun hb => ?_) | refine want_t (fun hb => ?_) (fun hb => ?_) | refine want_f (fun hb => ?_) (fun hb => ?_)) <;> (try simp only [hb]) <;> (try simp only [hpr] at hb))) <;> try simp only [List.map, gop, ev, lk, aenv, gyield, gBin, gInt, gStrOp, gUn, gPick, gNil, gExtract, gIfc, gConvK, gIndexO, gIndexVO, gMakeV, gMinV, gMaxV, isInt, gMin, gMax, gBlt, gCallV, gInvoke, gNilM, Array.toList_map, vcells, gField, gIndexV, gPart, reduceIte, Nat.reduceAdd, Nat.reduceSub, Nat.reduceMul, Nat.reduceLT, Nat.reduceLeDiff, Nat.reduceEqDiff, Nat.reduceBEq, Int.reduceLT, Int.reduceLE, Int.reduceGT, Int.reduceGE, Int.reduceEq, Int.reduceNe, Int.reduceAdd, Int.reduceSub, Int.reduceMul, Int.reduceNeg, Int.reduceToNat, Int.reduceBEq, Int.reduceBNe, Int.cast_ofNat_Int, List.getElem?_toArray, stp, Try.underlying105, Try.underlying22, Try.underlying3, Try.underlying5, cv3_105, cv3_5, ty22, ty105, ty3, ty5, rs49, d1]))
    rw [gu]
    rw [List.take_of_length_le (by omega)] at o4
    exact ⟨s4, o4⟩
end Go.Gh

/- The codec's writers and the reference's, and the law CodecPuts. -/

namespace Go.Gh
open Go Go.Proofs Go.RowKit
set_option linter.unusedVariables false
set_option linter.unusedSimpArgs false
set_option maxRecDepth 100000

theorem c_rUint (N : Nat) (h : GH) {a : Option Addr} {n c : Nat} {l : List UInt8} (r : RB h (.slice a n c) l) (hl : l.length ≤ 70368744177664) (i : Int) : GTri Try.prog N 42 [.slice a n c, .int .i64 i] h fun v h' => HS h h' ∧ OWN h h' v (l ++ guint i) := by
  have mm : (if (if 4611686018427387904 < i then 4611686018427387904 else i) > 0 then (if 4611686018427387904 < i then 4611686018427387904 else i) else 0) = ((gnum i : Nat) : Int) := by unfold gnum; split <;> split <;> omega
  have g1 := gnum_le i
  have g2 := gnum_w i
  have gu : guint i = UInt8.ofNat (ubytes (gnum i)).length :: ubytes (gnum i) := rfl
  generalize gnum i = m at *
  refine gtri Try.func42 rfl gf42 ok42 (by simp [Try.ntmps42]) ?_
  repeat' (first | (with_reducible first | refine gw_seq ?_ | refine gw_block ?_) | ((first | (with_reducible first | refine gw_region ?_ | refine gw_if ?_ | refine gw_skip ?_ | refine gw_exit ?_ | refine gw_ret ?_) | ((with_reducible first | refine gif_b (fun hb => ?_) (fun hb => ?_) | refine want_t (fun hb => ?_) (fun hb => ?_) | refine want_f (fun hb => ?_) (fun hb => ?_)) <;> (try simp only [hb]) <;> (try simp only [hpr] at hb))) <;> try simp only [List.map, gop, ev, lk, aenv, gyield, gBin, gInt, gStrOp, gUn, gPick, gNil, gExtract, gIfc, gConvK, gIndexO, gIndexVO, gMakeV, gMinV, gMaxV, isInt, gMin, gMax, gBlt, gCallV, gInvoke, gNilM, Array.toList_map, vcells, gField, gIndexV, gPart, reduceIte, Nat.reduceAdd, Nat.reduceSub, Nat.reduceMul, Nat.reduceLT, Nat.reduceLeDiff, Nat.reduceEqDiff, Nat.reduceBEq, Int.reduceLT, Int.reduceLE, Int.reduceGT, Int.reduceGE, Int.reduceEq, Int.reduceNe, Int.reduceAdd, Int.reduceSub, Int.reduceMul, Int.reduceNeg, Int.reduceToNat, Int.reduceBEq, Int.reduceBNe, Int.cast_ofNat_Int, List.getElem?_toArray, stp, Try.underlying22, Try.underlying3, Try.underlying5, cv3_5, ty22, ty3, ty5, rs42, mm]))
  refine gw_loop2 [0, 4] (fun (x : Nat × Value) => [(1, .int .i64 (x.1 : Int)), (5, x.2)])
    (fun q x h' => x.1 = q ∧ x.1 ≤ m ∧ HS h h' ∧ ∃ L, RB h' x.2 L ∧ AP h h' x.2 1 ∧ ubytes m = ubytes x.1 ++ L) m (m, .slice none 0 0) (by simp [lk]) ⟨rfl, by omega, HS.refl h, [], RB.nil h, AP.nil _ _ _, by simp⟩ ?_
  rintro q ⟨j, v⟩ h4 ⟨rfl, hj, s4, L, rL, ap, e⟩
  simp only at *
  have hL : L.length ≤ 8 := by rw [e, List.length_append] at g2; omega
  by_cases hjw : 0 < j
  · have d1 : decide ((j : Int) > 0) = true := decide_eq_true (by omega)
    have w6 : IntKind.u8.wrap (j : Int) = ((UInt8.ofNat (j % 256)).toNat : Int) := by
      rw [UInt8.toNat_ofNat_of_lt' (by simpa using Nat.mod_lt _ (by decide : 0 < 256))]
      simp [IntKind.wrap, IntKind.signed, IntKind.bits]
    have w7 : (j : Int).fdiv (2 ^ min 8 IntKind.i64.bits) = ((j / 256 : Nat) : Int) := fdiv_nat j 256
    refine mk_of ?_; repeat' (first | (with_reducible first | refine gw_seq ?_ | refine gw_block ?_) | ((first | (with_reducible refine mk_to ?_) | (with_reducible first | refine gw_region ?_ | refine gw_if ?_ | refine gw_skip ?_ | refine gw_exit ?_ | refine gw_ret ?_) | ((with_reducible first | refine gif_b (fun hb => ?_) (fun hb => ?_) | refine want_t (fun hb => ?_) (fun hb => ?_) | refine want_f (fun hb => ?_) (fun hb => ?_)) <;> (try simp only [hb]) <;> (try simp only [hpr] at hb))) <;> try simp only [List.map, gop, ev, lk, aenv, gyield, gBin, gInt, gStrOp, gUn, gPick, gNil, gExtract, gIfc, gConvK, gIndexO, gIndexVO, gMakeV, gMinV, gMaxV, isInt, gMin, gMax, gBlt, gCallV, gInvoke, gNilM, Array.toList_map, vcells, gField, gIndexV, gPart, reduceIte, Nat.reduceAdd, Nat.reduceSub, Nat.reduceMul, Nat.reduceLT, Nat.reduceLeDiff, Nat.reduceEqDiff, Nat.reduceBEq, Int.reduceLT, Int.reduceLE, Int.reduceGT, Int.reduceGE, Int.reduceEq, Int.reduceNe, Int.reduceAdd, Int.reduceSub, Int.reduceMul, Int.reduceNeg, Int.reduceToNat, Int.reduceBEq, Int.reduceBNe, Int.cast_ofNat_Int, List.getElem?_toArray, stp, Try.underlying22, Try.underlying3, Try.underlying5, cv3_5, ty22, ty3, ty5, rs42, d1, w6]))
    refine bs1_g el22 fun k5 h5 r5 s5 f5 n5 => ?_
    refine mk_of ?_; repeat' (first | (with_reducible first | refine gw_seq ?_ | refine gw_block ?_) | ((first | (with_reducible refine mk_to ?_) | (with_reducible first | refine gw_region ?_ | refine gw_if ?_ | refine gw_skip ?_ | refine gw_exit ?_ | refine gw_ret ?_) | ((with_reducible first | refine gif_b (fun hb => ?_) (fun hb => ?_) | refine want_t (fun hb => ?_) (fun hb => ?_) | refine want_f (fun hb => ?_) (fun hb => ?_)) <;> (try simp only [hb]) <;> (try simp only [hpr] at hb))) <;> try simp only [List.map, gop, ev, lk, aenv, gyield, gBin, gInt, gStrOp, gUn, gPick, gNil, gExtract, gIfc, gConvK, gIndexO, gIndexVO, gMakeV, gMinV, gMaxV, isInt, gMin, gMax, gBlt, gCallV, gInvoke, gNilM, Array.toList_map, vcells, gField, gIndexV, gPart, reduceIte, Nat.reduceAdd, Nat.reduceSub, Nat.reduceMul, Nat.reduceLT, Nat.reduceLeDiff, Nat.reduceEqDiff, Nat.reduceBEq, Int.reduceLT, Int.reduceLE, Int.reduceGT, Int.reduceGE, Int.reduceEq, Int.reduceNe, Int.reduceAdd, Int.reduceSub, Int.reduceMul, Int.reduceNeg, Int.reduceToNat, Int.reduceBEq, Int.reduceBNe, Int.cast_ofNat_Int, List.getElem?_toArray, stp, Try.underlying22, Try.underlying3, Try.underlying5, cv3_5, ty22, ty3, ty5, rs42]))
    refine append_bytes el22 Try.underlying22 rfl (s4.trans s5) r5 (.inr (.inl ⟨_, 1, rfl⟩)) (rL.hs s5).src (by simp; omega) fun v6 h6 s6 _ _ ap6 r6 => ?_
    refine mk_of ?_; repeat' (first | (with_reducible first | refine gw_seq ?_ | refine gw_block ?_) | ((first | (with_reducible refine mk_to ?_) | (with_reducible first | refine gw_region ?_ | refine gw_if ?_ | refine gw_skip ?_ | refine gw_exit ?_ | refine gw_ret ?_) | ((with_reducible first | refine gif_b (fun hb => ?_) (fun hb => ?_) | refine want_t (fun hb => ?_) (fun hb => ?_) | refine want_f (fun hb => ?_) (fun hb => ?_)) <;> (try simp only [hb]) <;> (try simp only [hpr] at hb))) <;> try simp only [List.map, gop, ev, lk, aenv, gyield, gBin, gInt, gStrOp, gUn, gPick, gNil, gExtract, gIfc, gConvK, gIndexO, gIndexVO, gMakeV, gMinV, gMaxV, isInt, gMin, gMax, gBlt, gCallV, gInvoke, gNilM, Array.toList_map, vcells, gField, gIndexV, gPart, reduceIte, Nat.reduceAdd, Nat.reduceSub, Nat.reduceMul, Nat.reduceLT, Nat.reduceLeDiff, Nat.reduceEqDiff, Nat.reduceBEq, Int.reduceLT, Int.reduceLE, Int.reduceGT, Int.reduceGE, Int.reduceEq, Int.reduceNe, Int.reduceAdd, Int.reduceSub, Int.reduceMul, Int.reduceNeg, Int.reduceToNat, Int.reduceBEq, Int.reduceBNe, Int.cast_ofNat_Int, List.getElem?_toArray, stp, Try.underlying22, Try.underlying3, Try.underlying5, cv3_5, ty22, ty3, ty5, rs42, w7]))
    refine ⟨_, (j / 256, v6), ?_, (by simp only [List.forall_mem_cons, List.not_mem_nil, false_implies, implies_true, List.map, List.cons_append, List.nil_append, lk, Nat.reduceEqDiff, reduceIte, and_true, true_and]), rfl, by omega, s6, _, r6, ap6, ?_⟩
    · omega
    · rw [e, ubytes_pos (by omega), List.append_assoc]
  · have d1 : decide ((j : Int) > 0) = false := decide_eq_false (by omega)
    obtain rfl : j = 0 := by omega
    rw [ubytes_zero, List.nil_append] at e
    subst e
    obtain ⟨a', c', rfl, _⟩ := rL.form
    have w3 : IntKind.u8.wrap (((ubytes m).length : Nat) : Int) = ((UInt8.ofNat (ubytes m).length).toNat : Int) := by
      rw [UInt8.toNat_ofNat_of_lt' (by simpa using (by omega : (ubytes m).length < 256))]
      exact wrapu8 (by omega) (by omega)
    refine mk_of ?_; repeat' (first | (with_reducible first | refine gw_seq ?_ | refine gw_block ?_) | ((first | (with_reducible refine mk_to ?_) | (with_reducible first | refine gw_region ?_ | refine gw_if ?_ | refine gw_skip ?_ | refine gw_exit ?_ | refine gw_ret ?_) | ((with_reducible first | refine gif_b (fun hb => ?_) (fun hb => ?_) | refine want_t (fun hb => ?_) (fun hb => ?_) | refine want_f (fun hb => ?_) (fun hb => ?_)) <;> (try simp only [hb]) <;> (try simp only [hpr] at hb))) <;> try simp only [List.map, gop, ev, lk, aenv, gyield, gBin, gInt, gStrOp, gUn, gPick, gNil, gExtract, gIfc, gConvK, gIndexO, gIndexVO, gMakeV, gMinV, gMaxV, isInt, gMin, gMax, gBlt, gCallV, gInvoke, gNilM, Array.toList_map, vcells, gField, gIndexV, gPart, reduceIte, Nat.reduceAdd, Nat.reduceSub, Nat.reduceMul, Nat.reduceLT, Nat.reduceLeDiff, Nat.reduceEqDiff, Nat.reduceBEq, Int.reduceLT, Int.reduceLE, Int.reduceGT, Int.reduceGE, Int.reduceEq, Int.reduceNe, Int.reduceAdd, Int.reduceSub, Int.reduceMul, Int.reduceNeg, Int.reduceToNat, Int.reduceBEq, Int.reduceBNe, Int.cast_ofNat_Int, List.getElem?_toArray, stp, Try.underlying22, Try.underlying3, Try.underlying5, cv3_5, ty22, ty3, ty5, rs42, d1, w3]))
    refine bs0_g el22 rfl ?_
    refine mk_of ?_; repeat' (first | (with_reducible first | refine gw_seq ?_ | refine gw_block ?_) | ((first | (with_reducible refine mk_to ?_) | (with_reducible first | refine gw_region ?_ | refine gw_if ?_ | refine gw_skip ?_ | refine gw_exit ?_ | refine gw_ret ?_) | ((with_reducible first | refine gif_b (fun hb => ?_) (fun hb => ?_) | refine want_t (fun hb => ?_) (fun hb => ?_) | refine want_f (fun hb => ?_) (fun hb => ?_)) <;> (try simp only [hb]) <;> (try simp only [hpr] at hb))) <;> try simp only [List.map, gop, ev, lk, aenv, gyield, gBin, gInt, gStrOp, gUn, gPick, gNil, gExtract, gIfc, gConvK, gIndexO, gIndexVO, gMakeV, gMinV, gMaxV, isInt, gMin, gMax, gBlt, gCallV, gInvoke, gNilM, Array.toList_map, vcells, gField, gIndexV, gPart, reduceIte, Nat.reduceAdd, Nat.reduceSub, Nat.reduceMul, Nat.reduceLT, Nat.reduceLeDiff, Nat.reduceEqDiff, Nat.reduceBEq, Int.reduceLT, Int.reduceLE, Int.reduceGT, Int.reduceGE, Int.reduceEq, Int.reduceNe, Int.reduceAdd, Int.reduceSub, Int.reduceMul, Int.reduceNeg, Int.reduceToNat, Int.reduceBEq, Int.reduceBNe, Int.cast_ofNat_Int, List.getElem?_toArray, stp, Try.underlying22, Try.underlying3, Try.underlying5, cv3_5, ty22, ty3, ty5, rs42, w3]))
    refine append_own el22 Try.underlying22 rfl (HS.refl h4) (OWN.zero _ _ _) (r.hs s4).src (by simp; omega) fun v5 h5 s5 _ o5 => ?_
    refine mk_of ?_; repeat' (first | (with_reducible first | refine gw_seq ?_ | refine gw_block ?_) | ((first | (with_reducible refine mk_to ?_) | (with_reducible first | refine gw_region ?_ | refine gw_if ?_ | refine gw_skip ?_ | refine gw_exit ?_ | refine gw_ret ?_) | ((with_reducible first | refine gif_b (fun hb => ?_) (fun hb => ?_) | refine want_t (fun hb => ?_) (fun hb => ?_) | refine want_f (fun hb => ?_) (fun hb => ?_)) <;> (try simp only [hb]) <;> (try simp only [hpr] at hb))) <;> try simp only [List.map, gop, ev, lk, aenv, gyield, gBin, gInt, gStrOp, gUn, gPick, gNil, gExtract, gIfc, gConvK, gIndexO, gIndexVO, gMakeV, gMinV, gMaxV, isInt, gMin, gMax, gBlt, gCallV, gInvoke, gNilM, Array.toList_map, vcells, gField, gIndexV, gPart, reduceIte, Nat.reduceAdd, Nat.reduceSub, Nat.reduceMul, Nat.reduceLT, Nat.reduceLeDiff, Nat.reduceEqDiff, Nat.reduceBEq, Int.reduceLT, Int.reduceLE, Int.reduceGT, Int.reduceGE, Int.reduceEq, Int.reduceNe, Int.reduceAdd, Int.reduceSub, Int.reduceMul, Int.reduceNeg, Int.reduceToNat, Int.reduceBEq, Int.reduceBNe, Int.cast_ofNat_Int, List.getElem?_toArray, stp, Try.underlying22, Try.underlying3, Try.underlying5, cv3_5, ty22, ty3, ty5, rs42, w3]))
    refine bs1_g el22 fun k6 h6 r6 s6 f6 n6 => ?_
    refine mk_of ?_; repeat' (first | (with_reducible first | refine gw_seq ?_ | refine gw_block ?_) | ((first | (with_reducible refine mk_to ?_) | (with_reducible first | refine gw_region ?_ | refine gw_if ?_ | refine gw_skip ?_ | refine gw_exit ?_ | refine gw_ret ?_) | ((with_reducible first | refine gif_b (fun hb => ?_) (fun hb => ?_) | refine want_t (fun hb => ?_) (fun hb => ?_) | refine want_f (fun hb => ?_) (fun hb => ?_)) <;> (try simp only [hb]) <;> (try simp only [hpr] at hb))) <;> try simp only [List.map, gop, ev, lk, aenv, gyield, gBin, gInt, gStrOp, gUn, gPick, gNil, gExtract, gIfc, gConvK, gIndexO, gIndexVO, gMakeV, gMinV, gMaxV, isInt, gMin, gMax, gBlt, gCallV, gInvoke, gNilM, Array.toList_map, vcells, gField, gIndexV, gPart, reduceIte, Nat.reduceAdd, Nat.reduceSub, Nat.reduceMul, Nat.reduceLT, Nat.reduceLeDiff, Nat.reduceEqDiff, Nat.reduceBEq, Int.reduceLT, Int.reduceLE, Int.reduceGT, Int.reduceGE, Int.reduceEq, Int.reduceNe, Int.reduceAdd, Int.reduceSub, Int.reduceMul, Int.reduceNeg, Int.reduceToNat, Int.reduceBEq, Int.reduceBNe, Int.cast_ofNat_Int, List.getElem?_toArray, stp, Try.underlying22, Try.underlying3, Try.underlying5, cv3_5, ty22, ty3, ty5, rs42]))
    refine append_own el22 Try.underlying22 rfl (s5.trans s6) (o5.hs s6) r6.src (by simp; omega) fun v7 h7 s7 _ o7 => ?_
    refine mk_of ?_; repeat' (first | (with_reducible first | refine gw_seq ?_ | refine gw_block ?_) | ((first | (with_reducible refine mk_to ?_) | (with_reducible first | refine gw_region ?_ | refine gw_if ?_ | refine gw_skip ?_ | refine gw_exit ?_ | refine gw_ret ?_) | ((with_reducible first | refine gif_b (fun hb => ?_) (fun hb => ?_) | refine want_t (fun hb => ?_) (fun hb => ?_) | refine want_f (fun hb => ?_) (fun hb => ?_)) <;> (try simp only [hb]) <;> (try simp only [hpr] at hb))) <;> try simp only [List.map, gop, ev, lk, aenv, gyield, gBin, gInt, gStrOp, gUn, gPick, gNil, gExtract, gIfc, gConvK, gIndexO, gIndexVO, gMakeV, gMinV, gMaxV, isInt, gMin, gMax, gBlt, gCallV, gInvoke, gNilM, Array.toList_map, vcells, gField, gIndexV, gPart, reduceIte, Nat.reduceAdd, Nat.reduceSub, Nat.reduceMul, Nat.reduceLT, Nat.reduceLeDiff, Nat.reduceEqDiff, Nat.reduceBEq, Int.reduceLT, Int.reduceLE, Int.reduceGT, Int.reduceGE, Int.reduceEq, Int.reduceNe, Int.reduceAdd, Int.reduceSub, Int.reduceMul, Int.reduceNeg, Int.reduceToNat, Int.reduceBEq, Int.reduceBNe, Int.cast_ofNat_Int, List.getElem?_toArray, stp, Try.underlying22, Try.underlying3, Try.underlying5, cv3_5, ty22, ty3, ty5, rs42]))
    refine append_own el22 Try.underlying22 rfl s7 o7 (rL.hs s7).src (by simp; omega) fun v8 h8 s8 _ o8 => ?_
    refine mk_of ?_; repeat' (first | (with_reducible first | refine gw_seq ?_ | refine gw_block ?_) | ((first | (with_reducible refine mk_to ?_) | (with_reducible first | refine gw_region ?_ | refine gw_if ?_ | refine gw_skip ?_ | refine gw_exit ?_ | refine gw_ret ?_) | ((with_reducible first | refine gif_b (fun hb => ?_) (fun hb => ?_) | refine want_t (fun hb => ?_) (fun hb => ?_) | refine want_f (fun hb => ?_) (fun hb => ?_)) <;> (try simp only [hb]) <;> (try simp only [hpr] at hb))) <;> try simp only [List.map, gop, ev, lk, aenv, gyield, gBin, gInt, gStrOp, gUn, gPick, gNil, gExtract, gIfc, gConvK, gIndexO, gIndexVO, gMakeV, gMinV, gMaxV, isInt, gMin, gMax, gBlt, gCallV, gInvoke, gNilM, Array.toList_map, vcells, gField, gIndexV, gPart, reduceIte, Nat.reduceAdd, Nat.reduceSub, Nat.reduceMul, Nat.reduceLT, Nat.reduceLeDiff, Nat.reduceEqDiff, Nat.reduceBEq, Int.reduceLT, Int.reduceLE, Int.reduceGT, Int.reduceGE, Int.reduceEq, Int.reduceNe, Int.reduceAdd, Int.reduceSub, Int.reduceMul, Int.reduceNeg, Int.reduceToNat, Int.reduceBEq, Int.reduceBNe, Int.cast_ofNat_Int, List.getElem?_toArray, stp, Try.underlying22, Try.underlying3, Try.underlying5, cv3_5, ty22, ty3, ty5, rs42]))
    rw [gu]
    refine ⟨s4.trans s8, OWN.weak s4 ?_⟩
    simpa using o8

theorem c_Bytes (N : Nat) (h : GH) {a b : Option Addr} {n c m d : Nat} {l k : List UInt8} (r : RB h (.slice a n c) l) (r2 : RB h (.slice b m d) k) (hl : l.length + k.length ≤ 70368744177664) : GTri Try.prog N 75 [.slice a n c, .slice b m d] h fun v h' => HS h h' ∧ OWN h h' v (l ++ guint k.length ++ k) := by
  obtain rfl := r2.len_eq
  have hg := guint_len k.length
  refine gtri Try.func75 rfl gf75 ok75 (by simp [Try.ntmps75]) ?_
  repeat' (first | (with_reducible first | refine gw_seq ?_ | refine gw_block ?_) | ((first | (with_reducible first | refine gw_region ?_ | refine gw_if ?_ | refine gw_skip ?_ | refine gw_exit ?_ | refine gw_ret ?_) | ((with_reducible first | refine gif_b (fun hb => ?_) (fun hb => ?_) | refine want_t (fun hb => ?_) (fun hb => ?_) | refine want_f (fun hb => ?_) (fun hb => ?_)) <;> (try simp only [hb]) <;> (try simp only [hpr] at hb)) | ((refine GTri.mono (c_Uint _ _ r (by omega) _) ?_); rintro _ h1 ⟨s1, o1⟩)) <;> try simp only [List.map, gop, ev, lk, aenv, gyield, gBin, gInt, gStrOp, gUn, gPick, gNil, gExtract, gIfc, gConvK, gIndexO, gIndexVO, gMakeV, gMinV, gMaxV, isInt, gMin, gMax, gBlt, gCallV, gInvoke, gNilM, Array.toList_map, vcells, gField, gIndexV, gPart, reduceIte, Nat.reduceAdd, Nat.reduceSub, Nat.reduceMul, Nat.reduceLT, Nat.reduceLeDiff, Nat.reduceEqDiff, Nat.reduceBEq, Int.reduceLT, Int.reduceLE, Int.reduceGT, Int.reduceGE, Int.reduceEq, Int.reduceNe, Int.reduceAdd, Int.reduceSub, Int.reduceMul, Int.reduceNeg, Int.reduceToNat, Int.reduceBEq, Int.reduceBNe, Int.cast_ofNat_Int, List.getElem?_toArray, stp, Try.underlying22, Try.underlying3, Try.underlying5, ty22, ty3, ty5, rs75]))
  refine append_own el22 Try.underlying22 rfl s1 o1 (r2.hs s1).src (by simp; omega) fun v2 h2 s2 _ o2 => ?_
  refine mk_of ?_; repeat' (first | (with_reducible first | refine gw_seq ?_ | refine gw_block ?_) | ((first | (with_reducible refine mk_to ?_) | (with_reducible first | refine gw_region ?_ | refine gw_if ?_ | refine gw_skip ?_ | refine gw_exit ?_ | refine gw_ret ?_) | ((with_reducible first | refine gif_b (fun hb => ?_) (fun hb => ?_) | refine want_t (fun hb => ?_) (fun hb => ?_) | refine want_f (fun hb => ?_) (fun hb => ?_)) <;> (try simp only [hb]) <;> (try simp only [hpr] at hb))) <;> try simp only [List.map, gop, ev, lk, aenv, gyield, gBin, gInt, gStrOp, gUn, gPick, gNil, gExtract, gIfc, gConvK, gIndexO, gIndexVO, gMakeV, gMinV, gMaxV, isInt, gMin, gMax, gBlt, gCallV, gInvoke, gNilM, Array.toList_map, vcells, gField, gIndexV, gPart, reduceIte, Nat.reduceAdd, Nat.reduceSub, Nat.reduceMul, Nat.reduceLT, Nat.reduceLeDiff, Nat.reduceEqDiff, Nat.reduceBEq, Int.reduceLT, Int.reduceLE, Int.reduceGT, Int.reduceGE, Int.reduceEq, Int.reduceNe, Int.reduceAdd, Int.reduceSub, Int.reduceMul, Int.reduceNeg, Int.reduceToNat, Int.reduceBEq, Int.reduceBNe, Int.cast_ofNat_Int, List.getElem?_toArray, stp, Try.underlying22, Try.underlying3, Try.underlying5, ty22, ty3, ty5, rs75]))
  exact ⟨s2, o2⟩
theorem c_rBytes (N : Nat) (h : GH) {a b : Option Addr} {n c m d : Nat} {l k : List UInt8} (r : RB h (.slice a n c) l) (r2 : RB h (.slice b m d) k) (hl : l.length + k.length ≤ 70368744177664) : GTri Try.prog N 45 [.slice a n c, .slice b m d] h fun v h' => HS h h' ∧ OWN h h' v (l ++ guint k.length ++ k) := by
  obtain rfl := r2.len_eq
  have hg := guint_len k.length
  refine gtri Try.func45 rfl gf45 ok45 (by simp [Try.ntmps45]) ?_
  repeat' (first | (with_reducible first | refine gw_seq ?_ | refine gw_block ?_) | ((first | (with_reducible first | refine gw_region ?_ | refine gw_if ?_ | refine gw_skip ?_ | refine gw_exit ?_ | refine gw_ret ?_) | ((with_reducible first | refine gif_b (fun hb => ?_) (fun hb => ?_) | refine want_t (fun hb => ?_) (fun hb => ?_) | refine want_f (fun hb => ?_) (fun hb => ?_)) <;> (try simp only [hb]) <;> (try simp only [hpr] at hb)) | ((refine GTri.mono (c_rUint _ _ r (by omega) _) ?_); rintro _ h1 ⟨s1, o1⟩)) <;> try simp only [List.map, gop, ev, lk, aenv, gyield, gBin, gInt, gStrOp, gUn, gPick, gNil, gExtract, gIfc, gConvK, gIndexO, gIndexVO, gMakeV, gMinV, gMaxV, isInt, gMin, gMax, gBlt, gCallV, gInvoke, gNilM, Array.toList_map, vcells, gField, gIndexV, gPart, reduceIte, Nat.reduceAdd, Nat.reduceSub, Nat.reduceMul, Nat.reduceLT, Nat.reduceLeDiff, Nat.reduceEqDiff, Nat.reduceBEq, Int.reduceLT, Int.reduceLE, Int.reduceGT, Int.reduceGE, Int.reduceEq, Int.reduceNe, Int.reduceAdd, Int.reduceSub, Int.reduceMul, Int.reduceNeg, Int.reduceToNat, Int.reduceBEq, Int.reduceBNe, Int.cast_ofNat_Int, List.getElem?_toArray, stp, Try.underlying22, Try.underlying3, Try.underlying5, ty22, ty3, ty5, rs45]))
  refine append_own el22 Try.underlying22 rfl s1 o1 (r2.hs s1).src (by simp; omega) fun v2 h2 s2 _ o2 => ?_
  refine mk_of ?_; repeat' (first | (with_reducible first | refine gw_seq ?_ | refine gw_block ?_) | ((first | (with_reducible refine mk_to ?_) | (with_reducible first | refine gw_region ?_ | refine gw_if ?_ | refine gw_skip ?_ | refine gw_exit ?_ | refine gw_ret ?_) | ((with_reducible first | refine gif_b (fun hb => ?_) (fun hb => ?_) | refine want_t (fun hb => ?_) (fun hb => ?_) | refine want_f (fun hb => ?_) (fun hb => ?_)) <;> (try simp only [hb]) <;> (try simp only [hpr] at hb))) <;> try simp only [List.map, gop, ev, lk, aenv, gyield, gBin, gInt, gStrOp, gUn, gPick, gNil, gExtract, gIfc, gConvK, gIndexO, gIndexVO, gMakeV, gMinV, gMaxV, isInt, gMin, gMax, gBlt, gCallV, gInvoke, gNilM, Array.toList_map, vcells, gField, gIndexV, gPart, reduceIte, Nat.reduceAdd, Nat.reduceSub, Nat.reduceMul, Nat.reduceLT, Nat.reduceLeDiff, Nat.reduceEqDiff, Nat.reduceBEq, Int.reduceLT, Int.reduceLE, Int.reduceGT, Int.reduceGE, Int.reduceEq, Int.reduceNe, Int.reduceAdd, Int.reduceSub, Int.reduceMul, Int.reduceNeg, Int.reduceToNat, Int.reduceBEq, Int.reduceBNe, Int.cast_ofNat_Int, List.getElem?_toArray, stp, Try.underlying22, Try.underlying3, Try.underlying5, ty22, ty3, ty5, rs45]))
  exact ⟨s2, o2⟩
def gflag (b : Bool) : UInt8 := if b = true then 1 else 0
theorem c_rFlag (N : Nat) (h : GH) {a : Option Addr} {n c : Nat} {l : List UInt8} (r : RB h (.slice a n c) l) (hl : l.length ≤ 70368744177664) (b : Bool) : GTri Try.prog N 44 [.slice a n c, .bool b] h fun v h' => HS h h' ∧ OWN h h' v (l ++ [gflag b]) := by
  refine gtri Try.func44 rfl gf44 ok44 (by simp [Try.ntmps44]) ?_
  cases b
  all_goals
    repeat' (first | (with_reducible first | refine gw_seq ?_ | refine gw_block ?_) | ((first | (with_reducible first | refine gw_region ?_ | refine gw_if ?_ | refine gw_skip ?_ | refine gw_exit ?_ | refine gw_ret ?_) | ((with_reducible first | refine gif_b (fun hb => ?_) (fun hb => ?_) | refine want_t (fun hb => ?_) (fun hb => ?_) | refine want_f (fun hb => ?_) (fun hb => ?_)) <;> (try simp only [hb]) <;> (try simp only [hpr] at hb))) <;> try simp only [List.map, gop, ev, lk, aenv, gyield, gBin, gInt, gStrOp, gUn, gPick, gNil, gExtract, gIfc, gConvK, gIndexO, gIndexVO, gMakeV, gMinV, gMaxV, isInt, gMin, gMax, gBlt, gCallV, gInvoke, gNilM, Array.toList_map, vcells, gField, gIndexV, gPart, reduceIte, Nat.reduceAdd, Nat.reduceSub, Nat.reduceMul, Nat.reduceLT, Nat.reduceLeDiff, Nat.reduceEqDiff, Nat.reduceBEq, Int.reduceLT, Int.reduceLE, Int.reduceGT, Int.reduceGE, Int.reduceEq, Int.reduceNe, Int.reduceAdd, Int.reduceSub, Int.reduceMul, Int.reduceNeg, Int.reduceToNat, Int.reduceBEq, Int.reduceBNe, Int.cast_ofNat_Int, List.getElem?_toArray, stp, Try.underlying22, Try.underlying5, ty22, ty5, rs44]))
    refine bs0_g el22 rfl ?_
    refine mk_of ?_; repeat' (first | (with_reducible first | refine gw_seq ?_ | refine gw_block ?_) | ((first | (with_reducible refine mk_to ?_) | (with_reducible first | refine gw_region ?_ | refine gw_if ?_ | refine gw_skip ?_ | refine gw_exit ?_ | refine gw_ret ?_) | ((with_reducible first | refine gif_b (fun hb => ?_) (fun hb => ?_) | refine want_t (fun hb => ?_) (fun hb => ?_) | refine want_f (fun hb => ?_) (fun hb => ?_)) <;> (try simp only [hb]) <;> (try simp only [hpr] at hb))) <;> try simp only [List.map, gop, ev, lk, aenv, gyield, gBin, gInt, gStrOp, gUn, gPick, gNil, gExtract, gIfc, gConvK, gIndexO, gIndexVO, gMakeV, gMinV, gMaxV, isInt, gMin, gMax, gBlt, gCallV, gInvoke, gNilM, Array.toList_map, vcells, gField, gIndexV, gPart, reduceIte, Nat.reduceAdd, Nat.reduceSub, Nat.reduceMul, Nat.reduceLT, Nat.reduceLeDiff, Nat.reduceEqDiff, Nat.reduceBEq, Int.reduceLT, Int.reduceLE, Int.reduceGT, Int.reduceGE, Int.reduceEq, Int.reduceNe, Int.reduceAdd, Int.reduceSub, Int.reduceMul, Int.reduceNeg, Int.reduceToNat, Int.reduceBEq, Int.reduceBNe, Int.cast_ofNat_Int, List.getElem?_toArray, stp, Try.underlying22, Try.underlying5, ty22, ty5, rs44]))
    refine append_own el22 Try.underlying22 rfl (HS.refl h) (OWN.zero _ _ _) r.src (by simp; omega) fun v5 h5 s5 _ o5 => ?_
    refine mk_of ?_; repeat' (first | (with_reducible first | refine gw_seq ?_ | refine gw_block ?_) | ((first | (with_reducible refine mk_to ?_) | (with_reducible first | refine gw_region ?_ | refine gw_if ?_ | refine gw_skip ?_ | refine gw_exit ?_ | refine gw_ret ?_) | ((with_reducible first | refine gif_b (fun hb => ?_) (fun hb => ?_) | refine want_t (fun hb => ?_) (fun hb => ?_) | refine want_f (fun hb => ?_) (fun hb => ?_)) <;> (try simp only [hb]) <;> (try simp only [hpr] at hb))) <;> try simp only [List.map, gop, ev, lk, aenv, gyield, gBin, gInt, gStrOp, gUn, gPick, gNil, gExtract, gIfc, gConvK, gIndexO, gIndexVO, gMakeV, gMinV, gMaxV, isInt, gMin, gMax, gBlt, gCallV, gInvoke, gNilM, Array.toList_map, vcells, gField, gIndexV, gPart, reduceIte, Nat.reduceAdd, Nat.reduceSub, Nat.reduceMul, Nat.reduceLT, Nat.reduceLeDiff, Nat.reduceEqDiff, Nat.reduceBEq, Int.reduceLT, Int.reduceLE, Int.reduceGT, Int.reduceGE, Int.reduceEq, Int.reduceNe, Int.reduceAdd, Int.reduceSub, Int.reduceMul, Int.reduceNeg, Int.reduceToNat, Int.reduceBEq, Int.reduceBNe, Int.cast_ofNat_Int, List.getElem?_toArray, stp, Try.underlying22, Try.underlying5, ty22, ty5, rs44]))
    first | refine bs1_g (x := 0) el22 fun k6 h6 r6 s6 f6 n6 => ?_ | refine bs1_g (x := 1) el22 fun k6 h6 r6 s6 f6 n6 => ?_
    refine mk_of ?_; repeat' (first | (with_reducible first | refine gw_seq ?_ | refine gw_block ?_) | ((first | (with_reducible refine mk_to ?_) | (with_reducible first | refine gw_region ?_ | refine gw_if ?_ | refine gw_skip ?_ | refine gw_exit ?_ | refine gw_ret ?_) | ((with_reducible first | refine gif_b (fun hb => ?_) (fun hb => ?_) | refine want_t (fun hb => ?_) (fun hb => ?_) | refine want_f (fun hb => ?_) (fun hb => ?_)) <;> (try simp only [hb]) <;> (try simp only [hpr] at hb))) <;> try simp only [List.map, gop, ev, lk, aenv, gyield, gBin, gInt, gStrOp, gUn, gPick, gNil, gExtract, gIfc, gConvK, gIndexO, gIndexVO, gMakeV, gMinV, gMaxV, isInt, gMin, gMax, gBlt, gCallV, gInvoke, gNilM, Array.toList_map, vcells, gField, gIndexV, gPart, reduceIte, Nat.reduceAdd, Nat.reduceSub, Nat.reduceMul, Nat.reduceLT, Nat.reduceLeDiff, Nat.reduceEqDiff, Nat.reduceBEq, Int.reduceLT, Int.reduceLE, Int.reduceGT, Int.reduceGE, Int.reduceEq, Int.reduceNe, Int.reduceAdd, Int.reduceSub, Int.reduceMul, Int.reduceNeg, Int.reduceToNat, Int.reduceBEq, Int.reduceBNe, Int.cast_ofNat_Int, List.getElem?_toArray, stp, Try.underlying22, Try.underlying5, ty22, ty5, rs44]))
    refine append_own el22 Try.underlying22 rfl (s5.trans s6) (o5.hs s6) r6.src (by simp; omega) fun v7 h7 s7 _ o7 => ?_
    refine mk_of ?_; repeat' (first | (with_reducible first | refine gw_seq ?_ | refine gw_block ?_) | ((first | (with_reducible refine mk_to ?_) | (with_reducible first | refine gw_region ?_ | refine gw_if ?_ | refine gw_skip ?_ | refine gw_exit ?_ | refine gw_ret ?_) | ((with_reducible first | refine gif_b (fun hb => ?_) (fun hb => ?_) | refine want_t (fun hb => ?_) (fun hb => ?_) | refine want_f (fun hb => ?_) (fun hb => ?_)) <;> (try simp only [hb]) <;> (try simp only [hpr] at hb))) <;> try simp only [List.map, gop, ev, lk, aenv, gyield, gBin, gInt, gStrOp, gUn, gPick, gNil, gExtract, gIfc, gConvK, gIndexO, gIndexVO, gMakeV, gMinV, gMaxV, isInt, gMin, gMax, gBlt, gCallV, gInvoke, gNilM, Array.toList_map, vcells, gField, gIndexV, gPart, reduceIte, Nat.reduceAdd, Nat.reduceSub, Nat.reduceMul, Nat.reduceLT, Nat.reduceLeDiff, Nat.reduceEqDiff, Nat.reduceBEq, Int.reduceLT, Int.reduceLE, Int.reduceGT, Int.reduceGE, Int.reduceEq, Int.reduceNe, Int.reduceAdd, Int.reduceSub, Int.reduceMul, Int.reduceNeg, Int.reduceToNat, Int.reduceBEq, Int.reduceBNe, Int.cast_ofNat_Int, List.getElem?_toArray, stp, Try.underlying22, Try.underlying5, ty22, ty5, rs44]))
    exact ⟨s7, o7⟩
theorem c_Flag (N : Nat) (h : GH) {a : Option Addr} {n c : Nat} {l : List UInt8} (r : RB h (.slice a n c) l) (hl : l.length ≤ 70368744177664) (b : Bool) : GTri Try.prog N 71 [.slice a n c, .bool b] h fun v h' => HS h h' ∧ OWN h h' v (l ++ [gflag b]) := by
  refine gtri Try.func71 rfl gf71 ok71 (by simp [Try.ntmps71]) ?_
  repeat' (first | (with_reducible first | refine gw_seq ?_ | refine gw_block ?_) | ((first | (with_reducible first | refine gw_region ?_ | refine gw_if ?_ | refine gw_skip ?_ | refine gw_exit ?_ | refine gw_ret ?_) | ((with_reducible first | refine gif_b (fun hb => ?_) (fun hb => ?_) | refine want_t (fun hb => ?_) (fun hb => ?_) | refine want_f (fun hb => ?_) (fun hb => ?_)) <;> (try simp only [hb]) <;> (try simp only [hpr] at hb)) | ((refine GTri.mono (c_SClone _ _ r (by omega)) ?_); rintro _ h1 ⟨s1, o1⟩)) <;> try simp only [List.map, gop, ev, lk, aenv, gyield, gBin, gInt, gStrOp, gUn, gPick, gNil, gExtract, gIfc, gConvK, gIndexO, gIndexVO, gMakeV, gMinV, gMaxV, isInt, gMin, gMax, gBlt, gCallV, gInvoke, gNilM, Array.toList_map, vcells, gField, gIndexV, gPart, reduceIte, Nat.reduceAdd, Nat.reduceSub, Nat.reduceMul, Nat.reduceLT, Nat.reduceLeDiff, Nat.reduceEqDiff, Nat.reduceBEq, Int.reduceLT, Int.reduceLE, Int.reduceGT, Int.reduceGE, Int.reduceEq, Int.reduceNe, Int.reduceAdd, Int.reduceSub, Int.reduceMul, Int.reduceNeg, Int.reduceToNat, Int.reduceBEq, Int.reduceBNe, Int.cast_ofNat_Int, List.getElem?_toArray, stp, Try.underlying22, Try.underlying3, Try.underlying5, ty22, ty3, ty5, rs71]))
  refine bs1_g (x := 0) el22 fun k6 h6 r6 s6 f6 n6 => ?_
  refine mk_of ?_; repeat' (first | (with_reducible first | refine gw_seq ?_ | refine gw_block ?_) | ((first | (with_reducible refine mk_to ?_) | (with_reducible first | refine gw_region ?_ | refine gw_if ?_ | refine gw_skip ?_ | refine gw_exit ?_ | refine gw_ret ?_) | ((with_reducible first | refine gif_b (fun hb => ?_) (fun hb => ?_) | refine want_t (fun hb => ?_) (fun hb => ?_) | refine want_f (fun hb => ?_) (fun hb => ?_)) <;> (try simp only [hb]) <;> (try simp only [hpr] at hb))) <;> try simp only [List.map, gop, ev, lk, aenv, gyield, gBin, gInt, gStrOp, gUn, gPick, gNil, gExtract, gIfc, gConvK, gIndexO, gIndexVO, gMakeV, gMinV, gMaxV, isInt, gMin, gMax, gBlt, gCallV, gInvoke, gNilM, Array.toList_map, vcells, gField, gIndexV, gPart, reduceIte, Nat.reduceAdd, Nat.reduceSub, Nat.reduceMul, Nat.reduceLT, Nat.reduceLeDiff, Nat.reduceEqDiff, Nat.reduceBEq, Int.reduceLT, Int.reduceLE, Int.reduceGT, Int.reduceGE, Int.reduceEq, Int.reduceNe, Int.reduceAdd, Int.reduceSub, Int.reduceMul, Int.reduceNeg, Int.reduceToNat, Int.reduceBEq, Int.reduceBNe, Int.cast_ofNat_Int, List.getElem?_toArray, stp, Try.underlying22, Try.underlying3, Try.underlying5, ty22, ty3, ty5, rs71]))
  refine append_own el22 Try.underlying22 rfl (s1.trans s6) (o1.hs s6) r6.src (by simp; omega) fun v7 h7 s7 _ o7 => ?_
  obtain ⟨k, c7, rfl, q1, q2, q3, q4⟩ := o7.block (by simp)
  have el : (l ++ [(0 : UInt8)]).length = l.length + 1 := by simp
  cases b
  · refine mk_of ?_; repeat' (first | (with_reducible first | refine gw_seq ?_ | refine gw_block ?_) | ((first | (with_reducible refine mk_to ?_) | (with_reducible first | refine gw_region ?_ | refine gw_if ?_ | refine gw_skip ?_ | refine gw_exit ?_ | refine gw_ret ?_) | ((with_reducible first | refine gif_b (fun hb => ?_) (fun hb => ?_) | refine want_t (fun hb => ?_) (fun hb => ?_) | refine want_f (fun hb => ?_) (fun hb => ?_)) <;> (try simp only [hb]) <;> (try simp only [hpr] at hb))) <;> try simp only [List.map, gop, ev, lk, aenv, gyield, gBin, gInt, gStrOp, gUn, gPick, gNil, gExtract, gIfc, gConvK, gIndexO, gIndexVO, gMakeV, gMinV, gMaxV, isInt, gMin, gMax, gBlt, gCallV, gInvoke, gNilM, Array.toList_map, vcells, gField, gIndexV, gPart, reduceIte, Nat.reduceAdd, Nat.reduceSub, Nat.reduceMul, Nat.reduceLT, Nat.reduceLeDiff, Nat.reduceEqDiff, Nat.reduceBEq, Int.reduceLT, Int.reduceLE, Int.reduceGT, Int.reduceGE, Int.reduceEq, Int.reduceNe, Int.reduceAdd, Int.reduceSub, Int.reduceMul, Int.reduceNeg, Int.reduceToNat, Int.reduceBEq, Int.reduceBNe, Int.cast_ofNat_Int, List.getElem?_toArray, stp, Try.underlying22, Try.underlying3, Try.underlying5, ty22, ty3, ty5, rs71]))
    exact ⟨s7, o7⟩
  · have w1 : IntKind.i64.wrap (((l ++ [(0 : UInt8)]).length : Int) - 1) = (l.length : Int) := by rw [el, wrap64 (by omega) (by omega)]; omega
    have i1 := gIndex_own (P := Try.prog) (t := 22) (k := k) (n := (l ++ [(0 : UInt8)]).length) (c := c7) (i := l.length) Try.underlying22 sz5 (by omega)
    rw [Nat.mul_one] at i1
    have g1 : gLoad Try.prog 5 h7 (.pointer (some ⟨k, l.length, none⟩)) = some (.int .u8 0) := by
      rw [gload1 q3 sz5]
      simp [bv]
    refine mk_of ?_; repeat' (first | (with_reducible first | refine gw_seq ?_ | refine gw_block ?_) | ((first | (with_reducible refine mk_to ?_) | (with_reducible first | refine gw_region ?_ | refine gw_if ?_ | refine gw_skip ?_ | refine gw_exit ?_ | refine gw_ret ?_) | ((with_reducible first | refine gif_b (fun hb => ?_) (fun hb => ?_) | refine want_t (fun hb => ?_) (fun hb => ?_) | refine want_f (fun hb => ?_) (fun hb => ?_)) <;> (try simp only [hb]) <;> (try simp only [hpr] at hb))) <;> try simp only [List.map, gop, ev, lk, aenv, gyield, gBin, gInt, gStrOp, gUn, gPick, gNil, gExtract, gIfc, gConvK, gIndexO, gIndexVO, gMakeV, gMinV, gMaxV, isInt, gMin, gMax, gBlt, gCallV, gInvoke, gNilM, Array.toList_map, vcells, gField, gIndexV, gPart, reduceIte, Nat.reduceAdd, Nat.reduceSub, Nat.reduceMul, Nat.reduceLT, Nat.reduceLeDiff, Nat.reduceEqDiff, Nat.reduceBEq, Int.reduceLT, Int.reduceLE, Int.reduceGT, Int.reduceGE, Int.reduceEq, Int.reduceNe, Int.reduceAdd, Int.reduceSub, Int.reduceMul, Int.reduceNeg, Int.reduceToNat, Int.reduceBEq, Int.reduceBNe, Int.cast_ofNat_Int, List.getElem?_toArray, stp, Try.underlying22, Try.underlying3, Try.underlying5, ty22, ty3, ty5, rs71, w1, i1, g1]))
    refine st_one q3 sz5 rfl (by simp) rfl rfl fun h8 m8 f8 => ?_
    have s8 := s7.upd q4 f8
    have e8 : ((l ++ [(0 : UInt8)]).map bv).set l.length (.int .u8 1) = (l ++ [gflag true]).map bv := by
      have := set_bv (l ++ [(0 : UInt8)]) l.length 1
      rw [show bv 1 = .int .u8 1 from rfl] at this
      rw [this, List.set_append_right _ _ (by omega), Nat.sub_self]; rfl
    simp only [e8] at m8
    refine mk_of ?_; repeat' (first | (with_reducible first | refine gw_seq ?_ | refine gw_block ?_) | ((first | (with_reducible refine mk_to ?_) | (with_reducible first | refine gw_region ?_ | refine gw_if ?_ | refine gw_skip ?_ | refine gw_exit ?_ | refine gw_ret ?_) | ((with_reducible first | refine gif_b (fun hb => ?_) (fun hb => ?_) | refine want_t (fun hb => ?_) (fun hb => ?_) | refine want_f (fun hb => ?_) (fun hb => ?_)) <;> (try simp only [hb]) <;> (try simp only [hpr] at hb))) <;> try simp only [List.map, gop, ev, lk, aenv, gyield, gBin, gInt, gStrOp, gUn, gPick, gNil, gExtract, gIfc, gConvK, gIndexO, gIndexVO, gMakeV, gMinV, gMaxV, isInt, gMin, gMax, gBlt, gCallV, gInvoke, gNilM, Array.toList_map, vcells, gField, gIndexV, gPart, reduceIte, Nat.reduceAdd, Nat.reduceSub, Nat.reduceMul, Nat.reduceLT, Nat.reduceLeDiff, Nat.reduceEqDiff, Nat.reduceBEq, Int.reduceLT, Int.reduceLE, Int.reduceGT, Int.reduceGE, Int.reduceEq, Int.reduceNe, Int.reduceAdd, Int.reduceSub, Int.reduceMul, Int.reduceNeg, Int.reduceToNat, Int.reduceBEq, Int.reduceBNe, Int.cast_ofNat_Int, List.getElem?_toArray, stp, Try.underlying22, Try.underlying3, Try.underlying5, ty22, ty3, ty5, rs71]))
    exact ⟨s8, OWN.of_block q1 (by simpa using q2) (by simp) (by simp) m8 q4⟩

end Go.Gh

/- Requests: the epochs whose records show their answers. -/

namespace Go.Gh
open Go Go.Proofs Go.RowKit
set_option linter.unusedVariables false
set_option linter.unusedSimpArgs false
set_option maxRecDepth 100000
set_option maxHeartbeats 1000000

theorem gload_hs {P : Program} {t : TypeId} {h h' : GH} {p v : Value} (x : HS h h') (e : gLoad P t h p = some v) : gLoad P t h' p = some v := by
  unfold gLoad at e ⊢
  split at e
  case h_2 => cases e
  split at e
  · rename_i n hz
    obtain ⟨cs, h1, h2⟩ := Option.map_eq_some_iff.1 e
    simp [gread_hc x.hc h1, h2]
  · obtain ⟨cs, h1, h2⟩ := Option.bind_eq_some_iff.1 e
    simp [gread_hc x.hc h1, h2]
  · cases e
structure Aq where
  (kd fr tu tm ep ix lm : Int)
  (so : Bool)
def Aq.cs (q : Aq) (i b : Value) : List Value := [.int .i64 q.kd, i, .int .i64 q.fr, .int .i64 q.tu, .int .i64 q.tm, .bool q.so, .int .i64 q.ep, .int .i64 q.ix, .int .i64 q.lm, b]
def Aq.v (q : Aq) (i b : Value) : Value := .agg (q.cs i b).toArray
/-- A slice of whole numbers. -/
def RI (h : GH) (s : Value) (l : List Int) : Prop := ∃ a c, s = .slice a l.length c ∧ ∀ (i : Nat) (hi : i < l.length), ∃ p, gIndex Try.prog 39 s (i : Int) = some p ∧ gLoad Try.prog 3 h p = some (.int .i64 l[i])
theorem RI.hs {h h' : GH} {s : Value} {l : List Int} (r : RI h s l) (x : HS h h') : RI h' s l := by
  obtain ⟨a, c, e, r⟩ := r
  refine ⟨a, c, e, fun i hi => ?_⟩
  obtain ⟨p, h1, h2⟩ := r i hi
  exact ⟨p, h1, gload_hs x h2⟩
theorem ri_block {h : GH} {k c es : Nat} {w t : Bool} {l : List Int} (hk : h k = some ⟨l.map (Value.int .i64), es, w, t⟩) : RI h (.slice (some ⟨k, 0, none⟩) l.length c) l := by
  refine ⟨_, _, rfl, fun i hi => ⟨_, gIndex_own Try.underlying39 sz3 hi, ?_⟩⟩
  rw [Nat.mul_one, gload1 hk sz3]
  simp [hi]
theorem RI.nil (h : GH) (c : Nat) : RI h (.slice none 0 c) [] := ⟨none, c, rfl, fun i hi => absurd hi (Nat.not_lt_zero _)⟩
theorem OWNC.ri {h0 h : GH} {v : Value} {n : Nat} {l : List Int} (o : OWNC 1 h0 h v n (l.map (Value.int .i64))) (hn : n = l.length) : RI h v l := by
  subst hn
  rcases o with ⟨rfl, h1, _⟩ | ⟨a, rfl, h1, _⟩ | ⟨k, c, rfl, _, _, _, _, h5, _⟩
  · have : l = [] := List.eq_nil_of_length_eq_zero h1
    subst this
    exact RI.nil _ _
  · have : l = [] := List.eq_nil_of_length_eq_zero h1
    subst this
    exact ⟨_, _, rfl, fun i hi => absurd hi (Nat.not_lt_zero _)⟩
  · exact ri_block h5

end Go.Gh

/- Requests: an evicting one is written; the law AskRoots. -/

namespace Go.Gh
open Go Go.Proofs Go.RowKit
set_option linter.unusedVariables false
set_option linter.unusedSimpArgs false
set_option maxRecDepth 100000
set_option maxHeartbeats 1000000

theorem st_agg {P : Program} {h : GH} {k : Nat} {B : GB} {t n : Nat} {b : Bool} {cs : List Value} {K : Value → GH → Prop} (hk : h k = some B) (hz : gsz P t = some (b, n)) (hw : B.wr = true) (hn : n ≠ 0) (hl : cs.length = n) (hB : B.cells.length = n) (hc : cs.all isCell = true)
    (g : ∀ h', h' k = some { B with cells := cs } → (∀ j, j ≠ k → h' j = h j) → K U h') : optH (gStore P t h (.pointer (some ⟨k, 0, none⟩)) (.agg cs.toArray)) K :=
  st_all hk hz hw hn (by simpa [vcells] using hl) hB (by simpa [vcells] using hc) fun h' m f => g h' (by simpa [vcells] using m) f
end Go.Gh

/- Requests that come in. -/

namespace Go.Gh
open Go Go.Proofs Go.RowKit Go.ChangeShapes Go.WideShapes Go.ChangeAt
set_option linter.unusedVariables false
set_option linter.unusedSimpArgs false
set_option maxRecDepth 100000
set_option maxHeartbeats 1000000

/-- A key of an identity. -/
def Bd (h : GH) (cs : List Value) (x : List UInt8 × List UInt8) : Prop := ∃ a n c b m d, cs = [.slice a n c, .slice b m d] ∧ RB h (.slice a n c) x.1 ∧ RB h (.slice b m d) x.2
end Go.Gh

/- A request's fields, for any pen. -/

namespace Go.Gh
open Go Go.Proofs Go.RowKit
set_option linter.unusedVariables false
set_option linter.unusedSimpArgs false
set_option maxRecDepth 100000
set_option maxHeartbeats 1000000

/-- A pen: what its methods do to a state of its own. -/
structure Pen (N : Nat) where
  T : TypeId
  fn : FuncId
  fx : FuncId
  fg : FuncId
  fb : FuncId
  gn : gMeth Try.prog T "annals/ask.number" = some fn
  gx : gMeth Try.prog T "annals/ask.text" = some fx
  gg : gMeth Try.prog T "annals/ask.flag" = some fg
  gb : gMeth Try.prog T "annals/ask.batch" = some fb
  x : Value
  ka : Nat
  S : Type
  I : Nat → S → GH → Prop
  kd : S → Int
  so : S → Bool
  num : S → Nat → Int → S
  txt : S → S
  flg : S → S
  bat : S → S
  hI : ∀ n s h, I n s h → ∃ cs w, h ka = some ⟨cs, 0, w, false⟩ ∧ cs[0]? = some (.int .i64 (kd s)) ∧ cs[5]? = some (.bool (so s))
  cn : ∀ n s h (o : Nat) (m : Int), n < 8 → I n s h → (o = 2 ∨ o = 3 ∨ o = 4 ∨ o = 6 ∨ o = 7 ∨ o = 8) → (m = 2147483648 ∨ m = 1125899906842624) → GTri Try.prog N fn [x, .pointer (some ⟨ka, o, none⟩), .int .i64 m] h fun _ h' => I (n + 1) (num s o m) h'
  cx : ∀ n s h, n < 8 → I n s h → GTri Try.prog N fx [x, .pointer (some ⟨ka, 1, none⟩)] h fun _ h' => I (n + 1) (txt s) h'
  cg : ∀ n s h, n < 8 → I n s h → GTri Try.prog N fg [x, .pointer (some ⟨ka, 5, none⟩)] h fun _ h' => I (n + 1) (flg s) h'
  cb : ∀ n s h, n < 8 → I n s h → GTri Try.prog N fb [x, .pointer (some ⟨ka, 9, none⟩)] h fun _ h' => I (n + 1) (bat s) h'
def Pen.n {N : Nat} (p : Pen N) (o : Nat) (s : p.S) : p.S := p.num s o 2147483648
def Pen.run {N : Nat} (p : Pen N) (k : Int) (s : p.S) : Option p.S :=
  if k = 1 then some (p.bat s)
  else if k = 2 then some (p.num s 4 1125899906842624)
  else if k = 3 then some (p.n 3 (p.txt s))
  else if k = 4 then some (p.n 3 (p.num (p.txt s) 4 1125899906842624))
  else if k = 5 then some (p.n 3 (p.n 2 (p.txt s)))
  else if k = 10 then some (p.n 8 (p.n 3 (p.n 2 (p.txt s))))
  else if k = 6 then some (p.n 8 (if p.so (p.flg (p.n 3 (p.n 2 s))) = true then p.txt (p.flg (p.n 3 (p.n 2 s))) else p.flg (p.n 3 (p.n 2 s))))
  else if k = 7 then some (p.n 8 (p.n 7 (p.n 6 (p.n 3 (p.n 2 s)))))
  else if k = 8 ∨ k = 9 then some s else none

end Go.Gh

/- A request's judge. -/

namespace Go.Gh
open Go Go.Proofs Go.RowKit
set_option linter.unusedVariables false
set_option linter.unusedSimpArgs false
set_option maxRecDepth 100000
set_option maxHeartbeats 1000000

def Aq.get (q : Aq) : Nat → Int
  | 2 => q.fr
  | 3 => q.tu
  | 4 => q.tm
  | 6 => q.ep
  | 7 => q.ix
  | _ => q.lm
def Aq.put (q : Aq) (n : Int) : Nat → Aq
  | 2 => { q with fr := n }
  | 3 => { q with tu := n }
  | 4 => { q with tm := n }
  | 6 => { q with ep := n }
  | 7 => { q with ix := n }
  | _ => { q with lm := n }
theorem Aq.cs_get (q : Aq) (i b : Value) {o : Nat} (ho : o = 2 ∨ o = 3 ∨ o = 4 ∨ o = 6 ∨ o = 7 ∨ o = 8) : (q.cs i b)[o]? = some (.int .i64 (q.get o)) := by
  rcases ho with rfl | rfl | rfl | rfl | rfl | rfl <;> rfl
theorem Aq.cs_put (q : Aq) (i b : Value) {o : Nat} (ho : o = 2 ∨ o = 3 ∨ o = 4 ∨ o = 6 ∨ o = 7 ∨ o = 8) (n : Int) : (q.cs i b).set o (.int .i64 n) = (q.put n o).cs i b := by
  rcases ho with rfl | rfl | rfl | rfl | rfl | rfl <;> rfl
theorem Aq.cs_len (q : Aq) (i b : Value) : (q.cs i b).length = 10 := rfl
theorem gload_g {P : Program} {h : GH} {ad : Addr} {t n : Nat} {cs : List Value} (hz : gsz P t = some (true, n)) (hr : gread h ad n = some cs) : gLoad P t h (.pointer (some ad)) = some (.agg cs.toArray) := by
  simp [gLoad, hz, hr]
theorem Bd.hx {k : Nat} {h h' : GH} {B : GB} (m : h k = some B) (hB : B.es = 0 ∧ B.wr = true) (hc : B.cells.all notU8 = true) (x : HX k h h') {cs : List Value} {y : List UInt8 × List UInt8} (r : Bd h cs y) : Bd h' cs y := by
  obtain ⟨a, n, c, b, m', d, rfl, r1, r2⟩ := r
  exact ⟨a, n, c, b, m', d, rfl, r1.hx m hc x, r2.hx m hc x⟩
theorem Bd.hs {h h' : GH} (x : HS h h') {cs : List Value} {y : List UInt8 × List UInt8} (r : Bd h cs y) : Bd h' cs y := by
  obtain ⟨a, n, c, b, m', d, rfl, r1, r2⟩ := r
  exact ⟨a, n, c, b, m', d, rfl, r1.hs x, r2.hs x⟩
theorem RL.bx {k : Nat} {h h' : GH} {B : GB} {v : Value} {L : List (List UInt8 × List UInt8)} (r : RL 2 Bd h v L) (m : h k = some B) (hB : B.es = 0 ∧ B.wr = true) (hc : B.cells.all notU8 = true) (x : HX k h h') : RL 2 Bd h' v L := r.hxR m hB x fun _ _ q => q.hx m hB hc x
theorem RL.bs {h h' : GH} {v : Value} {L : List (List UInt8 × List UInt8)} (r : RL 2 Bd h v L) (x : HS h h') : RL 2 Bd h' v L := r.hcR x.hc fun _ _ q => q.hs x

structure Js where
  bad : Bool
  q : Aq
  id : List UInt8
  bt : List (List UInt8 × List UInt8)
def JI (kj ka : Nat) (h0 : GH) (n : Nat) (s : Js) (h : GH) : Prop := h kj = some ⟨[.bool s.bad], 0, true, false⟩ ∧ (∃ a c b d, h ka = some ⟨s.q.cs (.slice a s.id.length c) (.slice b s.bt.length d), 0, true, false⟩ ∧ RL 2 Bd h (.slice b s.bt.length d) s.bt) ∧ kj ≠ ka ∧ ∀ j B, j ≠ kj → j ≠ ka → h0 j = some B → h j = some B

theorem c_jnum0 (N kj ka : Nat) (h : GH) (o : Nat) (m k : Int) (bad : Bool) {cs : List Value} (m1 : h kj = some ⟨[.bool bad], 0, true, false⟩) (m2 : h ka = some ⟨cs, 0, true, false⟩) (ne : kj ≠ ka) (cg : cs[o]? = some (.int .i64 k)) (ho : o < cs.length) : GTri Try.prog N 96 [.pointer (some ⟨kj, 0, none⟩), .pointer (some ⟨ka, o, none⟩), .int .i64 m] h fun _ h' => h' kj = some ⟨[.bool (bad || decide (k < 0) || decide (k > m))], 0, true, false⟩ ∧ h' ka = some ⟨cs.set o (.int .i64 0), 0, true, false⟩ ∧ ∀ j, j ≠ kj → j ≠ ka → h' j = h j := by
  generalize hr : (bad || decide (k < 0) || decide (k > m)) = r
  have fin : ∀ (x : Bool) (h2 h3 : GH), x = r → h2 kj = some ⟨[.bool x], 0, true, false⟩ → (∀ j, j ≠ kj → h2 j = h j) → h3 ka = some ⟨cs.set o (.int .i64 0), 0, true, false⟩ → (∀ j, j ≠ ka → h3 j = h2 j) → h3 kj = some ⟨[.bool r], 0, true, false⟩ ∧ h3 ka = some ⟨cs.set o (.int .i64 0), 0, true, false⟩ ∧ ∀ j, j ≠ kj → j ≠ ka → h3 j = h j := by
    rintro _ h2 h3 rfl q1 q2 q3 q4
    exact ⟨(q4 kj ne).trans q1, q3, fun j n1 n2 => (q4 j n2).trans (q2 j n1)⟩
  refine gtri Try.func96 rfl gf96 ok96 (by simp [Try.ntmps96]) ?_
  cases bad
  all_goals
    repeat' (first | (with_reducible first | refine gw_seq ?_ | refine gw_block ?_) | ((first | (with_reducible first | refine gw_region ?_ | refine gw_if ?_ | refine gw_skip ?_ | refine gw_exit ?_ | refine gw_ret ?_) | ((with_reducible first | refine gif_b (fun hb => ?_) (fun hb => ?_) | refine want_t (fun hb => ?_) (fun hb => ?_) | refine want_f (fun hb => ?_) (fun hb => ?_)) <;> (try simp only [hb]) <;> (try simp only [hpr] at hb))) <;> try simp only [List.map, gop, ev, lk, aenv, gyield, gBin, gInt, gStrOp, gUn, gPick, gNil, gExtract, gIfc, gConvK, gIndexO, gIndexVO, gMakeV, gMinV, gMaxV, isInt, gMin, gMax, gBlt, gCallV, gInvoke, gNilM, Array.toList_map, vcells, gField, gIndexV, gPart, reduceIte, Nat.reduceAdd, Nat.reduceSub, Nat.reduceMul, Nat.reduceLT, Nat.reduceLeDiff, Nat.reduceEqDiff, Nat.reduceBEq, Int.reduceLT, Int.reduceLE, Int.reduceGT, Int.reduceGE, Int.reduceEq, Int.reduceNe, Int.reduceAdd, Int.reduceSub, Int.reduceMul, Int.reduceNeg, Int.reduceToNat, Int.reduceBEq, Int.reduceBNe, Int.cast_ofNat_Int, List.getElem?_toArray, stp, Try.underlying3, Try.underlying4, Try.underlying78, ty78, ty3, ty4, rs96, gNil, gload1 m1 sz4, gload1 m2 sz3, cg, gPick]))
  all_goals
    refine st_one m1 sz4 rfl (by simp) rfl rfl fun h2 q2 f2 => ?_
    have m3 : h2 ka = some ⟨cs, 0, true, false⟩ := (f2 ka ne.symm).trans m2
    refine mk_of ?_; repeat' (first | (with_reducible first | refine gw_seq ?_ | refine gw_block ?_) | ((first | (with_reducible refine mk_to ?_) | (with_reducible first | refine gw_region ?_ | refine gw_if ?_ | refine gw_skip ?_ | refine gw_exit ?_ | refine gw_ret ?_) | ((with_reducible first | refine gif_b (fun hb => ?_) (fun hb => ?_) | refine want_t (fun hb => ?_) (fun hb => ?_) | refine want_f (fun hb => ?_) (fun hb => ?_)) <;> (try simp only [hb]) <;> (try simp only [hpr] at hb))) <;> try simp only [List.map, gop, ev, lk, aenv, gyield, gBin, gInt, gStrOp, gUn, gPick, gNil, gExtract, gIfc, gConvK, gIndexO, gIndexVO, gMakeV, gMinV, gMaxV, isInt, gMin, gMax, gBlt, gCallV, gInvoke, gNilM, Array.toList_map, vcells, gField, gIndexV, gPart, reduceIte, Nat.reduceAdd, Nat.reduceSub, Nat.reduceMul, Nat.reduceLT, Nat.reduceLeDiff, Nat.reduceEqDiff, Nat.reduceBEq, Int.reduceLT, Int.reduceLE, Int.reduceGT, Int.reduceGE, Int.reduceEq, Int.reduceNe, Int.reduceAdd, Int.reduceSub, Int.reduceMul, Int.reduceNeg, Int.reduceToNat, Int.reduceBEq, Int.reduceBNe, Int.cast_ofNat_Int, List.getElem?_toArray, stp, Try.underlying3, Try.underlying4, Try.underlying78, ty78, ty3, ty4, rs96, gNil]))
    refine st_one m3 sz3 rfl ho rfl rfl fun h3 q3 f3 => ?_
    refine mk_of ?_; repeat' (first | (with_reducible first | refine gw_seq ?_ | refine gw_block ?_) | ((first | (with_reducible refine mk_to ?_) | (with_reducible first | refine gw_region ?_ | refine gw_if ?_ | refine gw_skip ?_ | refine gw_exit ?_ | refine gw_ret ?_) | ((with_reducible first | refine gif_b (fun hb => ?_) (fun hb => ?_) | refine want_t (fun hb => ?_) (fun hb => ?_) | refine want_f (fun hb => ?_) (fun hb => ?_)) <;> (try simp only [hb]) <;> (try simp only [hpr] at hb))) <;> try simp only [List.map, gop, ev, lk, aenv, gyield, gBin, gInt, gStrOp, gUn, gPick, gNil, gExtract, gIfc, gConvK, gIndexO, gIndexVO, gMakeV, gMinV, gMaxV, isInt, gMin, gMax, gBlt, gCallV, gInvoke, gNilM, Array.toList_map, vcells, gField, gIndexV, gPart, reduceIte, Nat.reduceAdd, Nat.reduceSub, Nat.reduceMul, Nat.reduceLT, Nat.reduceLeDiff, Nat.reduceEqDiff, Nat.reduceBEq, Int.reduceLT, Int.reduceLE, Int.reduceGT, Int.reduceGE, Int.reduceEq, Int.reduceNe, Int.reduceAdd, Int.reduceSub, Int.reduceMul, Int.reduceNeg, Int.reduceToNat, Int.reduceBEq, Int.reduceBNe, Int.cast_ofNat_Int, List.getElem?_toArray, stp, Try.underlying3, Try.underlying4, Try.underlying78, ty78, ty3, ty4, rs96]))
    refine fin _ h2 h3 ?_ q2 f2 q3 f3
    simp [← hr, *]
theorem c_jtxt0 (N kj ka : Nat) (h : GH) (bad : Bool) {cs : List Value} {a : Option Addr} {n c : Nat} (m1 : h kj = some ⟨[.bool bad], 0, true, false⟩) (m2 : h ka = some ⟨cs, 0, true, false⟩) (ne : kj ≠ ka) (cg : cs[1]? = some (.slice a n c)) (ho : 1 < cs.length) : GTri Try.prog N 97 [.pointer (some ⟨kj, 0, none⟩), .pointer (some ⟨ka, 1, none⟩)] h fun _ h' => h' kj = some ⟨[.bool (bad || decide ((n : Int) > 24))], 0, true, false⟩ ∧ h' ka = some ⟨cs.set 1 (.slice none 0 0), 0, true, false⟩ ∧ ∀ j, j ≠ kj → j ≠ ka → h' j = h j := by
  generalize hr : (bad || decide ((n : Int) > 24)) = r
  have fin : ∀ (x : Bool) (h2 h3 : GH), x = r → h2 kj = some ⟨[.bool x], 0, true, false⟩ → (∀ j, j ≠ kj → h2 j = h j) → h3 ka = some ⟨cs.set 1 (.slice none 0 0), 0, true, false⟩ → (∀ j, j ≠ ka → h3 j = h2 j) → h3 kj = some ⟨[.bool r], 0, true, false⟩ ∧ h3 ka = some ⟨cs.set 1 (.slice none 0 0), 0, true, false⟩ ∧ ∀ j, j ≠ kj → j ≠ ka → h3 j = h j := by
    rintro _ h2 h3 rfl q1 q2 q3 q4
    exact ⟨(q4 kj ne).trans q1, q3, fun j n1 n2 => (q4 j n2).trans (q2 j n1)⟩
  refine gtri Try.func97 rfl gf97 ok97 (by simp [Try.ntmps97]) ?_
  cases bad
  all_goals
    repeat' (first | (with_reducible first | refine gw_seq ?_ | refine gw_block ?_) | ((first | (with_reducible first | refine gw_region ?_ | refine gw_if ?_ | refine gw_skip ?_ | refine gw_exit ?_ | refine gw_ret ?_) | ((with_reducible first | refine gif_b (fun hb => ?_) (fun hb => ?_) | refine want_t (fun hb => ?_) (fun hb => ?_) | refine want_f (fun hb => ?_) (fun hb => ?_)) <;> (try simp only [hb]) <;> (try simp only [hpr] at hb))) <;> try simp only [List.map, gop, ev, lk, aenv, gyield, gBin, gInt, gStrOp, gUn, gPick, gNil, gExtract, gIfc, gConvK, gIndexO, gIndexVO, gMakeV, gMinV, gMaxV, isInt, gMin, gMax, gBlt, gCallV, gInvoke, gNilM, Array.toList_map, vcells, gField, gIndexV, gPart, reduceIte, Nat.reduceAdd, Nat.reduceSub, Nat.reduceMul, Nat.reduceLT, Nat.reduceLeDiff, Nat.reduceEqDiff, Nat.reduceBEq, Int.reduceLT, Int.reduceLE, Int.reduceGT, Int.reduceGE, Int.reduceEq, Int.reduceNe, Int.reduceAdd, Int.reduceSub, Int.reduceMul, Int.reduceNeg, Int.reduceToNat, Int.reduceBEq, Int.reduceBNe, Int.cast_ofNat_Int, List.getElem?_toArray, stp, Try.underlying22, Try.underlying3, Try.underlying4, Try.underlying5, Try.underlying78, ty22, ty78, ty3, ty4, ty5, rs97, gNil, gload1 m1 sz4, gload1 m2 sz22, cg, gPick]))
  all_goals
    refine st_one m1 sz4 rfl (by simp) rfl rfl fun h2 q2 f2 => ?_
    have m3 : h2 ka = some ⟨cs, 0, true, false⟩ := (f2 ka ne.symm).trans m2
    refine mk_of ?_; repeat' (first | (with_reducible first | refine gw_seq ?_ | refine gw_block ?_) | ((first | (with_reducible refine mk_to ?_) | (with_reducible first | refine gw_region ?_ | refine gw_if ?_ | refine gw_skip ?_ | refine gw_exit ?_ | refine gw_ret ?_) | ((with_reducible first | refine gif_b (fun hb => ?_) (fun hb => ?_) | refine want_t (fun hb => ?_) (fun hb => ?_) | refine want_f (fun hb => ?_) (fun hb => ?_)) <;> (try simp only [hb]) <;> (try simp only [hpr] at hb))) <;> try simp only [List.map, gop, ev, lk, aenv, gyield, gBin, gInt, gStrOp, gUn, gPick, gNil, gExtract, gIfc, gConvK, gIndexO, gIndexVO, gMakeV, gMinV, gMaxV, isInt, gMin, gMax, gBlt, gCallV, gInvoke, gNilM, Array.toList_map, vcells, gField, gIndexV, gPart, reduceIte, Nat.reduceAdd, Nat.reduceSub, Nat.reduceMul, Nat.reduceLT, Nat.reduceLeDiff, Nat.reduceEqDiff, Nat.reduceBEq, Int.reduceLT, Int.reduceLE, Int.reduceGT, Int.reduceGE, Int.reduceEq, Int.reduceNe, Int.reduceAdd, Int.reduceSub, Int.reduceMul, Int.reduceNeg, Int.reduceToNat, Int.reduceBEq, Int.reduceBNe, Int.cast_ofNat_Int, List.getElem?_toArray, stp, Try.underlying22, Try.underlying3, Try.underlying4, Try.underlying5, Try.underlying78, ty22, ty78, ty3, ty4, ty5, rs97, gNil]))
    refine st_one m3 sz22 rfl ho rfl rfl fun h3 q3 f3 => ?_
    refine mk_of ?_; repeat' (first | (with_reducible first | refine gw_seq ?_ | refine gw_block ?_) | ((first | (with_reducible refine mk_to ?_) | (with_reducible first | refine gw_region ?_ | refine gw_if ?_ | refine gw_skip ?_ | refine gw_exit ?_ | refine gw_ret ?_) | ((with_reducible first | refine gif_b (fun hb => ?_) (fun hb => ?_) | refine want_t (fun hb => ?_) (fun hb => ?_) | refine want_f (fun hb => ?_) (fun hb => ?_)) <;> (try simp only [hb]) <;> (try simp only [hpr] at hb))) <;> try simp only [List.map, gop, ev, lk, aenv, gyield, gBin, gInt, gStrOp, gUn, gPick, gNil, gExtract, gIfc, gConvK, gIndexO, gIndexVO, gMakeV, gMinV, gMaxV, isInt, gMin, gMax, gBlt, gCallV, gInvoke, gNilM, Array.toList_map, vcells, gField, gIndexV, gPart, reduceIte, Nat.reduceAdd, Nat.reduceSub, Nat.reduceMul, Nat.reduceLT, Nat.reduceLeDiff, Nat.reduceEqDiff, Nat.reduceBEq, Int.reduceLT, Int.reduceLE, Int.reduceGT, Int.reduceGE, Int.reduceEq, Int.reduceNe, Int.reduceAdd, Int.reduceSub, Int.reduceMul, Int.reduceNeg, Int.reduceToNat, Int.reduceBEq, Int.reduceBNe, Int.cast_ofNat_Int, List.getElem?_toArray, stp, Try.underlying22, Try.underlying3, Try.underlying4, Try.underlying5, Try.underlying78, ty22, ty78, ty3, ty4, ty5, rs97]))
    refine fin _ h2 h3 ?_ q2 f2 q3 f3
    rw [← hr]; simp
theorem c_jflg0 (N : Nat) (h : GH) (a b : Value) : GTri Try.prog N 95 [a, b] h fun _ h' => h' = h := by
  refine gtri Try.func95 rfl gf95 ok95 (by simp [Try.ntmps95]) ?_
  repeat' (first | (with_reducible first | refine gw_seq ?_ | refine gw_block ?_) | ((first | (with_reducible first | refine gw_region ?_ | refine gw_if ?_ | refine gw_skip ?_ | refine gw_exit ?_ | refine gw_ret ?_) | ((with_reducible first | refine gif_b (fun hb => ?_) (fun hb => ?_) | refine want_t (fun hb => ?_) (fun hb => ?_) | refine want_f (fun hb => ?_) (fun hb => ?_)) <;> (try simp only [hb]) <;> (try simp only [hpr] at hb))) <;> try simp only [List.map, gop, ev, lk, aenv, gyield, gBin, gInt, gStrOp, gUn, gPick, gNil, gExtract, gIfc, gConvK, gIndexO, gIndexVO, gMakeV, gMinV, gMaxV, isInt, gMin, gMax, gBlt, gCallV, gInvoke, gNilM, Array.toList_map, vcells, gField, gIndexV, gPart, reduceIte, Nat.reduceAdd, Nat.reduceSub, Nat.reduceMul, Nat.reduceLT, Nat.reduceLeDiff, Nat.reduceEqDiff, Nat.reduceBEq, Int.reduceLT, Int.reduceLE, Int.reduceGT, Int.reduceGE, Int.reduceEq, Int.reduceNe, Int.reduceAdd, Int.reduceSub, Int.reduceMul, Int.reduceNeg, Int.reduceToNat, Int.reduceBEq, Int.reduceBNe, Int.cast_ofNat_Int, List.getElem?_toArray, stp, rs95]))
/-- What is wrong with a batch's texts. -/
def wide (L : List (List UInt8 × List UInt8)) : Bool := L.any fun x => decide ((x.1.length : Int) > 24) || decide ((x.2.length : Int) > 48)
theorem wide_take (L : List (List UInt8 × List UInt8)) {i : Nat} {x : List UInt8 × List UInt8} (h : L[i]? = some x) : wide (L.take (i + 1)) = (wide (L.take i) || (decide ((x.1.length : Int) > 24) || decide ((x.2.length : Int) > 48))) := by
  simp [wide, List.take_add_one, h]
theorem c_jbat0 (N kj ka : Nat) (h : GH) (bad : Bool) {cs : List Value} {b : Option Addr} {d : Nat} {L : List (List UInt8 × List UInt8)} (m1 : h kj = some ⟨[.bool bad], 0, true, false⟩) (m2 : h ka = some ⟨cs, 0, true, false⟩) (ne : kj ≠ ka) (cg : cs[9]? = some (.slice b L.length d)) (ho : 9 < cs.length) (rl : RL 2 Bd h (.slice b L.length d) L) (hL : L.length ≤ 140737488351232) : GTri Try.prog N 94 [.pointer (some ⟨kj, 0, none⟩), .pointer (some ⟨ka, 9, none⟩)] h fun _ h' => h' kj = some ⟨[.bool (bad || decide ((L.length : Int) > 32) || wide L)], 0, true, false⟩ ∧ h' ka = some ⟨cs.set 9 (.slice none 0 0), 0, true, false⟩ ∧ ∀ j B, j ≠ kj → j ≠ ka → h j = some B → h' j = some B := by
  generalize hr : (bad || decide ((L.length : Int) > 32)) = r
  have fin : ∀ (x : Bool) (h2 : GH), x = r → h2 kj = some ⟨[.bool x], 0, true, false⟩ → h2 kj = some ⟨[.bool r], 0, true, false⟩ := by
    rintro _ h2 rfl q1; exact q1
  refine gtri Try.func94 rfl gf94 ok94 (by simp [Try.ntmps94]) ?_
  cases bad
  all_goals
    repeat' (first | (with_reducible first | refine gw_seq ?_ | refine gw_block ?_) | ((first | (with_reducible first | refine gw_region ?_ | refine gw_if ?_ | refine gw_skip ?_ | refine gw_exit ?_ | refine gw_ret ?_) | ((with_reducible first | refine gif_b (fun hb => ?_) (fun hb => ?_) | refine want_t (fun hb => ?_) (fun hb => ?_) | refine want_f (fun hb => ?_) (fun hb => ?_)) <;> (try simp only [hb]) <;> (try simp only [hpr] at hb))) <;> try simp only [List.map, gop, ev, lk, aenv, gyield, gBin, gInt, gStrOp, gUn, gPick, gNil, gExtract, gIfc, gConvK, gIndexO, gIndexVO, gMakeV, gMinV, gMaxV, isInt, gMin, gMax, gBlt, gCallV, gInvoke, gNilM, Array.toList_map, vcells, gField, gIndexV, gPart, reduceIte, Nat.reduceAdd, Nat.reduceSub, Nat.reduceMul, Nat.reduceLT, Nat.reduceLeDiff, Nat.reduceEqDiff, Nat.reduceBEq, Int.reduceLT, Int.reduceLE, Int.reduceGT, Int.reduceGE, Int.reduceEq, Int.reduceNe, Int.reduceAdd, Int.reduceSub, Int.reduceMul, Int.reduceNeg, Int.reduceToNat, Int.reduceBEq, Int.reduceBNe, Int.cast_ofNat_Int, List.getElem?_toArray, stp, Try.underlying120, Try.underlying22, Try.underlying3, Try.underlying36, Try.underlying4, Try.underlying5, Try.underlying78, ty22, ty36, ty120, ty78, ty3, ty4, ty5, rs94, gNil, gload1 m1 sz4, gload1 m2 sz36, cg, gPick]))
  all_goals
    refine st_one m1 sz4 rfl (by simp) rfl rfl fun h2 q2 f2 => ?_
    have x2 : HX kj h h2 := fun j B n e => by rw [f2 j n]; exact e
    replace q2 := fin _ h2 (by rw [← hr]; simp) q2
    have m3 : h2 ka = some ⟨cs, 0, true, false⟩ := (f2 ka ne.symm).trans m2
    have rl2 := rl.bx m1 ⟨rfl, rfl⟩ rfl x2
    refine mk_of ?_; repeat' (first | (with_reducible first | refine gw_seq ?_ | refine gw_block ?_) | ((first | (with_reducible refine mk_to ?_) | (with_reducible first | refine gw_region ?_ | refine gw_if ?_ | refine gw_skip ?_ | refine gw_exit ?_ | refine gw_ret ?_) | ((with_reducible first | refine gif_b (fun hb => ?_) (fun hb => ?_) | refine want_t (fun hb => ?_) (fun hb => ?_) | refine want_f (fun hb => ?_) (fun hb => ?_)) <;> (try simp only [hb]) <;> (try simp only [hpr] at hb))) <;> try simp only [List.map, gop, ev, lk, aenv, gyield, gBin, gInt, gStrOp, gUn, gPick, gNil, gExtract, gIfc, gConvK, gIndexO, gIndexVO, gMakeV, gMinV, gMaxV, isInt, gMin, gMax, gBlt, gCallV, gInvoke, gNilM, Array.toList_map, vcells, gField, gIndexV, gPart, reduceIte, Nat.reduceAdd, Nat.reduceSub, Nat.reduceMul, Nat.reduceLT, Nat.reduceLeDiff, Nat.reduceEqDiff, Nat.reduceBEq, Int.reduceLT, Int.reduceLE, Int.reduceGT, Int.reduceGE, Int.reduceEq, Int.reduceNe, Int.reduceAdd, Int.reduceSub, Int.reduceMul, Int.reduceNeg, Int.reduceToNat, Int.reduceBEq, Int.reduceBNe, Int.cast_ofNat_Int, List.getElem?_toArray, stp, Try.underlying120, Try.underlying22, Try.underlying3, Try.underlying36, Try.underlying4, Try.underlying5, Try.underlying78, ty22, ty36, ty120, ty78, ty3, ty4, ty5, rs94, gNil, gload1 m3 sz36, cg]))
    refine gw_loop2 [0, 1, 22, 23] (fun (i : Nat) => [(24, .int .i64 (i : Int))]) (fun q i h' => L.length - i = q ∧ i ≤ L.length ∧ h' kj = some ⟨[.bool (r || wide (L.take i))], 0, true, false⟩ ∧ RL 2 Bd h' (.slice b L.length d) L ∧ HX kj h h') L.length 0 (by simp [lk]) ⟨rfl, by omega, by simpa [wide] using q2, rl2, x2⟩ ?_
    clear q2 rl2 x2 m3 f2
    rintro _ i h3 ⟨rfl, hi, q3, rl3, x3⟩
    have m3 := x3 _ _ ne.symm m2
    by_cases hil : i < L.length
    case neg =>
      have d3 : decide ((i : Int) < (L.length : Int)) = false := decide_eq_false (by omega)
      obtain rfl : i = L.length := by omega
      rw [List.take_length] at q3
      refine mk_of ?_; repeat' (first | (with_reducible first | refine gw_seq ?_ | refine gw_block ?_) | ((first | (with_reducible refine mk_to ?_) | (with_reducible first | refine gw_region ?_ | refine gw_if ?_ | refine gw_skip ?_ | refine gw_exit ?_ | refine gw_ret ?_) | ((with_reducible first | refine gif_b (fun hb => ?_) (fun hb => ?_) | refine want_t (fun hb => ?_) (fun hb => ?_) | refine want_f (fun hb => ?_) (fun hb => ?_)) <;> (try simp only [hb]) <;> (try simp only [hpr] at hb))) <;> try simp only [List.map, gop, ev, lk, aenv, gyield, gBin, gInt, gStrOp, gUn, gPick, gNil, gExtract, gIfc, gConvK, gIndexO, gIndexVO, gMakeV, gMinV, gMaxV, isInt, gMin, gMax, gBlt, gCallV, gInvoke, gNilM, Array.toList_map, vcells, gField, gIndexV, gPart, reduceIte, Nat.reduceAdd, Nat.reduceSub, Nat.reduceMul, Nat.reduceLT, Nat.reduceLeDiff, Nat.reduceEqDiff, Nat.reduceBEq, Int.reduceLT, Int.reduceLE, Int.reduceGT, Int.reduceGE, Int.reduceEq, Int.reduceNe, Int.reduceAdd, Int.reduceSub, Int.reduceMul, Int.reduceNeg, Int.reduceToNat, Int.reduceBEq, Int.reduceBNe, Int.cast_ofNat_Int, List.getElem?_toArray, stp, Try.underlying120, Try.underlying22, Try.underlying3, Try.underlying36, Try.underlying4, Try.underlying5, Try.underlying78, ty22, ty36, ty120, ty78, ty3, ty4, ty5, rs94, d3, gNil]))
      refine st_one m3 sz36 rfl ho rfl rfl fun h4 q4 f4 => ?_
      refine mk_of ?_; repeat' (first | (with_reducible first | refine gw_seq ?_ | refine gw_block ?_) | ((first | (with_reducible refine mk_to ?_) | (with_reducible first | refine gw_region ?_ | refine gw_if ?_ | refine gw_skip ?_ | refine gw_exit ?_ | refine gw_ret ?_) | ((with_reducible first | refine gif_b (fun hb => ?_) (fun hb => ?_) | refine want_t (fun hb => ?_) (fun hb => ?_) | refine want_f (fun hb => ?_) (fun hb => ?_)) <;> (try simp only [hb]) <;> (try simp only [hpr] at hb))) <;> try simp only [List.map, gop, ev, lk, aenv, gyield, gBin, gInt, gStrOp, gUn, gPick, gNil, gExtract, gIfc, gConvK, gIndexO, gIndexVO, gMakeV, gMinV, gMaxV, isInt, gMin, gMax, gBlt, gCallV, gInvoke, gNilM, Array.toList_map, vcells, gField, gIndexV, gPart, reduceIte, Nat.reduceAdd, Nat.reduceSub, Nat.reduceMul, Nat.reduceLT, Nat.reduceLeDiff, Nat.reduceEqDiff, Nat.reduceBEq, Int.reduceLT, Int.reduceLE, Int.reduceGT, Int.reduceGE, Int.reduceEq, Int.reduceNe, Int.reduceAdd, Int.reduceSub, Int.reduceMul, Int.reduceNeg, Int.reduceToNat, Int.reduceBEq, Int.reduceBNe, Int.cast_ofNat_Int, List.getElem?_toArray, stp, Try.underlying120, Try.underlying22, Try.underlying3, Try.underlying36, Try.underlying4, Try.underlying5, Try.underlying78, ty22, ty36, ty120, ty78, ty3, ty4, ty5, rs94]))
      exact ⟨(f4 kj ne).trans q3, q4, fun j B n1 n2 e => (f4 j n2).trans (x3 j B n1 e)⟩
    have d3 : decide ((i : Int) < (L.length : Int)) = true := decide_eq_true (by omega)
    have wi : IntKind.i64.wrap ((i : Int) + 1) = ((i + 1 : Nat) : Int) := by rw [wrap64 (by omega) (by omega)]; omega
    obtain ⟨x, hx⟩ : ∃ x, L[i]? = some x := ⟨_, List.getElem?_eq_getElem hil⟩
    obtain ⟨ad, cs2, g1, g2, a', n', c', b', m', d', rfl, r1, r2⟩ := rl3.at (P := Try.prog) Try.underlying36 sz120 hx
    obtain rfl := r1.len_eq
    obtain rfl := r2.len_eq
    have wt := wide_take L hx
    refine mk_of ?_; repeat' (first | (with_reducible first | refine gw_seq ?_ | refine gw_block ?_) | ((first | (with_reducible refine mk_to ?_) | (with_reducible first | refine gw_region ?_ | refine gw_if ?_ | refine gw_skip ?_ | refine gw_exit ?_ | refine gw_ret ?_) | ((with_reducible first | refine gif_b (fun hb => ?_) (fun hb => ?_) | refine want_t (fun hb => ?_) (fun hb => ?_) | refine want_f (fun hb => ?_) (fun hb => ?_)) <;> (try simp only [hb]) <;> (try simp only [hpr] at hb))) <;> try simp only [List.map, gop, ev, lk, aenv, gyield, gBin, gInt, gStrOp, gUn, gPick, gNil, gExtract, gIfc, gConvK, gIndexO, gIndexVO, gMakeV, gMinV, gMaxV, isInt, gMin, gMax, gBlt, gCallV, gInvoke, gNilM, Array.toList_map, vcells, gField, gIndexV, gPart, reduceIte, Nat.reduceAdd, Nat.reduceSub, Nat.reduceMul, Nat.reduceLT, Nat.reduceLeDiff, Nat.reduceEqDiff, Nat.reduceBEq, Int.reduceLT, Int.reduceLE, Int.reduceGT, Int.reduceGE, Int.reduceEq, Int.reduceNe, Int.reduceAdd, Int.reduceSub, Int.reduceMul, Int.reduceNeg, Int.reduceToNat, Int.reduceBEq, Int.reduceBNe, Int.cast_ofNat_Int, List.getElem?_toArray, stp, Try.underlying120, Try.underlying22, Try.underlying3, Try.underlying36, Try.underlying4, Try.underlying5, Try.underlying78, ty22, ty36, ty120, ty78, ty3, ty4, ty5, rs94, d3, g1, gload_g sz120 g2]))
    refine new_g fun k4 h4 m4 s4 f4 n4 => ?_
    refine mk_of ?_; repeat' (first | (with_reducible first | refine gw_seq ?_ | refine gw_block ?_) | ((first | (with_reducible refine mk_to ?_) | (with_reducible first | refine gw_region ?_ | refine gw_if ?_ | refine gw_skip ?_ | refine gw_exit ?_ | refine gw_ret ?_) | ((with_reducible first | refine gif_b (fun hb => ?_) (fun hb => ?_) | refine want_t (fun hb => ?_) (fun hb => ?_) | refine want_f (fun hb => ?_) (fun hb => ?_)) <;> (try simp only [hb]) <;> (try simp only [hpr] at hb))) <;> try simp only [List.map, gop, ev, lk, aenv, gyield, gBin, gInt, gStrOp, gUn, gPick, gNil, gExtract, gIfc, gConvK, gIndexO, gIndexVO, gMakeV, gMinV, gMaxV, isInt, gMin, gMax, gBlt, gCallV, gInvoke, gNilM, Array.toList_map, vcells, gField, gIndexV, gPart, reduceIte, Nat.reduceAdd, Nat.reduceSub, Nat.reduceMul, Nat.reduceLT, Nat.reduceLeDiff, Nat.reduceEqDiff, Nat.reduceBEq, Int.reduceLT, Int.reduceLE, Int.reduceGT, Int.reduceGE, Int.reduceEq, Int.reduceNe, Int.reduceAdd, Int.reduceSub, Int.reduceMul, Int.reduceNeg, Int.reduceToNat, Int.reduceBEq, Int.reduceBNe, Int.cast_ofNat_Int, List.getElem?_toArray, stp, Try.underlying120, Try.underlying22, Try.underlying3, Try.underlying36, Try.underlying4, Try.underlying5, Try.underlying78, ty22, ty36, ty120, ty78, ty3, ty4, ty5, rs94]))
    refine st_agg m4 sz120 rfl (by decide) rfl rfl rfl fun h5 m5 f5 => ?_
    have s5 : HS h3 h5 := (HS.refl _).upd n4 fun j hj => (f5 j hj).trans (f4 j hj)
    replace q3 := s5 _ _ q3
    replace rl3 := rl3.bs s5
    replace x3 : HX kj h h5 := fun j B n e => s5 _ _ (x3 j B n e)
    generalize hw : (r || wide (L.take i)) = w at q3
    generalize he : (decide ((x.1.length : Int) > 24) || decide ((x.2.length : Int) > 48)) = ex at wt
    have fin2 : ∀ (y : Bool) (h6 : GH), y = (w || ex) → h6 kj = some ⟨[.bool y], 0, true, false⟩ → h6 kj = some ⟨[.bool (r || wide (L.take (i + 1)))], 0, true, false⟩ := by
      rintro _ h6 rfl q
      rw [wt, ← Bool.or_assoc, hw]; exact q
    clear hr hw
    cases w
    all_goals
      refine mk_of ?_; repeat' (first | (with_reducible first | refine gw_seq ?_ | refine gw_block ?_) | ((first | (with_reducible refine mk_to ?_) | (with_reducible first | refine gw_region ?_ | refine gw_if ?_ | refine gw_skip ?_ | refine gw_exit ?_ | refine gw_ret ?_) | ((with_reducible first | refine gif_b (fun hb => ?_) (fun hb => ?_) | refine want_t (fun hb => ?_) (fun hb => ?_) | refine want_f (fun hb => ?_) (fun hb => ?_)) <;> (try simp only [hb]) <;> (try simp only [hpr] at hb))) <;> try simp only [List.map, gop, ev, lk, aenv, gyield, gBin, gInt, gStrOp, gUn, gPick, gNil, gExtract, gIfc, gConvK, gIndexO, gIndexVO, gMakeV, gMinV, gMaxV, isInt, gMin, gMax, gBlt, gCallV, gInvoke, gNilM, Array.toList_map, vcells, gField, gIndexV, gPart, reduceIte, Nat.reduceAdd, Nat.reduceSub, Nat.reduceMul, Nat.reduceLT, Nat.reduceLeDiff, Nat.reduceEqDiff, Nat.reduceBEq, Int.reduceLT, Int.reduceLE, Int.reduceGT, Int.reduceGE, Int.reduceEq, Int.reduceNe, Int.reduceAdd, Int.reduceSub, Int.reduceMul, Int.reduceNeg, Int.reduceToNat, Int.reduceBEq, Int.reduceBNe, Int.cast_ofNat_Int, List.getElem?_toArray, stp, Try.underlying120, Try.underlying22, Try.underlying3, Try.underlying36, Try.underlying4, Try.underlying5, Try.underlying78, ty22, ty36, ty120, ty78, ty3, ty4, ty5, rs94, gNil, gload1 q3 sz4, gload1 m5 sz22, gPick, wi]))
    all_goals
      refine st_one q3 sz4 rfl (by simp) rfl rfl fun h6 q6 f6 => ?_
      have x6 : HX kj h5 h6 := fun j B n e => by rw [f6 j n]; exact e
      refine mk_of ?_; repeat' (first | (with_reducible first | refine gw_seq ?_ | refine gw_block ?_) | ((first | (with_reducible refine mk_to ?_) | (with_reducible first | refine gw_region ?_ | refine gw_if ?_ | refine gw_skip ?_ | refine gw_exit ?_ | refine gw_ret ?_) | ((with_reducible first | refine gif_b (fun hb => ?_) (fun hb => ?_) | refine want_t (fun hb => ?_) (fun hb => ?_) | refine want_f (fun hb => ?_) (fun hb => ?_)) <;> (try simp only [hb]) <;> (try simp only [hpr] at hb))) <;> try simp only [List.map, gop, ev, lk, aenv, gyield, gBin, gInt, gStrOp, gUn, gPick, gNil, gExtract, gIfc, gConvK, gIndexO, gIndexVO, gMakeV, gMinV, gMaxV, isInt, gMin, gMax, gBlt, gCallV, gInvoke, gNilM, Array.toList_map, vcells, gField, gIndexV, gPart, reduceIte, Nat.reduceAdd, Nat.reduceSub, Nat.reduceMul, Nat.reduceLT, Nat.reduceLeDiff, Nat.reduceEqDiff, Nat.reduceBEq, Int.reduceLT, Int.reduceLE, Int.reduceGT, Int.reduceGE, Int.reduceEq, Int.reduceNe, Int.reduceAdd, Int.reduceSub, Int.reduceMul, Int.reduceNeg, Int.reduceToNat, Int.reduceBEq, Int.reduceBNe, Int.cast_ofNat_Int, List.getElem?_toArray, stp, Try.underlying120, Try.underlying22, Try.underlying3, Try.underlying36, Try.underlying4, Try.underlying5, Try.underlying78, ty22, ty36, ty120, ty78, ty3, ty4, ty5, rs94, wi]))
      refine ⟨_, i + 1, ?_, (by simp only [List.forall_mem_cons, List.not_mem_nil, false_implies, implies_true, List.map, List.cons_append, List.nil_append, lk, Nat.reduceEqDiff, reduceIte, and_true, true_and]), rfl, by omega, fin2 _ h6 ?_ q6, rl3.bx q3 ⟨rfl, rfl⟩ rfl x6, x3.trans x6⟩
      · omega
      · first | rfl | (rw [← he]; simp [*])
end Go.Gh

/- A request's judge, as a pen. -/

namespace Go.Gh
open Go Go.Proofs Go.RowKit
set_option linter.unusedVariables false
set_option linter.unusedSimpArgs false
set_option maxRecDepth 100000
set_option maxHeartbeats 1000000

theorem gmj_n : gMeth Try.prog 80 "annals/ask.number" = some 96 := by kernel_rfl
theorem gmj_x : gMeth Try.prog 80 "annals/ask.text" = some 97 := by kernel_rfl
theorem gmj_g : gMeth Try.prog 80 "annals/ask.flag" = some 95 := by kernel_rfl
theorem gmj_b : gMeth Try.prog 80 "annals/ask.batch" = some 94 := by kernel_rfl

theorem RL.two {kj ka : Nat} {h h' : GH} {B1 B2 : GB} {v : Value} {L : List (List UInt8 × List UInt8)} (r : RL 2 Bd h v L) (m1 : h kj = some B1) (m2 : h ka = some B2) (ne : kj ≠ ka) (o1 : B1.es = 0 ∧ B1.wr = true) (o2 : B2.es = 0 ∧ B2.wr = true) (c1 : B1.cells.all notU8 = true) (c2 : B2.cells.all notU8 = true)
    (q : ∀ j B, j ≠ kj → j ≠ ka → h j = some B → h' j = some B) : RL 2 Bd h' v L := by
  have x1 : HX kj h (fun j => if j = kj then h' kj else h j) := fun j B n e => by simpa [n] using e
  have r1 := r.bx m1 o1 c1 x1
  have m3 : (fun j => if j = kj then h' kj else h j) ka = some B2 := by simpa [ne.symm] using m2
  refine r1.bx m3 o2 c2 fun j B n e => ?_
  by_cases hj : j = kj
  · subst hj; simpa using e
  · exact q j B hj n (by simpa [hj] using e)
theorem ok_off {o : Nat} (ho : o = 2 ∨ o = 3 ∨ o = 4 ∨ o = 6 ∨ o = 7 ∨ o = 8) : o < 10 := by omega
theorem c_jnum {N kj ka n : Nat} {s : Js} {h0 h : GH} (o : Nat) (m : Int) (i : JI kj ka h0 n s h) (ho : o = 2 ∨ o = 3 ∨ o = 4 ∨ o = 6 ∨ o = 7 ∨ o = 8) : GTri Try.prog N 96 [.pointer (some ⟨kj, 0, none⟩), .pointer (some ⟨ka, o, none⟩), .int .i64 m] h fun _ h' => JI kj ka h0 (n + 1) ⟨s.bad || decide (s.q.get o < 0) || decide (s.q.get o > m), s.q.put 0 o, s.id, s.bt⟩ h' := by
  obtain ⟨m1, ⟨a, c, b, d, m2, rl⟩, ne, fr⟩ := i
  refine (c_jnum0 N kj ka h o m _ s.bad m1 m2 ne (s.q.cs_get _ _ ho) (ok_off ho)).mono ?_
  rintro _ h' ⟨q1, q2, q3⟩
  rw [Aq.cs_put _ _ _ ho] at q2
  exact ⟨q1, ⟨a, c, b, d, q2, rl.two m1 m2 ne ⟨rfl, rfl⟩ ⟨rfl, rfl⟩ rfl rfl fun j B n1 n2 e => (q3 j n1 n2).trans e⟩, ne, fun j B n1 n2 e => (q3 j n1 n2).trans (fr j B n1 n2 e)⟩
theorem c_jtxt {N kj ka n : Nat} {s : Js} {h0 h : GH} (i : JI kj ka h0 n s h) : GTri Try.prog N 97 [.pointer (some ⟨kj, 0, none⟩), .pointer (some ⟨ka, 1, none⟩)] h fun _ h' => JI kj ka h0 (n + 1) ⟨s.bad || decide ((s.id.length : Int) > 24), s.q, [], s.bt⟩ h' := by
  obtain ⟨m1, ⟨a, c, b, d, m2, rl⟩, ne, fr⟩ := i
  refine (c_jtxt0 N kj ka h s.bad m1 m2 ne rfl (by rw [Aq.cs_len]; omega)).mono ?_
  rintro _ h' ⟨q1, q2, q3⟩
  exact ⟨q1, ⟨none, 0, b, d, q2, rl.two m1 m2 ne ⟨rfl, rfl⟩ ⟨rfl, rfl⟩ rfl rfl fun j B n1 n2 e => (q3 j n1 n2).trans e⟩, ne, fun j B n1 n2 e => (q3 j n1 n2).trans (fr j B n1 n2 e)⟩
theorem c_jbat {N kj ka n : Nat} {s : Js} {h0 h : GH} (hL : s.bt.length ≤ 140737488351232) (i : JI kj ka h0 n s h) : GTri Try.prog N 94 [.pointer (some ⟨kj, 0, none⟩), .pointer (some ⟨ka, 9, none⟩)] h fun _ h' => JI kj ka h0 (n + 1) ⟨s.bad || decide ((s.bt.length : Int) > 32) || wide s.bt, s.q, s.id, []⟩ h' := by
  obtain ⟨m1, ⟨a, c, b, d, m2, rl⟩, ne, fr⟩ := i
  refine (c_jbat0 N kj ka h s.bad m1 m2 ne rfl (by rw [Aq.cs_len]; omega) rl hL).mono ?_
  rintro _ h' ⟨q1, q2, q3⟩
  exact ⟨q1, ⟨a, c, none, 0, q2, RL.nil _⟩, ne, fun j B n1 n2 e => q3 j B n1 n2 (fr j B n1 n2 e)⟩
def judgePen (N kj ka : Nat) (h0 : GH) : Pen N where
  T := 80
  fn := 96
  fx := 97
  fg := 95
  fb := 94
  gn := gmj_n
  gx := gmj_x
  gg := gmj_g
  gb := gmj_b
  x := .pointer (some ⟨kj, 0, none⟩)
  ka := ka
  S := Js
  I := fun n s h => JI kj ka h0 n s h ∧ s.bt.length ≤ 140737488351232
  kd := fun s => s.q.kd
  so := fun s => s.q.so
  num := fun s o m => ⟨s.bad || decide (s.q.get o < 0) || decide (s.q.get o > m), s.q.put 0 o, s.id, s.bt⟩
  txt := fun s => ⟨s.bad || decide ((s.id.length : Int) > 24), s.q, [], s.bt⟩
  flg := fun s => s
  bat := fun s => ⟨s.bad || decide ((s.bt.length : Int) > 32) || wide s.bt, s.q, s.id, []⟩
  hI := fun n s h i => by
    obtain ⟨⟨_, ⟨a, c, b, d, m2, _⟩, _⟩, _⟩ := i
    exact ⟨_, _, m2, rfl, rfl⟩
  cn := fun n s h o m _ i ho _ => (c_jnum o m i.1 ho).mono fun _ _ q => ⟨q, i.2⟩
  cx := fun n s h _ i => (c_jtxt i.1).mono fun _ _ q => ⟨q, i.2⟩
  cg := fun n s h _ i => (c_jflg0 N h _ _).mono fun _ _ q => q ▸ i
  cb := fun n s h _ i => (c_jbat i.2 i.1).mono fun _ _ q => ⟨q, Nat.zero_le _⟩
end Go.Gh

/- Batches, written. -/

namespace Go.Gh
open Go Go.Proofs Go.RowKit
set_option linter.unusedVariables false
set_option linter.unusedSimpArgs false
set_option maxRecDepth 100000
set_option maxHeartbeats 1000000

def bput1 (x : List UInt8 × List UInt8) : List UInt8 := guint x.1.length ++ x.1 ++ (guint x.2.length ++ x.2)
def bputs (L : List (List UInt8 × List UInt8)) : List UInt8 := L.flatMap bput1
end Go.Gh

/- Batches, written by the reference. -/

namespace Go.Gh
open Go Go.Proofs Go.RowKit
set_option linter.unusedVariables false
set_option linter.unusedSimpArgs false
set_option maxRecDepth 100000
set_option maxHeartbeats 1000000

end Go.Gh

/- The codec's reader, step by step. -/

namespace Go.Gh
open Go Go.Proofs Go.RowKit
set_option linter.unusedVariables false
set_option linter.unusedSimpArgs false
set_option maxRecDepth 100000

/-- A reader: what is left, and the first error. -/
structure St where
  b : List UInt8
  e : Int
def St.fail (s : St) (e : Int) : St := if s.e = 0 then ⟨[], e⟩ else s
def St.ok (s : St) (so : Bool) (e : Int) : St := if so = true then s else s.fail e
def St.take (s : St) (n : Nat) : List UInt8 × St :=
  if (s.ok (decide (n ≤ s.b.length)) 3).e = 0 then (s.b.take n, ⟨s.b.drop n, 0⟩) else ([], s.ok (decide (n ≤ s.b.length)) 3)
theorem St.ok_t (s : St) (e : Int) : s.ok true e = s := rfl
theorem St.ok_f (s : St) (e : Int) : s.ok false e = s.fail e := rfl
theorem St.ok_0 {s : St} {so : Bool} {e : Int} (he : e ≠ 0) (h : (s.ok so e).e = 0) : so = true ∧ s.e = 0 := by
  cases so
  · simp only [St.ok_f, St.fail] at h
    split at h
    · exact absurd h he
    · contradiction
  · exact ⟨rfl, h⟩
theorem St.take_0 {s : St} {n : Nat} (h : (s.take n).2.e = 0) : s.e = 0 ∧ n ≤ s.b.length ∧ s.take n = (s.b.take n, ⟨s.b.drop n, 0⟩) := by
  unfold St.take at h ⊢
  split at h
  · rename_i h1
    obtain ⟨h2, h3⟩ := St.ok_0 (by decide) h1
    refine ⟨h3, by simpa using h2, ?_⟩
    rw [if_pos h1]
  · contradiction
theorem St.take_len (s : St) (n : Nat) : (s.take n).1.length ≤ n ∧ (s.take n).2.b.length ≤ s.b.length := by
  unfold St.take
  split
  · simp; omega
  · refine ⟨by simp, ?_⟩
    simp only [St.ok, St.fail]
    split
    · omega
    · split
      · simp
      · omega

/-- It may be sliced. -/
def SL (h : GH) (v : Value) : Prop := ∀ ad n c, v = .slice (some ad) n c → n = 0 ∨ c % 2 = 1 ∨ esOk h ad 1 = true
theorem SL.nil (h : GH) (n c : Nat) : SL h (.slice none n c) := fun _ _ _ e => by cases e
theorem SL.hs {h h' : GH} {v : Value} (s : SL h v) (x : HS h h') : SL h' v := fun ad n c e => by
  rcases s ad n c e with h1 | h1 | h1
  · exact .inl h1
  · exact .inr (.inl h1)
  · right; right
    unfold esOk at h1 ⊢
    split at h1
    · rename_i B hB
      rw [x _ _ hB]; exact h1
    · cases h1
theorem SL.hx {k : Nat} {h h' : GH} {v : Value} (s : SL h v) {B : GB} (m : h k = some B) (hB : B.es = 0) (x : HX k h h') : SL h' v := fun ad n c e => by
  rcases s ad n c e with h1 | h1 | h1
  · exact .inl h1
  · exact .inr (.inl h1)
  · right; right
    unfold esOk at h1 ⊢
    split at h1
    · rename_i B' hB'
      have hne : ad.block ≠ k := fun e => by
        rw [e, m] at hB'; cases hB'
        rw [hB] at h1; simp at h1
      rw [x _ _ hne hB']; exact h1
    · cases h1
theorem OWN.sl {h0 h : GH} {v : Value} {l : List UInt8} (o : OWN h0 h v l) : SL h v := by
  rcases o with ⟨rfl, _⟩ | ⟨a, rfl, _⟩ | ⟨k, c, rfl, h1, h2, _, h3, _⟩
  · exact SL.nil _ _ _
  · intro ad n c e; cases e; exact .inl rfl
  · intro ad n c e
    cases e
    exact .inr (.inr (by simp [esOk, h3]))
/-- The first bytes of it, with no more room. -/
theorem RB.cut3 {P : Program} {h : GH} {a : Option Addr} {c n : Nat} {l : List UInt8} (r : RB h (.slice a n c) l) {t e : TypeId} {b : Bool} (ht : P.underlying t = some (.slice e)) (he : gsz P e = some (b, 1)) {hi : Nat} (h1 : hi ≤ l.length) (k : IntKind) :
    ∃ a' c', gSlice P t h (.slice a n c) none (some (.int k hi)) (some (.int k hi)) = some (.slice a' hi c') ∧ RB h (.slice a' hi c') (l.take hi) ∧ SL h (.slice a' hi c') ∧ (a'.isNone = a.isNone) := by
  rcases r with ⟨c2, hv, rfl⟩ | ⟨ad, c2, hv, h2, h3⟩
  · cases hv
    simp at h1
    subst h1
    exact ⟨none, 0, by simp [gSlice, ht, he, gHigh, gLow, gBound], .inl ⟨0, rfl, by simp⟩, SL.nil _ _ _, rfl⟩
  · cases hv
    have hl : (l.take hi).length = hi := by simp; omega
    refine ⟨some ⟨ad.block, ad.off, ad.spot⟩, 2 * hi + 1, ?_, .inr ⟨⟨ad.block, ad.off, ad.spot⟩, 2 * hi + 1, by rw [hl], ?_, by omega⟩, fun ad n c e => by cases e; exact .inr (.inl (by omega)), rfl⟩
    · have hb : 0 ≤ (hi : Int) ∧ (hi : Int) ≤ ((max l.length (c / 2) : Nat) : Int) := ⟨by omega, by omega⟩
      have hb2 : 0 ≤ (hi : Int) ∧ (hi : Int) ≤ (hi : Int) := ⟨by omega, by omega⟩
      simp [gSlice, ht, he, gHigh, gBound, hb, gLow]
    · rw [hl]
      have := gread_sub h2 0 hi (by omega)
      simpa [List.map_take] using this
/-- What is behind. -/
theorem RB.behind {P : Program} {h : GH} {a : Option Addr} {c n : Nat} {l : List UInt8} (r : RB h (.slice a n c) l) (s : SL h (.slice a n c)) {t e : TypeId} {b : Bool} (ht : P.underlying t = some (.slice e)) (he : gsz P e = some (b, 1)) {lo : Nat} (h1 : lo ≤ l.length) (k : IntKind) :
    ∃ a' c', gSlice P t h (.slice a n c) (some (.int k lo)) none none = some (.slice a' (l.drop lo).length c') ∧ RB h (.slice a' (l.drop lo).length c') (l.drop lo) ∧ SL h (.slice a' (l.drop lo).length c') := by
  rcases r with ⟨c2, hv, rfl⟩ | ⟨ad, c2, hv, h2, h3⟩
  · cases hv
    simp at h1
    subst h1
    exact ⟨none, 0, by simp [gSlice, ht, he, gHigh, gLow, gBound], .inl ⟨0, by simp, by simp⟩, SL.nil _ _ _⟩
  · cases hv
    refine ⟨some ⟨ad.block, ad.off + lo, ad.spot⟩, c - 2 * lo, ?_, .inr ⟨⟨ad.block, ad.off + lo, ad.spot⟩, c - 2 * lo, rfl, ?_, by simp; omega⟩, fun ad' n' c' e => ?_⟩
    · have hb : 0 ≤ (lo : Int) ∧ (lo : Int) ≤ (l.length : Int) := ⟨by omega, by omega⟩
      have hc : c % 2 = 1 ∨ lo = 0 ∨ esOk h ad 1 = true := by
        rcases s _ _ _ rfl with h | h | h
        · exact .inr (.inl (by omega))
        · exact .inl h
        · exact .inr (.inr h)
      simp only [gSlice, ht, he, gHigh, gBound, gLow, hb, and_self, if_true, Nat.le_max_left, hc, Nat.mul_one, Int.toNat_natCast, List.length_drop]
    · rw [List.length_drop]
      have := gread_sub h2 lo (l.length - lo) (by omega)
      rw [this, List.map_drop, List.take_of_length_le (by simp)]
    · cases e
      rcases s _ _ _ rfl with h | h | h
      · exact .inl (by rw [List.length_drop]; omega)
      · exact .inr (.inl (by omega))
      · exact .inr (.inr h)

/-- A reader in memory. -/
def RD (h : GH) (k : Nat) (s : St) : Prop := ∃ a c, h k = some ⟨[.bool true, .slice a s.b.length c, .int .i64 s.e], 0, true, false⟩ ∧ RB h (.slice a s.b.length c) s.b ∧ SL h (.slice a s.b.length c)
theorem RD.hs {h h' : GH} {k : Nat} {s : St} (r : RD h k s) (x : HS h h') : RD h' k s := by
  obtain ⟨a, c, h1, h2, h3⟩ := r
  exact ⟨a, c, x _ _ h1, h2.hs x, h3.hs x⟩

theorem c_none (N : Nat) (h : GH) {k : Nat} {s : St} (r : RD h k s) : GTri Try.prog N 66 [.pointer (some ⟨k, 0, none⟩)] h fun v h' => v = .bool false ∧ h' = h := by
  obtain ⟨a, c, m, _, _⟩ := r
  refine gtri Try.func66 rfl gf66 ok66 (by simp [Try.ntmps66]) ?_
  repeat' (first | (with_reducible first | refine gw_seq ?_ | refine gw_block ?_) | ((first | (with_reducible first | refine gw_region ?_ | refine gw_if ?_ | refine gw_skip ?_ | refine gw_exit ?_ | refine gw_ret ?_) | ((with_reducible first | refine gif_b (fun hb => ?_) (fun hb => ?_) | refine want_t (fun hb => ?_) (fun hb => ?_) | refine want_f (fun hb => ?_) (fun hb => ?_)) <;> (try simp only [hb]) <;> (try simp only [hpr] at hb))) <;> try simp only [List.map, gop, ev, lk, aenv, gyield, gBin, gInt, gStrOp, gUn, gPick, gNil, gExtract, gIfc, gConvK, gIndexO, gIndexVO, gMakeV, gMinV, gMaxV, isInt, gMin, gMax, gBlt, gCallV, gInvoke, gNilM, Array.toList_map, vcells, gField, gIndexV, gPart, reduceIte, Nat.reduceAdd, Nat.reduceSub, Nat.reduceMul, Nat.reduceLT, Nat.reduceLeDiff, Nat.reduceEqDiff, Nat.reduceBEq, Int.reduceLT, Int.reduceLE, Int.reduceGT, Int.reduceGE, Int.reduceEq, Int.reduceNe, Int.reduceAdd, Int.reduceSub, Int.reduceMul, Int.reduceNeg, Int.reduceToNat, Int.reduceBEq, Int.reduceBNe, Int.cast_ofNat_Int, List.getElem?_toArray, stp, Try.underlying100, Try.underlying22, Try.underlying23, Try.underlying4, Try.underlying50, ty22, ty100, ty23, ty4, ty50, rs66, gNil, gUn, gload1 m sz4]))
theorem c_ok (N : Nat) (h : GH) {k : Nat} {s : St} (r : RD h k s) (so : Bool) (e : Int) : GTri Try.prog N 65 [.pointer (some ⟨k, 0, none⟩), .bool so, .int .i64 e] h fun v h' => v = .bool ((s.ok so e).e == 0) ∧ RD h' k (s.ok so e) ∧ HX k h h' := by
  have rn := c_none N h r
  obtain ⟨a, c, m, rb, sl⟩ := r
  refine gtri Try.func65 rfl gf65 ok65 (by simp [Try.ntmps65]) ?_
  cases so
  · by_cases he : s.e = 0
    · have d : (s.e == 0) = true := by simpa using he
      repeat' (first | (with_reducible first | refine gw_seq ?_ | refine gw_block ?_) | ((first | (with_reducible first | refine gw_region ?_ | refine gw_if ?_ | refine gw_skip ?_ | refine gw_exit ?_ | refine gw_ret ?_) | ((with_reducible first | refine gif_b (fun hb => ?_) (fun hb => ?_) | refine want_t (fun hb => ?_) (fun hb => ?_) | refine want_f (fun hb => ?_) (fun hb => ?_)) <;> (try simp only [hb]) <;> (try simp only [hpr] at hb)) | ((refine GTri.mono rn ?_); rintro _ _ ⟨rfl, hh9⟩; replace hh9 := hh9.symm; subst hh9)) <;> try simp only [List.map, gop, ev, lk, aenv, gyield, gBin, gInt, gStrOp, gUn, gPick, gNil, gExtract, gIfc, gConvK, gIndexO, gIndexVO, gMakeV, gMinV, gMaxV, isInt, gMin, gMax, gBlt, gCallV, gInvoke, gNilM, Array.toList_map, vcells, gField, gIndexV, gPart, reduceIte, Nat.reduceAdd, Nat.reduceSub, Nat.reduceMul, Nat.reduceLT, Nat.reduceLeDiff, Nat.reduceEqDiff, Nat.reduceBEq, Int.reduceLT, Int.reduceLE, Int.reduceGT, Int.reduceGE, Int.reduceEq, Int.reduceNe, Int.reduceAdd, Int.reduceSub, Int.reduceMul, Int.reduceNeg, Int.reduceToNat, Int.reduceBEq, Int.reduceBNe, Int.cast_ofNat_Int, List.getElem?_toArray, stp, Try.underlying100, Try.underlying22, Try.underlying23, Try.underlying4, Try.underlying5, Try.underlying50, ty22, ty100, ty23, ty4, ty5, ty50, rs65, gNil, gUn, gload1 m sz23, d]))
      refine st_one m sz23 rfl (by simp) rfl rfl fun h1 m1 f1 => ?_
      refine mk_of ?_; repeat' (first | (with_reducible first | refine gw_seq ?_ | refine gw_block ?_) | ((first | (with_reducible refine mk_to ?_) | (with_reducible first | refine gw_region ?_ | refine gw_if ?_ | refine gw_skip ?_ | refine gw_exit ?_ | refine gw_ret ?_) | ((with_reducible first | refine gif_b (fun hb => ?_) (fun hb => ?_) | refine want_t (fun hb => ?_) (fun hb => ?_) | refine want_f (fun hb => ?_) (fun hb => ?_)) <;> (try simp only [hb]) <;> (try simp only [hpr] at hb)) | ((refine GTri.mono rn ?_); rintro _ _ ⟨rfl, hh9⟩; replace hh9 := hh9.symm; subst hh9)) <;> try simp only [List.map, gop, ev, lk, aenv, gyield, gBin, gInt, gStrOp, gUn, gPick, gNil, gExtract, gIfc, gConvK, gIndexO, gIndexVO, gMakeV, gMinV, gMaxV, isInt, gMin, gMax, gBlt, gCallV, gInvoke, gNilM, Array.toList_map, vcells, gField, gIndexV, gPart, reduceIte, Nat.reduceAdd, Nat.reduceSub, Nat.reduceMul, Nat.reduceLT, Nat.reduceLeDiff, Nat.reduceEqDiff, Nat.reduceBEq, Int.reduceLT, Int.reduceLE, Int.reduceGT, Int.reduceGE, Int.reduceEq, Int.reduceNe, Int.reduceAdd, Int.reduceSub, Int.reduceMul, Int.reduceNeg, Int.reduceToNat, Int.reduceBEq, Int.reduceBNe, Int.cast_ofNat_Int, List.getElem?_toArray, stp, Try.underlying100, Try.underlying22, Try.underlying23, Try.underlying4, Try.underlying5, Try.underlying50, ty22, ty100, ty23, ty4, ty5, ty50, rs65, gNil]))
      refine st_one m1 sz22 rfl (by simp) rfl rfl fun h2 m2 f2 => ?_
      have x : HX k h h2 := fun j B n e => by rw [f2 j n, f1 j n]; exact e
      refine mk_of ?_; repeat' (first | (with_reducible first | refine gw_seq ?_ | refine gw_block ?_) | ((first | (with_reducible refine mk_to ?_) | (with_reducible first | refine gw_region ?_ | refine gw_if ?_ | refine gw_skip ?_ | refine gw_exit ?_ | refine gw_ret ?_) | ((with_reducible first | refine gif_b (fun hb => ?_) (fun hb => ?_) | refine want_t (fun hb => ?_) (fun hb => ?_) | refine want_f (fun hb => ?_) (fun hb => ?_)) <;> (try simp only [hb]) <;> (try simp only [hpr] at hb))) <;> try simp only [List.map, gop, ev, lk, aenv, gyield, gBin, gInt, gStrOp, gUn, gPick, gNil, gExtract, gIfc, gConvK, gIndexO, gIndexVO, gMakeV, gMinV, gMaxV, isInt, gMin, gMax, gBlt, gCallV, gInvoke, gNilM, Array.toList_map, vcells, gField, gIndexV, gPart, reduceIte, Nat.reduceAdd, Nat.reduceSub, Nat.reduceMul, Nat.reduceLT, Nat.reduceLeDiff, Nat.reduceEqDiff, Nat.reduceBEq, Int.reduceLT, Int.reduceLE, Int.reduceGT, Int.reduceGE, Int.reduceEq, Int.reduceNe, Int.reduceAdd, Int.reduceSub, Int.reduceMul, Int.reduceNeg, Int.reduceToNat, Int.reduceBEq, Int.reduceBNe, Int.cast_ofNat_Int, List.getElem?_toArray, stp, Try.underlying100, Try.underlying22, Try.underlying23, Try.underlying4, Try.underlying5, Try.underlying50, ty22, ty100, ty23, ty4, ty5, ty50, rs65, gNil, gUn, gload1 m2 sz23]))
      rw [St.ok_f, St.fail, if_pos he]
      exact ⟨rfl, ⟨none, 0, m2, RB.nil _, SL.nil _ _ _⟩, x⟩
    · have d : (s.e == 0) = false := by simpa using he
      repeat' (first | (with_reducible first | refine gw_seq ?_ | refine gw_block ?_) | ((first | (with_reducible first | refine gw_region ?_ | refine gw_if ?_ | refine gw_skip ?_ | refine gw_exit ?_ | refine gw_ret ?_) | ((with_reducible first | refine gif_b (fun hb => ?_) (fun hb => ?_) | refine want_t (fun hb => ?_) (fun hb => ?_) | refine want_f (fun hb => ?_) (fun hb => ?_)) <;> (try simp only [hb]) <;> (try simp only [hpr] at hb)) | ((refine GTri.mono rn ?_); rintro _ _ ⟨rfl, hh9⟩; replace hh9 := hh9.symm; subst hh9)) <;> try simp only [List.map, gop, ev, lk, aenv, gyield, gBin, gInt, gStrOp, gUn, gPick, gNil, gExtract, gIfc, gConvK, gIndexO, gIndexVO, gMakeV, gMinV, gMaxV, isInt, gMin, gMax, gBlt, gCallV, gInvoke, gNilM, Array.toList_map, vcells, gField, gIndexV, gPart, reduceIte, Nat.reduceAdd, Nat.reduceSub, Nat.reduceMul, Nat.reduceLT, Nat.reduceLeDiff, Nat.reduceEqDiff, Nat.reduceBEq, Int.reduceLT, Int.reduceLE, Int.reduceGT, Int.reduceGE, Int.reduceEq, Int.reduceNe, Int.reduceAdd, Int.reduceSub, Int.reduceMul, Int.reduceNeg, Int.reduceToNat, Int.reduceBEq, Int.reduceBNe, Int.cast_ofNat_Int, List.getElem?_toArray, stp, Try.underlying100, Try.underlying22, Try.underlying23, Try.underlying4, Try.underlying5, Try.underlying50, ty22, ty100, ty23, ty4, ty5, ty50, rs65, gNil, gUn, gload1 m sz23, d]))
      rw [St.ok_f, St.fail, if_neg he]
      exact ⟨by rw [d], ⟨a, c, m, rb, sl⟩, HX.refl _ _⟩
  · repeat' (first | (with_reducible first | refine gw_seq ?_ | refine gw_block ?_) | ((first | (with_reducible first | refine gw_region ?_ | refine gw_if ?_ | refine gw_skip ?_ | refine gw_exit ?_ | refine gw_ret ?_) | ((with_reducible first | refine gif_b (fun hb => ?_) (fun hb => ?_) | refine want_t (fun hb => ?_) (fun hb => ?_) | refine want_f (fun hb => ?_) (fun hb => ?_)) <;> (try simp only [hb]) <;> (try simp only [hpr] at hb)) | ((refine GTri.mono rn ?_); rintro _ _ ⟨rfl, hh9⟩; replace hh9 := hh9.symm; subst hh9)) <;> try simp only [List.map, gop, ev, lk, aenv, gyield, gBin, gInt, gStrOp, gUn, gPick, gNil, gExtract, gIfc, gConvK, gIndexO, gIndexVO, gMakeV, gMinV, gMaxV, isInt, gMin, gMax, gBlt, gCallV, gInvoke, gNilM, Array.toList_map, vcells, gField, gIndexV, gPart, reduceIte, Nat.reduceAdd, Nat.reduceSub, Nat.reduceMul, Nat.reduceLT, Nat.reduceLeDiff, Nat.reduceEqDiff, Nat.reduceBEq, Int.reduceLT, Int.reduceLE, Int.reduceGT, Int.reduceGE, Int.reduceEq, Int.reduceNe, Int.reduceAdd, Int.reduceSub, Int.reduceMul, Int.reduceNeg, Int.reduceToNat, Int.reduceBEq, Int.reduceBNe, Int.cast_ofNat_Int, List.getElem?_toArray, stp, Try.underlying100, Try.underlying22, Try.underlying23, Try.underlying4, Try.underlying5, Try.underlying50, ty22, ty100, ty23, ty4, ty5, ty50, rs65, gNil, gUn, gload1 m sz23]))
    exact ⟨rfl, ⟨a, c, m, rb, sl⟩, HX.refl _ _⟩

theorem RD.form {h : GH} {k : Nat} {s : St} (r : RD h k s) : ∃ a c, h k = some ⟨[.bool true, .slice a s.b.length c, .int .i64 s.e], 0, true, false⟩ ∧ RB h (.slice a s.b.length c) s.b ∧ SL h (.slice a s.b.length c) := r
theorem c_take (N : Nat) (h : GH) {k : Nat} {s : St} (r : RD h k s) (n : Nat) (hb : s.b.length ≤ 140737488355328) : GTri Try.prog N 64 [.pointer (some ⟨k, 0, none⟩), .int .i64 n] h fun v h' => RD h' k (s.take n).2 ∧ HX k h h' ∧ ∃ a c, v = .slice a (s.take n).1.length c ∧ RB h' (.slice a (s.take n).1.length c) (s.take n).1 ∧ (¬ (s.take n).2.e = 0 → a = none) := by
  have rn := c_none N h r
  obtain ⟨a, c, m, rb, sl⟩ := r.form
  have dn : decide ((n : Int) ≤ (s.b.length : Int)) = decide (n ≤ s.b.length) := by simp
  refine gtri Try.func64 rfl gf64 ok64 (by simp [Try.ntmps64]) ?_
  repeat' (first | (with_reducible first | refine gw_seq ?_ | refine gw_block ?_) | ((first | (with_reducible first | refine gw_region ?_ | refine gw_if ?_ | refine gw_skip ?_ | refine gw_exit ?_ | refine gw_ret ?_) | ((with_reducible first | refine gif_b (fun hb => ?_) (fun hb => ?_) | refine want_t (fun hb => ?_) (fun hb => ?_) | refine want_f (fun hb => ?_) (fun hb => ?_)) <;> (try simp only [hb]) <;> (try simp only [hpr] at hb)) | ((refine GTri.mono rn ?_); rintro _ _ ⟨rfl, hh9⟩; replace hh9 := hh9.symm; subst hh9)) <;> try simp only [List.map, gop, ev, lk, aenv, gyield, gBin, gInt, gStrOp, gUn, gPick, gNil, gExtract, gIfc, gConvK, gIndexO, gIndexVO, gMakeV, gMinV, gMaxV, isInt, gMin, gMax, gBlt, gCallV, gInvoke, gNilM, Array.toList_map, vcells, gField, gIndexV, gPart, reduceIte, Nat.reduceAdd, Nat.reduceSub, Nat.reduceMul, Nat.reduceLT, Nat.reduceLeDiff, Nat.reduceEqDiff, Nat.reduceBEq, Int.reduceLT, Int.reduceLE, Int.reduceGT, Int.reduceGE, Int.reduceEq, Int.reduceNe, Int.reduceAdd, Int.reduceSub, Int.reduceMul, Int.reduceNeg, Int.reduceToNat, Int.reduceBEq, Int.reduceBNe, Int.cast_ofNat_Int, List.getElem?_toArray, stp, Try.underlying100, Try.underlying22, Try.underlying23, Try.underlying3, Try.underlying4, Try.underlying5, Try.underlying50, ty22, ty100, ty23, ty3, ty4, ty5, ty50, rs64, gNil, gUn, gload1 m sz22, dn]))
  refine (c_ok N h r (decide (n ≤ s.b.length)) 3).mono ?_
  rintro _ h1 ⟨rfl, r1, x1⟩
  by_cases he : (s.ok (decide (n ≤ s.b.length)) 3).e = 0
  · have d : ((s.ok (decide (n ≤ s.b.length)) 3).e == 0) = true := by simpa using he
    obtain ⟨h2, h3⟩ := St.ok_0 (by decide) he
    have hle : n ≤ s.b.length := by simpa using h2
    have et : s.take n = (s.b.take n, ⟨s.b.drop n, 0⟩) := by unfold St.take; rw [if_pos he]
    rw [h2, St.ok_t] at r1
    obtain ⟨a1, c1, m1, rb1, sl1⟩ := r1
    obtain ⟨a2, c2, q2, rb2, sl2, nn⟩ := rb1.cut3 Try.underlying22 sz5 hle .i64
    obtain ⟨a3, c3, q3, rb3, sl3⟩ := rb1.behind sl1 Try.underlying22 sz5 hle .i64
    refine mk_of ?_; repeat' (first | (with_reducible first | refine gw_seq ?_ | refine gw_block ?_) | ((first | (with_reducible refine mk_to ?_) | (with_reducible first | refine gw_region ?_ | refine gw_if ?_ | refine gw_skip ?_ | refine gw_exit ?_ | refine gw_ret ?_) | ((with_reducible first | refine gif_b (fun hb => ?_) (fun hb => ?_) | refine want_t (fun hb => ?_) (fun hb => ?_) | refine want_f (fun hb => ?_) (fun hb => ?_)) <;> (try simp only [hb]) <;> (try simp only [hpr] at hb))) <;> try simp only [List.map, gop, ev, lk, aenv, gyield, gBin, gInt, gStrOp, gUn, gPick, gNil, gExtract, gIfc, gConvK, gIndexO, gIndexVO, gMakeV, gMinV, gMaxV, isInt, gMin, gMax, gBlt, gCallV, gInvoke, gNilM, Array.toList_map, vcells, gField, gIndexV, gPart, reduceIte, Nat.reduceAdd, Nat.reduceSub, Nat.reduceMul, Nat.reduceLT, Nat.reduceLeDiff, Nat.reduceEqDiff, Nat.reduceBEq, Int.reduceLT, Int.reduceLE, Int.reduceGT, Int.reduceGE, Int.reduceEq, Int.reduceNe, Int.reduceAdd, Int.reduceSub, Int.reduceMul, Int.reduceNeg, Int.reduceToNat, Int.reduceBEq, Int.reduceBNe, Int.cast_ofNat_Int, List.getElem?_toArray, stp, Try.underlying100, Try.underlying22, Try.underlying23, Try.underlying3, Try.underlying4, Try.underlying5, Try.underlying50, ty22, ty100, ty23, ty3, ty4, ty5, ty50, rs64, d, gUn, gNil, gload1 m1 sz22, q2, q3]))
    refine st_one m1 sz22 rfl (by simp) rfl rfl fun h4 m4 f4 => ?_
    have x4 : HX k h1 h4 := fun j B n e => by rw [f4 j n]; exact e
    refine mk_of ?_; repeat' (first | (with_reducible first | refine gw_seq ?_ | refine gw_block ?_) | ((first | (with_reducible refine mk_to ?_) | (with_reducible first | refine gw_region ?_ | refine gw_if ?_ | refine gw_skip ?_ | refine gw_exit ?_ | refine gw_ret ?_) | ((with_reducible first | refine gif_b (fun hb => ?_) (fun hb => ?_) | refine want_t (fun hb => ?_) (fun hb => ?_) | refine want_f (fun hb => ?_) (fun hb => ?_)) <;> (try simp only [hb]) <;> (try simp only [hpr] at hb))) <;> try simp only [List.map, gop, ev, lk, aenv, gyield, gBin, gInt, gStrOp, gUn, gPick, gNil, gExtract, gIfc, gConvK, gIndexO, gIndexVO, gMakeV, gMinV, gMaxV, isInt, gMin, gMax, gBlt, gCallV, gInvoke, gNilM, Array.toList_map, vcells, gField, gIndexV, gPart, reduceIte, Nat.reduceAdd, Nat.reduceSub, Nat.reduceMul, Nat.reduceLT, Nat.reduceLeDiff, Nat.reduceEqDiff, Nat.reduceBEq, Int.reduceLT, Int.reduceLE, Int.reduceGT, Int.reduceGE, Int.reduceEq, Int.reduceNe, Int.reduceAdd, Int.reduceSub, Int.reduceMul, Int.reduceNeg, Int.reduceToNat, Int.reduceBEq, Int.reduceBNe, Int.cast_ofNat_Int, List.getElem?_toArray, stp, Try.underlying100, Try.underlying22, Try.underlying23, Try.underlying3, Try.underlying4, Try.underlying5, Try.underlying50, ty22, ty100, ty23, ty3, ty4, ty5, ty50, rs64]))
    rw [et]
    have hl : (s.b.take n).length = n := by simp; omega
    rw [h3] at m4
    refine ⟨⟨a3, c3, m4, rb3.hx m1 rfl x4, sl3.hx m1 rfl x4⟩, x1.trans x4, a2, c2, by rw [hl], by rw [hl]; exact rb2.hx m1 rfl x4, fun hh => absurd rfl hh⟩
  · have d : ((s.ok (decide (n ≤ s.b.length)) 3).e == 0) = false := by simpa using he
    have et : s.take n = ([], s.ok (decide (n ≤ s.b.length)) 3) := by unfold St.take; rw [if_neg he]
    refine mk_of ?_; repeat' (first | (with_reducible first | refine gw_seq ?_ | refine gw_block ?_) | ((first | (with_reducible refine mk_to ?_) | (with_reducible first | refine gw_region ?_ | refine gw_if ?_ | refine gw_skip ?_ | refine gw_exit ?_ | refine gw_ret ?_) | ((with_reducible first | refine gif_b (fun hb => ?_) (fun hb => ?_) | refine want_t (fun hb => ?_) (fun hb => ?_) | refine want_f (fun hb => ?_) (fun hb => ?_)) <;> (try simp only [hb]) <;> (try simp only [hpr] at hb))) <;> try simp only [List.map, gop, ev, lk, aenv, gyield, gBin, gInt, gStrOp, gUn, gPick, gNil, gExtract, gIfc, gConvK, gIndexO, gIndexVO, gMakeV, gMinV, gMaxV, isInt, gMin, gMax, gBlt, gCallV, gInvoke, gNilM, Array.toList_map, vcells, gField, gIndexV, gPart, reduceIte, Nat.reduceAdd, Nat.reduceSub, Nat.reduceMul, Nat.reduceLT, Nat.reduceLeDiff, Nat.reduceEqDiff, Nat.reduceBEq, Int.reduceLT, Int.reduceLE, Int.reduceGT, Int.reduceGE, Int.reduceEq, Int.reduceNe, Int.reduceAdd, Int.reduceSub, Int.reduceMul, Int.reduceNeg, Int.reduceToNat, Int.reduceBEq, Int.reduceBNe, Int.cast_ofNat_Int, List.getElem?_toArray, stp, Try.underlying100, Try.underlying22, Try.underlying23, Try.underlying3, Try.underlying4, Try.underlying5, Try.underlying50, ty22, ty100, ty23, ty3, ty4, ty5, ty50, rs64, d, gUn]))
    rw [et]
    exact ⟨r1, x1, none, 0, rfl, RB.nil _, fun _ => rfl⟩
end Go.Gh

/- The codec's reader: numbers, texts, yes or no. -/

namespace Go.Gh
open Go Go.Proofs Go.RowKit
set_option linter.unusedVariables false
set_option linter.unusedSimpArgs false
set_option maxRecDepth 100000

/-- A number of bytes, as it may be. -/
def goodU (l : List UInt8) : Bool := decide (l[0]? ≠ some 0) && decide (uval l ≤ 4611686018427387904)
def St.num (s : St) (l : List UInt8) (most : Int) : Int × St :=
  if (s.ok (goodU l) 5).e = 0 then
    if (s.ok (decide ((uval l : Int) ≤ most)) 4).e = 0 then ((uval l : Int), s) else (0, s.ok (decide ((uval l : Int) ≤ most)) 4)
  else (0, s.ok (goodU l) 5)
def St.wid (s : St) (y : UInt8) (most : Int) : Int × St :=
  if (s.ok (decide (y.toNat ≤ 8)) 5).e = 0 then (s.take y.toNat).2.num (s.take y.toNat).1 most else (0, s.ok (decide (y.toNat ≤ 8)) 5)
def St.uint (s : St) (most : Int) : Int × St :=
  if (s.take 1).2.e = 0 then (s.take 1).2.wid ((s.take 1).1.getD 0 0) most else (0, (s.take 1).2)

theorem or_byte {n : Nat} {x : UInt8} (h : n < 72057594037927936) : bits .or .u64 (IntKind.u64.wrap ((n : Int) * 2 ^ min 8 IntKind.u64.bits)) (x.toNat : Int) = ((n * 256 + x.toNat : Nat) : Int) := by
  have hx := x.toNat_lt
  have e : IntKind.u64.wrap ((n : Int) * 2 ^ min 8 IntKind.u64.bits) = ((n * 256 : Nat) : Int) := by
    have : ((n : Int) * 2 ^ min 8 IntKind.u64.bits) = ((n * 256 : Nat) : Int) := by rw [Int.natCast_mul]; rfl
    rw [this]
    exact wrapu64 (by omega) (by omega)
  rw [e, (bits_u64 (by omega) (by omega)).2.1]
  congr 1
  have := Nat.two_pow_add_eq_or_of_lt (i := 8) (b := x.toNat) (by omega) n
  rw [Nat.mul_comm n, show (256 : Nat) = 2 ^ 8 from rfl, this]

theorem RB.rd {h h' : GH} {k : Nat} {s : St} {v : Value} {l : List UInt8} (q : RB h v l) (r : RD h k s) (x : HX k h h') : RB h' v l := by
  obtain ⟨a, c, m, _, _⟩ := r
  exact q.hx m rfl x
theorem uval_small {l : List UInt8} {n : Nat} (h : l.length ≤ n) : uval l < 256 ^ n := Nat.lt_of_lt_of_le (uval_lt l) (Nat.pow_le_pow_right (by decide) h)
theorem c_RUint (N : Nat) (h : GH) {k : Nat} {s : St} (r : RD h k s) (most : Int) (hb : s.b.length ≤ 140737488355328) : GTri Try.prog N 51 [.pointer (some ⟨k, 0, none⟩), .int .i64 most] h fun v h' => v = .int .i64 (s.uint most).1 ∧ RD h' k (s.uint most).2 ∧ HX k h h' := by
  refine gtri Try.func51 rfl gf51 ok51 (by simp [Try.ntmps51]) ?_
  repeat' (first | (with_reducible first | refine gw_seq ?_ | refine gw_block ?_) | ((first | (with_reducible first | refine gw_region ?_ | refine gw_if ?_ | refine gw_skip ?_ | refine gw_exit ?_ | refine gw_ret ?_) | ((with_reducible first | refine gif_b (fun hb => ?_) (fun hb => ?_) | refine want_t (fun hb => ?_) (fun hb => ?_) | refine want_f (fun hb => ?_) (fun hb => ?_)) <;> (try simp only [hb]) <;> (try simp only [hpr] at hb))) <;> try simp only [List.map, gop, ev, lk, aenv, gyield, gBin, gInt, gStrOp, gUn, gPick, gNil, gExtract, gIfc, gConvK, gIndexO, gIndexVO, gMakeV, gMinV, gMaxV, isInt, gMin, gMax, gBlt, gCallV, gInvoke, gNilM, Array.toList_map, vcells, gField, gIndexV, gPart, reduceIte, Nat.reduceAdd, Nat.reduceSub, Nat.reduceMul, Nat.reduceLT, Nat.reduceLeDiff, Nat.reduceEqDiff, Nat.reduceBEq, Int.reduceLT, Int.reduceLE, Int.reduceGT, Int.reduceGE, Int.reduceEq, Int.reduceNe, Int.reduceAdd, Int.reduceSub, Int.reduceMul, Int.reduceNeg, Int.reduceToNat, Int.reduceBEq, Int.reduceBNe, Int.cast_ofNat_Int, List.getElem?_toArray, stp, Try.underlying100, Try.underlying104, Try.underlying22, Try.underlying23, Try.underlying3, Try.underlying4, Try.underlying5, Try.underlying50, cv104_3, cv5_104, cv5_3, ty22, ty100, ty104, ty23, ty3, ty4, ty5, ty50, rs51]))
  refine (c_take N h r 1 hb).mono ?_
  rintro _ h1 ⟨r1, x1, a1, c1, rfl, q1, n1⟩
  have tl1 := s.take_len 1
  by_cases he : (s.take 1).2.e = 0
  case neg =>
    obtain rfl := n1 he
    refine mk_of ?_; repeat' (first | (with_reducible first | refine gw_seq ?_ | refine gw_block ?_) | ((first | (with_reducible refine mk_to ?_) | (with_reducible first | refine gw_region ?_ | refine gw_if ?_ | refine gw_skip ?_ | refine gw_exit ?_ | refine gw_ret ?_) | ((with_reducible first | refine gif_b (fun hb => ?_) (fun hb => ?_) | refine want_t (fun hb => ?_) (fun hb => ?_) | refine want_f (fun hb => ?_) (fun hb => ?_)) <;> (try simp only [hb]) <;> (try simp only [hpr] at hb))) <;> try simp only [List.map, gop, ev, lk, aenv, gyield, gBin, gInt, gStrOp, gUn, gPick, gNil, gExtract, gIfc, gConvK, gIndexO, gIndexVO, gMakeV, gMinV, gMaxV, isInt, gMin, gMax, gBlt, gCallV, gInvoke, gNilM, Array.toList_map, vcells, gField, gIndexV, gPart, reduceIte, Nat.reduceAdd, Nat.reduceSub, Nat.reduceMul, Nat.reduceLT, Nat.reduceLeDiff, Nat.reduceEqDiff, Nat.reduceBEq, Int.reduceLT, Int.reduceLE, Int.reduceGT, Int.reduceGE, Int.reduceEq, Int.reduceNe, Int.reduceAdd, Int.reduceSub, Int.reduceMul, Int.reduceNeg, Int.reduceToNat, Int.reduceBEq, Int.reduceBNe, Int.cast_ofNat_Int, List.getElem?_toArray, stp, Try.underlying100, Try.underlying104, Try.underlying22, Try.underlying23, Try.underlying3, Try.underlying4, Try.underlying5, Try.underlying50, cv104_3, cv5_104, cv5_3, ty22, ty100, ty104, ty23, ty3, ty4, ty5, ty50, rs51, Option.isNone_none]))
    unfold St.uint
    rw [if_neg he]
    exact ⟨rfl, r1, x1⟩
  obtain ⟨t1, t2, t3⟩ := St.take_0 he
  obtain ⟨y, hy⟩ : ∃ y, (s.take 1).1 = [y] := by
    rw [t3]
    cases hs : s.b with
    | nil => rw [hs] at t2; simp at t2
    | cons y l => exact ⟨y, by simp⟩
  have un : s.uint most = (s.take 1).2.wid y most := by unfold St.uint; rw [if_pos he, hy]; rfl
  rw [hy] at q1
  replace q1 : RB h1 (.slice a1 1 c1) [y] := q1
  simp only [hy]
  generalize (s.take 1).2 = s1 at *
  obtain ⟨ad1, rfl⟩ : ∃ ad, a1 = some ad := by
    cases a1 with
    | none => have := q1.isnil rfl; cases this
    | some ad => exact ⟨ad, rfl⟩
  obtain ⟨p, i1, l1⟩ := q1.idx Try.underlying22 sz5 (i := 0) (by omega) (by simp)
  simp only [Int.toNat_zero, List.getD_cons_zero] at l1
  have dy : decide ((y.toNat : Int) ≤ 8) = decide (y.toNat ≤ 8) := by
    have : ((y.toNat : Int) ≤ 8) ↔ y.toNat ≤ 8 := by omega
    simp only [this]
  have wy : IntKind.i64.wrap (y.toNat : Int) = y.toNat := wrap64 (by omega) (by have := y.toNat_lt; omega)
  refine mk_of ?_; repeat' (first | (with_reducible first | refine gw_seq ?_ | refine gw_block ?_) | ((first | (with_reducible refine mk_to ?_) | (with_reducible first | refine gw_region ?_ | refine gw_if ?_ | refine gw_skip ?_ | refine gw_exit ?_ | refine gw_ret ?_) | ((with_reducible first | refine gif_b (fun hb => ?_) (fun hb => ?_) | refine want_t (fun hb => ?_) (fun hb => ?_) | refine want_f (fun hb => ?_) (fun hb => ?_)) <;> (try simp only [hb]) <;> (try simp only [hpr] at hb))) <;> try simp only [List.map, gop, ev, lk, aenv, gyield, gBin, gInt, gStrOp, gUn, gPick, gNil, gExtract, gIfc, gConvK, gIndexO, gIndexVO, gMakeV, gMinV, gMaxV, isInt, gMin, gMax, gBlt, gCallV, gInvoke, gNilM, Array.toList_map, vcells, gField, gIndexV, gPart, reduceIte, Nat.reduceAdd, Nat.reduceSub, Nat.reduceMul, Nat.reduceLT, Nat.reduceLeDiff, Nat.reduceEqDiff, Nat.reduceBEq, Int.reduceLT, Int.reduceLE, Int.reduceGT, Int.reduceGE, Int.reduceEq, Int.reduceNe, Int.reduceAdd, Int.reduceSub, Int.reduceMul, Int.reduceNeg, Int.reduceToNat, Int.reduceBEq, Int.reduceBNe, Int.cast_ofNat_Int, List.getElem?_toArray, stp, Try.underlying100, Try.underlying104, Try.underlying22, Try.underlying23, Try.underlying3, Try.underlying4, Try.underlying5, Try.underlying50, cv104_3, cv5_104, cv5_3, ty22, ty100, ty104, ty23, ty3, ty4, ty5, ty50, rs51, Option.isNone_some, i1, l1, bv, dy]))
  refine (c_ok N h1 r1 (decide (y.toNat ≤ 8)) 5).mono ?_
  rintro _ h2 ⟨rfl, r2, x2⟩
  have q2 := q1.rd r1 x2
  replace x2 := x1.trans x2
  by_cases he2 : (s1.ok (decide (y.toNat ≤ 8)) 5).e = 0
  case neg =>
    have d2 : ((s1.ok (decide (y.toNat ≤ 8)) 5).e == 0) = false := by simpa using he2
    refine mk_of ?_; repeat' (first | (with_reducible first | refine gw_seq ?_ | refine gw_block ?_) | ((first | (with_reducible refine mk_to ?_) | (with_reducible first | refine gw_region ?_ | refine gw_if ?_ | refine gw_skip ?_ | refine gw_exit ?_ | refine gw_ret ?_) | ((with_reducible first | refine gif_b (fun hb => ?_) (fun hb => ?_) | refine want_t (fun hb => ?_) (fun hb => ?_) | refine want_f (fun hb => ?_) (fun hb => ?_)) <;> (try simp only [hb]) <;> (try simp only [hpr] at hb))) <;> try simp only [List.map, gop, ev, lk, aenv, gyield, gBin, gInt, gStrOp, gUn, gPick, gNil, gExtract, gIfc, gConvK, gIndexO, gIndexVO, gMakeV, gMinV, gMaxV, isInt, gMin, gMax, gBlt, gCallV, gInvoke, gNilM, Array.toList_map, vcells, gField, gIndexV, gPart, reduceIte, Nat.reduceAdd, Nat.reduceSub, Nat.reduceMul, Nat.reduceLT, Nat.reduceLeDiff, Nat.reduceEqDiff, Nat.reduceBEq, Int.reduceLT, Int.reduceLE, Int.reduceGT, Int.reduceGE, Int.reduceEq, Int.reduceNe, Int.reduceAdd, Int.reduceSub, Int.reduceMul, Int.reduceNeg, Int.reduceToNat, Int.reduceBEq, Int.reduceBNe, Int.cast_ofNat_Int, List.getElem?_toArray, stp, Try.underlying100, Try.underlying104, Try.underlying22, Try.underlying23, Try.underlying3, Try.underlying4, Try.underlying5, Try.underlying50, cv104_3, cv5_104, cv5_3, ty22, ty100, ty104, ty23, ty3, ty4, ty5, ty50, rs51, d2, gUn]))
    rw [un, St.wid, if_neg he2]
    exact ⟨rfl, r2, x2⟩
  have d2 : ((s1.ok (decide (y.toNat ≤ 8)) 5).e == 0) = true := by simpa using he2
  obtain ⟨y8, _⟩ := St.ok_0 (by decide) he2
  rw [St.wid, if_pos he2] at un
  rw [un]
  rw [y8, St.ok_t] at r2
  simp only [decide_eq_true_eq] at y8
  obtain ⟨p2, i2, l2⟩ := q2.idx Try.underlying22 sz5 (i := 0) (by omega) (by simp)
  simp only [Int.toNat_zero, List.getD_cons_zero] at l2
  refine mk_of ?_; repeat' (first | (with_reducible first | refine gw_seq ?_ | refine gw_block ?_) | ((first | (with_reducible refine mk_to ?_) | (with_reducible first | refine gw_region ?_ | refine gw_if ?_ | refine gw_skip ?_ | refine gw_exit ?_ | refine gw_ret ?_) | ((with_reducible first | refine gif_b (fun hb => ?_) (fun hb => ?_) | refine want_t (fun hb => ?_) (fun hb => ?_) | refine want_f (fun hb => ?_) (fun hb => ?_)) <;> (try simp only [hb]) <;> (try simp only [hpr] at hb))) <;> try simp only [List.map, gop, ev, lk, aenv, gyield, gBin, gInt, gStrOp, gUn, gPick, gNil, gExtract, gIfc, gConvK, gIndexO, gIndexVO, gMakeV, gMinV, gMaxV, isInt, gMin, gMax, gBlt, gCallV, gInvoke, gNilM, Array.toList_map, vcells, gField, gIndexV, gPart, reduceIte, Nat.reduceAdd, Nat.reduceSub, Nat.reduceMul, Nat.reduceLT, Nat.reduceLeDiff, Nat.reduceEqDiff, Nat.reduceBEq, Int.reduceLT, Int.reduceLE, Int.reduceGT, Int.reduceGE, Int.reduceEq, Int.reduceNe, Int.reduceAdd, Int.reduceSub, Int.reduceMul, Int.reduceNeg, Int.reduceToNat, Int.reduceBEq, Int.reduceBNe, Int.cast_ofNat_Int, List.getElem?_toArray, stp, Try.underlying100, Try.underlying104, Try.underlying22, Try.underlying23, Try.underlying3, Try.underlying4, Try.underlying5, Try.underlying50, cv104_3, cv5_104, cv5_3, ty22, ty100, ty104, ty23, ty3, ty4, ty5, ty50, rs51, d2, gUn, i2, l2, bv, wy]))
  refine (c_take N h2 r2 y.toNat (by omega)).mono ?_
  rintro _ h3 ⟨r3, x3, a3, c3, rfl, q3, n3⟩
  have tl2 := s1.take_len y.toNat
  generalize (s1.take y.toNat).2 = s3 at *
  generalize (s1.take y.toNat).1 = l at *
  replace x3 := x2.trans x3
  have hl8 : l.length ≤ 8 := by omega
  refine mk_of ?_; repeat' (first | (with_reducible first | refine gw_seq ?_ | refine gw_block ?_) | ((first | (with_reducible refine mk_to ?_) | (with_reducible first | refine gw_region ?_ | refine gw_if ?_ | refine gw_skip ?_ | refine gw_exit ?_ | refine gw_ret ?_) | ((with_reducible first | refine gif_b (fun hb => ?_) (fun hb => ?_) | refine want_t (fun hb => ?_) (fun hb => ?_) | refine want_f (fun hb => ?_) (fun hb => ?_)) <;> (try simp only [hb]) <;> (try simp only [hpr] at hb))) <;> try simp only [List.map, gop, ev, lk, aenv, gyield, gBin, gInt, gStrOp, gUn, gPick, gNil, gExtract, gIfc, gConvK, gIndexO, gIndexVO, gMakeV, gMinV, gMaxV, isInt, gMin, gMax, gBlt, gCallV, gInvoke, gNilM, Array.toList_map, vcells, gField, gIndexV, gPart, reduceIte, Nat.reduceAdd, Nat.reduceSub, Nat.reduceMul, Nat.reduceLT, Nat.reduceLeDiff, Nat.reduceEqDiff, Nat.reduceBEq, Int.reduceLT, Int.reduceLE, Int.reduceGT, Int.reduceGE, Int.reduceEq, Int.reduceNe, Int.reduceAdd, Int.reduceSub, Int.reduceMul, Int.reduceNeg, Int.reduceToNat, Int.reduceBEq, Int.reduceBNe, Int.cast_ofNat_Int, List.getElem?_toArray, stp, Try.underlying100, Try.underlying104, Try.underlying22, Try.underlying23, Try.underlying3, Try.underlying4, Try.underlying5, Try.underlying50, cv104_3, cv5_104, cv5_3, ty22, ty100, ty104, ty23, ty3, ty4, ty5, ty50, rs51]))
  refine gw_loop2 [0, 1, 4, 6, 30, 31] (fun (i : Nat) => [(7, .int .u64 ((uval (l.take i) : Nat) : Int)), (32, .int .i64 (i : Int))]) (fun q i h' => l.length - i = q ∧ i ≤ l.length ∧ h3 = h') l.length 0 (by simp [lk, uval]) ⟨rfl, by omega, rfl⟩ ?_
  rintro _ i _ ⟨rfl, hi, rfl⟩
  by_cases hil : i < l.length
  · have d3 : decide ((i : Int) < (l.length : Int)) = true := decide_eq_true (by omega)
    obtain ⟨p4, i4, l4⟩ := q3.idx Try.underlying22 sz5 (i := (i : Int)) (by omega) (by omega)
    rw [Int.toNat_natCast] at l4
    have ov := uval_small (l := l.take i) (n := 7) (by simp; omega)
    have wb : IntKind.u64.wrap ((l.getD i 0).toNat : Int) = (l.getD i 0).toNat := wrapu64 (by omega) (by have := (l.getD i 0).toNat_lt; omega)
    have ob := or_byte (n := uval (l.take i)) (x := l.getD i 0) (by simpa using ov)
    have wi : IntKind.i64.wrap ((i : Int) + 1) = ((i + 1 : Nat) : Int) := by rw [wrap64 (by omega) (by omega)]; omega
    have us : uval (l.take i) * 256 + (l.getD i 0).toNat = uval (l.take (i + 1)) := by
      rw [List.take_add_one, List.getElem?_eq_getElem hil, Option.toList_some, uval_snoc, List.getD, List.getElem?_eq_getElem hil, Option.getD_some]
    rw [us] at ob
    refine mk_of ?_; repeat' (first | (with_reducible first | refine gw_seq ?_ | refine gw_block ?_) | ((first | (with_reducible refine mk_to ?_) | (with_reducible first | refine gw_region ?_ | refine gw_if ?_ | refine gw_skip ?_ | refine gw_exit ?_ | refine gw_ret ?_) | ((with_reducible first | refine gif_b (fun hb => ?_) (fun hb => ?_) | refine want_t (fun hb => ?_) (fun hb => ?_) | refine want_f (fun hb => ?_) (fun hb => ?_)) <;> (try simp only [hb]) <;> (try simp only [hpr] at hb))) <;> try simp only [List.map, gop, ev, lk, aenv, gyield, gBin, gInt, gStrOp, gUn, gPick, gNil, gExtract, gIfc, gConvK, gIndexO, gIndexVO, gMakeV, gMinV, gMaxV, isInt, gMin, gMax, gBlt, gCallV, gInvoke, gNilM, Array.toList_map, vcells, gField, gIndexV, gPart, reduceIte, Nat.reduceAdd, Nat.reduceSub, Nat.reduceMul, Nat.reduceLT, Nat.reduceLeDiff, Nat.reduceEqDiff, Nat.reduceBEq, Int.reduceLT, Int.reduceLE, Int.reduceGT, Int.reduceGE, Int.reduceEq, Int.reduceNe, Int.reduceAdd, Int.reduceSub, Int.reduceMul, Int.reduceNeg, Int.reduceToNat, Int.reduceBEq, Int.reduceBNe, Int.cast_ofNat_Int, List.getElem?_toArray, stp, Try.underlying100, Try.underlying104, Try.underlying22, Try.underlying23, Try.underlying3, Try.underlying4, Try.underlying5, Try.underlying50, cv104_3, cv5_104, cv5_3, ty22, ty100, ty104, ty23, ty3, ty4, ty5, ty50, rs51, d3, i4, l4, bv, wb, ob, wi]))
    refine ⟨_, i + 1, ?_, (by simp only [List.forall_mem_cons, List.not_mem_nil, false_implies, implies_true, List.map, List.cons_append, List.nil_append, lk, Nat.reduceEqDiff, reduceIte, and_true, true_and]), rfl, by omega⟩
    omega
  have d3 : decide ((i : Int) < (l.length : Int)) = false := decide_eq_false (by omega)
  obtain rfl : i = l.length := by omega
  rw [List.take_length]
  have gl : ∀ b, (l[0]? = some 0 ↔ b = false) → goodU l = (b && decide (uval l ≤ 4611686018427387904)) := by
    intro b hb
    unfold goodU
    congr 1
    by_cases h : l[0]? = some 0
    · rw [hb.1 h]; simp [h]
    · cases b
      · exact absurd (hb.2 rfl) h
      · simp [h]
  have du : decide ((uval l : Int) ≤ 4611686018427387904) = decide (uval l ≤ 4611686018427387904) := by
    have : ((uval l : Int) ≤ 4611686018427387904) ↔ uval l ≤ 4611686018427387904 := by omega
    simp only [this]
  have fin : ∀ so, goodU l = so → (GTri Try.prog N 65 [.pointer (some ⟨k, 0, none⟩), .bool so, .int .i64 5] h3 fun v h' => v = .bool ((s3.ok (goodU l) 5).e == 0) ∧ RD h' k (s3.ok (goodU l) 5) ∧ HX k h3 h') := fun so e => by
    rw [e]; exact c_ok N h3 r3 so 5
  have key : l = [] ∨ (l ≠ [] ∧ l[0]? = some 0) ∨ (l ≠ [] ∧ ¬ l[0]? = some 0) := by
    by_cases h1 : l = []
    · exact .inl h1
    · by_cases h2 : l[0]? = some 0
      · exact .inr (.inl ⟨h1, h2⟩)
      · exact .inr (.inr ⟨h1, h2⟩)
  have ne0 : l ≠ [] → 0 < l.length := fun h => List.length_pos_iff.2 h
  rcases key with c | ⟨c, z⟩ | ⟨c, z⟩
  have de : ((l.length : Int) == 0) = true := by rw [c]; rfl
  refine mk_of ?_; repeat' (first | (with_reducible first | refine gw_seq ?_ | refine gw_block ?_) | ((first | (with_reducible refine mk_to ?_) | (with_reducible first | refine gw_region ?_ | refine gw_if ?_ | refine gw_skip ?_ | refine gw_exit ?_ | refine gw_ret ?_) | ((with_reducible first | refine gif_b (fun hb => ?_) (fun hb => ?_) | refine want_t (fun hb => ?_) (fun hb => ?_) | refine want_f (fun hb => ?_) (fun hb => ?_)) <;> (try simp only [hb]) <;> (try simp only [hpr] at hb))) <;> try simp only [List.map, gop, ev, lk, aenv, gyield, gBin, gInt, gStrOp, gUn, gPick, gNil, gExtract, gIfc, gConvK, gIndexO, gIndexVO, gMakeV, gMinV, gMaxV, isInt, gMin, gMax, gBlt, gCallV, gInvoke, gNilM, Array.toList_map, vcells, gField, gIndexV, gPart, reduceIte, Nat.reduceAdd, Nat.reduceSub, Nat.reduceMul, Nat.reduceLT, Nat.reduceLeDiff, Nat.reduceEqDiff, Nat.reduceBEq, Int.reduceLT, Int.reduceLE, Int.reduceGT, Int.reduceGE, Int.reduceEq, Int.reduceNe, Int.reduceAdd, Int.reduceSub, Int.reduceMul, Int.reduceNeg, Int.reduceToNat, Int.reduceBEq, Int.reduceBNe, Int.cast_ofNat_Int, List.getElem?_toArray, stp, Try.underlying100, Try.underlying104, Try.underlying22, Try.underlying23, Try.underlying3, Try.underlying4, Try.underlying5, Try.underlying50, cv104_3, cv5_104, cv5_3, ty22, ty100, ty104, ty23, ty3, ty4, ty5, ty50, rs51, d3, de, du]))
  refine (fin (decide (uval l ≤ 4611686018427387904)) (by rw [gl true (by rw [c]; simp), Bool.true_and])).mono ?_
  rotate_left
  have de : ((l.length : Int) == 0) = false := by have := ne0 c; simp; omega
  obtain ⟨p5, i5, l5⟩ := q3.idx Try.underlying22 sz5 (i := 0) (by omega) (by have := ne0 c; omega)
  rw [Int.toNat_zero, List.getD, z, Option.getD_some] at l5
  refine mk_of ?_; repeat' (first | (with_reducible first | refine gw_seq ?_ | refine gw_block ?_) | ((first | (with_reducible refine mk_to ?_) | (with_reducible first | refine gw_region ?_ | refine gw_if ?_ | refine gw_skip ?_ | refine gw_exit ?_ | refine gw_ret ?_) | ((with_reducible first | refine gif_b (fun hb => ?_) (fun hb => ?_) | refine want_t (fun hb => ?_) (fun hb => ?_) | refine want_f (fun hb => ?_) (fun hb => ?_)) <;> (try simp only [hb]) <;> (try simp only [hpr] at hb))) <;> try simp only [List.map, gop, ev, lk, aenv, gyield, gBin, gInt, gStrOp, gUn, gPick, gNil, gExtract, gIfc, gConvK, gIndexO, gIndexVO, gMakeV, gMinV, gMaxV, isInt, gMin, gMax, gBlt, gCallV, gInvoke, gNilM, Array.toList_map, vcells, gField, gIndexV, gPart, reduceIte, Nat.reduceAdd, Nat.reduceSub, Nat.reduceMul, Nat.reduceLT, Nat.reduceLeDiff, Nat.reduceEqDiff, Nat.reduceBEq, Int.reduceLT, Int.reduceLE, Int.reduceGT, Int.reduceGE, Int.reduceEq, Int.reduceNe, Int.reduceAdd, Int.reduceSub, Int.reduceMul, Int.reduceNeg, Int.reduceToNat, Int.reduceBEq, Int.reduceBNe, Int.cast_ofNat_Int, List.getElem?_toArray, stp, Try.underlying100, Try.underlying104, Try.underlying22, Try.underlying23, Try.underlying3, Try.underlying4, Try.underlying5, Try.underlying50, cv104_3, cv5_104, cv5_3, ty22, ty100, ty104, ty23, ty3, ty4, ty5, ty50, rs51, d3, de, du, i5, l5, bv, show (((0 : UInt8).toNat : Int) != 0) = false from rfl]))
  refine (fin false (by rw [gl false (by simp [z]), Bool.false_and])).mono ?_
  rotate_left
  have de : ((l.length : Int) == 0) = false := by have := ne0 c; simp; omega
  obtain ⟨p5, i5, l5⟩ := q3.idx Try.underlying22 sz5 (i := 0) (by omega) (by have := ne0 c; omega)
  rw [Int.toNat_zero] at l5
  have dz : (((l.getD 0 0).toNat : Int) != 0) = true := by
    simp only [bne_iff_ne, ne_eq]
    intro e
    apply z
    have e2 : (l.getD 0 0) = 0 := UInt8.toNat_inj.1 (by simpa using e)
    rw [List.getElem?_eq_getElem (ne0 c)]
    rw [List.getD, List.getElem?_eq_getElem (ne0 c), Option.getD_some] at e2
    rw [e2]
  refine mk_of ?_; repeat' (first | (with_reducible first | refine gw_seq ?_ | refine gw_block ?_) | ((first | (with_reducible refine mk_to ?_) | (with_reducible first | refine gw_region ?_ | refine gw_if ?_ | refine gw_skip ?_ | refine gw_exit ?_ | refine gw_ret ?_) | ((with_reducible first | refine gif_b (fun hb => ?_) (fun hb => ?_) | refine want_t (fun hb => ?_) (fun hb => ?_) | refine want_f (fun hb => ?_) (fun hb => ?_)) <;> (try simp only [hb]) <;> (try simp only [hpr] at hb))) <;> try simp only [List.map, gop, ev, lk, aenv, gyield, gBin, gInt, gStrOp, gUn, gPick, gNil, gExtract, gIfc, gConvK, gIndexO, gIndexVO, gMakeV, gMinV, gMaxV, isInt, gMin, gMax, gBlt, gCallV, gInvoke, gNilM, Array.toList_map, vcells, gField, gIndexV, gPart, reduceIte, Nat.reduceAdd, Nat.reduceSub, Nat.reduceMul, Nat.reduceLT, Nat.reduceLeDiff, Nat.reduceEqDiff, Nat.reduceBEq, Int.reduceLT, Int.reduceLE, Int.reduceGT, Int.reduceGE, Int.reduceEq, Int.reduceNe, Int.reduceAdd, Int.reduceSub, Int.reduceMul, Int.reduceNeg, Int.reduceToNat, Int.reduceBEq, Int.reduceBNe, Int.cast_ofNat_Int, List.getElem?_toArray, stp, Try.underlying100, Try.underlying104, Try.underlying22, Try.underlying23, Try.underlying3, Try.underlying4, Try.underlying5, Try.underlying50, cv104_3, cv5_104, cv5_3, ty22, ty100, ty104, ty23, ty3, ty4, ty5, ty50, rs51, d3, de, du, i5, l5, bv, dz]))
  refine (fin (decide (uval l ≤ 4611686018427387904)) (by rw [gl true (by simp [z]), Bool.true_and])).mono ?_
  rotate_left
  all_goals
    clear gl fin
    rintro _ h4 ⟨rfl, r4, x4⟩
    replace x4 := x3.trans x4
    by_cases he4 : (s3.ok (goodU l) 5).e = 0
    case neg =>
      have d4 : ((s3.ok (goodU l) 5).e == 0) = false := by simpa using he4
      refine mk_of ?_; repeat' (first | (with_reducible first | refine gw_seq ?_ | refine gw_block ?_) | ((first | (with_reducible refine mk_to ?_) | (with_reducible first | refine gw_region ?_ | refine gw_if ?_ | refine gw_skip ?_ | refine gw_exit ?_ | refine gw_ret ?_) | ((with_reducible first | refine gif_b (fun hb => ?_) (fun hb => ?_) | refine want_t (fun hb => ?_) (fun hb => ?_) | refine want_f (fun hb => ?_) (fun hb => ?_)) <;> (try simp only [hb]) <;> (try simp only [hpr] at hb))) <;> try simp only [List.map, gop, ev, lk, aenv, gyield, gBin, gInt, gStrOp, gUn, gPick, gNil, gExtract, gIfc, gConvK, gIndexO, gIndexVO, gMakeV, gMinV, gMaxV, isInt, gMin, gMax, gBlt, gCallV, gInvoke, gNilM, Array.toList_map, vcells, gField, gIndexV, gPart, reduceIte, Nat.reduceAdd, Nat.reduceSub, Nat.reduceMul, Nat.reduceLT, Nat.reduceLeDiff, Nat.reduceEqDiff, Nat.reduceBEq, Int.reduceLT, Int.reduceLE, Int.reduceGT, Int.reduceGE, Int.reduceEq, Int.reduceNe, Int.reduceAdd, Int.reduceSub, Int.reduceMul, Int.reduceNeg, Int.reduceToNat, Int.reduceBEq, Int.reduceBNe, Int.cast_ofNat_Int, List.getElem?_toArray, stp, Try.underlying100, Try.underlying104, Try.underlying22, Try.underlying23, Try.underlying3, Try.underlying4, Try.underlying5, Try.underlying50, cv104_3, cv5_104, cv5_3, ty22, ty100, ty104, ty23, ty3, ty4, ty5, ty50, rs51, d4, gUn]))
      rw [St.num, if_neg he4]
      exact ⟨rfl, r4, x4⟩
    have d4 : ((s3.ok (goodU l) 5).e == 0) = true := by simpa using he4
    obtain ⟨g4, _⟩ := St.ok_0 (by decide) he4
    have ub : uval l ≤ 4611686018427387904 := by
      unfold goodU at g4
      simp only [Bool.and_eq_true, decide_eq_true_eq] at g4
      exact g4.2
    have wu : IntKind.i64.wrap (uval l : Int) = uval l := wrap64 (by omega) (by omega)
    rw [St.num, if_pos he4]
    rw [g4, St.ok_t] at r4
    refine mk_of ?_; repeat' (first | (with_reducible first | refine gw_seq ?_ | refine gw_block ?_) | ((first | (with_reducible refine mk_to ?_) | (with_reducible first | refine gw_region ?_ | refine gw_if ?_ | refine gw_skip ?_ | refine gw_exit ?_ | refine gw_ret ?_) | ((with_reducible first | refine gif_b (fun hb => ?_) (fun hb => ?_) | refine want_t (fun hb => ?_) (fun hb => ?_) | refine want_f (fun hb => ?_) (fun hb => ?_)) <;> (try simp only [hb]) <;> (try simp only [hpr] at hb))) <;> try simp only [List.map, gop, ev, lk, aenv, gyield, gBin, gInt, gStrOp, gUn, gPick, gNil, gExtract, gIfc, gConvK, gIndexO, gIndexVO, gMakeV, gMinV, gMaxV, isInt, gMin, gMax, gBlt, gCallV, gInvoke, gNilM, Array.toList_map, vcells, gField, gIndexV, gPart, reduceIte, Nat.reduceAdd, Nat.reduceSub, Nat.reduceMul, Nat.reduceLT, Nat.reduceLeDiff, Nat.reduceEqDiff, Nat.reduceBEq, Int.reduceLT, Int.reduceLE, Int.reduceGT, Int.reduceGE, Int.reduceEq, Int.reduceNe, Int.reduceAdd, Int.reduceSub, Int.reduceMul, Int.reduceNeg, Int.reduceToNat, Int.reduceBEq, Int.reduceBNe, Int.cast_ofNat_Int, List.getElem?_toArray, stp, Try.underlying100, Try.underlying104, Try.underlying22, Try.underlying23, Try.underlying3, Try.underlying4, Try.underlying5, Try.underlying50, cv104_3, cv5_104, cv5_3, ty22, ty100, ty104, ty23, ty3, ty4, ty5, ty50, rs51, d4, gUn, wu]))
    refine (c_ok N h4 r4 (decide ((uval l : Int) ≤ most)) 4).mono ?_
    rintro _ h6 ⟨rfl, r6, x6⟩
    replace x6 := x4.trans x6
    by_cases he6 : (s3.ok (decide ((uval l : Int) ≤ most)) 4).e = 0
    · have d6 : ((s3.ok (decide ((uval l : Int) ≤ most)) 4).e == 0) = true := by simpa using he6
      obtain ⟨g6, _⟩ := St.ok_0 (by decide) he6
      refine mk_of ?_; repeat' (first | (with_reducible first | refine gw_seq ?_ | refine gw_block ?_) | ((first | (with_reducible refine mk_to ?_) | (with_reducible first | refine gw_region ?_ | refine gw_if ?_ | refine gw_skip ?_ | refine gw_exit ?_ | refine gw_ret ?_) | ((with_reducible first | refine gif_b (fun hb => ?_) (fun hb => ?_) | refine want_t (fun hb => ?_) (fun hb => ?_) | refine want_f (fun hb => ?_) (fun hb => ?_)) <;> (try simp only [hb]) <;> (try simp only [hpr] at hb))) <;> try simp only [List.map, gop, ev, lk, aenv, gyield, gBin, gInt, gStrOp, gUn, gPick, gNil, gExtract, gIfc, gConvK, gIndexO, gIndexVO, gMakeV, gMinV, gMaxV, isInt, gMin, gMax, gBlt, gCallV, gInvoke, gNilM, Array.toList_map, vcells, gField, gIndexV, gPart, reduceIte, Nat.reduceAdd, Nat.reduceSub, Nat.reduceMul, Nat.reduceLT, Nat.reduceLeDiff, Nat.reduceEqDiff, Nat.reduceBEq, Int.reduceLT, Int.reduceLE, Int.reduceGT, Int.reduceGE, Int.reduceEq, Int.reduceNe, Int.reduceAdd, Int.reduceSub, Int.reduceMul, Int.reduceNeg, Int.reduceToNat, Int.reduceBEq, Int.reduceBNe, Int.cast_ofNat_Int, List.getElem?_toArray, stp, Try.underlying100, Try.underlying104, Try.underlying22, Try.underlying23, Try.underlying3, Try.underlying4, Try.underlying5, Try.underlying50, cv104_3, cv5_104, cv5_3, ty22, ty100, ty104, ty23, ty3, ty4, ty5, ty50, rs51, d6, gUn, wu]))
      rw [if_pos he6]
      rw [g6, St.ok_t] at r6
      exact ⟨rfl, r6, x6⟩
    · have d6 : ((s3.ok (decide ((uval l : Int) ≤ most)) 4).e == 0) = false := by simpa using he6
      refine mk_of ?_; repeat' (first | (with_reducible first | refine gw_seq ?_ | refine gw_block ?_) | ((first | (with_reducible refine mk_to ?_) | (with_reducible first | refine gw_region ?_ | refine gw_if ?_ | refine gw_skip ?_ | refine gw_exit ?_ | refine gw_ret ?_) | ((with_reducible first | refine gif_b (fun hb => ?_) (fun hb => ?_) | refine want_t (fun hb => ?_) (fun hb => ?_) | refine want_f (fun hb => ?_) (fun hb => ?_)) <;> (try simp only [hb]) <;> (try simp only [hpr] at hb))) <;> try simp only [List.map, gop, ev, lk, aenv, gyield, gBin, gInt, gStrOp, gUn, gPick, gNil, gExtract, gIfc, gConvK, gIndexO, gIndexVO, gMakeV, gMinV, gMaxV, isInt, gMin, gMax, gBlt, gCallV, gInvoke, gNilM, Array.toList_map, vcells, gField, gIndexV, gPart, reduceIte, Nat.reduceAdd, Nat.reduceSub, Nat.reduceMul, Nat.reduceLT, Nat.reduceLeDiff, Nat.reduceEqDiff, Nat.reduceBEq, Int.reduceLT, Int.reduceLE, Int.reduceGT, Int.reduceGE, Int.reduceEq, Int.reduceNe, Int.reduceAdd, Int.reduceSub, Int.reduceMul, Int.reduceNeg, Int.reduceToNat, Int.reduceBEq, Int.reduceBNe, Int.cast_ofNat_Int, List.getElem?_toArray, stp, Try.underlying100, Try.underlying104, Try.underlying22, Try.underlying23, Try.underlying3, Try.underlying4, Try.underlying5, Try.underlying50, cv104_3, cv5_104, cv5_3, ty22, ty100, ty104, ty23, ty3, ty4, ty5, ty50, rs51, d6, gUn, wu]))
      rw [if_neg he6]
      exact ⟨rfl, r6, x6⟩
end Go.Gh

/- The codec's reader: the other methods. -/

namespace Go.Gh
open Go Go.Proofs Go.RowKit
set_option linter.unusedVariables false
set_option linter.unusedSimpArgs false
set_option maxRecDepth 100000

def St.bytes (s : St) (most : Int) : List UInt8 × St := (s.uint most).2.take (s.uint most).1.toNat
def St.flag (s : St) : Bool × St :=
  if (s.take 1).2.e = 0 then (((s.take 1).1.getD 0 0) == 1, (s.take 1).2.ok (decide (((s.take 1).1.getD 0 0).toNat ≤ 1)) 5) else (false, (s.take 1).2)
def St.fin (s : St) : Int := if s.e = 0 ∧ s.b ≠ [] then 5 else s.e
theorem St.ok_len (s : St) (so : Bool) (e : Int) : (s.ok so e).b.length ≤ s.b.length := by
  cases so
  · simp only [St.ok_f, St.fail]
    split
    · simp
    · omega
  · simp [St.ok_t]
theorem St.num_len (s : St) (l : List UInt8) (most : Int) : (s.num l most).2.b.length ≤ s.b.length ∧ 0 ≤ (s.num l most).1 := by
  unfold St.num
  split
  · split
    · exact ⟨Nat.le_refl _, by omega⟩
    · exact ⟨St.ok_len _ _ _, by simp⟩
  · exact ⟨St.ok_len _ _ _, by simp⟩
theorem St.uint_len (s : St) (most : Int) : (s.uint most).2.b.length ≤ s.b.length ∧ 0 ≤ (s.uint most).1 := by
  unfold St.uint
  have h1 := s.take_len 1
  split
  · unfold St.wid
    split
    · have h2 := (s.take 1).2.take_len ((s.take 1).1.getD 0 0).toNat
      have h3 := St.num_len ((s.take 1).2.take ((s.take 1).1.getD 0 0).toNat).2 ((s.take 1).2.take ((s.take 1).1.getD 0 0).toNat).1 most
      exact ⟨by omega, h3.2⟩
    · have := St.ok_len (s.take 1).2 (decide (((s.take 1).1.getD 0 0).toNat ≤ 8)) 5
      exact ⟨Nat.le_trans this h1.2, by simp⟩
  · exact ⟨h1.2, by simp⟩
theorem St.bytes_len (s : St) (most : Int) : (s.bytes most).2.b.length ≤ s.b.length := by
  have h1 := s.uint_len most
  have h2 := (s.uint most).2.take_len (s.uint most).1.toNat
  unfold St.bytes
  omega
theorem St.flag_len (s : St) : s.flag.2.b.length ≤ s.b.length := by
  have h1 := s.take_len 1
  unfold St.flag
  split
  · have := St.ok_len (s.take 1).2 (decide (((s.take 1).1.getD 0 0).toNat ≤ 1)) 5
    exact Nat.le_trans this h1.2
  · exact h1.2
theorem St.take_one {s : St} (h : (s.take 1).2.e = 0) : ∃ y, (s.take 1).1 = [y] := by
  obtain ⟨t1, t2, t3⟩ := St.take_0 h
  rw [t3]
  cases hs : s.b with
  | nil => rw [hs] at t2; simp at t2
  | cons y l => exact ⟨y, by simp⟩
theorem St.take_no {s : St} {n : Nat} (h : ¬ (s.take n).2.e = 0) : (s.take n).1 = [] := by
  unfold St.take at h ⊢
  split
  · rename_i h1; rw [if_pos h1] at h; exact absurd rfl h
  · rfl

theorem c_RBytes (N : Nat) (h : GH) {k : Nat} {s : St} (r : RD h k s) (most : Int) (hb : s.b.length ≤ 140737488355328) : GTri Try.prog N 74 [.pointer (some ⟨k, 0, none⟩), .int .i64 most] h fun v h' => RD h' k (s.bytes most).2 ∧ HX k h h' ∧ ∃ a c, v = .slice a (s.bytes most).1.length c ∧ RB h' (.slice a (s.bytes most).1.length c) (s.bytes most).1 := by
  have hu := s.uint_len most
  have hn : ((s.uint most).1.toNat : Int) = (s.uint most).1 := by omega
  refine gtri Try.func74 rfl gf74 ok74 (by simp [Try.ntmps74]) ?_
  repeat' (first | (with_reducible first | refine gw_seq ?_ | refine gw_block ?_) | ((first | (with_reducible first | refine gw_region ?_ | refine gw_if ?_ | refine gw_skip ?_ | refine gw_exit ?_ | refine gw_ret ?_) | ((with_reducible first | refine gif_b (fun hb => ?_) (fun hb => ?_) | refine want_t (fun hb => ?_) (fun hb => ?_) | refine want_f (fun hb => ?_) (fun hb => ?_)) <;> (try simp only [hb]) <;> (try simp only [hpr] at hb))) <;> try simp only [List.map, gop, ev, lk, aenv, gyield, gBin, gInt, gStrOp, gUn, gPick, gNil, gExtract, gIfc, gConvK, gIndexO, gIndexVO, gMakeV, gMinV, gMaxV, isInt, gMin, gMax, gBlt, gCallV, gInvoke, gNilM, Array.toList_map, vcells, gField, gIndexV, gPart, reduceIte, Nat.reduceAdd, Nat.reduceSub, Nat.reduceMul, Nat.reduceLT, Nat.reduceLeDiff, Nat.reduceEqDiff, Nat.reduceBEq, Int.reduceLT, Int.reduceLE, Int.reduceGT, Int.reduceGE, Int.reduceEq, Int.reduceNe, Int.reduceAdd, Int.reduceSub, Int.reduceMul, Int.reduceNeg, Int.reduceToNat, Int.reduceBEq, Int.reduceBNe, Int.cast_ofNat_Int, List.getElem?_toArray, stp, Try.underlying100, Try.underlying3, Try.underlying50, ty100, ty3, ty50, rs74]))
  refine (c_RUint N h r most hb).mono ?_
  rintro _ h1 ⟨rfl, r1, x1⟩
  have ct := c_take N h1 r1 (s.uint most).1.toNat (by omega)
  rw [hn] at ct
  refine mk_of ?_; repeat' (first | (with_reducible first | refine gw_seq ?_ | refine gw_block ?_) | ((first | (with_reducible refine mk_to ?_) | (with_reducible first | refine gw_region ?_ | refine gw_if ?_ | refine gw_skip ?_ | refine gw_exit ?_ | refine gw_ret ?_) | ((with_reducible first | refine gif_b (fun hb => ?_) (fun hb => ?_) | refine want_t (fun hb => ?_) (fun hb => ?_) | refine want_f (fun hb => ?_) (fun hb => ?_)) <;> (try simp only [hb]) <;> (try simp only [hpr] at hb))) <;> try simp only [List.map, gop, ev, lk, aenv, gyield, gBin, gInt, gStrOp, gUn, gPick, gNil, gExtract, gIfc, gConvK, gIndexO, gIndexVO, gMakeV, gMinV, gMaxV, isInt, gMin, gMax, gBlt, gCallV, gInvoke, gNilM, Array.toList_map, vcells, gField, gIndexV, gPart, reduceIte, Nat.reduceAdd, Nat.reduceSub, Nat.reduceMul, Nat.reduceLT, Nat.reduceLeDiff, Nat.reduceEqDiff, Nat.reduceBEq, Int.reduceLT, Int.reduceLE, Int.reduceGT, Int.reduceGE, Int.reduceEq, Int.reduceNe, Int.reduceAdd, Int.reduceSub, Int.reduceMul, Int.reduceNeg, Int.reduceToNat, Int.reduceBEq, Int.reduceBNe, Int.cast_ofNat_Int, List.getElem?_toArray, stp, Try.underlying100, Try.underlying3, Try.underlying50, ty100, ty3, ty50, rs74]))
  refine ct.mono ?_
  rintro _ h2 ⟨r2, x2, a2, c2, rfl, q2, _⟩
  refine mk_of ?_; repeat' (first | (with_reducible first | refine gw_seq ?_ | refine gw_block ?_) | ((first | (with_reducible refine mk_to ?_) | (with_reducible first | refine gw_region ?_ | refine gw_if ?_ | refine gw_skip ?_ | refine gw_exit ?_ | refine gw_ret ?_) | ((with_reducible first | refine gif_b (fun hb => ?_) (fun hb => ?_) | refine want_t (fun hb => ?_) (fun hb => ?_) | refine want_f (fun hb => ?_) (fun hb => ?_)) <;> (try simp only [hb]) <;> (try simp only [hpr] at hb))) <;> try simp only [List.map, gop, ev, lk, aenv, gyield, gBin, gInt, gStrOp, gUn, gPick, gNil, gExtract, gIfc, gConvK, gIndexO, gIndexVO, gMakeV, gMinV, gMaxV, isInt, gMin, gMax, gBlt, gCallV, gInvoke, gNilM, Array.toList_map, vcells, gField, gIndexV, gPart, reduceIte, Nat.reduceAdd, Nat.reduceSub, Nat.reduceMul, Nat.reduceLT, Nat.reduceLeDiff, Nat.reduceEqDiff, Nat.reduceBEq, Int.reduceLT, Int.reduceLE, Int.reduceGT, Int.reduceGE, Int.reduceEq, Int.reduceNe, Int.reduceAdd, Int.reduceSub, Int.reduceMul, Int.reduceNeg, Int.reduceToNat, Int.reduceBEq, Int.reduceBNe, Int.cast_ofNat_Int, List.getElem?_toArray, stp, Try.underlying100, Try.underlying3, Try.underlying50, ty100, ty3, ty50, rs74]))
  exact ⟨r2, x1.trans x2, a2, c2, rfl, q2⟩
theorem c_RFlag (N : Nat) (h : GH) {k : Nat} {s : St} (r : RD h k s) (hb : s.b.length ≤ 140737488355328) : GTri Try.prog N 27 [.pointer (some ⟨k, 0, none⟩)] h fun v h' => v = .bool s.flag.1 ∧ RD h' k s.flag.2 ∧ HX k h h' := by
  refine gtri Try.func27 rfl gf27 ok27 (by simp [Try.ntmps27]) ?_
  repeat' (first | (with_reducible first | refine gw_seq ?_ | refine gw_block ?_) | ((first | (with_reducible first | refine gw_region ?_ | refine gw_if ?_ | refine gw_skip ?_ | refine gw_exit ?_ | refine gw_ret ?_) | ((with_reducible first | refine gif_b (fun hb => ?_) (fun hb => ?_) | refine want_t (fun hb => ?_) (fun hb => ?_) | refine want_f (fun hb => ?_) (fun hb => ?_)) <;> (try simp only [hb]) <;> (try simp only [hpr] at hb))) <;> try simp only [List.map, gop, ev, lk, aenv, gyield, gBin, gInt, gStrOp, gUn, gPick, gNil, gExtract, gIfc, gConvK, gIndexO, gIndexVO, gMakeV, gMinV, gMaxV, isInt, gMin, gMax, gBlt, gCallV, gInvoke, gNilM, Array.toList_map, vcells, gField, gIndexV, gPart, reduceIte, Nat.reduceAdd, Nat.reduceSub, Nat.reduceMul, Nat.reduceLT, Nat.reduceLeDiff, Nat.reduceEqDiff, Nat.reduceBEq, Int.reduceLT, Int.reduceLE, Int.reduceGT, Int.reduceGE, Int.reduceEq, Int.reduceNe, Int.reduceAdd, Int.reduceSub, Int.reduceMul, Int.reduceNeg, Int.reduceToNat, Int.reduceBEq, Int.reduceBNe, Int.cast_ofNat_Int, List.getElem?_toArray, stp, Try.underlying100, Try.underlying22, Try.underlying23, Try.underlying3, Try.underlying4, Try.underlying5, Try.underlying50, ty22, ty100, ty23, ty3, ty4, ty5, ty50, rs27]))
  refine (c_take N h r 1 hb).mono ?_
  rintro _ h1 ⟨r1, x1, a1, c1, rfl, q1, n1⟩
  by_cases he : (s.take 1).2.e = 0
  case neg =>
    obtain rfl := n1 he
    refine mk_of ?_; repeat' (first | (with_reducible first | refine gw_seq ?_ | refine gw_block ?_) | ((first | (with_reducible refine mk_to ?_) | (with_reducible first | refine gw_region ?_ | refine gw_if ?_ | refine gw_skip ?_ | refine gw_exit ?_ | refine gw_ret ?_) | ((with_reducible first | refine gif_b (fun hb => ?_) (fun hb => ?_) | refine want_t (fun hb => ?_) (fun hb => ?_) | refine want_f (fun hb => ?_) (fun hb => ?_)) <;> (try simp only [hb]) <;> (try simp only [hpr] at hb))) <;> try simp only [List.map, gop, ev, lk, aenv, gyield, gBin, gInt, gStrOp, gUn, gPick, gNil, gExtract, gIfc, gConvK, gIndexO, gIndexVO, gMakeV, gMinV, gMaxV, isInt, gMin, gMax, gBlt, gCallV, gInvoke, gNilM, Array.toList_map, vcells, gField, gIndexV, gPart, reduceIte, Nat.reduceAdd, Nat.reduceSub, Nat.reduceMul, Nat.reduceLT, Nat.reduceLeDiff, Nat.reduceEqDiff, Nat.reduceBEq, Int.reduceLT, Int.reduceLE, Int.reduceGT, Int.reduceGE, Int.reduceEq, Int.reduceNe, Int.reduceAdd, Int.reduceSub, Int.reduceMul, Int.reduceNeg, Int.reduceToNat, Int.reduceBEq, Int.reduceBNe, Int.cast_ofNat_Int, List.getElem?_toArray, stp, Try.underlying100, Try.underlying22, Try.underlying23, Try.underlying3, Try.underlying4, Try.underlying5, Try.underlying50, ty22, ty100, ty23, ty3, ty4, ty5, ty50, rs27, Option.isNone_none]))
    unfold St.flag
    rw [if_neg he]
    exact ⟨rfl, r1, x1⟩
  obtain ⟨y, hy⟩ := St.take_one he
  have un : s.flag = (y == 1, (s.take 1).2.ok (decide (y.toNat ≤ 1)) 5) := by unfold St.flag; rw [if_pos he, hy]; rfl
  rw [un]
  rw [hy] at q1
  replace q1 : RB h1 (.slice a1 1 c1) [y] := q1
  simp only [hy]
  generalize (s.take 1).2 = s1 at *
  obtain ⟨ad1, rfl⟩ : ∃ ad, a1 = some ad := by
    cases a1 with
    | none => have := q1.isnil rfl; cases this
    | some ad => exact ⟨ad, rfl⟩
  obtain ⟨p, i1, l1⟩ := q1.idx Try.underlying22 sz5 (i := 0) (by omega) (by simp)
  simp only [Int.toNat_zero, List.getD_cons_zero] at l1
  have dy : decide ((y.toNat : Int) ≤ 1) = decide (y.toNat ≤ 1) := by
    have : ((y.toNat : Int) ≤ 1) ↔ y.toNat ≤ 1 := by omega
    simp only [this]
  refine mk_of ?_; repeat' (first | (with_reducible first | refine gw_seq ?_ | refine gw_block ?_) | ((first | (with_reducible refine mk_to ?_) | (with_reducible first | refine gw_region ?_ | refine gw_if ?_ | refine gw_skip ?_ | refine gw_exit ?_ | refine gw_ret ?_) | ((with_reducible first | refine gif_b (fun hb => ?_) (fun hb => ?_) | refine want_t (fun hb => ?_) (fun hb => ?_) | refine want_f (fun hb => ?_) (fun hb => ?_)) <;> (try simp only [hb]) <;> (try simp only [hpr] at hb))) <;> try simp only [List.map, gop, ev, lk, aenv, gyield, gBin, gInt, gStrOp, gUn, gPick, gNil, gExtract, gIfc, gConvK, gIndexO, gIndexVO, gMakeV, gMinV, gMaxV, isInt, gMin, gMax, gBlt, gCallV, gInvoke, gNilM, Array.toList_map, vcells, gField, gIndexV, gPart, reduceIte, Nat.reduceAdd, Nat.reduceSub, Nat.reduceMul, Nat.reduceLT, Nat.reduceLeDiff, Nat.reduceEqDiff, Nat.reduceBEq, Int.reduceLT, Int.reduceLE, Int.reduceGT, Int.reduceGE, Int.reduceEq, Int.reduceNe, Int.reduceAdd, Int.reduceSub, Int.reduceMul, Int.reduceNeg, Int.reduceToNat, Int.reduceBEq, Int.reduceBNe, Int.cast_ofNat_Int, List.getElem?_toArray, stp, Try.underlying100, Try.underlying22, Try.underlying23, Try.underlying3, Try.underlying4, Try.underlying5, Try.underlying50, ty22, ty100, ty23, ty3, ty4, ty5, ty50, rs27, Option.isNone_some, i1, l1, bv, dy]))
  refine (c_ok N h1 r1 (decide (y.toNat ≤ 1)) 5).mono ?_
  rintro _ h2 ⟨rfl, r2, x2⟩
  have q2 := q1.rd r1 x2
  replace x2 := x1.trans x2
  obtain ⟨p2, i2, l2⟩ := q2.idx Try.underlying22 sz5 (i := 0) (by omega) (by simp)
  simp only [Int.toNat_zero, List.getD_cons_zero] at l2
  have dq : ((y.toNat : Int) == 1) = (y == 1) := by
    rw [Bool.eq_iff_iff]
    simp only [beq_iff_eq]
    constructor
    · intro e; exact UInt8.toNat_inj.1 (by show y.toNat = 1; omega)
    · rintro rfl; rfl
  by_cases he2 : (s1.ok (decide (y.toNat ≤ 1)) 5).e = 0
  · have d2 : ((s1.ok (decide (y.toNat ≤ 1)) 5).e == 0) = true := by simpa using he2
    refine mk_of ?_; repeat' (first | (with_reducible first | refine gw_seq ?_ | refine gw_block ?_) | ((first | (with_reducible refine mk_to ?_) | (with_reducible first | refine gw_region ?_ | refine gw_if ?_ | refine gw_skip ?_ | refine gw_exit ?_ | refine gw_ret ?_) | ((with_reducible first | refine gif_b (fun hb => ?_) (fun hb => ?_) | refine want_t (fun hb => ?_) (fun hb => ?_) | refine want_f (fun hb => ?_) (fun hb => ?_)) <;> (try simp only [hb]) <;> (try simp only [hpr] at hb))) <;> try simp only [List.map, gop, ev, lk, aenv, gyield, gBin, gInt, gStrOp, gUn, gPick, gNil, gExtract, gIfc, gConvK, gIndexO, gIndexVO, gMakeV, gMinV, gMaxV, isInt, gMin, gMax, gBlt, gCallV, gInvoke, gNilM, Array.toList_map, vcells, gField, gIndexV, gPart, reduceIte, Nat.reduceAdd, Nat.reduceSub, Nat.reduceMul, Nat.reduceLT, Nat.reduceLeDiff, Nat.reduceEqDiff, Nat.reduceBEq, Int.reduceLT, Int.reduceLE, Int.reduceGT, Int.reduceGE, Int.reduceEq, Int.reduceNe, Int.reduceAdd, Int.reduceSub, Int.reduceMul, Int.reduceNeg, Int.reduceToNat, Int.reduceBEq, Int.reduceBNe, Int.cast_ofNat_Int, List.getElem?_toArray, stp, Try.underlying100, Try.underlying22, Try.underlying23, Try.underlying3, Try.underlying4, Try.underlying5, Try.underlying50, ty22, ty100, ty23, ty3, ty4, ty5, ty50, rs27, d2, i2, l2, bv, dq]))
    exact ⟨r2, x2⟩
  · have d2 : ((s1.ok (decide (y.toNat ≤ 1)) 5).e == 0) = false := by simpa using he2
    refine mk_of ?_; repeat' (first | (with_reducible first | refine gw_seq ?_ | refine gw_block ?_) | ((first | (with_reducible refine mk_to ?_) | (with_reducible first | refine gw_region ?_ | refine gw_if ?_ | refine gw_skip ?_ | refine gw_exit ?_ | refine gw_ret ?_) | ((with_reducible first | refine gif_b (fun hb => ?_) (fun hb => ?_) | refine want_t (fun hb => ?_) (fun hb => ?_) | refine want_f (fun hb => ?_) (fun hb => ?_)) <;> (try simp only [hb]) <;> (try simp only [hpr] at hb))) <;> try simp only [List.map, gop, ev, lk, aenv, gyield, gBin, gInt, gStrOp, gUn, gPick, gNil, gExtract, gIfc, gConvK, gIndexO, gIndexVO, gMakeV, gMinV, gMaxV, isInt, gMin, gMax, gBlt, gCallV, gInvoke, gNilM, Array.toList_map, vcells, gField, gIndexV, gPart, reduceIte, Nat.reduceAdd, Nat.reduceSub, Nat.reduceMul, Nat.reduceLT, Nat.reduceLeDiff, Nat.reduceEqDiff, Nat.reduceBEq, Int.reduceLT, Int.reduceLE, Int.reduceGT, Int.reduceGE, Int.reduceEq, Int.reduceNe, Int.reduceAdd, Int.reduceSub, Int.reduceMul, Int.reduceNeg, Int.reduceToNat, Int.reduceBEq, Int.reduceBNe, Int.cast_ofNat_Int, List.getElem?_toArray, stp, Try.underlying100, Try.underlying22, Try.underlying23, Try.underlying3, Try.underlying4, Try.underlying5, Try.underlying50, ty22, ty100, ty23, ty3, ty4, ty5, ty50, rs27, d2, i2, l2, bv, dq]))
    refine ⟨?_, r2, x2⟩
    have : y ≠ 1 := by
      rintro rfl
      exact he2 he
    simp [this]
theorem c_Left (N : Nat) (h : GH) {k : Nat} {s : St} (r : RD h k s) : GTri Try.prog N 31 [.pointer (some ⟨k, 0, none⟩)] h fun v h' => v = .int .i64 s.b.length ∧ h' = h := by
  have rn := c_none N h r
  obtain ⟨a, c, m, rb, sl⟩ := r.form
  refine gtri Try.func31 rfl gf31 ok31 (by simp [Try.ntmps31]) ?_
  repeat' (first | (with_reducible first | refine gw_seq ?_ | refine gw_block ?_) | ((first | (with_reducible first | refine gw_region ?_ | refine gw_if ?_ | refine gw_skip ?_ | refine gw_exit ?_ | refine gw_ret ?_) | ((with_reducible first | refine gif_b (fun hb => ?_) (fun hb => ?_) | refine want_t (fun hb => ?_) (fun hb => ?_) | refine want_f (fun hb => ?_) (fun hb => ?_)) <;> (try simp only [hb]) <;> (try simp only [hpr] at hb)) | ((refine GTri.mono rn ?_); rintro _ _ ⟨rfl, hh9⟩; replace hh9 := hh9.symm; subst hh9)) <;> try simp only [List.map, gop, ev, lk, aenv, gyield, gBin, gInt, gStrOp, gUn, gPick, gNil, gExtract, gIfc, gConvK, gIndexO, gIndexVO, gMakeV, gMinV, gMaxV, isInt, gMin, gMax, gBlt, gCallV, gInvoke, gNilM, Array.toList_map, vcells, gField, gIndexV, gPart, reduceIte, Nat.reduceAdd, Nat.reduceSub, Nat.reduceMul, Nat.reduceLT, Nat.reduceLeDiff, Nat.reduceEqDiff, Nat.reduceBEq, Int.reduceLT, Int.reduceLE, Int.reduceGT, Int.reduceGE, Int.reduceEq, Int.reduceNe, Int.reduceAdd, Int.reduceSub, Int.reduceMul, Int.reduceNeg, Int.reduceToNat, Int.reduceBEq, Int.reduceBNe, Int.cast_ofNat_Int, List.getElem?_toArray, stp, Try.underlying100, Try.underlying22, Try.underlying23, Try.underlying4, Try.underlying5, Try.underlying50, ty22, ty100, ty23, ty4, ty5, ty50, rs31, gNil, gload1 m sz22]))
theorem c_Err (N : Nat) (h : GH) {k : Nat} {s : St} (r : RD h k s) : GTri Try.prog N 30 [.pointer (some ⟨k, 0, none⟩)] h fun v h' => v = .int .i64 s.e ∧ h' = h := by
  have rn := c_none N h r
  obtain ⟨a, c, m, rb, sl⟩ := r.form
  refine gtri Try.func30 rfl gf30 ok30 (by simp [Try.ntmps30]) ?_
  repeat' (first | (with_reducible first | refine gw_seq ?_ | refine gw_block ?_) | ((first | (with_reducible first | refine gw_region ?_ | refine gw_if ?_ | refine gw_skip ?_ | refine gw_exit ?_ | refine gw_ret ?_) | ((with_reducible first | refine gif_b (fun hb => ?_) (fun hb => ?_) | refine want_t (fun hb => ?_) (fun hb => ?_) | refine want_f (fun hb => ?_) (fun hb => ?_)) <;> (try simp only [hb]) <;> (try simp only [hpr] at hb)) | ((refine GTri.mono rn ?_); rintro _ _ ⟨rfl, hh9⟩; replace hh9 := hh9.symm; subst hh9)) <;> try simp only [List.map, gop, ev, lk, aenv, gyield, gBin, gInt, gStrOp, gUn, gPick, gNil, gExtract, gIfc, gConvK, gIndexO, gIndexVO, gMakeV, gMinV, gMaxV, isInt, gMin, gMax, gBlt, gCallV, gInvoke, gNilM, Array.toList_map, vcells, gField, gIndexV, gPart, reduceIte, Nat.reduceAdd, Nat.reduceSub, Nat.reduceMul, Nat.reduceLT, Nat.reduceLeDiff, Nat.reduceEqDiff, Nat.reduceBEq, Int.reduceLT, Int.reduceLE, Int.reduceGT, Int.reduceGE, Int.reduceEq, Int.reduceNe, Int.reduceAdd, Int.reduceSub, Int.reduceMul, Int.reduceNeg, Int.reduceToNat, Int.reduceBEq, Int.reduceBNe, Int.cast_ofNat_Int, List.getElem?_toArray, stp, Try.underlying100, Try.underlying22, Try.underlying23, Try.underlying4, Try.underlying50, ty22, ty100, ty23, ty4, ty50, rs30, gNil, gload1 m sz23]))
theorem c_Open (N : Nat) (h : GH) {a : Option Addr} {n c : Nat} {l : List UInt8} (r : RB h (.slice a n c) l) (hl : l.length ≤ 140737488355328) : GTri Try.prog N 24 [.slice a n c] h fun v h' => ∃ k, v = .pointer (some ⟨k, 0, none⟩) ∧ RD h' k ⟨l, 0⟩ ∧ HS h h' ∧ h k = none := by
  refine gtri Try.func24 rfl gf24 ok24 (by simp [Try.ntmps24]) ?_
  repeat' (first | (with_reducible first | refine gw_seq ?_ | refine gw_block ?_) | ((first | (with_reducible first | refine gw_region ?_ | refine gw_if ?_ | refine gw_skip ?_ | refine gw_exit ?_ | refine gw_ret ?_) | ((with_reducible first | refine gif_b (fun hb => ?_) (fun hb => ?_) | refine want_t (fun hb => ?_) (fun hb => ?_) | refine want_f (fun hb => ?_) (fun hb => ?_)) <;> (try simp only [hb]) <;> (try simp only [hpr] at hb)) | ((refine GTri.mono (c_SClone _ _ r hl) ?_); rintro _ h1 ⟨s1, o1⟩)) <;> try simp only [List.map, gop, ev, lk, aenv, gyield, gBin, gInt, gStrOp, gUn, gPick, gNil, gExtract, gIfc, gConvK, gIndexO, gIndexVO, gMakeV, gMinV, gMaxV, isInt, gMin, gMax, gBlt, gCallV, gInvoke, gNilM, Array.toList_map, vcells, gField, gIndexV, gPart, reduceIte, Nat.reduceAdd, Nat.reduceSub, Nat.reduceMul, Nat.reduceLT, Nat.reduceLeDiff, Nat.reduceEqDiff, Nat.reduceBEq, Int.reduceLT, Int.reduceLE, Int.reduceGT, Int.reduceGE, Int.reduceEq, Int.reduceNe, Int.reduceAdd, Int.reduceSub, Int.reduceMul, Int.reduceNeg, Int.reduceToNat, Int.reduceBEq, Int.reduceBNe, Int.cast_ofNat_Int, List.getElem?_toArray, stp, Try.underlying100, Try.underlying22, Try.underlying23, Try.underlying4, Try.underlying5, ty22, ty100, ty23, ty4, ty5, rs24]))
  obtain ⟨a1, c1, rfl⟩ := o1.form
  refine mk_of ?_; repeat' (first | (with_reducible first | refine gw_seq ?_ | refine gw_block ?_) | ((first | (with_reducible refine mk_to ?_) | (with_reducible first | refine gw_region ?_ | refine gw_if ?_ | refine gw_skip ?_ | refine gw_exit ?_ | refine gw_ret ?_) | ((with_reducible first | refine gif_b (fun hb => ?_) (fun hb => ?_) | refine want_t (fun hb => ?_) (fun hb => ?_) | refine want_f (fun hb => ?_) (fun hb => ?_)) <;> (try simp only [hb]) <;> (try simp only [hpr] at hb))) <;> try simp only [List.map, gop, ev, lk, aenv, gyield, gBin, gInt, gStrOp, gUn, gPick, gNil, gExtract, gIfc, gConvK, gIndexO, gIndexVO, gMakeV, gMinV, gMaxV, isInt, gMin, gMax, gBlt, gCallV, gInvoke, gNilM, Array.toList_map, vcells, gField, gIndexV, gPart, reduceIte, Nat.reduceAdd, Nat.reduceSub, Nat.reduceMul, Nat.reduceLT, Nat.reduceLeDiff, Nat.reduceEqDiff, Nat.reduceBEq, Int.reduceLT, Int.reduceLE, Int.reduceGT, Int.reduceGE, Int.reduceEq, Int.reduceNe, Int.reduceAdd, Int.reduceSub, Int.reduceMul, Int.reduceNeg, Int.reduceToNat, Int.reduceBEq, Int.reduceBNe, Int.cast_ofNat_Int, List.getElem?_toArray, stp, Try.underlying100, Try.underlying22, Try.underlying23, Try.underlying4, Try.underlying5, ty22, ty100, ty23, ty4, ty5, rs24, gBuild, lfill, lput, Shape.pl, List.all_cons, List.all_nil, isCell]))
  refine box_g rfl fun k2 h2 m2 s2 f2 n2 => ?_
  refine mk_of ?_; repeat' (first | (with_reducible first | refine gw_seq ?_ | refine gw_block ?_) | ((first | (with_reducible refine mk_to ?_) | (with_reducible first | refine gw_region ?_ | refine gw_if ?_ | refine gw_skip ?_ | refine gw_exit ?_ | refine gw_ret ?_) | ((with_reducible first | refine gif_b (fun hb => ?_) (fun hb => ?_) | refine want_t (fun hb => ?_) (fun hb => ?_) | refine want_f (fun hb => ?_) (fun hb => ?_)) <;> (try simp only [hb]) <;> (try simp only [hpr] at hb))) <;> try simp only [List.map, gop, ev, lk, aenv, gyield, gBin, gInt, gStrOp, gUn, gPick, gNil, gExtract, gIfc, gConvK, gIndexO, gIndexVO, gMakeV, gMinV, gMaxV, isInt, gMin, gMax, gBlt, gCallV, gInvoke, gNilM, Array.toList_map, vcells, gField, gIndexV, gPart, reduceIte, Nat.reduceAdd, Nat.reduceSub, Nat.reduceMul, Nat.reduceLT, Nat.reduceLeDiff, Nat.reduceEqDiff, Nat.reduceBEq, Int.reduceLT, Int.reduceLE, Int.reduceGT, Int.reduceGE, Int.reduceEq, Int.reduceNe, Int.reduceAdd, Int.reduceSub, Int.reduceMul, Int.reduceNeg, Int.reduceToNat, Int.reduceBEq, Int.reduceBNe, Int.cast_ofNat_Int, List.getElem?_toArray, stp, Try.underlying100, Try.underlying22, Try.underlying23, Try.underlying4, Try.underlying5, ty22, ty100, ty23, ty4, ty5, rs24]))
  exact ⟨k2, rfl, ⟨a1, c1, m2, o1.rb.hs s2, o1.sl.hs s2⟩, s1.trans s2, s1.none_of n2⟩
/-- A block that there was is written; what is new since stays. -/
theorem OWN.hxo {h0 h h' : GH} {v : Value} {l : List UInt8} (o : OWN h0 h v l) {g : Nat} {B : GB} (hg : h0 g = some B) (x : HX g h h') : OWN h0 h' v l := by
  rcases o with o | o | ⟨k, c, h1, h2, h3, h4, h5, h6⟩
  · exact .inl o
  · exact .inr (.inl o)
  · exact .inr (.inr ⟨k, c, h1, h2, h3, h4, x _ _ (fun e => by rw [e, hg] at h6; cases h6) h5, h6⟩)
end Go.Gh

/- The reference's reader. -/

namespace Go.Gh
open Go Go.Proofs Go.RowKit
set_option linter.unusedVariables false
set_option linter.unusedSimpArgs false
set_option maxRecDepth 100000

/-- The reference's reader in memory. -/
def RF (h : GH) (k : Nat) (s : St) : Prop := ∃ a c, h k = some ⟨[.slice a s.b.length c, .int .i64 s.e], 0, true, false⟩ ∧ RB h (.slice a s.b.length c) s.b ∧ SL h (.slice a s.b.length c)
theorem RF.hs {h h' : GH} {k : Nat} {s : St} (r : RF h k s) (x : HS h h') : RF h' k s := by
  obtain ⟨a, c, h1, h2, h3⟩ := r
  exact ⟨a, c, x _ _ h1, h2.hs x, h3.hs x⟩
theorem RF.form {h : GH} {k : Nat} {s : St} (r : RF h k s) : ∃ a c, h k = some ⟨[.slice a s.b.length c, .int .i64 s.e], 0, true, false⟩ ∧ RB h (.slice a s.b.length c) s.b ∧ SL h (.slice a s.b.length c) := r
theorem RB.rf {h h' : GH} {k : Nat} {s : St} {v : Value} {l : List UInt8} (q : RB h v l) (r : RF h k s) (x : HX k h h') : RB h' v l := by
  obtain ⟨a, c, m, _, _⟩ := r
  exact q.hx m rfl x
theorem RF.rd {h h' : GH} {k j : Nat} {s t : St} (q : RF h j t) (r : RD h k s) (x : HX k h h') (n : j ≠ k) : RF h' j t := by
  obtain ⟨a, c, m, rb, sl⟩ := q
  obtain ⟨a2, c2, m2, _, _⟩ := r
  exact ⟨a, c, x _ _ n m, rb.hx m2 rfl x, sl.hx m2 rfl x⟩
theorem RD.rf {h h' : GH} {k j : Nat} {s t : St} (q : RD h j t) (r : RF h k s) (x : HX k h h') (n : j ≠ k) : RD h' j t := by
  obtain ⟨a, c, m, rb, sl⟩ := q
  obtain ⟨a2, c2, m2, _, _⟩ := r
  exact ⟨a, c, x _ _ n m, rb.hx m2 rfl x, sl.hx m2 rfl x⟩

theorem c_rFail (N : Nat) (h : GH) {k : Nat} {s : St} (r : RF h k s) (e : Int) : GTri Try.prog N 68 [.pointer (some ⟨k, 0, none⟩), .int .i64 e] h fun v h' => RF h' k (s.fail e) ∧ HX k h h' := by
  obtain ⟨a, c, m, rb, sl⟩ := r.form
  refine gtri Try.func68 rfl gf68 ok68 (by simp [Try.ntmps68]) ?_
  by_cases he : s.e = 0
  · have d : (s.e == 0) = true := by simpa using he
    repeat' (first | (with_reducible first | refine gw_seq ?_ | refine gw_block ?_) | ((first | (with_reducible first | refine gw_region ?_ | refine gw_if ?_ | refine gw_skip ?_ | refine gw_exit ?_ | refine gw_ret ?_) | ((with_reducible first | refine gif_b (fun hb => ?_) (fun hb => ?_) | refine want_t (fun hb => ?_) (fun hb => ?_) | refine want_f (fun hb => ?_) (fun hb => ?_)) <;> (try simp only [hb]) <;> (try simp only [hpr] at hb))) <;> try simp only [List.map, gop, ev, lk, aenv, gyield, gBin, gInt, gStrOp, gUn, gPick, gNil, gExtract, gIfc, gConvK, gIndexO, gIndexVO, gMakeV, gMinV, gMaxV, isInt, gMin, gMax, gBlt, gCallV, gInvoke, gNilM, Array.toList_map, vcells, gField, gIndexV, gPart, reduceIte, Nat.reduceAdd, Nat.reduceSub, Nat.reduceMul, Nat.reduceLT, Nat.reduceLeDiff, Nat.reduceEqDiff, Nat.reduceBEq, Int.reduceLT, Int.reduceLE, Int.reduceGT, Int.reduceGE, Int.reduceEq, Int.reduceNe, Int.reduceAdd, Int.reduceSub, Int.reduceMul, Int.reduceNeg, Int.reduceToNat, Int.reduceBEq, Int.reduceBNe, Int.cast_ofNat_Int, List.getElem?_toArray, stp, Try.underlying22, Try.underlying23, Try.underlying5, Try.underlying60, ty22, ty60, ty23, ty5, rs68, gNil, gload1 m sz23, d]))
    refine st_one m sz23 rfl (by simp) rfl rfl fun h1 m1 f1 => ?_
    refine mk_of ?_; repeat' (first | (with_reducible first | refine gw_seq ?_ | refine gw_block ?_) | ((first | (with_reducible refine mk_to ?_) | (with_reducible first | refine gw_region ?_ | refine gw_if ?_ | refine gw_skip ?_ | refine gw_exit ?_ | refine gw_ret ?_) | ((with_reducible first | refine gif_b (fun hb => ?_) (fun hb => ?_) | refine want_t (fun hb => ?_) (fun hb => ?_) | refine want_f (fun hb => ?_) (fun hb => ?_)) <;> (try simp only [hb]) <;> (try simp only [hpr] at hb))) <;> try simp only [List.map, gop, ev, lk, aenv, gyield, gBin, gInt, gStrOp, gUn, gPick, gNil, gExtract, gIfc, gConvK, gIndexO, gIndexVO, gMakeV, gMinV, gMaxV, isInt, gMin, gMax, gBlt, gCallV, gInvoke, gNilM, Array.toList_map, vcells, gField, gIndexV, gPart, reduceIte, Nat.reduceAdd, Nat.reduceSub, Nat.reduceMul, Nat.reduceLT, Nat.reduceLeDiff, Nat.reduceEqDiff, Nat.reduceBEq, Int.reduceLT, Int.reduceLE, Int.reduceGT, Int.reduceGE, Int.reduceEq, Int.reduceNe, Int.reduceAdd, Int.reduceSub, Int.reduceMul, Int.reduceNeg, Int.reduceToNat, Int.reduceBEq, Int.reduceBNe, Int.cast_ofNat_Int, List.getElem?_toArray, stp, Try.underlying22, Try.underlying23, Try.underlying5, Try.underlying60, ty22, ty60, ty23, ty5, rs68, gNil]))
    refine st_one m1 sz22 rfl (by simp) rfl rfl fun h2 m2 f2 => ?_
    have x : HX k h h2 := fun j B n e => by rw [f2 j n, f1 j n]; exact e
    refine mk_of ?_; repeat' (first | (with_reducible first | refine gw_seq ?_ | refine gw_block ?_) | ((first | (with_reducible refine mk_to ?_) | (with_reducible first | refine gw_region ?_ | refine gw_if ?_ | refine gw_skip ?_ | refine gw_exit ?_ | refine gw_ret ?_) | ((with_reducible first | refine gif_b (fun hb => ?_) (fun hb => ?_) | refine want_t (fun hb => ?_) (fun hb => ?_) | refine want_f (fun hb => ?_) (fun hb => ?_)) <;> (try simp only [hb]) <;> (try simp only [hpr] at hb))) <;> try simp only [List.map, gop, ev, lk, aenv, gyield, gBin, gInt, gStrOp, gUn, gPick, gNil, gExtract, gIfc, gConvK, gIndexO, gIndexVO, gMakeV, gMinV, gMaxV, isInt, gMin, gMax, gBlt, gCallV, gInvoke, gNilM, Array.toList_map, vcells, gField, gIndexV, gPart, reduceIte, Nat.reduceAdd, Nat.reduceSub, Nat.reduceMul, Nat.reduceLT, Nat.reduceLeDiff, Nat.reduceEqDiff, Nat.reduceBEq, Int.reduceLT, Int.reduceLE, Int.reduceGT, Int.reduceGE, Int.reduceEq, Int.reduceNe, Int.reduceAdd, Int.reduceSub, Int.reduceMul, Int.reduceNeg, Int.reduceToNat, Int.reduceBEq, Int.reduceBNe, Int.cast_ofNat_Int, List.getElem?_toArray, stp, Try.underlying22, Try.underlying23, Try.underlying5, Try.underlying60, ty22, ty60, ty23, ty5, rs68, gNil]))
    rw [St.fail, if_pos he]
    exact ⟨⟨none, 0, m2, RB.nil _, SL.nil _ _ _⟩, x⟩
  · have d : (s.e == 0) = false := by simpa using he
    repeat' (first | (with_reducible first | refine gw_seq ?_ | refine gw_block ?_) | ((first | (with_reducible first | refine gw_region ?_ | refine gw_if ?_ | refine gw_skip ?_ | refine gw_exit ?_ | refine gw_ret ?_) | ((with_reducible first | refine gif_b (fun hb => ?_) (fun hb => ?_) | refine want_t (fun hb => ?_) (fun hb => ?_) | refine want_f (fun hb => ?_) (fun hb => ?_)) <;> (try simp only [hb]) <;> (try simp only [hpr] at hb))) <;> try simp only [List.map, gop, ev, lk, aenv, gyield, gBin, gInt, gStrOp, gUn, gPick, gNil, gExtract, gIfc, gConvK, gIndexO, gIndexVO, gMakeV, gMinV, gMaxV, isInt, gMin, gMax, gBlt, gCallV, gInvoke, gNilM, Array.toList_map, vcells, gField, gIndexV, gPart, reduceIte, Nat.reduceAdd, Nat.reduceSub, Nat.reduceMul, Nat.reduceLT, Nat.reduceLeDiff, Nat.reduceEqDiff, Nat.reduceBEq, Int.reduceLT, Int.reduceLE, Int.reduceGT, Int.reduceGE, Int.reduceEq, Int.reduceNe, Int.reduceAdd, Int.reduceSub, Int.reduceMul, Int.reduceNeg, Int.reduceToNat, Int.reduceBEq, Int.reduceBNe, Int.cast_ofNat_Int, List.getElem?_toArray, stp, Try.underlying22, Try.underlying23, Try.underlying5, Try.underlying60, ty22, ty60, ty23, ty5, rs68, gNil, gload1 m sz23, d]))
    rw [St.fail, if_neg he]
    exact ⟨r, HX.refl _ _⟩
theorem c_rTake (N : Nat) (h : GH) {k : Nat} {s : St} (r : RF h k s) (n : Nat) (hb : s.b.length ≤ 140737488355328) : GTri Try.prog N 67 [.pointer (some ⟨k, 0, none⟩), .int .i64 n] h fun v h' => RF h' k (s.take n).2 ∧ HX k h h' ∧ ∃ a c, v = .slice a (s.take n).1.length c ∧ RB h' (.slice a (s.take n).1.length c) (s.take n).1 := by
  obtain ⟨a, c, m, rb, sl⟩ := r.form
  refine gtri Try.func67 rfl gf67 ok67 (by simp [Try.ntmps67]) ?_
  by_cases hn : n ≤ s.b.length
  · have dn : decide ((n : Int) > (s.b.length : Int)) = false := decide_eq_false (by omega)
    have e1 : s.ok (decide (n ≤ s.b.length)) 3 = s := by rw [decide_eq_true hn, St.ok_t]
    by_cases he : s.e = 0
    · have d : (s.e != 0) = false := by simpa using he
      have et : s.take n = (s.b.take n, ⟨s.b.drop n, 0⟩) := by unfold St.take; rw [e1, if_pos he]
      repeat' (first | (with_reducible first | refine gw_seq ?_ | refine gw_block ?_) | ((first | (with_reducible first | refine gw_region ?_ | refine gw_if ?_ | refine gw_skip ?_ | refine gw_exit ?_ | refine gw_ret ?_) | ((with_reducible first | refine gif_b (fun hb => ?_) (fun hb => ?_) | refine want_t (fun hb => ?_) (fun hb => ?_) | refine want_f (fun hb => ?_) (fun hb => ?_)) <;> (try simp only [hb]) <;> (try simp only [hpr] at hb))) <;> try simp only [List.map, gop, ev, lk, aenv, gyield, gBin, gInt, gStrOp, gUn, gPick, gNil, gExtract, gIfc, gConvK, gIndexO, gIndexVO, gMakeV, gMinV, gMaxV, isInt, gMin, gMax, gBlt, gCallV, gInvoke, gNilM, Array.toList_map, vcells, gField, gIndexV, gPart, reduceIte, Nat.reduceAdd, Nat.reduceSub, Nat.reduceMul, Nat.reduceLT, Nat.reduceLeDiff, Nat.reduceEqDiff, Nat.reduceBEq, Int.reduceLT, Int.reduceLE, Int.reduceGT, Int.reduceGE, Int.reduceEq, Int.reduceNe, Int.reduceAdd, Int.reduceSub, Int.reduceMul, Int.reduceNeg, Int.reduceToNat, Int.reduceBEq, Int.reduceBNe, Int.cast_ofNat_Int, List.getElem?_toArray, stp, Try.underlying22, Try.underlying23, Try.underlying3, Try.underlying5, Try.underlying58, Try.underlying60, ty22, ty60, ty23, ty3, ty5, ty58, rs67, gNil, gload1 m sz22, gload1 m sz23, dn, d]))
      refine bs0_g el22 rfl ?_
      obtain ⟨a2, c2, q2, rb2, _⟩ := rb.cut Try.underlying22 sz5 (hi := (n : Int)) (by omega) (by omega) .i64
      rw [Int.toNat_natCast] at q2 rb2
      refine mk_of ?_; repeat' (first | (with_reducible first | refine gw_seq ?_ | refine gw_block ?_) | ((first | (with_reducible refine mk_to ?_) | (with_reducible first | refine gw_region ?_ | refine gw_if ?_ | refine gw_skip ?_ | refine gw_exit ?_ | refine gw_ret ?_) | ((with_reducible first | refine gif_b (fun hb => ?_) (fun hb => ?_) | refine want_t (fun hb => ?_) (fun hb => ?_) | refine want_f (fun hb => ?_) (fun hb => ?_)) <;> (try simp only [hb]) <;> (try simp only [hpr] at hb))) <;> try simp only [List.map, gop, ev, lk, aenv, gyield, gBin, gInt, gStrOp, gUn, gPick, gNil, gExtract, gIfc, gConvK, gIndexO, gIndexVO, gMakeV, gMinV, gMaxV, isInt, gMin, gMax, gBlt, gCallV, gInvoke, gNilM, Array.toList_map, vcells, gField, gIndexV, gPart, reduceIte, Nat.reduceAdd, Nat.reduceSub, Nat.reduceMul, Nat.reduceLT, Nat.reduceLeDiff, Nat.reduceEqDiff, Nat.reduceBEq, Int.reduceLT, Int.reduceLE, Int.reduceGT, Int.reduceGE, Int.reduceEq, Int.reduceNe, Int.reduceAdd, Int.reduceSub, Int.reduceMul, Int.reduceNeg, Int.reduceToNat, Int.reduceBEq, Int.reduceBNe, Int.cast_ofNat_Int, List.getElem?_toArray, stp, Try.underlying22, Try.underlying23, Try.underlying3, Try.underlying5, Try.underlying58, Try.underlying60, ty22, ty60, ty23, ty3, ty5, ty58, rs67, gNil, gload1 m sz22, q2]))
      refine append_own el22 Try.underlying22 rfl (HS.refl h) (OWN.zero _ _ _) rb2.src (by simp; omega) fun v3 h3 s3 _ o3 => ?_
      have m3 := s3 _ _ m
      obtain ⟨a4, c4, q4, rb4, sl4⟩ := (rb.hs s3).behind (sl.hs s3) Try.underlying22 sz5 hn .i64
      obtain ⟨a5, c5, rfl⟩ := o3.form
      rw [List.nil_append] at o3
      refine mk_of ?_; repeat' (first | (with_reducible first | refine gw_seq ?_ | refine gw_block ?_) | ((first | (with_reducible refine mk_to ?_) | (with_reducible first | refine gw_region ?_ | refine gw_if ?_ | refine gw_skip ?_ | refine gw_exit ?_ | refine gw_ret ?_) | ((with_reducible first | refine gif_b (fun hb => ?_) (fun hb => ?_) | refine want_t (fun hb => ?_) (fun hb => ?_) | refine want_f (fun hb => ?_) (fun hb => ?_)) <;> (try simp only [hb]) <;> (try simp only [hpr] at hb))) <;> try simp only [List.map, gop, ev, lk, aenv, gyield, gBin, gInt, gStrOp, gUn, gPick, gNil, gExtract, gIfc, gConvK, gIndexO, gIndexVO, gMakeV, gMinV, gMaxV, isInt, gMin, gMax, gBlt, gCallV, gInvoke, gNilM, Array.toList_map, vcells, gField, gIndexV, gPart, reduceIte, Nat.reduceAdd, Nat.reduceSub, Nat.reduceMul, Nat.reduceLT, Nat.reduceLeDiff, Nat.reduceEqDiff, Nat.reduceBEq, Int.reduceLT, Int.reduceLE, Int.reduceGT, Int.reduceGE, Int.reduceEq, Int.reduceNe, Int.reduceAdd, Int.reduceSub, Int.reduceMul, Int.reduceNeg, Int.reduceToNat, Int.reduceBEq, Int.reduceBNe, Int.cast_ofNat_Int, List.getElem?_toArray, stp, Try.underlying22, Try.underlying23, Try.underlying3, Try.underlying5, Try.underlying58, Try.underlying60, ty22, ty60, ty23, ty3, ty5, ty58, rs67, gNil, gload1 m3 sz22, q4]))
      refine st_one m3 sz22 rfl (by simp) rfl rfl fun h6 m6 f6 => ?_
      have x6 : HX k h3 h6 := fun j B n e => by rw [f6 j n]; exact e
      refine mk_of ?_; repeat' (first | (with_reducible first | refine gw_seq ?_ | refine gw_block ?_) | ((first | (with_reducible refine mk_to ?_) | (with_reducible first | refine gw_region ?_ | refine gw_if ?_ | refine gw_skip ?_ | refine gw_exit ?_ | refine gw_ret ?_) | ((with_reducible first | refine gif_b (fun hb => ?_) (fun hb => ?_) | refine want_t (fun hb => ?_) (fun hb => ?_) | refine want_f (fun hb => ?_) (fun hb => ?_)) <;> (try simp only [hb]) <;> (try simp only [hpr] at hb))) <;> try simp only [List.map, gop, ev, lk, aenv, gyield, gBin, gInt, gStrOp, gUn, gPick, gNil, gExtract, gIfc, gConvK, gIndexO, gIndexVO, gMakeV, gMinV, gMaxV, isInt, gMin, gMax, gBlt, gCallV, gInvoke, gNilM, Array.toList_map, vcells, gField, gIndexV, gPart, reduceIte, Nat.reduceAdd, Nat.reduceSub, Nat.reduceMul, Nat.reduceLT, Nat.reduceLeDiff, Nat.reduceEqDiff, Nat.reduceBEq, Int.reduceLT, Int.reduceLE, Int.reduceGT, Int.reduceGE, Int.reduceEq, Int.reduceNe, Int.reduceAdd, Int.reduceSub, Int.reduceMul, Int.reduceNeg, Int.reduceToNat, Int.reduceBEq, Int.reduceBNe, Int.cast_ofNat_Int, List.getElem?_toArray, stp, Try.underlying22, Try.underlying23, Try.underlying3, Try.underlying5, Try.underlying58, Try.underlying60, ty22, ty60, ty23, ty3, ty5, ty58, rs67]))
      rw [et]
      rw [he] at m6
      refine ⟨⟨a4, c4, m6, rb4.hx m3 rfl x6, sl4.hx m3 rfl x6⟩, (s3.hx k).trans x6, a5, c5, rfl, o3.rb.hx m3 rfl x6⟩
    · have d : (s.e != 0) = true := by simpa using he
      have et : s.take n = ([], s) := by unfold St.take; rw [e1, if_neg he]
      repeat' (first | (with_reducible first | refine gw_seq ?_ | refine gw_block ?_) | ((first | (with_reducible first | refine gw_region ?_ | refine gw_if ?_ | refine gw_skip ?_ | refine gw_exit ?_ | refine gw_ret ?_) | ((with_reducible first | refine gif_b (fun hb => ?_) (fun hb => ?_) | refine want_t (fun hb => ?_) (fun hb => ?_) | refine want_f (fun hb => ?_) (fun hb => ?_)) <;> (try simp only [hb]) <;> (try simp only [hpr] at hb))) <;> try simp only [List.map, gop, ev, lk, aenv, gyield, gBin, gInt, gStrOp, gUn, gPick, gNil, gExtract, gIfc, gConvK, gIndexO, gIndexVO, gMakeV, gMinV, gMaxV, isInt, gMin, gMax, gBlt, gCallV, gInvoke, gNilM, Array.toList_map, vcells, gField, gIndexV, gPart, reduceIte, Nat.reduceAdd, Nat.reduceSub, Nat.reduceMul, Nat.reduceLT, Nat.reduceLeDiff, Nat.reduceEqDiff, Nat.reduceBEq, Int.reduceLT, Int.reduceLE, Int.reduceGT, Int.reduceGE, Int.reduceEq, Int.reduceNe, Int.reduceAdd, Int.reduceSub, Int.reduceMul, Int.reduceNeg, Int.reduceToNat, Int.reduceBEq, Int.reduceBNe, Int.cast_ofNat_Int, List.getElem?_toArray, stp, Try.underlying22, Try.underlying23, Try.underlying3, Try.underlying5, Try.underlying58, Try.underlying60, ty22, ty60, ty23, ty3, ty5, ty58, rs67, gNil, gload1 m sz22, gload1 m sz23, dn, d]))
      rw [et]
      exact ⟨r, HX.refl _ _, none, 0, rfl, RB.nil _⟩
  · have dn : decide ((n : Int) > (s.b.length : Int)) = true := decide_eq_true (by omega)
    have e1 : s.ok (decide (n ≤ s.b.length)) 3 = s.fail 3 := by rw [decide_eq_false hn, St.ok_f]
    have e2 : ¬ (s.fail 3).e = 0 := by unfold St.fail; split <;> simp_all
    have et : s.take n = ([], s.fail 3) := by unfold St.take; rw [e1, if_neg e2]
    have d : ((s.fail 3).e != 0) = true := by simpa using e2
    repeat' (first | (with_reducible first | refine gw_seq ?_ | refine gw_block ?_) | ((first | (with_reducible first | refine gw_region ?_ | refine gw_if ?_ | refine gw_skip ?_ | refine gw_exit ?_ | refine gw_ret ?_) | ((with_reducible first | refine gif_b (fun hb => ?_) (fun hb => ?_) | refine want_t (fun hb => ?_) (fun hb => ?_) | refine want_f (fun hb => ?_) (fun hb => ?_)) <;> (try simp only [hb]) <;> (try simp only [hpr] at hb))) <;> try simp only [List.map, gop, ev, lk, aenv, gyield, gBin, gInt, gStrOp, gUn, gPick, gNil, gExtract, gIfc, gConvK, gIndexO, gIndexVO, gMakeV, gMinV, gMaxV, isInt, gMin, gMax, gBlt, gCallV, gInvoke, gNilM, Array.toList_map, vcells, gField, gIndexV, gPart, reduceIte, Nat.reduceAdd, Nat.reduceSub, Nat.reduceMul, Nat.reduceLT, Nat.reduceLeDiff, Nat.reduceEqDiff, Nat.reduceBEq, Int.reduceLT, Int.reduceLE, Int.reduceGT, Int.reduceGE, Int.reduceEq, Int.reduceNe, Int.reduceAdd, Int.reduceSub, Int.reduceMul, Int.reduceNeg, Int.reduceToNat, Int.reduceBEq, Int.reduceBNe, Int.cast_ofNat_Int, List.getElem?_toArray, stp, Try.underlying22, Try.underlying23, Try.underlying3, Try.underlying5, Try.underlying58, Try.underlying60, ty22, ty60, ty23, ty3, ty5, ty58, rs67, gNil, gload1 m sz22, dn]))
    refine (c_rFail N h r 3).mono ?_
    rintro _ h1 ⟨r1, x1⟩
    obtain ⟨a1, c1, m1, rb1, sl1⟩ := r1.form
    refine mk_of ?_; repeat' (first | (with_reducible first | refine gw_seq ?_ | refine gw_block ?_) | ((first | (with_reducible refine mk_to ?_) | (with_reducible first | refine gw_region ?_ | refine gw_if ?_ | refine gw_skip ?_ | refine gw_exit ?_ | refine gw_ret ?_) | ((with_reducible first | refine gif_b (fun hb => ?_) (fun hb => ?_) | refine want_t (fun hb => ?_) (fun hb => ?_) | refine want_f (fun hb => ?_) (fun hb => ?_)) <;> (try simp only [hb]) <;> (try simp only [hpr] at hb))) <;> try simp only [List.map, gop, ev, lk, aenv, gyield, gBin, gInt, gStrOp, gUn, gPick, gNil, gExtract, gIfc, gConvK, gIndexO, gIndexVO, gMakeV, gMinV, gMaxV, isInt, gMin, gMax, gBlt, gCallV, gInvoke, gNilM, Array.toList_map, vcells, gField, gIndexV, gPart, reduceIte, Nat.reduceAdd, Nat.reduceSub, Nat.reduceMul, Nat.reduceLT, Nat.reduceLeDiff, Nat.reduceEqDiff, Nat.reduceBEq, Int.reduceLT, Int.reduceLE, Int.reduceGT, Int.reduceGE, Int.reduceEq, Int.reduceNe, Int.reduceAdd, Int.reduceSub, Int.reduceMul, Int.reduceNeg, Int.reduceToNat, Int.reduceBEq, Int.reduceBNe, Int.cast_ofNat_Int, List.getElem?_toArray, stp, Try.underlying22, Try.underlying23, Try.underlying3, Try.underlying5, Try.underlying58, Try.underlying60, ty22, ty60, ty23, ty3, ty5, ty58, rs67, gNil, gload1 m1 sz23, d]))
    rw [et]
    exact ⟨r1, x1, none, 0, rfl, RB.nil _⟩
end Go.Gh

