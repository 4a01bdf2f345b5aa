/- Parts of this claim's proof, 9. No statement of the claim stands here. -/
import Derived.Test.YtbaikgnddebkjaaP8
import Derived.Test.YtbaikgnddebkjaaProg
/- Closed facts of the loaded program, each asked of the kernel. -/
namespace Go.Gh
open Go Go.Proofs
set_option maxRecDepth 100000
theorem ok3 : codeOk Try.prog Try.f3.ntmps (Try.f3.body.getD .skip) = true := by kernel_rfl
theorem gf5 : gfn Try.prog 5 = true := by kernel_rfl
theorem rs5 : Try.f5.results.toList = [.tmp 4] := by kernel_rfl
theorem ok5 : codeOk Try.prog Try.f5.ntmps (Try.f5.body.getD .skip) = true := by kernel_rfl
theorem gf12 : gfn Try.prog 12 = true := by kernel_rfl
theorem rs12 : Try.f12.results.toList = [.tmp 0] := by kernel_rfl
theorem ok12 : codeOk Try.prog Try.f12.ntmps (Try.f12.body.getD .skip) = true := by kernel_rfl
theorem gf13 : gfn Try.prog 13 = true := by kernel_rfl
theorem rs13 : Try.f13.results.toList = [.tmp 4] := by kernel_rfl
theorem ok13 : codeOk Try.prog Try.f13.ntmps (Try.f13.body.getD .skip) = true := by kernel_rfl
theorem gf14 : gfn Try.prog 14 = true := by kernel_rfl
theorem rs14 : Try.f14.results.toList = [.tmp 2] := by kernel_rfl
theorem ok14 : codeOk Try.prog Try.f14.ntmps (Try.f14.body.getD .skip) = true := by kernel_rfl
theorem gf15 : gfn Try.prog 15 = true := by kernel_rfl
theorem rs15 : Try.f15.results.toList = [.cell 6 33, .tmp 7] := by kernel_rfl
theorem ok15 : codeOk Try.prog Try.f15.ntmps (Try.f15.body.getD .skip) = true := by kernel_rfl
theorem gf16 : gfn Try.prog 16 = true := by kernel_rfl
theorem rs16 : Try.f16.results.toList = [.tmp 8] := by kernel_rfl
theorem ok16 : codeOk Try.prog Try.f16.ntmps (Try.f16.body.getD .skip) = true := by kernel_rfl
theorem gf17 : gfn Try.prog 17 = true := by kernel_rfl
theorem rs17 : Try.f17.results.toList = [.tmp 8] := by kernel_rfl
theorem ok17 : codeOk Try.prog Try.f17.ntmps (Try.f17.body.getD .skip) = true := by kernel_rfl
theorem gf18 : gfn Try.prog 18 = true := by kernel_rfl
theorem rs18 : Try.f18.results.toList = [.tmp 4] := by kernel_rfl
theorem ok18 : codeOk Try.prog Try.f18.ntmps (Try.f18.body.getD .skip) = true := by kernel_rfl
theorem gf19 : gfn Try.prog 19 = true := by kernel_rfl
theorem rs19 : Try.f19.results.toList = [.tmp 0] := by kernel_rfl
theorem ok19 : codeOk Try.prog Try.f19.ntmps (Try.f19.body.getD .skip) = true := by kernel_rfl
theorem gf20 : gfn Try.prog 20 = true := by kernel_rfl
theorem rs20 : Try.f20.results.toList = [.tmp 4] := by kernel_rfl
theorem ok20 : codeOk Try.prog Try.f20.ntmps (Try.f20.body.getD .skip) = true := by kernel_rfl
theorem gf21 : gfn Try.prog 21 = true := by kernel_rfl
theorem rs21 : Try.f21.results.toList = [.tmp 6] := by kernel_rfl
theorem ok21 : codeOk Try.prog Try.f21.ntmps (Try.f21.body.getD .skip) = true := by kernel_rfl
theorem gf22 : gfn Try.prog 22 = true := by kernel_rfl
theorem rs22 : Try.f22.results.toList = [.tmp 4] := by kernel_rfl
theorem ok22 : codeOk Try.prog Try.f22.ntmps (Try.f22.body.getD .skip) = true := by kernel_rfl
theorem gf23 : gfn Try.prog 23 = true := by kernel_rfl
theorem rs23 : Try.f23.results.toList = [.cell 6 33, .tmp 7] := by kernel_rfl
theorem ok23 : codeOk Try.prog Try.f23.ntmps (Try.f23.body.getD .skip) = true := by kernel_rfl
theorem gf24 : gfn Try.prog 24 = true := by kernel_rfl
theorem rs24 : Try.f24.results.toList = [.tmp 8] := by kernel_rfl
theorem ok24 : codeOk Try.prog Try.f24.ntmps (Try.f24.body.getD .skip) = true := by kernel_rfl
theorem gf25 : gfn Try.prog 25 = true := by kernel_rfl
theorem rs25 : Try.f25.results.toList = [.tmp 4] := by kernel_rfl
theorem ok25 : codeOk Try.prog Try.f25.ntmps (Try.f25.body.getD .skip) = true := by kernel_rfl
theorem gf26 : gfn Try.prog 26 = true := by kernel_rfl
theorem rs26 : Try.f26.results.toList = [.tmp 6] := by kernel_rfl
theorem ok26 : codeOk Try.prog Try.f26.ntmps (Try.f26.body.getD .skip) = true := by kernel_rfl
theorem gf28 : gfn Try.prog 28 = true := by kernel_rfl
theorem rs28 : Try.f28.results.toList = [.tmp 4] := by kernel_rfl
theorem ok28 : codeOk Try.prog Try.f28.ntmps (Try.f28.body.getD .skip) = true := by kernel_rfl
theorem gf29 : gfn Try.prog 29 = true := by kernel_rfl
theorem rs29 : Try.f29.results.toList = [.tmp 4] := by kernel_rfl
theorem ok29 : codeOk Try.prog Try.f29.ntmps (Try.f29.body.getD .skip) = true := by kernel_rfl
theorem gf49 : gfn Try.prog 49 = true := by kernel_rfl
theorem rs49 : Try.f49.results.toList = [.tmp 2] := by kernel_rfl
theorem ok49 : codeOk Try.prog Try.f49.ntmps (Try.f49.body.getD .skip) = true := by kernel_rfl
theorem gf50 : gfn Try.prog 50 = true := by kernel_rfl
theorem rs50 : Try.f50.results.toList = [.tmp 2] := by kernel_rfl
theorem ok50 : codeOk Try.prog Try.f50.ntmps (Try.f50.body.getD .skip) = true := by kernel_rfl
theorem gf51 : gfn Try.prog 51 = true := by kernel_rfl
theorem rs51 : Try.f51.results.toList = [.tmp 2] := by kernel_rfl
theorem ok51 : codeOk Try.prog Try.f51.ntmps (Try.f51.body.getD .skip) = true := by kernel_rfl
theorem gf52 : gfn Try.prog 52 = true := by kernel_rfl
theorem rs52 : Try.f52.results.toList = [.tmp 4] := by kernel_rfl
theorem ok52 : codeOk Try.prog Try.f52.ntmps (Try.f52.body.getD .skip) = true := by kernel_rfl
theorem gf53 : gfn Try.prog 53 = true := by kernel_rfl
theorem rs53 : Try.f53.results.toList = [.tmp 4] := by kernel_rfl
theorem ok53 : codeOk Try.prog Try.f53.ntmps (Try.f53.body.getD .skip) = true := by kernel_rfl
theorem gf54 : gfn Try.prog 54 = true := by kernel_rfl
theorem rs54 : Try.f54.results.toList = [.cell 4 33] := by kernel_rfl
theorem ok54 : codeOk Try.prog Try.f54.ntmps (Try.f54.body.getD .skip) = true := by kernel_rfl
theorem gf55 : gfn Try.prog 55 = true := by kernel_rfl
theorem rs55 : Try.f55.results.toList = [.tmp 6] := by kernel_rfl
theorem ok55 : codeOk Try.prog Try.f55.ntmps (Try.f55.body.getD .skip) = true := by kernel_rfl
theorem gf56 : gfn Try.prog 56 = true := by kernel_rfl
theorem rs56 : Try.f56.results.toList = [.tmp 4] := by kernel_rfl
theorem ok56 : codeOk Try.prog Try.f56.ntmps (Try.f56.body.getD .skip) = true := by kernel_rfl
theorem gf57 : gfn Try.prog 57 = true := by kernel_rfl
theorem rs57 : Try.f57.results.toList = [] := by kernel_rfl
theorem ok57 : codeOk Try.prog Try.f57.ntmps (Try.f57.body.getD .skip) = true := by kernel_rfl
theorem gf58 : gfn Try.prog 58 = true := by kernel_rfl
theorem rs58 : Try.f58.results.toList = [.tmp 4] := by kernel_rfl
theorem ok58 : codeOk Try.prog Try.f58.ntmps (Try.f58.body.getD .skip) = true := by kernel_rfl
theorem gf59 : gfn Try.prog 59 = true := by kernel_rfl
theorem rs59 : Try.f59.results.toList = [.tmp 2] := by kernel_rfl
theorem ok59 : codeOk Try.prog Try.f59.ntmps (Try.f59.body.getD .skip) = true := by kernel_rfl
theorem gf60 : gfn Try.prog 60 = true := by kernel_rfl
theorem rs60 : Try.f60.results.toList = [.tmp 4] := by kernel_rfl
theorem ok60 : codeOk Try.prog Try.f60.ntmps (Try.f60.body.getD .skip) = true := by kernel_rfl
theorem gf61 : gfn Try.prog 61 = true := by kernel_rfl
theorem rs61 : Try.f61.results.toList = [.tmp 4] := by kernel_rfl
theorem ok61 : codeOk Try.prog Try.f61.ntmps (Try.f61.body.getD .skip) = true := by kernel_rfl
theorem gf62 : gfn Try.prog 62 = true := by kernel_rfl
theorem rs62 : Try.f62.results.toList = [.tmp 6] := by kernel_rfl
theorem ok62 : codeOk Try.prog Try.f62.ntmps (Try.f62.body.getD .skip) = true := by kernel_rfl
theorem gf64 : gfn Try.prog 64 = true := by kernel_rfl
theorem rs64 : Try.f64.results.toList = [.tmp 2] := by kernel_rfl
theorem ok64 : codeOk Try.prog Try.f64.ntmps (Try.f64.body.getD .skip) = true := by kernel_rfl
theorem gf96 : gfn Try.prog 96 = true := by kernel_rfl
theorem rs96 : Try.f96.results.toList = [.tmp 6, .tmp 7] := by kernel_rfl
theorem ok96 : codeOk Try.prog Try.f96.ntmps (Try.f96.body.getD .skip) = true := by kernel_rfl
theorem gf97 : gfn Try.prog 97 = true := by kernel_rfl
theorem rs97 : Try.f97.results.toList = [.tmp 4] := by kernel_rfl
theorem ok97 : codeOk Try.prog Try.f97.ntmps (Try.f97.body.getD .skip) = true := by kernel_rfl
theorem gf98 : gfn Try.prog 98 = true := by kernel_rfl
theorem rs98 : Try.f98.results.toList = [] := by kernel_rfl
theorem ok98 : codeOk Try.prog Try.f98.ntmps (Try.f98.body.getD .skip) = true := by kernel_rfl
theorem gf99 : gfn Try.prog 99 = true := by kernel_rfl
theorem gf100 : gfn Try.prog 100 = true := by kernel_rfl
theorem rs100 : Try.f100.results.toList = [.tmp 4] := by kernel_rfl
theorem ok100 : codeOk Try.prog Try.f100.ntmps (Try.f100.body.getD .skip) = true := by kernel_rfl
theorem gf101 : gfn Try.prog 101 = true := by kernel_rfl
theorem rs101 : Try.f101.results.toList = [.tmp 2] := by kernel_rfl
theorem ok101 : codeOk Try.prog Try.f101.ntmps (Try.f101.body.getD .skip) = true := by kernel_rfl
theorem gf102 : gfn Try.prog 102 = true := by kernel_rfl
theorem rs102 : Try.f102.results.toList = [.tmp 2] := by kernel_rfl
theorem ok102 : codeOk Try.prog Try.f102.ntmps (Try.f102.body.getD .skip) = true := by kernel_rfl
theorem gf121 : gfn Try.prog 121 = true := by kernel_rfl
theorem rs121 : Try.f121.results.toList = [] := by kernel_rfl
theorem ok121 : codeOk Try.prog Try.f121.ntmps (Try.f121.body.getD .skip) = true := by kernel_rfl
theorem gf132 : gfn Try.prog 132 = true := by kernel_rfl
theorem rs132 : Try.f132.results.toList = [.tmp 2] := by kernel_rfl
theorem ok132 : codeOk Try.prog Try.f132.ntmps (Try.f132.body.getD .skip) = true := by kernel_rfl
theorem gf144 : gfn Try.prog 144 = true := by kernel_rfl
theorem rs144 : Try.f144.results.toList = [.tmp 4] := by kernel_rfl
theorem ok144 : codeOk Try.prog Try.f144.ntmps (Try.f144.body.getD .skip) = true := by kernel_rfl
theorem sz3 : gsz Try.prog 3 = some (false, 1) := by kernel_rfl
theorem zr3 : gzero Try.prog 3 = some [.int .i64 0] := by kernel_rfl
theorem ni3 : notIface Try.prog 3 = true := by kernel_rfl
theorem sz4 : gsz Try.prog 4 = some (false, 1) := by kernel_rfl
theorem zr4 : gzero Try.prog 4 = some [.bool false] := by kernel_rfl
theorem ni4 : notIface Try.prog 4 = true := by kernel_rfl
theorem sz5 : gsz Try.prog 5 = some (false, 1) := by kernel_rfl
theorem zr5 : gzero Try.prog 5 = some [.int .u8 0] := by kernel_rfl
theorem ni5 : notIface Try.prog 5 = true := by kernel_rfl
theorem sz9 : gsz Try.prog 9 = some (false, 1) := by kernel_rfl
theorem zr9 : gzero Try.prog 9 = some [.string ByteArray.empty] := by kernel_rfl
theorem ni9 : notIface Try.prog 9 = true := by kernel_rfl
theorem sz22 : gsz Try.prog 22 = some (false, 1) := by kernel_rfl
theorem el22 : gel Try.prog 22 = some (23, 1, 24, .slice none 0 0) := by kernel_rfl
theorem zr22 : gzero Try.prog 22 = some [.slice none 0 0] := by kernel_rfl
theorem ni22 : notIface Try.prog 22 = true := by kernel_rfl
theorem sz23 : gsz Try.prog 23 = some (false, 1) := by kernel_rfl
theorem el23 : gel Try.prog 23 = some (99, 2, 48, .agg #[.slice none 0 0, .slice none 0 0]) := by kernel_rfl
theorem zr23 : gzero Try.prog 23 = some [.slice none 0 0] := by kernel_rfl
theorem ni23 : notIface Try.prog 23 = true := by kernel_rfl
theorem sz24 : gsz Try.prog 24 = some (false, 1) := by kernel_rfl
theorem el24 : gel Try.prog 24 = some (5, 1, 1, .int .u8 0) := by kernel_rfl
theorem zr24 : gzero Try.prog 24 = some [.slice none 0 0] := by kernel_rfl
theorem ni24 : notIface Try.prog 24 = true := by kernel_rfl
theorem sz26 : gsz Try.prog 26 = some (true, 3) := by kernel_rfl
theorem zr26 : gzero Try.prog 26 = some [.slice none 0 0, .int .i64 0, .int .i64 0] := by kernel_rfl
theorem fo26_0 : gfo Try.prog 26 0 = some (24, 0) := by kernel_rfl
theorem fo26_1 : gfo Try.prog 26 1 = some (3, 1) := by kernel_rfl
theorem fo26_2 : gfo Try.prog 26 2 = some (3, 2) := by kernel_rfl
theorem sh26 : gshape Try.prog 26 = some (.fields [(0, 1), (1, 1), (2, 1)], [.slice none 0 0, .int .i64 0, .int .i64 0]) := by kernel_rfl
theorem ni26 : notIface Try.prog 26 = true := by kernel_rfl
theorem sz27 : gsz Try.prog 27 = some (false, 1) := by kernel_rfl
theorem zr27 : gzero Try.prog 27 = some [.pointer none] := by kernel_rfl
theorem ni27 : notIface Try.prog 27 = true := by kernel_rfl
theorem sz29 : gsz Try.prog 29 = some (false, 1) := by kernel_rfl
theorem zr29 : gzero Try.prog 29 = some [.int .i64 0] := by kernel_rfl
theorem ni29 : notIface Try.prog 29 = true := by kernel_rfl
theorem sz33 : gsz Try.prog 33 = some (true, 4) := by kernel_rfl
theorem zr33 : gzero Try.prog 33 = some [.int .i64 0, .int .i64 0, .slice none 0 0, .slice none 0 0] := by kernel_rfl
theorem fo33_0 : gfo Try.prog 33 0 = some (3, 0) := by kernel_rfl
theorem fo33_1 : gfo Try.prog 33 1 = some (3, 1) := by kernel_rfl
theorem fo33_2 : gfo Try.prog 33 2 = some (24, 2) := by kernel_rfl
theorem fo33_3 : gfo Try.prog 33 3 = some (24, 3) := by kernel_rfl
theorem sh33 : gshape Try.prog 33 = some (.fields [(0, 1), (1, 1), (2, 1), (3, 1)], [.int .i64 0, .int .i64 0, .slice none 0 0, .slice none 0 0]) := by kernel_rfl
theorem ni33 : notIface Try.prog 33 = true := by kernel_rfl
theorem sz36 : gsz Try.prog 36 = some (false, 1) := by kernel_rfl
theorem el36 : gel Try.prog 36 = some (33, 4, 64, .agg #[.int .i64 0, .int .i64 0, .slice none 0 0, .slice none 0 0]) := by kernel_rfl
theorem zr36 : gzero Try.prog 36 = some [.slice none 0 0] := by kernel_rfl
theorem ni36 : notIface Try.prog 36 = true := by kernel_rfl
theorem sz42 : gsz Try.prog 42 = some (false, 1) := by kernel_rfl
theorem zr42 : gzero Try.prog 42 = some [.map none] := by kernel_rfl
theorem sm42 : strMap Try.prog 42 = some 104 := by kernel_rfl
theorem gz42 : gzv Try.prog 104 = some (.slice none 0 0) := by kernel_rfl
theorem ni42 : notIface Try.prog 42 = true := by kernel_rfl
theorem sz44 : gsz Try.prog 44 = some (true, 3) := by kernel_rfl
theorem zr44 : gzero Try.prog 44 = some [.bool false, .slice none 0 0, .map none] := by kernel_rfl
theorem fo44_0 : gfo Try.prog 44 0 = some (4, 0) := by kernel_rfl
theorem fo44_1 : gfo Try.prog 44 1 = some (22, 1) := by kernel_rfl
theorem fo44_2 : gfo Try.prog 44 2 = some (42, 2) := by kernel_rfl
theorem sh44 : gshape Try.prog 44 = some (.fields [(0, 1), (1, 1), (2, 1)], [.bool false, .slice none 0 0, .map none]) := by kernel_rfl
theorem ni44 : notIface Try.prog 44 = true := by kernel_rfl
theorem sz47 : gsz Try.prog 47 = some (false, 1) := by kernel_rfl
theorem el47 : gel Try.prog 47 = some (24, 1, 24, .slice none 0 0) := by kernel_rfl
theorem zr47 : gzero Try.prog 47 = some [.slice none 0 0] := by kernel_rfl
theorem ni47 : notIface Try.prog 47 = true := by kernel_rfl
theorem sz50 : gsz Try.prog 50 = some (false, 1) := by kernel_rfl
theorem el50 : gel Try.prog 50 = some (26, 3, 40, .agg #[.slice none 0 0, .int .i64 0, .int .i64 0]) := by kernel_rfl
theorem zr50 : gzero Try.prog 50 = some [.slice none 0 0] := by kernel_rfl
theorem ni50 : notIface Try.prog 50 = true := by kernel_rfl
theorem sz51 : gsz Try.prog 51 = some (false, 1) := by kernel_rfl
theorem zr51 : gzero Try.prog 51 = some [.pointer none] := by kernel_rfl
theorem ni51 : notIface Try.prog 51 = true := by kernel_rfl
theorem sz53 : gsz Try.prog 53 = some (true, 1) := by kernel_rfl
theorem zr53 : gzero Try.prog 53 = some [.slice none 0 0] := by kernel_rfl
theorem fo53_0 : gfo Try.prog 53 0 = some (22, 0) := by kernel_rfl
theorem sh53 : gshape Try.prog 53 = some (.fields [(0, 1)], [.slice none 0 0]) := by kernel_rfl
theorem ni53 : notIface Try.prog 53 = true := by kernel_rfl
theorem sz56 : gsz Try.prog 56 = some (false, 1) := by kernel_rfl
theorem zr56 : gzero Try.prog 56 = some [.int .u64 0] := by kernel_rfl
theorem ni56 : notIface Try.prog 56 = true := by kernel_rfl
theorem sz59 : gsz Try.prog 59 = some (false, 1) := by kernel_rfl
theorem zr59 : gzero Try.prog 59 = some [.nilFunc] := by kernel_rfl
theorem ni59 : notIface Try.prog 59 = true := by kernel_rfl
theorem sz83 : gsz Try.prog 83 = some (false, 1) := by kernel_rfl
theorem el83 : gel Try.prog 83 = some (3, 1, 8, .int .i64 0) := by kernel_rfl
theorem zr83 : gzero Try.prog 83 = some [.slice none 0 0] := by kernel_rfl
theorem ni83 : notIface Try.prog 83 = true := by kernel_rfl
theorem sm89 : strMap Try.prog 89 = some 83 := by kernel_rfl
theorem gz89 : gzv Try.prog 83 = some (.slice none 0 0) := by kernel_rfl
theorem sz99 : gsz Try.prog 99 = some (true, 2) := by kernel_rfl
theorem zr99 : gzero Try.prog 99 = some [.slice none 0 0, .slice none 0 0] := by kernel_rfl
theorem fo99_0 : gfo Try.prog 99 0 = some (24, 0) := by kernel_rfl
theorem fo99_1 : gfo Try.prog 99 1 = some (24, 1) := by kernel_rfl
theorem sh99 : gshape Try.prog 99 = some (.fields [(0, 1), (1, 1)], [.slice none 0 0, .slice none 0 0]) := by kernel_rfl
theorem ni99 : notIface Try.prog 99 = true := by kernel_rfl
theorem sz102 : gsz Try.prog 102 = some (false, 1) := by kernel_rfl
theorem zr102 : gzero Try.prog 102 = some [.map none] := by kernel_rfl
theorem sm102 : strMap Try.prog 102 = some 3 := by kernel_rfl
theorem ni102 : notIface Try.prog 102 = true := by kernel_rfl
theorem sz104 : gsz Try.prog 104 = some (false, 1) := by kernel_rfl
theorem el104 : gel Try.prog 104 = some (107, 2, 16, .agg #[.int .i64 0, .int .i64 0]) := by kernel_rfl
theorem zr104 : gzero Try.prog 104 = some [.slice none 0 0] := by kernel_rfl
theorem ni104 : notIface Try.prog 104 = true := by kernel_rfl
theorem sz107 : gsz Try.prog 107 = some (true, 2) := by kernel_rfl
theorem zr107 : gzero Try.prog 107 = some [.int .i64 0, .int .i64 0] := by kernel_rfl
theorem fo107_0 : gfo Try.prog 107 0 = some (3, 0) := by kernel_rfl
theorem fo107_1 : gfo Try.prog 107 1 = some (3, 1) := by kernel_rfl
theorem sh107 : gshape Try.prog 107 = some (.fields [(0, 1), (1, 1)], [.int .i64 0, .int .i64 0]) := by kernel_rfl
theorem ni107 : notIface Try.prog 107 = true := by kernel_rfl
theorem sz112 : gsz Try.prog 112 = some (false, 1) := by kernel_rfl
theorem zr112 : gzero Try.prog 112 = some [.nilFunc] := by kernel_rfl
theorem ni112 : notIface Try.prog 112 = true := by kernel_rfl
theorem sz113 : gsz Try.prog 113 = some (false, 1) := by kernel_rfl
theorem el113 : gel Try.prog 113 = some (115, 3, 40, .agg #[.slice none 0 0, .int .i64 0, .int .i64 0]) := by kernel_rfl
theorem zr113 : gzero Try.prog 113 = some [.slice none 0 0] := by kernel_rfl
theorem ni113 : notIface Try.prog 113 = true := by kernel_rfl
theorem sz115 : gsz Try.prog 115 = some (true, 3) := by kernel_rfl
theorem zr115 : gzero Try.prog 115 = some [.slice none 0 0, .int .i64 0, .int .i64 0] := by kernel_rfl
theorem fo115_0 : gfo Try.prog 115 0 = some (24, 0) := by kernel_rfl
theorem fo115_1 : gfo Try.prog 115 1 = some (107, 1) := by kernel_rfl
theorem sh115 : gshape Try.prog 115 = some (.fields [(0, 1), (1, 2)], [.slice none 0 0, .int .i64 0, .int .i64 0]) := by kernel_rfl
theorem ni115 : notIface Try.prog 115 = true := by kernel_rfl
theorem sz119 : gsz Try.prog 119 = some (false, 1) := by kernel_rfl
theorem zr119 : gzero Try.prog 119 = some [.nilFunc] := by kernel_rfl
theorem ni119 : notIface Try.prog 119 = true := by kernel_rfl
theorem sz143 : gsz Try.prog 143 = some (false, 1) := by kernel_rfl
theorem zr143 : gzero Try.prog 143 = some [.nilFunc] := by kernel_rfl
theorem ni143 : notIface Try.prog 143 = true := by kernel_rfl
theorem sz164 : gsz Try.prog 164 = some (false, 1) := by kernel_rfl
theorem zr164 : gzero Try.prog 164 = some [.int .i64 0] := by kernel_rfl
theorem ni164 : notIface Try.prog 164 = true := by kernel_rfl
theorem cv3_5 : ∀ (h : GH) (n : Int), gConvO Try.prog 3 5 h (.int .i64 n) = some (.int .u8 (IntKind.wrap .u8 n)) := by intros; simp [gConvO, gConv, Try.underlying3, Try.underlying5]
theorem cv3_56 : ∀ (h : GH) (n : Int), gConvO Try.prog 3 56 h (.int .i64 n) = some (.int .u64 (IntKind.wrap .u64 n)) := by intros; simp [gConvO, gConv, Try.underlying3, Try.underlying56]
theorem cv56_3 : ∀ (h : GH) (n : Int), gConvO Try.prog 56 3 h (.int .u64 n) = some (.int .i64 (IntKind.wrap .i64 n)) := by intros; simp [gConvO, gConv, Try.underlying56, Try.underlying3]
theorem mixed : Try.prog.follows .mixedOrders = true := by kernel_rfl
theorem ty3 : (notIface Try.prog 3 = true) ∧ (gsz Try.prog 3 = some (false, 1)) ∧ (gzero Try.prog 3 = some [.int .i64 0]) := ⟨ni3, sz3, zr3⟩
theorem ty4 : (notIface Try.prog 4 = true) ∧ (gsz Try.prog 4 = some (false, 1)) ∧ (gzero Try.prog 4 = some [.bool false]) := ⟨ni4, sz4, zr4⟩
theorem ty5 : (notIface Try.prog 5 = true) ∧ (gsz Try.prog 5 = some (false, 1)) ∧ (gzero Try.prog 5 = some [.int .u8 0]) := ⟨ni5, sz5, zr5⟩
theorem ty9 : (notIface Try.prog 9 = true) ∧ (gsz Try.prog 9 = some (false, 1)) ∧ (gzero Try.prog 9 = some [.string ByteArray.empty]) := ⟨ni9, sz9, zr9⟩
theorem ty22 : (gel Try.prog 22 = some (23, 1, 24, .slice none 0 0)) ∧ (notIface Try.prog 22 = true) ∧ (gsz Try.prog 22 = some (false, 1)) ∧ (gzero Try.prog 22 = some [.slice none 0 0]) := ⟨el22, ni22, sz22, zr22⟩
theorem ty23 : (gel Try.prog 23 = some (99, 2, 48, .agg #[.slice none 0 0, .slice none 0 0])) ∧ (notIface Try.prog 23 = true) ∧ (gsz Try.prog 23 = some (false, 1)) ∧ (gzero Try.prog 23 = some [.slice none 0 0]) := ⟨el23, ni23, sz23, zr23⟩
theorem ty24 : (gel Try.prog 24 = some (5, 1, 1, .int .u8 0)) ∧ (notIface Try.prog 24 = true) ∧ (gsz Try.prog 24 = some (false, 1)) ∧ (gzero Try.prog 24 = some [.slice none 0 0]) := ⟨el24, ni24, sz24, zr24⟩
theorem ty26 : (gfo Try.prog 26 0 = some (24, 0)) ∧ (gfo Try.prog 26 1 = some (3, 1)) ∧ (gfo Try.prog 26 2 = some (3, 2)) ∧ (notIface Try.prog 26 = true) ∧ (gshape Try.prog 26 = some (.fields [(0, 1), (1, 1), (2, 1)], [.slice none 0 0, .int .i64 0, .int .i64 0])) ∧ (gsz Try.prog 26 = some (true, 3)) ∧ (gzero Try.prog 26 = some [.slice none 0 0, .int .i64 0, .int .i64 0]) := ⟨fo26_0, fo26_1, fo26_2, ni26, sh26, sz26, zr26⟩
theorem ty27 : (notIface Try.prog 27 = true) ∧ (gsz Try.prog 27 = some (false, 1)) ∧ (gzero Try.prog 27 = some [.pointer none]) := ⟨ni27, sz27, zr27⟩
theorem ty29 : (notIface Try.prog 29 = true) ∧ (gsz Try.prog 29 = some (false, 1)) ∧ (gzero Try.prog 29 = some [.int .i64 0]) := ⟨ni29, sz29, zr29⟩
theorem ty33 : (gfo Try.prog 33 0 = some (3, 0)) ∧ (gfo Try.prog 33 1 = some (3, 1)) ∧ (gfo Try.prog 33 2 = some (24, 2)) ∧ (gfo Try.prog 33 3 = some (24, 3)) ∧ (notIface Try.prog 33 = true) ∧ (gshape Try.prog 33 = some (.fields [(0, 1), (1, 1), (2, 1), (3, 1)], [.int .i64 0, .int .i64 0, .slice none 0 0, .slice none 0 0])) ∧ (gsz Try.prog 33 = some (true, 4)) ∧ (gzero Try.prog 33 = some [.int .i64 0, .int .i64 0, .slice none 0 0, .slice none 0 0]) := ⟨fo33_0, fo33_1, fo33_2, fo33_3, ni33, sh33, sz33, zr33⟩
theorem ty36 : (gel Try.prog 36 = some (33, 4, 64, .agg #[.int .i64 0, .int .i64 0, .slice none 0 0, .slice none 0 0])) ∧ (notIface Try.prog 36 = true) ∧ (gsz Try.prog 36 = some (false, 1)) ∧ (gzero Try.prog 36 = some [.slice none 0 0]) := ⟨el36, ni36, sz36, zr36⟩
theorem ty42 : (notIface Try.prog 42 = true) ∧ (gsz Try.prog 42 = some (false, 1)) ∧ (gzero Try.prog 42 = some [.map none]) := ⟨ni42, sz42, zr42⟩
theorem ty44 : (gfo Try.prog 44 0 = some (4, 0)) ∧ (gfo Try.prog 44 1 = some (22, 1)) ∧ (gfo Try.prog 44 2 = some (42, 2)) ∧ (notIface Try.prog 44 = true) ∧ (gshape Try.prog 44 = some (.fields [(0, 1), (1, 1), (2, 1)], [.bool false, .slice none 0 0, .map none])) ∧ (gsz Try.prog 44 = some (true, 3)) ∧ (gzero Try.prog 44 = some [.bool false, .slice none 0 0, .map none]) := ⟨fo44_0, fo44_1, fo44_2, ni44, sh44, sz44, zr44⟩
theorem ty47 : (gel Try.prog 47 = some (24, 1, 24, .slice none 0 0)) ∧ (notIface Try.prog 47 = true) ∧ (gsz Try.prog 47 = some (false, 1)) ∧ (gzero Try.prog 47 = some [.slice none 0 0]) := ⟨el47, ni47, sz47, zr47⟩
theorem ty50 : (gel Try.prog 50 = some (26, 3, 40, .agg #[.slice none 0 0, .int .i64 0, .int .i64 0])) ∧ (notIface Try.prog 50 = true) ∧ (gsz Try.prog 50 = some (false, 1)) ∧ (gzero Try.prog 50 = some [.slice none 0 0]) := ⟨el50, ni50, sz50, zr50⟩
theorem ty51 : (notIface Try.prog 51 = true) ∧ (gsz Try.prog 51 = some (false, 1)) ∧ (gzero Try.prog 51 = some [.pointer none]) := ⟨ni51, sz51, zr51⟩
theorem ty53 : (gfo Try.prog 53 0 = some (22, 0)) ∧ (notIface Try.prog 53 = true) ∧ (gshape Try.prog 53 = some (.fields [(0, 1)], [.slice none 0 0])) ∧ (gsz Try.prog 53 = some (true, 1)) ∧ (gzero Try.prog 53 = some [.slice none 0 0]) := ⟨fo53_0, ni53, sh53, sz53, zr53⟩
theorem ty56 : (notIface Try.prog 56 = true) ∧ (gsz Try.prog 56 = some (false, 1)) ∧ (gzero Try.prog 56 = some [.int .u64 0]) := ⟨ni56, sz56, zr56⟩
theorem ty59 : (notIface Try.prog 59 = true) ∧ (gsz Try.prog 59 = some (false, 1)) ∧ (gzero Try.prog 59 = some [.nilFunc]) := ⟨ni59, sz59, zr59⟩
theorem ty83 : (gel Try.prog 83 = some (3, 1, 8, .int .i64 0)) ∧ (notIface Try.prog 83 = true) ∧ (gsz Try.prog 83 = some (false, 1)) ∧ (gzero Try.prog 83 = some [.slice none 0 0]) := ⟨el83, ni83, sz83, zr83⟩
theorem ty99 : (gfo Try.prog 99 0 = some (24, 0)) ∧ (gfo Try.prog 99 1 = some (24, 1)) ∧ (notIface Try.prog 99 = true) ∧ (gshape Try.prog 99 = some (.fields [(0, 1), (1, 1)], [.slice none 0 0, .slice none 0 0])) ∧ (gsz Try.prog 99 = some (true, 2)) ∧ (gzero Try.prog 99 = some [.slice none 0 0, .slice none 0 0]) := ⟨fo99_0, fo99_1, ni99, sh99, sz99, zr99⟩
theorem ty102 : (notIface Try.prog 102 = true) ∧ (gsz Try.prog 102 = some (false, 1)) ∧ (gzero Try.prog 102 = some [.map none]) := ⟨ni102, sz102, zr102⟩
theorem ty104 : (gel Try.prog 104 = some (107, 2, 16, .agg #[.int .i64 0, .int .i64 0])) ∧ (notIface Try.prog 104 = true) ∧ (gsz Try.prog 104 = some (false, 1)) ∧ (gzero Try.prog 104 = some [.slice none 0 0]) := ⟨el104, ni104, sz104, zr104⟩
theorem ty107 : (gfo Try.prog 107 0 = some (3, 0)) ∧ (gfo Try.prog 107 1 = some (3, 1)) ∧ (notIface Try.prog 107 = true) ∧ (gshape Try.prog 107 = some (.fields [(0, 1), (1, 1)], [.int .i64 0, .int .i64 0])) ∧ (gsz Try.prog 107 = some (true, 2)) ∧ (gzero Try.prog 107 = some [.int .i64 0, .int .i64 0]) := ⟨fo107_0, fo107_1, ni107, sh107, sz107, zr107⟩
theorem ty112 : (notIface Try.prog 112 = true) ∧ (gsz Try.prog 112 = some (false, 1)) ∧ (gzero Try.prog 112 = some [.nilFunc]) := ⟨ni112, sz112, zr112⟩
theorem ty113 : (gel Try.prog 113 = some (115, 3, 40, .agg #[.slice none 0 0, .int .i64 0, .int .i64 0])) ∧ (notIface Try.prog 113 = true) ∧ (gsz Try.prog 113 = some (false, 1)) ∧ (gzero Try.prog 113 = some [.slice none 0 0]) := ⟨el113, ni113, sz113, zr113⟩
theorem ty115 : (gfo Try.prog 115 0 = some (24, 0)) ∧ (gfo Try.prog 115 1 = some (107, 1)) ∧ (notIface Try.prog 115 = true) ∧ (gshape Try.prog 115 = some (.fields [(0, 1), (1, 2)], [.slice none 0 0, .int .i64 0, .int .i64 0])) ∧ (gsz Try.prog 115 = some (true, 3)) ∧ (gzero Try.prog 115 = some [.slice none 0 0, .int .i64 0, .int .i64 0]) := ⟨fo115_0, fo115_1, ni115, sh115, sz115, zr115⟩
theorem ty119 : (notIface Try.prog 119 = true) ∧ (gsz Try.prog 119 = some (false, 1)) ∧ (gzero Try.prog 119 = some [.nilFunc]) := ⟨ni119, sz119, zr119⟩
theorem ty143 : (notIface Try.prog 143 = true) ∧ (gsz Try.prog 143 = some (false, 1)) ∧ (gzero Try.prog 143 = some [.nilFunc]) := ⟨ni143, sz143, zr143⟩
theorem ty164 : (notIface Try.prog 164 = true) ∧ (gsz Try.prog 164 = some (false, 1)) ∧ (gzero Try.prog 164 = some [.int .i64 0]) := ⟨ni164, sz164, zr164⟩
end Go.Gh

/- Contracts of bits and its reference: one bit, equality. -/
namespace Go.Gh
open Go Go.Proofs Go.RowKit
set_option linter.unusedVariables false
set_option linter.unusedSimpArgs false
set_option maxRecDepth 100000

theorem c_Equal (N : Nat) (h : GH) {a b : Option Addr} {n m c d : Nat} {l k : List UInt8} (r1 : RB h (.slice a n c) l) (r2 : RB h (.slice b m d) k) : GTri Try.prog N 29 [.slice a n c, .slice b m d] h fun v h' => v = .bool (l == k) ∧ h' = h := by
  refine gtri Try.func29 rfl gf29 ok29 (by simp [Try.ntmps29]) ?_
  repeat' (first | (with_reducible first | refine gw_seq ?_ | refine gw_block ?_) | ((first | (with_reducible first | refine gw_region ?_ | refine gw_if ?_ | refine gw_skip ?_ | refine gw_exit ?_ | refine gw_ret ?_) | ((with_reducible first | refine gif_b (fun hb => ?_) (fun hb => ?_) | refine want_t (fun hb => ?_) (fun hb => ?_) | refine want_f (fun hb => ?_) (fun hb => ?_)) <;> (try simp only [hb]))) <;> try simp only [List.map, gop, ev, lk, aenv, gyield, gBin, gInt, gStrOp, gUn, gPick, gNil, gExtract, gIfc, gConvK, gIndexO, gIndexVO, gMakeV, gMinV, gMaxV, isInt, gMin, gMax, gBlt, gLenX, gCallV, gInvoke, gNilM, Array.toList_map, vcells, gField, gIndexV, gPart, reduceIte, Nat.reduceAdd, Nat.reduceSub, Nat.reduceMul, Nat.reduceLT, Nat.reduceLeDiff, Nat.reduceEqDiff, Nat.reduceBEq, Int.reduceLT, Int.reduceLE, Int.reduceGT, Int.reduceGE, Int.reduceEq, Int.reduceNe, Int.reduceAdd, Int.reduceSub, Int.reduceMul, Int.reduceNeg, Int.reduceToNat, Int.reduceBEq, Int.reduceBNe, Int.cast_ofNat_Int, List.getElem?_toArray, stp, Try.underlying24, Try.underlying5, Try.underlying9, ty24, ty5, ty9, rs29, r1.conv Try.underlying24 Try.underlying5 Try.underlying9, r2.conv Try.underlying24 Try.underlying5 Try.underlying9, bstr_eq]))

end Go.Gh

/- Versions: the questions' small parts. -/

namespace Go.Gh
open Go Go.Proofs Go.RowKit
set_option linter.unusedVariables false
set_option linter.unusedSimpArgs false
set_option maxRecDepth 100000
set_option maxHeartbeats 1000000

/-- A change: the i-th one of an epoch. -/
def Sp (_ : GH) (cs : List Value) (s : Nat × Nat) : Prop := cs = [.int .i64 (s.1 : Int), .int .i64 (s.2 : Int)]

theorem c_vnone (N : Nat) (h : GH) {k : Nat} {b w t : Bool} {es : Nat} {r : List Value} (m : h k = some ⟨.bool b :: r, es, w, t⟩) : GTri Try.prog N 49 [.pointer (some ⟨k, 0, none⟩)] h fun v h' => v = .bool (!b) ∧ h' = h := by
  refine gtri Try.func49 rfl gf49 ok49 (by simp [Try.ntmps49]) ?_
  repeat' (first | (with_reducible first | refine gw_seq ?_ | refine gw_block ?_) | ((first | (with_reducible first | refine gw_region ?_ | refine gw_if ?_ | refine gw_skip ?_ | refine gw_exit ?_ | refine gw_ret ?_) | ((with_reducible first | refine gif_b (fun hb => ?_) (fun hb => ?_) | refine want_t (fun hb => ?_) (fun hb => ?_) | refine want_f (fun hb => ?_) (fun hb => ?_)) <;> (try simp only [hb]) <;> (try simp only [hpr] at hb))) <;> try simp only [List.map, gop, ev, lk, aenv, gyield, gBin, gInt, gStrOp, gUn, gPick, gNil, gExtract, gIfc, gConvK, gIndexO, gIndexVO, gMakeV, gMinV, gMaxV, isInt, gMin, gMax, gBlt, gLenX, gCallV, gInvoke, gNilM, Array.toList_map, vcells, gField, gIndexV, gPart, reduceIte, Nat.reduceAdd, Nat.reduceSub, Nat.reduceMul, Nat.reduceLT, Nat.reduceLeDiff, Nat.reduceEqDiff, Nat.reduceBEq, Int.reduceLT, Int.reduceLE, Int.reduceGT, Int.reduceGE, Int.reduceEq, Int.reduceNe, Int.reduceAdd, Int.reduceSub, Int.reduceMul, Int.reduceNeg, Int.reduceToNat, Int.reduceBEq, Int.reduceBNe, Int.cast_ofNat_Int, List.getElem?_toArray, stp, Try.underlying22, Try.underlying27, Try.underlying4, Try.underlying42, Try.underlying44, ty22, ty44, ty27, ty4, ty42, rs49, gEq, gload1 m sz4, List.getElem?_cons_zero]))
theorem c_upto1 (N : Nat) (h : GH) (a b e : Int) : GTri Try.prog N 97 [.agg #[.int .i64 a, .int .i64 b], .int .i64 e] h fun v h' => v = .int .i64 (if a ≤ e then -1 else 1) ∧ HS h h' := by
  refine gtri Try.func97 rfl gf97 ok97 (by simp [Try.ntmps97]) ?_
  repeat' (first | (with_reducible first | refine gw_seq ?_ | refine gw_block ?_) | ((first | (with_reducible first | refine gw_region ?_ | refine gw_if ?_ | refine gw_skip ?_ | refine gw_exit ?_ | refine gw_ret ?_) | ((with_reducible first | refine gif_b (fun hb => ?_) (fun hb => ?_) | refine want_t (fun hb => ?_) (fun hb => ?_) | refine want_f (fun hb => ?_) (fun hb => ?_)) <;> (try simp only [hb]) <;> (try simp only [hpr] at hb))) <;> try simp only [List.map, gop, ev, lk, aenv, gyield, gBin, gInt, gStrOp, gUn, gPick, gNil, gExtract, gIfc, gConvK, gIndexO, gIndexVO, gMakeV, gMinV, gMaxV, isInt, gMin, gMax, gBlt, gLenX, gCallV, gInvoke, gNilM, Array.toList_map, vcells, gField, gIndexV, gPart, reduceIte, Nat.reduceAdd, Nat.reduceSub, Nat.reduceMul, Nat.reduceLT, Nat.reduceLeDiff, Nat.reduceEqDiff, Nat.reduceBEq, Int.reduceLT, Int.reduceLE, Int.reduceGT, Int.reduceGE, Int.reduceEq, Int.reduceNe, Int.reduceAdd, Int.reduceSub, Int.reduceMul, Int.reduceNeg, Int.reduceToNat, Int.reduceBEq, Int.reduceBNe, Int.cast_ofNat_Int, List.getElem?_toArray, stp, Try.underlying107, Try.underlying3, ty107, ty3, rs97]))
  refine box_g rfl fun k1 h1 m1 s1 f1 n1 => ?_
  by_cases hae : a ≤ e
  · have d : decide (a ≤ e) = true := decide_eq_true hae
    refine mk_of ?_; repeat' (first | (with_reducible first | refine gw_seq ?_ | refine gw_block ?_) | ((first | (with_reducible refine mk_to ?_) | (with_reducible first | refine gw_region ?_ | refine gw_if ?_ | refine gw_skip ?_ | refine gw_exit ?_ | refine gw_ret ?_) | ((with_reducible first | refine gif_b (fun hb => ?_) (fun hb => ?_) | refine want_t (fun hb => ?_) (fun hb => ?_) | refine want_f (fun hb => ?_) (fun hb => ?_)) <;> (try simp only [hb]) <;> (try simp only [hpr] at hb))) <;> try simp only [List.map, gop, ev, lk, aenv, gyield, gBin, gInt, gStrOp, gUn, gPick, gNil, gExtract, gIfc, gConvK, gIndexO, gIndexVO, gMakeV, gMinV, gMaxV, isInt, gMin, gMax, gBlt, gLenX, gCallV, gInvoke, gNilM, Array.toList_map, vcells, gField, gIndexV, gPart, reduceIte, Nat.reduceAdd, Nat.reduceSub, Nat.reduceMul, Nat.reduceLT, Nat.reduceLeDiff, Nat.reduceEqDiff, Nat.reduceBEq, Int.reduceLT, Int.reduceLE, Int.reduceGT, Int.reduceGE, Int.reduceEq, Int.reduceNe, Int.reduceAdd, Int.reduceSub, Int.reduceMul, Int.reduceNeg, Int.reduceToNat, Int.reduceBEq, Int.reduceBNe, Int.cast_ofNat_Int, List.getElem?_toArray, stp, Try.underlying107, Try.underlying3, ty107, ty3, rs97, gload1 m1 sz3, d]))
    exact ⟨by rw [if_pos hae], s1⟩
  · have d : decide (a ≤ e) = false := decide_eq_false hae
    refine mk_of ?_; repeat' (first | (with_reducible first | refine gw_seq ?_ | refine gw_block ?_) | ((first | (with_reducible refine mk_to ?_) | (with_reducible first | refine gw_region ?_ | refine gw_if ?_ | refine gw_skip ?_ | refine gw_exit ?_ | refine gw_ret ?_) | ((with_reducible first | refine gif_b (fun hb => ?_) (fun hb => ?_) | refine want_t (fun hb => ?_) (fun hb => ?_) | refine want_f (fun hb => ?_) (fun hb => ?_)) <;> (try simp only [hb]) <;> (try simp only [hpr] at hb))) <;> try simp only [List.map, gop, ev, lk, aenv, gyield, gBin, gInt, gStrOp, gUn, gPick, gNil, gExtract, gIfc, gConvK, gIndexO, gIndexVO, gMakeV, gMinV, gMaxV, isInt, gMin, gMax, gBlt, gLenX, gCallV, gInvoke, gNilM, Array.toList_map, vcells, gField, gIndexV, gPart, reduceIte, Nat.reduceAdd, Nat.reduceSub, Nat.reduceMul, Nat.reduceLT, Nat.reduceLeDiff, Nat.reduceEqDiff, Nat.reduceBEq, Int.reduceLT, Int.reduceLE, Int.reduceGT, Int.reduceGE, Int.reduceEq, Int.reduceNe, Int.reduceAdd, Int.reduceSub, Int.reduceMul, Int.reduceNeg, Int.reduceToNat, Int.reduceBEq, Int.reduceBNe, Int.cast_ofNat_Int, List.getElem?_toArray, stp, Try.underlying107, Try.underlying3, ty107, ty3, rs97, gload1 m1 sz3, d]))
    exact ⟨by rw [if_neg hae], s1⟩

/-- The changes rise. -/
def Rising (s : List (Nat × Nat)) : Prop := ∀ (i j : Nat) (p q : Nat × Nat), i ≤ j → s[i]? = some p → s[j]? = some q → p.1 ≤ q.1
/-- So many are of epochs up to one. -/
def Upto (s : List (Nat × Nat)) (e : Int) (n : Nat) : Prop := n ≤ s.length ∧ ∀ (i : Nat) (p : Nat × Nat), s[i]? = some p → (i < n ↔ (p.1 : Int) ≤ e)
theorem Upto.uniq {s : List (Nat × Nat)} {e : Int} {n m : Nat} (a : Upto s e n) (b : Upto s e m) : n = m := by
  have key : ∀ {n m : Nat}, Upto s e n → Upto s e m → ¬ n < m := fun {n m} a b hlt => by
    have hn : n < s.length := Nat.lt_of_lt_of_le hlt b.1
    have hx : s[n]? = some s[n] := List.getElem?_eq_getElem hn
    have h1 := (b.2 n _ hx).1 hlt
    have := (a.2 n _ hx).2 h1
    omega
  have h1 := key a b
  have h2 := key b a
  omega

theorem shr1 (x : Nat) (k : Nat) (hk : k = 64) : (x : Int).fdiv (2 ^ min 1 k) = ((x / 2 : Nat) : Int) := by
  subst hk
  rw [Int.fdiv_eq_ediv_of_nonneg _ (by decide)]
  show (x : Int) / (2 ^ 1 : Int) = _
  omega

theorem c_bsf (N : Nat) (h : GH) {v : Value} {s : List (Nat × Nat)} (r : RL 2 Sp h v s) (hl : s.length ≤ 140737488355328) (hs : Rising s) (e : Int) : GTri Try.prog N 96 [v, .int .i64 e, .func (.func 97) #[] #[]] h fun v h' =>
    (∃ (n : Nat) (b : Bool), v = .tuple #[.int .i64 (n : Int), .bool b] ∧ Upto s e n) ∧ HS h h' := by
  obtain ⟨a, c, rfl, _⟩ := r.form
  refine gtri Try.func96 rfl gf96 ok96 (by simp [Try.ntmps96]) ?_
  repeat' (first | (with_reducible first | refine gw_seq ?_ | refine gw_block ?_) | ((first | (with_reducible first | refine gw_region ?_ | refine gw_if ?_ | refine gw_skip ?_ | refine gw_exit ?_ | refine gw_ret ?_) | ((with_reducible first | refine gif_b (fun hb => ?_) (fun hb => ?_) | refine want_t (fun hb => ?_) (fun hb => ?_) | refine want_f (fun hb => ?_) (fun hb => ?_)) <;> (try simp only [hb]) <;> (try simp only [hpr] at hb))) <;> try simp only [List.map, gop, ev, lk, aenv, gyield, gBin, gInt, gStrOp, gUn, gPick, gNil, gExtract, gIfc, gConvK, gIndexO, gIndexVO, gMakeV, gMinV, gMaxV, isInt, gMin, gMax, gBlt, gLenX, gCallV, gInvoke, gNilM, Array.toList_map, vcells, gField, gIndexV, gPart, reduceIte, Nat.reduceAdd, Nat.reduceSub, Nat.reduceMul, Nat.reduceLT, Nat.reduceLeDiff, Nat.reduceEqDiff, Nat.reduceBEq, Int.reduceLT, Int.reduceLE, Int.reduceGT, Int.reduceGE, Int.reduceEq, Int.reduceNe, Int.reduceAdd, Int.reduceSub, Int.reduceMul, Int.reduceNeg, Int.reduceToNat, Int.reduceBEq, Int.reduceBNe, Int.cast_ofNat_Int, List.getElem?_toArray, stp, Try.underlying104, Try.underlying107, Try.underlying3, Try.underlying56, cv3_56, cv56_3, ty104, ty107, ty3, ty56, rs96]))
  refine gw_loop2 [0, 1, 2, 6, 7, 8] (fun (x : Nat × Nat) => [(9, .int .i64 (x.1 : Int)), (10, .int .i64 (x.2 : Int))])
    (fun q x h' => x.2 - x.1 = q ∧ x.1 ≤ x.2 ∧ x.2 ≤ s.length ∧ HS h h' ∧ (∀ (i : Nat) (p : Nat × Nat), s[i]? = some p → i < x.1 → (p.1 : Int) ≤ e) ∧ (∀ (i : Nat) (p : Nat × Nat), s[i]? = some p → x.2 ≤ i → ¬ (p.1 : Int) ≤ e)) s.length (0, s.length) (by simp [lk])
    ⟨by simp, by simp, by simp, HS.refl h, (fun i p _ hi => by simp at hi), fun i p hi hl => by have := (List.getElem?_eq_some_iff.1 hi).1; simp only at hl; omega⟩ ?_
  rintro _ ⟨i, j⟩ h1 ⟨rfl, hij, hj, s1, lo, hi⟩
  simp only at hij hj lo hi
  by_cases hlt : i < j
  case neg =>
    obtain rfl : i = j := by omega
    have d : decide ((i : Int) < (i : Int)) = false := decide_eq_false (by omega)
    have up : Upto s e i := ⟨hj, fun q p hq => ⟨fun h => lo q p hq h, fun h => by
      rcases Nat.lt_or_ge q i with h' | h'
      · exact h'
      · exact absurd h (hi q p hq h')⟩⟩
    by_cases hil : i < s.length
    · have d2 : decide ((i : Int) < (s.length : Int)) = true := decide_eq_true (by omega)
      obtain ⟨p, hp⟩ : ∃ p, s[i]? = some p := ⟨_, List.getElem?_eq_getElem hil⟩
      obtain ⟨ad, cs2, g1, g2, g3⟩ := (r.hcR s1.hc (fun _ _ h => h)).at (P := Try.prog) Try.underlying104 sz107 hp
      unfold Sp at g3
      subst g3
      have l4 : gLoad Try.prog 107 h1 (.pointer (some ad)) = some (.agg #[.int .i64 p.1, .int .i64 p.2]) := by simp only [gLoad, sz107, g2]; rfl
      refine mk_of ?_; repeat' (first | (with_reducible first | refine gw_seq ?_ | refine gw_block ?_) | ((first | (with_reducible refine mk_to ?_) | (with_reducible first | refine gw_region ?_ | refine gw_if ?_ | refine gw_skip ?_ | refine gw_exit ?_ | refine gw_ret ?_) | ((with_reducible first | refine gif_b (fun hb => ?_) (fun hb => ?_) | refine want_t (fun hb => ?_) (fun hb => ?_) | refine want_f (fun hb => ?_) (fun hb => ?_)) <;> (try simp only [hb]) <;> (try simp only [hpr] at hb))) <;> try simp only [List.map, gop, ev, lk, aenv, gyield, gBin, gInt, gStrOp, gUn, gPick, gNil, gExtract, gIfc, gConvK, gIndexO, gIndexVO, gMakeV, gMinV, gMaxV, isInt, gMin, gMax, gBlt, gLenX, gCallV, gInvoke, gNilM, Array.toList_map, vcells, gField, gIndexV, gPart, reduceIte, Nat.reduceAdd, Nat.reduceSub, Nat.reduceMul, Nat.reduceLT, Nat.reduceLeDiff, Nat.reduceEqDiff, Nat.reduceBEq, Int.reduceLT, Int.reduceLE, Int.reduceGT, Int.reduceGE, Int.reduceEq, Int.reduceNe, Int.reduceAdd, Int.reduceSub, Int.reduceMul, Int.reduceNeg, Int.reduceToNat, Int.reduceBEq, Int.reduceBNe, Int.cast_ofNat_Int, List.getElem?_toArray, stp, Try.underlying104, Try.underlying107, Try.underlying3, Try.underlying56, cv3_56, cv56_3, ty104, ty107, ty3, ty56, rs96, d, d2, g1, l4, gPick]))
      refine (c_upto1 N h1 p.1 p.2 e).mono ?_
      rintro _ h2 ⟨rfl, s2⟩
      refine mk_of ?_; repeat' (first | (with_reducible first | refine gw_seq ?_ | refine gw_block ?_) | ((first | (with_reducible refine mk_to ?_) | (with_reducible first | refine gw_region ?_ | refine gw_if ?_ | refine gw_skip ?_ | refine gw_exit ?_ | refine gw_ret ?_) | ((with_reducible first | refine gif_b (fun hb => ?_) (fun hb => ?_) | refine want_t (fun hb => ?_) (fun hb => ?_) | refine want_f (fun hb => ?_) (fun hb => ?_)) <;> (try simp only [hb]) <;> (try simp only [hpr] at hb))) <;> try simp only [List.map, gop, ev, lk, aenv, gyield, gBin, gInt, gStrOp, gUn, gPick, gNil, gExtract, gIfc, gConvK, gIndexO, gIndexVO, gMakeV, gMinV, gMaxV, isInt, gMin, gMax, gBlt, gLenX, gCallV, gInvoke, gNilM, Array.toList_map, vcells, gField, gIndexV, gPart, reduceIte, Nat.reduceAdd, Nat.reduceSub, Nat.reduceMul, Nat.reduceLT, Nat.reduceLeDiff, Nat.reduceEqDiff, Nat.reduceBEq, Int.reduceLT, Int.reduceLE, Int.reduceGT, Int.reduceGE, Int.reduceEq, Int.reduceNe, Int.reduceAdd, Int.reduceSub, Int.reduceMul, Int.reduceNeg, Int.reduceToNat, Int.reduceBEq, Int.reduceBNe, Int.cast_ofNat_Int, List.getElem?_toArray, stp, Try.underlying104, Try.underlying107, Try.underlying3, Try.underlying56, cv3_56, cv56_3, ty104, ty107, ty3, ty56, rs96, gPick]))
      exact ⟨⟨i, _, rfl, up⟩, s1.trans s2⟩
    · have d2 : decide ((i : Int) < (s.length : Int)) = false := decide_eq_false (by omega)
      refine mk_of ?_; repeat' (first | (with_reducible first | refine gw_seq ?_ | refine gw_block ?_) | ((first | (with_reducible refine mk_to ?_) | (with_reducible first | refine gw_region ?_ | refine gw_if ?_ | refine gw_skip ?_ | refine gw_exit ?_ | refine gw_ret ?_) | ((with_reducible first | refine gif_b (fun hb => ?_) (fun hb => ?_) | refine want_t (fun hb => ?_) (fun hb => ?_) | refine want_f (fun hb => ?_) (fun hb => ?_)) <;> (try simp only [hb]) <;> (try simp only [hpr] at hb))) <;> try simp only [List.map, gop, ev, lk, aenv, gyield, gBin, gInt, gStrOp, gUn, gPick, gNil, gExtract, gIfc, gConvK, gIndexO, gIndexVO, gMakeV, gMinV, gMaxV, isInt, gMin, gMax, gBlt, gLenX, gCallV, gInvoke, gNilM, Array.toList_map, vcells, gField, gIndexV, gPart, reduceIte, Nat.reduceAdd, Nat.reduceSub, Nat.reduceMul, Nat.reduceLT, Nat.reduceLeDiff, Nat.reduceEqDiff, Nat.reduceBEq, Int.reduceLT, Int.reduceLE, Int.reduceGT, Int.reduceGE, Int.reduceEq, Int.reduceNe, Int.reduceAdd, Int.reduceSub, Int.reduceMul, Int.reduceNeg, Int.reduceToNat, Int.reduceBEq, Int.reduceBNe, Int.cast_ofNat_Int, List.getElem?_toArray, stp, Try.underlying104, Try.underlying107, Try.underlying3, Try.underlying56, cv3_56, cv56_3, ty104, ty107, ty3, ty56, rs96, d, d2, gPick]))
      exact ⟨⟨i, _, rfl, up⟩, s1⟩
  have d : decide ((i : Int) < (j : Int)) = true := decide_eq_true (by omega)
  have w1 : IntKind.i64.wrap ((i : Int) + (j : Int)) = ((i + j : Nat) : Int) := by rw [wrap64 (by omega) (by omega)]; omega
  have w2 : IntKind.u64.wrap ((i + j : Nat) : Int) = ((i + j : Nat) : Int) := wrapu64 (by omega) (by omega)
  have w3 : IntKind.i64.wrap (((i + j) / 2 : Nat) : Int) = (((i + j) / 2 : Nat) : Int) := wrap64 (by omega) (by omega)
  have w4 : IntKind.i64.wrap ((((i + j) / 2 : Nat) : Int) + 1) = (((i + j) / 2 + 1 : Nat) : Int) := by rw [wrap64 (by omega) (by omega)]; omega
  have sh := shr1 (i + j) IntKind.u64.bits rfl
  have hm : (i + j) / 2 < s.length := by omega
  obtain ⟨p, hp⟩ : ∃ p, s[(i + j) / 2]? = some p := ⟨_, List.getElem?_eq_getElem hm⟩
  obtain ⟨ad, cs2, g1, g2, g3⟩ := (r.hcR s1.hc (fun _ _ h => h)).at (P := Try.prog) Try.underlying104 sz107 hp
  unfold Sp at g3
  subst g3
  have l4 : gLoad Try.prog 107 h1 (.pointer (some ad)) = some (.agg #[.int .i64 p.1, .int .i64 p.2]) := by simp only [gLoad, sz107, g2]; rfl
  refine mk_of ?_; repeat' (first | (with_reducible first | refine gw_seq ?_ | refine gw_block ?_) | ((first | (with_reducible refine mk_to ?_) | (with_reducible first | refine gw_region ?_ | refine gw_if ?_ | refine gw_skip ?_ | refine gw_exit ?_ | refine gw_ret ?_) | ((with_reducible first | refine gif_b (fun hb => ?_) (fun hb => ?_) | refine want_t (fun hb => ?_) (fun hb => ?_) | refine want_f (fun hb => ?_) (fun hb => ?_)) <;> (try simp only [hb]) <;> (try simp only [hpr] at hb))) <;> try simp only [List.map, gop, ev, lk, aenv, gyield, gBin, gInt, gStrOp, gUn, gPick, gNil, gExtract, gIfc, gConvK, gIndexO, gIndexVO, gMakeV, gMinV, gMaxV, isInt, gMin, gMax, gBlt, gLenX, gCallV, gInvoke, gNilM, Array.toList_map, vcells, gField, gIndexV, gPart, reduceIte, Nat.reduceAdd, Nat.reduceSub, Nat.reduceMul, Nat.reduceLT, Nat.reduceLeDiff, Nat.reduceEqDiff, Nat.reduceBEq, Int.reduceLT, Int.reduceLE, Int.reduceGT, Int.reduceGE, Int.reduceEq, Int.reduceNe, Int.reduceAdd, Int.reduceSub, Int.reduceMul, Int.reduceNeg, Int.reduceToNat, Int.reduceBEq, Int.reduceBNe, Int.cast_ofNat_Int, List.getElem?_toArray, stp, Try.underlying104, Try.underlying107, Try.underlying3, Try.underlying56, cv3_56, cv56_3, ty104, ty107, ty3, ty56, rs96, d, w1, w2, w3, sh, g1, l4]))
  refine (c_upto1 N h1 p.1 p.2 e).mono ?_
  rintro _ h2 ⟨rfl, s2⟩
  by_cases hpe : (p.1 : Int) ≤ e
  · have d3 : decide ((-1 : Int) < 0) = true := rfl
    refine mk_of ?_; repeat' (first | (with_reducible first | refine gw_seq ?_ | refine gw_block ?_) | ((first | (with_reducible refine mk_to ?_) | (with_reducible first | refine gw_region ?_ | refine gw_if ?_ | refine gw_skip ?_ | refine gw_exit ?_ | refine gw_ret ?_) | ((with_reducible first | refine gif_b (fun hb => ?_) (fun hb => ?_) | refine want_t (fun hb => ?_) (fun hb => ?_) | refine want_f (fun hb => ?_) (fun hb => ?_)) <;> (try simp only [hb]) <;> (try simp only [hpr] at hb))) <;> try simp only [List.map, gop, ev, lk, aenv, gyield, gBin, gInt, gStrOp, gUn, gPick, gNil, gExtract, gIfc, gConvK, gIndexO, gIndexVO, gMakeV, gMinV, gMaxV, isInt, gMin, gMax, gBlt, gLenX, gCallV, gInvoke, gNilM, Array.toList_map, vcells, gField, gIndexV, gPart, reduceIte, Nat.reduceAdd, Nat.reduceSub, Nat.reduceMul, Nat.reduceLT, Nat.reduceLeDiff, Nat.reduceEqDiff, Nat.reduceBEq, Int.reduceLT, Int.reduceLE, Int.reduceGT, Int.reduceGE, Int.reduceEq, Int.reduceNe, Int.reduceAdd, Int.reduceSub, Int.reduceMul, Int.reduceNeg, Int.reduceToNat, Int.reduceBEq, Int.reduceBNe, Int.cast_ofNat_Int, List.getElem?_toArray, stp, Try.underlying104, Try.underlying107, Try.underlying3, Try.underlying56, cv3_56, cv56_3, ty104, ty107, ty3, ty56, rs96, if_pos hpe, d3, w4]))
    refine ⟨_, ((i + j) / 2 + 1, j), ?_, (by simp only [List.forall_mem_cons, List.not_mem_nil, false_implies, implies_true, List.map, List.cons_append, List.nil_append, lk, Nat.reduceEqDiff, reduceIte, and_true, true_and]), rfl, by omega, hj, s1.trans s2, fun q p' hq hlt' => ?_, hi⟩
    · simp only; omega
    · have := hs q ((i + j) / 2) p' p (by simp only at hlt'; omega) hq hp
      omega
  · have d3 : decide ((1 : Int) < 0) = false := rfl
    refine mk_of ?_; repeat' (first | (with_reducible first | refine gw_seq ?_ | refine gw_block ?_) | ((first | (with_reducible refine mk_to ?_) | (with_reducible first | refine gw_region ?_ | refine gw_if ?_ | refine gw_skip ?_ | refine gw_exit ?_ | refine gw_ret ?_) | ((with_reducible first | refine gif_b (fun hb => ?_) (fun hb => ?_) | refine want_t (fun hb => ?_) (fun hb => ?_) | refine want_f (fun hb => ?_) (fun hb => ?_)) <;> (try simp only [hb]) <;> (try simp only [hpr] at hb))) <;> try simp only [List.map, gop, ev, lk, aenv, gyield, gBin, gInt, gStrOp, gUn, gPick, gNil, gExtract, gIfc, gConvK, gIndexO, gIndexVO, gMakeV, gMinV, gMaxV, isInt, gMin, gMax, gBlt, gLenX, gCallV, gInvoke, gNilM, Array.toList_map, vcells, gField, gIndexV, gPart, reduceIte, Nat.reduceAdd, Nat.reduceSub, Nat.reduceMul, Nat.reduceLT, Nat.reduceLeDiff, Nat.reduceEqDiff, Nat.reduceBEq, Int.reduceLT, Int.reduceLE, Int.reduceGT, Int.reduceGE, Int.reduceEq, Int.reduceNe, Int.reduceAdd, Int.reduceSub, Int.reduceMul, Int.reduceNeg, Int.reduceToNat, Int.reduceBEq, Int.reduceBNe, Int.cast_ofNat_Int, List.getElem?_toArray, stp, Try.underlying104, Try.underlying107, Try.underlying3, Try.underlying56, cv3_56, cv56_3, ty104, ty107, ty3, ty56, rs96, if_neg hpe, d3]))
    refine ⟨_, (i, (i + j) / 2), ?_, (by simp only [List.forall_mem_cons, List.not_mem_nil, false_implies, implies_true, List.map, List.cons_append, List.nil_append, lk, Nat.reduceEqDiff, reduceIte, and_true, true_and]), rfl, by omega, by omega, s1.trans s2, lo, fun q p' hq hle => ?_⟩
    · simp only; omega
    · have := hs ((i + j) / 2) q p p' hle hp hq
      omega

theorem c_upto (N : Nat) (h : GH) {v : Value} {s : List (Nat × Nat)} (r : RL 2 Sp h v s) (hl : s.length ≤ 140737488355328) (hs : Rising s) (e : Int) : GTri Try.prog N 53 [v, .int .i64 e] h fun v h' => (∃ n : Nat, v = .int .i64 (n : Int) ∧ Upto s e n) ∧ HS h h' := by
  obtain ⟨a, c, rfl, _⟩ := r.form
  refine gtri Try.func53 rfl gf53 ok53 (by simp [Try.ntmps53]) ?_
  repeat' (first | (with_reducible first | refine gw_seq ?_ | refine gw_block ?_) | ((first | (with_reducible first | refine gw_region ?_ | refine gw_if ?_ | refine gw_skip ?_ | refine gw_exit ?_ | refine gw_ret ?_) | ((with_reducible first | refine gif_b (fun hb => ?_) (fun hb => ?_) | refine want_t (fun hb => ?_) (fun hb => ?_) | refine want_f (fun hb => ?_) (fun hb => ?_)) <;> (try simp only [hb]) <;> (try simp only [hpr] at hb))) <;> try simp only [List.map, gop, ev, lk, aenv, gyield, gBin, gInt, gStrOp, gUn, gPick, gNil, gExtract, gIfc, gConvK, gIndexO, gIndexVO, gMakeV, gMinV, gMaxV, isInt, gMin, gMax, gBlt, gLenX, gCallV, gInvoke, gNilM, Array.toList_map, vcells, gField, gIndexV, gPart, reduceIte, Nat.reduceAdd, Nat.reduceSub, Nat.reduceMul, Nat.reduceLT, Nat.reduceLeDiff, Nat.reduceEqDiff, Nat.reduceBEq, Int.reduceLT, Int.reduceLE, Int.reduceGT, Int.reduceGE, Int.reduceEq, Int.reduceNe, Int.reduceAdd, Int.reduceSub, Int.reduceMul, Int.reduceNeg, Int.reduceToNat, Int.reduceBEq, Int.reduceBNe, Int.cast_ofNat_Int, List.getElem?_toArray, stp, Try.underlying104, Try.underlying107, Try.underlying143, Try.underlying3, ty104, ty107, ty143, ty3, rs53]))
  refine (c_bsf N h r hl hs e).mono ?_
  rintro _ h1 ⟨⟨n, b, rfl, up⟩, s1⟩
  refine mk_of ?_; repeat' (first | (with_reducible first | refine gw_seq ?_ | refine gw_block ?_) | ((first | (with_reducible refine mk_to ?_) | (with_reducible first | refine gw_region ?_ | refine gw_if ?_ | refine gw_skip ?_ | refine gw_exit ?_ | refine gw_ret ?_) | ((with_reducible first | refine gif_b (fun hb => ?_) (fun hb => ?_) | refine want_t (fun hb => ?_) (fun hb => ?_) | refine want_f (fun hb => ?_) (fun hb => ?_)) <;> (try simp only [hb]) <;> (try simp only [hpr] at hb))) <;> try simp only [List.map, gop, ev, lk, aenv, gyield, gBin, gInt, gStrOp, gUn, gPick, gNil, gExtract, gIfc, gConvK, gIndexO, gIndexVO, gMakeV, gMinV, gMaxV, isInt, gMin, gMax, gBlt, gLenX, gCallV, gInvoke, gNilM, Array.toList_map, vcells, gField, gIndexV, gPart, reduceIte, Nat.reduceAdd, Nat.reduceSub, Nat.reduceMul, Nat.reduceLT, Nat.reduceLeDiff, Nat.reduceEqDiff, Nat.reduceBEq, Int.reduceLT, Int.reduceLE, Int.reduceGT, Int.reduceGE, Int.reduceEq, Int.reduceNe, Int.reduceAdd, Int.reduceSub, Int.reduceMul, Int.reduceNeg, Int.reduceToNat, Int.reduceBEq, Int.reduceBNe, Int.cast_ofNat_Int, List.getElem?_toArray, stp, Try.underlying104, Try.underlying107, Try.underlying143, Try.underlying3, ty104, ty107, ty143, ty3, rs53]))
  exact ⟨⟨n, rfl, up⟩, s1⟩
end Go.Gh

/- Contracts of the library's clones: buffers of one's own. -/
namespace Go.Gh
open Go Go.Proofs Go.RowKit
set_option linter.unusedVariables false
set_option linter.unusedSimpArgs false
set_option maxRecDepth 100000

theorem c_BClone (N : Nat) (h : GH) {a : Option Addr} {n c : Nat} {l : List UInt8} (r : RB h (.slice a n c) l) (hl : l.length ≤ 140737488355328) : GTri Try.prog N 50 [.slice a n c] h fun v h' => HS h h' ∧ OWN h h' v l := by
  refine gtri Try.func50 rfl gf50 ok50 (by simp [Try.ntmps50]) ?_
  repeat' (first | (with_reducible first | refine gw_seq ?_ | refine gw_block ?_) | ((first | (with_reducible first | refine gw_region ?_ | refine gw_if ?_ | refine gw_skip ?_ | refine gw_exit ?_ | refine gw_ret ?_) | ((with_reducible first | refine gif_b (fun hb => ?_) (fun hb => ?_) | refine want_t (fun hb => ?_) (fun hb => ?_) | refine want_f (fun hb => ?_) (fun hb => ?_)) <;> (try simp only [hb]))) <;> try simp only [List.map, gop, ev, lk, aenv, gyield, gBin, gInt, gStrOp, gUn, gPick, gNil, gExtract, gIfc, gConvK, gIndexO, gIndexVO, gMakeV, gMinV, gMaxV, isInt, gMin, gMax, gBlt, gLenX, gCallV, gInvoke, gNilM, Array.toList_map, vcells, gField, gIndexV, gPart, reduceIte, Nat.reduceAdd, Nat.reduceSub, Nat.reduceMul, Nat.reduceLT, Nat.reduceLeDiff, Nat.reduceEqDiff, Nat.reduceBEq, Int.reduceLT, Int.reduceLE, Int.reduceGT, Int.reduceGE, Int.reduceEq, Int.reduceNe, Int.reduceAdd, Int.reduceSub, Int.reduceMul, Int.reduceNeg, Int.reduceToNat, Int.reduceBEq, Int.reduceBNe, Int.cast_ofNat_Int, List.getElem?_toArray, stp, Try.underlying24, Try.underlying5, ty24, ty5, rs50]))
  · obtain rfl := r.isnil hb
    exact ⟨HS.refl h, OWN.nil h h⟩
  · refine bs0_g el24 rfl ?_
    simp only [List.map, gop, ev, lk, aenv, gyield, gBin, gInt, gStrOp, gUn, gPick, gNil, gExtract, gIfc, gConvK, gIndexO, gIndexVO, gMakeV, gMinV, gMaxV, isInt, gMin, gMax, gBlt, gLenX, gCallV, gInvoke, gNilM, Array.toList_map, vcells, gField, gIndexV, gPart, reduceIte, Nat.reduceAdd, Nat.reduceSub, Nat.reduceMul, Nat.reduceLT, Nat.reduceLeDiff, Nat.reduceEqDiff, Nat.reduceBEq, Int.reduceLT, Int.reduceLE, Int.reduceGT, Int.reduceGE, Int.reduceEq, Int.reduceNe, Int.reduceAdd, Int.reduceSub, Int.reduceMul, Int.reduceNeg, Int.reduceToNat, Int.reduceBEq, Int.reduceBNe, Int.cast_ofNat_Int, List.getElem?_toArray, stp, Try.underlying24, Try.underlying5, ty24, ty5, rs50]
    refine append_own el24 Try.underlying24 rfl (HS.refl h) (.inr (.inl ⟨_, rfl, rfl⟩)) r.src (by simpa using hl) fun v h' s1 _ o => ?_
    simp only [List.map, gop, ev, lk, aenv, gyield, gBin, gInt, gStrOp, gUn, gPick, gNil, gExtract, gIfc, gConvK, gIndexO, gIndexVO, gMakeV, gMinV, gMaxV, isInt, gMin, gMax, gBlt, gLenX, gCallV, gInvoke, gNilM, Array.toList_map, vcells, gField, gIndexV, gPart, reduceIte, Nat.reduceAdd, Nat.reduceSub, Nat.reduceMul, Nat.reduceLT, Nat.reduceLeDiff, Nat.reduceEqDiff, Nat.reduceBEq, Int.reduceLT, Int.reduceLE, Int.reduceGT, Int.reduceGE, Int.reduceEq, Int.reduceNe, Int.reduceAdd, Int.reduceSub, Int.reduceMul, Int.reduceNeg, Int.reduceToNat, Int.reduceBEq, Int.reduceBNe, Int.cast_ofNat_Int, List.getElem?_toArray, stp, Try.underlying24, Try.underlying5, ty24, ty5, rs50]
    repeat' (first | (with_reducible first | refine gw_seq ?_ | refine gw_block ?_) | ((first | (with_reducible first | refine gw_region ?_ | refine gw_if ?_ | refine gw_skip ?_ | refine gw_exit ?_ | refine gw_ret ?_) | ((with_reducible first | refine gif_b (fun hb => ?_) (fun hb => ?_) | refine want_t (fun hb => ?_) (fun hb => ?_) | refine want_f (fun hb => ?_) (fun hb => ?_)) <;> (try simp only [hb]))) <;> try simp only [List.map, gop, ev, lk, aenv, gyield, gBin, gInt, gStrOp, gUn, gPick, gNil, gExtract, gIfc, gConvK, gIndexO, gIndexVO, gMakeV, gMinV, gMaxV, isInt, gMin, gMax, gBlt, gLenX, gCallV, gInvoke, gNilM, Array.toList_map, vcells, gField, gIndexV, gPart, reduceIte, Nat.reduceAdd, Nat.reduceSub, Nat.reduceMul, Nat.reduceLT, Nat.reduceLeDiff, Nat.reduceEqDiff, Nat.reduceBEq, Int.reduceLT, Int.reduceLE, Int.reduceGT, Int.reduceGE, Int.reduceEq, Int.reduceNe, Int.reduceAdd, Int.reduceSub, Int.reduceMul, Int.reduceNeg, Int.reduceToNat, Int.reduceBEq, Int.reduceBNe, Int.cast_ofNat_Int, List.getElem?_toArray, stp, Try.underlying24, Try.underlying5, ty24, ty5, rs50]))
    exact ⟨s1, o⟩
end Go.Gh

/- Versions: an index in memory, and what it is asked. -/

namespace Go.Gh
open Go Go.Proofs Go.RowKit
set_option linter.unusedVariables false
set_option linter.unusedSimpArgs false
set_option maxRecDepth 100000
set_option maxHeartbeats 1000000

theorem OWNC.at {P : Program} {t e es : Nat} {b : Bool} {h0 h : GH} {a : Option Addr} {m c n : Nat} {cs : List Value} (o : OWNC es h0 h (.slice a m c) n cs) (ht : P.underlying t = some (.slice e)) (he : gsz P e = some (b, es)) {i : Nat} (hi : i < n) :
    ∃ k, gIndex P t (.slice a m c) (i : Int) = some (.pointer (some ⟨k, i * es, none⟩)) ∧ h k = some ⟨cs, es, true, true⟩ := by
  rcases o with ⟨q, rfl, _⟩ | ⟨_, q, rfl, _⟩ | ⟨k, c2, q, h1, h2, h3, h4, h5, h6⟩
  · omega
  · omega
  · cases q
    exact ⟨k, gIndex_own ht he hi, h5⟩
abbrev Bnd := List UInt8 × List UInt8
/-- A key of an identity. -/
def Bd (h : GH) (cs : List Value) (x : Bnd) : Prop := ∃ a n c b m d, cs = [.slice a n c, .slice b m d] ∧ RB h (.slice a n c) x.1 ∧ RB h (.slice b m d) x.2
theorem Bd.hs {h h' : GH} (x : HS h h') {cs : List Value} {y : Bnd} (r : Bd h cs y) : Bd h' cs y := by
  obtain ⟨a, n, c, b, m, d, e, r1, r2⟩ := r
  exact ⟨a, n, c, b, m, d, e, r1.hs x, r2.hs x⟩
theorem RL.bs {h h' : GH} {v : Value} {L : List Bnd} (r : RL 2 Bd h v L) (x : HS h h') : RL 2 Bd h' v L := r.hcR x.hc fun _ _ q => q.hs x
/-- An identity's changes, as cells. -/
def spc (s : List (Nat × Nat)) : List Value := (s.map fun p => [Value.int .i64 (p.1 : Int), Value.int .i64 (p.2 : Int)]).flatten
theorem spc_len (s : List (Nat × Nat)) : (spc s).length = s.length * 2 := by
  unfold spc
  rw [flat_len (n := 2) _ (by intro x hx; obtain ⟨p, _, rfl⟩ := List.mem_map.1 hx; rfl)]
  simp
theorem spc_at {s : List (Nat × Nat)} {i : Nat} {p : Nat × Nat} (h : s[i]? = some p) : ((spc s).drop (i * 2)).take 2 = [Value.int .i64 (p.1 : Int), Value.int .i64 (p.2 : Int)] :=
  flat_get (n := 2) _ (by intro x hx; obtain ⟨p, _, rfl⟩ := List.mem_map.1 hx; rfl) i _ (by rw [List.getElem?_map, h]; rfl)
theorem spc_app (s t : List (Nat × Nat)) : spc (s ++ t) = spc s ++ spc t := by simp [spc]
/-- A map's keys. -/
def mkeys : List Value → List ByteArray
  | .string k :: _ :: r => k :: mkeys r
  | _ => []
theorem mset_keys (s : ByteArray) (x : Value) : ∀ (l : List Value), mok l = true → (s ∈ mkeys l ∧ mkeys (mset s x l) = mkeys l) ∨ (¬ s ∈ mkeys l ∧ mkeys (mset s x l) = mkeys l ++ [s])
  | [], _ => .inr ⟨by simp [mkeys], by simp [mset, mkeys]⟩
  | [v], h => by cases v <;> simp [mok] at h
  | k :: v :: l, h => by
    cases k with
    | string k =>
      have ih := mset_keys s x l (by simpa [mok] using h)
      have e : (s == k) = true ↔ s = k := MapKept.bytes_beq _ _
      rw [mset]
      by_cases hs : s = k
      · subst hs
        rw [if_pos (e.2 rfl)]
        exact .inl ⟨by simp [mkeys], rfl⟩
      · rw [if_neg (fun q => hs (e.1 q))]
        simp only [mkeys, List.mem_cons, hs, false_or]
        rcases ih with ⟨h1, h2⟩ | ⟨h1, h2⟩
        · exact .inl ⟨h1, by rw [h2]⟩
        · exact .inr ⟨h1, by rw [h2]; rfl⟩
    | _ => simp [mok] at h
theorem mset_kl {s : ByteArray} {x : Value} {l : List Value} (h : mok l = true) : (mkeys (mset s x l)).length ≤ (mkeys l).length + 1 := by
  rcases mset_keys s x l h with ⟨_, e⟩ | ⟨hn, e⟩
  · rw [e]; omega
  · rw [e, List.length_append]; exact Nat.le_refl _
theorem mset_nd {s : ByteArray} {x : Value} {l : List Value} (h : mok l = true) (n : (mkeys l).Nodup) : (mkeys (mset s x l)).Nodup := by
  rcases mset_keys s x l h with ⟨_, e⟩ | ⟨hn, e⟩
  · rw [e]; exact n
  · rw [e, List.nodup_append]
    exact ⟨n, by simp, fun a ha b hb e' => hn (by obtain rfl := List.mem_singleton.1 hb; rw [← e']; exact ha)⟩
/-- An entry by its place. -/
theorem mat_find : ∀ (l : List Value) (q : Nat) (key v : Value), mok l = true → (mkeys l).Nodup → l[2 * q]? = some key → l[2 * q + 1]? = some v → ∃ k, key = .string k ∧ (mkeys l)[q]? = some k ∧ mfind k l = some v
  | [], q, key, v, _, _, h, _ => by simp at h
  | [u], q, key, v, h, _, _, _ => by cases u <;> simp [mok] at h
  | k :: u :: l, 0, key, v, h, _, h1, h2 => by
    cases k with
    | string k =>
      simp at h1 h2
      subst h1
      subst h2
      exact ⟨k, rfl, rfl, by rw [mfind, if_pos ((MapKept.bytes_beq _ _).2 rfl)]⟩
    | _ => simp [mok] at h
  | k :: u :: l, q + 1, key, v, h, n, h1, h2 => by
    cases k with
    | string k =>
      simp only [mkeys, List.nodup_cons] at n
      obtain ⟨k', e1, e2, e3⟩ := mat_find l q key v (by simpa [mok] using h) n.2 (by rw [show 2 * (q + 1) = 2 * q + 1 + 1 by omega] at h1; simpa using h1) (by rw [show 2 * (q + 1) + 1 = 2 * q + 1 + 1 + 1 by omega] at h2; simpa using h2)
      refine ⟨k', e1, by simpa [mkeys] using e2, ?_⟩
      rw [mfind, if_neg (fun q => n.1 (by rw [← (MapKept.bytes_beq _ _).1 q]; exact List.mem_of_getElem? e2))]
      exact e3
    | _ => simp [mok] at h
theorem mkeys_len : ∀ (l : List Value), mok l = true → l.length = 2 * (mkeys l).length
  | [], _ => rfl
  | [u], h => by cases u <;> simp [mok] at h
  | k :: u :: l, h => by
    cases k with
    | string k =>
      have := mkeys_len l (by simpa [mok] using h)
      simp only [List.length_cons, mkeys, this]
      omega
    | _ => simp [mok] at h
/-- What a map tells of an identity. -/
def mget (l : List Value) (id : List UInt8) : Value := (mfind (bstr id) l).getD (.slice none 0 0)
/-- A batch in memory. -/
def Bat (h0 h : GH) (v : Value) (b : List Bnd) : Prop := ∃ ds, OWNC 2 h0 h v b.length ds ∧ ∀ (i : Nat) p, b[i]? = some p → Bd h ((ds.drop (i * 2)).take 2) p
theorem Bat.rl {h0 h : GH} {v : Value} {b : List Bnd} (x : Bat h0 h v b) : RL 2 Bd h v b := by
  obtain ⟨ds, o, r⟩ := x
  exact o.rl r
theorem Bat.hs {h0 h h' : GH} {v : Value} {b : List Bnd} (x : Bat h0 h v b) (s : HS h h') : Bat h0 h' v b := by
  obtain ⟨ds, o, r⟩ := x
  exact ⟨ds, o.hs s, fun i p hp => (r i p hp).hs s⟩
/-- An index in memory: the epochs' batches, and each identity's changes. -/
structure IX (h0 h : GH) (k j : Nat) (bv : Value) (cs l : List Value) (B : List (List Bnd)) (S : List UInt8 → List (Nat × Nat)) : Prop where
  obj : h k = some ⟨[.bool true, bv, .map (some j)], 0, true, false⟩
  nk : h0 k = none
  mp : h (j + 1) = some ⟨MM :: l, 0, true, false⟩
  nj : h0 (j + 1) = none
  ok : mok l = true
  u8 : l.all notU8 = true
  bat : OWNC 1 h0 h bv B.length cs
  bats : ∀ (e : Nat) b, B[e]? = some b → ∃ v, cs[e]? = some v ∧ Bat h0 h v b
  sp : ∀ id, OWNC 2 h0 h (mget l id) (S id).length (spc (S id))
  ris : ∀ id, Rising (S id)
  val : ∀ id p, p ∈ S id → 1 ≤ p.1 ∧ p.1 ≤ B.length ∧ ∃ b, B[p.1 - 1]? = some b ∧ p.2 < b.length
  sl : ∀ id, (S id).length ≤ 10 * B.length
  bl : ∀ b ∈ B, b.length ≤ 10 ∧ ∀ p ∈ b, p.1.length ≤ 140737488355328 ∧ p.2.length ≤ 140737488355328
  cu8 : cs.all notU8 = true
  nd : (mkeys l).Nodup
  kl : (mkeys l).length ≤ 10 * B.length
theorem IX.hs {h0 h h' : GH} {k j : Nat} {bv : Value} {cs l : List Value} {B : List (List Bnd)} {S : List UInt8 → List (Nat × Nat)} (x : IX h0 h k j bv cs l B S) (s : HS h h') : IX h0 h' k j bv cs l B S :=
  ⟨s _ _ x.obj, x.nk, s _ _ x.mp, x.nj, x.ok, x.u8, x.bat.hs s, fun e b hb => by obtain ⟨v, h1, h2⟩ := x.bats e b hb; exact ⟨v, h1, h2.hs s⟩, fun id => (x.sp id).hs s, x.ris, x.val, x.sl, x.bl, x.cu8, x.nd, x.kl⟩
theorem IX.spots {h0 h : GH} {k j : Nat} {bv : Value} {cs l : List Value} {B : List (List Bnd)} {S : List UInt8 → List (Nat × Nat)} (x : IX h0 h k j bv cs l B S) (id : List UInt8) : RL 2 Sp h (mget l id) (S id) :=
  (x.sp id).rl fun i p hp => by rw [spc_at hp]; rfl
theorem IX.look {h0 h : GH} {k j : Nat} {bv : Value} {cs l : List Value} {B : List (List Bnd)} {S : List UInt8 → List (Nat × Nat)} (x : IX h0 h k j bv cs l B S) (id : List UInt8) : gLookup Try.prog 42 h (.map (some j)) (.string (bstr id)) false = some (mget l id) := by
  simp only [gLookup, sm42, gMapOf, x.mp, x.ok, gz42, mget, if_true]
  cases mfind (bstr id) l <;> simp
/-- A change, as told. -/
def evOf (B : List (List Bnd)) (p : Nat × Nat) : Nat × Nat × Bnd := (p.1, p.2, ((B[p.1 - 1]?).bind (·[p.2]?)).getD ([], []))
def Ev (h : GH) (cs : List Value) (e : Nat × Nat × Bnd) : Prop := ∃ a c b d, cs = [.int .i64 (e.1 : Int), .int .i64 (e.2.1 : Int), .slice a e.2.2.1.length c, .slice b e.2.2.2.length d] ∧ RB h (.slice a e.2.2.1.length c) e.2.2.1 ∧ RB h (.slice b e.2.2.2.length d) e.2.2.2
theorem Ev.hs {h h' : GH} (x : HS h h') {cs : List Value} {e : Nat × Nat × Bnd} (r : Ev h cs e) : Ev h' cs e := by
  obtain ⟨a, c, b, d, e, r1, r2⟩ := r
  exact ⟨a, c, b, d, e, r1.hs x, r2.hs x⟩

theorem c_vof (N : Nat) {h0 h : GH} {k j : Nat} {bv : Value} {cs l : List Value} {B : List (List Bnd)} {S : List UInt8 → List (Nat × Nat)} (x : IX h0 h k j bv cs l B S) {a : Option Addr} {n c : Nat} {id : List UInt8} (r : RB h (.slice a n c) id) :
    GTri Try.prog N 52 [.pointer (some ⟨k, 0, none⟩), .slice a n c] h fun v h' => v = mget l id ∧ h' = h := by
  have cv := r.conv Try.underlying24 Try.underlying5 Try.underlying9
  have lk' := x.look id
  refine gtri Try.func52 rfl gf52 ok52 (by simp [Try.ntmps52]) ?_
  refine mk_of ?_; repeat' (first | (with_reducible first | refine gw_seq ?_ | refine gw_block ?_) | ((first | (with_reducible refine mk_to ?_) | (with_reducible first | refine gw_region ?_ | refine gw_if ?_ | refine gw_skip ?_ | refine gw_exit ?_ | refine gw_ret ?_) | ((with_reducible first | refine gif_b (fun hb => ?_) (fun hb => ?_) | refine want_t (fun hb => ?_) (fun hb => ?_) | refine want_f (fun hb => ?_) (fun hb => ?_) | refine dr_t (fun hb => ?_) (fun hb => ?_) | refine dr_f (fun hb => ?_) (fun hb => ?_)) <;> (try simp only [hb]) <;> (try simp only [hpr] at hb)) | with_reducible refine gw_draw (id := 3) [(0, []), (1, []), (2, []), (3, []), (4, []), (5, []), (6, []), (7, [])] [0, 1, 3, 7, 0, 16, 63, 127] mixed (by kernel_rfl) ?_ | ((refine GTri.mono (c_vnone _ _ x.obj) ?_); rintro _ _ ⟨rfl, hh9⟩; replace hh9 := hh9.symm; subst hh9)) <;> try simp only [List.map, gop, ev, lk, aenv, gyield, gBin, gInt, gStrOp, gUn, gPick, gNil, gExtract, gIfc, gConvK, gIndexO, gIndexVO, gMakeV, gMinV, gMaxV, isInt, gMin, gMax, gBlt, gLenX, gCallV, gInvoke, gNilM, Array.toList_map, vcells, gField, gIndexV, gPart, reduceIte, Nat.reduceAdd, Nat.reduceSub, Nat.reduceMul, Nat.reduceLT, Nat.reduceLeDiff, Nat.reduceEqDiff, Nat.reduceBEq, Int.reduceLT, Int.reduceLE, Int.reduceGT, Int.reduceGE, Int.reduceEq, Int.reduceNe, Int.reduceAdd, Int.reduceSub, Int.reduceMul, Int.reduceNeg, Int.reduceToNat, Int.reduceBEq, Int.reduceBNe, Int.cast_ofNat_Int, List.getElem?_toArray, stp, rvOf, rvLen, wput, wlk, rdv, isEff, dsOf, sgl, stq, Try.underlying22, Try.underlying24, Try.underlying27, Try.underlying4, Try.underlying42, Try.underlying44, Try.underlying5, Try.underlying9, ty22, ty24, ty44, ty27, ty4, ty42, ty5, ty9, rs52, gNil, gload1 x.obj sz42, cv, lk', List.getElem?_cons_zero, List.getElem?_cons_succ]))
theorem c_event (N : Nat) {h0 h : GH} {k j : Nat} {bv : Value} {cs l : List Value} {B : List (List Bnd)} {S : List UInt8 → List (Nat × Nat)} (x : IX h0 h k j bv cs l B S) (hB : B.length ≤ 100) {id : List UInt8} {p : Nat × Nat} (hp : p ∈ S id) :
    GTri Try.prog N 54 [.pointer (some ⟨k, 0, none⟩), .agg #[.int .i64 p.1, .int .i64 p.2]] h fun v h' => (∃ cs, v = .agg cs.toArray ∧ Ev h' cs (evOf B p)) ∧ HS h h' := by
  obtain ⟨e, i⟩ := p
  obtain ⟨h1, h2, b, hb, hi⟩ := x.val id _ hp
  simp only at h1 h2 hb hi
  obtain ⟨y, hy⟩ : ∃ y, b[i]? = some y := ⟨_, List.getElem?_eq_getElem hi⟩
  have eo : evOf B (e, i) = (e, i, y) := by simp [evOf, hb, hy]
  rw [eo]
  obtain ⟨v1, hv1, bt⟩ := x.bats _ b hb
  have hbl := x.bl b (List.mem_of_getElem? hb)
  have hyl := hbl.2 y (List.mem_of_getElem? hy)
  refine gtri Try.func54 rfl gf54 ok54 (by simp [Try.ntmps54]) ?_
  repeat' (first | (with_reducible first | refine gw_seq ?_ | refine gw_block ?_) | ((first | (with_reducible first | refine gw_region ?_ | refine gw_if ?_ | refine gw_skip ?_ | refine gw_exit ?_ | refine gw_ret ?_) | ((with_reducible first | refine gif_b (fun hb => ?_) (fun hb => ?_) | refine want_t (fun hb => ?_) (fun hb => ?_) | refine want_f (fun hb => ?_) (fun hb => ?_) | refine dr_t (fun hb => ?_) (fun hb => ?_) | refine dr_f (fun hb => ?_) (fun hb => ?_)) <;> (try simp only [hb]) <;> (try simp only [hpr] at hb)) | with_reducible refine gw_draw (id := 1) [(0, []), (1, []), (2, []), (3, []), (4, []), (5, []), (6, []), (7, []), (8, []), (9, []), (10, []), (11, []), (12, []), (13, [3, 5, 8, 10, 12]), (14, [])] [0, 1, 3, 7, 0, 16, 48, 127, 255, 0, 512, 2047, 4095, 0, 16383] mixed (by kernel_rfl) ?_ | with_reducible refine gw_draw (id := 2) [(0, []), (1, []), (2, []), (3, []), (4, []), (5, []), (7, []), (8, []), (6, [1, 3, 8]), (9, [1, 3]), (10, []), (11, [])] [0, 1, 0, 4, 0, 16, 48, 0, 128, 496, 1023, 2047] mixed (by kernel_rfl) ?_) <;> try simp only [List.map, gop, ev, lk, aenv, gyield, gBin, gInt, gStrOp, gUn, gPick, gNil, gExtract, gIfc, gConvK, gIndexO, gIndexVO, gMakeV, gMinV, gMaxV, isInt, gMin, gMax, gBlt, gLenX, gCallV, gInvoke, gNilM, Array.toList_map, vcells, gField, gIndexV, gPart, reduceIte, Nat.reduceAdd, Nat.reduceSub, Nat.reduceMul, Nat.reduceLT, Nat.reduceLeDiff, Nat.reduceEqDiff, Nat.reduceBEq, Int.reduceLT, Int.reduceLE, Int.reduceGT, Int.reduceGE, Int.reduceEq, Int.reduceNe, Int.reduceAdd, Int.reduceSub, Int.reduceMul, Int.reduceNeg, Int.reduceToNat, Int.reduceBEq, Int.reduceBNe, Int.cast_ofNat_Int, List.getElem?_toArray, stp, rvOf, rvLen, wput, wlk, rdv, isEff, dsOf, sgl, stq, Try.underlying107, Try.underlying22, Try.underlying23, Try.underlying24, Try.underlying3, Try.underlying33, Try.underlying4, Try.underlying42, Try.underlying44, Try.underlying5, Try.underlying99, ty22, ty23, ty24, ty107, ty33, ty44, ty99, ty3, ty4, ty42, ty5, rs54]))
  refine box_g rfl fun k1 h3 m1 s1 f1 n1 => ?_
  refine mk_of ?_; repeat' (first | (with_reducible first | refine gw_seq ?_ | refine gw_block ?_) | ((first | (with_reducible refine mk_to ?_) | (with_reducible first | refine gw_region ?_ | refine gw_if ?_ | refine gw_skip ?_ | refine gw_exit ?_ | refine gw_ret ?_) | ((with_reducible first | refine gif_b (fun hb => ?_) (fun hb => ?_) | refine want_t (fun hb => ?_) (fun hb => ?_) | refine want_f (fun hb => ?_) (fun hb => ?_) | refine dr_t (fun hb => ?_) (fun hb => ?_) | refine dr_f (fun hb => ?_) (fun hb => ?_)) <;> (try simp only [hb]) <;> (try simp only [hpr] at hb)) | with_reducible refine gw_draw (id := 1) [(0, []), (1, []), (2, []), (3, []), (4, []), (5, []), (6, []), (7, []), (8, []), (9, []), (10, []), (11, []), (12, []), (13, [3, 5, 8, 10, 12]), (14, [])] [0, 1, 3, 7, 0, 16, 48, 127, 255, 0, 512, 2047, 4095, 0, 16383] mixed (by kernel_rfl) ?_ | with_reducible refine gw_draw (id := 2) [(0, []), (1, []), (2, []), (3, []), (4, []), (5, []), (7, []), (8, []), (6, [1, 3, 8]), (9, [1, 3]), (10, []), (11, [])] [0, 1, 0, 4, 0, 16, 48, 0, 128, 496, 1023, 2047] mixed (by kernel_rfl) ?_) <;> try simp only [List.map, gop, ev, lk, aenv, gyield, gBin, gInt, gStrOp, gUn, gPick, gNil, gExtract, gIfc, gConvK, gIndexO, gIndexVO, gMakeV, gMinV, gMaxV, isInt, gMin, gMax, gBlt, gLenX, gCallV, gInvoke, gNilM, Array.toList_map, vcells, gField, gIndexV, gPart, reduceIte, Nat.reduceAdd, Nat.reduceSub, Nat.reduceMul, Nat.reduceLT, Nat.reduceLeDiff, Nat.reduceEqDiff, Nat.reduceBEq, Int.reduceLT, Int.reduceLE, Int.reduceGT, Int.reduceGE, Int.reduceEq, Int.reduceNe, Int.reduceAdd, Int.reduceSub, Int.reduceMul, Int.reduceNeg, Int.reduceToNat, Int.reduceBEq, Int.reduceBNe, Int.cast_ofNat_Int, List.getElem?_toArray, stp, rvOf, rvLen, wput, wlk, rdv, isEff, dsOf, sgl, stq, Try.underlying107, Try.underlying22, Try.underlying23, Try.underlying24, Try.underlying3, Try.underlying33, Try.underlying4, Try.underlying42, Try.underlying44, Try.underlying5, Try.underlying99, ty22, ty23, ty24, ty107, ty33, ty44, ty99, ty3, ty4, ty42, ty5, rs54]))
  refine new_g fun k2 h4 m2 s2 f2 n2 => ?_
  replace m1 := s2 _ _ m1
  have s12 := s1.trans s2
  have x4 := x.hs s12
  have w1 : IntKind.i64.wrap ((e : Int) - 1) = ((e - 1 : Nat) : Int) := by rw [wrap64 (by omega) (by omega)]; omega
  obtain ⟨a5, c5, e5⟩ := x4.bat.form
  have o4 := x4.bat
  rw [e5] at o4
  obtain ⟨k5, i5, m5⟩ := o4.at (P := Try.prog) Try.underlying22 sz23 (i := e - 1) (by omega)
  have l5 : gLoad Try.prog 23 h4 (.pointer (some ⟨k5, (e - 1) * 1, none⟩)) = some v1 := by rw [gload1 m5 sz23, Nat.mul_one]; exact hv1
  obtain ⟨a6, c6, e6, _⟩ := (bt.hs s12).rl.form
  obtain ⟨ad, cs2, g1, g2, a', n', c', b', m', d', rfl, q1, q2⟩ := (bt.hs s12).rl.at (P := Try.prog) Try.underlying23 sz99 hy
  have l6 : gLoad Try.prog 99 h4 (.pointer (some ad)) = some (.agg #[.slice a' n' c', .slice b' m' d']) := by simp only [gLoad, sz99, g2]; rfl
  have ho := x4.obj
  rw [e5] at ho
  rw [e6] at g1 l5
  refine mk_of ?_; repeat' (first | (with_reducible first | refine gw_seq ?_ | refine gw_block ?_) | ((first | (with_reducible refine mk_to ?_) | (with_reducible first | refine gw_region ?_ | refine gw_if ?_ | refine gw_skip ?_ | refine gw_exit ?_ | refine gw_ret ?_) | ((with_reducible first | refine gif_b (fun hb => ?_) (fun hb => ?_) | refine want_t (fun hb => ?_) (fun hb => ?_) | refine want_f (fun hb => ?_) (fun hb => ?_) | refine dr_t (fun hb => ?_) (fun hb => ?_) | refine dr_f (fun hb => ?_) (fun hb => ?_)) <;> (try simp only [hb]) <;> (try simp only [hpr] at hb)) | with_reducible refine gw_draw (id := 1) [(0, []), (1, []), (2, []), (3, []), (4, []), (5, []), (6, []), (7, []), (8, []), (9, []), (10, []), (11, []), (12, []), (13, [3, 5, 8, 10, 12]), (14, [])] [0, 1, 3, 7, 0, 16, 48, 127, 255, 0, 512, 2047, 4095, 0, 16383] mixed (by kernel_rfl) ?_ | with_reducible refine gw_draw (id := 2) [(0, []), (1, []), (2, []), (3, []), (4, []), (5, []), (7, []), (8, []), (6, [1, 3, 8]), (9, [1, 3]), (10, []), (11, [])] [0, 1, 0, 4, 0, 16, 48, 0, 128, 496, 1023, 2047] mixed (by kernel_rfl) ?_) <;> try simp only [List.map, gop, ev, lk, aenv, gyield, gBin, gInt, gStrOp, gUn, gPick, gNil, gExtract, gIfc, gConvK, gIndexO, gIndexVO, gMakeV, gMinV, gMaxV, isInt, gMin, gMax, gBlt, gLenX, gCallV, gInvoke, gNilM, Array.toList_map, vcells, gField, gIndexV, gPart, reduceIte, Nat.reduceAdd, Nat.reduceSub, Nat.reduceMul, Nat.reduceLT, Nat.reduceLeDiff, Nat.reduceEqDiff, Nat.reduceBEq, Int.reduceLT, Int.reduceLE, Int.reduceGT, Int.reduceGE, Int.reduceEq, Int.reduceNe, Int.reduceAdd, Int.reduceSub, Int.reduceMul, Int.reduceNeg, Int.reduceToNat, Int.reduceBEq, Int.reduceBNe, Int.cast_ofNat_Int, List.getElem?_toArray, stp, rvOf, rvLen, wput, wlk, rdv, isEff, dsOf, sgl, stq, Try.underlying107, Try.underlying22, Try.underlying23, Try.underlying24, Try.underlying3, Try.underlying33, Try.underlying4, Try.underlying42, Try.underlying44, Try.underlying5, Try.underlying99, ty22, ty23, ty24, ty107, ty33, ty44, ty99, ty3, ty4, ty42, ty5, rs54, gNil, gload1 ho sz22, gload1 m1 sz3, w1, i5, l5, g1, l6, List.getElem?_cons_zero, List.getElem?_cons_succ]))
  refine new_g fun k6 h6 m6 s6 f6 n6 => ?_
  have ho6 := s6 _ _ ho
  have m16 := s6 _ _ m1
  have l56 : gLoad Try.prog 23 h6 (.pointer (some ⟨k5, (e - 1) * 1, none⟩)) = some (.slice a6 b.length c6) := by rw [gload1 (s6 _ _ m5) sz23, Nat.mul_one, ← e6]; exact hv1
  have l66 : gLoad Try.prog 99 h6 (.pointer (some ad)) = some (.agg #[.slice a' n' c', .slice b' m' d']) := by simp only [gLoad, sz99, gread_hc s6.hc g2]; rfl
  refine mk_of ?_; repeat' (first | (with_reducible first | refine gw_seq ?_ | refine gw_block ?_) | ((first | (with_reducible refine mk_to ?_) | (with_reducible first | refine gw_region ?_ | refine gw_if ?_ | refine gw_skip ?_ | refine gw_exit ?_ | refine gw_ret ?_) | ((with_reducible first | refine gif_b (fun hb => ?_) (fun hb => ?_) | refine want_t (fun hb => ?_) (fun hb => ?_) | refine want_f (fun hb => ?_) (fun hb => ?_) | refine dr_t (fun hb => ?_) (fun hb => ?_) | refine dr_f (fun hb => ?_) (fun hb => ?_)) <;> (try simp only [hb]) <;> (try simp only [hpr] at hb)) | with_reducible refine gw_draw (id := 1) [(0, []), (1, []), (2, []), (3, []), (4, []), (5, []), (6, []), (7, []), (8, []), (9, []), (10, []), (11, []), (12, []), (13, [3, 5, 8, 10, 12]), (14, [])] [0, 1, 3, 7, 0, 16, 48, 127, 255, 0, 512, 2047, 4095, 0, 16383] mixed (by kernel_rfl) ?_ | with_reducible refine gw_draw (id := 2) [(0, []), (1, []), (2, []), (3, []), (4, []), (5, []), (7, []), (8, []), (6, [1, 3, 8]), (9, [1, 3]), (10, []), (11, [])] [0, 1, 0, 4, 0, 16, 48, 0, 128, 496, 1023, 2047] mixed (by kernel_rfl) ?_) <;> try simp only [List.map, gop, ev, lk, aenv, gyield, gBin, gInt, gStrOp, gUn, gPick, gNil, gExtract, gIfc, gConvK, gIndexO, gIndexVO, gMakeV, gMinV, gMaxV, isInt, gMin, gMax, gBlt, gLenX, gCallV, gInvoke, gNilM, Array.toList_map, vcells, gField, gIndexV, gPart, reduceIte, Nat.reduceAdd, Nat.reduceSub, Nat.reduceMul, Nat.reduceLT, Nat.reduceLeDiff, Nat.reduceEqDiff, Nat.reduceBEq, Int.reduceLT, Int.reduceLE, Int.reduceGT, Int.reduceGE, Int.reduceEq, Int.reduceNe, Int.reduceAdd, Int.reduceSub, Int.reduceMul, Int.reduceNeg, Int.reduceToNat, Int.reduceBEq, Int.reduceBNe, Int.cast_ofNat_Int, List.getElem?_toArray, stp, rvOf, rvLen, wput, wlk, rdv, isEff, dsOf, sgl, stq, Try.underlying107, Try.underlying22, Try.underlying23, Try.underlying24, Try.underlying3, Try.underlying33, Try.underlying4, Try.underlying42, Try.underlying44, Try.underlying5, Try.underlying99, ty22, ty23, ty24, ty107, ty33, ty44, ty99, ty3, ty4, ty42, ty5, rs54, gload1 ho6 sz22, gload1 m16 sz3, l56, l66, List.getElem?_cons_zero, List.getElem?_cons_succ]))
  refine st_all m6 sz99 rfl (by decide) rfl rfl rfl fun h7 m7 f7 => ?_
  have s7 : HS h4 h7 := (HS.refl h4).upd n6 (fun j hj => (f7 j hj).trans (f6 j hj))
  replace m1 := s7 _ _ m1
  replace m2 := s7 _ _ m2
  have e1 := (q1.hs s7).len_eq
  have e2 := (q2.hs s7).len_eq
  subst e1
  subst e2
  refine mk_of ?_; repeat' (first | (with_reducible first | refine gw_seq ?_ | refine gw_block ?_) | ((first | (with_reducible refine mk_to ?_) | (with_reducible first | refine gw_region ?_ | refine gw_if ?_ | refine gw_skip ?_ | refine gw_exit ?_ | refine gw_ret ?_) | ((with_reducible first | refine gif_b (fun hb => ?_) (fun hb => ?_) | refine want_t (fun hb => ?_) (fun hb => ?_) | refine want_f (fun hb => ?_) (fun hb => ?_) | refine dr_t (fun hb => ?_) (fun hb => ?_) | refine dr_f (fun hb => ?_) (fun hb => ?_)) <;> (try simp only [hb]) <;> (try simp only [hpr] at hb)) | with_reducible refine gw_draw (id := 1) [(0, []), (1, []), (2, []), (3, []), (4, []), (5, []), (6, []), (7, []), (8, []), (9, []), (10, []), (11, []), (12, []), (13, [3, 5, 8, 10, 12]), (14, [])] [0, 1, 3, 7, 0, 16, 48, 127, 255, 0, 512, 2047, 4095, 0, 16383] mixed (by kernel_rfl) ?_ | with_reducible refine gw_draw (id := 2) [(0, []), (1, []), (2, []), (3, []), (4, []), (5, []), (7, []), (8, []), (6, [1, 3, 8]), (9, [1, 3]), (10, []), (11, [])] [0, 1, 0, 4, 0, 16, 48, 0, 128, 496, 1023, 2047] mixed (by kernel_rfl) ?_) <;> try simp only [List.map, gop, ev, lk, aenv, gyield, gBin, gInt, gStrOp, gUn, gPick, gNil, gExtract, gIfc, gConvK, gIndexO, gIndexVO, gMakeV, gMinV, gMaxV, isInt, gMin, gMax, gBlt, gLenX, gCallV, gInvoke, gNilM, Array.toList_map, vcells, gField, gIndexV, gPart, reduceIte, Nat.reduceAdd, Nat.reduceSub, Nat.reduceMul, Nat.reduceLT, Nat.reduceLeDiff, Nat.reduceEqDiff, Nat.reduceBEq, Int.reduceLT, Int.reduceLE, Int.reduceGT, Int.reduceGE, Int.reduceEq, Int.reduceNe, Int.reduceAdd, Int.reduceSub, Int.reduceMul, Int.reduceNeg, Int.reduceToNat, Int.reduceBEq, Int.reduceBNe, Int.cast_ofNat_Int, List.getElem?_toArray, stp, rvOf, rvLen, wput, wlk, rdv, isEff, dsOf, sgl, stq, Try.underlying107, Try.underlying22, Try.underlying23, Try.underlying24, Try.underlying3, Try.underlying33, Try.underlying4, Try.underlying42, Try.underlying44, Try.underlying5, Try.underlying99, ty22, ty23, ty24, ty107, ty33, ty44, ty99, ty3, ty4, ty42, ty5, rs54, gload1 m1 sz3, gload1 m7 sz24, List.getElem?_cons_zero, List.getElem?_cons_succ]))
  refine (c_BClone N h7 (q1.hs s7) hyl.1).mono ?_
  rintro _ h8 ⟨s8, o8⟩
  obtain ⟨a8, c8, rfl⟩ := o8.form
  have m18 := s8 _ _ m1
  have m78 := s8 _ _ m7
  refine mk_of ?_; repeat' (first | (with_reducible first | refine gw_seq ?_ | refine gw_block ?_) | ((first | (with_reducible refine mk_to ?_) | (with_reducible first | refine gw_region ?_ | refine gw_if ?_ | refine gw_skip ?_ | refine gw_exit ?_ | refine gw_ret ?_) | ((with_reducible first | refine gif_b (fun hb => ?_) (fun hb => ?_) | refine want_t (fun hb => ?_) (fun hb => ?_) | refine want_f (fun hb => ?_) (fun hb => ?_) | refine dr_t (fun hb => ?_) (fun hb => ?_) | refine dr_f (fun hb => ?_) (fun hb => ?_)) <;> (try simp only [hb]) <;> (try simp only [hpr] at hb)) | with_reducible refine gw_draw (id := 1) [(0, []), (1, []), (2, []), (3, []), (4, []), (5, []), (6, []), (7, []), (8, []), (9, []), (10, []), (11, []), (12, []), (13, [3, 5, 8, 10, 12]), (14, [])] [0, 1, 3, 7, 0, 16, 48, 127, 255, 0, 512, 2047, 4095, 0, 16383] mixed (by kernel_rfl) ?_ | with_reducible refine gw_draw (id := 2) [(0, []), (1, []), (2, []), (3, []), (4, []), (5, []), (7, []), (8, []), (6, [1, 3, 8]), (9, [1, 3]), (10, []), (11, [])] [0, 1, 0, 4, 0, 16, 48, 0, 128, 496, 1023, 2047] mixed (by kernel_rfl) ?_) <;> try simp only [List.map, gop, ev, lk, aenv, gyield, gBin, gInt, gStrOp, gUn, gPick, gNil, gExtract, gIfc, gConvK, gIndexO, gIndexVO, gMakeV, gMinV, gMaxV, isInt, gMin, gMax, gBlt, gLenX, gCallV, gInvoke, gNilM, Array.toList_map, vcells, gField, gIndexV, gPart, reduceIte, Nat.reduceAdd, Nat.reduceSub, Nat.reduceMul, Nat.reduceLT, Nat.reduceLeDiff, Nat.reduceEqDiff, Nat.reduceBEq, Int.reduceLT, Int.reduceLE, Int.reduceGT, Int.reduceGE, Int.reduceEq, Int.reduceNe, Int.reduceAdd, Int.reduceSub, Int.reduceMul, Int.reduceNeg, Int.reduceToNat, Int.reduceBEq, Int.reduceBNe, Int.cast_ofNat_Int, List.getElem?_toArray, stp, rvOf, rvLen, wput, wlk, rdv, isEff, dsOf, sgl, stq, Try.underlying107, Try.underlying22, Try.underlying23, Try.underlying24, Try.underlying3, Try.underlying33, Try.underlying4, Try.underlying42, Try.underlying44, Try.underlying5, Try.underlying99, ty22, ty23, ty24, ty107, ty33, ty44, ty99, ty3, ty4, ty42, ty5, rs54, gload1 m18 sz3, gload1 m78 sz24, List.getElem?_cons_zero, List.getElem?_cons_succ]))
  refine (c_BClone N h8 ((q2.hs s7).hs s8) hyl.2).mono ?_
  rintro _ h9 ⟨s9, o9⟩
  obtain ⟨a9, c9, rfl⟩ := o9.form
  have m19 := s9 _ _ m18
  have m29 := s9 _ _ (s8 _ _ m2)
  refine mk_of ?_; repeat' (first | (with_reducible first | refine gw_seq ?_ | refine gw_block ?_) | ((first | (with_reducible refine mk_to ?_) | (with_reducible first | refine gw_region ?_ | refine gw_if ?_ | refine gw_skip ?_ | refine gw_exit ?_ | refine gw_ret ?_) | ((with_reducible first | refine gif_b (fun hb => ?_) (fun hb => ?_) | refine want_t (fun hb => ?_) (fun hb => ?_) | refine want_f (fun hb => ?_) (fun hb => ?_) | refine dr_t (fun hb => ?_) (fun hb => ?_) | refine dr_f (fun hb => ?_) (fun hb => ?_)) <;> (try simp only [hb]) <;> (try simp only [hpr] at hb)) | with_reducible refine gw_draw (id := 1) [(0, []), (1, []), (2, []), (3, []), (4, []), (5, []), (6, []), (7, []), (8, []), (9, []), (10, []), (11, []), (12, []), (13, [3, 5, 8, 10, 12]), (14, [])] [0, 1, 3, 7, 0, 16, 48, 127, 255, 0, 512, 2047, 4095, 0, 16383] mixed (by kernel_rfl) ?_ | with_reducible refine gw_draw (id := 2) [(0, []), (1, []), (2, []), (3, []), (4, []), (5, []), (7, []), (8, []), (6, [1, 3, 8]), (9, [1, 3]), (10, []), (11, [])] [0, 1, 0, 4, 0, 16, 48, 0, 128, 496, 1023, 2047] mixed (by kernel_rfl) ?_) <;> try simp only [List.map, gop, ev, lk, aenv, gyield, gBin, gInt, gStrOp, gUn, gPick, gNil, gExtract, gIfc, gConvK, gIndexO, gIndexVO, gMakeV, gMinV, gMaxV, isInt, gMin, gMax, gBlt, gLenX, gCallV, gInvoke, gNilM, Array.toList_map, vcells, gField, gIndexV, gPart, reduceIte, Nat.reduceAdd, Nat.reduceSub, Nat.reduceMul, Nat.reduceLT, Nat.reduceLeDiff, Nat.reduceEqDiff, Nat.reduceBEq, Int.reduceLT, Int.reduceLE, Int.reduceGT, Int.reduceGE, Int.reduceEq, Int.reduceNe, Int.reduceAdd, Int.reduceSub, Int.reduceMul, Int.reduceNeg, Int.reduceToNat, Int.reduceBEq, Int.reduceBNe, Int.cast_ofNat_Int, List.getElem?_toArray, stp, rvOf, rvLen, wput, wlk, rdv, isEff, dsOf, sgl, stq, Try.underlying107, Try.underlying22, Try.underlying23, Try.underlying24, Try.underlying3, Try.underlying33, Try.underlying4, Try.underlying42, Try.underlying44, Try.underlying5, Try.underlying99, ty22, ty23, ty24, ty107, ty33, ty44, ty99, ty3, ty4, ty42, ty5, rs54, gload1 m19 sz3, gload1 m18 sz3, gBuild, lfill, lput, Shape.pl, List.all_cons, List.all_nil, isCell, List.getElem?_cons_zero, List.getElem?_cons_succ]))
  refine st_all m29 sz33 rfl (by decide) rfl rfl rfl fun h10 m10 f10 => ?_
  have k21 : k2 ≠ k1 := fun q => by subst q; rw [m29] at m19; cases m19
  have hs0 : HS h h10 := fun q Bq hq => by
    have t4 := s12 _ _ hq
    have t9 := s9 _ _ (s8 _ _ (s7 _ _ t4))
    have t3 := s1 _ _ hq
    rw [f10 q (fun e => by subst e; rw [n2] at t3; cases t3)]
    exact t9
  have r8 : RB h10 (.slice a8 y.1.length c8) y.1 := (o8.rb.hs s9).hx m29 rfl (fun q Bq nq eq => (f10 q nq).trans eq)
  have r9 : RB h10 (.slice a9 y.2.length c9) y.2 := o9.rb.hx m29 rfl (fun q Bq nq eq => (f10 q nq).trans eq)
  refine mk_of ?_; repeat' (first | (with_reducible first | refine gw_seq ?_ | refine gw_block ?_) | ((first | (with_reducible refine mk_to ?_) | (with_reducible first | refine gw_region ?_ | refine gw_if ?_ | refine gw_skip ?_ | refine gw_exit ?_ | refine gw_ret ?_) | ((with_reducible first | refine gif_b (fun hb => ?_) (fun hb => ?_) | refine want_t (fun hb => ?_) (fun hb => ?_) | refine want_f (fun hb => ?_) (fun hb => ?_) | refine dr_t (fun hb => ?_) (fun hb => ?_) | refine dr_f (fun hb => ?_) (fun hb => ?_)) <;> (try simp only [hb]) <;> (try simp only [hpr] at hb)) | with_reducible refine gw_draw (id := 1) [(0, []), (1, []), (2, []), (3, []), (4, []), (5, []), (6, []), (7, []), (8, []), (9, []), (10, []), (11, []), (12, []), (13, [3, 5, 8, 10, 12]), (14, [])] [0, 1, 3, 7, 0, 16, 48, 127, 255, 0, 512, 2047, 4095, 0, 16383] mixed (by kernel_rfl) ?_ | with_reducible refine gw_draw (id := 2) [(0, []), (1, []), (2, []), (3, []), (4, []), (5, []), (7, []), (8, []), (6, [1, 3, 8]), (9, [1, 3]), (10, []), (11, [])] [0, 1, 0, 4, 0, 16, 48, 0, 128, 496, 1023, 2047] mixed (by kernel_rfl) ?_) <;> try simp only [List.map, gop, ev, lk, aenv, gyield, gBin, gInt, gStrOp, gUn, gPick, gNil, gExtract, gIfc, gConvK, gIndexO, gIndexVO, gMakeV, gMinV, gMaxV, isInt, gMin, gMax, gBlt, gLenX, gCallV, gInvoke, gNilM, Array.toList_map, vcells, gField, gIndexV, gPart, reduceIte, Nat.reduceAdd, Nat.reduceSub, Nat.reduceMul, Nat.reduceLT, Nat.reduceLeDiff, Nat.reduceEqDiff, Nat.reduceBEq, Int.reduceLT, Int.reduceLE, Int.reduceGT, Int.reduceGE, Int.reduceEq, Int.reduceNe, Int.reduceAdd, Int.reduceSub, Int.reduceMul, Int.reduceNeg, Int.reduceToNat, Int.reduceBEq, Int.reduceBNe, Int.cast_ofNat_Int, List.getElem?_toArray, stp, rvOf, rvLen, wput, wlk, rdv, isEff, dsOf, sgl, stq, Try.underlying107, Try.underlying22, Try.underlying23, Try.underlying24, Try.underlying3, Try.underlying33, Try.underlying4, Try.underlying42, Try.underlying44, Try.underlying5, Try.underlying99, ty22, ty23, ty24, ty107, ty33, ty44, ty99, ty3, ty4, ty42, ty5, rs54, gloadA m10 sz33 rfl]))
  exact ⟨⟨_, rfl, a8, c8, a9, c9, rfl, r8, r9⟩, hs0⟩

theorem c_Last (N : Nat) {h0 h : GH} {k j : Nat} {bv : Value} {cs l : List Value} {B : List (List Bnd)} {S : List UInt8 → List (Nat × Nat)} (x : IX h0 h k j bv cs l B S) :
    GTri Try.prog N 14 [.pointer (some ⟨k, 0, none⟩)] h fun v h' => v = .int .i64 (B.length : Int) ∧ h' = h := by
  obtain ⟨a5, c5, e5⟩ := x.bat.form
  subst e5
  refine gtri Try.func14 rfl gf14 ok14 (by simp [Try.ntmps14]) ?_
  refine mk_of ?_; repeat' (first | (with_reducible first | refine gw_seq ?_ | refine gw_block ?_) | ((first | (with_reducible refine mk_to ?_) | (with_reducible first | refine gw_region ?_ | refine gw_if ?_ | refine gw_skip ?_ | refine gw_exit ?_ | refine gw_ret ?_) | ((with_reducible first | refine gif_b (fun hb => ?_) (fun hb => ?_) | refine want_t (fun hb => ?_) (fun hb => ?_) | refine want_f (fun hb => ?_) (fun hb => ?_)) <;> (try simp only [hb]) <;> (try simp only [hpr] at hb)) | ((refine GTri.mono (c_vnone _ _ x.obj) ?_); rintro _ _ ⟨rfl, hh9⟩; replace hh9 := hh9.symm; subst hh9)) <;> try simp only [List.map, gop, ev, lk, aenv, gyield, gBin, gInt, gStrOp, gUn, gPick, gNil, gExtract, gIfc, gConvK, gIndexO, gIndexVO, gMakeV, gMinV, gMaxV, isInt, gMin, gMax, gBlt, gLenX, gCallV, gInvoke, gNilM, Array.toList_map, vcells, gField, gIndexV, gPart, reduceIte, Nat.reduceAdd, Nat.reduceSub, Nat.reduceMul, Nat.reduceLT, Nat.reduceLeDiff, Nat.reduceEqDiff, Nat.reduceBEq, Int.reduceLT, Int.reduceLE, Int.reduceGT, Int.reduceGE, Int.reduceEq, Int.reduceNe, Int.reduceAdd, Int.reduceSub, Int.reduceMul, Int.reduceNeg, Int.reduceToNat, Int.reduceBEq, Int.reduceBNe, Int.cast_ofNat_Int, List.getElem?_toArray, stp, Try.underlying22, Try.underlying23, Try.underlying27, Try.underlying4, Try.underlying42, Try.underlying44, ty22, ty23, ty44, ty27, ty4, ty42, rs14, gNil, gload1 x.obj sz22, List.getElem?_cons_zero, List.getElem?_cons_succ]))
/-- What counts at an epoch. -/
def AtIs (B : List (List Bnd)) (s : List (Nat × Nat)) (e : Int) (v : Value) (h : GH) : Prop := ∃ n, Upto s e n ∧
  ((n = 0 ∧ v = .tuple #[.agg #[.int .i64 0, .int .i64 0, .slice none 0 0, .slice none 0 0], .bool false]) ∨
   ∃ p cs, n ≠ 0 ∧ s[n - 1]? = some p ∧ v = .tuple #[.agg cs.toArray, .bool true] ∧ Ev h cs (evOf B p))
theorem c_At (N : Nat) {h0 h : GH} {k j : Nat} {bv : Value} {cs l : List Value} {B : List (List Bnd)} {S : List UInt8 → List (Nat × Nat)} (x : IX h0 h k j bv cs l B S) (hB : B.length ≤ 100) {a : Option Addr} {n c : Nat} {id : List UInt8} (r : RB h (.slice a n c) id) (e : Int) :
    GTri Try.prog N 15 [.pointer (some ⟨k, 0, none⟩), .slice a n c, .int .i64 e] h fun v h' => AtIs B (S id) e v h' ∧ HS h h' := by
  have hl := x.sl id
  refine gtri Try.func15 rfl gf15 ok15 (by simp [Try.ntmps15]) ?_
  repeat' (first | (with_reducible first | refine gw_seq ?_ | refine gw_block ?_) | ((first | (with_reducible first | refine gw_region ?_ | refine gw_if ?_ | refine gw_skip ?_ | refine gw_exit ?_ | refine gw_ret ?_) | ((with_reducible first | refine gif_b (fun hb => ?_) (fun hb => ?_) | refine want_t (fun hb => ?_) (fun hb => ?_) | refine want_f (fun hb => ?_) (fun hb => ?_)) <;> (try simp only [hb]) <;> (try simp only [hpr] at hb))) <;> try simp only [List.map, gop, ev, lk, aenv, gyield, gBin, gInt, gStrOp, gUn, gPick, gNil, gExtract, gIfc, gConvK, gIndexO, gIndexVO, gMakeV, gMinV, gMaxV, isInt, gMin, gMax, gBlt, gLenX, gCallV, gInvoke, gNilM, Array.toList_map, vcells, gField, gIndexV, gPart, reduceIte, Nat.reduceAdd, Nat.reduceSub, Nat.reduceMul, Nat.reduceLT, Nat.reduceLeDiff, Nat.reduceEqDiff, Nat.reduceBEq, Int.reduceLT, Int.reduceLE, Int.reduceGT, Int.reduceGE, Int.reduceEq, Int.reduceNe, Int.reduceAdd, Int.reduceSub, Int.reduceMul, Int.reduceNeg, Int.reduceToNat, Int.reduceBEq, Int.reduceBNe, Int.cast_ofNat_Int, List.getElem?_toArray, stp, Try.underlying104, Try.underlying107, Try.underlying24, Try.underlying27, Try.underlying3, Try.underlying33, Try.underlying44, Try.underlying5, ty104, ty24, ty107, ty33, ty44, ty27, ty3, ty5, rs15]))
  refine new_g fun k1 h1 m1 s1 f1 n1 => ?_
  have x1 := x.hs s1
  obtain ⟨a2, c2, e2, _⟩ := (x1.spots id).form
  refine mk_of ?_; repeat' (first | (with_reducible first | refine gw_seq ?_ | refine gw_block ?_) | ((first | (with_reducible refine mk_to ?_) | (with_reducible first | refine gw_region ?_ | refine gw_if ?_ | refine gw_skip ?_ | refine gw_exit ?_ | refine gw_ret ?_) | ((with_reducible first | refine gif_b (fun hb => ?_) (fun hb => ?_) | refine want_t (fun hb => ?_) (fun hb => ?_) | refine want_f (fun hb => ?_) (fun hb => ?_)) <;> (try simp only [hb]) <;> (try simp only [hpr] at hb)) | ((refine GTri.mono (c_vof _ x1 (r.hs s1)) ?_); rintro _ _ ⟨rfl, hh9⟩; replace hh9 := hh9.symm; subst hh9)) <;> try simp only [List.map, gop, ev, lk, aenv, gyield, gBin, gInt, gStrOp, gUn, gPick, gNil, gExtract, gIfc, gConvK, gIndexO, gIndexVO, gMakeV, gMinV, gMaxV, isInt, gMin, gMax, gBlt, gLenX, gCallV, gInvoke, gNilM, Array.toList_map, vcells, gField, gIndexV, gPart, reduceIte, Nat.reduceAdd, Nat.reduceSub, Nat.reduceMul, Nat.reduceLT, Nat.reduceLeDiff, Nat.reduceEqDiff, Nat.reduceBEq, Int.reduceLT, Int.reduceLE, Int.reduceGT, Int.reduceGE, Int.reduceEq, Int.reduceNe, Int.reduceAdd, Int.reduceSub, Int.reduceMul, Int.reduceNeg, Int.reduceToNat, Int.reduceBEq, Int.reduceBNe, Int.cast_ofNat_Int, List.getElem?_toArray, stp, Try.underlying104, Try.underlying107, Try.underlying24, Try.underlying27, Try.underlying3, Try.underlying33, Try.underlying44, Try.underlying5, ty104, ty24, ty107, ty33, ty44, ty27, ty3, ty5, rs15]))
  rw [e2]
  refine mk_of ?_; repeat' (first | (with_reducible first | refine gw_seq ?_ | refine gw_block ?_) | ((first | (with_reducible refine mk_to ?_) | (with_reducible first | refine gw_region ?_ | refine gw_if ?_ | refine gw_skip ?_ | refine gw_exit ?_ | refine gw_ret ?_) | ((with_reducible first | refine gif_b (fun hb => ?_) (fun hb => ?_) | refine want_t (fun hb => ?_) (fun hb => ?_) | refine want_f (fun hb => ?_) (fun hb => ?_)) <;> (try simp only [hb]) <;> (try simp only [hpr] at hb))) <;> try simp only [List.map, gop, ev, lk, aenv, gyield, gBin, gInt, gStrOp, gUn, gPick, gNil, gExtract, gIfc, gConvK, gIndexO, gIndexVO, gMakeV, gMinV, gMaxV, isInt, gMin, gMax, gBlt, gLenX, gCallV, gInvoke, gNilM, Array.toList_map, vcells, gField, gIndexV, gPart, reduceIte, Nat.reduceAdd, Nat.reduceSub, Nat.reduceMul, Nat.reduceLT, Nat.reduceLeDiff, Nat.reduceEqDiff, Nat.reduceBEq, Int.reduceLT, Int.reduceLE, Int.reduceGT, Int.reduceGE, Int.reduceEq, Int.reduceNe, Int.reduceAdd, Int.reduceSub, Int.reduceMul, Int.reduceNeg, Int.reduceToNat, Int.reduceBEq, Int.reduceBNe, Int.cast_ofNat_Int, List.getElem?_toArray, stp, Try.underlying104, Try.underlying107, Try.underlying24, Try.underlying27, Try.underlying3, Try.underlying33, Try.underlying44, Try.underlying5, ty104, ty24, ty107, ty33, ty44, ty27, ty3, ty5, rs15]))
  refine (c_upto N h1 (v := .slice a2 (S id).length c2) (by rw [← e2]; exact x1.spots id) (by omega) (x.ris id) e).mono ?_
  rintro _ h3 ⟨⟨n3, rfl, up⟩, s3⟩
  by_cases hn : n3 = 0
  · subst hn
    have m3 := s3 _ _ m1
    refine mk_of ?_; repeat' (first | (with_reducible first | refine gw_seq ?_ | refine gw_block ?_) | ((first | (with_reducible refine mk_to ?_) | (with_reducible first | refine gw_region ?_ | refine gw_if ?_ | refine gw_skip ?_ | refine gw_exit ?_ | refine gw_ret ?_) | ((with_reducible first | refine gif_b (fun hb => ?_) (fun hb => ?_) | refine want_t (fun hb => ?_) (fun hb => ?_) | refine want_f (fun hb => ?_) (fun hb => ?_)) <;> (try simp only [hb]) <;> (try simp only [hpr] at hb))) <;> try simp only [List.map, gop, ev, lk, aenv, gyield, gBin, gInt, gStrOp, gUn, gPick, gNil, gExtract, gIfc, gConvK, gIndexO, gIndexVO, gMakeV, gMinV, gMaxV, isInt, gMin, gMax, gBlt, gLenX, gCallV, gInvoke, gNilM, Array.toList_map, vcells, gField, gIndexV, gPart, reduceIte, Nat.reduceAdd, Nat.reduceSub, Nat.reduceMul, Nat.reduceLT, Nat.reduceLeDiff, Nat.reduceEqDiff, Nat.reduceBEq, Int.reduceLT, Int.reduceLE, Int.reduceGT, Int.reduceGE, Int.reduceEq, Int.reduceNe, Int.reduceAdd, Int.reduceSub, Int.reduceMul, Int.reduceNeg, Int.reduceToNat, Int.reduceBEq, Int.reduceBNe, Int.cast_ofNat_Int, List.getElem?_toArray, stp, Try.underlying104, Try.underlying107, Try.underlying24, Try.underlying27, Try.underlying3, Try.underlying33, Try.underlying44, Try.underlying5, ty104, ty24, ty107, ty33, ty44, ty27, ty3, ty5, rs15, gBuild, lfill, lput, Shape.pl]))
    refine st_all m3 sz33 rfl (by decide) rfl rfl rfl fun h4 m4 f4 => ?_
    refine mk_of ?_; repeat' (first | (with_reducible first | refine gw_seq ?_ | refine gw_block ?_) | ((first | (with_reducible refine mk_to ?_) | (with_reducible first | refine gw_region ?_ | refine gw_if ?_ | refine gw_skip ?_ | refine gw_exit ?_ | refine gw_ret ?_) | ((with_reducible first | refine gif_b (fun hb => ?_) (fun hb => ?_) | refine want_t (fun hb => ?_) (fun hb => ?_) | refine want_f (fun hb => ?_) (fun hb => ?_)) <;> (try simp only [hb]) <;> (try simp only [hpr] at hb))) <;> try simp only [List.map, gop, ev, lk, aenv, gyield, gBin, gInt, gStrOp, gUn, gPick, gNil, gExtract, gIfc, gConvK, gIndexO, gIndexVO, gMakeV, gMinV, gMaxV, isInt, gMin, gMax, gBlt, gLenX, gCallV, gInvoke, gNilM, Array.toList_map, vcells, gField, gIndexV, gPart, reduceIte, Nat.reduceAdd, Nat.reduceSub, Nat.reduceMul, Nat.reduceLT, Nat.reduceLeDiff, Nat.reduceEqDiff, Nat.reduceBEq, Int.reduceLT, Int.reduceLE, Int.reduceGT, Int.reduceGE, Int.reduceEq, Int.reduceNe, Int.reduceAdd, Int.reduceSub, Int.reduceMul, Int.reduceNeg, Int.reduceToNat, Int.reduceBEq, Int.reduceBNe, Int.cast_ofNat_Int, List.getElem?_toArray, stp, Try.underlying104, Try.underlying107, Try.underlying24, Try.underlying27, Try.underlying3, Try.underlying33, Try.underlying44, Try.underlying5, ty104, ty24, ty107, ty33, ty44, ty27, ty3, ty5, rs15, gloadA m4 sz33 rfl]))
    exact ⟨⟨0, up, .inl ⟨rfl, rfl⟩⟩, (s1.trans s3).upd n1 f4⟩
  · have d : ((n3 : Int) == 0) = false := by simpa using hn
    have hlt : n3 - 1 < (S id).length := by have := up.1; omega
    obtain ⟨p, hp⟩ : ∃ p, (S id)[n3 - 1]? = some p := ⟨_, List.getElem?_eq_getElem hlt⟩
    have w : IntKind.i64.wrap ((n3 : Int) - 1) = ((n3 - 1 : Nat) : Int) := by have := up.1; rw [wrap64 (by omega) (by omega)]; omega
    have x3 := x1.hs s3
    obtain ⟨ad, cs2, g1, g2, g3⟩ := (x3.spots id).at (P := Try.prog) Try.underlying104 sz107 hp
    unfold Sp at g3
    subst g3
    rw [e2] at g1
    have l4 : gLoad Try.prog 107 h3 (.pointer (some ad)) = some (.agg #[.int .i64 p.1, .int .i64 p.2]) := by simp only [gLoad, sz107, g2]; rfl
    refine mk_of ?_; repeat' (first | (with_reducible first | refine gw_seq ?_ | refine gw_block ?_) | ((first | (with_reducible refine mk_to ?_) | (with_reducible first | refine gw_region ?_ | refine gw_if ?_ | refine gw_skip ?_ | refine gw_exit ?_ | refine gw_ret ?_) | ((with_reducible first | refine gif_b (fun hb => ?_) (fun hb => ?_) | refine want_t (fun hb => ?_) (fun hb => ?_) | refine want_f (fun hb => ?_) (fun hb => ?_)) <;> (try simp only [hb]) <;> (try simp only [hpr] at hb))) <;> try simp only [List.map, gop, ev, lk, aenv, gyield, gBin, gInt, gStrOp, gUn, gPick, gNil, gExtract, gIfc, gConvK, gIndexO, gIndexVO, gMakeV, gMinV, gMaxV, isInt, gMin, gMax, gBlt, gLenX, gCallV, gInvoke, gNilM, Array.toList_map, vcells, gField, gIndexV, gPart, reduceIte, Nat.reduceAdd, Nat.reduceSub, Nat.reduceMul, Nat.reduceLT, Nat.reduceLeDiff, Nat.reduceEqDiff, Nat.reduceBEq, Int.reduceLT, Int.reduceLE, Int.reduceGT, Int.reduceGE, Int.reduceEq, Int.reduceNe, Int.reduceAdd, Int.reduceSub, Int.reduceMul, Int.reduceNeg, Int.reduceToNat, Int.reduceBEq, Int.reduceBNe, Int.cast_ofNat_Int, List.getElem?_toArray, stp, Try.underlying104, Try.underlying107, Try.underlying24, Try.underlying27, Try.underlying3, Try.underlying33, Try.underlying44, Try.underlying5, ty104, ty24, ty107, ty33, ty44, ty27, ty3, ty5, rs15, d, w, g1, l4]))
    refine (c_event N x3 hB (List.mem_of_getElem? hp)).mono ?_
    rintro _ h5 ⟨⟨cs5, rfl, ev5⟩, s5⟩
    have hv : ∃ q1 q2 q3 q4, cs5 = [q1, q2, q3, q4] := by
      obtain ⟨_, _, _, _, q, _⟩ := ev5
      exact ⟨_, _, _, _, q⟩
    obtain ⟨q1, q2, q3, q4, rfl⟩ := hv
    have m5 := s5 _ _ (s3 _ _ m1)
    refine mk_of ?_; repeat' (first | (with_reducible first | refine gw_seq ?_ | refine gw_block ?_) | ((first | (with_reducible refine mk_to ?_) | (with_reducible first | refine gw_region ?_ | refine gw_if ?_ | refine gw_skip ?_ | refine gw_exit ?_ | refine gw_ret ?_) | ((with_reducible first | refine gif_b (fun hb => ?_) (fun hb => ?_) | refine want_t (fun hb => ?_) (fun hb => ?_) | refine want_f (fun hb => ?_) (fun hb => ?_)) <;> (try simp only [hb]) <;> (try simp only [hpr] at hb))) <;> try simp only [List.map, gop, ev, lk, aenv, gyield, gBin, gInt, gStrOp, gUn, gPick, gNil, gExtract, gIfc, gConvK, gIndexO, gIndexVO, gMakeV, gMinV, gMaxV, isInt, gMin, gMax, gBlt, gLenX, gCallV, gInvoke, gNilM, Array.toList_map, vcells, gField, gIndexV, gPart, reduceIte, Nat.reduceAdd, Nat.reduceSub, Nat.reduceMul, Nat.reduceLT, Nat.reduceLeDiff, Nat.reduceEqDiff, Nat.reduceBEq, Int.reduceLT, Int.reduceLE, Int.reduceGT, Int.reduceGE, Int.reduceEq, Int.reduceNe, Int.reduceAdd, Int.reduceSub, Int.reduceMul, Int.reduceNeg, Int.reduceToNat, Int.reduceBEq, Int.reduceBNe, Int.cast_ofNat_Int, List.getElem?_toArray, stp, Try.underlying104, Try.underlying107, Try.underlying24, Try.underlying27, Try.underlying3, Try.underlying33, Try.underlying44, Try.underlying5, ty104, ty24, ty107, ty33, ty44, ty27, ty3, ty5, rs15]))
    refine st_all m5 sz33 rfl (by decide) rfl rfl (by obtain ⟨_, _, _, _, q, _⟩ := ev5; cases q; rfl) fun h6 m6 f6 => ?_
    refine mk_of ?_; repeat' (first | (with_reducible first | refine gw_seq ?_ | refine gw_block ?_) | ((first | (with_reducible refine mk_to ?_) | (with_reducible first | refine gw_region ?_ | refine gw_if ?_ | refine gw_skip ?_ | refine gw_exit ?_ | refine gw_ret ?_) | ((with_reducible first | refine gif_b (fun hb => ?_) (fun hb => ?_) | refine want_t (fun hb => ?_) (fun hb => ?_) | refine want_f (fun hb => ?_) (fun hb => ?_)) <;> (try simp only [hb]) <;> (try simp only [hpr] at hb))) <;> try simp only [List.map, gop, ev, lk, aenv, gyield, gBin, gInt, gStrOp, gUn, gPick, gNil, gExtract, gIfc, gConvK, gIndexO, gIndexVO, gMakeV, gMinV, gMaxV, isInt, gMin, gMax, gBlt, gLenX, gCallV, gInvoke, gNilM, Array.toList_map, vcells, gField, gIndexV, gPart, reduceIte, Nat.reduceAdd, Nat.reduceSub, Nat.reduceMul, Nat.reduceLT, Nat.reduceLeDiff, Nat.reduceEqDiff, Nat.reduceBEq, Int.reduceLT, Int.reduceLE, Int.reduceGT, Int.reduceGE, Int.reduceEq, Int.reduceNe, Int.reduceAdd, Int.reduceSub, Int.reduceMul, Int.reduceNeg, Int.reduceToNat, Int.reduceBEq, Int.reduceBNe, Int.cast_ofNat_Int, List.getElem?_toArray, stp, Try.underlying104, Try.underlying107, Try.underlying24, Try.underlying27, Try.underlying3, Try.underlying33, Try.underlying44, Try.underlying5, ty104, ty24, ty107, ty33, ty44, ty27, ty3, ty5, rs15, gloadA m6 sz33 rfl]))
    have hs6 := ((s1.trans s3).trans s5).upd n1 f6
    refine ⟨⟨n3, up, .inr ⟨p, _, hn, hp, rfl, ?_⟩⟩, hs6⟩
    obtain ⟨a7, c7, b7, d7, q, r7, r8⟩ := ev5
    exact ⟨a7, c7, b7, d7, q, r7.hx m5 rfl (fun q Bq nq eq => (f6 q nq).trans eq), r8.hx m5 rfl (fun q Bq nq eq => (f6 q nq).trans eq)⟩
end Go.Gh

/- Versions: an identity's changes, listed; and events, compared. -/

namespace Go.Gh
open Go Go.Proofs Go.RowKit
set_option linter.unusedVariables false
set_option linter.unusedSimpArgs false
set_option maxRecDepth 100000
set_option maxHeartbeats 1000000

/-- Changes in an array of one's own. -/
def Evs (h0 h : GH) (v : Value) (L : List (Nat × Nat × Bnd)) : Prop := ∃ ds, OWNC 4 h0 h v L.length ds ∧ ds.all notU8 = true ∧ ∀ (i : Nat) p, L[i]? = some p → Ev h ((ds.drop (i * 4)).take 4) p
theorem Evs.hs {h0 h h' : GH} {v : Value} {L : List (Nat × Nat × Bnd)} (x : Evs h0 h v L) (s : HS h h') : Evs h0 h' v L := by
  obtain ⟨ds, o, u, r⟩ := x
  exact ⟨ds, o.hs s, u, fun i p hp => (r i p hp).hs s⟩
theorem Evs.rl {h0 h : GH} {v : Value} {L : List (Nat × Nat × Bnd)} (x : Evs h0 h v L) : RL 4 Ev h v L := by
  obtain ⟨ds, o, _, r⟩ := x
  exact o.rl r
theorem app_el {α : Type} {es : Nat} {R : List Value → α → Prop} {L : List α} {x : α} {ds cs : List Value} (hd : ds.length = L.length * es) (hc : cs.length = es) (h1 : ∀ (i : Nat) p, L[i]? = some p → R ((ds.drop (i * es)).take es) p) (h2 : R cs x) :
    ∀ (i : Nat) p, (L ++ [x])[i]? = some p → R (((ds ++ cs).drop (i * es)).take es) p := by
  intro i p hp
  rcases Nat.lt_or_ge i L.length with hi | hi
  · rw [List.getElem?_append_left hi] at hp
    have hle : i * es + es ≤ ds.length := by
      rw [hd]
      have := Nat.mul_le_mul_right es (show i + 1 ≤ L.length by omega)
      rw [Nat.add_mul, Nat.one_mul] at this; exact this
    rw [List.drop_append_of_le_length (by omega), List.take_append_of_le_length (by rw [List.length_drop]; omega)]
    exact h1 i p hp
  · rw [List.getElem?_append_right hi] at hp
    have hi0 : i = L.length := by
      have := (List.getElem?_eq_some_iff.1 hp).1
      simp at this; omega
    subst hi0
    simp at hp
    subst hp
    rw [← hd, List.drop_left, ← hc, List.take_length]
    exact h2
theorem Ev.cells {h : GH} {cs : List Value} {e : Nat × Nat × Bnd} (r : Ev h cs e) : cs.length = 4 ∧ cs.all isCell = true ∧ cs.all notU8 = true ∧ vcells (.agg cs.toArray) = cs := by
  obtain ⟨a, c, b, d, rfl, _⟩ := r
  exact ⟨rfl, rfl, rfl, rfl⟩
/-- What has been listed, downwards, from n2 to m. -/
def lsd (B : List (List Bnd)) (s : List (Nat × Nat)) (m n : Nat) : List (Nat × Nat × Bnd) := (((s.take n).drop m).reverse).map (evOf B)
theorem lsd_self (B : List (List Bnd)) (s : List (Nat × Nat)) {m n : Nat} (h : n ≤ m) : lsd B s m n = [] := by
  have : (s.take n).drop m = [] := List.drop_eq_nil_of_le (by rw [List.length_take]; omega)
  simp [lsd, this]
theorem lsd_step (B : List (List Bnd)) (s : List (Nat × Nat)) {m n : Nat} {p : Nat × Nat} (hp : s[m]? = some p) (h : m < n) : lsd B s m n = lsd B s (m + 1) n ++ [evOf B p] := by
  have h1 : (s.take n)[m]? = some p := by rw [List.getElem?_take, if_pos h]; exact hp
  obtain ⟨h2, h3⟩ := List.getElem?_eq_some_iff.1 h1
  unfold lsd
  rw [List.drop_eq_getElem_cons h2, h3, List.reverse_cons, List.map_append, List.map_singleton]
theorem lsd_len (B : List (List Bnd)) (s : List (Nat × Nat)) (m n : Nat) (hn : n ≤ s.length) : (lsd B s m n).length = n - m := by
  simp [lsd, List.length_take, Nat.min_eq_left hn]

theorem c_List (N : Nat) {h0 h : GH} {k j : Nat} {bv : Value} {cs l : List Value} {B : List (List Bnd)} {S : List UInt8 → List (Nat × Nat)} (x : IX h0 h k j bv cs l B S) (hB : B.length ≤ 100) {a : Option Addr} {n c : Nat} {id : List UInt8} (r : RB h (.slice a n c) id) (f e : Int) :
    GTri Try.prog N 16 [.pointer (some ⟨k, 0, none⟩), .slice a n c, .int .i64 f, .int .i64 e] h fun v h' => (∃ n1 n2, Upto (S id) f n1 ∧ Upto (S id) e n2 ∧ Evs h h' v (lsd B (S id) n1 n2)) ∧ HS h h' := by
  have hl := x.sl id
  obtain ⟨a2, c2, e2, _⟩ := (x.spots id).form
  refine gtri Try.func16 rfl gf16 ok16 (by simp [Try.ntmps16]) ?_
  refine mk_of ?_; repeat' (first | (with_reducible first | refine gw_seq ?_ | refine gw_block ?_) | ((first | (with_reducible refine mk_to ?_) | (with_reducible first | refine gw_region ?_ | refine gw_if ?_ | refine gw_skip ?_ | refine gw_exit ?_ | refine gw_ret ?_) | ((with_reducible first | refine gif_b (fun hb => ?_) (fun hb => ?_) | refine want_t (fun hb => ?_) (fun hb => ?_) | refine want_f (fun hb => ?_) (fun hb => ?_)) <;> (try simp only [hb]) <;> (try simp only [hpr] at hb)) | ((refine GTri.mono (c_vof _ x r) ?_); rintro _ _ ⟨rfl, hh9⟩; replace hh9 := hh9.symm; subst hh9)) <;> try simp only [List.map, gop, ev, lk, aenv, gyield, gBin, gInt, gStrOp, gUn, gPick, gNil, gExtract, gIfc, gConvK, gIndexO, gIndexVO, gMakeV, gMinV, gMaxV, isInt, gMin, gMax, gBlt, gLenX, gCallV, gInvoke, gNilM, Array.toList_map, vcells, gField, gIndexV, gPart, reduceIte, Nat.reduceAdd, Nat.reduceSub, Nat.reduceMul, Nat.reduceLT, Nat.reduceLeDiff, Nat.reduceEqDiff, Nat.reduceBEq, Int.reduceLT, Int.reduceLE, Int.reduceGT, Int.reduceGE, Int.reduceEq, Int.reduceNe, Int.reduceAdd, Int.reduceSub, Int.reduceMul, Int.reduceNeg, Int.reduceToNat, Int.reduceBEq, Int.reduceBNe, Int.cast_ofNat_Int, List.getElem?_toArray, stp, Try.underlying104, Try.underlying107, Try.underlying24, Try.underlying27, Try.underlying3, Try.underlying33, Try.underlying36, Try.underlying44, Try.underlying5, ty104, ty24, ty36, ty107, ty33, ty44, ty27, ty3, ty5, rs16]))
  rw [e2]
  refine mk_of ?_; repeat' (first | (with_reducible first | refine gw_seq ?_ | refine gw_block ?_) | ((first | (with_reducible refine mk_to ?_) | (with_reducible first | refine gw_region ?_ | refine gw_if ?_ | refine gw_skip ?_ | refine gw_exit ?_ | refine gw_ret ?_) | ((with_reducible first | refine gif_b (fun hb => ?_) (fun hb => ?_) | refine want_t (fun hb => ?_) (fun hb => ?_) | refine want_f (fun hb => ?_) (fun hb => ?_)) <;> (try simp only [hb]) <;> (try simp only [hpr] at hb))) <;> try simp only [List.map, gop, ev, lk, aenv, gyield, gBin, gInt, gStrOp, gUn, gPick, gNil, gExtract, gIfc, gConvK, gIndexO, gIndexVO, gMakeV, gMinV, gMaxV, isInt, gMin, gMax, gBlt, gLenX, gCallV, gInvoke, gNilM, Array.toList_map, vcells, gField, gIndexV, gPart, reduceIte, Nat.reduceAdd, Nat.reduceSub, Nat.reduceMul, Nat.reduceLT, Nat.reduceLeDiff, Nat.reduceEqDiff, Nat.reduceBEq, Int.reduceLT, Int.reduceLE, Int.reduceGT, Int.reduceGE, Int.reduceEq, Int.reduceNe, Int.reduceAdd, Int.reduceSub, Int.reduceMul, Int.reduceNeg, Int.reduceToNat, Int.reduceBEq, Int.reduceBNe, Int.cast_ofNat_Int, List.getElem?_toArray, stp, Try.underlying104, Try.underlying107, Try.underlying24, Try.underlying27, Try.underlying3, Try.underlying33, Try.underlying36, Try.underlying44, Try.underlying5, ty104, ty24, ty36, ty107, ty33, ty44, ty27, ty3, ty5, rs16]))
  refine (c_upto N h (v := .slice a2 (S id).length c2) (by rw [← e2]; exact x.spots id) (by omega) (x.ris id) f).mono ?_
  rintro _ h3 ⟨⟨n1, rfl, up1⟩, s3⟩
  refine mk_of ?_; repeat' (first | (with_reducible first | refine gw_seq ?_ | refine gw_block ?_) | ((first | (with_reducible refine mk_to ?_) | (with_reducible first | refine gw_region ?_ | refine gw_if ?_ | refine gw_skip ?_ | refine gw_exit ?_ | refine gw_ret ?_) | ((with_reducible first | refine gif_b (fun hb => ?_) (fun hb => ?_) | refine want_t (fun hb => ?_) (fun hb => ?_) | refine want_f (fun hb => ?_) (fun hb => ?_)) <;> (try simp only [hb]) <;> (try simp only [hpr] at hb))) <;> try simp only [List.map, gop, ev, lk, aenv, gyield, gBin, gInt, gStrOp, gUn, gPick, gNil, gExtract, gIfc, gConvK, gIndexO, gIndexVO, gMakeV, gMinV, gMaxV, isInt, gMin, gMax, gBlt, gLenX, gCallV, gInvoke, gNilM, Array.toList_map, vcells, gField, gIndexV, gPart, reduceIte, Nat.reduceAdd, Nat.reduceSub, Nat.reduceMul, Nat.reduceLT, Nat.reduceLeDiff, Nat.reduceEqDiff, Nat.reduceBEq, Int.reduceLT, Int.reduceLE, Int.reduceGT, Int.reduceGE, Int.reduceEq, Int.reduceNe, Int.reduceAdd, Int.reduceSub, Int.reduceMul, Int.reduceNeg, Int.reduceToNat, Int.reduceBEq, Int.reduceBNe, Int.cast_ofNat_Int, List.getElem?_toArray, stp, Try.underlying104, Try.underlying107, Try.underlying24, Try.underlying27, Try.underlying3, Try.underlying33, Try.underlying36, Try.underlying44, Try.underlying5, ty104, ty24, ty36, ty107, ty33, ty44, ty27, ty3, ty5, rs16]))
  refine (c_upto N h3 (v := .slice a2 (S id).length c2) (by rw [← e2]; exact (x.hs s3).spots id) (by omega) (x.ris id) e).mono ?_
  rintro _ h4 ⟨⟨n2, rfl, up2⟩, s4⟩
  have w0 : IntKind.i64.wrap ((n2 : Int) - 1) = (n2 : Int) - 1 := by have := up2.1; rw [wrap64 (by omega) (by omega)]
  refine mk_of ?_; repeat' (first | (with_reducible first | refine gw_seq ?_ | refine gw_block ?_) | ((first | (with_reducible refine mk_to ?_) | (with_reducible first | refine gw_region ?_ | refine gw_if ?_ | refine gw_skip ?_ | refine gw_exit ?_ | refine gw_ret ?_) | ((with_reducible first | refine gif_b (fun hb => ?_) (fun hb => ?_) | refine want_t (fun hb => ?_) (fun hb => ?_) | refine want_f (fun hb => ?_) (fun hb => ?_)) <;> (try simp only [hb]) <;> (try simp only [hpr] at hb))) <;> try simp only [List.map, gop, ev, lk, aenv, gyield, gBin, gInt, gStrOp, gUn, gPick, gNil, gExtract, gIfc, gConvK, gIndexO, gIndexVO, gMakeV, gMinV, gMaxV, isInt, gMin, gMax, gBlt, gLenX, gCallV, gInvoke, gNilM, Array.toList_map, vcells, gField, gIndexV, gPart, reduceIte, Nat.reduceAdd, Nat.reduceSub, Nat.reduceMul, Nat.reduceLT, Nat.reduceLeDiff, Nat.reduceEqDiff, Nat.reduceBEq, Int.reduceLT, Int.reduceLE, Int.reduceGT, Int.reduceGE, Int.reduceEq, Int.reduceNe, Int.reduceAdd, Int.reduceSub, Int.reduceMul, Int.reduceNeg, Int.reduceToNat, Int.reduceBEq, Int.reduceBNe, Int.cast_ofNat_Int, List.getElem?_toArray, stp, Try.underlying104, Try.underlying107, Try.underlying24, Try.underlying27, Try.underlying3, Try.underlying33, Try.underlying36, Try.underlying44, Try.underlying5, ty104, ty24, ty36, ty107, ty33, ty44, ty27, ty3, ty5, rs16, w0]))
  refine gw_loop2 [0, 8, 9, 10] (fun (x : Nat × (Option Addr × Nat × Nat)) => [(12, .slice x.2.1 x.2.2.1 x.2.2.2), (13, .int .i64 ((x.1 : Int) - 1))])
    (fun q x h' => x.1 = q ∧ x.1 ≤ n2 ∧ (n1 ≤ x.1 ∨ x.1 = n2) ∧ HS h h' ∧ Evs h h' (.slice x.2.1 x.2.2.1 x.2.2.2) (lsd B (S id) x.1 n2)) n2 (n2, (none, 0, 0)) (by simp [lk])
    ⟨rfl, Nat.le_refl _, .inr rfl, s3.trans s4, by rw [lsd_self B _ (Nat.le_refl _)]; exact ⟨[], OWNC.nil _ _ _, rfl, fun i p hp => by simp at hp⟩⟩ ?_
  rintro _ ⟨m, a5, n5, c5⟩ h5 ⟨rfl, hm, hn, s5, es⟩
  simp only at hm hn es
  by_cases hlt : n1 < m
  case neg =>
    have d : decide ((m : Int) - 1 ≥ (n1 : Int)) = false := decide_eq_false (by omega)
    refine mk_of ?_; repeat' (first | (with_reducible first | refine gw_seq ?_ | refine gw_block ?_) | ((first | (with_reducible refine mk_to ?_) | (with_reducible first | refine gw_region ?_ | refine gw_if ?_ | refine gw_skip ?_ | refine gw_exit ?_ | refine gw_ret ?_) | ((with_reducible first | refine gif_b (fun hb => ?_) (fun hb => ?_) | refine want_t (fun hb => ?_) (fun hb => ?_) | refine want_f (fun hb => ?_) (fun hb => ?_)) <;> (try simp only [hb]) <;> (try simp only [hpr] at hb))) <;> try simp only [List.map, gop, ev, lk, aenv, gyield, gBin, gInt, gStrOp, gUn, gPick, gNil, gExtract, gIfc, gConvK, gIndexO, gIndexVO, gMakeV, gMinV, gMaxV, isInt, gMin, gMax, gBlt, gLenX, gCallV, gInvoke, gNilM, Array.toList_map, vcells, gField, gIndexV, gPart, reduceIte, Nat.reduceAdd, Nat.reduceSub, Nat.reduceMul, Nat.reduceLT, Nat.reduceLeDiff, Nat.reduceEqDiff, Nat.reduceBEq, Int.reduceLT, Int.reduceLE, Int.reduceGT, Int.reduceGE, Int.reduceEq, Int.reduceNe, Int.reduceAdd, Int.reduceSub, Int.reduceMul, Int.reduceNeg, Int.reduceToNat, Int.reduceBEq, Int.reduceBNe, Int.cast_ofNat_Int, List.getElem?_toArray, stp, Try.underlying104, Try.underlying107, Try.underlying24, Try.underlying27, Try.underlying3, Try.underlying33, Try.underlying36, Try.underlying44, Try.underlying5, ty104, ty24, ty36, ty107, ty33, ty44, ty27, ty3, ty5, rs16, d]))
    have e9 : lsd B (S id) n1 n2 = lsd B (S id) m n2 := by
      rcases hn with hn | hn
      · rw [show m = n1 by omega]
      · rw [lsd_self B _ (by omega), lsd_self B _ (by omega)]
    exact ⟨⟨n1, n2, up1, up2, by rw [e9]; exact es⟩, s5⟩
  obtain ⟨m, rfl⟩ : ∃ m', m = m' + 1 := ⟨m - 1, by omega⟩
  have d : decide (((m + 1 : Nat) : Int) - 1 ≥ (n1 : Int)) = true := decide_eq_true (by omega)
  have ei : ((m + 1 : Nat) : Int) - 1 = (m : Int) := by omega
  have w1 : IntKind.i64.wrap ((m : Int) - 1) = (m : Int) - 1 := by have := up2.1; rw [wrap64 (by omega) (by omega)]
  have hlt2 : m < (S id).length := by have := up2.1; omega
  obtain ⟨p, hp⟩ : ∃ p, (S id)[m]? = some p := ⟨_, List.getElem?_eq_getElem hlt2⟩
  have x5 := x.hs s5
  obtain ⟨ad, cs2, g1, g2, g3⟩ := (x5.spots id).at (P := Try.prog) Try.underlying104 sz107 hp
  unfold Sp at g3
  subst g3
  rw [e2] at g1
  have l4 : gLoad Try.prog 107 h5 (.pointer (some ad)) = some (.agg #[.int .i64 p.1, .int .i64 p.2]) := by simp only [gLoad, sz107, g2]; rfl
  rw [ei] at d
  refine mk_of ?_; repeat' (first | (with_reducible first | refine gw_seq ?_ | refine gw_block ?_) | ((first | (with_reducible refine mk_to ?_) | (with_reducible first | refine gw_region ?_ | refine gw_if ?_ | refine gw_skip ?_ | refine gw_exit ?_ | refine gw_ret ?_) | ((with_reducible first | refine gif_b (fun hb => ?_) (fun hb => ?_) | refine want_t (fun hb => ?_) (fun hb => ?_) | refine want_f (fun hb => ?_) (fun hb => ?_)) <;> (try simp only [hb]) <;> (try simp only [hpr] at hb))) <;> try simp only [List.map, gop, ev, lk, aenv, gyield, gBin, gInt, gStrOp, gUn, gPick, gNil, gExtract, gIfc, gConvK, gIndexO, gIndexVO, gMakeV, gMinV, gMaxV, isInt, gMin, gMax, gBlt, gLenX, gCallV, gInvoke, gNilM, Array.toList_map, vcells, gField, gIndexV, gPart, reduceIte, Nat.reduceAdd, Nat.reduceSub, Nat.reduceMul, Nat.reduceLT, Nat.reduceLeDiff, Nat.reduceEqDiff, Nat.reduceBEq, Int.reduceLT, Int.reduceLE, Int.reduceGT, Int.reduceGE, Int.reduceEq, Int.reduceNe, Int.reduceAdd, Int.reduceSub, Int.reduceMul, Int.reduceNeg, Int.reduceToNat, Int.reduceBEq, Int.reduceBNe, Int.cast_ofNat_Int, List.getElem?_toArray, stp, Try.underlying104, Try.underlying107, Try.underlying24, Try.underlying27, Try.underlying3, Try.underlying33, Try.underlying36, Try.underlying44, Try.underlying5, ty104, ty24, ty36, ty107, ty33, ty44, ty27, ty3, ty5, rs16, ei, d, g1, l4]))
  refine (c_event N x5 hB (List.mem_of_getElem? hp)).mono ?_
  rintro _ h6 ⟨⟨cs6, rfl, ev6⟩, s6⟩
  obtain ⟨y1, y2, y3, y4⟩ := ev6.cells
  refine mk_of ?_; repeat' (first | (with_reducible first | refine gw_seq ?_ | refine gw_block ?_) | ((first | (with_reducible refine mk_to ?_) | (with_reducible first | refine gw_region ?_ | refine gw_if ?_ | refine gw_skip ?_ | refine gw_exit ?_ | refine gw_ret ?_) | ((with_reducible first | refine gif_b (fun hb => ?_) (fun hb => ?_) | refine want_t (fun hb => ?_) (fun hb => ?_) | refine want_f (fun hb => ?_) (fun hb => ?_)) <;> (try simp only [hb]) <;> (try simp only [hpr] at hb))) <;> try simp only [List.map, gop, ev, lk, aenv, gyield, gBin, gInt, gStrOp, gUn, gPick, gNil, gExtract, gIfc, gConvK, gIndexO, gIndexVO, gMakeV, gMinV, gMaxV, isInt, gMin, gMax, gBlt, gLenX, gCallV, gInvoke, gNilM, Array.toList_map, vcells, gField, gIndexV, gPart, reduceIte, Nat.reduceAdd, Nat.reduceSub, Nat.reduceMul, Nat.reduceLT, Nat.reduceLeDiff, Nat.reduceEqDiff, Nat.reduceBEq, Int.reduceLT, Int.reduceLE, Int.reduceGT, Int.reduceGE, Int.reduceEq, Int.reduceNe, Int.reduceAdd, Int.reduceSub, Int.reduceMul, Int.reduceNeg, Int.reduceToNat, Int.reduceBEq, Int.reduceBNe, Int.cast_ofNat_Int, List.getElem?_toArray, stp, Try.underlying104, Try.underlying107, Try.underlying24, Try.underlying27, Try.underlying3, Try.underlying33, Try.underlying36, Try.underlying44, Try.underlying5, ty104, ty24, ty36, ty107, ty33, ty44, ty27, ty3, ty5, rs16]))
  refine bsn1_g el36 rfl (by rw [y4]; exact y1) (by decide) (by decide) (by rw [y4]; exact y2) fun k7 h7 b7 s7 f7 n7 => ?_
  rw [y4] at b7
  have es7 := (es.hs s6).hs s7
  obtain ⟨ds, o7, u7, r7⟩ := es7
  have hln := lsd_len B (S id) (m + 1) n2 up2.1
  have hup := up2.1
  have en5 : n5 = (lsd B (S id) (m + 1) n2).length := by
    obtain ⟨_, _, q⟩ := o7.form
    rcases o7 with ⟨q, z, _⟩ | ⟨_, q, z, _⟩ | ⟨_, _, q, _⟩ <;> cases q <;> first | rfl | exact z.symm
  refine mk_of ?_; repeat' (first | (with_reducible first | refine gw_seq ?_ | refine gw_block ?_) | ((first | (with_reducible refine mk_to ?_) | (with_reducible first | refine gw_region ?_ | refine gw_if ?_ | refine gw_skip ?_ | refine gw_exit ?_ | refine gw_ret ?_) | ((with_reducible first | refine gif_b (fun hb => ?_) (fun hb => ?_) | refine want_t (fun hb => ?_) (fun hb => ?_) | refine want_f (fun hb => ?_) (fun hb => ?_)) <;> (try simp only [hb]) <;> (try simp only [hpr] at hb))) <;> try simp only [List.map, gop, ev, lk, aenv, gyield, gBin, gInt, gStrOp, gUn, gPick, gNil, gExtract, gIfc, gConvK, gIndexO, gIndexVO, gMakeV, gMinV, gMaxV, isInt, gMin, gMax, gBlt, gLenX, gCallV, gInvoke, gNilM, Array.toList_map, vcells, gField, gIndexV, gPart, reduceIte, Nat.reduceAdd, Nat.reduceSub, Nat.reduceMul, Nat.reduceLT, Nat.reduceLeDiff, Nat.reduceEqDiff, Nat.reduceBEq, Int.reduceLT, Int.reduceLE, Int.reduceGT, Int.reduceGE, Int.reduceEq, Int.reduceNe, Int.reduceAdd, Int.reduceSub, Int.reduceMul, Int.reduceNeg, Int.reduceToNat, Int.reduceBEq, Int.reduceBNe, Int.cast_ofNat_Int, List.getElem?_toArray, stp, Try.underlying104, Try.underlying107, Try.underlying24, Try.underlying27, Try.underlying3, Try.underlying33, Try.underlying36, Try.underlying44, Try.underlying5, ty104, ty24, ty36, ty107, ty33, ty44, ty27, ty3, ty5, rs16]))
  refine append_ownc el36 Try.underlying36 rfl ((s5.trans s6).trans s7) o7 b7 (by rw [y1]) y2 (by omega) (by simp only [maxLen]; omega) fun v8 h8 s8 fr8 o8 => ?_
  obtain ⟨a8, c8, rfl⟩ := o8.form
  refine mk_of ?_; repeat' (first | (with_reducible first | refine gw_seq ?_ | refine gw_block ?_) | ((first | (with_reducible refine mk_to ?_) | (with_reducible first | refine gw_region ?_ | refine gw_if ?_ | refine gw_skip ?_ | refine gw_exit ?_ | refine gw_ret ?_) | ((with_reducible first | refine gif_b (fun hb => ?_) (fun hb => ?_) | refine want_t (fun hb => ?_) (fun hb => ?_) | refine want_f (fun hb => ?_) (fun hb => ?_)) <;> (try simp only [hb]) <;> (try simp only [hpr] at hb))) <;> try simp only [List.map, gop, ev, lk, aenv, gyield, gBin, gInt, gStrOp, gUn, gPick, gNil, gExtract, gIfc, gConvK, gIndexO, gIndexVO, gMakeV, gMinV, gMaxV, isInt, gMin, gMax, gBlt, gLenX, gCallV, gInvoke, gNilM, Array.toList_map, vcells, gField, gIndexV, gPart, reduceIte, Nat.reduceAdd, Nat.reduceSub, Nat.reduceMul, Nat.reduceLT, Nat.reduceLeDiff, Nat.reduceEqDiff, Nat.reduceBEq, Int.reduceLT, Int.reduceLE, Int.reduceGT, Int.reduceGE, Int.reduceEq, Int.reduceNe, Int.reduceAdd, Int.reduceSub, Int.reduceMul, Int.reduceNeg, Int.reduceToNat, Int.reduceBEq, Int.reduceBNe, Int.cast_ofNat_Int, List.getElem?_toArray, stp, Try.underlying104, Try.underlying107, Try.underlying24, Try.underlying27, Try.underlying3, Try.underlying33, Try.underlying36, Try.underlying44, Try.underlying5, ty104, ty24, ty36, ty107, ty33, ty44, ty27, ty3, ty5, rs16, w1]))
  have hstep := lsd_step B (S id) hp (show m < n2 by omega)
  have hd4 : ds.length = (lsd B (S id) (m + 1) n2).length * 4 := o7.len
  have keep : ∀ {q : List Value} {ee : Nat × Nat × Bnd}, Ev h7 q ee → Ev h8 q ee := fun {q ee} w => by
    obtain ⟨a, c, b, d, e, r1, r2⟩ := w
    exact ⟨a, c, b, d, e, fr_rb fr8 u7 r1, fr_rb fr8 u7 r2⟩
  refine ⟨m, (m, a8, (lsd B (S id) (m + 1) n2).length + 1, c8), by omega, (by simp only [List.forall_mem_cons, List.not_mem_nil, false_implies, implies_true, List.map, List.cons_append, List.nil_append, lk, Nat.reduceEqDiff, reduceIte, and_true, true_and]), rfl, by omega, .inl (by omega), s8, ds ++ cs6, ?_, by rw [List.all_append, u7, y3]; rfl, ?_⟩
  · rw [hstep, List.length_append]; exact o8
  · rw [hstep]
    exact app_el (R := Ev h8) hd4 y1 (fun i p hp => keep (r7 i p hp)) (keep (ev6.hs s7))
end Go.Gh

/- Versions: events, compared. -/

namespace Go.Gh
open Go Go.Proofs Go.RowKit
set_option linter.unusedVariables false
set_option linter.unusedSimpArgs false
set_option maxRecDepth 100000
set_option maxHeartbeats 1000000

theorem c_SE1 (N : Nat) (h : GH) {c1 c2 : List Value} {x y : Nat × Nat × Bnd} (r1 : Ev h c1 x) (r2 : Ev h c2 y) : GTri Try.prog N 56 [.agg c1.toArray, .agg c2.toArray] h fun v h' => (∃ r : Bool, v = .bool r ∧ (r = true ↔ x = y)) ∧ HS h h' := by
  obtain ⟨x1, x2, x3, x4⟩ := x
  obtain ⟨y1, y2, y3, y4⟩ := y
  obtain ⟨a, c, b, d, rfl, p1, p2⟩ := r1
  obtain ⟨a', c', b', d', rfl, q1, q2⟩ := r2
  simp only at p1 p2 q1 q2
  refine gtri Try.func56 rfl gf56 ok56 (by simp [Try.ntmps56]) ?_
  repeat' (first | (with_reducible first | refine gw_seq ?_ | refine gw_block ?_) | ((first | (with_reducible first | refine gw_region ?_ | refine gw_if ?_ | refine gw_skip ?_ | refine gw_exit ?_ | refine gw_ret ?_) | ((with_reducible first | refine gif_b (fun hb => ?_) (fun hb => ?_) | refine want_t (fun hb => ?_) (fun hb => ?_) | refine want_f (fun hb => ?_) (fun hb => ?_)) <;> (try simp only [hb]) <;> (try simp only [hpr] at hb))) <;> try simp only [List.map, gop, ev, lk, aenv, gyield, gBin, gInt, gStrOp, gUn, gPick, gNil, gExtract, gIfc, gConvK, gIndexO, gIndexVO, gMakeV, gMinV, gMaxV, isInt, gMin, gMax, gBlt, gLenX, gCallV, gInvoke, gNilM, Array.toList_map, vcells, gField, gIndexV, gPart, reduceIte, Nat.reduceAdd, Nat.reduceSub, Nat.reduceMul, Nat.reduceLT, Nat.reduceLeDiff, Nat.reduceEqDiff, Nat.reduceBEq, Int.reduceLT, Int.reduceLE, Int.reduceGT, Int.reduceGE, Int.reduceEq, Int.reduceNe, Int.reduceAdd, Int.reduceSub, Int.reduceMul, Int.reduceNeg, Int.reduceToNat, Int.reduceBEq, Int.reduceBNe, Int.cast_ofNat_Int, List.getElem?_toArray, stp, Try.underlying24, Try.underlying3, Try.underlying33, Try.underlying5, ty24, ty33, ty3, ty5, rs56]))
  refine box_g rfl fun k1 h1 m1 s1 f1 n1 => ?_
  refine mk_of ?_; repeat' (first | (with_reducible first | refine gw_seq ?_ | refine gw_block ?_) | ((first | (with_reducible refine mk_to ?_) | (with_reducible first | refine gw_region ?_ | refine gw_if ?_ | refine gw_skip ?_ | refine gw_exit ?_ | refine gw_ret ?_) | ((with_reducible first | refine gif_b (fun hb => ?_) (fun hb => ?_) | refine want_t (fun hb => ?_) (fun hb => ?_) | refine want_f (fun hb => ?_) (fun hb => ?_)) <;> (try simp only [hb]) <;> (try simp only [hpr] at hb))) <;> try simp only [List.map, gop, ev, lk, aenv, gyield, gBin, gInt, gStrOp, gUn, gPick, gNil, gExtract, gIfc, gConvK, gIndexO, gIndexVO, gMakeV, gMinV, gMaxV, isInt, gMin, gMax, gBlt, gLenX, gCallV, gInvoke, gNilM, Array.toList_map, vcells, gField, gIndexV, gPart, reduceIte, Nat.reduceAdd, Nat.reduceSub, Nat.reduceMul, Nat.reduceLT, Nat.reduceLeDiff, Nat.reduceEqDiff, Nat.reduceBEq, Int.reduceLT, Int.reduceLE, Int.reduceGT, Int.reduceGE, Int.reduceEq, Int.reduceNe, Int.reduceAdd, Int.reduceSub, Int.reduceMul, Int.reduceNeg, Int.reduceToNat, Int.reduceBEq, Int.reduceBNe, Int.cast_ofNat_Int, List.getElem?_toArray, stp, Try.underlying24, Try.underlying3, Try.underlying33, Try.underlying5, ty24, ty33, ty3, ty5, rs56]))
  refine box_g rfl fun k2 h2 m2 s2 f2 n2 => ?_
  replace m1 := s2 _ _ m1
  have s3 := s1.trans s2
  have fin : ∀ r : Bool, r = (((x1 == y1 && x2 == y2) && x3 == y3) && x4 == y4) → (r = true ↔ ((x1, x2, x3, x4) : Nat × Nat × Bnd) = (y1, y2, y3, y4)) := by
    rintro _ rfl
    simp only [Bool.and_eq_true, beq_iff_eq, Prod.mk.injEq, and_assoc]
  have b1 : ((x1 : Int) == (y1 : Int)) = (x1 == y1) := by rw [Bool.eq_iff_iff]; simp only [beq_iff_eq]; omega
  have b2 : ((x2 : Int) == (y2 : Int)) = (x2 == y2) := by rw [Bool.eq_iff_iff]; simp only [beq_iff_eq]; omega
  cases e1 : (x1 == y1) <;> cases e2 : (x2 == y2) <;> cases e3 : (x3 == y3) <;> cases e4 : (x4 == y4) <;> rw [e1] at b1 <;> rw [e2] at b2 <;> simp only [e1, e2, e3, e4] at fin
  all_goals
    refine mk_of ?_; repeat' (first | (with_reducible first | refine gw_seq ?_ | refine gw_block ?_) | ((first | (with_reducible refine mk_to ?_) | (with_reducible first | refine gw_region ?_ | refine gw_if ?_ | refine gw_skip ?_ | refine gw_exit ?_ | refine gw_ret ?_) | ((with_reducible first | refine gif_b (fun hb => ?_) (fun hb => ?_) | refine want_t (fun hb => ?_) (fun hb => ?_) | refine want_f (fun hb => ?_) (fun hb => ?_)) <;> (try simp only [hb]) <;> (try simp only [hpr] at hb)) | ((refine GTri.mono (c_Equal N h2 (p1.hs s3) (q1.hs s3)) ?_); rintro _ _ ⟨rfl, hh9⟩; replace hh9 := hh9.symm; subst hh9) | ((refine GTri.mono (c_Equal N h2 (p2.hs s3) (q2.hs s3)) ?_); rintro _ _ ⟨rfl, hh9⟩; replace hh9 := hh9.symm; subst hh9)) <;> try simp only [List.map, gop, ev, lk, aenv, gyield, gBin, gInt, gStrOp, gUn, gPick, gNil, gExtract, gIfc, gConvK, gIndexO, gIndexVO, gMakeV, gMinV, gMaxV, isInt, gMin, gMax, gBlt, gLenX, gCallV, gInvoke, gNilM, Array.toList_map, vcells, gField, gIndexV, gPart, reduceIte, Nat.reduceAdd, Nat.reduceSub, Nat.reduceMul, Nat.reduceLT, Nat.reduceLeDiff, Nat.reduceEqDiff, Nat.reduceBEq, Int.reduceLT, Int.reduceLE, Int.reduceGT, Int.reduceGE, Int.reduceEq, Int.reduceNe, Int.reduceAdd, Int.reduceSub, Int.reduceMul, Int.reduceNeg, Int.reduceToNat, Int.reduceBEq, Int.reduceBNe, Int.cast_ofNat_Int, List.getElem?_toArray, stp, Try.underlying24, Try.underlying3, Try.underlying33, Try.underlying5, ty24, ty33, ty3, ty5, rs56, gload1 m1 sz3, gload1 m2 sz3, gload1 m1 sz24, gload1 m2 sz24, b1, b2, e3, e4, gPick, List.getElem?_cons_zero, List.getElem?_cons_succ]))
  all_goals exact ⟨⟨_, rfl, fin _ rfl⟩, s3⟩

theorem c_SEF (N : Nat) (h : GH) {a b : Option Addr} {c d : Nat} {L M : List (Nat × Nat × Bnd)} (rl : RL 4 Ev h (.slice a L.length c) L) (rm : RL 4 Ev h (.slice b M.length d) M) (hL : L.length ≤ 140737488351232) :
    GTri Try.prog N 55 [.slice a L.length c, .slice b M.length d, .func (.func 56) #[] #[]] h fun v h' => (∃ r : Bool, v = .bool r ∧ (r = true ↔ L = M)) ∧ HS h h' := by
  refine gtri Try.func55 rfl gf55 ok55 (by simp [Try.ntmps55]) ?_
  by_cases hlm : L.length = M.length
  case neg =>
    have d0 : ((L.length : Int) != (M.length : Int)) = true := by simp; omega
    refine mk_of ?_; repeat' (first | (with_reducible first | refine gw_seq ?_ | refine gw_block ?_) | ((first | (with_reducible refine mk_to ?_) | (with_reducible first | refine gw_region ?_ | refine gw_if ?_ | refine gw_skip ?_ | refine gw_exit ?_ | refine gw_ret ?_) | ((with_reducible first | refine gif_b (fun hb => ?_) (fun hb => ?_) | refine want_t (fun hb => ?_) (fun hb => ?_) | refine want_f (fun hb => ?_) (fun hb => ?_)) <;> (try simp only [hb]) <;> (try simp only [hpr] at hb))) <;> try simp only [List.map, gop, ev, lk, aenv, gyield, gBin, gInt, gStrOp, gUn, gPick, gNil, gExtract, gIfc, gConvK, gIndexO, gIndexVO, gMakeV, gMinV, gMaxV, isInt, gMin, gMax, gBlt, gLenX, gCallV, gInvoke, gNilM, Array.toList_map, vcells, gField, gIndexV, gPart, reduceIte, Nat.reduceAdd, Nat.reduceSub, Nat.reduceMul, Nat.reduceLT, Nat.reduceLeDiff, Nat.reduceEqDiff, Nat.reduceBEq, Int.reduceLT, Int.reduceLE, Int.reduceGT, Int.reduceGE, Int.reduceEq, Int.reduceNe, Int.reduceAdd, Int.reduceSub, Int.reduceMul, Int.reduceNeg, Int.reduceToNat, Int.reduceBEq, Int.reduceBNe, Int.cast_ofNat_Int, List.getElem?_toArray, stp, Try.underlying24, Try.underlying3, Try.underlying33, Try.underlying36, Try.underlying4, ty24, ty36, ty33, ty3, ty4, rs55, d0]))
    exact ⟨⟨false, rfl, ⟨fun h => (by cases h), fun h => absurd (by rw [h]) hlm⟩⟩, HS.refl h⟩
  have d0 : ((L.length : Int) != (M.length : Int)) = false := by simp; omega
  refine mk_of ?_; repeat' (first | (with_reducible first | refine gw_seq ?_ | refine gw_block ?_) | ((first | (with_reducible refine mk_to ?_) | (with_reducible first | refine gw_region ?_ | refine gw_if ?_ | refine gw_skip ?_ | refine gw_exit ?_ | refine gw_ret ?_) | ((with_reducible first | refine gif_b (fun hb => ?_) (fun hb => ?_) | refine want_t (fun hb => ?_) (fun hb => ?_) | refine want_f (fun hb => ?_) (fun hb => ?_)) <;> (try simp only [hb]) <;> (try simp only [hpr] at hb))) <;> try simp only [List.map, gop, ev, lk, aenv, gyield, gBin, gInt, gStrOp, gUn, gPick, gNil, gExtract, gIfc, gConvK, gIndexO, gIndexVO, gMakeV, gMinV, gMaxV, isInt, gMin, gMax, gBlt, gLenX, gCallV, gInvoke, gNilM, Array.toList_map, vcells, gField, gIndexV, gPart, reduceIte, Nat.reduceAdd, Nat.reduceSub, Nat.reduceMul, Nat.reduceLT, Nat.reduceLeDiff, Nat.reduceEqDiff, Nat.reduceBEq, Int.reduceLT, Int.reduceLE, Int.reduceGT, Int.reduceGE, Int.reduceEq, Int.reduceNe, Int.reduceAdd, Int.reduceSub, Int.reduceMul, Int.reduceNeg, Int.reduceToNat, Int.reduceBEq, Int.reduceBNe, Int.cast_ofNat_Int, List.getElem?_toArray, stp, Try.underlying24, Try.underlying3, Try.underlying33, Try.underlying36, Try.underlying4, ty24, ty36, ty33, ty3, ty4, rs55, d0]))
  refine gw_loop2 [1, 2, 15, 16] (fun (i : Nat) => [(17, .int .i64 (i : Int))])
    (fun q i h' => L.length - i = q ∧ i ≤ L.length ∧ HS h h' ∧ L.take i = M.take i) L.length 0 (by simp [lk]) ⟨rfl, by omega, HS.refl h, by simp⟩ ?_
  rintro _ i h5 ⟨rfl, hi, s5, et⟩
  by_cases hil : i < L.length
  case neg =>
    have d3 : decide ((i : Int) < (L.length : Int)) = false := decide_eq_false (by omega)
    refine mk_of ?_; repeat' (first | (with_reducible first | refine gw_seq ?_ | refine gw_block ?_) | ((first | (with_reducible refine mk_to ?_) | (with_reducible first | refine gw_region ?_ | refine gw_if ?_ | refine gw_skip ?_ | refine gw_exit ?_ | refine gw_ret ?_) | ((with_reducible first | refine gif_b (fun hb => ?_) (fun hb => ?_) | refine want_t (fun hb => ?_) (fun hb => ?_) | refine want_f (fun hb => ?_) (fun hb => ?_)) <;> (try simp only [hb]) <;> (try simp only [hpr] at hb))) <;> try simp only [List.map, gop, ev, lk, aenv, gyield, gBin, gInt, gStrOp, gUn, gPick, gNil, gExtract, gIfc, gConvK, gIndexO, gIndexVO, gMakeV, gMinV, gMaxV, isInt, gMin, gMax, gBlt, gLenX, gCallV, gInvoke, gNilM, Array.toList_map, vcells, gField, gIndexV, gPart, reduceIte, Nat.reduceAdd, Nat.reduceSub, Nat.reduceMul, Nat.reduceLT, Nat.reduceLeDiff, Nat.reduceEqDiff, Nat.reduceBEq, Int.reduceLT, Int.reduceLE, Int.reduceGT, Int.reduceGE, Int.reduceEq, Int.reduceNe, Int.reduceAdd, Int.reduceSub, Int.reduceMul, Int.reduceNeg, Int.reduceToNat, Int.reduceBEq, Int.reduceBNe, Int.cast_ofNat_Int, List.getElem?_toArray, stp, Try.underlying24, Try.underlying3, Try.underlying33, Try.underlying36, Try.underlying4, ty24, ty36, ty33, ty3, ty4, rs55, d3]))
    exact ⟨⟨true, rfl, ⟨fun _ => by rw [List.take_of_length_le (by omega), List.take_of_length_le (by omega)] at et; exact et, fun _ => rfl⟩⟩, s5⟩
  have d3 : decide ((i : Int) < (L.length : Int)) = true := decide_eq_true (by omega)
  have wi : IntKind.i64.wrap ((i : Int) + 1) = ((i + 1 : Nat) : Int) := by rw [wrap64 (by omega) (by omega)]; omega
  obtain ⟨x, hx⟩ : ∃ x, L[i]? = some x := ⟨_, List.getElem?_eq_getElem hil⟩
  obtain ⟨y, hy⟩ : ∃ y, M[i]? = some y := ⟨_, List.getElem?_eq_getElem (by omega)⟩
  obtain ⟨ad, c1, g1, g2, g3⟩ := (rl.hcR s5.hc (fun _ _ q => q.hs s5)).at (P := Try.prog) Try.underlying36 sz33 hx
  obtain ⟨ae, c2, g4, g5, g6⟩ := (rm.hcR s5.hc (fun _ _ q => q.hs s5)).at (P := Try.prog) Try.underlying36 sz33 hy
  have l1 : gLoad Try.prog 33 h5 (.pointer (some ad)) = some (.agg c1.toArray) := by simp only [gLoad, sz33, g2]; rfl
  refine mk_of ?_; repeat' (first | (with_reducible first | refine gw_seq ?_ | refine gw_block ?_) | ((first | (with_reducible refine mk_to ?_) | (with_reducible first | refine gw_region ?_ | refine gw_if ?_ | refine gw_skip ?_ | refine gw_exit ?_ | refine gw_ret ?_) | ((with_reducible first | refine gif_b (fun hb => ?_) (fun hb => ?_) | refine want_t (fun hb => ?_) (fun hb => ?_) | refine want_f (fun hb => ?_) (fun hb => ?_)) <;> (try simp only [hb]) <;> (try simp only [hpr] at hb))) <;> try simp only [List.map, gop, ev, lk, aenv, gyield, gBin, gInt, gStrOp, gUn, gPick, gNil, gExtract, gIfc, gConvK, gIndexO, gIndexVO, gMakeV, gMinV, gMaxV, isInt, gMin, gMax, gBlt, gLenX, gCallV, gInvoke, gNilM, Array.toList_map, vcells, gField, gIndexV, gPart, reduceIte, Nat.reduceAdd, Nat.reduceSub, Nat.reduceMul, Nat.reduceLT, Nat.reduceLeDiff, Nat.reduceEqDiff, Nat.reduceBEq, Int.reduceLT, Int.reduceLE, Int.reduceGT, Int.reduceGE, Int.reduceEq, Int.reduceNe, Int.reduceAdd, Int.reduceSub, Int.reduceMul, Int.reduceNeg, Int.reduceToNat, Int.reduceBEq, Int.reduceBNe, Int.cast_ofNat_Int, List.getElem?_toArray, stp, Try.underlying24, Try.underlying3, Try.underlying33, Try.underlying36, Try.underlying4, ty24, ty36, ty33, ty3, ty4, rs55, d3, g1, l1]))
  refine new_g fun k6 h6 m6 s6 f6 n6 => ?_
  refine mk_of ?_; repeat' (first | (with_reducible first | refine gw_seq ?_ | refine gw_block ?_) | ((first | (with_reducible refine mk_to ?_) | (with_reducible first | refine gw_region ?_ | refine gw_if ?_ | refine gw_skip ?_ | refine gw_exit ?_ | refine gw_ret ?_) | ((with_reducible first | refine gif_b (fun hb => ?_) (fun hb => ?_) | refine want_t (fun hb => ?_) (fun hb => ?_) | refine want_f (fun hb => ?_) (fun hb => ?_)) <;> (try simp only [hb]) <;> (try simp only [hpr] at hb))) <;> try simp only [List.map, gop, ev, lk, aenv, gyield, gBin, gInt, gStrOp, gUn, gPick, gNil, gExtract, gIfc, gConvK, gIndexO, gIndexVO, gMakeV, gMinV, gMaxV, isInt, gMin, gMax, gBlt, gLenX, gCallV, gInvoke, gNilM, Array.toList_map, vcells, gField, gIndexV, gPart, reduceIte, Nat.reduceAdd, Nat.reduceSub, Nat.reduceMul, Nat.reduceLT, Nat.reduceLeDiff, Nat.reduceEqDiff, Nat.reduceBEq, Int.reduceLT, Int.reduceLE, Int.reduceGT, Int.reduceGE, Int.reduceEq, Int.reduceNe, Int.reduceAdd, Int.reduceSub, Int.reduceMul, Int.reduceNeg, Int.reduceToNat, Int.reduceBEq, Int.reduceBNe, Int.cast_ofNat_Int, List.getElem?_toArray, stp, Try.underlying24, Try.underlying3, Try.underlying33, Try.underlying36, Try.underlying4, ty24, ty36, ty33, ty3, ty4, rs55]))
  refine st_all m6 sz33 rfl (by decide) (by rw [g3.cells.2.2.2]; exact g3.cells.1) rfl (by rw [g3.cells.2.2.2]; exact g3.cells.2.1) fun h7 m7 f7 => ?_
  have s7 : HS h5 h7 := (HS.refl h5).upd n6 (fun j hj => (f7 j hj).trans (f6 j hj))
  rw [g3.cells.2.2.2] at m7
  have l2 : gLoad Try.prog 33 h7 (.pointer (some ae)) = some (.agg c2.toArray) := by simp only [gLoad, sz33, gread_hc s7.hc g5]; rfl
  refine mk_of ?_; repeat' (first | (with_reducible first | refine gw_seq ?_ | refine gw_block ?_) | ((first | (with_reducible refine mk_to ?_) | (with_reducible first | refine gw_region ?_ | refine gw_if ?_ | refine gw_skip ?_ | refine gw_exit ?_ | refine gw_ret ?_) | ((with_reducible first | refine gif_b (fun hb => ?_) (fun hb => ?_) | refine want_t (fun hb => ?_) (fun hb => ?_) | refine want_f (fun hb => ?_) (fun hb => ?_)) <;> (try simp only [hb]) <;> (try simp only [hpr] at hb))) <;> try simp only [List.map, gop, ev, lk, aenv, gyield, gBin, gInt, gStrOp, gUn, gPick, gNil, gExtract, gIfc, gConvK, gIndexO, gIndexVO, gMakeV, gMinV, gMaxV, isInt, gMin, gMax, gBlt, gLenX, gCallV, gInvoke, gNilM, Array.toList_map, vcells, gField, gIndexV, gPart, reduceIte, Nat.reduceAdd, Nat.reduceSub, Nat.reduceMul, Nat.reduceLT, Nat.reduceLeDiff, Nat.reduceEqDiff, Nat.reduceBEq, Int.reduceLT, Int.reduceLE, Int.reduceGT, Int.reduceGE, Int.reduceEq, Int.reduceNe, Int.reduceAdd, Int.reduceSub, Int.reduceMul, Int.reduceNeg, Int.reduceToNat, Int.reduceBEq, Int.reduceBNe, Int.cast_ofNat_Int, List.getElem?_toArray, stp, Try.underlying24, Try.underlying3, Try.underlying33, Try.underlying36, Try.underlying4, ty24, ty36, ty33, ty3, ty4, rs55, g4, l2]))
  refine new_g fun k8 h8 m8 s8 f8 n8 => ?_
  refine mk_of ?_; repeat' (first | (with_reducible first | refine gw_seq ?_ | refine gw_block ?_) | ((first | (with_reducible refine mk_to ?_) | (with_reducible first | refine gw_region ?_ | refine gw_if ?_ | refine gw_skip ?_ | refine gw_exit ?_ | refine gw_ret ?_) | ((with_reducible first | refine gif_b (fun hb => ?_) (fun hb => ?_) | refine want_t (fun hb => ?_) (fun hb => ?_) | refine want_f (fun hb => ?_) (fun hb => ?_)) <;> (try simp only [hb]) <;> (try simp only [hpr] at hb))) <;> try simp only [List.map, gop, ev, lk, aenv, gyield, gBin, gInt, gStrOp, gUn, gPick, gNil, gExtract, gIfc, gConvK, gIndexO, gIndexVO, gMakeV, gMinV, gMaxV, isInt, gMin, gMax, gBlt, gLenX, gCallV, gInvoke, gNilM, Array.toList_map, vcells, gField, gIndexV, gPart, reduceIte, Nat.reduceAdd, Nat.reduceSub, Nat.reduceMul, Nat.reduceLT, Nat.reduceLeDiff, Nat.reduceEqDiff, Nat.reduceBEq, Int.reduceLT, Int.reduceLE, Int.reduceGT, Int.reduceGE, Int.reduceEq, Int.reduceNe, Int.reduceAdd, Int.reduceSub, Int.reduceMul, Int.reduceNeg, Int.reduceToNat, Int.reduceBEq, Int.reduceBNe, Int.cast_ofNat_Int, List.getElem?_toArray, stp, Try.underlying24, Try.underlying3, Try.underlying33, Try.underlying36, Try.underlying4, ty24, ty36, ty33, ty3, ty4, rs55]))
  refine st_all m8 sz33 rfl (by decide) (by rw [g6.cells.2.2.2]; exact g6.cells.1) rfl (by rw [g6.cells.2.2.2]; exact g6.cells.2.1) fun h9 m9 f9 => ?_
  have s9 : HS h7 h9 := (HS.refl h7).upd n8 (fun j hj => (f9 j hj).trans (f8 j hj))
  rw [g6.cells.2.2.2] at m9
  have m79 := s9 _ _ m7
  have s79 := s7.trans s9
  refine mk_of ?_; repeat' (first | (with_reducible first | refine gw_seq ?_ | refine gw_block ?_) | ((first | (with_reducible refine mk_to ?_) | (with_reducible first | refine gw_region ?_ | refine gw_if ?_ | refine gw_skip ?_ | refine gw_exit ?_ | refine gw_ret ?_) | ((with_reducible first | refine gif_b (fun hb => ?_) (fun hb => ?_) | refine want_t (fun hb => ?_) (fun hb => ?_) | refine want_f (fun hb => ?_) (fun hb => ?_)) <;> (try simp only [hb]) <;> (try simp only [hpr] at hb))) <;> try simp only [List.map, gop, ev, lk, aenv, gyield, gBin, gInt, gStrOp, gUn, gPick, gNil, gExtract, gIfc, gConvK, gIndexO, gIndexVO, gMakeV, gMinV, gMaxV, isInt, gMin, gMax, gBlt, gLenX, gCallV, gInvoke, gNilM, Array.toList_map, vcells, gField, gIndexV, gPart, reduceIte, Nat.reduceAdd, Nat.reduceSub, Nat.reduceMul, Nat.reduceLT, Nat.reduceLeDiff, Nat.reduceEqDiff, Nat.reduceBEq, Int.reduceLT, Int.reduceLE, Int.reduceGT, Int.reduceGE, Int.reduceEq, Int.reduceNe, Int.reduceAdd, Int.reduceSub, Int.reduceMul, Int.reduceNeg, Int.reduceToNat, Int.reduceBEq, Int.reduceBNe, Int.cast_ofNat_Int, List.getElem?_toArray, stp, Try.underlying24, Try.underlying3, Try.underlying33, Try.underlying36, Try.underlying4, ty24, ty36, ty33, ty3, ty4, rs55, gloadA m79 sz33 g3.cells.1, gloadA m9 sz33 g6.cells.1]))
  refine (c_SE1 N h9 (g3.hs s79) (g6.hs s79)).mono ?_
  rintro _ h10 ⟨⟨r, rfl, hr⟩, s10⟩
  have hti : L.take (i + 1) = L.take i ++ [x] := by rw [List.take_add_one, hx]; rfl
  have htj : M.take (i + 1) = M.take i ++ [y] := by rw [List.take_add_one, hy]; rfl
  cases r
  · refine mk_of ?_; repeat' (first | (with_reducible first | refine gw_seq ?_ | refine gw_block ?_) | ((first | (with_reducible refine mk_to ?_) | (with_reducible first | refine gw_region ?_ | refine gw_if ?_ | refine gw_skip ?_ | refine gw_exit ?_ | refine gw_ret ?_) | ((with_reducible first | refine gif_b (fun hb => ?_) (fun hb => ?_) | refine want_t (fun hb => ?_) (fun hb => ?_) | refine want_f (fun hb => ?_) (fun hb => ?_)) <;> (try simp only [hb]) <;> (try simp only [hpr] at hb))) <;> try simp only [List.map, gop, ev, lk, aenv, gyield, gBin, gInt, gStrOp, gUn, gPick, gNil, gExtract, gIfc, gConvK, gIndexO, gIndexVO, gMakeV, gMinV, gMaxV, isInt, gMin, gMax, gBlt, gLenX, gCallV, gInvoke, gNilM, Array.toList_map, vcells, gField, gIndexV, gPart, reduceIte, Nat.reduceAdd, Nat.reduceSub, Nat.reduceMul, Nat.reduceLT, Nat.reduceLeDiff, Nat.reduceEqDiff, Nat.reduceBEq, Int.reduceLT, Int.reduceLE, Int.reduceGT, Int.reduceGE, Int.reduceEq, Int.reduceNe, Int.reduceAdd, Int.reduceSub, Int.reduceMul, Int.reduceNeg, Int.reduceToNat, Int.reduceBEq, Int.reduceBNe, Int.cast_ofNat_Int, List.getElem?_toArray, stp, Try.underlying24, Try.underlying3, Try.underlying33, Try.underlying36, Try.underlying4, ty24, ty36, ty33, ty3, ty4, rs55, Bool.not_false]))
    refine ⟨⟨false, rfl, ⟨fun h => (by cases h), fun h => ?_⟩⟩, (s5.trans s79).trans s10⟩
    subst h
    rw [hx] at hy
    cases hy
    exact hr.2 rfl
  · refine mk_of ?_; repeat' (first | (with_reducible first | refine gw_seq ?_ | refine gw_block ?_) | ((first | (with_reducible refine mk_to ?_) | (with_reducible first | refine gw_region ?_ | refine gw_if ?_ | refine gw_skip ?_ | refine gw_exit ?_ | refine gw_ret ?_) | ((with_reducible first | refine gif_b (fun hb => ?_) (fun hb => ?_) | refine want_t (fun hb => ?_) (fun hb => ?_) | refine want_f (fun hb => ?_) (fun hb => ?_)) <;> (try simp only [hb]) <;> (try simp only [hpr] at hb))) <;> try simp only [List.map, gop, ev, lk, aenv, gyield, gBin, gInt, gStrOp, gUn, gPick, gNil, gExtract, gIfc, gConvK, gIndexO, gIndexVO, gMakeV, gMinV, gMaxV, isInt, gMin, gMax, gBlt, gLenX, gCallV, gInvoke, gNilM, Array.toList_map, vcells, gField, gIndexV, gPart, reduceIte, Nat.reduceAdd, Nat.reduceSub, Nat.reduceMul, Nat.reduceLT, Nat.reduceLeDiff, Nat.reduceEqDiff, Nat.reduceBEq, Int.reduceLT, Int.reduceLE, Int.reduceGT, Int.reduceGE, Int.reduceEq, Int.reduceNe, Int.reduceAdd, Int.reduceSub, Int.reduceMul, Int.reduceNeg, Int.reduceToNat, Int.reduceBEq, Int.reduceBNe, Int.cast_ofNat_Int, List.getElem?_toArray, stp, Try.underlying24, Try.underlying3, Try.underlying33, Try.underlying36, Try.underlying4, ty24, ty36, ty33, ty3, ty4, rs55, Bool.not_true, wi]))
    refine ⟨_, i + 1, ?_, (by simp only [List.forall_mem_cons, List.not_mem_nil, false_implies, implies_true, List.map, List.cons_append, List.nil_append, lk, Nat.reduceEqDiff, reduceIte, and_true, true_and]), rfl, by omega, (s5.trans s79).trans s10, ?_⟩
    · omega
    · rw [hti, htj, et, hr.1 rfl]
theorem c_SE (N : Nat) (h : GH) {a b : Option Addr} {c d : Nat} {L M : List (Nat × Nat × Bnd)} (rl : RL 4 Ev h (.slice a L.length c) L) (rm : RL 4 Ev h (.slice b M.length d) M) (hL : L.length ≤ 140737488351232) :
    GTri Try.prog N 18 [.slice a L.length c, .slice b M.length d] h fun v h' => (∃ r : Bool, v = .bool r ∧ (r = true ↔ L = M)) ∧ HS h h' := by
  refine gtri Try.func18 rfl gf18 ok18 (by simp [Try.ntmps18]) ?_
  repeat' (first | (with_reducible first | refine gw_seq ?_ | refine gw_block ?_) | ((first | (with_reducible first | refine gw_region ?_ | refine gw_if ?_ | refine gw_skip ?_ | refine gw_exit ?_ | refine gw_ret ?_) | ((with_reducible first | refine gif_b (fun hb => ?_) (fun hb => ?_) | refine want_t (fun hb => ?_) (fun hb => ?_) | refine want_f (fun hb => ?_) (fun hb => ?_)) <;> (try simp only [hb]) <;> (try simp only [hpr] at hb))) <;> try simp only [List.map, gop, ev, lk, aenv, gyield, gBin, gInt, gStrOp, gUn, gPick, gNil, gExtract, gIfc, gConvK, gIndexO, gIndexVO, gMakeV, gMinV, gMaxV, isInt, gMin, gMax, gBlt, gLenX, gCallV, gInvoke, gNilM, Array.toList_map, vcells, gField, gIndexV, gPart, reduceIte, Nat.reduceAdd, Nat.reduceSub, Nat.reduceMul, Nat.reduceLT, Nat.reduceLeDiff, Nat.reduceEqDiff, Nat.reduceBEq, Int.reduceLT, Int.reduceLE, Int.reduceGT, Int.reduceGE, Int.reduceEq, Int.reduceNe, Int.reduceAdd, Int.reduceSub, Int.reduceMul, Int.reduceNeg, Int.reduceToNat, Int.reduceBEq, Int.reduceBNe, Int.cast_ofNat_Int, List.getElem?_toArray, stp, Try.underlying112, Try.underlying33, Try.underlying36, ty36, ty33, ty112, rs18]))
  refine (c_SEF N h rl rm hL).mono ?_
  rintro _ h1 ⟨⟨r, rfl, hr⟩, s1⟩
  refine mk_of ?_; repeat' (first | (with_reducible first | refine gw_seq ?_ | refine gw_block ?_) | ((first | (with_reducible refine mk_to ?_) | (with_reducible first | refine gw_region ?_ | refine gw_if ?_ | refine gw_skip ?_ | refine gw_exit ?_ | refine gw_ret ?_) | ((with_reducible first | refine gif_b (fun hb => ?_) (fun hb => ?_) | refine want_t (fun hb => ?_) (fun hb => ?_) | refine want_f (fun hb => ?_) (fun hb => ?_)) <;> (try simp only [hb]) <;> (try simp only [hpr] at hb))) <;> try simp only [List.map, gop, ev, lk, aenv, gyield, gBin, gInt, gStrOp, gUn, gPick, gNil, gExtract, gIfc, gConvK, gIndexO, gIndexVO, gMakeV, gMinV, gMaxV, isInt, gMin, gMax, gBlt, gLenX, gCallV, gInvoke, gNilM, Array.toList_map, vcells, gField, gIndexV, gPart, reduceIte, Nat.reduceAdd, Nat.reduceSub, Nat.reduceMul, Nat.reduceLT, Nat.reduceLeDiff, Nat.reduceEqDiff, Nat.reduceBEq, Int.reduceLT, Int.reduceLE, Int.reduceGT, Int.reduceGE, Int.reduceEq, Int.reduceNe, Int.reduceAdd, Int.reduceSub, Int.reduceMul, Int.reduceNeg, Int.reduceToNat, Int.reduceBEq, Int.reduceBNe, Int.cast_ofNat_Int, List.getElem?_toArray, stp, Try.underlying112, Try.underlying33, Try.underlying36, ty36, ty33, ty112, rs18]))
  exact ⟨⟨r, rfl, hr⟩, s1⟩
end Go.Gh

/- Versions: maps' contents; new ones; an identity's changes, cloned. -/

namespace Go.Gh
open Go Go.Proofs Go.RowKit
set_option linter.unusedVariables false
set_option linter.unusedSimpArgs false
set_option maxRecDepth 100000
set_option maxHeartbeats 1000000

theorem mfind_mset (s t : ByteArray) (x : Value) : ∀ (l : List Value), mok l = true → mok (mset s x l) = true ∧ mfind t (mset s x l) = if t = s then some x else mfind t l
  | [], _ => by
    refine ⟨rfl, ?_⟩
    simp only [mset, List.cons_append, List.nil_append, mfind]
    by_cases h : t = s
    · rw [if_pos h, if_pos ((MapKept.bytes_beq _ _).2 h)]
    · rw [if_neg h, if_neg (fun e => h ((MapKept.bytes_beq _ _).1 e))]
  | [v], h => by cases v <;> simp [mok] at h
  | k :: v :: l, h => by
    cases k with
    | string k =>
      obtain ⟨i1, i2⟩ := mfind_mset s t x l (by simpa [mok] using h)
      have e2 : (t == s) = true ↔ t = s := MapKept.bytes_beq _ _
      have e3 : (t == k) = true ↔ t = k := MapKept.bytes_beq _ _
      have e4 : (s == k) = true ↔ s = k := MapKept.bytes_beq _ _
      by_cases hs : s = k
      · subst hs
        rw [mset, if_pos (e4.2 rfl)]
        refine ⟨by simpa [mok] using h, ?_⟩
        by_cases h2 : t = s
        · subst h2
          simp only [mfind, if_true, if_pos (e2.2 rfl)]
        · have h3 : ¬ (t == s) = true := fun e => h2 (e2.1 e)
          simp only [mfind, if_neg h2, if_neg h3]
      · rw [mset, if_neg (fun e => hs (e4.1 e))]
        refine ⟨by simpa [mok] using i1, ?_⟩
        simp only [mfind, i2]
        by_cases h2 : t = s
        · have h3 : ¬ t = k := fun e => hs (h2.symm.trans e)
          simp [e3, h2, h3, hs]
          intro e
          exact absurd ((MapKept.bytes_beq _ _).1 e) hs
        · simp [e3, h2]
    | _ => simp [mok] at h
theorem mset_all (s : ByteArray) (x : Value) (p : Value → Bool) (hp : p (.string s) = true) (hx : p x = true) : ∀ (l : List Value), l.all p = true → (mset s x l).all p = true
  | [], _ => by simp [mset, hp, hx]
  | [v], h => by
    have h1 : p v = true := by simpa using h
    cases v <;> simp_all [mset]
  | k :: v :: l, h => by
    simp only [List.all_cons, Bool.and_eq_true] at h
    cases k with
    | string k =>
      have ih := mset_all s x p hp hx l h.2.2
      rw [mset]
      split
      · simp [hp, hx, h.2.2]
      · simp [h.1, h.2.1, ih]
    | _ => simp [mset, hp, hx, h.1, h.2.1, h.2.2]
theorem bstr_inj {a b : List UInt8} (h : bstr a = bstr b) : a = b := by
  unfold bstr at h
  cases h
  rfl
theorem mget_mset {l : List Value} (ok : mok l = true) (a b : List UInt8) (x : Value) : mget (mset (bstr a) x l) b = if b = a then x else mget l b := by
  unfold mget
  rw [(mfind_mset (bstr a) (bstr b) x l ok).2]
  by_cases h : b = a
  · subst h; simp
  · rw [if_neg h, if_neg (fun e => h (bstr_inj e))]

theorem mm_g {h : GH} {K : Value → GH → Prop} (g : ∀ (j : Nat) (h' : GH), h' (j + 1) = some ⟨[MM], 0, true, false⟩ → HS h h' → (∀ i, i ≠ j + 1 → h' i = h i) → h (j + 1) = none → K (.map (some j)) h') : gMakeMap h K :=
  fun j _ hj => g j _ (hset_same _ _ _) (HS.new hj _) (fun i hi => hset_ne _ _ hi) hj
theorem put_g {P : Program} {h : GH} {t et : TypeId} {j : Nat} {l : List Value} {s : ByteArray} {x : Value} {K : Value → GH → Prop} (hm : h (j + 1) = some ⟨MM :: l, 0, true, false⟩) (ok : mok l = true) (ht : strMap P t = some et)
    (g : ∀ h', h' (j + 1) = some ⟨MM :: mset s x l, 0, true, false⟩ → (∀ i, i ≠ j + 1 → h' i = h i) → K U h') : gMapPut P t h (.map (some j)) (.string s) x K :=
  ⟨et, s, j, l, _, ht, rfl, rfl, by simp [gMapOf, hm, ok], hm, rfl, g _ (hset_same _ _ _) (fun i hi => hset_ne _ _ hi)⟩
theorem lenm {P : Program} {h : GH} {t k e : TypeId} {j : Nat} {l : List Value} (hm : h (j + 1) = some ⟨MM :: l, 0, true, false⟩) (ok : mok l = true) (hu : P.underlying t = some (.map k e)) : gLenM P t h (.map (some j)) = some ((l.length / 2 : Nat) : Int) := by
  simp [gLenM, hu, gMapOf, hm, ok]
theorem lenm0 {P : Program} {t k e : TypeId} (hu : P.underlying t = some (.map k e)) (x : Option Nat) : gLen P t (.map x) = none := by simp [gLen, hu]

theorem c_New (N : Nat) {h0 h : GH} (s0 : HS h0 h) : GTri Try.prog N 12 [] h fun v h' => (∃ k j, v = .pointer (some ⟨k, 0, none⟩) ∧ h k = none ∧ IX h0 h' k j (.slice none 0 0) [] [] [] (fun _ => [])) ∧ HS h h' := by
  refine gtri Try.func12 rfl gf12 ok12 (by simp [Try.ntmps12]) ?_
  repeat' (first | (with_reducible first | refine gw_seq ?_ | refine gw_block ?_) | ((first | (with_reducible first | refine gw_region ?_ | refine gw_if ?_ | refine gw_skip ?_ | refine gw_exit ?_ | refine gw_ret ?_) | ((with_reducible first | refine gif_b (fun hb => ?_) (fun hb => ?_) | refine want_t (fun hb => ?_) (fun hb => ?_) | refine want_f (fun hb => ?_) (fun hb => ?_)) <;> (try simp only [hb]) <;> (try simp only [hpr] at hb))) <;> try simp only [List.map, gop, ev, lk, aenv, gyield, gBin, gInt, gStrOp, gUn, gPick, gNil, gExtract, gIfc, gConvK, gIndexO, gIndexVO, gMakeV, gMinV, gMaxV, isInt, gMin, gMax, gBlt, gLenX, gCallV, gInvoke, gNilM, Array.toList_map, vcells, gField, gIndexV, gPart, reduceIte, Nat.reduceAdd, Nat.reduceSub, Nat.reduceMul, Nat.reduceLT, Nat.reduceLeDiff, Nat.reduceEqDiff, Nat.reduceBEq, Int.reduceLT, Int.reduceLE, Int.reduceGT, Int.reduceGE, Int.reduceEq, Int.reduceNe, Int.reduceAdd, Int.reduceSub, Int.reduceMul, Int.reduceNeg, Int.reduceToNat, Int.reduceBEq, Int.reduceBNe, Int.cast_ofNat_Int, List.getElem?_toArray, stp, Try.underlying22, Try.underlying4, Try.underlying42, Try.underlying44, ty22, ty44, ty4, ty42, rs12]))
  refine mm_g fun j h1 m1 s1 f1 n1 => ?_
  refine mk_of ?_; repeat' (first | (with_reducible first | refine gw_seq ?_ | refine gw_block ?_) | ((first | (with_reducible refine mk_to ?_) | (with_reducible first | refine gw_region ?_ | refine gw_if ?_ | refine gw_skip ?_ | refine gw_exit ?_ | refine gw_ret ?_) | ((with_reducible first | refine gif_b (fun hb => ?_) (fun hb => ?_) | refine want_t (fun hb => ?_) (fun hb => ?_) | refine want_f (fun hb => ?_) (fun hb => ?_)) <;> (try simp only [hb]) <;> (try simp only [hpr] at hb))) <;> try simp only [List.map, gop, ev, lk, aenv, gyield, gBin, gInt, gStrOp, gUn, gPick, gNil, gExtract, gIfc, gConvK, gIndexO, gIndexVO, gMakeV, gMinV, gMaxV, isInt, gMin, gMax, gBlt, gLenX, gCallV, gInvoke, gNilM, Array.toList_map, vcells, gField, gIndexV, gPart, reduceIte, Nat.reduceAdd, Nat.reduceSub, Nat.reduceMul, Nat.reduceLT, Nat.reduceLeDiff, Nat.reduceEqDiff, Nat.reduceBEq, Int.reduceLT, Int.reduceLE, Int.reduceGT, Int.reduceGE, Int.reduceEq, Int.reduceNe, Int.reduceAdd, Int.reduceSub, Int.reduceMul, Int.reduceNeg, Int.reduceToNat, Int.reduceBEq, Int.reduceBNe, Int.cast_ofNat_Int, List.getElem?_toArray, stp, Try.underlying22, Try.underlying4, Try.underlying42, Try.underlying44, ty22, ty44, ty4, ty42, rs12, gBuild, lfill, lput, Shape.pl, List.all_cons, List.all_nil, isCell]))
  refine box_g rfl fun k h2 m2 s2 f2 n2 => ?_
  refine mk_of ?_; repeat' (first | (with_reducible first | refine gw_seq ?_ | refine gw_block ?_) | ((first | (with_reducible refine mk_to ?_) | (with_reducible first | refine gw_region ?_ | refine gw_if ?_ | refine gw_skip ?_ | refine gw_exit ?_ | refine gw_ret ?_) | ((with_reducible first | refine gif_b (fun hb => ?_) (fun hb => ?_) | refine want_t (fun hb => ?_) (fun hb => ?_) | refine want_f (fun hb => ?_) (fun hb => ?_)) <;> (try simp only [hb]) <;> (try simp only [hpr] at hb))) <;> try simp only [List.map, gop, ev, lk, aenv, gyield, gBin, gInt, gStrOp, gUn, gPick, gNil, gExtract, gIfc, gConvK, gIndexO, gIndexVO, gMakeV, gMinV, gMaxV, isInt, gMin, gMax, gBlt, gLenX, gCallV, gInvoke, gNilM, Array.toList_map, vcells, gField, gIndexV, gPart, reduceIte, Nat.reduceAdd, Nat.reduceSub, Nat.reduceMul, Nat.reduceLT, Nat.reduceLeDiff, Nat.reduceEqDiff, Nat.reduceBEq, Int.reduceLT, Int.reduceLE, Int.reduceGT, Int.reduceGE, Int.reduceEq, Int.reduceNe, Int.reduceAdd, Int.reduceSub, Int.reduceMul, Int.reduceNeg, Int.reduceToNat, Int.reduceBEq, Int.reduceBNe, Int.cast_ofNat_Int, List.getElem?_toArray, stp, Try.underlying22, Try.underlying4, Try.underlying42, Try.underlying44, ty22, ty44, ty4, ty42, rs12]))
  exact ⟨⟨k, j, rfl, s1.none_of n2, m2, s0.none_of (s1.none_of n2), s2 _ _ m1, s0.none_of n1, rfl, rfl, OWNC.nil _ _ _, fun e b hb => by simp at hb, fun id => OWNC.nil _ _ _, fun id i j p q _ hp => by simp at hp, fun id p hp => by simp at hp, fun id => by simp, fun b hb => by simp at hb, rfl, List.nodup_nil, Nat.le_refl _⟩, s1.trans s2⟩

theorem c_SpClone (N : Nat) {h0 h : GH} {v : Value} {s : List (Nat × Nat)} (o : OWNC 2 h0 h v s.length (spc s)) (hl : s.length ≤ 1000000) : GTri Try.prog N 51 [v] h fun v h' => OWNC 2 h h' v s.length (spc s) ∧ HS h h' := by
  obtain ⟨a, c, rfl⟩ := o.form
  refine gtri Try.func51 rfl gf51 ok51 (by simp [Try.ntmps51]) ?_
  repeat' (first | (with_reducible first | refine gw_seq ?_ | refine gw_block ?_) | ((first | (with_reducible first | refine gw_region ?_ | refine gw_if ?_ | refine gw_skip ?_ | refine gw_exit ?_ | refine gw_ret ?_) | ((with_reducible first | refine gif_b (fun hb => ?_) (fun hb => ?_) | refine want_t (fun hb => ?_) (fun hb => ?_) | refine want_f (fun hb => ?_) (fun hb => ?_)) <;> (try simp only [hb]) <;> (try simp only [hpr] at hb))) <;> try simp only [List.map, gop, ev, lk, aenv, gyield, gBin, gInt, gStrOp, gUn, gPick, gNil, gExtract, gIfc, gConvK, gIndexO, gIndexVO, gMakeV, gMinV, gMaxV, isInt, gMin, gMax, gBlt, gLenX, gCallV, gInvoke, gNilM, Array.toList_map, vcells, gField, gIndexV, gPart, reduceIte, Nat.reduceAdd, Nat.reduceSub, Nat.reduceMul, Nat.reduceLT, Nat.reduceLeDiff, Nat.reduceEqDiff, Nat.reduceBEq, Int.reduceLT, Int.reduceLE, Int.reduceGT, Int.reduceGE, Int.reduceEq, Int.reduceNe, Int.reduceAdd, Int.reduceSub, Int.reduceMul, Int.reduceNeg, Int.reduceToNat, Int.reduceBEq, Int.reduceBNe, Int.cast_ofNat_Int, List.getElem?_toArray, stp, Try.underlying104, Try.underlying107, ty104, ty107, rs51]))
  · obtain ⟨_, q⟩ := o.read
    have hz : s.length = 0 ∧ spc s = [] := by
      rcases q with ⟨_, q1, q2⟩ | ⟨ad, q, _⟩
      · exact ⟨q1, q2⟩
      · subst q; cases hb
    rw [hz.1, hz.2]
    exact ⟨OWNC.nil _ _ _, HS.refl h⟩
  · obtain ⟨_, q⟩ := o.read
    have hsrc : gSrc h 2 (.slice a s.length c) = some (s.length, spc s) := by
      rcases q with ⟨q, _, _⟩ | ⟨ad, q, q1, q2, _⟩
      · subst q; cases hb
      · subst q
        simp [gSrc, q1]
    refine bs0_g el104 rfl ?_
    refine mk_of ?_; repeat' (first | (with_reducible first | refine gw_seq ?_ | refine gw_block ?_) | ((first | (with_reducible refine mk_to ?_) | (with_reducible first | refine gw_region ?_ | refine gw_if ?_ | refine gw_skip ?_ | refine gw_exit ?_ | refine gw_ret ?_) | ((with_reducible first | refine gif_b (fun hb => ?_) (fun hb => ?_) | refine want_t (fun hb => ?_) (fun hb => ?_) | refine want_f (fun hb => ?_) (fun hb => ?_)) <;> (try simp only [hb]) <;> (try simp only [hpr] at hb))) <;> try simp only [List.map, gop, ev, lk, aenv, gyield, gBin, gInt, gStrOp, gUn, gPick, gNil, gExtract, gIfc, gConvK, gIndexO, gIndexVO, gMakeV, gMinV, gMaxV, isInt, gMin, gMax, gBlt, gLenX, gCallV, gInvoke, gNilM, Array.toList_map, vcells, gField, gIndexV, gPart, reduceIte, Nat.reduceAdd, Nat.reduceSub, Nat.reduceMul, Nat.reduceLT, Nat.reduceLeDiff, Nat.reduceEqDiff, Nat.reduceBEq, Int.reduceLT, Int.reduceLE, Int.reduceGT, Int.reduceGE, Int.reduceEq, Int.reduceNe, Int.reduceAdd, Int.reduceSub, Int.reduceMul, Int.reduceNeg, Int.reduceToNat, Int.reduceBEq, Int.reduceBNe, Int.cast_ofNat_Int, List.getElem?_toArray, stp, Try.underlying104, Try.underlying107, ty104, ty107, rs51]))
    refine append_ownc el104 Try.underlying104 rfl (HS.refl h) (OWNC.zero _ _ _ _) hsrc (spc_len s) ?_ (by omega) (by simp only [maxLen]; omega) fun v3 h3 s3 fr3 o3 => ?_
    · rw [List.all_eq_true]
      intro q hq
      unfold spc at hq
      obtain ⟨w, hw, hq⟩ := List.mem_flatten.1 hq
      obtain ⟨p, _, rfl⟩ := List.mem_map.1 hw
      simp only [List.mem_cons, List.not_mem_nil, or_false] at hq
      rcases hq with rfl | rfl <;> rfl
    rw [List.nil_append, Nat.zero_add] at o3
    refine mk_of ?_; repeat' (first | (with_reducible first | refine gw_seq ?_ | refine gw_block ?_) | ((first | (with_reducible refine mk_to ?_) | (with_reducible first | refine gw_region ?_ | refine gw_if ?_ | refine gw_skip ?_ | refine gw_exit ?_ | refine gw_ret ?_) | ((with_reducible first | refine gif_b (fun hb => ?_) (fun hb => ?_) | refine want_t (fun hb => ?_) (fun hb => ?_) | refine want_f (fun hb => ?_) (fun hb => ?_)) <;> (try simp only [hb]) <;> (try simp only [hpr] at hb))) <;> try simp only [List.map, gop, ev, lk, aenv, gyield, gBin, gInt, gStrOp, gUn, gPick, gNil, gExtract, gIfc, gConvK, gIndexO, gIndexVO, gMakeV, gMinV, gMaxV, isInt, gMin, gMax, gBlt, gLenX, gCallV, gInvoke, gNilM, Array.toList_map, vcells, gField, gIndexV, gPart, reduceIte, Nat.reduceAdd, Nat.reduceSub, Nat.reduceMul, Nat.reduceLT, Nat.reduceLeDiff, Nat.reduceEqDiff, Nat.reduceBEq, Int.reduceLT, Int.reduceLE, Int.reduceGT, Int.reduceGE, Int.reduceEq, Int.reduceNe, Int.reduceAdd, Int.reduceSub, Int.reduceMul, Int.reduceNeg, Int.reduceToNat, Int.reduceBEq, Int.reduceBNe, Int.cast_ofNat_Int, List.getElem?_toArray, stp, Try.underlying104, Try.underlying107, ty104, ty107, rs51]))
    exact ⟨o3, s3⟩
end Go.Gh

/- Versions: what an index holds while a batch is added. -/

namespace Go.Gh
open Go Go.Proofs Go.RowKit
set_option linter.unusedVariables false
set_option linter.unusedSimpArgs false
set_option maxRecDepth 100000
set_option maxHeartbeats 1000000

def bat1 (b : List Bnd) (i : Nat) : Bnd := (b[i]?).getD ([], [])
/-- The identities seen, of the first i. -/
def seenN (b : List Bnd) : Nat → List Value
  | 0 => []
  | i + 1 => mset (bstr (bat1 b i).1) (.int .i64 (i : Int)) (seenN b i)
theorem seenN_ok (b : List Bnd) : ∀ i, mok (seenN b i) = true
  | 0 => rfl
  | i + 1 => (mfind_mset _ (bstr []) _ _ (seenN_ok b i)).1
/-- An identity's changes in a batch's first i. -/
def newsp (ep : Nat) (b : List Bnd) : Nat → List UInt8 → List (Nat × Nat)
  | 0, _ => []
  | i + 1, id => newsp ep b i id ++ (if id = (bat1 b i).1 then [(ep, i)] else [])
theorem newsp_mem {ep : Nat} {b : List Bnd} {id : List UInt8} {p : Nat × Nat} : ∀ {i : Nat}, p ∈ newsp ep b i id → p.1 = ep ∧ p.2 < i
  | 0, h => by simp [newsp] at h
  | i + 1, h => by
    rcases List.mem_append.1 h with h | h
    · have := newsp_mem h; exact ⟨this.1, by omega⟩
    · split at h
      · obtain rfl := List.mem_singleton.1 h
        exact ⟨rfl, Nat.lt_succ_self _⟩
      · simp at h
theorem newsp_len (ep : Nat) (b : List Bnd) (id : List UInt8) : ∀ i, (newsp ep b i id).length ≤ i
  | 0 => by simp [newsp]
  | i + 1 => by
    have := newsp_len ep b id i
    simp only [newsp, List.length_append]
    split <;> simp <;> omega
def isSl : Value → Bool | .slice _ _ _ => true | _ => false
theorem isSl_u8 {l : List Value} (h : l.all isSl = true) : l.all notU8 = true := by
  rw [List.all_eq_true] at h ⊢
  intro v hv
  have := h v hv
  cases v <;> simp_all [isSl, notU8]
def hM (hA : GH) (j : Nat) : GH := fun i => if i = j + 1 then none else hA i
theorem hM_of {h0 hA : GH} {j : Nat} (s : HS h0 hA) (n : h0 (j + 1) = none) : HS h0 (hM hA j) := fun i B e => by
  have : i ≠ j + 1 := fun q => by rw [q, n] at e; cases e
  unfold hM
  rw [if_neg this]
  exact s i B e
theorem hM_hs {hA h : GH} {j : Nat} (s : HS hA h) : HS (hM hA j) h := fun i B e => by
  unfold hM at e
  split at e
  · cases e
  · exact s i B e
theorem hM_hx {hA h : GH} {j : Nat} (s : HS (hM hA j) h) : HX (j + 1) hA h := fun i B n e => s i B (by unfold hM; rw [if_neg n]; exact e)
theorem hM_none (hA : GH) (j : Nat) : hM hA j (j + 1) = none := by unfold hM; rw [if_pos rfl]
structure AddI (h0 hA h : GH) (j : Nat) (S : List UInt8 → List (Nat × Nat)) (b : List Bnd) (ep io is : Nat) (ov : Value) (l : List Value) : Prop where
  hs : HS h0 h
  hx : HS (hM hA j) h
  mp : h (j + 1) = some ⟨MM :: l, 0, true, false⟩
  ok : mok l = true
  u8 : l.all notU8 = true
  nd : (mkeys l).Nodup
  kl : (mkeys l).length + 10 ≤ 10 * ep + is
  sp : ∀ id, OWNC 2 h0 h (mget l id) (S id ++ newsp ep b is id).length (spc (S id ++ newsp ep b is id))
  own : ∃ ds, OWNC 2 (hM hA j) h ov io ds ∧ ds.all isSl = true ∧ ∀ (q : Nat) p, (b.take io)[q]? = some p → Bd h ((ds.drop (q * 2)).take 2) p
theorem AddI.up {h0 hA h h' : GH} {j : Nat} {S : List UInt8 → List (Nat × Nat)} {b : List Bnd} {ep io is : Nat} {ov : Value} {l : List Value} (x : AddI h0 hA h j S b ep io is ov l) (s : HS h h') : AddI h0 hA h' j S b ep io is ov l := by
  obtain ⟨ds, o, sl, bd⟩ := x.own
  exact ⟨x.hs.trans s, x.hx.trans s, s _ _ x.mp, x.ok, x.u8, x.nd, x.kl, fun id => (x.sp id).hs s, ds, o.hs s, sl, fun q p hp => (bd q p hp).hs s⟩
theorem spc_noSl (s : List (Nat × Nat)) (hs : s ≠ []) : (spc s).all isSl = false := by
  cases s with
  | nil => exact absurd rfl hs
  | cons p s => rfl
theorem AddI.app {h0 hA h h' : GH} {j : Nat} {S : List UInt8 → List (Nat × Nat)} {b : List Bnd} {ep io is : Nat} {ov v' : Value} {l : List Value} (x : AddI h0 hA h j S b ep io is ov l) (hn : h0 (j + 1) = none) (hAs : HS h0 hA) {ds c2 : List Value} (sl : ds.all isSl = true) (hd : ds.length = io * 2) (hio : io ≤ b.length)
    (bd : ∀ (q : Nat) p, (b.take io)[q]? = some p → Bd h ((ds.drop (q * 2)).take 2) p) (fr : ∀ j B, h j = some B → (j = j → ∀ kb c, ov = .slice (some ⟨kb, 0, none⟩) io c → io ≠ 0 → h kb = some ⟨ds, 2, true, true⟩ → j ≠ kb) → h' j = some B)
    (s : HS (hM hA j) h') (o' : OWNC 2 (hM hA j) h' v' (io + 1) (ds ++ c2)) {p : Bnd} (hc2 : Bd h c2 p) (hp : b[io]? = some p) : AddI h0 hA h' j S b ep (io + 1) is v' l := by
  have u8 := isSl_u8 sl
  have keep : ∀ {q : List Value} {ee : Bnd}, Bd h q ee → Bd h' q ee := fun {q ee} w => by
    obtain ⟨a, n, c, b, m, d, e, r1, r2⟩ := w
    exact ⟨a, n, c, b, m, d, e, fr_rb fr u8 r1, fr_rb fr u8 r2⟩
  refine ⟨(hM_of hAs hn).trans s, s, fr_es fr x.mp (by simp), x.ok, x.u8, x.nd, x.kl, fun id => ?_, ds ++ c2, o', ?_, ?_⟩
  · rcases x.sp id with q | q | ⟨kb2, c, e, h1, h2, h3, h4, h5, h6⟩
    · exact .inl q
    · exact .inr (.inl q)
    · refine .inr (.inr ⟨kb2, c, e, h1, h2, h3, h4, ?_, h6⟩)
      refine fr _ _ h5 fun _ kb c' eov hio hkb e => ?_
      rw [e, hkb] at h5
      have hz : ds = spc (S id ++ newsp ep b is id) := by
        have := Option.some.inj h5
        exact congrArg GB.cells this
      have := spc_noSl (S id ++ newsp ep b is id) (fun e => by rw [e] at h3; exact h3 rfl)
      rw [← hz, sl] at this
      cases this
  · obtain ⟨_, _, _, _, _, _, e, _⟩ := hc2
    rw [List.all_append, sl, e]; rfl
  · have ht : b.take (io + 1) = b.take io ++ [p] := by rw [List.take_add_one, hp]; rfl
    rw [ht]
    refine app_el (R := Bd h') (by rw [hd, List.length_take, Nat.min_eq_left hio]) (by obtain ⟨_, _, _, _, _, _, e, _⟩ := hc2; rw [e]; rfl) (fun i p hp => keep (bd i p hp)) (keep hc2)
theorem Bd.hx {k : Nat} {h h' : GH} {B : GB} (m : h k = some B) (hc : B.cells.all notU8 = true) (x : HX k h h') {cs : List Value} {y : Bnd} (r : Bd h cs y) : Bd h' cs y := by
  obtain ⟨a, n, c, b, m', d, e, r1, r2⟩ := r
  exact ⟨a, n, c, b, m', d, e, r1.hx m hc x, r2.hx m hc x⟩
theorem AddI.put {h0 hA h h1 h2 : GH} {j : Nat} {S : List UInt8 → List (Nat × Nat)} {b : List Bnd} {ep io is : Nat} {ov v : Value} {l : List Value} (x : AddI h0 hA h j S b ep io is ov l) (s : HS h h1) (hn : h0 (j + 1) = none) {p : Bnd} (hp : b[is]? = some p)
    (o : OWNC 2 h h1 v ((S p.1 ++ newsp ep b is p.1).length + 1) (spc (S p.1 ++ newsp ep b is p.1) ++ [.int .i64 (ep : Int), .int .i64 (is : Int)])) (m2 : h2 (j + 1) = some ⟨MM :: mset (bstr p.1) v l, 0, true, false⟩) (f2 : ∀ i, i ≠ j + 1 → h2 i = h1 i) (hv : notU8 v = true) :
    AddI h0 hA h2 j S b ep io (is + 1) ov (mset (bstr p.1) v l) := by
  have y := x.up s
  have hx : HX (j + 1) h1 h2 := fun i B n e => (f2 i n).trans e
  have u1 : (⟨MM :: l, 0, true, false⟩ : GB).cells.all notU8 = true := by simp [notU8, x.u8]
  have b1 : bat1 b is = p := by simp [bat1, hp]
  obtain ⟨ds, od, sl, bd⟩ := y.own
  refine ⟨fun i B e => ?_, fun i B e => ?_, m2, (mfind_mset _ (bstr []) _ _ x.ok).1, mset_all _ _ _ rfl hv _ x.u8, mset_nd x.ok x.nd, by have := mset_kl (s := bstr p.1) (x := v) x.ok; have := x.kl; omega, fun id => ?_, ds, od.hx y.mp (by simp) hx, sl, fun q p hp => (bd q p hp).hx y.mp u1 hx⟩
  · rw [f2 i (fun q => by rw [q, hn] at e; cases e)]; exact y.hs i B e
  · rw [f2 i (fun q => by rw [q, hM_none] at e; cases e)]; exact y.hx i B e
  · rw [mget_mset x.ok]
    by_cases hid : id = p.1
    · subst hid
      have e1 : newsp ep b (is + 1) p.1 = newsp ep b is p.1 ++ [(ep, is)] := by simp [newsp, b1]
      rw [if_pos rfl, e1, ← List.append_assoc, spc_app, List.length_append]
      exact (o.weak x.hs).hx y.mp (by simp) hx
    · have e1 : newsp ep b (is + 1) id = newsp ep b is id := by simp [newsp, b1, hid]
      rw [if_neg hid, e1]
      exact (y.sp id).hx y.mp (by simp) hx
end Go.Gh

/- Versions: a batch added. -/

namespace Go.Gh
open Go Go.Proofs Go.RowKit
set_option linter.unusedVariables false
set_option linter.unusedSimpArgs false
set_option maxRecDepth 100000
set_option maxHeartbeats 2000000

/-- All stays but two variables and arrays of slices. -/
def FK (k j : Nat) (h h' : GH) : Prop := (∀ i B, h i = some B → i ≠ k → i ≠ j + 1 → B.es ≠ 1 → h' i = some B) ∧ ∀ v l, RB h v l → RB h' v l
theorem FK.of {k j : Nat} {h h' : GH} (s : HS h h') : FK k j h h' := ⟨fun i B e _ _ _ => s i B e, fun v l r => r.hs s⟩
theorem FK.trans {k j : Nat} {a b c : GH} (x : FK k j a b) (y : FK k j b c) : FK k j a c := ⟨fun i B e n1 n2 n3 => y.1 i B (x.1 i B e n1 n2 n3) n1 n2 n3, fun v l r => y.2 v l (x.2 v l r)⟩
/-- What Add answers. -/
def addErr (b : List Bnd) : Int := if b = [] then 82 else if (seenN b b.length).length / 2 < b.length then 80 else 0
def AddR (h0 h : GH) (k j : Nat) (bv : Value) (cs l : List Value) (B : List (List Bnd)) (S : List UInt8 → List (Nat × Nat)) (b : List Bnd) (h' : GH) : Prop :=
  (addErr b ≠ 0 ∧ IX h0 h' k j bv cs l B S) ∨ (addErr b = 0 ∧ ∃ bv' cs' l', IX h0 h' k j bv' cs' l' (B ++ [b]) fun id => S id ++ newsp (B.length + 1) b b.length id)
theorem look_mp {h : GH} {j : Nat} {l : List Value} (m : h (j + 1) = some ⟨MM :: l, 0, true, false⟩) (ok : mok l = true) (id : List UInt8) : gLookup Try.prog 42 h (.map (some j)) (.string (bstr id)) false = some (mget l id) := by
  simp only [gLookup, sm42, gMapOf, m, ok, gz42, mget, if_true]
  cases mfind (bstr id) l <;> simp

theorem gSrc_hs {h h' : GH} (s : HS h h') {es : Nat} {x : Value} {r : Nat × List Value} (e : gSrc h es x = some r) : gSrc h' es x = some r := by
  unfold gSrc at e ⊢
  split at e
  · exact e
  · simp only [Option.map_eq_some_iff] at e ⊢
    obtain ⟨cs, h1, h2⟩ := e
    exact ⟨cs, gread_hc s.hc h1, h2⟩
  · exact e
  · cases e
theorem Bat.by {h0 h h' : GH} {v : Value} {b : List Bnd} (x : Bat h0 h v b) (ho : ∀ v n cs, OWNC 2 h0 h v n cs → OWNC 2 h0 h' v n cs) (hr : ∀ v l, RB h v l → RB h' v l) : Bat h0 h' v b := by
  obtain ⟨ds, o, r⟩ := x
  refine ⟨ds, ho _ _ _ o, fun i p hp => ?_⟩
  obtain ⟨a, n, c, b, m, d, e, r1, r2⟩ := r i p hp
  exact ⟨a, n, c, b, m, d, e, hr _ _ r1, hr _ _ r2⟩
theorem OWNC.fr1 {h0 h h' : GH} {s : Value} {n0 : Nat} {cs0 : List Value} (fr : ∀ j B, h j = some B → (j = j → ∀ kb c, s = .slice (some ⟨kb, 0, none⟩) n0 c → n0 ≠ 0 → h kb = some ⟨cs0, 1, true, true⟩ → j ≠ kb) → h' j = some B) {v : Value} {n : Nat} {cs : List Value} (o : OWNC 2 h0 h v n cs) : OWNC 2 h0 h' v n cs := by
  rcases o with o | o | ⟨k, c, h1, h2, h3, h4, h5, h6, h7⟩
  · exact .inl o
  · exact .inr (.inl o)
  · exact .inr (.inr ⟨k, c, h1, h2, h3, h4, h5, fr_es fr h6 (by simp), h7⟩)

theorem c_Add (N : Nat) {h0 h : GH} {k j : Nat} {bv : Value} {cs l : List Value} {B : List (List Bnd)} {S : List UInt8 → List (Nat × Nat)} (s0 : HS h0 h) (x : IX h0 h k j bv cs l B S) (hB : B.length ≤ 90) {a : Option Addr} {c : Nat} {b : List Bnd} (rl : RL 2 Bd h (.slice a b.length c) b) (hb : b.length ≤ 10)
    (hbl : ∀ p ∈ b, p.1.length ≤ 140737488355328 ∧ p.2.length ≤ 140737488355328) :
    GTri Try.prog N 13 [.pointer (some ⟨k, 0, none⟩), .slice a b.length c] h fun v h' => v = .int .i64 (addErr b) ∧ HS h0 h' ∧ FK k j h h' ∧ AddR h0 h k j bv cs l B S b h' := by
  refine gtri Try.func13 rfl gf13 ok13 (by simp [Try.ntmps13]) ?_
  by_cases hbe : b = []
  · subst hbe
    have d0 : ((0 : Int) == 0) = true := rfl
    refine mk_of ?_; repeat' (first | (with_reducible first | refine gw_seq ?_ | refine gw_block ?_) | ((first | (with_reducible refine mk_to ?_) | (with_reducible first | refine gw_region ?_ | refine gw_if ?_ | refine gw_skip ?_ | refine gw_exit ?_ | refine gw_ret ?_) | ((with_reducible first | refine gif_b (fun hb => ?_) (fun hb => ?_) | refine want_t (fun hb => ?_) (fun hb => ?_) | refine want_f (fun hb => ?_) (fun hb => ?_) | refine dr_t (fun hb => ?_) (fun hb => ?_) | refine dr_f (fun hb => ?_) (fun hb => ?_)) <;> (try simp only [hb]) <;> (try simp only [hpr] at hb)) | with_reducible refine gw_draw (id := 18) [(0, []), (1, []), (2, []), (4, []), (5, []), (3, [5]), (6, []), (7, []), (8, []), (9, []), (10, [])] [0, 0, 2, 6, 0, 16, 62, 126, 254, 511, 1023] mixed (by kernel_rfl) ?_ | with_reducible refine gw_draw2 (id := 20) 11 15 [(0, []), (1, []), (2, []), (3, []), (4, []), (5, []), (6, []), (7, []), (8, []), (9, []), (10, []), (12, []), (13, []), (14, []), (11, [3]), (15, [3]), (16, [3]), (17, [])] [0, 1, 3, 7, 0, 0, 32, 96, 224, 0, 992, 2016, 0, 0, 12288, 32736, 65504, 131071] [(0, []), (1, []), (2, []), (3, []), (4, []), (5, []), (6, []), (7, []), (8, []), (9, []), (10, []), (12, []), (13, []), (14, []), (15, [3, 8, 10]), (11, [3]), (16, [3]), (17, [])] [0, 1, 3, 7, 0, 0, 32, 96, 224, 0, 992, 63456, 0, 0, 12288, 28672, 65504, 131071] mixed (by kernel_rfl) (by kernel_rfl) (by kernel_rfl) ?_ ?_ | ((refine GTri.mono (c_vnone _ _ x.obj) ?_); rintro _ _ ⟨rfl, hh9⟩; replace hh9 := hh9.symm; subst hh9)) <;> try simp only [List.map, gop, ev, lk, aenv, gyield, gBin, gInt, gStrOp, gUn, gPick, gNil, gExtract, gIfc, gConvK, gIndexO, gIndexVO, gMakeV, gMinV, gMaxV, isInt, gMin, gMax, gBlt, gLenX, gCallV, gInvoke, gNilM, Array.toList_map, vcells, gField, gIndexV, gPart, reduceIte, Nat.reduceAdd, Nat.reduceSub, Nat.reduceMul, Nat.reduceLT, Nat.reduceLeDiff, Nat.reduceEqDiff, Nat.reduceBEq, Int.reduceLT, Int.reduceLE, Int.reduceGT, Int.reduceGE, Int.reduceEq, Int.reduceNe, Int.reduceAdd, Int.reduceSub, Int.reduceMul, Int.reduceNeg, Int.reduceToNat, Int.reduceBEq, Int.reduceBNe, Int.cast_ofNat_Int, List.getElem?_toArray, stp, rvOf, rvLen, wput, wlk, rdv, isEff, dsOf, sgl, stq, Try.underlying102, Try.underlying104, Try.underlying107, Try.underlying22, Try.underlying23, Try.underlying24, Try.underlying27, Try.underlying3, Try.underlying4, Try.underlying42, Try.underlying44, Try.underlying5, Try.underlying9, Try.underlying99, ty104, ty22, ty23, ty24, ty107, ty44, ty99, ty102, ty27, ty3, ty4, ty42, ty5, ty9, rs13, List.length_nil, Int.cast_ofNat_Int, d0]))
    exact ⟨rfl, s0, FK.of (HS.refl h), .inl ⟨by simp [addErr], x⟩⟩
  have hb0 : b.length ≠ 0 := fun e => hbe (List.eq_nil_of_length_eq_zero e)
  have d0 : ((b.length : Int) == 0) = false := by simpa using hbe
  refine mk_of ?_; repeat' (first | (with_reducible first | refine gw_seq ?_ | refine gw_block ?_) | ((first | (with_reducible refine mk_to ?_) | (with_reducible first | refine gw_region ?_ | refine gw_if ?_ | refine gw_skip ?_ | refine gw_exit ?_ | refine gw_ret ?_) | ((with_reducible first | refine gif_b (fun hb => ?_) (fun hb => ?_) | refine want_t (fun hb => ?_) (fun hb => ?_) | refine want_f (fun hb => ?_) (fun hb => ?_) | refine dr_t (fun hb => ?_) (fun hb => ?_) | refine dr_f (fun hb => ?_) (fun hb => ?_)) <;> (try simp only [hb]) <;> (try simp only [hpr] at hb)) | with_reducible refine gw_draw (id := 18) [(0, []), (1, []), (2, []), (4, []), (5, []), (3, [5]), (6, []), (7, []), (8, []), (9, []), (10, [])] [0, 0, 2, 6, 0, 16, 62, 126, 254, 511, 1023] mixed (by kernel_rfl) ?_ | with_reducible refine gw_draw2 (id := 20) 11 15 [(0, []), (1, []), (2, []), (3, []), (4, []), (5, []), (6, []), (7, []), (8, []), (9, []), (10, []), (12, []), (13, []), (14, []), (11, [3]), (15, [3]), (16, [3]), (17, [])] [0, 1, 3, 7, 0, 0, 32, 96, 224, 0, 992, 2016, 0, 0, 12288, 32736, 65504, 131071] [(0, []), (1, []), (2, []), (3, []), (4, []), (5, []), (6, []), (7, []), (8, []), (9, []), (10, []), (12, []), (13, []), (14, []), (15, [3, 8, 10]), (11, [3]), (16, [3]), (17, [])] [0, 1, 3, 7, 0, 0, 32, 96, 224, 0, 992, 63456, 0, 0, 12288, 28672, 65504, 131071] mixed (by kernel_rfl) (by kernel_rfl) (by kernel_rfl) ?_ ?_ | ((refine GTri.mono (c_vnone _ _ x.obj) ?_); rintro _ _ ⟨rfl, hh9⟩; replace hh9 := hh9.symm; subst hh9)) <;> try simp only [List.map, gop, ev, lk, aenv, gyield, gBin, gInt, gStrOp, gUn, gPick, gNil, gExtract, gIfc, gConvK, gIndexO, gIndexVO, gMakeV, gMinV, gMaxV, isInt, gMin, gMax, gBlt, gLenX, gCallV, gInvoke, gNilM, Array.toList_map, vcells, gField, gIndexV, gPart, reduceIte, Nat.reduceAdd, Nat.reduceSub, Nat.reduceMul, Nat.reduceLT, Nat.reduceLeDiff, Nat.reduceEqDiff, Nat.reduceBEq, Int.reduceLT, Int.reduceLE, Int.reduceGT, Int.reduceGE, Int.reduceEq, Int.reduceNe, Int.reduceAdd, Int.reduceSub, Int.reduceMul, Int.reduceNeg, Int.reduceToNat, Int.reduceBEq, Int.reduceBNe, Int.cast_ofNat_Int, List.getElem?_toArray, stp, rvOf, rvLen, wput, wlk, rdv, isEff, dsOf, sgl, stq, Try.underlying102, Try.underlying104, Try.underlying107, Try.underlying22, Try.underlying23, Try.underlying24, Try.underlying27, Try.underlying3, Try.underlying4, Try.underlying42, Try.underlying44, Try.underlying5, Try.underlying9, Try.underlying99, ty104, ty22, ty23, ty24, ty107, ty44, ty99, ty102, ty27, ty3, ty4, ty42, ty5, ty9, rs13, d0]))
  refine mm_g fun js h1 m1 s1 f1 n1 => ?_
  refine mk_of ?_; repeat' (first | (with_reducible first | refine gw_seq ?_ | refine gw_block ?_) | ((first | (with_reducible refine mk_to ?_) | (with_reducible first | refine gw_region ?_ | refine gw_if ?_ | refine gw_skip ?_ | refine gw_exit ?_ | refine gw_ret ?_) | ((with_reducible first | refine gif_b (fun hb => ?_) (fun hb => ?_) | refine want_t (fun hb => ?_) (fun hb => ?_) | refine want_f (fun hb => ?_) (fun hb => ?_) | refine dr_t (fun hb => ?_) (fun hb => ?_) | refine dr_f (fun hb => ?_) (fun hb => ?_)) <;> (try simp only [hb]) <;> (try simp only [hpr] at hb)) | with_reducible refine gw_draw (id := 18) [(0, []), (1, []), (2, []), (4, []), (5, []), (3, [5]), (6, []), (7, []), (8, []), (9, []), (10, [])] [0, 0, 2, 6, 0, 16, 62, 126, 254, 511, 1023] mixed (by kernel_rfl) ?_ | with_reducible refine gw_draw2 (id := 20) 11 15 [(0, []), (1, []), (2, []), (3, []), (4, []), (5, []), (6, []), (7, []), (8, []), (9, []), (10, []), (12, []), (13, []), (14, []), (11, [3]), (15, [3]), (16, [3]), (17, [])] [0, 1, 3, 7, 0, 0, 32, 96, 224, 0, 992, 2016, 0, 0, 12288, 32736, 65504, 131071] [(0, []), (1, []), (2, []), (3, []), (4, []), (5, []), (6, []), (7, []), (8, []), (9, []), (10, []), (12, []), (13, []), (14, []), (15, [3, 8, 10]), (11, [3]), (16, [3]), (17, [])] [0, 1, 3, 7, 0, 0, 32, 96, 224, 0, 992, 63456, 0, 0, 12288, 28672, 65504, 131071] mixed (by kernel_rfl) (by kernel_rfl) (by kernel_rfl) ?_ ?_) <;> try simp only [List.map, gop, ev, lk, aenv, gyield, gBin, gInt, gStrOp, gUn, gPick, gNil, gExtract, gIfc, gConvK, gIndexO, gIndexVO, gMakeV, gMinV, gMaxV, isInt, gMin, gMax, gBlt, gLenX, gCallV, gInvoke, gNilM, Array.toList_map, vcells, gField, gIndexV, gPart, reduceIte, Nat.reduceAdd, Nat.reduceSub, Nat.reduceMul, Nat.reduceLT, Nat.reduceLeDiff, Nat.reduceEqDiff, Nat.reduceBEq, Int.reduceLT, Int.reduceLE, Int.reduceGT, Int.reduceGE, Int.reduceEq, Int.reduceNe, Int.reduceAdd, Int.reduceSub, Int.reduceMul, Int.reduceNeg, Int.reduceToNat, Int.reduceBEq, Int.reduceBNe, Int.cast_ofNat_Int, List.getElem?_toArray, stp, rvOf, rvLen, wput, wlk, rdv, isEff, dsOf, sgl, stq, Try.underlying102, Try.underlying104, Try.underlying107, Try.underlying22, Try.underlying23, Try.underlying24, Try.underlying27, Try.underlying3, Try.underlying4, Try.underlying42, Try.underlying44, Try.underlying5, Try.underlying9, Try.underlying99, ty104, ty22, ty23, ty24, ty107, ty44, ty99, ty102, ty27, ty3, ty4, ty42, ty5, ty9, rs13]))
  refine gw_loop2 [0, 1, 4, 5, 19, 20] (fun (i : Nat) => [(21, .int .i64 (i : Int))]) (fun q i h' => b.length - i = q ∧ i ≤ b.length ∧ HS h h' ∧ h' (js + 1) = some ⟨MM :: seenN b i, 0, true, false⟩) b.length 0 (by simp [lk]) ⟨rfl, by omega, s1, m1⟩ ?_
  rintro _ i h2 ⟨rfl, hi, s2, m2⟩
  by_cases hib : i < b.length
  · have d3 : decide ((i : Int) < (b.length : Int)) = true := decide_eq_true (by omega)
    have wi : IntKind.i64.wrap ((i : Int) + 1) = ((i + 1 : Nat) : Int) := by rw [wrap64 (by omega) (by omega)]; omega
    obtain ⟨p, hp⟩ : ∃ p, b[i]? = some p := ⟨_, List.getElem?_eq_getElem hib⟩
    obtain ⟨ad, cs2, g1, g2, a', n', c', b', m', d', rfl, q1, q2⟩ := (rl.bs s2).at (P := Try.prog) Try.underlying23 sz99 hp
    have l1 : gLoad Try.prog 99 h2 (.pointer (some ad)) = some (.agg #[.slice a' n' c', .slice b' m' d']) := by simp only [gLoad, sz99, g2]; rfl
    refine mk_of ?_; repeat' (first | (with_reducible first | refine gw_seq ?_ | refine gw_block ?_) | ((first | (with_reducible refine mk_to ?_) | (with_reducible first | refine gw_region ?_ | refine gw_if ?_ | refine gw_skip ?_ | refine gw_exit ?_ | refine gw_ret ?_) | ((with_reducible first | refine gif_b (fun hb => ?_) (fun hb => ?_) | refine want_t (fun hb => ?_) (fun hb => ?_) | refine want_f (fun hb => ?_) (fun hb => ?_) | refine dr_t (fun hb => ?_) (fun hb => ?_) | refine dr_f (fun hb => ?_) (fun hb => ?_)) <;> (try simp only [hb]) <;> (try simp only [hpr] at hb)) | with_reducible refine gw_draw (id := 18) [(0, []), (1, []), (2, []), (4, []), (5, []), (3, [5]), (6, []), (7, []), (8, []), (9, []), (10, [])] [0, 0, 2, 6, 0, 16, 62, 126, 254, 511, 1023] mixed (by kernel_rfl) ?_ | with_reducible refine gw_draw2 (id := 20) 11 15 [(0, []), (1, []), (2, []), (3, []), (4, []), (5, []), (6, []), (7, []), (8, []), (9, []), (10, []), (12, []), (13, []), (14, []), (11, [3]), (15, [3]), (16, [3]), (17, [])] [0, 1, 3, 7, 0, 0, 32, 96, 224, 0, 992, 2016, 0, 0, 12288, 32736, 65504, 131071] [(0, []), (1, []), (2, []), (3, []), (4, []), (5, []), (6, []), (7, []), (8, []), (9, []), (10, []), (12, []), (13, []), (14, []), (15, [3, 8, 10]), (11, [3]), (16, [3]), (17, [])] [0, 1, 3, 7, 0, 0, 32, 96, 224, 0, 992, 63456, 0, 0, 12288, 28672, 65504, 131071] mixed (by kernel_rfl) (by kernel_rfl) (by kernel_rfl) ?_ ?_) <;> try simp only [List.map, gop, ev, lk, aenv, gyield, gBin, gInt, gStrOp, gUn, gPick, gNil, gExtract, gIfc, gConvK, gIndexO, gIndexVO, gMakeV, gMinV, gMaxV, isInt, gMin, gMax, gBlt, gLenX, gCallV, gInvoke, gNilM, Array.toList_map, vcells, gField, gIndexV, gPart, reduceIte, Nat.reduceAdd, Nat.reduceSub, Nat.reduceMul, Nat.reduceLT, Nat.reduceLeDiff, Nat.reduceEqDiff, Nat.reduceBEq, Int.reduceLT, Int.reduceLE, Int.reduceGT, Int.reduceGE, Int.reduceEq, Int.reduceNe, Int.reduceAdd, Int.reduceSub, Int.reduceMul, Int.reduceNeg, Int.reduceToNat, Int.reduceBEq, Int.reduceBNe, Int.cast_ofNat_Int, List.getElem?_toArray, stp, rvOf, rvLen, wput, wlk, rdv, isEff, dsOf, sgl, stq, Try.underlying102, Try.underlying104, Try.underlying107, Try.underlying22, Try.underlying23, Try.underlying24, Try.underlying27, Try.underlying3, Try.underlying4, Try.underlying42, Try.underlying44, Try.underlying5, Try.underlying9, Try.underlying99, ty104, ty22, ty23, ty24, ty107, ty44, ty99, ty102, ty27, ty3, ty4, ty42, ty5, ty9, rs13, d3, g1, l1]))
    refine new_g fun k7 h7 m7 s7 f7 n7 => ?_
    refine mk_of ?_; repeat' (first | (with_reducible first | refine gw_seq ?_ | refine gw_block ?_) | ((first | (with_reducible refine mk_to ?_) | (with_reducible first | refine gw_region ?_ | refine gw_if ?_ | refine gw_skip ?_ | refine gw_exit ?_ | refine gw_ret ?_) | ((with_reducible first | refine gif_b (fun hb => ?_) (fun hb => ?_) | refine want_t (fun hb => ?_) (fun hb => ?_) | refine want_f (fun hb => ?_) (fun hb => ?_) | refine dr_t (fun hb => ?_) (fun hb => ?_) | refine dr_f (fun hb => ?_) (fun hb => ?_)) <;> (try simp only [hb]) <;> (try simp only [hpr] at hb)) | with_reducible refine gw_draw (id := 18) [(0, []), (1, []), (2, []), (4, []), (5, []), (3, [5]), (6, []), (7, []), (8, []), (9, []), (10, [])] [0, 0, 2, 6, 0, 16, 62, 126, 254, 511, 1023] mixed (by kernel_rfl) ?_ | with_reducible refine gw_draw2 (id := 20) 11 15 [(0, []), (1, []), (2, []), (3, []), (4, []), (5, []), (6, []), (7, []), (8, []), (9, []), (10, []), (12, []), (13, []), (14, []), (11, [3]), (15, [3]), (16, [3]), (17, [])] [0, 1, 3, 7, 0, 0, 32, 96, 224, 0, 992, 2016, 0, 0, 12288, 32736, 65504, 131071] [(0, []), (1, []), (2, []), (3, []), (4, []), (5, []), (6, []), (7, []), (8, []), (9, []), (10, []), (12, []), (13, []), (14, []), (15, [3, 8, 10]), (11, [3]), (16, [3]), (17, [])] [0, 1, 3, 7, 0, 0, 32, 96, 224, 0, 992, 63456, 0, 0, 12288, 28672, 65504, 131071] mixed (by kernel_rfl) (by kernel_rfl) (by kernel_rfl) ?_ ?_) <;> try simp only [List.map, gop, ev, lk, aenv, gyield, gBin, gInt, gStrOp, gUn, gPick, gNil, gExtract, gIfc, gConvK, gIndexO, gIndexVO, gMakeV, gMinV, gMaxV, isInt, gMin, gMax, gBlt, gLenX, gCallV, gInvoke, gNilM, Array.toList_map, vcells, gField, gIndexV, gPart, reduceIte, Nat.reduceAdd, Nat.reduceSub, Nat.reduceMul, Nat.reduceLT, Nat.reduceLeDiff, Nat.reduceEqDiff, Nat.reduceBEq, Int.reduceLT, Int.reduceLE, Int.reduceGT, Int.reduceGE, Int.reduceEq, Int.reduceNe, Int.reduceAdd, Int.reduceSub, Int.reduceMul, Int.reduceNeg, Int.reduceToNat, Int.reduceBEq, Int.reduceBNe, Int.cast_ofNat_Int, List.getElem?_toArray, stp, rvOf, rvLen, wput, wlk, rdv, isEff, dsOf, sgl, stq, Try.underlying102, Try.underlying104, Try.underlying107, Try.underlying22, Try.underlying23, Try.underlying24, Try.underlying27, Try.underlying3, Try.underlying4, Try.underlying42, Try.underlying44, Try.underlying5, Try.underlying9, Try.underlying99, ty104, ty22, ty23, ty24, ty107, ty44, ty99, ty102, ty27, ty3, ty4, ty42, ty5, ty9, rs13]))
    refine st_all m7 sz99 rfl (by decide) rfl rfl rfl fun h8 m8 f8 => ?_
    have s8 : HS h2 h8 := (HS.refl h2).upd n7 (fun j hj => (f8 j hj).trans (f7 j hj))
    have cv := (q1.hs s8).conv Try.underlying24 Try.underlying5 Try.underlying9
    refine mk_of ?_; repeat' (first | (with_reducible first | refine gw_seq ?_ | refine gw_block ?_) | ((first | (with_reducible refine mk_to ?_) | (with_reducible first | refine gw_region ?_ | refine gw_if ?_ | refine gw_skip ?_ | refine gw_exit ?_ | refine gw_ret ?_) | ((with_reducible first | refine gif_b (fun hb => ?_) (fun hb => ?_) | refine want_t (fun hb => ?_) (fun hb => ?_) | refine want_f (fun hb => ?_) (fun hb => ?_) | refine dr_t (fun hb => ?_) (fun hb => ?_) | refine dr_f (fun hb => ?_) (fun hb => ?_)) <;> (try simp only [hb]) <;> (try simp only [hpr] at hb)) | with_reducible refine gw_draw (id := 18) [(0, []), (1, []), (2, []), (4, []), (5, []), (3, [5]), (6, []), (7, []), (8, []), (9, []), (10, [])] [0, 0, 2, 6, 0, 16, 62, 126, 254, 511, 1023] mixed (by kernel_rfl) ?_ | with_reducible refine gw_draw2 (id := 20) 11 15 [(0, []), (1, []), (2, []), (3, []), (4, []), (5, []), (6, []), (7, []), (8, []), (9, []), (10, []), (12, []), (13, []), (14, []), (11, [3]), (15, [3]), (16, [3]), (17, [])] [0, 1, 3, 7, 0, 0, 32, 96, 224, 0, 992, 2016, 0, 0, 12288, 32736, 65504, 131071] [(0, []), (1, []), (2, []), (3, []), (4, []), (5, []), (6, []), (7, []), (8, []), (9, []), (10, []), (12, []), (13, []), (14, []), (15, [3, 8, 10]), (11, [3]), (16, [3]), (17, [])] [0, 1, 3, 7, 0, 0, 32, 96, 224, 0, 992, 63456, 0, 0, 12288, 28672, 65504, 131071] mixed (by kernel_rfl) (by kernel_rfl) (by kernel_rfl) ?_ ?_) <;> try simp only [List.map, gop, ev, lk, aenv, gyield, gBin, gInt, gStrOp, gUn, gPick, gNil, gExtract, gIfc, gConvK, gIndexO, gIndexVO, gMakeV, gMinV, gMaxV, isInt, gMin, gMax, gBlt, gLenX, gCallV, gInvoke, gNilM, Array.toList_map, vcells, gField, gIndexV, gPart, reduceIte, Nat.reduceAdd, Nat.reduceSub, Nat.reduceMul, Nat.reduceLT, Nat.reduceLeDiff, Nat.reduceEqDiff, Nat.reduceBEq, Int.reduceLT, Int.reduceLE, Int.reduceGT, Int.reduceGE, Int.reduceEq, Int.reduceNe, Int.reduceAdd, Int.reduceSub, Int.reduceMul, Int.reduceNeg, Int.reduceToNat, Int.reduceBEq, Int.reduceBNe, Int.cast_ofNat_Int, List.getElem?_toArray, stp, rvOf, rvLen, wput, wlk, rdv, isEff, dsOf, sgl, stq, Try.underlying102, Try.underlying104, Try.underlying107, Try.underlying22, Try.underlying23, Try.underlying24, Try.underlying27, Try.underlying3, Try.underlying4, Try.underlying42, Try.underlying44, Try.underlying5, Try.underlying9, Try.underlying99, ty104, ty22, ty23, ty24, ty107, ty44, ty99, ty102, ty27, ty3, ty4, ty42, ty5, ty9, rs13, gload1 m8 sz24, cv, List.getElem?_cons_zero, List.getElem?_cons_succ]))
    refine put_g (s8 _ _ m2) (seenN_ok b i) sm102 fun h9 m9 f9 => ?_
    refine mk_of ?_; repeat' (first | (with_reducible first | refine gw_seq ?_ | refine gw_block ?_) | ((first | (with_reducible refine mk_to ?_) | (with_reducible first | refine gw_region ?_ | refine gw_if ?_ | refine gw_skip ?_ | refine gw_exit ?_ | refine gw_ret ?_) | ((with_reducible first | refine gif_b (fun hb => ?_) (fun hb => ?_) | refine want_t (fun hb => ?_) (fun hb => ?_) | refine want_f (fun hb => ?_) (fun hb => ?_) | refine dr_t (fun hb => ?_) (fun hb => ?_) | refine dr_f (fun hb => ?_) (fun hb => ?_)) <;> (try simp only [hb]) <;> (try simp only [hpr] at hb)) | with_reducible refine gw_draw (id := 18) [(0, []), (1, []), (2, []), (4, []), (5, []), (3, [5]), (6, []), (7, []), (8, []), (9, []), (10, [])] [0, 0, 2, 6, 0, 16, 62, 126, 254, 511, 1023] mixed (by kernel_rfl) ?_ | with_reducible refine gw_draw2 (id := 20) 11 15 [(0, []), (1, []), (2, []), (3, []), (4, []), (5, []), (6, []), (7, []), (8, []), (9, []), (10, []), (12, []), (13, []), (14, []), (11, [3]), (15, [3]), (16, [3]), (17, [])] [0, 1, 3, 7, 0, 0, 32, 96, 224, 0, 992, 2016, 0, 0, 12288, 32736, 65504, 131071] [(0, []), (1, []), (2, []), (3, []), (4, []), (5, []), (6, []), (7, []), (8, []), (9, []), (10, []), (12, []), (13, []), (14, []), (15, [3, 8, 10]), (11, [3]), (16, [3]), (17, [])] [0, 1, 3, 7, 0, 0, 32, 96, 224, 0, 992, 63456, 0, 0, 12288, 28672, 65504, 131071] mixed (by kernel_rfl) (by kernel_rfl) (by kernel_rfl) ?_ ?_) <;> try simp only [List.map, gop, ev, lk, aenv, gyield, gBin, gInt, gStrOp, gUn, gPick, gNil, gExtract, gIfc, gConvK, gIndexO, gIndexVO, gMakeV, gMinV, gMaxV, isInt, gMin, gMax, gBlt, gLenX, gCallV, gInvoke, gNilM, Array.toList_map, vcells, gField, gIndexV, gPart, reduceIte, Nat.reduceAdd, Nat.reduceSub, Nat.reduceMul, Nat.reduceLT, Nat.reduceLeDiff, Nat.reduceEqDiff, Nat.reduceBEq, Int.reduceLT, Int.reduceLE, Int.reduceGT, Int.reduceGE, Int.reduceEq, Int.reduceNe, Int.reduceAdd, Int.reduceSub, Int.reduceMul, Int.reduceNeg, Int.reduceToNat, Int.reduceBEq, Int.reduceBNe, Int.cast_ofNat_Int, List.getElem?_toArray, stp, rvOf, rvLen, wput, wlk, rdv, isEff, dsOf, sgl, stq, Try.underlying102, Try.underlying104, Try.underlying107, Try.underlying22, Try.underlying23, Try.underlying24, Try.underlying27, Try.underlying3, Try.underlying4, Try.underlying42, Try.underlying44, Try.underlying5, Try.underlying9, Try.underlying99, ty104, ty22, ty23, ty24, ty107, ty44, ty99, ty102, ty27, ty3, ty4, ty42, ty5, ty9, rs13, wi]))
    refine ⟨_, i + 1, ?_, (by simp only [List.forall_mem_cons, List.not_mem_nil, false_implies, implies_true, List.map, List.cons_append, List.nil_append, lk, Nat.reduceEqDiff, reduceIte, and_true, true_and]), rfl, by omega, (s2.trans s8).upd n1 f9, ?_⟩
    · omega
    · rw [m9]; simp [seenN, bat1, hp]
  obtain rfl : i = b.length := by omega
  have d3 : decide ((b.length : Int) < (b.length : Int)) = false := decide_eq_false (by omega)
  have lm := lenm (P := Try.prog) m2 (seenN_ok b b.length) Try.underlying102
  have lm0 := lenm0 (P := Try.prog) Try.underlying102
  have x2 := x.hs s2
  by_cases htw : (seenN b b.length).length / 2 < b.length
  · have d4 : decide ((((seenN b b.length).length / 2 : Nat) : Int) < (b.length : Int)) = true := decide_eq_true (by omega)
    refine mk_of ?_; repeat' (first | (with_reducible first | refine gw_seq ?_ | refine gw_block ?_) | ((first | (with_reducible refine mk_to ?_) | (with_reducible first | refine gw_region ?_ | refine gw_if ?_ | refine gw_skip ?_ | refine gw_exit ?_ | refine gw_ret ?_) | ((with_reducible first | refine gif_b (fun hb => ?_) (fun hb => ?_) | refine want_t (fun hb => ?_) (fun hb => ?_) | refine want_f (fun hb => ?_) (fun hb => ?_) | refine dr_t (fun hb => ?_) (fun hb => ?_) | refine dr_f (fun hb => ?_) (fun hb => ?_)) <;> (try simp only [hb]) <;> (try simp only [hpr] at hb)) | with_reducible refine gw_draw (id := 18) [(0, []), (1, []), (2, []), (4, []), (5, []), (3, [5]), (6, []), (7, []), (8, []), (9, []), (10, [])] [0, 0, 2, 6, 0, 16, 62, 126, 254, 511, 1023] mixed (by kernel_rfl) ?_ | with_reducible refine gw_draw2 (id := 20) 11 15 [(0, []), (1, []), (2, []), (3, []), (4, []), (5, []), (6, []), (7, []), (8, []), (9, []), (10, []), (12, []), (13, []), (14, []), (11, [3]), (15, [3]), (16, [3]), (17, [])] [0, 1, 3, 7, 0, 0, 32, 96, 224, 0, 992, 2016, 0, 0, 12288, 32736, 65504, 131071] [(0, []), (1, []), (2, []), (3, []), (4, []), (5, []), (6, []), (7, []), (8, []), (9, []), (10, []), (12, []), (13, []), (14, []), (15, [3, 8, 10]), (11, [3]), (16, [3]), (17, [])] [0, 1, 3, 7, 0, 0, 32, 96, 224, 0, 992, 63456, 0, 0, 12288, 28672, 65504, 131071] mixed (by kernel_rfl) (by kernel_rfl) (by kernel_rfl) ?_ ?_) <;> try simp only [List.map, gop, ev, lk, aenv, gyield, gBin, gInt, gStrOp, gUn, gPick, gNil, gExtract, gIfc, gConvK, gIndexO, gIndexVO, gMakeV, gMinV, gMaxV, isInt, gMin, gMax, gBlt, gLenX, gCallV, gInvoke, gNilM, Array.toList_map, vcells, gField, gIndexV, gPart, reduceIte, Nat.reduceAdd, Nat.reduceSub, Nat.reduceMul, Nat.reduceLT, Nat.reduceLeDiff, Nat.reduceEqDiff, Nat.reduceBEq, Int.reduceLT, Int.reduceLE, Int.reduceGT, Int.reduceGE, Int.reduceEq, Int.reduceNe, Int.reduceAdd, Int.reduceSub, Int.reduceMul, Int.reduceNeg, Int.reduceToNat, Int.reduceBEq, Int.reduceBNe, Int.cast_ofNat_Int, List.getElem?_toArray, stp, rvOf, rvLen, wput, wlk, rdv, isEff, dsOf, sgl, stq, Try.underlying102, Try.underlying104, Try.underlying107, Try.underlying22, Try.underlying23, Try.underlying24, Try.underlying27, Try.underlying3, Try.underlying4, Try.underlying42, Try.underlying44, Try.underlying5, Try.underlying9, Try.underlying99, ty104, ty22, ty23, ty24, ty107, ty44, ty99, ty102, ty27, ty3, ty4, ty42, ty5, ty9, rs13, d3, lm0, lm, d4]))
    have ea : addErr b = 80 := by unfold addErr; rw [if_neg hbe, if_pos htw]
    exact ⟨by rw [ea], s0.trans s2, FK.of s2, .inl ⟨by rw [ea]; decide, x2⟩⟩
  have d4 : decide ((((seenN b b.length).length / 2 : Nat) : Int) < (b.length : Int)) = false := decide_eq_false (by omega)
  have ea : addErr b = 0 := by unfold addErr; rw [if_neg hbe, if_neg htw]
  obtain ⟨a5, c5, e5⟩ := x2.bat.form
  have ho := x2.obj
  rw [e5] at ho
  have w5 : IntKind.i64.wrap ((B.length : Int) + 1) = ((B.length + 1 : Nat) : Int) := by rw [wrap64 (by omega) (by omega)]; omega
  refine mk_of ?_; repeat' (first | (with_reducible first | refine gw_seq ?_ | refine gw_block ?_) | ((first | (with_reducible refine mk_to ?_) | (with_reducible first | refine gw_region ?_ | refine gw_if ?_ | refine gw_skip ?_ | refine gw_exit ?_ | refine gw_ret ?_) | ((with_reducible first | refine gif_b (fun hb => ?_) (fun hb => ?_) | refine want_t (fun hb => ?_) (fun hb => ?_) | refine want_f (fun hb => ?_) (fun hb => ?_) | refine dr_t (fun hb => ?_) (fun hb => ?_) | refine dr_f (fun hb => ?_) (fun hb => ?_)) <;> (try simp only [hb]) <;> (try simp only [hpr] at hb)) | with_reducible refine gw_draw (id := 18) [(0, []), (1, []), (2, []), (4, []), (5, []), (3, [5]), (6, []), (7, []), (8, []), (9, []), (10, [])] [0, 0, 2, 6, 0, 16, 62, 126, 254, 511, 1023] mixed (by kernel_rfl) ?_ | with_reducible refine gw_draw2 (id := 20) 11 15 [(0, []), (1, []), (2, []), (3, []), (4, []), (5, []), (6, []), (7, []), (8, []), (9, []), (10, []), (12, []), (13, []), (14, []), (11, [3]), (15, [3]), (16, [3]), (17, [])] [0, 1, 3, 7, 0, 0, 32, 96, 224, 0, 992, 2016, 0, 0, 12288, 32736, 65504, 131071] [(0, []), (1, []), (2, []), (3, []), (4, []), (5, []), (6, []), (7, []), (8, []), (9, []), (10, []), (12, []), (13, []), (14, []), (15, [3, 8, 10]), (11, [3]), (16, [3]), (17, [])] [0, 1, 3, 7, 0, 0, 32, 96, 224, 0, 992, 63456, 0, 0, 12288, 28672, 65504, 131071] mixed (by kernel_rfl) (by kernel_rfl) (by kernel_rfl) ?_ ?_) <;> try simp only [List.map, gop, ev, lk, aenv, gyield, gBin, gInt, gStrOp, gUn, gPick, gNil, gExtract, gIfc, gConvK, gIndexO, gIndexVO, gMakeV, gMinV, gMaxV, isInt, gMin, gMax, gBlt, gLenX, gCallV, gInvoke, gNilM, Array.toList_map, vcells, gField, gIndexV, gPart, reduceIte, Nat.reduceAdd, Nat.reduceSub, Nat.reduceMul, Nat.reduceLT, Nat.reduceLeDiff, Nat.reduceEqDiff, Nat.reduceBEq, Int.reduceLT, Int.reduceLE, Int.reduceGT, Int.reduceGE, Int.reduceEq, Int.reduceNe, Int.reduceAdd, Int.reduceSub, Int.reduceMul, Int.reduceNeg, Int.reduceToNat, Int.reduceBEq, Int.reduceBNe, Int.cast_ofNat_Int, List.getElem?_toArray, stp, rvOf, rvLen, wput, wlk, rdv, isEff, dsOf, sgl, stq, Try.underlying102, Try.underlying104, Try.underlying107, Try.underlying22, Try.underlying23, Try.underlying24, Try.underlying27, Try.underlying3, Try.underlying4, Try.underlying42, Try.underlying44, Try.underlying5, Try.underlying9, Try.underlying99, ty104, ty22, ty23, ty24, ty107, ty44, ty99, ty102, ty27, ty3, ty4, ty42, ty5, ty9, rs13, d3, lm0, lm, d4, gNil, gload1 ho sz22, w5, List.getElem?_cons_zero, List.getElem?_cons_succ]))
  have hkj : k ≠ j + 1 := fun e => by have h1 := x2.obj; rw [e, x2.mp] at h1; cases h1
  have u1 : (⟨MM :: l, 0, true, false⟩ : GB).cells.all notU8 = true := by simp [notU8, x2.u8]
  refine gw_loop2 [0, 4, 8, 43, 44] (fun (y : Nat × (Option Addr × Nat × Nat)) => [(9, .slice y.2.1 y.2.2.1 y.2.2.2), (45, .int .i64 (y.1 : Int))])
    (fun q y h' => b.length - y.1 = q ∧ y.1 ≤ b.length ∧ ∃ l', AddI h0 h2 h' j S b (B.length + 1) y.1 y.1 (.slice y.2.1 y.2.2.1 y.2.2.2) l') b.length (0, (none, 0, 0)) (by simp [lk])
    ⟨rfl, by simp, l, s0.trans s2, hM_hs (HS.refl _), x2.mp, x2.ok, x2.u8, x2.nd, by have := x2.kl; omega, fun id => by simpa [newsp] using x2.sp id, [], OWNC.nil _ _ _, rfl, fun q p hp => by simp at hp⟩ ?_
  rintro _ ⟨i, a3, n3, c3⟩ h3 ⟨rfl, hi, l3, y3⟩
  simp only at hi y3
  have hx3 := hM_hx y3.hx
  have ho3 := hx3 _ _ hkj ho
  by_cases hib : i < b.length
  · have d3 : decide ((i : Int) < (b.length : Int)) = true := decide_eq_true (by omega)
    have wi : IntKind.i64.wrap ((i : Int) + 1) = ((i + 1 : Nat) : Int) := by rw [wrap64 (by omega) (by omega)]; omega
    obtain ⟨p, hp⟩ : ∃ p, b[i]? = some p := ⟨_, List.getElem?_eq_getElem hib⟩
    have rl3 : RL 2 Bd h3 (.slice a b.length c) b := (rl.bs s2).hxR x2.mp ⟨rfl, rfl⟩ hx3 fun _ _ q => q.hx x2.mp u1 hx3
    obtain ⟨ad, cs2, g1, g2, a', n', c', b', m', d', rfl, q1, q2⟩ := rl3.at (P := Try.prog) Try.underlying23 sz99 hp
    have l1 : gLoad Try.prog 99 h3 (.pointer (some ad)) = some (.agg #[.slice a' n' c', .slice b' m' d']) := by simp only [gLoad, sz99, g2]; rfl
    have hpl := hbl p (List.mem_of_getElem? hp)
    refine mk_of ?_; repeat' (first | (with_reducible first | refine gw_seq ?_ | refine gw_block ?_) | ((first | (with_reducible refine mk_to ?_) | (with_reducible first | refine gw_region ?_ | refine gw_if ?_ | refine gw_skip ?_ | refine gw_exit ?_ | refine gw_ret ?_) | ((with_reducible first | refine gif_b (fun hb => ?_) (fun hb => ?_) | refine want_t (fun hb => ?_) (fun hb => ?_) | refine want_f (fun hb => ?_) (fun hb => ?_) | refine dr_t (fun hb => ?_) (fun hb => ?_) | refine dr_f (fun hb => ?_) (fun hb => ?_)) <;> (try simp only [hb]) <;> (try simp only [hpr] at hb)) | with_reducible refine gw_draw (id := 18) [(0, []), (1, []), (2, []), (4, []), (5, []), (3, [5]), (6, []), (7, []), (8, []), (9, []), (10, [])] [0, 0, 2, 6, 0, 16, 62, 126, 254, 511, 1023] mixed (by kernel_rfl) ?_ | with_reducible refine gw_draw2 (id := 20) 11 15 [(0, []), (1, []), (2, []), (3, []), (4, []), (5, []), (6, []), (7, []), (8, []), (9, []), (10, []), (12, []), (13, []), (14, []), (11, [3]), (15, [3]), (16, [3]), (17, [])] [0, 1, 3, 7, 0, 0, 32, 96, 224, 0, 992, 2016, 0, 0, 12288, 32736, 65504, 131071] [(0, []), (1, []), (2, []), (3, []), (4, []), (5, []), (6, []), (7, []), (8, []), (9, []), (10, []), (12, []), (13, []), (14, []), (15, [3, 8, 10]), (11, [3]), (16, [3]), (17, [])] [0, 1, 3, 7, 0, 0, 32, 96, 224, 0, 992, 63456, 0, 0, 12288, 28672, 65504, 131071] mixed (by kernel_rfl) (by kernel_rfl) (by kernel_rfl) ?_ ?_) <;> try simp only [List.map, gop, ev, lk, aenv, gyield, gBin, gInt, gStrOp, gUn, gPick, gNil, gExtract, gIfc, gConvK, gIndexO, gIndexVO, gMakeV, gMinV, gMaxV, isInt, gMin, gMax, gBlt, gLenX, gCallV, gInvoke, gNilM, Array.toList_map, vcells, gField, gIndexV, gPart, reduceIte, Nat.reduceAdd, Nat.reduceSub, Nat.reduceMul, Nat.reduceLT, Nat.reduceLeDiff, Nat.reduceEqDiff, Nat.reduceBEq, Int.reduceLT, Int.reduceLE, Int.reduceGT, Int.reduceGE, Int.reduceEq, Int.reduceNe, Int.reduceAdd, Int.reduceSub, Int.reduceMul, Int.reduceNeg, Int.reduceToNat, Int.reduceBEq, Int.reduceBNe, Int.cast_ofNat_Int, List.getElem?_toArray, stp, rvOf, rvLen, wput, wlk, rdv, isEff, dsOf, sgl, stq, Try.underlying102, Try.underlying104, Try.underlying107, Try.underlying22, Try.underlying23, Try.underlying24, Try.underlying27, Try.underlying3, Try.underlying4, Try.underlying42, Try.underlying44, Try.underlying5, Try.underlying9, Try.underlying99, ty104, ty22, ty23, ty24, ty107, ty44, ty99, ty102, ty27, ty3, ty4, ty42, ty5, ty9, rs13, d3, g1, l1]))
    refine new_g fun k7 h7 m7 s7 f7 n7 => ?_
    refine mk_of ?_; repeat' (first | (with_reducible first | refine gw_seq ?_ | refine gw_block ?_) | ((first | (with_reducible refine mk_to ?_) | (with_reducible first | refine gw_region ?_ | refine gw_if ?_ | refine gw_skip ?_ | refine gw_exit ?_ | refine gw_ret ?_) | ((with_reducible first | refine gif_b (fun hb => ?_) (fun hb => ?_) | refine want_t (fun hb => ?_) (fun hb => ?_) | refine want_f (fun hb => ?_) (fun hb => ?_) | refine dr_t (fun hb => ?_) (fun hb => ?_) | refine dr_f (fun hb => ?_) (fun hb => ?_)) <;> (try simp only [hb]) <;> (try simp only [hpr] at hb)) | with_reducible refine gw_draw (id := 18) [(0, []), (1, []), (2, []), (4, []), (5, []), (3, [5]), (6, []), (7, []), (8, []), (9, []), (10, [])] [0, 0, 2, 6, 0, 16, 62, 126, 254, 511, 1023] mixed (by kernel_rfl) ?_ | with_reducible refine gw_draw2 (id := 20) 11 15 [(0, []), (1, []), (2, []), (3, []), (4, []), (5, []), (6, []), (7, []), (8, []), (9, []), (10, []), (12, []), (13, []), (14, []), (11, [3]), (15, [3]), (16, [3]), (17, [])] [0, 1, 3, 7, 0, 0, 32, 96, 224, 0, 992, 2016, 0, 0, 12288, 32736, 65504, 131071] [(0, []), (1, []), (2, []), (3, []), (4, []), (5, []), (6, []), (7, []), (8, []), (9, []), (10, []), (12, []), (13, []), (14, []), (15, [3, 8, 10]), (11, [3]), (16, [3]), (17, [])] [0, 1, 3, 7, 0, 0, 32, 96, 224, 0, 992, 63456, 0, 0, 12288, 28672, 65504, 131071] mixed (by kernel_rfl) (by kernel_rfl) (by kernel_rfl) ?_ ?_) <;> try simp only [List.map, gop, ev, lk, aenv, gyield, gBin, gInt, gStrOp, gUn, gPick, gNil, gExtract, gIfc, gConvK, gIndexO, gIndexVO, gMakeV, gMinV, gMaxV, isInt, gMin, gMax, gBlt, gLenX, gCallV, gInvoke, gNilM, Array.toList_map, vcells, gField, gIndexV, gPart, reduceIte, Nat.reduceAdd, Nat.reduceSub, Nat.reduceMul, Nat.reduceLT, Nat.reduceLeDiff, Nat.reduceEqDiff, Nat.reduceBEq, Int.reduceLT, Int.reduceLE, Int.reduceGT, Int.reduceGE, Int.reduceEq, Int.reduceNe, Int.reduceAdd, Int.reduceSub, Int.reduceMul, Int.reduceNeg, Int.reduceToNat, Int.reduceBEq, Int.reduceBNe, Int.cast_ofNat_Int, List.getElem?_toArray, stp, rvOf, rvLen, wput, wlk, rdv, isEff, dsOf, sgl, stq, Try.underlying102, Try.underlying104, Try.underlying107, Try.underlying22, Try.underlying23, Try.underlying24, Try.underlying27, Try.underlying3, Try.underlying4, Try.underlying42, Try.underlying44, Try.underlying5, Try.underlying9, Try.underlying99, ty104, ty22, ty23, ty24, ty107, ty44, ty99, ty102, ty27, ty3, ty4, ty42, ty5, ty9, rs13]))
    refine st_all m7 sz99 rfl (by decide) rfl rfl rfl fun h8 m8 f8 => ?_
    have s8 : HS h3 h8 := (HS.refl h3).upd n7 (fun j hj => (f8 j hj).trans (f7 j hj))
    refine mk_of ?_; repeat' (first | (with_reducible first | refine gw_seq ?_ | refine gw_block ?_) | ((first | (with_reducible refine mk_to ?_) | (with_reducible first | refine gw_region ?_ | refine gw_if ?_ | refine gw_skip ?_ | refine gw_exit ?_ | refine gw_ret ?_) | ((with_reducible first | refine gif_b (fun hb => ?_) (fun hb => ?_) | refine want_t (fun hb => ?_) (fun hb => ?_) | refine want_f (fun hb => ?_) (fun hb => ?_) | refine dr_t (fun hb => ?_) (fun hb => ?_) | refine dr_f (fun hb => ?_) (fun hb => ?_)) <;> (try simp only [hb]) <;> (try simp only [hpr] at hb)) | with_reducible refine gw_draw (id := 18) [(0, []), (1, []), (2, []), (4, []), (5, []), (3, [5]), (6, []), (7, []), (8, []), (9, []), (10, [])] [0, 0, 2, 6, 0, 16, 62, 126, 254, 511, 1023] mixed (by kernel_rfl) ?_ | with_reducible refine gw_draw2 (id := 20) 11 15 [(0, []), (1, []), (2, []), (3, []), (4, []), (5, []), (6, []), (7, []), (8, []), (9, []), (10, []), (12, []), (13, []), (14, []), (11, [3]), (15, [3]), (16, [3]), (17, [])] [0, 1, 3, 7, 0, 0, 32, 96, 224, 0, 992, 2016, 0, 0, 12288, 32736, 65504, 131071] [(0, []), (1, []), (2, []), (3, []), (4, []), (5, []), (6, []), (7, []), (8, []), (9, []), (10, []), (12, []), (13, []), (14, []), (15, [3, 8, 10]), (11, [3]), (16, [3]), (17, [])] [0, 1, 3, 7, 0, 0, 32, 96, 224, 0, 992, 63456, 0, 0, 12288, 28672, 65504, 131071] mixed (by kernel_rfl) (by kernel_rfl) (by kernel_rfl) ?_ ?_) <;> try simp only [List.map, gop, ev, lk, aenv, gyield, gBin, gInt, gStrOp, gUn, gPick, gNil, gExtract, gIfc, gConvK, gIndexO, gIndexVO, gMakeV, gMinV, gMaxV, isInt, gMin, gMax, gBlt, gLenX, gCallV, gInvoke, gNilM, Array.toList_map, vcells, gField, gIndexV, gPart, reduceIte, Nat.reduceAdd, Nat.reduceSub, Nat.reduceMul, Nat.reduceLT, Nat.reduceLeDiff, Nat.reduceEqDiff, Nat.reduceBEq, Int.reduceLT, Int.reduceLE, Int.reduceGT, Int.reduceGE, Int.reduceEq, Int.reduceNe, Int.reduceAdd, Int.reduceSub, Int.reduceMul, Int.reduceNeg, Int.reduceToNat, Int.reduceBEq, Int.reduceBNe, Int.cast_ofNat_Int, List.getElem?_toArray, stp, rvOf, rvLen, wput, wlk, rdv, isEff, dsOf, sgl, stq, Try.underlying102, Try.underlying104, Try.underlying107, Try.underlying22, Try.underlying23, Try.underlying24, Try.underlying27, Try.underlying3, Try.underlying4, Try.underlying42, Try.underlying44, Try.underlying5, Try.underlying9, Try.underlying99, ty104, ty22, ty23, ty24, ty107, ty44, ty99, ty102, ty27, ty3, ty4, ty42, ty5, ty9, rs13, gload1 m8 sz24, List.getElem?_cons_zero, List.getElem?_cons_succ]))
    refine (c_BClone N h8 (q1.hs s8) hpl.1).mono ?_
    rintro _ h9 ⟨s9, o9⟩
    obtain ⟨a9, c9, rfl⟩ := o9.form
    have m9 := s9 _ _ m8
    refine mk_of ?_; repeat' (first | (with_reducible first | refine gw_seq ?_ | refine gw_block ?_) | ((first | (with_reducible refine mk_to ?_) | (with_reducible first | refine gw_region ?_ | refine gw_if ?_ | refine gw_skip ?_ | refine gw_exit ?_ | refine gw_ret ?_) | ((with_reducible first | refine gif_b (fun hb => ?_) (fun hb => ?_) | refine want_t (fun hb => ?_) (fun hb => ?_) | refine want_f (fun hb => ?_) (fun hb => ?_) | refine dr_t (fun hb => ?_) (fun hb => ?_) | refine dr_f (fun hb => ?_) (fun hb => ?_)) <;> (try simp only [hb]) <;> (try simp only [hpr] at hb)) | with_reducible refine gw_draw (id := 18) [(0, []), (1, []), (2, []), (4, []), (5, []), (3, [5]), (6, []), (7, []), (8, []), (9, []), (10, [])] [0, 0, 2, 6, 0, 16, 62, 126, 254, 511, 1023] mixed (by kernel_rfl) ?_ | with_reducible refine gw_draw2 (id := 20) 11 15 [(0, []), (1, []), (2, []), (3, []), (4, []), (5, []), (6, []), (7, []), (8, []), (9, []), (10, []), (12, []), (13, []), (14, []), (11, [3]), (15, [3]), (16, [3]), (17, [])] [0, 1, 3, 7, 0, 0, 32, 96, 224, 0, 992, 2016, 0, 0, 12288, 32736, 65504, 131071] [(0, []), (1, []), (2, []), (3, []), (4, []), (5, []), (6, []), (7, []), (8, []), (9, []), (10, []), (12, []), (13, []), (14, []), (15, [3, 8, 10]), (11, [3]), (16, [3]), (17, [])] [0, 1, 3, 7, 0, 0, 32, 96, 224, 0, 992, 63456, 0, 0, 12288, 28672, 65504, 131071] mixed (by kernel_rfl) (by kernel_rfl) (by kernel_rfl) ?_ ?_) <;> try simp only [List.map, gop, ev, lk, aenv, gyield, gBin, gInt, gStrOp, gUn, gPick, gNil, gExtract, gIfc, gConvK, gIndexO, gIndexVO, gMakeV, gMinV, gMaxV, isInt, gMin, gMax, gBlt, gLenX, gCallV, gInvoke, gNilM, Array.toList_map, vcells, gField, gIndexV, gPart, reduceIte, Nat.reduceAdd, Nat.reduceSub, Nat.reduceMul, Nat.reduceLT, Nat.reduceLeDiff, Nat.reduceEqDiff, Nat.reduceBEq, Int.reduceLT, Int.reduceLE, Int.reduceGT, Int.reduceGE, Int.reduceEq, Int.reduceNe, Int.reduceAdd, Int.reduceSub, Int.reduceMul, Int.reduceNeg, Int.reduceToNat, Int.reduceBEq, Int.reduceBNe, Int.cast_ofNat_Int, List.getElem?_toArray, stp, rvOf, rvLen, wput, wlk, rdv, isEff, dsOf, sgl, stq, Try.underlying102, Try.underlying104, Try.underlying107, Try.underlying22, Try.underlying23, Try.underlying24, Try.underlying27, Try.underlying3, Try.underlying4, Try.underlying42, Try.underlying44, Try.underlying5, Try.underlying9, Try.underlying99, ty104, ty22, ty23, ty24, ty107, ty44, ty99, ty102, ty27, ty3, ty4, ty42, ty5, ty9, rs13, gload1 m9 sz24, List.getElem?_cons_zero, List.getElem?_cons_succ]))
    refine (c_BClone N h9 ((q2.hs s8).hs s9) hpl.2).mono ?_
    rintro _ h10 ⟨s10, o10⟩
    obtain ⟨a10, c10, rfl⟩ := o10.form
    refine mk_of ?_; repeat' (first | (with_reducible first | refine gw_seq ?_ | refine gw_block ?_) | ((first | (with_reducible refine mk_to ?_) | (with_reducible first | refine gw_region ?_ | refine gw_if ?_ | refine gw_skip ?_ | refine gw_exit ?_ | refine gw_ret ?_) | ((with_reducible first | refine gif_b (fun hb => ?_) (fun hb => ?_) | refine want_t (fun hb => ?_) (fun hb => ?_) | refine want_f (fun hb => ?_) (fun hb => ?_) | refine dr_t (fun hb => ?_) (fun hb => ?_) | refine dr_f (fun hb => ?_) (fun hb => ?_)) <;> (try simp only [hb]) <;> (try simp only [hpr] at hb)) | with_reducible refine gw_draw (id := 18) [(0, []), (1, []), (2, []), (4, []), (5, []), (3, [5]), (6, []), (7, []), (8, []), (9, []), (10, [])] [0, 0, 2, 6, 0, 16, 62, 126, 254, 511, 1023] mixed (by kernel_rfl) ?_ | with_reducible refine gw_draw2 (id := 20) 11 15 [(0, []), (1, []), (2, []), (3, []), (4, []), (5, []), (6, []), (7, []), (8, []), (9, []), (10, []), (12, []), (13, []), (14, []), (11, [3]), (15, [3]), (16, [3]), (17, [])] [0, 1, 3, 7, 0, 0, 32, 96, 224, 0, 992, 2016, 0, 0, 12288, 32736, 65504, 131071] [(0, []), (1, []), (2, []), (3, []), (4, []), (5, []), (6, []), (7, []), (8, []), (9, []), (10, []), (12, []), (13, []), (14, []), (15, [3, 8, 10]), (11, [3]), (16, [3]), (17, [])] [0, 1, 3, 7, 0, 0, 32, 96, 224, 0, 992, 63456, 0, 0, 12288, 28672, 65504, 131071] mixed (by kernel_rfl) (by kernel_rfl) (by kernel_rfl) ?_ ?_) <;> try simp only [List.map, gop, ev, lk, aenv, gyield, gBin, gInt, gStrOp, gUn, gPick, gNil, gExtract, gIfc, gConvK, gIndexO, gIndexVO, gMakeV, gMinV, gMaxV, isInt, gMin, gMax, gBlt, gLenX, gCallV, gInvoke, gNilM, Array.toList_map, vcells, gField, gIndexV, gPart, reduceIte, Nat.reduceAdd, Nat.reduceSub, Nat.reduceMul, Nat.reduceLT, Nat.reduceLeDiff, Nat.reduceEqDiff, Nat.reduceBEq, Int.reduceLT, Int.reduceLE, Int.reduceGT, Int.reduceGE, Int.reduceEq, Int.reduceNe, Int.reduceAdd, Int.reduceSub, Int.reduceMul, Int.reduceNeg, Int.reduceToNat, Int.reduceBEq, Int.reduceBNe, Int.cast_ofNat_Int, List.getElem?_toArray, stp, rvOf, rvLen, wput, wlk, rdv, isEff, dsOf, sgl, stq, Try.underlying102, Try.underlying104, Try.underlying107, Try.underlying22, Try.underlying23, Try.underlying24, Try.underlying27, Try.underlying3, Try.underlying4, Try.underlying42, Try.underlying44, Try.underlying5, Try.underlying9, Try.underlying99, ty104, ty22, ty23, ty24, ty107, ty44, ty99, ty102, ty27, ty3, ty4, ty42, ty5, ty9, rs13, gBuild, lfill, lput, Shape.pl, List.all_cons, List.all_nil, isCell]))
    refine bsn1_g el23 rfl rfl (by decide) (by decide) rfl fun k11 h11 b11 s11 f11 n11 => ?_
    have s311 : HS h3 h11 := ((s8.trans s9).trans s10).trans s11
    have y11 := y3.up s311
    obtain ⟨ds, o3, sl3, bd3⟩ := y11.own
    have en3 : n3 = i := by
      obtain ⟨_, _, q⟩ := o3.form
      cases q; rfl
    subst en3
    have hd3 := o3.len
    refine mk_of ?_; repeat' (first | (with_reducible first | refine gw_seq ?_ | refine gw_block ?_) | ((first | (with_reducible refine mk_to ?_) | (with_reducible first | refine gw_region ?_ | refine gw_if ?_ | refine gw_skip ?_ | refine gw_exit ?_ | refine gw_ret ?_) | ((with_reducible first | refine gif_b (fun hb => ?_) (fun hb => ?_) | refine want_t (fun hb => ?_) (fun hb => ?_) | refine want_f (fun hb => ?_) (fun hb => ?_) | refine dr_t (fun hb => ?_) (fun hb => ?_) | refine dr_f (fun hb => ?_) (fun hb => ?_)) <;> (try simp only [hb]) <;> (try simp only [hpr] at hb)) | with_reducible refine gw_draw (id := 18) [(0, []), (1, []), (2, []), (4, []), (5, []), (3, [5]), (6, []), (7, []), (8, []), (9, []), (10, [])] [0, 0, 2, 6, 0, 16, 62, 126, 254, 511, 1023] mixed (by kernel_rfl) ?_ | with_reducible refine gw_draw2 (id := 20) 11 15 [(0, []), (1, []), (2, []), (3, []), (4, []), (5, []), (6, []), (7, []), (8, []), (9, []), (10, []), (12, []), (13, []), (14, []), (11, [3]), (15, [3]), (16, [3]), (17, [])] [0, 1, 3, 7, 0, 0, 32, 96, 224, 0, 992, 2016, 0, 0, 12288, 32736, 65504, 131071] [(0, []), (1, []), (2, []), (3, []), (4, []), (5, []), (6, []), (7, []), (8, []), (9, []), (10, []), (12, []), (13, []), (14, []), (15, [3, 8, 10]), (11, [3]), (16, [3]), (17, [])] [0, 1, 3, 7, 0, 0, 32, 96, 224, 0, 992, 63456, 0, 0, 12288, 28672, 65504, 131071] mixed (by kernel_rfl) (by kernel_rfl) (by kernel_rfl) ?_ ?_) <;> try simp only [List.map, gop, ev, lk, aenv, gyield, gBin, gInt, gStrOp, gUn, gPick, gNil, gExtract, gIfc, gConvK, gIndexO, gIndexVO, gMakeV, gMinV, gMaxV, isInt, gMin, gMax, gBlt, gLenX, gCallV, gInvoke, gNilM, Array.toList_map, vcells, gField, gIndexV, gPart, reduceIte, Nat.reduceAdd, Nat.reduceSub, Nat.reduceMul, Nat.reduceLT, Nat.reduceLeDiff, Nat.reduceEqDiff, Nat.reduceBEq, Int.reduceLT, Int.reduceLE, Int.reduceGT, Int.reduceGE, Int.reduceEq, Int.reduceNe, Int.reduceAdd, Int.reduceSub, Int.reduceMul, Int.reduceNeg, Int.reduceToNat, Int.reduceBEq, Int.reduceBNe, Int.cast_ofNat_Int, List.getElem?_toArray, stp, rvOf, rvLen, wput, wlk, rdv, isEff, dsOf, sgl, stq, Try.underlying102, Try.underlying104, Try.underlying107, Try.underlying22, Try.underlying23, Try.underlying24, Try.underlying27, Try.underlying3, Try.underlying4, Try.underlying42, Try.underlying44, Try.underlying5, Try.underlying9, Try.underlying99, ty104, ty22, ty23, ty24, ty107, ty44, ty99, ty102, ty27, ty3, ty4, ty42, ty5, ty9, rs13]))
    refine append_ownc el23 Try.underlying23 rfl y11.hx o3 b11 rfl rfl (by omega) (by simp only [maxLen]; omega) fun v12 h12 s12 fr12 o12 => ?_
    obtain ⟨a12, c12, rfl⟩ := o12.form
    have y12 := y11.app x.nj (s0.trans s2) sl3 hd3 (by omega) bd3 fr12 s12 o12 ⟨_, _, _, _, _, _, rfl, (o9.rb.hs s10).hs s11, o10.rb.hs s11⟩ hp
    have m12 := fr_es fr12 (s11 _ _ (s10 _ _ m9)) (by simp)
    have q12 : RB h12 (.slice a' n' c') p.1 := fr_rb fr12 (isSl_u8 sl3) (q1.hs s311)
    have cv := q12.conv Try.underlying24 Try.underlying5 Try.underlying9
    have ho12 := hM_hx y12.hx _ _ hkj ho
    have lk12 := look_mp y12.mp y12.ok p.1
    have w5' : (IntKind.i64.wrap ((n3 : Int) + 1)) = ((n3 + 1 : Nat) : Int) := wi
    have hsl := x2.sl p.1
    have hnl := newsp_len (B.length + 1) b p.1 n3
    have hsn : (S p.1 ++ newsp (B.length + 1) b n3 p.1).length ≤ 10000 := by rw [List.length_append]; omega
    refine mk_of ?_; repeat' (first | (with_reducible first | refine gw_seq ?_ | refine gw_block ?_) | ((first | (with_reducible refine mk_to ?_) | (with_reducible first | refine gw_region ?_ | refine gw_if ?_ | refine gw_skip ?_ | refine gw_exit ?_ | refine gw_ret ?_) | ((with_reducible first | refine gif_b (fun hb => ?_) (fun hb => ?_) | refine want_t (fun hb => ?_) (fun hb => ?_) | refine want_f (fun hb => ?_) (fun hb => ?_) | refine dr_t (fun hb => ?_) (fun hb => ?_) | refine dr_f (fun hb => ?_) (fun hb => ?_)) <;> (try simp only [hb]) <;> (try simp only [hpr] at hb)) | with_reducible refine gw_draw (id := 18) [(0, []), (1, []), (2, []), (4, []), (5, []), (3, [5]), (6, []), (7, []), (8, []), (9, []), (10, [])] [0, 0, 2, 6, 0, 16, 62, 126, 254, 511, 1023] mixed (by kernel_rfl) ?_ | with_reducible refine gw_draw2 (id := 20) 11 15 [(0, []), (1, []), (2, []), (3, []), (4, []), (5, []), (6, []), (7, []), (8, []), (9, []), (10, []), (12, []), (13, []), (14, []), (11, [3]), (15, [3]), (16, [3]), (17, [])] [0, 1, 3, 7, 0, 0, 32, 96, 224, 0, 992, 2016, 0, 0, 12288, 32736, 65504, 131071] [(0, []), (1, []), (2, []), (3, []), (4, []), (5, []), (6, []), (7, []), (8, []), (9, []), (10, []), (12, []), (13, []), (14, []), (15, [3, 8, 10]), (11, [3]), (16, [3]), (17, [])] [0, 1, 3, 7, 0, 0, 32, 96, 224, 0, 992, 63456, 0, 0, 12288, 28672, 65504, 131071] mixed (by kernel_rfl) (by kernel_rfl) (by kernel_rfl) ?_ ?_) <;> try simp only [List.map, gop, ev, lk, aenv, gyield, gBin, gInt, gStrOp, gUn, gPick, gNil, gExtract, gIfc, gConvK, gIndexO, gIndexVO, gMakeV, gMinV, gMaxV, isInt, gMin, gMax, gBlt, gLenX, gCallV, gInvoke, gNilM, Array.toList_map, vcells, gField, gIndexV, gPart, reduceIte, Nat.reduceAdd, Nat.reduceSub, Nat.reduceMul, Nat.reduceLT, Nat.reduceLeDiff, Nat.reduceEqDiff, Nat.reduceBEq, Int.reduceLT, Int.reduceLE, Int.reduceGT, Int.reduceGE, Int.reduceEq, Int.reduceNe, Int.reduceAdd, Int.reduceSub, Int.reduceMul, Int.reduceNeg, Int.reduceToNat, Int.reduceBEq, Int.reduceBNe, Int.cast_ofNat_Int, List.getElem?_toArray, stp, rvOf, rvLen, wput, wlk, rdv, isEff, dsOf, sgl, stq, Try.underlying102, Try.underlying104, Try.underlying107, Try.underlying22, Try.underlying23, Try.underlying24, Try.underlying27, Try.underlying3, Try.underlying4, Try.underlying42, Try.underlying44, Try.underlying5, Try.underlying9, Try.underlying99, ty104, ty22, ty23, ty24, ty107, ty44, ty99, ty102, ty27, ty3, ty4, ty42, ty5, ty9, rs13, gNil, gload1 m12 sz24, cv, gload1 ho12 sz42, lk12, gBuild, lfill, lput, Shape.pl, List.all_cons, List.all_nil, isCell, List.getElem?_cons_zero, List.getElem?_cons_succ]))
    · refine (c_SpClone N (y12.sp p.1) (by omega)).mono ?_
      rintro v13 h13 ⟨o13, s13⟩
      have lk13 := look_mp (s13 _ _ y12.mp) y12.ok p.1
      refine mk_of ?_; repeat' (first | (with_reducible first | refine gw_seq ?_ | refine gw_block ?_) | ((first | (with_reducible refine mk_to ?_) | (with_reducible first | refine gw_region ?_ | refine gw_if ?_ | refine gw_skip ?_ | refine gw_exit ?_ | refine gw_ret ?_) | ((with_reducible first | refine gif_b (fun hb => ?_) (fun hb => ?_) | refine want_t (fun hb => ?_) (fun hb => ?_) | refine want_f (fun hb => ?_) (fun hb => ?_) | refine dr_t (fun hb => ?_) (fun hb => ?_) | refine dr_f (fun hb => ?_) (fun hb => ?_)) <;> (try simp only [hb]) <;> (try simp only [hpr] at hb)) | with_reducible refine gw_draw (id := 18) [(0, []), (1, []), (2, []), (4, []), (5, []), (3, [5]), (6, []), (7, []), (8, []), (9, []), (10, [])] [0, 0, 2, 6, 0, 16, 62, 126, 254, 511, 1023] mixed (by kernel_rfl) ?_ | with_reducible refine gw_draw2 (id := 20) 11 15 [(0, []), (1, []), (2, []), (3, []), (4, []), (5, []), (6, []), (7, []), (8, []), (9, []), (10, []), (12, []), (13, []), (14, []), (11, [3]), (15, [3]), (16, [3]), (17, [])] [0, 1, 3, 7, 0, 0, 32, 96, 224, 0, 992, 2016, 0, 0, 12288, 32736, 65504, 131071] [(0, []), (1, []), (2, []), (3, []), (4, []), (5, []), (6, []), (7, []), (8, []), (9, []), (10, []), (12, []), (13, []), (14, []), (15, [3, 8, 10]), (11, [3]), (16, [3]), (17, [])] [0, 1, 3, 7, 0, 0, 32, 96, 224, 0, 992, 63456, 0, 0, 12288, 28672, 65504, 131071] mixed (by kernel_rfl) (by kernel_rfl) (by kernel_rfl) ?_ ?_) <;> try simp only [List.map, gop, ev, lk, aenv, gyield, gBin, gInt, gStrOp, gUn, gPick, gNil, gExtract, gIfc, gConvK, gIndexO, gIndexVO, gMakeV, gMinV, gMaxV, isInt, gMin, gMax, gBlt, gLenX, gCallV, gInvoke, gNilM, Array.toList_map, vcells, gField, gIndexV, gPart, reduceIte, Nat.reduceAdd, Nat.reduceSub, Nat.reduceMul, Nat.reduceLT, Nat.reduceLeDiff, Nat.reduceEqDiff, Nat.reduceBEq, Int.reduceLT, Int.reduceLE, Int.reduceGT, Int.reduceGE, Int.reduceEq, Int.reduceNe, Int.reduceAdd, Int.reduceSub, Int.reduceMul, Int.reduceNeg, Int.reduceToNat, Int.reduceBEq, Int.reduceBNe, Int.cast_ofNat_Int, List.getElem?_toArray, stp, rvOf, rvLen, wput, wlk, rdv, isEff, dsOf, sgl, stq, Try.underlying102, Try.underlying104, Try.underlying107, Try.underlying22, Try.underlying23, Try.underlying24, Try.underlying27, Try.underlying3, Try.underlying4, Try.underlying42, Try.underlying44, Try.underlying5, Try.underlying9, Try.underlying99, ty104, ty22, ty23, ty24, ty107, ty44, ty99, ty102, ty27, ty3, ty4, ty42, ty5, ty9, rs13, gload1 (s13 _ _ ho12) sz42, lk13, List.getElem?_cons_zero, List.getElem?_cons_succ]))
      refine bsn1_g el104 rfl rfl (by decide) (by decide) rfl fun k14 h14 b14 s14 f14 n14 => ?_
      have s134 := s13.trans s14
      have lk14 := look_mp (s134 _ _ y12.mp) y12.ok p.1
      refine mk_of ?_; repeat' (first | (with_reducible first | refine gw_seq ?_ | refine gw_block ?_) | ((first | (with_reducible refine mk_to ?_) | (with_reducible first | refine gw_region ?_ | refine gw_if ?_ | refine gw_skip ?_ | refine gw_exit ?_ | refine gw_ret ?_) | ((with_reducible first | refine gif_b (fun hb => ?_) (fun hb => ?_) | refine want_t (fun hb => ?_) (fun hb => ?_) | refine want_f (fun hb => ?_) (fun hb => ?_) | refine dr_t (fun hb => ?_) (fun hb => ?_) | refine dr_f (fun hb => ?_) (fun hb => ?_)) <;> (try simp only [hb]) <;> (try simp only [hpr] at hb)) | with_reducible refine gw_draw (id := 18) [(0, []), (1, []), (2, []), (4, []), (5, []), (3, [5]), (6, []), (7, []), (8, []), (9, []), (10, [])] [0, 0, 2, 6, 0, 16, 62, 126, 254, 511, 1023] mixed (by kernel_rfl) ?_ | with_reducible refine gw_draw2 (id := 20) 11 15 [(0, []), (1, []), (2, []), (3, []), (4, []), (5, []), (6, []), (7, []), (8, []), (9, []), (10, []), (12, []), (13, []), (14, []), (11, [3]), (15, [3]), (16, [3]), (17, [])] [0, 1, 3, 7, 0, 0, 32, 96, 224, 0, 992, 2016, 0, 0, 12288, 32736, 65504, 131071] [(0, []), (1, []), (2, []), (3, []), (4, []), (5, []), (6, []), (7, []), (8, []), (9, []), (10, []), (12, []), (13, []), (14, []), (15, [3, 8, 10]), (11, [3]), (16, [3]), (17, [])] [0, 1, 3, 7, 0, 0, 32, 96, 224, 0, 992, 63456, 0, 0, 12288, 28672, 65504, 131071] mixed (by kernel_rfl) (by kernel_rfl) (by kernel_rfl) ?_ ?_) <;> try simp only [List.map, gop, ev, lk, aenv, gyield, gBin, gInt, gStrOp, gUn, gPick, gNil, gExtract, gIfc, gConvK, gIndexO, gIndexVO, gMakeV, gMinV, gMaxV, isInt, gMin, gMax, gBlt, gLenX, gCallV, gInvoke, gNilM, Array.toList_map, vcells, gField, gIndexV, gPart, reduceIte, Nat.reduceAdd, Nat.reduceSub, Nat.reduceMul, Nat.reduceLT, Nat.reduceLeDiff, Nat.reduceEqDiff, Nat.reduceBEq, Int.reduceLT, Int.reduceLE, Int.reduceGT, Int.reduceGE, Int.reduceEq, Int.reduceNe, Int.reduceAdd, Int.reduceSub, Int.reduceMul, Int.reduceNeg, Int.reduceToNat, Int.reduceBEq, Int.reduceBNe, Int.cast_ofNat_Int, List.getElem?_toArray, stp, rvOf, rvLen, wput, wlk, rdv, isEff, dsOf, sgl, stq, Try.underlying102, Try.underlying104, Try.underlying107, Try.underlying22, Try.underlying23, Try.underlying24, Try.underlying27, Try.underlying3, Try.underlying4, Try.underlying42, Try.underlying44, Try.underlying5, Try.underlying9, Try.underlying99, ty104, ty22, ty23, ty24, ty107, ty44, ty99, ty102, ty27, ty3, ty4, ty42, ty5, ty9, rs13, gload1 (s134 _ _ ho12) sz42, lk14, List.getElem?_cons_zero, List.getElem?_cons_succ]))
      refine append_ownc el104 Try.underlying104 rfl s134 (o13.hs s14) b14 rfl rfl (by omega) (by simp only [maxLen]; omega) fun v15 h15 s15 fr15 o15 => ?_
      obtain ⟨a15, c15, rfl⟩ := o15.form
      have lk15 := look_mp (s15 _ _ y12.mp) y12.ok p.1
      refine mk_of ?_; repeat' (first | (with_reducible first | refine gw_seq ?_ | refine gw_block ?_) | ((first | (with_reducible refine mk_to ?_) | (with_reducible first | refine gw_region ?_ | refine gw_if ?_ | refine gw_skip ?_ | refine gw_exit ?_ | refine gw_ret ?_) | ((with_reducible first | refine gif_b (fun hb => ?_) (fun hb => ?_) | refine want_t (fun hb => ?_) (fun hb => ?_) | refine want_f (fun hb => ?_) (fun hb => ?_) | refine dr_t (fun hb => ?_) (fun hb => ?_) | refine dr_f (fun hb => ?_) (fun hb => ?_)) <;> (try simp only [hb]) <;> (try simp only [hpr] at hb)) | with_reducible refine gw_draw (id := 18) [(0, []), (1, []), (2, []), (4, []), (5, []), (3, [5]), (6, []), (7, []), (8, []), (9, []), (10, [])] [0, 0, 2, 6, 0, 16, 62, 126, 254, 511, 1023] mixed (by kernel_rfl) ?_ | with_reducible refine gw_draw2 (id := 20) 11 15 [(0, []), (1, []), (2, []), (3, []), (4, []), (5, []), (6, []), (7, []), (8, []), (9, []), (10, []), (12, []), (13, []), (14, []), (11, [3]), (15, [3]), (16, [3]), (17, [])] [0, 1, 3, 7, 0, 0, 32, 96, 224, 0, 992, 2016, 0, 0, 12288, 32736, 65504, 131071] [(0, []), (1, []), (2, []), (3, []), (4, []), (5, []), (6, []), (7, []), (8, []), (9, []), (10, []), (12, []), (13, []), (14, []), (15, [3, 8, 10]), (11, [3]), (16, [3]), (17, [])] [0, 1, 3, 7, 0, 0, 32, 96, 224, 0, 992, 63456, 0, 0, 12288, 28672, 65504, 131071] mixed (by kernel_rfl) (by kernel_rfl) (by kernel_rfl) ?_ ?_) <;> try simp only [List.map, gop, ev, lk, aenv, gyield, gBin, gInt, gStrOp, gUn, gPick, gNil, gExtract, gIfc, gConvK, gIndexO, gIndexVO, gMakeV, gMinV, gMaxV, isInt, gMin, gMax, gBlt, gLenX, gCallV, gInvoke, gNilM, Array.toList_map, vcells, gField, gIndexV, gPart, reduceIte, Nat.reduceAdd, Nat.reduceSub, Nat.reduceMul, Nat.reduceLT, Nat.reduceLeDiff, Nat.reduceEqDiff, Nat.reduceBEq, Int.reduceLT, Int.reduceLE, Int.reduceGT, Int.reduceGE, Int.reduceEq, Int.reduceNe, Int.reduceAdd, Int.reduceSub, Int.reduceMul, Int.reduceNeg, Int.reduceToNat, Int.reduceBEq, Int.reduceBNe, Int.cast_ofNat_Int, List.getElem?_toArray, stp, rvOf, rvLen, wput, wlk, rdv, isEff, dsOf, sgl, stq, Try.underlying102, Try.underlying104, Try.underlying107, Try.underlying22, Try.underlying23, Try.underlying24, Try.underlying27, Try.underlying3, Try.underlying4, Try.underlying42, Try.underlying44, Try.underlying5, Try.underlying9, Try.underlying99, ty104, ty22, ty23, ty24, ty107, ty44, ty99, ty102, ty27, ty3, ty4, ty42, ty5, ty9, rs13, gload1 (s15 _ _ ho12) sz42, lk15, List.getElem?_cons_zero, List.getElem?_cons_succ]))
      refine put_g (y12.up s15).mp y12.ok sm42 fun h16 m16 f16 => ?_
      refine mk_of ?_; repeat' (first | (with_reducible first | refine gw_seq ?_ | refine gw_block ?_) | ((first | (with_reducible refine mk_to ?_) | (with_reducible first | refine gw_region ?_ | refine gw_if ?_ | refine gw_skip ?_ | refine gw_exit ?_ | refine gw_ret ?_) | ((with_reducible first | refine gif_b (fun hb => ?_) (fun hb => ?_) | refine want_t (fun hb => ?_) (fun hb => ?_) | refine want_f (fun hb => ?_) (fun hb => ?_) | refine dr_t (fun hb => ?_) (fun hb => ?_) | refine dr_f (fun hb => ?_) (fun hb => ?_)) <;> (try simp only [hb]) <;> (try simp only [hpr] at hb)) | with_reducible refine gw_draw (id := 18) [(0, []), (1, []), (2, []), (4, []), (5, []), (3, [5]), (6, []), (7, []), (8, []), (9, []), (10, [])] [0, 0, 2, 6, 0, 16, 62, 126, 254, 511, 1023] mixed (by kernel_rfl) ?_ | with_reducible refine gw_draw2 (id := 20) 11 15 [(0, []), (1, []), (2, []), (3, []), (4, []), (5, []), (6, []), (7, []), (8, []), (9, []), (10, []), (12, []), (13, []), (14, []), (11, [3]), (15, [3]), (16, [3]), (17, [])] [0, 1, 3, 7, 0, 0, 32, 96, 224, 0, 992, 2016, 0, 0, 12288, 32736, 65504, 131071] [(0, []), (1, []), (2, []), (3, []), (4, []), (5, []), (6, []), (7, []), (8, []), (9, []), (10, []), (12, []), (13, []), (14, []), (15, [3, 8, 10]), (11, [3]), (16, [3]), (17, [])] [0, 1, 3, 7, 0, 0, 32, 96, 224, 0, 992, 63456, 0, 0, 12288, 28672, 65504, 131071] mixed (by kernel_rfl) (by kernel_rfl) (by kernel_rfl) ?_ ?_) <;> try simp only [List.map, gop, ev, lk, aenv, gyield, gBin, gInt, gStrOp, gUn, gPick, gNil, gExtract, gIfc, gConvK, gIndexO, gIndexVO, gMakeV, gMinV, gMaxV, isInt, gMin, gMax, gBlt, gLenX, gCallV, gInvoke, gNilM, Array.toList_map, vcells, gField, gIndexV, gPart, reduceIte, Nat.reduceAdd, Nat.reduceSub, Nat.reduceMul, Nat.reduceLT, Nat.reduceLeDiff, Nat.reduceEqDiff, Nat.reduceBEq, Int.reduceLT, Int.reduceLE, Int.reduceGT, Int.reduceGE, Int.reduceEq, Int.reduceNe, Int.reduceAdd, Int.reduceSub, Int.reduceMul, Int.reduceNeg, Int.reduceToNat, Int.reduceBEq, Int.reduceBNe, Int.cast_ofNat_Int, List.getElem?_toArray, stp, rvOf, rvLen, wput, wlk, rdv, isEff, dsOf, sgl, stq, Try.underlying102, Try.underlying104, Try.underlying107, Try.underlying22, Try.underlying23, Try.underlying24, Try.underlying27, Try.underlying3, Try.underlying4, Try.underlying42, Try.underlying44, Try.underlying5, Try.underlying9, Try.underlying99, ty104, ty22, ty23, ty24, ty107, ty44, ty99, ty102, ty27, ty3, ty4, ty42, ty5, ty9, rs13, wi]))
      refine ⟨_, (n3 + 1, a12, n3 + 1, c12), ?_, (by simp only [List.forall_mem_cons, List.not_mem_nil, false_implies, implies_true, List.map, List.cons_append, List.nil_append, lk, Nat.reduceEqDiff, reduceIte, and_true, true_and]), rfl, by omega, _, y12.put s15 x.nj hp o15 m16 f16 rfl⟩
      simp only
      omega
    · refine bsn1_g el104 rfl rfl (by decide) (by decide) rfl fun k14 h13 b14 s13 f14 n14 => ?_
      have lk13 := look_mp (s13 _ _ y12.mp) y12.ok p.1
      refine mk_of ?_; repeat' (first | (with_reducible first | refine gw_seq ?_ | refine gw_block ?_) | ((first | (with_reducible refine mk_to ?_) | (with_reducible first | refine gw_region ?_ | refine gw_if ?_ | refine gw_skip ?_ | refine gw_exit ?_ | refine gw_ret ?_) | ((with_reducible first | refine gif_b (fun hb => ?_) (fun hb => ?_) | refine want_t (fun hb => ?_) (fun hb => ?_) | refine want_f (fun hb => ?_) (fun hb => ?_) | refine dr_t (fun hb => ?_) (fun hb => ?_) | refine dr_f (fun hb => ?_) (fun hb => ?_)) <;> (try simp only [hb]) <;> (try simp only [hpr] at hb)) | with_reducible refine gw_draw (id := 18) [(0, []), (1, []), (2, []), (4, []), (5, []), (3, [5]), (6, []), (7, []), (8, []), (9, []), (10, [])] [0, 0, 2, 6, 0, 16, 62, 126, 254, 511, 1023] mixed (by kernel_rfl) ?_ | with_reducible refine gw_draw2 (id := 20) 11 15 [(0, []), (1, []), (2, []), (3, []), (4, []), (5, []), (6, []), (7, []), (8, []), (9, []), (10, []), (12, []), (13, []), (14, []), (11, [3]), (15, [3]), (16, [3]), (17, [])] [0, 1, 3, 7, 0, 0, 32, 96, 224, 0, 992, 2016, 0, 0, 12288, 32736, 65504, 131071] [(0, []), (1, []), (2, []), (3, []), (4, []), (5, []), (6, []), (7, []), (8, []), (9, []), (10, []), (12, []), (13, []), (14, []), (15, [3, 8, 10]), (11, [3]), (16, [3]), (17, [])] [0, 1, 3, 7, 0, 0, 32, 96, 224, 0, 992, 63456, 0, 0, 12288, 28672, 65504, 131071] mixed (by kernel_rfl) (by kernel_rfl) (by kernel_rfl) ?_ ?_) <;> try simp only [List.map, gop, ev, lk, aenv, gyield, gBin, gInt, gStrOp, gUn, gPick, gNil, gExtract, gIfc, gConvK, gIndexO, gIndexVO, gMakeV, gMinV, gMaxV, isInt, gMin, gMax, gBlt, gLenX, gCallV, gInvoke, gNilM, Array.toList_map, vcells, gField, gIndexV, gPart, reduceIte, Nat.reduceAdd, Nat.reduceSub, Nat.reduceMul, Nat.reduceLT, Nat.reduceLeDiff, Nat.reduceEqDiff, Nat.reduceBEq, Int.reduceLT, Int.reduceLE, Int.reduceGT, Int.reduceGE, Int.reduceEq, Int.reduceNe, Int.reduceAdd, Int.reduceSub, Int.reduceMul, Int.reduceNeg, Int.reduceToNat, Int.reduceBEq, Int.reduceBNe, Int.cast_ofNat_Int, List.getElem?_toArray, stp, rvOf, rvLen, wput, wlk, rdv, isEff, dsOf, sgl, stq, Try.underlying102, Try.underlying104, Try.underlying107, Try.underlying22, Try.underlying23, Try.underlying24, Try.underlying27, Try.underlying3, Try.underlying4, Try.underlying42, Try.underlying44, Try.underlying5, Try.underlying9, Try.underlying99, ty104, ty22, ty23, ty24, ty107, ty44, ty99, ty102, ty27, ty3, ty4, ty42, ty5, ty9, rs13, gload1 (s13 _ _ ho12) sz42, lk13, List.getElem?_cons_zero, List.getElem?_cons_succ]))
      refine (c_SpClone N ((y12.sp p.1).hs s13) (by omega)).mono ?_
      rintro v13 h14 ⟨o13, s14⟩
      have s134 := s13.trans s14
      have lk14 := look_mp (s134 _ _ y12.mp) y12.ok p.1
      refine mk_of ?_; repeat' (first | (with_reducible first | refine gw_seq ?_ | refine gw_block ?_) | ((first | (with_reducible refine mk_to ?_) | (with_reducible first | refine gw_region ?_ | refine gw_if ?_ | refine gw_skip ?_ | refine gw_exit ?_ | refine gw_ret ?_) | ((with_reducible first | refine gif_b (fun hb => ?_) (fun hb => ?_) | refine want_t (fun hb => ?_) (fun hb => ?_) | refine want_f (fun hb => ?_) (fun hb => ?_) | refine dr_t (fun hb => ?_) (fun hb => ?_) | refine dr_f (fun hb => ?_) (fun hb => ?_)) <;> (try simp only [hb]) <;> (try simp only [hpr] at hb)) | with_reducible refine gw_draw (id := 18) [(0, []), (1, []), (2, []), (4, []), (5, []), (3, [5]), (6, []), (7, []), (8, []), (9, []), (10, [])] [0, 0, 2, 6, 0, 16, 62, 126, 254, 511, 1023] mixed (by kernel_rfl) ?_ | with_reducible refine gw_draw2 (id := 20) 11 15 [(0, []), (1, []), (2, []), (3, []), (4, []), (5, []), (6, []), (7, []), (8, []), (9, []), (10, []), (12, []), (13, []), (14, []), (11, [3]), (15, [3]), (16, [3]), (17, [])] [0, 1, 3, 7, 0, 0, 32, 96, 224, 0, 992, 2016, 0, 0, 12288, 32736, 65504, 131071] [(0, []), (1, []), (2, []), (3, []), (4, []), (5, []), (6, []), (7, []), (8, []), (9, []), (10, []), (12, []), (13, []), (14, []), (15, [3, 8, 10]), (11, [3]), (16, [3]), (17, [])] [0, 1, 3, 7, 0, 0, 32, 96, 224, 0, 992, 63456, 0, 0, 12288, 28672, 65504, 131071] mixed (by kernel_rfl) (by kernel_rfl) (by kernel_rfl) ?_ ?_) <;> try simp only [List.map, gop, ev, lk, aenv, gyield, gBin, gInt, gStrOp, gUn, gPick, gNil, gExtract, gIfc, gConvK, gIndexO, gIndexVO, gMakeV, gMinV, gMaxV, isInt, gMin, gMax, gBlt, gLenX, gCallV, gInvoke, gNilM, Array.toList_map, vcells, gField, gIndexV, gPart, reduceIte, Nat.reduceAdd, Nat.reduceSub, Nat.reduceMul, Nat.reduceLT, Nat.reduceLeDiff, Nat.reduceEqDiff, Nat.reduceBEq, Int.reduceLT, Int.reduceLE, Int.reduceGT, Int.reduceGE, Int.reduceEq, Int.reduceNe, Int.reduceAdd, Int.reduceSub, Int.reduceMul, Int.reduceNeg, Int.reduceToNat, Int.reduceBEq, Int.reduceBNe, Int.cast_ofNat_Int, List.getElem?_toArray, stp, rvOf, rvLen, wput, wlk, rdv, isEff, dsOf, sgl, stq, Try.underlying102, Try.underlying104, Try.underlying107, Try.underlying22, Try.underlying23, Try.underlying24, Try.underlying27, Try.underlying3, Try.underlying4, Try.underlying42, Try.underlying44, Try.underlying5, Try.underlying9, Try.underlying99, ty104, ty22, ty23, ty24, ty107, ty44, ty99, ty102, ty27, ty3, ty4, ty42, ty5, ty9, rs13, gload1 (s134 _ _ ho12) sz42, lk14, List.getElem?_cons_zero, List.getElem?_cons_succ]))
      refine append_ownc el104 Try.underlying104 rfl s134 (o13.weak s13) (gSrc_hs s14 b14) rfl rfl (by omega) (by simp only [maxLen]; omega) fun v15 h15 s15 fr15 o15 => ?_
      obtain ⟨a15, c15, rfl⟩ := o15.form
      have lk15 := look_mp (s15 _ _ y12.mp) y12.ok p.1
      refine mk_of ?_; repeat' (first | (with_reducible first | refine gw_seq ?_ | refine gw_block ?_) | ((first | (with_reducible refine mk_to ?_) | (with_reducible first | refine gw_region ?_ | refine gw_if ?_ | refine gw_skip ?_ | refine gw_exit ?_ | refine gw_ret ?_) | ((with_reducible first | refine gif_b (fun hb => ?_) (fun hb => ?_) | refine want_t (fun hb => ?_) (fun hb => ?_) | refine want_f (fun hb => ?_) (fun hb => ?_) | refine dr_t (fun hb => ?_) (fun hb => ?_) | refine dr_f (fun hb => ?_) (fun hb => ?_)) <;> (try simp only [hb]) <;> (try simp only [hpr] at hb)) | with_reducible refine gw_draw (id := 18) [(0, []), (1, []), (2, []), (4, []), (5, []), (3, [5]), (6, []), (7, []), (8, []), (9, []), (10, [])] [0, 0, 2, 6, 0, 16, 62, 126, 254, 511, 1023] mixed (by kernel_rfl) ?_ | with_reducible refine gw_draw2 (id := 20) 11 15 [(0, []), (1, []), (2, []), (3, []), (4, []), (5, []), (6, []), (7, []), (8, []), (9, []), (10, []), (12, []), (13, []), (14, []), (11, [3]), (15, [3]), (16, [3]), (17, [])] [0, 1, 3, 7, 0, 0, 32, 96, 224, 0, 992, 2016, 0, 0, 12288, 32736, 65504, 131071] [(0, []), (1, []), (2, []), (3, []), (4, []), (5, []), (6, []), (7, []), (8, []), (9, []), (10, []), (12, []), (13, []), (14, []), (15, [3, 8, 10]), (11, [3]), (16, [3]), (17, [])] [0, 1, 3, 7, 0, 0, 32, 96, 224, 0, 992, 63456, 0, 0, 12288, 28672, 65504, 131071] mixed (by kernel_rfl) (by kernel_rfl) (by kernel_rfl) ?_ ?_) <;> try simp only [List.map, gop, ev, lk, aenv, gyield, gBin, gInt, gStrOp, gUn, gPick, gNil, gExtract, gIfc, gConvK, gIndexO, gIndexVO, gMakeV, gMinV, gMaxV, isInt, gMin, gMax, gBlt, gLenX, gCallV, gInvoke, gNilM, Array.toList_map, vcells, gField, gIndexV, gPart, reduceIte, Nat.reduceAdd, Nat.reduceSub, Nat.reduceMul, Nat.reduceLT, Nat.reduceLeDiff, Nat.reduceEqDiff, Nat.reduceBEq, Int.reduceLT, Int.reduceLE, Int.reduceGT, Int.reduceGE, Int.reduceEq, Int.reduceNe, Int.reduceAdd, Int.reduceSub, Int.reduceMul, Int.reduceNeg, Int.reduceToNat, Int.reduceBEq, Int.reduceBNe, Int.cast_ofNat_Int, List.getElem?_toArray, stp, rvOf, rvLen, wput, wlk, rdv, isEff, dsOf, sgl, stq, Try.underlying102, Try.underlying104, Try.underlying107, Try.underlying22, Try.underlying23, Try.underlying24, Try.underlying27, Try.underlying3, Try.underlying4, Try.underlying42, Try.underlying44, Try.underlying5, Try.underlying9, Try.underlying99, ty104, ty22, ty23, ty24, ty107, ty44, ty99, ty102, ty27, ty3, ty4, ty42, ty5, ty9, rs13, gload1 (s15 _ _ ho12) sz42, lk15, List.getElem?_cons_zero, List.getElem?_cons_succ]))
      refine put_g (y12.up s15).mp y12.ok sm42 fun h16 m16 f16 => ?_
      refine mk_of ?_; repeat' (first | (with_reducible first | refine gw_seq ?_ | refine gw_block ?_) | ((first | (with_reducible refine mk_to ?_) | (with_reducible first | refine gw_region ?_ | refine gw_if ?_ | refine gw_skip ?_ | refine gw_exit ?_ | refine gw_ret ?_) | ((with_reducible first | refine gif_b (fun hb => ?_) (fun hb => ?_) | refine want_t (fun hb => ?_) (fun hb => ?_) | refine want_f (fun hb => ?_) (fun hb => ?_) | refine dr_t (fun hb => ?_) (fun hb => ?_) | refine dr_f (fun hb => ?_) (fun hb => ?_)) <;> (try simp only [hb]) <;> (try simp only [hpr] at hb)) | with_reducible refine gw_draw (id := 18) [(0, []), (1, []), (2, []), (4, []), (5, []), (3, [5]), (6, []), (7, []), (8, []), (9, []), (10, [])] [0, 0, 2, 6, 0, 16, 62, 126, 254, 511, 1023] mixed (by kernel_rfl) ?_ | with_reducible refine gw_draw2 (id := 20) 11 15 [(0, []), (1, []), (2, []), (3, []), (4, []), (5, []), (6, []), (7, []), (8, []), (9, []), (10, []), (12, []), (13, []), (14, []), (11, [3]), (15, [3]), (16, [3]), (17, [])] [0, 1, 3, 7, 0, 0, 32, 96, 224, 0, 992, 2016, 0, 0, 12288, 32736, 65504, 131071] [(0, []), (1, []), (2, []), (3, []), (4, []), (5, []), (6, []), (7, []), (8, []), (9, []), (10, []), (12, []), (13, []), (14, []), (15, [3, 8, 10]), (11, [3]), (16, [3]), (17, [])] [0, 1, 3, 7, 0, 0, 32, 96, 224, 0, 992, 63456, 0, 0, 12288, 28672, 65504, 131071] mixed (by kernel_rfl) (by kernel_rfl) (by kernel_rfl) ?_ ?_) <;> try simp only [List.map, gop, ev, lk, aenv, gyield, gBin, gInt, gStrOp, gUn, gPick, gNil, gExtract, gIfc, gConvK, gIndexO, gIndexVO, gMakeV, gMinV, gMaxV, isInt, gMin, gMax, gBlt, gLenX, gCallV, gInvoke, gNilM, Array.toList_map, vcells, gField, gIndexV, gPart, reduceIte, Nat.reduceAdd, Nat.reduceSub, Nat.reduceMul, Nat.reduceLT, Nat.reduceLeDiff, Nat.reduceEqDiff, Nat.reduceBEq, Int.reduceLT, Int.reduceLE, Int.reduceGT, Int.reduceGE, Int.reduceEq, Int.reduceNe, Int.reduceAdd, Int.reduceSub, Int.reduceMul, Int.reduceNeg, Int.reduceToNat, Int.reduceBEq, Int.reduceBNe, Int.cast_ofNat_Int, List.getElem?_toArray, stp, rvOf, rvLen, wput, wlk, rdv, isEff, dsOf, sgl, stq, Try.underlying102, Try.underlying104, Try.underlying107, Try.underlying22, Try.underlying23, Try.underlying24, Try.underlying27, Try.underlying3, Try.underlying4, Try.underlying42, Try.underlying44, Try.underlying5, Try.underlying9, Try.underlying99, ty104, ty22, ty23, ty24, ty107, ty44, ty99, ty102, ty27, ty3, ty4, ty42, ty5, ty9, rs13, wi]))
      refine ⟨_, (n3 + 1, a12, n3 + 1, c12), ?_, (by simp only [List.forall_mem_cons, List.not_mem_nil, false_implies, implies_true, List.map, List.cons_append, List.nil_append, lk, Nat.reduceEqDiff, reduceIte, and_true, true_and]), rfl, by omega, _, y12.put s15 x.nj hp o15 m16 f16 rfl⟩
      simp only
      omega
  obtain rfl : i = b.length := by omega
  have d3 : decide ((b.length : Int) < (b.length : Int)) = false := decide_eq_false (by omega)
  refine mk_of ?_; repeat' (first | (with_reducible first | refine gw_seq ?_ | refine gw_block ?_) | ((first | (with_reducible refine mk_to ?_) | (with_reducible first | refine gw_region ?_ | refine gw_if ?_ | refine gw_skip ?_ | refine gw_exit ?_ | refine gw_ret ?_) | ((with_reducible first | refine gif_b (fun hb => ?_) (fun hb => ?_) | refine want_t (fun hb => ?_) (fun hb => ?_) | refine want_f (fun hb => ?_) (fun hb => ?_) | refine dr_t (fun hb => ?_) (fun hb => ?_) | refine dr_f (fun hb => ?_) (fun hb => ?_)) <;> (try simp only [hb]) <;> (try simp only [hpr] at hb)) | with_reducible refine gw_draw (id := 18) [(0, []), (1, []), (2, []), (4, []), (5, []), (3, [5]), (6, []), (7, []), (8, []), (9, []), (10, [])] [0, 0, 2, 6, 0, 16, 62, 126, 254, 511, 1023] mixed (by kernel_rfl) ?_ | with_reducible refine gw_draw2 (id := 20) 11 15 [(0, []), (1, []), (2, []), (3, []), (4, []), (5, []), (6, []), (7, []), (8, []), (9, []), (10, []), (12, []), (13, []), (14, []), (11, [3]), (15, [3]), (16, [3]), (17, [])] [0, 1, 3, 7, 0, 0, 32, 96, 224, 0, 992, 2016, 0, 0, 12288, 32736, 65504, 131071] [(0, []), (1, []), (2, []), (3, []), (4, []), (5, []), (6, []), (7, []), (8, []), (9, []), (10, []), (12, []), (13, []), (14, []), (15, [3, 8, 10]), (11, [3]), (16, [3]), (17, [])] [0, 1, 3, 7, 0, 0, 32, 96, 224, 0, 992, 63456, 0, 0, 12288, 28672, 65504, 131071] mixed (by kernel_rfl) (by kernel_rfl) (by kernel_rfl) ?_ ?_) <;> try simp only [List.map, gop, ev, lk, aenv, gyield, gBin, gInt, gStrOp, gUn, gPick, gNil, gExtract, gIfc, gConvK, gIndexO, gIndexVO, gMakeV, gMinV, gMaxV, isInt, gMin, gMax, gBlt, gLenX, gCallV, gInvoke, gNilM, Array.toList_map, vcells, gField, gIndexV, gPart, reduceIte, Nat.reduceAdd, Nat.reduceSub, Nat.reduceMul, Nat.reduceLT, Nat.reduceLeDiff, Nat.reduceEqDiff, Nat.reduceBEq, Int.reduceLT, Int.reduceLE, Int.reduceGT, Int.reduceGE, Int.reduceEq, Int.reduceNe, Int.reduceAdd, Int.reduceSub, Int.reduceMul, Int.reduceNeg, Int.reduceToNat, Int.reduceBEq, Int.reduceBNe, Int.cast_ofNat_Int, List.getElem?_toArray, stp, rvOf, rvLen, wput, wlk, rdv, isEff, dsOf, sgl, stq, Try.underlying102, Try.underlying104, Try.underlying107, Try.underlying22, Try.underlying23, Try.underlying24, Try.underlying27, Try.underlying3, Try.underlying4, Try.underlying42, Try.underlying44, Try.underlying5, Try.underlying9, Try.underlying99, ty104, ty22, ty23, ty24, ty107, ty44, ty99, ty102, ty27, ty3, ty4, ty42, ty5, ty9, rs13, d3, gNil, gload1 ho3 sz22, List.getElem?_cons_zero, List.getElem?_cons_succ]))
  refine bsn1_g el22 rfl rfl (by decide) (by decide) rfl fun k7 h7 b7 s7 f7 n7 => ?_
  have y7 := y3.up s7
  have ho7 := s7 _ _ ho3
  have hx7 := hM_hx y7.hx
  have bat7 : OWNC 1 h0 h7 (.slice a5 B.length c5) B.length cs := by
    have := x2.bat.hx x2.mp (by simp) hx7
    rw [e5] at this
    exact this
  refine mk_of ?_; repeat' (first | (with_reducible first | refine gw_seq ?_ | refine gw_block ?_) | ((first | (with_reducible refine mk_to ?_) | (with_reducible first | refine gw_region ?_ | refine gw_if ?_ | refine gw_skip ?_ | refine gw_exit ?_ | refine gw_ret ?_) | ((with_reducible first | refine gif_b (fun hb => ?_) (fun hb => ?_) | refine want_t (fun hb => ?_) (fun hb => ?_) | refine want_f (fun hb => ?_) (fun hb => ?_) | refine dr_t (fun hb => ?_) (fun hb => ?_) | refine dr_f (fun hb => ?_) (fun hb => ?_)) <;> (try simp only [hb]) <;> (try simp only [hpr] at hb)) | with_reducible refine gw_draw (id := 18) [(0, []), (1, []), (2, []), (4, []), (5, []), (3, [5]), (6, []), (7, []), (8, []), (9, []), (10, [])] [0, 0, 2, 6, 0, 16, 62, 126, 254, 511, 1023] mixed (by kernel_rfl) ?_ | with_reducible refine gw_draw2 (id := 20) 11 15 [(0, []), (1, []), (2, []), (3, []), (4, []), (5, []), (6, []), (7, []), (8, []), (9, []), (10, []), (12, []), (13, []), (14, []), (11, [3]), (15, [3]), (16, [3]), (17, [])] [0, 1, 3, 7, 0, 0, 32, 96, 224, 0, 992, 2016, 0, 0, 12288, 32736, 65504, 131071] [(0, []), (1, []), (2, []), (3, []), (4, []), (5, []), (6, []), (7, []), (8, []), (9, []), (10, []), (12, []), (13, []), (14, []), (15, [3, 8, 10]), (11, [3]), (16, [3]), (17, [])] [0, 1, 3, 7, 0, 0, 32, 96, 224, 0, 992, 63456, 0, 0, 12288, 28672, 65504, 131071] mixed (by kernel_rfl) (by kernel_rfl) (by kernel_rfl) ?_ ?_) <;> try simp only [List.map, gop, ev, lk, aenv, gyield, gBin, gInt, gStrOp, gUn, gPick, gNil, gExtract, gIfc, gConvK, gIndexO, gIndexVO, gMakeV, gMinV, gMaxV, isInt, gMin, gMax, gBlt, gLenX, gCallV, gInvoke, gNilM, Array.toList_map, vcells, gField, gIndexV, gPart, reduceIte, Nat.reduceAdd, Nat.reduceSub, Nat.reduceMul, Nat.reduceLT, Nat.reduceLeDiff, Nat.reduceEqDiff, Nat.reduceBEq, Int.reduceLT, Int.reduceLE, Int.reduceGT, Int.reduceGE, Int.reduceEq, Int.reduceNe, Int.reduceAdd, Int.reduceSub, Int.reduceMul, Int.reduceNeg, Int.reduceToNat, Int.reduceBEq, Int.reduceBNe, Int.cast_ofNat_Int, List.getElem?_toArray, stp, rvOf, rvLen, wput, wlk, rdv, isEff, dsOf, sgl, stq, Try.underlying102, Try.underlying104, Try.underlying107, Try.underlying22, Try.underlying23, Try.underlying24, Try.underlying27, Try.underlying3, Try.underlying4, Try.underlying42, Try.underlying44, Try.underlying5, Try.underlying9, Try.underlying99, ty104, ty22, ty23, ty24, ty107, ty44, ty99, ty102, ty27, ty3, ty4, ty42, ty5, ty9, rs13]))
  refine append_ownc el22 Try.underlying22 rfl y7.hs bat7 b7 rfl rfl (by omega) (by simp only [maxLen]; omega) fun v8 h8 s8 fr8 o8 => ?_
  obtain ⟨a8, c8, rfl⟩ := o8.form
  have ho8 := fr_es fr8 ho7 (by simp)
  refine mk_of ?_; repeat' (first | (with_reducible first | refine gw_seq ?_ | refine gw_block ?_) | ((first | (with_reducible refine mk_to ?_) | (with_reducible first | refine gw_region ?_ | refine gw_if ?_ | refine gw_skip ?_ | refine gw_exit ?_ | refine gw_ret ?_) | ((with_reducible first | refine gif_b (fun hb => ?_) (fun hb => ?_) | refine want_t (fun hb => ?_) (fun hb => ?_) | refine want_f (fun hb => ?_) (fun hb => ?_) | refine dr_t (fun hb => ?_) (fun hb => ?_) | refine dr_f (fun hb => ?_) (fun hb => ?_)) <;> (try simp only [hb]) <;> (try simp only [hpr] at hb)) | with_reducible refine gw_draw (id := 18) [(0, []), (1, []), (2, []), (4, []), (5, []), (3, [5]), (6, []), (7, []), (8, []), (9, []), (10, [])] [0, 0, 2, 6, 0, 16, 62, 126, 254, 511, 1023] mixed (by kernel_rfl) ?_ | with_reducible refine gw_draw2 (id := 20) 11 15 [(0, []), (1, []), (2, []), (3, []), (4, []), (5, []), (6, []), (7, []), (8, []), (9, []), (10, []), (12, []), (13, []), (14, []), (11, [3]), (15, [3]), (16, [3]), (17, [])] [0, 1, 3, 7, 0, 0, 32, 96, 224, 0, 992, 2016, 0, 0, 12288, 32736, 65504, 131071] [(0, []), (1, []), (2, []), (3, []), (4, []), (5, []), (6, []), (7, []), (8, []), (9, []), (10, []), (12, []), (13, []), (14, []), (15, [3, 8, 10]), (11, [3]), (16, [3]), (17, [])] [0, 1, 3, 7, 0, 0, 32, 96, 224, 0, 992, 63456, 0, 0, 12288, 28672, 65504, 131071] mixed (by kernel_rfl) (by kernel_rfl) (by kernel_rfl) ?_ ?_) <;> try simp only [List.map, gop, ev, lk, aenv, gyield, gBin, gInt, gStrOp, gUn, gPick, gNil, gExtract, gIfc, gConvK, gIndexO, gIndexVO, gMakeV, gMinV, gMaxV, isInt, gMin, gMax, gBlt, gLenX, gCallV, gInvoke, gNilM, Array.toList_map, vcells, gField, gIndexV, gPart, reduceIte, Nat.reduceAdd, Nat.reduceSub, Nat.reduceMul, Nat.reduceLT, Nat.reduceLeDiff, Nat.reduceEqDiff, Nat.reduceBEq, Int.reduceLT, Int.reduceLE, Int.reduceGT, Int.reduceGE, Int.reduceEq, Int.reduceNe, Int.reduceAdd, Int.reduceSub, Int.reduceMul, Int.reduceNeg, Int.reduceToNat, Int.reduceBEq, Int.reduceBNe, Int.cast_ofNat_Int, List.getElem?_toArray, stp, rvOf, rvLen, wput, wlk, rdv, isEff, dsOf, sgl, stq, Try.underlying102, Try.underlying104, Try.underlying107, Try.underlying22, Try.underlying23, Try.underlying24, Try.underlying27, Try.underlying3, Try.underlying4, Try.underlying42, Try.underlying44, Try.underlying5, Try.underlying9, Try.underlying99, ty104, ty22, ty23, ty24, ty107, ty44, ty99, ty102, ty27, ty3, ty4, ty42, ty5, ty9, rs13, gNil]))
  refine st_one ho8 sz22 rfl (by simp) rfl rfl fun h9 m9 f9 => ?_
  simp only [List.set_cons_succ, List.set_cons_zero] at m9
  have hx9 : HX k h8 h9 := fun i B n e => (f9 i n).trans e
  have u8 : (⟨[.bool true, .slice a5 B.length c5, .map (some j)], 0, true, false⟩ : GB).cells.all notU8 = true := rfl
  refine mk_of ?_; repeat' (first | (with_reducible first | refine gw_seq ?_ | refine gw_block ?_) | ((first | (with_reducible refine mk_to ?_) | (with_reducible first | refine gw_region ?_ | refine gw_if ?_ | refine gw_skip ?_ | refine gw_exit ?_ | refine gw_ret ?_) | ((with_reducible first | refine gif_b (fun hb => ?_) (fun hb => ?_) | refine want_t (fun hb => ?_) (fun hb => ?_) | refine want_f (fun hb => ?_) (fun hb => ?_) | refine dr_t (fun hb => ?_) (fun hb => ?_) | refine dr_f (fun hb => ?_) (fun hb => ?_)) <;> (try simp only [hb]) <;> (try simp only [hpr] at hb)) | with_reducible refine gw_draw (id := 18) [(0, []), (1, []), (2, []), (4, []), (5, []), (3, [5]), (6, []), (7, []), (8, []), (9, []), (10, [])] [0, 0, 2, 6, 0, 16, 62, 126, 254, 511, 1023] mixed (by kernel_rfl) ?_ | with_reducible refine gw_draw2 (id := 20) 11 15 [(0, []), (1, []), (2, []), (3, []), (4, []), (5, []), (6, []), (7, []), (8, []), (9, []), (10, []), (12, []), (13, []), (14, []), (11, [3]), (15, [3]), (16, [3]), (17, [])] [0, 1, 3, 7, 0, 0, 32, 96, 224, 0, 992, 2016, 0, 0, 12288, 32736, 65504, 131071] [(0, []), (1, []), (2, []), (3, []), (4, []), (5, []), (6, []), (7, []), (8, []), (9, []), (10, []), (12, []), (13, []), (14, []), (15, [3, 8, 10]), (11, [3]), (16, [3]), (17, [])] [0, 1, 3, 7, 0, 0, 32, 96, 224, 0, 992, 63456, 0, 0, 12288, 28672, 65504, 131071] mixed (by kernel_rfl) (by kernel_rfl) (by kernel_rfl) ?_ ?_) <;> try simp only [List.map, gop, ev, lk, aenv, gyield, gBin, gInt, gStrOp, gUn, gPick, gNil, gExtract, gIfc, gConvK, gIndexO, gIndexVO, gMakeV, gMinV, gMaxV, isInt, gMin, gMax, gBlt, gLenX, gCallV, gInvoke, gNilM, Array.toList_map, vcells, gField, gIndexV, gPart, reduceIte, Nat.reduceAdd, Nat.reduceSub, Nat.reduceMul, Nat.reduceLT, Nat.reduceLeDiff, Nat.reduceEqDiff, Nat.reduceBEq, Int.reduceLT, Int.reduceLE, Int.reduceGT, Int.reduceGE, Int.reduceEq, Int.reduceNe, Int.reduceAdd, Int.reduceSub, Int.reduceMul, Int.reduceNeg, Int.reduceToNat, Int.reduceBEq, Int.reduceBNe, Int.cast_ofNat_Int, List.getElem?_toArray, stp, rvOf, rvLen, wput, wlk, rdv, isEff, dsOf, sgl, stq, Try.underlying102, Try.underlying104, Try.underlying107, Try.underlying22, Try.underlying23, Try.underlying24, Try.underlying27, Try.underlying3, Try.underlying4, Try.underlying42, Try.underlying44, Try.underlying5, Try.underlying9, Try.underlying99, ty104, ty22, ty23, ty24, ty107, ty44, ty99, ty102, ty27, ty3, ty4, ty42, ty5, ty9, rs13]))
  have ho' : ∀ v n cs, OWNC 2 h0 h7 v n cs → OWNC 2 h0 h9 v n cs := fun v n cs o => (o.fr1 fr8).hx ho8 (by simp) hx9
  have hr' : ∀ v l, RB h7 v l → RB h9 v l := fun v l r => (fr_rb fr8 x2.cu8 r).hx ho8 u8 hx9
  have hs9 : HS h0 h9 := s8.upd x.nk f9
  have fk : FK k j h2 h9 := ⟨fun i B e n1 n2 n3 => by rw [f9 i n1]; exact fr_es fr8 (hx7 i B n2 e) n3, fun v l r => hr' v l (r.hx x2.mp u1 hx7)⟩
  have hcl : cs.length = B.length := by have := x2.bat.len; omega
  refine ⟨by rw [ea], hs9, (FK.of s2).trans fk, .inr ⟨ea, _, cs ++ vcells (.slice a3 n3 c3), l3, m9, x.nk, ?_, x.nj, y7.ok, y7.u8, ?_, ?_, fun id => ho' _ _ _ (y7.sp id), ?_, ?_, ?_, ?_, ?_, y7.nd, by have := y7.kl; rw [List.length_append, List.length_singleton]; omega⟩⟩
  · rw [f9 _ (Ne.symm hkj)]; exact fr_es fr8 y7.mp (by simp)
  · rw [List.length_append]; exact o8.hx ho8 (by simp) hx9
  · intro e b' hb'
    rcases Nat.lt_or_ge e B.length with hlt | hge
    · rw [List.getElem?_append_left hlt] at hb'
      obtain ⟨v, z1, z2⟩ := x2.bats e b' hb'
      exact ⟨v, by rw [List.getElem?_append_left (by omega)]; exact z1, (z2.by (fun v n cs o => o.hx x2.mp (by simp) hx7) (fun v l r => r.hx x2.mp u1 hx7)).by ho' hr'⟩
    · rw [List.getElem?_append_right hge] at hb'
      have he : e = B.length := by
        have := (List.getElem?_eq_some_iff.1 hb').1
        simp at this; omega
      subst he
      simp at hb'
      subst hb'
      refine ⟨.slice a3 n3 c3, by rw [List.getElem?_append_right (by omega), hcl]; simp [vcells], ?_⟩
      obtain ⟨ds, o, sl, bd⟩ := y7.own
      rw [List.take_length] at bd
      exact Bat.by ⟨ds, o.weak (hM_of (s0.trans s2) x.nj), bd⟩ ho' hr'
  · intro id i1 i2 p q hij hp hq
    rcases Nat.lt_or_ge i1 (S id).length with h1 | h1
    · rw [List.getElem?_append_left h1] at hp
      rcases Nat.lt_or_ge i2 (S id).length with h2' | h2'
      · rw [List.getElem?_append_left h2'] at hq
        exact x.ris id i1 i2 p q hij hp hq
      · rw [List.getElem?_append_right h2'] at hq
        have z1 := (x.val id p (List.mem_of_getElem? hp)).2.1
        have z2 := (newsp_mem (List.mem_of_getElem? hq)).1
        omega
    · rw [List.getElem?_append_right h1] at hp
      rw [List.getElem?_append_right (by omega)] at hq
      have z1 := (newsp_mem (List.mem_of_getElem? hp)).1
      have z2 := (newsp_mem (List.mem_of_getElem? hq)).1
      omega
  · intro id p hp
    rcases List.mem_append.1 hp with hp | hp
    · obtain ⟨z1, z2, b', z3, z4⟩ := x.val id p hp
      exact ⟨z1, by rw [List.length_append]; omega, b', by rw [List.getElem?_append_left (by omega)]; exact z3, z4⟩
    · obtain ⟨z1, z2⟩ := newsp_mem hp
      refine ⟨by omega, by rw [List.length_append, z1]; simp, b, ?_, z2⟩
      rw [z1, List.getElem?_append_right (by omega)]
      simp
  · intro id
    have z1 := x.sl id
    have z2 := newsp_len (B.length + 1) b id b.length
    rw [List.length_append, List.length_append]
    simp only [List.length_singleton]
    omega
  · intro b' hb'
    rcases List.mem_append.1 hb' with hb' | hb'
    · exact x.bl b' hb'
    · obtain rfl := List.mem_singleton.1 hb'
      exact ⟨hb, hbl⟩
  · rw [List.all_append, x.cu8]; rfl
end Go.Gh

