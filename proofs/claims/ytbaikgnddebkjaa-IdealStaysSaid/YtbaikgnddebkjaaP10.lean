/- Parts of this claim's proof, 10. No statement of the claim stands here. -/
import Derived.Test.YtbaikgnddebkjaaP9
import Derived.Test.YtbaikgnddebkjaaProg
/- Closed facts of the loaded program, each asked of the kernel. -/
namespace Go.Gh
open Go Go.Proofs
set_option maxRecDepth 100000
theorem ok3 : codeOk Try.prog Try.f3.ntmps (Try.f3.body.getD .skip) = true := by kernel_rfl
theorem ok4 : codeOk Try.prog Try.f4.ntmps (Try.f4.body.getD .skip) = true := by kernel_rfl
theorem gf7 : gfn Try.prog 7 = true := by kernel_rfl
theorem rs7 : Try.f7.results.toList = [.tmp 6] := by kernel_rfl
theorem ok7 : codeOk Try.prog Try.f7.ntmps (Try.f7.body.getD .skip) = true := by kernel_rfl
theorem gf29 : gfn Try.prog 29 = true := by kernel_rfl
theorem rs29 : Try.f29.results.toList = [.tmp 4] := by kernel_rfl
theorem ok29 : codeOk Try.prog Try.f29.ntmps (Try.f29.body.getD .skip) = true := by kernel_rfl
theorem gf30 : gfn Try.prog 30 = true := by kernel_rfl
theorem rs30 : Try.f30.results.toList = [.tmp 2, .cell 3 65] := by kernel_rfl
theorem ok30 : codeOk Try.prog Try.f30.ntmps (Try.f30.body.getD .skip) = true := by kernel_rfl
theorem gf31 : gfn Try.prog 31 = true := by kernel_rfl
theorem rs31 : Try.f31.results.toList = [.tmp 2] := by kernel_rfl
theorem ok31 : codeOk Try.prog Try.f31.ntmps (Try.f31.body.getD .skip) = true := by kernel_rfl
theorem gf32 : gfn Try.prog 32 = true := by kernel_rfl
theorem rs32 : Try.f32.results.toList = [.cell 4 70] := by kernel_rfl
theorem ok32 : codeOk Try.prog Try.f32.ntmps (Try.f32.body.getD .skip) = true := by kernel_rfl
theorem gf33 : gfn Try.prog 33 = true := by kernel_rfl
theorem rs33 : Try.f33.results.toList = [.tmp 6] := by kernel_rfl
theorem ok33 : codeOk Try.prog Try.f33.ntmps (Try.f33.body.getD .skip) = true := by kernel_rfl
theorem gf34 : gfn Try.prog 34 = true := by kernel_rfl
theorem rs34 : Try.f34.results.toList = [.tmp 4] := by kernel_rfl
theorem ok34 : codeOk Try.prog Try.f34.ntmps (Try.f34.body.getD .skip) = true := by kernel_rfl
theorem gf35 : gfn Try.prog 35 = true := by kernel_rfl
theorem rs35 : Try.f35.results.toList = [.tmp 0] := by kernel_rfl
theorem ok35 : codeOk Try.prog Try.f35.ntmps (Try.f35.body.getD .skip) = true := by kernel_rfl
theorem gf36 : gfn Try.prog 36 = true := by kernel_rfl
theorem rs36 : Try.f36.results.toList = [.tmp 2, .tmp 3] := by kernel_rfl
theorem ok36 : codeOk Try.prog Try.f36.ntmps (Try.f36.body.getD .skip) = true := by kernel_rfl
theorem gf44 : gfn Try.prog 44 = true := by kernel_rfl
theorem rs44 : Try.f44.results.toList = [.tmp 2] := by kernel_rfl
theorem ok44 : codeOk Try.prog Try.f44.ntmps (Try.f44.body.getD .skip) = true := by kernel_rfl
theorem gf50 : gfn Try.prog 50 = true := by kernel_rfl
theorem rs50 : Try.f50.results.toList = [.tmp 2] := by kernel_rfl
theorem ok50 : codeOk Try.prog Try.f50.ntmps (Try.f50.body.getD .skip) = true := by kernel_rfl
theorem gf60 : gfn Try.prog 60 = true := by kernel_rfl
theorem rs60 : Try.f60.results.toList = [.tmp 4] := by kernel_rfl
theorem ok60 : codeOk Try.prog Try.f60.ntmps (Try.f60.body.getD .skip) = true := by kernel_rfl
theorem gf65 : gfn Try.prog 65 = true := by kernel_rfl
theorem rs65 : Try.f65.results.toList = [.cell 0 65] := by kernel_rfl
theorem ok65 : codeOk Try.prog Try.f65.ntmps (Try.f65.body.getD .skip) = true := by kernel_rfl
theorem gf66 : gfn Try.prog 66 = true := by kernel_rfl
theorem rs66 : Try.f66.results.toList = [.tmp 2] := by kernel_rfl
theorem ok66 : codeOk Try.prog Try.f66.ntmps (Try.f66.body.getD .skip) = true := by kernel_rfl
theorem gf67 : gfn Try.prog 67 = true := by kernel_rfl
theorem rs67 : Try.f67.results.toList = [.tmp 4, .tmp 5] := by kernel_rfl
theorem ok67 : codeOk Try.prog Try.f67.ntmps (Try.f67.body.getD .skip) = true := by kernel_rfl
theorem gf68 : gfn Try.prog 68 = true := by kernel_rfl
theorem rs68 : Try.f68.results.toList = [.tmp 2] := by kernel_rfl
theorem ok68 : codeOk Try.prog Try.f68.ntmps (Try.f68.body.getD .skip) = true := by kernel_rfl
theorem gf69 : gfn Try.prog 69 = true := by kernel_rfl
theorem rs69 : Try.f69.results.toList = [.tmp 2] := by kernel_rfl
theorem ok69 : codeOk Try.prog Try.f69.ntmps (Try.f69.body.getD .skip) = true := by kernel_rfl
theorem gf70 : gfn Try.prog 70 = true := by kernel_rfl
theorem rs70 : Try.f70.results.toList = [.cell 4 70] := by kernel_rfl
theorem ok70 : codeOk Try.prog Try.f70.ntmps (Try.f70.body.getD .skip) = true := by kernel_rfl
theorem gf72 : gfn Try.prog 72 = true := by kernel_rfl
theorem rs72 : Try.f72.results.toList = [.cell 4 70] := by kernel_rfl
theorem ok72 : codeOk Try.prog Try.f72.ntmps (Try.f72.body.getD .skip) = true := by kernel_rfl
theorem gf73 : gfn Try.prog 73 = true := by kernel_rfl
theorem rs73 : Try.f73.results.toList = [.cell 4 70] := by kernel_rfl
theorem ok73 : codeOk Try.prog Try.f73.ntmps (Try.f73.body.getD .skip) = true := by kernel_rfl
theorem gf74 : gfn Try.prog 74 = true := by kernel_rfl
theorem rs74 : Try.f74.results.toList = [.cell 4 70] := by kernel_rfl
theorem ok74 : codeOk Try.prog Try.f74.ntmps (Try.f74.body.getD .skip) = true := by kernel_rfl
theorem gf75 : gfn Try.prog 75 = true := by kernel_rfl
theorem rs75 : Try.f75.results.toList = [.cell 4 70] := by kernel_rfl
theorem ok75 : codeOk Try.prog Try.f75.ntmps (Try.f75.body.getD .skip) = true := by kernel_rfl
theorem gf76 : gfn Try.prog 76 = true := by kernel_rfl
theorem rs76 : Try.f76.results.toList = [.cell 4 70] := by kernel_rfl
theorem ok76 : codeOk Try.prog Try.f76.ntmps (Try.f76.body.getD .skip) = true := by kernel_rfl
theorem gf77 : gfn Try.prog 77 = true := by kernel_rfl
theorem rs77 : Try.f77.results.toList = [.cell 4 70] := by kernel_rfl
theorem ok77 : codeOk Try.prog Try.f77.ntmps (Try.f77.body.getD .skip) = true := by kernel_rfl
theorem gf78 : gfn Try.prog 78 = true := by kernel_rfl
theorem rs78 : Try.f78.results.toList = [.tmp 4] := by kernel_rfl
theorem ok78 : codeOk Try.prog Try.f78.ntmps (Try.f78.body.getD .skip) = true := by kernel_rfl
theorem gf79 : gfn Try.prog 79 = true := by kernel_rfl
theorem rs79 : Try.f79.results.toList = [.tmp 4] := by kernel_rfl
theorem ok79 : codeOk Try.prog Try.f79.ntmps (Try.f79.body.getD .skip) = true := by kernel_rfl
theorem gf80 : gfn Try.prog 80 = true := by kernel_rfl
theorem rs80 : Try.f80.results.toList = [.tmp 3] := by kernel_rfl
theorem ok80 : codeOk Try.prog Try.f80.ntmps (Try.f80.body.getD .skip) = true := by kernel_rfl
theorem gf81 : gfn Try.prog 81 = true := by kernel_rfl
theorem rs81 : Try.f81.results.toList = [.tmp 2] := by kernel_rfl
theorem ok81 : codeOk Try.prog Try.f81.ntmps (Try.f81.body.getD .skip) = true := by kernel_rfl
theorem gf82 : gfn Try.prog 82 = true := by kernel_rfl
theorem rs82 : Try.f82.results.toList = [.tmp 2] := by kernel_rfl
theorem ok82 : codeOk Try.prog Try.f82.ntmps (Try.f82.body.getD .skip) = true := by kernel_rfl
theorem gf91 : gfn Try.prog 91 = true := by kernel_rfl
theorem rs91 : Try.f91.results.toList = [.tmp 2] := by kernel_rfl
theorem ok91 : codeOk Try.prog Try.f91.ntmps (Try.f91.body.getD .skip) = true := by kernel_rfl
theorem gf95 : gfn Try.prog 95 = true := by kernel_rfl
theorem rs95 : Try.f95.results.toList = [.tmp 2] := by kernel_rfl
theorem ok95 : codeOk Try.prog Try.f95.ntmps (Try.f95.body.getD .skip) = true := by kernel_rfl
theorem gf99 : gfn Try.prog 99 = true := by kernel_rfl
theorem gf100 : gfn Try.prog 100 = true := by kernel_rfl
theorem rs100 : Try.f100.results.toList = [.tmp 4] := by kernel_rfl
theorem ok100 : codeOk Try.prog Try.f100.ntmps (Try.f100.body.getD .skip) = true := by kernel_rfl
theorem gf101 : gfn Try.prog 101 = true := by kernel_rfl
theorem rs101 : Try.f101.results.toList = [.tmp 2] := by kernel_rfl
theorem ok101 : codeOk Try.prog Try.f101.ntmps (Try.f101.body.getD .skip) = true := by kernel_rfl
theorem gf102 : gfn Try.prog 102 = true := by kernel_rfl
theorem rs102 : Try.f102.results.toList = [.tmp 2] := by kernel_rfl
theorem ok102 : codeOk Try.prog Try.f102.ntmps (Try.f102.body.getD .skip) = true := by kernel_rfl
theorem gf103 : gfn Try.prog 103 = true := by kernel_rfl
theorem rs103 : Try.f103.results.toList = [.tmp 2] := by kernel_rfl
theorem ok103 : codeOk Try.prog Try.f103.ntmps (Try.f103.body.getD .skip) = true := by kernel_rfl
theorem gf104 : gfn Try.prog 104 = true := by kernel_rfl
theorem rs104 : Try.f104.results.toList = [.tmp 6] := by kernel_rfl
theorem ok104 : codeOk Try.prog Try.f104.ntmps (Try.f104.body.getD .skip) = true := by kernel_rfl
theorem gf105 : gfn Try.prog 105 = true := by kernel_rfl
theorem rs105 : Try.f105.results.toList = [.tmp 2] := by kernel_rfl
theorem ok105 : codeOk Try.prog Try.f105.ntmps (Try.f105.body.getD .skip) = true := by kernel_rfl
theorem gf106 : gfn Try.prog 106 = true := by kernel_rfl
theorem rs106 : Try.f106.results.toList = [.tmp 4] := by kernel_rfl
theorem ok106 : codeOk Try.prog Try.f106.ntmps (Try.f106.body.getD .skip) = true := by kernel_rfl
theorem gf107 : gfn Try.prog 107 = true := by kernel_rfl
theorem rs107 : Try.f107.results.toList = [.tmp 2] := by kernel_rfl
theorem ok107 : codeOk Try.prog Try.f107.ntmps (Try.f107.body.getD .skip) = true := by kernel_rfl
theorem gf108 : gfn Try.prog 108 = true := by kernel_rfl
theorem rs108 : Try.f108.results.toList = [.cell 6 97, .tmp 7] := by kernel_rfl
theorem ok108 : codeOk Try.prog Try.f108.ntmps (Try.f108.body.getD .skip) = true := by kernel_rfl
theorem gf109 : gfn Try.prog 109 = true := by kernel_rfl
theorem rs109 : Try.f109.results.toList = [.tmp 6, .tmp 7] := by kernel_rfl
theorem ok109 : codeOk Try.prog Try.f109.ntmps (Try.f109.body.getD .skip) = true := by kernel_rfl
theorem gf110 : gfn Try.prog 110 = true := by kernel_rfl
theorem rs110 : Try.f110.results.toList = [.tmp 4] := by kernel_rfl
theorem ok110 : codeOk Try.prog Try.f110.ntmps (Try.f110.body.getD .skip) = true := by kernel_rfl
theorem gf111 : gfn Try.prog 111 = true := by kernel_rfl
theorem rs111 : Try.f111.results.toList = [] := by kernel_rfl
theorem ok111 : codeOk Try.prog Try.f111.ntmps (Try.f111.body.getD .skip) = true := by kernel_rfl
theorem gf112 : gfn Try.prog 112 = true := by kernel_rfl
theorem rs112 : Try.f112.results.toList = [.tmp 4] := by kernel_rfl
theorem ok112 : codeOk Try.prog Try.f112.ntmps (Try.f112.body.getD .skip) = true := by kernel_rfl
theorem gf113 : gfn Try.prog 113 = true := by kernel_rfl
theorem rs113 : Try.f113.results.toList = [.tmp 4] := by kernel_rfl
theorem ok113 : codeOk Try.prog Try.f113.ntmps (Try.f113.body.getD .skip) = true := by kernel_rfl
theorem gf114 : gfn Try.prog 114 = true := by kernel_rfl
theorem rs114 : Try.f114.results.toList = [.tmp 2] := by kernel_rfl
theorem ok114 : codeOk Try.prog Try.f114.ntmps (Try.f114.body.getD .skip) = true := by kernel_rfl
theorem gf115 : gfn Try.prog 115 = true := by kernel_rfl
theorem rs115 : Try.f115.results.toList = [.tmp 4] := by kernel_rfl
theorem ok115 : codeOk Try.prog Try.f115.ntmps (Try.f115.body.getD .skip) = true := by kernel_rfl
theorem gf116 : gfn Try.prog 116 = true := by kernel_rfl
theorem rs116 : Try.f116.results.toList = [.tmp 2] := by kernel_rfl
theorem ok116 : codeOk Try.prog Try.f116.ntmps (Try.f116.body.getD .skip) = true := by kernel_rfl
theorem gf117 : gfn Try.prog 117 = true := by kernel_rfl
theorem rs117 : Try.f117.results.toList = [.tmp 2] := by kernel_rfl
theorem ok117 : codeOk Try.prog Try.f117.ntmps (Try.f117.body.getD .skip) = true := by kernel_rfl
theorem gf132 : gfn Try.prog 132 = true := by kernel_rfl
theorem rs132 : Try.f132.results.toList = [.tmp 2] := by kernel_rfl
theorem ok132 : codeOk Try.prog Try.f132.ntmps (Try.f132.body.getD .skip) = true := by kernel_rfl
theorem gf133 : gfn Try.prog 133 = true := by kernel_rfl
theorem rs133 : Try.f133.results.toList = [.tmp 2] := by kernel_rfl
theorem ok133 : codeOk Try.prog Try.f133.ntmps (Try.f133.body.getD .skip) = true := by kernel_rfl
theorem gf134 : gfn Try.prog 134 = true := by kernel_rfl
theorem rs134 : Try.f134.results.toList = [.tmp 4, .tmp 5] := by kernel_rfl
theorem ok134 : codeOk Try.prog Try.f134.ntmps (Try.f134.body.getD .skip) = true := by kernel_rfl
theorem gf135 : gfn Try.prog 135 = true := by kernel_rfl
theorem rs135 : Try.f135.results.toList = [.tmp 3] := by kernel_rfl
theorem ok135 : codeOk Try.prog Try.f135.ntmps (Try.f135.body.getD .skip) = true := by kernel_rfl
theorem gf136 : gfn Try.prog 136 = true := by kernel_rfl
theorem rs136 : Try.f136.results.toList = [] := by kernel_rfl
theorem ok136 : codeOk Try.prog Try.f136.ntmps (Try.f136.body.getD .skip) = true := by kernel_rfl
theorem gf137 : gfn Try.prog 137 = true := by kernel_rfl
theorem rs137 : Try.f137.results.toList = [] := by kernel_rfl
theorem ok137 : codeOk Try.prog Try.f137.ntmps (Try.f137.body.getD .skip) = true := by kernel_rfl
theorem gf138 : gfn Try.prog 138 = true := by kernel_rfl
theorem rs138 : Try.f138.results.toList = [.tmp 2] := by kernel_rfl
theorem ok138 : codeOk Try.prog Try.f138.ntmps (Try.f138.body.getD .skip) = true := by kernel_rfl
theorem gf144 : gfn Try.prog 144 = true := by kernel_rfl
theorem rs144 : Try.f144.results.toList = [.tmp 4] := by kernel_rfl
theorem ok144 : codeOk Try.prog Try.f144.ntmps (Try.f144.body.getD .skip) = true := by kernel_rfl
theorem gf145 : gfn Try.prog 145 = true := by kernel_rfl
theorem rs145 : Try.f145.results.toList = [.tmp 2] := by kernel_rfl
theorem ok145 : codeOk Try.prog Try.f145.ntmps (Try.f145.body.getD .skip) = true := by kernel_rfl
theorem gf146 : gfn Try.prog 146 = true := by kernel_rfl
theorem rs146 : Try.f146.results.toList = [.tmp 4] := by kernel_rfl
theorem ok146 : codeOk Try.prog Try.f146.ntmps (Try.f146.body.getD .skip) = true := by kernel_rfl
theorem gf147 : gfn Try.prog 147 = true := by kernel_rfl
theorem rs147 : Try.f147.results.toList = [.tmp 2] := by kernel_rfl
theorem ok147 : codeOk Try.prog Try.f147.ntmps (Try.f147.body.getD .skip) = true := by kernel_rfl
theorem gf148 : gfn Try.prog 148 = true := by kernel_rfl
theorem rs148 : Try.f148.results.toList = [] := by kernel_rfl
theorem ok148 : codeOk Try.prog Try.f148.ntmps (Try.f148.body.getD .skip) = true := by kernel_rfl
theorem gf156 : gfn Try.prog 156 = true := by kernel_rfl
theorem rs156 : Try.f156.results.toList = [.tmp 2] := by kernel_rfl
theorem ok156 : codeOk Try.prog Try.f156.ntmps (Try.f156.body.getD .skip) = true := by kernel_rfl
theorem ud3 : Try.prog.underlying 3 = some (.int .i64) := Try.underlying3
theorem sz3 : gsz Try.prog 3 = some (false, 1) := by kernel_rfl
theorem zr3 : gzero Try.prog 3 = some [.int .i64 0] := by kernel_rfl
theorem ni3 : notIface Try.prog 3 = true := by kernel_rfl
theorem ud4 : Try.prog.underlying 4 = some .bool := Try.underlying4
theorem sz4 : gsz Try.prog 4 = some (false, 1) := by kernel_rfl
theorem zr4 : gzero Try.prog 4 = some [.bool false] := by kernel_rfl
theorem ni4 : notIface Try.prog 4 = true := by kernel_rfl
theorem ud5 : Try.prog.underlying 5 = some (.int .u8) := Try.underlying5
theorem sz5 : gsz Try.prog 5 = some (false, 1) := by kernel_rfl
theorem zr5 : gzero Try.prog 5 = some [.int .u8 0] := by kernel_rfl
theorem ni5 : notIface Try.prog 5 = true := by kernel_rfl
theorem ud9 : Try.prog.underlying 9 = some .string := Try.underlying9
theorem sz9 : gsz Try.prog 9 = some (false, 1) := by kernel_rfl
theorem zr9 : gzero Try.prog 9 = some [.string ByteArray.empty] := by kernel_rfl
theorem ni9 : notIface Try.prog 9 = true := by kernel_rfl
theorem ud22 : Try.prog.underlying 22 = some (.slice 23) := Try.underlying22
theorem sz22 : gsz Try.prog 22 = some (false, 1) := by kernel_rfl
theorem el22 : gel Try.prog 22 = some (23, 1, 24, .slice none 0 0) := by kernel_rfl
theorem zr22 : gzero Try.prog 22 = some [.slice none 0 0] := by kernel_rfl
theorem ni22 : notIface Try.prog 22 = true := by kernel_rfl
theorem ud23 : Try.prog.underlying 23 = some (.slice 99) := Try.underlying23
theorem sz23 : gsz Try.prog 23 = some (false, 1) := by kernel_rfl
theorem el23 : gel Try.prog 23 = some (99, 2, 48, .agg #[.slice none 0 0, .slice none 0 0]) := by kernel_rfl
theorem zr23 : gzero Try.prog 23 = some [.slice none 0 0] := by kernel_rfl
theorem ni23 : notIface Try.prog 23 = true := by kernel_rfl
theorem ud24 : Try.prog.underlying 24 = some (.slice 5) := Try.underlying24
theorem sz24 : gsz Try.prog 24 = some (false, 1) := by kernel_rfl
theorem el24 : gel Try.prog 24 = some (5, 1, 1, .int .u8 0) := by kernel_rfl
theorem zr24 : gzero Try.prog 24 = some [.slice none 0 0] := by kernel_rfl
theorem ni24 : notIface Try.prog 24 = true := by kernel_rfl
theorem ud29 : Try.prog.underlying 29 = some (.int .i64) := Try.underlying29
theorem sz29 : gsz Try.prog 29 = some (false, 1) := by kernel_rfl
theorem zr29 : gzero Try.prog 29 = some [.int .i64 0] := by kernel_rfl
theorem ni29 : notIface Try.prog 29 = true := by kernel_rfl
theorem sz33 : gsz Try.prog 33 = some (true, 4) := by kernel_rfl
theorem zr33 : gzero Try.prog 33 = some [.int .i64 0, .int .i64 0, .slice none 0 0, .slice none 0 0] := by kernel_rfl
theorem fo33_0 : gfo Try.prog 33 0 = some (3, 0) := by kernel_rfl
theorem fo33_1 : gfo Try.prog 33 1 = some (3, 1) := by kernel_rfl
theorem fo33_2 : gfo Try.prog 33 2 = some (24, 2) := by kernel_rfl
theorem fo33_3 : gfo Try.prog 33 3 = some (24, 3) := by kernel_rfl
theorem sh33 : gshape Try.prog 33 = some (.fields [(0, 1), (1, 1), (2, 1), (3, 1)], [.int .i64 0, .int .i64 0, .slice none 0 0, .slice none 0 0]) := by kernel_rfl
theorem ni33 : notIface Try.prog 33 = true := by kernel_rfl
theorem ud36 : Try.prog.underlying 36 = some (.slice 33) := Try.underlying36
theorem sz36 : gsz Try.prog 36 = some (false, 1) := by kernel_rfl
theorem el36 : gel Try.prog 36 = some (33, 4, 64, .agg #[.int .i64 0, .int .i64 0, .slice none 0 0, .slice none 0 0]) := by kernel_rfl
theorem zr36 : gzero Try.prog 36 = some [.slice none 0 0] := by kernel_rfl
theorem ni36 : notIface Try.prog 36 = true := by kernel_rfl
theorem sm42 : strMap Try.prog 42 = some 104 := by kernel_rfl
theorem gz42 : gzv Try.prog 104 = some (.slice none 0 0) := by kernel_rfl
theorem ud47 : Try.prog.underlying 47 = some (.slice 24) := Try.underlying47
theorem sz47 : gsz Try.prog 47 = some (false, 1) := by kernel_rfl
theorem el47 : gel Try.prog 47 = some (24, 1, 24, .slice none 0 0) := by kernel_rfl
theorem zr47 : gzero Try.prog 47 = some [.slice none 0 0] := by kernel_rfl
theorem ni47 : notIface Try.prog 47 = true := by kernel_rfl
theorem ud56 : Try.prog.underlying 56 = some (.int .u64) := Try.underlying56
theorem sz56 : gsz Try.prog 56 = some (false, 1) := by kernel_rfl
theorem zr56 : gzero Try.prog 56 = some [.int .u64 0] := by kernel_rfl
theorem ni56 : notIface Try.prog 56 = true := by kernel_rfl
theorem sz62 : gsz Try.prog 62 = some (true, 10) := by kernel_rfl
theorem zr62 : gzero Try.prog 62 = some [.int .i64 0, .slice none 0 0, .int .i64 0, .int .i64 0, .int .i64 0, .bool false, .int .i64 0, .int .i64 0, .int .i64 0, .slice none 0 0] := by kernel_rfl
theorem fo62_0 : gfo Try.prog 62 0 = some (3, 0) := by kernel_rfl
theorem fo62_1 : gfo Try.prog 62 1 = some (24, 1) := by kernel_rfl
theorem fo62_2 : gfo Try.prog 62 2 = some (3, 2) := by kernel_rfl
theorem fo62_3 : gfo Try.prog 62 3 = some (3, 3) := by kernel_rfl
theorem fo62_4 : gfo Try.prog 62 4 = some (3, 4) := by kernel_rfl
theorem fo62_5 : gfo Try.prog 62 5 = some (4, 5) := by kernel_rfl
theorem fo62_6 : gfo Try.prog 62 6 = some (3, 6) := by kernel_rfl
theorem fo62_7 : gfo Try.prog 62 7 = some (3, 7) := by kernel_rfl
theorem fo62_8 : gfo Try.prog 62 8 = some (3, 8) := by kernel_rfl
theorem fo62_9 : gfo Try.prog 62 9 = some (23, 9) := by kernel_rfl
theorem sh62 : gshape Try.prog 62 = some (.fields [(0, 1), (1, 1), (2, 1), (3, 1), (4, 1), (5, 1), (6, 1), (7, 1), (8, 1), (9, 1)], [.int .i64 0, .slice none 0 0, .int .i64 0, .int .i64 0, .int .i64 0, .bool false, .int .i64 0, .int .i64 0, .int .i64 0, .slice none 0 0]) := by kernel_rfl
theorem ni62 : notIface Try.prog 62 = true := by kernel_rfl
theorem ud63 : Try.prog.underlying 63 = some (.pointer 91) := Try.underlying63
theorem sz63 : gsz Try.prog 63 = some (false, 1) := by kernel_rfl
theorem zr63 : gzero Try.prog 63 = some [.pointer none] := by kernel_rfl
theorem ni63 : notIface Try.prog 63 = true := by kernel_rfl
theorem sz65 : gsz Try.prog 65 = some (true, 8) := by kernel_rfl
theorem zr65 : gzero Try.prog 65 = some [.int .i64 0, .int .i64 0, .int .i64 0, .int .i64 0, .int .i64 0, .int .i64 0, .int .i64 0, .int .i64 0] := by kernel_rfl
theorem fo65_0 : gfo Try.prog 65 0 = some (3, 0) := by kernel_rfl
theorem fo65_1 : gfo Try.prog 65 1 = some (3, 1) := by kernel_rfl
theorem fo65_2 : gfo Try.prog 65 2 = some (3, 2) := by kernel_rfl
theorem fo65_3 : gfo Try.prog 65 3 = some (3, 3) := by kernel_rfl
theorem fo65_4 : gfo Try.prog 65 4 = some (3, 4) := by kernel_rfl
theorem fo65_5 : gfo Try.prog 65 5 = some (3, 5) := by kernel_rfl
theorem fo65_6 : gfo Try.prog 65 6 = some (3, 6) := by kernel_rfl
theorem fo65_7 : gfo Try.prog 65 7 = some (3, 7) := by kernel_rfl
theorem sh65 : gshape Try.prog 65 = some (.fields [(0, 1), (1, 1), (2, 1), (3, 1), (4, 1), (5, 1), (6, 1), (7, 1)], [.int .i64 0, .int .i64 0, .int .i64 0, .int .i64 0, .int .i64 0, .int .i64 0, .int .i64 0, .int .i64 0]) := by kernel_rfl
theorem ni65 : notIface Try.prog 65 = true := by kernel_rfl
theorem ud68 : Try.prog.underlying 68 = some (.slice 97) := Try.underlying68
theorem sz68 : gsz Try.prog 68 = some (false, 1) := by kernel_rfl
theorem el68 : gel Try.prog 68 = some (97, 3, 56, .agg #[.slice none 0 0, .slice none 0 0, .int .i64 0]) := by kernel_rfl
theorem zr68 : gzero Try.prog 68 = some [.slice none 0 0] := by kernel_rfl
theorem ni68 : notIface Try.prog 68 = true := by kernel_rfl
theorem sz70 : gsz Try.prog 70 = some (true, 9) := by kernel_rfl
theorem zr70 : gzero Try.prog 70 = some [.int .i64 0, .int .i64 0, .bool false, .bool false, .slice none 0 0, .int .i64 0, .slice none 0 0, .slice none 0 0, .bool false] := by kernel_rfl
theorem fo70_0 : gfo Try.prog 70 0 = some (29, 0) := by kernel_rfl
theorem fo70_1 : gfo Try.prog 70 1 = some (3, 1) := by kernel_rfl
theorem fo70_2 : gfo Try.prog 70 2 = some (4, 2) := by kernel_rfl
theorem fo70_3 : gfo Try.prog 70 3 = some (4, 3) := by kernel_rfl
theorem fo70_4 : gfo Try.prog 70 4 = some (24, 4) := by kernel_rfl
theorem fo70_5 : gfo Try.prog 70 5 = some (3, 5) := by kernel_rfl
theorem fo70_6 : gfo Try.prog 70 6 = some (68, 6) := by kernel_rfl
theorem fo70_7 : gfo Try.prog 70 7 = some (36, 7) := by kernel_rfl
theorem fo70_8 : gfo Try.prog 70 8 = some (4, 8) := by kernel_rfl
theorem sh70 : gshape Try.prog 70 = some (.fields [(0, 1), (1, 1), (2, 1), (3, 1), (4, 1), (5, 1), (6, 1), (7, 1), (8, 1)], [.int .i64 0, .int .i64 0, .bool false, .bool false, .slice none 0 0, .int .i64 0, .slice none 0 0, .slice none 0 0, .bool false]) := by kernel_rfl
theorem ni70 : notIface Try.prog 70 = true := by kernel_rfl
theorem ud83 : Try.prog.underlying 83 = some (.slice 3) := Try.underlying83
theorem sz83 : gsz Try.prog 83 = some (false, 1) := by kernel_rfl
theorem el83 : gel Try.prog 83 = some (3, 1, 8, .int .i64 0) := by kernel_rfl
theorem zr83 : gzero Try.prog 83 = some [.slice none 0 0] := by kernel_rfl
theorem ni83 : notIface Try.prog 83 = true := by kernel_rfl
theorem ud88 : Try.prog.underlying 88 = some (.slice 136) := Try.underlying88
theorem sz88 : gsz Try.prog 88 = some (false, 1) := by kernel_rfl
theorem el88 : gel Try.prog 88 = some (136, 2, 32, .agg #[.int .i64 0, .slice none 0 0]) := by kernel_rfl
theorem zr88 : gzero Try.prog 88 = some [.slice none 0 0] := by kernel_rfl
theorem ni88 : notIface Try.prog 88 = true := by kernel_rfl
theorem sz89 : gsz Try.prog 89 = some (false, 1) := by kernel_rfl
theorem zr89 : gzero Try.prog 89 = some [.map none] := by kernel_rfl
theorem sm89 : strMap Try.prog 89 = some 83 := by kernel_rfl
theorem gz89 : gzv Try.prog 83 = some (.slice none 0 0) := by kernel_rfl
theorem ni89 : notIface Try.prog 89 = true := by kernel_rfl
theorem sz91 : gsz Try.prog 91 = some (true, 12) := by kernel_rfl
theorem zr91 : gzero Try.prog 91 = some [.int .i64 0, .int .i64 0, .int .i64 0, .int .i64 0, .int .i64 0, .int .i64 0, .int .i64 0, .int .i64 0, .slice none 0 0, .int .i64 0, .int .i64 0, .map none] := by kernel_rfl
theorem fo91_0 : gfo Try.prog 91 0 = some (65, 0) := by kernel_rfl
theorem fo91_1 : gfo Try.prog 91 1 = some (88, 8) := by kernel_rfl
theorem fo91_2 : gfo Try.prog 91 2 = some (3, 9) := by kernel_rfl
theorem fo91_3 : gfo Try.prog 91 3 = some (3, 10) := by kernel_rfl
theorem fo91_4 : gfo Try.prog 91 4 = some (89, 11) := by kernel_rfl
theorem sh91 : gshape Try.prog 91 = some (.fields [(0, 8), (8, 1), (9, 1), (10, 1), (11, 1)], [.int .i64 0, .int .i64 0, .int .i64 0, .int .i64 0, .int .i64 0, .int .i64 0, .int .i64 0, .int .i64 0, .slice none 0 0, .int .i64 0, .int .i64 0, .map none]) := by kernel_rfl
theorem ni91 : notIface Try.prog 91 = true := by kernel_rfl
theorem sz97 : gsz Try.prog 97 = some (true, 3) := by kernel_rfl
theorem zr97 : gzero Try.prog 97 = some [.slice none 0 0, .slice none 0 0, .int .i64 0] := by kernel_rfl
theorem fo97_0 : gfo Try.prog 97 0 = some (24, 0) := by kernel_rfl
theorem fo97_1 : gfo Try.prog 97 1 = some (24, 1) := by kernel_rfl
theorem fo97_2 : gfo Try.prog 97 2 = some (3, 2) := by kernel_rfl
theorem sh97 : gshape Try.prog 97 = some (.fields [(0, 1), (1, 1), (2, 1)], [.slice none 0 0, .slice none 0 0, .int .i64 0]) := by kernel_rfl
theorem ni97 : notIface Try.prog 97 = true := by kernel_rfl
theorem sz99 : gsz Try.prog 99 = some (true, 2) := by kernel_rfl
theorem zr99 : gzero Try.prog 99 = some [.slice none 0 0, .slice none 0 0] := by kernel_rfl
theorem fo99_0 : gfo Try.prog 99 0 = some (24, 0) := by kernel_rfl
theorem fo99_1 : gfo Try.prog 99 1 = some (24, 1) := by kernel_rfl
theorem sh99 : gshape Try.prog 99 = some (.fields [(0, 1), (1, 1)], [.slice none 0 0, .slice none 0 0]) := by kernel_rfl
theorem ni99 : notIface Try.prog 99 = true := by kernel_rfl
theorem sz102 : gsz Try.prog 102 = some (false, 1) := by kernel_rfl
theorem zr102 : gzero Try.prog 102 = some [.map none] := by kernel_rfl
theorem sm102 : strMap Try.prog 102 = some 3 := by kernel_rfl
theorem gz102 : gzv Try.prog 3 = some (.int .i64 0) := by kernel_rfl
theorem ni102 : notIface Try.prog 102 = true := by kernel_rfl
theorem ud124 : Try.prog.underlying 124 = some (.slice 148) := Try.underlying124
theorem sz124 : gsz Try.prog 124 = some (false, 1) := by kernel_rfl
theorem el124 : gel Try.prog 124 = some (148, 2, 32, .agg #[.int .i64 0, .slice none 0 0]) := by kernel_rfl
theorem zr124 : gzero Try.prog 124 = some [.slice none 0 0] := by kernel_rfl
theorem ni124 : notIface Try.prog 124 = true := by kernel_rfl
theorem sz130 : gsz Try.prog 130 = some (false, 1) := by kernel_rfl
theorem zr130 : gzero Try.prog 130 = some [.nilFunc] := by kernel_rfl
theorem ni130 : notIface Try.prog 130 = true := by kernel_rfl
theorem sz136 : gsz Try.prog 136 = some (true, 2) := by kernel_rfl
theorem zr136 : gzero Try.prog 136 = some [.int .i64 0, .slice none 0 0] := by kernel_rfl
theorem fo136_0 : gfo Try.prog 136 0 = some (3, 0) := by kernel_rfl
theorem fo136_1 : gfo Try.prog 136 1 = some (23, 1) := by kernel_rfl
theorem sh136 : gshape Try.prog 136 = some (.fields [(0, 1), (1, 1)], [.int .i64 0, .slice none 0 0]) := by kernel_rfl
theorem ni136 : notIface Try.prog 136 = true := by kernel_rfl
theorem sz148 : gsz Try.prog 148 = some (true, 2) := by kernel_rfl
theorem zr148 : gzero Try.prog 148 = some [.int .i64 0, .slice none 0 0] := by kernel_rfl
theorem fo148_0 : gfo Try.prog 148 0 = some (3, 0) := by kernel_rfl
theorem fo148_1 : gfo Try.prog 148 1 = some (23, 1) := by kernel_rfl
theorem sh148 : gshape Try.prog 148 = some (.fields [(0, 1), (1, 1)], [.int .i64 0, .slice none 0 0]) := by kernel_rfl
theorem ni148 : notIface Try.prog 148 = true := by kernel_rfl
theorem sz155 : gsz Try.prog 155 = some (false, 1) := by kernel_rfl
theorem zr155 : gzero Try.prog 155 = some [.nilFunc] := by kernel_rfl
theorem ni155 : notIface Try.prog 155 = true := by kernel_rfl
theorem sz157 : gsz Try.prog 157 = some (false, 1) := by kernel_rfl
theorem zr157 : gzero Try.prog 157 = some [.nilFunc] := by kernel_rfl
theorem ni157 : notIface Try.prog 157 = true := by kernel_rfl
theorem ud164 : Try.prog.underlying 164 = some (.int .i64) := Try.underlying164
theorem sz164 : gsz Try.prog 164 = some (false, 1) := by kernel_rfl
theorem zr164 : gzero Try.prog 164 = some [.int .i64 0] := by kernel_rfl
theorem ni164 : notIface Try.prog 164 = true := by kernel_rfl
theorem sz179 : gsz Try.prog 179 = some (true, 3) := by kernel_rfl
theorem zr179 : gzero Try.prog 179 = some [.int .i64 0, .int .i64 0, .int .i64 0] := by kernel_rfl
theorem fo179_0 : gfo Try.prog 179 0 = some (3, 0) := by kernel_rfl
theorem fo179_1 : gfo Try.prog 179 1 = some (3, 1) := by kernel_rfl
theorem fo179_2 : gfo Try.prog 179 2 = some (3, 2) := by kernel_rfl
theorem sh179 : gshape Try.prog 179 = some (.fields [(0, 1), (1, 1), (2, 1)], [.int .i64 0, .int .i64 0, .int .i64 0]) := by kernel_rfl
theorem ni179 : notIface Try.prog 179 = true := by kernel_rfl
theorem sz180 : gsz Try.prog 180 = some (true, 21) := by kernel_rfl
theorem zr180 : gzero Try.prog 180 = some [.int .i64 0, .int .i64 0, .int .i64 0, .int .i64 0, .int .i64 0, .int .i64 0, .int .i64 0, .int .i64 0, .int .i64 0, .int .i64 0, .int .i64 0, .int .i64 0, .int .i64 0, .int .i64 0, .int .i64 0, .int .i64 0, .int .i64 0, .int .i64 0, .int .i64 0, .int .i64 0, .int .i64 0] := by kernel_rfl
theorem sh180 : gshape Try.prog 180 = some (.elems 3, [.int .i64 0, .int .i64 0, .int .i64 0, .int .i64 0, .int .i64 0, .int .i64 0, .int .i64 0, .int .i64 0, .int .i64 0, .int .i64 0, .int .i64 0, .int .i64 0, .int .i64 0, .int .i64 0, .int .i64 0, .int .i64 0, .int .i64 0, .int .i64 0, .int .i64 0, .int .i64 0, .int .i64 0]) := by kernel_rfl
theorem ni180 : notIface Try.prog 180 = true := by kernel_rfl
theorem cv3_5 : ∀ (h : GH) (n : Int), gConvO Try.prog 3 5 h (.int .i64 n) = some (.int .u8 (IntKind.wrap .u8 n)) := by intros; simp [gConvO, gConv, Try.underlying3, Try.underlying5]
theorem cv3_56 : ∀ (h : GH) (n : Int), gConvO Try.prog 3 56 h (.int .i64 n) = some (.int .u64 (IntKind.wrap .u64 n)) := by intros; simp [gConvO, gConv, Try.underlying3, Try.underlying56]
theorem cv56_3 : ∀ (h : GH) (n : Int), gConvO Try.prog 56 3 h (.int .u64 n) = some (.int .i64 (IntKind.wrap .i64 n)) := by intros; simp [gConvO, gConv, Try.underlying56, Try.underlying3]
theorem mixed : Try.prog.follows .mixedOrders = true := by kernel_rfl
theorem ty3 : (notIface Try.prog 3 = true) ∧ (gsz Try.prog 3 = some (false, 1)) ∧ (Try.prog.underlying 3 = some (.int .i64)) ∧ (gzero Try.prog 3 = some [.int .i64 0]) := ⟨ni3, sz3, ud3, zr3⟩
theorem ty4 : (notIface Try.prog 4 = true) ∧ (gsz Try.prog 4 = some (false, 1)) ∧ (Try.prog.underlying 4 = some .bool) ∧ (gzero Try.prog 4 = some [.bool false]) := ⟨ni4, sz4, ud4, zr4⟩
theorem ty5 : (notIface Try.prog 5 = true) ∧ (gsz Try.prog 5 = some (false, 1)) ∧ (Try.prog.underlying 5 = some (.int .u8)) ∧ (gzero Try.prog 5 = some [.int .u8 0]) := ⟨ni5, sz5, ud5, zr5⟩
theorem ty9 : (notIface Try.prog 9 = true) ∧ (gsz Try.prog 9 = some (false, 1)) ∧ (Try.prog.underlying 9 = some .string) ∧ (gzero Try.prog 9 = some [.string ByteArray.empty]) := ⟨ni9, sz9, ud9, zr9⟩
theorem ty22 : (gel Try.prog 22 = some (23, 1, 24, .slice none 0 0)) ∧ (notIface Try.prog 22 = true) ∧ (gsz Try.prog 22 = some (false, 1)) ∧ (Try.prog.underlying 22 = some (.slice 23)) ∧ (gzero Try.prog 22 = some [.slice none 0 0]) := ⟨el22, ni22, sz22, ud22, zr22⟩
theorem ty23 : (gel Try.prog 23 = some (99, 2, 48, .agg #[.slice none 0 0, .slice none 0 0])) ∧ (notIface Try.prog 23 = true) ∧ (gsz Try.prog 23 = some (false, 1)) ∧ (Try.prog.underlying 23 = some (.slice 99)) ∧ (gzero Try.prog 23 = some [.slice none 0 0]) := ⟨el23, ni23, sz23, ud23, zr23⟩
theorem ty24 : (gel Try.prog 24 = some (5, 1, 1, .int .u8 0)) ∧ (notIface Try.prog 24 = true) ∧ (gsz Try.prog 24 = some (false, 1)) ∧ (Try.prog.underlying 24 = some (.slice 5)) ∧ (gzero Try.prog 24 = some [.slice none 0 0]) := ⟨el24, ni24, sz24, ud24, zr24⟩
theorem ty29 : (notIface Try.prog 29 = true) ∧ (gsz Try.prog 29 = some (false, 1)) ∧ (Try.prog.underlying 29 = some (.int .i64)) ∧ (gzero Try.prog 29 = some [.int .i64 0]) := ⟨ni29, sz29, ud29, zr29⟩
theorem ty33 : (gfo Try.prog 33 0 = some (3, 0)) ∧ (gfo Try.prog 33 1 = some (3, 1)) ∧ (gfo Try.prog 33 2 = some (24, 2)) ∧ (gfo Try.prog 33 3 = some (24, 3)) ∧ (notIface Try.prog 33 = true) ∧ (gshape Try.prog 33 = some (.fields [(0, 1), (1, 1), (2, 1), (3, 1)], [.int .i64 0, .int .i64 0, .slice none 0 0, .slice none 0 0])) ∧ (gsz Try.prog 33 = some (true, 4)) ∧ (gzero Try.prog 33 = some [.int .i64 0, .int .i64 0, .slice none 0 0, .slice none 0 0]) := ⟨fo33_0, fo33_1, fo33_2, fo33_3, ni33, sh33, sz33, zr33⟩
theorem ty36 : (gel Try.prog 36 = some (33, 4, 64, .agg #[.int .i64 0, .int .i64 0, .slice none 0 0, .slice none 0 0])) ∧ (notIface Try.prog 36 = true) ∧ (gsz Try.prog 36 = some (false, 1)) ∧ (Try.prog.underlying 36 = some (.slice 33)) ∧ (gzero Try.prog 36 = some [.slice none 0 0]) := ⟨el36, ni36, sz36, ud36, zr36⟩
theorem ty47 : (gel Try.prog 47 = some (24, 1, 24, .slice none 0 0)) ∧ (notIface Try.prog 47 = true) ∧ (gsz Try.prog 47 = some (false, 1)) ∧ (Try.prog.underlying 47 = some (.slice 24)) ∧ (gzero Try.prog 47 = some [.slice none 0 0]) := ⟨el47, ni47, sz47, ud47, zr47⟩
theorem ty56 : (notIface Try.prog 56 = true) ∧ (gsz Try.prog 56 = some (false, 1)) ∧ (Try.prog.underlying 56 = some (.int .u64)) ∧ (gzero Try.prog 56 = some [.int .u64 0]) := ⟨ni56, sz56, ud56, zr56⟩
theorem ty62 : (gfo Try.prog 62 0 = some (3, 0)) ∧ (gfo Try.prog 62 1 = some (24, 1)) ∧ (gfo Try.prog 62 2 = some (3, 2)) ∧ (gfo Try.prog 62 3 = some (3, 3)) ∧ (gfo Try.prog 62 4 = some (3, 4)) ∧ (gfo Try.prog 62 5 = some (4, 5)) ∧ (gfo Try.prog 62 6 = some (3, 6)) ∧ (gfo Try.prog 62 7 = some (3, 7)) ∧ (gfo Try.prog 62 8 = some (3, 8)) ∧ (gfo Try.prog 62 9 = some (23, 9)) ∧ (notIface Try.prog 62 = true) ∧ (gshape Try.prog 62 = some (.fields [(0, 1), (1, 1), (2, 1), (3, 1), (4, 1), (5, 1), (6, 1), (7, 1), (8, 1), (9, 1)], [.int .i64 0, .slice none 0 0, .int .i64 0, .int .i64 0, .int .i64 0, .bool false, .int .i64 0, .int .i64 0, .int .i64 0, .slice none 0 0])) ∧ (gsz Try.prog 62 = some (true, 10)) ∧ (gzero Try.prog 62 = some [.int .i64 0, .slice none 0 0, .int .i64 0, .int .i64 0, .int .i64 0, .bool false, .int .i64 0, .int .i64 0, .int .i64 0, .slice none 0 0]) := ⟨fo62_0, fo62_1, fo62_2, fo62_3, fo62_4, fo62_5, fo62_6, fo62_7, fo62_8, fo62_9, ni62, sh62, sz62, zr62⟩
theorem ty63 : (notIface Try.prog 63 = true) ∧ (gsz Try.prog 63 = some (false, 1)) ∧ (Try.prog.underlying 63 = some (.pointer 91)) ∧ (gzero Try.prog 63 = some [.pointer none]) := ⟨ni63, sz63, ud63, zr63⟩
theorem ty65 : (gfo Try.prog 65 0 = some (3, 0)) ∧ (gfo Try.prog 65 1 = some (3, 1)) ∧ (gfo Try.prog 65 2 = some (3, 2)) ∧ (gfo Try.prog 65 3 = some (3, 3)) ∧ (gfo Try.prog 65 4 = some (3, 4)) ∧ (gfo Try.prog 65 5 = some (3, 5)) ∧ (gfo Try.prog 65 6 = some (3, 6)) ∧ (gfo Try.prog 65 7 = some (3, 7)) ∧ (notIface Try.prog 65 = true) ∧ (gshape Try.prog 65 = some (.fields [(0, 1), (1, 1), (2, 1), (3, 1), (4, 1), (5, 1), (6, 1), (7, 1)], [.int .i64 0, .int .i64 0, .int .i64 0, .int .i64 0, .int .i64 0, .int .i64 0, .int .i64 0, .int .i64 0])) ∧ (gsz Try.prog 65 = some (true, 8)) ∧ (gzero Try.prog 65 = some [.int .i64 0, .int .i64 0, .int .i64 0, .int .i64 0, .int .i64 0, .int .i64 0, .int .i64 0, .int .i64 0]) := ⟨fo65_0, fo65_1, fo65_2, fo65_3, fo65_4, fo65_5, fo65_6, fo65_7, ni65, sh65, sz65, zr65⟩
theorem ty68 : (gel Try.prog 68 = some (97, 3, 56, .agg #[.slice none 0 0, .slice none 0 0, .int .i64 0])) ∧ (notIface Try.prog 68 = true) ∧ (gsz Try.prog 68 = some (false, 1)) ∧ (Try.prog.underlying 68 = some (.slice 97)) ∧ (gzero Try.prog 68 = some [.slice none 0 0]) := ⟨el68, ni68, sz68, ud68, zr68⟩
theorem ty70 : (gfo Try.prog 70 0 = some (29, 0)) ∧ (gfo Try.prog 70 1 = some (3, 1)) ∧ (gfo Try.prog 70 2 = some (4, 2)) ∧ (gfo Try.prog 70 3 = some (4, 3)) ∧ (gfo Try.prog 70 4 = some (24, 4)) ∧ (gfo Try.prog 70 5 = some (3, 5)) ∧ (gfo Try.prog 70 6 = some (68, 6)) ∧ (gfo Try.prog 70 7 = some (36, 7)) ∧ (gfo Try.prog 70 8 = some (4, 8)) ∧ (notIface Try.prog 70 = true) ∧ (gshape Try.prog 70 = some (.fields [(0, 1), (1, 1), (2, 1), (3, 1), (4, 1), (5, 1), (6, 1), (7, 1), (8, 1)], [.int .i64 0, .int .i64 0, .bool false, .bool false, .slice none 0 0, .int .i64 0, .slice none 0 0, .slice none 0 0, .bool false])) ∧ (gsz Try.prog 70 = some (true, 9)) ∧ (gzero Try.prog 70 = some [.int .i64 0, .int .i64 0, .bool false, .bool false, .slice none 0 0, .int .i64 0, .slice none 0 0, .slice none 0 0, .bool false]) := ⟨fo70_0, fo70_1, fo70_2, fo70_3, fo70_4, fo70_5, fo70_6, fo70_7, fo70_8, ni70, sh70, sz70, zr70⟩
theorem ty83 : (gel Try.prog 83 = some (3, 1, 8, .int .i64 0)) ∧ (notIface Try.prog 83 = true) ∧ (gsz Try.prog 83 = some (false, 1)) ∧ (Try.prog.underlying 83 = some (.slice 3)) ∧ (gzero Try.prog 83 = some [.slice none 0 0]) := ⟨el83, ni83, sz83, ud83, zr83⟩
theorem ty88 : (gel Try.prog 88 = some (136, 2, 32, .agg #[.int .i64 0, .slice none 0 0])) ∧ (notIface Try.prog 88 = true) ∧ (gsz Try.prog 88 = some (false, 1)) ∧ (Try.prog.underlying 88 = some (.slice 136)) ∧ (gzero Try.prog 88 = some [.slice none 0 0]) := ⟨el88, ni88, sz88, ud88, zr88⟩
theorem ty89 : (notIface Try.prog 89 = true) ∧ (gsz Try.prog 89 = some (false, 1)) ∧ (gzero Try.prog 89 = some [.map none]) := ⟨ni89, sz89, zr89⟩
theorem ty91 : (gfo Try.prog 91 0 = some (65, 0)) ∧ (gfo Try.prog 91 1 = some (88, 8)) ∧ (gfo Try.prog 91 2 = some (3, 9)) ∧ (gfo Try.prog 91 3 = some (3, 10)) ∧ (gfo Try.prog 91 4 = some (89, 11)) ∧ (notIface Try.prog 91 = true) ∧ (gshape Try.prog 91 = some (.fields [(0, 8), (8, 1), (9, 1), (10, 1), (11, 1)], [.int .i64 0, .int .i64 0, .int .i64 0, .int .i64 0, .int .i64 0, .int .i64 0, .int .i64 0, .int .i64 0, .slice none 0 0, .int .i64 0, .int .i64 0, .map none])) ∧ (gsz Try.prog 91 = some (true, 12)) ∧ (gzero Try.prog 91 = some [.int .i64 0, .int .i64 0, .int .i64 0, .int .i64 0, .int .i64 0, .int .i64 0, .int .i64 0, .int .i64 0, .slice none 0 0, .int .i64 0, .int .i64 0, .map none]) := ⟨fo91_0, fo91_1, fo91_2, fo91_3, fo91_4, ni91, sh91, sz91, zr91⟩
theorem ty97 : (gfo Try.prog 97 0 = some (24, 0)) ∧ (gfo Try.prog 97 1 = some (24, 1)) ∧ (gfo Try.prog 97 2 = some (3, 2)) ∧ (notIface Try.prog 97 = true) ∧ (gshape Try.prog 97 = some (.fields [(0, 1), (1, 1), (2, 1)], [.slice none 0 0, .slice none 0 0, .int .i64 0])) ∧ (gsz Try.prog 97 = some (true, 3)) ∧ (gzero Try.prog 97 = some [.slice none 0 0, .slice none 0 0, .int .i64 0]) := ⟨fo97_0, fo97_1, fo97_2, ni97, sh97, sz97, zr97⟩
theorem ty99 : (gfo Try.prog 99 0 = some (24, 0)) ∧ (gfo Try.prog 99 1 = some (24, 1)) ∧ (notIface Try.prog 99 = true) ∧ (gshape Try.prog 99 = some (.fields [(0, 1), (1, 1)], [.slice none 0 0, .slice none 0 0])) ∧ (gsz Try.prog 99 = some (true, 2)) ∧ (gzero Try.prog 99 = some [.slice none 0 0, .slice none 0 0]) := ⟨fo99_0, fo99_1, ni99, sh99, sz99, zr99⟩
theorem ty102 : (notIface Try.prog 102 = true) ∧ (gsz Try.prog 102 = some (false, 1)) ∧ (gzero Try.prog 102 = some [.map none]) := ⟨ni102, sz102, zr102⟩
theorem ty124 : (gel Try.prog 124 = some (148, 2, 32, .agg #[.int .i64 0, .slice none 0 0])) ∧ (notIface Try.prog 124 = true) ∧ (gsz Try.prog 124 = some (false, 1)) ∧ (Try.prog.underlying 124 = some (.slice 148)) ∧ (gzero Try.prog 124 = some [.slice none 0 0]) := ⟨el124, ni124, sz124, ud124, zr124⟩
theorem ty130 : (notIface Try.prog 130 = true) ∧ (gsz Try.prog 130 = some (false, 1)) ∧ (gzero Try.prog 130 = some [.nilFunc]) := ⟨ni130, sz130, zr130⟩
theorem ty136 : (gfo Try.prog 136 0 = some (3, 0)) ∧ (gfo Try.prog 136 1 = some (23, 1)) ∧ (notIface Try.prog 136 = true) ∧ (gshape Try.prog 136 = some (.fields [(0, 1), (1, 1)], [.int .i64 0, .slice none 0 0])) ∧ (gsz Try.prog 136 = some (true, 2)) ∧ (gzero Try.prog 136 = some [.int .i64 0, .slice none 0 0]) := ⟨fo136_0, fo136_1, ni136, sh136, sz136, zr136⟩
theorem ty148 : (gfo Try.prog 148 0 = some (3, 0)) ∧ (gfo Try.prog 148 1 = some (23, 1)) ∧ (notIface Try.prog 148 = true) ∧ (gshape Try.prog 148 = some (.fields [(0, 1), (1, 1)], [.int .i64 0, .slice none 0 0])) ∧ (gsz Try.prog 148 = some (true, 2)) ∧ (gzero Try.prog 148 = some [.int .i64 0, .slice none 0 0]) := ⟨fo148_0, fo148_1, ni148, sh148, sz148, zr148⟩
theorem ty155 : (notIface Try.prog 155 = true) ∧ (gsz Try.prog 155 = some (false, 1)) ∧ (gzero Try.prog 155 = some [.nilFunc]) := ⟨ni155, sz155, zr155⟩
theorem ty157 : (notIface Try.prog 157 = true) ∧ (gsz Try.prog 157 = some (false, 1)) ∧ (gzero Try.prog 157 = some [.nilFunc]) := ⟨ni157, sz157, zr157⟩
theorem ty164 : (notIface Try.prog 164 = true) ∧ (gsz Try.prog 164 = some (false, 1)) ∧ (Try.prog.underlying 164 = some (.int .i64)) ∧ (gzero Try.prog 164 = some [.int .i64 0]) := ⟨ni164, sz164, ud164, zr164⟩
theorem ty179 : (gfo Try.prog 179 0 = some (3, 0)) ∧ (gfo Try.prog 179 1 = some (3, 1)) ∧ (gfo Try.prog 179 2 = some (3, 2)) ∧ (notIface Try.prog 179 = true) ∧ (gshape Try.prog 179 = some (.fields [(0, 1), (1, 1), (2, 1)], [.int .i64 0, .int .i64 0, .int .i64 0])) ∧ (gsz Try.prog 179 = some (true, 3)) ∧ (gzero Try.prog 179 = some [.int .i64 0, .int .i64 0, .int .i64 0]) := ⟨fo179_0, fo179_1, fo179_2, ni179, sh179, sz179, zr179⟩
theorem ty180 : (notIface Try.prog 180 = true) ∧ (gshape Try.prog 180 = some (.elems 3, [.int .i64 0, .int .i64 0, .int .i64 0, .int .i64 0, .int .i64 0, .int .i64 0, .int .i64 0, .int .i64 0, .int .i64 0, .int .i64 0, .int .i64 0, .int .i64 0, .int .i64 0, .int .i64 0, .int .i64 0, .int .i64 0, .int .i64 0, .int .i64 0, .int .i64 0, .int .i64 0, .int .i64 0])) ∧ (gsz Try.prog 180 = some (true, 21)) ∧ (gzero Try.prog 180 = some [.int .i64 0, .int .i64 0, .int .i64 0, .int .i64 0, .int .i64 0, .int .i64 0, .int .i64 0, .int .i64 0, .int .i64 0, .int .i64 0, .int .i64 0, .int .i64 0, .int .i64 0, .int .i64 0, .int .i64 0, .int .i64 0, .int .i64 0, .int .i64 0, .int .i64 0, .int .i64 0, .int .i64 0]) := ⟨ni180, sh180, sz180, zr180⟩
end Go.Gh

/- Contracts of bits and its reference: one bit, equality. -/
namespace Go.Gh
open Go Go.Proofs Go.RowKit
set_option linter.unusedVariables false
set_option linter.unusedSimpArgs false
set_option maxRecDepth 100000

theorem c_Equal (N : Nat) (h : GH) {a b : Option Addr} {n m c d : Nat} {l k : List UInt8} (r1 : RB h (.slice a n c) l) (r2 : RB h (.slice b m d) k) : GTri Try.prog N 29 [.slice a n c, .slice b m d] h fun v h' => v = .bool (l == k) ∧ h' = h := by
  refine gtri Try.func29 rfl gf29 ok29 (by simp [Try.ntmps29]) ?_
  repeat' (first | (with_reducible first | refine gw_seq ?_ | refine gw_block ?_) | ((first | (with_reducible first | refine gw_region ?_ | refine gw_if ?_ | refine gw_skip ?_ | refine gw_exit ?_ | refine gw_ret ?_) | ((with_reducible first | refine gif_b (fun hb => ?_) (fun hb => ?_) | refine want_t (fun hb => ?_) (fun hb => ?_) | refine want_f (fun hb => ?_) (fun hb => ?_)) <;> (try simp only [hb]))) <;> try simp only [gop, gyield, gLenX, gNilM, gField, gIndexV, gPart, reduceIte, seval, Int.cast_ofNat_Int, stz, stp, ty24, ty5, ty9, rs29, r1.conv Try.underlying24 Try.underlying5 Try.underlying9, r2.conv Try.underlying24 Try.underlying5 Try.underlying9, bstr_eq]))

end Go.Gh

/- Versions: the questions' small parts. -/

namespace Go.Gh
open Go Go.Proofs Go.RowKit
set_option linter.unusedVariables false
set_option linter.unusedSimpArgs false
set_option maxRecDepth 100000
set_option maxHeartbeats 1000000

/-- The changes rise. -/
def Rising (s : List (Nat × Nat)) : Prop := ∀ (i j : Nat) (p q : Nat × Nat), i ≤ j → s[i]? = some p → s[j]? = some q → p.1 ≤ q.1
/-- So many are of epochs up to one. -/
def Upto (s : List (Nat × Nat)) (e : Int) (n : Nat) : Prop := n ≤ s.length ∧ ∀ (i : Nat) (p : Nat × Nat), s[i]? = some p → (i < n ↔ (p.1 : Int) ≤ e)
theorem Upto.uniq {s : List (Nat × Nat)} {e : Int} {n m : Nat} (a : Upto s e n) (b : Upto s e m) : n = m := by
  have key : ∀ {n m : Nat}, Upto s e n → Upto s e m → ¬ n < m := fun {n m} a b hlt => by
    have hn : n < s.length := Nat.lt_of_lt_of_le hlt b.1
    have hx : s[n]? = some s[n] := List.getElem?_eq_getElem hn
    have h1 := (b.2 n _ hx).1 hlt
    have := (a.2 n _ hx).2 h1
    omega
  have h1 := key a b
  have h2 := key b a
  omega

theorem shr1 (x : Nat) (k : Nat) (hk : k = 64) : (x : Int).fdiv (2 ^ min 1 k) = ((x / 2 : Nat) : Int) := by
  subst hk
  rw [Int.fdiv_eq_ediv_of_nonneg _ (by decide)]
  show (x : Int) / (2 ^ 1 : Int) = _
  omega

end Go.Gh

/- Contracts of the library's clones: buffers of one's own. -/
namespace Go.Gh
open Go Go.Proofs Go.RowKit
set_option linter.unusedVariables false
set_option linter.unusedSimpArgs false
set_option maxRecDepth 100000

theorem c_BClone (N : Nat) (h : GH) {a : Option Addr} {n c : Nat} {l : List UInt8} (r : RB h (.slice a n c) l) (hl : l.length ≤ 140737488355328) : GTri Try.prog N 50 [.slice a n c] h fun v h' => HS h h' ∧ OWN h h' v l := by
  refine gtri Try.func50 rfl gf50 ok50 (by simp [Try.ntmps50]) ?_
  repeat' (first | (with_reducible first | refine gw_seq ?_ | refine gw_block ?_) | ((first | (with_reducible first | refine gw_region ?_ | refine gw_if ?_ | refine gw_skip ?_ | refine gw_exit ?_ | refine gw_ret ?_) | ((with_reducible first | refine gif_b (fun hb => ?_) (fun hb => ?_) | refine want_t (fun hb => ?_) (fun hb => ?_) | refine want_f (fun hb => ?_) (fun hb => ?_)) <;> (try simp only [hb]))) <;> try simp only [gop, gyield, gLenX, gNilM, gField, gIndexV, gPart, reduceIte, seval, Int.cast_ofNat_Int, stz, stp, ty24, ty5, rs50]))
  · obtain rfl := r.isnil hb
    exact ⟨HS.refl h, OWN.nil h h⟩
  · refine bs0_g el24 rfl ?_
    simp only [gop, gyield, gLenX, gNilM, gField, gIndexV, gPart, reduceIte, seval, Int.cast_ofNat_Int, stz, stp, ty24, ty5, rs50]
    refine append_own el24 Try.underlying24 rfl (HS.refl h) (.inr (.inl ⟨_, rfl, rfl⟩)) r.src (by simpa using hl) fun v h' s1 _ o => ?_
    simp only [gop, gyield, gLenX, gNilM, gField, gIndexV, gPart, reduceIte, seval, Int.cast_ofNat_Int, stz, stp, ty24, ty5, rs50]
    repeat' (first | (with_reducible first | refine gw_seq ?_ | refine gw_block ?_) | ((first | (with_reducible first | refine gw_region ?_ | refine gw_if ?_ | refine gw_skip ?_ | refine gw_exit ?_ | refine gw_ret ?_) | ((with_reducible first | refine gif_b (fun hb => ?_) (fun hb => ?_) | refine want_t (fun hb => ?_) (fun hb => ?_) | refine want_f (fun hb => ?_) (fun hb => ?_)) <;> (try simp only [hb]))) <;> try simp only [gop, gyield, gLenX, gNilM, gField, gIndexV, gPart, reduceIte, seval, Int.cast_ofNat_Int, stz, stp, ty24, ty5, rs50]))
    exact ⟨s1, o⟩
end Go.Gh

/- Versions: an index in memory, and what it is asked. -/

namespace Go.Gh
open Go Go.Proofs Go.RowKit
set_option linter.unusedVariables false
set_option linter.unusedSimpArgs false
set_option maxRecDepth 100000
set_option maxHeartbeats 1000000

theorem OWNC.at {P : Program} {t e es : Nat} {b : Bool} {h0 h : GH} {a : Option Addr} {m c n : Nat} {cs : List Value} (o : OWNC es h0 h (.slice a m c) n cs) (ht : P.underlying t = some (.slice e)) (he : gsz P e = some (b, es)) {i : Nat} (hi : i < n) :
    ∃ k, gIndex P t (.slice a m c) (i : Int) = some (.pointer (some ⟨k, i * es, none⟩)) ∧ h k = some ⟨cs, es, true, true⟩ := by
  rcases o with ⟨q, rfl, _⟩ | ⟨_, q, rfl, _⟩ | ⟨k, c2, q, h1, h2, h3, h4, h5, h6⟩
  · omega
  · omega
  · cases q
    exact ⟨k, gIndex_own ht he hi, h5⟩
abbrev Bnd := List UInt8 × List UInt8
/-- A key of an identity. -/
def Bd (h : GH) (cs : List Value) (x : Bnd) : Prop := ∃ a n c b m d, cs = [.slice a n c, .slice b m d] ∧ RB h (.slice a n c) x.1 ∧ RB h (.slice b m d) x.2
theorem Bd.hs {h h' : GH} (x : HS h h') {cs : List Value} {y : Bnd} (r : Bd h cs y) : Bd h' cs y := by
  obtain ⟨a, n, c, b, m, d, e, r1, r2⟩ := r
  exact ⟨a, n, c, b, m, d, e, r1.hs x, r2.hs x⟩
theorem RL.bs {h h' : GH} {v : Value} {L : List Bnd} (r : RL 2 Bd h v L) (x : HS h h') : RL 2 Bd h' v L := r.hcR x.hc fun _ _ q => q.hs x
/-- An identity's changes, as cells. -/
def spc (s : List (Nat × Nat)) : List Value := (s.map fun p => [Value.int .i64 (p.1 : Int), Value.int .i64 (p.2 : Int)]).flatten
theorem spc_app (s t : List (Nat × Nat)) : spc (s ++ t) = spc s ++ spc t := by simp [spc]
/-- A map's keys. -/
def mkeys : List Value → List ByteArray
  | .string k :: _ :: r => k :: mkeys r
  | _ => []
theorem mset_keys (s : ByteArray) (x : Value) : ∀ (l : List Value), mok l = true → (s ∈ mkeys l ∧ mkeys (mset s x l) = mkeys l) ∨ (¬ s ∈ mkeys l ∧ mkeys (mset s x l) = mkeys l ++ [s])
  | [], _ => .inr ⟨by simp [mkeys], by simp [mset, mkeys]⟩
  | [v], h => by cases v <;> simp [mok] at h
  | k :: v :: l, h => by
    cases k with
    | string k =>
      have ih := mset_keys s x l (by simpa [mok] using h)
      have e : (s == k) = true ↔ s = k := MapKept.bytes_beq _ _
      rw [mset]
      by_cases hs : s = k
      · subst hs
        rw [if_pos (e.2 rfl)]
        exact .inl ⟨by simp [mkeys], rfl⟩
      · rw [if_neg (fun q => hs (e.1 q))]
        simp only [mkeys, List.mem_cons, hs, false_or]
        rcases ih with ⟨h1, h2⟩ | ⟨h1, h2⟩
        · exact .inl ⟨h1, by rw [h2]⟩
        · exact .inr ⟨h1, by rw [h2]; rfl⟩
    | _ => simp [mok] at h
theorem mset_kl {s : ByteArray} {x : Value} {l : List Value} (h : mok l = true) : (mkeys (mset s x l)).length ≤ (mkeys l).length + 1 := by
  rcases mset_keys s x l h with ⟨_, e⟩ | ⟨hn, e⟩
  · rw [e]; omega
  · rw [e, List.length_append]; exact Nat.le_refl _
theorem mset_nd {s : ByteArray} {x : Value} {l : List Value} (h : mok l = true) (n : (mkeys l).Nodup) : (mkeys (mset s x l)).Nodup := by
  rcases mset_keys s x l h with ⟨_, e⟩ | ⟨hn, e⟩
  · rw [e]; exact n
  · rw [e, List.nodup_append]
    exact ⟨n, by simp, fun a ha b hb e' => hn (by obtain rfl := List.mem_singleton.1 hb; rw [← e']; exact ha)⟩
/-- An entry by its place. -/
theorem mat_find : ∀ (l : List Value) (q : Nat) (key v : Value), mok l = true → (mkeys l).Nodup → l[2 * q]? = some key → l[2 * q + 1]? = some v → ∃ k, key = .string k ∧ (mkeys l)[q]? = some k ∧ mfind k l = some v
  | [], q, key, v, _, _, h, _ => by simp at h
  | [u], q, key, v, h, _, _, _ => by cases u <;> simp [mok] at h
  | k :: u :: l, 0, key, v, h, _, h1, h2 => by
    cases k with
    | string k =>
      simp at h1 h2
      subst h1
      subst h2
      exact ⟨k, rfl, rfl, by rw [mfind, if_pos ((MapKept.bytes_beq _ _).2 rfl)]⟩
    | _ => simp [mok] at h
  | k :: u :: l, q + 1, key, v, h, n, h1, h2 => by
    cases k with
    | string k =>
      simp only [mkeys, List.nodup_cons] at n
      obtain ⟨k', e1, e2, e3⟩ := mat_find l q key v (by simpa [mok] using h) n.2 (by rw [show 2 * (q + 1) = 2 * q + 1 + 1 by omega] at h1; simpa using h1) (by rw [show 2 * (q + 1) + 1 = 2 * q + 1 + 1 + 1 by omega] at h2; simpa using h2)
      refine ⟨k', e1, by simpa [mkeys] using e2, ?_⟩
      rw [mfind, if_neg (fun q => n.1 (by rw [← (MapKept.bytes_beq _ _).1 q]; exact List.mem_of_getElem? e2))]
      exact e3
    | _ => simp [mok] at h
theorem mkeys_len : ∀ (l : List Value), mok l = true → l.length = 2 * (mkeys l).length
  | [], _ => rfl
  | [u], h => by cases u <;> simp [mok] at h
  | k :: u :: l, h => by
    cases k with
    | string k =>
      have := mkeys_len l (by simpa [mok] using h)
      simp only [List.length_cons, mkeys, this]
      omega
    | _ => simp [mok] at h
/-- What a map tells of an identity. -/
def mget (l : List Value) (id : List UInt8) : Value := (mfind (bstr id) l).getD (.slice none 0 0)
/-- A batch in memory. -/
def Bat (h0 h : GH) (v : Value) (b : List Bnd) : Prop := ∃ ds, OWNC 2 h0 h v b.length ds ∧ ∀ (i : Nat) p, b[i]? = some p → Bd h ((ds.drop (i * 2)).take 2) p
theorem Bat.rl {h0 h : GH} {v : Value} {b : List Bnd} (x : Bat h0 h v b) : RL 2 Bd h v b := by
  obtain ⟨ds, o, r⟩ := x
  exact o.rl r
theorem Bat.hs {h0 h h' : GH} {v : Value} {b : List Bnd} (x : Bat h0 h v b) (s : HS h h') : Bat h0 h' v b := by
  obtain ⟨ds, o, r⟩ := x
  exact ⟨ds, o.hs s, fun i p hp => (r i p hp).hs s⟩
/-- An index in memory: the epochs' batches, and each identity's changes. -/
structure IX (h0 h : GH) (k j : Nat) (bv : Value) (cs l : List Value) (B : List (List Bnd)) (S : List UInt8 → List (Nat × Nat)) : Prop where
  obj : h k = some ⟨[.bool true, bv, .map (some j)], 0, true, false⟩
  nk : h0 k = none
  mp : h (j + 1) = some ⟨MM :: l, 0, true, false⟩
  nj : h0 (j + 1) = none
  ok : mok l = true
  u8 : l.all notU8 = true
  bat : OWNC 1 h0 h bv B.length cs
  bats : ∀ (e : Nat) b, B[e]? = some b → ∃ v, cs[e]? = some v ∧ Bat h0 h v b
  sp : ∀ id, OWNC 2 h0 h (mget l id) (S id).length (spc (S id))
  ris : ∀ id, Rising (S id)
  val : ∀ id p, p ∈ S id → 1 ≤ p.1 ∧ p.1 ≤ B.length ∧ ∃ b, B[p.1 - 1]? = some b ∧ p.2 < b.length
  sl : ∀ id, (S id).length ≤ 10 * B.length
  bl : ∀ b ∈ B, b.length ≤ 10 ∧ ∀ p ∈ b, p.1.length ≤ 140737488355328 ∧ p.2.length ≤ 140737488355328
  cu8 : cs.all notU8 = true
  nd : (mkeys l).Nodup
  kl : (mkeys l).length ≤ 10 * B.length
theorem IX.hs {h0 h h' : GH} {k j : Nat} {bv : Value} {cs l : List Value} {B : List (List Bnd)} {S : List UInt8 → List (Nat × Nat)} (x : IX h0 h k j bv cs l B S) (s : HS h h') : IX h0 h' k j bv cs l B S :=
  ⟨s _ _ x.obj, x.nk, s _ _ x.mp, x.nj, x.ok, x.u8, x.bat.hs s, fun e b hb => by obtain ⟨v, h1, h2⟩ := x.bats e b hb; exact ⟨v, h1, h2.hs s⟩, fun id => (x.sp id).hs s, x.ris, x.val, x.sl, x.bl, x.cu8, x.nd, x.kl⟩
theorem IX.look {h0 h : GH} {k j : Nat} {bv : Value} {cs l : List Value} {B : List (List Bnd)} {S : List UInt8 → List (Nat × Nat)} (x : IX h0 h k j bv cs l B S) (id : List UInt8) : gLookup Try.prog 42 h (.map (some j)) (.string (bstr id)) false = some (mget l id) := by
  simp only [gLookup, sm42, gMapOf, x.mp, x.ok, gz42, mget, if_true]
  cases mfind (bstr id) l <;> simp
/-- A change, as told. -/
def evOf (B : List (List Bnd)) (p : Nat × Nat) : Nat × Nat × Bnd := (p.1, p.2, ((B[p.1 - 1]?).bind (·[p.2]?)).getD ([], []))
def Ev (h : GH) (cs : List Value) (e : Nat × Nat × Bnd) : Prop := ∃ a c b d, cs = [.int .i64 (e.1 : Int), .int .i64 (e.2.1 : Int), .slice a e.2.2.1.length c, .slice b e.2.2.2.length d] ∧ RB h (.slice a e.2.2.1.length c) e.2.2.1 ∧ RB h (.slice b e.2.2.2.length d) e.2.2.2
theorem Ev.hs {h h' : GH} (x : HS h h') {cs : List Value} {e : Nat × Nat × Bnd} (r : Ev h cs e) : Ev h' cs e := by
  obtain ⟨a, c, b, d, e, r1, r2⟩ := r
  exact ⟨a, c, b, d, e, r1.hs x, r2.hs x⟩

/-- What counts at an epoch. -/
def AtIs (B : List (List Bnd)) (s : List (Nat × Nat)) (e : Int) (v : Value) (h : GH) : Prop := ∃ n, Upto s e n ∧
  ((n = 0 ∧ v = .tuple #[.agg #[.int .i64 0, .int .i64 0, .slice none 0 0, .slice none 0 0], .bool false]) ∨
   ∃ p cs, n ≠ 0 ∧ s[n - 1]? = some p ∧ v = .tuple #[.agg cs.toArray, .bool true] ∧ Ev h cs (evOf B p))
end Go.Gh

/- Versions: an identity's changes, listed; and events, compared. -/

namespace Go.Gh
open Go Go.Proofs Go.RowKit
set_option linter.unusedVariables false
set_option linter.unusedSimpArgs false
set_option maxRecDepth 100000
set_option maxHeartbeats 1000000

/-- Changes in an array of one's own. -/
def Evs (h0 h : GH) (v : Value) (L : List (Nat × Nat × Bnd)) : Prop := ∃ ds, OWNC 4 h0 h v L.length ds ∧ ds.all notU8 = true ∧ ∀ (i : Nat) p, L[i]? = some p → Ev h ((ds.drop (i * 4)).take 4) p
theorem Evs.hs {h0 h h' : GH} {v : Value} {L : List (Nat × Nat × Bnd)} (x : Evs h0 h v L) (s : HS h h') : Evs h0 h' v L := by
  obtain ⟨ds, o, u, r⟩ := x
  exact ⟨ds, o.hs s, u, fun i p hp => (r i p hp).hs s⟩
theorem Evs.rl {h0 h : GH} {v : Value} {L : List (Nat × Nat × Bnd)} (x : Evs h0 h v L) : RL 4 Ev h v L := by
  obtain ⟨ds, o, _, r⟩ := x
  exact o.rl r
theorem app_el {α : Type} {es : Nat} {R : List Value → α → Prop} {L : List α} {x : α} {ds cs : List Value} (hd : ds.length = L.length * es) (hc : cs.length = es) (h1 : ∀ (i : Nat) p, L[i]? = some p → R ((ds.drop (i * es)).take es) p) (h2 : R cs x) :
    ∀ (i : Nat) p, (L ++ [x])[i]? = some p → R (((ds ++ cs).drop (i * es)).take es) p := by
  intro i p hp
  rcases Nat.lt_or_ge i L.length with hi | hi
  · rw [List.getElem?_append_left hi] at hp
    have hle : i * es + es ≤ ds.length := by
      rw [hd]
      have := Nat.mul_le_mul_right es (show i + 1 ≤ L.length by omega)
      rw [Nat.add_mul, Nat.one_mul] at this; exact this
    rw [List.drop_append_of_le_length (by omega), List.take_append_of_le_length (by rw [List.length_drop]; omega)]
    exact h1 i p hp
  · rw [List.getElem?_append_right hi] at hp
    have hi0 : i = L.length := by
      have := (List.getElem?_eq_some_iff.1 hp).1
      simp at this; omega
    subst hi0
    simp at hp
    subst hp
    rw [← hd, List.drop_left, ← hc, List.take_length]
    exact h2
theorem Ev.cells {h : GH} {cs : List Value} {e : Nat × Nat × Bnd} (r : Ev h cs e) : cs.length = 4 ∧ cs.all isCell = true ∧ cs.all notU8 = true ∧ vcells (.agg cs.toArray) = cs := by
  obtain ⟨a, c, b, d, rfl, _⟩ := r
  exact ⟨rfl, rfl, rfl, rfl⟩
end Go.Gh

/- Versions: events, compared. -/

namespace Go.Gh
open Go Go.Proofs Go.RowKit
set_option linter.unusedVariables false
set_option linter.unusedSimpArgs false
set_option maxRecDepth 100000
set_option maxHeartbeats 1000000

end Go.Gh

/- Versions: maps' contents; new ones; an identity's changes, cloned. -/

namespace Go.Gh
open Go Go.Proofs Go.RowKit
set_option linter.unusedVariables false
set_option linter.unusedSimpArgs false
set_option maxRecDepth 100000
set_option maxHeartbeats 1000000

theorem mfind_mset (s t : ByteArray) (x : Value) : ∀ (l : List Value), mok l = true → mok (mset s x l) = true ∧ mfind t (mset s x l) = if t = s then some x else mfind t l
  | [], _ => by
    refine ⟨rfl, ?_⟩
    simp only [mset, List.cons_append, List.nil_append, mfind]
    by_cases h : t = s
    · rw [if_pos h, if_pos ((MapKept.bytes_beq _ _).2 h)]
    · rw [if_neg h, if_neg (fun e => h ((MapKept.bytes_beq _ _).1 e))]
  | [v], h => by cases v <;> simp [mok] at h
  | k :: v :: l, h => by
    cases k with
    | string k =>
      obtain ⟨i1, i2⟩ := mfind_mset s t x l (by simpa [mok] using h)
      have e2 : (t == s) = true ↔ t = s := MapKept.bytes_beq _ _
      have e3 : (t == k) = true ↔ t = k := MapKept.bytes_beq _ _
      have e4 : (s == k) = true ↔ s = k := MapKept.bytes_beq _ _
      by_cases hs : s = k
      · subst hs
        rw [mset, if_pos (e4.2 rfl)]
        refine ⟨by simpa [mok] using h, ?_⟩
        by_cases h2 : t = s
        · subst h2
          simp only [mfind, if_true, if_pos (e2.2 rfl)]
        · have h3 : ¬ (t == s) = true := fun e => h2 (e2.1 e)
          simp only [mfind, if_neg h2, if_neg h3]
      · rw [mset, if_neg (fun e => hs (e4.1 e))]
        refine ⟨by simpa [mok] using i1, ?_⟩
        simp only [mfind, i2]
        by_cases h2 : t = s
        · have h3 : ¬ t = k := fun e => hs (h2.symm.trans e)
          simp [e3, h2, h3, hs]
          intro e
          exact absurd ((MapKept.bytes_beq _ _).1 e) hs
        · simp [e3, h2]
    | _ => simp [mok] at h
theorem mset_all (s : ByteArray) (x : Value) (p : Value → Bool) (hp : p (.string s) = true) (hx : p x = true) : ∀ (l : List Value), l.all p = true → (mset s x l).all p = true
  | [], _ => by simp [mset, hp, hx]
  | [v], h => by
    have h1 : p v = true := by simpa using h
    cases v <;> simp_all [mset]
  | k :: v :: l, h => by
    simp only [List.all_cons, Bool.and_eq_true] at h
    cases k with
    | string k =>
      have ih := mset_all s x p hp hx l h.2.2
      rw [mset]
      split
      · simp [hp, hx, h.2.2]
      · simp [h.1, h.2.1, ih]
    | _ => simp [mset, hp, hx, h.1, h.2.1, h.2.2]
theorem bstr_inj {a b : List UInt8} (h : bstr a = bstr b) : a = b := by
  unfold bstr at h
  cases h
  rfl
theorem mget_mset {l : List Value} (ok : mok l = true) (a b : List UInt8) (x : Value) : mget (mset (bstr a) x l) b = if b = a then x else mget l b := by
  unfold mget
  rw [(mfind_mset (bstr a) (bstr b) x l ok).2]
  by_cases h : b = a
  · subst h; simp
  · rw [if_neg h, if_neg (fun e => h (bstr_inj e))]

theorem mm_g {h : GH} {K : Value → GH → Prop} (g : ∀ (j : Nat) (h' : GH), h' (j + 1) = some ⟨[MM], 0, true, false⟩ → HS h h' → (∀ i, i ≠ j + 1 → h' i = h i) → h (j + 1) = none → K (.map (some j)) h') : gMakeMap h K :=
  fun j _ hj => g j _ (hset_same _ _ _) (HS.new hj _) (fun i hi => hset_ne _ _ hi) hj
theorem put_g {P : Program} {h : GH} {t et : TypeId} {j : Nat} {l : List Value} {s : ByteArray} {x : Value} {K : Value → GH → Prop} (hm : h (j + 1) = some ⟨MM :: l, 0, true, false⟩) (ok : mok l = true) (ht : strMap P t = some et)
    (g : ∀ h', h' (j + 1) = some ⟨MM :: mset s x l, 0, true, false⟩ → (∀ i, i ≠ j + 1 → h' i = h i) → K U h') : gMapPut P t h (.map (some j)) (.string s) x K :=
  ⟨et, s, j, l, _, ht, rfl, rfl, by simp [gMapOf, hm, ok], hm, rfl, g _ (hset_same _ _ _) (fun i hi => hset_ne _ _ hi)⟩
theorem lenm {P : Program} {h : GH} {t k e : TypeId} {j : Nat} {l : List Value} (hm : h (j + 1) = some ⟨MM :: l, 0, true, false⟩) (ok : mok l = true) (hu : P.underlying t = some (.map k e)) : gLenM P t h (.map (some j)) = some ((l.length / 2 : Nat) : Int) := by
  simp [gLenM, hu, gMapOf, hm, ok]
theorem lenm0 {P : Program} {t k e : TypeId} (hu : P.underlying t = some (.map k e)) (x : Option Nat) : gLen P t (.map x) = none := by simp [gLen, hu]

end Go.Gh

/- Versions: what an index holds while a batch is added. -/

namespace Go.Gh
open Go Go.Proofs Go.RowKit
set_option linter.unusedVariables false
set_option linter.unusedSimpArgs false
set_option maxRecDepth 100000
set_option maxHeartbeats 1000000

def bat1 (b : List Bnd) (i : Nat) : Bnd := (b[i]?).getD ([], [])
/-- The identities seen, of the first i. -/
def seenN (b : List Bnd) : Nat → List Value
  | 0 => []
  | i + 1 => mset (bstr (bat1 b i).1) (.int .i64 (i : Int)) (seenN b i)
theorem seenN_ok (b : List Bnd) : ∀ i, mok (seenN b i) = true
  | 0 => rfl
  | i + 1 => (mfind_mset _ (bstr []) _ _ (seenN_ok b i)).1
/-- An identity's changes in a batch's first i. -/
def newsp (ep : Nat) (b : List Bnd) : Nat → List UInt8 → List (Nat × Nat)
  | 0, _ => []
  | i + 1, id => newsp ep b i id ++ (if id = (bat1 b i).1 then [(ep, i)] else [])
theorem newsp_mem {ep : Nat} {b : List Bnd} {id : List UInt8} {p : Nat × Nat} : ∀ {i : Nat}, p ∈ newsp ep b i id → p.1 = ep ∧ p.2 < i
  | 0, h => by simp [newsp] at h
  | i + 1, h => by
    rcases List.mem_append.1 h with h | h
    · have := newsp_mem h; exact ⟨this.1, by omega⟩
    · split at h
      · obtain rfl := List.mem_singleton.1 h
        exact ⟨rfl, Nat.lt_succ_self _⟩
      · simp at h
theorem newsp_len (ep : Nat) (b : List Bnd) (id : List UInt8) : ∀ i, (newsp ep b i id).length ≤ i
  | 0 => by simp [newsp]
  | i + 1 => by
    have := newsp_len ep b id i
    simp only [newsp, List.length_append]
    split <;> simp <;> omega
def isSl : Value → Bool | .slice _ _ _ => true | _ => false
theorem isSl_u8 {l : List Value} (h : l.all isSl = true) : l.all notU8 = true := by
  rw [List.all_eq_true] at h ⊢
  intro v hv
  have := h v hv
  cases v <;> simp_all [isSl, notU8]
def hM (hA : GH) (j : Nat) : GH := fun i => if i = j + 1 then none else hA i
theorem hM_none (hA : GH) (j : Nat) : hM hA j (j + 1) = none := by unfold hM; rw [if_pos rfl]
structure AddI (h0 hA h : GH) (j : Nat) (S : List UInt8 → List (Nat × Nat)) (b : List Bnd) (ep io is : Nat) (ov : Value) (l : List Value) : Prop where
  hs : HS h0 h
  hx : HS (hM hA j) h
  mp : h (j + 1) = some ⟨MM :: l, 0, true, false⟩
  ok : mok l = true
  u8 : l.all notU8 = true
  nd : (mkeys l).Nodup
  kl : (mkeys l).length + 10 ≤ 10 * ep + is
  sp : ∀ id, OWNC 2 h0 h (mget l id) (S id ++ newsp ep b is id).length (spc (S id ++ newsp ep b is id))
  own : ∃ ds, OWNC 2 (hM hA j) h ov io ds ∧ ds.all isSl = true ∧ ∀ (q : Nat) p, (b.take io)[q]? = some p → Bd h ((ds.drop (q * 2)).take 2) p
theorem AddI.up {h0 hA h h' : GH} {j : Nat} {S : List UInt8 → List (Nat × Nat)} {b : List Bnd} {ep io is : Nat} {ov : Value} {l : List Value} (x : AddI h0 hA h j S b ep io is ov l) (s : HS h h') : AddI h0 hA h' j S b ep io is ov l := by
  obtain ⟨ds, o, sl, bd⟩ := x.own
  exact ⟨x.hs.trans s, x.hx.trans s, s _ _ x.mp, x.ok, x.u8, x.nd, x.kl, fun id => (x.sp id).hs s, ds, o.hs s, sl, fun q p hp => (bd q p hp).hs s⟩
theorem Bd.hx {k : Nat} {h h' : GH} {B : GB} (m : h k = some B) (hc : B.cells.all notU8 = true) (x : HX k h h') {cs : List Value} {y : Bnd} (r : Bd h cs y) : Bd h' cs y := by
  obtain ⟨a, n, c, b, m', d, e, r1, r2⟩ := r
  exact ⟨a, n, c, b, m', d, e, r1.hx m hc x, r2.hx m hc x⟩
theorem AddI.put {h0 hA h h1 h2 : GH} {j : Nat} {S : List UInt8 → List (Nat × Nat)} {b : List Bnd} {ep io is : Nat} {ov v : Value} {l : List Value} (x : AddI h0 hA h j S b ep io is ov l) (s : HS h h1) (hn : h0 (j + 1) = none) {p : Bnd} (hp : b[is]? = some p)
    (o : OWNC 2 h h1 v ((S p.1 ++ newsp ep b is p.1).length + 1) (spc (S p.1 ++ newsp ep b is p.1) ++ [.int .i64 (ep : Int), .int .i64 (is : Int)])) (m2 : h2 (j + 1) = some ⟨MM :: mset (bstr p.1) v l, 0, true, false⟩) (f2 : ∀ i, i ≠ j + 1 → h2 i = h1 i) (hv : notU8 v = true) :
    AddI h0 hA h2 j S b ep io (is + 1) ov (mset (bstr p.1) v l) := by
  have y := x.up s
  have hx : HX (j + 1) h1 h2 := fun i B n e => (f2 i n).trans e
  have u1 : (⟨MM :: l, 0, true, false⟩ : GB).cells.all notU8 = true := by simp [notU8, x.u8]
  have b1 : bat1 b is = p := by simp [bat1, hp]
  obtain ⟨ds, od, sl, bd⟩ := y.own
  refine ⟨fun i B e => ?_, fun i B e => ?_, m2, (mfind_mset _ (bstr []) _ _ x.ok).1, mset_all _ _ _ rfl hv _ x.u8, mset_nd x.ok x.nd, by have := mset_kl (s := bstr p.1) (x := v) x.ok; have := x.kl; omega, fun id => ?_, ds, od.hx y.mp (by simp) hx, sl, fun q p hp => (bd q p hp).hx y.mp u1 hx⟩
  · rw [f2 i (fun q => by rw [q, hn] at e; cases e)]; exact y.hs i B e
  · rw [f2 i (fun q => by rw [q, hM_none] at e; cases e)]; exact y.hx i B e
  · rw [mget_mset x.ok]
    by_cases hid : id = p.1
    · subst hid
      have e1 : newsp ep b (is + 1) p.1 = newsp ep b is p.1 ++ [(ep, is)] := by simp [newsp, b1]
      rw [if_pos rfl, e1, ← List.append_assoc, spc_app, List.length_append]
      exact (o.weak x.hs).hx y.mp (by simp) hx
    · have e1 : newsp ep b (is + 1) id = newsp ep b is id := by simp [newsp, b1, hid]
      rw [if_neg hid, e1]
      exact (y.sp id).hx y.mp (by simp) hx
end Go.Gh

/- Versions: a batch added. -/

namespace Go.Gh
open Go Go.Proofs Go.RowKit
set_option linter.unusedVariables false
set_option linter.unusedSimpArgs false
set_option maxRecDepth 100000
set_option maxHeartbeats 2000000

/-- All stays but two variables and arrays of slices. -/
def FK (k j : Nat) (h h' : GH) : Prop := (∀ i B, h i = some B → i ≠ k → i ≠ j + 1 → B.es ≠ 1 → h' i = some B) ∧ ∀ v l, RB h v l → RB h' v l
theorem FK.of {k j : Nat} {h h' : GH} (s : HS h h') : FK k j h h' := ⟨fun i B e _ _ _ => s i B e, fun v l r => r.hs s⟩
theorem FK.trans {k j : Nat} {a b c : GH} (x : FK k j a b) (y : FK k j b c) : FK k j a c := ⟨fun i B e n1 n2 n3 => y.1 i B (x.1 i B e n1 n2 n3) n1 n2 n3, fun v l r => y.2 v l (x.2 v l r)⟩
theorem gSrc_hs {h h' : GH} (s : HS h h') {es : Nat} {x : Value} {r : Nat × List Value} (e : gSrc h es x = some r) : gSrc h' es x = some r := by
  unfold gSrc at e ⊢
  split at e
  · exact e
  · simp only [Option.map_eq_some_iff] at e ⊢
    obtain ⟨cs, h1, h2⟩ := e
    exact ⟨cs, gread_hc s.hc h1, h2⟩
  · exact e
  · cases e
theorem Bat.by {h0 h h' : GH} {v : Value} {b : List Bnd} (x : Bat h0 h v b) (ho : ∀ v n cs, OWNC 2 h0 h v n cs → OWNC 2 h0 h' v n cs) (hr : ∀ v l, RB h v l → RB h' v l) : Bat h0 h' v b := by
  obtain ⟨ds, o, r⟩ := x
  refine ⟨ds, ho _ _ _ o, fun i p hp => ?_⟩
  obtain ⟨a, n, c, b, m, d, e, r1, r2⟩ := r i p hp
  exact ⟨a, n, c, b, m, d, e, hr _ _ r1, hr _ _ r2⟩
theorem OWNC.fr1 {h0 h h' : GH} {s : Value} {n0 : Nat} {cs0 : List Value} (fr : ∀ j B, h j = some B → (j = j → ∀ kb c, s = .slice (some ⟨kb, 0, none⟩) n0 c → n0 ≠ 0 → h kb = some ⟨cs0, 1, true, true⟩ → j ≠ kb) → h' j = some B) {v : Value} {n : Nat} {cs : List Value} (o : OWNC 2 h0 h v n cs) : OWNC 2 h0 h' v n cs := by
  rcases o with o | o | ⟨k, c, h1, h2, h3, h4, h5, h6, h7⟩
  · exact .inl o
  · exact .inr (.inl o)
  · exact .inr (.inr ⟨k, c, h1, h2, h3, h4, h5, fr_es fr h6 (by simp), h7⟩)

end Go.Gh

/- Versions: awake; events, compared one by one. -/

namespace Go.Gh
open Go Go.Proofs Go.RowKit
set_option linter.unusedVariables false
set_option linter.unusedSimpArgs false
set_option maxRecDepth 100000
set_option maxHeartbeats 2000000

theorem RL.cut {α : Type} {P : Program} {es : Nat} {R : GH → List Value → α → Prop} {h : GH} {a : Option Addr} {c : Nat} {l : List α} (r : RL es R h (.slice a l.length c) l) {t e : TypeId} {b : Bool} (ht : P.underlying t = some (.slice e)) (he : gsz P e = some (b, es)) {m : Nat} (hm : m ≤ l.length) :
    ∃ a' c', gSlice P t h (.slice a l.length c) none (some (.int .i64 (m : Int))) none = some (.slice a' m c') ∧ RL es R h (.slice a' m c') (l.take m) := by
  have hl : (l.take m).length = m := by simp; omega
  rcases r with ⟨c2, hv, rfl⟩ | ⟨ad, c2, cs, hv, h2, h3, h4, h5⟩
  · cases hv
    simp at hm
    subst hm
    exact ⟨none, 0, by simp [gSlice, ht, he, gHigh, gLow, gBound], .inl ⟨0, rfl, by simp⟩⟩
  · cases hv
    have hle : m * es ≤ l.length * es := Nat.mul_le_mul_right es hm
    refine ⟨some ⟨ad.block, ad.off, ad.spot⟩, c, ?_, .inr ⟨⟨ad.block, ad.off, ad.spot⟩, c, cs.take (m * es), by rw [hl], ?_, by omega, fun i x hx => ?_, ?_⟩⟩
    · have hb : 0 ≤ (m : Int) ∧ (m : Int) ≤ ((max l.length (c / 2) : Nat) : Int) := ⟨by omega, by omega⟩
      simp only [gSlice, ht, he, gHigh, gBound, hb, and_self, if_true, gLow]
      simp
    · rw [hl]
      have := gread_sub h2 0 (m * es) (by omega)
      simpa using this
    · have hi : i < m := by have := (List.getElem?_eq_some_iff.1 hx).1; omega
      rw [List.getElem?_take, if_pos hi] at hx
      have hie : i * es + es ≤ m * es := by
        have := Nat.mul_le_mul_right es (show i + 1 ≤ m by omega)
        rw [Nat.add_mul, Nat.one_mul] at this; exact this
      have := h4 i x hx
      rw [List.drop_take, List.take_take, Nat.min_eq_left (by omega)]
      exact this
    · rw [hl]
      rcases h5 with h5 | h5
      · exact .inl (by omega)
      · exact .inr h5

/-- One element in a new slice, by its block. -/
theorem bsn2_g {P : Program} {t e es by_ : Nat} {z : Value} {h : GH} {x : Value} {K : Value → GH → Prop} (hel : gel P t = some (e, es, by_, z)) (hz : clo z = true) (hl : (vcells x).length = es) (he : es ≤ 16777216) (h0 : es ≠ 0) (hc : (vcells x).all isCell = true)
    (g : ∀ k h', h' k = some ⟨vcells x, es, true, false⟩ → HS h h' → (∀ j, j ≠ k → h' j = h j) → h k = none → K (.slice (some ⟨k, 0, none⟩) 1 3) h') : gBuildSlice P t h 1 [(0, x)] K := by
  refine bs_g (cs := vcells x) hel hz (by omega) (by decide) ?_ hc fun k h' m s f n => g k h' m s f n
  have hzl := zeros_length z (1 * es)
  have hp : (Shape.elems es).pl 0 = some (0, es) := by simp [Shape.pl]
  simp only [lfill, hp]
  have := lput_all (vcells x) (zeros z (1 * es)) [] (by rw [hzl, hl, Nat.one_mul])
  simp only [List.nil_append, List.length_nil] at this
  rw [this, hzl, Nat.one_mul]
  simp [hl, hc]
theorem one_rl {α : Type} {es : Nat} {R : GH → List Value → α → Prop} {h : GH} {k : Nat} {cs : List Value} {x : α} {w t : Bool} (m : h k = some ⟨cs, es, w, t⟩) (hl : cs.length = es) (h0 : es ≠ 0) (r : R h cs x) : RL es R h (.slice (some ⟨k, 0, none⟩) 1 3) [x] := by
  refine .inr ⟨_, 3, cs, rfl, ?_, by simp, fun i y hy => ?_, .inr ⟨_, m, .inl h0⟩⟩
  · exact gread_lit m (o := 0) (by rw [List.drop_zero]; exact List.take_of_length_le (by simp; omega)) (by simp; omega)
  · have hi : i = 0 := by have := (List.getElem?_eq_some_iff.1 hy).1; simp at this; omega
    subst hi
    simp at hy
    subst hy
    rw [Nat.zero_mul, List.drop_zero, ← hl, List.take_length]
    exact r

end Go.Gh

/- Versions: what stays so. -/

namespace Go.Gh
open Go Go.Proofs Go.RowKit
set_option linter.unusedVariables false
set_option linter.unusedSimpArgs false
set_option maxRecDepth 100000
set_option maxHeartbeats 2000000

theorem Upto.cut {s t : List (Nat × Nat)} {e : Int} {n : Nat} (ht : ∀ p ∈ t, e < (p.1 : Int)) (u : Upto (s ++ t) e n) : Upto s e n := by
  refine ⟨?_, fun i p hp => ?_⟩
  · rcases Nat.lt_or_ge s.length n with h | h
    · exfalso
      have hlt : s.length < (s ++ t).length := Nat.lt_of_lt_of_le h u.1
      have hx : (s ++ t)[s.length]? = some (s ++ t)[s.length] := List.getElem?_eq_getElem hlt
      have := (u.2 _ _ hx).1 h
      rw [List.getElem?_append_right (Nat.le_refl _)] at hx
      have := ht _ (List.mem_of_getElem? hx)
      omega
    · exact h
  · have hi := (List.getElem?_eq_some_iff.1 hp).1
    exact u.2 i p (by rw [List.getElem?_append_left hi]; exact hp)
/-- An event, or none. -/
def AtEv (B : List (List Bnd)) (s : List (Nat × Nat)) (n : Nat) : (Nat × Nat × Bnd) × Bool := if n = 0 then ((0, 0, [], []), false) else (evOf B ((s[n - 1]?).getD (0, 0)), true)
theorem AtIs.ev {B : List (List Bnd)} {s : List (Nat × Nat)} {e : Int} {v : Value} {h : GH} (a : AtIs B s e v h) : ∃ n cs, Upto s e n ∧ v = .tuple #[.agg cs.toArray, .bool (AtEv B s n).2] ∧ Ev h cs (AtEv B s n).1 := by
  obtain ⟨n, u, a⟩ := a
  rcases a with ⟨rfl, rfl⟩ | ⟨p, cs, hn, hp, rfl, ev⟩
  · exact ⟨0, _, u, rfl, none, 0, none, 0, rfl, .inl ⟨0, rfl, rfl⟩, .inl ⟨0, rfl, rfl⟩⟩
  · refine ⟨n, cs, u, ?_, ?_⟩
    · simp [AtEv, hn]
    · simp only [AtEv, if_neg hn, hp, Option.getD_some]; exact ev
/-- A batch among an argument's. -/
def Bl (h : GH) (cs : List Value) (b : List Bnd) : Prop := ∃ a c, cs = [.slice a b.length c] ∧ RL 2 Bd h (.slice a b.length c) b
theorem Bl.hs {h h' : GH} (s : HS h h') {cs : List Value} {b : List Bnd} (r : Bl h cs b) : Bl h' cs b := by
  obtain ⟨a, c, e, r⟩ := r
  exact ⟨a, c, e, r.bs s⟩
/-- A batch as handed in: its first ten, each of a length that there is. -/
def small (b : List Bnd) : Prop := ∀ p ∈ b, p.1.length ≤ 140737488355328 ∧ p.2.length ≤ 140737488355328
theorem RL.ten {h : GH} {a : Option Addr} {c : Nat} {b : List Bnd} (r : RL 2 Bd h (.slice a b.length c) b) :
    ∃ a' c', gSlice Try.prog 23 h (.slice a b.length c) none (some (.int .i64 ((min b.length 10 : Nat) : Int))) none = some (.slice a' (b.take (min b.length 10)).length c') ∧ RL 2 Bd h (.slice a' (b.take (min b.length 10)).length c') (b.take (min b.length 10)) := by
  have hl : (b.take (min b.length 10)).length = min b.length 10 := by simp
  rw [hl]
  exact r.cut Try.underlying23 sz99 (Nat.min_le_left _ _)

theorem Ev.fk {k j : Nat} {h h' : GH} (x : FK k j h h') {cs : List Value} {e : Nat × Nat × Bnd} (r : Ev h cs e) : Ev h' cs e := by
  obtain ⟨a, c, b, d, e, r1, r2⟩ := r
  exact ⟨a, c, b, d, e, x.2 _ _ r1, x.2 _ _ r2⟩
theorem Evs.fk {k j : Nat} {h0 h h' : GH} (x : FK k j h h') {B1 B2 : GB} (e1 : h k = some B1) (z1 : B1.es = 0) (e2 : h (j + 1) = some B2) (z2 : B2.es = 0) {v : Value} {L : List (Nat × Nat × Bnd)} (r : Evs h0 h v L) : Evs h0 h' v L := by
  obtain ⟨ds, o, u, r⟩ := r
  refine ⟨ds, ?_, u, fun i p hp => (r i p hp).fk x⟩
  rcases o with o | o | ⟨kb, c, h1, h2, h3, h4, h5, h6, h7⟩
  · exact .inl o
  · exact .inr (.inl o)
  · refine .inr (.inr ⟨kb, c, h1, h2, h3, h4, h5, x.1 _ _ h6 ?_ ?_ (by simp), h7⟩)
    · rintro rfl; rw [e1] at h6; cases h6; simp at z1
    · rintro rfl; rw [e2] at h6; cases h6; simp at z2

end Go.Gh

/- Versions: the law's arguments. -/

namespace Go.Gh
open Go Go.Proofs Go.RowKit
set_option linter.unusedVariables false
set_option linter.unusedSimpArgs false
set_option maxRecDepth 100000
set_option maxHeartbeats 1000000

abbrev bdTy : Ty := .fcons .bs (.fcons .bs .fnil)
theorem bats_ok : Ty.ok Try.prog (.sl (.sl bdTy)) 22 = true := by kernel_rfl
theorem bat_ok : Ty.ok Try.prog (.sl bdTy) 23 = true := by kernel_rfl
def toB (x : bdTy.den) : Bnd := (x.1, x.2.1)
theorem bd_R {h : GH} {cs : List Value} {x : bdTy.den} (r : bdTy.R h cs x) : Bd h cs (toB x) := by
  obtain ⟨y1, y2, y3⟩ := x
  obtain ⟨c1, c2, rfl, _, ⟨v, rfl, r1, _⟩, c3, c4, rfl, _, ⟨w, rfl, r2, _⟩, rfl⟩ := r
  obtain ⟨a, c, rfl, _⟩ := r1.form
  obtain ⟨b, d, rfl, _⟩ := r2.form
  exact ⟨_, _, _, _, _, _, rfl, r1, r2⟩
theorem bat_R {h : GH} {v : Value} {l : List bdTy.den} (r : RL 2 bdTy.R h v l) : RL 2 Bd h v (l.map toB) := RL.map (R' := Bd) r _ fun cs x hx => bd_R hx
theorem bl_R {h : GH} {cs : List Value} {l : List bdTy.den} (r : Ty.R (.sl bdTy) h cs l) : Bl h cs (l.map toB) := by
  obtain ⟨v, rfl, r, _⟩ := r
  have r' := bat_R r
  obtain ⟨a, c, rfl, _⟩ := r'.form
  exact ⟨a, c, rfl, r'⟩
theorem bat_fits {l : List bdTy.den} (f : Ty.fits (.sl bdTy) l) : small (l.map toB) ∧ (l.map toB).length ≤ 140737488355328 := by
  refine ⟨fun p hp => ?_, ?_⟩
  · obtain ⟨z, hz, rfl⟩ := List.mem_map.1 hp
    have f2 : List.length z.1 ≤ 140737488351232 ∧ List.length z.2.1 ≤ 140737488351232 := ⟨(f.2 z hz).1, (f.2 z hz).2.1⟩
    exact ⟨Nat.le_trans f2.1 (by decide), Nat.le_trans f2.2 (by decide)⟩
  · have f1 : List.length l ≤ 140737488351232 := f.1
    exact Nat.le_trans (Nat.le_of_eq (List.length_map _)) (Nat.le_trans f1 (by decide))
section
variable {H : Type} {enc : TypeId × Value → H} {W : World} {base b0 : Nat} {v : Value} {d : DataW H} {ps : List MemPlace} {r : Reach}
theorem arg_bats (h : DataW.Trod enc Try.prog W base (fun _ => true) true 22 v d ps) (hok : Value.okWide Try.prog W r b0 22 v) :
    ∃ (l : List (List Bnd)) (a : Option Addr) (c : Nat), up W.heap.size v = .slice a l.length c ∧ RL 1 Bl (h0 W) (.slice a l.length c) l ∧ ((∀ n ∈ d.weights Try.prog 22, n ≤ reachBytes) → l.length ≤ 140737488355328 ∧ ∀ x ∈ l, small x ∧ x.length ≤ 140737488355328) := by
  obtain ⟨l, a, c, e, R, _, _, f⟩ := arg_sl (.sl bdTy) bats_ok h hok
  have hl : (l.map fun x : List bdTy.den => x.map toB).length = l.length := List.length_map _
  refine ⟨l.map fun x : List bdTy.den => x.map toB, a, c, by rw [hl]; exact e, by rw [hl]; exact RL.map (R' := Bl) R _ fun cs x hx => bl_R hx, fun w => ?_⟩
  have f := f w
  refine ⟨by rw [hl]; exact Nat.le_trans f.1 (by decide), fun x hx => ?_⟩
  obtain ⟨z, hz, rfl⟩ := List.mem_map.1 hx
  exact bat_fits (f.2 z hz)
theorem arg_bat (h : DataW.Trod enc Try.prog W base (fun _ => true) true 23 v d ps) (hok : Value.okWide Try.prog W r b0 23 v) :
    ∃ (l : List Bnd) (a : Option Addr) (c : Nat), up W.heap.size v = .slice a l.length c ∧ RL 2 Bd (h0 W) (.slice a l.length c) l ∧ ((∀ n ∈ d.weights Try.prog 23, n ≤ reachBytes) → small l ∧ l.length ≤ 140737488355328) := by
  obtain ⟨l, a, c, e, R, _, _, f⟩ := arg_sl bdTy bat_ok h hok
  have hl : (List.map toB l).length = l.length := List.length_map _
  exact ⟨List.map toB l, a, c, by rw [hl]; exact e, by rw [hl]; exact bat_R R, fun w => bat_fits (f w)⟩
end
end Go.Gh

/- Contracts of admit and its reference: the checks. -/
namespace Go.Gh
open Go Go.Proofs Go.RowKit
set_option linter.unusedVariables false
set_option linter.unusedSimpArgs false
set_option maxRecDepth 100000

structure Pm where
  (s ht mi my ch ar ca pg : Int)
def Pm.v (p : Pm) : Value := .agg #[.int .i64 p.s, .int .i64 p.ht, .int .i64 p.mi, .int .i64 p.my, .int .i64 p.ch, .int .i64 p.ar, .int .i64 p.ca, .int .i64 p.pg]
def inB (n lo hi : Int) : Bool := decide (lo ≤ n ∧ n ≤ hi)
def Pm.may (p : Pm) : Bool := inB p.s 1 32 && inB p.ht 0 8 && inB p.mi 0 24 && inB p.my 0 48 && inB p.ch 0 4096 && inB p.ca 0 8 && inB p.pg 1 32

def Pm.ck (p : Pm) : Nat → Bool
  | 0 => inB p.s 1 32
  | 1 => inB p.ht 0 8
  | 2 => inB p.mi 0 24
  | 3 => inB p.my 0 48
  | 4 => inB p.ch 0 4096
  | 5 => inB p.ca 0 8
  | _ => inB p.pg 1 32

theorem c_within (N : Nat) (h : GH) (n lo hi : Int) : GTri Try.prog N 104 [.int .i64 n, .int .i64 lo, .int .i64 hi] h fun v h' => v = .bool (inB n lo hi) ∧ h' = h := by
  refine gtri Try.func104 rfl gf104 ok104 (by simp [Try.ntmps104]) ?_
  repeat' (first | (with_reducible first | refine gw_seq ?_ | refine gw_block ?_) | ((first | (with_reducible first | refine gw_region ?_ | refine gw_if ?_ | refine gw_skip ?_ | refine gw_exit ?_ | refine gw_ret ?_) | ((with_reducible first | refine gif_b (fun hb => ?_) (fun hb => ?_) | refine want_t (fun hb => ?_) (fun hb => ?_) | refine want_f (fun hb => ?_) (fun hb => ?_)) <;> (try simp only [hb]))) <;> try simp only [gop, gyield, gLenX, gNilM, gField, gIndexV, gPart, reduceIte, seval, Int.cast_ofNat_Int, stz, stp, ty3, rs104]))
  all_goals
    simp [inB] at *
    try omega

theorem c_rmay (N : Nat) (h : GH) (p : Pm) : GTri Try.prog N 103 [p.v] h fun v h' => v = .bool p.may ∧ HS h h' := by
  refine gtri Try.func103 rfl gf103 ok103 (by simp [Try.ntmps103]) ?_
  refine gw_seq (gw_region ?_)
  simp only [gop, gyield, gLenX, gNilM, gField, gIndexV, gPart, reduceIte, seval, Int.cast_ofNat_Int, stz, stp, ty65, ty3, rs103, Pm.v]
  refine box_g rfl fun k1 h1 m1 s1 f1 n1 => ?_
  simp only [gop, gyield, gLenX, gNilM, gField, gIndexV, gPart, reduceIte, seval, Int.cast_ofNat_Int, stz, stp, ty65, ty3, rs103]
  repeat' (first | (with_reducible first | refine gw_seq ?_ | refine gw_block ?_) | ((first | (with_reducible first | refine gw_region ?_ | refine gw_if ?_ | refine gw_skip ?_ | refine gw_exit ?_ | refine gw_ret ?_) | ((with_reducible first | refine gif_b (fun hb => ?_) (fun hb => ?_) | refine want_t (fun hb => ?_) (fun hb => ?_) | refine want_f (fun hb => ?_) (fun hb => ?_)) <;> (try simp only [hb])) | ((refine GTri.mono (c_within _ _ _ _ _) ?_); rintro _ _ ⟨rfl, rfl⟩)) <;> try simp only [gop, gyield, gLenX, gNilM, gField, gIndexV, gPart, reduceIte, seval, Int.cast_ofNat_Int, stz, stp, ty65, ty3, rs103, gField, gload1 m1 sz3]))
  all_goals
    refine ⟨?_, s1⟩
    simp only [Pm.may, *, Bool.and_false, Bool.false_and, Bool.true_and, Bool.and_true]

theorem c_may (N : Nat) (h : GH) (p : Pm) : GTri Try.prog N 116 [p.v] h fun v h' => v = .bool p.may ∧ HS h h' := by
  refine gtri Try.func116 rfl gf116 ok116 (by simp [Try.ntmps116]) ?_
  refine gw_seq (gw_region ?_)
  simp only [gop, gyield, gLenX, gNilM, gField, gIndexV, gPart, reduceIte, seval, Int.cast_ofNat_Int, stz, stp, Try.underlying180, ty179, ty65, ty180, ty3, rs116, Pm.v]
  refine box_g rfl fun k1 h1 m1 s1 f1 n1 => ?_
  simp only [gop, gyield, gLenX, gNilM, gField, gIndexV, gPart, reduceIte, seval, Int.cast_ofNat_Int, stz, stp, Try.underlying180, ty179, ty65, ty180, ty3, rs116]
  repeat' (first | (with_reducible first | refine gw_seq ?_ | refine gw_block ?_) | ((first | (with_reducible first | refine gw_region ?_ | refine gw_if ?_ | refine gw_skip ?_ | refine gw_exit ?_ | refine gw_ret ?_) | ((with_reducible first | refine gif_b (fun hb => ?_) (fun hb => ?_) | refine want_t (fun hb => ?_) (fun hb => ?_) | refine want_f (fun hb => ?_) (fun hb => ?_)) <;> (try simp only [hb]))) <;> try simp only [gop, gyield, gLenX, gNilM, gField, gIndexV, gPart, reduceIte, seval, Int.cast_ofNat_Int, stz, stp, Try.underlying180, ty179, ty65, ty180, ty3, rs116, gField, gload1 m1 sz3, gBuild, lfill, lput, Shape.pl, List.all_cons, List.all_nil, isCell, List.set_cons_zero, List.set_cons_succ, and_self]))
  refine gw_env [(27, .int .i64 0), (26, .agg #[.int .i64 p.s, .int .i64 1, .int .i64 32, .int .i64 p.ht, .int .i64 0, .int .i64 8, .int .i64 p.mi, .int .i64 0, .int .i64 24, .int .i64 p.my, .int .i64 0, .int .i64 48, .int .i64 p.ch, .int .i64 0, .int .i64 4096, .int .i64 p.ca, .int .i64 0, .int .i64 8, .int .i64 p.pg, .int .i64 1, .int .i64 32])] (by simp only [List.forall_mem_cons, List.not_mem_nil, false_implies, implies_true, lk, Nat.reduceEqDiff, reduceIte, and_true, true_and]) ?_
  refine gw_unroll ?_
  clear m1 f1 n1
  iterate 7
    refine gl_round ?_
    repeat' (first | (with_reducible first | refine gw_seq ?_ | refine gw_block ?_) | ((first | (with_reducible first | refine gw_region ?_ | refine gw_if ?_ | refine gw_skip ?_ | refine gw_exit ?_ | refine gw_ret ?_) | ((with_reducible first | refine gif_b (fun hb => ?_) (fun hb => ?_) | refine want_t (fun hb => ?_) (fun hb => ?_) | refine want_f (fun hb => ?_) (fun hb => ?_)) <;> (try simp only [hb]))) <;> try simp only [gop, gyield, gLenX, gNilM, gField, gIndexV, gPart, reduceIte, seval, Int.cast_ofNat_Int, stz, stp, Try.underlying180, ty179, ty65, ty180, ty3, rs116]))
    refine new_g fun k2 h2 m2 _ f2 n2 => ?_
    simp only [gop, gyield, gLenX, gNilM, gField, gIndexV, gPart, reduceIte, seval, Int.cast_ofNat_Int, stz, stp, Try.underlying180, ty179, ty65, ty180, ty3, rs116]
    refine st_all m2 sz179 rfl (by decide) rfl rfl rfl fun h3 m3 f3 => ?_
    have s1 := s1.upd (fun_none s1 n2) (fun j hj => (f3 j hj).trans (f2 j hj))
    simp only [gop, gyield, gLenX, gNilM, gField, gIndexV, gPart, reduceIte, seval, Int.cast_ofNat_Int, stz, stp, Try.underlying180, ty179, ty65, ty180, ty3, rs116]
    repeat' (first | (with_reducible first | refine gw_seq ?_ | refine gw_block ?_) | ((first | (with_reducible first | refine gw_region ?_ | refine gw_if ?_ | refine gw_skip ?_ | refine gw_exit ?_ | refine gw_ret ?_) | ((with_reducible first | refine gif_b (fun hb => ?_) (fun hb => ?_) | refine want_t (fun hb => ?_) (fun hb => ?_) | refine want_f (fun hb => ?_) (fun hb => ?_)) <;> (try simp only [hb]))) <;> try simp only [gop, gyield, gLenX, gNilM, gField, gIndexV, gPart, reduceIte, seval, Int.cast_ofNat_Int, stz, stp, Try.underlying180, ty179, ty65, ty180, ty3, rs116, gload1 m3 sz3]))
    rotate_left 2
  refine gl_round ?_
  repeat' (first | (with_reducible first | refine gw_seq ?_ | refine gw_block ?_) | ((first | (with_reducible first | refine gw_region ?_ | refine gw_if ?_ | refine gw_skip ?_ | refine gw_exit ?_ | refine gw_ret ?_) | ((with_reducible first | refine gif_b (fun hb => ?_) (fun hb => ?_) | refine want_t (fun hb => ?_) (fun hb => ?_) | refine want_f (fun hb => ?_) (fun hb => ?_)) <;> (try simp only [hb]))) <;> try simp only [gop, gyield, gLenX, gNilM, gField, gIndexV, gPart, reduceIte, seval, Int.cast_ofNat_Int, stz, stp, Try.underlying180, ty179, ty65, ty180, ty3, rs116]))
  all_goals
    refine ⟨congrArg Value.bool (Eq.symm ?_), s1⟩
    simp only [decide_eq_true_eq, decide_eq_false_iff_not] at *
    first
    | rw [Bool.eq_false_iff]
      simp only [Pm.may, inB, Bool.and_eq_true, decide_eq_true_eq, ne_eq]
      omega
    | simp only [Pm.may, inB, Bool.and_eq_true, decide_eq_true_eq]
      omega

end Go.Gh

/- Contracts of admit and its reference: what follows from parameters. -/
namespace Go.Gh
open Go Go.Proofs Go.RowKit
set_option linter.unusedVariables false
set_option linter.unusedSimpArgs false
set_option maxRecDepth 100000

/-- A call whose parameters may not be. -/
theorem Pm.may_iff (p : Pm) : p.may = true ↔ (1 ≤ p.s ∧ p.s ≤ 32) ∧ (0 ≤ p.ht ∧ p.ht ≤ 8) ∧ (0 ≤ p.mi ∧ p.mi ≤ 24) ∧ (0 ≤ p.my ∧ p.my ≤ 48) ∧ (0 ≤ p.ch ∧ p.ch ≤ 4096) ∧ (0 ≤ p.ca ∧ p.ca ≤ 8) ∧ (1 ≤ p.pg ∧ p.pg ≤ 32) := by
  simp only [Pm.may, inB, Bool.and_eq_true, decide_eq_true_eq]
  omega

def Pm.deep (p : Pm) : Int := if p.may = true then 8 * (p.mi + 1) else 0
def Pm.each (p : Pm) : Int := if p.may = true then p.deep + 2 else 0
def Pm.need (p : Pm) : Int := if p.may = true then (2 + p.ca) * p.ch * p.each + 1 else 0

theorem c_deep (N : Nat) (h : GH) (p : Pm) : GTri Try.prog N 156 [p.v] h fun v h' => v = .int .i64 p.deep ∧ HS h h' := by
  refine gtri Try.func156 rfl gf156 ok156 (by simp [Try.ntmps156]) ?_
  repeat' (first | (with_reducible first | refine gw_seq ?_ | refine gw_block ?_) | ((first | (with_reducible first | refine gw_region ?_ | refine gw_if ?_ | refine gw_skip ?_ | refine gw_exit ?_ | refine gw_ret ?_) | ((with_reducible first | refine gif_b (fun hb => ?_) (fun hb => ?_) | refine want_t (fun hb => ?_) (fun hb => ?_) | refine want_f (fun hb => ?_) (fun hb => ?_)) <;> (try simp only [hb]))) <;> try simp only [gop, gyield, gLenX, gNilM, gField, gIndexV, gPart, reduceIte, seval, Int.cast_ofNat_Int, stz, stp, ty65, ty3, ty4, rs156, Pm.v]))
  refine box_g rfl fun k1 h1 m1 s1 f1 n1 => ?_
  simp only [gop, gyield, gLenX, gNilM, gField, gIndexV, gPart, reduceIte, seval, Int.cast_ofNat_Int, stz, stp, ty65, ty3, ty4, rs156]
  repeat' (first | (with_reducible first | refine gw_seq ?_ | refine gw_block ?_) | ((first | (with_reducible first | refine gw_region ?_ | refine gw_if ?_ | refine gw_skip ?_ | refine gw_exit ?_ | refine gw_ret ?_) | ((with_reducible first | refine gif_b (fun hb => ?_) (fun hb => ?_) | refine want_t (fun hb => ?_) (fun hb => ?_) | refine want_f (fun hb => ?_) (fun hb => ?_)) <;> (try simp only [hb])) | ((refine GTri.mono (c_may _ _ p) ?_); rintro _ h2 ⟨rfl, s2⟩; have m1 := s2 _ _ m1 ; have s1 := s1.trans s2)) <;> try simp only [gop, gyield, gLenX, gNilM, gField, gIndexV, gPart, reduceIte, seval, Int.cast_ofNat_Int, stz, stp, ty65, ty3, ty4, rs156, gload1 m1 sz3, gloadA m1 sz65 rfl]))
  all_goals refine ⟨congrArg _ ?_, s1⟩
  · simp only [Bool.not_eq_true'] at hb
    simp [Pm.deep, hb]
  · simp only [Bool.not_eq_false'] at hb
    have := p.may_iff.1 hb
    simp only [Pm.deep, hb, if_true]
    rw [wrap64, wrap64] <;> (try rw [wrap64]) <;> omega
theorem c_rdeep (N : Nat) (h : GH) (p : Pm) : GTri Try.prog N 145 [p.v] h fun v h' => v = .int .i64 p.deep ∧ HS h h' := by
  refine gtri Try.func145 rfl gf145 ok145 (by simp [Try.ntmps145]) ?_
  repeat' (first | (with_reducible first | refine gw_seq ?_ | refine gw_block ?_) | ((first | (with_reducible first | refine gw_region ?_ | refine gw_if ?_ | refine gw_skip ?_ | refine gw_exit ?_ | refine gw_ret ?_) | ((with_reducible first | refine gif_b (fun hb => ?_) (fun hb => ?_) | refine want_t (fun hb => ?_) (fun hb => ?_) | refine want_f (fun hb => ?_) (fun hb => ?_)) <;> (try simp only [hb]))) <;> try simp only [gop, gyield, gLenX, gNilM, gField, gIndexV, gPart, reduceIte, seval, Int.cast_ofNat_Int, stz, stp, ty65, ty3, ty4, rs145, Pm.v]))
  refine box_g rfl fun k1 h1 m1 s1 f1 n1 => ?_
  simp only [gop, gyield, gLenX, gNilM, gField, gIndexV, gPart, reduceIte, seval, Int.cast_ofNat_Int, stz, stp, ty65, ty3, ty4, rs145]
  repeat' (first | (with_reducible first | refine gw_seq ?_ | refine gw_block ?_) | ((first | (with_reducible first | refine gw_region ?_ | refine gw_if ?_ | refine gw_skip ?_ | refine gw_exit ?_ | refine gw_ret ?_) | ((with_reducible first | refine gif_b (fun hb => ?_) (fun hb => ?_) | refine want_t (fun hb => ?_) (fun hb => ?_) | refine want_f (fun hb => ?_) (fun hb => ?_)) <;> (try simp only [hb])) | ((refine GTri.mono (c_rmay _ _ p) ?_); rintro _ h2 ⟨rfl, s2⟩; have m1 := s2 _ _ m1 ; have s1 := s1.trans s2)) <;> try simp only [gop, gyield, gLenX, gNilM, gField, gIndexV, gPart, reduceIte, seval, Int.cast_ofNat_Int, stz, stp, ty65, ty3, ty4, rs145, gload1 m1 sz3, gloadA m1 sz65 rfl]))
  all_goals refine ⟨congrArg _ ?_, s1⟩
  · simp only [Bool.not_eq_true'] at hb
    simp [Pm.deep, hb]
  · simp only [Bool.not_eq_false'] at hb
    have := p.may_iff.1 hb
    simp only [Pm.deep, hb, if_true]
    rw [wrap64, wrap64] <;> (try rw [wrap64]) <;> omega
theorem c_each (N : Nat) (h : GH) (p : Pm) : GTri Try.prog N 138 [p.v] h fun v h' => v = .int .i64 p.each ∧ HS h h' := by
  refine gtri Try.func138 rfl gf138 ok138 (by simp [Try.ntmps138]) ?_
  repeat' (first | (with_reducible first | refine gw_seq ?_ | refine gw_block ?_) | ((first | (with_reducible first | refine gw_region ?_ | refine gw_if ?_ | refine gw_skip ?_ | refine gw_exit ?_ | refine gw_ret ?_) | ((with_reducible first | refine gif_b (fun hb => ?_) (fun hb => ?_) | refine want_t (fun hb => ?_) (fun hb => ?_) | refine want_f (fun hb => ?_) (fun hb => ?_)) <;> (try simp only [hb]))) <;> try simp only [gop, gyield, gLenX, gNilM, gField, gIndexV, gPart, reduceIte, seval, Int.cast_ofNat_Int, stz, stp, ty65, ty3, ty4, rs138, Pm.v]))
  refine box_g rfl fun k1 h1 m1 s1 f1 n1 => ?_
  simp only [gop, gyield, gLenX, gNilM, gField, gIndexV, gPart, reduceIte, seval, Int.cast_ofNat_Int, stz, stp, ty65, ty3, ty4, rs138]
  repeat' (first | (with_reducible first | refine gw_seq ?_ | refine gw_block ?_) | ((first | (with_reducible first | refine gw_region ?_ | refine gw_if ?_ | refine gw_skip ?_ | refine gw_exit ?_ | refine gw_ret ?_) | ((with_reducible first | refine gif_b (fun hb => ?_) (fun hb => ?_) | refine want_t (fun hb => ?_) (fun hb => ?_) | refine want_f (fun hb => ?_) (fun hb => ?_)) <;> (try simp only [hb])) | ((refine GTri.mono (c_may _ _ p) ?_); rintro _ h2 ⟨rfl, s2⟩; have m1 := s2 _ _ m1 ; have s1 := s1.trans s2) | ((refine GTri.mono (c_deep _ _ p) ?_); rintro _ h2 ⟨rfl, s2⟩; have m1 := s2 _ _ m1 ; have s1 := s1.trans s2)) <;> try simp only [gop, gyield, gLenX, gNilM, gField, gIndexV, gPart, reduceIte, seval, Int.cast_ofNat_Int, stz, stp, ty65, ty3, ty4, rs138, gload1 m1 sz3, gloadA m1 sz65 rfl]))
  all_goals refine ⟨congrArg _ ?_, s1⟩
  · simp only [Bool.not_eq_true'] at hb
    simp [Pm.each, hb]
  · simp only [Bool.not_eq_false'] at hb
    have := p.may_iff.1 hb
    simp only [Pm.each, Pm.deep, hb, if_true]
    rw [wrap64] <;> omega
theorem c_reach (N : Nat) (h : GH) (p : Pm) : GTri Try.prog N 133 [p.v] h fun v h' => v = .int .i64 p.each ∧ HS h h' := by
  refine gtri Try.func133 rfl gf133 ok133 (by simp [Try.ntmps133]) ?_
  repeat' (first | (with_reducible first | refine gw_seq ?_ | refine gw_block ?_) | ((first | (with_reducible first | refine gw_region ?_ | refine gw_if ?_ | refine gw_skip ?_ | refine gw_exit ?_ | refine gw_ret ?_) | ((with_reducible first | refine gif_b (fun hb => ?_) (fun hb => ?_) | refine want_t (fun hb => ?_) (fun hb => ?_) | refine want_f (fun hb => ?_) (fun hb => ?_)) <;> (try simp only [hb]))) <;> try simp only [gop, gyield, gLenX, gNilM, gField, gIndexV, gPart, reduceIte, seval, Int.cast_ofNat_Int, stz, stp, ty65, ty3, ty4, rs133, Pm.v]))
  refine box_g rfl fun k1 h1 m1 s1 f1 n1 => ?_
  simp only [gop, gyield, gLenX, gNilM, gField, gIndexV, gPart, reduceIte, seval, Int.cast_ofNat_Int, stz, stp, ty65, ty3, ty4, rs133]
  repeat' (first | (with_reducible first | refine gw_seq ?_ | refine gw_block ?_) | ((first | (with_reducible first | refine gw_region ?_ | refine gw_if ?_ | refine gw_skip ?_ | refine gw_exit ?_ | refine gw_ret ?_) | ((with_reducible first | refine gif_b (fun hb => ?_) (fun hb => ?_) | refine want_t (fun hb => ?_) (fun hb => ?_) | refine want_f (fun hb => ?_) (fun hb => ?_)) <;> (try simp only [hb])) | ((refine GTri.mono (c_rmay _ _ p) ?_); rintro _ h2 ⟨rfl, s2⟩; have m1 := s2 _ _ m1 ; have s1 := s1.trans s2) | ((refine GTri.mono (c_rdeep _ _ p) ?_); rintro _ h2 ⟨rfl, s2⟩; have m1 := s2 _ _ m1 ; have s1 := s1.trans s2)) <;> try simp only [gop, gyield, gLenX, gNilM, gField, gIndexV, gPart, reduceIte, seval, Int.cast_ofNat_Int, stz, stp, ty65, ty3, ty4, rs133, gload1 m1 sz3, gloadA m1 sz65 rfl]))
  all_goals refine ⟨congrArg _ ?_, s1⟩
  · simp only [Bool.not_eq_true'] at hb
    simp [Pm.each, hb]
  · simp only [Bool.not_eq_false'] at hb
    have := p.may_iff.1 hb
    simp only [Pm.each, Pm.deep, hb, if_true]
    rw [wrap64] <;> omega
theorem Pm.each_range (p : Pm) : 0 ≤ p.each ∧ p.each ≤ 202 := by
  unfold Pm.each Pm.deep
  by_cases hb : p.may = true
  · have := p.may_iff.1 hb
    simp only [hb, if_true]
    omega
  · simp [hb]
theorem Pm.need_eq (p : Pm) (hb : p.may = true) : IntKind.i64.wrap (IntKind.i64.wrap (IntKind.i64.wrap (IntKind.i64.wrap (2 + p.ca) * p.ch) * p.each) + 1) = p.need := by
  have := p.may_iff.1 hb
  have h1 := mul_range (a := 2 + p.ca) (b := p.ch) (A := 10) (B := 4096) (by omega) (by omega)
  have h2 := mul_range (a := (2 + p.ca) * p.ch) (b := p.each) (A := 40960) (B := 202) (by omega) p.each_range
  rw [wrap64 (x := 2 + p.ca) (by omega) (by omega), wrap64 (x := (2 + p.ca) * p.ch) (by omega) (by omega), wrap64 (x := (2 + p.ca) * p.ch * p.each) (by omega) (by omega), wrap64 (by omega) (by omega)]
  simp [Pm.need, hb]
theorem c_need (N : Nat) (h : GH) (p : Pm) : GTri Try.prog N 117 [p.v] h fun v h' => v = .int .i64 p.need ∧ HS h h' := by
  refine gtri Try.func117 rfl gf117 ok117 (by simp [Try.ntmps117]) ?_
  repeat' (first | (with_reducible first | refine gw_seq ?_ | refine gw_block ?_) | ((first | (with_reducible first | refine gw_region ?_ | refine gw_if ?_ | refine gw_skip ?_ | refine gw_exit ?_ | refine gw_ret ?_) | ((with_reducible first | refine gif_b (fun hb => ?_) (fun hb => ?_) | refine want_t (fun hb => ?_) (fun hb => ?_) | refine want_f (fun hb => ?_) (fun hb => ?_) | refine dr_t (fun hb => ?_) (fun hb => ?_) | refine dr_f (fun hb => ?_) (fun hb => ?_)) <;> (try simp only [hb])) | with_reducible refine gw_draw (id := 4) [(0, []), (1, []), (2, []), (3, []), (4, []), (5, [2]), (6, []), (7, []), (8, [])] [0, 0, 2, 7, 0, 16, 63, 127, 255] mixed (by kernel_rfl) ?_) <;> try simp only [gop, gyield, gLenX, gNilM, gField, gIndexV, gPart, reduceIte, seval, Int.cast_ofNat_Int, stz, stp, isEff, sgl, sty, stq, ty65, ty3, ty4, rs117, Pm.v]))
  refine box_g rfl fun k1 h1 m1 s1 f1 n1 => ?_
  simp only [gop, gyield, gLenX, gNilM, gField, gIndexV, gPart, reduceIte, seval, Int.cast_ofNat_Int, stz, stp, ty65, ty3, ty4, rs117]
  repeat' (first | (with_reducible first | refine gw_seq ?_ | refine gw_block ?_) | ((first | (with_reducible first | refine gw_region ?_ | refine gw_if ?_ | refine gw_skip ?_ | refine gw_exit ?_ | refine gw_ret ?_) | ((with_reducible first | refine gif_b (fun hb => ?_) (fun hb => ?_) | refine want_t (fun hb => ?_) (fun hb => ?_) | refine want_f (fun hb => ?_) (fun hb => ?_) | refine dr_t (fun hb => ?_) (fun hb => ?_) | refine dr_f (fun hb => ?_) (fun hb => ?_)) <;> (try simp only [hb])) | with_reducible refine gw_draw (id := 4) [(0, []), (1, []), (2, []), (3, []), (4, []), (5, [2]), (6, []), (7, []), (8, [])] [0, 0, 2, 7, 0, 16, 63, 127, 255] mixed (by kernel_rfl) ?_ | ((refine GTri.mono (c_may _ _ p) ?_); rintro _ h2 ⟨rfl, s2⟩; have m1 := s2 _ _ m1 ; have s1 := s1.trans s2) | ((refine GTri.mono (c_each _ _ p) ?_); rintro _ h2 ⟨rfl, s2⟩; have m1 := s2 _ _ m1 ; have s1 := s1.trans s2)) <;> try simp only [gop, gyield, gLenX, gNilM, gField, gIndexV, gPart, reduceIte, seval, Int.cast_ofNat_Int, stz, stp, isEff, sgl, sty, stq, ty65, ty3, ty4, rs117, gload1 m1 sz3, gloadA m1 sz65 rfl]))
  all_goals refine ⟨congrArg _ ?_, s1⟩
  · simp only [Bool.not_eq_true'] at hb
    simp [Pm.need, hb]
  · simp only [Bool.not_eq_false'] at hb
    exact p.need_eq hb
theorem c_rneed (N : Nat) (h : GH) (p : Pm) : GTri Try.prog N 105 [p.v] h fun v h' => v = .int .i64 p.need ∧ HS h h' := by
  refine gtri Try.func105 rfl gf105 ok105 (by simp [Try.ntmps105]) ?_
  repeat' (first | (with_reducible first | refine gw_seq ?_ | refine gw_block ?_) | ((first | (with_reducible first | refine gw_region ?_ | refine gw_if ?_ | refine gw_skip ?_ | refine gw_exit ?_ | refine gw_ret ?_) | ((with_reducible first | refine gif_b (fun hb => ?_) (fun hb => ?_) | refine want_t (fun hb => ?_) (fun hb => ?_) | refine want_f (fun hb => ?_) (fun hb => ?_) | refine dr_t (fun hb => ?_) (fun hb => ?_) | refine dr_f (fun hb => ?_) (fun hb => ?_)) <;> (try simp only [hb])) | with_reducible refine gw_draw (id := 3) [(0, []), (1, []), (2, []), (3, []), (4, []), (5, []), (6, []), (7, [1, 4]), (8, []), (9, []), (10, [])] [0, 1, 3, 0, 8, 31, 0, 64, 255, 511, 1023] mixed (by kernel_rfl) ?_) <;> try simp only [gop, gyield, gLenX, gNilM, gField, gIndexV, gPart, reduceIte, seval, Int.cast_ofNat_Int, stz, stp, isEff, sgl, sty, stq, ty65, ty3, ty4, rs105, Pm.v]))
  refine box_g rfl fun k1 h1 m1 s1 f1 n1 => ?_
  simp only [gop, gyield, gLenX, gNilM, gField, gIndexV, gPart, reduceIte, seval, Int.cast_ofNat_Int, stz, stp, ty65, ty3, ty4, rs105]
  repeat' (first | (with_reducible first | refine gw_seq ?_ | refine gw_block ?_) | ((first | (with_reducible first | refine gw_region ?_ | refine gw_if ?_ | refine gw_skip ?_ | refine gw_exit ?_ | refine gw_ret ?_) | ((with_reducible first | refine gif_b (fun hb => ?_) (fun hb => ?_) | refine want_t (fun hb => ?_) (fun hb => ?_) | refine want_f (fun hb => ?_) (fun hb => ?_) | refine dr_t (fun hb => ?_) (fun hb => ?_) | refine dr_f (fun hb => ?_) (fun hb => ?_)) <;> (try simp only [hb])) | with_reducible refine gw_draw (id := 3) [(0, []), (1, []), (2, []), (3, []), (4, []), (5, []), (6, []), (7, [1, 4]), (8, []), (9, []), (10, [])] [0, 1, 3, 0, 8, 31, 0, 64, 255, 511, 1023] mixed (by kernel_rfl) ?_ | ((refine GTri.mono (c_rmay _ _ p) ?_); rintro _ h2 ⟨rfl, s2⟩; have m1 := s2 _ _ m1 ; have s1 := s1.trans s2) | ((refine GTri.mono (c_reach _ _ p) ?_); rintro _ h2 ⟨rfl, s2⟩; have m1 := s2 _ _ m1 ; have s1 := s1.trans s2)) <;> try simp only [gop, gyield, gLenX, gNilM, gField, gIndexV, gPart, reduceIte, seval, Int.cast_ofNat_Int, stz, stp, isEff, sgl, sty, stq, ty65, ty3, ty4, rs105, gload1 m1 sz3, gloadA m1 sz65 rfl]))
  all_goals refine ⟨congrArg _ ?_, s1⟩
  · simp only [Bool.not_eq_true'] at hb
    simp [Pm.need, hb]
  · simp only [Bool.not_eq_false'] at hb
    exact p.need_eq hb

def Pm.check (p : Pm) : Int := if p.may = false ∨ p.ar < 1 ∨ p.ar > 4194304 then 1 else if p.ar < p.need then 4 else 0
def Pm.eps (p : Pm) : Int := if p.may = true then IntKind.i64.wrap (1 * 2 ^ min p.ht.toNat IntKind.i64.bits) else 0
theorem c_check (N : Nat) (h : GH) (p : Pm) : GTri Try.prog N 82 [p.v] h fun v h' => v = .int .i64 p.check ∧ HS h h' := by
  refine gtri Try.func82 rfl gf82 ok82 (by simp [Try.ntmps82]) ?_
  repeat' (first | (with_reducible first | refine gw_seq ?_ | refine gw_block ?_) | ((first | (with_reducible first | refine gw_region ?_ | refine gw_if ?_ | refine gw_skip ?_ | refine gw_exit ?_ | refine gw_ret ?_) | ((with_reducible first | refine gif_b (fun hb => ?_) (fun hb => ?_) | refine want_t (fun hb => ?_) (fun hb => ?_) | refine want_f (fun hb => ?_) (fun hb => ?_) | refine dr_t (fun hb => ?_) (fun hb => ?_) | refine dr_f (fun hb => ?_) (fun hb => ?_)) <;> (try simp only [hb])) | with_reducible refine gw_draw (id := 3) [(0, []), (1, []), (2, []), (3, [1]), (4, []), (5, [])] [0, 1, 0, 4, 15, 31] mixed (by kernel_rfl) ?_) <;> try simp only [gop, gyield, gLenX, gNilM, gField, gIndexV, gPart, reduceIte, seval, Int.cast_ofNat_Int, stz, stp, isEff, sgl, sty, stq, ty65, ty3, ty4, rs82, Pm.v]))
  refine box_g rfl fun k1 h1 m1 s1 f1 n1 => ?_
  simp only [gop, gyield, gLenX, gNilM, gField, gIndexV, gPart, reduceIte, seval, Int.cast_ofNat_Int, stz, stp, ty65, ty3, ty4, rs82]
  repeat' (first | (with_reducible first | refine gw_seq ?_ | refine gw_block ?_) | ((first | (with_reducible first | refine gw_region ?_ | refine gw_if ?_ | refine gw_skip ?_ | refine gw_exit ?_ | refine gw_ret ?_) | ((with_reducible first | refine gif_b (fun hb => ?_) (fun hb => ?_) | refine want_t (fun hb => ?_) (fun hb => ?_) | refine want_f (fun hb => ?_) (fun hb => ?_) | refine dr_t (fun hb => ?_) (fun hb => ?_) | refine dr_f (fun hb => ?_) (fun hb => ?_)) <;> (try simp only [hb])) | with_reducible refine gw_draw (id := 3) [(0, []), (1, []), (2, []), (3, [1]), (4, []), (5, [])] [0, 1, 0, 4, 15, 31] mixed (by kernel_rfl) ?_ | ((refine GTri.mono (c_may _ _ p) ?_); rintro _ h2 ⟨rfl, s2⟩; have m1 := s2 _ _ m1 ; have s1 := s1.trans s2) | ((refine GTri.mono (c_need _ _ p) ?_); rintro _ h2 ⟨rfl, s2⟩; have m1 := s2 _ _ m1 ; have s1 := s1.trans s2)) <;> try simp only [gop, gyield, gLenX, gNilM, gField, gIndexV, gPart, reduceIte, seval, Int.cast_ofNat_Int, stz, stp, isEff, sgl, sty, stq, ty65, ty3, ty4, rs82, gload1 m1 sz3, gloadA m1 sz65 rfl]))
  all_goals refine ⟨congrArg _ ?_, s1⟩
  all_goals
    simp only [Bool.not_eq_true', Bool.not_eq_false', decide_eq_true_eq, decide_eq_false_iff_not] at *
    simp [Pm.check, *] <;> omega
theorem c_eps (N : Nat) (h : GH) (p : Pm) : GTri Try.prog N 107 [p.v] h fun v h' => v = .int .i64 p.eps ∧ HS h h' := by
  refine gtri Try.func107 rfl gf107 ok107 (by simp [Try.ntmps107]) ?_
  repeat' (first | (with_reducible first | refine gw_seq ?_ | refine gw_block ?_) | ((first | (with_reducible first | refine gw_region ?_ | refine gw_if ?_ | refine gw_skip ?_ | refine gw_exit ?_ | refine gw_ret ?_) | ((with_reducible first | refine gif_b (fun hb => ?_) (fun hb => ?_) | refine want_t (fun hb => ?_) (fun hb => ?_) | refine want_f (fun hb => ?_) (fun hb => ?_)) <;> (try simp only [hb]))) <;> try simp only [gop, gyield, gLenX, gNilM, gField, gIndexV, gPart, reduceIte, seval, Int.cast_ofNat_Int, stz, stp, ty65, ty3, ty4, rs107, Pm.v]))
  refine box_g rfl fun k1 h1 m1 s1 f1 n1 => ?_
  simp only [gop, gyield, gLenX, gNilM, gField, gIndexV, gPart, reduceIte, seval, Int.cast_ofNat_Int, stz, stp, ty65, ty3, ty4, rs107]
  repeat' (first | (with_reducible first | refine gw_seq ?_ | refine gw_block ?_) | ((first | (with_reducible first | refine gw_region ?_ | refine gw_if ?_ | refine gw_skip ?_ | refine gw_exit ?_ | refine gw_ret ?_) | ((with_reducible first | refine gif_b (fun hb => ?_) (fun hb => ?_) | refine want_t (fun hb => ?_) (fun hb => ?_) | refine want_f (fun hb => ?_) (fun hb => ?_)) <;> (try simp only [hb])) | ((refine GTri.mono (c_may _ _ p) ?_); rintro _ h2 ⟨rfl, s2⟩; have m1 := s2 _ _ m1 ; have s1 := s1.trans s2)) <;> try simp only [gop, gyield, gLenX, gNilM, gField, gIndexV, gPart, reduceIte, seval, Int.cast_ofNat_Int, stz, stp, ty65, ty3, ty4, rs107, gload1 m1 sz3, gloadA m1 sz65 rfl]))
  · refine ⟨congrArg _ ?_, s1⟩
    simp only [Bool.not_eq_true'] at hb
    simp [Pm.eps, hb]
  · simp only [Bool.not_eq_false'] at hb
    have := p.may_iff.1 hb
    refine ⟨by omega, ?_⟩
    repeat' (first | (with_reducible first | refine gw_seq ?_ | refine gw_block ?_) | ((first | (with_reducible first | refine gw_region ?_ | refine gw_if ?_ | refine gw_skip ?_ | refine gw_exit ?_ | refine gw_ret ?_) | ((with_reducible first | refine gif_b (fun hb => ?_) (fun hb => ?_) | refine want_t (fun hb => ?_) (fun hb => ?_) | refine want_f (fun hb => ?_) (fun hb => ?_)) <;> (try simp only [hb]))) <;> try simp only [gop, gyield, gLenX, gNilM, gField, gIndexV, gPart, reduceIte, seval, Int.cast_ofNat_Int, stz, stp, ty65, ty3, ty4, rs107]))
    refine ⟨congrArg _ ?_, s1⟩
    simp [Pm.eps, hb]
theorem c_reps (N : Nat) (h : GH) (p : Pm) : GTri Try.prog N 81 [p.v] h fun v h' => v = .int .i64 p.eps ∧ HS h h' := by
  refine gtri Try.func81 rfl gf81 ok81 (by simp [Try.ntmps81]) ?_
  repeat' (first | (with_reducible first | refine gw_seq ?_ | refine gw_block ?_) | ((first | (with_reducible first | refine gw_region ?_ | refine gw_if ?_ | refine gw_skip ?_ | refine gw_exit ?_ | refine gw_ret ?_) | ((with_reducible first | refine gif_b (fun hb => ?_) (fun hb => ?_) | refine want_t (fun hb => ?_) (fun hb => ?_) | refine want_f (fun hb => ?_) (fun hb => ?_)) <;> (try simp only [hb]))) <;> try simp only [gop, gyield, gLenX, gNilM, gField, gIndexV, gPart, reduceIte, seval, Int.cast_ofNat_Int, stz, stp, ty65, ty3, ty4, rs81, Pm.v]))
  refine box_g rfl fun k1 h1 m1 s1 f1 n1 => ?_
  simp only [gop, gyield, gLenX, gNilM, gField, gIndexV, gPart, reduceIte, seval, Int.cast_ofNat_Int, stz, stp, ty65, ty3, ty4, rs81]
  repeat' (first | (with_reducible first | refine gw_seq ?_ | refine gw_block ?_) | ((first | (with_reducible first | refine gw_region ?_ | refine gw_if ?_ | refine gw_skip ?_ | refine gw_exit ?_ | refine gw_ret ?_) | ((with_reducible first | refine gif_b (fun hb => ?_) (fun hb => ?_) | refine want_t (fun hb => ?_) (fun hb => ?_) | refine want_f (fun hb => ?_) (fun hb => ?_)) <;> (try simp only [hb])) | ((refine GTri.mono (c_rmay _ _ p) ?_); rintro _ h2 ⟨rfl, s2⟩; have m1 := s2 _ _ m1 ; have s1 := s1.trans s2)) <;> try simp only [gop, gyield, gLenX, gNilM, gField, gIndexV, gPart, reduceIte, seval, Int.cast_ofNat_Int, stz, stp, ty65, ty3, ty4, rs81, gload1 m1 sz3, gloadA m1 sz65 rfl]))
  · refine ⟨congrArg _ ?_, s1⟩
    simp only [Bool.not_eq_true'] at hb
    simp [Pm.eps, hb]
  · simp only [Bool.not_eq_false'] at hb
    have := p.may_iff.1 hb
    refine ⟨by omega, ?_⟩
    repeat' (first | (with_reducible first | refine gw_seq ?_ | refine gw_block ?_) | ((first | (with_reducible first | refine gw_region ?_ | refine gw_if ?_ | refine gw_skip ?_ | refine gw_exit ?_ | refine gw_ret ?_) | ((with_reducible first | refine gif_b (fun hb => ?_) (fun hb => ?_) | refine want_t (fun hb => ?_) (fun hb => ?_) | refine want_f (fun hb => ?_) (fun hb => ?_)) <;> (try simp only [hb]))) <;> try simp only [gop, gyield, gLenX, gNilM, gField, gIndexV, gPart, reduceIte, seval, Int.cast_ofNat_Int, stz, stp, ty65, ty3, ty4, rs81]))
    refine ⟨congrArg _ ?_, s1⟩
    simp [Pm.eps, hb]

theorem c_rcheck (N : Nat) (h : GH) (p : Pm) : GTri Try.prog N 68 [p.v] h fun v h' => v = .int .i64 p.check ∧ HS h h' := by
  refine gtri Try.func68 rfl gf68 ok68 (by simp [Try.ntmps68]) ?_
  repeat' (first | (with_reducible first | refine gw_seq ?_ | refine gw_block ?_) | ((first | (with_reducible first | refine gw_region ?_ | refine gw_if ?_ | refine gw_skip ?_ | refine gw_exit ?_ | refine gw_ret ?_) | ((with_reducible first | refine gif_b (fun hb => ?_) (fun hb => ?_) | refine want_t (fun hb => ?_) (fun hb => ?_) | refine want_f (fun hb => ?_) (fun hb => ?_) | refine dr_t (fun hb => ?_) (fun hb => ?_) | refine dr_f (fun hb => ?_) (fun hb => ?_)) <;> (try simp only [hb])) | with_reducible refine gw_draw (id := 3) [(0, []), (1, []), (2, []), (3, [1]), (4, [])] [0, 1, 0, 4, 15] mixed (by kernel_rfl) ?_) <;> try simp only [gop, gyield, gLenX, gNilM, gField, gIndexV, gPart, reduceIte, seval, Int.cast_ofNat_Int, stz, stp, isEff, sgl, sty, stq, ty65, ty3, ty4, rs68, Pm.v]))
  refine box_g rfl fun k1 h1 m1 s1 f1 n1 => ?_
  simp only [gop, gyield, gLenX, gNilM, gField, gIndexV, gPart, reduceIte, seval, Int.cast_ofNat_Int, stz, stp, ty65, ty3, ty4, rs68]
  repeat' (first | (with_reducible first | refine gw_seq ?_ | refine gw_block ?_) | ((first | (with_reducible first | refine gw_region ?_ | refine gw_if ?_ | refine gw_skip ?_ | refine gw_exit ?_ | refine gw_ret ?_) | ((with_reducible first | refine gif_b (fun hb => ?_) (fun hb => ?_) | refine want_t (fun hb => ?_) (fun hb => ?_) | refine want_f (fun hb => ?_) (fun hb => ?_) | refine dr_t (fun hb => ?_) (fun hb => ?_) | refine dr_f (fun hb => ?_) (fun hb => ?_)) <;> (try simp only [hb])) | with_reducible refine gw_draw (id := 3) [(0, []), (1, []), (2, []), (3, [1]), (4, [])] [0, 1, 0, 4, 15] mixed (by kernel_rfl) ?_ | ((refine GTri.mono (c_rmay _ _ p) ?_); rintro _ h2 ⟨rfl, s2⟩; have m1 := s2 _ _ m1 ; have s1 := s1.trans s2) | ((refine GTri.mono (c_within _ _ _ _ _) ?_); rintro _ _ ⟨rfl, rfl⟩) | ((refine GTri.mono (c_rneed _ _ p) ?_); rintro _ h2 ⟨rfl, s2⟩; have m1 := s2 _ _ m1 ; have s1 := s1.trans s2)) <;> try simp only [gop, gyield, gLenX, gNilM, gField, gIndexV, gPart, reduceIte, seval, Int.cast_ofNat_Int, stz, stp, isEff, sgl, sty, stq, ty65, ty3, ty4, rs68, gload1 m1 sz3, gloadA m1 sz65 rfl]))
  all_goals refine ⟨congrArg _ ?_, s1⟩
  all_goals
    simp only [Bool.not_eq_true', Bool.not_eq_false', decide_eq_true_eq, decide_eq_false_iff_not, inB] at *
    simp [Pm.check, *] <;> omega

def Pm.small : Pm := ⟨4, 2, 2, 4, 10, 781, 1, 3⟩
end Go.Gh

/- Ideal: a batch checked. -/

namespace Go.Gh
open Go Go.Proofs Go.RowKit
set_option linter.unusedVariables false
set_option linter.unusedSimpArgs false
set_option maxRecDepth 100000
set_option maxHeartbeats 2000000

/-- How often an identity stands among a batch's first i. -/
def cnt (b : List Bnd) : Nat → List UInt8 → Nat
  | 0, _ => 0
  | i + 1, id => cnt b i id + (if id = (bat1 b i).1 then 1 else 0)
theorem cnt_le (b : List Bnd) (id : List UInt8) : ∀ i, cnt b i id ≤ i
  | 0 => Nat.le_refl _
  | i + 1 => by
    have := cnt_le b id i
    simp only [cnt]
    split <;> omega
def seenC (b : List Bnd) : Nat → List Value
  | 0 => []
  | i + 1 => mset (bstr (bat1 b i).1) (.int .i64 ((cnt b i (bat1 b i).1 + 1 : Nat) : Int)) (seenC b i)
theorem seenC_ok (b : List Bnd) : ∀ i, mok (seenC b i) = true
  | 0 => rfl
  | i + 1 => (mfind_mset _ (bstr []) _ _ (seenC_ok b i)).1
theorem seenC_find (b : List Bnd) (id : List UInt8) : ∀ i, (mfind (bstr id) (seenC b i)).getD (.int .i64 0) = .int .i64 (cnt b i id : Int)
  | 0 => rfl
  | i + 1 => by
    have ih := seenC_find b id i
    simp only [seenC, cnt, (mfind_mset _ (bstr id) _ _ (seenC_ok b i)).2]
    by_cases h : id = (bat1 b i).1
    · rw [if_pos h, ← h]; simp
    · rw [if_neg (fun e => h (bstr_inj e)), if_neg h]; exact ih
theorem look_cnt {h : GH} {j i : Nat} {b : List Bnd} (m : h (j + 1) = some ⟨MM :: seenC b i, 0, true, false⟩) (id : List UInt8) : gLookup Try.prog 102 h (.map (some j)) (.string (bstr id)) false = some (.int .i64 (cnt b i id : Int)) := by
  simp only [gLookup, sm102, gMapOf, m, seenC_ok, gz102, if_true]
  have := seenC_find b id i
  cases hf : mfind (bstr id) (seenC b i) with
  | none => rw [hf] at this; simpa using this
  | some v => rw [hf] at this; simpa using this
def tooLong (p : Pm) (x : Bnd) : Prop := (x.1.length : Int) > p.mi ∨ (x.2.length : Int) > p.my
instance (p : Pm) (x : Bnd) : Decidable (tooLong p x) := by unfold tooLong; infer_instance
/-- What is wrong with a batch. -/
def chkB (p : Pm) (b : List Bnd) : Int := if b = [] then 82 else if 32 < b.length then 4 else if ∃ x ∈ b, tooLong p x then 1 else if (seenC b b.length).length / 2 < b.length then 80 else 0

theorem c_chk (N : Nat) (h : GH) (p : Pm) {a : Option Addr} {c : Nat} {b : List Bnd} (rl : RL 2 Bd h (.slice a b.length c) b) (hbl : b.length ≤ 140737488355328) :
    GTri Try.prog N 106 [p.v, .slice a b.length c] h fun v h' => v = .int .i64 (chkB p b) ∧ HS h h' := by
  obtain ⟨p0, p1, p2, p3, p4, p5, p6, p7⟩ := p
  refine gtri Try.func106 rfl gf106 ok106 (by simp [Try.ntmps106]) ?_
  repeat' (first | (with_reducible first | refine gw_seq ?_ | refine gw_block ?_) | ((first | (with_reducible first | refine gw_region ?_ | refine gw_if ?_ | refine gw_skip ?_ | refine gw_exit ?_ | refine gw_ret ?_) | ((with_reducible first | refine gif_b (fun hb => ?_) (fun hb => ?_) | refine want_t (fun hb => ?_) (fun hb => ?_) | refine want_f (fun hb => ?_) (fun hb => ?_)) <;> (try simp only [hb]) <;> (try simp only [hpr] at hb))) <;> try simp only [gop, gyield, gLenX, gNilM, gField, gIndexV, gPart, reduceIte, seval, Int.cast_ofNat_Int, stz, stp, Try.underlying102, ty23, ty24, ty65, ty99, ty102, ty3, ty5, ty9, rs106, Pm.v]))
  refine box_g rfl fun k1 h1 m1 s1 f1 n1 => ?_
  by_cases hbe : b = []
  · subst hbe
    have d0 : ((0 : Int) == 0) = true := rfl
    refine mk_of ?_; repeat' (first | (with_reducible first | refine gw_seq ?_ | refine gw_block ?_) | ((first | (with_reducible refine mk_to ?_) | (with_reducible first | refine gw_region ?_ | refine gw_if ?_ | refine gw_skip ?_ | refine gw_exit ?_ | refine gw_ret ?_) | ((with_reducible first | refine gif_b (fun hb => ?_) (fun hb => ?_) | refine want_t (fun hb => ?_) (fun hb => ?_) | refine want_f (fun hb => ?_) (fun hb => ?_)) <;> (try simp only [hb]) <;> (try simp only [hpr] at hb))) <;> try simp only [gop, gyield, gLenX, gNilM, gField, gIndexV, gPart, reduceIte, seval, Int.cast_ofNat_Int, stz, stp, Try.underlying102, ty23, ty24, ty65, ty99, ty102, ty3, ty5, ty9, rs106, List.length_nil, Int.cast_ofNat_Int, d0]))
    exact ⟨by simp [chkB], s1⟩
  have hb0 : b.length ≠ 0 := fun e => hbe (List.eq_nil_of_length_eq_zero e)
  have d0 : ((b.length : Int) == 0) = false := by simpa using hbe
  by_cases h32 : 32 < b.length
  · have d1 : decide ((b.length : Int) > 32) = true := decide_eq_true (by omega)
    refine mk_of ?_; repeat' (first | (with_reducible first | refine gw_seq ?_ | refine gw_block ?_) | ((first | (with_reducible refine mk_to ?_) | (with_reducible first | refine gw_region ?_ | refine gw_if ?_ | refine gw_skip ?_ | refine gw_exit ?_ | refine gw_ret ?_) | ((with_reducible first | refine gif_b (fun hb => ?_) (fun hb => ?_) | refine want_t (fun hb => ?_) (fun hb => ?_) | refine want_f (fun hb => ?_) (fun hb => ?_)) <;> (try simp only [hb]) <;> (try simp only [hpr] at hb))) <;> try simp only [gop, gyield, gLenX, gNilM, gField, gIndexV, gPart, reduceIte, seval, Int.cast_ofNat_Int, stz, stp, Try.underlying102, ty23, ty24, ty65, ty99, ty102, ty3, ty5, ty9, rs106, d0, d1]))
    exact ⟨by simp [chkB, hbe, h32], s1⟩
  have d1 : decide ((b.length : Int) > 32) = false := decide_eq_false (by omega)
  refine mk_of ?_; repeat' (first | (with_reducible first | refine gw_seq ?_ | refine gw_block ?_) | ((first | (with_reducible refine mk_to ?_) | (with_reducible first | refine gw_region ?_ | refine gw_if ?_ | refine gw_skip ?_ | refine gw_exit ?_ | refine gw_ret ?_) | ((with_reducible first | refine gif_b (fun hb => ?_) (fun hb => ?_) | refine want_t (fun hb => ?_) (fun hb => ?_) | refine want_f (fun hb => ?_) (fun hb => ?_)) <;> (try simp only [hb]) <;> (try simp only [hpr] at hb))) <;> try simp only [gop, gyield, gLenX, gNilM, gField, gIndexV, gPart, reduceIte, seval, Int.cast_ofNat_Int, stz, stp, Try.underlying102, ty23, ty24, ty65, ty99, ty102, ty3, ty5, ty9, rs106, d0, d1]))
  refine mm_g fun j h2 m2 s2 f2 n2 => ?_
  have n12 := s1.none_of n2
  refine mk_of ?_; repeat' (first | (with_reducible first | refine gw_seq ?_ | refine gw_block ?_) | ((first | (with_reducible refine mk_to ?_) | (with_reducible first | refine gw_region ?_ | refine gw_if ?_ | refine gw_skip ?_ | refine gw_exit ?_ | refine gw_ret ?_) | ((with_reducible first | refine gif_b (fun hb => ?_) (fun hb => ?_) | refine want_t (fun hb => ?_) (fun hb => ?_) | refine want_f (fun hb => ?_) (fun hb => ?_)) <;> (try simp only [hb]) <;> (try simp only [hpr] at hb))) <;> try simp only [gop, gyield, gLenX, gNilM, gField, gIndexV, gPart, reduceIte, seval, Int.cast_ofNat_Int, stz, stp, Try.underlying102, ty23, ty24, ty65, ty99, ty102, ty3, ty5, ty9, rs106]))
  refine gw_loop2 [1, 2, 6, 18, 19] (fun (i : Nat) => [(20, .int .i64 (i : Int))]) (fun q i h' => b.length - i = q ∧ i ≤ b.length ∧ HS h1 h' ∧ h' (j + 1) = some ⟨MM :: seenC b i, 0, true, false⟩ ∧ ∀ x ∈ b.take i, ¬ tooLong ⟨p0, p1, p2, p3, p4, p5, p6, p7⟩ x) b.length 0 (by simp [lk]) ⟨rfl, by omega, s2, m2, by simp⟩ ?_
  clear m2
  rintro _ i h3 ⟨rfl, hi, s3, m3, nl⟩
  have m13 := s3 _ _ m1
  by_cases hib : i < b.length
  case neg =>
    obtain rfl : i = b.length := by omega
    rw [List.take_length] at nl
    have hne : ¬ ∃ x ∈ b, tooLong ⟨p0, p1, p2, p3, p4, p5, p6, p7⟩ x := fun ⟨x, hx, hq⟩ => nl x hx hq
    have d3 : decide ((b.length : Int) < (b.length : Int)) = false := decide_eq_false (by omega)
    have lm := lenm (P := Try.prog) m3 (seenC_ok b b.length) Try.underlying102
    have lm0 := lenm0 (P := Try.prog) Try.underlying102
    by_cases htw : (seenC b b.length).length / 2 < b.length
    · have d4 : decide ((((seenC b b.length).length / 2 : Nat) : Int) < (b.length : Int)) = true := decide_eq_true (by omega)
      refine mk_of ?_; repeat' (first | (with_reducible first | refine gw_seq ?_ | refine gw_block ?_) | ((first | (with_reducible refine mk_to ?_) | (with_reducible first | refine gw_region ?_ | refine gw_if ?_ | refine gw_skip ?_ | refine gw_exit ?_ | refine gw_ret ?_) | ((with_reducible first | refine gif_b (fun hb => ?_) (fun hb => ?_) | refine want_t (fun hb => ?_) (fun hb => ?_) | refine want_f (fun hb => ?_) (fun hb => ?_)) <;> (try simp only [hb]) <;> (try simp only [hpr] at hb))) <;> try simp only [gop, gyield, gLenX, gNilM, gField, gIndexV, gPart, reduceIte, seval, Int.cast_ofNat_Int, stz, stp, Try.underlying102, ty23, ty24, ty65, ty99, ty102, ty3, ty5, ty9, rs106, d3, lm, lm0, d4]))
      exact ⟨by unfold chkB; rw [if_neg hbe, if_neg h32, if_neg hne, if_pos htw], s1.trans s3⟩
    · have d4 : decide ((((seenC b b.length).length / 2 : Nat) : Int) < (b.length : Int)) = false := decide_eq_false (by omega)
      refine mk_of ?_; repeat' (first | (with_reducible first | refine gw_seq ?_ | refine gw_block ?_) | ((first | (with_reducible refine mk_to ?_) | (with_reducible first | refine gw_region ?_ | refine gw_if ?_ | refine gw_skip ?_ | refine gw_exit ?_ | refine gw_ret ?_) | ((with_reducible first | refine gif_b (fun hb => ?_) (fun hb => ?_) | refine want_t (fun hb => ?_) (fun hb => ?_) | refine want_f (fun hb => ?_) (fun hb => ?_)) <;> (try simp only [hb]) <;> (try simp only [hpr] at hb))) <;> try simp only [gop, gyield, gLenX, gNilM, gField, gIndexV, gPart, reduceIte, seval, Int.cast_ofNat_Int, stz, stp, Try.underlying102, ty23, ty24, ty65, ty99, ty102, ty3, ty5, ty9, rs106, d3, lm, lm0, d4]))
      exact ⟨by unfold chkB; rw [if_neg hbe, if_neg h32, if_neg hne, if_neg htw], s1.trans s3⟩
  have d3 : decide ((i : Int) < (b.length : Int)) = true := decide_eq_true (by omega)
  have wi : IntKind.i64.wrap ((i : Int) + 1) = ((i + 1 : Nat) : Int) := by rw [wrap64 (by omega) (by omega)]; omega
  obtain ⟨x, hx⟩ : ∃ x, b[i]? = some x := ⟨_, List.getElem?_eq_getElem hib⟩
  obtain ⟨ad, cs2, g1, g2, a', n', c', b', m', d', rfl, q1, q2⟩ := (rl.bs (s1.trans s3)).at (P := Try.prog) Try.underlying23 sz99 hx
  have l1 : gLoad Try.prog 99 h3 (.pointer (some ad)) = some (.agg #[.slice a' n' c', .slice b' m' d']) := by simp only [gLoad, sz99, g2]; rfl
  have e1 := q1.len_eq
  have e2 := q2.len_eq
  subst e1
  subst e2
  refine mk_of ?_; repeat' (first | (with_reducible first | refine gw_seq ?_ | refine gw_block ?_) | ((first | (with_reducible refine mk_to ?_) | (with_reducible first | refine gw_region ?_ | refine gw_if ?_ | refine gw_skip ?_ | refine gw_exit ?_ | refine gw_ret ?_) | ((with_reducible first | refine gif_b (fun hb => ?_) (fun hb => ?_) | refine want_t (fun hb => ?_) (fun hb => ?_) | refine want_f (fun hb => ?_) (fun hb => ?_)) <;> (try simp only [hb]) <;> (try simp only [hpr] at hb))) <;> try simp only [gop, gyield, gLenX, gNilM, gField, gIndexV, gPart, reduceIte, seval, Int.cast_ofNat_Int, stz, stp, Try.underlying102, ty23, ty24, ty65, ty99, ty102, ty3, ty5, ty9, rs106, d3, g1, l1]))
  refine new_g fun k7 h7 m7 s7 f7 n7 => ?_
  refine mk_of ?_; repeat' (first | (with_reducible first | refine gw_seq ?_ | refine gw_block ?_) | ((first | (with_reducible refine mk_to ?_) | (with_reducible first | refine gw_region ?_ | refine gw_if ?_ | refine gw_skip ?_ | refine gw_exit ?_ | refine gw_ret ?_) | ((with_reducible first | refine gif_b (fun hb => ?_) (fun hb => ?_) | refine want_t (fun hb => ?_) (fun hb => ?_) | refine want_f (fun hb => ?_) (fun hb => ?_)) <;> (try simp only [hb]) <;> (try simp only [hpr] at hb))) <;> try simp only [gop, gyield, gLenX, gNilM, gField, gIndexV, gPart, reduceIte, seval, Int.cast_ofNat_Int, stz, stp, Try.underlying102, ty23, ty24, ty65, ty99, ty102, ty3, ty5, ty9, rs106]))
  refine st_all m7 sz99 rfl (by decide) rfl rfl rfl fun h8 m8 f8 => ?_
  have s8 : HS h3 h8 := (HS.refl h3).upd n7 (fun j hj => (f8 j hj).trans (f7 j hj))
  have m18 := s8 _ _ m13
  have cv := (q1.hs s8).conv Try.underlying24 Try.underlying5 Try.underlying9
  by_cases htl : tooLong ⟨p0, p1, p2, p3, p4, p5, p6, p7⟩ x
  · have fin : chkB ⟨p0, p1, p2, p3, p4, p5, p6, p7⟩ b = 1 := by unfold chkB; rw [if_neg hbe, if_neg h32, if_pos ⟨x, List.mem_of_getElem? hx, htl⟩]
    by_cases h1' : (x.1.length : Int) > p2
    · have d5 : decide ((x.1.length : Int) > p2) = true := decide_eq_true h1'
      refine mk_of ?_; repeat' (first | (with_reducible first | refine gw_seq ?_ | refine gw_block ?_) | ((first | (with_reducible refine mk_to ?_) | (with_reducible first | refine gw_region ?_ | refine gw_if ?_ | refine gw_skip ?_ | refine gw_exit ?_ | refine gw_ret ?_) | ((with_reducible first | refine gif_b (fun hb => ?_) (fun hb => ?_) | refine want_t (fun hb => ?_) (fun hb => ?_) | refine want_f (fun hb => ?_) (fun hb => ?_)) <;> (try simp only [hb]) <;> (try simp only [hpr] at hb))) <;> try simp only [gop, gyield, gLenX, gNilM, gField, gIndexV, gPart, reduceIte, seval, Int.cast_ofNat_Int, stz, stp, Try.underlying102, ty23, ty24, ty65, ty99, ty102, ty3, ty5, ty9, rs106, gload1 m8 sz24, gload1 m18 sz3, d5, gPick, List.getElem?_cons_zero, List.getElem?_cons_succ]))
      exact ⟨by rw [fin], (s1.trans s3).trans s8⟩
    · have d5 : decide ((x.1.length : Int) > p2) = false := decide_eq_false h1'
      have d6 : decide ((x.2.length : Int) > p3) = true := decide_eq_true (htl.resolve_left h1')
      refine mk_of ?_; repeat' (first | (with_reducible first | refine gw_seq ?_ | refine gw_block ?_) | ((first | (with_reducible refine mk_to ?_) | (with_reducible first | refine gw_region ?_ | refine gw_if ?_ | refine gw_skip ?_ | refine gw_exit ?_ | refine gw_ret ?_) | ((with_reducible first | refine gif_b (fun hb => ?_) (fun hb => ?_) | refine want_t (fun hb => ?_) (fun hb => ?_) | refine want_f (fun hb => ?_) (fun hb => ?_)) <;> (try simp only [hb]) <;> (try simp only [hpr] at hb))) <;> try simp only [gop, gyield, gLenX, gNilM, gField, gIndexV, gPart, reduceIte, seval, Int.cast_ofNat_Int, stz, stp, Try.underlying102, ty23, ty24, ty65, ty99, ty102, ty3, ty5, ty9, rs106, gload1 m8 sz24, gload1 m18 sz3, d5, d6, gPick, List.getElem?_cons_zero, List.getElem?_cons_succ]))
      exact ⟨by rw [fin], (s1.trans s3).trans s8⟩
  have d5 : decide ((x.1.length : Int) > p2) = false := decide_eq_false fun h => htl (.inl h)
  have d6 : decide ((x.2.length : Int) > p3) = false := decide_eq_false fun h => htl (.inr h)
  have lc := look_cnt (s8 _ _ m3) x.1
  have hcl := cnt_le b x.1 i
  have wc : IntKind.i64.wrap ((cnt b i x.1 : Int) + 1) = ((cnt b i x.1 + 1 : Nat) : Int) := by rw [wrap64 (by omega) (by omega)]; omega
  refine mk_of ?_; repeat' (first | (with_reducible first | refine gw_seq ?_ | refine gw_block ?_) | ((first | (with_reducible refine mk_to ?_) | (with_reducible first | refine gw_region ?_ | refine gw_if ?_ | refine gw_skip ?_ | refine gw_exit ?_ | refine gw_ret ?_) | ((with_reducible first | refine gif_b (fun hb => ?_) (fun hb => ?_) | refine want_t (fun hb => ?_) (fun hb => ?_) | refine want_f (fun hb => ?_) (fun hb => ?_)) <;> (try simp only [hb]) <;> (try simp only [hpr] at hb))) <;> try simp only [gop, gyield, gLenX, gNilM, gField, gIndexV, gPart, reduceIte, seval, Int.cast_ofNat_Int, stz, stp, Try.underlying102, ty23, ty24, ty65, ty99, ty102, ty3, ty5, ty9, rs106, gload1 m8 sz24, gload1 m18 sz3, d5, d6, gPick, cv, lc, wc, List.getElem?_cons_zero, List.getElem?_cons_succ]))
  refine put_g (s8 _ _ m3) (seenC_ok b i) sm102 fun h9 m9 f9 => ?_
  refine mk_of ?_; repeat' (first | (with_reducible first | refine gw_seq ?_ | refine gw_block ?_) | ((first | (with_reducible refine mk_to ?_) | (with_reducible first | refine gw_region ?_ | refine gw_if ?_ | refine gw_skip ?_ | refine gw_exit ?_ | refine gw_ret ?_) | ((with_reducible first | refine gif_b (fun hb => ?_) (fun hb => ?_) | refine want_t (fun hb => ?_) (fun hb => ?_) | refine want_f (fun hb => ?_) (fun hb => ?_)) <;> (try simp only [hb]) <;> (try simp only [hpr] at hb))) <;> try simp only [gop, gyield, gLenX, gNilM, gField, gIndexV, gPart, reduceIte, seval, Int.cast_ofNat_Int, stz, stp, Try.underlying102, ty23, ty24, ty65, ty99, ty102, ty3, ty5, ty9, rs106, wi]))
  have b1 : bat1 b i = x := by simp [bat1, hx]
  refine ⟨_, i + 1, ?_, (by simp only [List.forall_mem_cons, List.not_mem_nil, false_implies, implies_true, List.map, List.cons_append, List.nil_append, lk, Nat.reduceEqDiff, reduceIte, and_true, true_and]), rfl, by omega, (s3.trans s8).upd n2 f9, ?_, ?_⟩
  · omega
  · rw [m9]; simp only [seenC, b1]
  · intro y hy
    rw [List.take_add_one, hx] at hy
    rcases List.mem_append.1 hy with hy | hy
    · exact nl y hy
    · simp at hy; subst hy; exact htl
end Go.Gh

/- Ideal: a map that no call made. -/

namespace Go.Gh
open Go Go.Proofs Go.RowKit
set_option linter.unusedVariables false
set_option linter.unusedSimpArgs false
set_option maxRecDepth 100000
set_option maxHeartbeats 2000000

def zmap : List Value := [.int .i64 0, .int .i64 0, .int .i64 0, .int .i64 0, .int .i64 0, .int .i64 0, .int .i64 0, .int .i64 0, .slice none 0 0, .int .i64 0, .int .i64 0, .map none]
/-- A map that no call made. -/
def NobM (h : GH) (x : Value) : Prop := x = .pointer none ∨ ∃ k, x = .pointer (some ⟨k, 0, none⟩) ∧ h k = some ⟨zmap, 0, true, false⟩
theorem NobM.hs {h h' : GH} {x : Value} (n : NobM h x) (s : HS h h') : NobM h' x := by
  rcases n with n | ⟨k, e, m⟩
  · exact .inl n
  · exact .inr ⟨k, e, s _ _ m⟩
theorem c_own (N : Nat) (h : GH) {a : Option Addr} {c : Nat} {b : List Bnd} (rl : RL 2 Bd h (.slice a b.length c) b) (hb : b.length ≤ 1000000) (hbl : small b) :
    GTri Try.prog N 95 [.slice a b.length c] h fun v h' => Bat h h' v b ∧ HS h h' := by
  refine gtri Try.func95 rfl gf95 ok95 (by simp [Try.ntmps95]) ?_
  repeat' (first | (with_reducible first | refine gw_seq ?_ | refine gw_block ?_) | ((first | (with_reducible first | refine gw_region ?_ | refine gw_if ?_ | refine gw_skip ?_ | refine gw_exit ?_ | refine gw_ret ?_) | ((with_reducible first | refine gif_b (fun hb => ?_) (fun hb => ?_) | refine want_t (fun hb => ?_) (fun hb => ?_) | refine want_f (fun hb => ?_) (fun hb => ?_) | refine dr_t (fun hb => ?_) (fun hb => ?_) | refine dr_f (fun hb => ?_) (fun hb => ?_)) <;> (try simp only [hb]) <;> (try simp only [hpr] at hb)) | with_reducible refine gw_draw (id := 5) [(0, []), (1, []), (2, []), (4, []), (5, []), (3, [5]), (6, []), (7, []), (8, []), (9, []), (10, [])] [0, 0, 2, 6, 0, 16, 62, 126, 254, 511, 1023] mixed (by kernel_rfl) ?_) <;> try simp only [gop, gyield, gLenX, gNilM, gField, gIndexV, gPart, reduceIte, seval, Int.cast_ofNat_Int, stz, stp, isEff, sgl, sty, stq, ty23, ty24, ty99, ty3, ty5, rs95]))
  refine gw_loop2 [2, 6, 7] (fun (y : Nat × (Option Addr × Nat × Nat)) => [(3, .slice y.2.1 y.2.2.1 y.2.2.2), (8, .int .i64 (y.1 : Int))])
    (fun q y h' => b.length - y.1 = q ∧ y.1 ≤ b.length ∧ HS h h' ∧ ∃ ds, OWNC 2 h h' (.slice y.2.1 y.2.2.1 y.2.2.2) y.1 ds ∧ ds.all isSl = true ∧ ∀ (q : Nat) p, (b.take y.1)[q]? = some p → Bd h' ((ds.drop (q * 2)).take 2) p) b.length (0, (none, 0, 0)) (by simp [lk])
    ⟨rfl, by simp, HS.refl h, [], OWNC.nil _ _ _, rfl, fun q p hp => by simp at hp⟩ ?_
  rintro _ ⟨i, a3, n3, c3⟩ h3 ⟨rfl, hi, s3, ds, o3, sl3, bd3⟩
  simp only at hi o3 bd3
  by_cases hib : i < b.length
  case neg =>
    obtain rfl : i = b.length := by omega
    have d3 : decide ((b.length : Int) < (b.length : Int)) = false := decide_eq_false (by omega)
    refine mk_of ?_; repeat' (first | (with_reducible first | refine gw_seq ?_ | refine gw_block ?_) | ((first | (with_reducible refine mk_to ?_) | (with_reducible first | refine gw_region ?_ | refine gw_if ?_ | refine gw_skip ?_ | refine gw_exit ?_ | refine gw_ret ?_) | ((with_reducible first | refine gif_b (fun hb => ?_) (fun hb => ?_) | refine want_t (fun hb => ?_) (fun hb => ?_) | refine want_f (fun hb => ?_) (fun hb => ?_) | refine dr_t (fun hb => ?_) (fun hb => ?_) | refine dr_f (fun hb => ?_) (fun hb => ?_)) <;> (try simp only [hb]) <;> (try simp only [hpr] at hb)) | with_reducible refine gw_draw (id := 5) [(0, []), (1, []), (2, []), (4, []), (5, []), (3, [5]), (6, []), (7, []), (8, []), (9, []), (10, [])] [0, 0, 2, 6, 0, 16, 62, 126, 254, 511, 1023] mixed (by kernel_rfl) ?_) <;> try simp only [gop, gyield, gLenX, gNilM, gField, gIndexV, gPart, reduceIte, seval, Int.cast_ofNat_Int, stz, stp, isEff, sgl, sty, stq, ty23, ty24, ty99, ty3, ty5, rs95, d3]))
    rw [List.take_length] at bd3
    exact ⟨⟨ds, o3, bd3⟩, s3⟩
  have d3 : decide ((i : Int) < (b.length : Int)) = true := decide_eq_true (by omega)
  have wi : IntKind.i64.wrap ((i : Int) + 1) = ((i + 1 : Nat) : Int) := by rw [wrap64 (by omega) (by omega)]; omega
  obtain ⟨p, hp⟩ : ∃ p, b[i]? = some p := ⟨_, List.getElem?_eq_getElem hib⟩
  obtain ⟨ad, cs2, g1, g2, a', n', c', b', m', d', rfl, q1, q2⟩ := (rl.bs s3).at (P := Try.prog) Try.underlying23 sz99 hp
  have l1 : gLoad Try.prog 99 h3 (.pointer (some ad)) = some (.agg #[.slice a' n' c', .slice b' m' d']) := by simp only [gLoad, sz99, g2]; rfl
  have hpl := hbl p (List.mem_of_getElem? hp)
  refine mk_of ?_; repeat' (first | (with_reducible first | refine gw_seq ?_ | refine gw_block ?_) | ((first | (with_reducible refine mk_to ?_) | (with_reducible first | refine gw_region ?_ | refine gw_if ?_ | refine gw_skip ?_ | refine gw_exit ?_ | refine gw_ret ?_) | ((with_reducible first | refine gif_b (fun hb => ?_) (fun hb => ?_) | refine want_t (fun hb => ?_) (fun hb => ?_) | refine want_f (fun hb => ?_) (fun hb => ?_) | refine dr_t (fun hb => ?_) (fun hb => ?_) | refine dr_f (fun hb => ?_) (fun hb => ?_)) <;> (try simp only [hb]) <;> (try simp only [hpr] at hb)) | with_reducible refine gw_draw (id := 5) [(0, []), (1, []), (2, []), (4, []), (5, []), (3, [5]), (6, []), (7, []), (8, []), (9, []), (10, [])] [0, 0, 2, 6, 0, 16, 62, 126, 254, 511, 1023] mixed (by kernel_rfl) ?_) <;> try simp only [gop, gyield, gLenX, gNilM, gField, gIndexV, gPart, reduceIte, seval, Int.cast_ofNat_Int, stz, stp, isEff, sgl, sty, stq, ty23, ty24, ty99, ty3, ty5, rs95, d3, g1, l1]))
  refine new_g fun k7 h7 m7 s7 f7 n7 => ?_
  refine mk_of ?_; repeat' (first | (with_reducible first | refine gw_seq ?_ | refine gw_block ?_) | ((first | (with_reducible refine mk_to ?_) | (with_reducible first | refine gw_region ?_ | refine gw_if ?_ | refine gw_skip ?_ | refine gw_exit ?_ | refine gw_ret ?_) | ((with_reducible first | refine gif_b (fun hb => ?_) (fun hb => ?_) | refine want_t (fun hb => ?_) (fun hb => ?_) | refine want_f (fun hb => ?_) (fun hb => ?_) | refine dr_t (fun hb => ?_) (fun hb => ?_) | refine dr_f (fun hb => ?_) (fun hb => ?_)) <;> (try simp only [hb]) <;> (try simp only [hpr] at hb)) | with_reducible refine gw_draw (id := 5) [(0, []), (1, []), (2, []), (4, []), (5, []), (3, [5]), (6, []), (7, []), (8, []), (9, []), (10, [])] [0, 0, 2, 6, 0, 16, 62, 126, 254, 511, 1023] mixed (by kernel_rfl) ?_) <;> try simp only [gop, gyield, gLenX, gNilM, gField, gIndexV, gPart, reduceIte, seval, Int.cast_ofNat_Int, stz, stp, isEff, sgl, sty, stq, ty23, ty24, ty99, ty3, ty5, rs95]))
  refine st_all m7 sz99 rfl (by decide) rfl rfl rfl fun h8 m8 f8 => ?_
  have s8 : HS h3 h8 := (HS.refl h3).upd n7 (fun j hj => (f8 j hj).trans (f7 j hj))
  refine mk_of ?_; repeat' (first | (with_reducible first | refine gw_seq ?_ | refine gw_block ?_) | ((first | (with_reducible refine mk_to ?_) | (with_reducible first | refine gw_region ?_ | refine gw_if ?_ | refine gw_skip ?_ | refine gw_exit ?_ | refine gw_ret ?_) | ((with_reducible first | refine gif_b (fun hb => ?_) (fun hb => ?_) | refine want_t (fun hb => ?_) (fun hb => ?_) | refine want_f (fun hb => ?_) (fun hb => ?_) | refine dr_t (fun hb => ?_) (fun hb => ?_) | refine dr_f (fun hb => ?_) (fun hb => ?_)) <;> (try simp only [hb]) <;> (try simp only [hpr] at hb)) | with_reducible refine gw_draw (id := 5) [(0, []), (1, []), (2, []), (4, []), (5, []), (3, [5]), (6, []), (7, []), (8, []), (9, []), (10, [])] [0, 0, 2, 6, 0, 16, 62, 126, 254, 511, 1023] mixed (by kernel_rfl) ?_) <;> try simp only [gop, gyield, gLenX, gNilM, gField, gIndexV, gPart, reduceIte, seval, Int.cast_ofNat_Int, stz, stp, isEff, sgl, sty, stq, ty23, ty24, ty99, ty3, ty5, rs95, gload1 m8 sz24, List.getElem?_cons_zero, List.getElem?_cons_succ]))
  refine (c_BClone N h8 (q1.hs s8) hpl.1).mono ?_
  rintro _ h9 ⟨s9, o9⟩
  obtain ⟨a9, c9, rfl⟩ := o9.form
  refine mk_of ?_; repeat' (first | (with_reducible first | refine gw_seq ?_ | refine gw_block ?_) | ((first | (with_reducible refine mk_to ?_) | (with_reducible first | refine gw_region ?_ | refine gw_if ?_ | refine gw_skip ?_ | refine gw_exit ?_ | refine gw_ret ?_) | ((with_reducible first | refine gif_b (fun hb => ?_) (fun hb => ?_) | refine want_t (fun hb => ?_) (fun hb => ?_) | refine want_f (fun hb => ?_) (fun hb => ?_) | refine dr_t (fun hb => ?_) (fun hb => ?_) | refine dr_f (fun hb => ?_) (fun hb => ?_)) <;> (try simp only [hb]) <;> (try simp only [hpr] at hb)) | with_reducible refine gw_draw (id := 5) [(0, []), (1, []), (2, []), (4, []), (5, []), (3, [5]), (6, []), (7, []), (8, []), (9, []), (10, [])] [0, 0, 2, 6, 0, 16, 62, 126, 254, 511, 1023] mixed (by kernel_rfl) ?_) <;> try simp only [gop, gyield, gLenX, gNilM, gField, gIndexV, gPart, reduceIte, seval, Int.cast_ofNat_Int, stz, stp, isEff, sgl, sty, stq, ty23, ty24, ty99, ty3, ty5, rs95, gload1 (s9 _ _ m8) sz24, List.getElem?_cons_zero, List.getElem?_cons_succ]))
  refine (c_BClone N h9 ((q2.hs s8).hs s9) hpl.2).mono ?_
  rintro _ h10 ⟨s10, o10⟩
  obtain ⟨a10, c10, rfl⟩ := o10.form
  refine mk_of ?_; repeat' (first | (with_reducible first | refine gw_seq ?_ | refine gw_block ?_) | ((first | (with_reducible refine mk_to ?_) | (with_reducible first | refine gw_region ?_ | refine gw_if ?_ | refine gw_skip ?_ | refine gw_exit ?_ | refine gw_ret ?_) | ((with_reducible first | refine gif_b (fun hb => ?_) (fun hb => ?_) | refine want_t (fun hb => ?_) (fun hb => ?_) | refine want_f (fun hb => ?_) (fun hb => ?_) | refine dr_t (fun hb => ?_) (fun hb => ?_) | refine dr_f (fun hb => ?_) (fun hb => ?_)) <;> (try simp only [hb]) <;> (try simp only [hpr] at hb)) | with_reducible refine gw_draw (id := 5) [(0, []), (1, []), (2, []), (4, []), (5, []), (3, [5]), (6, []), (7, []), (8, []), (9, []), (10, [])] [0, 0, 2, 6, 0, 16, 62, 126, 254, 511, 1023] mixed (by kernel_rfl) ?_) <;> try simp only [gop, gyield, gLenX, gNilM, gField, gIndexV, gPart, reduceIte, seval, Int.cast_ofNat_Int, stz, stp, isEff, sgl, sty, stq, ty23, ty24, ty99, ty3, ty5, rs95, gBuild, lfill, lput, Shape.pl, List.all_cons, List.all_nil, isCell]))
  refine bsn1_g el23 rfl rfl (by decide) (by decide) rfl fun k11 h11 b11 s11 f11 n11 => ?_
  have s311 : HS h3 h11 := ((s8.trans s9).trans s10).trans s11
  have en3 : n3 = i := by
    obtain ⟨_, _, q⟩ := o3.form
    cases q; rfl
  subst en3
  have hd3 := o3.len
  refine mk_of ?_; repeat' (first | (with_reducible first | refine gw_seq ?_ | refine gw_block ?_) | ((first | (with_reducible refine mk_to ?_) | (with_reducible first | refine gw_region ?_ | refine gw_if ?_ | refine gw_skip ?_ | refine gw_exit ?_ | refine gw_ret ?_) | ((with_reducible first | refine gif_b (fun hb => ?_) (fun hb => ?_) | refine want_t (fun hb => ?_) (fun hb => ?_) | refine want_f (fun hb => ?_) (fun hb => ?_) | refine dr_t (fun hb => ?_) (fun hb => ?_) | refine dr_f (fun hb => ?_) (fun hb => ?_)) <;> (try simp only [hb]) <;> (try simp only [hpr] at hb)) | with_reducible refine gw_draw (id := 5) [(0, []), (1, []), (2, []), (4, []), (5, []), (3, [5]), (6, []), (7, []), (8, []), (9, []), (10, [])] [0, 0, 2, 6, 0, 16, 62, 126, 254, 511, 1023] mixed (by kernel_rfl) ?_) <;> try simp only [gop, gyield, gLenX, gNilM, gField, gIndexV, gPart, reduceIte, seval, Int.cast_ofNat_Int, stz, stp, isEff, sgl, sty, stq, ty23, ty24, ty99, ty3, ty5, rs95]))
  refine append_ownc el23 Try.underlying23 rfl (s3.trans s311) (o3.hs s311) b11 rfl rfl (by omega) (by simp only [maxLen]; omega) fun v12 h12 s12 fr12 o12 => ?_
  obtain ⟨a12, c12, rfl⟩ := o12.form
  have u8 := isSl_u8 sl3
  have keep : ∀ {q : List Value} {ee : Bnd}, Bd h11 q ee → Bd h12 q ee := fun {q ee} w => by
    obtain ⟨a, n, c, b, m, d, e, r1, r2⟩ := w
    exact ⟨a, n, c, b, m, d, e, fr_rb fr12 u8 r1, fr_rb fr12 u8 r2⟩
  refine mk_of ?_; repeat' (first | (with_reducible first | refine gw_seq ?_ | refine gw_block ?_) | ((first | (with_reducible refine mk_to ?_) | (with_reducible first | refine gw_region ?_ | refine gw_if ?_ | refine gw_skip ?_ | refine gw_exit ?_ | refine gw_ret ?_) | ((with_reducible first | refine gif_b (fun hb => ?_) (fun hb => ?_) | refine want_t (fun hb => ?_) (fun hb => ?_) | refine want_f (fun hb => ?_) (fun hb => ?_) | refine dr_t (fun hb => ?_) (fun hb => ?_) | refine dr_f (fun hb => ?_) (fun hb => ?_)) <;> (try simp only [hb]) <;> (try simp only [hpr] at hb)) | with_reducible refine gw_draw (id := 5) [(0, []), (1, []), (2, []), (4, []), (5, []), (3, [5]), (6, []), (7, []), (8, []), (9, []), (10, [])] [0, 0, 2, 6, 0, 16, 62, 126, 254, 511, 1023] mixed (by kernel_rfl) ?_) <;> try simp only [gop, gyield, gLenX, gNilM, gField, gIndexV, gPart, reduceIte, seval, Int.cast_ofNat_Int, stz, stp, isEff, sgl, sty, stq, ty23, ty24, ty99, ty3, ty5, rs95, wi]))
  refine ⟨_, (n3 + 1, a12, n3 + 1, c12), ?_, (by simp only [List.forall_mem_cons, List.not_mem_nil, false_implies, implies_true, List.map, List.cons_append, List.nil_append, lk, Nat.reduceEqDiff, reduceIte, and_true, true_and]), rfl, by omega, s12, _, o12, by rw [List.all_append, sl3]; rfl, ?_⟩
  · simp only; omega
  · have ht : b.take (n3 + 1) = b.take n3 ++ [p] := by rw [List.take_add_one, hp]; rfl
    rw [ht]
    exact app_el (R := Bd h12) (by rw [hd3, List.length_take, Nat.min_eq_left (by omega)]) rfl (fun i p hp => keep ((bd3 i p hp).hs s311)) (keep ⟨_, _, _, _, _, _, rfl, (o9.rb.hs s10).hs s11, o10.rb.hs s11⟩)
end Go.Gh

/- Ideal: a map that no call made, asked. -/

namespace Go.Gh
open Go Go.Proofs Go.RowKit
set_option linter.unusedVariables false
set_option linter.unusedSimpArgs false
set_option maxRecDepth 100000
set_option maxHeartbeats 2000000

end Go.Gh

/- Ideal: a new map. -/

namespace Go.Gh
open Go Go.Proofs Go.RowKit
set_option linter.unusedVariables false
set_option linter.unusedSimpArgs false
set_option maxRecDepth 100000
set_option maxHeartbeats 2000000

def pms : Pm := ⟨4, 2, 2, 4, 10, 781, 1, 3⟩
theorem c_small16 (N : Nat) (h : GH) : GTri Try.prog N 65 [] h fun v h' => v = pms.v ∧ HS h h' := by
  refine gtri Try.func65 rfl gf65 ok65 (by simp [Try.ntmps65]) ?_
  repeat' (first | (with_reducible first | refine gw_seq ?_ | refine gw_block ?_) | ((first | (with_reducible first | refine gw_region ?_ | refine gw_if ?_ | refine gw_skip ?_ | refine gw_exit ?_ | refine gw_ret ?_) | ((with_reducible first | refine gif_b (fun hb => ?_) (fun hb => ?_) | refine want_t (fun hb => ?_) (fun hb => ?_) | refine want_f (fun hb => ?_) (fun hb => ?_)) <;> (try simp only [hb]) <;> (try simp only [hpr] at hb))) <;> try simp only [gop, gyield, gLenX, gNilM, gField, gIndexV, gPart, reduceIte, seval, Int.cast_ofNat_Int, stz, stp, ty65, ty3, rs65, gBuild, lfill, lput, Shape.pl, List.all_cons, List.all_nil, isCell]))
  refine new_g fun k1 h1 m1 s1 f1 n1 => ?_
  simp only [gop, gyield, gLenX, gNilM, gField, gIndexV, gPart, reduceIte, seval, Int.cast_ofNat_Int, stz, stp, ty65, ty3, rs65]
  repeat' (first | (with_reducible first | refine gw_seq ?_ | refine gw_block ?_) | ((first | (with_reducible first | refine gw_region ?_ | refine gw_if ?_ | refine gw_skip ?_ | refine gw_exit ?_ | refine gw_ret ?_) | ((with_reducible first | refine gif_b (fun hb => ?_) (fun hb => ?_) | refine want_t (fun hb => ?_) (fun hb => ?_) | refine want_f (fun hb => ?_) (fun hb => ?_)) <;> (try simp only [hb]) <;> (try simp only [hpr] at hb))) <;> try simp only [gop, gyield, gLenX, gNilM, gField, gIndexV, gPart, reduceIte, seval, Int.cast_ofNat_Int, stz, stp, ty65, ty3, rs65, gBuild, lfill, lput, Shape.pl, List.all_cons, List.all_nil, isCell]))
  refine st_all m1 sz65 rfl (by decide) rfl rfl rfl fun h2 m2 f2 => ?_
  simp only [gop, gyield, gLenX, gNilM, gField, gIndexV, gPart, reduceIte, seval, Int.cast_ofNat_Int, stz, stp, ty65, ty3, rs65]
  repeat' (first | (with_reducible first | refine gw_seq ?_ | refine gw_block ?_) | ((first | (with_reducible first | refine gw_region ?_ | refine gw_if ?_ | refine gw_skip ?_ | refine gw_exit ?_ | refine gw_ret ?_) | ((with_reducible first | refine gif_b (fun hb => ?_) (fun hb => ?_) | refine want_t (fun hb => ?_) (fun hb => ?_) | refine want_f (fun hb => ?_) (fun hb => ?_)) <;> (try simp only [hb]) <;> (try simp only [hpr] at hb))) <;> try simp only [gop, gyield, gLenX, gNilM, gField, gIndexV, gPart, reduceIte, seval, Int.cast_ofNat_Int, stz, stp, ty65, ty3, rs65, gloadA m2 sz65 rfl]))
  have s2 := (HS.refl h).upd n1 (fun j hj => (f2 j hj).trans (f1 j hj))
  first | exact s2 | exact ⟨rfl, s2⟩
end Go.Gh

/- Ideal: a map in memory. -/

namespace Go.Gh
open Go Go.Proofs Go.RowKit
set_option linter.unusedVariables false
set_option linter.unusedSimpArgs false
set_option maxRecDepth 100000
set_option maxHeartbeats 2000000

/-- An identity's changes in batches, the first of which has the number e. -/
def sps : Nat → List (List Bnd) → List UInt8 → List (Nat × Nat)
  | _, [], _ => []
  | e, b :: M, id => newsp e b b.length id ++ sps (e + 1) M id
theorem sps_app (b : List Bnd) (id : List UInt8) : ∀ (M : List (List Bnd)) (e : Nat), sps e (M ++ [b]) id = sps e M id ++ newsp (e + M.length) b b.length id
  | [], e => by simp [sps]
  | c :: M, e => by
    have := sps_app b id M (e + 1)
    simp only [List.cons_append, sps, this, List.append_assoc, List.length_cons]
    rw [show e + 1 + M.length = e + (M.length + 1) by omega]
theorem newsp_mem2 {ep : Nat} {b : List Bnd} {id : List UInt8} {p : Nat × Nat} : ∀ {i : Nat}, p ∈ newsp ep b i id → (bat1 b p.2).1 = id
  | 0, h => by simp [newsp] at h
  | i + 1, h => by
    rcases List.mem_append.1 h with h | h
    · exact newsp_mem2 h
    · split at h
      · rename_i e
        obtain rfl := List.mem_singleton.1 h
        exact e.symm
      · simp at h
theorem sps_mem {id : List UInt8} {p : Nat × Nat} : ∀ {M : List (List Bnd)} {e : Nat}, p ∈ sps e M id → e ≤ p.1 ∧ p.1 < e + M.length ∧ ∃ b, M[p.1 - e]? = some b ∧ p.2 < b.length ∧ (bat1 b p.2).1 = id
  | [], e, h => by simp [sps] at h
  | c :: M, e, h => by
    rcases List.mem_append.1 h with h | h
    · obtain ⟨h1, h2⟩ := newsp_mem h
      exact ⟨by omega, by simp only [List.length_cons]; omega, c, by rw [h1]; simp, h2, newsp_mem2 h⟩
    · obtain ⟨h1, h2, b, h3, h4⟩ := sps_mem h
      refine ⟨by omega, by simp only [List.length_cons]; omega, b, ?_, h4⟩
      rw [show p.1 - e = p.1 - (e + 1) + 1 by omega, List.getElem?_cons_succ]; exact h3
theorem ris_app {a b : List (Nat × Nat)} (ha : Rising a) (hb : Rising b) (h : ∀ p ∈ a, ∀ q ∈ b, p.1 ≤ q.1) : Rising (a ++ b) := by
  intro i j p q hij hp hq
  rw [List.getElem?_append] at hp hq
  by_cases h1 : i < a.length
  · rw [if_pos h1] at hp
    by_cases h2 : j < a.length
    · rw [if_pos h2] at hq; exact ha i j p q hij hp hq
    · rw [if_neg h2] at hq; exact h p (List.mem_of_getElem? hp) q (List.mem_of_getElem? hq)
  · rw [if_neg h1] at hp
    rw [if_neg (by omega)] at hq
    exact hb _ _ p q (by omega) hp hq
theorem sps_ris (id : List UInt8) : ∀ (M : List (List Bnd)) (e : Nat), Rising (sps e M id)
  | [], e => fun i j p q _ hp => by simp [sps] at hp
  | c :: M, e => ris_app (fun i j p q _ hp hq => by
      have h1 := (newsp_mem (List.mem_of_getElem? hp)).1
      have h2 := (newsp_mem (List.mem_of_getElem? hq)).1
      omega) (sps_ris id M (e + 1)) fun p hp q hq => by
      have h1 := (newsp_mem hp).1
      have h2 := (sps_mem hq).1
      omega
def tot (M : List (List Bnd)) : Nat := (M.map (·.length)).sum
theorem sps_len (id : List UInt8) : ∀ (M : List (List Bnd)) (e : Nat), (sps e M id).length ≤ tot M
  | [], e => by simp [sps]
  | c :: M, e => by
    have h1 := newsp_len e c id c.length
    have h2 := sps_len id M (e + 1)
    simp only [sps, List.length_append, tot, List.map_cons, List.sum_cons] at *
    omega
/-- The epochs of changes, as cells. -/
def epc (s : List (Nat × Nat)) : List Value := s.map fun p => .int .i64 (p.1 : Int)
def H0 : GH := fun _ => none
theorem H0.hs (h : GH) : HS H0 h := fun _ _ e => by cases e

/-- The slice of epochs. -/
def EPS (h0 h : GH) (v : Value) (n : Nat) (cs : List Value) : Prop :=
  ∃ kb c tl, v = .slice (some ⟨kb, 0, none⟩) n c ∧ n ≠ 0 ∧ cs.length = n * 2 ∧ h kb = some ⟨cs, 2, true, tl⟩ ∧ h0 kb = none ∧ (tl = true ∧ c % 2 = 0 ∧ 2 * n ≤ c ∨ tl = false ∧ c = 2 * n + 1)
theorem EPS.hs {h0 h h' : GH} {v : Value} {n : Nat} {cs : List Value} (o : EPS h0 h v n cs) (s : HS h h') : EPS h0 h' v n cs := by
  obtain ⟨kb, c, tl, h1, h2, h3, h4, h5⟩ := o
  exact ⟨kb, c, tl, h1, h2, h3, s _ _ h4, h5⟩
theorem EPS.hx {h0 h h' : GH} {v : Value} {n : Nat} {cs : List Value} (o : EPS h0 h v n cs) {k : Nat} {B : GB} (hk : h k = some B) (he : B.es ≠ 2) (x : HX k h h') : EPS h0 h' v n cs := by
  obtain ⟨kb, c, tl, h1, h2, h3, h4, h5⟩ := o
  exact ⟨kb, c, tl, h1, h2, h3, x _ _ (fun e => by rw [e, hk] at h4; cases h4; exact he rfl) h4, h5⟩
theorem EPS.form {h0 h : GH} {v : Value} {n : Nat} {cs : List Value} (o : EPS h0 h v n cs) : ∃ a c, v = .slice (some a) n c := by
  obtain ⟨kb, c, tl, h1, _⟩ := o
  exact ⟨_, _, h1⟩
theorem EPS.at {P : Program} {t e : Nat} {b : Bool} {h0 h : GH} {v : Value} {n : Nat} {cs : List Value} (o : EPS h0 h v n cs) (ht : P.underlying t = some (.slice e)) (he : gsz P e = some (b, 2)) {i : Nat} (hi : i < n) :
    ∃ k tl, gIndex P t v (i : Int) = some (.pointer (some ⟨k, i * 2, none⟩)) ∧ h k = some ⟨cs, 2, true, tl⟩ := by
  obtain ⟨kb, c, tl, rfl, h2, h3, h4, h5⟩ := o
  exact ⟨kb, tl, gIndex_own ht he hi, h4⟩
theorem append_eps {P : Program} {t u e by_ : Nat} {z : Value} {du : TypeDesc} {h0 h : GH} {s x : Value} {n : Nat} {cs xs : List Value} {K : Value → GH → Prop} (hel : gel P t = some (e, 2, by_, z)) (hu : P.underlying u = some du) (hni : notInt du = true)
    (hs0 : HS h0 h) (o : EPS h0 h s n cs) (hsrc : gSrc h 2 x = some (1, xs)) (hxl : xs.length = 2) (hcell : xs.all isCell = true) (hsz : (n + 1) * by_ ≤ 140737488355328) (hml : n + 1 ≤ maxLen)
    (k : ∀ v h', HS h0 h' → (∀ j B, h j = some B → (∀ tl, B ≠ ⟨cs, 2, true, tl⟩) → h' j = some B) → EPS h0 h' v (n + 1) (cs ++ xs) → K v h') : gAppendX P t u h s x K := by
  obtain ⟨kb, c, tl, rfl, hn, hcl, hkb, hk0, ⟨rfl, hc1, hc2⟩ | ⟨rfl, rfl⟩⟩ := o
  · refine append_ownc hel hu hni hs0 (.inr (.inr ⟨kb, c, rfl, hc1, hc2, hn, hcl, hkb, hk0⟩)) hsrc (by omega) hcell hsz hml fun v h' s' fr o' => ?_
    refine k v h' s' (fun j B hj hne => fr j B hj fun _ kb' c' e _ hk e2 => ?_) ?_
    · rw [e2, hk] at hj
      cases hj
      exact hne true rfl
    · rcases o' with ⟨_, q, _⟩ | ⟨_, _, q, _⟩ | ⟨k2, c2, h1, h2, h3, h4, h5, h6, h7⟩
      · omega
      · omega
      · exact ⟨k2, c2, true, h1, h4, h5, h6, h7, .inl ⟨rfl, h2, h3⟩⟩
  · refine .inl ⟨du, e, 2, by_, z, 1, xs, hu, hni, hel, hsrc, e, 2, by_, z, hel, by omega, hcell, ?_⟩
    refine .inr ⟨by omega, hml, hsz, .inl ⟨cs, gread_lit hkb (by rw [List.drop_zero]; exact List.take_of_length_le (by show cs.length ≤ _; omega)) hcl, by omega, by omega, fun k0 hk0' => ?_⟩⟩
    have hS := HS.new hk0' ⟨cs ++ xs, 2, true, true⟩
    exact k _ _ (hs0.trans hS) (fun j B hj _ => hS j B hj) ⟨k0, 2 * (n + 1), true, rfl, by omega, by rw [List.length_append, hcl, hxl]; omega, by rw [hset_same], hs0.none_of hk0', .inl ⟨rfl, by omega, by omega⟩⟩

/-- A map in memory. -/
structure IS (h0 h : GH) (k j : Nat) (p : Pm) (ew : Value) (cs l : List Value) (M : List (Int × List Bnd)) (ck : Int) (n : Nat) (S : List UInt8 → List (Nat × Nat)) : Prop where
  obj : h k = some ⟨[.int .i64 p.s, .int .i64 p.ht, .int .i64 p.mi, .int .i64 p.my, .int .i64 p.ch, .int .i64 p.ar, .int .i64 p.ca, .int .i64 p.pg, ew, .int .i64 ck, .int .i64 (n : Int), .map (some j)], 0, true, false⟩
  nk : h0 k = none
  mp : h (j + 1) = some ⟨MM :: l, 0, true, false⟩
  nj : h0 (j + 1) = none
  ok : mok l = true
  u8 : l.all notU8 = true
  ep : EPS h0 h ew M.length cs
  eps : ∀ (e : Nat) x, M[e]? = some x → ∃ v, (cs.drop (e * 2)).take 2 = [.int .i64 x.1, v] ∧ Bat H0 h v x.2
  sp : ∀ id, OWNC 1 H0 h (mget l id) (S id).length (epc (S id))
  cu8 : cs.all notU8 = true
  bl : ∀ x ∈ M, small x.2 ∧ x.2.length ≤ 32
  len : M.length ≤ 256
  tt : n = tot (M.map (·.2))
  nch : (n : Int) ≤ p.ch
  may : p.may = true
  ks : (mkeys l).Nodup ∧ (∀ k ∈ mkeys l, S k.data.toList ≠ []) ∧ (∀ x ∈ M, x.2 = [] ∨ chkB p x.2 = 0) ∧ M.Pairwise (fun a b => a.1 ≤ b.1) ∧ ∀ x ∈ M, x.1 ≤ ck
abbrev IM (h0 h : GH) (k j : Nat) (p : Pm) (ew : Value) (cs l : List Value) (M : List (Int × List Bnd)) (ck : Int) (n : Nat) : Prop := IS h0 h k j p ew cs l M ck n (sps 0 (M.map (·.2)))
theorem IS.hs {h0 h h' : GH} {k j : Nat} {p : Pm} {ew : Value} {cs l : List Value} {M : List (Int × List Bnd)} {ck : Int} {n : Nat} {S : List UInt8 → List (Nat × Nat)} (x : IS h0 h k j p ew cs l M ck n S) (s : HS h h') : IS h0 h' k j p ew cs l M ck n S :=
  ⟨s _ _ x.obj, x.nk, s _ _ x.mp, x.nj, x.ok, x.u8, x.ep.hs s, fun e b hb => by obtain ⟨v, h1, h2⟩ := x.eps e b hb; exact ⟨v, h1, h2.hs s⟩, fun id => (x.sp id).hs s, x.cu8, x.bl, x.len, x.tt, x.nch, x.may, x.ks⟩
theorem IS.pos {h0 h : GH} {k j : Nat} {p : Pm} {ew : Value} {cs l : List Value} {M : List (Int × List Bnd)} {ck : Int} {n : Nat} {S : List UInt8 → List (Nat × Nat)} (x : IS h0 h k j p ew cs l M ck n S) : M.length ≠ 0 := by
  obtain ⟨_, _, _, _, h2, _⟩ := x.ep
  exact h2
theorem IS.n4 {h0 h : GH} {k j : Nat} {p : Pm} {ew : Value} {cs l : List Value} {M : List (Int × List Bnd)} {ck : Int} {n : Nat} {S : List UInt8 → List (Nat × Nat)} (x : IS h0 h k j p ew cs l M ck n S) : n ≤ 4096 := by
  have h1 := x.nch
  have h2 := p.may_iff.1 x.may
  omega
theorem IS.look {h0 h : GH} {k j : Nat} {p : Pm} {ew : Value} {cs l : List Value} {M : List (Int × List Bnd)} {ck : Int} {n : Nat} {S : List UInt8 → List (Nat × Nat)} (x : IS h0 h k j p ew cs l M ck n S) (id : List UInt8) : gLookup Try.prog 89 h (.map (some j)) (.string (bstr id)) false = some (mget l id) := by
  simp only [gLookup, sm89, gMapOf, x.mp, x.ok, gz89, mget, if_true]
  cases mfind (bstr id) l <;> simp

theorem c_inone (N : Nat) {h0 h : GH} {k j : Nat} {p : Pm} {ew : Value} {cs l : List Value} {M : List (Int × List Bnd)} {ck : Int} {n : Nat} {S : List UInt8 → List (Nat × Nat)} (x : IS h0 h k j p ew cs l M ck n S) : GTri Try.prog N 69 [.pointer (some ⟨k, 0, none⟩)] h fun v h' => v = .bool false ∧ h' = h := by
  obtain ⟨a, c, e⟩ := x.ep.form
  have ho := x.obj
  rw [e] at ho
  have d0 : ((M.length : Int) == 0) = false := by have := x.pos; rw [beq_eq_false_iff_ne]; omega
  refine gtri Try.func69 rfl gf69 ok69 (by simp [Try.ntmps69]) ?_
  repeat' (first | (with_reducible first | refine gw_seq ?_ | refine gw_block ?_) | ((first | (with_reducible first | refine gw_region ?_ | refine gw_if ?_ | refine gw_skip ?_ | refine gw_exit ?_ | refine gw_ret ?_) | ((with_reducible first | refine gif_b (fun hb => ?_) (fun hb => ?_) | refine want_t (fun hb => ?_) (fun hb => ?_) | refine want_f (fun hb => ?_) (fun hb => ?_)) <;> (try simp only [hb]) <;> (try simp only [hpr] at hb))) <;> try simp only [gop, gyield, gLenX, gNilM, gField, gIndexV, gPart, reduceIte, seval, Int.cast_ofNat_Int, stz, stp, Try.underlying89, ty88, ty136, ty65, ty91, ty3, ty63, ty89, rs69, gEq, gload1 ho sz88, d0, List.getElem?_cons_zero, List.getElem?_cons_succ]))
theorem c_iEpoch (N : Nat) {h0 h : GH} {k j : Nat} {p : Pm} {ew : Value} {cs l : List Value} {M : List (Int × List Bnd)} {ck : Int} {n : Nat} {S : List UInt8 → List (Nat × Nat)} (x : IS h0 h k j p ew cs l M ck n S) : GTri Try.prog N 31 [.pointer (some ⟨k, 0, none⟩)] h fun v h' => v = .int .i64 ((M.length - 1 : Nat) : Int) ∧ h' = h := by
  obtain ⟨a, c, e⟩ := x.ep.form
  have ho := x.obj
  rw [e] at ho
  have hp := x.pos
  have hl := x.len
  have w : IntKind.i64.wrap ((M.length : Int) - 1) = ((M.length - 1 : Nat) : Int) := by rw [wrap64 (by omega) (by omega)]; omega
  refine gtri Try.func31 rfl gf31 ok31 (by simp [Try.ntmps31]) ?_
  refine mk_of ?_; repeat' (first | (with_reducible first | refine gw_seq ?_ | refine gw_block ?_) | ((first | (with_reducible refine mk_to ?_) | (with_reducible first | refine gw_region ?_ | refine gw_if ?_ | refine gw_skip ?_ | refine gw_exit ?_ | refine gw_ret ?_) | ((with_reducible first | refine gif_b (fun hb => ?_) (fun hb => ?_) | refine want_t (fun hb => ?_) (fun hb => ?_) | refine want_f (fun hb => ?_) (fun hb => ?_)) <;> (try simp only [hb]) <;> (try simp only [hpr] at hb)) | ((refine GTri.mono (c_inone _ x) ?_); rintro _ _ ⟨rfl, hh9⟩; replace hh9 := hh9.symm; subst hh9)) <;> try simp only [gop, gyield, gLenX, gNilM, gField, gIndexV, gPart, reduceIte, seval, Int.cast_ofNat_Int, stz, stp, Try.underlying89, ty88, ty136, ty65, ty91, ty3, ty63, ty89, rs31, gNil, gload1 ho sz88, w, List.getElem?_cons_zero, List.getElem?_cons_succ]))
theorem c_iChanges (N : Nat) {h0 h : GH} {k j : Nat} {p : Pm} {ew : Value} {cs l : List Value} {M : List (Int × List Bnd)} {ck : Int} {n : Nat} {S : List UInt8 → List (Nat × Nat)} (x : IS h0 h k j p ew cs l M ck n S) : GTri Try.prog N 44 [.pointer (some ⟨k, 0, none⟩)] h fun v h' => v = .int .i64 (n : Int) ∧ h' = h := by
  refine gtri Try.func44 rfl gf44 ok44 (by simp [Try.ntmps44]) ?_
  refine mk_of ?_; repeat' (first | (with_reducible first | refine gw_seq ?_ | refine gw_block ?_) | ((first | (with_reducible refine mk_to ?_) | (with_reducible first | refine gw_region ?_ | refine gw_if ?_ | refine gw_skip ?_ | refine gw_exit ?_ | refine gw_ret ?_) | ((with_reducible first | refine gif_b (fun hb => ?_) (fun hb => ?_) | refine want_t (fun hb => ?_) (fun hb => ?_) | refine want_f (fun hb => ?_) (fun hb => ?_)) <;> (try simp only [hb]) <;> (try simp only [hpr] at hb)) | ((refine GTri.mono (c_inone _ x) ?_); rintro _ _ ⟨rfl, hh9⟩; replace hh9 := hh9.symm; subst hh9)) <;> try simp only [gop, gyield, gLenX, gNilM, gField, gIndexV, gPart, reduceIte, seval, Int.cast_ofNat_Int, stz, stp, Try.underlying89, ty88, ty65, ty91, ty3, ty63, ty89, rs44, gNil, gload1 x.obj sz3, List.getElem?_cons_zero, List.getElem?_cons_succ]))
end Go.Gh

/- Ideal: a new map; what stays while it is written. -/

namespace Go.Gh
open Go Go.Proofs Go.RowKit
set_option linter.unusedVariables false
set_option linter.unusedSimpArgs false
set_option maxRecDepth 100000
set_option maxHeartbeats 2000000

/-- Blocks that stay while a map is written. -/
def kpB (B : GB) : Prop := B.cells.all notU8 = false ∨ B.es = 1 ∨ (B.es = 2 ∧ ∃ a b c r, B.cells = .slice a b c :: r)
def MF (h h' : GH) : Prop := ∀ j B, h j = some B → kpB B → h' j = some B
theorem MF.of {h h' : GH} (s : HS h h') : MF h h' := fun j B e _ => s j B e
theorem MF.trans {a b c : GH} (x : MF a b) (y : MF b c) : MF a c := fun j B e q => y j B (x j B e q) q
theorem MF.upd {h h' : GH} {k : Nat} {B : GB} (m : h k = some B) (hB : B.es = 0) (hu : B.cells.all notU8 = true) (f : ∀ j, j ≠ k → h' j = h j) : MF h h' := fun j C e q => by
  rw [f j (fun ee => by
    rw [ee, m] at e; cases e
    rcases q with q | q | ⟨q, _⟩
    · rw [hu] at q; cases q
    · omega
    · omega)]
  exact e
theorem RB.mf {h h' : GH} {v : Value} {l : List UInt8} (r : RB h v l) (f : MF h h') : RB h' v l := by
  rcases r with r | ⟨ad, c, h1, h2, h3⟩
  · exact .inl r
  · refine .inr ⟨ad, c, h1, ?_, h3⟩
    by_cases h0 : l.length = 0
    · rw [h0] at h2 ⊢; simp only [gread, if_true] at h2 ⊢; exact h2
    · have h2' := h2
      unfold gread at h2
      rw [if_neg h0] at h2
      split at h2
      case h_2 => cases h2
      rename_i B hs hB
      have hb : bv (l[0]'(by omega)) ∈ B.cells := gread_mem h2' h0 hB _ (List.mem_map.2 ⟨_, List.getElem_mem _, rfl⟩)
      have := f _ B hB (.inl (by
        cases e : B.cells.all notU8 with
        | false => rfl
        | true => rw [List.all_eq_true] at e; have := e _ hb; simp [notU8, bv] at this))
      unfold gread
      rw [if_neg h0, hs, this]
      exact h2
theorem Bd.mf {h h' : GH} (f : MF h h') {cs : List Value} {y : Bnd} (r : Bd h cs y) : Bd h' cs y := by
  obtain ⟨a, n, c, b, m, d, e, r1, r2⟩ := r
  exact ⟨a, n, c, b, m, d, e, r1.mf f, r2.mf f⟩
theorem OWNC.mf1 {h0 h h' : GH} {v : Value} {n : Nat} {cs : List Value} (o : OWNC 1 h0 h v n cs) (f : MF h h') : OWNC 1 h0 h' v n cs := by
  rcases o with o | o | ⟨k, c, h1, h2, h3, h4, h5, h6, h7⟩
  · exact .inl o
  · exact .inr (.inl o)
  · exact .inr (.inr ⟨k, c, h1, h2, h3, h4, h5, f _ _ h6 (.inr (.inl rfl)), h7⟩)
theorem Bat.mf {h h' : GH} {v : Value} {b : List Bnd} (x : Bat H0 h v b) (f : MF h h') : Bat H0 h' v b := by
  obtain ⟨ds, o, r⟩ := x
  refine ⟨ds, ?_, fun i p hp => (r i p hp).mf f⟩
  rcases o with o | o | ⟨k, c, h1, h2, h3, h4, h5, h6, h7⟩
  · exact .inl o
  · exact .inr (.inl o)
  · refine .inr (.inr ⟨k, c, h1, h2, h3, h4, h5, f _ _ h6 (.inr (.inr ⟨rfl, ?_⟩)), h7⟩)
    obtain ⟨p, hp⟩ : ∃ p, b[0]? = some p := ⟨_, List.getElem?_eq_getElem (by omega)⟩
    obtain ⟨a, n, c, b', m, d, e, _⟩ := r 0 p hp
    rw [Nat.zero_mul, List.drop_zero] at e
    cases ds with
    | nil => cases e
    | cons x ds =>
      simp only [List.take_succ_cons] at e
      injection e with e1 e2
      exact ⟨_, _, _, _, by rw [e1]⟩
/-- The array of epochs is written; what is kept stays. -/
theorem MF.eps {h h' : GH} {cs : List Value} (hc : cs.all notU8 = true) (hi : ∃ t r, cs = .int .i64 t :: r) (f : ∀ j B, h j = some B → (∀ tl, B ≠ ⟨cs, 2, true, tl⟩) → h' j = some B) : MF h h' := fun j B e q => f j B e fun tl hB => by
  subst hB
  rcases q with q | q | ⟨_, a, b, c, r, q⟩
  · rw [hc] at q; cases q
  · cases q
  · obtain ⟨t, r', e'⟩ := hi
    rw [e'] at q; cases q
theorem IS.first {h0 h : GH} {k j : Nat} {p : Pm} {ew : Value} {cs l : List Value} {M : List (Int × List Bnd)} {ck : Int} {n : Nat} {S : List UInt8 → List (Nat × Nat)} (x : IS h0 h k j p ew cs l M ck n S) : ∃ t r, cs = .int .i64 t :: r := by
  obtain ⟨y, hy⟩ : ∃ y, M[0]? = some y := ⟨_, List.getElem?_eq_getElem (by have := x.pos; omega)⟩
  obtain ⟨v, h1, _⟩ := x.eps 0 y hy
  rw [Nat.zero_mul, List.drop_zero] at h1
  cases cs with
  | nil => cases h1
  | cons z cs =>
    simp only [List.take_succ_cons] at h1
    injection h1 with e1 e2
    exact ⟨_, _, by rw [e1]⟩
/-- A map's table is written. -/
theorem IS.put {h0 h h' : GH} {k j : Nat} {p : Pm} {ew v : Value} {cs l : List Value} {M : List (Int × List Bnd)} {ck : Int} {n : Nat} {S S' : List UInt8 → List (Nat × Nat)} (x : IS h0 h k j p ew cs l M ck n S) (id : List UInt8) (m : h' (j + 1) = some ⟨MM :: mset (bstr id) v l, 0, true, false⟩) (f : ∀ i, i ≠ j + 1 → h' i = h i) (hv : notU8 v = true)
    (o : OWNC 1 H0 h v (S' id).length (epc (S' id))) (hS : ∀ i, i ≠ id → S' i = S i) (hne : S' id ≠ []) : IS h0 h' k j p ew cs (mset (bstr id) v l) M ck n S' := by
  have hkj : k ≠ j + 1 := fun e => by have h1 := x.obj; rw [e, x.mp] at h1; cases h1
  have mf : MF h h' := MF.upd x.mp rfl (by simp [notU8, x.u8]) f
  refine ⟨(f k hkj).trans x.obj, x.nk, m, x.nj, (mfind_mset _ (bstr []) _ _ x.ok).1, mset_all _ _ _ rfl hv _ x.u8, x.ep.hx x.mp (by simp) (fun i B n e => (f i n).trans e), fun e b hb => ?_, fun i => ?_, x.cu8, x.bl, x.len, x.tt, x.nch, x.may, mset_nd x.ok x.ks.1, fun k hk => ?_, x.ks.2.2⟩
  · obtain ⟨v, h1, h2⟩ := x.eps e b hb; exact ⟨v, h1, h2.mf mf⟩
  · rw [mget_mset x.ok]
    by_cases hi : i = id
    · subst hi; rw [if_pos rfl]; exact o.mf1 mf
    · rw [if_neg hi, hS i hi]; exact (x.sp i).mf1 mf
  · by_cases hi : k.data.toList = id
    · rw [hi]; exact hne
    · rw [hS _ hi]
      refine x.ks.2.1 k ?_
      rcases mset_keys (bstr id) v l x.ok with ⟨_, e⟩ | ⟨_, e⟩
      · rw [e] at hk; exact hk
      · rw [e] at hk
        rcases List.mem_append.1 hk with hk | hk
        · exact hk
        · obtain rfl := List.mem_singleton.1 hk
          exact absurd (by simp [bstr]) hi
theorem IS.upS {h0 h : GH} {k j : Nat} {p : Pm} {ew : Value} {cs l : List Value} {M : List (Int × List Bnd)} {ck : Int} {n : Nat} {S S' : List UInt8 → List (Nat × Nat)} (x : IS h0 h k j p ew cs l M ck n S) (e : ∀ id, S' id = S id) : IS h0 h k j p ew cs l M ck n S' := by
  have : S' = S := funext e
  rw [this]; exact x

theorem z136 : zeros (.agg #[.int .i64 0, .slice none 0 0]) (1 * 2) = [.int .i64 0, .slice none 0 0] := by
  have hc : (Value.agg #[.int .i64 0, .slice none 0 0]).cells = #[.int .i64 0, .slice none 0 0] := by
    apply Array.toList_inj.1
    rw [vcells_eq]
    rfl
  simp only [zeros, madeCells, hc, Array.toList_map, Array.toList_range]
  rfl
theorem c_iNew (N : Nat) {h0 h : GH} (s0 : HS h0 h) (p : Pm) : GTri Try.prog N 36 [p.v] h fun v h' => (p.check ≠ 0 ∧ v = .tuple #[.pointer none, .int .i64 p.check] ∨ p.check = 0 ∧ ∃ k j ew cs, v = .tuple #[.pointer (some ⟨k, 0, none⟩), .int .i64 0] ∧ h k = none ∧ IM h0 h' k j p ew cs [] [(0, [])] 0 0) ∧ HS h h' := by
  have hv : p.v = .agg #[.int .i64 p.s, .int .i64 p.ht, .int .i64 p.mi, .int .i64 p.my, .int .i64 p.ch, .int .i64 p.ar, .int .i64 p.ca, .int .i64 p.pg] := rfl
  refine gtri Try.func36 rfl gf36 ok36 (by simp [Try.ntmps36]) ?_
  repeat' (first | (with_reducible first | refine gw_seq ?_ | refine gw_block ?_) | ((first | (with_reducible first | refine gw_region ?_ | refine gw_if ?_ | refine gw_skip ?_ | refine gw_exit ?_ | refine gw_ret ?_) | ((with_reducible first | refine gif_b (fun hb => ?_) (fun hb => ?_) | refine want_t (fun hb => ?_) (fun hb => ?_) | refine want_f (fun hb => ?_) (fun hb => ?_) | refine dr_t (fun hb => ?_) (fun hb => ?_) | refine dr_f (fun hb => ?_) (fun hb => ?_)) <;> (try simp only [hb]) <;> (try simp only [hpr] at hb)) | with_reducible refine gw_draw2 (id := 4) 1 2 [(0, []), (1, [0]), (2, [0]), (3, []), (4, []), (5, []), (6, [])] [0, 0, 2, 7, 15, 31, 63] [(0, []), (2, [0]), (1, [0]), (3, []), (4, []), (5, []), (6, [])] [0, 4, 0, 7, 15, 31, 63] mixed (by kernel_rfl) (by kernel_rfl) (by kernel_rfl) ?_ ?_) <;> try simp only [gop, gyield, gLenX, gNilM, gField, gIndexV, gPart, reduceIte, seval, Int.cast_ofNat_Int, stz, stp, isEff, sgl, sty, stq, Try.underlying89, ty88, ty136, ty65, ty91, ty29, ty3, ty89, rs36, hv]))
  refine box_g rfl fun k1 h1 m1 s1 f1 n1 => ?_
  refine mk_of ?_; repeat' (first | (with_reducible first | refine gw_seq ?_ | refine gw_block ?_) | ((first | (with_reducible refine mk_to ?_) | (with_reducible first | refine gw_region ?_ | refine gw_if ?_ | refine gw_skip ?_ | refine gw_exit ?_ | refine gw_ret ?_) | ((with_reducible first | refine gif_b (fun hb => ?_) (fun hb => ?_) | refine want_t (fun hb => ?_) (fun hb => ?_) | refine want_f (fun hb => ?_) (fun hb => ?_) | refine dr_t (fun hb => ?_) (fun hb => ?_) | refine dr_f (fun hb => ?_) (fun hb => ?_)) <;> (try simp only [hb]) <;> (try simp only [hpr] at hb)) | with_reducible refine gw_draw2 (id := 4) 1 2 [(0, []), (1, [0]), (2, [0]), (3, []), (4, []), (5, []), (6, [])] [0, 0, 2, 7, 15, 31, 63] [(0, []), (2, [0]), (1, [0]), (3, []), (4, []), (5, []), (6, [])] [0, 4, 0, 7, 15, 31, 63] mixed (by kernel_rfl) (by kernel_rfl) (by kernel_rfl) ?_ ?_) <;> try simp only [gop, gyield, gLenX, gNilM, gField, gIndexV, gPart, reduceIte, seval, Int.cast_ofNat_Int, stz, stp, isEff, sgl, sty, stq, Try.underlying89, ty88, ty136, ty65, ty91, ty29, ty3, ty89, rs36, gloadA m1 sz65 rfl]))
  rw [← hv]
  refine (c_check N h1 p).mono ?_
  rintro _ h2 ⟨rfl, s2⟩
  have m2 := s2 _ _ m1
  have s02 := s1.trans s2
  by_cases hc : p.check = 0
  case neg =>
    have d : (p.check != 0) = true := by simpa using hc
    refine mk_of ?_; repeat' (first | (with_reducible first | refine gw_seq ?_ | refine gw_block ?_) | ((first | (with_reducible refine mk_to ?_) | (with_reducible first | refine gw_region ?_ | refine gw_if ?_ | refine gw_skip ?_ | refine gw_exit ?_ | refine gw_ret ?_) | ((with_reducible first | refine gif_b (fun hb => ?_) (fun hb => ?_) | refine want_t (fun hb => ?_) (fun hb => ?_) | refine want_f (fun hb => ?_) (fun hb => ?_) | refine dr_t (fun hb => ?_) (fun hb => ?_) | refine dr_f (fun hb => ?_) (fun hb => ?_)) <;> (try simp only [hb]) <;> (try simp only [hpr] at hb)) | with_reducible refine gw_draw2 (id := 4) 1 2 [(0, []), (1, [0]), (2, [0]), (3, []), (4, []), (5, []), (6, [])] [0, 0, 2, 7, 15, 31, 63] [(0, []), (2, [0]), (1, [0]), (3, []), (4, []), (5, []), (6, [])] [0, 4, 0, 7, 15, 31, 63] mixed (by kernel_rfl) (by kernel_rfl) (by kernel_rfl) ?_ ?_) <;> try simp only [gop, gyield, gLenX, gNilM, gField, gIndexV, gPart, reduceIte, seval, Int.cast_ofNat_Int, stz, stp, isEff, sgl, sty, stq, Try.underlying89, ty88, ty136, ty65, ty91, ty29, ty3, ty89, rs36, d]))
    exact ⟨.inl hc, s02⟩
  have d : (p.check != 0) = false := by simpa using hc
  have hmay : p.may = true := by
    unfold Pm.check at hc
    cases hm : p.may with
    | true => rfl
    | false => rw [hm] at hc; simp at hc
  have hch := p.may_iff.1 hmay
  have fin : ∀ {h' : GH} {k j kb : Nat}, h' k = some ⟨[.int .i64 p.s, .int .i64 p.ht, .int .i64 p.mi, .int .i64 p.my, .int .i64 p.ch, .int .i64 p.ar, .int .i64 p.ca, .int .i64 p.pg, .slice (some ⟨kb, 0, none⟩) 1 3, .int .i64 0, .int .i64 0, .map (some j)], 0, true, false⟩ → h0 k = none → h' (j + 1) = some ⟨[MM], 0, true, false⟩ → h0 (j + 1) = none →
      h' kb = some ⟨[.int .i64 0, .slice none 0 0], 2, true, false⟩ → h0 kb = none → IM h0 h' k j p (.slice (some ⟨kb, 0, none⟩) 1 3) [.int .i64 0, .slice none 0 0] [] [(0, [])] 0 0 := by
    intro h' k j kb mk nk mj nj mb nb
    refine ⟨mk, nk, mj, nj, rfl, rfl, ⟨kb, 3, false, rfl, by simp, rfl, mb, nb, .inr ⟨rfl, rfl⟩⟩, fun e x hx => ?_, fun id => OWNC.nil _ _ _, rfl, fun x hx => ?_, by simp, rfl, by simp; omega, hmay, List.nodup_nil, by simp [mkeys], fun x hx => .inl (by obtain rfl := List.mem_singleton.1 hx; rfl), List.pairwise_singleton _ _, fun x hx => by obtain rfl := List.mem_singleton.1 hx; simp⟩
    · have he : e = 0 := by have := (List.getElem?_eq_some_iff.1 hx).1; simp at this; omega
      subst he
      simp at hx
      subst hx
      exact ⟨_, rfl, [], OWNC.nil _ _ _, fun i p hp => by simp at hp⟩
    · obtain rfl := List.mem_singleton.1 hx
      exact ⟨fun q hq => by simp at hq, by simp⟩
  refine mk_of ?_; repeat' (first | (with_reducible first | refine gw_seq ?_ | refine gw_block ?_) | ((first | (with_reducible refine mk_to ?_) | (with_reducible first | refine gw_region ?_ | refine gw_if ?_ | refine gw_skip ?_ | refine gw_exit ?_ | refine gw_ret ?_) | ((with_reducible first | refine gif_b (fun hb => ?_) (fun hb => ?_) | refine want_t (fun hb => ?_) (fun hb => ?_) | refine want_f (fun hb => ?_) (fun hb => ?_) | refine dr_t (fun hb => ?_) (fun hb => ?_) | refine dr_f (fun hb => ?_) (fun hb => ?_)) <;> (try simp only [hb]) <;> (try simp only [hpr] at hb)) | with_reducible refine gw_draw2 (id := 4) 1 2 [(0, []), (1, [0]), (2, [0]), (3, []), (4, []), (5, []), (6, [])] [0, 0, 2, 7, 15, 31, 63] [(0, []), (2, [0]), (1, [0]), (3, []), (4, []), (5, []), (6, [])] [0, 4, 0, 7, 15, 31, 63] mixed (by kernel_rfl) (by kernel_rfl) (by kernel_rfl) ?_ ?_) <;> try simp only [gop, gyield, gLenX, gNilM, gField, gIndexV, gPart, reduceIte, seval, Int.cast_ofNat_Int, stz, stp, isEff, sgl, sty, stq, Try.underlying89, ty88, ty136, ty65, ty91, ty29, ty3, ty89, rs36, d, gloadA m2 sz65 rfl]))
  · refine mk_g (n := 1) el88 rfl (by decide) (by decide) fun kb h3 m3 s3 f3 n3 => ?_
    rw [z136] at m3
    refine mk_of ?_; repeat' (first | (with_reducible first | refine gw_seq ?_ | refine gw_block ?_) | ((first | (with_reducible refine mk_to ?_) | (with_reducible first | refine gw_region ?_ | refine gw_if ?_ | refine gw_skip ?_ | refine gw_exit ?_ | refine gw_ret ?_) | ((with_reducible first | refine gif_b (fun hb => ?_) (fun hb => ?_) | refine want_t (fun hb => ?_) (fun hb => ?_) | refine want_f (fun hb => ?_) (fun hb => ?_) | refine dr_t (fun hb => ?_) (fun hb => ?_) | refine dr_f (fun hb => ?_) (fun hb => ?_)) <;> (try simp only [hb]) <;> (try simp only [hpr] at hb)) | with_reducible refine gw_draw2 (id := 4) 1 2 [(0, []), (1, [0]), (2, [0]), (3, []), (4, []), (5, []), (6, [])] [0, 0, 2, 7, 15, 31, 63] [(0, []), (2, [0]), (1, [0]), (3, []), (4, []), (5, []), (6, [])] [0, 4, 0, 7, 15, 31, 63] mixed (by kernel_rfl) (by kernel_rfl) (by kernel_rfl) ?_ ?_) <;> try simp only [gop, gyield, gLenX, gNilM, gField, gIndexV, gPart, reduceIte, seval, Int.cast_ofNat_Int, stz, stp, isEff, sgl, sty, stq, Try.underlying89, ty88, ty136, ty65, ty91, ty29, ty3, ty89, rs36, gloadA (s3 _ _ m2) sz65 rfl]))
    refine mm_g fun j h4 m4 s4 f4 n4 => ?_
    refine mk_of ?_; repeat' (first | (with_reducible first | refine gw_seq ?_ | refine gw_block ?_) | ((first | (with_reducible refine mk_to ?_) | (with_reducible first | refine gw_region ?_ | refine gw_if ?_ | refine gw_skip ?_ | refine gw_exit ?_ | refine gw_ret ?_) | ((with_reducible first | refine gif_b (fun hb => ?_) (fun hb => ?_) | refine want_t (fun hb => ?_) (fun hb => ?_) | refine want_f (fun hb => ?_) (fun hb => ?_) | refine dr_t (fun hb => ?_) (fun hb => ?_) | refine dr_f (fun hb => ?_) (fun hb => ?_)) <;> (try simp only [hb]) <;> (try simp only [hpr] at hb)) | with_reducible refine gw_draw2 (id := 4) 1 2 [(0, []), (1, [0]), (2, [0]), (3, []), (4, []), (5, []), (6, [])] [0, 0, 2, 7, 15, 31, 63] [(0, []), (2, [0]), (1, [0]), (3, []), (4, []), (5, []), (6, [])] [0, 4, 0, 7, 15, 31, 63] mixed (by kernel_rfl) (by kernel_rfl) (by kernel_rfl) ?_ ?_) <;> try simp only [gop, gyield, gLenX, gNilM, gField, gIndexV, gPart, reduceIte, seval, Int.cast_ofNat_Int, stz, stp, isEff, sgl, sty, stq, Try.underlying89, ty88, ty136, ty65, ty91, ty29, ty3, ty89, rs36, gloadA (s4 _ _ (s3 _ _ m2)) sz65 rfl, gBuild, lfill, lput, Shape.pl, List.all_cons, List.all_nil, isCell]))
    refine box_g rfl fun k h5 m5 s5 f5 n5 => ?_
    refine mk_of ?_; repeat' (first | (with_reducible first | refine gw_seq ?_ | refine gw_block ?_) | ((first | (with_reducible refine mk_to ?_) | (with_reducible first | refine gw_region ?_ | refine gw_if ?_ | refine gw_skip ?_ | refine gw_exit ?_ | refine gw_ret ?_) | ((with_reducible first | refine gif_b (fun hb => ?_) (fun hb => ?_) | refine want_t (fun hb => ?_) (fun hb => ?_) | refine want_f (fun hb => ?_) (fun hb => ?_) | refine dr_t (fun hb => ?_) (fun hb => ?_) | refine dr_f (fun hb => ?_) (fun hb => ?_)) <;> (try simp only [hb]) <;> (try simp only [hpr] at hb)) | with_reducible refine gw_draw2 (id := 4) 1 2 [(0, []), (1, [0]), (2, [0]), (3, []), (4, []), (5, []), (6, [])] [0, 0, 2, 7, 15, 31, 63] [(0, []), (2, [0]), (1, [0]), (3, []), (4, []), (5, []), (6, [])] [0, 4, 0, 7, 15, 31, 63] mixed (by kernel_rfl) (by kernel_rfl) (by kernel_rfl) ?_ ?_) <;> try simp only [gop, gyield, gLenX, gNilM, gField, gIndexV, gPart, reduceIte, seval, Int.cast_ofNat_Int, stz, stp, isEff, sgl, sty, stq, Try.underlying89, ty88, ty136, ty65, ty91, ty29, ty3, ty89, rs36, gloadA (s5 _ _ (s4 _ _ (s3 _ _ m2))) sz65 rfl]))
    have t3 := s0.trans s02
    have t4 := t3.trans s3
    have t5 := t4.trans s4
    exact ⟨.inr ⟨hc, k, j, _, _, rfl, s02.none_of (s3.none_of (s4.none_of n5)), fin m5 (t5.none_of n5) (s5 _ _ m4) (t4.none_of n4) (s5 _ _ (s4 _ _ m3)) (t3.none_of n3)⟩, ((s02.trans s3).trans s4).trans s5⟩
  · refine mm_g fun j h3 m3 s3 f3 n3 => ?_
    refine mk_of ?_; repeat' (first | (with_reducible first | refine gw_seq ?_ | refine gw_block ?_) | ((first | (with_reducible refine mk_to ?_) | (with_reducible first | refine gw_region ?_ | refine gw_if ?_ | refine gw_skip ?_ | refine gw_exit ?_ | refine gw_ret ?_) | ((with_reducible first | refine gif_b (fun hb => ?_) (fun hb => ?_) | refine want_t (fun hb => ?_) (fun hb => ?_) | refine want_f (fun hb => ?_) (fun hb => ?_) | refine dr_t (fun hb => ?_) (fun hb => ?_) | refine dr_f (fun hb => ?_) (fun hb => ?_)) <;> (try simp only [hb]) <;> (try simp only [hpr] at hb)) | with_reducible refine gw_draw2 (id := 4) 1 2 [(0, []), (1, [0]), (2, [0]), (3, []), (4, []), (5, []), (6, [])] [0, 0, 2, 7, 15, 31, 63] [(0, []), (2, [0]), (1, [0]), (3, []), (4, []), (5, []), (6, [])] [0, 4, 0, 7, 15, 31, 63] mixed (by kernel_rfl) (by kernel_rfl) (by kernel_rfl) ?_ ?_) <;> try simp only [gop, gyield, gLenX, gNilM, gField, gIndexV, gPart, reduceIte, seval, Int.cast_ofNat_Int, stz, stp, isEff, sgl, sty, stq, Try.underlying89, ty88, ty136, ty65, ty91, ty29, ty3, ty89, rs36, gloadA (s3 _ _ m2) sz65 rfl]))
    refine mk_g (n := 1) el88 rfl (by decide) (by decide) fun kb h4 m4 s4 f4 n4 => ?_
    rw [z136] at m4
    refine mk_of ?_; repeat' (first | (with_reducible first | refine gw_seq ?_ | refine gw_block ?_) | ((first | (with_reducible refine mk_to ?_) | (with_reducible first | refine gw_region ?_ | refine gw_if ?_ | refine gw_skip ?_ | refine gw_exit ?_ | refine gw_ret ?_) | ((with_reducible first | refine gif_b (fun hb => ?_) (fun hb => ?_) | refine want_t (fun hb => ?_) (fun hb => ?_) | refine want_f (fun hb => ?_) (fun hb => ?_) | refine dr_t (fun hb => ?_) (fun hb => ?_) | refine dr_f (fun hb => ?_) (fun hb => ?_)) <;> (try simp only [hb]) <;> (try simp only [hpr] at hb)) | with_reducible refine gw_draw2 (id := 4) 1 2 [(0, []), (1, [0]), (2, [0]), (3, []), (4, []), (5, []), (6, [])] [0, 0, 2, 7, 15, 31, 63] [(0, []), (2, [0]), (1, [0]), (3, []), (4, []), (5, []), (6, [])] [0, 4, 0, 7, 15, 31, 63] mixed (by kernel_rfl) (by kernel_rfl) (by kernel_rfl) ?_ ?_) <;> try simp only [gop, gyield, gLenX, gNilM, gField, gIndexV, gPart, reduceIte, seval, Int.cast_ofNat_Int, stz, stp, isEff, sgl, sty, stq, Try.underlying89, ty88, ty136, ty65, ty91, ty29, ty3, ty89, rs36, gloadA (s4 _ _ (s3 _ _ m2)) sz65 rfl, gBuild, lfill, lput, Shape.pl, List.all_cons, List.all_nil, isCell]))
    refine box_g rfl fun k h5 m5 s5 f5 n5 => ?_
    refine mk_of ?_; repeat' (first | (with_reducible first | refine gw_seq ?_ | refine gw_block ?_) | ((first | (with_reducible refine mk_to ?_) | (with_reducible first | refine gw_region ?_ | refine gw_if ?_ | refine gw_skip ?_ | refine gw_exit ?_ | refine gw_ret ?_) | ((with_reducible first | refine gif_b (fun hb => ?_) (fun hb => ?_) | refine want_t (fun hb => ?_) (fun hb => ?_) | refine want_f (fun hb => ?_) (fun hb => ?_) | refine dr_t (fun hb => ?_) (fun hb => ?_) | refine dr_f (fun hb => ?_) (fun hb => ?_)) <;> (try simp only [hb]) <;> (try simp only [hpr] at hb)) | with_reducible refine gw_draw2 (id := 4) 1 2 [(0, []), (1, [0]), (2, [0]), (3, []), (4, []), (5, []), (6, [])] [0, 0, 2, 7, 15, 31, 63] [(0, []), (2, [0]), (1, [0]), (3, []), (4, []), (5, []), (6, [])] [0, 4, 0, 7, 15, 31, 63] mixed (by kernel_rfl) (by kernel_rfl) (by kernel_rfl) ?_ ?_) <;> try simp only [gop, gyield, gLenX, gNilM, gField, gIndexV, gPart, reduceIte, seval, Int.cast_ofNat_Int, stz, stp, isEff, sgl, sty, stq, Try.underlying89, ty88, ty136, ty65, ty91, ty29, ty3, ty89, rs36, gloadA (s5 _ _ (s4 _ _ (s3 _ _ m2))) sz65 rfl]))
    have t3 := s0.trans s02
    have t4 := t3.trans s3
    have t5 := t4.trans s4
    exact ⟨.inr ⟨hc, k, j, _, _, rfl, s02.none_of (s3.none_of (s4.none_of n5)), fin m5 (t5.none_of n5) (s5 _ _ (s4 _ _ m3)) (t3.none_of n3) (s5 _ _ m4) (t4.none_of n4)⟩, ((s02.trans s3).trans s4).trans s5⟩
end Go.Gh

