/- Parts of this claim's proof, 10. No statement of the claim stands here. -/
import Derived.Test.YtbaikgnddebkjaaP9
import Derived.Test.YtbaikgnddebkjaaProg
namespace Go.Gh
open Go Go.Proofs
set_option maxRecDepth 100000
theorem qU0 : zO Try.prog Try.f3.ntmps (Try.f3.body.getD .skip) = true := by kernel_rfl
theorem ok4 : zO Try.prog Try.f4.ntmps (Try.f4.body.getD .skip) = true := by kernel_rfl
theorem gf8 : yZ Try.prog 8 = true := by kernel_rfl
theorem rs8 : Try.f8.results.toList = [.tmp 8] := by kernel_rfl
theorem ok8 : zO Try.prog Try.f8.ntmps (Try.f8.body.getD .skip) = true := by kernel_rfl
theorem gf28 : yZ Try.prog 28 = true := by kernel_rfl
theorem rs28 : Try.f28.results.toList = [.tmp 4] := by kernel_rfl
theorem ok28 : zO Try.prog Try.f28.ntmps (Try.f28.body.getD .skip) = true := by kernel_rfl
theorem gf29 : yZ Try.prog 29 = true := by kernel_rfl
theorem rs29 : Try.f29.results.toList = [.tmp 4] := by kernel_rfl
theorem ok29 : zO Try.prog Try.f29.ntmps (Try.f29.body.getD .skip) = true := by kernel_rfl
theorem gf31 : yZ Try.prog 31 = true := by kernel_rfl
theorem rs31 : Try.f31.results.toList = [.tmp 2] := by kernel_rfl
theorem ok31 : zO Try.prog Try.f31.ntmps (Try.f31.body.getD .skip) = true := by kernel_rfl
theorem qL2 : yZ Try.prog 32 = true := by kernel_rfl
theorem qH3 : Try.f32.results.toList = [.cell 4 70] := by kernel_rfl
theorem qK5 : zO Try.prog Try.f32.ntmps (Try.f32.body.getD .skip) = true := by kernel_rfl
theorem gf34 : yZ Try.prog 34 = true := by kernel_rfl
theorem rs34 : Try.f34.results.toList = [.tmp 4] := by kernel_rfl
theorem ok34 : zO Try.prog Try.f34.ntmps (Try.f34.body.getD .skip) = true := by kernel_rfl
theorem gf35 : yZ Try.prog 35 = true := by kernel_rfl
theorem rs35 : Try.f35.results.toList = [.tmp 0] := by kernel_rfl
theorem ok35 : zO Try.prog Try.f35.ntmps (Try.f35.body.getD .skip) = true := by kernel_rfl
theorem gf36 : yZ Try.prog 36 = true := by kernel_rfl
theorem rs36 : Try.f36.results.toList = [.tmp 2, .tmp 3] := by kernel_rfl
theorem ok36 : zO Try.prog Try.f36.ntmps (Try.f36.body.getD .skip) = true := by kernel_rfl
theorem gf37 : yZ Try.prog 37 = true := by kernel_rfl
theorem rs37 : Try.f37.results.toList = [.tmp 2, .tmp 3] := by kernel_rfl
theorem ok37 : zO Try.prog Try.f37.ntmps (Try.f37.body.getD .skip) = true := by kernel_rfl
theorem gf38 : yZ Try.prog 38 = true := by kernel_rfl
theorem rs38 : Try.f38.results.toList = [.cell 4 70] := by kernel_rfl
theorem ok38 : zO Try.prog Try.f38.ntmps (Try.f38.body.getD .skip) = true := by kernel_rfl
theorem gf39 : yZ Try.prog 39 = true := by kernel_rfl
theorem rs39 : Try.f39.results.toList = [.tmp 2] := by kernel_rfl
theorem ok39 : zO Try.prog Try.f39.ntmps (Try.f39.body.getD .skip) = true := by kernel_rfl
theorem gf40 : yZ Try.prog 40 = true := by kernel_rfl
theorem rs40 : Try.f40.results.toList = [.tmp 2] := by kernel_rfl
theorem ok40 : zO Try.prog Try.f40.ntmps (Try.f40.body.getD .skip) = true := by kernel_rfl
theorem gf41 : yZ Try.prog 41 = true := by kernel_rfl
theorem rs41 : Try.f41.results.toList = [] := by kernel_rfl
theorem ok41 : zO Try.prog Try.f41.ntmps (Try.f41.body.getD .skip) = true := by kernel_rfl
theorem gf42 : yZ Try.prog 42 = true := by kernel_rfl
theorem rs42 : Try.f42.results.toList = [.tmp 2] := by kernel_rfl
theorem ok42 : zO Try.prog Try.f42.ntmps (Try.f42.body.getD .skip) = true := by kernel_rfl
theorem gf43 : yZ Try.prog 43 = true := by kernel_rfl
theorem rs43 : Try.f43.results.toList = [.tmp 4] := by kernel_rfl
theorem ok43 : zO Try.prog Try.f43.ntmps (Try.f43.body.getD .skip) = true := by kernel_rfl
theorem gf44 : yZ Try.prog 44 = true := by kernel_rfl
theorem rs44 : Try.f44.results.toList = [.tmp 2] := by kernel_rfl
theorem ok44 : zO Try.prog Try.f44.ntmps (Try.f44.body.getD .skip) = true := by kernel_rfl
theorem gf45 : yZ Try.prog 45 = true := by kernel_rfl
theorem rs45 : Try.f45.results.toList = [.tmp 4] := by kernel_rfl
theorem ok45 : zO Try.prog Try.f45.ntmps (Try.f45.body.getD .skip) = true := by kernel_rfl
theorem gf46 : yZ Try.prog 46 = true := by kernel_rfl
theorem rs46 : Try.f46.results.toList = [.tmp 4] := by kernel_rfl
theorem ok46 : zO Try.prog Try.f46.ntmps (Try.f46.body.getD .skip) = true := by kernel_rfl
theorem gf47 : yZ Try.prog 47 = true := by kernel_rfl
theorem rs47 : Try.f47.results.toList = [.tmp 2] := by kernel_rfl
theorem ok47 : zO Try.prog Try.f47.ntmps (Try.f47.body.getD .skip) = true := by kernel_rfl
theorem gf50 : yZ Try.prog 50 = true := by kernel_rfl
theorem rs50 : Try.f50.results.toList = [.tmp 2] := by kernel_rfl
theorem ok50 : zO Try.prog Try.f50.ntmps (Try.f50.body.getD .skip) = true := by kernel_rfl
theorem gf60 : yZ Try.prog 60 = true := by kernel_rfl
theorem rs60 : Try.f60.results.toList = [.tmp 4] := by kernel_rfl
theorem ok60 : zO Try.prog Try.f60.ntmps (Try.f60.body.getD .skip) = true := by kernel_rfl
theorem gf64 : yZ Try.prog 64 = true := by kernel_rfl
theorem rs64 : Try.f64.results.toList = [.tmp 2] := by kernel_rfl
theorem ok64 : zO Try.prog Try.f64.ntmps (Try.f64.body.getD .skip) = true := by kernel_rfl
theorem gf65 : yZ Try.prog 65 = true := by kernel_rfl
theorem rs65 : Try.f65.results.toList = [.cell 0 65] := by kernel_rfl
theorem ok65 : zO Try.prog Try.f65.ntmps (Try.f65.body.getD .skip) = true := by kernel_rfl
theorem gf68 : yZ Try.prog 68 = true := by kernel_rfl
theorem rs68 : Try.f68.results.toList = [.tmp 2] := by kernel_rfl
theorem ok68 : zO Try.prog Try.f68.ntmps (Try.f68.body.getD .skip) = true := by kernel_rfl
theorem gf69 : yZ Try.prog 69 = true := by kernel_rfl
theorem rs69 : Try.f69.results.toList = [.tmp 2] := by kernel_rfl
theorem ok69 : zO Try.prog Try.f69.ntmps (Try.f69.body.getD .skip) = true := by kernel_rfl
theorem gf70 : yZ Try.prog 70 = true := by kernel_rfl
theorem rs70 : Try.f70.results.toList = [.cell 4 70] := by kernel_rfl
theorem ok70 : zO Try.prog Try.f70.ntmps (Try.f70.body.getD .skip) = true := by kernel_rfl
theorem gf71 : yZ Try.prog 71 = true := by kernel_rfl
theorem rs71 : Try.f71.results.toList = [.cell 4 70] := by kernel_rfl
theorem ok71 : zO Try.prog Try.f71.ntmps (Try.f71.body.getD .skip) = true := by kernel_rfl
theorem gf72 : yZ Try.prog 72 = true := by kernel_rfl
theorem rs72 : Try.f72.results.toList = [.cell 4 70] := by kernel_rfl
theorem ok72 : zO Try.prog Try.f72.ntmps (Try.f72.body.getD .skip) = true := by kernel_rfl
theorem gf73 : yZ Try.prog 73 = true := by kernel_rfl
theorem rs73 : Try.f73.results.toList = [.cell 4 70] := by kernel_rfl
theorem ok73 : zO Try.prog Try.f73.ntmps (Try.f73.body.getD .skip) = true := by kernel_rfl
theorem gf74 : yZ Try.prog 74 = true := by kernel_rfl
theorem rs74 : Try.f74.results.toList = [.cell 4 70] := by kernel_rfl
theorem ok74 : zO Try.prog Try.f74.ntmps (Try.f74.body.getD .skip) = true := by kernel_rfl
theorem gf75 : yZ Try.prog 75 = true := by kernel_rfl
theorem rs75 : Try.f75.results.toList = [.cell 4 70] := by kernel_rfl
theorem ok75 : zO Try.prog Try.f75.ntmps (Try.f75.body.getD .skip) = true := by kernel_rfl
theorem gf76 : yZ Try.prog 76 = true := by kernel_rfl
theorem rs76 : Try.f76.results.toList = [.cell 4 70] := by kernel_rfl
theorem ok76 : zO Try.prog Try.f76.ntmps (Try.f76.body.getD .skip) = true := by kernel_rfl
theorem gf77 : yZ Try.prog 77 = true := by kernel_rfl
theorem rs77 : Try.f77.results.toList = [.cell 4 70] := by kernel_rfl
theorem ok77 : zO Try.prog Try.f77.ntmps (Try.f77.body.getD .skip) = true := by kernel_rfl
theorem gf78 : yZ Try.prog 78 = true := by kernel_rfl
theorem rs78 : Try.f78.results.toList = [.tmp 4] := by kernel_rfl
theorem ok78 : zO Try.prog Try.f78.ntmps (Try.f78.body.getD .skip) = true := by kernel_rfl
theorem gf81 : yZ Try.prog 81 = true := by kernel_rfl
theorem rs81 : Try.f81.results.toList = [.tmp 2] := by kernel_rfl
theorem ok81 : zO Try.prog Try.f81.ntmps (Try.f81.body.getD .skip) = true := by kernel_rfl
theorem gf82 : yZ Try.prog 82 = true := by kernel_rfl
theorem rs82 : Try.f82.results.toList = [.tmp 2] := by kernel_rfl
theorem ok82 : zO Try.prog Try.f82.ntmps (Try.f82.body.getD .skip) = true := by kernel_rfl
theorem gf83 : yZ Try.prog 83 = true := by kernel_rfl
theorem rs83 : Try.f83.results.toList = [.cell 4 70] := by kernel_rfl
theorem ok83 : zO Try.prog Try.f83.ntmps (Try.f83.body.getD .skip) = true := by kernel_rfl
theorem gf84 : yZ Try.prog 84 = true := by kernel_rfl
theorem rs84 : Try.f84.results.toList = [.tmp 4] := by kernel_rfl
theorem ok84 : zO Try.prog Try.f84.ntmps (Try.f84.body.getD .skip) = true := by kernel_rfl
theorem gf85 : yZ Try.prog 85 = true := by kernel_rfl
theorem rs85 : Try.f85.results.toList = [.cell 4 70] := by kernel_rfl
theorem ok85 : zO Try.prog Try.f85.ntmps (Try.f85.body.getD .skip) = true := by kernel_rfl
theorem gf86 : yZ Try.prog 86 = true := by kernel_rfl
theorem rs86 : Try.f86.results.toList = [.cell 4 70] := by kernel_rfl
theorem ok86 : zO Try.prog Try.f86.ntmps (Try.f86.body.getD .skip) = true := by kernel_rfl
theorem gf87 : yZ Try.prog 87 = true := by kernel_rfl
theorem rs87 : Try.f87.results.toList = [.cell 4 70] := by kernel_rfl
theorem ok87 : zO Try.prog Try.f87.ntmps (Try.f87.body.getD .skip) = true := by kernel_rfl
theorem gf88 : yZ Try.prog 88 = true := by kernel_rfl
theorem rs88 : Try.f88.results.toList = [.cell 4 70] := by kernel_rfl
theorem ok88 : zO Try.prog Try.f88.ntmps (Try.f88.body.getD .skip) = true := by kernel_rfl
theorem gf89 : yZ Try.prog 89 = true := by kernel_rfl
theorem rs89 : Try.f89.results.toList = [.cell 6 70] := by kernel_rfl
theorem ok89 : zO Try.prog Try.f89.ntmps (Try.f89.body.getD .skip) = true := by kernel_rfl
theorem gf90 : yZ Try.prog 90 = true := by kernel_rfl
theorem rs90 : Try.f90.results.toList = [.tmp 2] := by kernel_rfl
theorem ok90 : zO Try.prog Try.f90.ntmps (Try.f90.body.getD .skip) = true := by kernel_rfl
theorem gf91 : yZ Try.prog 91 = true := by kernel_rfl
theorem rs91 : Try.f91.results.toList = [.tmp 2] := by kernel_rfl
theorem ok91 : zO Try.prog Try.f91.ntmps (Try.f91.body.getD .skip) = true := by kernel_rfl
theorem gf92 : yZ Try.prog 92 = true := by kernel_rfl
theorem rs92 : Try.f92.results.toList = [.cell 4 136] := by kernel_rfl
theorem ok92 : zO Try.prog Try.f92.ntmps (Try.f92.body.getD .skip) = true := by kernel_rfl
theorem gf93 : yZ Try.prog 93 = true := by kernel_rfl
theorem rs93 : Try.f93.results.toList = [.tmp 4] := by kernel_rfl
theorem ok93 : zO Try.prog Try.f93.ntmps (Try.f93.body.getD .skip) = true := by kernel_rfl
theorem gf94 : yZ Try.prog 94 = true := by kernel_rfl
theorem rs94 : Try.f94.results.toList = [.tmp 2] := by kernel_rfl
theorem ok94 : zO Try.prog Try.f94.ntmps (Try.f94.body.getD .skip) = true := by kernel_rfl
theorem gf95 : yZ Try.prog 95 = true := by kernel_rfl
theorem rs95 : Try.f95.results.toList = [.tmp 2] := by kernel_rfl
theorem ok95 : zO Try.prog Try.f95.ntmps (Try.f95.body.getD .skip) = true := by kernel_rfl
theorem gf99 : yZ Try.prog 99 = true := by kernel_rfl
theorem gf100 : yZ Try.prog 100 = true := by kernel_rfl
theorem rs100 : Try.f100.results.toList = [.tmp 4] := by kernel_rfl
theorem ok100 : zO Try.prog Try.f100.ntmps (Try.f100.body.getD .skip) = true := by kernel_rfl
theorem gf101 : yZ Try.prog 101 = true := by kernel_rfl
theorem rs101 : Try.f101.results.toList = [.tmp 2] := by kernel_rfl
theorem ok101 : zO Try.prog Try.f101.ntmps (Try.f101.body.getD .skip) = true := by kernel_rfl
theorem gf102 : yZ Try.prog 102 = true := by kernel_rfl
theorem rs102 : Try.f102.results.toList = [.tmp 2] := by kernel_rfl
theorem ok102 : zO Try.prog Try.f102.ntmps (Try.f102.body.getD .skip) = true := by kernel_rfl
theorem gf103 : yZ Try.prog 103 = true := by kernel_rfl
theorem rs103 : Try.f103.results.toList = [.tmp 2] := by kernel_rfl
theorem ok103 : zO Try.prog Try.f103.ntmps (Try.f103.body.getD .skip) = true := by kernel_rfl
theorem gf104 : yZ Try.prog 104 = true := by kernel_rfl
theorem rs104 : Try.f104.results.toList = [.tmp 6] := by kernel_rfl
theorem ok104 : zO Try.prog Try.f104.ntmps (Try.f104.body.getD .skip) = true := by kernel_rfl
theorem gf105 : yZ Try.prog 105 = true := by kernel_rfl
theorem rs105 : Try.f105.results.toList = [.tmp 2] := by kernel_rfl
theorem ok105 : zO Try.prog Try.f105.ntmps (Try.f105.body.getD .skip) = true := by kernel_rfl
theorem gf106 : yZ Try.prog 106 = true := by kernel_rfl
theorem rs106 : Try.f106.results.toList = [.tmp 4] := by kernel_rfl
theorem ok106 : zO Try.prog Try.f106.ntmps (Try.f106.body.getD .skip) = true := by kernel_rfl
theorem gf107 : yZ Try.prog 107 = true := by kernel_rfl
theorem rs107 : Try.f107.results.toList = [.tmp 2] := by kernel_rfl
theorem ok107 : zO Try.prog Try.f107.ntmps (Try.f107.body.getD .skip) = true := by kernel_rfl
theorem gf108 : yZ Try.prog 108 = true := by kernel_rfl
theorem rs108 : Try.f108.results.toList = [.cell 6 97, .tmp 7] := by kernel_rfl
theorem ok108 : zO Try.prog Try.f108.ntmps (Try.f108.body.getD .skip) = true := by kernel_rfl
theorem gf109 : yZ Try.prog 109 = true := by kernel_rfl
theorem rs109 : Try.f109.results.toList = [.tmp 6, .tmp 7] := by kernel_rfl
theorem ok109 : zO Try.prog Try.f109.ntmps (Try.f109.body.getD .skip) = true := by kernel_rfl
theorem gf110 : yZ Try.prog 110 = true := by kernel_rfl
theorem rs110 : Try.f110.results.toList = [.tmp 4] := by kernel_rfl
theorem ok110 : zO Try.prog Try.f110.ntmps (Try.f110.body.getD .skip) = true := by kernel_rfl
theorem gf111 : yZ Try.prog 111 = true := by kernel_rfl
theorem rs111 : Try.f111.results.toList = [] := by kernel_rfl
theorem ok111 : zO Try.prog Try.f111.ntmps (Try.f111.body.getD .skip) = true := by kernel_rfl
theorem gf112 : yZ Try.prog 112 = true := by kernel_rfl
theorem rs112 : Try.f112.results.toList = [.tmp 4] := by kernel_rfl
theorem ok112 : zO Try.prog Try.f112.ntmps (Try.f112.body.getD .skip) = true := by kernel_rfl
theorem gf113 : yZ Try.prog 113 = true := by kernel_rfl
theorem rs113 : Try.f113.results.toList = [.tmp 4] := by kernel_rfl
theorem ok113 : zO Try.prog Try.f113.ntmps (Try.f113.body.getD .skip) = true := by kernel_rfl
theorem gf114 : yZ Try.prog 114 = true := by kernel_rfl
theorem rs114 : Try.f114.results.toList = [.tmp 2] := by kernel_rfl
theorem ok114 : zO Try.prog Try.f114.ntmps (Try.f114.body.getD .skip) = true := by kernel_rfl
theorem gf115 : yZ Try.prog 115 = true := by kernel_rfl
theorem rs115 : Try.f115.results.toList = [.tmp 4] := by kernel_rfl
theorem ok115 : zO Try.prog Try.f115.ntmps (Try.f115.body.getD .skip) = true := by kernel_rfl
theorem gf116 : yZ Try.prog 116 = true := by kernel_rfl
theorem rs116 : Try.f116.results.toList = [.tmp 2] := by kernel_rfl
theorem ok116 : zO Try.prog Try.f116.ntmps (Try.f116.body.getD .skip) = true := by kernel_rfl
theorem gf117 : yZ Try.prog 117 = true := by kernel_rfl
theorem rs117 : Try.f117.results.toList = [.tmp 2] := by kernel_rfl
theorem ok117 : zO Try.prog Try.f117.ntmps (Try.f117.body.getD .skip) = true := by kernel_rfl
theorem gf118 : yZ Try.prog 118 = true := by kernel_rfl
theorem rs118 : Try.f118.results.toList = [.tmp 4] := by kernel_rfl
theorem ok118 : zO Try.prog Try.f118.ntmps (Try.f118.body.getD .skip) = true := by kernel_rfl
theorem gf119 : yZ Try.prog 119 = true := by kernel_rfl
theorem rs119 : Try.f119.results.toList = [.tmp 6] := by kernel_rfl
theorem ok119 : zO Try.prog Try.f119.ntmps (Try.f119.body.getD .skip) = true := by kernel_rfl
theorem gf120 : yZ Try.prog 120 = true := by kernel_rfl
theorem rs120 : Try.f120.results.toList = [.cell 6 97, .tmp 7] := by kernel_rfl
theorem ok120 : zO Try.prog Try.f120.ntmps (Try.f120.body.getD .skip) = true := by kernel_rfl
theorem gf132 : yZ Try.prog 132 = true := by kernel_rfl
theorem rs132 : Try.f132.results.toList = [.tmp 2] := by kernel_rfl
theorem ok132 : zO Try.prog Try.f132.ntmps (Try.f132.body.getD .skip) = true := by kernel_rfl
theorem gf133 : yZ Try.prog 133 = true := by kernel_rfl
theorem rs133 : Try.f133.results.toList = [.tmp 2] := by kernel_rfl
theorem ok133 : zO Try.prog Try.f133.ntmps (Try.f133.body.getD .skip) = true := by kernel_rfl
theorem gf134 : yZ Try.prog 134 = true := by kernel_rfl
theorem rs134 : Try.f134.results.toList = [.tmp 4, .tmp 5] := by kernel_rfl
theorem ok134 : zO Try.prog Try.f134.ntmps (Try.f134.body.getD .skip) = true := by kernel_rfl
theorem gf135 : yZ Try.prog 135 = true := by kernel_rfl
theorem rs135 : Try.f135.results.toList = [.tmp 3] := by kernel_rfl
theorem ok135 : zO Try.prog Try.f135.ntmps (Try.f135.body.getD .skip) = true := by kernel_rfl
theorem gf136 : yZ Try.prog 136 = true := by kernel_rfl
theorem rs136 : Try.f136.results.toList = [] := by kernel_rfl
theorem ok136 : zO Try.prog Try.f136.ntmps (Try.f136.body.getD .skip) = true := by kernel_rfl
theorem gf137 : yZ Try.prog 137 = true := by kernel_rfl
theorem rs137 : Try.f137.results.toList = [] := by kernel_rfl
theorem ok137 : zO Try.prog Try.f137.ntmps (Try.f137.body.getD .skip) = true := by kernel_rfl
theorem gf138 : yZ Try.prog 138 = true := by kernel_rfl
theorem rs138 : Try.f138.results.toList = [.tmp 2] := by kernel_rfl
theorem ok138 : zO Try.prog Try.f138.ntmps (Try.f138.body.getD .skip) = true := by kernel_rfl
theorem gf144 : yZ Try.prog 144 = true := by kernel_rfl
theorem rs144 : Try.f144.results.toList = [.tmp 4] := by kernel_rfl
theorem ok144 : zO Try.prog Try.f144.ntmps (Try.f144.body.getD .skip) = true := by kernel_rfl
theorem gf145 : yZ Try.prog 145 = true := by kernel_rfl
theorem rs145 : Try.f145.results.toList = [.tmp 2] := by kernel_rfl
theorem ok145 : zO Try.prog Try.f145.ntmps (Try.f145.body.getD .skip) = true := by kernel_rfl
theorem gf146 : yZ Try.prog 146 = true := by kernel_rfl
theorem rs146 : Try.f146.results.toList = [.tmp 4] := by kernel_rfl
theorem ok146 : zO Try.prog Try.f146.ntmps (Try.f146.body.getD .skip) = true := by kernel_rfl
theorem gf147 : yZ Try.prog 147 = true := by kernel_rfl
theorem rs147 : Try.f147.results.toList = [.tmp 2] := by kernel_rfl
theorem ok147 : zO Try.prog Try.f147.ntmps (Try.f147.body.getD .skip) = true := by kernel_rfl
theorem gf148 : yZ Try.prog 148 = true := by kernel_rfl
theorem rs148 : Try.f148.results.toList = [] := by kernel_rfl
theorem ok148 : zO Try.prog Try.f148.ntmps (Try.f148.body.getD .skip) = true := by kernel_rfl
theorem gf156 : yZ Try.prog 156 = true := by kernel_rfl
theorem rs156 : Try.f156.results.toList = [.tmp 2] := by kernel_rfl
theorem ok156 : zO Try.prog Try.f156.ntmps (Try.f156.body.getD .skip) = true := by kernel_rfl
theorem ud3 : Try.prog.underlying 3 = some (.int .i64) := Try.underlying3
theorem wL : yH Try.prog 3 = some (false, 1) := by kernel_rfl
theorem zr3 : wC Try.prog 3 = some [.int .i64 0] := by kernel_rfl
theorem ni3 : zP Try.prog 3 = true := by kernel_rfl
theorem ud4 : Try.prog.underlying 4 = some .bool := Try.underlying4
theorem qH2 : yH Try.prog 4 = some (false, 1) := by kernel_rfl
theorem zr4 : wC Try.prog 4 = some [.bool false] := by kernel_rfl
theorem ni4 : zP Try.prog 4 = true := by kernel_rfl
theorem ud5 : Try.prog.underlying 5 = some (.int .u8) := Try.underlying5
theorem sz5 : yH Try.prog 5 = some (false, 1) := by kernel_rfl
theorem zr5 : wC Try.prog 5 = some [.int .u8 0] := by kernel_rfl
theorem ni5 : zP Try.prog 5 = true := by kernel_rfl
theorem ud9 : Try.prog.underlying 9 = some .string := Try.underlying9
theorem sz9 : yH Try.prog 9 = some (false, 1) := by kernel_rfl
theorem zr9 : wC Try.prog 9 = some [.string ByteArray.empty] := by kernel_rfl
theorem ni9 : zP Try.prog 9 = true := by kernel_rfl
theorem ud22 : Try.prog.underlying 22 = some (.slice 23) := Try.underlying22
theorem kX : yH Try.prog 22 = some (false, 1) := by kernel_rfl
theorem qR4 : rI Try.prog 22 = some (23, 1, 24, .slice none 0 0) := by kernel_rfl
theorem zr22 : wC Try.prog 22 = some [.slice none 0 0] := by kernel_rfl
theorem ni22 : zP Try.prog 22 = true := by kernel_rfl
theorem ud23 : Try.prog.underlying 23 = some (.slice 99) := Try.underlying23
theorem jX : yH Try.prog 23 = some (false, 1) := by kernel_rfl
theorem zE4 : rI Try.prog 23 = some (99, 2, 48, .agg #[.slice none 0 0, .slice none 0 0]) := by kernel_rfl
theorem zr23 : wC Try.prog 23 = some [.slice none 0 0] := by kernel_rfl
theorem ni23 : zP Try.prog 23 = true := by kernel_rfl
theorem ud24 : Try.prog.underlying 24 = some (.slice 5) := Try.underlying24
theorem wK : yH Try.prog 24 = some (false, 1) := by kernel_rfl
theorem fG : rI Try.prog 24 = some (5, 1, 1, .int .u8 0) := by kernel_rfl
theorem zr24 : wC Try.prog 24 = some [.slice none 0 0] := by kernel_rfl
theorem ni24 : zP Try.prog 24 = true := by kernel_rfl
theorem ud29 : Try.prog.underlying 29 = some (.int .i64) := Try.underlying29
theorem sz29 : yH Try.prog 29 = some (false, 1) := by kernel_rfl
theorem zr29 : wC Try.prog 29 = some [.int .i64 0] := by kernel_rfl
theorem ni29 : zP Try.prog 29 = true := by kernel_rfl
theorem qT5 : yH Try.prog 33 = some (true, 4) := by kernel_rfl
theorem zr33 : wC Try.prog 33 = some [.int .i64 0, .int .i64 0, .slice none 0 0, .slice none 0 0] := by kernel_rfl
theorem fo33_0 : yJ Try.prog 33 0 = some (3, 0) := by kernel_rfl
theorem fo33_1 : yJ Try.prog 33 1 = some (3, 1) := by kernel_rfl
theorem fo33_2 : yJ Try.prog 33 2 = some (24, 2) := by kernel_rfl
theorem fo33_3 : yJ Try.prog 33 3 = some (24, 3) := by kernel_rfl
theorem sh33 : yN Try.prog 33 = some (.fields [(0, 1), (1, 1), (2, 1), (3, 1)], [.int .i64 0, .int .i64 0, .slice none 0 0, .slice none 0 0]) := by kernel_rfl
theorem ni33 : zP Try.prog 33 = true := by kernel_rfl
theorem ud36 : Try.prog.underlying 36 = some (.slice 33) := Try.underlying36
theorem dJ : yH Try.prog 36 = some (false, 1) := by kernel_rfl
theorem el36 : rI Try.prog 36 = some (33, 4, 64, .agg #[.int .i64 0, .int .i64 0, .slice none 0 0, .slice none 0 0]) := by kernel_rfl
theorem zr36 : wC Try.prog 36 = some [.slice none 0 0] := by kernel_rfl
theorem ni36 : zP Try.prog 36 = true := by kernel_rfl
theorem ud47 : Try.prog.underlying 47 = some (.slice 24) := Try.underlying47
theorem sz47 : yH Try.prog 47 = some (false, 1) := by kernel_rfl
theorem el47 : rI Try.prog 47 = some (24, 1, 24, .slice none 0 0) := by kernel_rfl
theorem zr47 : wC Try.prog 47 = some [.slice none 0 0] := by kernel_rfl
theorem ni47 : zP Try.prog 47 = true := by kernel_rfl
theorem ud56 : Try.prog.underlying 56 = some (.int .u64) := Try.underlying56
theorem sz56 : yH Try.prog 56 = some (false, 1) := by kernel_rfl
theorem zr56 : wC Try.prog 56 = some [.int .u64 0] := by kernel_rfl
theorem ni56 : zP Try.prog 56 = true := by kernel_rfl
theorem uO : yH Try.prog 62 = some (true, 10) := by kernel_rfl
theorem zr62 : wC Try.prog 62 = some [.int .i64 0, .slice none 0 0, .int .i64 0, .int .i64 0, .int .i64 0, .bool false, .int .i64 0, .int .i64 0, .int .i64 0, .slice none 0 0] := by kernel_rfl
theorem fo62_0 : yJ Try.prog 62 0 = some (3, 0) := by kernel_rfl
theorem fo62_1 : yJ Try.prog 62 1 = some (24, 1) := by kernel_rfl
theorem fo62_2 : yJ Try.prog 62 2 = some (3, 2) := by kernel_rfl
theorem fo62_3 : yJ Try.prog 62 3 = some (3, 3) := by kernel_rfl
theorem fo62_4 : yJ Try.prog 62 4 = some (3, 4) := by kernel_rfl
theorem fo62_5 : yJ Try.prog 62 5 = some (4, 5) := by kernel_rfl
theorem fo62_6 : yJ Try.prog 62 6 = some (3, 6) := by kernel_rfl
theorem fo62_7 : yJ Try.prog 62 7 = some (3, 7) := by kernel_rfl
theorem fo62_8 : yJ Try.prog 62 8 = some (3, 8) := by kernel_rfl
theorem fo62_9 : yJ Try.prog 62 9 = some (23, 9) := by kernel_rfl
theorem sh62 : yN Try.prog 62 = some (.fields [(0, 1), (1, 1), (2, 1), (3, 1), (4, 1), (5, 1), (6, 1), (7, 1), (8, 1), (9, 1)], [.int .i64 0, .slice none 0 0, .int .i64 0, .int .i64 0, .int .i64 0, .bool false, .int .i64 0, .int .i64 0, .int .i64 0, .slice none 0 0]) := by kernel_rfl
theorem ni62 : zP Try.prog 62 = true := by kernel_rfl
theorem ud63 : Try.prog.underlying 63 = some (.pointer 91) := Try.underlying63
theorem sz63 : yH Try.prog 63 = some (false, 1) := by kernel_rfl
theorem zr63 : wC Try.prog 63 = some [.pointer none] := by kernel_rfl
theorem ni63 : zP Try.prog 63 = true := by kernel_rfl
theorem kW : yH Try.prog 65 = some (true, 8) := by kernel_rfl
theorem zr65 : wC Try.prog 65 = some [.int .i64 0, .int .i64 0, .int .i64 0, .int .i64 0, .int .i64 0, .int .i64 0, .int .i64 0, .int .i64 0] := by kernel_rfl
theorem fo65_0 : yJ Try.prog 65 0 = some (3, 0) := by kernel_rfl
theorem fo65_1 : yJ Try.prog 65 1 = some (3, 1) := by kernel_rfl
theorem fo65_2 : yJ Try.prog 65 2 = some (3, 2) := by kernel_rfl
theorem fo65_3 : yJ Try.prog 65 3 = some (3, 3) := by kernel_rfl
theorem fo65_4 : yJ Try.prog 65 4 = some (3, 4) := by kernel_rfl
theorem fo65_5 : yJ Try.prog 65 5 = some (3, 5) := by kernel_rfl
theorem fo65_6 : yJ Try.prog 65 6 = some (3, 6) := by kernel_rfl
theorem fo65_7 : yJ Try.prog 65 7 = some (3, 7) := by kernel_rfl
theorem sh65 : yN Try.prog 65 = some (.fields [(0, 1), (1, 1), (2, 1), (3, 1), (4, 1), (5, 1), (6, 1), (7, 1)], [.int .i64 0, .int .i64 0, .int .i64 0, .int .i64 0, .int .i64 0, .int .i64 0, .int .i64 0, .int .i64 0]) := by kernel_rfl
theorem ni65 : zP Try.prog 65 = true := by kernel_rfl
theorem ud68 : Try.prog.underlying 68 = some (.slice 97) := Try.underlying68
theorem qH1 : yH Try.prog 68 = some (false, 1) := by kernel_rfl
theorem tK : rI Try.prog 68 = some (97, 3, 56, .agg #[.slice none 0 0, .slice none 0 0, .int .i64 0]) := by kernel_rfl
theorem zr68 : wC Try.prog 68 = some [.slice none 0 0] := by kernel_rfl
theorem ni68 : zP Try.prog 68 = true := by kernel_rfl
theorem xG : yH Try.prog 70 = some (true, 9) := by kernel_rfl
theorem zr70 : wC Try.prog 70 = some [.int .i64 0, .int .i64 0, .bool false, .bool false, .slice none 0 0, .int .i64 0, .slice none 0 0, .slice none 0 0, .bool false] := by kernel_rfl
theorem fo70_0 : yJ Try.prog 70 0 = some (29, 0) := by kernel_rfl
theorem fo70_1 : yJ Try.prog 70 1 = some (3, 1) := by kernel_rfl
theorem fo70_2 : yJ Try.prog 70 2 = some (4, 2) := by kernel_rfl
theorem fo70_3 : yJ Try.prog 70 3 = some (4, 3) := by kernel_rfl
theorem fo70_4 : yJ Try.prog 70 4 = some (24, 4) := by kernel_rfl
theorem fo70_5 : yJ Try.prog 70 5 = some (3, 5) := by kernel_rfl
theorem fo70_6 : yJ Try.prog 70 6 = some (68, 6) := by kernel_rfl
theorem fo70_7 : yJ Try.prog 70 7 = some (36, 7) := by kernel_rfl
theorem fo70_8 : yJ Try.prog 70 8 = some (4, 8) := by kernel_rfl
theorem sh70 : yN Try.prog 70 = some (.fields [(0, 1), (1, 1), (2, 1), (3, 1), (4, 1), (5, 1), (6, 1), (7, 1), (8, 1)], [.int .i64 0, .int .i64 0, .bool false, .bool false, .slice none 0 0, .int .i64 0, .slice none 0 0, .slice none 0 0, .bool false]) := by kernel_rfl
theorem ni70 : zP Try.prog 70 = true := by kernel_rfl
theorem ud75 : Try.prog.underlying 75 = some (.slice 62) := Try.underlying75
theorem sz75 : yH Try.prog 75 = some (false, 1) := by kernel_rfl
theorem el75 : rI Try.prog 75 = some (62, 10, 112, .agg #[.int .i64 0, .slice none 0 0, .int .i64 0, .int .i64 0, .int .i64 0, .bool false, .int .i64 0, .int .i64 0, .int .i64 0, .slice none 0 0]) := by kernel_rfl
theorem zr75 : wC Try.prog 75 = some [.slice none 0 0] := by kernel_rfl
theorem ni75 : zP Try.prog 75 = true := by kernel_rfl
theorem ud78 : Try.prog.underlying 78 = some (.pointer 85) := Try.underlying78
theorem sz78 : yH Try.prog 78 = some (false, 1) := by kernel_rfl
theorem zr78 : wC Try.prog 78 = some [.pointer none] := by kernel_rfl
theorem ni78 : zP Try.prog 78 = true := by kernel_rfl
theorem ud83 : Try.prog.underlying 83 = some (.slice 3) := Try.underlying83
theorem kV : yH Try.prog 83 = some (false, 1) := by kernel_rfl
theorem sW : rI Try.prog 83 = some (3, 1, 8, .int .i64 0) := by kernel_rfl
theorem zr83 : wC Try.prog 83 = some [.slice none 0 0] := by kernel_rfl
theorem ni83 : zP Try.prog 83 = true := by kernel_rfl
theorem sz85 : yH Try.prog 85 = some (true, 11) := by kernel_rfl
theorem zr85 : wC Try.prog 85 = some [.int .i64 0, .int .i64 0, .int .i64 0, .int .i64 0, .int .i64 0, .int .i64 0, .int .i64 0, .int .i64 0, .slice none 0 0, .slice none 0 0, .int .i64 0] := by kernel_rfl
theorem fo85_0 : yJ Try.prog 85 0 = some (65, 0) := by kernel_rfl
theorem fo85_1 : yJ Try.prog 85 1 = some (83, 8) := by kernel_rfl
theorem fo85_2 : yJ Try.prog 85 2 = some (22, 9) := by kernel_rfl
theorem fo85_3 : yJ Try.prog 85 3 = some (3, 10) := by kernel_rfl
theorem sh85 : yN Try.prog 85 = some (.fields [(0, 8), (8, 1), (9, 1), (10, 1)], [.int .i64 0, .int .i64 0, .int .i64 0, .int .i64 0, .int .i64 0, .int .i64 0, .int .i64 0, .int .i64 0, .slice none 0 0, .slice none 0 0, .int .i64 0]) := by kernel_rfl
theorem ni85 : zP Try.prog 85 = true := by kernel_rfl
theorem ud88 : Try.prog.underlying 88 = some (.slice 136) := Try.underlying88
theorem gJ : yH Try.prog 88 = some (false, 1) := by kernel_rfl
theorem qW3 : rI Try.prog 88 = some (136, 2, 32, .agg #[.int .i64 0, .slice none 0 0]) := by kernel_rfl
theorem zr88 : wC Try.prog 88 = some [.slice none 0 0] := by kernel_rfl
theorem ni88 : zP Try.prog 88 = true := by kernel_rfl
theorem pA : yH Try.prog 89 = some (false, 1) := by kernel_rfl
theorem zr89 : wC Try.prog 89 = some [.map none] := by kernel_rfl
theorem sm89 : pB Try.prog 89 = some 83 := by kernel_rfl
theorem gz89 : gzv Try.prog 83 = some (.slice none 0 0) := by kernel_rfl
theorem ni89 : zP Try.prog 89 = true := by kernel_rfl
theorem sz91 : yH Try.prog 91 = some (true, 12) := by kernel_rfl
theorem zr91 : wC Try.prog 91 = some [.int .i64 0, .int .i64 0, .int .i64 0, .int .i64 0, .int .i64 0, .int .i64 0, .int .i64 0, .int .i64 0, .slice none 0 0, .int .i64 0, .int .i64 0, .map none] := by kernel_rfl
theorem fo91_0 : yJ Try.prog 91 0 = some (65, 0) := by kernel_rfl
theorem fo91_1 : yJ Try.prog 91 1 = some (88, 8) := by kernel_rfl
theorem fo91_2 : yJ Try.prog 91 2 = some (3, 9) := by kernel_rfl
theorem fo91_3 : yJ Try.prog 91 3 = some (3, 10) := by kernel_rfl
theorem fo91_4 : yJ Try.prog 91 4 = some (89, 11) := by kernel_rfl
theorem sh91 : yN Try.prog 91 = some (.fields [(0, 8), (8, 1), (9, 1), (10, 1), (11, 1)], [.int .i64 0, .int .i64 0, .int .i64 0, .int .i64 0, .int .i64 0, .int .i64 0, .int .i64 0, .int .i64 0, .slice none 0 0, .int .i64 0, .int .i64 0, .map none]) := by kernel_rfl
theorem ni91 : zP Try.prog 91 = true := by kernel_rfl
theorem yY : yH Try.prog 97 = some (true, 3) := by kernel_rfl
theorem zr97 : wC Try.prog 97 = some [.slice none 0 0, .slice none 0 0, .int .i64 0] := by kernel_rfl
theorem fo97_0 : yJ Try.prog 97 0 = some (24, 0) := by kernel_rfl
theorem fo97_1 : yJ Try.prog 97 1 = some (24, 1) := by kernel_rfl
theorem fo97_2 : yJ Try.prog 97 2 = some (3, 2) := by kernel_rfl
theorem sh97 : yN Try.prog 97 = some (.fields [(0, 1), (1, 1), (2, 1)], [.slice none 0 0, .slice none 0 0, .int .i64 0]) := by kernel_rfl
theorem ni97 : zP Try.prog 97 = true := by kernel_rfl
theorem uQ : yH Try.prog 99 = some (true, 2) := by kernel_rfl
theorem zr99 : wC Try.prog 99 = some [.slice none 0 0, .slice none 0 0] := by kernel_rfl
theorem fo99_0 : yJ Try.prog 99 0 = some (24, 0) := by kernel_rfl
theorem fo99_1 : yJ Try.prog 99 1 = some (24, 1) := by kernel_rfl
theorem sh99 : yN Try.prog 99 = some (.fields [(0, 1), (1, 1)], [.slice none 0 0, .slice none 0 0]) := by kernel_rfl
theorem ni99 : zP Try.prog 99 = true := by kernel_rfl
theorem sz102 : yH Try.prog 102 = some (false, 1) := by kernel_rfl
theorem zr102 : wC Try.prog 102 = some [.map none] := by kernel_rfl
theorem sm102 : pB Try.prog 102 = some 3 := by kernel_rfl
theorem gz102 : gzv Try.prog 3 = some (.int .i64 0) := by kernel_rfl
theorem ni102 : zP Try.prog 102 = true := by kernel_rfl
theorem sz130 : yH Try.prog 130 = some (false, 1) := by kernel_rfl
theorem zr130 : wC Try.prog 130 = some [.nilFunc] := by kernel_rfl
theorem ni130 : zP Try.prog 130 = true := by kernel_rfl
theorem fI : yH Try.prog 136 = some (true, 2) := by kernel_rfl
theorem zr136 : wC Try.prog 136 = some [.int .i64 0, .slice none 0 0] := by kernel_rfl
theorem fo136_0 : yJ Try.prog 136 0 = some (3, 0) := by kernel_rfl
theorem fo136_1 : yJ Try.prog 136 1 = some (23, 1) := by kernel_rfl
theorem sh136 : yN Try.prog 136 = some (.fields [(0, 1), (1, 1)], [.int .i64 0, .slice none 0 0]) := by kernel_rfl
theorem ni136 : zP Try.prog 136 = true := by kernel_rfl
theorem sz155 : yH Try.prog 155 = some (false, 1) := by kernel_rfl
theorem zr155 : wC Try.prog 155 = some [.nilFunc] := by kernel_rfl
theorem ni155 : zP Try.prog 155 = true := by kernel_rfl
theorem sz157 : yH Try.prog 157 = some (false, 1) := by kernel_rfl
theorem zr157 : wC Try.prog 157 = some [.nilFunc] := by kernel_rfl
theorem ni157 : zP Try.prog 157 = true := by kernel_rfl
theorem ud164 : Try.prog.underlying 164 = some (.int .i64) := Try.underlying164
theorem sz164 : yH Try.prog 164 = some (false, 1) := by kernel_rfl
theorem zr164 : wC Try.prog 164 = some [.int .i64 0] := by kernel_rfl
theorem ni164 : zP Try.prog 164 = true := by kernel_rfl
theorem sz179 : yH Try.prog 179 = some (true, 3) := by kernel_rfl
theorem zr179 : wC Try.prog 179 = some [.int .i64 0, .int .i64 0, .int .i64 0] := by kernel_rfl
theorem fo179_0 : yJ Try.prog 179 0 = some (3, 0) := by kernel_rfl
theorem fo179_1 : yJ Try.prog 179 1 = some (3, 1) := by kernel_rfl
theorem fo179_2 : yJ Try.prog 179 2 = some (3, 2) := by kernel_rfl
theorem sh179 : yN Try.prog 179 = some (.fields [(0, 1), (1, 1), (2, 1)], [.int .i64 0, .int .i64 0, .int .i64 0]) := by kernel_rfl
theorem ni179 : zP Try.prog 179 = true := by kernel_rfl
theorem sz180 : yH Try.prog 180 = some (true, 21) := by kernel_rfl
theorem zr180 : wC Try.prog 180 = some [.int .i64 0, .int .i64 0, .int .i64 0, .int .i64 0, .int .i64 0, .int .i64 0, .int .i64 0, .int .i64 0, .int .i64 0, .int .i64 0, .int .i64 0, .int .i64 0, .int .i64 0, .int .i64 0, .int .i64 0, .int .i64 0, .int .i64 0, .int .i64 0, .int .i64 0, .int .i64 0, .int .i64 0] := by kernel_rfl
theorem sh180 : yN Try.prog 180 = some (.elems 3, [.int .i64 0, .int .i64 0, .int .i64 0, .int .i64 0, .int .i64 0, .int .i64 0, .int .i64 0, .int .i64 0, .int .i64 0, .int .i64 0, .int .i64 0, .int .i64 0, .int .i64 0, .int .i64 0, .int .i64 0, .int .i64 0, .int .i64 0, .int .i64 0, .int .i64 0, .int .i64 0, .int .i64 0]) := by kernel_rfl
theorem ni180 : zP Try.prog 180 = true := by kernel_rfl
theorem zA3 : ∀ (h : GH) (n : Int), gT Try.prog 3 5 h (.int .i64 n) = some (.int .u8 (IntKind.wrap .u8 n)) := by intros; simp [gT, qD8, Try.underlying3, Try.underlying5]
theorem lL : ∀ (h : GH) (n : Int), gT Try.prog 3 56 h (.int .i64 n) = some (.int .u64 (IntKind.wrap .u64 n)) := by intros; simp [gT, qD8, Try.underlying3, Try.underlying56]
theorem qN0 : ∀ (h : GH) (n : Int), gT Try.prog 56 3 h (.int .u64 n) = some (.int .i64 (IntKind.wrap .i64 n)) := by intros; simp [gT, qD8, Try.underlying56, Try.underlying3]
theorem mixed : Try.prog.follows .mixedOrders = true := by kernel_rfl
theorem wZ : (zP Try.prog 3 = true) ∧ (yH Try.prog 3 = some (false, 1)) ∧ (Try.prog.underlying 3 = some (.int .i64)) ∧ (wC Try.prog 3 = some [.int .i64 0]) := ⟨ni3, wL, ud3, zr3⟩
theorem uP : (zP Try.prog 4 = true) ∧ (yH Try.prog 4 = some (false, 1)) ∧ (Try.prog.underlying 4 = some .bool) ∧ (wC Try.prog 4 = some [.bool false]) := ⟨ni4, qH2, ud4, zr4⟩
theorem jV : (zP Try.prog 5 = true) ∧ (yH Try.prog 5 = some (false, 1)) ∧ (Try.prog.underlying 5 = some (.int .u8)) ∧ (wC Try.prog 5 = some [.int .u8 0]) := ⟨ni5, sz5, ud5, zr5⟩
theorem lU : (zP Try.prog 9 = true) ∧ (yH Try.prog 9 = some (false, 1)) ∧ (Try.prog.underlying 9 = some .string) ∧ (wC Try.prog 9 = some [.string ByteArray.empty]) := ⟨ni9, sz9, ud9, zr9⟩
theorem gY : (rI Try.prog 22 = some (23, 1, 24, .slice none 0 0)) ∧ (zP Try.prog 22 = true) ∧ (yH Try.prog 22 = some (false, 1)) ∧ (Try.prog.underlying 22 = some (.slice 23)) ∧ (wC Try.prog 22 = some [.slice none 0 0]) := ⟨qR4, ni22, kX, ud22, zr22⟩
theorem wT : (rI Try.prog 23 = some (99, 2, 48, .agg #[.slice none 0 0, .slice none 0 0])) ∧ (zP Try.prog 23 = true) ∧ (yH Try.prog 23 = some (false, 1)) ∧ (Try.prog.underlying 23 = some (.slice 99)) ∧ (wC Try.prog 23 = some [.slice none 0 0]) := ⟨zE4, ni23, jX, ud23, zr23⟩
theorem wN : (rI Try.prog 24 = some (5, 1, 1, .int .u8 0)) ∧ (zP Try.prog 24 = true) ∧ (yH Try.prog 24 = some (false, 1)) ∧ (Try.prog.underlying 24 = some (.slice 5)) ∧ (wC Try.prog 24 = some [.slice none 0 0]) := ⟨fG, ni24, wK, ud24, zr24⟩
theorem yL : (zP Try.prog 29 = true) ∧ (yH Try.prog 29 = some (false, 1)) ∧ (Try.prog.underlying 29 = some (.int .i64)) ∧ (wC Try.prog 29 = some [.int .i64 0]) := ⟨ni29, sz29, ud29, zr29⟩
theorem zC0 : (yJ Try.prog 33 0 = some (3, 0)) ∧ (yJ Try.prog 33 1 = some (3, 1)) ∧ (yJ Try.prog 33 2 = some (24, 2)) ∧ (yJ Try.prog 33 3 = some (24, 3)) ∧ (zP Try.prog 33 = true) ∧ (yN Try.prog 33 = some (.fields [(0, 1), (1, 1), (2, 1), (3, 1)], [.int .i64 0, .int .i64 0, .slice none 0 0, .slice none 0 0])) ∧ (yH Try.prog 33 = some (true, 4)) ∧ (wC Try.prog 33 = some [.int .i64 0, .int .i64 0, .slice none 0 0, .slice none 0 0]) := ⟨fo33_0, fo33_1, fo33_2, fo33_3, ni33, sh33, qT5, zr33⟩
theorem yX : (rI Try.prog 36 = some (33, 4, 64, .agg #[.int .i64 0, .int .i64 0, .slice none 0 0, .slice none 0 0])) ∧ (zP Try.prog 36 = true) ∧ (yH Try.prog 36 = some (false, 1)) ∧ (Try.prog.underlying 36 = some (.slice 33)) ∧ (wC Try.prog 36 = some [.slice none 0 0]) := ⟨el36, ni36, dJ, ud36, zr36⟩
theorem ty47 : (rI Try.prog 47 = some (24, 1, 24, .slice none 0 0)) ∧ (zP Try.prog 47 = true) ∧ (yH Try.prog 47 = some (false, 1)) ∧ (Try.prog.underlying 47 = some (.slice 24)) ∧ (wC Try.prog 47 = some [.slice none 0 0]) := ⟨el47, ni47, sz47, ud47, zr47⟩
theorem zB9 : (zP Try.prog 56 = true) ∧ (yH Try.prog 56 = some (false, 1)) ∧ (Try.prog.underlying 56 = some (.int .u64)) ∧ (wC Try.prog 56 = some [.int .u64 0]) := ⟨ni56, sz56, ud56, zr56⟩
theorem yW : (yJ Try.prog 62 0 = some (3, 0)) ∧ (yJ Try.prog 62 1 = some (24, 1)) ∧ (yJ Try.prog 62 2 = some (3, 2)) ∧ (yJ Try.prog 62 3 = some (3, 3)) ∧ (yJ Try.prog 62 4 = some (3, 4)) ∧ (yJ Try.prog 62 5 = some (4, 5)) ∧ (yJ Try.prog 62 6 = some (3, 6)) ∧ (yJ Try.prog 62 7 = some (3, 7)) ∧ (yJ Try.prog 62 8 = some (3, 8)) ∧ (yJ Try.prog 62 9 = some (23, 9)) ∧ (zP Try.prog 62 = true) ∧ (yN Try.prog 62 = some (.fields [(0, 1), (1, 1), (2, 1), (3, 1), (4, 1), (5, 1), (6, 1), (7, 1), (8, 1), (9, 1)], [.int .i64 0, .slice none 0 0, .int .i64 0, .int .i64 0, .int .i64 0, .bool false, .int .i64 0, .int .i64 0, .int .i64 0, .slice none 0 0])) ∧ (yH Try.prog 62 = some (true, 10)) ∧ (wC Try.prog 62 = some [.int .i64 0, .slice none 0 0, .int .i64 0, .int .i64 0, .int .i64 0, .bool false, .int .i64 0, .int .i64 0, .int .i64 0, .slice none 0 0]) := ⟨fo62_0, fo62_1, fo62_2, fo62_3, fo62_4, fo62_5, fo62_6, fo62_7, fo62_8, fo62_9, ni62, sh62, uO, zr62⟩
theorem yK : (zP Try.prog 63 = true) ∧ (yH Try.prog 63 = some (false, 1)) ∧ (Try.prog.underlying 63 = some (.pointer 91)) ∧ (wC Try.prog 63 = some [.pointer none]) := ⟨ni63, sz63, ud63, zr63⟩
theorem wM : (yJ Try.prog 65 0 = some (3, 0)) ∧ (yJ Try.prog 65 1 = some (3, 1)) ∧ (yJ Try.prog 65 2 = some (3, 2)) ∧ (yJ Try.prog 65 3 = some (3, 3)) ∧ (yJ Try.prog 65 4 = some (3, 4)) ∧ (yJ Try.prog 65 5 = some (3, 5)) ∧ (yJ Try.prog 65 6 = some (3, 6)) ∧ (yJ Try.prog 65 7 = some (3, 7)) ∧ (zP Try.prog 65 = true) ∧ (yN Try.prog 65 = some (.fields [(0, 1), (1, 1), (2, 1), (3, 1), (4, 1), (5, 1), (6, 1), (7, 1)], [.int .i64 0, .int .i64 0, .int .i64 0, .int .i64 0, .int .i64 0, .int .i64 0, .int .i64 0, .int .i64 0])) ∧ (yH Try.prog 65 = some (true, 8)) ∧ (wC Try.prog 65 = some [.int .i64 0, .int .i64 0, .int .i64 0, .int .i64 0, .int .i64 0, .int .i64 0, .int .i64 0, .int .i64 0]) := ⟨fo65_0, fo65_1, fo65_2, fo65_3, fo65_4, fo65_5, fo65_6, fo65_7, ni65, sh65, kW, zr65⟩
theorem yB : (rI Try.prog 68 = some (97, 3, 56, .agg #[.slice none 0 0, .slice none 0 0, .int .i64 0])) ∧ (zP Try.prog 68 = true) ∧ (yH Try.prog 68 = some (false, 1)) ∧ (Try.prog.underlying 68 = some (.slice 97)) ∧ (wC Try.prog 68 = some [.slice none 0 0]) := ⟨tK, ni68, qH1, ud68, zr68⟩
theorem yV : (yJ Try.prog 70 0 = some (29, 0)) ∧ (yJ Try.prog 70 1 = some (3, 1)) ∧ (yJ Try.prog 70 2 = some (4, 2)) ∧ (yJ Try.prog 70 3 = some (4, 3)) ∧ (yJ Try.prog 70 4 = some (24, 4)) ∧ (yJ Try.prog 70 5 = some (3, 5)) ∧ (yJ Try.prog 70 6 = some (68, 6)) ∧ (yJ Try.prog 70 7 = some (36, 7)) ∧ (yJ Try.prog 70 8 = some (4, 8)) ∧ (zP Try.prog 70 = true) ∧ (yN Try.prog 70 = some (.fields [(0, 1), (1, 1), (2, 1), (3, 1), (4, 1), (5, 1), (6, 1), (7, 1), (8, 1)], [.int .i64 0, .int .i64 0, .bool false, .bool false, .slice none 0 0, .int .i64 0, .slice none 0 0, .slice none 0 0, .bool false])) ∧ (yH Try.prog 70 = some (true, 9)) ∧ (wC Try.prog 70 = some [.int .i64 0, .int .i64 0, .bool false, .bool false, .slice none 0 0, .int .i64 0, .slice none 0 0, .slice none 0 0, .bool false]) := ⟨fo70_0, fo70_1, fo70_2, fo70_3, fo70_4, fo70_5, fo70_6, fo70_7, fo70_8, ni70, sh70, xG, zr70⟩
theorem ty75 : (rI Try.prog 75 = some (62, 10, 112, .agg #[.int .i64 0, .slice none 0 0, .int .i64 0, .int .i64 0, .int .i64 0, .bool false, .int .i64 0, .int .i64 0, .int .i64 0, .slice none 0 0])) ∧ (zP Try.prog 75 = true) ∧ (yH Try.prog 75 = some (false, 1)) ∧ (Try.prog.underlying 75 = some (.slice 62)) ∧ (wC Try.prog 75 = some [.slice none 0 0]) := ⟨el75, ni75, sz75, ud75, zr75⟩
theorem dZ : (zP Try.prog 78 = true) ∧ (yH Try.prog 78 = some (false, 1)) ∧ (Try.prog.underlying 78 = some (.pointer 85)) ∧ (wC Try.prog 78 = some [.pointer none]) := ⟨ni78, sz78, ud78, zr78⟩
theorem uN : (rI Try.prog 83 = some (3, 1, 8, .int .i64 0)) ∧ (zP Try.prog 83 = true) ∧ (yH Try.prog 83 = some (false, 1)) ∧ (Try.prog.underlying 83 = some (.slice 3)) ∧ (wC Try.prog 83 = some [.slice none 0 0]) := ⟨sW, ni83, kV, ud83, zr83⟩
theorem jZ : (yJ Try.prog 85 0 = some (65, 0)) ∧ (yJ Try.prog 85 1 = some (83, 8)) ∧ (yJ Try.prog 85 2 = some (22, 9)) ∧ (yJ Try.prog 85 3 = some (3, 10)) ∧ (zP Try.prog 85 = true) ∧ (yN Try.prog 85 = some (.fields [(0, 8), (8, 1), (9, 1), (10, 1)], [.int .i64 0, .int .i64 0, .int .i64 0, .int .i64 0, .int .i64 0, .int .i64 0, .int .i64 0, .int .i64 0, .slice none 0 0, .slice none 0 0, .int .i64 0])) ∧ (yH Try.prog 85 = some (true, 11)) ∧ (wC Try.prog 85 = some [.int .i64 0, .int .i64 0, .int .i64 0, .int .i64 0, .int .i64 0, .int .i64 0, .int .i64 0, .int .i64 0, .slice none 0 0, .slice none 0 0, .int .i64 0]) := ⟨fo85_0, fo85_1, fo85_2, fo85_3, ni85, sh85, sz85, zr85⟩
theorem jA : (rI Try.prog 88 = some (136, 2, 32, .agg #[.int .i64 0, .slice none 0 0])) ∧ (zP Try.prog 88 = true) ∧ (yH Try.prog 88 = some (false, 1)) ∧ (Try.prog.underlying 88 = some (.slice 136)) ∧ (wC Try.prog 88 = some [.slice none 0 0]) := ⟨qW3, ni88, gJ, ud88, zr88⟩
theorem jJ : (zP Try.prog 89 = true) ∧ (yH Try.prog 89 = some (false, 1)) ∧ (wC Try.prog 89 = some [.map none]) := ⟨ni89, pA, zr89⟩
theorem vQ : (yJ Try.prog 91 0 = some (65, 0)) ∧ (yJ Try.prog 91 1 = some (88, 8)) ∧ (yJ Try.prog 91 2 = some (3, 9)) ∧ (yJ Try.prog 91 3 = some (3, 10)) ∧ (yJ Try.prog 91 4 = some (89, 11)) ∧ (zP Try.prog 91 = true) ∧ (yN Try.prog 91 = some (.fields [(0, 8), (8, 1), (9, 1), (10, 1), (11, 1)], [.int .i64 0, .int .i64 0, .int .i64 0, .int .i64 0, .int .i64 0, .int .i64 0, .int .i64 0, .int .i64 0, .slice none 0 0, .int .i64 0, .int .i64 0, .map none])) ∧ (yH Try.prog 91 = some (true, 12)) ∧ (wC Try.prog 91 = some [.int .i64 0, .int .i64 0, .int .i64 0, .int .i64 0, .int .i64 0, .int .i64 0, .int .i64 0, .int .i64 0, .slice none 0 0, .int .i64 0, .int .i64 0, .map none]) := ⟨fo91_0, fo91_1, fo91_2, fo91_3, fo91_4, ni91, sh91, sz91, zr91⟩
theorem gH : (yJ Try.prog 97 0 = some (24, 0)) ∧ (yJ Try.prog 97 1 = some (24, 1)) ∧ (yJ Try.prog 97 2 = some (3, 2)) ∧ (zP Try.prog 97 = true) ∧ (yN Try.prog 97 = some (.fields [(0, 1), (1, 1), (2, 1)], [.slice none 0 0, .slice none 0 0, .int .i64 0])) ∧ (yH Try.prog 97 = some (true, 3)) ∧ (wC Try.prog 97 = some [.slice none 0 0, .slice none 0 0, .int .i64 0]) := ⟨fo97_0, fo97_1, fo97_2, ni97, sh97, yY, zr97⟩
theorem uM : (yJ Try.prog 99 0 = some (24, 0)) ∧ (yJ Try.prog 99 1 = some (24, 1)) ∧ (zP Try.prog 99 = true) ∧ (yN Try.prog 99 = some (.fields [(0, 1), (1, 1)], [.slice none 0 0, .slice none 0 0])) ∧ (yH Try.prog 99 = some (true, 2)) ∧ (wC Try.prog 99 = some [.slice none 0 0, .slice none 0 0]) := ⟨fo99_0, fo99_1, ni99, sh99, uQ, zr99⟩
theorem ty102 : (zP Try.prog 102 = true) ∧ (yH Try.prog 102 = some (false, 1)) ∧ (wC Try.prog 102 = some [.map none]) := ⟨ni102, sz102, zr102⟩
theorem ty130 : (zP Try.prog 130 = true) ∧ (yH Try.prog 130 = some (false, 1)) ∧ (wC Try.prog 130 = some [.nilFunc]) := ⟨ni130, sz130, zr130⟩
theorem vY : (yJ Try.prog 136 0 = some (3, 0)) ∧ (yJ Try.prog 136 1 = some (23, 1)) ∧ (zP Try.prog 136 = true) ∧ (yN Try.prog 136 = some (.fields [(0, 1), (1, 1)], [.int .i64 0, .slice none 0 0])) ∧ (yH Try.prog 136 = some (true, 2)) ∧ (wC Try.prog 136 = some [.int .i64 0, .slice none 0 0]) := ⟨fo136_0, fo136_1, ni136, sh136, fI, zr136⟩
theorem ty155 : (zP Try.prog 155 = true) ∧ (yH Try.prog 155 = some (false, 1)) ∧ (wC Try.prog 155 = some [.nilFunc]) := ⟨ni155, sz155, zr155⟩
theorem qI1 : (zP Try.prog 157 = true) ∧ (yH Try.prog 157 = some (false, 1)) ∧ (wC Try.prog 157 = some [.nilFunc]) := ⟨ni157, sz157, zr157⟩
theorem ty164 : (zP Try.prog 164 = true) ∧ (yH Try.prog 164 = some (false, 1)) ∧ (Try.prog.underlying 164 = some (.int .i64)) ∧ (wC Try.prog 164 = some [.int .i64 0]) := ⟨ni164, sz164, ud164, zr164⟩
theorem ty179 : (yJ Try.prog 179 0 = some (3, 0)) ∧ (yJ Try.prog 179 1 = some (3, 1)) ∧ (yJ Try.prog 179 2 = some (3, 2)) ∧ (zP Try.prog 179 = true) ∧ (yN Try.prog 179 = some (.fields [(0, 1), (1, 1), (2, 1)], [.int .i64 0, .int .i64 0, .int .i64 0])) ∧ (yH Try.prog 179 = some (true, 3)) ∧ (wC Try.prog 179 = some [.int .i64 0, .int .i64 0, .int .i64 0]) := ⟨fo179_0, fo179_1, fo179_2, ni179, sh179, sz179, zr179⟩
theorem ty180 : (zP Try.prog 180 = true) ∧ (yN Try.prog 180 = some (.elems 3, [.int .i64 0, .int .i64 0, .int .i64 0, .int .i64 0, .int .i64 0, .int .i64 0, .int .i64 0, .int .i64 0, .int .i64 0, .int .i64 0, .int .i64 0, .int .i64 0, .int .i64 0, .int .i64 0, .int .i64 0, .int .i64 0, .int .i64 0, .int .i64 0, .int .i64 0, .int .i64 0, .int .i64 0])) ∧ (yH Try.prog 180 = some (true, 21)) ∧ (wC Try.prog 180 = some [.int .i64 0, .int .i64 0, .int .i64 0, .int .i64 0, .int .i64 0, .int .i64 0, .int .i64 0, .int .i64 0, .int .i64 0, .int .i64 0, .int .i64 0, .int .i64 0, .int .i64 0, .int .i64 0, .int .i64 0, .int .i64 0, .int .i64 0, .int .i64 0, .int .i64 0, .int .i64 0, .int .i64 0]) := ⟨ni180, sh180, sz180, zr180⟩
end Go.Gh
namespace Go.Gh
open Go Go.Proofs Go.RowKit
set_option linter.unusedVariables false
set_option linter.unusedSimpArgs false
set_option maxRecDepth 100000
set_option maxHeartbeats 4000000
theorem zE0 : type_of% (And.intro wN (And.intro jV (And.intro lU rs29))) := And.intro wN (And.intro jV (And.intro lU rs29))
theorem c_Equal (N : Nat) (h : GH) {a b : Option Addr} {n m c d : Nat} {l k : List UInt8} (r1 : RB h (.slice a n c) l) (r2 : RB h (.slice b m d) k) : GTri Try.prog N 29 [.slice a n c, .slice b m d] h fun v h' => v = .bool (l == k) ∧ h' = h := by
  refine wQ Try.func29 rfl gf29 ok29 (by simp [Try.ntmps29]) ?_
  repeat' (first | (with_reducible first | apply qH | apply qB) | ((first | (with_reducible first | apply qA | apply qP | apply qD | apply qE | apply qK) | ((with_reducible first | apply qQ | apply qI | apply qJ) <;> intro hb <;> (try simp only [hb]))) <;> try simp only [qV, qF, qL, qN, qG, qC, qM, reduceIte, seval, Int.cast_ofNat_Int, qY, qZ, zE0, r1.conv Try.underlying24 Try.underlying5 Try.underlying9, r2.conv Try.underlying24 Try.underlying5 Try.underlying9, sT]))
def tG (s : List (Nat × Nat)) : Prop := ∀ (i j : Nat) (p q : Nat × Nat), i ≤ j → s[i]? = some p → s[j]? = some q → p.1 ≤ q.1
theorem shr1 (x : Nat) (k : Nat) (hk : k = 64) : (x : Int).fdiv (2 ^ min 1 k) = ((x / 2 : Nat) : Int) := by
  subst hk
  rw [Int.fdiv_eq_ediv_of_nonneg _ (by decide)]
  show (x : Int) / (2 ^ 1 : Int) = _
  omega
theorem pY : type_of% (And.intro wN (And.intro jV rs50)) := And.intro wN (And.intro jV rs50)
theorem fD (N : Nat) (h : GH) {a : Option Addr} {n c : Nat} {l : List UInt8} (r : RB h (.slice a n c) l) (hl : l.length ≤ 140737488355328) : GTri Try.prog N 50 [.slice a n c] h fun v h' => HS h h' ∧ OWN h h' v l := by
  refine wQ Try.func50 rfl gf50 ok50 (by simp [Try.ntmps50]) ?_
  repeat' (first | (with_reducible first | apply qH | apply qB) | ((first | (with_reducible first | apply qA | apply qP | apply qD | apply qE | apply qK) | ((with_reducible first | apply qQ | apply qI | apply qJ) <;> intro hb <;> (try simp only [hb]))) <;> try simp only [qV, qF, qL, qN, qG, qC, qM, reduceIte, seval, Int.cast_ofNat_Int, qY, qZ, pY]))
  · obtain rfl := r.isnil hb
    exact ⟨HS.refl h, OWN.nil h h⟩
  · refine tH fG rfl ?_
    simp only [qV, qF, qL, qN, qG, qC, qM, reduceIte, seval, Int.cast_ofNat_Int, qY, qZ, pY]
    refine kN fG Try.underlying24 rfl (HS.refl h) (.inr (.inl ⟨_, rfl, rfl⟩)) r.src (by simpa using hl) fun v h' s1 _ o => ?_
    simp only [qV, qF, qL, qN, qG, qC, qM, reduceIte, seval, Int.cast_ofNat_Int, qY, qZ, pY]
    repeat' (first | (with_reducible first | apply qH | apply qB) | ((first | (with_reducible first | apply qA | apply qP | apply qD | apply qE | apply qK) | ((with_reducible first | apply qQ | apply qI | apply qJ) <;> intro hb <;> (try simp only [hb]))) <;> try simp only [qV, qF, qL, qN, qG, qC, qM, reduceIte, seval, Int.cast_ofNat_Int, qY, qZ, pY]))
    exact ⟨s1, o⟩
abbrev Bnd := List UInt8 × List UInt8
def Bd (h : GH) (cs : List Value) (x : Bnd) : Prop := ∃ a n c b m d, cs = [.slice a n c, .slice b m d] ∧ RB h (.slice a n c) x.1 ∧ RB h (.slice b m d) x.2
theorem Bd.hs {h h' : GH} (x : HS h h') {cs : List Value} {y : Bnd} (r : Bd h cs y) : Bd h' cs y := by
  obtain ⟨a, n, c, b, m, d, e, r1, r2⟩ := r
  exact ⟨a, n, c, b, m, d, e, r1.hs x, r2.hs x⟩
theorem RL.bs {h h' : GH} {v : Value} {L : List Bnd} (r : RL 2 Bd h v L) (x : HS h h') : RL 2 Bd h' v L := r.hcR x.hc fun _ _ q => q.hs x
def xO : List Value → List ByteArray
  | .string k :: _ :: r => k :: xO r
  | _ => []
theorem fS (s : ByteArray) (x : Value) : ∀ (l : List Value), dP l = true → (s ∈ xO l ∧ xO (jD s x l) = xO l) ∨ (¬ s ∈ xO l ∧ xO (jD s x l) = xO l ++ [s])
  | [], _ => .inr ⟨by simp [xO], by simp [jD, xO]⟩
  | [v], h => by cases v <;> simp [dP] at h
  | k :: v :: l, h => by
    cases k with
    | string k =>
      have ih := fS s x l (by simpa [dP] using h)
      have e : (s == k) = true ↔ s = k := MapKept.bytes_beq _ _
      rw [jD]
      by_cases hs : s = k
      · subst hs
        rw [if_pos (e.2 rfl)]
        exact .inl ⟨by simp [xO], rfl⟩
      · rw [if_neg (fun q => hs (e.1 q))]
        simp only [xO, List.mem_cons, hs, false_or]
        rcases ih with ⟨h1, h2⟩ | ⟨h1, h2⟩
        · exact .inl ⟨h1, by rw [h2]⟩
        · exact .inr ⟨h1, by rw [h2]; rfl⟩
    | _ => simp [dP] at h
theorem mset_nd {s : ByteArray} {x : Value} {l : List Value} (h : dP l = true) (n : (xO l).Nodup) : (xO (jD s x l)).Nodup := by
  rcases fS s x l h with ⟨_, e⟩ | ⟨hn, e⟩
  · rw [e]; exact n
  · rw [e, List.nodup_append]
    exact ⟨n, by simp, fun a ha b hb e' => hn (by obtain rfl := List.mem_singleton.1 hb; rw [← e']; exact ha)⟩
theorem qC5 : ∀ (l : List Value) (q : Nat) (key v : Value), dP l = true → (xO l).Nodup → l[2 * q]? = some key → l[2 * q + 1]? = some v → ∃ k, key = .string k ∧ (xO l)[q]? = some k ∧ uA k l = some v
  | [], q, key, v, _, _, h, _ => by simp at h
  | [u], q, key, v, h, _, _, _ => by cases u <;> simp [dP] at h
  | k :: u :: l, 0, key, v, h, _, h1, h2 => by
    cases k with
    | string k =>
      simp at h1 h2
      subst h1
      subst h2
      exact ⟨k, rfl, rfl, by rw [uA, if_pos ((MapKept.bytes_beq _ _).2 rfl)]⟩
    | _ => simp [dP] at h
  | k :: u :: l, q + 1, key, v, h, n, h1, h2 => by
    cases k with
    | string k =>
      simp only [xO, List.nodup_cons] at n
      obtain ⟨k', e1, e2, e3⟩ := qC5 l q key v (by simpa [dP] using h) n.2 (by rw [show 2 * (q + 1) = 2 * q + 1 + 1 by omega] at h1; simpa using h1) (by rw [show 2 * (q + 1) + 1 = 2 * q + 1 + 1 + 1 by omega] at h2; simpa using h2)
      refine ⟨k', e1, by simpa [xO] using e2, ?_⟩
      rw [uA, if_neg (fun q => n.1 (by rw [← (MapKept.bytes_beq _ _).1 q]; exact List.mem_of_getElem? e2))]
      exact e3
    | _ => simp [dP] at h
theorem sI : ∀ (l : List Value), dP l = true → l.length = 2 * (xO l).length
  | [], _ => rfl
  | [u], h => by cases u <;> simp [dP] at h
  | k :: u :: l, h => by
    cases k with
    | string k =>
      have := sI l (by simpa [dP] using h)
      simp only [List.length_cons, xO, this]
      omega
    | _ => simp [dP] at h
def qK7 (l : List Value) (id : List UInt8) : Value := (uA (yT id) l).getD (.slice none 0 0)
def Bat (h0 h : GH) (v : Value) (b : List Bnd) : Prop := ∃ ds, OWNC 2 h0 h v b.length ds ∧ ∀ (i : Nat) p, b[i]? = some p → Bd h ((ds.drop (i * 2)).take 2) p
theorem Bat.rl {h0 h : GH} {v : Value} {b : List Bnd} (x : Bat h0 h v b) : RL 2 Bd h v b := by
  obtain ⟨ds, o, r⟩ := x
  exact o.rl r
theorem Bat.hs {h0 h h' : GH} {v : Value} {b : List Bnd} (x : Bat h0 h v b) (s : HS h h') : Bat h0 h' v b := by
  obtain ⟨ds, o, r⟩ := x
  exact ⟨ds, o.hs s, fun i p hp => (r i p hp).hs s⟩
def Ev (h : GH) (cs : List Value) (e : Nat × Nat × Bnd) : Prop := ∃ a c b d, cs = [.int .i64 (e.1 : Int), .int .i64 (e.2.1 : Int), .slice a e.2.2.1.length c, .slice b e.2.2.2.length d] ∧ RB h (.slice a e.2.2.1.length c) e.2.2.1 ∧ RB h (.slice b e.2.2.2.length d) e.2.2.2
theorem Ev.hs {h h' : GH} (x : HS h h') {cs : List Value} {e : Nat × Nat × Bnd} (r : Ev h cs e) : Ev h' cs e := by
  obtain ⟨a, c, b, d, e, r1, r2⟩ := r
  exact ⟨a, c, b, d, e, r1.hs x, r2.hs x⟩
def Evs (h0 h : GH) (v : Value) (L : List (Nat × Nat × Bnd)) : Prop := ∃ ds, OWNC 4 h0 h v L.length ds ∧ ds.all wX = true ∧ ∀ (i : Nat) p, L[i]? = some p → Ev h ((ds.drop (i * 4)).take 4) p
theorem Evs.hs {h0 h h' : GH} {v : Value} {L : List (Nat × Nat × Bnd)} (x : Evs h0 h v L) (s : HS h h') : Evs h0 h' v L := by
  obtain ⟨ds, o, u, r⟩ := x
  exact ⟨ds, o.hs s, u, fun i p hp => (r i p hp).hs s⟩
theorem Evs.rl {h0 h : GH} {v : Value} {L : List (Nat × Nat × Bnd)} (x : Evs h0 h v L) : RL 4 Ev h v L := by
  obtain ⟨ds, o, _, r⟩ := x
  exact o.rl r
theorem dX {α : Type} {es : Nat} {R : List Value → α → Prop} {L : List α} {x : α} {ds cs : List Value} (hd : ds.length = L.length * es) (hc : cs.length = es) (h1 : ∀ (i : Nat) p, L[i]? = some p → R ((ds.drop (i * es)).take es) p) (h2 : R cs x) :
    ∀ (i : Nat) p, (L ++ [x])[i]? = some p → R (((ds ++ cs).drop (i * es)).take es) p := by
  intro i p hp
  rcases Nat.lt_or_ge i L.length with hi | hi
  · rw [List.getElem?_append_left hi] at hp
    have hle : i * es + es ≤ ds.length := by
      rw [hd]
      have := Nat.mul_le_mul_right es (show i + 1 ≤ L.length by omega)
      rw [Nat.add_mul, Nat.one_mul] at this; exact this
    rw [List.drop_append_of_le_length (by omega), List.take_append_of_le_length (by rw [List.length_drop]; omega)]
    exact h1 i p hp
  · rw [List.getElem?_append_right hi] at hp
    have hi0 : i = L.length := by
      have := (List.getElem?_eq_some_iff.1 hp).1
      simp at this; omega
    subst hi0
    simp at hp
    subst hp
    rw [← hd, List.drop_left, ← hc, List.take_length]
    exact h2
theorem kJ (s t : ByteArray) (x : Value) : ∀ (l : List Value), dP l = true → dP (jD s x l) = true ∧ uA t (jD s x l) = if t = s then some x else uA t l
  | [], _ => by
    refine ⟨rfl, ?_⟩
    simp only [jD, List.cons_append, List.nil_append, uA]
    by_cases h : t = s
    · rw [if_pos h, if_pos ((MapKept.bytes_beq _ _).2 h)]
    · rw [if_neg h, if_neg (fun e => h ((MapKept.bytes_beq _ _).1 e))]
  | [v], h => by cases v <;> simp [dP] at h
  | k :: v :: l, h => by
    cases k with
    | string k =>
      obtain ⟨i1, i2⟩ := kJ s t x l (by simpa [dP] using h)
      have e2 : (t == s) = true ↔ t = s := MapKept.bytes_beq _ _
      have e3 : (t == k) = true ↔ t = k := MapKept.bytes_beq _ _
      have e4 : (s == k) = true ↔ s = k := MapKept.bytes_beq _ _
      by_cases hs : s = k
      · subst hs
        rw [jD, if_pos (e4.2 rfl)]
        refine ⟨by simpa [dP] using h, ?_⟩
        by_cases h2 : t = s
        · subst h2
          simp only [uA, if_true, if_pos (e2.2 rfl)]
        · have h3 : ¬ (t == s) = true := fun e => h2 (e2.1 e)
          simp only [uA, if_neg h2, if_neg h3]
      · rw [jD, if_neg (fun e => hs (e4.1 e))]
        refine ⟨by simpa [dP] using i1, ?_⟩
        simp only [uA, i2]
        by_cases h2 : t = s
        · have h3 : ¬ t = k := fun e => hs (h2.symm.trans e)
          simp [e3, h2, h3, hs]
          intro e
          exact absurd ((MapKept.bytes_beq _ _).1 e) hs
        · simp [e3, h2]
    | _ => simp [dP] at h
theorem qO6 (s : ByteArray) (x : Value) (p : Value → Bool) (hp : p (.string s) = true) (hx : p x = true) : ∀ (l : List Value), l.all p = true → (jD s x l).all p = true
  | [], _ => by simp [jD, hp, hx]
  | [v], h => by
    have h1 : p v = true := by simpa using h
    cases v <;> simp_all [jD]
  | k :: v :: l, h => by
    simp only [List.all_cons, Bool.and_eq_true] at h
    cases k with
    | string k =>
      have ih := qO6 s x p hp hx l h.2.2
      rw [jD]
      split
      · simp [hp, hx, h.2.2]
      · simp [h.1, h.2.1, ih]
    | _ => simp [jD, hp, hx, h.1, h.2.1, h.2.2]
theorem mL {a b : List UInt8} (h : yT a = yT b) : a = b := by
  unfold yT at h
  cases h
  rfl
theorem zC6 {l : List Value} (ok : dP l = true) (a b : List UInt8) (x : Value) : qK7 (jD (yT a) x l) b = if b = a then x else qK7 l b := by
  unfold qK7
  rw [(kJ (yT a) (yT b) x l ok).2]
  by_cases h : b = a
  · subst h; simp
  · rw [if_neg h, if_neg (fun e => h (mL e))]
theorem mm_g {h : GH} {K : Value → GH → Prop} (g : ∀ (j : Nat) (h' : GH), h' (j + 1) = some ⟨[MM], 0, true, false⟩ → HS h h' → (∀ i, i ≠ j + 1 → h' i = h i) → h (j + 1) = none → K (.map (some j)) h') : qD5 h K :=
  fun j _ hj => g j _ (zV _ _ _) (HS.new hj _) (fun i hi => xD _ _ hi) hj
theorem qY1 {P : Program} {h : GH} {t et : TypeId} {j : Nat} {l : List Value} {s : ByteArray} {x : Value} {K : Value → GH → Prop} (hm : h (j + 1) = some ⟨MM :: l, 0, true, false⟩) (ok : dP l = true) (ht : pB P t = some et)
    (g : ∀ h', h' (j + 1) = some ⟨MM :: jD s x l, 0, true, false⟩ → (∀ i, i ≠ j + 1 → h' i = h i) → K U h') : qL7 P t h (.map (some j)) (.string s) x K :=
  ⟨et, s, j, l, _, ht, rfl, rfl, by simp [vF, hm, ok], hm, rfl, g _ (zV _ _ _) (fun i hi => xD _ _ hi)⟩
theorem lenm {P : Program} {h : GH} {t k e : TypeId} {j : Nat} {l : List Value} (hm : h (j + 1) = some ⟨MM :: l, 0, true, false⟩) (ok : dP l = true) (hu : P.underlying t = some (.map k e)) : qP8 P t h (.map (some j)) = some ((l.length / 2 : Nat) : Int) := by
  simp [qP8, hu, vF, hm, ok]
theorem lenm0 {P : Program} {t k e : TypeId} (hu : P.underlying t = some (.map k e)) (x : Option Nat) : qP9 P t (.map x) = none := by simp [qP9, hu]
def vI (b : List Bnd) (i : Nat) : Bnd := (b[i]?).getD ([], [])
def tO (b : List Bnd) : Nat → List Value
  | 0 => []
  | i + 1 => jD (yT (vI b i).1) (.int .i64 (i : Int)) (tO b i)
theorem qB6 (b : List Bnd) : ∀ i, dP (tO b i) = true
  | 0 => rfl
  | i + 1 => (kJ _ (yT []) _ _ (qB6 b i)).1
def yG (ep : Nat) (b : List Bnd) : Nat → List UInt8 → List (Nat × Nat)
  | 0, _ => []
  | i + 1, id => yG ep b i id ++ (if id = (vI b i).1 then [(ep, i)] else [])
theorem fR {ep : Nat} {b : List Bnd} {id : List UInt8} {p : Nat × Nat} : ∀ {i : Nat}, p ∈ yG ep b i id → p.1 = ep ∧ p.2 < i
  | 0, h => by simp [yG] at h
  | i + 1, h => by
    rcases List.mem_append.1 h with h | h
    · have := fR h; exact ⟨this.1, by omega⟩
    · split at h
      · obtain rfl := List.mem_singleton.1 h
        exact ⟨rfl, Nat.lt_succ_self _⟩
      · simp at h
theorem mU (ep : Nat) (b : List Bnd) (id : List UInt8) : ∀ i, (yG ep b i id).length ≤ i
  | 0 => by simp [yG]
  | i + 1 => by
    have := mU ep b id i
    simp only [yG, List.length_append]
    split <;> simp <;> omega
def isSl : Value → Bool | .slice _ _ _ => true | _ => false
theorem isSl_u8 {l : List Value} (h : l.all isSl = true) : l.all wX = true := by
  rw [List.all_eq_true] at h ⊢
  intro v hv
  have := h v hv
  cases v <;> simp_all [isSl, wX]
theorem gSrc_hs {h h' : GH} (s : HS h h') {es : Nat} {x : Value} {r : Nat × List Value} (e : jM h es x = some r) : jM h' es x = some r := by
  unfold jM at e ⊢
  split at e
  · exact e
  · simp only [Option.map_eq_some_iff] at e ⊢
    obtain ⟨cs, h1, h2⟩ := e
    exact ⟨cs, kB s.hc h1, h2⟩
  · exact e
  · cases e
theorem Bat.by {h0 h h' : GH} {v : Value} {b : List Bnd} (x : Bat h0 h v b) (ho : ∀ v n cs, OWNC 2 h0 h v n cs → OWNC 2 h0 h' v n cs) (hr : ∀ v l, RB h v l → RB h' v l) : Bat h0 h' v b := by
  obtain ⟨ds, o, r⟩ := x
  refine ⟨ds, ho _ _ _ o, fun i p hp => ?_⟩
  obtain ⟨a, n, c, b, m, d, e, r1, r2⟩ := r i p hp
  exact ⟨a, n, c, b, m, d, e, hr _ _ r1, hr _ _ r2⟩
theorem RL.cut {α : Type} {P : Program} {es : Nat} {R : GH → List Value → α → Prop} {h : GH} {a : Option Addr} {c : Nat} {l : List α} (r : RL es R h (.slice a l.length c) l) {t e : TypeId} {b : Bool} (ht : P.underlying t = some (.slice e)) (he : yH P e = some (b, es)) {m : Nat} (hm : m ≤ l.length) :
    ∃ a' c', vO P t h (.slice a l.length c) none (some (.int .i64 (m : Int))) none = some (.slice a' m c') ∧ RL es R h (.slice a' m c') (l.take m) := by
  have hl : (l.take m).length = m := by simp; omega
  rcases r with ⟨c2, hv, rfl⟩ | ⟨ad, c2, cs, hv, h2, h3, h4, h5⟩
  · cases hv
    simp at hm
    subst hm
    exact ⟨none, 0, by simp [vO, ht, he, gD, fB, uB], .inl ⟨0, rfl, by simp⟩⟩
  · cases hv
    have hle : m * es ≤ l.length * es := Nat.mul_le_mul_right es hm
    refine ⟨some ⟨ad.block, ad.off, ad.spot⟩, c, ?_, .inr ⟨⟨ad.block, ad.off, ad.spot⟩, c, cs.take (m * es), by rw [hl], ?_, by omega, fun i x hx => ?_, ?_⟩⟩
    · have hb : 0 ≤ (m : Int) ∧ (m : Int) ≤ ((max l.length (c / 2) : Nat) : Int) := ⟨by omega, by omega⟩
      simp only [vO, ht, he, gD, uB, hb, and_self, if_true, fB]
      simp
    · rw [hl]
      have := sL h2 0 (m * es) (by omega)
      simpa using this
    · have hi : i < m := by have := (List.getElem?_eq_some_iff.1 hx).1; omega
      rw [List.getElem?_take, if_pos hi] at hx
      have hie : i * es + es ≤ m * es := by
        have := Nat.mul_le_mul_right es (show i + 1 ≤ m by omega)
        rw [Nat.add_mul, Nat.one_mul] at this; exact this
      have := h4 i x hx
      rw [List.drop_take, List.take_take, Nat.min_eq_left (by omega)]
      exact this
    · rw [hl]
      rcases h5 with h5 | h5
      · exact .inl (by omega)
      · exact .inr h5
theorem gV {P : Program} {t e es by_ : Nat} {z : Value} {h : GH} {x : Value} {K : Value → GH → Prop} (hel : rI P t = some (e, es, by_, z)) (hz : qR7 z = true) (hl : (vcells x).length = es) (he : es ≤ 16777216) (h0 : es ≠ 0) (hc : (vcells x).all zA = true)
    (g : ∀ k h', h' k = some ⟨vcells x, es, true, false⟩ → HS h h' → (∀ j, j ≠ k → h' j = h j) → h k = none → K (.slice (some ⟨k, 0, none⟩) 1 3) h') : kP P t h 1 [(0, x)] K := by
  refine bs_g (cs := vcells x) hel hz (by omega) (by decide) ?_ hc fun k h' m s f n => g k h' m s f n
  have hzl := gA z (1 * es)
  have hp : (Shape.elems es).pl 0 = some (0, es) := by simp [Shape.pl]
  simp only [xT, hp]
  have := qC6 (vcells x) (jK z (1 * es)) [] (by rw [hzl, hl, Nat.one_mul])
  simp only [List.nil_append, List.length_nil] at this
  rw [this, hzl, Nat.one_mul]
  simp [hl, hc]
theorem one_rl {α : Type} {es : Nat} {R : GH → List Value → α → Prop} {h : GH} {k : Nat} {cs : List Value} {x : α} {w t : Bool} (m : h k = some ⟨cs, es, w, t⟩) (hl : cs.length = es) (h0 : es ≠ 0) (r : R h cs x) : RL es R h (.slice (some ⟨k, 0, none⟩) 1 3) [x] := by
  refine .inr ⟨_, 3, cs, rfl, ?_, by simp, fun i y hy => ?_, .inr ⟨_, m, .inl h0⟩⟩
  · exact vA m (o := 0) (by rw [List.drop_zero]; exact List.take_of_length_le (by simp; omega)) (by simp; omega)
  · have hi : i = 0 := by have := (List.getElem?_eq_some_iff.1 hy).1; simp at this; omega
    subst hi
    simp at hy
    subst hy
    rw [Nat.zero_mul, List.drop_zero, ← hl, List.take_length]
    exact r
def qO0 (b : List Bnd) : Prop := ∀ p ∈ b, p.1.length ≤ 140737488355328 ∧ p.2.length ≤ 140737488355328
abbrev bdTy : Ty := .fcons .bs (.fcons .bs .fnil)
def toB (x : bdTy.den) : Bnd := (x.1, x.2.1)
theorem bd_R {h : GH} {cs : List Value} {x : bdTy.den} (r : bdTy.R h cs x) : Bd h cs (toB x) := by
  obtain ⟨y1, y2, y3⟩ := x
  obtain ⟨c1, c2, rfl, _, ⟨v, rfl, r1, _⟩, c3, c4, rfl, _, ⟨w, rfl, r2, _⟩, rfl⟩ := r
  obtain ⟨a, c, rfl, _⟩ := r1.form
  obtain ⟨b, d, rfl, _⟩ := r2.form
  exact ⟨_, _, _, _, _, _, rfl, r1, r2⟩
theorem bat_R {h : GH} {v : Value} {l : List bdTy.den} (r : RL 2 bdTy.R h v l) : RL 2 Bd h v (l.map toB) := RL.map (R' := Bd) r _ fun cs x hx => bd_R hx
theorem bat_fits {l : List bdTy.den} (f : Ty.fits (.sl bdTy) l) : qO0 (l.map toB) ∧ (l.map toB).length ≤ 140737488355328 := by
  refine ⟨fun p hp => ?_, ?_⟩
  · obtain ⟨z, hz, rfl⟩ := List.mem_map.1 hp
    have f2 : List.length z.1 ≤ 140737488351232 ∧ List.length z.2.1 ≤ 140737488351232 := ⟨(f.2 z hz).1, (f.2 z hz).2.1⟩
    exact ⟨Nat.le_trans f2.1 (by decide), Nat.le_trans f2.2 (by decide)⟩
  · have f1 : List.length l ≤ 140737488351232 := f.1
    exact Nat.le_trans (Nat.le_of_eq (List.length_map _)) (Nat.le_trans f1 (by decide))
section
variable {H : Type} {enc : TypeId × Value → H} {W : World} {base b0 : Nat} {v : Value} {d : DataW H} {ps : List MemPlace} {r : Reach}
end
theorem lC : type_of% (And.intro wM (And.intro wZ rs103)) := And.intro wM (And.intro wZ rs103)
theorem kT : type_of% (And.intro Try.underlying180 (And.intro ty179 (And.intro wM (And.intro ty180 (And.intro wZ rs116))))) := And.intro Try.underlying180 (And.intro ty179 (And.intro wM (And.intro ty180 (And.intro wZ rs116))))
structure Pm where
  (s ht mi my ch ar ca pg : Int)
def Pm.v (p : Pm) : Value := .agg #[.int .i64 p.s, .int .i64 p.ht, .int .i64 p.mi, .int .i64 p.my, .int .i64 p.ch, .int .i64 p.ar, .int .i64 p.ca, .int .i64 p.pg]
def zC9 (n lo hi : Int) : Bool := decide (lo ≤ n ∧ n ≤ hi)
def Pm.may (p : Pm) : Bool := zC9 p.s 1 32 && zC9 p.ht 0 8 && zC9 p.mi 0 24 && zC9 p.my 0 48 && zC9 p.ch 0 4096 && zC9 p.ca 0 8 && zC9 p.pg 1 32
theorem qR8 (N : Nat) (h : GH) (n lo hi : Int) : GTri Try.prog N 104 [.int .i64 n, .int .i64 lo, .int .i64 hi] h fun v h' => v = .bool (zC9 n lo hi) ∧ h' = h := by
  refine wQ Try.func104 rfl gf104 ok104 (by simp [Try.ntmps104]) ?_
  repeat' (first | (with_reducible first | apply qH | apply qB) | ((first | (with_reducible first | apply qA | apply qP | apply qD | apply qE | apply qK) | ((with_reducible first | apply qQ | apply qI | apply qJ) <;> intro hb <;> (try simp only [hb]))) <;> try simp only [qV, qF, qL, qN, qG, qC, qM, reduceIte, seval, Int.cast_ofNat_Int, qY, qZ, wZ, rs104]))
  all_goals
    simp [zC9] at *
    try omega
theorem qG1 (N : Nat) (h : GH) (p : Pm) : GTri Try.prog N 103 [p.v] h fun v h' => v = .bool p.may ∧ HS h h' := by
  refine wQ Try.func103 rfl gf103 ok103 (by simp [Try.ntmps103]) ?_
  refine qH (qA ?_)
  simp only [qV, qF, qL, qN, qG, qC, qM, reduceIte, seval, Int.cast_ofNat_Int, qY, qZ, lC, Pm.v]
  refine wY rfl fun k1 h1 m1 s1 f1 n1 => ?_
  simp only [qV, qF, qL, qN, qG, qC, qM, reduceIte, seval, Int.cast_ofNat_Int, qY, qZ, lC]
  repeat' (first | (with_reducible first | apply qH | apply qB) | ((first | (with_reducible first | apply qA | apply qP | apply qD | apply qE | apply qK) | ((with_reducible first | apply qQ | apply qI | apply qJ) <;> intro hb <;> (try simp only [hb])) | ((refine GTri.mono (qR8 _ _ _ _ _) ?_); rintro _ _ ⟨rfl, rfl⟩)) <;> try simp only [qV, qF, qL, qN, qG, qC, qM, reduceIte, seval, Int.cast_ofNat_Int, qY, qZ, lC, qG, qT m1 wL]))
  all_goals
    refine ⟨?_, s1⟩
    simp only [Pm.may, *, Bool.and_false, Bool.false_and, Bool.true_and, Bool.and_true]
theorem qS0 (N : Nat) (h : GH) (p : Pm) : GTri Try.prog N 116 [p.v] h fun v h' => v = .bool p.may ∧ HS h h' := by
  refine wQ Try.func116 rfl gf116 ok116 (by simp [Try.ntmps116]) ?_
  refine qH (qA ?_)
  simp only [qV, qF, qL, qN, qG, qC, qM, reduceIte, seval, Int.cast_ofNat_Int, qY, qZ, kT, Pm.v]
  refine wY rfl fun k1 h1 m1 s1 f1 n1 => ?_
  simp only [qV, qF, qL, qN, qG, qC, qM, reduceIte, seval, Int.cast_ofNat_Int, qY, qZ, kT]
  repeat' (first | (with_reducible first | apply qH | apply qB) | ((first | (with_reducible first | apply qA | apply qP | apply qD | apply qE | apply qK) | ((with_reducible first | apply qQ | apply qI | apply qJ) <;> intro hb <;> (try simp only [hb]))) <;> try simp only [qV, qF, qL, qN, qG, qC, qM, reduceIte, seval, Int.cast_ofNat_Int, qY, qZ, kT, qG, qT m1 wL, xL, xT, vB, Shape.pl, List.all_cons, List.all_nil, zA, List.set_cons_zero, List.set_cons_succ, and_self]))
  refine gw_env [(27, .int .i64 0), (26, .agg #[.int .i64 p.s, .int .i64 1, .int .i64 32, .int .i64 p.ht, .int .i64 0, .int .i64 8, .int .i64 p.mi, .int .i64 0, .int .i64 24, .int .i64 p.my, .int .i64 0, .int .i64 48, .int .i64 p.ch, .int .i64 0, .int .i64 4096, .int .i64 p.ca, .int .i64 0, .int .i64 8, .int .i64 p.pg, .int .i64 1, .int .i64 32])] (by simp only [List.forall_mem_cons, List.not_mem_nil, false_implies, implies_true, lk, Nat.reduceEqDiff, reduceIte, and_true, true_and]) ?_
  refine sK ?_
  clear m1 f1 n1
  iterate 7
    refine jL ?_
    repeat' (first | (with_reducible first | apply qH | apply qB) | ((first | (with_reducible first | apply qA | apply qP | apply qD | apply qE | apply qK) | ((with_reducible first | apply qQ | apply qI | apply qJ) <;> intro hb <;> (try simp only [hb]))) <;> try simp only [qV, qF, qL, qN, qG, qC, qM, reduceIte, seval, Int.cast_ofNat_Int, qY, qZ, kT]))
    refine xW fun k2 h2 m2 _ f2 n2 => ?_
    simp only [qV, qF, qL, qN, qG, qC, qM, reduceIte, seval, Int.cast_ofNat_Int, qY, qZ, kT]
    refine zM m2 sz179 rfl (by decide) rfl rfl rfl fun h3 m3 f3 => ?_
    have s1 := s1.upd (fun_none s1 n2) (fun j hj => (f3 j hj).trans (f2 j hj))
    simp only [qV, qF, qL, qN, qG, qC, qM, reduceIte, seval, Int.cast_ofNat_Int, qY, qZ, kT]
    repeat' (first | (with_reducible first | apply qH | apply qB) | ((first | (with_reducible first | apply qA | apply qP | apply qD | apply qE | apply qK) | ((with_reducible first | apply qQ | apply qI | apply qJ) <;> intro hb <;> (try simp only [hb]))) <;> try simp only [qV, qF, qL, qN, qG, qC, qM, reduceIte, seval, Int.cast_ofNat_Int, qY, qZ, kT, qT m3 wL]))
    rotate_left 2
  refine jL ?_
  repeat' (first | (with_reducible first | apply qH | apply qB) | ((first | (with_reducible first | apply qA | apply qP | apply qD | apply qE | apply qK) | ((with_reducible first | apply qQ | apply qI | apply qJ) <;> intro hb <;> (try simp only [hb]))) <;> try simp only [qV, qF, qL, qN, qG, qC, qM, reduceIte, seval, Int.cast_ofNat_Int, qY, qZ, kT]))
  all_goals
    refine ⟨congrArg Value.bool (Eq.symm ?_), s1⟩
    simp only [decide_eq_true_eq, decide_eq_false_iff_not] at *
    first
    | rw [Bool.eq_false_iff]
      simp only [Pm.may, zC9, Bool.and_eq_true, decide_eq_true_eq, ne_eq]
      omega
    | simp only [Pm.may, zC9, Bool.and_eq_true, decide_eq_true_eq]
      omega
theorem pH : type_of% (And.intro wM (And.intro wZ (And.intro uP rs156))) := And.intro wM (And.intro wZ (And.intro uP rs156))
theorem pI : type_of% (And.intro wM (And.intro wZ (And.intro uP rs145))) := And.intro wM (And.intro wZ (And.intro uP rs145))
theorem pJ : type_of% (And.intro wM (And.intro wZ (And.intro uP rs138))) := And.intro wM (And.intro wZ (And.intro uP rs138))
theorem pK : type_of% (And.intro wM (And.intro wZ (And.intro uP rs133))) := And.intro wM (And.intro wZ (And.intro uP rs133))
theorem pL : type_of% (And.intro wM (And.intro wZ (And.intro uP rs117))) := And.intro wM (And.intro wZ (And.intro uP rs117))
def rO : Nat → List (Nat × List Nat) × List Nat
  | 4 => ([(0, []), (1, []), (2, []), (3, []), (4, []), (5, [2]), (6, []), (7, []), (8, [])], [0, 0, 2, 7, 0, 16, 63, 127, 255])
  | _ => ([], [])
theorem pM : type_of% (And.intro wM (And.intro wZ (And.intro uP rs105))) := And.intro wM (And.intro wZ (And.intro uP rs105))
def rP : Nat → List (Nat × List Nat) × List Nat
  | 3 => ([(0, []), (1, []), (2, []), (3, []), (4, []), (5, []), (6, []), (7, [1, 4]), (8, []), (9, []), (10, [])], [0, 1, 3, 0, 8, 31, 0, 64, 255, 511, 1023])
  | _ => ([], [])
theorem lG : type_of% (And.intro wM (And.intro wZ (And.intro uP rs82))) := And.intro wM (And.intro wZ (And.intro uP rs82))
def tY : Nat → List (Nat × List Nat) × List Nat
  | 3 => ([(0, []), (1, []), (2, []), (3, [1]), (4, []), (5, [])], [0, 1, 0, 4, 15, 31])
  | _ => ([], [])
theorem rZ : type_of% (And.intro wM (And.intro wZ (And.intro uP rs107))) := And.intro wM (And.intro wZ (And.intro uP rs107))
theorem sP : type_of% (And.intro wM (And.intro wZ (And.intro uP rs81))) := And.intro wM (And.intro wZ (And.intro uP rs81))
theorem lH : type_of% (And.intro wM (And.intro wZ (And.intro uP rs68))) := And.intro wM (And.intro wZ (And.intro uP rs68))
def tZ : Nat → List (Nat × List Nat) × List Nat
  | 3 => ([(0, []), (1, []), (2, []), (3, [1]), (4, [])], [0, 1, 0, 4, 15])
  | _ => ([], [])
theorem Pm.may_iff (p : Pm) : p.may = true ↔ (1 ≤ p.s ∧ p.s ≤ 32) ∧ (0 ≤ p.ht ∧ p.ht ≤ 8) ∧ (0 ≤ p.mi ∧ p.mi ≤ 24) ∧ (0 ≤ p.my ∧ p.my ≤ 48) ∧ (0 ≤ p.ch ∧ p.ch ≤ 4096) ∧ (0 ≤ p.ca ∧ p.ca ≤ 8) ∧ (1 ≤ p.pg ∧ p.pg ≤ 32) := by
  simp only [Pm.may, zC9, Bool.and_eq_true, decide_eq_true_eq]
  omega
def Pm.deep (p : Pm) : Int := if p.may = true then 8 * (p.mi + 1) else 0
def Pm.each (p : Pm) : Int := if p.may = true then p.deep + 2 else 0
def Pm.need (p : Pm) : Int := if p.may = true then (2 + p.ca) * p.ch * p.each + 1 else 0
theorem c_deep (N : Nat) (h : GH) (p : Pm) : GTri Try.prog N 156 [p.v] h fun v h' => v = .int .i64 p.deep ∧ HS h h' := by
  refine wQ Try.func156 rfl gf156 ok156 (by simp [Try.ntmps156]) ?_
  repeat' (first | (with_reducible first | apply qH | apply qB) | ((first | (with_reducible first | apply qA | apply qP | apply qD | apply qE | apply qK) | ((with_reducible first | apply qQ | apply qI | apply qJ) <;> intro hb <;> (try simp only [hb]))) <;> try simp only [qV, qF, qL, qN, qG, qC, qM, reduceIte, seval, Int.cast_ofNat_Int, qY, qZ, pH, Pm.v]))
  refine wY rfl fun k1 h1 m1 s1 f1 n1 => ?_
  simp only [qV, qF, qL, qN, qG, qC, qM, reduceIte, seval, Int.cast_ofNat_Int, qY, qZ, pH]
  repeat' (first | (with_reducible first | apply qH | apply qB) | ((first | (with_reducible first | apply qA | apply qP | apply qD | apply qE | apply qK) | ((with_reducible first | apply qQ | apply qI | apply qJ) <;> intro hb <;> (try simp only [hb])) | ((refine GTri.mono (qS0 _ _ p) ?_); rintro _ h2 ⟨rfl, s2⟩; have m1 := s2 _ _ m1 ; have s1 := s1.trans s2)) <;> try simp only [qV, qF, qL, qN, qG, qC, qM, reduceIte, seval, Int.cast_ofNat_Int, qY, qZ, pH, qT m1 wL, zI m1 kW rfl]))
  all_goals refine ⟨congrArg _ ?_, s1⟩
  · simp only [Bool.not_eq_true'] at hb
    simp [Pm.deep, hb]
  · simp only [Bool.not_eq_false'] at hb
    have := p.may_iff.1 hb
    simp only [Pm.deep, hb, if_true]
    rw [wrap64, wrap64] <;> (try rw [wrap64]) <;> omega
theorem c_rdeep (N : Nat) (h : GH) (p : Pm) : GTri Try.prog N 145 [p.v] h fun v h' => v = .int .i64 p.deep ∧ HS h h' := by
  refine wQ Try.func145 rfl gf145 ok145 (by simp [Try.ntmps145]) ?_
  repeat' (first | (with_reducible first | apply qH | apply qB) | ((first | (with_reducible first | apply qA | apply qP | apply qD | apply qE | apply qK) | ((with_reducible first | apply qQ | apply qI | apply qJ) <;> intro hb <;> (try simp only [hb]))) <;> try simp only [qV, qF, qL, qN, qG, qC, qM, reduceIte, seval, Int.cast_ofNat_Int, qY, qZ, pI, Pm.v]))
  refine wY rfl fun k1 h1 m1 s1 f1 n1 => ?_
  simp only [qV, qF, qL, qN, qG, qC, qM, reduceIte, seval, Int.cast_ofNat_Int, qY, qZ, pI]
  repeat' (first | (with_reducible first | apply qH | apply qB) | ((first | (with_reducible first | apply qA | apply qP | apply qD | apply qE | apply qK) | ((with_reducible first | apply qQ | apply qI | apply qJ) <;> intro hb <;> (try simp only [hb])) | ((refine GTri.mono (qG1 _ _ p) ?_); rintro _ h2 ⟨rfl, s2⟩; have m1 := s2 _ _ m1 ; have s1 := s1.trans s2)) <;> try simp only [qV, qF, qL, qN, qG, qC, qM, reduceIte, seval, Int.cast_ofNat_Int, qY, qZ, pI, qT m1 wL, zI m1 kW rfl]))
  all_goals refine ⟨congrArg _ ?_, s1⟩
  · simp only [Bool.not_eq_true'] at hb
    simp [Pm.deep, hb]
  · simp only [Bool.not_eq_false'] at hb
    have := p.may_iff.1 hb
    simp only [Pm.deep, hb, if_true]
    rw [wrap64, wrap64] <;> (try rw [wrap64]) <;> omega
theorem c_each (N : Nat) (h : GH) (p : Pm) : GTri Try.prog N 138 [p.v] h fun v h' => v = .int .i64 p.each ∧ HS h h' := by
  refine wQ Try.func138 rfl gf138 ok138 (by simp [Try.ntmps138]) ?_
  repeat' (first | (with_reducible first | apply qH | apply qB) | ((first | (with_reducible first | apply qA | apply qP | apply qD | apply qE | apply qK) | ((with_reducible first | apply qQ | apply qI | apply qJ) <;> intro hb <;> (try simp only [hb]))) <;> try simp only [qV, qF, qL, qN, qG, qC, qM, reduceIte, seval, Int.cast_ofNat_Int, qY, qZ, pJ, Pm.v]))
  refine wY rfl fun k1 h1 m1 s1 f1 n1 => ?_
  simp only [qV, qF, qL, qN, qG, qC, qM, reduceIte, seval, Int.cast_ofNat_Int, qY, qZ, pJ]
  repeat' (first | (with_reducible first | apply qH | apply qB) | ((first | (with_reducible first | apply qA | apply qP | apply qD | apply qE | apply qK) | ((with_reducible first | apply qQ | apply qI | apply qJ) <;> intro hb <;> (try simp only [hb])) | ((refine GTri.mono (qS0 _ _ p) ?_); rintro _ h2 ⟨rfl, s2⟩; have m1 := s2 _ _ m1 ; have s1 := s1.trans s2) | ((refine GTri.mono (c_deep _ _ p) ?_); rintro _ h2 ⟨rfl, s2⟩; have m1 := s2 _ _ m1 ; have s1 := s1.trans s2)) <;> try simp only [qV, qF, qL, qN, qG, qC, qM, reduceIte, seval, Int.cast_ofNat_Int, qY, qZ, pJ, qT m1 wL, zI m1 kW rfl]))
  all_goals refine ⟨congrArg _ ?_, s1⟩
  · simp only [Bool.not_eq_true'] at hb
    simp [Pm.each, hb]
  · simp only [Bool.not_eq_false'] at hb
    have := p.may_iff.1 hb
    simp only [Pm.each, Pm.deep, hb, if_true]
    rw [wrap64] <;> omega
theorem c_reach (N : Nat) (h : GH) (p : Pm) : GTri Try.prog N 133 [p.v] h fun v h' => v = .int .i64 p.each ∧ HS h h' := by
  refine wQ Try.func133 rfl gf133 ok133 (by simp [Try.ntmps133]) ?_
  repeat' (first | (with_reducible first | apply qH | apply qB) | ((first | (with_reducible first | apply qA | apply qP | apply qD | apply qE | apply qK) | ((with_reducible first | apply qQ | apply qI | apply qJ) <;> intro hb <;> (try simp only [hb]))) <;> try simp only [qV, qF, qL, qN, qG, qC, qM, reduceIte, seval, Int.cast_ofNat_Int, qY, qZ, pK, Pm.v]))
  refine wY rfl fun k1 h1 m1 s1 f1 n1 => ?_
  simp only [qV, qF, qL, qN, qG, qC, qM, reduceIte, seval, Int.cast_ofNat_Int, qY, qZ, pK]
  repeat' (first | (with_reducible first | apply qH | apply qB) | ((first | (with_reducible first | apply qA | apply qP | apply qD | apply qE | apply qK) | ((with_reducible first | apply qQ | apply qI | apply qJ) <;> intro hb <;> (try simp only [hb])) | ((refine GTri.mono (qG1 _ _ p) ?_); rintro _ h2 ⟨rfl, s2⟩; have m1 := s2 _ _ m1 ; have s1 := s1.trans s2) | ((refine GTri.mono (c_rdeep _ _ p) ?_); rintro _ h2 ⟨rfl, s2⟩; have m1 := s2 _ _ m1 ; have s1 := s1.trans s2)) <;> try simp only [qV, qF, qL, qN, qG, qC, qM, reduceIte, seval, Int.cast_ofNat_Int, qY, qZ, pK, qT m1 wL, zI m1 kW rfl]))
  all_goals refine ⟨congrArg _ ?_, s1⟩
  · simp only [Bool.not_eq_true'] at hb
    simp [Pm.each, hb]
  · simp only [Bool.not_eq_false'] at hb
    have := p.may_iff.1 hb
    simp only [Pm.each, Pm.deep, hb, if_true]
    rw [wrap64] <;> omega
theorem Pm.each_range (p : Pm) : 0 ≤ p.each ∧ p.each ≤ 202 := by
  unfold Pm.each Pm.deep
  by_cases hb : p.may = true
  · have := p.may_iff.1 hb
    simp only [hb, if_true]
    omega
  · simp [hb]
theorem Pm.need_eq (p : Pm) (hb : p.may = true) : IntKind.i64.wrap (IntKind.i64.wrap (IntKind.i64.wrap (IntKind.i64.wrap (2 + p.ca) * p.ch) * p.each) + 1) = p.need := by
  have := p.may_iff.1 hb
  have h1 := qI7 (a := 2 + p.ca) (b := p.ch) (A := 10) (B := 4096) (by omega) (by omega)
  have h2 := qI7 (a := (2 + p.ca) * p.ch) (b := p.each) (A := 40960) (B := 202) (by omega) p.each_range
  rw [wrap64 (x := 2 + p.ca) (by omega) (by omega), wrap64 (x := (2 + p.ca) * p.ch) (by omega) (by omega), wrap64 (x := (2 + p.ca) * p.ch * p.each) (by omega) (by omega), wrap64 (by omega) (by omega)]
  simp [Pm.need, hb]
theorem c_need (N : Nat) (h : GH) (p : Pm) : GTri Try.prog N 117 [p.v] h fun v h' => v = .int .i64 p.need ∧ HS h h' := by
  refine wQ Try.func117 rfl gf117 ok117 (by simp [Try.ntmps117]) ?_
  repeat' (first | (with_reducible first | apply qH | apply qB) | ((first | (with_reducible first | apply qA | apply qP | apply qD | apply qE | apply qK) | ((with_reducible first | apply qQ | apply qI | apply qJ | apply qW | apply qX) <;> intro hb <;> (try simp only [hb])) | with_reducible refine qO rO mixed (by kernel_rfl) ?_) <;> try simp only [qV, qF, qL, qN, qG, qC, qM, reduceIte, seval, Int.cast_ofNat_Int, qY, qZ, qU, zR, zT, zU, pL, rO, Pm.v]))
  refine wY rfl fun k1 h1 m1 s1 f1 n1 => ?_
  simp only [qV, qF, qL, qN, qG, qC, qM, reduceIte, seval, Int.cast_ofNat_Int, qY, qZ, pL]
  repeat' (first | (with_reducible first | apply qH | apply qB) | ((first | (with_reducible first | apply qA | apply qP | apply qD | apply qE | apply qK) | ((with_reducible first | apply qQ | apply qI | apply qJ | apply qW | apply qX) <;> intro hb <;> (try simp only [hb])) | with_reducible refine qO rO mixed (by kernel_rfl) ?_ | ((refine GTri.mono (qS0 _ _ p) ?_); rintro _ h2 ⟨rfl, s2⟩; have m1 := s2 _ _ m1 ; have s1 := s1.trans s2) | ((refine GTri.mono (c_each _ _ p) ?_); rintro _ h2 ⟨rfl, s2⟩; have m1 := s2 _ _ m1 ; have s1 := s1.trans s2)) <;> try simp only [qV, qF, qL, qN, qG, qC, qM, reduceIte, seval, Int.cast_ofNat_Int, qY, qZ, qU, zR, zT, zU, pL, rO, qT m1 wL, zI m1 kW rfl]))
  all_goals refine ⟨congrArg _ ?_, s1⟩
  · simp only [Bool.not_eq_true'] at hb
    simp [Pm.need, hb]
  · simp only [Bool.not_eq_false'] at hb
    exact p.need_eq hb
theorem c_rneed (N : Nat) (h : GH) (p : Pm) : GTri Try.prog N 105 [p.v] h fun v h' => v = .int .i64 p.need ∧ HS h h' := by
  refine wQ Try.func105 rfl gf105 ok105 (by simp [Try.ntmps105]) ?_
  repeat' (first | (with_reducible first | apply qH | apply qB) | ((first | (with_reducible first | apply qA | apply qP | apply qD | apply qE | apply qK) | ((with_reducible first | apply qQ | apply qI | apply qJ | apply qW | apply qX) <;> intro hb <;> (try simp only [hb])) | with_reducible refine qO rP mixed (by kernel_rfl) ?_) <;> try simp only [qV, qF, qL, qN, qG, qC, qM, reduceIte, seval, Int.cast_ofNat_Int, qY, qZ, qU, zR, zT, zU, pM, rP, Pm.v]))
  refine wY rfl fun k1 h1 m1 s1 f1 n1 => ?_
  simp only [qV, qF, qL, qN, qG, qC, qM, reduceIte, seval, Int.cast_ofNat_Int, qY, qZ, pM]
  repeat' (first | (with_reducible first | apply qH | apply qB) | ((first | (with_reducible first | apply qA | apply qP | apply qD | apply qE | apply qK) | ((with_reducible first | apply qQ | apply qI | apply qJ | apply qW | apply qX) <;> intro hb <;> (try simp only [hb])) | with_reducible refine qO rP mixed (by kernel_rfl) ?_ | ((refine GTri.mono (qG1 _ _ p) ?_); rintro _ h2 ⟨rfl, s2⟩; have m1 := s2 _ _ m1 ; have s1 := s1.trans s2) | ((refine GTri.mono (c_reach _ _ p) ?_); rintro _ h2 ⟨rfl, s2⟩; have m1 := s2 _ _ m1 ; have s1 := s1.trans s2)) <;> try simp only [qV, qF, qL, qN, qG, qC, qM, reduceIte, seval, Int.cast_ofNat_Int, qY, qZ, qU, zR, zT, zU, pM, rP, qT m1 wL, zI m1 kW rfl]))
  all_goals refine ⟨congrArg _ ?_, s1⟩
  · simp only [Bool.not_eq_true'] at hb
    simp [Pm.need, hb]
  · simp only [Bool.not_eq_false'] at hb
    exact p.need_eq hb
def Pm.check (p : Pm) : Int := if p.may = false ∨ p.ar < 1 ∨ p.ar > 4194304 then 1 else if p.ar < p.need then 4 else 0
def Pm.eps (p : Pm) : Int := if p.may = true then IntKind.i64.wrap (1 * 2 ^ min p.ht.toNat IntKind.i64.bits) else 0
theorem c_check (N : Nat) (h : GH) (p : Pm) : GTri Try.prog N 82 [p.v] h fun v h' => v = .int .i64 p.check ∧ HS h h' := by
  refine wQ Try.func82 rfl gf82 ok82 (by simp [Try.ntmps82]) ?_
  repeat' (first | (with_reducible first | apply qH | apply qB) | ((first | (with_reducible first | apply qA | apply qP | apply qD | apply qE | apply qK) | ((with_reducible first | apply qQ | apply qI | apply qJ | apply qW | apply qX) <;> intro hb <;> (try simp only [hb])) | with_reducible refine qO tY mixed (by kernel_rfl) ?_) <;> try simp only [qV, qF, qL, qN, qG, qC, qM, reduceIte, seval, Int.cast_ofNat_Int, qY, qZ, qU, zR, zT, zU, lG, tY, Pm.v]))
  refine wY rfl fun k1 h1 m1 s1 f1 n1 => ?_
  simp only [qV, qF, qL, qN, qG, qC, qM, reduceIte, seval, Int.cast_ofNat_Int, qY, qZ, lG]
  repeat' (first | (with_reducible first | apply qH | apply qB) | ((first | (with_reducible first | apply qA | apply qP | apply qD | apply qE | apply qK) | ((with_reducible first | apply qQ | apply qI | apply qJ | apply qW | apply qX) <;> intro hb <;> (try simp only [hb])) | with_reducible refine qO tY mixed (by kernel_rfl) ?_ | ((refine GTri.mono (qS0 _ _ p) ?_); rintro _ h2 ⟨rfl, s2⟩; have m1 := s2 _ _ m1 ; have s1 := s1.trans s2) | ((refine GTri.mono (c_need _ _ p) ?_); rintro _ h2 ⟨rfl, s2⟩; have m1 := s2 _ _ m1 ; have s1 := s1.trans s2)) <;> try simp only [qV, qF, qL, qN, qG, qC, qM, reduceIte, seval, Int.cast_ofNat_Int, qY, qZ, qU, zR, zT, zU, lG, tY, qT m1 wL, zI m1 kW rfl]))
  all_goals refine ⟨congrArg _ ?_, s1⟩
  all_goals
    simp only [Bool.not_eq_true', Bool.not_eq_false', decide_eq_true_eq, decide_eq_false_iff_not] at *
    simp [Pm.check, *] <;> omega
theorem c_eps (N : Nat) (h : GH) (p : Pm) : GTri Try.prog N 107 [p.v] h fun v h' => v = .int .i64 p.eps ∧ HS h h' := by
  refine wQ Try.func107 rfl gf107 ok107 (by simp [Try.ntmps107]) ?_
  repeat' (first | (with_reducible first | apply qH | apply qB) | ((first | (with_reducible first | apply qA | apply qP | apply qD | apply qE | apply qK) | ((with_reducible first | apply qQ | apply qI | apply qJ) <;> intro hb <;> (try simp only [hb]))) <;> try simp only [qV, qF, qL, qN, qG, qC, qM, reduceIte, seval, Int.cast_ofNat_Int, qY, qZ, rZ, Pm.v]))
  refine wY rfl fun k1 h1 m1 s1 f1 n1 => ?_
  simp only [qV, qF, qL, qN, qG, qC, qM, reduceIte, seval, Int.cast_ofNat_Int, qY, qZ, rZ]
  repeat' (first | (with_reducible first | apply qH | apply qB) | ((first | (with_reducible first | apply qA | apply qP | apply qD | apply qE | apply qK) | ((with_reducible first | apply qQ | apply qI | apply qJ) <;> intro hb <;> (try simp only [hb])) | ((refine GTri.mono (qS0 _ _ p) ?_); rintro _ h2 ⟨rfl, s2⟩; have m1 := s2 _ _ m1 ; have s1 := s1.trans s2)) <;> try simp only [qV, qF, qL, qN, qG, qC, qM, reduceIte, seval, Int.cast_ofNat_Int, qY, qZ, rZ, qT m1 wL, zI m1 kW rfl]))
  · refine ⟨congrArg _ ?_, s1⟩
    simp only [Bool.not_eq_true'] at hb
    simp [Pm.eps, hb]
  · simp only [Bool.not_eq_false'] at hb
    have := p.may_iff.1 hb
    refine ⟨by omega, ?_⟩
    repeat' (first | (with_reducible first | apply qH | apply qB) | ((first | (with_reducible first | apply qA | apply qP | apply qD | apply qE | apply qK) | ((with_reducible first | apply qQ | apply qI | apply qJ) <;> intro hb <;> (try simp only [hb]))) <;> try simp only [qV, qF, qL, qN, qG, qC, qM, reduceIte, seval, Int.cast_ofNat_Int, qY, qZ, rZ]))
    refine ⟨congrArg _ ?_, s1⟩
    simp [Pm.eps, hb]
theorem c_reps (N : Nat) (h : GH) (p : Pm) : GTri Try.prog N 81 [p.v] h fun v h' => v = .int .i64 p.eps ∧ HS h h' := by
  refine wQ Try.func81 rfl gf81 ok81 (by simp [Try.ntmps81]) ?_
  repeat' (first | (with_reducible first | apply qH | apply qB) | ((first | (with_reducible first | apply qA | apply qP | apply qD | apply qE | apply qK) | ((with_reducible first | apply qQ | apply qI | apply qJ) <;> intro hb <;> (try simp only [hb]))) <;> try simp only [qV, qF, qL, qN, qG, qC, qM, reduceIte, seval, Int.cast_ofNat_Int, qY, qZ, sP, Pm.v]))
  refine wY rfl fun k1 h1 m1 s1 f1 n1 => ?_
  simp only [qV, qF, qL, qN, qG, qC, qM, reduceIte, seval, Int.cast_ofNat_Int, qY, qZ, sP]
  repeat' (first | (with_reducible first | apply qH | apply qB) | ((first | (with_reducible first | apply qA | apply qP | apply qD | apply qE | apply qK) | ((with_reducible first | apply qQ | apply qI | apply qJ) <;> intro hb <;> (try simp only [hb])) | ((refine GTri.mono (qG1 _ _ p) ?_); rintro _ h2 ⟨rfl, s2⟩; have m1 := s2 _ _ m1 ; have s1 := s1.trans s2)) <;> try simp only [qV, qF, qL, qN, qG, qC, qM, reduceIte, seval, Int.cast_ofNat_Int, qY, qZ, sP, qT m1 wL, zI m1 kW rfl]))
  · refine ⟨congrArg _ ?_, s1⟩
    simp only [Bool.not_eq_true'] at hb
    simp [Pm.eps, hb]
  · simp only [Bool.not_eq_false'] at hb
    have := p.may_iff.1 hb
    refine ⟨by omega, ?_⟩
    repeat' (first | (with_reducible first | apply qH | apply qB) | ((first | (with_reducible first | apply qA | apply qP | apply qD | apply qE | apply qK) | ((with_reducible first | apply qQ | apply qI | apply qJ) <;> intro hb <;> (try simp only [hb]))) <;> try simp only [qV, qF, qL, qN, qG, qC, qM, reduceIte, seval, Int.cast_ofNat_Int, qY, qZ, sP]))
    refine ⟨congrArg _ ?_, s1⟩
    simp [Pm.eps, hb]
theorem c_rcheck (N : Nat) (h : GH) (p : Pm) : GTri Try.prog N 68 [p.v] h fun v h' => v = .int .i64 p.check ∧ HS h h' := by
  refine wQ Try.func68 rfl gf68 ok68 (by simp [Try.ntmps68]) ?_
  repeat' (first | (with_reducible first | apply qH | apply qB) | ((first | (with_reducible first | apply qA | apply qP | apply qD | apply qE | apply qK) | ((with_reducible first | apply qQ | apply qI | apply qJ | apply qW | apply qX) <;> intro hb <;> (try simp only [hb])) | with_reducible refine qO tZ mixed (by kernel_rfl) ?_) <;> try simp only [qV, qF, qL, qN, qG, qC, qM, reduceIte, seval, Int.cast_ofNat_Int, qY, qZ, qU, zR, zT, zU, lH, tZ, Pm.v]))
  refine wY rfl fun k1 h1 m1 s1 f1 n1 => ?_
  simp only [qV, qF, qL, qN, qG, qC, qM, reduceIte, seval, Int.cast_ofNat_Int, qY, qZ, lH]
  repeat' (first | (with_reducible first | apply qH | apply qB) | ((first | (with_reducible first | apply qA | apply qP | apply qD | apply qE | apply qK) | ((with_reducible first | apply qQ | apply qI | apply qJ | apply qW | apply qX) <;> intro hb <;> (try simp only [hb])) | with_reducible refine qO tZ mixed (by kernel_rfl) ?_ | ((refine GTri.mono (qG1 _ _ p) ?_); rintro _ h2 ⟨rfl, s2⟩; have m1 := s2 _ _ m1 ; have s1 := s1.trans s2) | ((refine GTri.mono (qR8 _ _ _ _ _) ?_); rintro _ _ ⟨rfl, rfl⟩) | ((refine GTri.mono (c_rneed _ _ p) ?_); rintro _ h2 ⟨rfl, s2⟩; have m1 := s2 _ _ m1 ; have s1 := s1.trans s2)) <;> try simp only [qV, qF, qL, qN, qG, qC, qM, reduceIte, seval, Int.cast_ofNat_Int, qY, qZ, qU, zR, zT, zU, lH, tZ, qT m1 wL, zI m1 kW rfl]))
  all_goals refine ⟨congrArg _ ?_, s1⟩
  all_goals
    simp only [Bool.not_eq_true', Bool.not_eq_false', decide_eq_true_eq, decide_eq_false_iff_not, zC9] at *
    simp [Pm.check, *] <;> omega
theorem yP : type_of% (And.intro Try.underlying102 (And.intro wT (And.intro wN (And.intro wM (And.intro uM (And.intro ty102 (And.intro wZ (And.intro jV (And.intro lU rs106))))))))) := And.intro Try.underlying102 (And.intro wT (And.intro wN (And.intro wM (And.intro uM (And.intro ty102 (And.intro wZ (And.intro jV (And.intro lU rs106))))))))
def cnt (b : List Bnd) : Nat → List UInt8 → Nat
  | 0, _ => 0
  | i + 1, id => cnt b i id + (if id = (vI b i).1 then 1 else 0)
theorem cnt_le (b : List Bnd) (id : List UInt8) : ∀ i, cnt b i id ≤ i
  | 0 => Nat.le_refl _
  | i + 1 => by
    have := cnt_le b id i
    simp only [cnt]
    split <;> omega
def fA (b : List Bnd) : Nat → List Value
  | 0 => []
  | i + 1 => jD (yT (vI b i).1) (.int .i64 ((cnt b i (vI b i).1 + 1 : Nat) : Int)) (fA b i)
theorem gB (b : List Bnd) : ∀ i, dP (fA b i) = true
  | 0 => rfl
  | i + 1 => (kJ _ (yT []) _ _ (gB b i)).1
theorem qB9 (b : List Bnd) (id : List UInt8) : ∀ i, (uA (yT id) (fA b i)).getD (.int .i64 0) = .int .i64 (cnt b i id : Int)
  | 0 => rfl
  | i + 1 => by
    have ih := qB9 b id i
    simp only [fA, cnt, (kJ _ (yT id) _ _ (gB b i)).2]
    by_cases h : id = (vI b i).1
    · rw [if_pos h, ← h]; simp
    · rw [if_neg (fun e => h (mL e)), if_neg h]; exact ih
theorem look_cnt {h : GH} {j i : Nat} {b : List Bnd} (m : h (j + 1) = some ⟨MM :: fA b i, 0, true, false⟩) (id : List UInt8) : fP Try.prog 102 h (.map (some j)) (.string (yT id)) false = some (.int .i64 (cnt b i id : Int)) := by
  simp only [fP, sm102, vF, m, gB, gz102, if_true]
  have := qB9 b id i
  cases hf : uA (yT id) (fA b i) with
  | none => rw [hf] at this; simpa using this
  | some v => rw [hf] at this; simpa using this
def jC (p : Pm) (x : Bnd) : Prop := (x.1.length : Int) > p.mi ∨ (x.2.length : Int) > p.my
instance (p : Pm) (x : Bnd) : Decidable (jC p x) := by unfold jC; infer_instance
def jR (p : Pm) (b : List Bnd) : Int := if b = [] then 82 else if 32 < b.length then 4 else if ∃ x ∈ b, jC p x then 1 else if (fA b b.length).length / 2 < b.length then 80 else 0
theorem c_chk (N : Nat) (h : GH) (p : Pm) {a : Option Addr} {c : Nat} {b : List Bnd} (rl : RL 2 Bd h (.slice a b.length c) b) (hbl : b.length ≤ 140737488355328) :
    GTri Try.prog N 106 [p.v, .slice a b.length c] h fun v h' => v = .int .i64 (jR p b) ∧ HS h h' := by
  obtain ⟨p0, p1, p2, p3, p4, p5, p6, p7⟩ := p
  refine wQ Try.func106 rfl gf106 ok106 (by simp [Try.ntmps106]) ?_
  repeat' (first | (with_reducible first | apply qH | apply qB) | ((first | (with_reducible first | apply qA | apply qP | apply qD | apply qE | apply qK) | ((with_reducible first | apply qQ | apply qI | apply qJ) <;> intro hb <;> (try simp only [hb]) <;> (try simp only [zF] at hb))) <;> try simp only [qV, qF, qL, qN, qG, qC, qM, reduceIte, seval, Int.cast_ofNat_Int, qY, qZ, yP, Pm.v]))
  refine wY rfl fun k1 h1 m1 s1 f1 n1 => ?_
  by_cases hbe : b = []
  · subst hbe
    have d0 : ((0 : Int) == 0) = true := rfl
    refine qS ?_; repeat' (first | (with_reducible first | apply qH | apply qB) | ((first | (with_reducible apply qR) | (with_reducible first | apply qA | apply qP | apply qD | apply qE | apply qK) | ((with_reducible first | apply qQ | apply qI | apply qJ) <;> intro hb <;> (try simp only [hb]) <;> (try simp only [zF] at hb))) <;> try simp only [qV, qF, qL, qN, qG, qC, qM, reduceIte, seval, Int.cast_ofNat_Int, qY, qZ, yP, List.length_nil, Int.cast_ofNat_Int, d0]))
    exact ⟨by simp [jR], s1⟩
  have hb0 : b.length ≠ 0 := fun e => hbe (List.eq_nil_of_length_eq_zero e)
  have d0 : ((b.length : Int) == 0) = false := by simpa using hbe
  by_cases h32 : 32 < b.length
  · have d1 : decide ((b.length : Int) > 32) = true := decide_eq_true (by omega)
    refine qS ?_; repeat' (first | (with_reducible first | apply qH | apply qB) | ((first | (with_reducible apply qR) | (with_reducible first | apply qA | apply qP | apply qD | apply qE | apply qK) | ((with_reducible first | apply qQ | apply qI | apply qJ) <;> intro hb <;> (try simp only [hb]) <;> (try simp only [zF] at hb))) <;> try simp only [qV, qF, qL, qN, qG, qC, qM, reduceIte, seval, Int.cast_ofNat_Int, qY, qZ, yP, d0, d1]))
    exact ⟨by simp [jR, hbe, h32], s1⟩
  have d1 : decide ((b.length : Int) > 32) = false := decide_eq_false (by omega)
  refine qS ?_; repeat' (first | (with_reducible first | apply qH | apply qB) | ((first | (with_reducible apply qR) | (with_reducible first | apply qA | apply qP | apply qD | apply qE | apply qK) | ((with_reducible first | apply qQ | apply qI | apply qJ) <;> intro hb <;> (try simp only [hb]) <;> (try simp only [zF] at hb))) <;> try simp only [qV, qF, qL, qN, qG, qC, qM, reduceIte, seval, Int.cast_ofNat_Int, qY, qZ, yP, d0, d1]))
  refine mm_g fun j h2 m2 s2 f2 n2 => ?_
  have n12 := s1.none_of n2
  refine qS ?_; repeat' (first | (with_reducible first | apply qH | apply qB) | ((first | (with_reducible apply qR) | (with_reducible first | apply qA | apply qP | apply qD | apply qE | apply qK) | ((with_reducible first | apply qQ | apply qI | apply qJ) <;> intro hb <;> (try simp only [hb]) <;> (try simp only [zF] at hb))) <;> try simp only [qV, qF, qL, qN, qG, qC, qM, reduceIte, seval, Int.cast_ofNat_Int, qY, qZ, yP]))
  refine wI [1, 2, 6, 18, 19] (fun (i : Nat) => [(20, .int .i64 (i : Int))]) (fun q i h' => b.length - i = q ∧ i ≤ b.length ∧ HS h1 h' ∧ h' (j + 1) = some ⟨MM :: fA b i, 0, true, false⟩ ∧ ∀ x ∈ b.take i, ¬ jC ⟨p0, p1, p2, p3, p4, p5, p6, p7⟩ x) b.length 0 (by simp [lk]) ⟨rfl, by omega, s2, m2, by simp⟩ ?_
  clear m2
  rintro _ i h3 ⟨rfl, hi, s3, m3, nl⟩
  have m13 := s3 _ _ m1
  by_cases hib : i < b.length
  case neg =>
    obtain rfl : i = b.length := by omega
    rw [List.take_length] at nl
    have hne : ¬ ∃ x ∈ b, jC ⟨p0, p1, p2, p3, p4, p5, p6, p7⟩ x := fun ⟨x, hx, hq⟩ => nl x hx hq
    have d3 : decide ((b.length : Int) < (b.length : Int)) = false := decide_eq_false (by omega)
    have lm := lenm (P := Try.prog) m3 (gB b b.length) Try.underlying102
    have lm0 := lenm0 (P := Try.prog) Try.underlying102
    by_cases htw : (fA b b.length).length / 2 < b.length
    · have d4 : decide ((((fA b b.length).length / 2 : Nat) : Int) < (b.length : Int)) = true := decide_eq_true (by omega)
      refine qS ?_; repeat' (first | (with_reducible first | apply qH | apply qB) | ((first | (with_reducible apply qR) | (with_reducible first | apply qA | apply qP | apply qD | apply qE | apply qK) | ((with_reducible first | apply qQ | apply qI | apply qJ) <;> intro hb <;> (try simp only [hb]) <;> (try simp only [zF] at hb))) <;> try simp only [qV, qF, qL, qN, qG, qC, qM, reduceIte, seval, Int.cast_ofNat_Int, qY, qZ, yP, d3, lm, lm0, d4]))
      exact ⟨by unfold jR; rw [if_neg hbe, if_neg h32, if_neg hne, if_pos htw], s1.trans s3⟩
    · have d4 : decide ((((fA b b.length).length / 2 : Nat) : Int) < (b.length : Int)) = false := decide_eq_false (by omega)
      refine qS ?_; repeat' (first | (with_reducible first | apply qH | apply qB) | ((first | (with_reducible apply qR) | (with_reducible first | apply qA | apply qP | apply qD | apply qE | apply qK) | ((with_reducible first | apply qQ | apply qI | apply qJ) <;> intro hb <;> (try simp only [hb]) <;> (try simp only [zF] at hb))) <;> try simp only [qV, qF, qL, qN, qG, qC, qM, reduceIte, seval, Int.cast_ofNat_Int, qY, qZ, yP, d3, lm, lm0, d4]))
      exact ⟨by unfold jR; rw [if_neg hbe, if_neg h32, if_neg hne, if_neg htw], s1.trans s3⟩
  have d3 : decide ((i : Int) < (b.length : Int)) = true := decide_eq_true (by omega)
  have wi : IntKind.i64.wrap ((i : Int) + 1) = ((i + 1 : Nat) : Int) := by rw [wrap64 (by omega) (by omega)]; omega
  obtain ⟨x, hx⟩ : ∃ x, b[i]? = some x := ⟨_, List.getElem?_eq_getElem hib⟩
  obtain ⟨ad, cs2, g1, g2, a', n', c', b', m', d', rfl, q1, q2⟩ := (rl.bs (s1.trans s3)).at (P := Try.prog) Try.underlying23 uQ hx
  have l1 : xM Try.prog 99 h3 (.pointer (some ad)) = some (.agg #[.slice a' n' c', .slice b' m' d']) := by simp only [xM, uQ, g2]; rfl
  have e1 := q1.len_eq
  have e2 := q2.len_eq
  subst e1
  subst e2
  refine qS ?_; repeat' (first | (with_reducible first | apply qH | apply qB) | ((first | (with_reducible apply qR) | (with_reducible first | apply qA | apply qP | apply qD | apply qE | apply qK) | ((with_reducible first | apply qQ | apply qI | apply qJ) <;> intro hb <;> (try simp only [hb]) <;> (try simp only [zF] at hb))) <;> try simp only [qV, qF, qL, qN, qG, qC, qM, reduceIte, seval, Int.cast_ofNat_Int, qY, qZ, yP, d3, g1, l1]))
  refine xW fun k7 h7 m7 s7 f7 n7 => ?_
  refine qS ?_; repeat' (first | (with_reducible first | apply qH | apply qB) | ((first | (with_reducible apply qR) | (with_reducible first | apply qA | apply qP | apply qD | apply qE | apply qK) | ((with_reducible first | apply qQ | apply qI | apply qJ) <;> intro hb <;> (try simp only [hb]) <;> (try simp only [zF] at hb))) <;> try simp only [qV, qF, qL, qN, qG, qC, qM, reduceIte, seval, Int.cast_ofNat_Int, qY, qZ, yP]))
  refine zM m7 uQ rfl (by decide) rfl rfl rfl fun h8 m8 f8 => ?_
  have s8 : HS h3 h8 := (HS.refl h3).upd n7 (fun j hj => (f8 j hj).trans (f7 j hj))
  have m18 := s8 _ _ m13
  have cv := (q1.hs s8).conv Try.underlying24 Try.underlying5 Try.underlying9
  by_cases htl : jC ⟨p0, p1, p2, p3, p4, p5, p6, p7⟩ x
  · have fin : jR ⟨p0, p1, p2, p3, p4, p5, p6, p7⟩ b = 1 := by unfold jR; rw [if_neg hbe, if_neg h32, if_pos ⟨x, List.mem_of_getElem? hx, htl⟩]
    by_cases h1' : (x.1.length : Int) > p2
    · have d5 : decide ((x.1.length : Int) > p2) = true := decide_eq_true h1'
      refine qS ?_; repeat' (first | (with_reducible first | apply qH | apply qB) | ((first | (with_reducible apply qR) | (with_reducible first | apply qA | apply qP | apply qD | apply qE | apply qK) | ((with_reducible first | apply qQ | apply qI | apply qJ) <;> intro hb <;> (try simp only [hb]) <;> (try simp only [zF] at hb))) <;> try simp only [qV, qF, qL, qN, qG, qC, qM, reduceIte, seval, Int.cast_ofNat_Int, qY, qZ, yP, qT m8 wK, qT m18 wL, d5, gPick]))
      exact ⟨by rw [fin], (s1.trans s3).trans s8⟩
    · have d5 : decide ((x.1.length : Int) > p2) = false := decide_eq_false h1'
      have d6 : decide ((x.2.length : Int) > p3) = true := decide_eq_true (htl.resolve_left h1')
      refine qS ?_; repeat' (first | (with_reducible first | apply qH | apply qB) | ((first | (with_reducible apply qR) | (with_reducible first | apply qA | apply qP | apply qD | apply qE | apply qK) | ((with_reducible first | apply qQ | apply qI | apply qJ) <;> intro hb <;> (try simp only [hb]) <;> (try simp only [zF] at hb))) <;> try simp only [qV, qF, qL, qN, qG, qC, qM, reduceIte, seval, Int.cast_ofNat_Int, qY, qZ, yP, qT m8 wK, qT m18 wL, d5, d6, gPick]))
      exact ⟨by rw [fin], (s1.trans s3).trans s8⟩
  have d5 : decide ((x.1.length : Int) > p2) = false := decide_eq_false fun h => htl (.inl h)
  have d6 : decide ((x.2.length : Int) > p3) = false := decide_eq_false fun h => htl (.inr h)
  have lc := look_cnt (s8 _ _ m3) x.1
  have hcl := cnt_le b x.1 i
  have wc : IntKind.i64.wrap ((cnt b i x.1 : Int) + 1) = ((cnt b i x.1 + 1 : Nat) : Int) := by rw [wrap64 (by omega) (by omega)]; omega
  refine qS ?_; repeat' (first | (with_reducible first | apply qH | apply qB) | ((first | (with_reducible apply qR) | (with_reducible first | apply qA | apply qP | apply qD | apply qE | apply qK) | ((with_reducible first | apply qQ | apply qI | apply qJ) <;> intro hb <;> (try simp only [hb]) <;> (try simp only [zF] at hb))) <;> try simp only [qV, qF, qL, qN, qG, qC, qM, reduceIte, seval, Int.cast_ofNat_Int, qY, qZ, yP, qT m8 wK, qT m18 wL, d5, d6, gPick, cv, lc, wc]))
  refine qY1 (s8 _ _ m3) (gB b i) sm102 fun h9 m9 f9 => ?_
  refine qS ?_; repeat' (first | (with_reducible first | apply qH | apply qB) | ((first | (with_reducible apply qR) | (with_reducible first | apply qA | apply qP | apply qD | apply qE | apply qK) | ((with_reducible first | apply qQ | apply qI | apply qJ) <;> intro hb <;> (try simp only [hb]) <;> (try simp only [zF] at hb))) <;> try simp only [qV, qF, qL, qN, qG, qC, qM, reduceIte, seval, Int.cast_ofNat_Int, qY, qZ, yP, wi]))
  have b1 : vI b i = x := by simp [vI, hx]
  refine ⟨_, i + 1, ?_, (by simp only [List.forall_mem_cons, List.not_mem_nil, false_implies, implies_true, List.map, List.cons_append, List.nil_append, lk, Nat.reduceEqDiff, reduceIte, and_true, true_and]), rfl, by omega, (s3.trans s8).upd n2 f9, ?_, ?_⟩
  · omega
  · rw [m9]; simp only [fA, b1]
  · intro y hy
    rw [List.take_add_one, hx] at hy
    rcases List.mem_append.1 hy with hy | hy
    · exact nl y hy
    · simp at hy; subst hy; exact htl
theorem jT : type_of% (And.intro wT (And.intro wN (And.intro uM (And.intro wZ (And.intro jV rs95))))) := And.intro wT (And.intro wN (And.intro uM (And.intro wZ (And.intro jV rs95))))
def vJ : Nat → List (Nat × List Nat) × List Nat
  | 5 => ([(0, []), (1, []), (2, []), (4, []), (5, []), (3, [5]), (6, []), (7, []), (8, []), (9, []), (10, [])], [0, 0, 2, 6, 0, 16, 62, 126, 254, 511, 1023])
  | _ => ([], [])
theorem c_own (N : Nat) (h : GH) {a : Option Addr} {c : Nat} {b : List Bnd} (rl : RL 2 Bd h (.slice a b.length c) b) (hb : b.length ≤ 1000000) (hbl : qO0 b) :
    GTri Try.prog N 95 [.slice a b.length c] h fun v h' => Bat h h' v b ∧ HS h h' := by
  refine wQ Try.func95 rfl gf95 ok95 (by simp [Try.ntmps95]) ?_
  repeat' (first | (with_reducible first | apply qH | apply qB) | ((first | (with_reducible first | apply qA | apply qP | apply qD | apply qE | apply qK) | ((with_reducible first | apply qQ | apply qI | apply qJ | apply qW | apply qX) <;> intro hb <;> (try simp only [hb]) <;> (try simp only [zF] at hb)) | with_reducible refine qO vJ mixed (by kernel_rfl) ?_) <;> try simp only [qV, qF, qL, qN, qG, qC, qM, reduceIte, seval, Int.cast_ofNat_Int, qY, qZ, qU, zR, zT, zU, jT, vJ]))
  refine wI [2, 6, 7] (fun (y : Nat × (Option Addr × Nat × Nat)) => [(3, .slice y.2.1 y.2.2.1 y.2.2.2), (8, .int .i64 (y.1 : Int))])
    (fun q y h' => b.length - y.1 = q ∧ y.1 ≤ b.length ∧ HS h h' ∧ ∃ ds, OWNC 2 h h' (.slice y.2.1 y.2.2.1 y.2.2.2) y.1 ds ∧ ds.all isSl = true ∧ ∀ (q : Nat) p, (b.take y.1)[q]? = some p → Bd h' ((ds.drop (q * 2)).take 2) p) b.length (0, (none, 0, 0)) (by simp [lk])
    ⟨rfl, by simp, HS.refl h, [], OWNC.nil _ _ _, rfl, fun q p hp => by simp at hp⟩ ?_
  rintro _ ⟨i, a3, n3, c3⟩ h3 ⟨rfl, hi, s3, ds, o3, sl3, bd3⟩
  simp only at hi o3 bd3
  by_cases hib : i < b.length
  case neg =>
    obtain rfl : i = b.length := by omega
    have d3 : decide ((b.length : Int) < (b.length : Int)) = false := decide_eq_false (by omega)
    refine qS ?_; repeat' (first | (with_reducible first | apply qH | apply qB) | ((first | (with_reducible apply qR) | (with_reducible first | apply qA | apply qP | apply qD | apply qE | apply qK) | ((with_reducible first | apply qQ | apply qI | apply qJ | apply qW | apply qX) <;> intro hb <;> (try simp only [hb]) <;> (try simp only [zF] at hb)) | with_reducible refine qO vJ mixed (by kernel_rfl) ?_) <;> try simp only [qV, qF, qL, qN, qG, qC, qM, reduceIte, seval, Int.cast_ofNat_Int, qY, qZ, qU, zR, zT, zU, jT, vJ, d3]))
    rw [List.take_length] at bd3
    exact ⟨⟨ds, o3, bd3⟩, s3⟩
  have d3 : decide ((i : Int) < (b.length : Int)) = true := decide_eq_true (by omega)
  have wi : IntKind.i64.wrap ((i : Int) + 1) = ((i + 1 : Nat) : Int) := by rw [wrap64 (by omega) (by omega)]; omega
  obtain ⟨p, hp⟩ : ∃ p, b[i]? = some p := ⟨_, List.getElem?_eq_getElem hib⟩
  obtain ⟨ad, cs2, g1, g2, a', n', c', b', m', d', rfl, q1, q2⟩ := (rl.bs s3).at (P := Try.prog) Try.underlying23 uQ hp
  have l1 : xM Try.prog 99 h3 (.pointer (some ad)) = some (.agg #[.slice a' n' c', .slice b' m' d']) := by simp only [xM, uQ, g2]; rfl
  have hpl := hbl p (List.mem_of_getElem? hp)
  refine qS ?_; repeat' (first | (with_reducible first | apply qH | apply qB) | ((first | (with_reducible apply qR) | (with_reducible first | apply qA | apply qP | apply qD | apply qE | apply qK) | ((with_reducible first | apply qQ | apply qI | apply qJ | apply qW | apply qX) <;> intro hb <;> (try simp only [hb]) <;> (try simp only [zF] at hb)) | with_reducible refine qO vJ mixed (by kernel_rfl) ?_) <;> try simp only [qV, qF, qL, qN, qG, qC, qM, reduceIte, seval, Int.cast_ofNat_Int, qY, qZ, qU, zR, zT, zU, jT, vJ, d3, g1, l1]))
  refine xW fun k7 h7 m7 s7 f7 n7 => ?_
  refine qS ?_; repeat' (first | (with_reducible first | apply qH | apply qB) | ((first | (with_reducible apply qR) | (with_reducible first | apply qA | apply qP | apply qD | apply qE | apply qK) | ((with_reducible first | apply qQ | apply qI | apply qJ | apply qW | apply qX) <;> intro hb <;> (try simp only [hb]) <;> (try simp only [zF] at hb)) | with_reducible refine qO vJ mixed (by kernel_rfl) ?_) <;> try simp only [qV, qF, qL, qN, qG, qC, qM, reduceIte, seval, Int.cast_ofNat_Int, qY, qZ, qU, zR, zT, zU, jT, vJ]))
  refine zM m7 uQ rfl (by decide) rfl rfl rfl fun h8 m8 f8 => ?_
  have s8 : HS h3 h8 := (HS.refl h3).upd n7 (fun j hj => (f8 j hj).trans (f7 j hj))
  refine qS ?_; repeat' (first | (with_reducible first | apply qH | apply qB) | ((first | (with_reducible apply qR) | (with_reducible first | apply qA | apply qP | apply qD | apply qE | apply qK) | ((with_reducible first | apply qQ | apply qI | apply qJ | apply qW | apply qX) <;> intro hb <;> (try simp only [hb]) <;> (try simp only [zF] at hb)) | with_reducible refine qO vJ mixed (by kernel_rfl) ?_) <;> try simp only [qV, qF, qL, qN, qG, qC, qM, reduceIte, seval, Int.cast_ofNat_Int, qY, qZ, qU, zR, zT, zU, jT, vJ, qT m8 wK]))
  refine (fD N h8 (q1.hs s8) hpl.1).mono ?_
  rintro _ h9 ⟨s9, o9⟩
  obtain ⟨a9, c9, rfl⟩ := o9.form
  refine qS ?_; repeat' (first | (with_reducible first | apply qH | apply qB) | ((first | (with_reducible apply qR) | (with_reducible first | apply qA | apply qP | apply qD | apply qE | apply qK) | ((with_reducible first | apply qQ | apply qI | apply qJ | apply qW | apply qX) <;> intro hb <;> (try simp only [hb]) <;> (try simp only [zF] at hb)) | with_reducible refine qO vJ mixed (by kernel_rfl) ?_) <;> try simp only [qV, qF, qL, qN, qG, qC, qM, reduceIte, seval, Int.cast_ofNat_Int, qY, qZ, qU, zR, zT, zU, jT, vJ, qT (s9 _ _ m8) wK]))
  refine (fD N h9 ((q2.hs s8).hs s9) hpl.2).mono ?_
  rintro _ h10 ⟨s10, o10⟩
  obtain ⟨a10, c10, rfl⟩ := o10.form
  refine qS ?_; repeat' (first | (with_reducible first | apply qH | apply qB) | ((first | (with_reducible apply qR) | (with_reducible first | apply qA | apply qP | apply qD | apply qE | apply qK) | ((with_reducible first | apply qQ | apply qI | apply qJ | apply qW | apply qX) <;> intro hb <;> (try simp only [hb]) <;> (try simp only [zF] at hb)) | with_reducible refine qO vJ mixed (by kernel_rfl) ?_) <;> try simp only [qV, qF, qL, qN, qG, qC, qM, reduceIte, seval, Int.cast_ofNat_Int, qY, qZ, qU, zR, zT, zU, jT, vJ, xL, xT, vB, Shape.pl, List.all_cons, List.all_nil, zA]))
  refine fH zE4 rfl rfl (by decide) (by decide) rfl fun k11 h11 b11 s11 f11 n11 => ?_
  have s311 : HS h3 h11 := ((s8.trans s9).trans s10).trans s11
  have en3 : n3 = i := by
    obtain ⟨_, _, q⟩ := o3.form
    cases q; rfl
  subst en3
  have hd3 := o3.len
  refine qS ?_; repeat' (first | (with_reducible first | apply qH | apply qB) | ((first | (with_reducible apply qR) | (with_reducible first | apply qA | apply qP | apply qD | apply qE | apply qK) | ((with_reducible first | apply qQ | apply qI | apply qJ | apply qW | apply qX) <;> intro hb <;> (try simp only [hb]) <;> (try simp only [zF] at hb)) | with_reducible refine qO vJ mixed (by kernel_rfl) ?_) <;> try simp only [qV, qF, qL, qN, qG, qC, qM, reduceIte, seval, Int.cast_ofNat_Int, qY, qZ, qU, zR, zT, zU, jT, vJ]))
  refine wJ zE4 Try.underlying23 rfl (s3.trans s311) (o3.hs s311) b11 rfl rfl (by omega) (by simp only [maxLen]; omega) fun v12 h12 s12 fr12 o12 => ?_
  obtain ⟨a12, c12, rfl⟩ := o12.form
  have u8 := isSl_u8 sl3
  have keep : ∀ {q : List Value} {ee : Bnd}, Bd h11 q ee → Bd h12 q ee := fun {q ee} w => by
    obtain ⟨a, n, c, b, m, d, e, r1, r2⟩ := w
    exact ⟨a, n, c, b, m, d, e, jW fr12 u8 r1, jW fr12 u8 r2⟩
  refine qS ?_; repeat' (first | (with_reducible first | apply qH | apply qB) | ((first | (with_reducible apply qR) | (with_reducible first | apply qA | apply qP | apply qD | apply qE | apply qK) | ((with_reducible first | apply qQ | apply qI | apply qJ | apply qW | apply qX) <;> intro hb <;> (try simp only [hb]) <;> (try simp only [zF] at hb)) | with_reducible refine qO vJ mixed (by kernel_rfl) ?_) <;> try simp only [qV, qF, qL, qN, qG, qC, qM, reduceIte, seval, Int.cast_ofNat_Int, qY, qZ, qU, zR, zT, zU, jT, vJ, wi]))
  refine ⟨_, (n3 + 1, a12, n3 + 1, c12), ?_, (by simp only [List.forall_mem_cons, List.not_mem_nil, false_implies, implies_true, List.map, List.cons_append, List.nil_append, lk, Nat.reduceEqDiff, reduceIte, and_true, true_and]), rfl, by omega, s12, _, o12, by rw [List.all_append, sl3]; rfl, ?_⟩
  · simp only; omega
  · have ht : b.take (n3 + 1) = b.take n3 ++ [p] := by rw [List.take_add_one, hp]; rfl
    rw [ht]
    exact dX (R := Bd h12) (by rw [hd3, List.length_take, Nat.min_eq_left (by omega)]) rfl (fun i p hp => keep ((bd3 i p hp).hs s311)) (keep ⟨_, _, _, _, _, _, rfl, (o9.rb.hs s10).hs s11, o10.rb.hs s11⟩)
theorem rK : type_of% (And.intro wM (And.intro wZ rs65)) := And.intro wM (And.intro wZ rs65)
def pms : Pm := ⟨4, 2, 2, 4, 10, 781, 1, 3⟩
theorem zE6 (N : Nat) (h : GH) : GTri Try.prog N 65 [] h fun v h' => v = pms.v ∧ HS h h' := by
  refine wQ Try.func65 rfl gf65 ok65 (by simp [Try.ntmps65]) ?_
  repeat' (first | (with_reducible first | apply qH | apply qB) | ((first | (with_reducible first | apply qA | apply qP | apply qD | apply qE | apply qK) | ((with_reducible first | apply qQ | apply qI | apply qJ) <;> intro hb <;> (try simp only [hb]) <;> (try simp only [zF] at hb))) <;> try simp only [qV, qF, qL, qN, qG, qC, qM, reduceIte, seval, Int.cast_ofNat_Int, qY, qZ, rK, xL, xT, vB, Shape.pl, List.all_cons, List.all_nil, zA]))
  refine xW fun k1 h1 m1 s1 f1 n1 => ?_
  simp only [qV, qF, qL, qN, qG, qC, qM, reduceIte, seval, Int.cast_ofNat_Int, qY, qZ, rK]
  repeat' (first | (with_reducible first | apply qH | apply qB) | ((first | (with_reducible first | apply qA | apply qP | apply qD | apply qE | apply qK) | ((with_reducible first | apply qQ | apply qI | apply qJ) <;> intro hb <;> (try simp only [hb]) <;> (try simp only [zF] at hb))) <;> try simp only [qV, qF, qL, qN, qG, qC, qM, reduceIte, seval, Int.cast_ofNat_Int, qY, qZ, rK, xL, xT, vB, Shape.pl, List.all_cons, List.all_nil, zA]))
  refine zM m1 kW rfl (by decide) rfl rfl rfl fun h2 m2 f2 => ?_
  simp only [qV, qF, qL, qN, qG, qC, qM, reduceIte, seval, Int.cast_ofNat_Int, qY, qZ, rK]
  repeat' (first | (with_reducible first | apply qH | apply qB) | ((first | (with_reducible first | apply qA | apply qP | apply qD | apply qE | apply qK) | ((with_reducible first | apply qQ | apply qI | apply qJ) <;> intro hb <;> (try simp only [hb]) <;> (try simp only [zF] at hb))) <;> try simp only [qV, qF, qL, qN, qG, qC, qM, reduceIte, seval, Int.cast_ofNat_Int, qY, qZ, rK, zI m2 kW rfl]))
  have s2 := (HS.refl h).upd n1 (fun j hj => (f2 j hj).trans (f1 j hj))
  first | exact s2 | exact ⟨rfl, s2⟩
theorem zD7 : type_of% (And.intro Try.underlying89 (And.intro jA (And.intro vY (And.intro wM (And.intro vQ (And.intro wZ (And.intro yK (And.intro jJ rs69)))))))) := And.intro Try.underlying89 (And.intro jA (And.intro vY (And.intro wM (And.intro vQ (And.intro wZ (And.intro yK (And.intro jJ rs69)))))))
theorem zD9 : type_of% (And.intro Try.underlying89 (And.intro jA (And.intro vY (And.intro wM (And.intro vQ (And.intro wZ (And.intro yK (And.intro jJ rs31)))))))) := And.intro Try.underlying89 (And.intro jA (And.intro vY (And.intro wM (And.intro vQ (And.intro wZ (And.intro yK (And.intro jJ rs31)))))))
theorem zD8 : type_of% (And.intro Try.underlying89 (And.intro jA (And.intro wM (And.intro vQ (And.intro wZ (And.intro yK (And.intro jJ rs44))))))) := And.intro Try.underlying89 (And.intro jA (And.intro wM (And.intro vQ (And.intro wZ (And.intro yK (And.intro jJ rs44))))))
def uZ : Nat → List (List Bnd) → List UInt8 → List (Nat × Nat)
  | _, [], _ => []
  | e, b :: M, id => yG e b b.length id ++ uZ (e + 1) M id
theorem qX9 (b : List Bnd) (id : List UInt8) : ∀ (M : List (List Bnd)) (e : Nat), uZ e (M ++ [b]) id = uZ e M id ++ yG (e + M.length) b b.length id
  | [], e => by simp [uZ]
  | c :: M, e => by
    have := qX9 b id M (e + 1)
    simp only [List.cons_append, uZ, this, List.append_assoc, List.length_cons]
    rw [show e + 1 + M.length = e + (M.length + 1) by omega]
theorem qC3 {ep : Nat} {b : List Bnd} {id : List UInt8} {p : Nat × Nat} : ∀ {i : Nat}, p ∈ yG ep b i id → (vI b p.2).1 = id
  | 0, h => by simp [yG] at h
  | i + 1, h => by
    rcases List.mem_append.1 h with h | h
    · exact qC3 h
    · split at h
      · rename_i e
        obtain rfl := List.mem_singleton.1 h
        exact e.symm
      · simp at h
theorem jS {id : List UInt8} {p : Nat × Nat} : ∀ {M : List (List Bnd)} {e : Nat}, p ∈ uZ e M id → e ≤ p.1 ∧ p.1 < e + M.length ∧ ∃ b, M[p.1 - e]? = some b ∧ p.2 < b.length ∧ (vI b p.2).1 = id
  | [], e, h => by simp [uZ] at h
  | c :: M, e, h => by
    rcases List.mem_append.1 h with h | h
    · obtain ⟨h1, h2⟩ := fR h
      exact ⟨by omega, by simp only [List.length_cons]; omega, c, by rw [h1]; simp, h2, qC3 h⟩
    · obtain ⟨h1, h2, b, h3, h4⟩ := jS h
      refine ⟨by omega, by simp only [List.length_cons]; omega, b, ?_, h4⟩
      rw [show p.1 - e = p.1 - (e + 1) + 1 by omega, List.getElem?_cons_succ]; exact h3
theorem ris_app {a b : List (Nat × Nat)} (ha : tG a) (hb : tG b) (h : ∀ p ∈ a, ∀ q ∈ b, p.1 ≤ q.1) : tG (a ++ b) := by
  intro i j p q hij hp hq
  rw [List.getElem?_append] at hp hq
  by_cases h1 : i < a.length
  · rw [if_pos h1] at hp
    by_cases h2 : j < a.length
    · rw [if_pos h2] at hq; exact ha i j p q hij hp hq
    · rw [if_neg h2] at hq; exact h p (List.mem_of_getElem? hp) q (List.mem_of_getElem? hq)
  · rw [if_neg h1] at hp
    rw [if_neg (by omega)] at hq
    exact hb _ _ p q (by omega) hp hq
theorem sD (id : List UInt8) : ∀ (M : List (List Bnd)) (e : Nat), tG (uZ e M id)
  | [], e => fun i j p q _ hp => by simp [uZ] at hp
  | c :: M, e => ris_app (fun i j p q _ hp hq => by
      have h1 := (fR (List.mem_of_getElem? hp)).1
      have h2 := (fR (List.mem_of_getElem? hq)).1
      omega) (sD id M (e + 1)) fun p hp q hq => by
      have h1 := (fR hp).1
      have h2 := (jS hq).1
      omega
def gZ (M : List (List Bnd)) : Nat := (M.map (·.length)).sum
theorem sG (id : List UInt8) : ∀ (M : List (List Bnd)) (e : Nat), (uZ e M id).length ≤ gZ M
  | [], e => by simp [uZ]
  | c :: M, e => by
    have h1 := mU e c id c.length
    have h2 := sG id M (e + 1)
    simp only [uZ, List.length_append, gZ, List.map_cons, List.sum_cons] at *
    omega
def qS6 (s : List (Nat × Nat)) : List Value := s.map fun p => .int .i64 (p.1 : Int)
def H0 : GH := fun _ => none
theorem H0.hs (h : GH) : HS H0 h := fun _ _ e => by cases e
def EPS (h0 h : GH) (v : Value) (n : Nat) (cs : List Value) : Prop :=
  ∃ kb c tl, v = .slice (some ⟨kb, 0, none⟩) n c ∧ n ≠ 0 ∧ cs.length = n * 2 ∧ h kb = some ⟨cs, 2, true, tl⟩ ∧ h0 kb = none ∧ (tl = true ∧ c % 2 = 0 ∧ 2 * n ≤ c ∨ tl = false ∧ c = 2 * n + 1)
theorem EPS.hs {h0 h h' : GH} {v : Value} {n : Nat} {cs : List Value} (o : EPS h0 h v n cs) (s : HS h h') : EPS h0 h' v n cs := by
  obtain ⟨kb, c, tl, h1, h2, h3, h4, h5⟩ := o
  exact ⟨kb, c, tl, h1, h2, h3, s _ _ h4, h5⟩
theorem EPS.hx {h0 h h' : GH} {v : Value} {n : Nat} {cs : List Value} (o : EPS h0 h v n cs) {k : Nat} {B : GB} (hk : h k = some B) (he : B.es ≠ 2) (x : HX k h h') : EPS h0 h' v n cs := by
  obtain ⟨kb, c, tl, h1, h2, h3, h4, h5⟩ := o
  exact ⟨kb, c, tl, h1, h2, h3, x _ _ (fun e => by rw [e, hk] at h4; cases h4; exact he rfl) h4, h5⟩
theorem EPS.form {h0 h : GH} {v : Value} {n : Nat} {cs : List Value} (o : EPS h0 h v n cs) : ∃ a c, v = .slice (some a) n c := by
  obtain ⟨kb, c, tl, h1, _⟩ := o
  exact ⟨_, _, h1⟩
theorem EPS.at {P : Program} {t e : Nat} {b : Bool} {h0 h : GH} {v : Value} {n : Nat} {cs : List Value} (o : EPS h0 h v n cs) (ht : P.underlying t = some (.slice e)) (he : yH P e = some (b, 2)) {i : Nat} (hi : i < n) :
    ∃ k tl, jN P t v (i : Int) = some (.pointer (some ⟨k, i * 2, none⟩)) ∧ h k = some ⟨cs, 2, true, tl⟩ := by
  obtain ⟨kb, c, tl, rfl, h2, h3, h4, h5⟩ := o
  exact ⟨kb, tl, qD7 ht he hi, h4⟩
theorem qX6 {P : Program} {t u e by_ : Nat} {z : Value} {du : TypeDesc} {h0 h : GH} {s x : Value} {n : Nat} {cs xs : List Value} {K : Value → GH → Prop} (hel : rI P t = some (e, 2, by_, z)) (hu : P.underlying u = some du) (hni : rR du = true)
    (hs0 : HS h0 h) (o : EPS h0 h s n cs) (hsrc : jM h 2 x = some (1, xs)) (hxl : xs.length = 2) (hcell : xs.all zA = true) (hsz : (n + 1) * by_ ≤ 140737488355328) (hml : n + 1 ≤ maxLen)
    (k : ∀ v h', HS h0 h' → (∀ j B, h j = some B → (∀ tl, B ≠ ⟨cs, 2, true, tl⟩) → h' j = some B) → EPS h0 h' v (n + 1) (cs ++ xs) → K v h') : jO P t u h s x K := by
  obtain ⟨kb, c, tl, rfl, hn, hcl, hkb, hk0, ⟨rfl, hc1, hc2⟩ | ⟨rfl, rfl⟩⟩ := o
  · refine wJ hel hu hni hs0 (.inr (.inr ⟨kb, c, rfl, hc1, hc2, hn, hcl, hkb, hk0⟩)) hsrc (by omega) hcell hsz hml fun v h' s' fr o' => ?_
    refine k v h' s' (fun j B hj hne => fr j B hj fun _ kb' c' e _ hk e2 => ?_) ?_
    · rw [e2, hk] at hj
      cases hj
      exact hne true rfl
    · rcases o' with ⟨_, q, _⟩ | ⟨_, _, q, _⟩ | ⟨k2, c2, h1, h2, h3, h4, h5, h6, h7⟩
      · omega
      · omega
      · exact ⟨k2, c2, true, h1, h4, h5, h6, h7, .inl ⟨rfl, h2, h3⟩⟩
  · refine .inl ⟨du, e, 2, by_, z, 1, xs, hu, hni, hel, hsrc, e, 2, by_, z, hel, by omega, hcell, ?_⟩
    refine .inr ⟨by omega, hml, hsz, .inl ⟨cs, vA hkb (by rw [List.drop_zero]; exact List.take_of_length_le (by show cs.length ≤ _; omega)) hcl, by omega, by omega, fun k0 hk0' => ?_⟩⟩
    have hS := HS.new hk0' ⟨cs ++ xs, 2, true, true⟩
    exact k _ _ (hs0.trans hS) (fun j B hj _ => hS j B hj) ⟨k0, 2 * (n + 1), true, rfl, by omega, by rw [List.length_append, hcl, hxl]; omega, by rw [zV], hs0.none_of hk0', .inl ⟨rfl, by omega, by omega⟩⟩
structure IS (h0 h : GH) (k j : Nat) (p : Pm) (ew : Value) (cs l : List Value) (M : List (Int × List Bnd)) (ck : Int) (n : Nat) (S : List UInt8 → List (Nat × Nat)) : Prop where
  obj : h k = some ⟨[.int .i64 p.s, .int .i64 p.ht, .int .i64 p.mi, .int .i64 p.my, .int .i64 p.ch, .int .i64 p.ar, .int .i64 p.ca, .int .i64 p.pg, ew, .int .i64 ck, .int .i64 (n : Int), .map (some j)], 0, true, false⟩
  nk : h0 k = none
  mp : h (j + 1) = some ⟨MM :: l, 0, true, false⟩
  nj : h0 (j + 1) = none
  ok : dP l = true
  u8 : l.all wX = true
  ep : EPS h0 h ew M.length cs
  eps : ∀ (e : Nat) x, M[e]? = some x → ∃ v, (cs.drop (e * 2)).take 2 = [.int .i64 x.1, v] ∧ Bat H0 h v x.2
  sp : ∀ id, OWNC 1 H0 h (qK7 l id) (S id).length (qS6 (S id))
  cu8 : cs.all wX = true
  bl : ∀ x ∈ M, qO0 x.2 ∧ x.2.length ≤ 32
  len : M.length ≤ 256
  tt : n = gZ (M.map (·.2))
  nch : (n : Int) ≤ p.ch
  may : p.may = true
  ks : (xO l).Nodup ∧ (∀ k ∈ xO l, S k.data.toList ≠ []) ∧ (∀ x ∈ M, x.2 = [] ∨ jR p x.2 = 0) ∧ M.Pairwise (fun a b => a.1 ≤ b.1) ∧ ∀ x ∈ M, x.1 ≤ ck
abbrev IM (h0 h : GH) (k j : Nat) (p : Pm) (ew : Value) (cs l : List Value) (M : List (Int × List Bnd)) (ck : Int) (n : Nat) : Prop := IS h0 h k j p ew cs l M ck n (uZ 0 (M.map (·.2)))
theorem IS.hs {h0 h h' : GH} {k j : Nat} {p : Pm} {ew : Value} {cs l : List Value} {M : List (Int × List Bnd)} {ck : Int} {n : Nat} {S : List UInt8 → List (Nat × Nat)} (x : IS h0 h k j p ew cs l M ck n S) (s : HS h h') : IS h0 h' k j p ew cs l M ck n S :=
  ⟨s _ _ x.obj, x.nk, s _ _ x.mp, x.nj, x.ok, x.u8, x.ep.hs s, fun e b hb => by obtain ⟨v, h1, h2⟩ := x.eps e b hb; exact ⟨v, h1, h2.hs s⟩, fun id => (x.sp id).hs s, x.cu8, x.bl, x.len, x.tt, x.nch, x.may, x.ks⟩
theorem IS.pos {h0 h : GH} {k j : Nat} {p : Pm} {ew : Value} {cs l : List Value} {M : List (Int × List Bnd)} {ck : Int} {n : Nat} {S : List UInt8 → List (Nat × Nat)} (x : IS h0 h k j p ew cs l M ck n S) : M.length ≠ 0 := by
  obtain ⟨_, _, _, _, h2, _⟩ := x.ep
  exact h2
theorem IS.n4 {h0 h : GH} {k j : Nat} {p : Pm} {ew : Value} {cs l : List Value} {M : List (Int × List Bnd)} {ck : Int} {n : Nat} {S : List UInt8 → List (Nat × Nat)} (x : IS h0 h k j p ew cs l M ck n S) : n ≤ 4096 := by
  have h1 := x.nch
  have h2 := p.may_iff.1 x.may
  omega
theorem IS.look {h0 h : GH} {k j : Nat} {p : Pm} {ew : Value} {cs l : List Value} {M : List (Int × List Bnd)} {ck : Int} {n : Nat} {S : List UInt8 → List (Nat × Nat)} (x : IS h0 h k j p ew cs l M ck n S) (id : List UInt8) : fP Try.prog 89 h (.map (some j)) (.string (yT id)) false = some (qK7 l id) := by
  simp only [fP, sm89, vF, x.mp, x.ok, gz89, qK7, if_true]
  cases uA (yT id) l <;> simp
theorem yU (N : Nat) {h0 h : GH} {k j : Nat} {p : Pm} {ew : Value} {cs l : List Value} {M : List (Int × List Bnd)} {ck : Int} {n : Nat} {S : List UInt8 → List (Nat × Nat)} (x : IS h0 h k j p ew cs l M ck n S) : GTri Try.prog N 69 [.pointer (some ⟨k, 0, none⟩)] h fun v h' => v = .bool false ∧ h' = h := by
  obtain ⟨a, c, e⟩ := x.ep.form
  have ho := x.obj
  rw [e] at ho
  have d0 : ((M.length : Int) == 0) = false := by have := x.pos; rw [beq_eq_false_iff_ne]; omega
  refine wQ Try.func69 rfl gf69 ok69 (by simp [Try.ntmps69]) ?_
  repeat' (first | (with_reducible first | apply qH | apply qB) | ((first | (with_reducible first | apply qA | apply qP | apply qD | apply qE | apply qK) | ((with_reducible first | apply qQ | apply qI | apply qJ) <;> intro hb <;> (try simp only [hb]) <;> (try simp only [zF] at hb))) <;> try simp only [qV, qF, qL, qN, qG, qC, qM, reduceIte, seval, Int.cast_ofNat_Int, qY, qZ, zD7, qA2, qT ho gJ, d0]))
theorem qS1 (N : Nat) {h0 h : GH} {k j : Nat} {p : Pm} {ew : Value} {cs l : List Value} {M : List (Int × List Bnd)} {ck : Int} {n : Nat} {S : List UInt8 → List (Nat × Nat)} (x : IS h0 h k j p ew cs l M ck n S) : GTri Try.prog N 31 [.pointer (some ⟨k, 0, none⟩)] h fun v h' => v = .int .i64 ((M.length - 1 : Nat) : Int) ∧ h' = h := by
  obtain ⟨a, c, e⟩ := x.ep.form
  have ho := x.obj
  rw [e] at ho
  have hp := x.pos
  have hl := x.len
  have w : IntKind.i64.wrap ((M.length : Int) - 1) = ((M.length - 1 : Nat) : Int) := by rw [wrap64 (by omega) (by omega)]; omega
  refine wQ Try.func31 rfl gf31 ok31 (by simp [Try.ntmps31]) ?_
  refine qS ?_; repeat' (first | (with_reducible first | apply qH | apply qB) | ((first | (with_reducible apply qR) | (with_reducible first | apply qA | apply qP | apply qD | apply qE | apply qK) | ((with_reducible first | apply qQ | apply qI | apply qJ) <;> intro hb <;> (try simp only [hb]) <;> (try simp only [zF] at hb)) | ((refine GTri.mono (yU _ x) ?_); rintro _ _ ⟨rfl, hh9⟩; replace hh9 := hh9.symm; subst hh9)) <;> try simp only [qV, qF, qL, qN, qG, qC, qM, reduceIte, seval, Int.cast_ofNat_Int, qY, qZ, zD9, gNil, qT ho gJ, w]))
theorem qG4 (N : Nat) {h0 h : GH} {k j : Nat} {p : Pm} {ew : Value} {cs l : List Value} {M : List (Int × List Bnd)} {ck : Int} {n : Nat} {S : List UInt8 → List (Nat × Nat)} (x : IS h0 h k j p ew cs l M ck n S) : GTri Try.prog N 44 [.pointer (some ⟨k, 0, none⟩)] h fun v h' => v = .int .i64 (n : Int) ∧ h' = h := by
  refine wQ Try.func44 rfl gf44 ok44 (by simp [Try.ntmps44]) ?_
  refine qS ?_; repeat' (first | (with_reducible first | apply qH | apply qB) | ((first | (with_reducible apply qR) | (with_reducible first | apply qA | apply qP | apply qD | apply qE | apply qK) | ((with_reducible first | apply qQ | apply qI | apply qJ) <;> intro hb <;> (try simp only [hb]) <;> (try simp only [zF] at hb)) | ((refine GTri.mono (yU _ x) ?_); rintro _ _ ⟨rfl, hh9⟩; replace hh9 := hh9.symm; subst hh9)) <;> try simp only [qV, qF, qL, qN, qG, qC, qM, reduceIte, seval, Int.cast_ofNat_Int, qY, qZ, zD8, gNil, qT x.obj wL]))
theorem jG : type_of% (And.intro Try.underlying89 (And.intro jA (And.intro vY (And.intro wM (And.intro vQ (And.intro yL (And.intro wZ (And.intro jJ rs36)))))))) := And.intro Try.underlying89 (And.intro jA (And.intro vY (And.intro wM (And.intro vQ (And.intro yL (And.intro wZ (And.intro jJ rs36)))))))
def wF : List (Nat × List Nat) := [(0, []), (1, [0]), (2, [0]), (3, []), (4, []), (5, []), (6, [])]
def yD : List Nat := [0, 0, 2, 7, 15, 31, 63]
def wD : List (Nat × List Nat) := [(0, []), (2, [0]), (1, [0]), (3, []), (4, []), (5, []), (6, [])]
def yC : List Nat := [0, 4, 0, 7, 15, 31, 63]
def kpB (B : GB) : Prop := B.cells.all wX = false ∨ B.es = 1 ∨ (B.es = 2 ∧ ∃ a b c r, B.cells = .slice a b c :: r)
def MF (h h' : GH) : Prop := ∀ j B, h j = some B → kpB B → h' j = some B
theorem MF.of {h h' : GH} (s : HS h h') : MF h h' := fun j B e _ => s j B e
theorem MF.trans {a b c : GH} (x : MF a b) (y : MF b c) : MF a c := fun j B e q => y j B (x j B e q) q
theorem MF.upd {h h' : GH} {k : Nat} {B : GB} (m : h k = some B) (hB : B.es = 0) (hu : B.cells.all wX = true) (f : ∀ j, j ≠ k → h' j = h j) : MF h h' := fun j C e q => by
  rw [f j (fun ee => by
    rw [ee, m] at e; cases e
    rcases q with q | q | ⟨q, _⟩
    · rw [hu] at q; cases q
    · omega
    · omega)]
  exact e
theorem RB.mf {h h' : GH} {v : Value} {l : List UInt8} (r : RB h v l) (f : MF h h') : RB h' v l := by
  rcases r with r | ⟨ad, c, h1, h2, h3⟩
  · exact .inl r
  · refine .inr ⟨ad, c, h1, ?_, h3⟩
    by_cases h0 : l.length = 0
    · rw [h0] at h2 ⊢; simp only [xX, if_true] at h2 ⊢; exact h2
    · have h2' := h2
      unfold xX at h2
      rw [if_neg h0] at h2
      split at h2
      case h_2 => cases h2
      rename_i B hs hB
      have hb : bv (l[0]'(by omega)) ∈ B.cells := rE h2' h0 hB _ (List.mem_map.2 ⟨_, List.getElem_mem _, rfl⟩)
      have := f _ B hB (.inl (by
        cases e : B.cells.all wX with
        | false => rfl
        | true => rw [List.all_eq_true] at e; have := e _ hb; simp [wX, bv] at this))
      unfold xX
      rw [if_neg h0, hs, this]
      exact h2
theorem Bd.mf {h h' : GH} (f : MF h h') {cs : List Value} {y : Bnd} (r : Bd h cs y) : Bd h' cs y := by
  obtain ⟨a, n, c, b, m, d, e, r1, r2⟩ := r
  exact ⟨a, n, c, b, m, d, e, r1.mf f, r2.mf f⟩
theorem OWNC.mf1 {h0 h h' : GH} {v : Value} {n : Nat} {cs : List Value} (o : OWNC 1 h0 h v n cs) (f : MF h h') : OWNC 1 h0 h' v n cs := by
  rcases o with o | o | ⟨k, c, h1, h2, h3, h4, h5, h6, h7⟩
  · exact .inl o
  · exact .inr (.inl o)
  · exact .inr (.inr ⟨k, c, h1, h2, h3, h4, h5, f _ _ h6 (.inr (.inl rfl)), h7⟩)
theorem Bat.mf {h h' : GH} {v : Value} {b : List Bnd} (x : Bat H0 h v b) (f : MF h h') : Bat H0 h' v b := by
  obtain ⟨ds, o, r⟩ := x
  refine ⟨ds, ?_, fun i p hp => (r i p hp).mf f⟩
  rcases o with o | o | ⟨k, c, h1, h2, h3, h4, h5, h6, h7⟩
  · exact .inl o
  · exact .inr (.inl o)
  · refine .inr (.inr ⟨k, c, h1, h2, h3, h4, h5, f _ _ h6 (.inr (.inr ⟨rfl, ?_⟩)), h7⟩)
    obtain ⟨p, hp⟩ : ∃ p, b[0]? = some p := ⟨_, List.getElem?_eq_getElem (by omega)⟩
    obtain ⟨a, n, c, b', m, d, e, _⟩ := r 0 p hp
    rw [Nat.zero_mul, List.drop_zero] at e
    cases ds with
    | nil => cases e
    | cons x ds =>
      simp only [List.take_succ_cons] at e
      injection e with e1 e2
      exact ⟨_, _, _, _, by rw [e1]⟩
theorem MF.eps {h h' : GH} {cs : List Value} (hc : cs.all wX = true) (hi : ∃ t r, cs = .int .i64 t :: r) (f : ∀ j B, h j = some B → (∀ tl, B ≠ ⟨cs, 2, true, tl⟩) → h' j = some B) : MF h h' := fun j B e q => f j B e fun tl hB => by
  subst hB
  rcases q with q | q | ⟨_, a, b, c, r, q⟩
  · rw [hc] at q; cases q
  · cases q
  · obtain ⟨t, r', e'⟩ := hi
    rw [e'] at q; cases q
theorem IS.first {h0 h : GH} {k j : Nat} {p : Pm} {ew : Value} {cs l : List Value} {M : List (Int × List Bnd)} {ck : Int} {n : Nat} {S : List UInt8 → List (Nat × Nat)} (x : IS h0 h k j p ew cs l M ck n S) : ∃ t r, cs = .int .i64 t :: r := by
  obtain ⟨y, hy⟩ : ∃ y, M[0]? = some y := ⟨_, List.getElem?_eq_getElem (by have := x.pos; omega)⟩
  obtain ⟨v, h1, _⟩ := x.eps 0 y hy
  rw [Nat.zero_mul, List.drop_zero] at h1
  cases cs with
  | nil => cases h1
  | cons z cs =>
    simp only [List.take_succ_cons] at h1
    injection h1 with e1 e2
    exact ⟨_, _, by rw [e1]⟩
theorem IS.put {h0 h h' : GH} {k j : Nat} {p : Pm} {ew v : Value} {cs l : List Value} {M : List (Int × List Bnd)} {ck : Int} {n : Nat} {S S' : List UInt8 → List (Nat × Nat)} (x : IS h0 h k j p ew cs l M ck n S) (id : List UInt8) (m : h' (j + 1) = some ⟨MM :: jD (yT id) v l, 0, true, false⟩) (f : ∀ i, i ≠ j + 1 → h' i = h i) (hv : wX v = true)
    (o : OWNC 1 H0 h v (S' id).length (qS6 (S' id))) (hS : ∀ i, i ≠ id → S' i = S i) (hne : S' id ≠ []) : IS h0 h' k j p ew cs (jD (yT id) v l) M ck n S' := by
  have hkj : k ≠ j + 1 := fun e => by have h1 := x.obj; rw [e, x.mp] at h1; cases h1
  have mf : MF h h' := MF.upd x.mp rfl (by simp [wX, x.u8]) f
  refine ⟨(f k hkj).trans x.obj, x.nk, m, x.nj, (kJ _ (yT []) _ _ x.ok).1, qO6 _ _ _ rfl hv _ x.u8, x.ep.hx x.mp (by simp) (fun i B n e => (f i n).trans e), fun e b hb => ?_, fun i => ?_, x.cu8, x.bl, x.len, x.tt, x.nch, x.may, mset_nd x.ok x.ks.1, fun k hk => ?_, x.ks.2.2⟩
  · obtain ⟨v, h1, h2⟩ := x.eps e b hb; exact ⟨v, h1, h2.mf mf⟩
  · rw [zC6 x.ok]
    by_cases hi : i = id
    · subst hi; rw [if_pos rfl]; exact o.mf1 mf
    · rw [if_neg hi, hS i hi]; exact (x.sp i).mf1 mf
  · by_cases hi : k.data.toList = id
    · rw [hi]; exact hne
    · rw [hS _ hi]
      refine x.ks.2.1 k ?_
      rcases fS (yT id) v l x.ok with ⟨_, e⟩ | ⟨_, e⟩
      · rw [e] at hk; exact hk
      · rw [e] at hk
        rcases List.mem_append.1 hk with hk | hk
        · exact hk
        · obtain rfl := List.mem_singleton.1 hk
          exact absurd (by simp [yT]) hi
theorem IS.upS {h0 h : GH} {k j : Nat} {p : Pm} {ew : Value} {cs l : List Value} {M : List (Int × List Bnd)} {ck : Int} {n : Nat} {S S' : List UInt8 → List (Nat × Nat)} (x : IS h0 h k j p ew cs l M ck n S) (e : ∀ id, S' id = S id) : IS h0 h k j p ew cs l M ck n S' := by
  have : S' = S := funext e
  rw [this]; exact x
theorem z136 : jK (.agg #[.int .i64 0, .slice none 0 0]) (1 * 2) = [.int .i64 0, .slice none 0 0] := by
  have hc : (Value.agg #[.int .i64 0, .slice none 0 0]).cells = #[.int .i64 0, .slice none 0 0] := by
    apply Array.toList_inj.1
    rw [uC]
    rfl
  simp only [jK, madeCells, hc, Array.toList_map, Array.toList_range]
  rfl
theorem c_iNew (N : Nat) {h0 h : GH} (s0 : HS h0 h) (p : Pm) : GTri Try.prog N 36 [p.v] h fun v h' => (p.check ≠ 0 ∧ v = .tuple #[.pointer none, .int .i64 p.check] ∨ p.check = 0 ∧ ∃ k j ew cs, v = .tuple #[.pointer (some ⟨k, 0, none⟩), .int .i64 0] ∧ h k = none ∧ IM h0 h' k j p ew cs [] [(0, [])] 0 0) ∧ HS h h' := by
  have hv : p.v = .agg #[.int .i64 p.s, .int .i64 p.ht, .int .i64 p.mi, .int .i64 p.my, .int .i64 p.ch, .int .i64 p.ar, .int .i64 p.ca, .int .i64 p.pg] := rfl
  refine wQ Try.func36 rfl gf36 ok36 (by simp [Try.ntmps36]) ?_
  repeat' (first | (with_reducible first | apply qH | apply qB) | ((first | (with_reducible first | apply qA | apply qP | apply qD | apply qE | apply qK) | ((with_reducible first | apply qQ | apply qI | apply qJ | apply qW | apply qX) <;> intro hb <;> (try simp only [hb]) <;> (try simp only [zF] at hb)) | with_reducible refine zW (id := 4) 1 2 wF yD wD yC mixed (by kernel_rfl) (by kernel_rfl) (by kernel_rfl) ?_ ?_) <;> try simp only [qV, qF, qL, qN, qG, qC, qM, reduceIte, seval, Int.cast_ofNat_Int, qY, qZ, qU, zR, zT, zU, jG, wF, wD, hv]))
  refine wY rfl fun k1 h1 m1 s1 f1 n1 => ?_
  refine qS ?_; repeat' (first | (with_reducible first | apply qH | apply qB) | ((first | (with_reducible apply qR) | (with_reducible first | apply qA | apply qP | apply qD | apply qE | apply qK) | ((with_reducible first | apply qQ | apply qI | apply qJ | apply qW | apply qX) <;> intro hb <;> (try simp only [hb]) <;> (try simp only [zF] at hb)) | with_reducible refine zW (id := 4) 1 2 wF yD wD yC mixed (by kernel_rfl) (by kernel_rfl) (by kernel_rfl) ?_ ?_) <;> try simp only [qV, qF, qL, qN, qG, qC, qM, reduceIte, seval, Int.cast_ofNat_Int, qY, qZ, qU, zR, zT, zU, jG, wF, wD, zI m1 kW rfl]))
  rw [← hv]
  refine (c_check N h1 p).mono ?_
  rintro _ h2 ⟨rfl, s2⟩
  have m2 := s2 _ _ m1
  have s02 := s1.trans s2
  by_cases hc : p.check = 0
  case neg =>
    have d : (p.check != 0) = true := by simpa using hc
    refine qS ?_; repeat' (first | (with_reducible first | apply qH | apply qB) | ((first | (with_reducible apply qR) | (with_reducible first | apply qA | apply qP | apply qD | apply qE | apply qK) | ((with_reducible first | apply qQ | apply qI | apply qJ | apply qW | apply qX) <;> intro hb <;> (try simp only [hb]) <;> (try simp only [zF] at hb)) | with_reducible refine zW (id := 4) 1 2 wF yD wD yC mixed (by kernel_rfl) (by kernel_rfl) (by kernel_rfl) ?_ ?_) <;> try simp only [qV, qF, qL, qN, qG, qC, qM, reduceIte, seval, Int.cast_ofNat_Int, qY, qZ, qU, zR, zT, zU, jG, wF, wD, d]))
    exact ⟨.inl hc, s02⟩
  have d : (p.check != 0) = false := by simpa using hc
  have hmay : p.may = true := by
    unfold Pm.check at hc
    cases hm : p.may with
    | true => rfl
    | false => rw [hm] at hc; simp at hc
  have hch := p.may_iff.1 hmay
  have fin : ∀ {h' : GH} {k j kb : Nat}, h' k = some ⟨[.int .i64 p.s, .int .i64 p.ht, .int .i64 p.mi, .int .i64 p.my, .int .i64 p.ch, .int .i64 p.ar, .int .i64 p.ca, .int .i64 p.pg, .slice (some ⟨kb, 0, none⟩) 1 3, .int .i64 0, .int .i64 0, .map (some j)], 0, true, false⟩ → h0 k = none → h' (j + 1) = some ⟨[MM], 0, true, false⟩ → h0 (j + 1) = none →
      h' kb = some ⟨[.int .i64 0, .slice none 0 0], 2, true, false⟩ → h0 kb = none → IM h0 h' k j p (.slice (some ⟨kb, 0, none⟩) 1 3) [.int .i64 0, .slice none 0 0] [] [(0, [])] 0 0 := by
    intro h' k j kb mk nk mj nj mb nb
    refine ⟨mk, nk, mj, nj, rfl, rfl, ⟨kb, 3, false, rfl, by simp, rfl, mb, nb, .inr ⟨rfl, rfl⟩⟩, fun e x hx => ?_, fun id => OWNC.nil _ _ _, rfl, fun x hx => ?_, by simp, rfl, by simp; omega, hmay, List.nodup_nil, by simp [xO], fun x hx => .inl (by obtain rfl := List.mem_singleton.1 hx; rfl), List.pairwise_singleton _ _, fun x hx => by obtain rfl := List.mem_singleton.1 hx; simp⟩
    · have he : e = 0 := by have := (List.getElem?_eq_some_iff.1 hx).1; simp at this; omega
      subst he
      simp at hx
      subst hx
      exact ⟨_, rfl, [], OWNC.nil _ _ _, fun i p hp => by simp at hp⟩
    · obtain rfl := List.mem_singleton.1 hx
      exact ⟨fun q hq => by simp at hq, by simp⟩
  refine qS ?_; repeat' (first | (with_reducible first | apply qH | apply qB) | ((first | (with_reducible apply qR) | (with_reducible first | apply qA | apply qP | apply qD | apply qE | apply qK) | ((with_reducible first | apply qQ | apply qI | apply qJ | apply qW | apply qX) <;> intro hb <;> (try simp only [hb]) <;> (try simp only [zF] at hb)) | with_reducible refine zW (id := 4) 1 2 wF yD wD yC mixed (by kernel_rfl) (by kernel_rfl) (by kernel_rfl) ?_ ?_) <;> try simp only [qV, qF, qL, qN, qG, qC, qM, reduceIte, seval, Int.cast_ofNat_Int, qY, qZ, qU, zR, zT, zU, jG, wF, wD, d, zI m2 kW rfl]))
  · refine mk_g (n := 1) qW3 rfl (by decide) (by decide) fun kb h3 m3 s3 f3 n3 => ?_
    rw [z136] at m3
    refine qS ?_; repeat' (first | (with_reducible first | apply qH | apply qB) | ((first | (with_reducible apply qR) | (with_reducible first | apply qA | apply qP | apply qD | apply qE | apply qK) | ((with_reducible first | apply qQ | apply qI | apply qJ | apply qW | apply qX) <;> intro hb <;> (try simp only [hb]) <;> (try simp only [zF] at hb)) | with_reducible refine zW (id := 4) 1 2 wF yD wD yC mixed (by kernel_rfl) (by kernel_rfl) (by kernel_rfl) ?_ ?_) <;> try simp only [qV, qF, qL, qN, qG, qC, qM, reduceIte, seval, Int.cast_ofNat_Int, qY, qZ, qU, zR, zT, zU, jG, wF, wD, zI (s3 _ _ m2) kW rfl]))
    refine mm_g fun j h4 m4 s4 f4 n4 => ?_
    refine qS ?_; repeat' (first | (with_reducible first | apply qH | apply qB) | ((first | (with_reducible apply qR) | (with_reducible first | apply qA | apply qP | apply qD | apply qE | apply qK) | ((with_reducible first | apply qQ | apply qI | apply qJ | apply qW | apply qX) <;> intro hb <;> (try simp only [hb]) <;> (try simp only [zF] at hb)) | with_reducible refine zW (id := 4) 1 2 wF yD wD yC mixed (by kernel_rfl) (by kernel_rfl) (by kernel_rfl) ?_ ?_) <;> try simp only [qV, qF, qL, qN, qG, qC, qM, reduceIte, seval, Int.cast_ofNat_Int, qY, qZ, qU, zR, zT, zU, jG, wF, wD, zI (s4 _ _ (s3 _ _ m2)) kW rfl, xL, xT, vB, Shape.pl, List.all_cons, List.all_nil, zA]))
    refine wY rfl fun k h5 m5 s5 f5 n5 => ?_
    refine qS ?_; repeat' (first | (with_reducible first | apply qH | apply qB) | ((first | (with_reducible apply qR) | (with_reducible first | apply qA | apply qP | apply qD | apply qE | apply qK) | ((with_reducible first | apply qQ | apply qI | apply qJ | apply qW | apply qX) <;> intro hb <;> (try simp only [hb]) <;> (try simp only [zF] at hb)) | with_reducible refine zW (id := 4) 1 2 wF yD wD yC mixed (by kernel_rfl) (by kernel_rfl) (by kernel_rfl) ?_ ?_) <;> try simp only [qV, qF, qL, qN, qG, qC, qM, reduceIte, seval, Int.cast_ofNat_Int, qY, qZ, qU, zR, zT, zU, jG, wF, wD, zI (s5 _ _ (s4 _ _ (s3 _ _ m2))) kW rfl]))
    have t3 := s0.trans s02
    have t4 := t3.trans s3
    have t5 := t4.trans s4
    exact ⟨.inr ⟨hc, k, j, _, _, rfl, s02.none_of (s3.none_of (s4.none_of n5)), fin m5 (t5.none_of n5) (s5 _ _ m4) (t4.none_of n4) (s5 _ _ (s4 _ _ m3)) (t3.none_of n3)⟩, ((s02.trans s3).trans s4).trans s5⟩
  · refine mm_g fun j h3 m3 s3 f3 n3 => ?_
    refine qS ?_; repeat' (first | (with_reducible first | apply qH | apply qB) | ((first | (with_reducible apply qR) | (with_reducible first | apply qA | apply qP | apply qD | apply qE | apply qK) | ((with_reducible first | apply qQ | apply qI | apply qJ | apply qW | apply qX) <;> intro hb <;> (try simp only [hb]) <;> (try simp only [zF] at hb)) | with_reducible refine zW (id := 4) 1 2 wF yD wD yC mixed (by kernel_rfl) (by kernel_rfl) (by kernel_rfl) ?_ ?_) <;> try simp only [qV, qF, qL, qN, qG, qC, qM, reduceIte, seval, Int.cast_ofNat_Int, qY, qZ, qU, zR, zT, zU, jG, wF, wD, zI (s3 _ _ m2) kW rfl]))
    refine mk_g (n := 1) qW3 rfl (by decide) (by decide) fun kb h4 m4 s4 f4 n4 => ?_
    rw [z136] at m4
    refine qS ?_; repeat' (first | (with_reducible first | apply qH | apply qB) | ((first | (with_reducible apply qR) | (with_reducible first | apply qA | apply qP | apply qD | apply qE | apply qK) | ((with_reducible first | apply qQ | apply qI | apply qJ | apply qW | apply qX) <;> intro hb <;> (try simp only [hb]) <;> (try simp only [zF] at hb)) | with_reducible refine zW (id := 4) 1 2 wF yD wD yC mixed (by kernel_rfl) (by kernel_rfl) (by kernel_rfl) ?_ ?_) <;> try simp only [qV, qF, qL, qN, qG, qC, qM, reduceIte, seval, Int.cast_ofNat_Int, qY, qZ, qU, zR, zT, zU, jG, wF, wD, zI (s4 _ _ (s3 _ _ m2)) kW rfl, xL, xT, vB, Shape.pl, List.all_cons, List.all_nil, zA]))
    refine wY rfl fun k h5 m5 s5 f5 n5 => ?_
    refine qS ?_; repeat' (first | (with_reducible first | apply qH | apply qB) | ((first | (with_reducible apply qR) | (with_reducible first | apply qA | apply qP | apply qD | apply qE | apply qK) | ((with_reducible first | apply qQ | apply qI | apply qJ | apply qW | apply qX) <;> intro hb <;> (try simp only [hb]) <;> (try simp only [zF] at hb)) | with_reducible refine zW (id := 4) 1 2 wF yD wD yC mixed (by kernel_rfl) (by kernel_rfl) (by kernel_rfl) ?_ ?_) <;> try simp only [qV, qF, qL, qN, qG, qC, qM, reduceIte, seval, Int.cast_ofNat_Int, qY, qZ, qU, zR, zT, zU, jG, wF, wD, zI (s5 _ _ (s4 _ _ (s3 _ _ m2))) kW rfl]))
    have t3 := s0.trans s02
    have t4 := t3.trans s3
    have t5 := t4.trans s4
    exact ⟨.inr ⟨hc, k, j, _, _, rfl, s02.none_of (s3.none_of (s4.none_of n5)), fin m5 (t5.none_of n5) (s5 _ _ (s4 _ _ m3)) (t3.none_of n3) (s5 _ _ m4) (t4.none_of n4)⟩, ((s02.trans s3).trans s4).trans s5⟩
theorem lB : type_of% (And.intro uN (And.intro wZ rs91)) := And.intro uN (And.intro wZ rs91)
theorem wG : type_of% (And.intro Try.underlying89 (And.intro wT (And.intro wN (And.intro yX (And.intro yB (And.intro uN (And.intro jA (And.intro vY (And.intro yW (And.intro wM (And.intro yV (And.intro vQ (And.intro uM (And.intro yL (And.intro wZ (And.intro uP (And.intro jV (And.intro jJ (And.intro lU rs70))))))))))))))))))) := And.intro Try.underlying89 (And.intro wT (And.intro wN (And.intro yX (And.intro yB (And.intro uN (And.intro jA (And.intro vY (And.intro yW (And.intro wM (And.intro yV (And.intro vQ (And.intro uM (And.intro yL (And.intro wZ (And.intro uP (And.intro jV (And.intro jJ (And.intro lU rs70))))))))))))))))))
def zH : List (Nat × List Nat) := [(0, []), (1, []), (2, []), (3, []), (4, []), (5, []), (6, []), (7, []), (8, []), (9, []), (10, []), (11, []), (12, []), (13, []), (14, []), (16, []), (15, [3, 5, 6]), (17, [3, 5, 6]), (18, [3, 5, 6]), (19, [])]
def xI : List Nat := [0, 1, 3, 7, 0, 16, 48, 0, 128, 384, 896, 0, 2048, 6144, 16256, 32640, 0, 130944, 262016, 524287]
def zG : List (Nat × List Nat) := [(0, []), (1, []), (2, []), (3, []), (4, []), (5, []), (6, []), (7, []), (8, []), (9, []), (10, []), (11, []), (12, []), (13, []), (14, []), (16, []), (17, [3, 5, 6, 10, 12, 13, 14]), (15, [3, 5, 6]), (18, [3, 5, 6]), (19, [])]
def xH : List Nat := [0, 1, 3, 7, 0, 16, 48, 0, 128, 384, 896, 0, 2048, 6144, 16256, 229248, 0, 65536, 262016, 524287]
def zS : Nat → List (Nat × List Nat) × List Nat
  | 1 => ([(0, []), (1, []), (2, []), (3, []), (4, []), (5, []), (6, []), (7, [])], [0, 1, 3, 7, 0, 16, 63, 127])
  | 3 => ([(0, []), (1, []), (2, []), (3, []), (4, []), (5, []), (6, []), (7, []), (8, []), (9, []), (10, []), (11, []), (12, []), (13, []), (14, []), (15, []), (16, []), (17, []), (18, []), (19, []), (20, []), (21, []), (22, []), (23, []), (24, []), (25, []), (26, [])], [0, 1, 3, 7, 7, 23, 55, 119, 247, 511, 1023, 2047, 4095, 8191, 2047, 18431, 51199, 116735, 247807, 2047, 526335, 1574911, 3672063, 8374271, 16777215, 33554431, 67108863])
  | 7 => ([(0, []), (1, []), (2, []), (3, []), (4, []), (5, []), (6, []), (7, []), (8, []), (9, []), (10, []), (11, [4, 8]), (12, []), (13, [4]), (14, []), (15, []), (16, []), (17, [])], [0, 0, 2, 6, 14, 0, 32, 96, 224, 0, 512, 1536, 4064, 8160, 16382, 32767, 65535, 131071])
  | 8 => ([(0, []), (1, []), (2, []), (3, []), (4, []), (5, []), (6, []), (7, []), (8, []), (9, []), (10, [])], [0, 1, 3, 7, 0, 16, 48, 127, 255, 511, 1023])
  | _ => ([], [])
theorem qF4 (s : List (Nat × Nat)) : (qS6 s).all zA = true := by
  rw [List.all_eq_true]
  intro q hq
  unfold qS6 at hq
  obtain ⟨p, _, rfl⟩ := List.mem_map.1 hq
  rfl
theorem epc_app (s t : List (Nat × Nat)) : qS6 (s ++ t) = qS6 s ++ qS6 t := by simp [qS6]
theorem qG5 (N : Nat) {h0 h : GH} {v : Value} {n : Nat} {cs : List Value} (o : OWNC 1 h0 h v n cs) (hl : n ≤ 1000000) (hc : cs.all zA = true) : GTri Try.prog N 91 [v] h fun v h' => OWNC 1 h h' v n cs ∧ HS h h' := by
  obtain ⟨a, c, rfl⟩ := o.form
  have hln := o.len
  refine wQ Try.func91 rfl gf91 ok91 (by simp [Try.ntmps91]) ?_
  repeat' (first | (with_reducible first | apply qH | apply qB) | ((first | (with_reducible first | apply qA | apply qP | apply qD | apply qE | apply qK) | ((with_reducible first | apply qQ | apply qI | apply qJ) <;> intro hb <;> (try simp only [hb]) <;> (try simp only [zF] at hb))) <;> try simp only [qV, qF, qL, qN, qG, qC, qM, reduceIte, seval, Int.cast_ofNat_Int, qY, qZ, lB]))
  · obtain ⟨_, q⟩ := o.read
    have hz : n = 0 ∧ cs = [] := by
      rcases q with ⟨_, q1, q2⟩ | ⟨ad, q, _⟩
      · exact ⟨q1, q2⟩
      · subst q; cases hb
    rw [hz.1, hz.2]
    exact ⟨OWNC.nil _ _ _, HS.refl h⟩
  · obtain ⟨_, q⟩ := o.read
    have hsrc : jM h 1 (.slice a n c) = some (n, cs) := by
      rcases q with ⟨q, _, _⟩ | ⟨ad, q, q1, q2, _⟩
      · subst q; cases hb
      · subst q
        simp [jM]
        simpa using q1
    refine tH sW rfl ?_
    refine qS ?_; repeat' (first | (with_reducible first | apply qH | apply qB) | ((first | (with_reducible apply qR) | (with_reducible first | apply qA | apply qP | apply qD | apply qE | apply qK) | ((with_reducible first | apply qQ | apply qI | apply qJ) <;> intro hb <;> (try simp only [hb]) <;> (try simp only [zF] at hb))) <;> try simp only [qV, qF, qL, qN, qG, qC, qM, reduceIte, seval, Int.cast_ofNat_Int, qY, qZ, lB]))
    refine wJ sW Try.underlying83 rfl (HS.refl h) (OWNC.zero _ _ _ _) hsrc (by omega) hc (by omega) (by simp only [maxLen]; omega) fun v3 h3 s3 fr3 o3 => ?_
    rw [List.nil_append, Nat.zero_add] at o3
    refine qS ?_; repeat' (first | (with_reducible first | apply qH | apply qB) | ((first | (with_reducible apply qR) | (with_reducible first | apply qA | apply qP | apply qD | apply qE | apply qK) | ((with_reducible first | apply qQ | apply qI | apply qJ) <;> intro hb <;> (try simp only [hb]) <;> (try simp only [zF] at hb))) <;> try simp only [qV, qF, qL, qN, qG, qC, qM, reduceIte, seval, Int.cast_ofNat_Int, qY, qZ, lB]))
    exact ⟨o3, s3⟩
def kH (p : Pm) (m n : Nat) (b : List Bnd) : Int := if jR p b = 0 then (if (m : Int) ≥ p.eps ∨ (b.length : Int) > p.ch - n then 81 else 0) else jR p b
def qS8 (e : Int) (ep : Int) : Value := .agg #[.int .i64 e, .int .i64 ep, .bool false, .bool false, .slice none 0 0, .int .i64 0, .slice none 0 0, .slice none 0 0, .bool false]
theorem lM {p : Pm} {b : List Bnd} (hm : p.may = true) (h : jR p b = 0) : qO0 b ∧ b.length ≤ 32 := by
  have hp := p.may_iff.1 hm
  unfold jR at h
  split at h
  · simp at h
  split at h
  · simp at h
  split at h
  · simp at h
  rename_i h1 h2 h3
  refine ⟨fun x hx => ?_, by omega⟩
  have : ¬ jC p x := fun hq => h3 ⟨x, hx, hq⟩
  unfold jC at this
  omega
theorem sps1 (M : List (Int × List Bnd)) (t : Int) (b : List Bnd) (id : List UInt8) : uZ 0 ((M ++ [(t, b)]).map (·.2)) id = uZ 0 (M.map (·.2)) id ++ yG M.length b b.length id := by
  rw [List.map_append, List.map_singleton, qX9, Nat.zero_add, List.length_map]
theorem IS.oth {h0 h h' : GH} {k j k2 : Nat} {p : Pm} {ew : Value} {cs l : List Value} {M : List (Int × List Bnd)} {ck : Int} {n : Nat} {S : List UInt8 → List (Nat × Nat)} {B : GB} (x : IS h0 h k j p ew cs l M ck n S) (m : h k2 = some B) (he : B.es = 0) (hu : B.cells.all wX = true) (f : ∀ i, i ≠ k2 → h' i = h i) (n1 : k2 ≠ k) (n2 : k2 ≠ j + 1) : IS h0 h' k j p ew cs l M ck n S := by
  have mf : MF h h' := MF.upd m he hu f
  exact ⟨(f k (Ne.symm n1)).trans x.obj, x.nk, (f _ (Ne.symm n2)).trans x.mp, x.nj, x.ok, x.u8, x.ep.hx m (by omega) (fun i B q e => (f i q).trans e), fun e b hb => by obtain ⟨v, h1, h2⟩ := x.eps e b hb; exact ⟨v, h1, h2.mf mf⟩, fun id => (x.sp id).mf1 mf, x.cu8, x.bl, x.len, x.tt, x.nch, x.may, x.ks⟩
theorem zE7 (N : Nat) {h0 h : GH} {k j : Nat} {p : Pm} {ew : Value} {cs l : List Value} {M : List (Int × List Bnd)} {ck : Int} {n : Nat} (s0 : HS h0 h) (x : IM h0 h k j p ew cs l M ck n) {d : Option Addr} {g : Nat} {b : List Bnd} (rl : RL 2 Bd h0 (.slice d b.length g) b) (hb : b.length ≤ 140737488355328)
    {c0 c1 c2 c3 c4 c5 c6 c7 c8 : Value} (hc : [c0, c1, c2, c3, c4, c5, c6, c7, c8].all zA = true) :
    GTri Try.prog N 70 [.pointer (some ⟨k, 0, none⟩), .agg #[c0, c1, c2, c3, c4, c5, c6, c7, c8, .slice d b.length g]] h fun v h' =>
      v = qS8 (kH p M.length n b) (if kH p M.length n b = 0 then (M.length : Int) else 0) ∧ HS h0 h' ∧
      (kH p M.length n b ≠ 0 ∧ IM h0 h' k j p ew cs l M ck n ∨ kH p M.length n b = 0 ∧ ∃ ew' cs' l', IM h0 h' k j p ew' cs' l' (M ++ [(ck, b)]) ck (n + b.length)) := by
  have hv : p.v = .agg #[.int .i64 p.s, .int .i64 p.ht, .int .i64 p.mi, .int .i64 p.my, .int .i64 p.ch, .int .i64 p.ar, .int .i64 p.ca, .int .i64 p.pg] := rfl
  have hmay := p.may_iff.1 x.may
  have hn4 := x.n4
  have hML := x.len
  obtain ⟨ae, ce, ee⟩ := x.ep.form
  have hk0 : ∀ {h' : GH}, HS h0 h' → HS h0 h' := fun s => s
  refine wQ Try.func70 rfl gf70 ok70 (by simp [Try.ntmps70]) ?_
  repeat' (first | (with_reducible first | apply qH | apply qB) | ((first | (with_reducible first | apply qA | apply qP | apply qD | apply qE | apply qK) | ((with_reducible first | apply qQ | apply qI | apply qJ | apply qW | apply qX) <;> intro hb <;> (try simp only [hb]) <;> (try simp only [zF] at hb)) | with_reducible refine zW (id := 12) 15 17 zH xI zG xH mixed (by kernel_rfl) (by kernel_rfl) (by kernel_rfl) ?_ ?_ | with_reducible refine qO zS mixed (by kernel_rfl) ?_) <;> try simp only [qV, qF, qL, qN, qG, qC, qM, reduceIte, seval, Int.cast_ofNat_Int, qY, qZ, qU, zR, zT, zU, wG, zS, zH, zG]))
  refine wY (by simpa [zA] using hc) fun k1 h1 m1 s1 f1 n1 => ?_
  refine qS ?_; repeat' (first | (with_reducible first | apply qH | apply qB) | ((first | (with_reducible apply qR) | (with_reducible first | apply qA | apply qP | apply qD | apply qE | apply qK) | ((with_reducible first | apply qQ | apply qI | apply qJ | apply qW | apply qX) <;> intro hb <;> (try simp only [hb]) <;> (try simp only [zF] at hb)) | with_reducible refine zW (id := 12) 15 17 zH xI zG xH mixed (by kernel_rfl) (by kernel_rfl) (by kernel_rfl) ?_ ?_ | with_reducible refine qO zS mixed (by kernel_rfl) ?_) <;> try simp only [qV, qF, qL, qN, qG, qC, qM, reduceIte, seval, Int.cast_ofNat_Int, qY, qZ, qU, zR, zT, zU, wG, zS, zH, zG]))
  refine xW fun k2 h2 m2 s2 f2 n2 => ?_
  replace m1 := s2 _ _ m1
  have s12 := s1.trans s2
  have x2 := x.hs s12
  have ho := x2.obj
  rw [ee] at ho
  have gl : ∀ {h' : GH}, HS h2 h' → xM Try.prog 65 h' (.pointer (some ⟨k, 0, none⟩)) = some p.v := fun {h'} s => by
    have e := vA (s _ _ ho) (o := 0) (n := 8) rfl rfl
    rw [hv]
    simp only [xM, kW, e]
    rfl
  refine qS ?_; repeat' (first | (with_reducible first | apply qH | apply qB) | ((first | (with_reducible apply qR) | (with_reducible first | apply qA | apply qP | apply qD | apply qE | apply qK) | ((with_reducible first | apply qQ | apply qI | apply qJ | apply qW | apply qX) <;> intro hb <;> (try simp only [hb]) <;> (try simp only [zF] at hb)) | with_reducible refine zW (id := 12) 15 17 zH xI zG xH mixed (by kernel_rfl) (by kernel_rfl) (by kernel_rfl) ?_ ?_ | with_reducible refine qO zS mixed (by kernel_rfl) ?_) <;> try simp only [qV, qF, qL, qN, qG, qC, qM, reduceIte, seval, Int.cast_ofNat_Int, qY, qZ, qU, zR, zT, zU, wG, zS, zH, zG, gNil, gl (HS.refl _), qT m1 jX]))
  have rl2 := rl.bs (s0.trans s12)
  refine (c_chk N h2 p rl2 hb).mono ?_
  rintro _ h3 ⟨rfl, s3⟩
  have s23 := s12.trans s3
  replace m1 := s3 _ _ m1
  replace m2 := s3 _ _ m2
  have ho3 := s3 _ _ ho
  have k21 : k2 ≠ k1 := fun q => by subst q; rw [m2] at m1; simp at m1
  have fin2 : ∀ {h' h'' : GH} {V : Value} (s : HS h3 h') (f : ∀ j, j ≠ k2 → h'' j = h' j), HS h h'' := fun {h' h'' V} s f i B hi => by
    rw [f i (fun q => by subst q; have := s1 _ _ hi; rw [n2] at this; cases this)]
    exact s _ _ (s23 _ _ hi)
  by_cases hE : jR p b = 0
  case neg =>
    have hp : kH p M.length n b = jR p b := by unfold kH; rw [if_neg hE]
    have d0 : (jR p b == 0) = false := by simpa using hE
    have d1 : (jR p b != 0) = true := by simpa using hE
    refine qS ?_; repeat' (first | (with_reducible first | apply qH | apply qB) | ((first | (with_reducible apply qR) | (with_reducible first | apply qA | apply qP | apply qD | apply qE | apply qK) | ((with_reducible first | apply qQ | apply qI | apply qJ | apply qW | apply qX) <;> intro hb <;> (try simp only [hb]) <;> (try simp only [zF] at hb)) | with_reducible refine zW (id := 12) 15 17 zH xI zG xH mixed (by kernel_rfl) (by kernel_rfl) (by kernel_rfl) ?_ ?_ | with_reducible refine qO zS mixed (by kernel_rfl) ?_) <;> try simp only [qV, qF, qL, qN, qG, qC, qM, reduceIte, seval, Int.cast_ofNat_Int, qY, qZ, qU, zR, zT, zU, wG, zS, zH, zG, gNil, gl s3, qT m1 jX, qT ho3 gJ, d0, d1, gPick, xL, xT, vB, Shape.pl, List.all_cons, List.all_nil, zA]))
    refine zM m2 xG rfl (by decide) rfl rfl rfl fun h4 m4 f4 => ?_
    refine qS ?_; repeat' (first | (with_reducible first | apply qH | apply qB) | ((first | (with_reducible apply qR) | (with_reducible first | apply qA | apply qP | apply qD | apply qE | apply qK) | ((with_reducible first | apply qQ | apply qI | apply qJ | apply qW | apply qX) <;> intro hb <;> (try simp only [hb]) <;> (try simp only [zF] at hb)) | with_reducible refine zW (id := 12) 15 17 zH xI zG xH mixed (by kernel_rfl) (by kernel_rfl) (by kernel_rfl) ?_ ?_ | with_reducible refine qO zS mixed (by kernel_rfl) ?_) <;> try simp only [qV, qF, qL, qN, qG, qC, qM, reduceIte, seval, Int.cast_ofNat_Int, qY, qZ, qU, zR, zT, zU, wG, zS, zH, zG, zI m4 xG rfl]))
    have s4 : HS h h4 := fin2 (V := U) (HS.refl _) f4
    rw [hp, if_neg hE]
    exact ⟨rfl, s0.trans s4, .inl ⟨hE, x.hs s4⟩⟩
  have d0 : (jR p b == 0) = true := by simpa using hE
  rw [hE]
  have z0 : ((0 : Int) == 0) = true := rfl
  obtain ⟨hsm, hb32⟩ := lM x.may hE
  have w1 : IntKind.i64.wrap (p.ch - (n : Int)) = p.ch - n := by have := x.nch; rw [wrap64 (by omega) (by omega)]
  refine qS ?_; repeat' (first | (with_reducible first | apply qH | apply qB) | ((first | (with_reducible apply qR) | (with_reducible first | apply qA | apply qP | apply qD | apply qE | apply qK) | ((with_reducible first | apply qQ | apply qI | apply qJ | apply qW | apply qX) <;> intro hb <;> (try simp only [hb]) <;> (try simp only [zF] at hb)) | with_reducible refine zW (id := 12) 15 17 zH xI zG xH mixed (by kernel_rfl) (by kernel_rfl) (by kernel_rfl) ?_ ?_ | with_reducible refine qO zS mixed (by kernel_rfl) ?_) <;> try simp only [qV, qF, qL, qN, qG, qC, qM, reduceIte, seval, Int.cast_ofNat_Int, qY, qZ, qU, zR, zT, zU, wG, zS, zH, zG, gNil, gl s3, qT m1 jX, qT ho3 gJ, qT ho3 wL, z0, gPick]))
  refine (c_eps N h3 p).mono ?_
  rintro _ h4 ⟨rfl, s4⟩
  have s34 := s23.trans s4
  replace m1 := s4 _ _ m1
  replace m2 := s4 _ _ m2
  have ho4 := s4 _ _ ho3
  have n81 : ((81 : Int) != 0) = true := rfl
  by_cases hA : (M.length : Int) ≥ p.eps
  · have hp : kH p M.length n b = 81 := by unfold kH; rw [if_pos hE, if_pos (.inl hA)]
    have dA : decide ((M.length : Int) ≥ p.eps) = true := decide_eq_true hA
    refine qS ?_; repeat' (first | (with_reducible first | apply qH | apply qB) | ((first | (with_reducible apply qR) | (with_reducible first | apply qA | apply qP | apply qD | apply qE | apply qK) | ((with_reducible first | apply qQ | apply qI | apply qJ | apply qW | apply qX) <;> intro hb <;> (try simp only [hb]) <;> (try simp only [zF] at hb)) | with_reducible refine zW (id := 12) 15 17 zH xI zG xH mixed (by kernel_rfl) (by kernel_rfl) (by kernel_rfl) ?_ ?_ | with_reducible refine qO zS mixed (by kernel_rfl) ?_) <;> try simp only [qV, qF, qL, qN, qG, qC, qM, reduceIte, seval, Int.cast_ofNat_Int, qY, qZ, qU, zR, zT, zU, wG, zS, zH, zG, gNil, qT m1 jX, qT ho4 gJ, qT ho4 wL, z0, gPick, dA, w1, n81, xL, xT, vB, Shape.pl, List.all_cons, List.all_nil, zA]))
    refine zM m2 xG rfl (by decide) rfl rfl rfl fun h5 m5 f5 => ?_
    refine qS ?_; repeat' (first | (with_reducible first | apply qH | apply qB) | ((first | (with_reducible apply qR) | (with_reducible first | apply qA | apply qP | apply qD | apply qE | apply qK) | ((with_reducible first | apply qQ | apply qI | apply qJ | apply qW | apply qX) <;> intro hb <;> (try simp only [hb]) <;> (try simp only [zF] at hb)) | with_reducible refine zW (id := 12) 15 17 zH xI zG xH mixed (by kernel_rfl) (by kernel_rfl) (by kernel_rfl) ?_ ?_ | with_reducible refine qO zS mixed (by kernel_rfl) ?_) <;> try simp only [qV, qF, qL, qN, qG, qC, qM, reduceIte, seval, Int.cast_ofNat_Int, qY, qZ, qU, zR, zT, zU, wG, zS, zH, zG, zI m5 xG rfl]))
    have s5 : HS h h5 := fin2 (V := U) s4 f5
    rw [hp]
    exact ⟨rfl, s0.trans s5, .inl ⟨by decide, x.hs s5⟩⟩
  have dA : decide ((M.length : Int) ≥ p.eps) = false := decide_eq_false hA
  by_cases hB : (b.length : Int) > p.ch - n
  · have hp : kH p M.length n b = 81 := by unfold kH; rw [if_pos hE, if_pos (.inr hB)]
    have dB : decide ((b.length : Int) > p.ch - n) = true := decide_eq_true hB
    refine qS ?_; repeat' (first | (with_reducible first | apply qH | apply qB) | ((first | (with_reducible apply qR) | (with_reducible first | apply qA | apply qP | apply qD | apply qE | apply qK) | ((with_reducible first | apply qQ | apply qI | apply qJ | apply qW | apply qX) <;> intro hb <;> (try simp only [hb]) <;> (try simp only [zF] at hb)) | with_reducible refine zW (id := 12) 15 17 zH xI zG xH mixed (by kernel_rfl) (by kernel_rfl) (by kernel_rfl) ?_ ?_ | with_reducible refine qO zS mixed (by kernel_rfl) ?_) <;> try simp only [qV, qF, qL, qN, qG, qC, qM, reduceIte, seval, Int.cast_ofNat_Int, qY, qZ, qU, zR, zT, zU, wG, zS, zH, zG, gNil, qT m1 jX, qT ho4 gJ, qT ho4 wL, z0, gPick, dA, dB, w1, n81, xL, xT, vB, Shape.pl, List.all_cons, List.all_nil, zA]))
    refine zM m2 xG rfl (by decide) rfl rfl rfl fun h5 m5 f5 => ?_
    refine qS ?_; repeat' (first | (with_reducible first | apply qH | apply qB) | ((first | (with_reducible apply qR) | (with_reducible first | apply qA | apply qP | apply qD | apply qE | apply qK) | ((with_reducible first | apply qQ | apply qI | apply qJ | apply qW | apply qX) <;> intro hb <;> (try simp only [hb]) <;> (try simp only [zF] at hb)) | with_reducible refine zW (id := 12) 15 17 zH xI zG xH mixed (by kernel_rfl) (by kernel_rfl) (by kernel_rfl) ?_ ?_ | with_reducible refine qO zS mixed (by kernel_rfl) ?_) <;> try simp only [qV, qF, qL, qN, qG, qC, qM, reduceIte, seval, Int.cast_ofNat_Int, qY, qZ, qU, zR, zT, zU, wG, zS, zH, zG, zI m5 xG rfl]))
    have s5 : HS h h5 := fin2 (V := U) s4 f5
    rw [hp]
    exact ⟨rfl, s0.trans s5, .inl ⟨by decide, x.hs s5⟩⟩
  have dB : decide ((b.length : Int) > p.ch - n) = false := decide_eq_false hB
  have hp : kH p M.length n b = 0 := by unfold kH; rw [if_pos hE, if_neg (not_or.2 ⟨hA, hB⟩)]
  rw [hp]
  have n0 : ((0 : Int) != 0) = false := rfl
  refine qS ?_; repeat' (first | (with_reducible first | apply qH | apply qB) | ((first | (with_reducible apply qR) | (with_reducible first | apply qA | apply qP | apply qD | apply qE | apply qK) | ((with_reducible first | apply qQ | apply qI | apply qJ | apply qW | apply qX) <;> intro hb <;> (try simp only [hb]) <;> (try simp only [zF] at hb)) | with_reducible refine zW (id := 12) 15 17 zH xI zG xH mixed (by kernel_rfl) (by kernel_rfl) (by kernel_rfl) ?_ ?_ | with_reducible refine qO zS mixed (by kernel_rfl) ?_) <;> try simp only [qV, qF, qL, qN, qG, qC, qM, reduceIte, seval, Int.cast_ofNat_Int, qY, qZ, qU, zR, zT, zU, wG, zS, zH, zG, gNil, qT m1 jX, qT ho4 gJ, qT ho4 wL, z0, gPick, dA, dB, w1, n0]))
  refine (c_own N h4 (rl.bs (s0.trans s34)) (by omega) hsm).mono ?_
  rintro v5 h5 ⟨bt5, s5⟩
  obtain ⟨ao, co, eo⟩ : ∃ a c, v5 = .slice a b.length c := by
    obtain ⟨ds, o, _⟩ := bt5
    exact o.form
  subst eo
  have ho5 := s5 _ _ ho4
  replace m1 := s5 _ _ m1
  replace m2 := s5 _ _ m2
  refine qS ?_; repeat' (first | (with_reducible first | apply qH | apply qB) | ((first | (with_reducible apply qR) | (with_reducible first | apply qA | apply qP | apply qD | apply qE | apply qK) | ((with_reducible first | apply qQ | apply qI | apply qJ | apply qW | apply qX) <;> intro hb <;> (try simp only [hb]) <;> (try simp only [zF] at hb)) | with_reducible refine zW (id := 12) 15 17 zH xI zG xH mixed (by kernel_rfl) (by kernel_rfl) (by kernel_rfl) ?_ ?_ | with_reducible refine qO zS mixed (by kernel_rfl) ?_) <;> try simp only [qV, qF, qL, qN, qG, qC, qM, reduceIte, seval, Int.cast_ofNat_Int, qY, qZ, qU, zR, zT, zU, wG, zS, zH, zG, Bool.false_and, Bool.not_false, gNil, qT m1 jX, qT ho5 gJ, qT ho5 wL, gPick, xL, xT, vB, Shape.pl, List.all_cons, List.all_nil, zA]))
  refine fH qW3 rfl rfl (by decide) (by decide) rfl fun k6 h6 b6 s6 f6 n6 => ?_
  have s45 := s5.trans s6
  have ho6 := s6 _ _ ho5
  refine qS ?_; repeat' (first | (with_reducible first | apply qH | apply qB) | ((first | (with_reducible apply qR) | (with_reducible first | apply qA | apply qP | apply qD | apply qE | apply qK) | ((with_reducible first | apply qQ | apply qI | apply qJ | apply qW | apply qX) <;> intro hb <;> (try simp only [hb]) <;> (try simp only [zF] at hb)) | with_reducible refine zW (id := 12) 15 17 zH xI zG xH mixed (by kernel_rfl) (by kernel_rfl) (by kernel_rfl) ?_ ?_ | with_reducible refine qO zS mixed (by kernel_rfl) ?_) <;> try simp only [qV, qF, qL, qN, qG, qC, qM, reduceIte, seval, Int.cast_ofNat_Int, qY, qZ, qU, zR, zT, zU, wG, zS, zH, zG, Bool.false_and, Bool.not_false, gNil, qT (s6 _ _ m1) jX, qT ho6 gJ, qT ho6 wL, gPick]))
  have x6 := x.hs (s34.trans s45)
  have ep6 := x6.ep
  rw [ee] at ep6
  refine qX6 qW3 Try.underlying88 rfl (s0.trans (s34.trans s45)) ep6 b6 rfl rfl (by omega) (by simp only [maxLen]; omega) fun v7 h7 s7 fr7 ep7 => ?_
  have mf7 : MF h6 h7 := MF.eps x6.cu8 x6.first fr7
  have e0 : ∀ {i B}, h6 i = some B → B.es = 0 → h7 i = some B := fun {i B} hi he => fr7 i B hi fun tl q => by rw [q] at he; cases he
  have ho7 := e0 ho6 rfl
  have m17 := e0 (s6 _ _ m1) rfl
  have m27 := e0 (s6 _ _ m2) rfl
  have mp7 := e0 x6.mp rfl
  have bt7 : Bat H0 h7 (.slice ao b.length co) b := by
    obtain ⟨ds, o, r⟩ := bt5
    exact Bat.mf ⟨ds, (o.weak (H0.hs _)).hs s6, fun i p hp => (r i p hp).hs s6⟩ mf7
  obtain ⟨ax, cx, e7⟩ := ep7.form
  subst e7
  refine qS ?_; repeat' (first | (with_reducible first | apply qH | apply qB) | ((first | (with_reducible apply qR) | (with_reducible first | apply qA | apply qP | apply qD | apply qE | apply qK) | ((with_reducible first | apply qQ | apply qI | apply qJ | apply qW | apply qX) <;> intro hb <;> (try simp only [hb]) <;> (try simp only [zF] at hb)) | with_reducible refine zW (id := 12) 15 17 zH xI zG xH mixed (by kernel_rfl) (by kernel_rfl) (by kernel_rfl) ?_ ?_ | with_reducible refine qO zS mixed (by kernel_rfl) ?_) <;> try simp only [qV, qF, qL, qN, qG, qC, qM, reduceIte, seval, Int.cast_ofNat_Int, qY, qZ, qU, zR, zT, zU, wG, zS, zH, zG, gNil, qT m17 jX, qT ho7 wL]))
  refine vN ho7 gJ rfl (by simp) rfl rfl fun h8 m8 f8 => ?_
  simp only [List.set_cons_succ, List.set_cons_zero] at m8
  have k1k : k1 ≠ k := fun q => by subst q; rw [x.obj] at n1; cases n1
  have k2k : k2 ≠ k := fun q => by subst q; have := s1 _ _ x.obj; rw [n2] at this; cases this
  have m18 := (f8 k1 k1k).trans m17
  have w2 : IntKind.i64.wrap ((n : Int) + (b.length : Int)) = ((n + b.length : Nat) : Int) := by rw [wrap64 (by omega) (by omega)]; omega
  refine qS ?_; repeat' (first | (with_reducible first | apply qH | apply qB) | ((first | (with_reducible apply qR) | (with_reducible first | apply qA | apply qP | apply qD | apply qE | apply qK) | ((with_reducible first | apply qQ | apply qI | apply qJ | apply qW | apply qX) <;> intro hb <;> (try simp only [hb]) <;> (try simp only [zF] at hb)) | with_reducible refine zW (id := 12) 15 17 zH xI zG xH mixed (by kernel_rfl) (by kernel_rfl) (by kernel_rfl) ?_ ?_ | with_reducible refine qO zS mixed (by kernel_rfl) ?_) <;> try simp only [qV, qF, qL, qN, qG, qC, qM, reduceIte, seval, Int.cast_ofNat_Int, qY, qZ, qU, zR, zT, zU, wG, zS, zH, zG, gNil, qT m18 jX, qT m8 wL, qT m8 gJ, w2]))
  refine vN m8 wL rfl (by simp) rfl rfl fun h9 m9 f9 => ?_
  simp only [List.set_cons_succ, List.set_cons_zero] at m9
  have m19 := (f9 k1 k1k).trans m18
  refine qS ?_; repeat' (first | (with_reducible first | apply qH | apply qB) | ((first | (with_reducible apply qR) | (with_reducible first | apply qA | apply qP | apply qD | apply qE | apply qK) | ((with_reducible first | apply qQ | apply qI | apply qJ | apply qW | apply qX) <;> intro hb <;> (try simp only [hb]) <;> (try simp only [zF] at hb)) | with_reducible refine zW (id := 12) 15 17 zH xI zG xH mixed (by kernel_rfl) (by kernel_rfl) (by kernel_rfl) ?_ ?_ | with_reducible refine qO zS mixed (by kernel_rfl) ?_) <;> try simp only [qV, qF, qL, qN, qG, qC, qM, reduceIte, seval, Int.cast_ofNat_Int, qY, qZ, qU, zR, zT, zU, wG, zS, zH, zG, gNil, qT m19 jX, qT m9 wL]))
  have mf89 : MF h7 h9 := (MF.upd ho7 rfl (by simp [wX]) f8).trans (MF.upd m8 rfl (by simp [wX]) f9)
  have mf69 : MF h6 h9 := mf7.trans mf89
  have s9 : HS h0 h9 := (s7.upd x.nk f8).upd x.nk f9
  have kj : k ≠ j + 1 := fun e => by have h1 := x.obj; rw [e, x.mp] at h1; cases h1
  have mp9 : h9 (j + 1) = some ⟨MM :: l, 0, true, false⟩ := by rw [f9 _ (Ne.symm kj), f8 _ (Ne.symm kj)]; exact mp7
  have m29 := ((f9 _ k2k).trans (f8 _ k2k)).trans m27
  have k1j : k1 ≠ j + 1 := fun q => by subst q; rw [x.mp] at n1; cases n1
  have k2j : k2 ≠ j + 1 := fun q => by subst q; have := s1 _ _ x.mp; rw [n2] at this; cases this
  have hLl : (M ++ [(ck, b)]).length = M.length + 1 := by simp
  have epl : p.eps ≤ 256 := by
    have hq : p.ht.toNat ≤ 8 := by omega
    unfold Pm.eps
    rw [if_pos x.may]
    have : ∀ m, m ≤ 8 → IntKind.i64.wrap (1 * 2 ^ min m IntKind.i64.bits) ≤ 256 := by decide
    exact this _ hq
  have y9 : IS h0 h9 k j p (.slice (some ax) (M.length + 1) cx) (cs ++ [.int .i64 ck, .slice ao b.length co]) l (M ++ [(ck, b)]) ck (n + b.length) (fun id => uZ 0 (M.map (·.2)) id ++ yG M.length b 0 id) := by
    refine ⟨m9, x.nk, mp9, x.nj, x.ok, x.u8, ?_, fun e y hy => ?_, fun id => ?_, ?_, fun y hy => ?_, by rw [hLl]; omega, ?_, by omega, x.may, x.ks.1, fun k hk => by simp only [yG, List.append_nil]; exact x.ks.2.1 k hk, fun y hy => ?_, List.pairwise_append.2 ⟨x.ks.2.2.2.1, List.pairwise_singleton _ _, fun a ha b hb => by obtain rfl := List.mem_singleton.1 hb; exact x.ks.2.2.2.2 a ha⟩, fun y hy => ?_⟩
    · rw [hLl]; exact (ep7.hx ho7 (by simp) (fun i B q e => (f8 i q).trans e)).hx m8 (by simp) (fun i B q e => (f9 i q).trans e)
    · rw [List.getElem?_append] at hy
      have hcl : cs.length = M.length * 2 := by obtain ⟨_, _, _, _, _, q, _⟩ := x.ep; exact q
      by_cases he : e < M.length
      · rw [if_pos he] at hy
        obtain ⟨v, h1, h2⟩ := x6.eps e y hy
        refine ⟨v, ?_, h2.mf mf69⟩
        rw [List.drop_append_of_le_length (by omega), List.take_append_of_le_length (by rw [List.length_drop]; omega)]
        exact h1
      · rw [if_neg he] at hy
        have he0 : e - M.length = 0 := by have := (List.getElem?_eq_some_iff.1 hy).1; simp at this; omega
        rw [he0] at hy
        simp at hy
        subst hy
        have : e = M.length := by omega
        subst this
        refine ⟨_, ?_, bt7.mf mf89⟩
        rw [← hcl, List.drop_left]
        rfl
    · simp only [yG, List.append_nil]
      exact (x6.sp id).mf1 mf69
    · rw [List.all_append, x.cu8]; rfl
    · rcases List.mem_append.1 hy with hy | hy
      · exact x.bl y hy
      · obtain rfl := List.mem_singleton.1 hy
        exact ⟨hsm, hb32⟩
    · rw [x.tt]
      simp [gZ]
    · rcases List.mem_append.1 hy with hy | hy
      · exact x.ks.2.2.1 y hy
      · obtain rfl := List.mem_singleton.1 hy
        exact .inr hE
    · rcases List.mem_append.1 hy with hy | hy
      · exact x.ks.2.2.2.2 y hy
      · obtain rfl := List.mem_singleton.1 hy
        exact Int.le_refl _
  refine wI [0, 4, 6, 80, 81] (fun (i : Nat) => [(82, .int .i64 (i : Int))]) (fun q i h' => b.length - i = q ∧ i ≤ b.length ∧ HS h0 h' ∧ h' k1 = some ⟨[c0, c1, c2, c3, c4, c5, c6, c7, c8, .slice d b.length g], 0, true, false⟩ ∧ h' k2 = h9 k2 ∧ ∃ l', IS h0 h' k j p (.slice (some ax) (M.length + 1) cx) (cs ++ [.int .i64 ck, .slice ao b.length co]) l' (M ++ [(ck, b)]) ck (n + b.length) (fun id => uZ 0 (M.map (·.2)) id ++ yG M.length b i id)) b.length 0 (by simp [lk]) ⟨rfl, by omega, s9, m19, rfl, l, y9⟩ ?_
  rintro _ i h3 ⟨rfl, hi, s3, m13, m23, l3, y3⟩
  by_cases hib : i < b.length
  case neg =>
    obtain rfl : i = b.length := by omega
    have d3 : decide ((b.length : Int) < (b.length : Int)) = false := decide_eq_false (by omega)
    rw [m29] at m23
    refine qS ?_; repeat' (first | (with_reducible first | apply qH | apply qB) | ((first | (with_reducible apply qR) | (with_reducible first | apply qA | apply qP | apply qD | apply qE | apply qK) | ((with_reducible first | apply qQ | apply qI | apply qJ | apply qW | apply qX) <;> intro hb <;> (try simp only [hb]) <;> (try simp only [zF] at hb)) | with_reducible refine zW (id := 12) 15 17 zH xI zG xH mixed (by kernel_rfl) (by kernel_rfl) (by kernel_rfl) ?_ ?_ | with_reducible refine qO zS mixed (by kernel_rfl) ?_) <;> try simp only [qV, qF, qL, qN, qG, qC, qM, reduceIte, seval, Int.cast_ofNat_Int, qY, qZ, qU, zR, zT, zU, wG, zS, zH, zG, d3, xL, xT, vB, Shape.pl, List.all_cons, List.all_nil, zA]))
    refine zM m23 xG rfl (by decide) rfl rfl rfl fun h4 m4 f4 => ?_
    refine qS ?_; repeat' (first | (with_reducible first | apply qH | apply qB) | ((first | (with_reducible apply qR) | (with_reducible first | apply qA | apply qP | apply qD | apply qE | apply qK) | ((with_reducible first | apply qQ | apply qI | apply qJ | apply qW | apply qX) <;> intro hb <;> (try simp only [hb]) <;> (try simp only [zF] at hb)) | with_reducible refine zW (id := 12) 15 17 zH xI zG xH mixed (by kernel_rfl) (by kernel_rfl) (by kernel_rfl) ?_ ?_ | with_reducible refine qO zS mixed (by kernel_rfl) ?_) <;> try simp only [qV, qF, qL, qN, qG, qC, qM, reduceIte, seval, Int.cast_ofNat_Int, qY, qZ, qU, zR, zT, zU, wG, zS, zH, zG, zI m4 xG rfl]))
    exact ⟨rfl, s3.upd ((s0.trans s1).none_of n2) f4, .inr ⟨_, _, _, (y3.oth m23 rfl rfl f4 k2k k2j).upS fun id => sps1 M ck b id⟩⟩
  have d3 : decide ((i : Int) < (b.length : Int)) = true := decide_eq_true (by omega)
  have wi : IntKind.i64.wrap ((i : Int) + 1) = ((i + 1 : Nat) : Int) := by rw [wrap64 (by omega) (by omega)]; omega
  obtain ⟨y, hy⟩ : ∃ y, b[i]? = some y := ⟨_, List.getElem?_eq_getElem hib⟩
  obtain ⟨ad, cs2, g1, g2, a', n', c', b', m', d', rfl, q1, q2⟩ := (rl.bs s3).at (P := Try.prog) Try.underlying23 uQ hy
  have l1 : xM Try.prog 99 h3 (.pointer (some ad)) = some (.agg #[.slice a' n' c', .slice b' m' d']) := by simp only [xM, uQ, g2]; rfl
  refine qS ?_; repeat' (first | (with_reducible first | apply qH | apply qB) | ((first | (with_reducible apply qR) | (with_reducible first | apply qA | apply qP | apply qD | apply qE | apply qK) | ((with_reducible first | apply qQ | apply qI | apply qJ | apply qW | apply qX) <;> intro hb <;> (try simp only [hb]) <;> (try simp only [zF] at hb)) | with_reducible refine zW (id := 12) 15 17 zH xI zG xH mixed (by kernel_rfl) (by kernel_rfl) (by kernel_rfl) ?_ ?_ | with_reducible refine qO zS mixed (by kernel_rfl) ?_) <;> try simp only [qV, qF, qL, qN, qG, qC, qM, reduceIte, seval, Int.cast_ofNat_Int, qY, qZ, qU, zR, zT, zU, wG, zS, zH, zG, d3, g1, l1]))
  refine xW fun k10 h10 m10 s10 f10 n10 => ?_
  refine qS ?_; repeat' (first | (with_reducible first | apply qH | apply qB) | ((first | (with_reducible apply qR) | (with_reducible first | apply qA | apply qP | apply qD | apply qE | apply qK) | ((with_reducible first | apply qQ | apply qI | apply qJ | apply qW | apply qX) <;> intro hb <;> (try simp only [hb]) <;> (try simp only [zF] at hb)) | with_reducible refine zW (id := 12) 15 17 zH xI zG xH mixed (by kernel_rfl) (by kernel_rfl) (by kernel_rfl) ?_ ?_ | with_reducible refine qO zS mixed (by kernel_rfl) ?_) <;> try simp only [qV, qF, qL, qN, qG, qC, qM, reduceIte, seval, Int.cast_ofNat_Int, qY, qZ, qU, zR, zT, zU, wG, zS, zH, zG]))
  refine zM m10 uQ rfl (by decide) rfl rfl rfl fun h11 m11 f11 => ?_
  have s11 : HS h3 h11 := (HS.refl h3).upd n10 (fun j hj => (f11 j hj).trans (f10 j hj))
  have y11 := y3.hs s11
  have cv := (q1.hs s11).conv Try.underlying24 Try.underlying5 Try.underlying9
  have lk11 := y11.look y.1
  have hsl := sG y.1 (M.map (·.2)) 0
  rw [← x.tt] at hsl
  have hnl := mU M.length b y.1 i
  have hsn : (uZ 0 (M.map (·.2)) y.1 ++ yG M.length b i y.1).length ≤ 10000 := by rw [List.length_append]; omega
  have bi : vI b i = y := by simp [vI, hy]
  have hS1 : qS6 (uZ 0 (M.map (·.2)) y.1 ++ yG M.length b (i + 1) y.1) = qS6 (uZ 0 (M.map (·.2)) y.1 ++ yG M.length b i y.1) ++ [.int .i64 (M.length : Int)] ∧ (uZ 0 (M.map (·.2)) y.1 ++ yG M.length b (i + 1) y.1).length = (uZ 0 (M.map (·.2)) y.1 ++ yG M.length b i y.1).length + 1 := by
    simp only [yG, bi, if_true, ← List.append_assoc, epc_app, List.length_append]
    exact ⟨rfl, rfl⟩
  have hS2 : ∀ id, id ≠ y.1 → uZ 0 (M.map (·.2)) id ++ yG M.length b (i + 1) id = uZ 0 (M.map (·.2)) id ++ yG M.length b i id := fun id hid => by
    simp only [yG, bi, if_neg hid, List.append_nil]
  have fin3 : ∀ {h' h'' : GH} {v : Value} {l4 : List Value}, HS h11 h' → h'' (j + 1) = some ⟨MM :: jD (yT y.1) v l3, 0, true, false⟩ → (∀ i, i ≠ j + 1 → h'' i = h' i) → wX v = true → OWNC 1 H0 h' v ((uZ 0 (M.map (·.2)) y.1 ++ yG M.length b i y.1).length + 1) (qS6 (uZ 0 (M.map (·.2)) y.1 ++ yG M.length b i y.1) ++ [.int .i64 (M.length : Int)]) →
      HS h0 h'' ∧ h'' k1 = some ⟨[c0, c1, c2, c3, c4, c5, c6, c7, c8, .slice d b.length g], 0, true, false⟩ ∧ h'' k2 = h9 k2 ∧ ∃ l', IS h0 h'' k j p (.slice (some ax) (M.length + 1) cx) (cs ++ [.int .i64 ck, .slice ao b.length co]) l' (M ++ [(ck, b)]) ck (n + b.length) (fun id => uZ 0 (M.map (·.2)) id ++ yG M.length b (i + 1) id) := by
    intro h' h'' v l4 s m f hv o
    have t := s11.trans s
    refine ⟨(s3.trans t).upd x.nj f, (f _ k1j).trans (t _ _ m13), ?_, _, (y11.hs s).put y.1 m f hv (by rw [hS1.1, hS1.2]; exact o) hS2 (fun q => by have := hS1.2; rw [q] at this; simp at this)⟩
    rw [f _ k2j, m29]
    rw [m29] at m23
    exact t _ _ m23
  have ho11 := y11.obj
  refine qS ?_; repeat' (first | (with_reducible first | apply qH | apply qB) | ((first | (with_reducible apply qR) | (with_reducible first | apply qA | apply qP | apply qD | apply qE | apply qK) | ((with_reducible first | apply qQ | apply qI | apply qJ | apply qW | apply qX) <;> intro hb <;> (try simp only [hb]) <;> (try simp only [zF] at hb)) | with_reducible refine zW (id := 12) 15 17 zH xI zG xH mixed (by kernel_rfl) (by kernel_rfl) (by kernel_rfl) ?_ ?_ | with_reducible refine qO zS mixed (by kernel_rfl) ?_) <;> try simp only [qV, qF, qL, qN, qG, qC, qM, reduceIte, seval, Int.cast_ofNat_Int, qY, qZ, qU, zR, zT, zU, wG, zS, zH, zG, Bool.false_and, Bool.not_false, gNil, qT m11 wK, cv, qT ho11 pA, lk11, xL, xT, vB, Shape.pl, List.all_cons, List.all_nil, zA]))
  · refine (qG5 N (y11.sp y.1) (by omega) (qF4 _)).mono ?_
    rintro v12 h12 ⟨o12, s12'⟩
    have lk12 := (y11.hs s12').look y.1
    have cv12 := (q1.hs (s11.trans s12')).conv Try.underlying24 Try.underlying5 Try.underlying9
    refine qS ?_; repeat' (first | (with_reducible first | apply qH | apply qB) | ((first | (with_reducible apply qR) | (with_reducible first | apply qA | apply qP | apply qD | apply qE | apply qK) | ((with_reducible first | apply qQ | apply qI | apply qJ | apply qW | apply qX) <;> intro hb <;> (try simp only [hb]) <;> (try simp only [zF] at hb)) | with_reducible refine zW (id := 12) 15 17 zH xI zG xH mixed (by kernel_rfl) (by kernel_rfl) (by kernel_rfl) ?_ ?_ | with_reducible refine qO zS mixed (by kernel_rfl) ?_) <;> try simp only [qV, qF, qL, qN, qG, qC, qM, reduceIte, seval, Int.cast_ofNat_Int, qY, qZ, qU, zR, zT, zU, wG, zS, zH, zG, Bool.false_and, Bool.not_false, gNil, qT (s12' _ _ m11) wK, cv12, qT (s12' _ _ ho11) pA, lk12]))
    refine fH sW rfl rfl (by decide) (by decide) rfl fun k13 h13 b13 s13 f13 n13 => ?_
    have s1213 := s12'.trans s13
    have lk13 := (y11.hs s1213).look y.1
    have cv13 := (q1.hs (s11.trans s1213)).conv Try.underlying24 Try.underlying5 Try.underlying9
    refine qS ?_; repeat' (first | (with_reducible first | apply qH | apply qB) | ((first | (with_reducible apply qR) | (with_reducible first | apply qA | apply qP | apply qD | apply qE | apply qK) | ((with_reducible first | apply qQ | apply qI | apply qJ | apply qW | apply qX) <;> intro hb <;> (try simp only [hb]) <;> (try simp only [zF] at hb)) | with_reducible refine zW (id := 12) 15 17 zH xI zG xH mixed (by kernel_rfl) (by kernel_rfl) (by kernel_rfl) ?_ ?_ | with_reducible refine qO zS mixed (by kernel_rfl) ?_) <;> try simp only [qV, qF, qL, qN, qG, qC, qM, reduceIte, seval, Int.cast_ofNat_Int, qY, qZ, qU, zR, zT, zU, wG, zS, zH, zG, Bool.false_and, Bool.not_false, gNil, qT (s1213 _ _ m11) wK, cv13, qT (s1213 _ _ ho11) pA, lk13]))
    refine wJ sW Try.underlying83 rfl s1213 (o12.hs s13) b13 rfl rfl (by omega) (by simp only [maxLen]; omega) fun v14 h14 s14 fr14 o14 => ?_
    obtain ⟨a14, c14, rfl⟩ := o14.form
    have lk14 := (y11.hs s14).look y.1
    have cv14 := (q1.hs (s11.trans s14)).conv Try.underlying24 Try.underlying5 Try.underlying9
    refine qS ?_; repeat' (first | (with_reducible first | apply qH | apply qB) | ((first | (with_reducible apply qR) | (with_reducible first | apply qA | apply qP | apply qD | apply qE | apply qK) | ((with_reducible first | apply qQ | apply qI | apply qJ | apply qW | apply qX) <;> intro hb <;> (try simp only [hb]) <;> (try simp only [zF] at hb)) | with_reducible refine zW (id := 12) 15 17 zH xI zG xH mixed (by kernel_rfl) (by kernel_rfl) (by kernel_rfl) ?_ ?_ | with_reducible refine qO zS mixed (by kernel_rfl) ?_) <;> try simp only [qV, qF, qL, qN, qG, qC, qM, reduceIte, seval, Int.cast_ofNat_Int, qY, qZ, qU, zR, zT, zU, wG, zS, zH, zG, Bool.false_and, Bool.not_false, gNil, qT (s14 _ _ m11) wK, cv14, qT (s14 _ _ ho11) pA, lk14]))
    refine qY1 (y11.hs s14).mp y11.ok sm89 fun h15 m15 f15 => ?_
    refine qS ?_; repeat' (first | (with_reducible first | apply qH | apply qB) | ((first | (with_reducible apply qR) | (with_reducible first | apply qA | apply qP | apply qD | apply qE | apply qK) | ((with_reducible first | apply qQ | apply qI | apply qJ | apply qW | apply qX) <;> intro hb <;> (try simp only [hb]) <;> (try simp only [zF] at hb)) | with_reducible refine zW (id := 12) 15 17 zH xI zG xH mixed (by kernel_rfl) (by kernel_rfl) (by kernel_rfl) ?_ ?_ | with_reducible refine qO zS mixed (by kernel_rfl) ?_) <;> try simp only [qV, qF, qL, qN, qG, qC, qM, reduceIte, seval, Int.cast_ofNat_Int, qY, qZ, qU, zR, zT, zU, wG, zS, zH, zG, wi]))
    refine ⟨_, i + 1, ?_, (by simp only [List.forall_mem_cons, List.not_mem_nil, false_implies, implies_true, List.map, List.cons_append, List.nil_append, lk, Nat.reduceEqDiff, reduceIte, and_true, true_and]), rfl, by omega, fin3 (l4 := []) s14 m15 f15 rfl (o14.weak (H0.hs _))⟩
    omega
  · refine fH sW rfl rfl (by decide) (by decide) rfl fun k12 h12 b12 s12' f12 n12 => ?_
    have lk12 := (y11.hs s12').look y.1
    have cv12 := (q1.hs (s11.trans s12')).conv Try.underlying24 Try.underlying5 Try.underlying9
    refine qS ?_; repeat' (first | (with_reducible first | apply qH | apply qB) | ((first | (with_reducible apply qR) | (with_reducible first | apply qA | apply qP | apply qD | apply qE | apply qK) | ((with_reducible first | apply qQ | apply qI | apply qJ | apply qW | apply qX) <;> intro hb <;> (try simp only [hb]) <;> (try simp only [zF] at hb)) | with_reducible refine zW (id := 12) 15 17 zH xI zG xH mixed (by kernel_rfl) (by kernel_rfl) (by kernel_rfl) ?_ ?_ | with_reducible refine qO zS mixed (by kernel_rfl) ?_) <;> try simp only [qV, qF, qL, qN, qG, qC, qM, reduceIte, seval, Int.cast_ofNat_Int, qY, qZ, qU, zR, zT, zU, wG, zS, zH, zG, Bool.false_and, Bool.not_false, gNil, qT (s12' _ _ m11) wK, cv12, qT (s12' _ _ ho11) pA, lk12]))
    refine (qG5 N ((y11.hs s12').sp y.1) (by omega) (qF4 _)).mono ?_
    rintro v13 h13 ⟨o13, s13⟩
    have s1213 := s12'.trans s13
    have lk13 := (y11.hs s1213).look y.1
    have cv13 := (q1.hs (s11.trans s1213)).conv Try.underlying24 Try.underlying5 Try.underlying9
    refine qS ?_; repeat' (first | (with_reducible first | apply qH | apply qB) | ((first | (with_reducible apply qR) | (with_reducible first | apply qA | apply qP | apply qD | apply qE | apply qK) | ((with_reducible first | apply qQ | apply qI | apply qJ | apply qW | apply qX) <;> intro hb <;> (try simp only [hb]) <;> (try simp only [zF] at hb)) | with_reducible refine zW (id := 12) 15 17 zH xI zG xH mixed (by kernel_rfl) (by kernel_rfl) (by kernel_rfl) ?_ ?_ | with_reducible refine qO zS mixed (by kernel_rfl) ?_) <;> try simp only [qV, qF, qL, qN, qG, qC, qM, reduceIte, seval, Int.cast_ofNat_Int, qY, qZ, qU, zR, zT, zU, wG, zS, zH, zG, Bool.false_and, Bool.not_false, gNil, qT (s1213 _ _ m11) wK, cv13, qT (s1213 _ _ ho11) pA, lk13]))
    refine wJ sW Try.underlying83 rfl s1213 (o13.weak s12') (gSrc_hs s13 b12) rfl rfl (by omega) (by simp only [maxLen]; omega) fun v14 h14 s14 fr14 o14 => ?_
    obtain ⟨a14, c14, rfl⟩ := o14.form
    have lk14 := (y11.hs s14).look y.1
    have cv14 := (q1.hs (s11.trans s14)).conv Try.underlying24 Try.underlying5 Try.underlying9
    refine qS ?_; repeat' (first | (with_reducible first | apply qH | apply qB) | ((first | (with_reducible apply qR) | (with_reducible first | apply qA | apply qP | apply qD | apply qE | apply qK) | ((with_reducible first | apply qQ | apply qI | apply qJ | apply qW | apply qX) <;> intro hb <;> (try simp only [hb]) <;> (try simp only [zF] at hb)) | with_reducible refine zW (id := 12) 15 17 zH xI zG xH mixed (by kernel_rfl) (by kernel_rfl) (by kernel_rfl) ?_ ?_ | with_reducible refine qO zS mixed (by kernel_rfl) ?_) <;> try simp only [qV, qF, qL, qN, qG, qC, qM, reduceIte, seval, Int.cast_ofNat_Int, qY, qZ, qU, zR, zT, zU, wG, zS, zH, zG, Bool.false_and, Bool.not_false, gNil, qT (s14 _ _ m11) wK, cv14, qT (s14 _ _ ho11) pA, lk14]))
    refine qY1 (y11.hs s14).mp y11.ok sm89 fun h15 m15 f15 => ?_
    refine qS ?_; repeat' (first | (with_reducible first | apply qH | apply qB) | ((first | (with_reducible apply qR) | (with_reducible first | apply qA | apply qP | apply qD | apply qE | apply qK) | ((with_reducible first | apply qQ | apply qI | apply qJ | apply qW | apply qX) <;> intro hb <;> (try simp only [hb]) <;> (try simp only [zF] at hb)) | with_reducible refine zW (id := 12) 15 17 zH xI zG xH mixed (by kernel_rfl) (by kernel_rfl) (by kernel_rfl) ?_ ?_ | with_reducible refine qO zS mixed (by kernel_rfl) ?_) <;> try simp only [qV, qF, qL, qN, qG, qC, qM, reduceIte, seval, Int.cast_ofNat_Int, qY, qZ, qU, zR, zT, zU, wG, zS, zH, zG, wi]))
    refine ⟨_, i + 1, ?_, (by simp only [List.forall_mem_cons, List.not_mem_nil, false_implies, implies_true, List.map, List.cons_append, List.nil_append, lk, Nat.reduceEqDiff, reduceIte, and_true, true_and]), rfl, by omega, fin3 (l4 := []) s14 m15 f15 rfl (o14.weak (H0.hs _))⟩
    omega
end Go.Gh
namespace Go.Gh
open Go Go.Proofs Go.RowKit Go.Shelf Go.Sort
set_option linter.unusedVariables false
set_option linter.unusedSimpArgs false
set_option maxRecDepth 100000
def qI2 : Ren where
  f := fun x => match x with
    | 6 => 111
    | 15 => 99
    | 14 => 136
    | 28 => 129
    | 29 => 130
    | 20 => 148
    | 21 => 149
    | 22 => 150
    | 23 => 151
    | 24 => 152
    | 25 => 153
    | 26 => 154
    | 27 => 155
    | 46 => 158
    | 47 => 140
    | 48 => 141
    | 49 => 159
    | 50 => 160
    | 57 => 161
    | n => n
  t := fun x => match x with
    | 22 => 68
    | 24 => 97
    | 25 => 157
    | 3 => 3
    | 39 => 56
    | 0 => 0
    | 53 => 171
    | 55 => 173
    | 4 => 4
    | 46 => 165
    | 45 => 164
    | 50 => 141
    | 5 => 5
    | 9 => 9
    | 66 => 181
    | 70 => 185
    | 76 => 193
    | 77 => 194
    | n => n
  g := fun n => n
theorem qB5 : SlLaysF0.n6 Try.prog qI2 where
  mixed := by kernel_rfl
  f6 := ⟨"slices.SortFunc[[]annals/api.Item,annals/api.Item]", by decide, Eq.trans Try.func111 (by kernel_rfl)⟩
  f14 := ⟨"slices.pdqsortCmpFunc[annals/api.Item]", by decide, Eq.trans Try.func136 (by kernel_rfl)⟩
  f15 := Eq.trans Try.func99 (by kernel_rfl)
  f20 := ⟨"slices.insertionSortCmpFunc[annals/api.Item]", by decide, Eq.trans Try.func148 (by kernel_rfl)⟩
  f21 := ⟨"slices.heapSortCmpFunc[annals/api.Item]", by decide, Eq.trans Try.func149 (by kernel_rfl)⟩
  f22 := ⟨"slices.breakPatternsCmpFunc[annals/api.Item]", by decide, Eq.trans Try.func150 (by kernel_rfl)⟩
  f23 := ⟨"slices.choosePivotCmpFunc[annals/api.Item]", by decide, Eq.trans Try.func151 (by kernel_rfl)⟩
  f24 := ⟨"slices.reverseRangeCmpFunc[annals/api.Item]", by decide, Eq.trans Try.func152 (by kernel_rfl)⟩
  f25 := ⟨"slices.partialInsertionSortCmpFunc[annals/api.Item]", by decide, Eq.trans Try.func153 (by kernel_rfl)⟩
  f26 := ⟨"slices.partitionEqualCmpFunc[annals/api.Item]", by decide, Eq.trans Try.func154 (by kernel_rfl)⟩
  f27 := ⟨"slices.partitionCmpFunc[annals/api.Item]", by decide, Eq.trans Try.func155 (by kernel_rfl)⟩
  f28 := Eq.trans Try.func129 (by kernel_rfl)
  f29 := Eq.trans Try.func130 (by kernel_rfl)
  f46 := ⟨"slices.siftDownCmpFunc[annals/api.Item]", by decide, Eq.trans Try.func158 (by kernel_rfl)⟩
  f47 := Eq.trans Try.func140 (by kernel_rfl)
  f48 := Eq.trans Try.func141 (by kernel_rfl)
  f49 := ⟨"slices.medianAdjacentCmpFunc[annals/api.Item]", by decide, Eq.trans Try.func159 (by kernel_rfl)⟩
  f50 := ⟨"slices.medianCmpFunc[annals/api.Item]", by decide, Eq.trans Try.func160 (by kernel_rfl)⟩
  f57 := ⟨"slices.order2CmpFunc[annals/api.Item]", by decide, Eq.trans Try.func161 (by kernel_rfl)⟩
  t0 := Try.underlying0
  a0 := Try.isAgg0
  z0 := Try.sizeOf0
  v0 := Try.zeroValue0
  t3 := Try.underlying3
  a3 := Try.isAgg3
  z3 := Try.sizeOf3
  v3 := Try.zeroValue3
  t4 := Try.underlying4
  a4 := Try.isAgg4
  z4 := Try.sizeOf4
  v4 := Try.zeroValue4
  t5 := Try.underlying5
  a5 := Try.isAgg5
  z5 := Try.sizeOf5
  v5 := Try.zeroValue5
  t9 := Try.underlying9
  a9 := Try.isAgg9
  z9 := Try.sizeOf9
  v9 := Try.zeroValue9
  t22 := Try.underlying68
  a22 := Try.isAgg68
  z22 := Try.sizeOf68
  v22 := Try.zeroValue68
  t25 := Try.underlying157
  a25 := Try.isAgg157
  z25 := Try.sizeOf157
  v25 := Try.zeroValue157
  t39 := Try.underlying56
  a39 := Try.isAgg56
  z39 := Try.sizeOf56
  v39 := Try.zeroValue56
  t45 := Try.underlying164
  a45 := Try.isAgg164
  z45 := Try.sizeOf164
  v45 := Try.zeroValue164
  t46 := Try.underlying165
  a46 := Try.isAgg165
  z46 := Try.sizeOf165
  v46 := Try.zeroValue165
  t50 := Try.underlying141
  a50 := Try.isAgg141
  z50 := Try.sizeOf141
  v50 := Try.zeroValue141
  t53 := Try.underlying171
  a53 := Try.isAgg171
  z53 := Try.sizeOf171
  v53 := Try.zeroValue171
  t55 := Try.underlying173
  a55 := Try.isAgg173
  z55 := Try.sizeOf173
  v55 := Try.zeroValue173
  t66 := Try.underlying181
  a66 := Try.isAgg181
  z66 := Try.sizeOf181
  v66 := Try.zeroValue181
  t70 := Try.underlying185
  a70 := Try.isAgg185
  z70 := Try.sizeOf185
  v70 := Try.zeroValue185
  t76 := Try.underlying193
  a76 := Try.isAgg193
  z76 := Try.sizeOf193
  v76 := Try.zeroValue193
  t77 := Try.underlying194
  a77 := Try.isAgg194
  z77 := Try.sizeOf194
  v77 := Try.zeroValue194
end Go.Gh
namespace Go.Gh
open Go Go.Proofs Go.RowKit
set_option linter.unusedVariables false
set_option linter.unusedSimpArgs false
set_option maxRecDepth 100000
theorem dR : type_of% (And.intro wN (And.intro wZ (And.intro jV (And.intro lU rs144)))) := And.intro wN (And.intro wZ (And.intro jV (And.intro lU rs144)))
theorem wH : type_of% (And.intro wN (And.intro ty47 (And.intro wZ (And.intro jV (And.intro lU rs132))))) := And.intro wN (And.intro ty47 (And.intro wZ (And.intro jV (And.intro lU rs132))))
theorem c_Grow (N : Nat) (h : GH) (s : Nat) (hs : s ≤ 140737488355328) : GTri Try.prog N 144 [.slice none 0 0, .int .i64 s] h fun v h' => HS h h' ∧ ((s = 0 ∧ v = .slice none 0 0) ∨ (0 < s ∧ ∃ k, v = .slice (some ⟨k, 0, none⟩) 0 (2 * s) ∧ h k = none ∧ BUF h' k s [])) := by
  have w1 : IntKind.i64.wrap ((s : Int) - 0) = s := by rw [Int.sub_zero]; exact qN8 (by omega)
  refine wQ Try.func144 rfl gf144 ok144 (by simp [Try.ntmps144]) ?_
  by_cases h0 : s = 0
  · subst h0
    repeat' (first | (with_reducible first | apply qH | apply qB) | ((first | (with_reducible first | apply qA | apply qP | apply qD | apply qE | apply qK) | ((with_reducible first | apply qQ | apply qI | apply qJ) <;> intro hb <;> (try simp only [hb]))) <;> try simp only [qV, qF, qL, qN, qG, qC, qM, reduceIte, seval, Int.cast_ofNat_Int, qY, qZ, dR, qQ3]))
    exact ⟨HS.refl h, .inl trivial⟩
  · have d0 : decide ((s : Int) > 0) = true := decide_eq_true (by omega)
    repeat' (first | (with_reducible first | apply qH | apply qB) | ((first | (with_reducible first | apply qA | apply qP | apply qD | apply qE | apply qK) | ((with_reducible first | apply qQ | apply qI | apply qJ) <;> intro hb <;> (try simp only [hb]))) <;> try simp only [qV, qF, qL, qN, qG, qC, qM, reduceIte, seval, Int.cast_ofNat_Int, qY, qZ, dR, qQ3, qM9, d0, w1, qU8 Try.underlying24 sz5]))
    refine qG8 fG Try.underlying3 (by omega) hs fun k h' hb hS hk => ?_
    simp only [qV, qF, qL, qN, qG, qC, qM, reduceIte, seval, Int.cast_ofNat_Int, qY, qZ, dR, qP1 Try.underlying24 sz5]
    repeat' (first | (with_reducible first | apply qH | apply qB) | ((first | (with_reducible first | apply qA | apply qP | apply qD | apply qE | apply qK) | ((with_reducible first | apply qQ | apply qI | apply qJ) <;> intro hb <;> (try simp only [hb]))) <;> try simp only [qV, qF, qL, qN, qG, qC, qM, reduceIte, seval, Int.cast_ofNat_Int, qY, qZ, dR]))
    exact ⟨hS, .inr ⟨by omega, k, rfl, hk, hb⟩⟩
theorem zE8 (N : Nat) (h : GH) {k es : Nat} {wr tl : Bool} {a b : Option Addr} {n m c d : Nat} {l1 l2 : List UInt8} (hk : h k = some ⟨[.slice a n c, .slice b m d], es, wr, tl⟩) (r1 : RB h (.slice a n c) l1) (r2 : RB h (.slice b m d) l2) (hn : n = l1.length) (hm : m = l2.length)
    (hs : l1.length + l2.length ≤ 140737488355328) : GTri Try.prog N 132 [.slice (some ⟨k, 0, none⟩) 2 5] h fun v h' => HS h h' ∧ ∃ a' c', v = .slice a' (l1.length + l2.length) c' ∧ RB h' v (l1 ++ l2) ∧ AP h h' v 1 := by
  subst hn; subst hm
  have w1 : IntKind.i64.wrap (0 + (l1.length : Int)) = l1.length := by rw [Int.zero_add]; exact qN8 (by omega)
  have w2 : IntKind.i64.wrap ((l1.length : Int) + (l2.length : Int)) = ((l1.length + l2.length : Nat) : Int) := wrap_add (by omega)
  have i0 : jN Try.prog 47 (.slice (some ⟨k, 0, none⟩) 2 5) 0 = some (.pointer (some ⟨k, 0, none⟩)) := by simp [jN, Try.underlying47, wK]
  have i1 : jN Try.prog 47 (.slice (some ⟨k, 0, none⟩) 2 5) 1 = some (.pointer (some ⟨k, 1, none⟩)) := by simp [jN, Try.underlying47, wK]
  refine wQ Try.func132 rfl gf132 ok132 (by simp [Try.ntmps132]) ?_
  repeat' (first | (with_reducible first | apply qH | apply qB) | ((first | (with_reducible first | apply qA | apply qP | apply qD | apply qE | apply qK) | ((with_reducible first | apply qQ | apply qI | apply qJ) <;> intro hb <;> (try simp only [hb]))) <;> try simp only [qV, qF, qL, qN, qG, qC, qM, reduceIte, seval, Int.cast_ofNat_Int, qY, qZ, wH]))
  refine sK (jL ?_)
  repeat' (first | (with_reducible first | apply qH | apply qB) | ((first | (with_reducible first | apply qA | apply qP | apply qD | apply qE | apply qK) | ((with_reducible first | apply qQ | apply qI | apply qJ) <;> intro hb <;> (try simp only [hb]))) <;> try simp only [qV, qF, qL, qN, qG, qC, qM, reduceIte, seval, Int.cast_ofNat_Int, qY, qZ, wH, i0, qT hk wK, w1, qM9]))
  refine jL ?_
  repeat' (first | (with_reducible first | apply qH | apply qB) | ((first | (with_reducible first | apply qA | apply qP | apply qD | apply qE | apply qK) | ((with_reducible first | apply qQ | apply qI | apply qJ) <;> intro hb <;> (try simp only [hb]))) <;> try simp only [qV, qF, qL, qN, qG, qC, qM, reduceIte, seval, Int.cast_ofNat_Int, qY, qZ, wH, i1, qT hk wK, w2, qM9]))
  refine jL ?_
  repeat' (first | (with_reducible first | apply qH | apply qB) | ((first | (with_reducible first | apply qA | apply qP | apply qD | apply qE | apply qK) | ((with_reducible first | apply qQ | apply qI | apply qJ) <;> intro hb <;> (try simp only [hb]))) <;> try simp only [qV, qF, qL, qN, qG, qC, qM, reduceIte, seval, Int.cast_ofNat_Int, qY, qZ, wH]))
  refine (c_Grow N h (l1.length + l2.length) hs).mono ?_
  rintro v h1 ⟨s1, hv⟩
  have r1' := r1.hs s1
  have r2' := r2.hs s1
  have hk1 := s1 _ _ hk
  rcases hv with ⟨h0, rfl⟩ | ⟨h0, kb, rfl, hkb, hb⟩
  · have e1 : l1 = [] := List.eq_nil_of_length_eq_zero (by omega)
    have e2 : l2 = [] := List.eq_nil_of_length_eq_zero (by omega)
    subst e1; subst e2
    simp only [qV, qF, qL, qN, qG, qC, qM, reduceIte, seval, Int.cast_ofNat_Int, qY, qZ, wH]
    repeat' (first | (with_reducible first | apply qH | apply qB) | ((first | (with_reducible first | apply qA | apply qP | apply qD | apply qE | apply qK) | ((with_reducible first | apply qQ | apply qI | apply qJ) <;> intro hb <;> (try simp only [hb]))) <;> try simp only [qV, qF, qL, qN, qG, qC, qM, reduceIte, seval, Int.cast_ofNat_Int, qY, qZ, wH]))
    refine sK (jL ?_)
    repeat' (first | (with_reducible first | apply qH | apply qB) | ((first | (with_reducible first | apply qA | apply qP | apply qD | apply qE | apply qK) | ((with_reducible first | apply qQ | apply qI | apply qJ) <;> intro hb <;> (try simp only [hb]))) <;> try simp only [qV, qF, qL, qN, qG, qC, qM, reduceIte, seval, Int.cast_ofNat_Int, qY, qZ, wH, i0, qT hk1 wK]))
    refine qA1 fG Try.underlying24 rfl r1'.src ?_
    simp only [qV, qF, qL, qN, qG, qC, qM, reduceIte, seval, Int.cast_ofNat_Int, qY, qZ, wH]
    repeat' (first | (with_reducible first | apply qH | apply qB) | ((first | (with_reducible first | apply qA | apply qP | apply qD | apply qE | apply qK) | ((with_reducible first | apply qQ | apply qI | apply qJ) <;> intro hb <;> (try simp only [hb]))) <;> try simp only [qV, qF, qL, qN, qG, qC, qM, reduceIte, seval, Int.cast_ofNat_Int, qY, qZ, wH]))
    refine jL ?_
    repeat' (first | (with_reducible first | apply qH | apply qB) | ((first | (with_reducible first | apply qA | apply qP | apply qD | apply qE | apply qK) | ((with_reducible first | apply qQ | apply qI | apply qJ) <;> intro hb <;> (try simp only [hb]))) <;> try simp only [qV, qF, qL, qN, qG, qC, qM, reduceIte, seval, Int.cast_ofNat_Int, qY, qZ, wH, i1, qT hk1 wK]))
    refine qA1 fG Try.underlying24 rfl r2'.src ?_
    simp only [qV, qF, qL, qN, qG, qC, qM, reduceIte, seval, Int.cast_ofNat_Int, qY, qZ, wH]
    repeat' (first | (with_reducible first | apply qH | apply qB) | ((first | (with_reducible first | apply qA | apply qP | apply qD | apply qE | apply qK) | ((with_reducible first | apply qQ | apply qI | apply qJ) <;> intro hb <;> (try simp only [hb]))) <;> try simp only [qV, qF, qL, qN, qG, qC, qM, reduceIte, seval, Int.cast_ofNat_Int, qY, qZ, wH]))
    refine jL ?_
    repeat' (first | (with_reducible first | apply qH | apply qB) | ((first | (with_reducible first | apply qA | apply qP | apply qD | apply qE | apply qK) | ((with_reducible first | apply qQ | apply qI | apply qJ) <;> intro hb <;> (try simp only [hb]))) <;> try simp only [qV, qF, qL, qN, qG, qC, qM, reduceIte, seval, Int.cast_ofNat_Int, qY, qZ, wH]))
    exact ⟨s1, none, 0, rfl, .inl ⟨0, rfl, rfl⟩, .inl ⟨0, rfl⟩⟩
  · simp only [qV, qF, qL, qN, qG, qC, qM, reduceIte, seval, Int.cast_ofNat_Int, qY, qZ, wH]
    repeat' (first | (with_reducible first | apply qH | apply qB) | ((first | (with_reducible first | apply qA | apply qP | apply qD | apply qE | apply qK) | ((with_reducible first | apply qQ | apply qI | apply qJ) <;> intro hb <;> (try simp only [hb]))) <;> try simp only [qV, qF, qL, qN, qG, qC, qM, reduceIte, seval, Int.cast_ofNat_Int, qY, qZ, wH]))
    refine sK (jL ?_)
    repeat' (first | (with_reducible first | apply qH | apply qB) | ((first | (with_reducible first | apply qA | apply qP | apply qD | apply qE | apply qK) | ((with_reducible first | apply qQ | apply qI | apply qJ) <;> intro hb <;> (try simp only [hb]))) <;> try simp only [qV, qF, qL, qN, qG, qC, qM, reduceIte, seval, Int.cast_ofNat_Int, qY, qZ, wH, i0, qT hk1 wK]))
    refine qG9 fG Try.underlying24 rfl hb rfl r1'.src (by simp) (by omega) fun h2 hb2 f2 => ?_
    have s2 := s1.upd hkb f2
    have r2'' := r2.hs s2
    have hk2 := s2 _ _ hk
    simp only [qV, qF, qL, qN, qG, qC, qM, reduceIte, seval, Int.cast_ofNat_Int, qY, qZ, wH, List.nil_append]
    repeat' (first | (with_reducible first | apply qH | apply qB) | ((first | (with_reducible first | apply qA | apply qP | apply qD | apply qE | apply qK) | ((with_reducible first | apply qQ | apply qI | apply qJ) <;> intro hb <;> (try simp only [hb]))) <;> try simp only [qV, qF, qL, qN, qG, qC, qM, reduceIte, seval, Int.cast_ofNat_Int, qY, qZ, wH]))
    refine jL ?_
    repeat' (first | (with_reducible first | apply qH | apply qB) | ((first | (with_reducible first | apply qA | apply qP | apply qD | apply qE | apply qK) | ((with_reducible first | apply qQ | apply qI | apply qJ) <;> intro hb <;> (try simp only [hb]))) <;> try simp only [qV, qF, qL, qN, qG, qC, qM, reduceIte, seval, Int.cast_ofNat_Int, qY, qZ, wH, i1, qT hk2 wK]))
    refine qG9 fG Try.underlying24 rfl hb2 (by simp) r2''.src (by simp) (by omega) fun h3 hb3 f3 => ?_
    have s3 := s2.upd hkb f3
    simp only [qV, qF, qL, qN, qG, qC, qM, reduceIte, seval, Int.cast_ofNat_Int, qY, qZ, wH, List.nil_append]
    repeat' (first | (with_reducible first | apply qH | apply qB) | ((first | (with_reducible first | apply qA | apply qP | apply qD | apply qE | apply qK) | ((with_reducible first | apply qQ | apply qI | apply qJ) <;> intro hb <;> (try simp only [hb]))) <;> try simp only [qV, qF, qL, qN, qG, qC, qM, reduceIte, seval, Int.cast_ofNat_Int, qY, qZ, wH]))
    refine jL ?_
    repeat' (first | (with_reducible first | apply qH | apply qB) | ((first | (with_reducible first | apply qA | apply qP | apply qD | apply qE | apply qK) | ((with_reducible first | apply qQ | apply qI | apply qJ) <;> intro hb <;> (try simp only [hb]))) <;> try simp only [qV, qF, qL, qN, qG, qC, qM, reduceIte, seval, Int.cast_ofNat_Int, qY, qZ, wH]))
    rw [List.nil_append] at hb3
    have hr := hb3.rb
    have ha := hb3.ap (h0 := h) (by simp) hkb
    rw [List.length_append] at hr ha
    rw [Nat.zero_add]
    exact ⟨s3, _, _, rfl, hr, ha⟩
theorem fC : type_of% (And.intro zA3 (And.intro wN (And.intro ty47 (And.intro wZ (And.intro jV rs101))))) := And.intro zA3 (And.intro wN (And.intro ty47 (And.intro wZ (And.intro jV rs101))))
theorem rY : type_of% (And.intro zA3 (And.intro wN (And.intro wZ (And.intro jV rs64)))) := And.intro zA3 (And.intro wN (And.intro wZ (And.intro jV rs64)))
def jF (l : List UInt8) : List UInt8 := UInt8.ofNat (min l.length 255) :: l.take 255
theorem qL0 (l : List UInt8) : [UInt8.ofNat (min l.length 255)] ++ l.take (min l.length 255) = jF l := by
  have : l.take (min l.length 255) = l.take 255 := by
    rw [List.take_eq_take_iff]; omega
  rw [this]; rfl
theorem c_Key (N : Nat) (h : GH) {a : Option Addr} {n c : Nat} {l : List UInt8} (r : RB h (.slice a n c) l) (hn : n = l.length) : GTri Try.prog N 101 [.slice a n c] h fun v h' => HS h h' ∧ ∃ a' c', v = .slice a' (jF l).length c' ∧ RB h' v (jF l) ∧ AP h h' v 1 := by
  subst hn
  refine wQ Try.func101 rfl gf101 ok101 (by simp [Try.ntmps101]) ?_
  have mn : (if (255 : Int) < (l.length : Int) then (255 : Int) else (l.length : Int)) = ((min l.length 255 : Nat) : Int) := min_if _ 255
  obtain ⟨a1, c1, q1, r1, _⟩ := r.cut Try.underlying24 sz5 (hi := ((min l.length 255 : Nat) : Int)) (by omega) (by omega) .i64
  rw [Int.toNat_natCast] at q1 r1
  have w1 : IntKind.u8.wrap ((min l.length 255 : Nat) : Int) = ((min l.length 255 : Nat) : Int) := qT0 (by omega) (by omega)
  repeat' (first | (with_reducible first | apply qH | apply qB) | ((first | (with_reducible first | apply qA | apply qP | apply qD | apply qE | apply qK) | ((with_reducible first | apply qQ | apply qI | apply qJ) <;> intro hb <;> (try simp only [hb]))) <;> try simp only [qV, qF, qL, qN, qG, qC, qM, reduceIte, seval, Int.cast_ofNat_Int, qY, qZ, fC, mn, q1, w1]))
  refine bs_g (cs := [.int .u8 ((min l.length 255 : Nat) : Int)]) fG rfl (by decide) (by decide) (by rw [tX _ rfl]; rfl) rfl fun k1 h1 m1 s1 f1 n1 => ?_
  simp only [qV, qF, qL, qN, qG, qC, qM, reduceIte, seval, Int.cast_ofNat_Int, qY, qZ, fC]
  refine bs_g (cs := [.slice (some ⟨k1, 0, none⟩) 1 3, .slice a1 (min l.length 255) c1]) el47 rfl (by decide) (by decide) (by rw [tX _ rfl]; rfl) rfl fun k2 h2 m2 s2 f2 n2 => ?_
  simp only [qV, qF, qL, qN, qG, qC, qM, reduceIte, seval, Int.cast_ofNat_Int, qY, qZ, fC]
  have b1 : RB h1 (.slice (some ⟨k1, 0, none⟩) 1 3) [UInt8.ofNat (min l.length 255)] := by
    rw [bv_nat _ (by omega)] at m1
    exact pQ (l := [UInt8.ofNat (min l.length 255)]) m1 rfl
  refine (zE8 N h2 m2 (b1.hs s2) (r1.hs (s1.trans s2)) rfl (by simp) (by simp; omega)).mono ?_
  rintro v h3 ⟨s3, a', c', rfl, hr, ha⟩
  simp only [qV, qF, qL, qN, qG, qC, qM, reduceIte, seval, Int.cast_ofNat_Int, qY, qZ, fC]
  repeat' (first | (with_reducible first | apply qH | apply qB) | ((first | (with_reducible first | apply qA | apply qP | apply qD | apply qE | apply qK) | ((with_reducible first | apply qQ | apply qI | apply qJ) <;> intro hb <;> (try simp only [hb]))) <;> try simp only [qV, qF, qL, qN, qG, qC, qM, reduceIte, seval, Int.cast_ofNat_Int, qY, qZ, fC]))
  rw [qL0] at hr
  have e : [UInt8.ofNat (min l.length 255)].length + (l.take (min l.length 255)).length = (jF l).length := by rw [← qL0, List.length_append]
  rw [e] at hr ha
  refine ⟨(s1.trans s2).trans s3, a', c', ?_, ?_, ?_⟩
  · rw [← e]; rfl
  · show RB _ (.slice a' ([UInt8.ofNat (min l.length 255)].length + (l.take (min l.length 255)).length) c') _
    rw [e]; exact hr
  · show AP _ _ (.slice a' ([UInt8.ofNat (min l.length 255)].length + (l.take (min l.length 255)).length) c') _
    rw [e]; exact ha.weak (s1.trans s2)
theorem c_rKey (N : Nat) (h : GH) {a : Option Addr} {n c : Nat} {l : List UInt8} (r : RB h (.slice a n c) l) (hn : n = l.length) : GTri Try.prog N 64 [.slice a n c] h fun v h' => HS h h' ∧ ∃ a' c', v = .slice a' (jF l).length c' ∧ RB h' v (jF l) ∧ AP h h' v 1 := by
  subst hn
  refine wQ Try.func64 rfl gf64 ok64 (by simp [Try.ntmps64]) ?_
  have mn : (if (255 : Int) < (l.length : Int) then (255 : Int) else (l.length : Int)) = ((min l.length 255 : Nat) : Int) := min_if _ 255
  obtain ⟨a1, c1, q1, r1, _⟩ := r.cut Try.underlying24 sz5 (hi := ((min l.length 255 : Nat) : Int)) (by omega) (by omega) .i64
  rw [Int.toNat_natCast] at q1 r1
  have w1 : IntKind.u8.wrap ((min l.length 255 : Nat) : Int) = ((min l.length 255 : Nat) : Int) := qT0 (by omega) (by omega)
  repeat' (first | (with_reducible first | apply qH | apply qB) | ((first | (with_reducible first | apply qA | apply qP | apply qD | apply qE | apply qK) | ((with_reducible first | apply qQ | apply qI | apply qJ) <;> intro hb <;> (try simp only [hb]))) <;> try simp only [qV, qF, qL, qN, qG, qC, qM, reduceIte, seval, Int.cast_ofNat_Int, qY, qZ, rY, mn, w1]))
  refine bs_g (cs := [.int .u8 ((min l.length 255 : Nat) : Int)]) fG rfl (by decide) (by decide) (by rw [tX _ rfl]; rfl) rfl fun k1 h1 m1 s1 f1 n1 => ?_
  obtain ⟨a1, c1, q1, r1, _⟩ := (r.hs s1).cut Try.underlying24 sz5 (hi := ((min l.length 255 : Nat) : Int)) (by omega) (by omega) .i64
  rw [Int.toNat_natCast] at q1 r1
  simp only [qV, qF, qL, qN, qG, qC, qM, reduceIte, seval, Int.cast_ofNat_Int, qY, qZ, rY, q1]
  have b1 : RB h1 (.slice (some ⟨k1, 0, none⟩) 1 3) [UInt8.ofNat (min l.length 255)] := by
    rw [bv_nat _ (by omega)] at m1
    exact pQ (l := [UInt8.ofNat (min l.length 255)]) m1 rfl
  refine qN4 fG Try.underlying24 rfl s1 b1 (.inr (.inl ⟨_, 1, rfl⟩)) r1.src (by simp; omega) fun v h2 s2 _ _ ha hr => ?_
  rw [qL0] at hr
  obtain ⟨a', c', rfl, _⟩ := hr.form
  simp only [qV, qF, qL, qN, qG, qC, qM, reduceIte, seval, Int.cast_ofNat_Int, qY, qZ, rY]
  repeat' (first | (with_reducible first | apply qH | apply qB) | ((first | (with_reducible first | apply qA | apply qP | apply qD | apply qE | apply qK) | ((with_reducible first | apply qQ | apply qI | apply qJ) <;> intro hb <;> (try simp only [hb]))) <;> try simp only [qV, qF, qL, qN, qG, qC, qM, reduceIte, seval, Int.cast_ofNat_Int, qY, qZ, rY]))
  exact ⟨s2, a', c', rfl, hr, ha⟩
theorem qQ7 : type_of% (And.intro wN (And.intro jV rs100)) := And.intro wN (And.intro jV rs100)
theorem qW0 : type_of% (And.intro wN (And.intro jV rs60)) := And.intro wN (And.intro jV rs60)
theorem rX : type_of% (And.intro wN (And.intro jV (And.intro lU rs28))) := And.intro wN (And.intro jV (And.intro lU rs28))
def gN : Nat → List (Nat × List Nat) × List Nat
  | 1 => ([(0, []), (3, []), (1, []), (2, []), (4, [2]), (5, []), (6, []), (7, [])], [0, 1, 3, 0, 11, 27, 31, 127])
  | _ => ([], [])
theorem c_bcmp (N : Nat) (h : GH) {v u : Value} {l m : List UInt8} (r1 : RB h v l) (r2 : RB h u m) : GTri Try.prog N 131 [v, u] h fun x h' => x = .int .i64 (Lib.compareBytes l m) ∧ h' = h :=
  gtri_cmp Try.func131 (by kernel_rfl) (by kernel_rfl) (by kernel_rfl) (by kernel_rfl) r1 r2
theorem zE9 (N : Nat) (h : GH) {v u : Value} {l m : List UInt8} (r1 : RB h v l) (r2 : RB h u m) : GTri Try.prog N 100 [v, u] h fun x h' => x = .int .i64 (Lib.compareBytes l m) ∧ h' = h := by
  refine wQ Try.func100 rfl gf100 ok100 (by simp [Try.ntmps100]) ?_
  repeat' (first | (with_reducible first | apply qH | apply qB) | ((first | (with_reducible first | apply qA | apply qP | apply qD | apply qE | apply qK) | ((with_reducible first | apply qQ | apply qI | apply qJ) <;> intro hb <;> (try simp only [hb])) | ((refine GTri.mono (c_bcmp _ _ r1 r2) ?_); rintro _ _ ⟨rfl, rfl⟩)) <;> try simp only [qV, qF, qL, qN, qG, qC, qM, reduceIte, seval, Int.cast_ofNat_Int, qY, qZ, qQ7]))
theorem zA9 (N : Nat) (h : GH) {a b : Option Addr} {n m c d : Nat} {l k : List UInt8} (r1 : RB h (.slice a n c) l) (r2 : RB h (.slice b m d) k) (hn : n = l.length) (hm : m = k.length) : GTri Try.prog N 60 [.slice a n c, .slice b m d] h fun v h' => v = .int .i64 (Lib.compareBytes (jF l) (jF k)) ∧ HS h h' := by
  refine wQ Try.func60 rfl gf60 ok60 (by simp [Try.ntmps60]) ?_
  repeat' (first | (with_reducible first | apply qH | apply qB) | ((first | (with_reducible first | apply qA | apply qP | apply qD | apply qE | apply qK) | ((with_reducible first | apply qQ | apply qI | apply qJ) <;> intro hb <;> (try simp only [hb])) | ((refine GTri.mono (c_Key _ _ r1 hn) ?_); rintro _ h1 ⟨s1, a1, c1, rfl, q1, _⟩) | ((refine GTri.mono (c_Key _ _ (r2.hs s1) hm) ?_); rintro _ h2 ⟨s2, a2, c2, rfl, q2, _⟩) | ((refine GTri.mono (zE9 _ _ (q1.hs s2) q2) ?_); rintro _ _ ⟨rfl, rfl⟩)) <;> try simp only [qV, qF, qL, qN, qG, qC, qM, reduceIte, seval, Int.cast_ofNat_Int, qY, qZ, qW0]))
  exact s1.trans s2
theorem qG2 (N : Nat) (h : GH) {a b : Option Addr} {n m c d : Nat} {l k : List UInt8} (r1 : RB h (.slice a n c) l) (r2 : RB h (.slice b m d) k) (hn : n = l.length) (hm : m = k.length) : GTri Try.prog N 28 [.slice a n c, .slice b m d] h fun v h' => v = .int .i64 (Lib.compareBytes (jF l) (jF k)) ∧ HS h h' := by
  refine wQ Try.func28 rfl gf28 ok28 (by simp [Try.ntmps28]) ?_
  repeat' (first | (with_reducible first | apply qH | apply qB) | ((first | (with_reducible first | apply qA | apply qP | apply qD | apply qE | apply qK) | ((with_reducible first | apply qQ | apply qI | apply qJ | apply qW | apply qX) <;> intro hb <;> (try simp only [hb])) | with_reducible refine qO gN mixed (by kernel_rfl) ?_ | ((refine GTri.mono (c_rKey _ _ r1 hn) ?_); rintro _ h1 ⟨s1, a1, c1, rfl, q1, _⟩)) <;> try simp only [qV, qF, qL, qN, qG, qC, qM, reduceIte, seval, Int.cast_ofNat_Int, qY, qZ, qU, zR, zT, zU, rX, gN]))
  simp only [qV, qF, qL, qN, qG, qC, qM, reduceIte, seval, Int.cast_ofNat_Int, qY, qZ, qU, zR, zT, zU, rX, gN, q1.conv Try.underlying24 Try.underlying5 Try.underlying9]
  refine (c_rKey _ _ (r2.hs s1) hm).mono ?_
  rintro _ h2 ⟨s2, a2, c2, rfl, q2, _⟩
  simp only [qV, qF, qL, qN, qG, qC, qM, reduceIte, seval, Int.cast_ofNat_Int, qY, qZ, qU, zR, zT, zU, rX, gN, (q1.hs s2).conv Try.underlying24 Try.underlying5 Try.underlying9, q2.conv Try.underlying24 Try.underlying5 Try.underlying9]
  have e := mH (jF l) (jF k)
  repeat' (first | (with_reducible first | apply qH | apply qB) | ((first | (with_reducible first | apply qA | apply qP | apply qD | apply qE | apply qK) | ((with_reducible first | apply qQ | apply qI | apply qJ | apply qW | apply qX) <;> intro hb <;> (try simp only [hb])) | with_reducible refine qO gN mixed (by kernel_rfl) ?_) <;> try simp only [qV, qF, qL, qN, qG, qC, qM, reduceIte, seval, Int.cast_ofNat_Int, qY, qZ, qU, zR, zT, zU, rX, gN, zF1]))
  all_goals
    refine ⟨?_, s1.trans s2⟩
    try simp only [qI9] at *
    simp only [e, *, if_true, Bool.false_eq_true, if_false]
end Go.Gh
namespace Go.Gh
open Go Go.Proofs Go.RowKit Go.Sort
set_option linter.unusedVariables false
set_option linter.unusedSimpArgs false
set_option maxRecDepth 100000
set_option maxHeartbeats 2000000
structure TC {α : Type} (f : α → α → Int) : Prop where
  anti : ∀ x y, f x y = - f y x
  tr : ∀ x y z, f x y ≤ 0 → f y z ≤ 0 → f x z ≤ 0
theorem TC.swo {α : Type} {f : α → α → Int} (t : TC f) : SWO (ltOf f) := by
  refine ⟨fun x => ?_, fun x y z h1 h2 => ?_, fun x y z h1 h2 => ?_⟩
  · have := t.anti x x
    simp only [ltOf, decide_eq_false_iff_not]
    omega
  · simp only [ltOf, decide_eq_true_eq] at *
    have h3 := t.tr x y z (by omega) (by omega)
    rcases Int.lt_or_eq_of_le h3 with h | h
    · exact h
    · have a1 := t.anti x z
      have a2 := t.anti y z
      have := t.tr z x y (by omega) (by omega)
      omega
  · simp only [ltOf, decide_eq_false_iff_not] at *
    have a1 := t.anti x y
    have a2 := t.anti y z
    have a3 := t.anti x z
    have := t.tr z y x (by omega) (by omega)
    omega
theorem TC.on {α β : Type} {f : α → α → Int} (t : TC f) (k : β → α) : TC fun x y => f (k x) (k y) := ⟨fun x y => t.anti _ _, fun x y z => t.tr _ _ _⟩
theorem u8lt (a b : UInt8) : (a < b) ↔ a.toNat < b.toNat := UInt8.lt_iff_toNat_lt
theorem zA5 : ∀ a b : List UInt8, Lib.compareBytes a b = - Lib.compareBytes b a
  | [], [] => rfl
  | [], _ :: _ => rfl
  | _ :: _, [] => rfl
  | x :: a, y :: b => by
    have ih := zA5 a b
    simp only [Lib.compareBytes, u8lt]
    split <;> split <;> (try split) <;> (try split) <;> omega
theorem cb_tr : ∀ a b c : List UInt8, Lib.compareBytes a b ≤ 0 → Lib.compareBytes b c ≤ 0 → Lib.compareBytes a c ≤ 0
  | [], _, [], _, _ => by simp [Lib.compareBytes]
  | [], _, _ :: _, _, _ => by simp [Lib.compareBytes]
  | _ :: _, [], _, h, _ => by simp [Lib.compareBytes] at h
  | _ :: _, _ :: _, [], _, h => by simp [Lib.compareBytes] at h
  | x :: a, y :: b, z :: c, h1, h2 => by
    have ih := cb_tr a b c
    simp only [Lib.compareBytes, u8lt] at h1 h2 ⊢
    split at h1 <;> split at h2 <;> (try split at h1) <;> (try split at h2) <;> split <;> (try split) <;> first | omega | (exact ih h1 h2)
theorem tc_cb : TC Lib.compareBytes := ⟨zA5, cb_tr⟩
def idO (x y : List UInt8) : Int := Lib.compareBytes (jF x) (jF y)
theorem tc_id : TC idO := tc_cb.on jF
theorem c_nan1 (N : Nat) (h : GH) (x : Int) : GTri Try.prog N 102 [.int .i64 x] h fun v h' => v = .bool false ∧ h' = h := by
  have d : (x != x) = false := by simp
  refine wQ Try.func102 rfl gf102 ok102 (by simp [Try.ntmps102]) ?_
  refine qS ?_; repeat' (first | (with_reducible first | apply qH | apply qB) | ((first | (with_reducible apply qR) | (with_reducible first | apply qA | apply qP | apply qD | apply qE | apply qK) | ((with_reducible first | apply qQ | apply qI | apply qJ) <;> intro hb <;> (try simp only [hb]) <;> (try simp only [zF] at hb))) <;> try simp only [qV, qF, qL, qN, qG, qC, qM, reduceIte, seval, Int.cast_ofNat_Int, qY, qZ, wZ, rs102, d]))
end Go.Gh
namespace Go.Gh
open Go Go.Proofs Go.RowKit Go.Sort Go.Shelf
set_option linter.unusedVariables false
set_option linter.unusedSimpArgs false
set_option maxRecDepth 100000
set_option maxHeartbeats 2000000
theorem c_blen (N : Nat) (h : GH) : GTri Try.prog N 99 [.int .u64 0] h fun v h' => v = .int .i64 (Lib.bitLen 0) ∧ h' = h := by
  intro hG φ w args' s ha
  obtain ⟨argl⟩ := args'
  simp only at ha
  cases ha with
  | cons h1 ha =>
  cases ha
  cases h1
  have hb := Any.bits_Len (SlLaysF0.n15.bits (P := Try.prog) (ρ := qI2) { qB5 with }) 0 w (by omega) (by omega)
  refine .inl ⟨gf99, hb.mono ?_⟩
  rintro e w' ⟨rfl, rfl⟩
  exact ⟨_, _, φ, h, rfl, Ext.refl _, s, .int _ _, Below.refl _ _, rfl, rfl⟩
def K3 (h h' : GH) : Prop := (∀ i B, h i = some B → B.es ≠ 3 → h' i = some B) ∧ ∀ v l, RB h v l → RB h' v l
theorem K3.refl (h : GH) : K3 h h := ⟨fun _ _ e _ => e, fun _ _ r => r⟩
theorem K3.set {h : GH} {kb : Nat} {B : GB} {cs : List Value} (hB : h kb = some B) (he : B.es = 3) (hu : B.cells.all wX = true) : K3 h (vU h kb { B with cells := cs }) := by
  have hx : HX kb h (vU h kb { B with cells := cs }) := fun j C n e => (xD _ _ n).trans e
  exact ⟨fun i C e n => by
    rw [xD _ _ (fun q => by rw [q, hB] at e; cases e; exact n he)]; exact e, fun v l r => r.hx hB hu hx⟩
def zB4 {α : Type} (R : GH → List Value → α → Prop) (cf : α → α → Int) (h0 h : GH) (v : Value) (l : List α) (h' : GH) : Prop :=
  ∃ (l2 : List α) (cs2 : List Value), l2.Perm l ∧ (∀ (i j : Nat) x y, i < j → l2[i]? = some x → l2[j]? = some y → ¬ cf y x < 0) ∧ OWNC 3 h0 h' v l2.length cs2 ∧ cs2.all wX = true ∧ (∀ (i : Nat) x, l2[i]? = some x → R h' ((cs2.drop (i * 3)).take 3) x) ∧ K3 h h' ∧ (HS h0 h → HS h0 h')
theorem sortR0 {α : Type} {R : GH → List Value → α → Prop} {cf : α → α → Int} {h0 h : GH} {v : Value} {cs : List Value} (o : OWNC 3 h0 h v 0 cs) : zB4 R cf h0 h v [] h := by
  have hc : cs = [] := List.eq_nil_of_length_eq_zero (by have := o.len; simpa using this)
  subst hc
  exact ⟨[], [], .refl _, fun i j x y _ hx => by simp at hx, o, rfl, fun i x hx => by simp at hx, K3.refl h, id⟩
theorem sortR1 {α : Type} {R : GH → List Value → α → Prop} {cf : α → α → Int} {h0 h h' : GH} {kb c : Nat} {cs cs2 : List Value} {l l2 : List α} (hm : c % 2 = 0) (hc2 : 2 * l.length ≤ c) (hn : l ≠ []) (hB : h kb = some ⟨cs, 3, true, true⟩) (hk0 : h0 kb = none) (hcl : cs.length = l.length * 3) (hu : cs.all wX = true)
    (hp : l2.Perm l) (hs : ∀ (i j : Nat) x y, i < j → l2[i]? = some x → l2[j]? = some y → ¬ cf y x < 0) (e : h' = vU h kb ⟨cs2, 3, true, true⟩) (hl2 : cs2.length = cs.length) (hu2 : cs2.all wX = true) (hR : ∀ (i : Nat) x, l2[i]? = some x → R h ((cs2.drop (i * 3)).take 3) x)
    (hRk : ∀ cs x, R h cs x → (∀ v l, RB h v l → RB h' v l) → R h' cs x) : zB4 R cf h0 h (.slice (some ⟨kb, 0, none⟩) l.length c) l h' := by
  subst e
  have k3 : K3 h (vU h kb ⟨cs2, 3, true, true⟩) := K3.set (B := ⟨cs, 3, true, true⟩) hB rfl hu
  have hll := hp.length_eq
  refine ⟨l2, cs2, hp, hs, .inr (.inr ⟨kb, c, by rw [hll], hm, by omega, ?_, by omega, zV _ _ _, hk0⟩), hu2, fun i x hx => hRk _ _ (hR i x hx) k3.2, k3, fun s i B e => ?_⟩
  · rw [hll]; exact fun q => hn (List.eq_nil_of_length_eq_zero q)
  · rw [xD _ _ (fun q => by rw [q, hk0] at e; cases e)]
    exact s _ _ e
theorem shV_sl (M : Nat) (a : Option Addr) (n c : Nat) : ∃ a', shV M (.slice a n c) = .slice a' n c := by cases a <;> exact ⟨_, rfl⟩
end Go.Gh
namespace Go.Gh
open Go Go.Proofs Go.RowKit
set_option linter.unusedVariables false
set_option linter.unusedSimpArgs false
set_option maxRecDepth 100000
set_option maxHeartbeats 2000000
theorem qV9 : type_of% (And.intro wZ (And.intro uP rs146)) := And.intro wZ (And.intro uP rs146)
theorem dF : type_of% (And.intro lL (And.intro qN0 (And.intro uN (And.intro wZ (And.intro zB9 rs134))))) := And.intro lL (And.intro qN0 (And.intro uN (And.intro wZ (And.intro zB9 rs134))))
theorem qF0 : type_of% (And.intro wN (And.intro uM (And.intro jV rs135))) := And.intro wN (And.intro uM (And.intro jV rs135))
theorem rW : type_of% (And.intro wT (And.intro wN (And.intro uM (And.intro wZ rs115)))) := And.intro wT (And.intro wN (And.intro uM (And.intro wZ rs115)))
def Ep1 (_ : GH) (cs : List Value) (s : Nat × Nat) : Prop := cs = [.int .i64 (s.1 : Int)]
theorem epc_rl {h0 h : GH} {v : Value} {s : List (Nat × Nat)} (o : OWNC 1 h0 h v s.length (qS6 s)) : RL 1 Ep1 h v s := o.rl fun i x hx => by
  unfold Ep1
  have : (qS6 s)[i]? = some (.int .i64 (x.1 : Int)) := by simp [qS6, hx]
  rw [Nat.mul_one, List.take_one, List.head?_drop, this]; rfl
theorem c_nan2 (N : Nat) (h : GH) (x : Int) : GTri Try.prog N 147 [.int .i64 x] h fun v h' => v = .bool false ∧ h' = h := by
  have d : (x != x) = false := by simp
  refine wQ Try.func147 rfl gf147 ok147 (by simp [Try.ntmps147]) ?_
  refine qS ?_; repeat' (first | (with_reducible first | apply qH | apply qB) | ((first | (with_reducible apply qR) | (with_reducible first | apply qA | apply qP | apply qD | apply qE | apply qK) | ((with_reducible first | apply qQ | apply qI | apply qJ) <;> intro hb <;> (try simp only [hb]) <;> (try simp only [zF] at hb))) <;> try simp only [qV, qF, qL, qN, qG, qC, qM, reduceIte, seval, Int.cast_ofNat_Int, qY, qZ, wZ, rs147, d]))
theorem c_Less (N : Nat) (h : GH) (x y : Int) : GTri Try.prog N 146 [.int .i64 x, .int .i64 y] h fun v h' => v = .bool (decide (x < y)) ∧ h' = h := by
  refine wQ Try.func146 rfl gf146 ok146 (by simp [Try.ntmps146]) ?_
  refine qS ?_; repeat' (first | (with_reducible first | apply qH | apply qB) | ((first | (with_reducible apply qR) | (with_reducible first | apply qA | apply qP | apply qD | apply qE | apply qK) | ((with_reducible first | apply qQ | apply qI | apply qJ) <;> intro hb <;> (try simp only [hb]) <;> (try simp only [zF] at hb)) | ((refine GTri.mono (c_nan1 _ _ _) ?_); rintro _ _ ⟨rfl, hh9⟩; replace hh9 := hh9.symm; subst hh9)) <;> try simp only [qV, qF, qL, qN, qG, qC, qM, reduceIte, seval, Int.cast_ofNat_Int, qY, qZ, qV9, gPick]))
def Lo (s : List (Nat × Nat)) (e : Int) (n : Nat) : Prop := n ≤ s.length ∧ ∀ (i : Nat) (p : Nat × Nat), s[i]? = some p → (i < n ↔ (p.1 : Int) < e)
theorem c_bsi (N : Nat) (h : GH) {v : Value} {s : List (Nat × Nat)} (r : RL 1 Ep1 h v s) (hl : s.length ≤ 1000000) (hs : tG s) (e : Int) : GTri Try.prog N 134 [v, .int .i64 e] h fun v h' =>
    (∃ (n : Nat) (b : Bool), v = .tuple #[.int .i64 (n : Int), .bool b] ∧ Lo s e n ∧ (b = true ↔ ∃ p, s[n]? = some p ∧ (p.1 : Int) = e)) ∧ h' = h := by
  obtain ⟨a, c, rfl, _⟩ := r.form
  refine wQ Try.func134 rfl gf134 ok134 (by simp [Try.ntmps134]) ?_
  repeat' (first | (with_reducible first | apply qH | apply qB) | ((first | (with_reducible first | apply qA | apply qP | apply qD | apply qE | apply qK) | ((with_reducible first | apply qQ | apply qI | apply qJ) <;> intro hb <;> (try simp only [hb]) <;> (try simp only [zF] at hb))) <;> try simp only [qV, qF, qL, qN, qG, qC, qM, reduceIte, seval, Int.cast_ofNat_Int, qY, qZ, dF]))
  refine wI [0, 1, 4, 5, 6] (fun (x : Nat × Nat) => [(7, .int .i64 (x.1 : Int)), (8, .int .i64 (x.2 : Int))])
    (fun q x h' => x.2 - x.1 = q ∧ x.1 ≤ x.2 ∧ x.2 ≤ s.length ∧ h' = h ∧ (∀ (i : Nat) (p : Nat × Nat), s[i]? = some p → i < x.1 → (p.1 : Int) < e) ∧ (∀ (i : Nat) (p : Nat × Nat), s[i]? = some p → x.2 ≤ i → ¬ (p.1 : Int) < e)) s.length (0, s.length) (by simp [lk])
    ⟨by simp, by simp, by simp, rfl, (fun i p _ hi => by simp at hi), fun i p hi hl => by have := (List.getElem?_eq_some_iff.1 hi).1; simp only at hl; omega⟩ ?_
  rintro _ ⟨i, j⟩ h1 ⟨rfl, hij, hj, rfl, lo, hi⟩
  simp only at hij hj lo hi
  by_cases hlt : i < j
  case neg =>
    obtain rfl : i = j := by omega
    have d : decide ((i : Int) < (i : Int)) = false := decide_eq_false (by omega)
    have up : Lo s e i := ⟨hj, fun q p hq => ⟨fun h => lo q p hq h, fun h => by
      rcases Nat.lt_or_ge q i with h' | h'
      · exact h'
      · exact absurd h (hi q p hq h')⟩⟩
    by_cases hil : i < s.length
    · have d2 : decide ((i : Int) < (s.length : Int)) = true := decide_eq_true (by omega)
      obtain ⟨p, hp⟩ : ∃ p, s[i]? = some p := ⟨_, List.getElem?_eq_getElem hil⟩
      obtain ⟨ad, cs2, g1, g2, g3⟩ := r.at (P := Try.prog) Try.underlying83 wL hp
      unfold Ep1 at g3
      subst g3
      have l4 : xM Try.prog 3 h1 (.pointer (some ad)) = some (.int .i64 p.1) := by simp only [xM, wL, g2]; rfl
      have hb : ∀ r : Bool, r = ((p.1 : Int) == e) → (r = true ↔ ∃ p, s[i]? = some p ∧ (p.1 : Int) = e) := by
        rintro _ rfl
        simp [hp]
      cases hpe : ((p.1 : Int) == e)
      all_goals
        refine qS ?_; repeat' (first | (with_reducible first | apply qH | apply qB) | ((first | (with_reducible apply qR) | (with_reducible first | apply qA | apply qP | apply qD | apply qE | apply qK) | ((with_reducible first | apply qQ | apply qI | apply qJ) <;> intro hb <;> (try simp only [hb]) <;> (try simp only [zF] at hb)) | ((refine GTri.mono (c_nan2 _ _ _) ?_); rintro _ _ ⟨rfl, hh9⟩; replace hh9 := hh9.symm; subst hh9)) <;> try simp only [qV, qF, qL, qN, qG, qC, qM, reduceIte, seval, Int.cast_ofNat_Int, qY, qZ, dF, d, d2, g1, l4, hpe, gPick]))
        exact ⟨i, _, rfl, up, hb _ hpe.symm⟩
    · have d2 : decide ((i : Int) < (s.length : Int)) = false := decide_eq_false (by omega)
      refine qS ?_; repeat' (first | (with_reducible first | apply qH | apply qB) | ((first | (with_reducible apply qR) | (with_reducible first | apply qA | apply qP | apply qD | apply qE | apply qK) | ((with_reducible first | apply qQ | apply qI | apply qJ) <;> intro hb <;> (try simp only [hb]) <;> (try simp only [zF] at hb))) <;> try simp only [qV, qF, qL, qN, qG, qC, qM, reduceIte, seval, Int.cast_ofNat_Int, qY, qZ, dF, d, d2, gPick]))
      refine ⟨i, _, rfl, up, ⟨fun h => (by cases h), fun ⟨p, hp, _⟩ => ?_⟩⟩
      have := (List.getElem?_eq_some_iff.1 hp).1
      omega
  have d : decide ((i : Int) < (j : Int)) = true := decide_eq_true (by omega)
  have w1 : IntKind.i64.wrap ((i : Int) + (j : Int)) = ((i + j : Nat) : Int) := by rw [wrap64 (by omega) (by omega)]; omega
  have w2 : IntKind.u64.wrap ((i + j : Nat) : Int) = ((i + j : Nat) : Int) := qJ7 (by omega) (by omega)
  have w3 : IntKind.i64.wrap (((i + j) / 2 : Nat) : Int) = (((i + j) / 2 : Nat) : Int) := wrap64 (by omega) (by omega)
  have w4 : IntKind.i64.wrap ((((i + j) / 2 : Nat) : Int) + 1) = (((i + j) / 2 + 1 : Nat) : Int) := by rw [wrap64 (by omega) (by omega)]; omega
  have sh := shr1 (i + j) IntKind.u64.bits rfl
  have hm : (i + j) / 2 < s.length := by omega
  obtain ⟨p, hp⟩ : ∃ p, s[(i + j) / 2]? = some p := ⟨_, List.getElem?_eq_getElem hm⟩
  obtain ⟨ad, cs2, g1, g2, g3⟩ := r.at (P := Try.prog) Try.underlying83 wL hp
  unfold Ep1 at g3
  subst g3
  have l4 : xM Try.prog 3 h1 (.pointer (some ad)) = some (.int .i64 p.1) := by simp only [xM, wL, g2]; rfl
  by_cases hpe : (p.1 : Int) < e
  · have d3 : decide ((p.1 : Int) < e) = true := decide_eq_true hpe
    refine qS ?_; repeat' (first | (with_reducible first | apply qH | apply qB) | ((first | (with_reducible apply qR) | (with_reducible first | apply qA | apply qP | apply qD | apply qE | apply qK) | ((with_reducible first | apply qQ | apply qI | apply qJ) <;> intro hb <;> (try simp only [hb]) <;> (try simp only [zF] at hb)) | ((refine GTri.mono (c_Less _ _ _ _) ?_); rintro _ _ ⟨rfl, hh9⟩; replace hh9 := hh9.symm; subst hh9)) <;> try simp only [qV, qF, qL, qN, qG, qC, qM, reduceIte, seval, Int.cast_ofNat_Int, qY, qZ, dF, d, w1, w2, w3, sh, g1, l4, d3, w4]))
    refine ⟨_, ((i + j) / 2 + 1, j), ?_, (by simp only [List.forall_mem_cons, List.not_mem_nil, false_implies, implies_true, List.map, List.cons_append, List.nil_append, lk, Nat.reduceEqDiff, reduceIte, and_true, true_and]), rfl, by omega, hj, fun q p' hq hlt' => ?_, hi⟩
    · simp only; omega
    · have := hs q ((i + j) / 2) p' p (by simp only at hlt'; omega) hq hp
      omega
  · have d3 : decide ((p.1 : Int) < e) = false := decide_eq_false hpe
    refine qS ?_; repeat' (first | (with_reducible first | apply qH | apply qB) | ((first | (with_reducible apply qR) | (with_reducible first | apply qA | apply qP | apply qD | apply qE | apply qK) | ((with_reducible first | apply qQ | apply qI | apply qJ) <;> intro hb <;> (try simp only [hb]) <;> (try simp only [zF] at hb)) | ((refine GTri.mono (c_Less _ _ _ _) ?_); rintro _ _ ⟨rfl, hh9⟩; replace hh9 := hh9.symm; subst hh9)) <;> try simp only [qV, qF, qL, qN, qG, qC, qM, reduceIte, seval, Int.cast_ofNat_Int, qY, qZ, dF, d, w1, w2, w3, sh, g1, l4, d3, w4]))
    refine ⟨_, (i, (i + j) / 2), ?_, (by simp only [List.forall_mem_cons, List.not_mem_nil, false_implies, implies_true, List.map, List.cons_append, List.nil_append, lk, Nat.reduceEqDiff, reduceIte, and_true, true_and]), rfl, by omega, by omega, lo, fun q p' hq hle => ?_⟩
    · simp only; omega
    · have := hs ((i + j) / 2) q p p' hle hp hq
      omega
theorem c_at1 (N : Nat) (h : GH) {cs : List Value} {y : Bnd} (r : Bd h cs y) {kc : Nat} {a : Option Addr} {n c : Nat} {id : List UInt8} (m : h kc = some ⟨[.slice a n c], 0, true, false⟩) (ri : RB h (.slice a n c) id) : GTri Try.prog N 135 [.agg cs.toArray, .pointer (some ⟨kc, 0, none⟩)] h fun v h' => v = .bool (y.1 == id) ∧ HS h h' := by
  obtain ⟨a1, n1, c1, b1, m1, d1, rfl, r1, r2⟩ := r
  refine wQ Try.func135 rfl gf135 ok135 (by simp [Try.ntmps135]) ?_
  repeat' (first | (with_reducible first | apply qH | apply qB) | ((first | (with_reducible first | apply qA | apply qP | apply qD | apply qE | apply qK) | ((with_reducible first | apply qQ | apply qI | apply qJ) <;> intro hb <;> (try simp only [hb]) <;> (try simp only [zF] at hb))) <;> try simp only [qV, qF, qL, qN, qG, qC, qM, reduceIte, seval, Int.cast_ofNat_Int, qY, qZ, qF0]))
  refine wY rfl fun k2 h2 m2 s2 f2 n2 => ?_
  refine qS ?_; repeat' (first | (with_reducible first | apply qH | apply qB) | ((first | (with_reducible apply qR) | (with_reducible first | apply qA | apply qP | apply qD | apply qE | apply qK) | ((with_reducible first | apply qQ | apply qI | apply qJ) <;> intro hb <;> (try simp only [hb]) <;> (try simp only [zF] at hb)) | ((refine GTri.mono (c_Equal N h2 (r1.hs s2) (ri.hs s2)) ?_); rintro _ _ ⟨rfl, hh9⟩; replace hh9 := hh9.symm; subst hh9)) <;> try simp only [qV, qF, qL, qN, qG, qC, qM, reduceIte, seval, Int.cast_ofNat_Int, qY, qZ, qF0, qT m2 wK, qT (s2 _ _ m) wK]))
  exact s2
theorem c_ixf (N : Nat) (h : GH) {v : Value} {b : List Bnd} (r : RL 2 Bd h v b) (hl : b.length ≤ 1000000) {kc : Nat} {a : Option Addr} {n c : Nat} {id : List UInt8} (m : h kc = some ⟨[.slice a n c], 0, true, false⟩) (ri : RB h (.slice a n c) id) {i0 : Nat} (hi0 : i0 < b.length ∧ (vI b i0).1 = id) :
    GTri Try.prog N 115 [v, .func (.func 135) #[] #[.pointer (some ⟨kc, 0, none⟩)]] h fun v h' => (∃ (i : Nat) (y : Bnd), v = .int .i64 (i : Int) ∧ b[i]? = some y ∧ b.find? (fun z => z.1 == id) = some y) ∧ HS h h' := by
  obtain ⟨av, cv, rfl, _⟩ := r.form
  refine wQ Try.func115 rfl gf115 ok115 (by simp [Try.ntmps115]) ?_
  repeat' (first | (with_reducible first | apply qH | apply qB) | ((first | (with_reducible first | apply qA | apply qP | apply qD | apply qE | apply qK) | ((with_reducible first | apply qQ | apply qI | apply qJ) <;> intro hb <;> (try simp only [hb]) <;> (try simp only [zF] at hb))) <;> try simp only [qV, qF, qL, qN, qG, qC, qM, reduceIte, seval, Int.cast_ofNat_Int, qY, qZ, rW]))
  refine wI [0, 1, 7] (fun (i : Nat) => [(8, .int .i64 (i : Int))]) (fun q i h' => b.length - i = q ∧ i ≤ b.length ∧ HS h h' ∧ ∀ z ∈ b.take i, (z.1 == id) = false) b.length 0 (by simp [lk]) ⟨rfl, by omega, HS.refl h, by simp⟩ ?_
  rintro _ i h3 ⟨rfl, hi, s3, nf⟩
  by_cases hib : i < b.length
  case neg =>
    obtain rfl : i = b.length := by omega
    rw [List.take_length] at nf
    have hg : b[i0]? = some b[i0] := List.getElem?_eq_getElem hi0.1
    have h1 := nf _ (List.getElem_mem hi0.1)
    have h2 := hi0.2
    simp [vI, hg] at h2
    rw [h2] at h1
    simp at h1
  have d3 : decide ((i : Int) < (b.length : Int)) = true := decide_eq_true (by omega)
  have wi : IntKind.i64.wrap ((i : Int) + 1) = ((i + 1 : Nat) : Int) := by rw [wrap64 (by omega) (by omega)]; omega
  obtain ⟨y, hy⟩ : ∃ y, b[i]? = some y := ⟨_, List.getElem?_eq_getElem hib⟩
  obtain ⟨ad, cs2, g1, g2, g3⟩ := (r.bs s3).at (P := Try.prog) Try.underlying23 uQ hy
  have l1 : xM Try.prog 99 h3 (.pointer (some ad)) = some (.agg cs2.toArray) := by simp only [xM, uQ, g2]; rfl
  refine qS ?_; repeat' (first | (with_reducible first | apply qH | apply qB) | ((first | (with_reducible apply qR) | (with_reducible first | apply qA | apply qP | apply qD | apply qE | apply qK) | ((with_reducible first | apply qQ | apply qI | apply qJ) <;> intro hb <;> (try simp only [hb]) <;> (try simp only [zF] at hb))) <;> try simp only [qV, qF, qL, qN, qG, qC, qM, reduceIte, seval, Int.cast_ofNat_Int, qY, qZ, rW, d3, g1, l1]))
  refine (c_at1 N h3 g3 (s3 _ _ m) (ri.hs s3)).mono ?_
  rintro _ h4 ⟨rfl, s4⟩
  have ht : b.take (i + 1) = b.take i ++ [y] := by rw [List.take_add_one, hy]; rfl
  cases hyi : (y.1 == id)
  · refine qS ?_; repeat' (first | (with_reducible first | apply qH | apply qB) | ((first | (with_reducible apply qR) | (with_reducible first | apply qA | apply qP | apply qD | apply qE | apply qK) | ((with_reducible first | apply qQ | apply qI | apply qJ) <;> intro hb <;> (try simp only [hb]) <;> (try simp only [zF] at hb))) <;> try simp only [qV, qF, qL, qN, qG, qC, qM, reduceIte, seval, Int.cast_ofNat_Int, qY, qZ, rW, wi]))
    refine ⟨_, i + 1, ?_, (by simp only [List.forall_mem_cons, List.not_mem_nil, false_implies, implies_true, List.map, List.cons_append, List.nil_append, lk, Nat.reduceEqDiff, reduceIte, and_true, true_and]), rfl, by omega, s3.trans s4, fun z hz => ?_⟩
    · omega
    · rw [ht] at hz
      rcases List.mem_append.1 hz with hz | hz
      · exact nf z hz
      · obtain rfl := List.mem_singleton.1 hz; exact hyi
  · refine qS ?_; repeat' (first | (with_reducible first | apply qH | apply qB) | ((first | (with_reducible apply qR) | (with_reducible first | apply qA | apply qP | apply qD | apply qE | apply qK) | ((with_reducible first | apply qQ | apply qI | apply qJ) <;> intro hb <;> (try simp only [hb]) <;> (try simp only [zF] at hb))) <;> try simp only [qV, qF, qL, qN, qG, qC, qM, reduceIte, seval, Int.cast_ofNat_Int, qY, qZ, rW]))
    refine ⟨⟨i, y, rfl, hy, ?_⟩, s3.trans s4⟩
    have hb : b = b.take i ++ y :: b.drop (i + 1) := by
      have h1 := (List.take_append_drop i b).symm
      have h2 : b.drop i = y :: b.drop (i + 1) := by
        rw [List.drop_eq_getElem_cons hib]
        have := (List.getElem?_eq_some_iff.1 hy).2
        rw [this]
      rw [h2] at h1; exact h1
    rw [hb, List.find?_append, List.find?_eq_none.2 (fun z hz => by rw [nf z hz]; simp), Option.none_or, List.find?_cons, hyi]
end Go.Gh
