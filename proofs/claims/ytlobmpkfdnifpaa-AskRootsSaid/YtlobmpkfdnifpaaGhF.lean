/- Closed facts of the loaded program, each asked of the kernel. -/
import Derived.Test.YtlobmpkfdnifpaaGh15
import Derived.Test.YtlobmpkfdnifpaaProg
namespace Go.Gh
open Go Go.Proofs
set_option maxRecDepth 100000
theorem gf3 : gfn Try.prog 3 = true := by kernel_rfl
theorem rs3 : Try.f3.results.toList = [.tmp 6] := by kernel_rfl
theorem ok3 : codeOk Try.prog Try.f3.ntmps (Try.f3.body.getD .skip) = true := by kernel_rfl
theorem gf4 : gfn Try.prog 4 = true := by kernel_rfl
theorem rs4 : Try.f4.results.toList = [.tmp 2] := by kernel_rfl
theorem ok4 : codeOk Try.prog Try.f4.ntmps (Try.f4.body.getD .skip) = true := by kernel_rfl
theorem gf5 : gfn Try.prog 5 = true := by kernel_rfl
theorem rs5 : Try.f5.results.toList = [.tmp 4] := by kernel_rfl
theorem ok5 : codeOk Try.prog Try.f5.ntmps (Try.f5.body.getD .skip) = true := by kernel_rfl
theorem gf6 : gfn Try.prog 6 = true := by kernel_rfl
theorem rs6 : Try.f6.results.toList = [.tmp 4] := by kernel_rfl
theorem ok6 : codeOk Try.prog Try.f6.ntmps (Try.f6.body.getD .skip) = true := by kernel_rfl
theorem gf7 : gfn Try.prog 7 = true := by kernel_rfl
theorem rs7 : Try.f7.results.toList = [.tmp 0] := by kernel_rfl
theorem ok7 : codeOk Try.prog Try.f7.ntmps (Try.f7.body.getD .skip) = true := by kernel_rfl
theorem gf8 : gfn Try.prog 8 = true := by kernel_rfl
theorem rs8 : Try.f8.results.toList = [.tmp 2] := by kernel_rfl
theorem ok8 : codeOk Try.prog Try.f8.ntmps (Try.f8.body.getD .skip) = true := by kernel_rfl
theorem gf9 : gfn Try.prog 9 = true := by kernel_rfl
theorem rs9 : Try.f9.results.toList = [.cell 4 27, .tmp 5, .tmp 6] := by kernel_rfl
theorem ok9 : codeOk Try.prog Try.f9.ntmps (Try.f9.body.getD .skip) = true := by kernel_rfl
theorem gf10 : gfn Try.prog 10 = true := by kernel_rfl
theorem rs10 : Try.f10.results.toList = [.cell 4 27, .tmp 5, .tmp 6] := by kernel_rfl
theorem ok10 : codeOk Try.prog Try.f10.ntmps (Try.f10.body.getD .skip) = true := by kernel_rfl
theorem gf11 : gfn Try.prog 11 = true := by kernel_rfl
theorem rs11 : Try.f11.results.toList = [.tmp 4] := by kernel_rfl
theorem ok11 : codeOk Try.prog Try.f11.ntmps (Try.f11.body.getD .skip) = true := by kernel_rfl
theorem gf12 : gfn Try.prog 12 = true := by kernel_rfl
theorem rs12 : Try.f12.results.toList = [.tmp 6] := by kernel_rfl
theorem ok12 : codeOk Try.prog Try.f12.ntmps (Try.f12.body.getD .skip) = true := by kernel_rfl
theorem gf13 : gfn Try.prog 13 = true := by kernel_rfl
theorem rs13 : Try.f13.results.toList = [.tmp 6] := by kernel_rfl
theorem ok13 : codeOk Try.prog Try.f13.ntmps (Try.f13.body.getD .skip) = true := by kernel_rfl
theorem gf14 : gfn Try.prog 14 = true := by kernel_rfl
theorem rs14 : Try.f14.results.toList = [.tmp 4] := by kernel_rfl
theorem ok14 : codeOk Try.prog Try.f14.ntmps (Try.f14.body.getD .skip) = true := by kernel_rfl
theorem gf15 : gfn Try.prog 15 = true := by kernel_rfl
theorem rs15 : Try.f15.results.toList = [.tmp 2, .tmp 3] := by kernel_rfl
theorem ok15 : codeOk Try.prog Try.f15.ntmps (Try.f15.body.getD .skip) = true := by kernel_rfl
theorem gf16 : gfn Try.prog 16 = true := by kernel_rfl
theorem rs16 : Try.f16.results.toList = [.tmp 2, .tmp 3] := by kernel_rfl
theorem ok16 : codeOk Try.prog Try.f16.ntmps (Try.f16.body.getD .skip) = true := by kernel_rfl
theorem gf17 : gfn Try.prog 17 = true := by kernel_rfl
theorem rs17 : Try.f17.results.toList = [.tmp 4] := by kernel_rfl
theorem ok17 : codeOk Try.prog Try.f17.ntmps (Try.f17.body.getD .skip) = true := by kernel_rfl
theorem gf18 : gfn Try.prog 18 = true := by kernel_rfl
theorem rs18 : Try.f18.results.toList = [.tmp 0] := by kernel_rfl
theorem ok18 : codeOk Try.prog Try.f18.ntmps (Try.f18.body.getD .skip) = true := by kernel_rfl
theorem gf19 : gfn Try.prog 19 = true := by kernel_rfl
theorem rs19 : Try.f19.results.toList = [.tmp 2, .tmp 3] := by kernel_rfl
theorem ok19 : codeOk Try.prog Try.f19.ntmps (Try.f19.body.getD .skip) = true := by kernel_rfl
theorem gf20 : gfn Try.prog 20 = true := by kernel_rfl
theorem rs20 : Try.f20.results.toList = [.cell 2 38, .tmp 3] := by kernel_rfl
theorem ok20 : codeOk Try.prog Try.f20.ntmps (Try.f20.body.getD .skip) = true := by kernel_rfl
theorem gf21 : gfn Try.prog 21 = true := by kernel_rfl
theorem rs21 : Try.f21.results.toList = [.tmp 4] := by kernel_rfl
theorem ok21 : codeOk Try.prog Try.f21.ntmps (Try.f21.body.getD .skip) = true := by kernel_rfl
theorem gf22 : gfn Try.prog 22 = true := by kernel_rfl
theorem rs22 : Try.f22.results.toList = [.tmp 2, .tmp 3] := by kernel_rfl
theorem ok22 : codeOk Try.prog Try.f22.ntmps (Try.f22.body.getD .skip) = true := by kernel_rfl
theorem gf23 : gfn Try.prog 23 = true := by kernel_rfl
theorem rs23 : Try.f23.results.toList = [.cell 2 38, .tmp 3] := by kernel_rfl
theorem ok23 : codeOk Try.prog Try.f23.ntmps (Try.f23.body.getD .skip) = true := by kernel_rfl
theorem gf24 : gfn Try.prog 24 = true := by kernel_rfl
theorem rs24 : Try.f24.results.toList = [.tmp 2] := by kernel_rfl
theorem ok24 : codeOk Try.prog Try.f24.ntmps (Try.f24.body.getD .skip) = true := by kernel_rfl
theorem gf25 : gfn Try.prog 25 = true := by kernel_rfl
theorem rs25 : Try.f25.results.toList = [.tmp 2] := by kernel_rfl
theorem ok25 : codeOk Try.prog Try.f25.ntmps (Try.f25.body.getD .skip) = true := by kernel_rfl
theorem gf26 : gfn Try.prog 26 = true := by kernel_rfl
theorem rs26 : Try.f26.results.toList = [] := by kernel_rfl
theorem ok26 : codeOk Try.prog Try.f26.ntmps (Try.f26.body.getD .skip) = true := by kernel_rfl
theorem gf27 : gfn Try.prog 27 = true := by kernel_rfl
theorem rs27 : Try.f27.results.toList = [.tmp 2] := by kernel_rfl
theorem ok27 : codeOk Try.prog Try.f27.ntmps (Try.f27.body.getD .skip) = true := by kernel_rfl
theorem gf28 : gfn Try.prog 28 = true := by kernel_rfl
theorem rs28 : Try.f28.results.toList = [] := by kernel_rfl
theorem ok28 : codeOk Try.prog Try.f28.ntmps (Try.f28.body.getD .skip) = true := by kernel_rfl
theorem gf29 : gfn Try.prog 29 = true := by kernel_rfl
theorem rs29 : Try.f29.results.toList = [] := by kernel_rfl
theorem ok29 : codeOk Try.prog Try.f29.ntmps (Try.f29.body.getD .skip) = true := by kernel_rfl
theorem gf30 : gfn Try.prog 30 = true := by kernel_rfl
theorem rs30 : Try.f30.results.toList = [.tmp 2] := by kernel_rfl
theorem ok30 : codeOk Try.prog Try.f30.ntmps (Try.f30.body.getD .skip) = true := by kernel_rfl
theorem gf31 : gfn Try.prog 31 = true := by kernel_rfl
theorem rs31 : Try.f31.results.toList = [.tmp 2] := by kernel_rfl
theorem ok31 : codeOk Try.prog Try.f31.ntmps (Try.f31.body.getD .skip) = true := by kernel_rfl
theorem gf32 : gfn Try.prog 32 = true := by kernel_rfl
theorem rs32 : Try.f32.results.toList = [.tmp 4] := by kernel_rfl
theorem ok32 : codeOk Try.prog Try.f32.ntmps (Try.f32.body.getD .skip) = true := by kernel_rfl
theorem gf33 : gfn Try.prog 33 = true := by kernel_rfl
theorem rs33 : Try.f33.results.toList = [.cell 4 27] := by kernel_rfl
theorem ok33 : codeOk Try.prog Try.f33.ntmps (Try.f33.body.getD .skip) = true := by kernel_rfl
theorem gf34 : gfn Try.prog 34 = true := by kernel_rfl
theorem rs34 : Try.f34.results.toList = [.tmp 2] := by kernel_rfl
theorem ok34 : codeOk Try.prog Try.f34.ntmps (Try.f34.body.getD .skip) = true := by kernel_rfl
theorem gf35 : gfn Try.prog 35 = true := by kernel_rfl
theorem rs35 : Try.f35.results.toList = [.cell 4 27] := by kernel_rfl
theorem ok35 : codeOk Try.prog Try.f35.ntmps (Try.f35.body.getD .skip) = true := by kernel_rfl
theorem gf36 : gfn Try.prog 36 = true := by kernel_rfl
theorem rs36 : Try.f36.results.toList = [.cell 4 27] := by kernel_rfl
theorem ok36 : codeOk Try.prog Try.f36.ntmps (Try.f36.body.getD .skip) = true := by kernel_rfl
theorem gf37 : gfn Try.prog 37 = true := by kernel_rfl
theorem rs37 : Try.f37.results.toList = [] := by kernel_rfl
theorem ok37 : codeOk Try.prog Try.f37.ntmps (Try.f37.body.getD .skip) = true := by kernel_rfl
theorem gf38 : gfn Try.prog 38 = true := by kernel_rfl
theorem rs38 : Try.f38.results.toList = [] := by kernel_rfl
theorem ok38 : codeOk Try.prog Try.f38.ntmps (Try.f38.body.getD .skip) = true := by kernel_rfl
theorem gf39 : gfn Try.prog 39 = true := by kernel_rfl
theorem rs39 : Try.f39.results.toList = [] := by kernel_rfl
theorem ok39 : codeOk Try.prog Try.f39.ntmps (Try.f39.body.getD .skip) = true := by kernel_rfl
theorem gf40 : gfn Try.prog 40 = true := by kernel_rfl
theorem rs40 : Try.f40.results.toList = [] := by kernel_rfl
theorem ok40 : codeOk Try.prog Try.f40.ntmps (Try.f40.body.getD .skip) = true := by kernel_rfl
theorem gf41 : gfn Try.prog 41 = true := by kernel_rfl
theorem rs41 : Try.f41.results.toList = [] := by kernel_rfl
theorem ok41 : codeOk Try.prog Try.f41.ntmps (Try.f41.body.getD .skip) = true := by kernel_rfl
theorem gf42 : gfn Try.prog 42 = true := by kernel_rfl
theorem rs42 : Try.f42.results.toList = [.tmp 4] := by kernel_rfl
theorem ok42 : codeOk Try.prog Try.f42.ntmps (Try.f42.body.getD .skip) = true := by kernel_rfl
theorem gf43 : gfn Try.prog 43 = true := by kernel_rfl
theorem rs43 : Try.f43.results.toList = [.tmp 4] := by kernel_rfl
theorem ok43 : codeOk Try.prog Try.f43.ntmps (Try.f43.body.getD .skip) = true := by kernel_rfl
theorem gf44 : gfn Try.prog 44 = true := by kernel_rfl
theorem rs44 : Try.f44.results.toList = [.tmp 4] := by kernel_rfl
theorem ok44 : codeOk Try.prog Try.f44.ntmps (Try.f44.body.getD .skip) = true := by kernel_rfl
theorem gf45 : gfn Try.prog 45 = true := by kernel_rfl
theorem rs45 : Try.f45.results.toList = [.tmp 4] := by kernel_rfl
theorem ok45 : codeOk Try.prog Try.f45.ntmps (Try.f45.body.getD .skip) = true := by kernel_rfl
theorem gf46 : gfn Try.prog 46 = true := by kernel_rfl
theorem rs46 : Try.f46.results.toList = [.tmp 4] := by kernel_rfl
theorem ok46 : codeOk Try.prog Try.f46.ntmps (Try.f46.body.getD .skip) = true := by kernel_rfl
theorem gf47 : gfn Try.prog 47 = true := by kernel_rfl
theorem rs47 : Try.f47.results.toList = [.tmp 4] := by kernel_rfl
theorem ok47 : codeOk Try.prog Try.f47.ntmps (Try.f47.body.getD .skip) = true := by kernel_rfl
theorem gf48 : gfn Try.prog 48 = true := by kernel_rfl
theorem rs48 : Try.f48.results.toList = [.tmp 2] := by kernel_rfl
theorem ok48 : codeOk Try.prog Try.f48.ntmps (Try.f48.body.getD .skip) = true := by kernel_rfl
theorem gf49 : gfn Try.prog 49 = true := by kernel_rfl
theorem rs49 : Try.f49.results.toList = [.tmp 4] := by kernel_rfl
theorem ok49 : codeOk Try.prog Try.f49.ntmps (Try.f49.body.getD .skip) = true := by kernel_rfl
theorem gf50 : gfn Try.prog 50 = true := by kernel_rfl
theorem rs50 : Try.f50.results.toList = [.tmp 2] := by kernel_rfl
theorem ok50 : codeOk Try.prog Try.f50.ntmps (Try.f50.body.getD .skip) = true := by kernel_rfl
theorem gf51 : gfn Try.prog 51 = true := by kernel_rfl
theorem rs51 : Try.f51.results.toList = [.tmp 4] := by kernel_rfl
theorem ok51 : codeOk Try.prog Try.f51.ntmps (Try.f51.body.getD .skip) = true := by kernel_rfl
theorem gf52 : gfn Try.prog 52 = true := by kernel_rfl
theorem rs52 : Try.f52.results.toList = [.tmp 2] := by kernel_rfl
theorem ok52 : codeOk Try.prog Try.f52.ntmps (Try.f52.body.getD .skip) = true := by kernel_rfl
theorem gf53 : gfn Try.prog 53 = true := by kernel_rfl
theorem rs53 : Try.f53.results.toList = [.tmp 4] := by kernel_rfl
theorem ok53 : codeOk Try.prog Try.f53.ntmps (Try.f53.body.getD .skip) = true := by kernel_rfl
theorem gf54 : gfn Try.prog 54 = true := by kernel_rfl
theorem rs54 : Try.f54.results.toList = [.tmp 2] := by kernel_rfl
theorem ok54 : codeOk Try.prog Try.f54.ntmps (Try.f54.body.getD .skip) = true := by kernel_rfl
theorem gf55 : gfn Try.prog 55 = true := by kernel_rfl
theorem rs55 : Try.f55.results.toList = [.cell 2 38] := by kernel_rfl
theorem ok55 : codeOk Try.prog Try.f55.ntmps (Try.f55.body.getD .skip) = true := by kernel_rfl
theorem gf56 : gfn Try.prog 56 = true := by kernel_rfl
theorem rs56 : Try.f56.results.toList = [.tmp 2] := by kernel_rfl
theorem ok56 : codeOk Try.prog Try.f56.ntmps (Try.f56.body.getD .skip) = true := by kernel_rfl
theorem gf57 : gfn Try.prog 57 = true := by kernel_rfl
theorem rs57 : Try.f57.results.toList = [.tmp 2] := by kernel_rfl
theorem ok57 : codeOk Try.prog Try.f57.ntmps (Try.f57.body.getD .skip) = true := by kernel_rfl
theorem gf58 : gfn Try.prog 58 = true := by kernel_rfl
theorem rs58 : Try.f58.results.toList = [.tmp 4, .tmp 5, .tmp 6] := by kernel_rfl
theorem ok58 : codeOk Try.prog Try.f58.ntmps (Try.f58.body.getD .skip) = true := by kernel_rfl
theorem gf59 : gfn Try.prog 59 = true := by kernel_rfl
theorem rs59 : Try.f59.results.toList = [.cell 0 96] := by kernel_rfl
theorem ok59 : codeOk Try.prog Try.f59.ntmps (Try.f59.body.getD .skip) = true := by kernel_rfl
theorem gf60 : gfn Try.prog 60 = true := by kernel_rfl
theorem rs60 : Try.f60.results.toList = [.cell 4 38] := by kernel_rfl
theorem ok60 : codeOk Try.prog Try.f60.ntmps (Try.f60.body.getD .skip) = true := by kernel_rfl
theorem gf61 : gfn Try.prog 61 = true := by kernel_rfl
theorem rs61 : Try.f61.results.toList = [.tmp 2] := by kernel_rfl
theorem ok61 : codeOk Try.prog Try.f61.ntmps (Try.f61.body.getD .skip) = true := by kernel_rfl
theorem gf62 : gfn Try.prog 62 = true := by kernel_rfl
theorem rs62 : Try.f62.results.toList = [.tmp 2] := by kernel_rfl
theorem ok62 : codeOk Try.prog Try.f62.ntmps (Try.f62.body.getD .skip) = true := by kernel_rfl
theorem gf63 : gfn Try.prog 63 = true := by kernel_rfl
theorem rs63 : Try.f63.results.toList = [.tmp 2] := by kernel_rfl
theorem ok63 : codeOk Try.prog Try.f63.ntmps (Try.f63.body.getD .skip) = true := by kernel_rfl
theorem gf64 : gfn Try.prog 64 = true := by kernel_rfl
theorem rs64 : Try.f64.results.toList = [.tmp 4] := by kernel_rfl
theorem ok64 : codeOk Try.prog Try.f64.ntmps (Try.f64.body.getD .skip) = true := by kernel_rfl
theorem gf65 : gfn Try.prog 65 = true := by kernel_rfl
theorem rs65 : Try.f65.results.toList = [.tmp 6] := by kernel_rfl
theorem ok65 : codeOk Try.prog Try.f65.ntmps (Try.f65.body.getD .skip) = true := by kernel_rfl
theorem gf66 : gfn Try.prog 66 = true := by kernel_rfl
theorem rs66 : Try.f66.results.toList = [.tmp 2] := by kernel_rfl
theorem ok66 : codeOk Try.prog Try.f66.ntmps (Try.f66.body.getD .skip) = true := by kernel_rfl
theorem gf67 : gfn Try.prog 67 = true := by kernel_rfl
theorem rs67 : Try.f67.results.toList = [.tmp 4] := by kernel_rfl
theorem ok67 : codeOk Try.prog Try.f67.ntmps (Try.f67.body.getD .skip) = true := by kernel_rfl
theorem gf68 : gfn Try.prog 68 = true := by kernel_rfl
theorem rs68 : Try.f68.results.toList = [] := by kernel_rfl
theorem ok68 : codeOk Try.prog Try.f68.ntmps (Try.f68.body.getD .skip) = true := by kernel_rfl
theorem gf69 : gfn Try.prog 69 = true := by kernel_rfl
theorem rs69 : Try.f69.results.toList = [.tmp 4] := by kernel_rfl
theorem ok69 : codeOk Try.prog Try.f69.ntmps (Try.f69.body.getD .skip) = true := by kernel_rfl
theorem gf70 : gfn Try.prog 70 = true := by kernel_rfl
theorem rs70 : Try.f70.results.toList = [] := by kernel_rfl
theorem ok70 : codeOk Try.prog Try.f70.ntmps (Try.f70.body.getD .skip) = true := by kernel_rfl
theorem gf71 : gfn Try.prog 71 = true := by kernel_rfl
theorem rs71 : Try.f71.results.toList = [.tmp 4] := by kernel_rfl
theorem ok71 : codeOk Try.prog Try.f71.ntmps (Try.f71.body.getD .skip) = true := by kernel_rfl
theorem gf72 : gfn Try.prog 72 = true := by kernel_rfl
theorem rs72 : Try.f72.results.toList = [.tmp 2] := by kernel_rfl
theorem ok72 : codeOk Try.prog Try.f72.ntmps (Try.f72.body.getD .skip) = true := by kernel_rfl
theorem gf73 : gfn Try.prog 73 = true := by kernel_rfl
theorem rs73 : Try.f73.results.toList = [.tmp 4] := by kernel_rfl
theorem ok73 : codeOk Try.prog Try.f73.ntmps (Try.f73.body.getD .skip) = true := by kernel_rfl
theorem gf74 : gfn Try.prog 74 = true := by kernel_rfl
theorem rs74 : Try.f74.results.toList = [.tmp 4] := by kernel_rfl
theorem ok74 : codeOk Try.prog Try.f74.ntmps (Try.f74.body.getD .skip) = true := by kernel_rfl
theorem gf75 : gfn Try.prog 75 = true := by kernel_rfl
theorem rs75 : Try.f75.results.toList = [.tmp 4] := by kernel_rfl
theorem ok75 : codeOk Try.prog Try.f75.ntmps (Try.f75.body.getD .skip) = true := by kernel_rfl
theorem gf76 : gfn Try.prog 76 = true := by kernel_rfl
theorem rs76 : Try.f76.results.toList = [.tmp 2] := by kernel_rfl
theorem ok76 : codeOk Try.prog Try.f76.ntmps (Try.f76.body.getD .skip) = true := by kernel_rfl
theorem gf77 : gfn Try.prog 77 = true := by kernel_rfl
theorem rs77 : Try.f77.results.toList = [.tmp 2] := by kernel_rfl
theorem ok77 : codeOk Try.prog Try.f77.ntmps (Try.f77.body.getD .skip) = true := by kernel_rfl
theorem gf94 : gfn Try.prog 94 = true := by kernel_rfl
theorem rs94 : Try.f94.results.toList = [] := by kernel_rfl
theorem ok94 : codeOk Try.prog Try.f94.ntmps (Try.f94.body.getD .skip) = true := by kernel_rfl
theorem gf95 : gfn Try.prog 95 = true := by kernel_rfl
theorem rs95 : Try.f95.results.toList = [] := by kernel_rfl
theorem ok95 : codeOk Try.prog Try.f95.ntmps (Try.f95.body.getD .skip) = true := by kernel_rfl
theorem gf96 : gfn Try.prog 96 = true := by kernel_rfl
theorem rs96 : Try.f96.results.toList = [] := by kernel_rfl
theorem ok96 : codeOk Try.prog Try.f96.ntmps (Try.f96.body.getD .skip) = true := by kernel_rfl
theorem gf97 : gfn Try.prog 97 = true := by kernel_rfl
theorem rs97 : Try.f97.results.toList = [] := by kernel_rfl
theorem ok97 : codeOk Try.prog Try.f97.ntmps (Try.f97.body.getD .skip) = true := by kernel_rfl
theorem gf98 : gfn Try.prog 98 = true := by kernel_rfl
theorem rs98 : Try.f98.results.toList = [] := by kernel_rfl
theorem ok98 : codeOk Try.prog Try.f98.ntmps (Try.f98.body.getD .skip) = true := by kernel_rfl
theorem gf99 : gfn Try.prog 99 = true := by kernel_rfl
theorem rs99 : Try.f99.results.toList = [] := by kernel_rfl
theorem ok99 : codeOk Try.prog Try.f99.ntmps (Try.f99.body.getD .skip) = true := by kernel_rfl
theorem gf100 : gfn Try.prog 100 = true := by kernel_rfl
theorem rs100 : Try.f100.results.toList = [] := by kernel_rfl
theorem ok100 : codeOk Try.prog Try.f100.ntmps (Try.f100.body.getD .skip) = true := by kernel_rfl
theorem gf101 : gfn Try.prog 101 = true := by kernel_rfl
theorem rs101 : Try.f101.results.toList = [] := by kernel_rfl
theorem ok101 : codeOk Try.prog Try.f101.ntmps (Try.f101.body.getD .skip) = true := by kernel_rfl
theorem gf102 : gfn Try.prog 102 = true := by kernel_rfl
theorem rs102 : Try.f102.results.toList = [.tmp 4] := by kernel_rfl
theorem ok102 : codeOk Try.prog Try.f102.ntmps (Try.f102.body.getD .skip) = true := by kernel_rfl
theorem gf103 : gfn Try.prog 103 = true := by kernel_rfl
theorem rs103 : Try.f103.results.toList = [] := by kernel_rfl
theorem ok103 : codeOk Try.prog Try.f103.ntmps (Try.f103.body.getD .skip) = true := by kernel_rfl
theorem gf104 : gfn Try.prog 104 = true := by kernel_rfl
theorem rs104 : Try.f104.results.toList = [] := by kernel_rfl
theorem ok104 : codeOk Try.prog Try.f104.ntmps (Try.f104.body.getD .skip) = true := by kernel_rfl
theorem gf105 : gfn Try.prog 105 = true := by kernel_rfl
theorem rs105 : Try.f105.results.toList = [] := by kernel_rfl
theorem ok105 : codeOk Try.prog Try.f105.ntmps (Try.f105.body.getD .skip) = true := by kernel_rfl
theorem gf106 : gfn Try.prog 106 = true := by kernel_rfl
theorem rs106 : Try.f106.results.toList = [] := by kernel_rfl
theorem ok106 : codeOk Try.prog Try.f106.ntmps (Try.f106.body.getD .skip) = true := by kernel_rfl
theorem gf107 : gfn Try.prog 107 = true := by kernel_rfl
theorem rs107 : Try.f107.results.toList = [.tmp 4, .tmp 5, .tmp 6] := by kernel_rfl
theorem ok107 : codeOk Try.prog Try.f107.ntmps (Try.f107.body.getD .skip) = true := by kernel_rfl
theorem sz1 : gsz Try.prog 1 = some (false, 1) := by kernel_rfl
theorem zr1 : gzero Try.prog 1 = some [.nilFunc] := by kernel_rfl
theorem ni1 : notIface Try.prog 1 = true := by kernel_rfl
theorem sz2 : gsz Try.prog 2 = some (false, 1) := by kernel_rfl
theorem zr2 : gzero Try.prog 2 = some [.int .i64 0] := by kernel_rfl
theorem ni2 : notIface Try.prog 2 = true := by kernel_rfl
theorem sz3 : gsz Try.prog 3 = some (false, 1) := by kernel_rfl
theorem zr3 : gzero Try.prog 3 = some [.int .i64 0] := by kernel_rfl
theorem ni3 : notIface Try.prog 3 = true := by kernel_rfl
theorem sz4 : gsz Try.prog 4 = some (false, 1) := by kernel_rfl
theorem zr4 : gzero Try.prog 4 = some [.bool false] := by kernel_rfl
theorem ni4 : notIface Try.prog 4 = true := by kernel_rfl
theorem sz5 : gsz Try.prog 5 = some (false, 1) := by kernel_rfl
theorem zr5 : gzero Try.prog 5 = some [.int .u8 0] := by kernel_rfl
theorem ni5 : notIface Try.prog 5 = true := by kernel_rfl
theorem sz6 : gsz Try.prog 6 = some (false, 1) := by kernel_rfl
theorem zr6 : gzero Try.prog 6 = some [.int .u8 0] := by kernel_rfl
theorem ni6 : notIface Try.prog 6 = true := by kernel_rfl
theorem sz7 : gsz Try.prog 7 = some (true, 4) := by kernel_rfl
theorem zr7 : gzero Try.prog 7 = some [.int .i64 0, .int .i64 0, .bool false, .int .u8 0] := by kernel_rfl
theorem fo7_0 : gfo Try.prog 7 0 = some (2, 0) := by kernel_rfl
theorem fo7_1 : gfo Try.prog 7 1 = some (3, 1) := by kernel_rfl
theorem fo7_2 : gfo Try.prog 7 2 = some (4, 2) := by kernel_rfl
theorem fo7_3 : gfo Try.prog 7 3 = some (6, 3) := by kernel_rfl
theorem sh7 : gshape Try.prog 7 = some (.fields [(0, 1), (1, 1), (2, 1), (3, 1)], [.int .i64 0, .int .i64 0, .bool false, .int .u8 0]) := by kernel_rfl
theorem ni7 : notIface Try.prog 7 = true := by kernel_rfl
theorem sz8 : gsz Try.prog 8 = some (true, 4) := by kernel_rfl
theorem zr8 : gzero Try.prog 8 = some [.int .i64 0, .int .i64 0, .bool false, .int .u8 0] := by kernel_rfl
theorem fo8_0 : gfo Try.prog 8 0 = some (2, 0) := by kernel_rfl
theorem fo8_1 : gfo Try.prog 8 1 = some (3, 1) := by kernel_rfl
theorem fo8_2 : gfo Try.prog 8 2 = some (4, 2) := by kernel_rfl
theorem fo8_3 : gfo Try.prog 8 3 = some (6, 3) := by kernel_rfl
theorem sh8 : gshape Try.prog 8 = some (.fields [(0, 1), (1, 1), (2, 1), (3, 1)], [.int .i64 0, .int .i64 0, .bool false, .int .u8 0]) := by kernel_rfl
theorem ni8 : notIface Try.prog 8 = true := by kernel_rfl
theorem sz9 : gsz Try.prog 9 = some (false, 1) := by kernel_rfl
theorem zr9 : gzero Try.prog 9 = some [.string ByteArray.empty] := by kernel_rfl
theorem ni9 : notIface Try.prog 9 = true := by kernel_rfl
theorem sz10 : gsz Try.prog 10 = some (false, 1) := by kernel_rfl
theorem zr10 : gzero Try.prog 10 = some [.string ByteArray.empty] := by kernel_rfl
theorem ni10 : notIface Try.prog 10 = true := by kernel_rfl
theorem sz11 : gsz Try.prog 11 = some (false, 1) := by kernel_rfl
theorem zr11 : gzero Try.prog 11 = some [.string ByteArray.empty] := by kernel_rfl
theorem ni11 : notIface Try.prog 11 = true := by kernel_rfl
theorem sz12 : gsz Try.prog 12 = some (false, 1) := by kernel_rfl
theorem zr12 : gzero Try.prog 12 = some [.int .u64 0] := by kernel_rfl
theorem ni12 : notIface Try.prog 12 = true := by kernel_rfl
theorem sz13 : gsz Try.prog 13 = some (true, 2) := by kernel_rfl
theorem zr13 : gzero Try.prog 13 = some [.string ByteArray.empty, .int .u64 0] := by kernel_rfl
theorem fo13_0 : gfo Try.prog 13 0 = some (9, 0) := by kernel_rfl
theorem fo13_1 : gfo Try.prog 13 1 = some (12, 1) := by kernel_rfl
theorem sh13 : gshape Try.prog 13 = some (.fields [(0, 1), (1, 1)], [.string ByteArray.empty, .int .u64 0]) := by kernel_rfl
theorem ni13 : notIface Try.prog 13 = true := by kernel_rfl
theorem sz14 : gsz Try.prog 14 = some (true, 2) := by kernel_rfl
theorem zr14 : gzero Try.prog 14 = some [.string ByteArray.empty, .int .u64 0] := by kernel_rfl
theorem fo14_0 : gfo Try.prog 14 0 = some (9, 0) := by kernel_rfl
theorem fo14_1 : gfo Try.prog 14 1 = some (12, 1) := by kernel_rfl
theorem sh14 : gshape Try.prog 14 = some (.fields [(0, 1), (1, 1)], [.string ByteArray.empty, .int .u64 0]) := by kernel_rfl
theorem ni14 : notIface Try.prog 14 = true := by kernel_rfl
theorem sz15 : gsz Try.prog 15 = some (false, 1) := by kernel_rfl
theorem zr15 : gzero Try.prog 15 = some [.pointer none] := by kernel_rfl
theorem ni15 : notIface Try.prog 15 = true := by kernel_rfl
theorem sz16 : gsz Try.prog 16 = some (false, 1) := by kernel_rfl
theorem zr16 : gzero Try.prog 16 = some [.pointer none] := by kernel_rfl
theorem ni16 : notIface Try.prog 16 = true := by kernel_rfl
theorem sz17 : gsz Try.prog 17 = some (false, 1) := by kernel_rfl
theorem zr17 : gzero Try.prog 17 = some [.pointer none] := by kernel_rfl
theorem ni17 : notIface Try.prog 17 = true := by kernel_rfl
theorem sz18 : gsz Try.prog 18 = some (true, 1) := by kernel_rfl
theorem zr18 : gzero Try.prog 18 = some [.pointer none] := by kernel_rfl
theorem fo18_0 : gfo Try.prog 18 0 = some (17, 0) := by kernel_rfl
theorem sh18 : gshape Try.prog 18 = some (.fields [(0, 1)], [.pointer none]) := by kernel_rfl
theorem ni18 : notIface Try.prog 18 = true := by kernel_rfl
theorem sz19 : gsz Try.prog 19 = some (true, 1) := by kernel_rfl
theorem zr19 : gzero Try.prog 19 = some [.pointer none] := by kernel_rfl
theorem fo19_0 : gfo Try.prog 19 0 = some (17, 0) := by kernel_rfl
theorem sh19 : gshape Try.prog 19 = some (.fields [(0, 1)], [.pointer none]) := by kernel_rfl
theorem ni19 : notIface Try.prog 19 = true := by kernel_rfl
theorem sz20 : gsz Try.prog 20 = some (false, 1) := by kernel_rfl
theorem zr20 : gzero Try.prog 20 = some [.nilIface] := by kernel_rfl
theorem sz21 : gsz Try.prog 21 = some (false, 1) := by kernel_rfl
theorem zr21 : gzero Try.prog 21 = some [.int .i32 0] := by kernel_rfl
theorem ni21 : notIface Try.prog 21 = true := by kernel_rfl
theorem sz22 : gsz Try.prog 22 = some (false, 1) := by kernel_rfl
theorem el22 : gel Try.prog 22 = some (5, 1, 1, .int .u8 0) := by kernel_rfl
theorem zr22 : gzero Try.prog 22 = some [.slice none 0 0] := by kernel_rfl
theorem ni22 : notIface Try.prog 22 = true := by kernel_rfl
theorem sz23 : gsz Try.prog 23 = some (false, 1) := by kernel_rfl
theorem zr23 : gzero Try.prog 23 = some [.int .i64 0] := by kernel_rfl
theorem ni23 : notIface Try.prog 23 = true := by kernel_rfl
theorem sz24 : gsz Try.prog 24 = some (false, 1) := by kernel_rfl
theorem el24 : gel Try.prog 24 = some (73, 3, 56, .agg #[.slice none 0 0, .slice none 0 0, .int .i64 0]) := by kernel_rfl
theorem zr24 : gzero Try.prog 24 = some [.slice none 0 0] := by kernel_rfl
theorem ni24 : notIface Try.prog 24 = true := by kernel_rfl
theorem sz25 : gsz Try.prog 25 = some (false, 1) := by kernel_rfl
theorem el25 : gel Try.prog 25 = some (76, 4, 64, .agg #[.int .i64 0, .int .i64 0, .slice none 0 0, .slice none 0 0]) := by kernel_rfl
theorem zr25 : gzero Try.prog 25 = some [.slice none 0 0] := by kernel_rfl
theorem ni25 : notIface Try.prog 25 = true := by kernel_rfl
theorem sz26 : gsz Try.prog 26 = some (true, 9) := by kernel_rfl
theorem zr26 : gzero Try.prog 26 = some [.int .i64 0, .int .i64 0, .bool false, .bool false, .slice none 0 0, .int .i64 0, .slice none 0 0, .slice none 0 0, .bool false] := by kernel_rfl
theorem fo26_0 : gfo Try.prog 26 0 = some (23, 0) := by kernel_rfl
theorem fo26_1 : gfo Try.prog 26 1 = some (3, 1) := by kernel_rfl
theorem fo26_2 : gfo Try.prog 26 2 = some (4, 2) := by kernel_rfl
theorem fo26_3 : gfo Try.prog 26 3 = some (4, 3) := by kernel_rfl
theorem fo26_4 : gfo Try.prog 26 4 = some (22, 4) := by kernel_rfl
theorem fo26_5 : gfo Try.prog 26 5 = some (3, 5) := by kernel_rfl
theorem fo26_6 : gfo Try.prog 26 6 = some (24, 6) := by kernel_rfl
theorem fo26_7 : gfo Try.prog 26 7 = some (25, 7) := by kernel_rfl
theorem fo26_8 : gfo Try.prog 26 8 = some (4, 8) := by kernel_rfl
theorem sh26 : gshape Try.prog 26 = some (.fields [(0, 1), (1, 1), (2, 1), (3, 1), (4, 1), (5, 1), (6, 1), (7, 1), (8, 1)], [.int .i64 0, .int .i64 0, .bool false, .bool false, .slice none 0 0, .int .i64 0, .slice none 0 0, .slice none 0 0, .bool false]) := by kernel_rfl
theorem ni26 : notIface Try.prog 26 = true := by kernel_rfl
theorem sz27 : gsz Try.prog 27 = some (true, 9) := by kernel_rfl
theorem zr27 : gzero Try.prog 27 = some [.int .i64 0, .int .i64 0, .bool false, .bool false, .slice none 0 0, .int .i64 0, .slice none 0 0, .slice none 0 0, .bool false] := by kernel_rfl
theorem fo27_0 : gfo Try.prog 27 0 = some (23, 0) := by kernel_rfl
theorem fo27_1 : gfo Try.prog 27 1 = some (3, 1) := by kernel_rfl
theorem fo27_2 : gfo Try.prog 27 2 = some (4, 2) := by kernel_rfl
theorem fo27_3 : gfo Try.prog 27 3 = some (4, 3) := by kernel_rfl
theorem fo27_4 : gfo Try.prog 27 4 = some (22, 4) := by kernel_rfl
theorem fo27_5 : gfo Try.prog 27 5 = some (3, 5) := by kernel_rfl
theorem fo27_6 : gfo Try.prog 27 6 = some (24, 6) := by kernel_rfl
theorem fo27_7 : gfo Try.prog 27 7 = some (25, 7) := by kernel_rfl
theorem fo27_8 : gfo Try.prog 27 8 = some (4, 8) := by kernel_rfl
theorem sh27 : gshape Try.prog 27 = some (.fields [(0, 1), (1, 1), (2, 1), (3, 1), (4, 1), (5, 1), (6, 1), (7, 1), (8, 1)], [.int .i64 0, .int .i64 0, .bool false, .bool false, .slice none 0 0, .int .i64 0, .slice none 0 0, .slice none 0 0, .bool false]) := by kernel_rfl
theorem ni27 : notIface Try.prog 27 = true := by kernel_rfl
theorem sz28 : gsz Try.prog 28 = some (false, 1) := by kernel_rfl
theorem zr28 : gzero Try.prog 28 = some [.nilFunc] := by kernel_rfl
theorem ni28 : notIface Try.prog 28 = true := by kernel_rfl
theorem sz29 : gsz Try.prog 29 = some (false, 1) := by kernel_rfl
theorem zr29 : gzero Try.prog 29 = some [.nilFunc] := by kernel_rfl
theorem ni29 : notIface Try.prog 29 = true := by kernel_rfl
theorem sz31 : gsz Try.prog 31 = some (false, 1) := by kernel_rfl
theorem zr31 : gzero Try.prog 31 = some [.nilFunc] := by kernel_rfl
theorem ni31 : notIface Try.prog 31 = true := by kernel_rfl
theorem sz32 : gsz Try.prog 32 = some (false, 1) := by kernel_rfl
theorem zr32 : gzero Try.prog 32 = some [.nilFunc] := by kernel_rfl
theorem ni32 : notIface Try.prog 32 = true := by kernel_rfl
theorem sz33 : gsz Try.prog 33 = some (false, 1) := by kernel_rfl
theorem zr33 : gzero Try.prog 33 = some [.nilFunc] := by kernel_rfl
theorem ni33 : notIface Try.prog 33 = true := by kernel_rfl
theorem sz34 : gsz Try.prog 34 = some (false, 1) := by kernel_rfl
theorem zr34 : gzero Try.prog 34 = some [.nilFunc] := by kernel_rfl
theorem ni34 : notIface Try.prog 34 = true := by kernel_rfl
theorem sz35 : gsz Try.prog 35 = some (false, 1) := by kernel_rfl
theorem zr35 : gzero Try.prog 35 = some [.nilFunc] := by kernel_rfl
theorem ni35 : notIface Try.prog 35 = true := by kernel_rfl
theorem sz36 : gsz Try.prog 36 = some (false, 1) := by kernel_rfl
theorem el36 : gel Try.prog 36 = some (120, 2, 48, .agg #[.slice none 0 0, .slice none 0 0]) := by kernel_rfl
theorem zr36 : gzero Try.prog 36 = some [.slice none 0 0] := by kernel_rfl
theorem ni36 : notIface Try.prog 36 = true := by kernel_rfl
theorem sz37 : gsz Try.prog 37 = some (true, 10) := by kernel_rfl
theorem zr37 : gzero Try.prog 37 = some [.int .i64 0, .slice none 0 0, .int .i64 0, .int .i64 0, .int .i64 0, .bool false, .int .i64 0, .int .i64 0, .int .i64 0, .slice none 0 0] := by kernel_rfl
theorem fo37_0 : gfo Try.prog 37 0 = some (3, 0) := by kernel_rfl
theorem fo37_1 : gfo Try.prog 37 1 = some (22, 1) := by kernel_rfl
theorem fo37_2 : gfo Try.prog 37 2 = some (3, 2) := by kernel_rfl
theorem fo37_3 : gfo Try.prog 37 3 = some (3, 3) := by kernel_rfl
theorem fo37_4 : gfo Try.prog 37 4 = some (3, 4) := by kernel_rfl
theorem fo37_5 : gfo Try.prog 37 5 = some (4, 5) := by kernel_rfl
theorem fo37_6 : gfo Try.prog 37 6 = some (3, 6) := by kernel_rfl
theorem fo37_7 : gfo Try.prog 37 7 = some (3, 7) := by kernel_rfl
theorem fo37_8 : gfo Try.prog 37 8 = some (3, 8) := by kernel_rfl
theorem fo37_9 : gfo Try.prog 37 9 = some (36, 9) := by kernel_rfl
theorem sh37 : gshape Try.prog 37 = some (.fields [(0, 1), (1, 1), (2, 1), (3, 1), (4, 1), (5, 1), (6, 1), (7, 1), (8, 1), (9, 1)], [.int .i64 0, .slice none 0 0, .int .i64 0, .int .i64 0, .int .i64 0, .bool false, .int .i64 0, .int .i64 0, .int .i64 0, .slice none 0 0]) := by kernel_rfl
theorem ni37 : notIface Try.prog 37 = true := by kernel_rfl
theorem sz38 : gsz Try.prog 38 = some (true, 10) := by kernel_rfl
theorem zr38 : gzero Try.prog 38 = some [.int .i64 0, .slice none 0 0, .int .i64 0, .int .i64 0, .int .i64 0, .bool false, .int .i64 0, .int .i64 0, .int .i64 0, .slice none 0 0] := by kernel_rfl
theorem fo38_0 : gfo Try.prog 38 0 = some (3, 0) := by kernel_rfl
theorem fo38_1 : gfo Try.prog 38 1 = some (22, 1) := by kernel_rfl
theorem fo38_2 : gfo Try.prog 38 2 = some (3, 2) := by kernel_rfl
theorem fo38_3 : gfo Try.prog 38 3 = some (3, 3) := by kernel_rfl
theorem fo38_4 : gfo Try.prog 38 4 = some (3, 4) := by kernel_rfl
theorem fo38_5 : gfo Try.prog 38 5 = some (4, 5) := by kernel_rfl
theorem fo38_6 : gfo Try.prog 38 6 = some (3, 6) := by kernel_rfl
theorem fo38_7 : gfo Try.prog 38 7 = some (3, 7) := by kernel_rfl
theorem fo38_8 : gfo Try.prog 38 8 = some (3, 8) := by kernel_rfl
theorem fo38_9 : gfo Try.prog 38 9 = some (36, 9) := by kernel_rfl
theorem sh38 : gshape Try.prog 38 = some (.fields [(0, 1), (1, 1), (2, 1), (3, 1), (4, 1), (5, 1), (6, 1), (7, 1), (8, 1), (9, 1)], [.int .i64 0, .slice none 0 0, .int .i64 0, .int .i64 0, .int .i64 0, .bool false, .int .i64 0, .int .i64 0, .int .i64 0, .slice none 0 0]) := by kernel_rfl
theorem ni38 : notIface Try.prog 38 = true := by kernel_rfl
theorem sz39 : gsz Try.prog 39 = some (false, 1) := by kernel_rfl
theorem el39 : gel Try.prog 39 = some (3, 1, 8, .int .i64 0) := by kernel_rfl
theorem zr39 : gzero Try.prog 39 = some [.slice none 0 0] := by kernel_rfl
theorem ni39 : notIface Try.prog 39 = true := by kernel_rfl
theorem sz41 : gsz Try.prog 41 = some (false, 1) := by kernel_rfl
theorem zr41 : gzero Try.prog 41 = some [.nilFunc] := by kernel_rfl
theorem ni41 : notIface Try.prog 41 = true := by kernel_rfl
theorem sz42 : gsz Try.prog 42 = some (false, 1) := by kernel_rfl
theorem zr42 : gzero Try.prog 42 = some [.nilFunc] := by kernel_rfl
theorem ni42 : notIface Try.prog 42 = true := by kernel_rfl
theorem sz43 : gsz Try.prog 43 = some (false, 1) := by kernel_rfl
theorem zr43 : gzero Try.prog 43 = some [.nilFunc] := by kernel_rfl
theorem ni43 : notIface Try.prog 43 = true := by kernel_rfl
theorem sz45 : gsz Try.prog 45 = some (false, 1) := by kernel_rfl
theorem zr45 : gzero Try.prog 45 = some [.nilFunc] := by kernel_rfl
theorem ni45 : notIface Try.prog 45 = true := by kernel_rfl
theorem sz47 : gsz Try.prog 47 = some (false, 1) := by kernel_rfl
theorem zr47 : gzero Try.prog 47 = some [.nilFunc] := by kernel_rfl
theorem ni47 : notIface Try.prog 47 = true := by kernel_rfl
theorem sz48 : gsz Try.prog 48 = some (false, 1) := by kernel_rfl
theorem zr48 : gzero Try.prog 48 = some [.nilFunc] := by kernel_rfl
theorem ni48 : notIface Try.prog 48 = true := by kernel_rfl
theorem sz49 : gsz Try.prog 49 = some (false, 1) := by kernel_rfl
theorem zr49 : gzero Try.prog 49 = some [.nilFunc] := by kernel_rfl
theorem ni49 : notIface Try.prog 49 = true := by kernel_rfl
theorem sz50 : gsz Try.prog 50 = some (false, 1) := by kernel_rfl
theorem zr50 : gzero Try.prog 50 = some [.pointer none] := by kernel_rfl
theorem ni50 : notIface Try.prog 50 = true := by kernel_rfl
theorem sz51 : gsz Try.prog 51 = some (false, 1) := by kernel_rfl
theorem zr51 : gzero Try.prog 51 = some [.nilFunc] := by kernel_rfl
theorem ni51 : notIface Try.prog 51 = true := by kernel_rfl
theorem sz52 : gsz Try.prog 52 = some (true, 1) := by kernel_rfl
theorem zr52 : gzero Try.prog 52 = some [.pointer none] := by kernel_rfl
theorem fo52_0 : gfo Try.prog 52 0 = some (50, 0) := by kernel_rfl
theorem sh52 : gshape Try.prog 52 = some (.fields [(0, 1)], [.pointer none]) := by kernel_rfl
theorem ni52 : notIface Try.prog 52 = true := by kernel_rfl
theorem sz53 : gsz Try.prog 53 = some (true, 1) := by kernel_rfl
theorem zr53 : gzero Try.prog 53 = some [.pointer none] := by kernel_rfl
theorem fo53_0 : gfo Try.prog 53 0 = some (50, 0) := by kernel_rfl
theorem sh53 : gshape Try.prog 53 = some (.fields [(0, 1)], [.pointer none]) := by kernel_rfl
theorem ni53 : notIface Try.prog 53 = true := by kernel_rfl
theorem sz54 : gsz Try.prog 54 = some (false, 1) := by kernel_rfl
theorem zr54 : gzero Try.prog 54 = some [.nilFunc] := by kernel_rfl
theorem ni54 : notIface Try.prog 54 = true := by kernel_rfl
theorem sz55 : gsz Try.prog 55 = some (false, 1) := by kernel_rfl
theorem zr55 : gzero Try.prog 55 = some [.nilFunc] := by kernel_rfl
theorem ni55 : notIface Try.prog 55 = true := by kernel_rfl
theorem sz56 : gsz Try.prog 56 = some (false, 1) := by kernel_rfl
theorem zr56 : gzero Try.prog 56 = some [.pointer none] := by kernel_rfl
theorem ni56 : notIface Try.prog 56 = true := by kernel_rfl
theorem sz57 : gsz Try.prog 57 = some (false, 1) := by kernel_rfl
theorem zr57 : gzero Try.prog 57 = some [.nilFunc] := by kernel_rfl
theorem ni57 : notIface Try.prog 57 = true := by kernel_rfl
theorem sz58 : gsz Try.prog 58 = some (false, 1) := by kernel_rfl
theorem zr58 : gzero Try.prog 58 = some [.pointer none] := by kernel_rfl
theorem ni58 : notIface Try.prog 58 = true := by kernel_rfl
theorem sz59 : gsz Try.prog 59 = some (true, 2) := by kernel_rfl
theorem zr59 : gzero Try.prog 59 = some [.slice none 0 0, .int .i64 0] := by kernel_rfl
theorem fo59_0 : gfo Try.prog 59 0 = some (22, 0) := by kernel_rfl
theorem fo59_1 : gfo Try.prog 59 1 = some (23, 1) := by kernel_rfl
theorem sh59 : gshape Try.prog 59 = some (.fields [(0, 1), (1, 1)], [.slice none 0 0, .int .i64 0]) := by kernel_rfl
theorem ni59 : notIface Try.prog 59 = true := by kernel_rfl
theorem sz60 : gsz Try.prog 60 = some (true, 2) := by kernel_rfl
theorem zr60 : gzero Try.prog 60 = some [.slice none 0 0, .int .i64 0] := by kernel_rfl
theorem fo60_0 : gfo Try.prog 60 0 = some (22, 0) := by kernel_rfl
theorem fo60_1 : gfo Try.prog 60 1 = some (23, 1) := by kernel_rfl
theorem sh60 : gshape Try.prog 60 = some (.fields [(0, 1), (1, 1)], [.slice none 0 0, .int .i64 0]) := by kernel_rfl
theorem ni60 : notIface Try.prog 60 = true := by kernel_rfl
theorem sz61 : gsz Try.prog 61 = some (false, 1) := by kernel_rfl
theorem zr61 : gzero Try.prog 61 = some [.nilFunc] := by kernel_rfl
theorem ni61 : notIface Try.prog 61 = true := by kernel_rfl
theorem sz62 : gsz Try.prog 62 = some (false, 1) := by kernel_rfl
theorem zr62 : gzero Try.prog 62 = some [.nilFunc] := by kernel_rfl
theorem ni62 : notIface Try.prog 62 = true := by kernel_rfl
theorem sz63 : gsz Try.prog 63 = some (false, 1) := by kernel_rfl
theorem zr63 : gzero Try.prog 63 = some [.pointer none] := by kernel_rfl
theorem ni63 : notIface Try.prog 63 = true := by kernel_rfl
theorem sz64 : gsz Try.prog 64 = some (true, 1) := by kernel_rfl
theorem zr64 : gzero Try.prog 64 = some [.slice none 0 0] := by kernel_rfl
theorem fo64_0 : gfo Try.prog 64 0 = some (22, 0) := by kernel_rfl
theorem sh64 : gshape Try.prog 64 = some (.fields [(0, 1)], [.slice none 0 0]) := by kernel_rfl
theorem ni64 : notIface Try.prog 64 = true := by kernel_rfl
theorem sz65 : gsz Try.prog 65 = some (true, 1) := by kernel_rfl
theorem zr65 : gzero Try.prog 65 = some [.slice none 0 0] := by kernel_rfl
theorem fo65_0 : gfo Try.prog 65 0 = some (22, 0) := by kernel_rfl
theorem sh65 : gshape Try.prog 65 = some (.fields [(0, 1)], [.slice none 0 0]) := by kernel_rfl
theorem ni65 : notIface Try.prog 65 = true := by kernel_rfl
theorem sz66 : gsz Try.prog 66 = some (false, 1) := by kernel_rfl
theorem zr66 : gzero Try.prog 66 = some [.nilFunc] := by kernel_rfl
theorem ni66 : notIface Try.prog 66 = true := by kernel_rfl
theorem sz67 : gsz Try.prog 67 = some (false, 1) := by kernel_rfl
theorem zr67 : gzero Try.prog 67 = some [.nilFunc] := by kernel_rfl
theorem ni67 : notIface Try.prog 67 = true := by kernel_rfl
theorem sz68 : gsz Try.prog 68 = some (false, 1) := by kernel_rfl
theorem zr68 : gzero Try.prog 68 = some [.nilFunc] := by kernel_rfl
theorem ni68 : notIface Try.prog 68 = true := by kernel_rfl
theorem sz69 : gsz Try.prog 69 = some (false, 1) := by kernel_rfl
theorem zr69 : gzero Try.prog 69 = some [.nilFunc] := by kernel_rfl
theorem ni69 : notIface Try.prog 69 = true := by kernel_rfl
theorem sz70 : gsz Try.prog 70 = some (false, 1) := by kernel_rfl
theorem zr70 : gzero Try.prog 70 = some [.nilFunc] := by kernel_rfl
theorem ni70 : notIface Try.prog 70 = true := by kernel_rfl
theorem sz71 : gsz Try.prog 71 = some (false, 1) := by kernel_rfl
theorem zr71 : gzero Try.prog 71 = some [.nilFunc] := by kernel_rfl
theorem ni71 : notIface Try.prog 71 = true := by kernel_rfl
theorem sz72 : gsz Try.prog 72 = some (true, 3) := by kernel_rfl
theorem zr72 : gzero Try.prog 72 = some [.slice none 0 0, .slice none 0 0, .int .i64 0] := by kernel_rfl
theorem fo72_0 : gfo Try.prog 72 0 = some (22, 0) := by kernel_rfl
theorem fo72_1 : gfo Try.prog 72 1 = some (22, 1) := by kernel_rfl
theorem fo72_2 : gfo Try.prog 72 2 = some (3, 2) := by kernel_rfl
theorem sh72 : gshape Try.prog 72 = some (.fields [(0, 1), (1, 1), (2, 1)], [.slice none 0 0, .slice none 0 0, .int .i64 0]) := by kernel_rfl
theorem ni72 : notIface Try.prog 72 = true := by kernel_rfl
theorem sz73 : gsz Try.prog 73 = some (true, 3) := by kernel_rfl
theorem zr73 : gzero Try.prog 73 = some [.slice none 0 0, .slice none 0 0, .int .i64 0] := by kernel_rfl
theorem fo73_0 : gfo Try.prog 73 0 = some (22, 0) := by kernel_rfl
theorem fo73_1 : gfo Try.prog 73 1 = some (22, 1) := by kernel_rfl
theorem fo73_2 : gfo Try.prog 73 2 = some (3, 2) := by kernel_rfl
theorem sh73 : gshape Try.prog 73 = some (.fields [(0, 1), (1, 1), (2, 1)], [.slice none 0 0, .slice none 0 0, .int .i64 0]) := by kernel_rfl
theorem ni73 : notIface Try.prog 73 = true := by kernel_rfl
theorem sz74 : gsz Try.prog 74 = some (false, 1) := by kernel_rfl
theorem zr74 : gzero Try.prog 74 = some [.nilFunc] := by kernel_rfl
theorem ni74 : notIface Try.prog 74 = true := by kernel_rfl
theorem sz75 : gsz Try.prog 75 = some (true, 4) := by kernel_rfl
theorem zr75 : gzero Try.prog 75 = some [.int .i64 0, .int .i64 0, .slice none 0 0, .slice none 0 0] := by kernel_rfl
theorem fo75_0 : gfo Try.prog 75 0 = some (3, 0) := by kernel_rfl
theorem fo75_1 : gfo Try.prog 75 1 = some (3, 1) := by kernel_rfl
theorem fo75_2 : gfo Try.prog 75 2 = some (22, 2) := by kernel_rfl
theorem fo75_3 : gfo Try.prog 75 3 = some (22, 3) := by kernel_rfl
theorem sh75 : gshape Try.prog 75 = some (.fields [(0, 1), (1, 1), (2, 1), (3, 1)], [.int .i64 0, .int .i64 0, .slice none 0 0, .slice none 0 0]) := by kernel_rfl
theorem ni75 : notIface Try.prog 75 = true := by kernel_rfl
theorem sz76 : gsz Try.prog 76 = some (true, 4) := by kernel_rfl
theorem zr76 : gzero Try.prog 76 = some [.int .i64 0, .int .i64 0, .slice none 0 0, .slice none 0 0] := by kernel_rfl
theorem fo76_0 : gfo Try.prog 76 0 = some (3, 0) := by kernel_rfl
theorem fo76_1 : gfo Try.prog 76 1 = some (3, 1) := by kernel_rfl
theorem fo76_2 : gfo Try.prog 76 2 = some (22, 2) := by kernel_rfl
theorem fo76_3 : gfo Try.prog 76 3 = some (22, 3) := by kernel_rfl
theorem sh76 : gshape Try.prog 76 = some (.fields [(0, 1), (1, 1), (2, 1), (3, 1)], [.int .i64 0, .int .i64 0, .slice none 0 0, .slice none 0 0]) := by kernel_rfl
theorem ni76 : notIface Try.prog 76 = true := by kernel_rfl
theorem sz77 : gsz Try.prog 77 = some (true, 1) := by kernel_rfl
theorem zr77 : gzero Try.prog 77 = some [.bool false] := by kernel_rfl
theorem fo77_0 : gfo Try.prog 77 0 = some (4, 0) := by kernel_rfl
theorem sh77 : gshape Try.prog 77 = some (.fields [(0, 1)], [.bool false]) := by kernel_rfl
theorem ni77 : notIface Try.prog 77 = true := by kernel_rfl
theorem sz78 : gsz Try.prog 78 = some (true, 1) := by kernel_rfl
theorem zr78 : gzero Try.prog 78 = some [.bool false] := by kernel_rfl
theorem fo78_0 : gfo Try.prog 78 0 = some (4, 0) := by kernel_rfl
theorem sh78 : gshape Try.prog 78 = some (.fields [(0, 1)], [.bool false]) := by kernel_rfl
theorem ni78 : notIface Try.prog 78 = true := by kernel_rfl
theorem sz79 : gsz Try.prog 79 = some (false, 1) := by kernel_rfl
theorem zr79 : gzero Try.prog 79 = some [.nilFunc] := by kernel_rfl
theorem ni79 : notIface Try.prog 79 = true := by kernel_rfl
theorem sz80 : gsz Try.prog 80 = some (false, 1) := by kernel_rfl
theorem zr80 : gzero Try.prog 80 = some [.pointer none] := by kernel_rfl
theorem ni80 : notIface Try.prog 80 = true := by kernel_rfl
theorem sz81 : gsz Try.prog 81 = some (false, 1) := by kernel_rfl
theorem zr81 : gzero Try.prog 81 = some [.pointer none] := by kernel_rfl
theorem ni81 : notIface Try.prog 81 = true := by kernel_rfl
theorem sz82 : gsz Try.prog 82 = some (false, 1) := by kernel_rfl
theorem zr82 : gzero Try.prog 82 = some [.pointer none] := by kernel_rfl
theorem ni82 : notIface Try.prog 82 = true := by kernel_rfl
theorem sz83 : gsz Try.prog 83 = some (true, 1) := by kernel_rfl
theorem zr83 : gzero Try.prog 83 = some [.slice none 0 0] := by kernel_rfl
theorem fo83_0 : gfo Try.prog 83 0 = some (22, 0) := by kernel_rfl
theorem sh83 : gshape Try.prog 83 = some (.fields [(0, 1)], [.slice none 0 0]) := by kernel_rfl
theorem ni83 : notIface Try.prog 83 = true := by kernel_rfl
theorem sz84 : gsz Try.prog 84 = some (true, 1) := by kernel_rfl
theorem zr84 : gzero Try.prog 84 = some [.slice none 0 0] := by kernel_rfl
theorem fo84_0 : gfo Try.prog 84 0 = some (22, 0) := by kernel_rfl
theorem sh84 : gshape Try.prog 84 = some (.fields [(0, 1)], [.slice none 0 0]) := by kernel_rfl
theorem ni84 : notIface Try.prog 84 = true := by kernel_rfl
theorem sz85 : gsz Try.prog 85 = some (false, 1) := by kernel_rfl
theorem zr85 : gzero Try.prog 85 = some [.pointer none] := by kernel_rfl
theorem ni85 : notIface Try.prog 85 = true := by kernel_rfl
theorem sz86 : gsz Try.prog 86 = some (false, 1) := by kernel_rfl
theorem zr86 : gzero Try.prog 86 = some [.nilFunc] := by kernel_rfl
theorem ni86 : notIface Try.prog 86 = true := by kernel_rfl
theorem sz87 : gsz Try.prog 87 = some (true, 3) := by kernel_rfl
theorem zr87 : gzero Try.prog 87 = some [.pointer none, .nilFunc, .int .i64 0] := by kernel_rfl
theorem fo87_0 : gfo Try.prog 87 0 = some (50, 0) := by kernel_rfl
theorem fo87_1 : gfo Try.prog 87 1 = some (86, 1) := by kernel_rfl
theorem fo87_2 : gfo Try.prog 87 2 = some (23, 2) := by kernel_rfl
theorem sh87 : gshape Try.prog 87 = some (.fields [(0, 1), (1, 1), (2, 1)], [.pointer none, .nilFunc, .int .i64 0]) := by kernel_rfl
theorem ni87 : notIface Try.prog 87 = true := by kernel_rfl
theorem sz88 : gsz Try.prog 88 = some (true, 3) := by kernel_rfl
theorem zr88 : gzero Try.prog 88 = some [.pointer none, .nilFunc, .int .i64 0] := by kernel_rfl
theorem fo88_0 : gfo Try.prog 88 0 = some (50, 0) := by kernel_rfl
theorem fo88_1 : gfo Try.prog 88 1 = some (86, 1) := by kernel_rfl
theorem fo88_2 : gfo Try.prog 88 2 = some (23, 2) := by kernel_rfl
theorem sh88 : gshape Try.prog 88 = some (.fields [(0, 1), (1, 1), (2, 1)], [.pointer none, .nilFunc, .int .i64 0]) := by kernel_rfl
theorem ni88 : notIface Try.prog 88 = true := by kernel_rfl
theorem sz89 : gsz Try.prog 89 = some (false, 1) := by kernel_rfl
theorem zr89 : gzero Try.prog 89 = some [.nilFunc] := by kernel_rfl
theorem ni89 : notIface Try.prog 89 = true := by kernel_rfl
theorem sz90 : gsz Try.prog 90 = some (false, 1) := by kernel_rfl
theorem zr90 : gzero Try.prog 90 = some [.nilFunc] := by kernel_rfl
theorem ni90 : notIface Try.prog 90 = true := by kernel_rfl
theorem sz91 : gsz Try.prog 91 = some (false, 1) := by kernel_rfl
theorem zr91 : gzero Try.prog 91 = some [.nilFunc] := by kernel_rfl
theorem ni91 : notIface Try.prog 91 = true := by kernel_rfl
theorem sz92 : gsz Try.prog 92 = some (false, 1) := by kernel_rfl
theorem zr92 : gzero Try.prog 92 = some [.nilFunc] := by kernel_rfl
theorem ni92 : notIface Try.prog 92 = true := by kernel_rfl
theorem sz94 : gsz Try.prog 94 = some (false, 1) := by kernel_rfl
theorem zr94 : gzero Try.prog 94 = some [.nilFunc] := by kernel_rfl
theorem ni94 : notIface Try.prog 94 = true := by kernel_rfl
theorem sz95 : gsz Try.prog 95 = some (true, 8) := by kernel_rfl
theorem zr95 : gzero Try.prog 95 = some [.int .i64 0, .int .i64 0, .int .i64 0, .int .i64 0, .int .i64 0, .int .i64 0, .int .i64 0, .int .i64 0] := by kernel_rfl
theorem fo95_0 : gfo Try.prog 95 0 = some (3, 0) := by kernel_rfl
theorem fo95_1 : gfo Try.prog 95 1 = some (3, 1) := by kernel_rfl
theorem fo95_2 : gfo Try.prog 95 2 = some (3, 2) := by kernel_rfl
theorem fo95_3 : gfo Try.prog 95 3 = some (3, 3) := by kernel_rfl
theorem fo95_4 : gfo Try.prog 95 4 = some (3, 4) := by kernel_rfl
theorem fo95_5 : gfo Try.prog 95 5 = some (3, 5) := by kernel_rfl
theorem fo95_6 : gfo Try.prog 95 6 = some (3, 6) := by kernel_rfl
theorem fo95_7 : gfo Try.prog 95 7 = some (3, 7) := by kernel_rfl
theorem sh95 : gshape Try.prog 95 = some (.fields [(0, 1), (1, 1), (2, 1), (3, 1), (4, 1), (5, 1), (6, 1), (7, 1)], [.int .i64 0, .int .i64 0, .int .i64 0, .int .i64 0, .int .i64 0, .int .i64 0, .int .i64 0, .int .i64 0]) := by kernel_rfl
theorem ni95 : notIface Try.prog 95 = true := by kernel_rfl
theorem sz96 : gsz Try.prog 96 = some (true, 8) := by kernel_rfl
theorem zr96 : gzero Try.prog 96 = some [.int .i64 0, .int .i64 0, .int .i64 0, .int .i64 0, .int .i64 0, .int .i64 0, .int .i64 0, .int .i64 0] := by kernel_rfl
theorem fo96_0 : gfo Try.prog 96 0 = some (3, 0) := by kernel_rfl
theorem fo96_1 : gfo Try.prog 96 1 = some (3, 1) := by kernel_rfl
theorem fo96_2 : gfo Try.prog 96 2 = some (3, 2) := by kernel_rfl
theorem fo96_3 : gfo Try.prog 96 3 = some (3, 3) := by kernel_rfl
theorem fo96_4 : gfo Try.prog 96 4 = some (3, 4) := by kernel_rfl
theorem fo96_5 : gfo Try.prog 96 5 = some (3, 5) := by kernel_rfl
theorem fo96_6 : gfo Try.prog 96 6 = some (3, 6) := by kernel_rfl
theorem fo96_7 : gfo Try.prog 96 7 = some (3, 7) := by kernel_rfl
theorem sh96 : gshape Try.prog 96 = some (.fields [(0, 1), (1, 1), (2, 1), (3, 1), (4, 1), (5, 1), (6, 1), (7, 1)], [.int .i64 0, .int .i64 0, .int .i64 0, .int .i64 0, .int .i64 0, .int .i64 0, .int .i64 0, .int .i64 0]) := by kernel_rfl
theorem ni96 : notIface Try.prog 96 = true := by kernel_rfl
theorem sz97 : gsz Try.prog 97 = some (false, 1) := by kernel_rfl
theorem zr97 : gzero Try.prog 97 = some [.nilFunc] := by kernel_rfl
theorem ni97 : notIface Try.prog 97 = true := by kernel_rfl
theorem sz98 : gsz Try.prog 98 = some (false, 1) := by kernel_rfl
theorem zr98 : gzero Try.prog 98 = some [.nilFunc] := by kernel_rfl
theorem ni98 : notIface Try.prog 98 = true := by kernel_rfl
theorem sz99 : gsz Try.prog 99 = some (true, 3) := by kernel_rfl
theorem zr99 : gzero Try.prog 99 = some [.bool false, .slice none 0 0, .int .i64 0] := by kernel_rfl
theorem fo99_0 : gfo Try.prog 99 0 = some (4, 0) := by kernel_rfl
theorem fo99_1 : gfo Try.prog 99 1 = some (22, 1) := by kernel_rfl
theorem fo99_2 : gfo Try.prog 99 2 = some (23, 2) := by kernel_rfl
theorem sh99 : gshape Try.prog 99 = some (.fields [(0, 1), (1, 1), (2, 1)], [.bool false, .slice none 0 0, .int .i64 0]) := by kernel_rfl
theorem ni99 : notIface Try.prog 99 = true := by kernel_rfl
theorem sz100 : gsz Try.prog 100 = some (true, 3) := by kernel_rfl
theorem zr100 : gzero Try.prog 100 = some [.bool false, .slice none 0 0, .int .i64 0] := by kernel_rfl
theorem fo100_0 : gfo Try.prog 100 0 = some (4, 0) := by kernel_rfl
theorem fo100_1 : gfo Try.prog 100 1 = some (22, 1) := by kernel_rfl
theorem fo100_2 : gfo Try.prog 100 2 = some (23, 2) := by kernel_rfl
theorem sh100 : gshape Try.prog 100 = some (.fields [(0, 1), (1, 1), (2, 1)], [.bool false, .slice none 0 0, .int .i64 0]) := by kernel_rfl
theorem ni100 : notIface Try.prog 100 = true := by kernel_rfl
theorem sz101 : gsz Try.prog 101 = some (false, 1) := by kernel_rfl
theorem zr101 : gzero Try.prog 101 = some [.nilFunc] := by kernel_rfl
theorem ni101 : notIface Try.prog 101 = true := by kernel_rfl
theorem sz102 : gsz Try.prog 102 = some (false, 1) := by kernel_rfl
theorem zr102 : gzero Try.prog 102 = some [.nilFunc] := by kernel_rfl
theorem ni102 : notIface Try.prog 102 = true := by kernel_rfl
theorem sz103 : gsz Try.prog 103 = some (false, 1) := by kernel_rfl
theorem zr103 : gzero Try.prog 103 = some [.nilFunc] := by kernel_rfl
theorem ni103 : notIface Try.prog 103 = true := by kernel_rfl
theorem sz104 : gsz Try.prog 104 = some (false, 1) := by kernel_rfl
theorem zr104 : gzero Try.prog 104 = some [.int .u64 0] := by kernel_rfl
theorem ni104 : notIface Try.prog 104 = true := by kernel_rfl
theorem sz105 : gsz Try.prog 105 = some (false, 1) := by kernel_rfl
theorem zr105 : gzero Try.prog 105 = some [.int .u64 0] := by kernel_rfl
theorem ni105 : notIface Try.prog 105 = true := by kernel_rfl
theorem sz106 : gsz Try.prog 106 = some (false, 1) := by kernel_rfl
theorem zr106 : gzero Try.prog 106 = some [.nilFunc] := by kernel_rfl
theorem ni106 : notIface Try.prog 106 = true := by kernel_rfl
theorem sz107 : gsz Try.prog 107 = some (false, 1) := by kernel_rfl
theorem zr107 : gzero Try.prog 107 = some [.nilIface] := by kernel_rfl
theorem sz108 : gsz Try.prog 108 = some (false, 1) := by kernel_rfl
theorem zr108 : gzero Try.prog 108 = some [.nilIface] := by kernel_rfl
theorem sz109 : gsz Try.prog 109 = some (false, 1) := by kernel_rfl
theorem zr109 : gzero Try.prog 109 = some [.nilFunc] := by kernel_rfl
theorem ni109 : notIface Try.prog 109 = true := by kernel_rfl
theorem sz110 : gsz Try.prog 110 = some (false, 1) := by kernel_rfl
theorem zr110 : gzero Try.prog 110 = some [.pointer none] := by kernel_rfl
theorem ni110 : notIface Try.prog 110 = true := by kernel_rfl
theorem sz111 : gsz Try.prog 111 = some (false, 1) := by kernel_rfl
theorem zr111 : gzero Try.prog 111 = some [.nilFunc] := by kernel_rfl
theorem ni111 : notIface Try.prog 111 = true := by kernel_rfl
theorem sz112 : gsz Try.prog 112 = some (false, 1) := by kernel_rfl
theorem zr112 : gzero Try.prog 112 = some [.pointer none] := by kernel_rfl
theorem ni112 : notIface Try.prog 112 = true := by kernel_rfl
theorem sz113 : gsz Try.prog 113 = some (false, 1) := by kernel_rfl
theorem zr113 : gzero Try.prog 113 = some [.nilFunc] := by kernel_rfl
theorem ni113 : notIface Try.prog 113 = true := by kernel_rfl
theorem sz114 : gsz Try.prog 114 = some (false, 1) := by kernel_rfl
theorem zr114 : gzero Try.prog 114 = some [.pointer none] := by kernel_rfl
theorem ni114 : notIface Try.prog 114 = true := by kernel_rfl
theorem sz115 : gsz Try.prog 115 = some (false, 1) := by kernel_rfl
theorem zr115 : gzero Try.prog 115 = some [.nilFunc] := by kernel_rfl
theorem ni115 : notIface Try.prog 115 = true := by kernel_rfl
theorem sz116 : gsz Try.prog 116 = some (false, 1) := by kernel_rfl
theorem zr116 : gzero Try.prog 116 = some [.pointer none] := by kernel_rfl
theorem ni116 : notIface Try.prog 116 = true := by kernel_rfl
theorem sz117 : gsz Try.prog 117 = some (true, 5) := by kernel_rfl
theorem zr117 : gzero Try.prog 117 = some [.pointer none, .pointer none, .pointer none, .pointer none, .pointer none] := by kernel_rfl
theorem sh117 : gshape Try.prog 117 = some (.elems 1, [.pointer none, .pointer none, .pointer none, .pointer none, .pointer none]) := by kernel_rfl
theorem ni117 : notIface Try.prog 117 = true := by kernel_rfl
theorem sz118 : gsz Try.prog 118 = some (false, 1) := by kernel_rfl
theorem zr118 : gzero Try.prog 118 = some [.nilFunc] := by kernel_rfl
theorem ni118 : notIface Try.prog 118 = true := by kernel_rfl
theorem sz119 : gsz Try.prog 119 = some (true, 2) := by kernel_rfl
theorem zr119 : gzero Try.prog 119 = some [.slice none 0 0, .slice none 0 0] := by kernel_rfl
theorem fo119_0 : gfo Try.prog 119 0 = some (22, 0) := by kernel_rfl
theorem fo119_1 : gfo Try.prog 119 1 = some (22, 1) := by kernel_rfl
theorem sh119 : gshape Try.prog 119 = some (.fields [(0, 1), (1, 1)], [.slice none 0 0, .slice none 0 0]) := by kernel_rfl
theorem ni119 : notIface Try.prog 119 = true := by kernel_rfl
theorem sz120 : gsz Try.prog 120 = some (true, 2) := by kernel_rfl
theorem zr120 : gzero Try.prog 120 = some [.slice none 0 0, .slice none 0 0] := by kernel_rfl
theorem fo120_0 : gfo Try.prog 120 0 = some (22, 0) := by kernel_rfl
theorem fo120_1 : gfo Try.prog 120 1 = some (22, 1) := by kernel_rfl
theorem sh120 : gshape Try.prog 120 = some (.fields [(0, 1), (1, 1)], [.slice none 0 0, .slice none 0 0]) := by kernel_rfl
theorem ni120 : notIface Try.prog 120 = true := by kernel_rfl
theorem sz121 : gsz Try.prog 121 = some (false, 1) := by kernel_rfl
theorem zr121 : gzero Try.prog 121 = some [.nilFunc] := by kernel_rfl
theorem ni121 : notIface Try.prog 121 = true := by kernel_rfl
theorem sz122 : gsz Try.prog 122 = some (false, 1) := by kernel_rfl
theorem zr122 : gzero Try.prog 122 = some [.nilFunc] := by kernel_rfl
theorem ni122 : notIface Try.prog 122 = true := by kernel_rfl
theorem sz123 : gsz Try.prog 123 = some (false, 1) := by kernel_rfl
theorem zr123 : gzero Try.prog 123 = some [.int .u32 0] := by kernel_rfl
theorem ni123 : notIface Try.prog 123 = true := by kernel_rfl
theorem sz124 : gsz Try.prog 124 = some (false, 1) := by kernel_rfl
theorem zr124 : gzero Try.prog 124 = some [.nilFunc] := by kernel_rfl
theorem ni124 : notIface Try.prog 124 = true := by kernel_rfl
theorem sz125 : gsz Try.prog 125 = some (false, 1) := by kernel_rfl
theorem zr125 : gzero Try.prog 125 = some [.nilFunc] := by kernel_rfl
theorem ni125 : notIface Try.prog 125 = true := by kernel_rfl
theorem sz126 : gsz Try.prog 126 = some (true, 4) := by kernel_rfl
theorem zr126 : gzero Try.prog 126 = some [.pointer none, .pointer none, .pointer none, .string ByteArray.empty] := by kernel_rfl
theorem fo126_0 : gfo Try.prog 126 0 = some (17, 0) := by kernel_rfl
theorem fo126_1 : gfo Try.prog 126 1 = some (17, 1) := by kernel_rfl
theorem fo126_2 : gfo Try.prog 126 2 = some (17, 2) := by kernel_rfl
theorem fo126_3 : gfo Try.prog 126 3 = some (9, 3) := by kernel_rfl
theorem sh126 : gshape Try.prog 126 = some (.fields [(0, 1), (1, 1), (2, 1), (3, 1)], [.pointer none, .pointer none, .pointer none, .string ByteArray.empty]) := by kernel_rfl
theorem ni126 : notIface Try.prog 126 = true := by kernel_rfl
theorem sz127 : gsz Try.prog 127 = some (true, 4) := by kernel_rfl
theorem zr127 : gzero Try.prog 127 = some [.pointer none, .pointer none, .pointer none, .string ByteArray.empty] := by kernel_rfl
theorem fo127_0 : gfo Try.prog 127 0 = some (17, 0) := by kernel_rfl
theorem fo127_1 : gfo Try.prog 127 1 = some (17, 1) := by kernel_rfl
theorem fo127_2 : gfo Try.prog 127 2 = some (17, 2) := by kernel_rfl
theorem fo127_3 : gfo Try.prog 127 3 = some (9, 3) := by kernel_rfl
theorem sh127 : gshape Try.prog 127 = some (.fields [(0, 1), (1, 1), (2, 1), (3, 1)], [.pointer none, .pointer none, .pointer none, .string ByteArray.empty]) := by kernel_rfl
theorem ni127 : notIface Try.prog 127 = true := by kernel_rfl
theorem sz131 : gsz Try.prog 131 = some (false, 1) := by kernel_rfl
theorem zr131 : gzero Try.prog 131 = some [.int .u8 0] := by kernel_rfl
theorem ni131 : notIface Try.prog 131 = true := by kernel_rfl
theorem sz132 : gsz Try.prog 132 = some (false, 1) := by kernel_rfl
theorem zr132 : gzero Try.prog 132 = some [.int .u8 0] := by kernel_rfl
theorem ni132 : notIface Try.prog 132 = true := by kernel_rfl
theorem sz133 : gsz Try.prog 133 = some (false, 1) := by kernel_rfl
theorem zr133 : gzero Try.prog 133 = some [.nilFunc] := by kernel_rfl
theorem ni133 : notIface Try.prog 133 = true := by kernel_rfl
theorem sz134 : gsz Try.prog 134 = some (false, 1) := by kernel_rfl
theorem zr134 : gzero Try.prog 134 = some [.pointer none] := by kernel_rfl
theorem ni134 : notIface Try.prog 134 = true := by kernel_rfl
theorem sz135 : gsz Try.prog 135 = some (false, 1) := by kernel_rfl
theorem zr135 : gzero Try.prog 135 = some [.int .i32 0] := by kernel_rfl
theorem ni135 : notIface Try.prog 135 = true := by kernel_rfl
theorem sz136 : gsz Try.prog 136 = some (false, 1) := by kernel_rfl
theorem zr136 : gzero Try.prog 136 = some [.int .i32 0] := by kernel_rfl
theorem ni136 : notIface Try.prog 136 = true := by kernel_rfl
theorem sz137 : gsz Try.prog 137 = some (true, 11) := by kernel_rfl
theorem zr137 : gzero Try.prog 137 = some [.int .u64 0, .int .u64 0, .int .u32 0, .int .u8 0, .int .u8 0, .int .u8 0, .int .u8 0, .nilFunc, .pointer none, .int .i32 0, .int .i32 0] := by kernel_rfl
theorem fo137_0 : gfo Try.prog 137 0 = some (12, 0) := by kernel_rfl
theorem fo137_1 : gfo Try.prog 137 1 = some (12, 1) := by kernel_rfl
theorem fo137_2 : gfo Try.prog 137 2 = some (123, 2) := by kernel_rfl
theorem fo137_3 : gfo Try.prog 137 3 = some (131, 3) := by kernel_rfl
theorem fo137_4 : gfo Try.prog 137 4 = some (5, 4) := by kernel_rfl
theorem fo137_5 : gfo Try.prog 137 5 = some (5, 5) := by kernel_rfl
theorem fo137_6 : gfo Try.prog 137 6 = some (132, 6) := by kernel_rfl
theorem fo137_7 : gfo Try.prog 137 7 = some (133, 7) := by kernel_rfl
theorem fo137_8 : gfo Try.prog 137 8 = some (134, 8) := by kernel_rfl
theorem fo137_9 : gfo Try.prog 137 9 = some (135, 9) := by kernel_rfl
theorem fo137_10 : gfo Try.prog 137 10 = some (136, 10) := by kernel_rfl
theorem sh137 : gshape Try.prog 137 = some (.fields [(0, 1), (1, 1), (2, 1), (3, 1), (4, 1), (5, 1), (6, 1), (7, 1), (8, 1), (9, 1), (10, 1)], [.int .u64 0, .int .u64 0, .int .u32 0, .int .u8 0, .int .u8 0, .int .u8 0, .int .u8 0, .nilFunc, .pointer none, .int .i32 0, .int .i32 0]) := by kernel_rfl
theorem ni137 : notIface Try.prog 137 = true := by kernel_rfl
theorem sz138 : gsz Try.prog 138 = some (true, 11) := by kernel_rfl
theorem zr138 : gzero Try.prog 138 = some [.int .u64 0, .int .u64 0, .int .u32 0, .int .u8 0, .int .u8 0, .int .u8 0, .int .u8 0, .nilFunc, .pointer none, .int .i32 0, .int .i32 0] := by kernel_rfl
theorem fo138_0 : gfo Try.prog 138 0 = some (12, 0) := by kernel_rfl
theorem fo138_1 : gfo Try.prog 138 1 = some (12, 1) := by kernel_rfl
theorem fo138_2 : gfo Try.prog 138 2 = some (123, 2) := by kernel_rfl
theorem fo138_3 : gfo Try.prog 138 3 = some (131, 3) := by kernel_rfl
theorem fo138_4 : gfo Try.prog 138 4 = some (5, 4) := by kernel_rfl
theorem fo138_5 : gfo Try.prog 138 5 = some (5, 5) := by kernel_rfl
theorem fo138_6 : gfo Try.prog 138 6 = some (132, 6) := by kernel_rfl
theorem fo138_7 : gfo Try.prog 138 7 = some (133, 7) := by kernel_rfl
theorem fo138_8 : gfo Try.prog 138 8 = some (134, 8) := by kernel_rfl
theorem fo138_9 : gfo Try.prog 138 9 = some (135, 9) := by kernel_rfl
theorem fo138_10 : gfo Try.prog 138 10 = some (136, 10) := by kernel_rfl
theorem sh138 : gshape Try.prog 138 = some (.fields [(0, 1), (1, 1), (2, 1), (3, 1), (4, 1), (5, 1), (6, 1), (7, 1), (8, 1), (9, 1), (10, 1)], [.int .u64 0, .int .u64 0, .int .u32 0, .int .u8 0, .int .u8 0, .int .u8 0, .int .u8 0, .nilFunc, .pointer none, .int .i32 0, .int .i32 0]) := by kernel_rfl
theorem ni138 : notIface Try.prog 138 = true := by kernel_rfl
theorem cv3_5 : ∀ (h : GH) (n : Int), gConvO Try.prog 3 5 h (.int .i64 n) = some (.int .u8 (IntKind.wrap .u8 n)) := by intros; simp [gConvO, gConv, Try.underlying3, Try.underlying5]
theorem cv3_105 : ∀ (h : GH) (n : Int), gConvO Try.prog 3 105 h (.int .i64 n) = some (.int .u64 (IntKind.wrap .u64 n)) := by intros; simp [gConvO, gConv, Try.underlying3, Try.underlying105]
theorem cv5_3 : ∀ (h : GH) (n : Int), gConvO Try.prog 5 3 h (.int .u8 n) = some (.int .i64 (IntKind.wrap .i64 n)) := by intros; simp [gConvO, gConv, Try.underlying5, Try.underlying3]
theorem cv5_104 : ∀ (h : GH) (n : Int), gConvO Try.prog 5 104 h (.int .u8 n) = some (.int .u64 (IntKind.wrap .u64 n)) := by intros; simp [gConvO, gConv, Try.underlying5, Try.underlying104]
theorem cv104_3 : ∀ (h : GH) (n : Int), gConvO Try.prog 104 3 h (.int .u64 n) = some (.int .i64 (IntKind.wrap .i64 n)) := by intros; simp [gConvO, gConv, Try.underlying104, Try.underlying3]
theorem cv104_5 : ∀ (h : GH) (n : Int), gConvO Try.prog 104 5 h (.int .u64 n) = some (.int .u8 (IntKind.wrap .u8 n)) := by intros; simp [gConvO, gConv, Try.underlying104, Try.underlying5]
theorem cv105_123 : ∀ (h : GH) (n : Int), gConvO Try.prog 105 123 h (.int .u64 n) = some (.int .u32 (IntKind.wrap .u32 n)) := by intros; simp [gConvO, gConv, Try.underlying105, Try.underlying123]
theorem cv123_5 : ∀ (h : GH) (n : Int), gConvO Try.prog 123 5 h (.int .u32 n) = some (.int .u8 (IntKind.wrap .u8 n)) := by intros; simp [gConvO, gConv, Try.underlying123, Try.underlying5]
theorem mixed : Try.prog.follows .mixedOrders = true := by kernel_rfl
end Go.Gh
