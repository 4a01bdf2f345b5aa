/- Closed facts of the loaded program, each asked of the kernel. -/
import Derived.Test.YtejjnmnljbehiaaGh15
import Derived.Test.YtejjnmnljbehiaaProg
namespace Go.Gh
open Go Go.Proofs
set_option maxRecDepth 100000
theorem gf3 : gfn Try.prog 3 = true := by kernel_rfl
theorem rs3 : Try.f3.results.toList = [.tmp 2] := by kernel_rfl
theorem ok3 : codeOk Try.prog Try.f3.ntmps (Try.f3.body.getD .skip) = true := by kernel_rfl
theorem gf4 : gfn Try.prog 4 = true := by kernel_rfl
theorem rs4 : Try.f4.results.toList = [.tmp 8] := by kernel_rfl
theorem ok4 : codeOk Try.prog Try.f4.ntmps (Try.f4.body.getD .skip) = true := by kernel_rfl
theorem gf5 : gfn Try.prog 5 = true := by kernel_rfl
theorem rs5 : Try.f5.results.toList = [.tmp 2] := by kernel_rfl
theorem ok5 : codeOk Try.prog Try.f5.ntmps (Try.f5.body.getD .skip) = true := by kernel_rfl
theorem gf6 : gfn Try.prog 6 = true := by kernel_rfl
theorem rs6 : Try.f6.results.toList = [.tmp 4] := by kernel_rfl
theorem ok6 : codeOk Try.prog Try.f6.ntmps (Try.f6.body.getD .skip) = true := by kernel_rfl
theorem gf7 : gfn Try.prog 7 = true := by kernel_rfl
theorem rs7 : Try.f7.results.toList = [.tmp 8] := by kernel_rfl
theorem ok7 : codeOk Try.prog Try.f7.ntmps (Try.f7.body.getD .skip) = true := by kernel_rfl
theorem gf8 : gfn Try.prog 8 = true := by kernel_rfl
theorem rs8 : Try.f8.results.toList = [.tmp 6] := by kernel_rfl
theorem ok8 : codeOk Try.prog Try.f8.ntmps (Try.f8.body.getD .skip) = true := by kernel_rfl
theorem gf9 : gfn Try.prog 9 = true := by kernel_rfl
theorem rs9 : Try.f9.results.toList = [.tmp 6] := by kernel_rfl
theorem ok9 : codeOk Try.prog Try.f9.ntmps (Try.f9.body.getD .skip) = true := by kernel_rfl
theorem gf10 : gfn Try.prog 10 = true := by kernel_rfl
theorem rs10 : Try.f10.results.toList = [.tmp 6] := by kernel_rfl
theorem ok10 : codeOk Try.prog Try.f10.ntmps (Try.f10.body.getD .skip) = true := by kernel_rfl
theorem gf11 : gfn Try.prog 11 = true := by kernel_rfl
theorem rs11 : Try.f11.results.toList = [.tmp 2] := by kernel_rfl
theorem ok11 : codeOk Try.prog Try.f11.ntmps (Try.f11.body.getD .skip) = true := by kernel_rfl
theorem gf12 : gfn Try.prog 12 = true := by kernel_rfl
theorem rs12 : Try.f12.results.toList = [.tmp 8] := by kernel_rfl
theorem ok12 : codeOk Try.prog Try.f12.ntmps (Try.f12.body.getD .skip) = true := by kernel_rfl
theorem gf13 : gfn Try.prog 13 = true := by kernel_rfl
theorem rs13 : Try.f13.results.toList = [.tmp 2] := by kernel_rfl
theorem ok13 : codeOk Try.prog Try.f13.ntmps (Try.f13.body.getD .skip) = true := by kernel_rfl
theorem gf14 : gfn Try.prog 14 = true := by kernel_rfl
theorem rs14 : Try.f14.results.toList = [.tmp 4] := by kernel_rfl
theorem ok14 : codeOk Try.prog Try.f14.ntmps (Try.f14.body.getD .skip) = true := by kernel_rfl
theorem gf15 : gfn Try.prog 15 = true := by kernel_rfl
theorem rs15 : Try.f15.results.toList = [.tmp 4] := by kernel_rfl
theorem ok15 : codeOk Try.prog Try.f15.ntmps (Try.f15.body.getD .skip) = true := by kernel_rfl
theorem gf16 : gfn Try.prog 16 = true := by kernel_rfl
theorem rs16 : Try.f16.results.toList = [.tmp 4] := by kernel_rfl
theorem ok16 : codeOk Try.prog Try.f16.ntmps (Try.f16.body.getD .skip) = true := by kernel_rfl
theorem gf17 : gfn Try.prog 17 = true := by kernel_rfl
theorem rs17 : Try.f17.results.toList = [.tmp 2] := by kernel_rfl
theorem ok17 : codeOk Try.prog Try.f17.ntmps (Try.f17.body.getD .skip) = true := by kernel_rfl
theorem gf18 : gfn Try.prog 18 = true := by kernel_rfl
theorem rs18 : Try.f18.results.toList = [.tmp 2] := by kernel_rfl
theorem ok18 : codeOk Try.prog Try.f18.ntmps (Try.f18.body.getD .skip) = true := by kernel_rfl
theorem gf19 : gfn Try.prog 19 = true := by kernel_rfl
theorem rs19 : Try.f19.results.toList = [.tmp 0] := by kernel_rfl
theorem ok19 : codeOk Try.prog Try.f19.ntmps (Try.f19.body.getD .skip) = true := by kernel_rfl
theorem gf20 : gfn Try.prog 20 = true := by kernel_rfl
theorem rs20 : Try.f20.results.toList = [.tmp 2] := by kernel_rfl
theorem ok20 : codeOk Try.prog Try.f20.ntmps (Try.f20.body.getD .skip) = true := by kernel_rfl
theorem gf21 : gfn Try.prog 21 = true := by kernel_rfl
theorem rs21 : Try.f21.results.toList = [.tmp 2] := by kernel_rfl
theorem ok21 : codeOk Try.prog Try.f21.ntmps (Try.f21.body.getD .skip) = true := by kernel_rfl
theorem gf22 : gfn Try.prog 22 = true := by kernel_rfl
theorem rs22 : Try.f22.results.toList = [.tmp 4] := by kernel_rfl
theorem ok22 : codeOk Try.prog Try.f22.ntmps (Try.f22.body.getD .skip) = true := by kernel_rfl
theorem gf23 : gfn Try.prog 23 = true := by kernel_rfl
theorem rs23 : Try.f23.results.toList = [.tmp 2] := by kernel_rfl
theorem ok23 : codeOk Try.prog Try.f23.ntmps (Try.f23.body.getD .skip) = true := by kernel_rfl
theorem gf24 : gfn Try.prog 24 = true := by kernel_rfl
theorem rs24 : Try.f24.results.toList = [.tmp 2] := by kernel_rfl
theorem ok24 : codeOk Try.prog Try.f24.ntmps (Try.f24.body.getD .skip) = true := by kernel_rfl
theorem gf25 : gfn Try.prog 25 = true := by kernel_rfl
theorem rs25 : Try.f25.results.toList = [.tmp 4] := by kernel_rfl
theorem ok25 : codeOk Try.prog Try.f25.ntmps (Try.f25.body.getD .skip) = true := by kernel_rfl
theorem gf26 : gfn Try.prog 26 = true := by kernel_rfl
theorem rs26 : Try.f26.results.toList = [.tmp 4] := by kernel_rfl
theorem ok26 : codeOk Try.prog Try.f26.ntmps (Try.f26.body.getD .skip) = true := by kernel_rfl
theorem gf27 : gfn Try.prog 27 = true := by kernel_rfl
theorem rs27 : Try.f27.results.toList = [.tmp 4] := by kernel_rfl
theorem ok27 : codeOk Try.prog Try.f27.ntmps (Try.f27.body.getD .skip) = true := by kernel_rfl
theorem gf28 : gfn Try.prog 28 = true := by kernel_rfl
theorem rs28 : Try.f28.results.toList = [.tmp 4] := by kernel_rfl
theorem ok28 : codeOk Try.prog Try.f28.ntmps (Try.f28.body.getD .skip) = true := by kernel_rfl
theorem gf29 : gfn Try.prog 29 = true := by kernel_rfl
theorem rs29 : Try.f29.results.toList = [.tmp 0] := by kernel_rfl
theorem ok29 : codeOk Try.prog Try.f29.ntmps (Try.f29.body.getD .skip) = true := by kernel_rfl
theorem gf30 : gfn Try.prog 30 = true := by kernel_rfl
theorem rs30 : Try.f30.results.toList = [.tmp 2] := by kernel_rfl
theorem ok30 : codeOk Try.prog Try.f30.ntmps (Try.f30.body.getD .skip) = true := by kernel_rfl
theorem gf31 : gfn Try.prog 31 = true := by kernel_rfl
theorem rs31 : Try.f31.results.toList = [.tmp 2] := by kernel_rfl
theorem ok31 : codeOk Try.prog Try.f31.ntmps (Try.f31.body.getD .skip) = true := by kernel_rfl
theorem gf32 : gfn Try.prog 32 = true := by kernel_rfl
theorem rs32 : Try.f32.results.toList = [.tmp 2] := by kernel_rfl
theorem ok32 : codeOk Try.prog Try.f32.ntmps (Try.f32.body.getD .skip) = true := by kernel_rfl
theorem gf33 : gfn Try.prog 33 = true := by kernel_rfl
theorem rs33 : Try.f33.results.toList = [.tmp 2] := by kernel_rfl
theorem ok33 : codeOk Try.prog Try.f33.ntmps (Try.f33.body.getD .skip) = true := by kernel_rfl
theorem gf34 : gfn Try.prog 34 = true := by kernel_rfl
theorem rs34 : Try.f34.results.toList = [.tmp 2] := by kernel_rfl
theorem ok34 : codeOk Try.prog Try.f34.ntmps (Try.f34.body.getD .skip) = true := by kernel_rfl
theorem gf35 : gfn Try.prog 35 = true := by kernel_rfl
theorem rs35 : Try.f35.results.toList = [.tmp 2] := by kernel_rfl
theorem ok35 : codeOk Try.prog Try.f35.ntmps (Try.f35.body.getD .skip) = true := by kernel_rfl
theorem gf36 : gfn Try.prog 36 = true := by kernel_rfl
theorem rs36 : Try.f36.results.toList = [.tmp 2] := by kernel_rfl
theorem ok36 : codeOk Try.prog Try.f36.ntmps (Try.f36.body.getD .skip) = true := by kernel_rfl
theorem gf37 : gfn Try.prog 37 = true := by kernel_rfl
theorem rs37 : Try.f37.results.toList = [.tmp 2] := by kernel_rfl
theorem ok37 : codeOk Try.prog Try.f37.ntmps (Try.f37.body.getD .skip) = true := by kernel_rfl
theorem gf38 : gfn Try.prog 38 = true := by kernel_rfl
theorem rs38 : Try.f38.results.toList = [.tmp 4] := by kernel_rfl
theorem ok38 : codeOk Try.prog Try.f38.ntmps (Try.f38.body.getD .skip) = true := by kernel_rfl
theorem gf39 : gfn Try.prog 39 = true := by kernel_rfl
theorem rs39 : Try.f39.results.toList = [.tmp 2] := by kernel_rfl
theorem ok39 : codeOk Try.prog Try.f39.ntmps (Try.f39.body.getD .skip) = true := by kernel_rfl
theorem gf40 : gfn Try.prog 40 = true := by kernel_rfl
theorem rs40 : Try.f40.results.toList = [.tmp 4] := by kernel_rfl
theorem ok40 : codeOk Try.prog Try.f40.ntmps (Try.f40.body.getD .skip) = true := by kernel_rfl
theorem gf41 : gfn Try.prog 41 = true := by kernel_rfl
theorem rs41 : Try.f41.results.toList = [.tmp 4] := by kernel_rfl
theorem ok41 : codeOk Try.prog Try.f41.ntmps (Try.f41.body.getD .skip) = true := by kernel_rfl
theorem gf42 : gfn Try.prog 42 = true := by kernel_rfl
theorem rs42 : Try.f42.results.toList = [.tmp 4] := by kernel_rfl
theorem ok42 : codeOk Try.prog Try.f42.ntmps (Try.f42.body.getD .skip) = true := by kernel_rfl
theorem gf43 : gfn Try.prog 43 = true := by kernel_rfl
theorem rs43 : Try.f43.results.toList = [.tmp 4] := by kernel_rfl
theorem ok43 : codeOk Try.prog Try.f43.ntmps (Try.f43.body.getD .skip) = true := by kernel_rfl
theorem gf44 : gfn Try.prog 44 = true := by kernel_rfl
theorem rs44 : Try.f44.results.toList = [.tmp 4] := by kernel_rfl
theorem ok44 : codeOk Try.prog Try.f44.ntmps (Try.f44.body.getD .skip) = true := by kernel_rfl
theorem gf45 : gfn Try.prog 45 = true := by kernel_rfl
theorem rs45 : Try.f45.results.toList = [.tmp 4] := by kernel_rfl
theorem ok45 : codeOk Try.prog Try.f45.ntmps (Try.f45.body.getD .skip) = true := by kernel_rfl
theorem gf46 : gfn Try.prog 46 = true := by kernel_rfl
theorem rs46 : Try.f46.results.toList = [.tmp 0] := by kernel_rfl
theorem ok46 : codeOk Try.prog Try.f46.ntmps (Try.f46.body.getD .skip) = true := by kernel_rfl
theorem gf47 : gfn Try.prog 47 = true := by kernel_rfl
theorem rs47 : Try.f47.results.toList = [.tmp 4] := by kernel_rfl
theorem ok47 : codeOk Try.prog Try.f47.ntmps (Try.f47.body.getD .skip) = true := by kernel_rfl
theorem gf48 : gfn Try.prog 48 = true := by kernel_rfl
theorem rs48 : Try.f48.results.toList = [.tmp 6] := by kernel_rfl
theorem ok48 : codeOk Try.prog Try.f48.ntmps (Try.f48.body.getD .skip) = true := by kernel_rfl
theorem gf49 : gfn Try.prog 49 = true := by kernel_rfl
theorem rs49 : Try.f49.results.toList = [.tmp 6] := by kernel_rfl
theorem ok49 : codeOk Try.prog Try.f49.ntmps (Try.f49.body.getD .skip) = true := by kernel_rfl
theorem gf50 : gfn Try.prog 50 = true := by kernel_rfl
theorem rs50 : Try.f50.results.toList = [.tmp 6] := by kernel_rfl
theorem ok50 : codeOk Try.prog Try.f50.ntmps (Try.f50.body.getD .skip) = true := by kernel_rfl
theorem gf51 : gfn Try.prog 51 = true := by kernel_rfl
theorem rs51 : Try.f51.results.toList = [.tmp 4] := by kernel_rfl
theorem ok51 : codeOk Try.prog Try.f51.ntmps (Try.f51.body.getD .skip) = true := by kernel_rfl
theorem gf52 : gfn Try.prog 52 = true := by kernel_rfl
theorem rs52 : Try.f52.results.toList = [.tmp 4] := by kernel_rfl
theorem ok52 : codeOk Try.prog Try.f52.ntmps (Try.f52.body.getD .skip) = true := by kernel_rfl
theorem gf53 : gfn Try.prog 53 = true := by kernel_rfl
theorem rs53 : Try.f53.results.toList = [.tmp 6] := by kernel_rfl
theorem ok53 : codeOk Try.prog Try.f53.ntmps (Try.f53.body.getD .skip) = true := by kernel_rfl
theorem gf54 : gfn Try.prog 54 = true := by kernel_rfl
theorem rs54 : Try.f54.results.toList = [.tmp 4] := by kernel_rfl
theorem ok54 : codeOk Try.prog Try.f54.ntmps (Try.f54.body.getD .skip) = true := by kernel_rfl
theorem gf55 : gfn Try.prog 55 = true := by kernel_rfl
theorem rs55 : Try.f55.results.toList = [.tmp 4] := by kernel_rfl
theorem ok55 : codeOk Try.prog Try.f55.ntmps (Try.f55.body.getD .skip) = true := by kernel_rfl
theorem gf56 : gfn Try.prog 56 = true := by kernel_rfl
theorem rs56 : Try.f56.results.toList = [.tmp 2] := by kernel_rfl
theorem ok56 : codeOk Try.prog Try.f56.ntmps (Try.f56.body.getD .skip) = true := by kernel_rfl
theorem gf57 : gfn Try.prog 57 = true := by kernel_rfl
theorem rs57 : Try.f57.results.toList = [.tmp 2] := by kernel_rfl
theorem ok57 : codeOk Try.prog Try.f57.ntmps (Try.f57.body.getD .skip) = true := by kernel_rfl
theorem gf58 : gfn Try.prog 58 = true := by kernel_rfl
theorem rs58 : Try.f58.results.toList = [.tmp 2] := by kernel_rfl
theorem ok58 : codeOk Try.prog Try.f58.ntmps (Try.f58.body.getD .skip) = true := by kernel_rfl
theorem gf59 : gfn Try.prog 59 = true := by kernel_rfl
theorem rs59 : Try.f59.results.toList = [.tmp 2] := by kernel_rfl
theorem ok59 : codeOk Try.prog Try.f59.ntmps (Try.f59.body.getD .skip) = true := by kernel_rfl
theorem gf60 : gfn Try.prog 60 = true := by kernel_rfl
theorem rs60 : Try.f60.results.toList = [.tmp 2] := by kernel_rfl
theorem ok60 : codeOk Try.prog Try.f60.ntmps (Try.f60.body.getD .skip) = true := by kernel_rfl
theorem gf61 : gfn Try.prog 61 = true := by kernel_rfl
theorem rs61 : Try.f61.results.toList = [.tmp 4] := by kernel_rfl
theorem ok61 : codeOk Try.prog Try.f61.ntmps (Try.f61.body.getD .skip) = true := by kernel_rfl
theorem gf62 : gfn Try.prog 62 = true := by kernel_rfl
theorem rs62 : Try.f62.results.toList = [.tmp 4] := by kernel_rfl
theorem ok62 : codeOk Try.prog Try.f62.ntmps (Try.f62.body.getD .skip) = true := by kernel_rfl
theorem gf63 : gfn Try.prog 63 = true := by kernel_rfl
theorem rs63 : Try.f63.results.toList = [.tmp 2] := by kernel_rfl
theorem ok63 : codeOk Try.prog Try.f63.ntmps (Try.f63.body.getD .skip) = true := by kernel_rfl
theorem gf64 : gfn Try.prog 64 = true := by kernel_rfl
theorem rs64 : Try.f64.results.toList = [.tmp 2] := by kernel_rfl
theorem ok64 : codeOk Try.prog Try.f64.ntmps (Try.f64.body.getD .skip) = true := by kernel_rfl
theorem gf65 : gfn Try.prog 65 = true := by kernel_rfl
theorem rs65 : Try.f65.results.toList = [.cell 2 23, .tmp 3, .tmp 4] := by kernel_rfl
theorem ok65 : codeOk Try.prog Try.f65.ntmps (Try.f65.body.getD .skip) = true := by kernel_rfl
theorem gf66 : gfn Try.prog 66 = true := by kernel_rfl
theorem rs66 : Try.f66.results.toList = [.tmp 4] := by kernel_rfl
theorem ok66 : codeOk Try.prog Try.f66.ntmps (Try.f66.body.getD .skip) = true := by kernel_rfl
theorem gf67 : gfn Try.prog 67 = true := by kernel_rfl
theorem rs67 : Try.f67.results.toList = [.cell 2 23, .tmp 3, .tmp 4] := by kernel_rfl
theorem ok67 : codeOk Try.prog Try.f67.ntmps (Try.f67.body.getD .skip) = true := by kernel_rfl
theorem gf68 : gfn Try.prog 68 = true := by kernel_rfl
theorem rs68 : Try.f68.results.toList = [.tmp 4] := by kernel_rfl
theorem ok68 : codeOk Try.prog Try.f68.ntmps (Try.f68.body.getD .skip) = true := by kernel_rfl
theorem gf69 : gfn Try.prog 69 = true := by kernel_rfl
theorem rs69 : Try.f69.results.toList = [.tmp 2] := by kernel_rfl
theorem ok69 : codeOk Try.prog Try.f69.ntmps (Try.f69.body.getD .skip) = true := by kernel_rfl
theorem gf70 : gfn Try.prog 70 = true := by kernel_rfl
theorem rs70 : Try.f70.results.toList = [.tmp 2] := by kernel_rfl
theorem ok70 : codeOk Try.prog Try.f70.ntmps (Try.f70.body.getD .skip) = true := by kernel_rfl
theorem gf71 : gfn Try.prog 71 = true := by kernel_rfl
theorem rs71 : Try.f71.results.toList = [.tmp 6] := by kernel_rfl
theorem ok71 : codeOk Try.prog Try.f71.ntmps (Try.f71.body.getD .skip) = true := by kernel_rfl
theorem gf72 : gfn Try.prog 72 = true := by kernel_rfl
theorem rs72 : Try.f72.results.toList = [.cell 0 23] := by kernel_rfl
theorem ok72 : codeOk Try.prog Try.f72.ntmps (Try.f72.body.getD .skip) = true := by kernel_rfl
theorem gf73 : gfn Try.prog 73 = true := by kernel_rfl
theorem rs73 : Try.f73.results.toList = [.tmp 2] := by kernel_rfl
theorem ok73 : codeOk Try.prog Try.f73.ntmps (Try.f73.body.getD .skip) = true := by kernel_rfl
theorem gf74 : gfn Try.prog 74 = true := by kernel_rfl
theorem rs74 : Try.f74.results.toList = [.tmp 4] := by kernel_rfl
theorem ok74 : codeOk Try.prog Try.f74.ntmps (Try.f74.body.getD .skip) = true := by kernel_rfl
theorem gf75 : gfn Try.prog 75 = true := by kernel_rfl
theorem rs75 : Try.f75.results.toList = [.tmp 2] := by kernel_rfl
theorem ok75 : codeOk Try.prog Try.f75.ntmps (Try.f75.body.getD .skip) = true := by kernel_rfl
theorem gf76 : gfn Try.prog 76 = true := by kernel_rfl
theorem rs76 : Try.f76.results.toList = [.tmp 2] := by kernel_rfl
theorem ok76 : codeOk Try.prog Try.f76.ntmps (Try.f76.body.getD .skip) = true := by kernel_rfl
theorem gf77 : gfn Try.prog 77 = true := by kernel_rfl
theorem rs77 : Try.f77.results.toList = [.tmp 2] := by kernel_rfl
theorem ok77 : codeOk Try.prog Try.f77.ntmps (Try.f77.body.getD .skip) = true := by kernel_rfl
theorem gf78 : gfn Try.prog 78 = true := by kernel_rfl
theorem rs78 : Try.f78.results.toList = [.tmp 4] := by kernel_rfl
theorem ok78 : codeOk Try.prog Try.f78.ntmps (Try.f78.body.getD .skip) = true := by kernel_rfl
theorem gf79 : gfn Try.prog 79 = true := by kernel_rfl
theorem rs79 : Try.f79.results.toList = [.tmp 4] := by kernel_rfl
theorem ok79 : codeOk Try.prog Try.f79.ntmps (Try.f79.body.getD .skip) = true := by kernel_rfl
theorem gf80 : gfn Try.prog 80 = true := by kernel_rfl
theorem rs80 : Try.f80.results.toList = [.tmp 6] := by kernel_rfl
theorem ok80 : codeOk Try.prog Try.f80.ntmps (Try.f80.body.getD .skip) = true := by kernel_rfl
theorem gf81 : gfn Try.prog 81 = true := by kernel_rfl
theorem rs81 : Try.f81.results.toList = [.tmp 2] := by kernel_rfl
theorem ok81 : codeOk Try.prog Try.f81.ntmps (Try.f81.body.getD .skip) = true := by kernel_rfl
theorem gf82 : gfn Try.prog 82 = true := by kernel_rfl
theorem rs82 : Try.f82.results.toList = [.tmp 4] := by kernel_rfl
theorem ok82 : codeOk Try.prog Try.f82.ntmps (Try.f82.body.getD .skip) = true := by kernel_rfl
theorem gf83 : gfn Try.prog 83 = true := by kernel_rfl
theorem rs83 : Try.f83.results.toList = [] := by kernel_rfl
theorem ok83 : codeOk Try.prog Try.f83.ntmps (Try.f83.body.getD .skip) = true := by kernel_rfl
theorem gf84 : gfn Try.prog 84 = true := by kernel_rfl
theorem rs84 : Try.f84.results.toList = [.tmp 4] := by kernel_rfl
theorem ok84 : codeOk Try.prog Try.f84.ntmps (Try.f84.body.getD .skip) = true := by kernel_rfl
theorem gf86 : gfn Try.prog 86 = true := by kernel_rfl
theorem rs86 : Try.f86.results.toList = [.tmp 2] := by kernel_rfl
theorem ok86 : codeOk Try.prog Try.f86.ntmps (Try.f86.body.getD .skip) = true := by kernel_rfl
theorem gf87 : gfn Try.prog 87 = true := by kernel_rfl
theorem rs87 : Try.f87.results.toList = [.tmp 2] := by kernel_rfl
theorem ok87 : codeOk Try.prog Try.f87.ntmps (Try.f87.body.getD .skip) = true := by kernel_rfl
theorem gf88 : gfn Try.prog 88 = true := by kernel_rfl
theorem rs88 : Try.f88.results.toList = [.tmp 2] := by kernel_rfl
theorem ok88 : codeOk Try.prog Try.f88.ntmps (Try.f88.body.getD .skip) = true := by kernel_rfl
theorem gf89 : gfn Try.prog 89 = true := by kernel_rfl
theorem rs89 : Try.f89.results.toList = [.tmp 2] := by kernel_rfl
theorem ok89 : codeOk Try.prog Try.f89.ntmps (Try.f89.body.getD .skip) = true := by kernel_rfl
theorem sz1 : gsz Try.prog 1 = some (false, 1) := by kernel_rfl
theorem zr1 : gzero Try.prog 1 = some [.nilFunc] := by kernel_rfl
theorem ni1 : notIface Try.prog 1 = true := by kernel_rfl
theorem sz2 : gsz Try.prog 2 = some (false, 1) := by kernel_rfl
theorem zr2 : gzero Try.prog 2 = some [.int .i64 0] := by kernel_rfl
theorem ni2 : notIface Try.prog 2 = true := by kernel_rfl
theorem sz3 : gsz Try.prog 3 = some (false, 1) := by kernel_rfl
theorem zr3 : gzero Try.prog 3 = some [.int .i64 0] := by kernel_rfl
theorem ni3 : notIface Try.prog 3 = true := by kernel_rfl
theorem sz4 : gsz Try.prog 4 = some (false, 1) := by kernel_rfl
theorem zr4 : gzero Try.prog 4 = some [.bool false] := by kernel_rfl
theorem ni4 : notIface Try.prog 4 = true := by kernel_rfl
theorem sz5 : gsz Try.prog 5 = some (false, 1) := by kernel_rfl
theorem zr5 : gzero Try.prog 5 = some [.int .u8 0] := by kernel_rfl
theorem ni5 : notIface Try.prog 5 = true := by kernel_rfl
theorem sz6 : gsz Try.prog 6 = some (false, 1) := by kernel_rfl
theorem zr6 : gzero Try.prog 6 = some [.int .u8 0] := by kernel_rfl
theorem ni6 : notIface Try.prog 6 = true := by kernel_rfl
theorem sz7 : gsz Try.prog 7 = some (true, 4) := by kernel_rfl
theorem zr7 : gzero Try.prog 7 = some [.int .i64 0, .int .i64 0, .bool false, .int .u8 0] := by kernel_rfl
theorem fo7_0 : gfo Try.prog 7 0 = some (2, 0) := by kernel_rfl
theorem fo7_1 : gfo Try.prog 7 1 = some (3, 1) := by kernel_rfl
theorem fo7_2 : gfo Try.prog 7 2 = some (4, 2) := by kernel_rfl
theorem fo7_3 : gfo Try.prog 7 3 = some (6, 3) := by kernel_rfl
theorem sh7 : gshape Try.prog 7 = some (.fields [(0, 1), (1, 1), (2, 1), (3, 1)], [.int .i64 0, .int .i64 0, .bool false, .int .u8 0]) := by kernel_rfl
theorem ni7 : notIface Try.prog 7 = true := by kernel_rfl
theorem sz8 : gsz Try.prog 8 = some (true, 4) := by kernel_rfl
theorem zr8 : gzero Try.prog 8 = some [.int .i64 0, .int .i64 0, .bool false, .int .u8 0] := by kernel_rfl
theorem fo8_0 : gfo Try.prog 8 0 = some (2, 0) := by kernel_rfl
theorem fo8_1 : gfo Try.prog 8 1 = some (3, 1) := by kernel_rfl
theorem fo8_2 : gfo Try.prog 8 2 = some (4, 2) := by kernel_rfl
theorem fo8_3 : gfo Try.prog 8 3 = some (6, 3) := by kernel_rfl
theorem sh8 : gshape Try.prog 8 = some (.fields [(0, 1), (1, 1), (2, 1), (3, 1)], [.int .i64 0, .int .i64 0, .bool false, .int .u8 0]) := by kernel_rfl
theorem ni8 : notIface Try.prog 8 = true := by kernel_rfl
theorem sz9 : gsz Try.prog 9 = some (false, 1) := by kernel_rfl
theorem zr9 : gzero Try.prog 9 = some [.string ByteArray.empty] := by kernel_rfl
theorem ni9 : notIface Try.prog 9 = true := by kernel_rfl
theorem sz10 : gsz Try.prog 10 = some (false, 1) := by kernel_rfl
theorem zr10 : gzero Try.prog 10 = some [.string ByteArray.empty] := by kernel_rfl
theorem ni10 : notIface Try.prog 10 = true := by kernel_rfl
theorem sz11 : gsz Try.prog 11 = some (false, 1) := by kernel_rfl
theorem zr11 : gzero Try.prog 11 = some [.string ByteArray.empty] := by kernel_rfl
theorem ni11 : notIface Try.prog 11 = true := by kernel_rfl
theorem sz12 : gsz Try.prog 12 = some (false, 1) := by kernel_rfl
theorem zr12 : gzero Try.prog 12 = some [.int .u64 0] := by kernel_rfl
theorem ni12 : notIface Try.prog 12 = true := by kernel_rfl
theorem sz13 : gsz Try.prog 13 = some (true, 2) := by kernel_rfl
theorem zr13 : gzero Try.prog 13 = some [.string ByteArray.empty, .int .u64 0] := by kernel_rfl
theorem fo13_0 : gfo Try.prog 13 0 = some (9, 0) := by kernel_rfl
theorem fo13_1 : gfo Try.prog 13 1 = some (12, 1) := by kernel_rfl
theorem sh13 : gshape Try.prog 13 = some (.fields [(0, 1), (1, 1)], [.string ByteArray.empty, .int .u64 0]) := by kernel_rfl
theorem ni13 : notIface Try.prog 13 = true := by kernel_rfl
theorem sz14 : gsz Try.prog 14 = some (true, 2) := by kernel_rfl
theorem zr14 : gzero Try.prog 14 = some [.string ByteArray.empty, .int .u64 0] := by kernel_rfl
theorem fo14_0 : gfo Try.prog 14 0 = some (9, 0) := by kernel_rfl
theorem fo14_1 : gfo Try.prog 14 1 = some (12, 1) := by kernel_rfl
theorem sh14 : gshape Try.prog 14 = some (.fields [(0, 1), (1, 1)], [.string ByteArray.empty, .int .u64 0]) := by kernel_rfl
theorem ni14 : notIface Try.prog 14 = true := by kernel_rfl
theorem sz15 : gsz Try.prog 15 = some (false, 1) := by kernel_rfl
theorem zr15 : gzero Try.prog 15 = some [.pointer none] := by kernel_rfl
theorem ni15 : notIface Try.prog 15 = true := by kernel_rfl
theorem sz16 : gsz Try.prog 16 = some (false, 1) := by kernel_rfl
theorem zr16 : gzero Try.prog 16 = some [.pointer none] := by kernel_rfl
theorem ni16 : notIface Try.prog 16 = true := by kernel_rfl
theorem sz17 : gsz Try.prog 17 = some (false, 1) := by kernel_rfl
theorem zr17 : gzero Try.prog 17 = some [.pointer none] := by kernel_rfl
theorem ni17 : notIface Try.prog 17 = true := by kernel_rfl
theorem sz18 : gsz Try.prog 18 = some (true, 1) := by kernel_rfl
theorem zr18 : gzero Try.prog 18 = some [.pointer none] := by kernel_rfl
theorem fo18_0 : gfo Try.prog 18 0 = some (17, 0) := by kernel_rfl
theorem sh18 : gshape Try.prog 18 = some (.fields [(0, 1)], [.pointer none]) := by kernel_rfl
theorem ni18 : notIface Try.prog 18 = true := by kernel_rfl
theorem sz19 : gsz Try.prog 19 = some (true, 1) := by kernel_rfl
theorem zr19 : gzero Try.prog 19 = some [.pointer none] := by kernel_rfl
theorem fo19_0 : gfo Try.prog 19 0 = some (17, 0) := by kernel_rfl
theorem sh19 : gshape Try.prog 19 = some (.fields [(0, 1)], [.pointer none]) := by kernel_rfl
theorem ni19 : notIface Try.prog 19 = true := by kernel_rfl
theorem sz20 : gsz Try.prog 20 = some (false, 1) := by kernel_rfl
theorem zr20 : gzero Try.prog 20 = some [.nilIface] := by kernel_rfl
theorem sz21 : gsz Try.prog 21 = some (false, 1) := by kernel_rfl
theorem zr21 : gzero Try.prog 21 = some [.int .i32 0] := by kernel_rfl
theorem ni21 : notIface Try.prog 21 = true := by kernel_rfl
theorem sz22 : gsz Try.prog 22 = some (true, 8) := by kernel_rfl
theorem zr22 : gzero Try.prog 22 = some [.int .i64 0, .int .i64 0, .int .i64 0, .int .i64 0, .int .i64 0, .int .i64 0, .int .i64 0, .int .i64 0] := by kernel_rfl
theorem fo22_0 : gfo Try.prog 22 0 = some (3, 0) := by kernel_rfl
theorem fo22_1 : gfo Try.prog 22 1 = some (3, 1) := by kernel_rfl
theorem fo22_2 : gfo Try.prog 22 2 = some (3, 2) := by kernel_rfl
theorem fo22_3 : gfo Try.prog 22 3 = some (3, 3) := by kernel_rfl
theorem fo22_4 : gfo Try.prog 22 4 = some (3, 4) := by kernel_rfl
theorem fo22_5 : gfo Try.prog 22 5 = some (3, 5) := by kernel_rfl
theorem fo22_6 : gfo Try.prog 22 6 = some (3, 6) := by kernel_rfl
theorem fo22_7 : gfo Try.prog 22 7 = some (3, 7) := by kernel_rfl
theorem sh22 : gshape Try.prog 22 = some (.fields [(0, 1), (1, 1), (2, 1), (3, 1), (4, 1), (5, 1), (6, 1), (7, 1)], [.int .i64 0, .int .i64 0, .int .i64 0, .int .i64 0, .int .i64 0, .int .i64 0, .int .i64 0, .int .i64 0]) := by kernel_rfl
theorem ni22 : notIface Try.prog 22 = true := by kernel_rfl
theorem sz23 : gsz Try.prog 23 = some (true, 8) := by kernel_rfl
theorem zr23 : gzero Try.prog 23 = some [.int .i64 0, .int .i64 0, .int .i64 0, .int .i64 0, .int .i64 0, .int .i64 0, .int .i64 0, .int .i64 0] := by kernel_rfl
theorem fo23_0 : gfo Try.prog 23 0 = some (3, 0) := by kernel_rfl
theorem fo23_1 : gfo Try.prog 23 1 = some (3, 1) := by kernel_rfl
theorem fo23_2 : gfo Try.prog 23 2 = some (3, 2) := by kernel_rfl
theorem fo23_3 : gfo Try.prog 23 3 = some (3, 3) := by kernel_rfl
theorem fo23_4 : gfo Try.prog 23 4 = some (3, 4) := by kernel_rfl
theorem fo23_5 : gfo Try.prog 23 5 = some (3, 5) := by kernel_rfl
theorem fo23_6 : gfo Try.prog 23 6 = some (3, 6) := by kernel_rfl
theorem fo23_7 : gfo Try.prog 23 7 = some (3, 7) := by kernel_rfl
theorem sh23 : gshape Try.prog 23 = some (.fields [(0, 1), (1, 1), (2, 1), (3, 1), (4, 1), (5, 1), (6, 1), (7, 1)], [.int .i64 0, .int .i64 0, .int .i64 0, .int .i64 0, .int .i64 0, .int .i64 0, .int .i64 0, .int .i64 0]) := by kernel_rfl
theorem eq23 : eqOk Try.prog 23 = true := by kernel_rfl
theorem ni23 : notIface Try.prog 23 = true := by kernel_rfl
theorem sz24 : gsz Try.prog 24 = some (false, 1) := by kernel_rfl
theorem zr24 : gzero Try.prog 24 = some [.int .i64 0] := by kernel_rfl
theorem ni24 : notIface Try.prog 24 = true := by kernel_rfl
theorem sz25 : gsz Try.prog 25 = some (false, 1) := by kernel_rfl
theorem zr25 : gzero Try.prog 25 = some [.nilFunc] := by kernel_rfl
theorem ni25 : notIface Try.prog 25 = true := by kernel_rfl
theorem sz26 : gsz Try.prog 26 = some (false, 1) := by kernel_rfl
theorem zr26 : gzero Try.prog 26 = some [.nilFunc] := by kernel_rfl
theorem ni26 : notIface Try.prog 26 = true := by kernel_rfl
theorem sz27 : gsz Try.prog 27 = some (false, 1) := by kernel_rfl
theorem zr27 : gzero Try.prog 27 = some [.nilFunc] := by kernel_rfl
theorem ni27 : notIface Try.prog 27 = true := by kernel_rfl
theorem sz28 : gsz Try.prog 28 = some (false, 1) := by kernel_rfl
theorem zr28 : gzero Try.prog 28 = some [.nilFunc] := by kernel_rfl
theorem ni28 : notIface Try.prog 28 = true := by kernel_rfl
theorem sz29 : gsz Try.prog 29 = some (false, 1) := by kernel_rfl
theorem el29 : gel Try.prog 29 = some (5, 1, 1, .int .u8 0) := by kernel_rfl
theorem zr29 : gzero Try.prog 29 = some [.slice none 0 0] := by kernel_rfl
theorem ni29 : notIface Try.prog 29 = true := by kernel_rfl
theorem sz30 : gsz Try.prog 30 = some (false, 1) := by kernel_rfl
theorem zr30 : gzero Try.prog 30 = some [.nilFunc] := by kernel_rfl
theorem ni30 : notIface Try.prog 30 = true := by kernel_rfl
theorem sz31 : gsz Try.prog 31 = some (false, 1) := by kernel_rfl
theorem zr31 : gzero Try.prog 31 = some [.nilFunc] := by kernel_rfl
theorem ni31 : notIface Try.prog 31 = true := by kernel_rfl
theorem sz32 : gsz Try.prog 32 = some (false, 1) := by kernel_rfl
theorem zr32 : gzero Try.prog 32 = some [.nilFunc] := by kernel_rfl
theorem ni32 : notIface Try.prog 32 = true := by kernel_rfl
theorem sz33 : gsz Try.prog 33 = some (false, 1) := by kernel_rfl
theorem zr33 : gzero Try.prog 33 = some [.nilFunc] := by kernel_rfl
theorem ni33 : notIface Try.prog 33 = true := by kernel_rfl
theorem sz34 : gsz Try.prog 34 = some (false, 1) := by kernel_rfl
theorem zr34 : gzero Try.prog 34 = some [.nilFunc] := by kernel_rfl
theorem ni34 : notIface Try.prog 34 = true := by kernel_rfl
theorem sz35 : gsz Try.prog 35 = some (false, 1) := by kernel_rfl
theorem zr35 : gzero Try.prog 35 = some [.nilFunc] := by kernel_rfl
theorem ni35 : notIface Try.prog 35 = true := by kernel_rfl
theorem sz36 : gsz Try.prog 36 = some (false, 1) := by kernel_rfl
theorem zr36 : gzero Try.prog 36 = some [.nilFunc] := by kernel_rfl
theorem ni36 : notIface Try.prog 36 = true := by kernel_rfl
theorem sz37 : gsz Try.prog 37 = some (false, 1) := by kernel_rfl
theorem zr37 : gzero Try.prog 37 = some [.nilFunc] := by kernel_rfl
theorem ni37 : notIface Try.prog 37 = true := by kernel_rfl
theorem sz38 : gsz Try.prog 38 = some (false, 1) := by kernel_rfl
theorem zr38 : gzero Try.prog 38 = some [.nilFunc] := by kernel_rfl
theorem ni38 : notIface Try.prog 38 = true := by kernel_rfl
theorem sz39 : gsz Try.prog 39 = some (false, 1) := by kernel_rfl
theorem zr39 : gzero Try.prog 39 = some [.int .u64 0] := by kernel_rfl
theorem ni39 : notIface Try.prog 39 = true := by kernel_rfl
theorem sz40 : gsz Try.prog 40 = some (false, 1) := by kernel_rfl
theorem zr40 : gzero Try.prog 40 = some [.nilFunc] := by kernel_rfl
theorem ni40 : notIface Try.prog 40 = true := by kernel_rfl
theorem sz41 : gsz Try.prog 41 = some (false, 1) := by kernel_rfl
theorem zr41 : gzero Try.prog 41 = some [.nilFunc] := by kernel_rfl
theorem ni41 : notIface Try.prog 41 = true := by kernel_rfl
theorem sz42 : gsz Try.prog 42 = some (false, 1) := by kernel_rfl
theorem zr42 : gzero Try.prog 42 = some [.nilFunc] := by kernel_rfl
theorem ni42 : notIface Try.prog 42 = true := by kernel_rfl
theorem sz43 : gsz Try.prog 43 = some (false, 1) := by kernel_rfl
theorem zr43 : gzero Try.prog 43 = some [.nilFunc] := by kernel_rfl
theorem ni43 : notIface Try.prog 43 = true := by kernel_rfl
theorem sz44 : gsz Try.prog 44 = some (false, 1) := by kernel_rfl
theorem zr44 : gzero Try.prog 44 = some [.pointer none] := by kernel_rfl
theorem ni44 : notIface Try.prog 44 = true := by kernel_rfl
theorem sz45 : gsz Try.prog 45 = some (true, 3) := by kernel_rfl
theorem zr45 : gzero Try.prog 45 = some [.bool false, .slice none 0 0, .int .i64 0] := by kernel_rfl
theorem fo45_0 : gfo Try.prog 45 0 = some (4, 0) := by kernel_rfl
theorem fo45_1 : gfo Try.prog 45 1 = some (29, 1) := by kernel_rfl
theorem fo45_2 : gfo Try.prog 45 2 = some (24, 2) := by kernel_rfl
theorem sh45 : gshape Try.prog 45 = some (.fields [(0, 1), (1, 1), (2, 1)], [.bool false, .slice none 0 0, .int .i64 0]) := by kernel_rfl
theorem ni45 : notIface Try.prog 45 = true := by kernel_rfl
theorem sz46 : gsz Try.prog 46 = some (true, 3) := by kernel_rfl
theorem zr46 : gzero Try.prog 46 = some [.bool false, .slice none 0 0, .int .i64 0] := by kernel_rfl
theorem fo46_0 : gfo Try.prog 46 0 = some (4, 0) := by kernel_rfl
theorem fo46_1 : gfo Try.prog 46 1 = some (29, 1) := by kernel_rfl
theorem fo46_2 : gfo Try.prog 46 2 = some (24, 2) := by kernel_rfl
theorem sh46 : gshape Try.prog 46 = some (.fields [(0, 1), (1, 1), (2, 1)], [.bool false, .slice none 0 0, .int .i64 0]) := by kernel_rfl
theorem ni46 : notIface Try.prog 46 = true := by kernel_rfl
theorem sz47 : gsz Try.prog 47 = some (false, 1) := by kernel_rfl
theorem el47 : gel Try.prog 47 = some (44, 1, 8, .pointer none) := by kernel_rfl
theorem zr47 : gzero Try.prog 47 = some [.slice none 0 0] := by kernel_rfl
theorem ni47 : notIface Try.prog 47 = true := by kernel_rfl
theorem sz48 : gsz Try.prog 48 = some (false, 1) := by kernel_rfl
theorem zr48 : gzero Try.prog 48 = some [.nilFunc] := by kernel_rfl
theorem ni48 : notIface Try.prog 48 = true := by kernel_rfl
theorem sz49 : gsz Try.prog 49 = some (false, 1) := by kernel_rfl
theorem zr49 : gzero Try.prog 49 = some [.nilFunc] := by kernel_rfl
theorem ni49 : notIface Try.prog 49 = true := by kernel_rfl
theorem sz50 : gsz Try.prog 50 = some (false, 1) := by kernel_rfl
theorem zr50 : gzero Try.prog 50 = some [.nilFunc] := by kernel_rfl
theorem ni50 : notIface Try.prog 50 = true := by kernel_rfl
theorem sz51 : gsz Try.prog 51 = some (false, 1) := by kernel_rfl
theorem zr51 : gzero Try.prog 51 = some [.nilFunc] := by kernel_rfl
theorem ni51 : notIface Try.prog 51 = true := by kernel_rfl
theorem sz52 : gsz Try.prog 52 = some (false, 1) := by kernel_rfl
theorem zr52 : gzero Try.prog 52 = some [.nilFunc] := by kernel_rfl
theorem ni52 : notIface Try.prog 52 = true := by kernel_rfl
theorem sz53 : gsz Try.prog 53 = some (false, 1) := by kernel_rfl
theorem zr53 : gzero Try.prog 53 = some [.nilFunc] := by kernel_rfl
theorem ni53 : notIface Try.prog 53 = true := by kernel_rfl
theorem sz54 : gsz Try.prog 54 = some (false, 1) := by kernel_rfl
theorem zr54 : gzero Try.prog 54 = some [.nilFunc] := by kernel_rfl
theorem ni54 : notIface Try.prog 54 = true := by kernel_rfl
theorem sz55 : gsz Try.prog 55 = some (false, 1) := by kernel_rfl
theorem zr55 : gzero Try.prog 55 = some [.nilFunc] := by kernel_rfl
theorem ni55 : notIface Try.prog 55 = true := by kernel_rfl
theorem sz56 : gsz Try.prog 56 = some (false, 1) := by kernel_rfl
theorem el56 : gel Try.prog 56 = some (61, 2, 16, .agg #[.int .i64 0, .int .i64 0]) := by kernel_rfl
theorem zr56 : gzero Try.prog 56 = some [.slice none 0 0] := by kernel_rfl
theorem ni56 : notIface Try.prog 56 = true := by kernel_rfl
theorem sz57 : gsz Try.prog 57 = some (false, 1) := by kernel_rfl
theorem zr57 : gzero Try.prog 57 = some [.pointer none] := by kernel_rfl
theorem ni57 : notIface Try.prog 57 = true := by kernel_rfl
theorem sz58 : gsz Try.prog 58 = some (true, 2) := by kernel_rfl
theorem zr58 : gzero Try.prog 58 = some [.slice none 0 0, .int .i64 0] := by kernel_rfl
theorem fo58_0 : gfo Try.prog 58 0 = some (29, 0) := by kernel_rfl
theorem fo58_1 : gfo Try.prog 58 1 = some (24, 1) := by kernel_rfl
theorem sh58 : gshape Try.prog 58 = some (.fields [(0, 1), (1, 1)], [.slice none 0 0, .int .i64 0]) := by kernel_rfl
theorem ni58 : notIface Try.prog 58 = true := by kernel_rfl
theorem sz59 : gsz Try.prog 59 = some (true, 2) := by kernel_rfl
theorem zr59 : gzero Try.prog 59 = some [.slice none 0 0, .int .i64 0] := by kernel_rfl
theorem fo59_0 : gfo Try.prog 59 0 = some (29, 0) := by kernel_rfl
theorem fo59_1 : gfo Try.prog 59 1 = some (24, 1) := by kernel_rfl
theorem sh59 : gshape Try.prog 59 = some (.fields [(0, 1), (1, 1)], [.slice none 0 0, .int .i64 0]) := by kernel_rfl
theorem ni59 : notIface Try.prog 59 = true := by kernel_rfl
theorem sz60 : gsz Try.prog 60 = some (true, 2) := by kernel_rfl
theorem zr60 : gzero Try.prog 60 = some [.int .i64 0, .int .i64 0] := by kernel_rfl
theorem fo60_0 : gfo Try.prog 60 0 = some (3, 0) := by kernel_rfl
theorem fo60_1 : gfo Try.prog 60 1 = some (3, 1) := by kernel_rfl
theorem sh60 : gshape Try.prog 60 = some (.fields [(0, 1), (1, 1)], [.int .i64 0, .int .i64 0]) := by kernel_rfl
theorem ni60 : notIface Try.prog 60 = true := by kernel_rfl
theorem sz61 : gsz Try.prog 61 = some (true, 2) := by kernel_rfl
theorem zr61 : gzero Try.prog 61 = some [.int .i64 0, .int .i64 0] := by kernel_rfl
theorem fo61_0 : gfo Try.prog 61 0 = some (3, 0) := by kernel_rfl
theorem fo61_1 : gfo Try.prog 61 1 = some (3, 1) := by kernel_rfl
theorem sh61 : gshape Try.prog 61 = some (.fields [(0, 1), (1, 1)], [.int .i64 0, .int .i64 0]) := by kernel_rfl
theorem ni61 : notIface Try.prog 61 = true := by kernel_rfl
theorem sz62 : gsz Try.prog 62 = some (false, 1) := by kernel_rfl
theorem zr62 : gzero Try.prog 62 = some [.nilFunc] := by kernel_rfl
theorem ni62 : notIface Try.prog 62 = true := by kernel_rfl
theorem sz64 : gsz Try.prog 64 = some (false, 1) := by kernel_rfl
theorem zr64 : gzero Try.prog 64 = some [.nilFunc] := by kernel_rfl
theorem ni64 : notIface Try.prog 64 = true := by kernel_rfl
theorem sz65 : gsz Try.prog 65 = some (false, 1) := by kernel_rfl
theorem zr65 : gzero Try.prog 65 = some [.nilFunc] := by kernel_rfl
theorem ni65 : notIface Try.prog 65 = true := by kernel_rfl
theorem sz66 : gsz Try.prog 66 = some (false, 1) := by kernel_rfl
theorem zr66 : gzero Try.prog 66 = some [.nilFunc] := by kernel_rfl
theorem ni66 : notIface Try.prog 66 = true := by kernel_rfl
theorem sz67 : gsz Try.prog 67 = some (false, 1) := by kernel_rfl
theorem zr67 : gzero Try.prog 67 = some [.nilFunc] := by kernel_rfl
theorem ni67 : notIface Try.prog 67 = true := by kernel_rfl
theorem sz68 : gsz Try.prog 68 = some (false, 1) := by kernel_rfl
theorem zr68 : gzero Try.prog 68 = some [.nilFunc] := by kernel_rfl
theorem ni68 : notIface Try.prog 68 = true := by kernel_rfl
theorem sz69 : gsz Try.prog 69 = some (false, 1) := by kernel_rfl
theorem zr69 : gzero Try.prog 69 = some [.nilFunc] := by kernel_rfl
theorem ni69 : notIface Try.prog 69 = true := by kernel_rfl
theorem sz70 : gsz Try.prog 70 = some (false, 1) := by kernel_rfl
theorem zr70 : gzero Try.prog 70 = some [.nilFunc] := by kernel_rfl
theorem ni70 : notIface Try.prog 70 = true := by kernel_rfl
theorem sz71 : gsz Try.prog 71 = some (false, 1) := by kernel_rfl
theorem zr71 : gzero Try.prog 71 = some [.nilFunc] := by kernel_rfl
theorem ni71 : notIface Try.prog 71 = true := by kernel_rfl
theorem sz72 : gsz Try.prog 72 = some (false, 1) := by kernel_rfl
theorem zr72 : gzero Try.prog 72 = some [.nilFunc] := by kernel_rfl
theorem ni72 : notIface Try.prog 72 = true := by kernel_rfl
theorem sz73 : gsz Try.prog 73 = some (false, 1) := by kernel_rfl
theorem zr73 : gzero Try.prog 73 = some [.nilFunc] := by kernel_rfl
theorem ni73 : notIface Try.prog 73 = true := by kernel_rfl
theorem sz74 : gsz Try.prog 74 = some (false, 1) := by kernel_rfl
theorem zr74 : gzero Try.prog 74 = some [.int .u64 0] := by kernel_rfl
theorem ni74 : notIface Try.prog 74 = true := by kernel_rfl
theorem sz75 : gsz Try.prog 75 = some (false, 1) := by kernel_rfl
theorem zr75 : gzero Try.prog 75 = some [.nilFunc] := by kernel_rfl
theorem ni75 : notIface Try.prog 75 = true := by kernel_rfl
theorem sz76 : gsz Try.prog 76 = some (false, 1) := by kernel_rfl
theorem zr76 : gzero Try.prog 76 = some [.pointer none] := by kernel_rfl
theorem ni76 : notIface Try.prog 76 = true := by kernel_rfl
theorem sz77 : gsz Try.prog 77 = some (true, 8) := by kernel_rfl
theorem zr77 : gzero Try.prog 77 = some [.pointer none, .pointer none, .pointer none, .pointer none, .pointer none, .pointer none, .pointer none, .pointer none] := by kernel_rfl
theorem sh77 : gshape Try.prog 77 = some (.elems 1, [.pointer none, .pointer none, .pointer none, .pointer none, .pointer none, .pointer none, .pointer none, .pointer none]) := by kernel_rfl
theorem ni77 : notIface Try.prog 77 = true := by kernel_rfl
theorem sz78 : gsz Try.prog 78 = some (true, 8) := by kernel_rfl
theorem zr78 : gzero Try.prog 78 = some [.int .i64 0, .int .i64 0, .int .i64 0, .int .i64 0, .int .i64 0, .int .i64 0, .int .i64 0, .int .i64 0] := by kernel_rfl
theorem sh78 : gshape Try.prog 78 = some (.elems 1, [.int .i64 0, .int .i64 0, .int .i64 0, .int .i64 0, .int .i64 0, .int .i64 0, .int .i64 0, .int .i64 0]) := by kernel_rfl
theorem ni78 : notIface Try.prog 78 = true := by kernel_rfl
theorem sz79 : gsz Try.prog 79 = some (false, 1) := by kernel_rfl
theorem el79 : gel Try.prog 79 = some (3, 1, 8, .int .i64 0) := by kernel_rfl
theorem zr79 : gzero Try.prog 79 = some [.slice none 0 0] := by kernel_rfl
theorem ni79 : notIface Try.prog 79 = true := by kernel_rfl
theorem sz80 : gsz Try.prog 80 = some (true, 3) := by kernel_rfl
theorem zr80 : gzero Try.prog 80 = some [.int .i64 0, .int .i64 0, .int .i64 0] := by kernel_rfl
theorem fo80_0 : gfo Try.prog 80 0 = some (3, 0) := by kernel_rfl
theorem fo80_1 : gfo Try.prog 80 1 = some (3, 1) := by kernel_rfl
theorem fo80_2 : gfo Try.prog 80 2 = some (3, 2) := by kernel_rfl
theorem sh80 : gshape Try.prog 80 = some (.fields [(0, 1), (1, 1), (2, 1)], [.int .i64 0, .int .i64 0, .int .i64 0]) := by kernel_rfl
theorem ni80 : notIface Try.prog 80 = true := by kernel_rfl
theorem sz81 : gsz Try.prog 81 = some (true, 3) := by kernel_rfl
theorem zr81 : gzero Try.prog 81 = some [.int .i64 0, .int .i64 0, .int .i64 0] := by kernel_rfl
theorem fo81_0 : gfo Try.prog 81 0 = some (3, 0) := by kernel_rfl
theorem fo81_1 : gfo Try.prog 81 1 = some (3, 1) := by kernel_rfl
theorem fo81_2 : gfo Try.prog 81 2 = some (3, 2) := by kernel_rfl
theorem sh81 : gshape Try.prog 81 = some (.fields [(0, 1), (1, 1), (2, 1)], [.int .i64 0, .int .i64 0, .int .i64 0]) := by kernel_rfl
theorem ni81 : notIface Try.prog 81 = true := by kernel_rfl
theorem sz82 : gsz Try.prog 82 = some (true, 21) := by kernel_rfl
theorem zr82 : gzero Try.prog 82 = some [.int .i64 0, .int .i64 0, .int .i64 0, .int .i64 0, .int .i64 0, .int .i64 0, .int .i64 0, .int .i64 0, .int .i64 0, .int .i64 0, .int .i64 0, .int .i64 0, .int .i64 0, .int .i64 0, .int .i64 0, .int .i64 0, .int .i64 0, .int .i64 0, .int .i64 0, .int .i64 0, .int .i64 0] := by kernel_rfl
theorem sh82 : gshape Try.prog 82 = some (.elems 3, [.int .i64 0, .int .i64 0, .int .i64 0, .int .i64 0, .int .i64 0, .int .i64 0, .int .i64 0, .int .i64 0, .int .i64 0, .int .i64 0, .int .i64 0, .int .i64 0, .int .i64 0, .int .i64 0, .int .i64 0, .int .i64 0, .int .i64 0, .int .i64 0, .int .i64 0, .int .i64 0, .int .i64 0]) := by kernel_rfl
theorem ni82 : notIface Try.prog 82 = true := by kernel_rfl
theorem sz83 : gsz Try.prog 83 = some (false, 1) := by kernel_rfl
theorem el83 : gel Try.prog 83 = some (29, 1, 24, .slice none 0 0) := by kernel_rfl
theorem zr83 : gzero Try.prog 83 = some [.slice none 0 0] := by kernel_rfl
theorem ni83 : notIface Try.prog 83 = true := by kernel_rfl
theorem sz84 : gsz Try.prog 84 = some (false, 1) := by kernel_rfl
theorem zr84 : gzero Try.prog 84 = some [.nilFunc] := by kernel_rfl
theorem ni84 : notIface Try.prog 84 = true := by kernel_rfl
theorem sz85 : gsz Try.prog 85 = some (false, 1) := by kernel_rfl
theorem zr85 : gzero Try.prog 85 = some [.int .u32 0] := by kernel_rfl
theorem ni85 : notIface Try.prog 85 = true := by kernel_rfl
theorem sz86 : gsz Try.prog 86 = some (false, 1) := by kernel_rfl
theorem zr86 : gzero Try.prog 86 = some [.nilFunc] := by kernel_rfl
theorem ni86 : notIface Try.prog 86 = true := by kernel_rfl
theorem sz87 : gsz Try.prog 87 = some (false, 1) := by kernel_rfl
theorem zr87 : gzero Try.prog 87 = some [.nilFunc] := by kernel_rfl
theorem ni87 : notIface Try.prog 87 = true := by kernel_rfl
theorem sz88 : gsz Try.prog 88 = some (true, 4) := by kernel_rfl
theorem zr88 : gzero Try.prog 88 = some [.pointer none, .pointer none, .pointer none, .string ByteArray.empty] := by kernel_rfl
theorem fo88_0 : gfo Try.prog 88 0 = some (17, 0) := by kernel_rfl
theorem fo88_1 : gfo Try.prog 88 1 = some (17, 1) := by kernel_rfl
theorem fo88_2 : gfo Try.prog 88 2 = some (17, 2) := by kernel_rfl
theorem fo88_3 : gfo Try.prog 88 3 = some (9, 3) := by kernel_rfl
theorem sh88 : gshape Try.prog 88 = some (.fields [(0, 1), (1, 1), (2, 1), (3, 1)], [.pointer none, .pointer none, .pointer none, .string ByteArray.empty]) := by kernel_rfl
theorem ni88 : notIface Try.prog 88 = true := by kernel_rfl
theorem sz89 : gsz Try.prog 89 = some (true, 4) := by kernel_rfl
theorem zr89 : gzero Try.prog 89 = some [.pointer none, .pointer none, .pointer none, .string ByteArray.empty] := by kernel_rfl
theorem fo89_0 : gfo Try.prog 89 0 = some (17, 0) := by kernel_rfl
theorem fo89_1 : gfo Try.prog 89 1 = some (17, 1) := by kernel_rfl
theorem fo89_2 : gfo Try.prog 89 2 = some (17, 2) := by kernel_rfl
theorem fo89_3 : gfo Try.prog 89 3 = some (9, 3) := by kernel_rfl
theorem sh89 : gshape Try.prog 89 = some (.fields [(0, 1), (1, 1), (2, 1), (3, 1)], [.pointer none, .pointer none, .pointer none, .string ByteArray.empty]) := by kernel_rfl
theorem ni89 : notIface Try.prog 89 = true := by kernel_rfl
theorem sz93 : gsz Try.prog 93 = some (false, 1) := by kernel_rfl
theorem zr93 : gzero Try.prog 93 = some [.int .u8 0] := by kernel_rfl
theorem ni93 : notIface Try.prog 93 = true := by kernel_rfl
theorem sz94 : gsz Try.prog 94 = some (false, 1) := by kernel_rfl
theorem zr94 : gzero Try.prog 94 = some [.int .u8 0] := by kernel_rfl
theorem ni94 : notIface Try.prog 94 = true := by kernel_rfl
theorem sz95 : gsz Try.prog 95 = some (false, 1) := by kernel_rfl
theorem zr95 : gzero Try.prog 95 = some [.nilFunc] := by kernel_rfl
theorem ni95 : notIface Try.prog 95 = true := by kernel_rfl
theorem sz96 : gsz Try.prog 96 = some (false, 1) := by kernel_rfl
theorem zr96 : gzero Try.prog 96 = some [.pointer none] := by kernel_rfl
theorem ni96 : notIface Try.prog 96 = true := by kernel_rfl
theorem sz97 : gsz Try.prog 97 = some (false, 1) := by kernel_rfl
theorem zr97 : gzero Try.prog 97 = some [.int .i32 0] := by kernel_rfl
theorem ni97 : notIface Try.prog 97 = true := by kernel_rfl
theorem sz98 : gsz Try.prog 98 = some (false, 1) := by kernel_rfl
theorem zr98 : gzero Try.prog 98 = some [.int .i32 0] := by kernel_rfl
theorem ni98 : notIface Try.prog 98 = true := by kernel_rfl
theorem sz99 : gsz Try.prog 99 = some (true, 11) := by kernel_rfl
theorem zr99 : gzero Try.prog 99 = some [.int .u64 0, .int .u64 0, .int .u32 0, .int .u8 0, .int .u8 0, .int .u8 0, .int .u8 0, .nilFunc, .pointer none, .int .i32 0, .int .i32 0] := by kernel_rfl
theorem fo99_0 : gfo Try.prog 99 0 = some (12, 0) := by kernel_rfl
theorem fo99_1 : gfo Try.prog 99 1 = some (12, 1) := by kernel_rfl
theorem fo99_2 : gfo Try.prog 99 2 = some (85, 2) := by kernel_rfl
theorem fo99_3 : gfo Try.prog 99 3 = some (93, 3) := by kernel_rfl
theorem fo99_4 : gfo Try.prog 99 4 = some (5, 4) := by kernel_rfl
theorem fo99_5 : gfo Try.prog 99 5 = some (5, 5) := by kernel_rfl
theorem fo99_6 : gfo Try.prog 99 6 = some (94, 6) := by kernel_rfl
theorem fo99_7 : gfo Try.prog 99 7 = some (95, 7) := by kernel_rfl
theorem fo99_8 : gfo Try.prog 99 8 = some (96, 8) := by kernel_rfl
theorem fo99_9 : gfo Try.prog 99 9 = some (97, 9) := by kernel_rfl
theorem fo99_10 : gfo Try.prog 99 10 = some (98, 10) := by kernel_rfl
theorem sh99 : gshape Try.prog 99 = some (.fields [(0, 1), (1, 1), (2, 1), (3, 1), (4, 1), (5, 1), (6, 1), (7, 1), (8, 1), (9, 1), (10, 1)], [.int .u64 0, .int .u64 0, .int .u32 0, .int .u8 0, .int .u8 0, .int .u8 0, .int .u8 0, .nilFunc, .pointer none, .int .i32 0, .int .i32 0]) := by kernel_rfl
theorem ni99 : notIface Try.prog 99 = true := by kernel_rfl
theorem sz100 : gsz Try.prog 100 = some (true, 11) := by kernel_rfl
theorem zr100 : gzero Try.prog 100 = some [.int .u64 0, .int .u64 0, .int .u32 0, .int .u8 0, .int .u8 0, .int .u8 0, .int .u8 0, .nilFunc, .pointer none, .int .i32 0, .int .i32 0] := by kernel_rfl
theorem fo100_0 : gfo Try.prog 100 0 = some (12, 0) := by kernel_rfl
theorem fo100_1 : gfo Try.prog 100 1 = some (12, 1) := by kernel_rfl
theorem fo100_2 : gfo Try.prog 100 2 = some (85, 2) := by kernel_rfl
theorem fo100_3 : gfo Try.prog 100 3 = some (93, 3) := by kernel_rfl
theorem fo100_4 : gfo Try.prog 100 4 = some (5, 4) := by kernel_rfl
theorem fo100_5 : gfo Try.prog 100 5 = some (5, 5) := by kernel_rfl
theorem fo100_6 : gfo Try.prog 100 6 = some (94, 6) := by kernel_rfl
theorem fo100_7 : gfo Try.prog 100 7 = some (95, 7) := by kernel_rfl
theorem fo100_8 : gfo Try.prog 100 8 = some (96, 8) := by kernel_rfl
theorem fo100_9 : gfo Try.prog 100 9 = some (97, 9) := by kernel_rfl
theorem fo100_10 : gfo Try.prog 100 10 = some (98, 10) := by kernel_rfl
theorem sh100 : gshape Try.prog 100 = some (.fields [(0, 1), (1, 1), (2, 1), (3, 1), (4, 1), (5, 1), (6, 1), (7, 1), (8, 1), (9, 1), (10, 1)], [.int .u64 0, .int .u64 0, .int .u32 0, .int .u8 0, .int .u8 0, .int .u8 0, .int .u8 0, .nilFunc, .pointer none, .int .i32 0, .int .i32 0]) := by kernel_rfl
theorem ni100 : notIface Try.prog 100 = true := by kernel_rfl
theorem cv3_5 : ∀ (h : GH) (n : Int), gConvO Try.prog 3 5 h (.int .i64 n) = some (.int .u8 (IntKind.wrap .u8 n)) := by intros; simp [gConvO, gConv, Try.underlying3, Try.underlying5]
theorem cv3_39 : ∀ (h : GH) (n : Int), gConvO Try.prog 3 39 h (.int .i64 n) = some (.int .u64 (IntKind.wrap .u64 n)) := by intros; simp [gConvO, gConv, Try.underlying3, Try.underlying39]
theorem cv5_3 : ∀ (h : GH) (n : Int), gConvO Try.prog 5 3 h (.int .u8 n) = some (.int .i64 (IntKind.wrap .i64 n)) := by intros; simp [gConvO, gConv, Try.underlying5, Try.underlying3]
theorem cv5_74 : ∀ (h : GH) (n : Int), gConvO Try.prog 5 74 h (.int .u8 n) = some (.int .u64 (IntKind.wrap .u64 n)) := by intros; simp [gConvO, gConv, Try.underlying5, Try.underlying74]
theorem cv39_3 : ∀ (h : GH) (n : Int), gConvO Try.prog 39 3 h (.int .u64 n) = some (.int .i64 (IntKind.wrap .i64 n)) := by intros; simp [gConvO, gConv, Try.underlying39, Try.underlying3]
theorem cv39_85 : ∀ (h : GH) (n : Int), gConvO Try.prog 39 85 h (.int .u64 n) = some (.int .u32 (IntKind.wrap .u32 n)) := by intros; simp [gConvO, gConv, Try.underlying39, Try.underlying85]
theorem cv74_3 : ∀ (h : GH) (n : Int), gConvO Try.prog 74 3 h (.int .u64 n) = some (.int .i64 (IntKind.wrap .i64 n)) := by intros; simp [gConvO, gConv, Try.underlying74, Try.underlying3]
theorem cv74_5 : ∀ (h : GH) (n : Int), gConvO Try.prog 74 5 h (.int .u64 n) = some (.int .u8 (IntKind.wrap .u8 n)) := by intros; simp [gConvO, gConv, Try.underlying74, Try.underlying5]
theorem cv85_5 : ∀ (h : GH) (n : Int), gConvO Try.prog 85 5 h (.int .u32 n) = some (.int .u8 (IntKind.wrap .u8 n)) := by intros; simp [gConvO, gConv, Try.underlying85, Try.underlying5]
theorem mixed : Try.prog.follows .mixedOrders = true := by kernel_rfl
end Go.Gh
