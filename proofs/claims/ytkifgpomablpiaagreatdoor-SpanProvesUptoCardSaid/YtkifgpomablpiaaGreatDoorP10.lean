/- Parts of this claim's proof, 10. No statement of the claim stands here. -/
import Derived.Test.YtkifgpomablpiaaGreatDoorP9
import Derived.Test.YtkifgpomablpiaaGreatDoorProg
namespace Go.Gh
open Go Go.Proofs
set_option maxRecDepth 100000
theorem ok3 : qV Tryz.prog Tryz.f3.ntmps (Tryz.f3.body.getD .skip) = true := by kernel_rfl
theorem ok4 : qV Tryz.prog Tryz.f4.ntmps (Tryz.f4.body.getD .skip) = true := by kernel_rfl
theorem gf5 : vC Tryz.prog 5 = true := by kernel_rfl
theorem rs5 : Tryz.f5.results.toList = [.tmp 4] := by kernel_rfl
theorem ok5 : qV Tryz.prog Tryz.f5.ntmps (Tryz.f5.body.getD .skip) = true := by kernel_rfl
theorem gf11 : vC Tryz.prog 11 = true := by kernel_rfl
theorem rs11 : Tryz.f11.results.toList = [.tmp 4] := by kernel_rfl
theorem ok11 : qV Tryz.prog Tryz.f11.ntmps (Tryz.f11.body.getD .skip) = true := by kernel_rfl
theorem gf12 : vC Tryz.prog 12 = true := by kernel_rfl
theorem rs12 : Tryz.f12.results.toList = [.tmp 4] := by kernel_rfl
theorem ok12 : qV Tryz.prog Tryz.f12.ntmps (Tryz.f12.body.getD .skip) = true := by kernel_rfl
theorem gf21 : vC Tryz.prog 21 = true := by kernel_rfl
theorem rs21 : Tryz.f21.results.toList = [.tmp 2, .tmp 3, .tmp 4, .tmp 5] := by kernel_rfl
theorem ok21 : qV Tryz.prog Tryz.f21.ntmps (Tryz.f21.body.getD .skip) = true := by kernel_rfl
theorem gf22 : vC Tryz.prog 22 = true := by kernel_rfl
theorem rs22 : Tryz.f22.results.toList = [.cell 12 26] := by kernel_rfl
theorem ok22 : qV Tryz.prog Tryz.f22.ntmps (Tryz.f22.body.getD .skip) = true := by kernel_rfl
theorem gf23 : vC Tryz.prog 23 = true := by kernel_rfl
theorem rs23 : Tryz.f23.results.toList = [.cell 12 26] := by kernel_rfl
theorem ok23 : qV Tryz.prog Tryz.f23.ntmps (Tryz.f23.body.getD .skip) = true := by kernel_rfl
theorem gf24 : vC Tryz.prog 24 = true := by kernel_rfl
theorem rs24 : Tryz.f24.results.toList = [.tmp 4] := by kernel_rfl
theorem ok24 : qV Tryz.prog Tryz.f24.ntmps (Tryz.f24.body.getD .skip) = true := by kernel_rfl
theorem gf25 : vC Tryz.prog 25 = true := by kernel_rfl
theorem rs25 : Tryz.f25.results.toList = [.tmp 4] := by kernel_rfl
theorem ok25 : qV Tryz.prog Tryz.f25.ntmps (Tryz.f25.body.getD .skip) = true := by kernel_rfl
theorem gf26 : vC Tryz.prog 26 = true := by kernel_rfl
theorem rs26 : Tryz.f26.results.toList = [.tmp 4] := by kernel_rfl
theorem ok26 : qV Tryz.prog Tryz.f26.ntmps (Tryz.f26.body.getD .skip) = true := by kernel_rfl
theorem gf27 : vC Tryz.prog 27 = true := by kernel_rfl
theorem rs27 : Tryz.f27.results.toList = [.tmp 2] := by kernel_rfl
theorem ok27 : qV Tryz.prog Tryz.f27.ntmps (Tryz.f27.body.getD .skip) = true := by kernel_rfl
theorem gf28 : vC Tryz.prog 28 = true := by kernel_rfl
theorem rs28 : Tryz.f28.results.toList = [.tmp 2] := by kernel_rfl
theorem ok28 : qV Tryz.prog Tryz.f28.ntmps (Tryz.f28.body.getD .skip) = true := by kernel_rfl
theorem gf29 : vC Tryz.prog 29 = true := by kernel_rfl
theorem rs29 : Tryz.f29.results.toList = [.tmp 4] := by kernel_rfl
theorem ok29 : qV Tryz.prog Tryz.f29.ntmps (Tryz.f29.body.getD .skip) = true := by kernel_rfl
theorem gf30 : vC Tryz.prog 30 = true := by kernel_rfl
theorem rs30 : Tryz.f30.results.toList = [.tmp 4] := by kernel_rfl
theorem ok30 : qV Tryz.prog Tryz.f30.ntmps (Tryz.f30.body.getD .skip) = true := by kernel_rfl
theorem gf31 : vC Tryz.prog 31 = true := by kernel_rfl
theorem rs31 : Tryz.f31.results.toList = [.tmp 0] := by kernel_rfl
theorem ok31 : qV Tryz.prog Tryz.f31.ntmps (Tryz.f31.body.getD .skip) = true := by kernel_rfl
theorem gf33 : vC Tryz.prog 33 = true := by kernel_rfl
theorem rs33 : Tryz.f33.results.toList = [.tmp 12, .tmp 13, .tmp 14] := by kernel_rfl
theorem ok33 : qV Tryz.prog Tryz.f33.ntmps (Tryz.f33.body.getD .skip) = true := by kernel_rfl
theorem gf37 : vC Tryz.prog 37 = true := by kernel_rfl
theorem rs37 : Tryz.f37.results.toList = [.tmp 2] := by kernel_rfl
theorem ok37 : qV Tryz.prog Tryz.f37.ntmps (Tryz.f37.body.getD .skip) = true := by kernel_rfl
theorem gf38 : vC Tryz.prog 38 = true := by kernel_rfl
theorem rs38 : Tryz.f38.results.toList = [.tmp 2] := by kernel_rfl
theorem ok38 : qV Tryz.prog Tryz.f38.ntmps (Tryz.f38.body.getD .skip) = true := by kernel_rfl
theorem gf39 : vC Tryz.prog 39 = true := by kernel_rfl
theorem rs39 : Tryz.f39.results.toList = [.tmp 2] := by kernel_rfl
theorem ok39 : qV Tryz.prog Tryz.f39.ntmps (Tryz.f39.body.getD .skip) = true := by kernel_rfl
theorem gf41 : vC Tryz.prog 41 = true := by kernel_rfl
theorem rs41 : Tryz.f41.results.toList = [.tmp 4] := by kernel_rfl
theorem ok41 : qV Tryz.prog Tryz.f41.ntmps (Tryz.f41.body.getD .skip) = true := by kernel_rfl
theorem gf42 : vC Tryz.prog 42 = true := by kernel_rfl
theorem rs42 : Tryz.f42.results.toList = [.tmp 10] := by kernel_rfl
theorem ok42 : qV Tryz.prog Tryz.f42.ntmps (Tryz.f42.body.getD .skip) = true := by kernel_rfl
theorem gf44 : vC Tryz.prog 44 = true := by kernel_rfl
theorem rs44 : Tryz.f44.results.toList = [.tmp 2] := by kernel_rfl
theorem ok44 : qV Tryz.prog Tryz.f44.ntmps (Tryz.f44.body.getD .skip) = true := by kernel_rfl
theorem gf45 : vC Tryz.prog 45 = true := by kernel_rfl
theorem rs45 : Tryz.f45.results.toList = [.tmp 4, .tmp 5] := by kernel_rfl
theorem ok45 : qV Tryz.prog Tryz.f45.ntmps (Tryz.f45.body.getD .skip) = true := by kernel_rfl
theorem gf46 : vC Tryz.prog 46 = true := by kernel_rfl
theorem rs46 : Tryz.f46.results.toList = [.tmp 4, .tmp 5] := by kernel_rfl
theorem ok46 : qV Tryz.prog Tryz.f46.ntmps (Tryz.f46.body.getD .skip) = true := by kernel_rfl
theorem gf47 : vC Tryz.prog 47 = true := by kernel_rfl
theorem rs47 : Tryz.f47.results.toList = [.tmp 10, .tmp 11] := by kernel_rfl
theorem ok47 : qV Tryz.prog Tryz.f47.ntmps (Tryz.f47.body.getD .skip) = true := by kernel_rfl
theorem gf48 : vC Tryz.prog 48 = true := by kernel_rfl
theorem rs48 : Tryz.f48.results.toList = [.tmp 10, .tmp 11] := by kernel_rfl
theorem ok48 : qV Tryz.prog Tryz.f48.ntmps (Tryz.f48.body.getD .skip) = true := by kernel_rfl
theorem gf49 : vC Tryz.prog 49 = true := by kernel_rfl
theorem rs49 : Tryz.f49.results.toList = [.cell 4 92, .tmp 5] := by kernel_rfl
theorem ok49 : qV Tryz.prog Tryz.f49.ntmps (Tryz.f49.body.getD .skip) = true := by kernel_rfl
theorem gf50 : vC Tryz.prog 50 = true := by kernel_rfl
theorem rs50 : Tryz.f50.results.toList = [.tmp 6] := by kernel_rfl
theorem ok50 : qV Tryz.prog Tryz.f50.ntmps (Tryz.f50.body.getD .skip) = true := by kernel_rfl
theorem gf51 : vC Tryz.prog 51 = true := by kernel_rfl
theorem rs51 : Tryz.f51.results.toList = [.cell 2 26] := by kernel_rfl
theorem ok51 : qV Tryz.prog Tryz.f51.ntmps (Tryz.f51.body.getD .skip) = true := by kernel_rfl
theorem gf52 : vC Tryz.prog 52 = true := by kernel_rfl
theorem rs52 : Tryz.f52.results.toList = [.tmp 4] := by kernel_rfl
theorem ok52 : qV Tryz.prog Tryz.f52.ntmps (Tryz.f52.body.getD .skip) = true := by kernel_rfl
theorem gf53 : vC Tryz.prog 53 = true := by kernel_rfl
theorem rs53 : Tryz.f53.results.toList = [.tmp 2] := by kernel_rfl
theorem ok53 : qV Tryz.prog Tryz.f53.ntmps (Tryz.f53.body.getD .skip) = true := by kernel_rfl
theorem gf54 : vC Tryz.prog 54 = true := by kernel_rfl
theorem rs54 : Tryz.f54.results.toList = [.cell 4 92, .tmp 5] := by kernel_rfl
theorem ok54 : qV Tryz.prog Tryz.f54.ntmps (Tryz.f54.body.getD .skip) = true := by kernel_rfl
theorem gf55 : vC Tryz.prog 55 = true := by kernel_rfl
theorem rs55 : Tryz.f55.results.toList = [.tmp 6] := by kernel_rfl
theorem ok55 : qV Tryz.prog Tryz.f55.ntmps (Tryz.f55.body.getD .skip) = true := by kernel_rfl
theorem gf56 : vC Tryz.prog 56 = true := by kernel_rfl
theorem rs56 : Tryz.f56.results.toList = [.tmp 4] := by kernel_rfl
theorem ok56 : qV Tryz.prog Tryz.f56.ntmps (Tryz.f56.body.getD .skip) = true := by kernel_rfl
theorem gf57 : vC Tryz.prog 57 = true := by kernel_rfl
theorem rs57 : Tryz.f57.results.toList = [.tmp 4] := by kernel_rfl
theorem ok57 : qV Tryz.prog Tryz.f57.ntmps (Tryz.f57.body.getD .skip) = true := by kernel_rfl
theorem gf59 : vC Tryz.prog 59 = true := by kernel_rfl
theorem rs59 : Tryz.f59.results.toList = [.tmp 0] := by kernel_rfl
theorem ok59 : qV Tryz.prog Tryz.f59.ntmps (Tryz.f59.body.getD .skip) = true := by kernel_rfl
theorem gf60 : vC Tryz.prog 60 = true := by kernel_rfl
theorem rs60 : Tryz.f60.results.toList = [.tmp 6] := by kernel_rfl
theorem ok60 : qV Tryz.prog Tryz.f60.ntmps (Tryz.f60.body.getD .skip) = true := by kernel_rfl
theorem gf61 : vC Tryz.prog 61 = true := by kernel_rfl
theorem rs61 : Tryz.f61.results.toList = [.tmp 10] := by kernel_rfl
theorem ok61 : qV Tryz.prog Tryz.f61.ntmps (Tryz.f61.body.getD .skip) = true := by kernel_rfl
theorem gf62 : vC Tryz.prog 62 = true := by kernel_rfl
theorem rs62 : Tryz.f62.results.toList = [.tmp 4] := by kernel_rfl
theorem ok62 : qV Tryz.prog Tryz.f62.ntmps (Tryz.f62.body.getD .skip) = true := by kernel_rfl
theorem gf63 : vC Tryz.prog 63 = true := by kernel_rfl
theorem rs63 : Tryz.f63.results.toList = [.tmp 2] := by kernel_rfl
theorem ok63 : qV Tryz.prog Tryz.f63.ntmps (Tryz.f63.body.getD .skip) = true := by kernel_rfl
theorem gf65 : vC Tryz.prog 65 = true := by kernel_rfl
theorem rs65 : Tryz.f65.results.toList = [.tmp 2] := by kernel_rfl
theorem ok65 : qV Tryz.prog Tryz.f65.ntmps (Tryz.f65.body.getD .skip) = true := by kernel_rfl
theorem gf67 : vC Tryz.prog 67 = true := by kernel_rfl
theorem rs67 : Tryz.f67.results.toList = [.tmp 8] := by kernel_rfl
theorem ok67 : qV Tryz.prog Tryz.f67.ntmps (Tryz.f67.body.getD .skip) = true := by kernel_rfl
theorem gf68 : vC Tryz.prog 68 = true := by kernel_rfl
theorem rs68 : Tryz.f68.results.toList = [.cell 6 26] := by kernel_rfl
theorem ok68 : qV Tryz.prog Tryz.f68.ntmps (Tryz.f68.body.getD .skip) = true := by kernel_rfl
theorem gf69 : vC Tryz.prog 69 = true := by kernel_rfl
theorem rs69 : Tryz.f69.results.toList = [.cell 6 26] := by kernel_rfl
theorem ok69 : qV Tryz.prog Tryz.f69.ntmps (Tryz.f69.body.getD .skip) = true := by kernel_rfl
theorem gf70 : vC Tryz.prog 70 = true := by kernel_rfl
theorem rs70 : Tryz.f70.results.toList = [.tmp 4] := by kernel_rfl
theorem ok70 : qV Tryz.prog Tryz.f70.ntmps (Tryz.f70.body.getD .skip) = true := by kernel_rfl
theorem gf71 : vC Tryz.prog 71 = true := by kernel_rfl
theorem rs71 : Tryz.f71.results.toList = [.tmp 4] := by kernel_rfl
theorem ok71 : qV Tryz.prog Tryz.f71.ntmps (Tryz.f71.body.getD .skip) = true := by kernel_rfl
theorem gf72 : vC Tryz.prog 72 = true := by kernel_rfl
theorem rs72 : Tryz.f72.results.toList = [.tmp 4] := by kernel_rfl
theorem ok72 : qV Tryz.prog Tryz.f72.ntmps (Tryz.f72.body.getD .skip) = true := by kernel_rfl
theorem gf73 : vC Tryz.prog 73 = true := by kernel_rfl
theorem rs73 : Tryz.f73.results.toList = [.tmp 4] := by kernel_rfl
theorem ok73 : qV Tryz.prog Tryz.f73.ntmps (Tryz.f73.body.getD .skip) = true := by kernel_rfl
theorem gf74 : vC Tryz.prog 74 = true := by kernel_rfl
theorem rs74 : Tryz.f74.results.toList = [.tmp 4] := by kernel_rfl
theorem ok74 : qV Tryz.prog Tryz.f74.ntmps (Tryz.f74.body.getD .skip) = true := by kernel_rfl
theorem gf75 : vC Tryz.prog 75 = true := by kernel_rfl
theorem rs75 : Tryz.f75.results.toList = [.tmp 2] := by kernel_rfl
theorem ok75 : qV Tryz.prog Tryz.f75.ntmps (Tryz.f75.body.getD .skip) = true := by kernel_rfl
theorem gf76 : vC Tryz.prog 76 = true := by kernel_rfl
theorem rs76 : Tryz.f76.results.toList = [.tmp 4] := by kernel_rfl
theorem ok76 : qV Tryz.prog Tryz.f76.ntmps (Tryz.f76.body.getD .skip) = true := by kernel_rfl
theorem gf77 : vC Tryz.prog 77 = true := by kernel_rfl
theorem rs77 : Tryz.f77.results.toList = [.tmp 2] := by kernel_rfl
theorem ok77 : qV Tryz.prog Tryz.f77.ntmps (Tryz.f77.body.getD .skip) = true := by kernel_rfl
theorem gf79 : vC Tryz.prog 79 = true := by kernel_rfl
theorem rs79 : Tryz.f79.results.toList = [.tmp 4] := by kernel_rfl
theorem ok79 : qV Tryz.prog Tryz.f79.ntmps (Tryz.f79.body.getD .skip) = true := by kernel_rfl
theorem gf80 : vC Tryz.prog 80 = true := by kernel_rfl
theorem rs80 : Tryz.f80.results.toList = [] := by kernel_rfl
theorem ok80 : qV Tryz.prog Tryz.f80.ntmps (Tryz.f80.body.getD .skip) = true := by kernel_rfl
theorem gf81 : vC Tryz.prog 81 = true := by kernel_rfl
theorem rs81 : Tryz.f81.results.toList = [.tmp 2] := by kernel_rfl
theorem ok81 : qV Tryz.prog Tryz.f81.ntmps (Tryz.f81.body.getD .skip) = true := by kernel_rfl
theorem gf82 : vC Tryz.prog 82 = true := by kernel_rfl
theorem rs82 : Tryz.f82.results.toList = [.tmp 2] := by kernel_rfl
theorem ok82 : qV Tryz.prog Tryz.f82.ntmps (Tryz.f82.body.getD .skip) = true := by kernel_rfl
theorem gf83 : vC Tryz.prog 83 = true := by kernel_rfl
theorem rs83 : Tryz.f83.results.toList = [.cell 6 136] := by kernel_rfl
theorem ok83 : qV Tryz.prog Tryz.f83.ntmps (Tryz.f83.body.getD .skip) = true := by kernel_rfl
theorem gf84 : vC Tryz.prog 84 = true := by kernel_rfl
theorem rs84 : Tryz.f84.results.toList = [.tmp 2] := by kernel_rfl
theorem ok84 : qV Tryz.prog Tryz.f84.ntmps (Tryz.f84.body.getD .skip) = true := by kernel_rfl
theorem gf85 : vC Tryz.prog 85 = true := by kernel_rfl
theorem rs85 : Tryz.f85.results.toList = [.tmp 2] := by kernel_rfl
theorem ok85 : qV Tryz.prog Tryz.f85.ntmps (Tryz.f85.body.getD .skip) = true := by kernel_rfl
theorem gf86 : vC Tryz.prog 86 = true := by kernel_rfl
theorem rs86 : Tryz.f86.results.toList = [.tmp 8, .tmp 9] := by kernel_rfl
theorem ok86 : qV Tryz.prog Tryz.f86.ntmps (Tryz.f86.body.getD .skip) = true := by kernel_rfl
theorem gf87 : vC Tryz.prog 87 = true := by kernel_rfl
theorem rs87 : Tryz.f87.results.toList = [.tmp 8] := by kernel_rfl
theorem ok87 : qV Tryz.prog Tryz.f87.ntmps (Tryz.f87.body.getD .skip) = true := by kernel_rfl
theorem gf88 : vC Tryz.prog 88 = true := by kernel_rfl
theorem rs88 : Tryz.f88.results.toList = [.tmp 2] := by kernel_rfl
theorem ok88 : qV Tryz.prog Tryz.f88.ntmps (Tryz.f88.body.getD .skip) = true := by kernel_rfl
theorem gf89 : vC Tryz.prog 89 = true := by kernel_rfl
theorem rs89 : Tryz.f89.results.toList = [.tmp 10, .tmp 11] := by kernel_rfl
theorem ok89 : qV Tryz.prog Tryz.f89.ntmps (Tryz.f89.body.getD .skip) = true := by kernel_rfl
theorem gf90 : vC Tryz.prog 90 = true := by kernel_rfl
theorem rs90 : Tryz.f90.results.toList = [.tmp 6] := by kernel_rfl
theorem ok90 : qV Tryz.prog Tryz.f90.ntmps (Tryz.f90.body.getD .skip) = true := by kernel_rfl
theorem gf91 : vC Tryz.prog 91 = true := by kernel_rfl
theorem rs91 : Tryz.f91.results.toList = [.tmp 2] := by kernel_rfl
theorem ok91 : qV Tryz.prog Tryz.f91.ntmps (Tryz.f91.body.getD .skip) = true := by kernel_rfl
theorem gf92 : vC Tryz.prog 92 = true := by kernel_rfl
theorem rs92 : Tryz.f92.results.toList = [.tmp 6, .tmp 7] := by kernel_rfl
theorem ok92 : qV Tryz.prog Tryz.f92.ntmps (Tryz.f92.body.getD .skip) = true := by kernel_rfl
theorem gf93 : vC Tryz.prog 93 = true := by kernel_rfl
theorem rs93 : Tryz.f93.results.toList = [.tmp 8, .tmp 9] := by kernel_rfl
theorem ok93 : qV Tryz.prog Tryz.f93.ntmps (Tryz.f93.body.getD .skip) = true := by kernel_rfl
theorem gf94 : vC Tryz.prog 94 = true := by kernel_rfl
theorem rs94 : Tryz.f94.results.toList = [.tmp 10] := by kernel_rfl
theorem ok94 : qV Tryz.prog Tryz.f94.ntmps (Tryz.f94.body.getD .skip) = true := by kernel_rfl
theorem gf95 : vC Tryz.prog 95 = true := by kernel_rfl
theorem rs95 : Tryz.f95.results.toList = [.tmp 4] := by kernel_rfl
theorem ok95 : qV Tryz.prog Tryz.f95.ntmps (Tryz.f95.body.getD .skip) = true := by kernel_rfl
theorem gf96 : vC Tryz.prog 96 = true := by kernel_rfl
theorem rs96 : Tryz.f96.results.toList = [.tmp 10, .tmp 11] := by kernel_rfl
theorem ok96 : qV Tryz.prog Tryz.f96.ntmps (Tryz.f96.body.getD .skip) = true := by kernel_rfl
theorem gf97 : vC Tryz.prog 97 = true := by kernel_rfl
theorem rs97 : Tryz.f97.results.toList = [.tmp 4] := by kernel_rfl
theorem ok97 : qV Tryz.prog Tryz.f97.ntmps (Tryz.f97.body.getD .skip) = true := by kernel_rfl
theorem gf98 : vC Tryz.prog 98 = true := by kernel_rfl
theorem rs98 : Tryz.f98.results.toList = [.tmp 4] := by kernel_rfl
theorem ok98 : qV Tryz.prog Tryz.f98.ntmps (Tryz.f98.body.getD .skip) = true := by kernel_rfl
theorem gf99 : vC Tryz.prog 99 = true := by kernel_rfl
theorem rs99 : Tryz.f99.results.toList = [.tmp 2] := by kernel_rfl
theorem ok99 : qV Tryz.prog Tryz.f99.ntmps (Tryz.f99.body.getD .skip) = true := by kernel_rfl
theorem gf100 : vC Tryz.prog 100 = true := by kernel_rfl
theorem rs100 : Tryz.f100.results.toList = [.tmp 6] := by kernel_rfl
theorem ok100 : qV Tryz.prog Tryz.f100.ntmps (Tryz.f100.body.getD .skip) = true := by kernel_rfl
theorem gf101 : vC Tryz.prog 101 = true := by kernel_rfl
theorem rs101 : Tryz.f101.results.toList = [.tmp 4] := by kernel_rfl
theorem ok101 : qV Tryz.prog Tryz.f101.ntmps (Tryz.f101.body.getD .skip) = true := by kernel_rfl
theorem gf102 : vC Tryz.prog 102 = true := by kernel_rfl
theorem rs102 : Tryz.f102.results.toList = [.cell 2 92] := by kernel_rfl
theorem ok102 : qV Tryz.prog Tryz.f102.ntmps (Tryz.f102.body.getD .skip) = true := by kernel_rfl
theorem gf103 : vC Tryz.prog 103 = true := by kernel_rfl
theorem rs103 : Tryz.f103.results.toList = [.tmp 4] := by kernel_rfl
theorem ok103 : qV Tryz.prog Tryz.f103.ntmps (Tryz.f103.body.getD .skip) = true := by kernel_rfl
theorem gf104 : vC Tryz.prog 104 = true := by kernel_rfl
theorem rs104 : Tryz.f104.results.toList = [.tmp 6] := by kernel_rfl
theorem ok104 : qV Tryz.prog Tryz.f104.ntmps (Tryz.f104.body.getD .skip) = true := by kernel_rfl
theorem gf105 : vC Tryz.prog 105 = true := by kernel_rfl
theorem rs105 : Tryz.f105.results.toList = [.tmp 4, .tmp 5] := by kernel_rfl
theorem ok105 : qV Tryz.prog Tryz.f105.ntmps (Tryz.f105.body.getD .skip) = true := by kernel_rfl
theorem gf106 : vC Tryz.prog 106 = true := by kernel_rfl
theorem rs106 : Tryz.f106.results.toList = [.tmp 2] := by kernel_rfl
theorem ok106 : qV Tryz.prog Tryz.f106.ntmps (Tryz.f106.body.getD .skip) = true := by kernel_rfl
theorem gf107 : vC Tryz.prog 107 = true := by kernel_rfl
theorem rs107 : Tryz.f107.results.toList = [.tmp 2] := by kernel_rfl
theorem ok107 : qV Tryz.prog Tryz.f107.ntmps (Tryz.f107.body.getD .skip) = true := by kernel_rfl
theorem gf108 : vC Tryz.prog 108 = true := by kernel_rfl
theorem rs108 : Tryz.f108.results.toList = [.tmp 4] := by kernel_rfl
theorem ok108 : qV Tryz.prog Tryz.f108.ntmps (Tryz.f108.body.getD .skip) = true := by kernel_rfl
theorem gf109 : vC Tryz.prog 109 = true := by kernel_rfl
theorem rs109 : Tryz.f109.results.toList = [.tmp 2] := by kernel_rfl
theorem ok109 : qV Tryz.prog Tryz.f109.ntmps (Tryz.f109.body.getD .skip) = true := by kernel_rfl
theorem gf110 : vC Tryz.prog 110 = true := by kernel_rfl
theorem rs110 : Tryz.f110.results.toList = [.tmp 2] := by kernel_rfl
theorem ok110 : qV Tryz.prog Tryz.f110.ntmps (Tryz.f110.body.getD .skip) = true := by kernel_rfl
theorem gf111 : vC Tryz.prog 111 = true := by kernel_rfl
theorem rs111 : Tryz.f111.results.toList = [.tmp 2] := by kernel_rfl
theorem ok111 : qV Tryz.prog Tryz.f111.ntmps (Tryz.f111.body.getD .skip) = true := by kernel_rfl
theorem gf112 : vC Tryz.prog 112 = true := by kernel_rfl
theorem rs112 : Tryz.f112.results.toList = [.tmp 2] := by kernel_rfl
theorem ok112 : qV Tryz.prog Tryz.f112.ntmps (Tryz.f112.body.getD .skip) = true := by kernel_rfl
theorem gf113 : vC Tryz.prog 113 = true := by kernel_rfl
theorem rs113 : Tryz.f113.results.toList = [.tmp 2] := by kernel_rfl
theorem ok113 : qV Tryz.prog Tryz.f113.ntmps (Tryz.f113.body.getD .skip) = true := by kernel_rfl
theorem gf114 : vC Tryz.prog 114 = true := by kernel_rfl
theorem rs114 : Tryz.f114.results.toList = [] := by kernel_rfl
theorem ok114 : qV Tryz.prog Tryz.f114.ntmps (Tryz.f114.body.getD .skip) = true := by kernel_rfl
theorem gf115 : vC Tryz.prog 115 = true := by kernel_rfl
theorem rs115 : Tryz.f115.results.toList = [.tmp 4] := by kernel_rfl
theorem ok115 : qV Tryz.prog Tryz.f115.ntmps (Tryz.f115.body.getD .skip) = true := by kernel_rfl
theorem gf116 : vC Tryz.prog 116 = true := by kernel_rfl
theorem rs116 : Tryz.f116.results.toList = [.tmp 2] := by kernel_rfl
theorem ok116 : qV Tryz.prog Tryz.f116.ntmps (Tryz.f116.body.getD .skip) = true := by kernel_rfl
theorem gf117 : vC Tryz.prog 117 = true := by kernel_rfl
theorem rs117 : Tryz.f117.results.toList = [.tmp 6] := by kernel_rfl
theorem ok117 : qV Tryz.prog Tryz.f117.ntmps (Tryz.f117.body.getD .skip) = true := by kernel_rfl
theorem gf118 : vC Tryz.prog 118 = true := by kernel_rfl
theorem rs118 : Tryz.f118.results.toList = [.tmp 6] := by kernel_rfl
theorem ok118 : qV Tryz.prog Tryz.f118.ntmps (Tryz.f118.body.getD .skip) = true := by kernel_rfl
theorem gf119 : vC Tryz.prog 119 = true := by kernel_rfl
theorem rs119 : Tryz.f119.results.toList = [.tmp 2] := by kernel_rfl
theorem ok119 : qV Tryz.prog Tryz.f119.ntmps (Tryz.f119.body.getD .skip) = true := by kernel_rfl
theorem gf120 : vC Tryz.prog 120 = true := by kernel_rfl
theorem rs120 : Tryz.f120.results.toList = [.tmp 8] := by kernel_rfl
theorem ok120 : qV Tryz.prog Tryz.f120.ntmps (Tryz.f120.body.getD .skip) = true := by kernel_rfl
theorem gf121 : vC Tryz.prog 121 = true := by kernel_rfl
theorem rs121 : Tryz.f121.results.toList = [.tmp 2] := by kernel_rfl
theorem ok121 : qV Tryz.prog Tryz.f121.ntmps (Tryz.f121.body.getD .skip) = true := by kernel_rfl
theorem gf122 : vC Tryz.prog 122 = true := by kernel_rfl
theorem rs122 : Tryz.f122.results.toList = [.tmp 4] := by kernel_rfl
theorem ok122 : qV Tryz.prog Tryz.f122.ntmps (Tryz.f122.body.getD .skip) = true := by kernel_rfl
theorem gf123 : vC Tryz.prog 123 = true := by kernel_rfl
theorem rs123 : Tryz.f123.results.toList = [.tmp 4, .tmp 5] := by kernel_rfl
theorem ok123 : qV Tryz.prog Tryz.f123.ntmps (Tryz.f123.body.getD .skip) = true := by kernel_rfl
theorem gf124 : vC Tryz.prog 124 = true := by kernel_rfl
theorem rs124 : Tryz.f124.results.toList = [.tmp 2] := by kernel_rfl
theorem ok124 : qV Tryz.prog Tryz.f124.ntmps (Tryz.f124.body.getD .skip) = true := by kernel_rfl
theorem gf125 : vC Tryz.prog 125 = true := by kernel_rfl
theorem rs125 : Tryz.f125.results.toList = [.tmp 8] := by kernel_rfl
theorem ok125 : qV Tryz.prog Tryz.f125.ntmps (Tryz.f125.body.getD .skip) = true := by kernel_rfl
theorem gf126 : vC Tryz.prog 126 = true := by kernel_rfl
theorem rs126 : Tryz.f126.results.toList = [.tmp 4] := by kernel_rfl
theorem ok126 : qV Tryz.prog Tryz.f126.ntmps (Tryz.f126.body.getD .skip) = true := by kernel_rfl
theorem gf127 : vC Tryz.prog 127 = true := by kernel_rfl
theorem rs127 : Tryz.f127.results.toList = [.tmp 2] := by kernel_rfl
theorem ok127 : qV Tryz.prog Tryz.f127.ntmps (Tryz.f127.body.getD .skip) = true := by kernel_rfl
theorem gf128 : vC Tryz.prog 128 = true := by kernel_rfl
theorem rs128 : Tryz.f128.results.toList = [.tmp 8] := by kernel_rfl
theorem ok128 : qV Tryz.prog Tryz.f128.ntmps (Tryz.f128.body.getD .skip) = true := by kernel_rfl
theorem gf129 : vC Tryz.prog 129 = true := by kernel_rfl
theorem rs129 : Tryz.f129.results.toList = [.tmp 4, .tmp 5] := by kernel_rfl
theorem ok129 : qV Tryz.prog Tryz.f129.ntmps (Tryz.f129.body.getD .skip) = true := by kernel_rfl
theorem gf130 : vC Tryz.prog 130 = true := by kernel_rfl
theorem rs130 : Tryz.f130.results.toList = [] := by kernel_rfl
theorem ok130 : qV Tryz.prog Tryz.f130.ntmps (Tryz.f130.body.getD .skip) = true := by kernel_rfl
theorem gf131 : vC Tryz.prog 131 = true := by kernel_rfl
theorem rs131 : Tryz.f131.results.toList = [] := by kernel_rfl
theorem ok131 : qV Tryz.prog Tryz.f131.ntmps (Tryz.f131.body.getD .skip) = true := by kernel_rfl
theorem gf132 : vC Tryz.prog 132 = true := by kernel_rfl
theorem rs132 : Tryz.f132.results.toList = [.tmp 12] := by kernel_rfl
theorem ok132 : qV Tryz.prog Tryz.f132.ntmps (Tryz.f132.body.getD .skip) = true := by kernel_rfl
theorem gf133 : vC Tryz.prog 133 = true := by kernel_rfl
theorem rs133 : Tryz.f133.results.toList = [.cell 6 31, .tmp 7] := by kernel_rfl
theorem ok133 : qV Tryz.prog Tryz.f133.ntmps (Tryz.f133.body.getD .skip) = true := by kernel_rfl
theorem gf134 : vC Tryz.prog 134 = true := by kernel_rfl
theorem rs134 : Tryz.f134.results.toList = [.tmp 4, .tmp 5] := by kernel_rfl
theorem ok134 : qV Tryz.prog Tryz.f134.ntmps (Tryz.f134.body.getD .skip) = true := by kernel_rfl
theorem gf135 : vC Tryz.prog 135 = true := by kernel_rfl
theorem rs135 : Tryz.f135.results.toList = [.tmp 8] := by kernel_rfl
theorem ok135 : qV Tryz.prog Tryz.f135.ntmps (Tryz.f135.body.getD .skip) = true := by kernel_rfl
theorem gf136 : vC Tryz.prog 136 = true := by kernel_rfl
theorem rs136 : Tryz.f136.results.toList = [.tmp 12] := by kernel_rfl
theorem ok136 : qV Tryz.prog Tryz.f136.ntmps (Tryz.f136.body.getD .skip) = true := by kernel_rfl
theorem gf137 : vC Tryz.prog 137 = true := by kernel_rfl
theorem rs137 : Tryz.f137.results.toList = [.tmp 2] := by kernel_rfl
theorem ok137 : qV Tryz.prog Tryz.f137.ntmps (Tryz.f137.body.getD .skip) = true := by kernel_rfl
theorem gf138 : vC Tryz.prog 138 = true := by kernel_rfl
theorem rs138 : Tryz.f138.results.toList = [.cell 0 164] := by kernel_rfl
theorem ok138 : qV Tryz.prog Tryz.f138.ntmps (Tryz.f138.body.getD .skip) = true := by kernel_rfl
theorem gf139 : vC Tryz.prog 139 = true := by kernel_rfl
theorem rs139 : Tryz.f139.results.toList = [.tmp 2] := by kernel_rfl
theorem ok139 : qV Tryz.prog Tryz.f139.ntmps (Tryz.f139.body.getD .skip) = true := by kernel_rfl
theorem gf140 : vC Tryz.prog 140 = true := by kernel_rfl
theorem rs140 : Tryz.f140.results.toList = [.tmp 2] := by kernel_rfl
theorem ok140 : qV Tryz.prog Tryz.f140.ntmps (Tryz.f140.body.getD .skip) = true := by kernel_rfl
theorem gf141 : vC Tryz.prog 141 = true := by kernel_rfl
theorem rs141 : Tryz.f141.results.toList = [.tmp 4] := by kernel_rfl
theorem ok141 : qV Tryz.prog Tryz.f141.ntmps (Tryz.f141.body.getD .skip) = true := by kernel_rfl
theorem gf142 : vC Tryz.prog 142 = true := by kernel_rfl
theorem rs142 : Tryz.f142.results.toList = [.cell 4 120] := by kernel_rfl
theorem ok142 : qV Tryz.prog Tryz.f142.ntmps (Tryz.f142.body.getD .skip) = true := by kernel_rfl
theorem gf143 : vC Tryz.prog 143 = true := by kernel_rfl
theorem rs143 : Tryz.f143.results.toList = [.tmp 3] := by kernel_rfl
theorem ok143 : qV Tryz.prog Tryz.f143.ntmps (Tryz.f143.body.getD .skip) = true := by kernel_rfl
theorem gf144 : vC Tryz.prog 144 = true := by kernel_rfl
theorem rs144 : Tryz.f144.results.toList = [.tmp 1] := by kernel_rfl
theorem ok144 : qV Tryz.prog Tryz.f144.ntmps (Tryz.f144.body.getD .skip) = true := by kernel_rfl
theorem gf145 : vC Tryz.prog 145 = true := by kernel_rfl
theorem rs145 : Tryz.f145.results.toList = [.tmp 6] := by kernel_rfl
theorem ok145 : qV Tryz.prog Tryz.f145.ntmps (Tryz.f145.body.getD .skip) = true := by kernel_rfl
theorem gf146 : vC Tryz.prog 146 = true := by kernel_rfl
theorem rs146 : Tryz.f146.results.toList = [.tmp 4] := by kernel_rfl
theorem ok146 : qV Tryz.prog Tryz.f146.ntmps (Tryz.f146.body.getD .skip) = true := by kernel_rfl
theorem gf147 : vC Tryz.prog 147 = true := by kernel_rfl
theorem rs147 : Tryz.f147.results.toList = [.tmp 2] := by kernel_rfl
theorem ok147 : qV Tryz.prog Tryz.f147.ntmps (Tryz.f147.body.getD .skip) = true := by kernel_rfl
theorem gf148 : vC Tryz.prog 148 = true := by kernel_rfl
theorem rs148 : Tryz.f148.results.toList = [.tmp 6] := by kernel_rfl
theorem ok148 : qV Tryz.prog Tryz.f148.ntmps (Tryz.f148.body.getD .skip) = true := by kernel_rfl
theorem gf149 : vC Tryz.prog 149 = true := by kernel_rfl
theorem rs149 : Tryz.f149.results.toList = [.tmp 6] := by kernel_rfl
theorem ok149 : qV Tryz.prog Tryz.f149.ntmps (Tryz.f149.body.getD .skip) = true := by kernel_rfl
theorem gf150 : vC Tryz.prog 150 = true := by kernel_rfl
theorem rs150 : Tryz.f150.results.toList = [.tmp 2] := by kernel_rfl
theorem ok150 : qV Tryz.prog Tryz.f150.ntmps (Tryz.f150.body.getD .skip) = true := by kernel_rfl
theorem gf151 : vC Tryz.prog 151 = true := by kernel_rfl
theorem rs151 : Tryz.f151.results.toList = [.tmp 4] := by kernel_rfl
theorem ok151 : qV Tryz.prog Tryz.f151.ntmps (Tryz.f151.body.getD .skip) = true := by kernel_rfl
theorem gf152 : vC Tryz.prog 152 = true := by kernel_rfl
theorem rs152 : Tryz.f152.results.toList = [.tmp 8] := by kernel_rfl
theorem ok152 : qV Tryz.prog Tryz.f152.ntmps (Tryz.f152.body.getD .skip) = true := by kernel_rfl
theorem gf153 : vC Tryz.prog 153 = true := by kernel_rfl
theorem rs153 : Tryz.f153.results.toList = [.tmp 4] := by kernel_rfl
theorem ok153 : qV Tryz.prog Tryz.f153.ntmps (Tryz.f153.body.getD .skip) = true := by kernel_rfl
theorem gf154 : vC Tryz.prog 154 = true := by kernel_rfl
theorem rs154 : Tryz.f154.results.toList = [.tmp 2] := by kernel_rfl
theorem ok154 : qV Tryz.prog Tryz.f154.ntmps (Tryz.f154.body.getD .skip) = true := by kernel_rfl
theorem gf156 : vC Tryz.prog 156 = true := by kernel_rfl
theorem rs156 : Tryz.f156.results.toList = [.tmp 2] := by kernel_rfl
theorem ok156 : qV Tryz.prog Tryz.f156.ntmps (Tryz.f156.body.getD .skip) = true := by kernel_rfl
theorem gf158 : vC Tryz.prog 158 = true := by kernel_rfl
theorem rs158 : Tryz.f158.results.toList = [.tmp 4] := by kernel_rfl
theorem ok158 : qV Tryz.prog Tryz.f158.ntmps (Tryz.f158.body.getD .skip) = true := by kernel_rfl
theorem gf159 : vC Tryz.prog 159 = true := by kernel_rfl
theorem rs159 : Tryz.f159.results.toList = [.tmp 4] := by kernel_rfl
theorem ok159 : qV Tryz.prog Tryz.f159.ntmps (Tryz.f159.body.getD .skip) = true := by kernel_rfl
theorem gf161 : vC Tryz.prog 161 = true := by kernel_rfl
theorem rs161 : Tryz.f161.results.toList = [.tmp 2] := by kernel_rfl
theorem ok161 : qV Tryz.prog Tryz.f161.ntmps (Tryz.f161.body.getD .skip) = true := by kernel_rfl
theorem ud3 : Tryz.prog.underlying 3 = some (.int .i64) := Tryz.underlying3
theorem zS : vG Tryz.prog 3 = some (false, 1) := by kernel_rfl
theorem zr3 : zV Tryz.prog 3 = some [.int .i64 0] := by kernel_rfl
theorem ni3 : qX Tryz.prog 3 = true := by kernel_rfl
theorem ud4 : Tryz.prog.underlying 4 = some .bool := Tryz.underlying4
theorem gV : vG Tryz.prog 4 = some (false, 1) := by kernel_rfl
theorem zr4 : zV Tryz.prog 4 = some [.bool false] := by kernel_rfl
theorem ni4 : qX Tryz.prog 4 = true := by kernel_rfl
theorem ud5 : Tryz.prog.underlying 5 = some (.int .u8) := Tryz.underlying5
theorem sH : vG Tryz.prog 5 = some (false, 1) := by kernel_rfl
theorem zr5 : zV Tryz.prog 5 = some [.int .u8 0] := by kernel_rfl
theorem ni5 : qX Tryz.prog 5 = true := by kernel_rfl
theorem ud9 : Tryz.prog.underlying 9 = some .string := Tryz.underlying9
theorem sz9 : vG Tryz.prog 9 = some (false, 1) := by kernel_rfl
theorem zr9 : zV Tryz.prog 9 = some [.string ByteArray.empty] := by kernel_rfl
theorem ni9 : qX Tryz.prog 9 = true := by kernel_rfl
theorem ud22 : Tryz.prog.underlying 22 = some (.slice 5) := Tryz.underlying22
theorem zD : vG Tryz.prog 22 = some (false, 1) := by kernel_rfl
theorem vA : tF Tryz.prog 22 = some (5, 1, 1, .int .u8 0) := by kernel_rfl
theorem zr22 : zV Tryz.prog 22 = some [.slice none 0 0] := by kernel_rfl
theorem ni22 : qX Tryz.prog 22 = true := by kernel_rfl
theorem ud24 : Tryz.prog.underlying 24 = some (.slice 26) := Tryz.underlying24
theorem wO : vG Tryz.prog 24 = some (false, 1) := by kernel_rfl
theorem el24 : tF Tryz.prog 24 = some (26, 10, 176, .agg #[.int .i64 0, .slice none 0 0, .slice none 0 0, .int .i64 0, .int .i64 0, .slice none 0 0, .int .i64 0, .slice none 0 0, .slice none 0 0, .slice none 0 0]) := by kernel_rfl
theorem zr24 : zV Tryz.prog 24 = some [.slice none 0 0] := by kernel_rfl
theorem ni24 : qX Tryz.prog 24 = true := by kernel_rfl
theorem xX : vG Tryz.prog 26 = some (true, 10) := by kernel_rfl
theorem zr26 : zV Tryz.prog 26 = some [.int .i64 0, .slice none 0 0, .slice none 0 0, .int .i64 0, .int .i64 0, .slice none 0 0, .int .i64 0, .slice none 0 0, .slice none 0 0, .slice none 0 0] := by kernel_rfl
theorem fo26_0 : yK Tryz.prog 26 0 = some (3, 0) := by kernel_rfl
theorem fo26_1 : yK Tryz.prog 26 1 = some (22, 1) := by kernel_rfl
theorem fo26_2 : yK Tryz.prog 26 2 = some (22, 2) := by kernel_rfl
theorem fo26_3 : yK Tryz.prog 26 3 = some (3, 3) := by kernel_rfl
theorem fo26_4 : yK Tryz.prog 26 4 = some (3, 4) := by kernel_rfl
theorem fo26_5 : yK Tryz.prog 26 5 = some (22, 5) := by kernel_rfl
theorem fo26_6 : yK Tryz.prog 26 6 = some (3, 6) := by kernel_rfl
theorem fo26_7 : yK Tryz.prog 26 7 = some (22, 7) := by kernel_rfl
theorem fo26_8 : yK Tryz.prog 26 8 = some (22, 8) := by kernel_rfl
theorem fo26_9 : yK Tryz.prog 26 9 = some (24, 9) := by kernel_rfl
theorem sh26 : wH Tryz.prog 26 = some (.fields [(0, 1), (1, 1), (2, 1), (3, 1), (4, 1), (5, 1), (6, 1), (7, 1), (8, 1), (9, 1)], [.int .i64 0, .slice none 0 0, .slice none 0 0, .int .i64 0, .int .i64 0, .slice none 0 0, .int .i64 0, .slice none 0 0, .slice none 0 0, .slice none 0 0]) := by kernel_rfl
theorem ni26 : qX Tryz.prog 26 = true := by kernel_rfl
theorem qI0 : vG Tryz.prog 31 = some (true, 3) := by kernel_rfl
theorem zr31 : zV Tryz.prog 31 = some [.slice none 0 0, .slice none 0 0, .int .i64 0] := by kernel_rfl
theorem fo31_0 : yK Tryz.prog 31 0 = some (22, 0) := by kernel_rfl
theorem fo31_1 : yK Tryz.prog 31 1 = some (22, 1) := by kernel_rfl
theorem fo31_2 : yK Tryz.prog 31 2 = some (3, 2) := by kernel_rfl
theorem sh31 : wH Tryz.prog 31 = some (.fields [(0, 1), (1, 1), (2, 1)], [.slice none 0 0, .slice none 0 0, .int .i64 0]) := by kernel_rfl
theorem ni31 : qX Tryz.prog 31 = true := by kernel_rfl
theorem ud32 : Tryz.prog.underlying 32 = some (.int .i64) := Tryz.underlying32
theorem sz32 : vG Tryz.prog 32 = some (false, 1) := by kernel_rfl
theorem zr32 : zV Tryz.prog 32 = some [.int .i64 0] := by kernel_rfl
theorem ni32 : qX Tryz.prog 32 = true := by kernel_rfl
theorem ud36 : Tryz.prog.underlying 36 = some (.slice 22) := Tryz.underlying36
theorem sz36 : vG Tryz.prog 36 = some (false, 1) := by kernel_rfl
theorem qP8 : tF Tryz.prog 36 = some (22, 1, 24, .slice none 0 0) := by kernel_rfl
theorem zr36 : zV Tryz.prog 36 = some [.slice none 0 0] := by kernel_rfl
theorem ni36 : qX Tryz.prog 36 = true := by kernel_rfl
theorem ud42 : Tryz.prog.underlying 42 = some (.pointer 130) := Tryz.underlying42
theorem qK3 : vG Tryz.prog 42 = some (false, 1) := by kernel_rfl
theorem zr42 : zV Tryz.prog 42 = some [.pointer none] := by kernel_rfl
theorem ni42 : qX Tryz.prog 42 = true := by kernel_rfl
theorem ud43 : Tryz.prog.underlying 43 = some (.pointer 133) := Tryz.underlying43
theorem sz43 : vG Tryz.prog 43 = some (false, 1) := by kernel_rfl
theorem zr43 : zV Tryz.prog 43 = some [.pointer none] := by kernel_rfl
theorem ni43 : qX Tryz.prog 43 = true := by kernel_rfl
theorem ud52 : Tryz.prog.underlying 52 = some (.slice 103) := Tryz.underlying52
theorem sz52 : vG Tryz.prog 52 = some (false, 1) := by kernel_rfl
theorem el52 : tF Tryz.prog 52 = some (103, 3, 56, .agg #[.slice none 0 0, .slice none 0 0, .int .i64 0]) := by kernel_rfl
theorem zr52 : zV Tryz.prog 52 = some [.slice none 0 0] := by kernel_rfl
theorem ni52 : qX Tryz.prog 52 = true := by kernel_rfl
theorem sz54 : vG Tryz.prog 54 = some (true, 4) := by kernel_rfl
theorem zr54 : zV Tryz.prog 54 = some [.int .i64 0, .int .i64 0, .bool false, .slice none 0 0] := by kernel_rfl
theorem fo54_0 : yK Tryz.prog 54 0 = some (3, 0) := by kernel_rfl
theorem fo54_1 : yK Tryz.prog 54 1 = some (3, 1) := by kernel_rfl
theorem fo54_2 : yK Tryz.prog 54 2 = some (4, 2) := by kernel_rfl
theorem fo54_3 : yK Tryz.prog 54 3 = some (22, 3) := by kernel_rfl
theorem sh54 : wH Tryz.prog 54 = some (.fields [(0, 1), (1, 1), (2, 1), (3, 1)], [.int .i64 0, .int .i64 0, .bool false, .slice none 0 0]) := by kernel_rfl
theorem ni54 : qX Tryz.prog 54 = true := by kernel_rfl
theorem ud64 : Tryz.prog.underlying 64 = some (.int .u64) := Tryz.underlying64
theorem sz64 : vG Tryz.prog 64 = some (false, 1) := by kernel_rfl
theorem zr64 : zV Tryz.prog 64 = some [.int .u64 0] := by kernel_rfl
theorem ni64 : qX Tryz.prog 64 = true := by kernel_rfl
theorem ud65 : Tryz.prog.underlying 65 = some (.slice 31) := Tryz.underlying65
theorem qV3 : vG Tryz.prog 65 = some (false, 1) := by kernel_rfl
theorem el65 : tF Tryz.prog 65 = some (31, 3, 56, .agg #[.slice none 0 0, .slice none 0 0, .int .i64 0]) := by kernel_rfl
theorem zr65 : zV Tryz.prog 65 = some [.slice none 0 0] := by kernel_rfl
theorem ni65 : qX Tryz.prog 65 = true := by kernel_rfl
theorem sz80 : vG Tryz.prog 80 = some (true, 2) := by kernel_rfl
theorem zr80 : zV Tryz.prog 80 = some [.slice none 0 0, .slice none 0 0] := by kernel_rfl
theorem sh80 : wH Tryz.prog 80 = some (.elems 1, [.slice none 0 0, .slice none 0 0]) := by kernel_rfl
theorem ni80 : qX Tryz.prog 80 = true := by kernel_rfl
theorem wE : vG Tryz.prog 92 = some (true, 10) := by kernel_rfl
theorem zr92 : zV Tryz.prog 92 = some [.bool false, .slice none 0 0, .slice none 0 0, .int .i64 0, .int .i64 0, .slice none 0 0, .int .i64 0, .int .i64 0, .int .i64 0, .slice none 0 0] := by kernel_rfl
theorem fo92_0 : yK Tryz.prog 92 0 = some (4, 0) := by kernel_rfl
theorem fo92_1 : yK Tryz.prog 92 1 = some (22, 1) := by kernel_rfl
theorem fo92_2 : yK Tryz.prog 92 2 = some (22, 2) := by kernel_rfl
theorem fo92_3 : yK Tryz.prog 92 3 = some (3, 3) := by kernel_rfl
theorem fo92_4 : yK Tryz.prog 92 4 = some (3, 4) := by kernel_rfl
theorem fo92_5 : yK Tryz.prog 92 5 = some (22, 5) := by kernel_rfl
theorem fo92_6 : yK Tryz.prog 92 6 = some (3, 6) := by kernel_rfl
theorem fo92_7 : yK Tryz.prog 92 7 = some (3, 7) := by kernel_rfl
theorem fo92_8 : yK Tryz.prog 92 8 = some (3, 8) := by kernel_rfl
theorem fo92_9 : yK Tryz.prog 92 9 = some (22, 9) := by kernel_rfl
theorem sh92 : wH Tryz.prog 92 = some (.fields [(0, 1), (1, 1), (2, 1), (3, 1), (4, 1), (5, 1), (6, 1), (7, 1), (8, 1), (9, 1)], [.bool false, .slice none 0 0, .slice none 0 0, .int .i64 0, .int .i64 0, .slice none 0 0, .int .i64 0, .int .i64 0, .int .i64 0, .slice none 0 0]) := by kernel_rfl
theorem ni92 : qX Tryz.prog 92 = true := by kernel_rfl
theorem zM7 : vG Tryz.prog 103 = some (true, 3) := by kernel_rfl
theorem zr103 : zV Tryz.prog 103 = some [.slice none 0 0, .slice none 0 0, .int .i64 0] := by kernel_rfl
theorem fo103_0 : yK Tryz.prog 103 0 = some (22, 0) := by kernel_rfl
theorem fo103_1 : yK Tryz.prog 103 1 = some (22, 1) := by kernel_rfl
theorem fo103_2 : yK Tryz.prog 103 2 = some (3, 2) := by kernel_rfl
theorem sh103 : wH Tryz.prog 103 = some (.fields [(0, 1), (1, 1), (2, 1)], [.slice none 0 0, .slice none 0 0, .int .i64 0]) := by kernel_rfl
theorem ni103 : qX Tryz.prog 103 = true := by kernel_rfl
theorem ud104 : Tryz.prog.underlying 104 = some (.pointer 114) := Tryz.underlying104
theorem sz104 : vG Tryz.prog 104 = some (false, 1) := by kernel_rfl
theorem zr104 : zV Tryz.prog 104 = some [.pointer none] := by kernel_rfl
theorem ni104 : qX Tryz.prog 104 = true := by kernel_rfl
theorem ud107 : Tryz.prog.underlying 107 = some (.pointer 109) := Tryz.underlying107
theorem sz107 : vG Tryz.prog 107 = some (false, 1) := by kernel_rfl
theorem zr107 : zV Tryz.prog 107 = some [.pointer none] := by kernel_rfl
theorem ni107 : qX Tryz.prog 107 = true := by kernel_rfl
theorem sz109 : vG Tryz.prog 109 = some (true, 5) := by kernel_rfl
theorem zr109 : zV Tryz.prog 109 = some [.int .i64 0, .bool false, .slice none 0 0, .int .i64 0, .int .i64 0] := by kernel_rfl
theorem fo109_0 : yK Tryz.prog 109 0 = some (3, 0) := by kernel_rfl
theorem fo109_1 : yK Tryz.prog 109 1 = some (4, 1) := by kernel_rfl
theorem fo109_2 : yK Tryz.prog 109 2 = some (22, 2) := by kernel_rfl
theorem fo109_3 : yK Tryz.prog 109 3 = some (3, 3) := by kernel_rfl
theorem fo109_4 : yK Tryz.prog 109 4 = some (3, 4) := by kernel_rfl
theorem sh109 : wH Tryz.prog 109 = some (.fields [(0, 1), (1, 1), (2, 1), (3, 1), (4, 1)], [.int .i64 0, .bool false, .slice none 0 0, .int .i64 0, .int .i64 0]) := by kernel_rfl
theorem ni109 : qX Tryz.prog 109 = true := by kernel_rfl
theorem sz114 : vG Tryz.prog 114 = some (true, 6) := by kernel_rfl
theorem zr114 : zV Tryz.prog 114 = some [.int .i64 0, .bool false, .slice none 0 0, .int .i64 0, .slice none 0 0, .bool false] := by kernel_rfl
theorem fo114_0 : yK Tryz.prog 114 0 = some (3, 0) := by kernel_rfl
theorem fo114_1 : yK Tryz.prog 114 1 = some (4, 1) := by kernel_rfl
theorem fo114_2 : yK Tryz.prog 114 2 = some (22, 2) := by kernel_rfl
theorem fo114_3 : yK Tryz.prog 114 3 = some (3, 3) := by kernel_rfl
theorem fo114_4 : yK Tryz.prog 114 4 = some (65, 4) := by kernel_rfl
theorem fo114_5 : yK Tryz.prog 114 5 = some (4, 5) := by kernel_rfl
theorem sh114 : wH Tryz.prog 114 = some (.fields [(0, 1), (1, 1), (2, 1), (3, 1), (4, 1), (5, 1)], [.int .i64 0, .bool false, .slice none 0 0, .int .i64 0, .slice none 0 0, .bool false]) := by kernel_rfl
theorem ni114 : qX Tryz.prog 114 = true := by kernel_rfl
theorem ud119 : Tryz.prog.underlying 119 = some (.int .u32) := Tryz.underlying119
theorem xM : vG Tryz.prog 119 = some (false, 1) := by kernel_rfl
theorem zr119 : zV Tryz.prog 119 = some [.int .u32 0] := by kernel_rfl
theorem ni119 : qX Tryz.prog 119 = true := by kernel_rfl
theorem tK : vG Tryz.prog 120 = some (true, 8) := by kernel_rfl
theorem zr120 : zV Tryz.prog 120 = some [.int .u32 0, .int .u32 0, .int .u32 0, .int .u32 0, .int .u32 0, .int .u32 0, .int .u32 0, .int .u32 0] := by kernel_rfl
theorem sh120 : wH Tryz.prog 120 = some (.elems 1, [.int .u32 0, .int .u32 0, .int .u32 0, .int .u32 0, .int .u32 0, .int .u32 0, .int .u32 0, .int .u32 0]) := by kernel_rfl
theorem ni120 : qX Tryz.prog 120 = true := by kernel_rfl
theorem qK4 : vG Tryz.prog 121 = some (true, 8) := by kernel_rfl
theorem zr121 : zV Tryz.prog 121 = some [.int .u32 0, .int .u32 0, .int .u32 0, .int .u32 0, .int .u32 0, .int .u32 0, .int .u32 0, .int .u32 0] := by kernel_rfl
theorem sh121 : wH Tryz.prog 121 = some (.elems 1, [.int .u32 0, .int .u32 0, .int .u32 0, .int .u32 0, .int .u32 0, .int .u32 0, .int .u32 0, .int .u32 0]) := by kernel_rfl
theorem ni121 : qX Tryz.prog 121 = true := by kernel_rfl
theorem sz123 : vG Tryz.prog 123 = some (true, 128) := by kernel_rfl
theorem zr123 : zV Tryz.prog 123 = some [.int .u8 0, .int .u8 0, .int .u8 0, .int .u8 0, .int .u8 0, .int .u8 0, .int .u8 0, .int .u8 0, .int .u8 0, .int .u8 0, .int .u8 0, .int .u8 0, .int .u8 0, .int .u8 0, .int .u8 0, .int .u8 0, .int .u8 0, .int .u8 0, .int .u8 0, .int .u8 0, .int .u8 0, .int .u8 0, .int .u8 0, .int .u8 0, .int .u8 0, .int .u8 0, .int .u8 0, .int .u8 0, .int .u8 0, .int .u8 0, .int .u8 0, .int .u8 0, .int .u8 0, .int .u8 0, .int .u8 0, .int .u8 0, .int .u8 0, .int .u8 0, .int .u8 0, .int .u8 0, .int .u8 0, .int .u8 0, .int .u8 0, .int .u8 0, .int .u8 0, .int .u8 0, .int .u8 0, .int .u8 0, .int .u8 0, .int .u8 0, .int .u8 0, .int .u8 0, .int .u8 0, .int .u8 0, .int .u8 0, .int .u8 0, .int .u8 0, .int .u8 0, .int .u8 0, .int .u8 0, .int .u8 0, .int .u8 0, .int .u8 0, .int .u8 0, .int .u8 0, .int .u8 0, .int .u8 0, .int .u8 0, .int .u8 0, .int .u8 0, .int .u8 0, .int .u8 0, .int .u8 0, .int .u8 0, .int .u8 0, .int .u8 0, .int .u8 0, .int .u8 0, .int .u8 0, .int .u8 0, .int .u8 0, .int .u8 0, .int .u8 0, .int .u8 0, .int .u8 0, .int .u8 0, .int .u8 0, .int .u8 0, .int .u8 0, .int .u8 0, .int .u8 0, .int .u8 0, .int .u8 0, .int .u8 0, .int .u8 0, .int .u8 0, .int .u8 0, .int .u8 0, .int .u8 0, .int .u8 0, .int .u8 0, .int .u8 0, .int .u8 0, .int .u8 0, .int .u8 0, .int .u8 0, .int .u8 0, .int .u8 0, .int .u8 0, .int .u8 0, .int .u8 0, .int .u8 0, .int .u8 0, .int .u8 0, .int .u8 0, .int .u8 0, .int .u8 0, .int .u8 0, .int .u8 0, .int .u8 0, .int .u8 0, .int .u8 0, .int .u8 0, .int .u8 0, .int .u8 0, .int .u8 0, .int .u8 0, .int .u8 0] := by kernel_rfl
theorem sh123 : wH Tryz.prog 123 = some (.elems 1, [.int .u8 0, .int .u8 0, .int .u8 0, .int .u8 0, .int .u8 0, .int .u8 0, .int .u8 0, .int .u8 0, .int .u8 0, .int .u8 0, .int .u8 0, .int .u8 0, .int .u8 0, .int .u8 0, .int .u8 0, .int .u8 0, .int .u8 0, .int .u8 0, .int .u8 0, .int .u8 0, .int .u8 0, .int .u8 0, .int .u8 0, .int .u8 0, .int .u8 0, .int .u8 0, .int .u8 0, .int .u8 0, .int .u8 0, .int .u8 0, .int .u8 0, .int .u8 0, .int .u8 0, .int .u8 0, .int .u8 0, .int .u8 0, .int .u8 0, .int .u8 0, .int .u8 0, .int .u8 0, .int .u8 0, .int .u8 0, .int .u8 0, .int .u8 0, .int .u8 0, .int .u8 0, .int .u8 0, .int .u8 0, .int .u8 0, .int .u8 0, .int .u8 0, .int .u8 0, .int .u8 0, .int .u8 0, .int .u8 0, .int .u8 0, .int .u8 0, .int .u8 0, .int .u8 0, .int .u8 0, .int .u8 0, .int .u8 0, .int .u8 0, .int .u8 0, .int .u8 0, .int .u8 0, .int .u8 0, .int .u8 0, .int .u8 0, .int .u8 0, .int .u8 0, .int .u8 0, .int .u8 0, .int .u8 0, .int .u8 0, .int .u8 0, .int .u8 0, .int .u8 0, .int .u8 0, .int .u8 0, .int .u8 0, .int .u8 0, .int .u8 0, .int .u8 0, .int .u8 0, .int .u8 0, .int .u8 0, .int .u8 0, .int .u8 0, .int .u8 0, .int .u8 0, .int .u8 0, .int .u8 0, .int .u8 0, .int .u8 0, .int .u8 0, .int .u8 0, .int .u8 0, .int .u8 0, .int .u8 0, .int .u8 0, .int .u8 0, .int .u8 0, .int .u8 0, .int .u8 0, .int .u8 0, .int .u8 0, .int .u8 0, .int .u8 0, .int .u8 0, .int .u8 0, .int .u8 0, .int .u8 0, .int .u8 0, .int .u8 0, .int .u8 0, .int .u8 0, .int .u8 0, .int .u8 0, .int .u8 0, .int .u8 0, .int .u8 0, .int .u8 0, .int .u8 0, .int .u8 0, .int .u8 0, .int .u8 0, .int .u8 0]) := by kernel_rfl
theorem ni123 : qX Tryz.prog 123 = true := by kernel_rfl
theorem ud125 : Tryz.prog.underlying 125 = some (.int .u64) := Tryz.underlying125
theorem sz125 : vG Tryz.prog 125 = some (false, 1) := by kernel_rfl
theorem zr125 : zV Tryz.prog 125 = some [.int .u64 0] := by kernel_rfl
theorem ni125 : qX Tryz.prog 125 = true := by kernel_rfl
theorem ud126 : Tryz.prog.underlying 126 = some (.slice 177) := Tryz.underlying126
theorem qG3 : vG Tryz.prog 126 = some (false, 1) := by kernel_rfl
theorem el126 : tF Tryz.prog 126 = some (177, 11, 152, .agg #[.bool false, .bool false, .slice none 0 0, .slice none 0 0, .int .i64 0, .int .i64 0, .slice none 0 0, .int .i64 0, .int .i64 0, .int .i64 0, .slice none 0 0]) := by kernel_rfl
theorem zr126 : zV Tryz.prog 126 = some [.slice none 0 0] := by kernel_rfl
theorem ni126 : qX Tryz.prog 126 = true := by kernel_rfl
theorem ud127 : Tryz.prog.underlying 127 = some (.slice 3) := Tryz.underlying127
theorem sz127 : vG Tryz.prog 127 = some (false, 1) := by kernel_rfl
theorem el127 : tF Tryz.prog 127 = some (3, 1, 8, .int .i64 0) := by kernel_rfl
theorem zr127 : zV Tryz.prog 127 = some [.slice none 0 0] := by kernel_rfl
theorem ni127 : qX Tryz.prog 127 = true := by kernel_rfl
theorem ud128 : Tryz.prog.underlying 128 = some (.slice 3) := Tryz.underlying128
theorem sz128 : vG Tryz.prog 128 = some (false, 1) := by kernel_rfl
theorem el128 : tF Tryz.prog 128 = some (3, 1, 8, .int .i64 0) := by kernel_rfl
theorem zr128 : zV Tryz.prog 128 = some [.slice none 0 0] := by kernel_rfl
theorem ni128 : qX Tryz.prog 128 = true := by kernel_rfl
theorem sz130 : vG Tryz.prog 130 = some (true, 4) := by kernel_rfl
theorem zr130 : zV Tryz.prog 130 = some [.int .i64 0, .int .i64 0, .slice none 0 0, .slice none 0 0] := by kernel_rfl
theorem fo130_0 : yK Tryz.prog 130 0 = some (3, 0) := by kernel_rfl
theorem fo130_1 : yK Tryz.prog 130 1 = some (3, 1) := by kernel_rfl
theorem fo130_2 : yK Tryz.prog 130 2 = some (126, 2) := by kernel_rfl
theorem fo130_3 : yK Tryz.prog 130 3 = some (128, 3) := by kernel_rfl
theorem sh130 : wH Tryz.prog 130 = some (.fields [(0, 1), (1, 1), (2, 1), (3, 1)], [.int .i64 0, .int .i64 0, .slice none 0 0, .slice none 0 0]) := by kernel_rfl
theorem ni130 : qX Tryz.prog 130 = true := by kernel_rfl
theorem ud131 : Tryz.prog.underlying 131 = some (.slice 92) := Tryz.underlying131
theorem uL : vG Tryz.prog 131 = some (false, 1) := by kernel_rfl
theorem zF0 : tF Tryz.prog 131 = some (92, 10, 144, .agg #[.bool false, .slice none 0 0, .slice none 0 0, .int .i64 0, .int .i64 0, .slice none 0 0, .int .i64 0, .int .i64 0, .int .i64 0, .slice none 0 0]) := by kernel_rfl
theorem zr131 : zV Tryz.prog 131 = some [.slice none 0 0] := by kernel_rfl
theorem ni131 : qX Tryz.prog 131 = true := by kernel_rfl
theorem sz133 : vG Tryz.prog 133 = some (true, 3) := by kernel_rfl
theorem zr133 : zV Tryz.prog 133 = some [.int .i64 0, .int .i64 0, .slice none 0 0] := by kernel_rfl
theorem fo133_0 : yK Tryz.prog 133 0 = some (3, 0) := by kernel_rfl
theorem fo133_1 : yK Tryz.prog 133 1 = some (3, 1) := by kernel_rfl
theorem fo133_2 : yK Tryz.prog 133 2 = some (131, 2) := by kernel_rfl
theorem sh133 : wH Tryz.prog 133 = some (.fields [(0, 1), (1, 1), (2, 1)], [.int .i64 0, .int .i64 0, .slice none 0 0]) := by kernel_rfl
theorem ni133 : qX Tryz.prog 133 = true := by kernel_rfl
theorem fT : vG Tryz.prog 136 = some (true, 13) := by kernel_rfl
theorem zr136 : zV Tryz.prog 136 = some [.slice none 0 0, .int .i64 0, .bool false, .slice none 0 0, .slice none 0 0, .int .i64 0, .int .i64 0, .slice none 0 0, .int .i64 0, .int .i64 0, .int .i64 0, .slice none 0 0, .bool false] := by kernel_rfl
theorem fo136_0 : yK Tryz.prog 136 0 = some (131, 0) := by kernel_rfl
theorem fo136_1 : yK Tryz.prog 136 1 = some (3, 1) := by kernel_rfl
theorem fo136_2 : yK Tryz.prog 136 2 = some (92, 2) := by kernel_rfl
theorem fo136_3 : yK Tryz.prog 136 3 = some (4, 12) := by kernel_rfl
theorem sh136 : wH Tryz.prog 136 = some (.fields [(0, 1), (1, 1), (2, 10), (12, 1)], [.slice none 0 0, .int .i64 0, .bool false, .slice none 0 0, .slice none 0 0, .int .i64 0, .int .i64 0, .slice none 0 0, .int .i64 0, .int .i64 0, .int .i64 0, .slice none 0 0, .bool false]) := by kernel_rfl
theorem ni136 : qX Tryz.prog 136 = true := by kernel_rfl
theorem ud149 : Tryz.prog.underlying 149 = some (.pointer 92) := Tryz.underlying149
theorem sz149 : vG Tryz.prog 149 = some (false, 1) := by kernel_rfl
theorem zr149 : zV Tryz.prog 149 = some [.pointer none] := by kernel_rfl
theorem ni149 : qX Tryz.prog 149 = true := by kernel_rfl
theorem ud151 : Tryz.prog.underlying 151 = some (.pointer 22) := Tryz.underlying151
theorem sz151 : vG Tryz.prog 151 = some (false, 1) := by kernel_rfl
theorem zr151 : zV Tryz.prog 151 = some [.pointer none] := by kernel_rfl
theorem ni151 : qX Tryz.prog 151 = true := by kernel_rfl
theorem sz152 : vG Tryz.prog 152 = some (true, 4) := by kernel_rfl
theorem zr152 : zV Tryz.prog 152 = some [.pointer none, .pointer none, .pointer none, .pointer none] := by kernel_rfl
theorem sh152 : wH Tryz.prog 152 = some (.elems 1, [.pointer none, .pointer none, .pointer none, .pointer none]) := by kernel_rfl
theorem ni152 : qX Tryz.prog 152 = true := by kernel_rfl
theorem sz160 : vG Tryz.prog 160 = some (true, 8) := by kernel_rfl
theorem zr160 : zV Tryz.prog 160 = some [.int .u8 0, .int .u8 0, .int .u8 0, .int .u8 0, .int .u8 0, .int .u8 0, .int .u8 0, .int .u8 0] := by kernel_rfl
theorem sh160 : wH Tryz.prog 160 = some (.elems 1, [.int .u8 0, .int .u8 0, .int .u8 0, .int .u8 0, .int .u8 0, .int .u8 0, .int .u8 0, .int .u8 0]) := by kernel_rfl
theorem ni160 : qX Tryz.prog 160 = true := by kernel_rfl
theorem zM6 : vG Tryz.prog 164 = some (true, 64) := by kernel_rfl
theorem zr164 : zV Tryz.prog 164 = some [.int .u32 0, .int .u32 0, .int .u32 0, .int .u32 0, .int .u32 0, .int .u32 0, .int .u32 0, .int .u32 0, .int .u32 0, .int .u32 0, .int .u32 0, .int .u32 0, .int .u32 0, .int .u32 0, .int .u32 0, .int .u32 0, .int .u32 0, .int .u32 0, .int .u32 0, .int .u32 0, .int .u32 0, .int .u32 0, .int .u32 0, .int .u32 0, .int .u32 0, .int .u32 0, .int .u32 0, .int .u32 0, .int .u32 0, .int .u32 0, .int .u32 0, .int .u32 0, .int .u32 0, .int .u32 0, .int .u32 0, .int .u32 0, .int .u32 0, .int .u32 0, .int .u32 0, .int .u32 0, .int .u32 0, .int .u32 0, .int .u32 0, .int .u32 0, .int .u32 0, .int .u32 0, .int .u32 0, .int .u32 0, .int .u32 0, .int .u32 0, .int .u32 0, .int .u32 0, .int .u32 0, .int .u32 0, .int .u32 0, .int .u32 0, .int .u32 0, .int .u32 0, .int .u32 0, .int .u32 0, .int .u32 0, .int .u32 0, .int .u32 0, .int .u32 0] := by kernel_rfl
theorem sh164 : wH Tryz.prog 164 = some (.elems 1, [.int .u32 0, .int .u32 0, .int .u32 0, .int .u32 0, .int .u32 0, .int .u32 0, .int .u32 0, .int .u32 0, .int .u32 0, .int .u32 0, .int .u32 0, .int .u32 0, .int .u32 0, .int .u32 0, .int .u32 0, .int .u32 0, .int .u32 0, .int .u32 0, .int .u32 0, .int .u32 0, .int .u32 0, .int .u32 0, .int .u32 0, .int .u32 0, .int .u32 0, .int .u32 0, .int .u32 0, .int .u32 0, .int .u32 0, .int .u32 0, .int .u32 0, .int .u32 0, .int .u32 0, .int .u32 0, .int .u32 0, .int .u32 0, .int .u32 0, .int .u32 0, .int .u32 0, .int .u32 0, .int .u32 0, .int .u32 0, .int .u32 0, .int .u32 0, .int .u32 0, .int .u32 0, .int .u32 0, .int .u32 0, .int .u32 0, .int .u32 0, .int .u32 0, .int .u32 0, .int .u32 0, .int .u32 0, .int .u32 0, .int .u32 0, .int .u32 0, .int .u32 0, .int .u32 0, .int .u32 0, .int .u32 0, .int .u32 0, .int .u32 0, .int .u32 0]) := by kernel_rfl
theorem ni164 : qX Tryz.prog 164 = true := by kernel_rfl
theorem sz165 : vG Tryz.prog 165 = some (true, 64) := by kernel_rfl
theorem zr165 : zV Tryz.prog 165 = some [.int .u32 0, .int .u32 0, .int .u32 0, .int .u32 0, .int .u32 0, .int .u32 0, .int .u32 0, .int .u32 0, .int .u32 0, .int .u32 0, .int .u32 0, .int .u32 0, .int .u32 0, .int .u32 0, .int .u32 0, .int .u32 0, .int .u32 0, .int .u32 0, .int .u32 0, .int .u32 0, .int .u32 0, .int .u32 0, .int .u32 0, .int .u32 0, .int .u32 0, .int .u32 0, .int .u32 0, .int .u32 0, .int .u32 0, .int .u32 0, .int .u32 0, .int .u32 0, .int .u32 0, .int .u32 0, .int .u32 0, .int .u32 0, .int .u32 0, .int .u32 0, .int .u32 0, .int .u32 0, .int .u32 0, .int .u32 0, .int .u32 0, .int .u32 0, .int .u32 0, .int .u32 0, .int .u32 0, .int .u32 0, .int .u32 0, .int .u32 0, .int .u32 0, .int .u32 0, .int .u32 0, .int .u32 0, .int .u32 0, .int .u32 0, .int .u32 0, .int .u32 0, .int .u32 0, .int .u32 0, .int .u32 0, .int .u32 0, .int .u32 0, .int .u32 0] := by kernel_rfl
theorem sh165 : wH Tryz.prog 165 = some (.elems 1, [.int .u32 0, .int .u32 0, .int .u32 0, .int .u32 0, .int .u32 0, .int .u32 0, .int .u32 0, .int .u32 0, .int .u32 0, .int .u32 0, .int .u32 0, .int .u32 0, .int .u32 0, .int .u32 0, .int .u32 0, .int .u32 0, .int .u32 0, .int .u32 0, .int .u32 0, .int .u32 0, .int .u32 0, .int .u32 0, .int .u32 0, .int .u32 0, .int .u32 0, .int .u32 0, .int .u32 0, .int .u32 0, .int .u32 0, .int .u32 0, .int .u32 0, .int .u32 0, .int .u32 0, .int .u32 0, .int .u32 0, .int .u32 0, .int .u32 0, .int .u32 0, .int .u32 0, .int .u32 0, .int .u32 0, .int .u32 0, .int .u32 0, .int .u32 0, .int .u32 0, .int .u32 0, .int .u32 0, .int .u32 0, .int .u32 0, .int .u32 0, .int .u32 0, .int .u32 0, .int .u32 0, .int .u32 0, .int .u32 0, .int .u32 0, .int .u32 0, .int .u32 0, .int .u32 0, .int .u32 0, .int .u32 0, .int .u32 0, .int .u32 0, .int .u32 0]) := by kernel_rfl
theorem ni165 : qX Tryz.prog 165 = true := by kernel_rfl
theorem sz170 : vG Tryz.prog 170 = some (true, 2) := by kernel_rfl
theorem zr170 : zV Tryz.prog 170 = some [.int .i64 0, .int .i64 0] := by kernel_rfl
theorem sh170 : wH Tryz.prog 170 = some (.elems 1, [.int .i64 0, .int .i64 0]) := by kernel_rfl
theorem ni170 : qX Tryz.prog 170 = true := by kernel_rfl
theorem zM5 : vG Tryz.prog 177 = some (true, 11) := by kernel_rfl
theorem zr177 : zV Tryz.prog 177 = some [.bool false, .bool false, .slice none 0 0, .slice none 0 0, .int .i64 0, .int .i64 0, .slice none 0 0, .int .i64 0, .int .i64 0, .int .i64 0, .slice none 0 0] := by kernel_rfl
theorem fo177_0 : yK Tryz.prog 177 0 = some (4, 0) := by kernel_rfl
theorem fo177_1 : yK Tryz.prog 177 1 = some (92, 1) := by kernel_rfl
theorem sh177 : wH Tryz.prog 177 = some (.fields [(0, 1), (1, 10)], [.bool false, .bool false, .slice none 0 0, .slice none 0 0, .int .i64 0, .int .i64 0, .slice none 0 0, .int .i64 0, .int .i64 0, .int .i64 0, .slice none 0 0]) := by kernel_rfl
theorem ni177 : qX Tryz.prog 177 = true := by kernel_rfl
theorem sz185 : vG Tryz.prog 185 = some (false, 1) := by kernel_rfl
theorem zr185 : zV Tryz.prog 185 = some [.nilFunc] := by kernel_rfl
theorem ni185 : qX Tryz.prog 185 = true := by kernel_rfl
theorem ud188 : Tryz.prog.underlying 188 = some (.pointer 128) := Tryz.underlying188
theorem sz188 : vG Tryz.prog 188 = some (false, 1) := by kernel_rfl
theorem zr188 : zV Tryz.prog 188 = some [.pointer none] := by kernel_rfl
theorem ni188 : qX Tryz.prog 188 = true := by kernel_rfl
theorem sz192 : vG Tryz.prog 192 = some (false, 1) := by kernel_rfl
theorem zr192 : zV Tryz.prog 192 = some [.nilIface] := by kernel_rfl
theorem mW : ∀ (h : GH) (n : Int), uA Tryz.prog 3 5 h (.int .i64 n) = some (.int .u8 (IntKind.wrap .u8 n)) := by intros; simp [uA, sY, Tryz.underlying3, Tryz.underlying5]
theorem qN1 : ∀ (h : GH) (n : Int), uA Tryz.prog 3 64 h (.int .i64 n) = some (.int .u64 (IntKind.wrap .u64 n)) := by intros; simp [uA, sY, Tryz.underlying3, Tryz.underlying64]
theorem mG : ∀ (h : GH) (n : Int), uA Tryz.prog 3 125 h (.int .i64 n) = some (.int .u64 (IntKind.wrap .u64 n)) := by intros; simp [uA, sY, Tryz.underlying3, Tryz.underlying125]
theorem qT4 : ∀ (h : GH) (n : Int), uA Tryz.prog 5 3 h (.int .u8 n) = some (.int .i64 (IntKind.wrap .i64 n)) := by intros; simp [uA, sY, Tryz.underlying5, Tryz.underlying3]
theorem qJ4 : ∀ (h : GH) (n : Int), uA Tryz.prog 5 119 h (.int .u8 n) = some (.int .u32 (IntKind.wrap .u32 n)) := by intros; simp [uA, sY, Tryz.underlying5, Tryz.underlying119]
theorem zL0 : ∀ (h : GH) (n : Int), uA Tryz.prog 64 3 h (.int .u64 n) = some (.int .i64 (IntKind.wrap .i64 n)) := by intros; simp [uA, sY, Tryz.underlying64, Tryz.underlying3]
theorem qJ5 : ∀ (h : GH) (n : Int), uA Tryz.prog 119 5 h (.int .u32 n) = some (.int .u8 (IntKind.wrap .u8 n)) := by intros; simp [uA, sY, Tryz.underlying119, Tryz.underlying5]
theorem mH : ∀ (h : GH) (n : Int), uA Tryz.prog 125 5 h (.int .u64 n) = some (.int .u8 (IntKind.wrap .u8 n)) := by intros; simp [uA, sY, Tryz.underlying125, Tryz.underlying5]
theorem xC : Tryz.prog.follows .mixedOrders = true := by kernel_rfl
theorem xB : (qX Tryz.prog 3 = true) ∧ (vG Tryz.prog 3 = some (false, 1)) ∧ (Tryz.prog.underlying 3 = some (.int .i64)) ∧ (zV Tryz.prog 3 = some [.int .i64 0]) := ⟨ni3, zS, ud3, zr3⟩
theorem uI : (qX Tryz.prog 4 = true) ∧ (vG Tryz.prog 4 = some (false, 1)) ∧ (Tryz.prog.underlying 4 = some .bool) ∧ (zV Tryz.prog 4 = some [.bool false]) := ⟨ni4, gV, ud4, zr4⟩
theorem wF : (qX Tryz.prog 5 = true) ∧ (vG Tryz.prog 5 = some (false, 1)) ∧ (Tryz.prog.underlying 5 = some (.int .u8)) ∧ (zV Tryz.prog 5 = some [.int .u8 0]) := ⟨ni5, sH, ud5, zr5⟩
theorem zA1 : (qX Tryz.prog 9 = true) ∧ (vG Tryz.prog 9 = some (false, 1)) ∧ (Tryz.prog.underlying 9 = some .string) ∧ (zV Tryz.prog 9 = some [.string ByteArray.empty]) := ⟨ni9, sz9, ud9, zr9⟩
theorem zF : (tF Tryz.prog 22 = some (5, 1, 1, .int .u8 0)) ∧ (qX Tryz.prog 22 = true) ∧ (vG Tryz.prog 22 = some (false, 1)) ∧ (Tryz.prog.underlying 22 = some (.slice 5)) ∧ (zV Tryz.prog 22 = some [.slice none 0 0]) := ⟨vA, ni22, zD, ud22, zr22⟩
theorem wS : (tF Tryz.prog 24 = some (26, 10, 176, .agg #[.int .i64 0, .slice none 0 0, .slice none 0 0, .int .i64 0, .int .i64 0, .slice none 0 0, .int .i64 0, .slice none 0 0, .slice none 0 0, .slice none 0 0])) ∧ (qX Tryz.prog 24 = true) ∧ (vG Tryz.prog 24 = some (false, 1)) ∧ (Tryz.prog.underlying 24 = some (.slice 26)) ∧ (zV Tryz.prog 24 = some [.slice none 0 0]) := ⟨el24, ni24, wO, ud24, zr24⟩
theorem wR : (yK Tryz.prog 26 0 = some (3, 0)) ∧ (yK Tryz.prog 26 1 = some (22, 1)) ∧ (yK Tryz.prog 26 2 = some (22, 2)) ∧ (yK Tryz.prog 26 3 = some (3, 3)) ∧ (yK Tryz.prog 26 4 = some (3, 4)) ∧ (yK Tryz.prog 26 5 = some (22, 5)) ∧ (yK Tryz.prog 26 6 = some (3, 6)) ∧ (yK Tryz.prog 26 7 = some (22, 7)) ∧ (yK Tryz.prog 26 8 = some (22, 8)) ∧ (yK Tryz.prog 26 9 = some (24, 9)) ∧ (qX Tryz.prog 26 = true) ∧ (wH Tryz.prog 26 = some (.fields [(0, 1), (1, 1), (2, 1), (3, 1), (4, 1), (5, 1), (6, 1), (7, 1), (8, 1), (9, 1)], [.int .i64 0, .slice none 0 0, .slice none 0 0, .int .i64 0, .int .i64 0, .slice none 0 0, .int .i64 0, .slice none 0 0, .slice none 0 0, .slice none 0 0])) ∧ (vG Tryz.prog 26 = some (true, 10)) ∧ (zV Tryz.prog 26 = some [.int .i64 0, .slice none 0 0, .slice none 0 0, .int .i64 0, .int .i64 0, .slice none 0 0, .int .i64 0, .slice none 0 0, .slice none 0 0, .slice none 0 0]) := ⟨fo26_0, fo26_1, fo26_2, fo26_3, fo26_4, fo26_5, fo26_6, fo26_7, fo26_8, fo26_9, ni26, sh26, xX, zr26⟩
theorem qH9 : (yK Tryz.prog 31 0 = some (22, 0)) ∧ (yK Tryz.prog 31 1 = some (22, 1)) ∧ (yK Tryz.prog 31 2 = some (3, 2)) ∧ (qX Tryz.prog 31 = true) ∧ (wH Tryz.prog 31 = some (.fields [(0, 1), (1, 1), (2, 1)], [.slice none 0 0, .slice none 0 0, .int .i64 0])) ∧ (vG Tryz.prog 31 = some (true, 3)) ∧ (zV Tryz.prog 31 = some [.slice none 0 0, .slice none 0 0, .int .i64 0]) := ⟨fo31_0, fo31_1, fo31_2, ni31, sh31, qI0, zr31⟩
theorem mP : (qX Tryz.prog 32 = true) ∧ (vG Tryz.prog 32 = some (false, 1)) ∧ (Tryz.prog.underlying 32 = some (.int .i64)) ∧ (zV Tryz.prog 32 = some [.int .i64 0]) := ⟨ni32, sz32, ud32, zr32⟩
theorem jA : (tF Tryz.prog 36 = some (22, 1, 24, .slice none 0 0)) ∧ (qX Tryz.prog 36 = true) ∧ (vG Tryz.prog 36 = some (false, 1)) ∧ (Tryz.prog.underlying 36 = some (.slice 22)) ∧ (zV Tryz.prog 36 = some [.slice none 0 0]) := ⟨qP8, ni36, sz36, ud36, zr36⟩
theorem jJ : (qX Tryz.prog 42 = true) ∧ (vG Tryz.prog 42 = some (false, 1)) ∧ (Tryz.prog.underlying 42 = some (.pointer 130)) ∧ (zV Tryz.prog 42 = some [.pointer none]) := ⟨ni42, qK3, ud42, zr42⟩
theorem kC : (qX Tryz.prog 43 = true) ∧ (vG Tryz.prog 43 = some (false, 1)) ∧ (Tryz.prog.underlying 43 = some (.pointer 133)) ∧ (zV Tryz.prog 43 = some [.pointer none]) := ⟨ni43, sz43, ud43, zr43⟩
theorem zQ4 : (tF Tryz.prog 52 = some (103, 3, 56, .agg #[.slice none 0 0, .slice none 0 0, .int .i64 0])) ∧ (qX Tryz.prog 52 = true) ∧ (vG Tryz.prog 52 = some (false, 1)) ∧ (Tryz.prog.underlying 52 = some (.slice 103)) ∧ (zV Tryz.prog 52 = some [.slice none 0 0]) := ⟨el52, ni52, sz52, ud52, zr52⟩
theorem ty54 : (yK Tryz.prog 54 0 = some (3, 0)) ∧ (yK Tryz.prog 54 1 = some (3, 1)) ∧ (yK Tryz.prog 54 2 = some (4, 2)) ∧ (yK Tryz.prog 54 3 = some (22, 3)) ∧ (qX Tryz.prog 54 = true) ∧ (wH Tryz.prog 54 = some (.fields [(0, 1), (1, 1), (2, 1), (3, 1)], [.int .i64 0, .int .i64 0, .bool false, .slice none 0 0])) ∧ (vG Tryz.prog 54 = some (true, 4)) ∧ (zV Tryz.prog 54 = some [.int .i64 0, .int .i64 0, .bool false, .slice none 0 0]) := ⟨fo54_0, fo54_1, fo54_2, fo54_3, ni54, sh54, sz54, zr54⟩
theorem ty64 : (qX Tryz.prog 64 = true) ∧ (vG Tryz.prog 64 = some (false, 1)) ∧ (Tryz.prog.underlying 64 = some (.int .u64)) ∧ (zV Tryz.prog 64 = some [.int .u64 0]) := ⟨ni64, sz64, ud64, zr64⟩
theorem lH : (tF Tryz.prog 65 = some (31, 3, 56, .agg #[.slice none 0 0, .slice none 0 0, .int .i64 0])) ∧ (qX Tryz.prog 65 = true) ∧ (vG Tryz.prog 65 = some (false, 1)) ∧ (Tryz.prog.underlying 65 = some (.slice 31)) ∧ (zV Tryz.prog 65 = some [.slice none 0 0]) := ⟨el65, ni65, qV3, ud65, zr65⟩
theorem ty80 : (qX Tryz.prog 80 = true) ∧ (wH Tryz.prog 80 = some (.elems 1, [.slice none 0 0, .slice none 0 0])) ∧ (vG Tryz.prog 80 = some (true, 2)) ∧ (zV Tryz.prog 80 = some [.slice none 0 0, .slice none 0 0]) := ⟨ni80, sh80, sz80, zr80⟩
theorem vU : (yK Tryz.prog 92 0 = some (4, 0)) ∧ (yK Tryz.prog 92 1 = some (22, 1)) ∧ (yK Tryz.prog 92 2 = some (22, 2)) ∧ (yK Tryz.prog 92 3 = some (3, 3)) ∧ (yK Tryz.prog 92 4 = some (3, 4)) ∧ (yK Tryz.prog 92 5 = some (22, 5)) ∧ (yK Tryz.prog 92 6 = some (3, 6)) ∧ (yK Tryz.prog 92 7 = some (3, 7)) ∧ (yK Tryz.prog 92 8 = some (3, 8)) ∧ (yK Tryz.prog 92 9 = some (22, 9)) ∧ (qX Tryz.prog 92 = true) ∧ (wH Tryz.prog 92 = some (.fields [(0, 1), (1, 1), (2, 1), (3, 1), (4, 1), (5, 1), (6, 1), (7, 1), (8, 1), (9, 1)], [.bool false, .slice none 0 0, .slice none 0 0, .int .i64 0, .int .i64 0, .slice none 0 0, .int .i64 0, .int .i64 0, .int .i64 0, .slice none 0 0])) ∧ (vG Tryz.prog 92 = some (true, 10)) ∧ (zV Tryz.prog 92 = some [.bool false, .slice none 0 0, .slice none 0 0, .int .i64 0, .int .i64 0, .slice none 0 0, .int .i64 0, .int .i64 0, .int .i64 0, .slice none 0 0]) := ⟨fo92_0, fo92_1, fo92_2, fo92_3, fo92_4, fo92_5, fo92_6, fo92_7, fo92_8, fo92_9, ni92, sh92, wE, zr92⟩
theorem qQ8 : (yK Tryz.prog 103 0 = some (22, 0)) ∧ (yK Tryz.prog 103 1 = some (22, 1)) ∧ (yK Tryz.prog 103 2 = some (3, 2)) ∧ (qX Tryz.prog 103 = true) ∧ (wH Tryz.prog 103 = some (.fields [(0, 1), (1, 1), (2, 1)], [.slice none 0 0, .slice none 0 0, .int .i64 0])) ∧ (vG Tryz.prog 103 = some (true, 3)) ∧ (zV Tryz.prog 103 = some [.slice none 0 0, .slice none 0 0, .int .i64 0]) := ⟨fo103_0, fo103_1, fo103_2, ni103, sh103, zM7, zr103⟩
theorem sX : (qX Tryz.prog 104 = true) ∧ (vG Tryz.prog 104 = some (false, 1)) ∧ (Tryz.prog.underlying 104 = some (.pointer 114)) ∧ (zV Tryz.prog 104 = some [.pointer none]) := ⟨ni104, sz104, ud104, zr104⟩
theorem qQ7 : (qX Tryz.prog 107 = true) ∧ (vG Tryz.prog 107 = some (false, 1)) ∧ (Tryz.prog.underlying 107 = some (.pointer 109)) ∧ (zV Tryz.prog 107 = some [.pointer none]) := ⟨ni107, sz107, ud107, zr107⟩
theorem mT : (yK Tryz.prog 109 0 = some (3, 0)) ∧ (yK Tryz.prog 109 1 = some (4, 1)) ∧ (yK Tryz.prog 109 2 = some (22, 2)) ∧ (yK Tryz.prog 109 3 = some (3, 3)) ∧ (yK Tryz.prog 109 4 = some (3, 4)) ∧ (qX Tryz.prog 109 = true) ∧ (wH Tryz.prog 109 = some (.fields [(0, 1), (1, 1), (2, 1), (3, 1), (4, 1)], [.int .i64 0, .bool false, .slice none 0 0, .int .i64 0, .int .i64 0])) ∧ (vG Tryz.prog 109 = some (true, 5)) ∧ (zV Tryz.prog 109 = some [.int .i64 0, .bool false, .slice none 0 0, .int .i64 0, .int .i64 0]) := ⟨fo109_0, fo109_1, fo109_2, fo109_3, fo109_4, ni109, sh109, sz109, zr109⟩
theorem gY : (yK Tryz.prog 114 0 = some (3, 0)) ∧ (yK Tryz.prog 114 1 = some (4, 1)) ∧ (yK Tryz.prog 114 2 = some (22, 2)) ∧ (yK Tryz.prog 114 3 = some (3, 3)) ∧ (yK Tryz.prog 114 4 = some (65, 4)) ∧ (yK Tryz.prog 114 5 = some (4, 5)) ∧ (qX Tryz.prog 114 = true) ∧ (wH Tryz.prog 114 = some (.fields [(0, 1), (1, 1), (2, 1), (3, 1), (4, 1), (5, 1)], [.int .i64 0, .bool false, .slice none 0 0, .int .i64 0, .slice none 0 0, .bool false])) ∧ (vG Tryz.prog 114 = some (true, 6)) ∧ (zV Tryz.prog 114 = some [.int .i64 0, .bool false, .slice none 0 0, .int .i64 0, .slice none 0 0, .bool false]) := ⟨fo114_0, fo114_1, fo114_2, fo114_3, fo114_4, fo114_5, ni114, sh114, sz114, zr114⟩
theorem kB : (qX Tryz.prog 119 = true) ∧ (vG Tryz.prog 119 = some (false, 1)) ∧ (Tryz.prog.underlying 119 = some (.int .u32)) ∧ (zV Tryz.prog 119 = some [.int .u32 0]) := ⟨ni119, xM, ud119, zr119⟩
theorem zM4 : (qX Tryz.prog 120 = true) ∧ (wH Tryz.prog 120 = some (.elems 1, [.int .u32 0, .int .u32 0, .int .u32 0, .int .u32 0, .int .u32 0, .int .u32 0, .int .u32 0, .int .u32 0])) ∧ (vG Tryz.prog 120 = some (true, 8)) ∧ (zV Tryz.prog 120 = some [.int .u32 0, .int .u32 0, .int .u32 0, .int .u32 0, .int .u32 0, .int .u32 0, .int .u32 0, .int .u32 0]) := ⟨ni120, sh120, tK, zr120⟩
theorem zM3 : (qX Tryz.prog 121 = true) ∧ (wH Tryz.prog 121 = some (.elems 1, [.int .u32 0, .int .u32 0, .int .u32 0, .int .u32 0, .int .u32 0, .int .u32 0, .int .u32 0, .int .u32 0])) ∧ (vG Tryz.prog 121 = some (true, 8)) ∧ (zV Tryz.prog 121 = some [.int .u32 0, .int .u32 0, .int .u32 0, .int .u32 0, .int .u32 0, .int .u32 0, .int .u32 0, .int .u32 0]) := ⟨ni121, sh121, qK4, zr121⟩
theorem ty123 : (qX Tryz.prog 123 = true) ∧ (wH Tryz.prog 123 = some (.elems 1, [.int .u8 0, .int .u8 0, .int .u8 0, .int .u8 0, .int .u8 0, .int .u8 0, .int .u8 0, .int .u8 0, .int .u8 0, .int .u8 0, .int .u8 0, .int .u8 0, .int .u8 0, .int .u8 0, .int .u8 0, .int .u8 0, .int .u8 0, .int .u8 0, .int .u8 0, .int .u8 0, .int .u8 0, .int .u8 0, .int .u8 0, .int .u8 0, .int .u8 0, .int .u8 0, .int .u8 0, .int .u8 0, .int .u8 0, .int .u8 0, .int .u8 0, .int .u8 0, .int .u8 0, .int .u8 0, .int .u8 0, .int .u8 0, .int .u8 0, .int .u8 0, .int .u8 0, .int .u8 0, .int .u8 0, .int .u8 0, .int .u8 0, .int .u8 0, .int .u8 0, .int .u8 0, .int .u8 0, .int .u8 0, .int .u8 0, .int .u8 0, .int .u8 0, .int .u8 0, .int .u8 0, .int .u8 0, .int .u8 0, .int .u8 0, .int .u8 0, .int .u8 0, .int .u8 0, .int .u8 0, .int .u8 0, .int .u8 0, .int .u8 0, .int .u8 0, .int .u8 0, .int .u8 0, .int .u8 0, .int .u8 0, .int .u8 0, .int .u8 0, .int .u8 0, .int .u8 0, .int .u8 0, .int .u8 0, .int .u8 0, .int .u8 0, .int .u8 0, .int .u8 0, .int .u8 0, .int .u8 0, .int .u8 0, .int .u8 0, .int .u8 0, .int .u8 0, .int .u8 0, .int .u8 0, .int .u8 0, .int .u8 0, .int .u8 0, .int .u8 0, .int .u8 0, .int .u8 0, .int .u8 0, .int .u8 0, .int .u8 0, .int .u8 0, .int .u8 0, .int .u8 0, .int .u8 0, .int .u8 0, .int .u8 0, .int .u8 0, .int .u8 0, .int .u8 0, .int .u8 0, .int .u8 0, .int .u8 0, .int .u8 0, .int .u8 0, .int .u8 0, .int .u8 0, .int .u8 0, .int .u8 0, .int .u8 0, .int .u8 0, .int .u8 0, .int .u8 0, .int .u8 0, .int .u8 0, .int .u8 0, .int .u8 0, .int .u8 0, .int .u8 0, .int .u8 0, .int .u8 0, .int .u8 0, .int .u8 0, .int .u8 0])) ∧ (vG Tryz.prog 123 = some (true, 128)) ∧ (zV Tryz.prog 123 = some [.int .u8 0, .int .u8 0, .int .u8 0, .int .u8 0, .int .u8 0, .int .u8 0, .int .u8 0, .int .u8 0, .int .u8 0, .int .u8 0, .int .u8 0, .int .u8 0, .int .u8 0, .int .u8 0, .int .u8 0, .int .u8 0, .int .u8 0, .int .u8 0, .int .u8 0, .int .u8 0, .int .u8 0, .int .u8 0, .int .u8 0, .int .u8 0, .int .u8 0, .int .u8 0, .int .u8 0, .int .u8 0, .int .u8 0, .int .u8 0, .int .u8 0, .int .u8 0, .int .u8 0, .int .u8 0, .int .u8 0, .int .u8 0, .int .u8 0, .int .u8 0, .int .u8 0, .int .u8 0, .int .u8 0, .int .u8 0, .int .u8 0, .int .u8 0, .int .u8 0, .int .u8 0, .int .u8 0, .int .u8 0, .int .u8 0, .int .u8 0, .int .u8 0, .int .u8 0, .int .u8 0, .int .u8 0, .int .u8 0, .int .u8 0, .int .u8 0, .int .u8 0, .int .u8 0, .int .u8 0, .int .u8 0, .int .u8 0, .int .u8 0, .int .u8 0, .int .u8 0, .int .u8 0, .int .u8 0, .int .u8 0, .int .u8 0, .int .u8 0, .int .u8 0, .int .u8 0, .int .u8 0, .int .u8 0, .int .u8 0, .int .u8 0, .int .u8 0, .int .u8 0, .int .u8 0, .int .u8 0, .int .u8 0, .int .u8 0, .int .u8 0, .int .u8 0, .int .u8 0, .int .u8 0, .int .u8 0, .int .u8 0, .int .u8 0, .int .u8 0, .int .u8 0, .int .u8 0, .int .u8 0, .int .u8 0, .int .u8 0, .int .u8 0, .int .u8 0, .int .u8 0, .int .u8 0, .int .u8 0, .int .u8 0, .int .u8 0, .int .u8 0, .int .u8 0, .int .u8 0, .int .u8 0, .int .u8 0, .int .u8 0, .int .u8 0, .int .u8 0, .int .u8 0, .int .u8 0, .int .u8 0, .int .u8 0, .int .u8 0, .int .u8 0, .int .u8 0, .int .u8 0, .int .u8 0, .int .u8 0, .int .u8 0, .int .u8 0, .int .u8 0, .int .u8 0, .int .u8 0, .int .u8 0, .int .u8 0, .int .u8 0]) := ⟨ni123, sh123, sz123, zr123⟩
theorem qQ6 : (qX Tryz.prog 125 = true) ∧ (vG Tryz.prog 125 = some (false, 1)) ∧ (Tryz.prog.underlying 125 = some (.int .u64)) ∧ (zV Tryz.prog 125 = some [.int .u64 0]) := ⟨ni125, sz125, ud125, zr125⟩
theorem kX : (tF Tryz.prog 126 = some (177, 11, 152, .agg #[.bool false, .bool false, .slice none 0 0, .slice none 0 0, .int .i64 0, .int .i64 0, .slice none 0 0, .int .i64 0, .int .i64 0, .int .i64 0, .slice none 0 0])) ∧ (qX Tryz.prog 126 = true) ∧ (vG Tryz.prog 126 = some (false, 1)) ∧ (Tryz.prog.underlying 126 = some (.slice 177)) ∧ (zV Tryz.prog 126 = some [.slice none 0 0]) := ⟨el126, ni126, qG3, ud126, zr126⟩
theorem mS : (tF Tryz.prog 127 = some (3, 1, 8, .int .i64 0)) ∧ (qX Tryz.prog 127 = true) ∧ (vG Tryz.prog 127 = some (false, 1)) ∧ (Tryz.prog.underlying 127 = some (.slice 3)) ∧ (zV Tryz.prog 127 = some [.slice none 0 0]) := ⟨el127, ni127, sz127, ud127, zr127⟩
theorem kA : (tF Tryz.prog 128 = some (3, 1, 8, .int .i64 0)) ∧ (qX Tryz.prog 128 = true) ∧ (vG Tryz.prog 128 = some (false, 1)) ∧ (Tryz.prog.underlying 128 = some (.slice 3)) ∧ (zV Tryz.prog 128 = some [.slice none 0 0]) := ⟨el128, ni128, sz128, ud128, zr128⟩
theorem vT : (yK Tryz.prog 130 0 = some (3, 0)) ∧ (yK Tryz.prog 130 1 = some (3, 1)) ∧ (yK Tryz.prog 130 2 = some (126, 2)) ∧ (yK Tryz.prog 130 3 = some (128, 3)) ∧ (qX Tryz.prog 130 = true) ∧ (wH Tryz.prog 130 = some (.fields [(0, 1), (1, 1), (2, 1), (3, 1)], [.int .i64 0, .int .i64 0, .slice none 0 0, .slice none 0 0])) ∧ (vG Tryz.prog 130 = some (true, 4)) ∧ (zV Tryz.prog 130 = some [.int .i64 0, .int .i64 0, .slice none 0 0, .slice none 0 0]) := ⟨fo130_0, fo130_1, fo130_2, fo130_3, ni130, sh130, sz130, zr130⟩
theorem uK : (tF Tryz.prog 131 = some (92, 10, 144, .agg #[.bool false, .slice none 0 0, .slice none 0 0, .int .i64 0, .int .i64 0, .slice none 0 0, .int .i64 0, .int .i64 0, .int .i64 0, .slice none 0 0])) ∧ (qX Tryz.prog 131 = true) ∧ (vG Tryz.prog 131 = some (false, 1)) ∧ (Tryz.prog.underlying 131 = some (.slice 92)) ∧ (zV Tryz.prog 131 = some [.slice none 0 0]) := ⟨zF0, ni131, uL, ud131, zr131⟩
theorem yJ : (yK Tryz.prog 133 0 = some (3, 0)) ∧ (yK Tryz.prog 133 1 = some (3, 1)) ∧ (yK Tryz.prog 133 2 = some (131, 2)) ∧ (qX Tryz.prog 133 = true) ∧ (wH Tryz.prog 133 = some (.fields [(0, 1), (1, 1), (2, 1)], [.int .i64 0, .int .i64 0, .slice none 0 0])) ∧ (vG Tryz.prog 133 = some (true, 3)) ∧ (zV Tryz.prog 133 = some [.int .i64 0, .int .i64 0, .slice none 0 0]) := ⟨fo133_0, fo133_1, fo133_2, ni133, sh133, sz133, zr133⟩
theorem qG2 : (yK Tryz.prog 136 0 = some (131, 0)) ∧ (yK Tryz.prog 136 1 = some (3, 1)) ∧ (yK Tryz.prog 136 2 = some (92, 2)) ∧ (yK Tryz.prog 136 3 = some (4, 12)) ∧ (qX Tryz.prog 136 = true) ∧ (wH Tryz.prog 136 = some (.fields [(0, 1), (1, 1), (2, 10), (12, 1)], [.slice none 0 0, .int .i64 0, .bool false, .slice none 0 0, .slice none 0 0, .int .i64 0, .int .i64 0, .slice none 0 0, .int .i64 0, .int .i64 0, .int .i64 0, .slice none 0 0, .bool false])) ∧ (vG Tryz.prog 136 = some (true, 13)) ∧ (zV Tryz.prog 136 = some [.slice none 0 0, .int .i64 0, .bool false, .slice none 0 0, .slice none 0 0, .int .i64 0, .int .i64 0, .slice none 0 0, .int .i64 0, .int .i64 0, .int .i64 0, .slice none 0 0, .bool false]) := ⟨fo136_0, fo136_1, fo136_2, fo136_3, ni136, sh136, fT, zr136⟩
theorem qQ5 : (qX Tryz.prog 149 = true) ∧ (vG Tryz.prog 149 = some (false, 1)) ∧ (Tryz.prog.underlying 149 = some (.pointer 92)) ∧ (zV Tryz.prog 149 = some [.pointer none]) := ⟨ni149, sz149, ud149, zr149⟩
theorem ty151 : (qX Tryz.prog 151 = true) ∧ (vG Tryz.prog 151 = some (false, 1)) ∧ (Tryz.prog.underlying 151 = some (.pointer 22)) ∧ (zV Tryz.prog 151 = some [.pointer none]) := ⟨ni151, sz151, ud151, zr151⟩
theorem ty152 : (qX Tryz.prog 152 = true) ∧ (wH Tryz.prog 152 = some (.elems 1, [.pointer none, .pointer none, .pointer none, .pointer none])) ∧ (vG Tryz.prog 152 = some (true, 4)) ∧ (zV Tryz.prog 152 = some [.pointer none, .pointer none, .pointer none, .pointer none]) := ⟨ni152, sh152, sz152, zr152⟩
theorem ty160 : (qX Tryz.prog 160 = true) ∧ (wH Tryz.prog 160 = some (.elems 1, [.int .u8 0, .int .u8 0, .int .u8 0, .int .u8 0, .int .u8 0, .int .u8 0, .int .u8 0, .int .u8 0])) ∧ (vG Tryz.prog 160 = some (true, 8)) ∧ (zV Tryz.prog 160 = some [.int .u8 0, .int .u8 0, .int .u8 0, .int .u8 0, .int .u8 0, .int .u8 0, .int .u8 0, .int .u8 0]) := ⟨ni160, sh160, sz160, zr160⟩
theorem zM2 : (qX Tryz.prog 164 = true) ∧ (wH Tryz.prog 164 = some (.elems 1, [.int .u32 0, .int .u32 0, .int .u32 0, .int .u32 0, .int .u32 0, .int .u32 0, .int .u32 0, .int .u32 0, .int .u32 0, .int .u32 0, .int .u32 0, .int .u32 0, .int .u32 0, .int .u32 0, .int .u32 0, .int .u32 0, .int .u32 0, .int .u32 0, .int .u32 0, .int .u32 0, .int .u32 0, .int .u32 0, .int .u32 0, .int .u32 0, .int .u32 0, .int .u32 0, .int .u32 0, .int .u32 0, .int .u32 0, .int .u32 0, .int .u32 0, .int .u32 0, .int .u32 0, .int .u32 0, .int .u32 0, .int .u32 0, .int .u32 0, .int .u32 0, .int .u32 0, .int .u32 0, .int .u32 0, .int .u32 0, .int .u32 0, .int .u32 0, .int .u32 0, .int .u32 0, .int .u32 0, .int .u32 0, .int .u32 0, .int .u32 0, .int .u32 0, .int .u32 0, .int .u32 0, .int .u32 0, .int .u32 0, .int .u32 0, .int .u32 0, .int .u32 0, .int .u32 0, .int .u32 0, .int .u32 0, .int .u32 0, .int .u32 0, .int .u32 0])) ∧ (vG Tryz.prog 164 = some (true, 64)) ∧ (zV Tryz.prog 164 = some [.int .u32 0, .int .u32 0, .int .u32 0, .int .u32 0, .int .u32 0, .int .u32 0, .int .u32 0, .int .u32 0, .int .u32 0, .int .u32 0, .int .u32 0, .int .u32 0, .int .u32 0, .int .u32 0, .int .u32 0, .int .u32 0, .int .u32 0, .int .u32 0, .int .u32 0, .int .u32 0, .int .u32 0, .int .u32 0, .int .u32 0, .int .u32 0, .int .u32 0, .int .u32 0, .int .u32 0, .int .u32 0, .int .u32 0, .int .u32 0, .int .u32 0, .int .u32 0, .int .u32 0, .int .u32 0, .int .u32 0, .int .u32 0, .int .u32 0, .int .u32 0, .int .u32 0, .int .u32 0, .int .u32 0, .int .u32 0, .int .u32 0, .int .u32 0, .int .u32 0, .int .u32 0, .int .u32 0, .int .u32 0, .int .u32 0, .int .u32 0, .int .u32 0, .int .u32 0, .int .u32 0, .int .u32 0, .int .u32 0, .int .u32 0, .int .u32 0, .int .u32 0, .int .u32 0, .int .u32 0, .int .u32 0, .int .u32 0, .int .u32 0, .int .u32 0]) := ⟨ni164, sh164, zM6, zr164⟩
theorem zM1 : (qX Tryz.prog 165 = true) ∧ (wH Tryz.prog 165 = some (.elems 1, [.int .u32 0, .int .u32 0, .int .u32 0, .int .u32 0, .int .u32 0, .int .u32 0, .int .u32 0, .int .u32 0, .int .u32 0, .int .u32 0, .int .u32 0, .int .u32 0, .int .u32 0, .int .u32 0, .int .u32 0, .int .u32 0, .int .u32 0, .int .u32 0, .int .u32 0, .int .u32 0, .int .u32 0, .int .u32 0, .int .u32 0, .int .u32 0, .int .u32 0, .int .u32 0, .int .u32 0, .int .u32 0, .int .u32 0, .int .u32 0, .int .u32 0, .int .u32 0, .int .u32 0, .int .u32 0, .int .u32 0, .int .u32 0, .int .u32 0, .int .u32 0, .int .u32 0, .int .u32 0, .int .u32 0, .int .u32 0, .int .u32 0, .int .u32 0, .int .u32 0, .int .u32 0, .int .u32 0, .int .u32 0, .int .u32 0, .int .u32 0, .int .u32 0, .int .u32 0, .int .u32 0, .int .u32 0, .int .u32 0, .int .u32 0, .int .u32 0, .int .u32 0, .int .u32 0, .int .u32 0, .int .u32 0, .int .u32 0, .int .u32 0, .int .u32 0])) ∧ (vG Tryz.prog 165 = some (true, 64)) ∧ (zV Tryz.prog 165 = some [.int .u32 0, .int .u32 0, .int .u32 0, .int .u32 0, .int .u32 0, .int .u32 0, .int .u32 0, .int .u32 0, .int .u32 0, .int .u32 0, .int .u32 0, .int .u32 0, .int .u32 0, .int .u32 0, .int .u32 0, .int .u32 0, .int .u32 0, .int .u32 0, .int .u32 0, .int .u32 0, .int .u32 0, .int .u32 0, .int .u32 0, .int .u32 0, .int .u32 0, .int .u32 0, .int .u32 0, .int .u32 0, .int .u32 0, .int .u32 0, .int .u32 0, .int .u32 0, .int .u32 0, .int .u32 0, .int .u32 0, .int .u32 0, .int .u32 0, .int .u32 0, .int .u32 0, .int .u32 0, .int .u32 0, .int .u32 0, .int .u32 0, .int .u32 0, .int .u32 0, .int .u32 0, .int .u32 0, .int .u32 0, .int .u32 0, .int .u32 0, .int .u32 0, .int .u32 0, .int .u32 0, .int .u32 0, .int .u32 0, .int .u32 0, .int .u32 0, .int .u32 0, .int .u32 0, .int .u32 0, .int .u32 0, .int .u32 0, .int .u32 0, .int .u32 0]) := ⟨ni165, sh165, sz165, zr165⟩
theorem ty170 : (qX Tryz.prog 170 = true) ∧ (wH Tryz.prog 170 = some (.elems 1, [.int .i64 0, .int .i64 0])) ∧ (vG Tryz.prog 170 = some (true, 2)) ∧ (zV Tryz.prog 170 = some [.int .i64 0, .int .i64 0]) := ⟨ni170, sh170, sz170, zr170⟩
theorem qQ4 : (yK Tryz.prog 177 0 = some (4, 0)) ∧ (yK Tryz.prog 177 1 = some (92, 1)) ∧ (qX Tryz.prog 177 = true) ∧ (wH Tryz.prog 177 = some (.fields [(0, 1), (1, 10)], [.bool false, .bool false, .slice none 0 0, .slice none 0 0, .int .i64 0, .int .i64 0, .slice none 0 0, .int .i64 0, .int .i64 0, .int .i64 0, .slice none 0 0])) ∧ (vG Tryz.prog 177 = some (true, 11)) ∧ (zV Tryz.prog 177 = some [.bool false, .bool false, .slice none 0 0, .slice none 0 0, .int .i64 0, .int .i64 0, .slice none 0 0, .int .i64 0, .int .i64 0, .int .i64 0, .slice none 0 0]) := ⟨fo177_0, fo177_1, ni177, sh177, zM5, zr177⟩
theorem zM0 : (qX Tryz.prog 185 = true) ∧ (vG Tryz.prog 185 = some (false, 1)) ∧ (zV Tryz.prog 185 = some [.nilFunc]) := ⟨ni185, sz185, zr185⟩
theorem ty188 : (qX Tryz.prog 188 = true) ∧ (vG Tryz.prog 188 = some (false, 1)) ∧ (Tryz.prog.underlying 188 = some (.pointer 128)) ∧ (zV Tryz.prog 188 = some [.pointer none]) := ⟨ni188, sz188, ud188, zr188⟩
theorem ty192 : (vG Tryz.prog 192 = some (false, 1)) ∧ (zV Tryz.prog 192 = some [.nilIface]) := ⟨sz192, zr192⟩
end Go.Gh
namespace Go.Gh
open Go Go.Proofs Go.RowKit
set_option linter.unusedVariables false
set_option linter.unusedSimpArgs false
set_option maxRecDepth 100000
set_option maxHeartbeats 8000000
theorem qA4 : type_of% (And.intro zF (And.intro wF rs37)) := And.intro zF (And.intro wF rs37)
theorem pZ : type_of% (And.intro zF (And.intro wF rs147)) := And.intro zF (And.intro wF rs147)
theorem gT (N : Nat) (h : GH) {a : Option Addr} {n c : Nat} {l : List UInt8} (r : RB h (.slice a n c) l) (hl : l.length ≤ 140737488355328) : GTri Tryz.prog N 37 [.slice a n c] h fun v h' => HS h h' ∧ OWN h h' v l := by
  refine zU Tryz.func37 rfl gf37 ok37 (by simp [Tryz.ntmps37]) ?_
  repeat' (first | with_reducible apply qK | ((first | (with_reducible first | apply qB | apply qR | apply qT | apply qM) | (with_reducible apply qA0 <;> intro hb <;> (try simp only [hb]))) <;> try simp only [qN, qC, qE, qG, qD, qA, qF, seval, qQ, qO, qP, qA4]))
  · obtain rfl := r.isnil hb
    exact ⟨HS.refl h, OWN.nil h h⟩
  · refine mX vA rfl ?_
    simp only [qN, qC, qE, qG, qD, qA, qF, seval, qQ, qO, qP, qA4]
    refine xW vA Tryz.underlying22 rfl (HS.refl h) (.inr (.inl ⟨_, rfl, rfl⟩)) r.src (by simpa using hl) fun v h' s1 _ o => ?_
    simp only [qN, qC, qE, qG, qD, qA, qF, seval, qQ, qO, qP, qA4]
    repeat' (first | ((with_reducible apply qM) <;> try simp only [qN, qC, qE, qG, qD, qA, qF, seval, qQ, qO, qP, qA4]))
    exact ⟨s1, o⟩
theorem zH0 (N : Nat) (h : GH) {a : Option Addr} {n c : Nat} {l : List UInt8} (r : RB h (.slice a n c) l) (hl : l.length ≤ 140737488355328) : GTri Tryz.prog N 147 [.slice a n c] h fun v h' => HS h h' ∧ OWN h h' v l := by
  refine zU Tryz.func147 rfl gf147 ok147 (by simp [Tryz.ntmps147]) ?_
  repeat' (first | with_reducible apply qK | ((first | (with_reducible first | apply qB | apply qR | apply qT | apply qM) | (with_reducible apply qA0 <;> intro hb <;> (try simp only [hb]))) <;> try simp only [qN, qC, qE, qG, qD, qA, qF, seval, qQ, qO, qP, pZ]))
  · obtain rfl := r.isnil hb
    exact ⟨HS.refl h, OWN.nil h h⟩
  · refine mX vA rfl ?_
    simp only [qN, qC, qE, qG, qD, qA, qF, seval, qQ, qO, qP, pZ]
    refine xW vA Tryz.underlying22 rfl (HS.refl h) (.inr (.inl ⟨_, rfl, rfl⟩)) r.src (by simpa using hl) fun v h' s1 _ o => ?_
    simp only [qN, qC, qE, qG, qD, qA, qF, seval, qQ, qO, qP, pZ]
    repeat' (first | ((with_reducible apply qM) <;> try simp only [qN, qC, qE, qG, qD, qA, qF, seval, qQ, qO, qP, pZ]))
    exact ⟨s1, o⟩
theorem zS7 : type_of% (And.intro zF (And.intro wF (And.intro zA1 rs11))) := And.intro zF (And.intro wF (And.intro zA1 rs11))
theorem mD : type_of% (And.intro qT4 (And.intro zF (And.intro xB (And.intro wF rs57)))) := And.intro qT4 (And.intro zF (And.intro xB (And.intro wF rs57)))
theorem mE : type_of% (And.intro zF (And.intro xB (And.intro wF rs41))) := And.intro zF (And.intro xB (And.intro wF rs41))
def tJ : Nat → List (Nat × List Nat) × List Nat
  | 3 => ([(0, []), (1, []), (2, []), (3, []), (4, []), (5, []), (6, []), (7, []), (8, []), (9, [])], [0, 0, 2, 7, 15, 0, 32, 96, 255, 511])
  | _ => ([], [])
theorem qZ4 (N : Nat) (h : GH) {a b : Option Addr} {n m c d : Nat} {l k : List UInt8} (r1 : RB h (.slice a n c) l) (r2 : RB h (.slice b m d) k) : GTri Tryz.prog N 11 [.slice a n c, .slice b m d] h fun v h' => v = .bool (l == k) ∧ h' = h := by
  refine zU Tryz.func11 rfl gf11 ok11 (by simp [Tryz.ntmps11]) ?_
  repeat' (first | with_reducible apply qK | ((with_reducible first | apply qB | apply qM) <;> try simp only [qN, qC, qE, qG, qD, qA, qF, seval, qQ, qO, qP, zS7, r1.conv Tryz.underlying22 Tryz.underlying5 Tryz.underlying9, r2.conv Tryz.underlying22 Tryz.underlying5 Tryz.underlying9, kM]))
theorem c_rBit (N : Nat) (h : GH) {a : Option Addr} {n c : Nat} {l : List UInt8} (r : RB h (.slice a n c) l) (hn : n = l.length) (i : Int) (hi : (Lit.int .i64 i).wf = true) : GTri Tryz.prog N 57 [.slice a n c, .int .i64 i] h fun v h' => v = .int .i64 (if i < 0 then -1 else xA l i.toNat) ∧ h' = h := by
  have hb := bounds_i64 hi
  subst hn
  refine zU Tryz.func57 rfl gf57 ok57 (by simp [Tryz.ntmps57]) ?_
  by_cases h0 : i < 0
  · have d0 : decide (i < 0) = true := decide_eq_true h0
    repeat' (first | with_reducible apply qK | ((with_reducible first | apply qB | apply qR | apply qM) <;> try simp only [qN, qC, qE, qG, qD, qA, qF, seval, qQ, qO, qP, mD, d0]))
    simp [h0]
  · have d0 : decide (i < 0) = false := decide_eq_false h0
    obtain ⟨j, rfl⟩ : ∃ j : Nat, i = j := ⟨i.toNat, by omega⟩
    have e1 : IntKind.i64.wrap (Int.tdiv (j : Int) 8) = ((j / 8 : Nat) : Int) := by
      rw [show (8 : Int) = ((8 : Nat) : Int) from rfl, kD]
      exact wrap64 (by omega) (by omega)
    have e2 : Int.tmod (j : Int) 8 = ((j % 8 : Nat) : Int) := tmod_nat j 8
    have e3 : IntKind.i64.wrap (7 - ((j % 8 : Nat) : Int)) = ((7 - j % 8 : Nat) : Int) := by
      rw [wrap64 (by omega) (by omega)]
      omega
    by_cases h1 : l.length ≤ j / 8
    · have d1 : decide (((j / 8 : Nat) : Int) ≥ (l.length : Int)) = true := decide_eq_true (by omega)
      repeat' (first | with_reducible apply qK | ((with_reducible first | apply qB | apply qR | apply qM) <;> try simp only [qN, qC, qE, qG, qD, qA, qF, seval, qQ, qO, qP, mD, d0, e1, d1]))
      simp only [h0, if_false, xA, List.getElem?_eq_none h1, Int.toNat_natCast]
    · have d1 : decide (((j / 8 : Nat) : Int) ≥ (l.length : Int)) = false := decide_eq_false (by omega)
      obtain ⟨p, q1, q2⟩ := r.idx Tryz.underlying22 sH (i := ((j / 8 : Nat) : Int)) (by omega) (by omega)
      rw [Int.toNat_natCast] at q2
      repeat' (first | with_reducible apply qK | ((with_reducible first | apply qB | apply qR | apply qT) <;> try simp only [qN, qC, qE, qG, qD, qA, qF, seval, qQ, qO, qP, mD, d0, e1, d1, q1, q2, bv, e2, e3]))
      refine ⟨by omega, ?_⟩
      repeat' (first | ((with_reducible apply qM) <;> try simp only [qN, qC, qE, qG, qD, qA, qF, seval, qQ, qO, qP, mD, d0, e1, d1, q1, q2, bv, e2, e3]))
      rw [Int.toNat_natCast, zL6 _ _ (by omega), if_neg h0, Int.toNat_natCast, qX0 (by omega)]
theorem c_Bit (N : Nat) (h : GH) {a : Option Addr} {n c : Nat} {l : List UInt8} (r : RB h (.slice a n c) l) (hn : n = l.length) (i : Int) (hi : (Lit.int .i64 i).wf = true) : GTri Tryz.prog N 41 [.slice a n c, .int .i64 i] h fun v h' => v = .int .i64 (if i < 0 then -1 else xA l i.toNat) ∧ h' = h := by
  have hb := bounds_i64 hi
  subst hn
  refine zU Tryz.func41 rfl gf41 ok41 (by simp [Tryz.ntmps41]) ?_
  by_cases h0 : i < 0
  · have d0 : decide (i < 0) = true := decide_eq_true h0
    repeat' (first | with_reducible apply qK | ((with_reducible first | apply qB | apply qR | apply qM) <;> try simp only [qN, qC, qE, qG, qD, qA, qF, seval, qQ, qO, qP, qL, qY, qZ, zC, mE, tJ, d0]))
    simp [h0]
  · have d0 : decide (i < 0) = false := decide_eq_false h0
    obtain ⟨j, rfl⟩ : ∃ j : Nat, i = j := ⟨i.toNat, by omega⟩
    have e1 : Int.fdiv (j : Int) (2 ^ min 3 IntKind.i64.bits) = ((j / 8 : Nat) : Int) := pQ j 8
    have e2 := and7 (i := j) (by omega)
    by_cases h1 : l.length ≤ j / 8
    · have d1 : decide (((j / 8 : Nat) : Int) ≥ (l.length : Int)) = true := decide_eq_true (by omega)
      repeat' (first | with_reducible apply qK | ((with_reducible first | apply qB | apply qR | apply qM) <;> try simp only [qN, qC, qE, qG, qD, qA, qF, seval, qQ, qO, qP, qL, qY, qZ, zC, mE, tJ, d0, e1, d1]))
      simp only [h0, if_false, xA, List.getElem?_eq_none h1, Int.toNat_natCast]
    · have d1 : decide (((j / 8 : Nat) : Int) ≥ (l.length : Int)) = false := decide_eq_false (by omega)
      obtain ⟨p, q1, q2⟩ := r.idx Tryz.underlying22 sH (i := ((j / 8 : Nat) : Int)) (by omega) (by omega)
      rw [Int.toNat_natCast] at q2
      have e3 := zU1 (l.getD (j / 8) 0) j (by omega)
      repeat' (first | with_reducible apply qK | ((first | (with_reducible first | apply qB | apply qR | apply qT) | with_reducible refine zE tJ xC (by kernel_rfl) ?_) <;> try simp only [qN, qC, qE, qG, qD, qA, qF, seval, qQ, qO, qP, qL, qY, qZ, zC, mE, tJ, d0, e1, d1, q1, q2, bv, e2, Int.toNat_natCast]))
      refine ⟨by omega, ?_⟩
      repeat' (first | with_reducible apply qK | ((first | (with_reducible first | apply qB | apply qR | apply qT | apply qM) | (with_reducible apply qA0 <;> intro hb <;> (try simp only [hb]))) <;> try simp only [qN, qC, qE, qG, qD, qA, qF, seval, qQ, qO, qP, qL, qY, qZ, zC, mE, tJ, e3]))
      · rw [if_neg h0, qX0 (by omega), hb, if_pos rfl]
      · rw [if_neg h0, qX0 (by omega), hb, if_neg (by simp)]
theorem yO {P : Program} {t : TypeId} {h h' : GH} {p v : Value} (x : HS h h') (e : wZ P t h p = some v) : wZ P t h' p = some v := by
  unfold wZ at e ⊢
  split at e
  case h_2 => cases e
  split at e
  · rename_i n hz
    obtain ⟨cs, h1, h2⟩ := Option.map_eq_some_iff.1 e
    simp [lY x.hc h1, h2]
  · obtain ⟨cs, h1, h2⟩ := Option.bind_eq_some_iff.1 e
    simp [lY x.hc h1, h2]
  · cases e
theorem gK {P : Program} {h : GH} {ad : Addr} {t n : Nat} {cs : List Value} (hz : vG P t = some (true, n)) (hr : wA h ad n = some cs) : wZ P t h (.pointer (some ad)) = some (.agg cs.toArray) := by
  simp [wZ, hz, hr]
theorem xY {P : Program} {h : GH} {k : Nat} {B : GB} {t n : Nat} {b : Bool} {cs : List Value} {K : Value → GH → Prop} (hk : h k = some B) (hz : vG P t = some (b, n)) (hw : B.wr = true) (hn : n ≠ 0) (hl : cs.length = n) (hB : B.cells.length = n) (hc : cs.all zK = true)
    (g : ∀ h', h' k = some { B with cells := cs } → (∀ j, j ≠ k → h' j = h j) → K U h') : qV9 (dI P t h (.pointer (some ⟨k, 0, none⟩)) (.agg cs.toArray)) K :=
  wL hk hz hw hn (by simpa [vcells] using hl) hB (by simpa [vcells] using hc) fun h' m f => g h' (by simpa [vcells] using m) f
theorem zH {h h' : GH} {k : Nat} (f : ∀ j, j ≠ k → h' j = h j) : HX k h h' := fun j B n e => by rw [f j n]; exact e
theorem lZ {P : Program} {h : GH} {ad : Addr} {t : Nat} {v : Value} (hz : vG P t = some (false, 1)) (hr : wA h ad 1 = some [v]) : wZ P t h (.pointer (some ad)) = some v := by
  simp [wZ, hz, hr]
theorem wN {P : Program} {h : GH} {k o : Nat} {B : GB} (hk : h k = some B) {t n : Nat} {cs : List Value} (hz : vG P t = some (true, n)) (hc : (B.cells.drop o).take n = cs) (hl : cs.length = n) : wZ P t h (.pointer (some ⟨k, o, none⟩)) = some (.agg cs.toArray) := gK hz (yF hk hc hl)
theorem qS8 : type_of% (And.intro qN1 (And.intro kB (And.intro xB (And.intro ty64 rs153)))) := And.intro qN1 (And.intro kB (And.intro xB (And.intro ty64 rs153)))
theorem zS6 : type_of% (And.intro kB (And.intro xB rs125)) := And.intro kB (And.intro xB rs125)
theorem qS9 : type_of% (And.intro kB (And.intro xB rs152)) := And.intro kB (And.intro xB rs152)
def qC4 : Nat → List (Nat × List Nat) × List Nat
  | 1 => ([(0, []), (1, []), (2, []), (4, []), (5, []), (6, []), (9, []), (10, []), (11, []), (3, []), (7, []), (8, []), (12, []), (13, [])], [0, 0, 2, 7, 0, 0, 32, 127, 255, 0, 0, 1536, 4095, 8191])
  | _ => ([], [])
abbrev W32 := BitVec 32
def vw (x : W32) : Value := .int .u32 (x.toNat : Int)
theorem tA (x y : W32) : bits .and .u32 (x.toNat : Int) (y.toNat : Int) = ((x &&& y).toNat : Int) := by
  simp only [bits, IntKind.bits, BitVec.ofInt_natCast, BitVec.ofNat_toNat, BitVec.setWidth_eq]
  exact qI7 (by omega) (by have := (x &&& y).isLt; omega)
theorem qO7 (x y : W32) : bits .or .u32 (x.toNat : Int) (y.toNat : Int) = ((x ||| y).toNat : Int) := by
  simp only [bits, IntKind.bits, BitVec.ofInt_natCast, BitVec.ofNat_toNat, BitVec.setWidth_eq]
  exact qI7 (by omega) (by have := (x ||| y).isLt; omega)
theorem uJ (x y : W32) : bits .xor .u32 (x.toNat : Int) (y.toNat : Int) = ((x ^^^ y).toNat : Int) := by
  simp only [bits, IntKind.bits, BitVec.ofInt_natCast, BitVec.ofNat_toNat, BitVec.setWidth_eq]
  exact qI7 (by omega) (by have := (x ^^^ y).isLt; omega)
theorem sK (n : Nat) : IntKind.u32.wrap (n : Int) = ((n % 4294967296 : Nat) : Int) := by
  simp [IntKind.wrap, IntKind.signed, IntKind.bits]
theorem xQ (x y : W32) : IntKind.u32.wrap ((x.toNat : Int) + (y.toNat : Int)) = ((x + y).toNat : Int) := by
  rw [← Int.natCast_add, sK, BitVec.toNat_add]
theorem mO (x : W32) {k : Nat} (hk : k ≤ 31) : IntKind.u32.wrap ((x.toNat : Int) * 2 ^ min k IntKind.u32.bits) = ((x <<< k).toNat : Int) := by
  rw [show min k IntKind.u32.bits = k from Nat.min_eq_left (by simp [IntKind.bits]; omega)]
  rw [show (x.toNat : Int) * 2 ^ k = ((x.toNat * 2 ^ k : Nat) : Int) by push_cast; rfl, sK, BitVec.toNat_shiftLeft, Nat.shiftLeft_eq]
theorem dQ (x : W32) {k : Nat} (hk : k ≤ 31) : (x.toNat : Int).fdiv (2 ^ min k IntKind.u32.bits) = ((x >>> k).toNat : Int) := by
  rw [show min k IntKind.u32.bits = k from Nat.min_eq_left (by simp [IntKind.bits]; omega)]
  rw [show (2 : Int) ^ k = ((2 ^ k : Nat) : Int) by push_cast; rfl, Int.fdiv_eq_ediv_of_nonneg _ (Int.natCast_nonneg _), ← Int.natCast_ediv, BitVec.toNat_ushiftRight, Nat.shiftRight_eq_div_pow]
def uD (x : W32) (a : Nat) : W32 := x <<< (32 - a) ||| x >>> a
def sg (x : W32) (a b c : Nat) : W32 := uD x a ^^^ uD x b ^^^ uD x c
def gm (x : W32) (a b c : Nat) : W32 := uD x a ^^^ uD x b ^^^ x >>> c
structure S8 where
  (a b c d e f g h : W32)
def S8.cs (s : S8) : List Value := [vw s.a, vw s.b, vw s.c, vw s.d, vw s.e, vw s.f, vw s.g, vw s.h]
def S8.add (s t : S8) : S8 := ⟨s.a + t.a, s.b + t.b, s.c + t.c, s.d + t.d, s.e + t.e, s.f + t.f, s.g + t.g, s.h + t.h⟩
def rnd (s : S8) (k w : W32) : S8 :=
  ⟨s.h + sg s.e 6 11 25 + (s.e &&& (s.f ^^^ s.g) ^^^ s.g) + k + w + (sg s.a 2 13 22 + (s.a &&& (s.b ||| s.c) ||| s.b &&& s.c)), s.a, s.b, s.c, s.d + (s.h + sg s.e 6 11 25 + (s.e &&& (s.f ^^^ s.g) ^^^ s.g) + k + w), s.e, s.f, s.g⟩
def kT : List Int := [0x428a2f98, 0x71374491, 0xb5c0fbcf, 0xe9b5dba5, 0x3956c25b, 0x59f111f1, 0x923f82a4, 0xab1c5ed5,
  0xd807aa98, 0x12835b01, 0x243185be, 0x550c7dc3, 0x72be5d74, 0x80deb1fe, 0x9bdc06a7, 0xc19bf174,
  0xe49b69c1, 0xefbe4786, 0x0fc19dc6, 0x240ca1cc, 0x2de92c6f, 0x4a7484aa, 0x5cb0a9dc, 0x76f988da,
  0x983e5152, 0xa831c66d, 0xb00327c8, 0xbf597fc7, 0xc6e00bf3, 0xd5a79147, 0x06ca6351, 0x14292967,
  0x27b70a85, 0x2e1b2138, 0x4d2c6dfc, 0x53380d13, 0x650a7354, 0x766a0abb, 0x81c2c92e, 0x92722c85,
  0xa2bfe8a1, 0xa81a664b, 0xc24b8b70, 0xc76c51a3, 0xd192e819, 0xd6990624, 0xf40e3585, 0x106aa070,
  0x19a4c116, 0x1e376c08, 0x2748774c, 0x34b0bcb5, 0x391c0cb3, 0x4ed8aa4a, 0x5b9cca4f, 0x682e6ff3,
  0x748f82ee, 0x78a5636f, 0x84c87814, 0x8cc70208, 0x90befffa, 0xa4506ceb, 0xbef9a3f7, 0xc67178f2]
def kW (i : Nat) : W32 := BitVec.ofInt 32 (kT.getD i 0)
theorem kT_ok : ((List.range 64).all fun i => kT[i]? == some ((kW i).toNat : Int)) = true := by decide +kernel
theorem kT_at {i : Nat} (h : i < 64) : (kT.map fun z => Value.int .u32 z)[i]? = some (vw (kW i)) := by
  have := List.all_eq_true.1 kT_ok i (List.mem_range.2 h)
  rw [beq_iff_eq] at this
  rw [List.getElem?_map, this]; rfl
abbrev TBk (h : GH) : Prop := TB 1 (kT.map fun z => Value.int .u32 z) h
def arr {α : Type} (n : Nat) (f : Nat → α) : List α := (List.range n).map f
theorem vB {α : Type} (n : Nat) (f : Nat → α) : (arr n f).length = n := by simp [arr]
theorem tB {α : Type} {n : Nat} (f : Nat → α) {i : Nat} (h : i < n) : (arr n f)[i]? = some (f i) := by simp [arr, h]
theorem zQ2 {α : Type} {n : Nat} (f g : Nat → α) {i : Nat} {v : α} (h : ∀ j, j < n → g j = if j = i then v else f j) : (arr n f).set i v = arr n g := by
  apply List.ext_getElem?
  intro j
  rw [List.getElem?_set, vB]
  by_cases hj : j < n
  · rw [tB g hj, h j hj]
    by_cases e : i = j
    · subst e; simp [hj]
    · rw [if_neg e, if_neg (fun e' => e e'.symm), tB f hj]
  · have h1 : (arr n f)[j]? = none := List.getElem?_eq_none (by rw [vB]; omega)
    have h2 : (arr n g)[j]? = none := List.getElem?_eq_none (by rw [vB]; omega)
    rw [h1, h2]
    split
    · rw [if_neg (by omega)]
    · rfl
theorem qO8 {α : Type} {n : Nat} {f g : Nat → α} (h : ∀ j, j < n → f j = g j) : arr n f = arr n g := List.map_congr_left fun j hj => h j (List.mem_range.1 hj)
theorem arr_all {n : Nat} (f : Nat → W32) : (arr n fun j => vw (f j)).all zK = true := by
  simp [arr, List.all_eq_true, vw, zK]
theorem c_Rot (N : Nat) (h : GH) (x : W32) {k : Nat} (h1 : 1 ≤ k) (hk : k ≤ 31) : GTri Tryz.prog N 153 [vw x, .int .i64 k] h fun v h' => v = vw (x <<< k ||| x >>> (32 - k)) ∧ h' = h := by
  have w0 : IntKind.u64.wrap (k : Int) = k := fK (by omega) (by omega)
  have w1 : bits .and .u64 (k : Int) 31 = (k : Int) := by
    have := (bits_u64 (a := k) (b := 31) (by omega) (by omega)).1
    rw [show ((31 : Nat) : Int) = 31 from rfl] at this
    rw [this, show (31 : Nat) = 2 ^ 5 - 1 from rfl, Nat.and_two_pow_sub_one_eq_mod, Nat.mod_eq_of_lt (by omega)]
  have w2 : IntKind.u64.wrap (32 - (k : Int)) = ((32 - k : Nat) : Int) := by rw [fK (by omega) (by omega)]; omega
  have w3 := mO x hk
  have w4 := dQ x (k := 32 - k) (by omega)
  have w5 := qO7 (x <<< k) (x >>> (32 - k))
  refine zU Tryz.func153 rfl gf153 ok153 (by simp [Tryz.ntmps153]) ?_
  repeat' (first | with_reducible apply qK | ((with_reducible apply qB) <;> try simp only [qN, qC, qE, qG, qD, qA, qF, seval, qQ, qO, qP, qS8, vw, w0, w1, w2, w3, w4, w5, Int.toNat_natCast]))
  refine ⟨by omega, by omega, ?_⟩
  refine qJ ?_; repeat' (first | ((with_reducible first | apply qI | apply qM) <;> try simp only [qN, qC, qE, qG, qD, qA, qF, seval, qQ, qO, qP, qS8, w3, w4, w5]))
theorem rot_eq {x : W32} {a : Nat} (ha : a ≤ 31) : x <<< (32 - a) ||| x >>> (32 - (32 - a)) = uD x a := by
  unfold uD
  rw [show 32 - (32 - a) = a by omega]
theorem qO0 (N : Nat) (h : GH) (x : W32) {a : Nat} (h1 : 1 ≤ a) (ha : a ≤ 31) : GTri Tryz.prog N 153 [vw x, .int .i64 ((32 - a : Nat) : Int)] h fun v h' => v = vw (uD x a) ∧ h' = h :=
  (c_Rot N h x (k := 32 - a) (by omega) (by omega)).mono fun v h' ⟨e1, e2⟩ => ⟨by rw [e1, rot_eq ha], e2⟩
theorem zP2 (N : Nat) (h : GH) (x : W32) {a b c : Nat} (a1 : 1 ≤ a) (a2 : a ≤ 31) (b1 : 1 ≤ b) (b2 : b ≤ 31) (c1 : 1 ≤ c) (c2 : c ≤ 31) : GTri Tryz.prog N 125 [vw x, .int .i64 a, .int .i64 b, .int .i64 c] h fun v h' => v = vw (sg x a b c) ∧ h' = h := by
  have wa : IntKind.i64.wrap (32 - (a : Int)) = ((32 - a : Nat) : Int) := by rw [wrap64 (by omega) (by omega)]; omega
  have wb : IntKind.i64.wrap (32 - (b : Int)) = ((32 - b : Nat) : Int) := by rw [wrap64 (by omega) (by omega)]; omega
  have wc : IntKind.i64.wrap (32 - (c : Int)) = ((32 - c : Nat) : Int) := by rw [wrap64 (by omega) (by omega)]; omega
  have x1 := uJ (uD x a) (uD x b)
  have x2 := uJ (uD x a ^^^ uD x b) (uD x c)
  refine zU Tryz.func125 rfl gf125 ok125 (by simp [Tryz.ntmps125]) ?_
  repeat' (first | with_reducible apply qK | ((first | (with_reducible first | apply qB | apply qM) | ((refine GTri.mono (qO0 _ _ x a1 a2) ?_); rintro _ _ ⟨rfl, hh9⟩; replace hh9 := hh9.symm; subst hh9) | ((refine GTri.mono (qO0 _ _ x b1 b2) ?_); rintro _ _ ⟨rfl, hh9⟩; replace hh9 := hh9.symm; subst hh9) | ((refine GTri.mono (qO0 _ _ x c1 c2) ?_); rintro _ _ ⟨rfl, hh9⟩; replace hh9 := hh9.symm; subst hh9)) <;> try simp only [qN, qC, qE, qG, qD, qA, qF, seval, qQ, qO, qP, zS6, wa, wb, wc, vw, x1, x2]))
  rfl
theorem zP7 (N : Nat) (h : GH) (x : W32) {a b c : Nat} (a1 : 1 ≤ a) (a2 : a ≤ 31) (b1 : 1 ≤ b) (b2 : b ≤ 31) (c2 : c ≤ 31) : GTri Tryz.prog N 152 [vw x, .int .i64 a, .int .i64 b, .int .i64 c] h fun v h' => v = vw (gm x a b c) ∧ h' = h := by
  have wa : IntKind.i64.wrap (32 - (a : Int)) = ((32 - a : Nat) : Int) := by rw [wrap64 (by omega) (by omega)]; omega
  have wb : IntKind.i64.wrap (32 - (b : Int)) = ((32 - b : Nat) : Int) := by rw [wrap64 (by omega) (by omega)]; omega
  have wc := dQ x c2
  have x1 := uJ (uD x a) (uD x b)
  have x2 := uJ (uD x a ^^^ uD x b) (x >>> c)
  refine zU Tryz.func152 rfl gf152 ok152 (by simp [Tryz.ntmps152]) ?_
  repeat' (first | with_reducible apply qK | ((first | (with_reducible apply qB) | with_reducible refine zE qC4 xC (by kernel_rfl) ?_) <;> try simp only [qN, qC, qE, qG, qD, qA, qF, seval, qQ, qO, qP, qL, qY, qZ, zC, qS9, qC4, wa, wb, wc, vw, x1, x2, Int.toNat_natCast]))
  refine ⟨by omega, ?_⟩
  refine qJ ?_; repeat' (first | ((first | (with_reducible first | apply qI | apply qM) | ((refine GTri.mono (qO0 _ _ x a1 a2) ?_); rintro _ _ ⟨rfl, hh9⟩; replace hh9 := hh9.symm; subst hh9) | ((refine GTri.mono (qO0 _ _ x b1 b2) ?_); rintro _ _ ⟨rfl, hh9⟩; replace hh9 := hh9.symm; subst hh9)) <;> try simp only [qN, qC, qE, qG, qD, qA, qF, seval, qQ, qO, qP, qL, qY, qZ, zC, qS9, qC4, wa, wb, wc, vw, x1, x2, Int.toNat_natCast]))
  rfl
theorem jR : type_of% (And.intro Tryz.underlying165 (And.intro qJ4 (And.intro zF (And.intro kB (And.intro zM1 (And.intro xB (And.intro wF rs124))))))) := And.intro Tryz.underlying165 (And.intro qJ4 (And.intro zF (And.intro kB (And.intro zM1 (And.intro xB (And.intro wF rs124))))))
def jC : Nat → List (Nat × List Nat) × List Nat
  | 10 => ([(0, []), (1, []), (2, []), (3, []), (4, []), (6, []), (7, []), (8, []), (9, []), (11, []), (12, []), (13, []), (14, []), (17, []), (18, []), (19, []), (20, []), (5, [9, 14, 20]), (10, []), (15, [9, 20]), (16, []), (21, []), (22, []), (23, [])], [0, 0, 2, 6, 14, 30, 0, 64, 192, 448, 1022, 0, 2048, 6144, 14336, 30782, 65534, 0, 131072, 393216, 917504, 2097150, 4194303, 8388607])
  | _ => ([], [])
def w8 (x : W32) (y : UInt8) : W32 := x <<< 8 ||| BitVec.ofNat 32 y.toNat
def rM (l : List UInt8) (i j : Nat) : W32 := (((l.take i).drop (4 * j)).take 4).foldl w8 0
theorem acc_step {l : List UInt8} {i : Nat} {y : UInt8} (hy : l[i]? = some y) (j : Nat) : rM l (i + 1) j = if j = i / 4 then w8 (rM l i (i / 4)) y else rM l i j := by
  have hl : (l.take i).length = i := by
    have := (List.getElem?_eq_some_iff.1 hy).1
    rw [List.length_take]; omega
  have e : l.take (i + 1) = l.take i ++ [y] := by rw [List.take_add_one, hy]; rfl
  unfold rM
  rw [e, List.drop_append, hl]
  by_cases h1 : 4 * j ≤ i
  · rw [show 4 * j - i = 0 by omega, List.drop_zero]
    have hd : ((l.take i).drop (4 * j)).length = i - 4 * j := by rw [List.length_drop, hl]
    by_cases h2 : i < 4 * j + 4
    · have hj : j = i / 4 := by omega
      subst hj
      rw [if_pos rfl]
      generalize (l.take i).drop (4 * (i / 4)) = M at hd ⊢
      rw [List.take_of_length_le (l := M ++ [y]) (by rw [List.length_append, List.length_singleton]; omega), List.take_of_length_le (l := M) (by omega), List.foldl_append]
      rfl
    · rw [if_neg (by omega), List.take_append_of_le_length (by rw [hd]; omega)]
  · rw [if_neg (by omega), List.drop_of_length_le (by omega), List.drop_of_length_le (by rw [List.length_singleton]; omega)]
    rfl
def jL (b : Nat → W32) (i : Nat) : W32 :=
  if h : i < 16 then b i else gm (jL b (i - 2)) 17 19 10 + jL b (i - 7) + gm (jL b (i - 15)) 7 18 3 + jL b (i - 16)
termination_by i
decreasing_by all_goals omega
theorem sch_lt {b : Nat → W32} {i : Nat} (h : i < 16) : jL b i = b i := by rw [jL, dif_pos h]
theorem sch_ge {b : Nat → W32} {i : Nat} (h : ¬ i < 16) : jL b i = gm (jL b (i - 2)) 17 19 10 + jL b (i - 7) + gm (jL b (i - 15)) 7 18 3 + jL b (i - 16) := by rw [jL, dif_neg h]
theorem qG4 {k j : Nat} (h : j < 64) : zJ Tryz.prog 165 (.pointer (some ⟨k, 0, none⟩)) (j : Int) = some (.pointer (some ⟨k, j, none⟩)) := by
  simp [zJ, Tryz.underlying165, xM]; omega
abbrev qG1 (f : Nat → W32) : List Value := arr 64 fun j => vw (f j)
theorem dK (f : Nat → W32) {j : Nat} (h : j < 64) : (qG1 f)[j]? = some (vw (f j)) := tB _ h
theorem qU5 (f g : Nat → W32) {i : Nat} {x : W32} (h : ∀ j, j < 64 → g j = if j = i then x else f j) : (qG1 f).set i (vw x) = qG1 g := zQ2 _ _ fun j hj => by
  show vw (g j) = _
  rw [h j hj]; split <;> rfl
theorem zU3 (f : Nat → W32) : (qG1 f).all vO = true := by simp [arr, List.all_eq_true, vw, vO]
theorem c_sched (N : Nat) (h : GH) {a : Option Addr} {n c : Nat} {l : List UInt8} (r : RB h (.slice a n c) l) (hl : 64 ≤ l.length) (hb : l.length ≤ 140737488351232) : GTri Tryz.prog N 124 [.slice a n c] h fun v h' => HS h h' ∧ ∃ k, v = .pointer (some ⟨k, 0, none⟩) ∧ h k = none ∧ h' k = some ⟨qG1 (jL (rM l 64)), 0, true, false⟩ := by
  obtain rfl := r.len_eq
  refine zU Tryz.func124 rfl gf124 ok124 (by simp [Tryz.ntmps124]) ?_
  repeat' (first | with_reducible apply qK | ((with_reducible apply qB) <;> try simp only [qN, qC, qE, qG, qD, qA, qF, seval, qQ, qO, qP, qL, qY, qZ, zC, jR, jC]))
  refine xE fun k h1 m1 s1 f1 n1 => ?_
  have e0 : h1 k = some ⟨qG1 (fun _ => 0), 0, true, false⟩ := m1
  clear m1
  obtain ⟨a1, c1, q1, r1, _⟩ := (r.hs s1).cut Tryz.underlying22 sH (hi := ((64 : Nat) : Int)) (by omega) (by omega) .i64
  rw [Int.toNat_natCast] at q1 r1
  rw [show ((64 : Nat) : Int) = 64 from rfl] at q1
  refine qJ ?_; repeat' (first | (with_reducible first | apply qK | apply qS) | ((with_reducible first | apply qI | apply qB) <;> try simp only [qN, qC, qE, qG, qD, qA, qF, seval, qQ, qO, qP, qL, qY, qZ, zC, jR, jC, q1]))
  refine xR [2, 3, 8, 9] (fun (i : Nat) => [(10, .int .i64 (i : Int))]) (fun q i h' => 64 - i = q ∧ i ≤ 64 ∧ HX k h1 h' ∧ h' k = some ⟨qG1 (rM l i), 0, true, false⟩) 64 0 (by simp [lk]) ⟨rfl, by omega, HX.refl _ _, by rw [e0, show qG1 (fun _ => 0) = qG1 (rM l 0) from qO8 fun j _ => by simp [rM]]⟩ ?_
  rintro _ i h2 ⟨rfl, hi, x2, m2⟩
  by_cases hil : i < 64
  case pos =>
    have d3 : decide ((i : Int) < 64) = true := decide_eq_true (by omega)
    have wi : IntKind.i64.wrap ((i : Int) + 1) = ((i + 1 : Nat) : Int) := by rw [wrap64 (by omega) (by omega)]; omega
    have w4 : IntKind.i64.wrap (Int.tdiv (i : Int) 4) = ((i / 4 : Nat) : Int) := by
      rw [show (4 : Int) = ((4 : Nat) : Int) from rfl, kD]
      exact wrap64 (by omega) (by omega)
    obtain ⟨y, hy⟩ : ∃ y, l[i]? = some y := ⟨_, List.getElem?_eq_getElem (by omega)⟩
    have hy2 : (l.take 64)[i]? = some y := by rw [List.getElem?_take, if_pos hil, hy]
    have r2 := r1.hx e0 (zU3 _) x2
    obtain ⟨pp, g1, g2⟩ := RB.at (P := Tryz.prog) r2 Tryz.underlying22 sH hy2
    have gi := qG4 (k := k) (j := i / 4) (by omega)
    have gl := dK (rM l i) (j := i / 4) (by omega)
    have yl := y.toNat_lt
    have b1 := mO (rM l i (i / 4)) (k := 8) (by omega)
    have b2 : IntKind.u32.wrap (y.toNat : Int) = ((BitVec.ofNat 32 y.toNat).toNat : Int) := by rw [sK, BitVec.toNat_ofNat]
    have b3 := qO7 (rM l i (i / 4) <<< 8) (BitVec.ofNat 32 y.toNat)
    refine qJ ?_; repeat' (first | (with_reducible first | apply qK | apply qS) | ((with_reducible first | apply qI | apply qB | apply qR | apply qT) <;> try simp only [qN, qC, qE, qG, qD, qA, qF, seval, qQ, qO, qP, qL, qY, qZ, zC, jR, jC, d3, g1, g2, bv, w4, gi, qH m2 xM, gl, vw, b1, b2, b3]))
    refine zW m2 xM rfl (by rw [vB]; omega) rfl rfl fun h3 m3 f3 => ?_
    have m4 : h3 k = some ⟨qG1 (rM l (i + 1)), 0, true, false⟩ := by
      rw [← qU5 (rM l i) (rM l (i + 1)) (fun j _ => acc_step hy j)]; exact m3
    refine qJ ?_; repeat' (first | ((with_reducible first | apply qI | apply qB) <;> try simp only [qN, qC, qE, qG, qD, qA, qF, seval, qQ, qO, qP, qL, qY, qZ, zC, jR, jC, wi]))
    exact ⟨_, i + 1, by omega, (by simp only [List.forall_mem_cons, List.not_mem_nil, false_implies, implies_true, List.map, List.cons_append, List.nil_append, lk, Nat.reduceEqDiff, reduceIte, and_true, true_and]), rfl, by omega, x2.trans (zH f3), m4⟩
  have d3 : decide ((i : Int) < 64) = false := decide_eq_false (by omega)
  obtain rfl : i = 64 := by omega
  have m3 : h2 k = some ⟨qG1 (fun j => if j < 16 then jL (rM l 64) j else 0#32), 0, true, false⟩ := by
    refine m2.trans (congrArg (fun c => some (GB.mk c 0 true false)) (qO8 fun j hj => ?_))
    show vw (rM l 64 j) = vw (if j < 16 then jL (rM l 64) j else 0#32)
    split
    · rename_i h; rw [sch_lt h]
    · rename_i h
      have : rM l 64 j = 0#32 := by
        unfold rM
        rw [List.drop_of_length_le (by rw [List.length_take]; omega)]; rfl
      rw [this]
  clear m2
  refine qJ ?_; repeat' (first | (with_reducible first | apply qK | apply qS) | ((with_reducible first | apply qI | apply qB | apply qR | apply xT) <;> try simp only [qN, qC, qE, qG, qD, qA, qF, seval, qQ, qO, qP, qL, qY, qZ, zC, jR, jC, d3]))
  refine xR [2, 3] (fun (i : Nat) => [(6, .int .i64 (i : Int))]) (fun q i h' => 64 - i = q ∧ 16 ≤ i ∧ i ≤ 64 ∧ HX k h1 h' ∧ h' k = some ⟨qG1 (fun j => if j < i then jL (rM l 64) j else 0#32), 0, true, false⟩) 48 16 (by simp [lk]) ⟨rfl, by omega, by omega, x2, m3⟩ ?_
  rintro _ i h4 ⟨rfl, hi1, hi2, x4, m4⟩
  by_cases hil : i < 64
  case neg =>
    have d3 : decide ((i : Int) < 64) = false := decide_eq_false (by omega)
    obtain rfl : i = 64 := by omega
    refine qJ ?_; repeat' (first | with_reducible apply qK | ((with_reducible first | apply qI | apply qB | apply qR | apply xT | apply qM) <;> try simp only [qN, qC, qE, qG, qD, qA, qF, seval, qQ, qO, qP, qL, qY, qZ, zC, jR, jC, d3]))
    refine ⟨x4.new s1 n1, k, rfl, n1, m4.trans (congrArg (fun c => some (GB.mk c 0 true false)) (qO8 fun j hj => ?_))⟩
    show vw (if j < 64 then jL (rM l 64) j else 0#32) = _
    rw [if_pos hj]
  have d3 : decide ((i : Int) < 64) = true := decide_eq_true (by omega)
  have wi : IntKind.i64.wrap ((i : Int) + 1) = ((i + 1 : Nat) : Int) := by rw [wrap64 (by omega) (by omega)]; omega
  have w2 : IntKind.i64.wrap ((i : Int) - 2) = ((i - 2 : Nat) : Int) := by rw [wrap64 (by omega) (by omega)]; omega
  have w7 : IntKind.i64.wrap ((i : Int) - 7) = ((i - 7 : Nat) : Int) := by rw [wrap64 (by omega) (by omega)]; omega
  have w15 : IntKind.i64.wrap ((i : Int) - 15) = ((i - 15 : Nat) : Int) := by rw [wrap64 (by omega) (by omega)]; omega
  have w16 : IntKind.i64.wrap ((i : Int) - 16) = ((i - 16 : Nat) : Int) := by rw [wrap64 (by omega) (by omega)]; omega
  have gf : ∀ j, j < i → (qG1 (fun j => if j < i then jL (rM l 64) j else 0#32))[j]? = some (vw (jL (rM l 64) j)) := fun j hj => by
    rw [dK _ (by omega)]
    show some (vw (if j < i then jL (rM l 64) j else 0#32)) = _
    rw [if_pos hj]
  have g2 := gf (i - 2) (by omega)
  have g7 := gf (i - 7) (by omega)
  have g15 := gf (i - 15) (by omega)
  have g16 := gf (i - 16) (by omega)
  have e2 := qG4 (k := k) (j := i - 2) (by omega)
  have e7 := qG4 (k := k) (j := i - 7) (by omega)
  have e15 := qG4 (k := k) (j := i - 15) (by omega)
  have e16 := qG4 (k := k) (j := i - 16) (by omega)
  have ei := qG4 (k := k) (j := i) (by omega)
  have sq := sch_ge (b := rM l 64) (i := i) (by omega)
  generalize hX2 : jL (rM l 64) (i - 2) = X2 at g2 sq
  generalize hX7 : jL (rM l 64) (i - 7) = X7 at g7 sq
  generalize hX15 : jL (rM l 64) (i - 15) = X15 at g15 sq
  generalize hX16 : jL (rM l 64) (i - 16) = X16 at g16 sq
  have a1' := xQ (gm X2 17 19 10) X7
  have a2' := xQ (gm X2 17 19 10 + X7) (gm X15 7 18 3)
  have a3' := xQ (gm X2 17 19 10 + X7 + gm X15 7 18 3) X16
  rw [← sq] at a3'
  have cg1 := fun hh => zP7 N hh X2 (a := 17) (b := 19) (c := 10) (by omega) (by omega) (by omega) (by omega) (by omega)
  have cg2 := fun hh => zP7 N hh X15 (a := 7) (b := 18) (c := 3) (by omega) (by omega) (by omega) (by omega) (by omega)
  refine qJ ?_; repeat' (first | (with_reducible first | apply qK | apply qS) | ((first | (with_reducible first | apply qI | apply qB | apply qR | apply qT) | with_reducible refine zE jC xC (by kernel_rfl) ?_ | ((refine GTri.mono (cg1 _) ?_); rintro _ _ ⟨rfl, hh9⟩; replace hh9 := hh9.symm; subst hh9) | ((refine GTri.mono (cg2 _) ?_); rintro _ _ ⟨rfl, hh9⟩; replace hh9 := hh9.symm; subst hh9)) <;> try simp only [qN, qC, qE, qG, qD, qA, qF, seval, qQ, qO, qP, qL, qY, qZ, zC, jR, jC, d3, w2, w7, w15, w16, e2, e7, e15, e16, ei, qH m4 xM, g2, g7, g15, g16, vw, a1', a2', a3']))
  refine zW m4 xM rfl (by rw [vB]; omega) rfl rfl fun h5 m5 f5 => ?_
  have m6 : h5 k = some ⟨qG1 (fun j => if j < i + 1 then jL (rM l 64) j else 0#32), 0, true, false⟩ := by
    rw [← qU5 (fun j => if j < i then jL (rM l 64) j else 0#32) (i := i) (x := jL (rM l 64) i) _ (fun j _ => ?_)]
    · exact m5
    · by_cases e : j = i
      · subst e; rw [if_pos rfl, if_pos (by omega)]
      · rw [if_neg e]
        by_cases h : j < i
        · rw [if_pos h, if_pos (by omega)]
        · rw [if_neg h, if_neg (by omega)]
  refine qJ ?_; repeat' (first | ((with_reducible first | apply qI | apply qB) <;> try simp only [qN, qC, qE, qG, qD, qA, qF, seval, qQ, qO, qP, qL, qY, qZ, zC, jR, jC, wi]))
  exact ⟨_, i + 1, by omega, (by simp only [List.forall_mem_cons, List.not_mem_nil, false_implies, implies_true, List.map, List.cons_append, List.nil_append, lk, Nat.reduceEqDiff, reduceIte, and_true, true_and]), rfl, by omega, by omega, x4.trans (zH f5), m6⟩
theorem wG : type_of% (And.intro Tryz.underlying121 (And.intro Tryz.underlying165 (And.intro zF (And.intro kB (And.intro zM3 (And.intro zM1 (And.intro xB (And.intro wF rs80)))))))) := And.intro Tryz.underlying121 (And.intro Tryz.underlying165 (And.intro zF (And.intro kB (And.intro zM3 (And.intro zM1 (And.intro xB (And.intro wF rs80)))))))
def xG : Nat → List (Nat × List Nat) × List Nat
  | 5 => ([(0, []), (1, []), (2, []), (3, []), (4, []), (5, []), (6, []), (7, []), (8, []), (9, [])], [0, 1, 3, 7, 0, 16, 48, 112, 15, 511])
  | 6 => ([(0, []), (1, []), (2, []), (3, []), (4, []), (7, []), (8, []), (9, []), (10, []), (11, []), (12, []), (13, []), (14, []), (15, []), (16, []), (17, []), (18, []), (19, []), (20, []), (21, []), (22, []), (24, []), (25, []), (26, []), (28, []), (29, []), (30, []), (31, []), (32, []), (5, [3, 11, 15, 21, 26, 32]), (6, []), (23, []), (27, []), (33, []), (34, [])], [0, 1, 3, 7, 0, 16, 63, 0, 0, 256, 768, 1792, 0, 4096, 12288, 28672, 65280, 130944, 0, 262144, 786432, 1835008, 4194176, 8388607, 0, 16777216, 50331648, 134217727, 0, 0, 268435456, 1879048192, 4026531840, 8589934591, 17179869183])
  | 7 => ([(0, []), (2, []), (3, []), (4, []), (5, []), (6, []), (7, []), (8, []), (9, []), (10, []), (11, []), (12, []), (13, []), (14, []), (15, []), (16, []), (17, []), (18, []), (19, []), (20, []), (21, []), (22, []), (1, [6, 10, 16, 20]), (23, []), (24, [])], [0, 1, 0, 0, 8, 24, 56, 0, 128, 384, 896, 2040, 4092, 0, 8192, 24576, 57344, 0, 131072, 393216, 917504, 2088960, 4194300, 8388607, 16777215])
  | 8 => ([(0, []), (1, []), (2, []), (3, []), (4, []), (5, []), (6, []), (7, []), (8, []), (9, []), (10, []), (11, []), (12, []), (13, []), (14, []), (15, []), (16, []), (17, []), (18, []), (19, []), (20, []), (21, []), (22, []), (23, []), (24, []), (25, []), (26, []), (27, []), (28, []), (29, []), (30, [])], [0, 0, 0, 6, 0, 0, 32, 96, 224, 0, 512, 1536, 3584, 0, 8192, 24576, 57344, 0, 253952, 0, 0, 1048576, 3145728, 7340032, 0, 16777216, 50331648, 117440512, 268435454, 536870911, 1073741823])
  | 13 => ([(0, []), (1, []), (2, []), (3, []), (4, []), (5, []), (6, []), (7, []), (8, []), (9, [])], [0, 0, 1, 7, 15, 0, 63, 1, 255, 511])
  | _ => ([], [])
def lO (s : S8) (w : Nat → W32) : Nat → S8
  | 0 => s
  | n + 1 => rnd (lO s w n) (kW n) (w n)
def qP9 (s : S8) (l : List UInt8) : S8 := S8.add (lO s (jL (rM l 64)) 64) s
theorem acc_take {l : List UInt8} (j : Nat) : rM (l.take 64) 64 j = rM l 64 j := by
  unfold rM; rw [List.take_take, Nat.min_self]
theorem qW4 {k j : Nat} (h : j < 8) : zJ Tryz.prog 121 (.pointer (some ⟨k, 0, none⟩)) (j : Int) = some (.pointer (some ⟨k, j, none⟩)) := by
  simp [zJ, Tryz.underlying121, xM]; omega
theorem c_take (N : Nat) {h : GH} (tb : TBk h) {k : Nat} {s : S8} (ms : h k = some ⟨s.cs, 0, true, false⟩) {a : Option Addr} {n c : Nat} {l : List UInt8} (r : RB h (.slice a n c) l) (hl : 64 ≤ l.length) (hb : l.length ≤ 140737488351232) : GTri Tryz.prog N 80 [.pointer (some ⟨k, 0, none⟩), .slice a n c] h fun v h' => h' k = some ⟨(qP9 s l).cs, 0, true, false⟩ ∧ HX k h h' := by
  obtain rfl := r.len_eq
  refine zU Tryz.func80 rfl gf80 ok80 (by simp [Tryz.ntmps80]) ?_
  repeat' (first | with_reducible apply qK | ((with_reducible apply qB) <;> try simp only [qN, qC, qE, qG, qD, qA, qF, seval, qQ, qO, qP, qL, qY, qZ, zC, wG, xG]))
  refine (c_sched N h r hl hb).mono ?_
  rintro _ h1 ⟨s1, kw, rfl, n1, mw⟩
  have m1 := s1 _ _ ms
  have tb1 := tb.hs s1
  refine qJ ?_; repeat' (first | with_reducible apply qK | ((with_reducible first | apply qI | apply qB) <;> try simp only [qN, qC, qE, qG, qD, qA, qF, seval, qQ, qO, qP, qL, qY, qZ, zC, wG, xG, gNil, zI m1 qK4 rfl]))
  refine xE fun k2 h2 m2 s2 f2 n2 => ?_
  refine qJ ?_; repeat' (first | ((with_reducible apply qI) <;> try simp only [qN, qC, qE, qG, qD, qA, qF, seval, qQ, qO, qP, qL, qY, qZ, zC, wG, xG]))
  refine xY m2 qK4 rfl (by decide) rfl rfl rfl fun h3 m3 f3 => ?_
  have s3 : HS h1 h3 := (HS.refl _).upd n2 fun j hj => (f3 j hj).trans (f2 j hj)
  have m13 := s3 _ _ m1
  have mw3 := s3 _ _ mw
  have tb3 := tb1.hs s3
  have kk2 : k ≠ k2 := yA m1 n2
  have kkw : k ≠ kw := yA ms n1
  refine qJ ?_; repeat' (first | (with_reducible first | apply qK | apply qS) | ((with_reducible first | apply qI | apply qB) <;> try simp only [qN, qC, qE, qG, qD, qA, qF, seval, qQ, qO, qP, qL, qY, qZ, zC, wG, xG]))
  refine xR [0, 4, 5] (fun (i : Nat) => [(18, .int .i64 (i : Int))]) (fun q i h' => 64 - i = q ∧ i ≤ 64 ∧ HX k h3 h' ∧ h' k = some ⟨(lO s (jL (rM l 64)) i).cs, 0, true, false⟩) 64 0 (by simp [lk]) ⟨rfl, by omega, HX.refl _ _, m13⟩ ?_
  rintro _ i h4 ⟨rfl, hi, x4, m4⟩
  have mw4 := x4 _ _ kkw.symm mw3
  have m34 := x4 _ _ kk2.symm m3
  have tb4 := tb3.hx m13 rfl x4
  have i0 : zJ Tryz.prog 121 (.pointer (some ⟨k, 0, none⟩)) 0 = _ := qW4 (k := k) (j := 0) (by decide)
  have i1 : zJ Tryz.prog 121 (.pointer (some ⟨k, 0, none⟩)) 1 = _ := qW4 (k := k) (j := 1) (by decide)
  have i2 : zJ Tryz.prog 121 (.pointer (some ⟨k, 0, none⟩)) 2 = _ := qW4 (k := k) (j := 2) (by decide)
  have i3 : zJ Tryz.prog 121 (.pointer (some ⟨k, 0, none⟩)) 3 = _ := qW4 (k := k) (j := 3) (by decide)
  have i4 : zJ Tryz.prog 121 (.pointer (some ⟨k, 0, none⟩)) 4 = _ := qW4 (k := k) (j := 4) (by decide)
  have i5 : zJ Tryz.prog 121 (.pointer (some ⟨k, 0, none⟩)) 5 = _ := qW4 (k := k) (j := 5) (by decide)
  have i6 : zJ Tryz.prog 121 (.pointer (some ⟨k, 0, none⟩)) 6 = _ := qW4 (k := k) (j := 6) (by decide)
  have i7 : zJ Tryz.prog 121 (.pointer (some ⟨k, 0, none⟩)) 7 = _ := qW4 (k := k) (j := 7) (by decide)
  by_cases hil : i < 64
  case neg =>
    have d3 : decide ((i : Int) < 64) = false := decide_eq_false (by omega)
    obtain rfl : i = 64 := by omega
    generalize hT : lO s (jL (rM l 64)) 64 = T at m4
    have hc : qP9 s l = S8.add T s := by rw [qP9, hT]
    rw [hc]
    obtain ⟨ta, tb', tc, td, te, tf, tg, th⟩ := T
    obtain ⟨sa, sb, sc, sd, se, sf, sg', sh⟩ := s
    simp only [S8.cs] at m4 m34
    have gW := zI m34 qK4 rfl
    simp only at gW
    refine qJ ?_; repeat' (first | (with_reducible first | apply qK | apply qS) | ((with_reducible first | apply qI | apply qB | apply qR | apply xT) <;> try simp only [qN, qC, qE, qG, qD, qA, qF, seval, qQ, qO, qP, qL, qY, qZ, zC, wG, xG, d3, gW]))
    refine dU ?_
    refine xJ ?_
    refine qJ ?_; repeat' (first | (with_reducible first | apply qK | apply qS) | ((first | (with_reducible first | apply qI | apply qB | apply qR | apply qT) | with_reducible refine zE xG xC (by kernel_rfl) ?_) <;> try simp only [qN, qC, qE, qG, qD, qA, qF, seval, qQ, qO, qP, qL, qY, qZ, zC, wG, xG, qA, i0, gNil, qH m4 xM, vw, xQ]))
    refine zW m4 xM rfl (by simp) rfl rfl fun h40 m40 f40 => ?_
    refine qJ ?_; repeat' (first | ((with_reducible first | apply qI | apply qB) <;> try simp only [qN, qC, qE, qG, qD, qA, qF, seval, qQ, qO, qP, qL, qY, qZ, zC, wG, xG]))
    refine xJ ?_
    refine qJ ?_; repeat' (first | (with_reducible first | apply qK | apply qS) | ((first | (with_reducible first | apply qI | apply qB | apply qR | apply qT) | with_reducible refine zE xG xC (by kernel_rfl) ?_) <;> try simp only [qN, qC, qE, qG, qD, qA, qF, seval, qQ, qO, qP, qL, qY, qZ, zC, wG, xG, qA, i1, gNil, qH m40 xM, vw, xQ]))
    refine zW m40 xM rfl (by simp) rfl rfl fun h41 m41 f41 => ?_
    refine qJ ?_; repeat' (first | ((with_reducible first | apply qI | apply qB) <;> try simp only [qN, qC, qE, qG, qD, qA, qF, seval, qQ, qO, qP, qL, qY, qZ, zC, wG, xG]))
    refine xJ ?_
    refine qJ ?_; repeat' (first | (with_reducible first | apply qK | apply qS) | ((first | (with_reducible first | apply qI | apply qB | apply qR | apply qT) | with_reducible refine zE xG xC (by kernel_rfl) ?_) <;> try simp only [qN, qC, qE, qG, qD, qA, qF, seval, qQ, qO, qP, qL, qY, qZ, zC, wG, xG, qA, i2, gNil, qH m41 xM, vw, xQ]))
    refine zW m41 xM rfl (by simp) rfl rfl fun h42 m42 f42 => ?_
    refine qJ ?_; repeat' (first | ((with_reducible first | apply qI | apply qB) <;> try simp only [qN, qC, qE, qG, qD, qA, qF, seval, qQ, qO, qP, qL, qY, qZ, zC, wG, xG]))
    refine xJ ?_
    refine qJ ?_; repeat' (first | (with_reducible first | apply qK | apply qS) | ((first | (with_reducible first | apply qI | apply qB | apply qR | apply qT) | with_reducible refine zE xG xC (by kernel_rfl) ?_) <;> try simp only [qN, qC, qE, qG, qD, qA, qF, seval, qQ, qO, qP, qL, qY, qZ, zC, wG, xG, qA, i3, gNil, qH m42 xM, vw, xQ]))
    refine zW m42 xM rfl (by simp) rfl rfl fun h43 m43 f43 => ?_
    refine qJ ?_; repeat' (first | ((with_reducible first | apply qI | apply qB) <;> try simp only [qN, qC, qE, qG, qD, qA, qF, seval, qQ, qO, qP, qL, qY, qZ, zC, wG, xG]))
    refine xJ ?_
    refine qJ ?_; repeat' (first | (with_reducible first | apply qK | apply qS) | ((first | (with_reducible first | apply qI | apply qB | apply qR | apply qT) | with_reducible refine zE xG xC (by kernel_rfl) ?_) <;> try simp only [qN, qC, qE, qG, qD, qA, qF, seval, qQ, qO, qP, qL, qY, qZ, zC, wG, xG, qA, i4, gNil, qH m43 xM, vw, xQ]))
    refine zW m43 xM rfl (by simp) rfl rfl fun h44 m44 f44 => ?_
    refine qJ ?_; repeat' (first | ((with_reducible first | apply qI | apply qB) <;> try simp only [qN, qC, qE, qG, qD, qA, qF, seval, qQ, qO, qP, qL, qY, qZ, zC, wG, xG]))
    refine xJ ?_
    refine qJ ?_; repeat' (first | (with_reducible first | apply qK | apply qS) | ((first | (with_reducible first | apply qI | apply qB | apply qR | apply qT) | with_reducible refine zE xG xC (by kernel_rfl) ?_) <;> try simp only [qN, qC, qE, qG, qD, qA, qF, seval, qQ, qO, qP, qL, qY, qZ, zC, wG, xG, qA, i5, gNil, qH m44 xM, vw, xQ]))
    refine zW m44 xM rfl (by simp) rfl rfl fun h45 m45 f45 => ?_
    refine qJ ?_; repeat' (first | ((with_reducible first | apply qI | apply qB) <;> try simp only [qN, qC, qE, qG, qD, qA, qF, seval, qQ, qO, qP, qL, qY, qZ, zC, wG, xG]))
    refine xJ ?_
    refine qJ ?_; repeat' (first | (with_reducible first | apply qK | apply qS) | ((first | (with_reducible first | apply qI | apply qB | apply qR | apply qT) | with_reducible refine zE xG xC (by kernel_rfl) ?_) <;> try simp only [qN, qC, qE, qG, qD, qA, qF, seval, qQ, qO, qP, qL, qY, qZ, zC, wG, xG, qA, i6, gNil, qH m45 xM, vw, xQ]))
    refine zW m45 xM rfl (by simp) rfl rfl fun h46 m46 f46 => ?_
    refine qJ ?_; repeat' (first | ((with_reducible first | apply qI | apply qB) <;> try simp only [qN, qC, qE, qG, qD, qA, qF, seval, qQ, qO, qP, qL, qY, qZ, zC, wG, xG]))
    refine xJ ?_
    refine qJ ?_; repeat' (first | (with_reducible first | apply qK | apply qS) | ((first | (with_reducible first | apply qI | apply qB | apply qR | apply qT) | with_reducible refine zE xG xC (by kernel_rfl) ?_) <;> try simp only [qN, qC, qE, qG, qD, qA, qF, seval, qQ, qO, qP, qL, qY, qZ, zC, wG, xG, qA, i7, gNil, qH m46 xM, vw, xQ]))
    refine zW m46 xM rfl (by simp) rfl rfl fun h47 m47 f47 => ?_
    refine qJ ?_; repeat' (first | ((with_reducible first | apply qI | apply qB) <;> try simp only [qN, qC, qE, qG, qD, qA, qF, seval, qQ, qO, qP, qL, qY, qZ, zC, wG, xG]))
    refine xJ ?_
    refine qJ ?_; repeat' (first | with_reducible apply qK | ((with_reducible first | apply qI | apply qB | apply qR | apply xT) <;> try simp only [qN, qC, qE, qG, qD, qA, qF, seval, qQ, qO, qP, qL, qY, qZ, zC, wG, xG]))
    exact ⟨m47, HX.trans ((s1.trans s3).hx k) (x4.trans (((((((((zH f40).trans (zH f41)).trans (zH f42)).trans (zH f43)).trans (zH f44)).trans (zH f45)).trans (zH f46)).trans (zH f47))))⟩
  have d3 : decide ((i : Int) < 64) = true := decide_eq_true (by omega)
  have wi : IntKind.i64.wrap ((i : Int) + 1) = ((i + 1 : Nat) : Int) := by rw [wrap64 (by omega) (by omega)]; omega
  generalize hS : lO s (jL (rM l 64)) i = S at m4
  obtain ⟨sa, sb, sc, sd, se, sf, sg', sh⟩ := S
  simp only [S8.cs] at m4
  have c6 := fun hh => zP2 N hh se (a := 6) (b := 11) (c := 25) (by omega) (by omega) (by omega) (by omega) (by omega) (by omega)
  have c2 := fun hh => zP2 N hh sa (a := 2) (b := 13) (c := 22) (by omega) (by omega) (by omega) (by omega) (by omega) (by omega)
  have gw := dK (jL (rM l 64)) hil
  have ew := qG4 (k := kw) hil
  have ek := qG4 (k := 1) hil
  obtain ⟨dsK, mK, eK⟩ := tb4.at (kT_at hil)
  generalize hw : jL (rM l 64) i = w at gw
  have b1 := xQ sh (sg se 6 11 25)
  have b2 := uJ sf sg'
  have b3 := tA se (sf ^^^ sg')
  have b4 := uJ (se &&& (sf ^^^ sg')) sg'
  have b5 := xQ (sh + sg se 6 11 25) (se &&& (sf ^^^ sg') ^^^ sg')
  have b6 := xQ (sh + sg se 6 11 25 + (se &&& (sf ^^^ sg') ^^^ sg')) (kW i)
  have b7 := xQ (sh + sg se 6 11 25 + (se &&& (sf ^^^ sg') ^^^ sg') + kW i) w
  have b8 := qO7 sb sc
  have b9 := tA sa (sb ||| sc)
  have b10 := tA sb sc
  have b11 := qO7 (sa &&& (sb ||| sc)) (sb &&& sc)
  have b12 := xQ (sg sa 2 13 22) (sa &&& (sb ||| sc) ||| sb &&& sc)
  have b13 := xQ (sh + sg se 6 11 25 + (se &&& (sf ^^^ sg') ^^^ sg') + kW i + w) (sg sa 2 13 22 + (sa &&& (sb ||| sc) ||| sb &&& sc))
  have b14 := xQ sd (sh + sg se 6 11 25 + (se &&& (sf ^^^ sg') ^^^ sg') + kW i + w)
  refine qJ ?_; repeat' (first | (with_reducible first | apply qK | apply qS) | ((first | (with_reducible first | apply qI | apply qB | apply qR | apply qT) | with_reducible refine zE xG xC (by kernel_rfl) ?_ | ((refine GTri.mono (c6 _) ?_); rintro _ _ ⟨rfl, hh9⟩; replace hh9 := hh9.symm; subst hh9) | ((refine GTri.mono (c2 _) ?_); rintro _ _ ⟨rfl, hh9⟩; replace hh9 := hh9.symm; subst hh9)) <;> try simp only [qN, qC, qE, qG, qD, qA, qF, seval, qQ, qO, qP, qL, qY, qZ, zC, wG, xG, d3, i0, i1, i2, i3, i4, i5, i6, i7, gNil, qH m4 xM, vw, qH mw4 xM, gw, ew, ek, qH mK xM, eK, b1, b2, b3, b4, b5, b6, b7, b8, b9, b10, b11, b12, b13, b14, xP, xZ, vY, Shape.pl, List.all_cons, List.all_nil, zK]))
  have hr : lO s (jL (rM l 64)) (i + 1) = rnd ⟨sa, sb, sc, sd, se, sf, sg', sh⟩ (kW i) w := by rw [lO, hS, hw]
  refine xY m4 qK4 rfl (by decide) rfl rfl rfl fun h5 m5 f5 => ?_
  refine qJ ?_; repeat' (first | ((with_reducible first | apply qI | apply qB) <;> try simp only [qN, qC, qE, qG, qD, qA, qF, seval, qQ, qO, qP, qL, qY, qZ, zC, wG, xG, wi]))
  exact ⟨_, i + 1, by omega, (by simp only [List.forall_mem_cons, List.not_mem_nil, false_implies, implies_true, List.map, List.cons_append, List.nil_append, lk, Nat.reduceEqDiff, reduceIte, and_true, true_and]), rfl, by omega, x4.trans (zH f5), by rw [hr]; exact m5⟩
def SL (h : GH) (v : Value) : Prop := ∀ ad n c, v = .slice (some ad) n c → n = 0 ∨ c % 2 = 1 ∨ zE7 h ad 1 = true
theorem SL.nil (h : GH) (n c : Nat) : SL h (.slice none n c) := fun _ _ _ e => by cases e
theorem SL.hs {h h' : GH} {v : Value} (s : SL h v) (x : HS h h') : SL h' v := fun ad n c e => by
  rcases s ad n c e with h1 | h1 | h1
  · exact .inl h1
  · exact .inr (.inl h1)
  · right; right
    unfold zE7 at h1 ⊢
    split at h1
    · rename_i B hB
      rw [x _ _ hB]; exact h1
    · cases h1
theorem SL.hx {k : Nat} {h h' : GH} {v : Value} (s : SL h v) {B : GB} (m : h k = some B) (hB : B.es = 0) (x : HX k h h') : SL h' v := fun ad n c e => by
  rcases s ad n c e with h1 | h1 | h1
  · exact .inl h1
  · exact .inr (.inl h1)
  · right; right
    unfold zE7 at h1 ⊢
    split at h1
    · rename_i B' hB'
      have hne : ad.block ≠ k := fun e => by
        rw [e, m] at hB'; cases hB'
        rw [hB] at h1; simp at h1
      rw [x _ _ hne hB']; exact h1
    · cases h1
theorem OWN.sl {h0 h : GH} {v : Value} {l : List UInt8} (o : OWN h0 h v l) : SL h v := by
  rcases o with ⟨rfl, _⟩ | ⟨a, rfl, _⟩ | ⟨k, c, rfl, h1, h2, _, h3, _⟩
  · exact SL.nil _ _ _
  · intro ad n c e; cases e; exact .inl rfl
  · intro ad n c e
    cases e
    exact .inr (.inr (by simp [zE7, h3]))
theorem RB.cut3 {P : Program} {h : GH} {a : Option Addr} {c n : Nat} {l : List UInt8} (r : RB h (.slice a n c) l) {t e : TypeId} {b : Bool} (ht : P.underlying t = some (.slice e)) (he : vG P e = some (b, 1)) {hi : Nat} (h1 : hi ≤ l.length) (k : IntKind) :
    ∃ a' c', vW P t h (.slice a n c) none (some (.int k hi)) (some (.int k hi)) = some (.slice a' hi c') ∧ RB h (.slice a' hi c') (l.take hi) ∧ SL h (.slice a' hi c') ∧ (a'.isNone = a.isNone) := by
  rcases r with ⟨c2, hv, rfl⟩ | ⟨ad, c2, hv, h2, h3⟩
  · cases hv
    simp at h1
    subst h1
    exact ⟨none, 0, by simp [vW, ht, he, gM, dP, jQ], .inl ⟨0, rfl, by simp⟩, SL.nil _ _ _, rfl⟩
  · cases hv
    have hl : (l.take hi).length = hi := by simp; omega
    refine ⟨some ⟨ad.block, ad.off, ad.spot⟩, 2 * hi + 1, ?_, .inr ⟨⟨ad.block, ad.off, ad.spot⟩, 2 * hi + 1, by rw [hl], ?_, by omega⟩, fun ad n c e => by cases e; exact .inr (.inl (by omega)), rfl⟩
    · have hb : 0 ≤ (hi : Int) ∧ (hi : Int) ≤ ((max l.length (c / 2) : Nat) : Int) := ⟨by omega, by omega⟩
      have hb2 : 0 ≤ (hi : Int) ∧ (hi : Int) ≤ (hi : Int) := ⟨by omega, by omega⟩
      simp [vW, ht, he, gM, jQ, hb, dP]
    · rw [hl]
      have := tR h2 0 hi (by omega)
      simpa [List.map_take] using this
theorem RB.behind {P : Program} {h : GH} {a : Option Addr} {c n : Nat} {l : List UInt8} (r : RB h (.slice a n c) l) (s : SL h (.slice a n c)) {t e : TypeId} {b : Bool} (ht : P.underlying t = some (.slice e)) (he : vG P e = some (b, 1)) {lo : Nat} (h1 : lo ≤ l.length) (k : IntKind) :
    ∃ a' c', vW P t h (.slice a n c) (some (.int k lo)) none none = some (.slice a' (l.drop lo).length c') ∧ RB h (.slice a' (l.drop lo).length c') (l.drop lo) ∧ SL h (.slice a' (l.drop lo).length c') := by
  rcases r with ⟨c2, hv, rfl⟩ | ⟨ad, c2, hv, h2, h3⟩
  · cases hv
    simp at h1
    subst h1
    exact ⟨none, 0, by simp [vW, ht, he, gM, dP, jQ], .inl ⟨0, by simp, by simp⟩, SL.nil _ _ _⟩
  · cases hv
    refine ⟨some ⟨ad.block, ad.off + lo, ad.spot⟩, c - 2 * lo, ?_, .inr ⟨⟨ad.block, ad.off + lo, ad.spot⟩, c - 2 * lo, rfl, ?_, by simp; omega⟩, fun ad' n' c' e => ?_⟩
    · have hb : 0 ≤ (lo : Int) ∧ (lo : Int) ≤ (l.length : Int) := ⟨by omega, by omega⟩
      have hc : c % 2 = 1 ∨ lo = 0 ∨ zE7 h ad 1 = true := by
        rcases s _ _ _ rfl with h | h | h
        · exact .inr (.inl (by omega))
        · exact .inl h
        · exact .inr (.inr h)
      simp only [vW, ht, he, gM, jQ, dP, hb, and_self, if_true, Nat.le_max_left, hc, Nat.mul_one, Int.toNat_natCast, List.length_drop]
    · rw [List.length_drop]
      have := tR h2 lo (l.length - lo) (by omega)
      rw [this, List.map_drop, List.take_of_length_le (by simp)]
    · cases e
      rcases s _ _ _ rfl with h | h | h
      · exact .inl (by rw [List.length_drop]; omega)
      · exact .inr (.inl (by omega))
      · exact .inr (.inr h)
def qP1 (s : S8) (l : List UInt8) : Nat → S8
  | 0 => s
  | n + 1 => qP9 (qP1 s l n) (l.drop (64 * n))
def s0 : S8 := ⟨0x6a09e667, 0xbb67ae85, 0x3c6ef372, 0xa54ff53a, 0x510e527f, 0x9b05688c, 0x1f83d9ab, 0x5be0cd19⟩
def sT : List Int := [0x6a09e667, 0xbb67ae85, 0x3c6ef372, 0xa54ff53a, 0x510e527f, 0x9b05688c, 0x1f83d9ab, 0x5be0cd19]
theorem sT_eq : (sT.map fun z => Value.int .u32 z) = s0.cs := rfl
def vR (n : Nat) : Nat := n / 64 + (n % 64 + 72) / 64
theorem qL2 (n : Nat) : 1 ≤ vR n - n / 64 ∧ vR n - n / 64 ≤ 2 ∧ n / 64 ≤ vR n ∧ n % 64 + 9 ≤ 64 * (vR n - n / 64) := by unfold vR; omega
def be8 (n : Nat) : List UInt8 := arr 8 fun t => UInt8.ofNat (8 * n / 256 ^ (7 - t) % 256)
def mV (l : List UInt8) : List UInt8 := l.drop (64 * (l.length / 64)) ++ 128 :: List.replicate (64 * (vR l.length - l.length / 64) - l.length % 64 - 9) 0 ++ be8 l.length
theorem qR7 (l : List UInt8) : (mV l).length = 64 * (vR l.length - l.length / 64) := by
  have := qL2 l.length
  simp only [mV, List.length_append, List.length_drop, List.length_cons, List.length_replicate, be8, vB]
  omega
def sZ (l : List UInt8) : S8 := qP1 (qP1 s0 l (l.length / 64)) (mV l) (vR l.length - l.length / 64)
def S8.at (s : S8) (i : Nat) : W32 := match i with | 0 => s.a | 1 => s.b | 2 => s.c | 3 => s.d | 4 => s.e | 5 => s.f | 6 => s.g | _ => s.h
theorem S8.get (s : S8) {i : Nat} (h : i < 8) : s.cs[i]? = some (vw (s.at i)) := by
  rcases i with _ | _ | _ | _ | _ | _ | _ | _ | i <;> first | rfl | omega
def ob (s : S8) (i : Nat) : UInt8 := UInt8.ofNat ((s.at (i / 4)).toNat / 2 ^ (8 * (3 - i % 4)) % 256)
def outB (s : S8) : List UInt8 := arr 32 (ob s)
def qP2 (l : List UInt8) : List UInt8 := outB (sZ l)
theorem fU (l : List UInt8) : (qP2 l).length = 32 := vB _ _
def vS (n : Int) (l : List UInt8) : List UInt8 := (qP2 l).take (min (max n 0) 32).toNat
theorem c_Blocks (N : Nat) (h : GH) (n : Nat) (hn : n ≤ 1152921504606846976) : GTri Tryz.prog N 81 [.int .i64 n] h fun v h' => v = .int .i64 (vR n : Int) ∧ h' = h := by
  have m0 : (if (0 : Int) > (n : Int) then (0 : Int) else (n : Int)) = n := if_neg (by omega)
  have w1 : IntKind.i64.wrap (Int.tdiv (n : Int) 64) = ((n / 64 : Nat) : Int) := by
    rw [show (64 : Int) = ((64 : Nat) : Int) from rfl, kD]
    exact wrap64 (by omega) (by omega)
  have w2 : Int.tmod (n : Int) 64 = ((n % 64 : Nat) : Int) := by rw [show (64 : Int) = ((64 : Nat) : Int) from rfl, ← Int.ofNat_tmod]
  have w3 : IntKind.i64.wrap (((n % 64 : Nat) : Int) + 1) = ((n % 64 + 1 : Nat) : Int) := by rw [wrap64 (by omega) (by omega)]; omega
  have w4 : IntKind.i64.wrap (((n % 64 + 1 : Nat) : Int) + 8) = ((n % 64 + 9 : Nat) : Int) := by rw [wrap64 (by omega) (by omega)]; omega
  have w5 : IntKind.i64.wrap (((n / 64 : Nat) : Int) + 1) = ((n / 64 + 1 : Nat) : Int) := by rw [wrap64 (by omega) (by omega)]; omega
  have w6 : IntKind.i64.wrap (((n / 64 + 1 : Nat) : Int) + 1) = ((n / 64 + 2 : Nat) : Int) := by rw [wrap64 (by omega) (by omega)]; omega
  refine zU Tryz.func81 rfl gf81 ok81 (by simp [Tryz.ntmps81]) ?_
  by_cases hr : n % 64 + 9 > 64
  · have d1 : decide (((n % 64 + 9 : Nat) : Int) > 64) = true := decide_eq_true (by omega)
    have e : vR n = n / 64 + 2 := by unfold vR; omega
    repeat' (first | with_reducible apply qK | ((with_reducible first | apply qB | apply qR | apply qM) <;> try simp only [qN, qC, qE, qG, qD, qA, qF, seval, qQ, qO, qP, xB, rs81, m0, w1, w2, w3, w4, w5, w6, d1, e]))
    all_goals trace_state
  · have d1 : decide (((n % 64 + 9 : Nat) : Int) > 64) = false := decide_eq_false (by omega)
    have e : vR n = n / 64 + 1 := by unfold vR; omega
    repeat' (first | with_reducible apply qK | ((with_reducible first | apply qB | apply qR | apply qT | apply qM) <;> try simp only [qN, qC, qE, qG, qD, qA, qF, seval, qQ, qO, qP, xB, rs81, m0, w1, w2, w3, w4, w5, w6, d1, e]))
    all_goals trace_state
theorem copy_ge {P : Program} {t e by_ : Nat} {z : Value} {h : GH} {k m c es : Nat} {tl : Bool} {b l : List UInt8} {x : Value} {K : Value → GH → Prop} (hel : tF P t = some (e, 1, by_, z)) (hk : h k = some ⟨b.map bv, es, true, tl⟩) (hm : m = b.length) (r : RB h x l)
    (g : ∀ h', h' k = some ⟨(l.take m ++ b.drop l.length).map bv, es, true, tl⟩ → (∀ j, j ≠ k → h' j = h j) → K (goInt ((min l.length m : Nat) : Int)) h') : qY1 P t h (.slice (some ⟨k, 0, none⟩) m c) x K := by
  subst hm
  obtain ⟨h1, h2⟩ := r.first (n := min l.length b.length) (by omega)
  by_cases h0 : min l.length b.length = 0
  · refine ⟨0, h, ?_, ?_⟩
    · simp only [qM4, hel, h2, h1]
      rw [if_pos (rJ _)]
      simp [h0, kQ]
    · have := g h (by
        rw [hk]
        have : l.take b.length ++ b.drop l.length = b := by
          rcases Nat.eq_zero_or_pos l.length with hl | hl
          · rw [List.eq_nil_of_length_eq_zero hl]; simp
          · have hb : b = [] := List.eq_nil_of_length_eq_zero (by omega)
            subst hb; simp
        rw [this]) (fun _ _ => rfl)
      rwa [h0] at this
  · refine ⟨min l.length b.length, yB h k ⟨(l.take b.length ++ b.drop l.length).map bv, es, true, tl⟩, ?_, g _ (zP _ _ _) (fun j hj => zT _ _ hj)⟩
    have e1 : (l.take (min l.length b.length)).map bv = (l.take b.length).map bv := by
      congr 1
      rw [List.take_eq_take_iff]; omega
    simp only [qM4, hel, h2, h1]
    rw [if_pos (rJ _), e1]
    have hl : ((l.take b.length).map bv).length = min l.length b.length := by simp; omega
    simp only [kQ, hk, hl]
    rw [if_neg h0, if_pos ⟨by trivial, by simp; omega⟩]
    simp only [Option.map_some, jE, List.take_zero, List.nil_append, Nat.zero_add, hl]
    have e2 : (b.map bv).drop (min l.length b.length) = (b.map bv).drop l.length := by
      by_cases hh : l.length ≤ b.length
      · rw [Nat.min_eq_left hh]
      · rw [List.drop_of_length_le (by rw [List.length_map]; omega), List.drop_of_length_le (by rw [List.length_map]; omega)]
    rw [e2, List.map_append, List.map_drop]
abbrev zA3 (n : Nat) (f : Nat → UInt8) : List Value := arr n fun j => bv (f j)
theorem qZ8 (n : Nat) (f : Nat → UInt8) : zA3 n f = (arr n f).map bv := by simp [arr]
theorem qZ7 {n : Nat} (f g : Nat → UInt8) {i : Nat} {x : UInt8} (h : ∀ j, j < n → g j = if j = i then x else f j) : (zA3 n f).set i (bv x) = zA3 n g := zQ2 _ _ fun j hj => by
  show bv (g j) = _
  rw [h j hj]; split <;> rfl
def tb (l : List UInt8) (p j : Nat) : UInt8 :=
  if 64 * (vR l.length - l.length / 64) ≤ j + p ∧ j < 64 * (vR l.length - l.length / 64) then UInt8.ofNat (8 * l.length / 256 ^ (64 * (vR l.length - l.length / 64) - 1 - j) % 256)
  else if j < l.length % 64 then l.getD (64 * (l.length / 64) + j) 0 else if j = l.length % 64 then 128 else 0
theorem tb_end {l : List UInt8} {p : Nat} (hp : 8 * l.length < 256 ^ p) (h8 : p ≤ 8) : (arr 128 (tb l p)).take (64 * (vR l.length - l.length / 64)) = mV l := by
  obtain ⟨b1, b2, b3, b4⟩ := qL2 l.length
  have hlen := qR7 l
  generalize hm : 64 * (vR l.length - l.length / 64) = m at *
  have hr : l.length - 64 * (l.length / 64) = l.length % 64 := by omega
  apply List.ext_getElem?
  intro j
  by_cases hj : j < m
  case neg => rw [List.getElem?_eq_none (by rw [List.length_take]; omega), List.getElem?_eq_none (by omega)]
  rw [List.getElem?_take, if_pos hj, tB _ (by omega)]
  unfold tb mV
  rw [hm]
  by_cases h1 : j < l.length % 64
  · rw [if_neg (by omega), if_pos h1, List.append_assoc, List.getElem?_append_left (by rw [List.length_drop]; omega), List.getElem?_drop, List.getElem?_eq_getElem (by omega), List.getD_eq_getElem?_getD, List.getElem?_eq_getElem (by omega)]
    rfl
  · by_cases h2 : j < m - 8
    · have e : (if m ≤ j + p ∧ j < m then UInt8.ofNat (8 * l.length / 256 ^ (m - 1 - j) % 256) else if j < l.length % 64 then l.getD (64 * (l.length / 64) + j) 0 else if j = l.length % 64 then 128 else 0) = if j = l.length % 64 then 128 else 0 := by
        rw [if_neg (by omega), if_neg h1]
      rw [e, List.append_assoc, List.getElem?_append_right (by rw [List.length_drop]; omega), List.length_drop, hr, List.cons_append]
      by_cases h3 : j = l.length % 64
      · rw [if_pos h3, h3, Nat.sub_self]; rfl
      · rw [if_neg h3]
        obtain ⟨q, hq⟩ : ∃ q, j - l.length % 64 = q + 1 := ⟨j - l.length % 64 - 1, by omega⟩
        rw [hq, List.getElem?_cons_succ, List.getElem?_append_left (by rw [List.length_replicate]; omega), List.getElem?_replicate, if_pos (by omega)]
    · have e : (if m ≤ j + p ∧ j < m then UInt8.ofNat (8 * l.length / 256 ^ (m - 1 - j) % 256) else if j < l.length % 64 then l.getD (64 * (l.length / 64) + j) 0 else if j = l.length % 64 then 128 else 0) = UInt8.ofNat (8 * l.length / 256 ^ (m - 1 - j) % 256) := by
        by_cases h4 : m ≤ j + p
        · rw [if_pos ⟨h4, hj⟩]
        · rw [if_neg (by omega), if_neg h1, if_neg (by omega)]
          have : 8 * l.length < 256 ^ (m - 1 - j) := Nat.lt_of_lt_of_le hp (Nat.pow_le_pow_right (by decide) (by omega))
          rw [Nat.div_eq_of_lt this]; rfl
      rw [e, List.getElem?_append_right (by simp only [List.length_append, List.length_drop, List.length_cons, List.length_replicate]; omega)]
      simp only [List.length_append, List.length_drop, List.length_cons, List.length_replicate, be8]
      rw [tB _ (by omega)]
      rw [show 7 - (j - (l.length - 64 * (l.length / 64) + (m - l.length % 64 - 9 + 1))) = m - 1 - j by omega]
theorem wW : type_of% (And.intro Tryz.underlying121 (And.intro Tryz.underlying123 (And.intro qJ5 (And.intro mH (And.intro mG (And.intro zF (And.intro kB (And.intro zM3 (And.intro ty123 (And.intro qQ6 (And.intro xB (And.intro wF rs44)))))))))))) := And.intro Tryz.underlying121 (And.intro Tryz.underlying123 (And.intro qJ5 (And.intro mH (And.intro mG (And.intro zF (And.intro kB (And.intro zM3 (And.intro ty123 (And.intro qQ6 (And.intro xB (And.intro wF rs44)))))))))))
theorem qT0 : type_of% (And.intro zF (And.intro xB (And.intro wF rs12))) := And.intro zF (And.intro xB (And.intro wF rs12))
structure TK (h : GH) : Prop where
  k : TBk h
  s : TB 0 (sT.map fun z => Value.int .u32 z) h
theorem TK.hs {h h' : GH} (t : TK h) (x : HS h h') : TK h' := ⟨t.k.hs x, t.s.hs x⟩
theorem TK.hx {h h' : GH} (t : TK h) {k : Nat} {B : GB} (m : h k = some B) (w : B.wr = true) (x : HX k h h') : TK h' := ⟨t.k.hx m w x, t.s.hx m w x⟩
theorem idx128 {k j : Nat} (h : j < 128) : zJ Tryz.prog 123 (.pointer (some ⟨k, 0, none⟩)) (j : Int) = some (.pointer (some ⟨k, j, none⟩)) := by
  simp [zJ, Tryz.underlying123, sH]; omega
theorem uN (x : Nat) : IntKind.u8.wrap (x : Int) = ((UInt8.ofNat (x % 256)).toNat : Int) := by
  have h : x % 256 < 256 := Nat.mod_lt _ (by decide)
  rw [UInt8.toNat_ofNat_of_lt' (by simpa using h)]
  simp [IntKind.wrap, IntKind.signed, IntKind.bits]
theorem tb_zero {l R : List UInt8} (hR : l.drop (64 * (l.length / 64)) = R) : ((R.take 128 ++ (List.replicate 128 0).drop R.length).map bv).set R.length (bv 128) = zA3 128 (tb l 0) := by
  have hl : R.length = l.length % 64 := by rw [← hR, List.length_drop]; omega
  have h64 : l.length % 64 < 64 := Nat.mod_lt _ (by decide)
  rw [List.take_of_length_le (by omega), List.drop_replicate]
  apply List.ext_getElem?
  intro j
  have hL : ((R ++ List.replicate (128 - R.length) (0 : UInt8)).map bv).length = 128 := by simp; omega
  rw [List.getElem?_set, hL]
  by_cases hj : j < 128
  case neg => 
    rw [List.getElem?_eq_none (l := zA3 128 (tb l 0)) (by rw [vB]; omega), if_neg (by omega), List.getElem?_eq_none (by omega)]
  rw [tB _ hj]
  unfold tb
  have e0 : ¬ (64 * (vR l.length - l.length / 64) ≤ j + 0 ∧ j < 64 * (vR l.length - l.length / 64)) := by omega
  rw [if_neg e0]
  by_cases e : R.length = j
  · rw [if_pos e, if_pos (by omega), if_neg (by omega), if_pos (by omega)]
  · rw [if_neg e, List.getElem?_map]
    by_cases h1 : j < l.length % 64
    · rw [if_pos h1, List.getElem?_append_left (by omega), ← hR, List.getElem?_drop, List.getElem?_eq_getElem (by omega), List.getD_eq_getElem?_getD, List.getElem?_eq_getElem (by omega)]
      rfl
    · rw [if_neg h1, if_neg (by omega), List.getElem?_append_right (by omega), List.getElem?_replicate, if_pos (by omega)]
      rfl
theorem tb_step {l : List UInt8} {p : Nat} (hp : p < 64 * (vR l.length - l.length / 64)) (h8 : 64 * (vR l.length - l.length / 64) ≤ 128) : (zA3 128 (tb l p)).set (64 * (vR l.length - l.length / 64) - (p + 1)) (bv (UInt8.ofNat (8 * l.length / 256 ^ p % 256))) = zA3 128 (tb l (p + 1)) := by
  refine qZ7 _ _ fun j hj => ?_
  unfold tb
  by_cases e : j = 64 * (vR l.length - l.length / 64) - (p + 1)
  · rw [if_pos e, if_pos (by omega), show 64 * (vR l.length - l.length / 64) - 1 - j = p by omega]
  · rw [if_neg e]
    by_cases h : 64 * (vR l.length - l.length / 64) ≤ j + p ∧ j < 64 * (vR l.length - l.length / 64)
    · rw [if_pos (by omega), if_pos h]
    · rw [if_neg (by omega), if_neg h]
theorem c_Sum (N : Nat) {h : GH} (t : TK h) {a : Option Addr} {n c : Nat} {l : List UInt8} (r : RB h (.slice a n c) l) (sl : SL h (.slice a n c)) (hb : l.length ≤ 140737488351232) : GTri Tryz.prog N 44 [.slice a n c] h fun v h' => HS h h' ∧ ∃ a c, v = .slice a 32 c ∧ RB h' (.slice a 32 c) (qP2 l) := by
  obtain rfl := r.len_eq
  obtain ⟨nb1, nb2, nb3, nb4⟩ := qL2 l.length
  obtain ⟨ds, ms, es⟩ := t.s
  have gS : wZ Tryz.prog 121 h (.pointer (some ⟨0, 0, none⟩)) = some (.agg s0.cs.toArray) := wN ms qK4 (by rw [List.drop_zero, ← sT_eq]; exact es) rfl
  refine zU Tryz.func44 rfl gf44 ok44 (by simp [Tryz.ntmps44]) ?_
  repeat' (first | with_reducible apply qK | ((with_reducible apply qB) <;> try simp only [qN, qC, qE, qG, qD, qA, qF, seval, qQ, qO, qP, wW, gS]))
  refine xE fun ks h1 m1 s1 f1 n1 => ?_
  refine qJ ?_; repeat' (first | ((with_reducible apply qI) <;> try simp only [qN, qC, qE, qG, qD, qA, qF, seval, qQ, qO, qP, wW]))
  refine xY m1 qK4 rfl (by decide) rfl rfl rfl fun h2 m2 f2 => ?_
  have s2 : HS h h2 := (HS.refl _).upd n1 fun j hj => (f2 j hj).trans (f1 j hj)
  have t2 := t.hs s2
  have r2 := r.hs s2
  have sl2 := sl.hs s2
  refine qJ ?_; repeat' (first | (with_reducible first | apply qK | apply qS) | ((with_reducible first | apply qI | apply qB) <;> try simp only [qN, qC, qE, qG, qD, qA, qF, seval, qQ, qO, qP, wW]))
  refine xR [2, 3, 4] (fun (y : Nat × (Option Addr × Nat)) => [(0, .slice y.2.1 (l.drop (64 * y.1)).length y.2.2)]) (fun q y h' => l.length / 64 - y.1 = q ∧ 64 * y.1 ≤ l.length ∧ HX ks h2 h' ∧ h' ks = some ⟨(qP1 s0 l y.1).cs, 0, true, false⟩ ∧ RB h' (.slice y.2.1 (l.drop (64 * y.1)).length y.2.2) (l.drop (64 * y.1)) ∧ SL h' (.slice y.2.1 (l.drop (64 * y.1)).length y.2.2)) (l.length / 64) (0, a, c) (by simp [lk]) ⟨rfl, by omega, HX.refl _ _, m2, by simpa using r2, by simpa using sl2⟩ ?_
  rintro _ ⟨j, a3, c3⟩ h3 ⟨rfl, hj, x3, m3, r3, sl3⟩
  simp only at hj m3 r3 sl3
  have t3 := t2.hx m2 rfl x3
  have hd : (l.drop (64 * j)).length = l.length - 64 * j := List.length_drop
  by_cases hil : 64 ≤ l.length - 64 * j
  case pos =>
    have d3 : decide (((l.drop (64 * j)).length : Int) ≥ 64) = true := decide_eq_true (by omega)
    obtain ⟨a4, c4, q4, r4, sl4⟩ := RB.behind (P := Tryz.prog) r3 sl3 Tryz.underlying22 sH (lo := 64) (by omega) .i64
    refine qJ ?_; repeat' (first | (with_reducible first | apply qK | apply qS) | ((with_reducible first | apply qI | apply qB | apply qR | apply qT) <;> try simp only [qN, qC, qE, qG, qD, qA, qF, seval, qQ, qO, qP, wW, d3]))
    refine (c_take N t3.k m3 r3 (by omega) (by omega)).mono ?_
    rintro _ h4 ⟨m4, x4⟩
    obtain ⟨a5, c5, q5, r5, sl5⟩ := RB.behind (P := Tryz.prog) (r3.hx m3 (by rfl) x4) (sl3.hx m3 rfl x4) Tryz.underlying22 sH (lo := 64) (by omega) .i64
    rw [show ((64 : Nat) : Int) = 64 from rfl] at q5
    refine qJ ?_; repeat' (first | ((with_reducible first | apply qI | apply qB) <;> try simp only [qN, qC, qE, qG, qD, qA, qF, seval, qQ, qO, qP, wW, q5]))
    rw [List.drop_drop, show 64 * j + 64 = 64 * (j + 1) by omega] at r5 sl5
    refine ⟨_, (j + 1, a5, c5), ?_, ?_, rfl, by omega, x3.trans x4, m4, r5, sl5⟩
    · omega
    · rw [show 64 * (j + 1) = 64 * j + 64 by omega, ← List.drop_drop]
      exact (by simp only [List.forall_mem_cons, List.not_mem_nil, false_implies, implies_true, List.map, List.cons_append, List.nil_append, lk, Nat.reduceEqDiff, reduceIte, and_true, true_and])
  have hjq : j = l.length / 64 := by omega
  subst hjq
  have d3 : decide (((l.drop (64 * (l.length / 64))).length : Int) ≥ 64) = false := decide_eq_false (by omega)
  generalize hS1 : qP1 s0 l (l.length / 64) = S1 at m3
  generalize hR : l.drop (64 * (l.length / 64)) = R at hd r3 sl3 d3 ⊢
  refine qJ ?_; repeat' (first | with_reducible apply qK | ((with_reducible first | apply qI | apply qB | apply qR | apply xT) <;> try simp only [qN, qC, qE, qG, qD, qA, qF, seval, qQ, qO, qP, wW, d3]))
  refine xE fun kt h4 m4 s4 f4 n4 => ?_
  have e4 : h4 kt = some ⟨(List.replicate 128 0).map bv, 0, true, false⟩ := m4
  clear m4
  have m34 := s4 _ _ m3
  have kst : ks ≠ kt := yA m3 n4
  have r4 := r3.hs s4
  have hRl : R.length = l.length % 64 := by omega
  have gq : vW Tryz.prog 123 h4 (.pointer (some ⟨kt, 0, none⟩)) none none none = some (.slice (some ⟨kt, 0, none⟩) 128 257) := by
    simp [vW, Tryz.underlying123, sH, gM, dP]
  refine qJ ?_; repeat' (first | with_reducible apply qK | ((with_reducible first | apply qI | apply qB) <;> try simp only [qN, qC, qE, qG, qD, qA, qF, seval, qQ, qO, qP, wW, gq]))
  refine copy_ge vA e4 rfl r4 fun h5 m5 f5 => ?_
  have e128 : min R.length 128 = R.length := by omega
  have gi := idx128 (k := kt) (j := R.length) (by omega)
  refine qJ ?_; repeat' (first | ((with_reducible apply qI) <;> try simp only [qN, qC, qE, qG, qD, qA, qF, seval, qQ, qO, qP, wW, e128, gi, goInt]))
  refine zW (o := R.length) m5 sH rfl (by simp; omega) rfl rfl fun h6 m6 f6 => ?_
  have m7 : h6 kt = some ⟨zA3 128 (tb l 0), 0, true, false⟩ := by rw [← tb_zero hR]; exact m6
  have x6 : HX kt h4 h6 := (zH f5).trans (zH f6)
  have s6 : HS h3 h6 := x6.new s4 n4
  have m36 := s6 _ _ m3
  have t6 := t3.hs s6
  have w1 : IntKind.i64.wrap (Int.tdiv (l.length : Int) 64) = ((l.length / 64 : Nat) : Int) := by
    rw [show (64 : Int) = ((64 : Nat) : Int) from rfl, kD]
    exact wrap64 (by omega) (by omega)
  have w2 : IntKind.i64.wrap ((vR l.length : Int) - ((l.length / 64 : Nat) : Int)) = ((vR l.length - l.length / 64 : Nat) : Int) := by rw [wrap64 (by omega) (by omega)]; omega
  have w3 : IntKind.i64.wrap (64 * ((vR l.length - l.length / 64 : Nat) : Int)) = ((64 * (vR l.length - l.length / 64) : Nat) : Int) := by rw [wrap64 (by omega) (by omega)]; omega
  have hle := qR7 l
  have hte := fun p => @tb_end l p
  have hts := fun p => @tb_step l p
  have hsu : sZ l = qP1 S1 (mV l) (vR l.length - l.length / 64) := by rw [sZ, hS1]
  generalize hq : vR l.length - l.length / 64 = q at *
  have gq2 : vW Tryz.prog 123 h6 (.pointer (some ⟨kt, 0, none⟩)) none (some (.int .i64 ((64 * q : Nat) : Int))) none = some (.slice (some ⟨kt, 0, none⟩) (64 * q) 257) := by
    have hb1 : 0 ≤ ((64 * q : Nat) : Int) ∧ ((64 * q : Nat) : Int) ≤ ((128 : Nat) : Int) := by omega
    simp only [vW, Tryz.underlying123, sH, gM, jQ, dP, hb1, and_self, if_true, Int.toNat_natCast, Nat.zero_mul, Nat.add_zero, Nat.sub_zero, Nat.mul_zero]
  have w4 : IntKind.u64.wrap (l.length : Int) = l.length := fK (by omega) (by omega)
  have w5 : IntKind.u64.wrap ((l.length : Int) * 2 ^ min 3 IntKind.u64.bits) = ((8 * l.length / 256 ^ 0 : Nat) : Int) := by
    rw [show min 3 IntKind.u64.bits = 3 from rfl, Nat.pow_zero, Nat.div_one, fK (by omega) (by omega)]; omega
  refine qJ ?_; repeat' (first | (with_reducible first | apply qK | apply qS) | ((first | (with_reducible first | apply qI | apply qB) | ((refine GTri.mono (c_Blocks _ _ l.length (by omega)) ?_); rintro _ _ ⟨rfl, hh9⟩; replace hh9 := hh9.symm; subst hh9)) <;> try simp only [qN, qC, qE, qG, qD, qA, qF, seval, qQ, qO, qP, wW, w1, w2, w3, gq2, w4, w5]))
  refine xR [2, 3, 6] (fun (p : Nat) => [(7, .int .i64 ((p + 1 : Nat) : Int)), (8, .int .u64 ((8 * l.length / 256 ^ p : Nat) : Int))]) (fun z p h' => 8 - p = z ∧ p ≤ 8 ∧ HX kt h6 h' ∧ h' kt = some ⟨zA3 128 (tb l p), 0, true, false⟩) 8 0 (by simp [lk]) ⟨rfl, by omega, HX.refl _ _, m7⟩ ?_
  rintro _ p h7 ⟨rfl, hp, x7, m77⟩
  by_cases hx : 0 < 8 * l.length / 256 ^ p
  case pos =>
    have hp8 : p < 8 := by
      rcases Nat.lt_or_ge p 8 with h | h
      · exact h
      · have : p = 8 := by omega
        subst this
        rw [Nat.div_eq_of_lt (Nat.lt_of_lt_of_le (show 8 * l.length < 2 ^ 64 by omega) (by decide))] at hx
        omega
    have d4 : decide (((8 * l.length / 256 ^ p : Nat) : Int) > 0) = true := decide_eq_true (by omega)
    have w6 : IntKind.i64.wrap (((64 * q : Nat) : Int) - ((p + 1 : Nat) : Int)) = ((64 * q - (p + 1) : Nat) : Int) := by rw [wrap64 (by omega) (by omega)]; omega
    have w7 : IntKind.i64.wrap (((p + 1 : Nat) : Int) + 1) = ((p + 1 + 1 : Nat) : Int) := by rw [wrap64 (by omega) (by omega)]; omega
    have w8' := uN (8 * l.length / 256 ^ p)
    have w9 : ((8 * l.length / 256 ^ p : Nat) : Int).fdiv (2 ^ min 8 IntKind.u64.bits) = ((8 * l.length / 256 ^ (p + 1) : Nat) : Int) := by
      rw [show min 8 IntKind.u64.bits = 8 from rfl, show (2 : Int) ^ 8 = ((256 : Nat) : Int) from rfl, Int.fdiv_eq_ediv_of_nonneg _ (by omega), ← Int.natCast_ediv, Nat.div_div_eq_div_mul, Nat.pow_succ]
    have gi2 := kR (P := Tryz.prog) (t := 22) (k := kt) (n := 64 * q) (c := 257) (i := 64 * q - (p + 1)) Tryz.underlying22 sH (by omega)
    rw [Nat.mul_one] at gi2
    refine qJ ?_; repeat' (first | (with_reducible first | apply qK | apply qS) | ((with_reducible first | apply qI | apply qB | apply qR | apply qT) <;> try simp only [qN, qC, qE, qG, qD, qA, qF, seval, qQ, qO, qP, wW, d4, w6, w8', gi2]))
    refine zW m77 sH rfl (by rw [vB]; omega) rfl rfl fun h8 m8 f8 => ?_
    have m9 : h8 kt = some ⟨zA3 128 (tb l (p + 1)), 0, true, false⟩ := by rw [← hts p (by omega) (by omega)]; exact m8
    refine qJ ?_; repeat' (first | ((with_reducible first | apply qI | apply qB) <;> try simp only [qN, qC, qE, qG, qD, qA, qF, seval, qQ, qO, qP, wW, w7, w9]))
    exact ⟨_, p + 1, by omega, (by simp only [List.forall_mem_cons, List.not_mem_nil, false_implies, implies_true, List.map, List.cons_append, List.nil_append, lk, Nat.reduceEqDiff, reduceIte, and_true, true_and]), rfl, by omega, x7.trans (zH f8), m9⟩
  have d4 : decide (((8 * l.length / 256 ^ p : Nat) : Int) > 0) = false := decide_eq_false (by omega)
  have hlt : 8 * l.length < 256 ^ p := by
    rcases Nat.lt_or_ge (8 * l.length) (256 ^ p) with h | h
    · exact h
    · have := Nat.div_pos h (Nat.pow_pos (by decide)); omega
  have hLB := hte p hlt hp
  have m37 := x7 _ _ kst m36
  have t7 := t6.hx m7 rfl x7
  have rL : RB h7 (.slice (some ⟨kt, 0, none⟩) (64 * q) 257) (mV l) := by
    refine .inr ⟨⟨kt, 0, none⟩, 257, by rw [hle], ?_, by omega⟩
    refine yF m77 ?_ (by rw [List.length_map])
    rw [hle, List.drop_zero, qZ8, ← List.map_take, hLB]
  have slL : SL h7 (.slice (some ⟨kt, 0, none⟩) (64 * q) 257) := fun ad n c e => by cases e; exact .inr (.inl (by omega))
  generalize hLL : mV l = LB at *
  refine qJ ?_; repeat' (first | (with_reducible first | apply qK | apply qS) | ((with_reducible first | apply qI | apply qB | apply qR | apply xT) <;> try simp only [qN, qC, qE, qG, qD, qA, qF, seval, qQ, qO, qP, wW, d4]))
  refine xR [2, 3] (fun (y : Nat × (Option Addr × Nat)) => [(6, .slice y.2.1 (LB.drop (64 * y.1)).length y.2.2)]) (fun z y h' => q - y.1 = z ∧ y.1 ≤ q ∧ HX ks h7 h' ∧ h' ks = some ⟨(qP1 S1 LB y.1).cs, 0, true, false⟩ ∧ RB h' (.slice y.2.1 (LB.drop (64 * y.1)).length y.2.2) (LB.drop (64 * y.1)) ∧ SL h' (.slice y.2.1 (LB.drop (64 * y.1)).length y.2.2)) q (0, some ⟨kt, 0, none⟩, 257) (by simp [lk, hle]) ⟨rfl, by omega, HX.refl _ _, m37, by simpa [hle] using rL, by simpa [hle] using slL⟩ ?_
  rintro _ ⟨j, a8, c8⟩ h8 ⟨rfl, hj8, x8, m8, r8, sl8⟩
  simp only at hj8 m8 r8 sl8
  have t8 := t7.hx m37 rfl x8
  have hd8 : (LB.drop (64 * j)).length = LB.length - 64 * j := List.length_drop
  by_cases hjl : j < q
  case pos =>
    have d5 : decide (((LB.drop (64 * j)).length : Int) > 0) = true := decide_eq_true (by omega)
    refine qJ ?_; repeat' (first | (with_reducible first | apply qK | apply qS) | ((with_reducible first | apply qI | apply qB | apply qR | apply qT) <;> try simp only [qN, qC, qE, qG, qD, qA, qF, seval, qQ, qO, qP, wW, d5]))
    refine (c_take N t8.k m8 r8 (by omega) (by omega)).mono ?_
    rintro _ h9 ⟨m9, x9⟩
    obtain ⟨a9, c9, q9, r9, sl9⟩ := RB.behind (P := Tryz.prog) (r8.hx m8 (by rfl) x9) (sl8.hx m8 rfl x9) Tryz.underlying22 sH (lo := 64) (by omega) .i64
    rw [show ((64 : Nat) : Int) = 64 from rfl] at q9
    refine qJ ?_; repeat' (first | ((with_reducible first | apply qI | apply qB) <;> try simp only [qN, qC, qE, qG, qD, qA, qF, seval, qQ, qO, qP, wW, q9]))
    rw [List.drop_drop, show 64 * j + 64 = 64 * (j + 1) by omega] at r9 sl9
    refine ⟨_, (j + 1, a9, c9), by omega, ?_, rfl, by omega, x8.trans x9, m9, r9, sl9⟩
    rw [show 64 * (j + 1) = 64 * j + 64 by omega, ← List.drop_drop]
    exact (by simp only [List.forall_mem_cons, List.not_mem_nil, false_implies, implies_true, List.map, List.cons_append, List.nil_append, lk, Nat.reduceEqDiff, reduceIte, and_true, true_and])
  have d5 : decide (((LB.drop (64 * j)).length : Int) > 0) = false := decide_eq_false (by omega)
  obtain rfl : j = q := by omega
  rw [← hsu] at m8
  refine qJ ?_; repeat' (first | with_reducible apply qK | ((with_reducible first | apply qI | apply qB | apply qR | apply xT) <;> try simp only [qN, qC, qE, qG, qD, qA, qF, seval, qQ, qO, qP, wW, d5]))
  refine zB3 (n := 32) vA (by decide) fun ko h9 m9 s9 f9 n9 => ?_
  have m89 := s9 _ _ m8
  have ksko : ks ≠ ko := yA m8 n9
  have m90 : h9 ko = some ⟨zA3 32 (fun _ => 0), 1, true, false⟩ := m9
  refine qJ ?_; repeat' (first | (with_reducible first | apply qK | apply qS) | ((with_reducible first | apply qI | apply qB) <;> try simp only [qN, qC, qE, qG, qD, qA, qF, seval, qQ, qO, qP, wW]))
  refine xR [2, 3, 9, 58] (fun (i : Nat) => [(59, .int .i64 (i : Int))]) (fun z i h' => 32 - i = z ∧ i ≤ 32 ∧ HX ko h9 h' ∧ h' ko = some ⟨zA3 32 (fun j => if j < i then ob (sZ l) j else 0), 1, true, false⟩) 32 0 (by simp [lk]) ⟨rfl, by omega, HX.refl _ _, m90⟩ ?_
  rintro _ i h10 ⟨rfl, hi, x10, m10⟩
  have ms10 := x10 _ _ ksko m89
  by_cases hil : i < 32
  case neg =>
    have d6 : decide ((i : Int) < 32) = false := decide_eq_false (by omega)
    obtain rfl : i = 32 := by omega
    refine qJ ?_; repeat' (first | with_reducible apply qK | ((with_reducible first | apply qI | apply qB | apply qR | apply xT | apply qM) <;> try simp only [qN, qC, qE, qG, qD, qA, qF, seval, qQ, qO, qP, wW, d6]))
    have S3 : HS h h3 := x3.new s2 n1
    have S7 : HS h h7 := x7.new (S3.trans s6) (S3.none_of n4)
    have S8 : HS h h8 := x8.new S7 n1
    have S10 : HS h h10 := x10.new (S8.trans s9) (S8.none_of n9)
    refine ⟨S10, _, _, rfl, ?_⟩
    have e : zA3 32 (fun j => if j < 32 then ob (sZ l) j else 0) = (qP2 l).map bv := by
      rw [qP2, outB, ← qZ8]
      exact qO8 fun j hj => by
        show bv (if j < 32 then ob (sZ l) j else 0) = _
        rw [if_pos hj]
    rw [e] at m10
    exact yN m10 (fU l).symm
  have d6 : decide ((i : Int) < 32) = true := decide_eq_true (by omega)
  have wi : IntKind.i64.wrap ((i : Int) + 1) = ((i + 1 : Nat) : Int) := by rw [wrap64 (by omega) (by omega)]; omega
  have w4' : IntKind.i64.wrap (Int.tdiv (i : Int) 4) = ((i / 4 : Nat) : Int) := by
    rw [show (4 : Int) = ((4 : Nat) : Int) from rfl, kD]
    exact wrap64 (by omega) (by omega)
  have w5' : Int.tmod (i : Int) 4 = ((i % 4 : Nat) : Int) := by rw [show (4 : Int) = ((4 : Nat) : Int) from rfl, ← Int.ofNat_tmod]
  have w6' : IntKind.i64.wrap (3 - ((i % 4 : Nat) : Int)) = ((3 - i % 4 : Nat) : Int) := by rw [wrap64 (by omega) (by omega)]; omega
  have w7' : IntKind.i64.wrap (8 * ((3 - i % 4 : Nat) : Int)) = ((8 * (3 - i % 4) : Nat) : Int) := by rw [wrap64 (by omega) (by omega)]; omega
  have gi8 := qW4 (k := ks) (j := i / 4) (by omega)
  have gs := S8.get (sZ l) (i := i / 4) (by omega)
  have bs := dQ ((sZ l).at (i / 4)) (k := 8 * (3 - i % 4)) (by omega)
  have bt : (((sZ l).at (i / 4)) >>> (8 * (3 - i % 4))).toNat = ((sZ l).at (i / 4)).toNat / 2 ^ (8 * (3 - i % 4)) := by rw [BitVec.toNat_ushiftRight, Nat.shiftRight_eq_div_pow]
  rw [bt] at bs
  have bu := uN (((sZ l).at (i / 4)).toNat / 2 ^ (8 * (3 - i % 4)))
  have go := kR (P := Tryz.prog) (t := 22) (k := ko) (n := 32) (c := 65) (i := i) Tryz.underlying22 sH hil
  rw [Nat.mul_one] at go
  refine qJ ?_; repeat' (first | (with_reducible first | apply qK | apply qS) | ((with_reducible first | apply qI | apply qB | apply qR | apply qT) <;> try simp only [qN, qC, qE, qG, qD, qA, qF, seval, qQ, qO, qP, wW, d6, w4', w5', w6', w7', gi8, qH ms10 xM, gs, vw, bs, bu, go, Int.toNat_natCast]))
  refine ⟨by omega, ?_⟩
  refine qJ ?_; repeat' (first | ((with_reducible apply qI) <;> try simp only [qN, qC, qE, qG, qD, qA, qF, seval, qQ, qO, qP, wW, d6, w4', w5', w6', w7', gi8, qH ms10 xM, gs, vw, bs, bu, go, Int.toNat_natCast]))
  refine zW m10 sH rfl (by rw [vB]; omega) rfl rfl fun h11 m11 f11 => ?_
  have m12 : h11 ko = some ⟨zA3 32 (fun j => if j < i + 1 then ob (sZ l) j else 0), 1, true, false⟩ := by
    rw [← qZ7 (fun j => if j < i then ob (sZ l) j else 0) (i := i) (x := ob (sZ l) i) _ (fun j _ => ?_)]
    · exact m11
    · by_cases e : j = i
      · subst e; rw [if_pos rfl, if_pos (by omega)]
      · rw [if_neg e]
        by_cases h : j < i
        · rw [if_pos h, if_pos (by omega)]
        · rw [if_neg h, if_neg (by omega)]
  refine qJ ?_; repeat' (first | ((with_reducible first | apply qI | apply qB) <;> try simp only [qN, qC, qE, qG, qD, qA, qF, seval, qQ, qO, qP, wW, wi]))
  exact ⟨_, i + 1, by omega, (by simp only [List.forall_mem_cons, List.not_mem_nil, false_implies, implies_true, List.map, List.cons_append, List.nil_append, lk, Nat.reduceEqDiff, reduceIte, and_true, true_and]), rfl, by omega, x10.trans (zH f11), m12⟩
theorem c_Cut (N : Nat) {h : GH} (t : TK h) {a : Option Addr} {n c : Nat} {l : List UInt8} (r : RB h (.slice a n c) l) (sl : SL h (.slice a n c)) (hb : l.length ≤ 140737488351232) (k : Int) : GTri Tryz.prog N 12 [.int .i64 k, .slice a n c] h fun v h' => HS h h' ∧ ∃ a c, v = .slice a (vS k l).length c ∧ RB h' (.slice a (vS k l).length c) (vS k l) ∧ SL h' (.slice a (vS k l).length c) := by
  have mm : (if (32 : Int) < (if (0 : Int) > k then (0 : Int) else k) then (32 : Int) else (if (0 : Int) > k then (0 : Int) else k)) = (((min (max k 0) 32).toNat : Nat) : Int) := by split <;> split <;> omega
  have hm : (min (max k 0) 32).toNat ≤ 32 := by omega
  have hc : vS k l = (qP2 l).take (min (max k 0) 32).toNat := rfl
  generalize (min (max k 0) 32).toNat = m at mm hm hc
  refine zU Tryz.func12 rfl gf12 ok12 (by simp [Tryz.ntmps12]) ?_
  repeat' (first | with_reducible apply qK | ((with_reducible apply qB) <;> try simp only [qN, qC, qE, qG, qD, qA, qF, seval, qQ, qO, qP, qT0, mm]))
  refine (c_Sum N t r sl hb).mono ?_
  rintro _ h1 ⟨s1, a1, c1, rfl, r1⟩
  obtain ⟨a2, c2, q2, r2, sl2, _⟩ := RB.cut3 (P := Tryz.prog) r1 Tryz.underlying22 sH (hi := m) (by rw [fU]; omega) .i64
  have e : m = (vS k l).length := by rw [hc, List.length_take, fU]; omega
  refine qJ ?_; repeat' (first | ((with_reducible first | apply qI | apply qM) <;> try simp only [qN, qC, qE, qG, qD, qA, qF, seval, qQ, qO, qP, qT0, q2]))
  rw [← hc] at r2
  rw [← e]
  exact ⟨s1, a2, c2, rfl, r2, sl2⟩
theorem qS6 : type_of% (And.intro kB (And.intro xB rs141)) := And.intro kB (And.intro xB rs141)
def qC3 : Nat → List (Nat × List Nat) × List Nat
  | 1 => ([(0, []), (1, []), (2, []), (3, []), (4, []), (5, []), (6, []), (7, []), (8, [])], [0, 0, 3, 0, 0, 16, 56, 127, 255])
  | _ => ([], [])
theorem zS5 : type_of% (And.intro qJ4 (And.intro zF (And.intro kB (And.intro wF rs140)))) := And.intro qJ4 (And.intro zF (And.intro kB (And.intro wF rs140)))
def qR1 : Nat → List (Nat × List Nat) × List Nat
  | 1 => ([(0, []), (1, []), (2, []), (3, []), (4, []), (5, []), (6, []), (7, []), (8, []), (9, []), (10, []), (11, []), (12, []), (13, []), (14, []), (15, []), (16, []), (17, []), (18, []), (19, []), (20, []), (21, []), (22, [])], [0, 1, 3, 7, 15, 0, 32, 96, 224, 480, 1023, 0, 2048, 6144, 14336, 30720, 65535, 0, 131072, 393216, 917504, 2097151, 4194303])
  | _ => ([], [])
theorem pX : type_of% (And.intro Tryz.underlying120 (And.intro kB (And.intro zM4 (And.intro xB rs142)))) := And.intro Tryz.underlying120 (And.intro kB (And.intro zM4 (And.intro xB rs142)))
def tI : Nat → List (Nat × List Nat) × List Nat
  | 1 => ([(0, []), (1, []), (3, []), (4, []), (7, []), (8, []), (2, [4, 8]), (5, [8]), (6, []), (9, []), (10, []), (11, [])], [0, 1, 3, 0, 8, 31, 63, 0, 128, 447, 1023, 2047])
  | 2 => ([(0, []), (1, []), (3, []), (4, []), (7, []), (8, []), (2, [4, 8]), (5, [8]), (6, []), (9, []), (10, []), (11, [])], [0, 1, 3, 0, 8, 31, 63, 0, 128, 447, 1023, 2047])
  | _ => ([], [])
theorem qE0 : type_of% (And.intro Tryz.underlying164 (And.intro kB (And.intro zM2 rs138))) := And.intro Tryz.underlying164 (And.intro kB (And.intro zM2 rs138))
theorem b32_not (x : W32) : bits .xor .u32 (if IntKind.u32.signed = true then -1 else IntKind.u32.max) (x.toNat : Int) = ((~~~x).toNat : Int) := by
  have e : (if IntKind.u32.signed = true then (-1 : Int) else IntKind.u32.max) = ((BitVec.allOnes 32).toNat : Int) := by decide
  rw [e, uJ, BitVec.allOnes_xor]
theorem ch_eq (e f g : W32) : e &&& f ^^^ ~~~e &&& g = e &&& (f ^^^ g) ^^^ g := by
  ext i hi
  simp only [BitVec.getElem_xor, BitVec.getElem_and, BitVec.getElem_not]
  cases e[i] <;> cases f[i] <;> cases g[i] <;> rfl
theorem maj_eq (a b c : W32) : a &&& b ^^^ a &&& c ^^^ b &&& c = a &&& (b ||| c) ||| b &&& c := by
  ext i hi
  simp only [BitVec.getElem_xor, BitVec.getElem_and, BitVec.getElem_or]
  cases a[i] <;> cases b[i] <;> cases c[i] <;> rfl
def rnd2 (s : S8) (k : W32) : S8 :=
  ⟨s.h + sg s.e 6 11 25 + (s.e &&& s.f ^^^ ~~~s.e &&& s.g) + k + sg s.a 2 13 22 + (s.a &&& s.b ^^^ s.a &&& s.c ^^^ s.b &&& s.c), s.a, s.b, s.c, s.d + (s.h + sg s.e 6 11 25 + (s.e &&& s.f ^^^ ~~~s.e &&& s.g) + k), s.e, s.f, s.g⟩
theorem zN0 (s : S8) (k w : W32) : rnd2 s (k + w) = rnd s k w := by
  unfold rnd2 rnd
  rw [ch_eq, maj_eq]
  simp only [BitVec.add_assoc]
theorem fP (N : Nat) (h : GH) (x : W32) {a : Nat} (h1 : 1 ≤ a) (ha : a ≤ 31) : GTri Tryz.prog N 141 [vw x, .int .i64 a] h fun v h' => v = vw (uD x a) ∧ h' = h := by
  have w1 : IntKind.i64.wrap (32 - (a : Int)) = ((32 - a : Nat) : Int) := by rw [wrap64 (by omega) (by omega)]; omega
  have b1 := dQ x ha
  have b2 := mO x (k := 32 - a) (by omega)
  have b3 := qO7 (x >>> a) (x <<< (32 - a))
  have e : x >>> a ||| x <<< (32 - a) = uD x a := by rw [uD, BitVec.or_comm]
  rw [e] at b3
  refine zU Tryz.func141 rfl gf141 ok141 (by simp [Tryz.ntmps141]) ?_
  repeat' (first | with_reducible apply qK | ((first | (with_reducible apply qB) | with_reducible refine zE qC3 xC (by kernel_rfl) ?_) <;> try simp only [qN, qC, qE, qG, qD, qA, qF, seval, qQ, qO, qP, qL, qY, qZ, zC, qS6, qC3, vw, w1, b1, b2, b3, Int.toNat_natCast]))
  refine ⟨by omega, by omega, ?_⟩
  refine qJ ?_; repeat' (first | ((with_reducible first | apply qI | apply qM) <;> try simp only [qN, qC, qE, qG, qD, qA, qF, seval, qQ, qO, qP, qL, qY, qZ, zC, qS6, qC3]))
theorem w8_nat (x : W32) (y : UInt8) : (w8 x y).toNat = (x.toNat * 256 + y.toNat) % 4294967296 := by
  have hy := y.toNat_lt
  unfold w8
  rw [BitVec.toNat_or, BitVec.toNat_shiftLeft, BitVec.toNat_ofNat, Nat.mod_eq_of_lt (a := y.toNat) (by omega)]
  rw [show x.toNat <<< 8 % 2 ^ 32 = (x.toNat % 2 ^ 24) <<< 8 by rw [Nat.shiftLeft_eq, Nat.shiftLeft_eq]; omega]
  rw [← Nat.shiftLeft_add_eq_or_of_lt (by omega), Nat.shiftLeft_eq]
  omega
def qQ2 (a b c d : UInt8) : W32 := [a, b, c, d].foldl w8 0
theorem word4_eq (a b c d : UInt8) : BitVec.ofNat 32 a.toNat <<< 24 + BitVec.ofNat 32 b.toNat <<< 16 + BitVec.ofNat 32 c.toNat <<< 8 + BitVec.ofNat 32 d.toNat = qQ2 a b c d := by
  have ha := a.toNat_lt
  have hb := b.toNat_lt
  have hc := c.toNat_lt
  have hd := d.toNat_lt
  apply BitVec.eq_of_toNat_eq
  simp only [qQ2, List.foldl_cons, List.foldl_nil, w8_nat, BitVec.toNat_add, BitVec.toNat_shiftLeft, BitVec.toNat_ofNat, Nat.shiftLeft_eq]
  omega
theorem c_word (N : Nat) (h : GH) {p : Option Addr} {n m : Nat} {l : List UInt8} (r : RB h (.slice p n m) l) {a b c d : UInt8} (ea : l[0]? = some a) (eb : l[1]? = some b) (ec : l[2]? = some c) (ed : l[3]? = some d) : GTri Tryz.prog N 140 [.slice p n m] h fun v h' => v = vw (qQ2 a b c d) ∧ h' = h := by
  obtain ⟨p0, g0, l0⟩ := RB.at (P := Tryz.prog) r Tryz.underlying22 sH ea
  obtain ⟨p1, g1, l1⟩ := RB.at (P := Tryz.prog) r Tryz.underlying22 sH eb
  obtain ⟨p2, g2, l2⟩ := RB.at (P := Tryz.prog) r Tryz.underlying22 sH ec
  obtain ⟨p3, g3, l3⟩ := RB.at (P := Tryz.prog) r Tryz.underlying22 sH ed
  replace g0 : zJ Tryz.prog 22 (.slice p n m) 0 = some p0 := g0
  replace g1 : zJ Tryz.prog 22 (.slice p n m) 1 = some p1 := g1
  replace g2 : zJ Tryz.prog 22 (.slice p n m) 2 = some p2 := g2
  replace g3 : zJ Tryz.prog 22 (.slice p n m) 3 = some p3 := g3
  have cv : ∀ y : UInt8, IntKind.u32.wrap (y.toNat : Int) = ((BitVec.ofNat 32 y.toNat).toNat : Int) := fun y => by rw [sK, BitVec.toNat_ofNat]
  have sa := mO (BitVec.ofNat 32 a.toNat) (k := 24) (by omega)
  have sb := mO (BitVec.ofNat 32 b.toNat) (k := 16) (by omega)
  have sc := mO (BitVec.ofNat 32 c.toNat) (k := 8) (by omega)
  have a1 := xQ (BitVec.ofNat 32 a.toNat <<< 24) (BitVec.ofNat 32 b.toNat <<< 16)
  have a2 := xQ (BitVec.ofNat 32 a.toNat <<< 24 + BitVec.ofNat 32 b.toNat <<< 16) (BitVec.ofNat 32 c.toNat <<< 8)
  have a3 := xQ (BitVec.ofNat 32 a.toNat <<< 24 + BitVec.ofNat 32 b.toNat <<< 16 + BitVec.ofNat 32 c.toNat <<< 8) (BitVec.ofNat 32 d.toNat)
  rw [word4_eq] at a3
  have ca := cv a
  have cb := cv b
  have cc := cv c
  have cd := cv d
  generalize BitVec.ofNat 32 a.toNat = A at *
  generalize BitVec.ofNat 32 b.toNat = B at *
  generalize BitVec.ofNat 32 c.toNat = C at *
  generalize BitVec.ofNat 32 d.toNat = D at *
  refine zU Tryz.func140 rfl gf140 ok140 (by simp [Tryz.ntmps140]) ?_
  repeat' (first | with_reducible apply qK | ((first | (with_reducible first | apply qB | apply qM) | with_reducible refine zE qR1 xC (by kernel_rfl) ?_) <;> try simp only [qN, qC, qE, qG, qD, qA, qF, seval, qQ, qO, qP, qL, qY, qZ, zC, zS5, qR1, g0, g1, g2, g3, l0, l1, l2, l3, bv, ca, cb, cc, cd, sa, sb, sc, a1, a2, a3, vw]))
theorem yZ {k j : Nat} (h : j < 8) : zJ Tryz.prog 120 (.pointer (some ⟨k, 0, none⟩)) (j : Int) = some (.pointer (some ⟨k, j, none⟩)) := by
  simp [zJ, Tryz.underlying120, xM]; omega
theorem zP3 (N : Nat) (h : GH) (s : S8) (k : W32) : GTri Tryz.prog N 142 [.agg s.cs.toArray, vw k] h fun v h' => HS h h' ∧ v = .agg (rnd2 s k).cs.toArray := by
  obtain ⟨sa, sb, sc, sd, se, sf, sg', sh⟩ := s
  have ra := fun hh => fP N hh sa (a := 2) (by omega) (by omega)
  have rb := fun hh => fP N hh sa (a := 13) (by omega) (by omega)
  have rc := fun hh => fP N hh sa (a := 22) (by omega) (by omega)
  have rd := fun hh => fP N hh se (a := 6) (by omega) (by omega)
  have re := fun hh => fP N hh se (a := 11) (by omega) (by omega)
  have rf := fun hh => fP N hh se (a := 25) (by omega) (by omega)
  have b1 := uJ (uD sa 2) (uD sa 13)
  have b2 := uJ (uD sa 2 ^^^ uD sa 13) (uD sa 22)
  have b3 := uJ (uD se 6) (uD se 11)
  have b4 := uJ (uD se 6 ^^^ uD se 11) (uD se 25)
  rw [show uD sa 2 ^^^ uD sa 13 ^^^ uD sa 22 = sg sa 2 13 22 from rfl] at b2
  rw [show uD se 6 ^^^ uD se 11 ^^^ uD se 25 = sg se 6 11 25 from rfl] at b4
  have b5 := tA se sf
  have b6 := tA (~~~se) sg'
  have bn := b32_not se
  have b7 := uJ (se &&& sf) (~~~se &&& sg')
  have b8 := tA sa sb
  have b9 := tA sa sc
  have b10 := tA sb sc
  have b11 := uJ (sa &&& sb) (sa &&& sc)
  have b12 := uJ (sa &&& sb ^^^ sa &&& sc) (sb &&& sc)
  have b13 := xQ sh (sg se 6 11 25)
  have b14 := xQ (sh + sg se 6 11 25) (se &&& sf ^^^ ~~~se &&& sg')
  have b15 := xQ (sh + sg se 6 11 25 + (se &&& sf ^^^ ~~~se &&& sg')) k
  have b16 := xQ (sh + sg se 6 11 25 + (se &&& sf ^^^ ~~~se &&& sg') + k) (sg sa 2 13 22)
  have b17 := xQ (sh + sg se 6 11 25 + (se &&& sf ^^^ ~~~se &&& sg') + k + sg sa 2 13 22) (sa &&& sb ^^^ sa &&& sc ^^^ sb &&& sc)
  have b18 := xQ sd (sh + sg se 6 11 25 + (se &&& sf ^^^ ~~~se &&& sg') + k)
  refine zU Tryz.func142 rfl gf142 ok142 (by simp [Tryz.ntmps142]) ?_
  repeat' (first | with_reducible apply qK | ((with_reducible apply qB) <;> try simp only [qN, qC, qE, qG, qD, qA, qF, seval, qQ, qO, qP, qL, qY, qZ, zC, pX, tI, S8.cs]))
  refine wP rfl fun k1 h1 m1 s1 f1 n1 => ?_
  refine qJ ?_; repeat' (first | ((with_reducible apply qI) <;> try simp only [qN, qC, qE, qG, qD, qA, qF, seval, qQ, qO, qP, qL, qY, qZ, zC, pX, tI]))
  refine xE fun k2 h2 m2 s2 f2 n2 => ?_
  have m12 := s2 _ _ m1
  have i0 : zJ Tryz.prog 120 (.pointer (some ⟨k1, 0, none⟩)) 0 = _ := yZ (k := k1) (j := 0) (by decide)
  have i1 : zJ Tryz.prog 120 (.pointer (some ⟨k1, 0, none⟩)) 1 = _ := yZ (k := k1) (j := 1) (by decide)
  have i2 : zJ Tryz.prog 120 (.pointer (some ⟨k1, 0, none⟩)) 2 = _ := yZ (k := k1) (j := 2) (by decide)
  have i3 : zJ Tryz.prog 120 (.pointer (some ⟨k1, 0, none⟩)) 3 = _ := yZ (k := k1) (j := 3) (by decide)
  have i4 : zJ Tryz.prog 120 (.pointer (some ⟨k1, 0, none⟩)) 4 = _ := yZ (k := k1) (j := 4) (by decide)
  have i5 : zJ Tryz.prog 120 (.pointer (some ⟨k1, 0, none⟩)) 5 = _ := yZ (k := k1) (j := 5) (by decide)
  have i6 : zJ Tryz.prog 120 (.pointer (some ⟨k1, 0, none⟩)) 6 = _ := yZ (k := k1) (j := 6) (by decide)
  have i7 : zJ Tryz.prog 120 (.pointer (some ⟨k1, 0, none⟩)) 7 = _ := yZ (k := k1) (j := 7) (by decide)
  refine qJ ?_; repeat' (first | with_reducible apply qK | ((first | (with_reducible first | apply qI | apply qB) | with_reducible refine zE tI xC (by kernel_rfl) ?_ | ((refine GTri.mono (ra _) ?_); rintro _ _ ⟨rfl, hh9⟩; replace hh9 := hh9.symm; subst hh9) | ((refine GTri.mono (rb _) ?_); rintro _ _ ⟨rfl, hh9⟩; replace hh9 := hh9.symm; subst hh9) | ((refine GTri.mono (rc _) ?_); rintro _ _ ⟨rfl, hh9⟩; replace hh9 := hh9.symm; subst hh9) | ((refine GTri.mono (rd _) ?_); rintro _ _ ⟨rfl, hh9⟩; replace hh9 := hh9.symm; subst hh9) | ((refine GTri.mono (re _) ?_); rintro _ _ ⟨rfl, hh9⟩; replace hh9 := hh9.symm; subst hh9) | ((refine GTri.mono (rf _) ?_); rintro _ _ ⟨rfl, hh9⟩; replace hh9 := hh9.symm; subst hh9)) <;> try simp only [qN, qC, qE, qG, qD, qA, qF, seval, qQ, qO, qP, qL, qY, qZ, zC, pX, tI, i0, i1, i2, i3, i4, i5, i6, i7, qH m12 xM, vw, bn, b1, b2, b3, b4, b5, b6, b7, b8, b9, b10, b11, b12, b13, b14, b15, b16, b17, b18, xP, xZ, vY, Shape.pl, List.all_cons, List.all_nil, zK]))
  refine xY m2 tK rfl (by decide) rfl rfl rfl fun h3 m3 f3 => ?_
  refine qJ ?_; repeat' (first | ((with_reducible first | apply qI | apply qM) <;> try simp only [qN, qC, qE, qG, qD, qA, qF, seval, qQ, qO, qP, qL, qY, qZ, zC, pX, tI, zI m3 tK rfl]))
  exact ⟨s1.trans ((HS.refl _).upd n2 fun j hj => (f3 j hj).trans (f2 j hj)), rfl⟩
theorem c_adds (N : Nat) (h : GH) : GTri Tryz.prog N 138 [] h fun v h' => HS h h' ∧ v = .agg (qG1 kW).toArray := by
  have e : qG1 kW = kT.map fun z => Value.int .u32 z := by
    apply List.ext_getElem?
    intro i
    by_cases hi : i < 64
    · rw [dK _ hi, kT_at hi]
    · rw [List.getElem?_eq_none (by rw [vB]; omega), List.getElem?_eq_none (by rw [List.length_map]; exact Nat.le_of_not_lt hi)]
  rw [e]
  refine zU Tryz.func138 rfl gf138 ok138 (by simp [Tryz.ntmps138]) ?_
  repeat' (first | with_reducible apply qK | ((with_reducible apply qB) <;> try simp only [qN, qC, qE, qG, qD, qA, qF, seval, qQ, qO, qP, qE0, xP, xZ, vY, Shape.pl, List.all_cons, List.all_nil, zK]))
  refine xE fun k1 h1 m1 s1 f1 n1 => ?_
  refine qJ ?_; repeat' (first | with_reducible apply qK | ((with_reducible first | apply qI | apply qB) <;> try simp only [qN, qC, qE, qG, qD, qA, qF, seval, qQ, qO, qP, qE0, xP, xZ, vY, Shape.pl, List.all_cons, List.all_nil, zK]))
  refine xY m1 zM6 rfl (by decide) rfl rfl rfl fun h2 m2 f2 => ?_
  refine qJ ?_; repeat' (first | ((with_reducible first | apply qI | apply qM) <;> try simp only [qN, qC, qE, qG, qD, qA, qF, seval, qQ, qO, qP, qE0, zI m2 zM6 rfl]))
  exact ⟨(HS.refl _).upd n1 fun j hj => (f2 j hj).trans (f1 j hj), rfl⟩
theorem qU0 (N : Nat) (h : GH) (n : Nat) (hn : n ≤ 1152921504606846976) : GTri Tryz.prog N 139 [.int .i64 n] h fun v h' => v = .int .i64 (vR n : Int) ∧ h' = h := by
  have d0 : decide ((n : Int) < 0) = false := decide_eq_false (by omega)
  have w1 : IntKind.i64.wrap (Int.tdiv (n : Int) 64) = ((n / 64 : Nat) : Int) := by
    rw [show (64 : Int) = ((64 : Nat) : Int) from rfl, kD]
    exact wrap64 (by omega) (by omega)
  have w2 : Int.tmod (n : Int) 64 = ((n % 64 : Nat) : Int) := by rw [show (64 : Int) = ((64 : Nat) : Int) from rfl, ← Int.ofNat_tmod]
  have w3 : IntKind.i64.wrap (((n % 64 : Nat) : Int) + 9) = ((n % 64 + 9 : Nat) : Int) := by rw [wrap64 (by omega) (by omega)]; omega
  have w4 : IntKind.i64.wrap (((n % 64 + 9 : Nat) : Int) + 63) = ((n % 64 + 72 : Nat) : Int) := by rw [wrap64 (by omega) (by omega)]; omega
  have w5 : IntKind.i64.wrap (Int.tdiv ((n % 64 + 72 : Nat) : Int) 64) = (((n % 64 + 72) / 64 : Nat) : Int) := by
    rw [show (64 : Int) = ((64 : Nat) : Int) from rfl, kD]
    exact wrap64 (by omega) (by omega)
  have w6 : IntKind.i64.wrap (((n / 64 : Nat) : Int) + (((n % 64 + 72) / 64 : Nat) : Int)) = (vR n : Int) := by unfold vR; rw [wrap64 (by omega) (by omega)]; omega
  refine zU Tryz.func139 rfl gf139 ok139 (by simp [Tryz.ntmps139]) ?_
  repeat' (first | with_reducible apply qK | ((with_reducible first | apply qB | apply qR | apply qT | apply qM) <;> try simp only [qN, qC, qE, qG, qD, qA, qF, seval, qQ, qO, qP, xB, rs139, d0, w1, w2, w3, w4, w5, w6]))
  all_goals trace_state
def qI1 (l : List UInt8) : Nat := 64 * vR l.length - l.length - 9
def zB0 (l : List UInt8) : List UInt8 := l ++ 128 :: List.replicate (qI1 l) 0 ++ be8 l.length
theorem zI1 (n : Nat) : n + 9 ≤ 64 * vR n ∧ 64 * vR n ≤ n + 72 := by unfold vR; omega
theorem padB_len (l : List UInt8) : (zB0 l).length = 64 * vR l.length := by
  have := zI1 l.length
  simp only [zB0, qI1, List.length_append, List.length_cons, List.length_replicate, be8, vB]; omega
theorem padB_eq (l : List UInt8) : zB0 l = l.take (64 * (l.length / 64)) ++ mV l := by
  have h := qL2 l.length
  have h2 := zI1 l.length
  unfold zB0 mV qI1
  rw [show 64 * (vR l.length - l.length / 64) - l.length % 64 - 9 = 64 * vR l.length - l.length - 9 by omega]
  rw [← List.append_assoc, ← List.append_assoc, List.take_append_drop]
theorem qT5 (s : S8) (l : List UInt8) : qP9 s (l.take 64) = qP9 s l := by
  unfold qP9
  congr 2
  funext i
  congr 1
  funext j
  exact acc_take j
theorem qY6 {A B : List UInt8} {n i : Nat} (h : A.take (64 * n) = B.take (64 * n)) (hi : i < n) : (A.drop (64 * i)).take 64 = (B.drop (64 * i)).take 64 := by
  have e : ∀ X : List UInt8, (X.drop (64 * i)).take 64 = ((X.take (64 * n)).drop (64 * i)).take 64 := fun X => by
    rw [List.drop_take, List.take_take, Nat.min_eq_left (by omega)]
  rw [e A, e B, h]
theorem qT3 (s : S8) {A B : List UInt8} : ∀ n, A.take (64 * n) = B.take (64 * n) → qP1 s A n = qP1 s B n
  | 0, _ => rfl
  | n + 1, h => by
    have h' : A.take (64 * n) = B.take (64 * n) := by
      have := congrArg (List.take (64 * n)) h
      rwa [List.take_take, List.take_take, Nat.min_eq_left (by omega)] at this
    rw [qP1, qP1, qT3 s n h', ← qT5, qY6 h (Nat.lt_succ_self n), qT5]
theorem zO9 (s : S8) {A B : List UInt8} {q : Nat} (hA : A.length = 64 * q) : ∀ j, qP1 s (A ++ B) (q + j) = qP1 (qP1 s (A ++ B) q) B j
  | 0 => rfl
  | j + 1 => by
    show qP9 (qP1 s (A ++ B) (q + j)) ((A ++ B).drop (64 * (q + j))) = qP9 (qP1 (qP1 s (A ++ B) q) B j) (B.drop (64 * j))
    rw [zO9 s hA j, List.drop_append, List.drop_of_length_le (by omega), hA, show 64 * (q + j) - 64 * q = 64 * j by omega, List.nil_append]
theorem sumS_pad (l : List UInt8) : qP1 s0 (zB0 l) (vR l.length) = sZ l := by
  have h := qL2 l.length
  have hA : (l.take (64 * (l.length / 64))).length = 64 * (l.length / 64) := by rw [List.length_take]; omega
  rw [padB_eq, sZ]
  rw [show vR l.length = l.length / 64 + (vR l.length - l.length / 64) by omega, zO9 s0 hA]
  rw [qT3 s0 (B := l) (l.length / 64) (by rw [List.take_append_of_le_length (by omega), List.take_take, Nat.min_self])]
  rw [show l.length / 64 + (vR l.length - l.length / 64) - l.length / 64 = vR l.length - l.length / 64 by omega]
theorem acc_word {l : List UInt8} {j : Nat} (hj : j < 16) {a b c d : UInt8} (ea : l[4 * j]? = some a) (eb : l[4 * j + 1]? = some b) (ec : l[4 * j + 2]? = some c) (ed : l[4 * j + 3]? = some d) : rM l 64 j = qQ2 a b c d := by
  have hd := (List.getElem?_eq_some_iff.1 ed).1
  unfold rM qQ2
  congr 1
  apply List.ext_getElem?
  intro i
  by_cases hi : i < 4
  · rw [List.getElem?_take, if_pos hi, List.getElem?_drop, List.getElem?_take, if_pos (by omega)]
    rcases i with _ | _ | _ | _ | i
    · rw [Nat.add_zero, ea]; rfl
    · rw [eb]; rfl
    · rw [ec]; rfl
    · rw [ed]; rfl
    · omega
  · rw [List.getElem?_eq_none (by rw [List.length_take]; omega), List.getElem?_eq_none (by simp; omega)]
theorem sch_ref {b : Nat → W32} {i : Nat} (h : ¬ i < 16) : jL b (i - 16) + gm (jL b (i - 15)) 7 18 3 + jL b (i - 7) + gm (jL b (i - 2)) 17 19 10 = jL b i := by
  rw [sch_ge h]
  generalize gm (jL b (i - 2)) 17 19 10 = A
  generalize gm (jL b (i - 15)) 7 18 3 = B
  generalize jL b (i - 7) = C
  generalize jL b (i - 16) = D
  rw [BitVec.add_comm D B, BitVec.add_comm _ A, ← BitVec.add_assoc, ← BitVec.add_assoc, BitVec.add_assoc A B D, BitVec.add_comm B D, BitVec.add_assoc, BitVec.add_assoc, BitVec.add_assoc, BitVec.add_assoc]
  congr 1
  rw [← BitVec.add_assoc, BitVec.add_comm D B]
  exact BitVec.add_comm _ _
theorem qW : type_of% (And.intro Tryz.underlying120 (And.intro Tryz.underlying164 (And.intro qJ5 (And.intro mH (And.intro mG (And.intro zF (And.intro kB (And.intro zM4 (And.intro qQ6 (And.intro zM2 (And.intro xB (And.intro wF rs107)))))))))))) := And.intro Tryz.underlying120 (And.intro Tryz.underlying164 (And.intro qJ5 (And.intro mH (And.intro mG (And.intro zF (And.intro kB (And.intro zM4 (And.intro qQ6 (And.intro zM2 (And.intro xB (And.intro wF rs107)))))))))))
def qU : Nat → List (Nat × List Nat) × List Nat
  | 21 => ([(0, []), (1, []), (2, []), (3, []), (4, []), (5, []), (6, []), (7, []), (8, []), (9, [])], [0, 1, 3, 7, 0, 16, 48, 112, 15, 511])
  | 22 => ([(0, []), (1, []), (2, []), (3, []), (4, []), (5, []), (7, []), (10, []), (11, []), (14, []), (15, []), (16, []), (17, []), (19, []), (21, []), (24, []), (25, []), (6, [4, 17]), (8, [4, 17]), (9, []), (12, []), (13, []), (18, []), (20, [4, 17]), (22, [4, 17]), (23, []), (26, []), (27, []), (28, []), (29, [])], [0, 0, 2, 6, 14, 0, 32, 0, 224, 480, 0, 1024, 4064, 8190, 0, 16384, 49152, 114688, 262142, 0, 524768, 0, 3670496, 7864800, 0, 16777216, 66585056, 134217726, 268435455, 536870911])
  | 23 => ([(0, []), (1, []), (2, []), (3, []), (4, []), (5, []), (6, []), (7, []), (8, []), (9, [])], [0, 0, 2, 6, 0, 16, 48, 126, 255, 511])
  | 28 => ([(0, []), (1, []), (2, []), (3, []), (4, []), (5, []), (6, []), (7, []), (8, [])], [0, 1, 3, 0, 8, 24, 63, 127, 255])
  | _ => ([], [])
theorem qS7 : type_of% (And.intro zF (And.intro xB (And.intro wF rs62))) := And.intro zF (And.intro xB (And.intro wF rs62))
theorem sM {k j : Nat} (h : j < 64) : zJ Tryz.prog 164 (.pointer (some ⟨k, 0, none⟩)) (j : Int) = some (.pointer (some ⟨k, j, none⟩)) := by
  simp [zJ, Tryz.underlying164, xM]; omega
theorem zH1 {α : Type} (f : Nat → α) (i : Nat) : arr (4 * i) f ++ [f (4 * i), f (4 * i + 1), f (4 * i + 2), f (4 * i + 3)] = arr (4 * (i + 1)) f := by
  unfold arr
  rw [show 4 * (i + 1) = 4 * i + 1 + 1 + 1 + 1 by omega, List.range_succ, List.range_succ, List.range_succ, List.range_succ]
  simp
theorem c_rSum (N : Nat) {h : GH} {a : Option Addr} {n c : Nat} {l : List UInt8} (r : RB h (.slice a n c) l) (hb : l.length ≤ 35184372088832) : GTri Tryz.prog N 107 [.slice a n c] h fun v h' => HS h h' ∧ ∃ a c, v = .slice a 32 c ∧ RB h' (.slice a 32 c) (qP2 l) := by
  obtain rfl := r.len_eq
  have hnb := zI1 l.length
  have hpl := padB_len l
  have hps := sumS_pad l
  have hpz : qI1 l = 64 * vR l.length - l.length - 9 := rfl
  have hpe : zB0 l = l ++ 128 :: List.replicate (qI1 l) 0 ++ be8 l.length := rfl
  have w1 : IntKind.i64.wrap (64 * (vR l.length : Int)) = ((64 * vR l.length : Nat) : Int) := by rw [wrap64 (by omega) (by omega)]; omega
  have w2 : IntKind.i64.wrap (((64 * vR l.length : Nat) : Int) - 8) = ((64 * vR l.length - 8 : Nat) : Int) := by rw [wrap64 (by omega) (by omega)]; omega
  have w3 : IntKind.i64.wrap (8 * (l.length : Int)) = ((8 * l.length : Nat) : Int) := by rw [wrap64 (by omega) (by omega)]; omega
  have w4 : IntKind.u64.wrap ((8 * l.length : Nat) : Int) = ((8 * l.length : Nat) : Int) := fK (by omega) (by omega)
  refine zU Tryz.func107 rfl gf107 ok107 (by simp [Tryz.ntmps107]) ?_
  repeat' (first | with_reducible apply qK | ((with_reducible apply qB) <;> try simp only [qN, qC, qE, qG, qD, qA, qF, seval, qQ, qO, qP, qL, qY, qZ, zC, qW, qU, xP, xZ, vY, Shape.pl, List.all_cons, List.all_nil, zK]))
  refine xE fun ks h1 m1 s1 f1 n1 => ?_
  refine qJ ?_; repeat' (first | ((with_reducible apply qI) <;> try simp only [qN, qC, qE, qG, qD, qA, qF, seval, qQ, qO, qP, qL, qY, qZ, zC, qW, qU, xP, xZ, vY, Shape.pl, List.all_cons, List.all_nil, zK]))
  refine xY m1 tK rfl (by decide) rfl rfl rfl fun h2 m2 f2 => ?_
  have e2 : h2 ks = some ⟨s0.cs, 0, true, false⟩ := m2
  have s2 : HS h h2 := (HS.refl _).upd n1 fun j hj => (f2 j hj).trans (f1 j hj)
  clear m2
  refine qJ ?_; repeat' (first | with_reducible apply qK | ((with_reducible first | apply qI | apply qB) <;> try simp only [qN, qC, qE, qG, qD, qA, qF, seval, qQ, qO, qP, qL, qY, qZ, zC, qW, qU]))
  refine (c_adds N h2).mono ?_
  rintro _ h3 ⟨s3, rfl⟩
  refine qJ ?_; repeat' (first | ((with_reducible apply qI) <;> try simp only [qN, qC, qE, qG, qD, qA, qF, seval, qQ, qO, qP, qL, qY, qZ, zC, qW, qU]))
  refine xE fun kk h4 m4 s4 f4 n4 => ?_
  refine qJ ?_; repeat' (first | ((with_reducible apply qI) <;> try simp only [qN, qC, qE, qG, qD, qA, qF, seval, qQ, qO, qP, qL, qY, qZ, zC, qW, qU]))
  refine xY m4 zM6 rfl (by decide) (vB _ _) rfl (arr_all _) fun h5 m5 f5 => ?_
  have e5 : h5 kk = some ⟨qG1 kW, 0, true, false⟩ := m5
  have s5 : HS h3 h5 := (HS.refl _).upd n4 fun j hj => (f5 j hj).trans (f4 j hj)
  clear m5 m4
  have ms5 := s5 _ _ (s3 _ _ e2)
  have S5 : HS h h5 := (s2.trans s3).trans s5
  have r5 := r.hs S5
  refine qJ ?_; repeat' (first | with_reducible apply qK | ((with_reducible first | apply qI | apply qB) <;> try simp only [qN, qC, qE, qG, qD, qA, qF, seval, qQ, qO, qP, qL, qY, qZ, zC, qW, qU]))
  refine xW vA Tryz.underlying22 rfl (HS.refl h5) (OWN.nil _ _) r5.src (by simp; omega) fun v6 h6 s6 x6 o6 => ?_
  rw [List.nil_append] at o6
  refine qJ ?_; repeat' (first | ((with_reducible apply qI) <;> try simp only [qN, qC, qE, qG, qD, qA, qF, seval, qQ, qO, qP, qL, qY, qZ, zC, qW, qU]))
  refine qH7 (x := 128) vA fun kb h7 r7 s7 f7 n7 => ?_
  refine qJ ?_; repeat' (first | ((with_reducible apply qI) <;> try simp only [qN, qC, qE, qG, qD, qA, qF, seval, qQ, qO, qP, qL, qY, qZ, zC, qW, qU]))
  refine xW vA Tryz.underlying22 rfl (s6.trans s7) (o6.hs s7) r7.src (by simp; omega) fun v8 h8 s8 x8 o8 => ?_
  obtain ⟨a8, c8, rfl⟩ := o8.form
  obtain ⟨T, hT⟩ : ∃ T : Nat → List UInt8, ∀ i, T i = l ++ 128 :: List.replicate i 0 := ⟨_, fun _ => rfl⟩
  have t0 : l ++ [128] = T 0 := by rw [hT]; rfl
  have tl : ∀ i, (T i).length = l.length + 1 + i := fun i => by rw [hT]; simp; omega
  rw [t0] at o8
  simp only [t0]
  refine qJ ?_; repeat' (first | (with_reducible first | apply qK | apply qS) | ((with_reducible apply qI) <;> try simp only [qN, qC, qE, qG, qD, qA, qF, seval, qQ, qO, qP, qL, qY, qZ, zC, qW, qU]))
  refine xR [0, 2, 3, 4] (fun (y : Nat × (Option Addr × Nat)) => [(5, .slice y.2.1 (T y.1).length y.2.2)]) (fun z y h' => qI1 l - y.1 = z ∧ y.1 ≤ qI1 l ∧ HS h5 h' ∧ OWN h5 h' (.slice y.2.1 (T y.1).length y.2.2) (T y.1)) (qI1 l) (0, a8, c8) (by simp [lk]) ⟨rfl, by omega, s8, o8⟩ ?_
  rintro _ ⟨i, a9, c9⟩ h9 ⟨rfl, hi, s9, o9⟩
  simp only at hi o9
  have til := tl i
  by_cases hil : i < qI1 l
  case pos =>
    have d3 : decide (((T i).length : Int) < ((64 * vR l.length - 8 : Nat) : Int)) = true := decide_eq_true (by omega)
    refine qJ ?_; repeat' (first | (with_reducible first | apply qK | apply qS) | ((first | (with_reducible first | apply qI | apply qB | apply qR | apply qT) | ((refine GTri.mono (qU0 _ _ l.length (by omega)) ?_); rintro _ _ ⟨rfl, hh9⟩; replace hh9 := hh9.symm; subst hh9)) <;> try simp only [qN, qC, qE, qG, qD, qA, qF, seval, qQ, qO, qP, qL, qY, qZ, zC, qW, qU, w1, w2, d3]))
    refine qH7 (x := 0) vA fun kb h10 r10 s10 f10 n10 => ?_
    refine qJ ?_; repeat' (first | ((with_reducible apply qI) <;> try simp only [qN, qC, qE, qG, qD, qA, qF, seval, qQ, qO, qP, qL, qY, qZ, zC, qW, qU]))
    refine xW vA Tryz.underlying22 rfl (s9.trans s10) (o9.hs s10) r10.src (by simp; omega) fun v11 h11 s11 x11 o11 => ?_
    have e : T i ++ [0] = T (i + 1) := by rw [hT, hT, List.replicate_succ']; simp
    rw [e] at o11
    obtain ⟨a11, c11, rfl⟩ := o11.form
    refine qJ ?_; repeat' (first | ((with_reducible apply qI) <;> try simp only [qN, qC, qE, qG, qD, qA, qF, seval, qQ, qO, qP, qL, qY, qZ, zC, qW, qU]))
    exact ⟨_, (i + 1, a11, c11), by omega, (by simp only [List.forall_mem_cons, List.not_mem_nil, false_implies, implies_true, List.map, List.cons_append, List.nil_append, lk, Nat.reduceEqDiff, reduceIte, and_true, true_and]), rfl, by omega, s11, o11⟩
  have d3 : decide (((T i).length : Int) < ((64 * vR l.length - 8 : Nat) : Int)) = false := decide_eq_false (by omega)
  obtain rfl : i = qI1 l := by omega
  refine qJ ?_; repeat' (first | (with_reducible first | apply qK | apply qS) | ((first | (with_reducible first | apply qI | apply qB | apply qR | apply xT) | ((refine GTri.mono (qU0 _ _ l.length (by omega)) ?_); rintro _ _ ⟨rfl, hh9⟩; replace hh9 := hh9.symm; subst hh9)) <;> try simp only [qN, qC, qE, qG, qD, qA, qF, seval, qQ, qO, qP, qL, qY, qZ, zC, qW, qU, w1, w2, d3]))
  obtain ⟨U, hU⟩ : ∃ U : Nat → List UInt8, ∀ p, U p = T (qI1 l) ++ (be8 l.length).take p := ⟨_, fun _ => rfl⟩
  have u0 : T (qI1 l) = U 0 := by rw [hU]; simp
  have ul : ∀ p, (U p).length ≤ 64 * vR l.length := fun p => by rw [hU, List.length_append, til, List.length_take, be8, vB]; omega
  rw [u0] at o9
  simp only [u0]
  refine xR [0, 2, 3, 4] (fun (y : Nat × (Option Addr × Nat)) => [(5, .slice y.2.1 (U y.1).length y.2.2), (6, .int .i64 (56 - 8 * (y.1 : Int)))]) (fun z y h' => 8 - y.1 = z ∧ y.1 ≤ 8 ∧ HS h5 h' ∧ OWN h5 h' (.slice y.2.1 (U y.1).length y.2.2) (U y.1)) 8 (0, a9, c9) (by simp [lk]) ⟨rfl, by omega, s9, o9⟩ ?_
  rintro _ ⟨p, a10, c10⟩ h10 ⟨rfl, hp, s10, o10⟩
  simp only at hp o10
  have upl := ul p
  by_cases hpl8 : p < 8
  case pos =>
    have d3 : decide (56 - 8 * (p : Int) ≥ 0) = true := decide_eq_true (by omega)
    have w5 : ((8 * l.length : Nat) : Int).fdiv (2 ^ min (56 - 8 * (p : Int)).toNat IntKind.u64.bits) = ((8 * l.length / 256 ^ (7 - p) : Nat) : Int) := by
      rw [show (56 - 8 * (p : Int)).toNat = 8 * (7 - p) by omega, show min (8 * (7 - p)) IntKind.u64.bits = 8 * (7 - p) from Nat.min_eq_left (by simp [IntKind.bits]; omega)]
      rw [show (2 : Int) ^ (8 * (7 - p)) = ((256 ^ (7 - p) : Nat) : Int) by rw [Int.pow_mul]; push_cast; rfl, Int.fdiv_eq_ediv_of_nonneg _ (Int.natCast_nonneg _), ← Int.natCast_ediv]
    have w6 := uN (8 * l.length / 256 ^ (7 - p))
    have w7 : IntKind.i64.wrap (56 - 8 * (p : Int) - 8) = 56 - 8 * ((p + 1 : Nat) : Int) := by rw [wrap64 (by omega) (by omega)]; omega
    refine qJ ?_; repeat' (first | (with_reducible first | apply qK | apply qS) | ((with_reducible first | apply qI | apply qB | apply qR | apply qT) <;> try simp only [qN, qC, qE, qG, qD, qA, qF, seval, qQ, qO, qP, qL, qY, qZ, zC, qW, qU, d3, w3, w4, w5, w6]))
    refine ⟨by omega, ?_⟩
    refine qJ ?_; repeat' (first | ((with_reducible apply qI) <;> try simp only [qN, qC, qE, qG, qD, qA, qF, seval, qQ, qO, qP, qL, qY, qZ, zC, qW, qU, d3, w3, w4, w5, w6]))
    refine qH7 (x := UInt8.ofNat (8 * l.length / 256 ^ (7 - p) % 256)) vA fun kb h11 r11 s11 f11 n11 => ?_
    refine qJ ?_; repeat' (first | ((with_reducible apply qI) <;> try simp only [qN, qC, qE, qG, qD, qA, qF, seval, qQ, qO, qP, qL, qY, qZ, zC, qW, qU]))
    refine xW vA Tryz.underlying22 rfl (s10.trans s11) (o10.hs s11) r11.src (by simp; omega) fun v12 h12 s12 x12 o12 => ?_
    have e : U p ++ [UInt8.ofNat (8 * l.length / 256 ^ (7 - p) % 256)] = U (p + 1) := by
      rw [hU, hU, List.append_assoc, List.take_add_one (l := be8 l.length), be8, tB _ hpl8]; rfl
    rw [e] at o12
    obtain ⟨a12, c12, rfl⟩ := o12.form
    refine qJ ?_; repeat' (first | ((with_reducible first | apply qI | apply qB) <;> try simp only [qN, qC, qE, qG, qD, qA, qF, seval, qQ, qO, qP, qL, qY, qZ, zC, qW, qU, w7]))
    exact ⟨_, (p + 1, a12, c12), by omega, (by simp only [List.forall_mem_cons, List.not_mem_nil, false_implies, implies_true, List.map, List.cons_append, List.nil_append, lk, Nat.reduceEqDiff, reduceIte, and_true, true_and]), rfl, by omega, s12, o12⟩
  have d3 : decide (56 - 8 * (p : Int) ≥ 0) = false := decide_eq_false (by omega)
  obtain rfl : p = 8 := by omega
  have eU : U 8 = zB0 l := by rw [hU, List.take_of_length_le (by rw [be8, vB]; omega), hT, hpe]
  rw [eU] at o10
  simp only [eU]
  refine qJ ?_; repeat' (first | (with_reducible first | apply qK | apply qS) | ((with_reducible first | apply qI | apply qB | apply qR | apply xT) <;> try simp only [qN, qC, qE, qG, qD, qA, qF, seval, qQ, qO, qP, qL, qY, qZ, zC, qW, qU, d3]))
  have rP := o10.rb
  have slP := o10.sl
  have ms10 := s10 _ _ ms5
  have mk10 := s10 _ _ e5
  have S10 := S5.trans s10
  generalize hP : zB0 l = P at *
  refine xR [2, 3, 4, 5] (fun (j : Nat) => [(7, .int .i64 ((64 * j : Nat) : Int))]) (fun z j h' => vR l.length - j = z ∧ j ≤ vR l.length ∧ HX ks h10 h' ∧ h' ks = some ⟨(qP1 s0 P j).cs, 0, true, false⟩) (vR l.length) 0 (by simp [lk]) ⟨rfl, by omega, HX.refl _ _, ms10⟩ ?_
  rintro _ j hj ⟨rfl, hjn, xj, mj⟩
  have Sj : HS h hj := xj.new S10 n1
  have ksk : kk ≠ ks := fun e => by subst e; rw [s3 _ _ e2] at n4; cases n4
  have mkj := xj _ _ ksk mk10
  have rPj := rP.hx ms10 (by rfl) xj
  have slPj := slP.hx ms10 rfl xj
  by_cases hjl : j < vR l.length
  case pos =>
    have d4 : decide (((64 * j : Nat) : Int) < (P.length : Int)) = true := decide_eq_true (by omega)
    have wj : IntKind.i64.wrap (((64 * j : Nat) : Int) + 64) = ((64 * (j + 1) : Nat) : Int) := by rw [wrap64 (by omega) (by omega)]; omega
    generalize hH : qP1 s0 P j = H at mj
    generalize hB : rM (P.drop (64 * j)) 64 = B
    have hcomp : qP1 s0 P (j + 1) = S8.add (lO H (jL B) 64) H := by rw [qP1, qP9, hH, hB]
    refine qJ ?_; repeat' (first | (with_reducible first | apply qK | apply qS) | ((with_reducible first | apply qI | apply qB | apply qR | apply qT) <;> try simp only [qN, qC, qE, qG, qD, qA, qF, seval, qQ, qO, qP, qL, qY, qZ, zC, qW, qU, d4]))
    refine xE fun kw ha ma sa fa na => ?_
    have ea : ha kw = some ⟨qG1 (fun j => if j < 0 then jL B j else 0#32), 0, true, false⟩ := ma
    clear ma
    refine qJ ?_; repeat' (first | with_reducible apply qK | ((with_reducible first | apply qI | apply qB) <;> try simp only [qN, qC, qE, qG, qD, qA, qF, seval, qQ, qO, qP, qL, qY, qZ, zC, qW, qU, zI (sa _ _ mj) tK rfl]))
    refine xE fun kv hv0 mv0 sv fv nv => ?_
    refine qJ ?_; repeat' (first | ((with_reducible apply qI) <;> try simp only [qN, qC, qE, qG, qD, qA, qF, seval, qQ, qO, qP, qL, qY, qZ, zC, qW, qU]))
    refine xY mv0 tK rfl (by decide) rfl rfl rfl fun hv mv fv2 => ?_
    have ev : hv kv = some ⟨(lO H (jL B) 0).cs, 0, true, false⟩ := mv
    clear mv mv0
    have svv : HS ha hv := (HS.refl _).upd nv fun j hj => (fv2 j hj).trans (fv j hj)
    have kwv : kw ≠ kv := yA ea nv
    have nvj : hj kv = none := sa.none_of nv
    have nwj : hj kw = none := na
    have eaw := svv _ _ ea
    refine qJ ?_; repeat' (first | (with_reducible first | apply qK | apply qS) | ((with_reducible first | apply qI | apply qB) <;> try simp only [qN, qC, qE, qG, qD, qA, qF, seval, qQ, qO, qP, qL, qY, qZ, zC, qW, qU]))
    refine xR [2, 3, 4, 5, 7, 8, 9, 49, 50, 51, 52, 55] (fun (i : Nat) => [(56, .int .i64 (i : Int))]) (fun z i h' => 64 - i = z ∧ i ≤ 64 ∧ HS hj h' ∧ h' kw = some ⟨qG1 (fun j => if j < i then jL B j else 0#32), 0, true, false⟩ ∧ h' kv = some ⟨(lO H (jL B) i).cs, 0, true, false⟩) 64 0 (by simp [lk]) ⟨rfl, by omega, sa.trans svv, eaw, ev⟩ ?_
    rintro _ i h11 ⟨rfl, hi, s11, mw, mv⟩
    by_cases hil : i < 64
    case pos =>
      have d5 : decide ((i : Int) < 64) = true := decide_eq_true (by omega)
      have wi : IntKind.i64.wrap ((i : Int) + 1) = ((i + 1 : Nat) : Int) := by rw [wrap64 (by omega) (by omega)]; omega
      generalize hS : lO H (jL B) i = S at mv
      have yB : ∀ x, x = jL B i → (qG1 (fun j => if j < i then jL B j else 0#32)).set i (vw x) = qG1 (fun j => if j < i + 1 then jL B j else 0#32) := fun x hx => qU5 _ _ fun j hj => by
        by_cases e : j = i
        · subst e; rw [if_pos rfl, if_pos (by omega), hx]
        · rw [if_neg e]
          by_cases h : j < i
          · rw [if_pos h, if_pos (by omega)]
          · rw [if_neg h, if_neg (by omega)]
      have ew0 := sM (k := kw) hil
      by_cases h16 : i < 16
      · have d6 : decide ((i : Int) < 16) = true := decide_eq_true (by omega)
        have w6 : IntKind.i64.wrap (4 * (i : Int)) = ((4 * i : Nat) : Int) := by rw [wrap64 (by omega) (by omega)]; omega
        have w7 : IntKind.i64.wrap (((64 * j : Nat) : Int) + ((4 * i : Nat) : Int)) = ((64 * j + 4 * i : Nat) : Int) := by rw [wrap64 (by omega) (by omega)]; omega
        obtain ⟨a7, c7, q7, r7, _⟩ := RB.behind (P := Tryz.prog) (rPj.hs s11) (slPj.hs s11) Tryz.underlying22 sH (lo := 64 * j + 4 * i) (by omega) .i64
        have gg : ∀ t, t < 4 → ∃ y, (P.drop (64 * j + 4 * i))[t]? = some y ∧ (P.drop (64 * j))[4 * i + t]? = some y := fun t ht => by
          refine ⟨P[64 * j + 4 * i + t]'(by omega), ?_, ?_⟩
          · rw [List.getElem?_drop, List.getElem?_eq_getElem]
          · rw [List.getElem?_drop, ← Nat.add_assoc, List.getElem?_eq_getElem]
        obtain ⟨y0, p0, q0⟩ := gg 0 (by omega)
        obtain ⟨y1, p1, q1⟩ := gg 1 (by omega)
        obtain ⟨y2, p2, q2⟩ := gg 2 (by omega)
        obtain ⟨y3, p3, q3⟩ := gg 3 (by omega)
        have hwd : qQ2 y0 y1 y2 y3 = jL B i := by rw [sch_lt h16, ← hB, acc_word h16 q0 q1 q2 q3]
        refine qJ ?_; repeat' (first | (with_reducible first | apply qK | apply qS) | ((first | (with_reducible first | apply qI | apply qB | apply qR | apply qT) | ((refine GTri.mono (c_word _ _ r7 p0 p1 p2 p3) ?_); rintro _ _ ⟨rfl, hh9⟩; replace hh9 := hh9.symm; subst hh9)) <;> try simp only [qN, qC, qE, qG, qD, qA, qF, seval, qQ, qO, qP, qL, qY, qZ, zC, qW, qU, d5, d6, w6, w7, q7, ew0, vw]))
        refine zW mw xM rfl (by rw [vB]; omega) rfl rfl fun h13 m13 f13 => ?_
        have mw13 : h13 kw = some ⟨qG1 (fun j => if j < i + 1 then jL B j else 0#32), 0, true, false⟩ := by rw [← yB _ hwd]; exact m13
        have t13 : HS hj h13 := (zH f13).new s11 nwj
        have mv13 := (f13 kv kwv.symm).trans mv
        have gA := zI mv13 tK rfl
        have gwi : (qG1 (fun j => if j < i + 1 then jL B j else 0#32))[i]? = some (vw (jL B i)) := by
          rw [dK _ hil]
          show some (vw (if i < i + 1 then jL B i else 0#32)) = _
          rw [if_pos (Nat.lt_succ_self i)]
        have mk13 := t13 _ _ mkj
        have bk := xQ (kW i) (jL B i)
        have ew := sM (k := kw) hil
        have ek := sM (k := kk) hil
        have gk := dK kW hil
        refine qJ ?_; repeat' (first | ((first | (with_reducible apply qI) | with_reducible refine zE qU xC (by kernel_rfl) ?_) <;> try simp only [qN, qC, qE, qG, qD, qA, qF, seval, qQ, qO, qP, qL, qY, qZ, zC, qW, qU, gA, ek, qH mk13 xM, gk, ew, qH mw13 xM, gwi, vw, bk]))
        refine (zP3 N _ S (kW i + jL B i)).mono ?_
        rintro _ h14 ⟨s14, rfl⟩
        have mv14 := s14 _ _ mv13
        have gA' := zI mv14 tK rfl
        refine qJ ?_; repeat' (first | ((with_reducible apply qI) <;> try simp only [qN, qC, qE, qG, qD, qA, qF, seval, qQ, qO, qP, qL, qY, qZ, zC, qW, qU, gA, gA', ek, qH mk13 xM, qH (s14 _ _ mk13) xM, gk, ew, qH mw13 xM, qH (s14 _ _ mw13) xM, gwi, vw, bk]))
        refine xY mv14 tK rfl (by decide) rfl rfl rfl fun h15 m15 f15 => ?_
        have x15 := zH f15
        refine qJ ?_; repeat' (first | ((with_reducible first | apply qI | apply qB) <;> try simp only [qN, qC, qE, qG, qD, qA, qF, seval, qQ, qO, qP, qL, qY, qZ, zC, qW, qU, wi]))
        refine ⟨_, i + 1, by omega, (by simp only [List.forall_mem_cons, List.not_mem_nil, false_implies, implies_true, List.map, List.cons_append, List.nil_append, lk, Nat.reduceEqDiff, reduceIte, and_true, true_and]), rfl, by omega, ?_, ?_, ?_⟩
        · exact HX.new (x15) (t13.trans s14) nvj
        · rw [f15 kw kwv]; exact s14 _ _ mw13
        · rw [lO, hS, ← zN0]; exact m15
      · have d6 : decide ((i : Int) < 16) = false := decide_eq_false (by omega)
        have w2' : IntKind.i64.wrap ((i : Int) - 2) = ((i - 2 : Nat) : Int) := by rw [wrap64 (by omega) (by omega)]; omega
        have w7' : IntKind.i64.wrap ((i : Int) - 7) = ((i - 7 : Nat) : Int) := by rw [wrap64 (by omega) (by omega)]; omega
        have w15 : IntKind.i64.wrap ((i : Int) - 15) = ((i - 15 : Nat) : Int) := by rw [wrap64 (by omega) (by omega)]; omega
        have w16 : IntKind.i64.wrap ((i : Int) - 16) = ((i - 16 : Nat) : Int) := by rw [wrap64 (by omega) (by omega)]; omega
        have gf : ∀ j, j < i → (qG1 (fun j => if j < i then jL B j else 0#32))[j]? = some (vw (jL B j)) := fun j hj => by
          rw [dK _ (by omega)]
          show some (vw (if j < i then jL B j else 0#32)) = _
          rw [if_pos hj]
        have g2 := gf (i - 2) (by omega)
        have g7 := gf (i - 7) (by omega)
        have g15 := gf (i - 15) (by omega)
        have g16 := gf (i - 16) (by omega)
        have e2' := sM (k := kw) (j := i - 2) (by omega)
        have e7 := sM (k := kw) (j := i - 7) (by omega)
        have e15 := sM (k := kw) (j := i - 15) (by omega)
        have e16 := sM (k := kw) (j := i - 16) (by omega)
        have sq := sch_ref (b := B) h16
        generalize hX2 : jL B (i - 2) = X2 at g2 sq
        generalize hX7 : jL B (i - 7) = X7 at g7 sq
        generalize hX15 : jL B (i - 15) = X15 at g15 sq
        generalize hX16 : jL B (i - 16) = X16 at g16 sq
        have ra := fun hh => fP N hh X15 (a := 7) (by omega) (by omega)
        have rb := fun hh => fP N hh X15 (a := 18) (by omega) (by omega)
        have rc := fun hh => fP N hh X2 (a := 17) (by omega) (by omega)
        have rd := fun hh => fP N hh X2 (a := 19) (by omega) (by omega)
        have x1 := uJ (uD X15 7) (uD X15 18)
        have x2 := dQ X15 (k := 3) (by omega)
        have x3 := uJ (uD X15 7 ^^^ uD X15 18) (X15 >>> 3)
        have x4 := uJ (uD X2 17) (uD X2 19)
        have x5 := dQ X2 (k := 10) (by omega)
        have x6 := uJ (uD X2 17 ^^^ uD X2 19) (X2 >>> 10)
        rw [show uD X15 7 ^^^ uD X15 18 ^^^ X15 >>> 3 = gm X15 7 18 3 from rfl] at x3
        rw [show uD X2 17 ^^^ uD X2 19 ^^^ X2 >>> 10 = gm X2 17 19 10 from rfl] at x6
        have a1' := xQ X16 (gm X15 7 18 3)
        have a2' := xQ (X16 + gm X15 7 18 3) X7
        have a3' := xQ (X16 + gm X15 7 18 3 + X7) (gm X2 17 19 10)
        rw [sq] at a3'
        refine qJ ?_; repeat' (first | (with_reducible first | apply qK | apply qS) | ((first | (with_reducible first | apply qI | apply qB | apply qR | apply qT) | with_reducible refine zE qU xC (by kernel_rfl) ?_ | ((refine GTri.mono (ra _) ?_); rintro _ _ ⟨rfl, hh9⟩; replace hh9 := hh9.symm; subst hh9) | ((refine GTri.mono (rb _) ?_); rintro _ _ ⟨rfl, hh9⟩; replace hh9 := hh9.symm; subst hh9) | ((refine GTri.mono (rc _) ?_); rintro _ _ ⟨rfl, hh9⟩; replace hh9 := hh9.symm; subst hh9) | ((refine GTri.mono (rd _) ?_); rintro _ _ ⟨rfl, hh9⟩; replace hh9 := hh9.symm; subst hh9)) <;> try simp only [qN, qC, qE, qG, qD, qA, qF, seval, qQ, qO, qP, qL, qY, qZ, zC, qW, qU, d5, d6, w2', w7', w15, w16, e2', e7, e15, e16, ew0, qH mw xM, g2, g7, g15, g16, vw, x1, x2, x3, x4, x5, x6, a1', a2', a3']))
        refine zW mw xM rfl (by rw [vB]; omega) rfl rfl fun h13 m13 f13 => ?_
        have mw13 : h13 kw = some ⟨qG1 (fun j => if j < i + 1 then jL B j else 0#32), 0, true, false⟩ := by rw [← yB _ rfl]; exact m13
        have t13 : HS hj h13 := (zH f13).new s11 nwj
        have mv13 := (f13 kv kwv.symm).trans mv
        have gA := zI mv13 tK rfl
        have gwi : (qG1 (fun j => if j < i + 1 then jL B j else 0#32))[i]? = some (vw (jL B i)) := by
          rw [dK _ hil]
          show some (vw (if i < i + 1 then jL B i else 0#32)) = _
          rw [if_pos (Nat.lt_succ_self i)]
        have mk13 := t13 _ _ mkj
        have bk := xQ (kW i) (jL B i)
        have ew := sM (k := kw) hil
        have ek := sM (k := kk) hil
        have gk := dK kW hil
        refine qJ ?_; repeat' (first | ((first | (with_reducible apply qI) | with_reducible refine zE qU xC (by kernel_rfl) ?_) <;> try simp only [qN, qC, qE, qG, qD, qA, qF, seval, qQ, qO, qP, qL, qY, qZ, zC, qW, qU, gA, ek, qH mk13 xM, gk, ew, qH mw13 xM, gwi, vw, bk]))
        refine (zP3 N _ S (kW i + jL B i)).mono ?_
        rintro _ h14 ⟨s14, rfl⟩
        have mv14 := s14 _ _ mv13
        have gA' := zI mv14 tK rfl
        refine qJ ?_; repeat' (first | ((with_reducible apply qI) <;> try simp only [qN, qC, qE, qG, qD, qA, qF, seval, qQ, qO, qP, qL, qY, qZ, zC, qW, qU, gA, gA', ek, qH mk13 xM, qH (s14 _ _ mk13) xM, gk, ew, qH mw13 xM, qH (s14 _ _ mw13) xM, gwi, vw, bk]))
        refine xY mv14 tK rfl (by decide) rfl rfl rfl fun h15 m15 f15 => ?_
        have x15 := zH f15
        refine qJ ?_; repeat' (first | ((with_reducible first | apply qI | apply qB) <;> try simp only [qN, qC, qE, qG, qD, qA, qF, seval, qQ, qO, qP, qL, qY, qZ, zC, qW, qU, wi]))
        refine ⟨_, i + 1, by omega, (by simp only [List.forall_mem_cons, List.not_mem_nil, false_implies, implies_true, List.map, List.cons_append, List.nil_append, lk, Nat.reduceEqDiff, reduceIte, and_true, true_and]), rfl, by omega, ?_, ?_, ?_⟩
        · exact HX.new (x15) (t13.trans s14) nvj
        · rw [f15 kw kwv]; exact s14 _ _ mw13
        · rw [lO, hS, ← zN0]; exact m15
    have d5 : decide ((i : Int) < 64) = false := decide_eq_false (by omega)
    obtain rfl : i = 64 := by omega
    generalize hV : lO H (jL B) 64 = V at mv hcomp
    have ms11 := s11 _ _ mj
    have ksv : ks ≠ kv := yA mj nvj
    have hadd : S8.add V H = ⟨H.a + V.a, H.b + V.b, H.c + V.c, H.d + V.d, H.e + V.e, H.f + V.f, H.g + V.g, H.h + V.h⟩ := by simp only [S8.add, BitVec.add_comm]
    rw [hadd] at hcomp
    obtain ⟨va, vb, vc, vd, ve, vf, vg, vh⟩ := V
    obtain ⟨ta, tb', tc, td, te, tf, tg, th⟩ := H
    simp only [S8.cs] at ms11 mv hcomp
    have h11' : h11 ks = some ⟨[vw ta, vw tb', vw tc, vw td, vw te, vw tf, vw tg, vw th], 0, true, false⟩ := ms11
    have i0 : zJ Tryz.prog 120 (.pointer (some ⟨ks, 0, none⟩)) 0 = _ := yZ (k := ks) (j := 0) (by decide)
    have k0' : zJ Tryz.prog 120 (.pointer (some ⟨kv, 0, none⟩)) 0 = _ := yZ (k := kv) (j := 0) (by decide)
    have i1 : zJ Tryz.prog 120 (.pointer (some ⟨ks, 0, none⟩)) 1 = _ := yZ (k := ks) (j := 1) (by decide)
    have k1' : zJ Tryz.prog 120 (.pointer (some ⟨kv, 0, none⟩)) 1 = _ := yZ (k := kv) (j := 1) (by decide)
    have i2 : zJ Tryz.prog 120 (.pointer (some ⟨ks, 0, none⟩)) 2 = _ := yZ (k := ks) (j := 2) (by decide)
    have k2' : zJ Tryz.prog 120 (.pointer (some ⟨kv, 0, none⟩)) 2 = _ := yZ (k := kv) (j := 2) (by decide)
    have i3 : zJ Tryz.prog 120 (.pointer (some ⟨ks, 0, none⟩)) 3 = _ := yZ (k := ks) (j := 3) (by decide)
    have k3' : zJ Tryz.prog 120 (.pointer (some ⟨kv, 0, none⟩)) 3 = _ := yZ (k := kv) (j := 3) (by decide)
    have i4 : zJ Tryz.prog 120 (.pointer (some ⟨ks, 0, none⟩)) 4 = _ := yZ (k := ks) (j := 4) (by decide)
    have k4' : zJ Tryz.prog 120 (.pointer (some ⟨kv, 0, none⟩)) 4 = _ := yZ (k := kv) (j := 4) (by decide)
    have i5 : zJ Tryz.prog 120 (.pointer (some ⟨ks, 0, none⟩)) 5 = _ := yZ (k := ks) (j := 5) (by decide)
    have k5' : zJ Tryz.prog 120 (.pointer (some ⟨kv, 0, none⟩)) 5 = _ := yZ (k := kv) (j := 5) (by decide)
    have i6 : zJ Tryz.prog 120 (.pointer (some ⟨ks, 0, none⟩)) 6 = _ := yZ (k := ks) (j := 6) (by decide)
    have k6' : zJ Tryz.prog 120 (.pointer (some ⟨kv, 0, none⟩)) 6 = _ := yZ (k := kv) (j := 6) (by decide)
    have i7 : zJ Tryz.prog 120 (.pointer (some ⟨ks, 0, none⟩)) 7 = _ := yZ (k := ks) (j := 7) (by decide)
    have k7' : zJ Tryz.prog 120 (.pointer (some ⟨kv, 0, none⟩)) 7 = _ := yZ (k := kv) (j := 7) (by decide)
    refine qJ ?_; repeat' (first | (with_reducible first | apply qK | apply qS) | ((with_reducible first | apply qI | apply qB | apply qR | apply xT) <;> try simp only [qN, qC, qE, qG, qD, qA, qF, seval, qQ, qO, qP, qL, qY, qZ, zC, qW, qU, d5]))
    refine dU ?_
    refine xJ ?_
    refine qJ ?_; repeat' (first | (with_reducible first | apply qK | apply qS) | ((first | (with_reducible first | apply qI | apply qB | apply qR | apply qT) | with_reducible refine zE qU xC (by kernel_rfl) ?_) <;> try simp only [qN, qC, qE, qG, qD, qA, qF, seval, qQ, qO, qP, qL, qY, qZ, zC, qW, qU, i0, k0', qH ms11 xM, qH mv xM, vw, xQ]))
    refine zW ms11 xM rfl (by simp) rfl rfl fun h40 m40 f40 => ?_
    have mv40 := (f40 kv ksv.symm).trans mv
    refine qJ ?_; repeat' (first | ((with_reducible first | apply qI | apply qB) <;> try simp only [qN, qC, qE, qG, qD, qA, qF, seval, qQ, qO, qP, qL, qY, qZ, zC, qW, qU]))
    refine xJ ?_
    refine qJ ?_; repeat' (first | (with_reducible first | apply qK | apply qS) | ((first | (with_reducible first | apply qI | apply qB | apply qR | apply qT) | with_reducible refine zE qU xC (by kernel_rfl) ?_) <;> try simp only [qN, qC, qE, qG, qD, qA, qF, seval, qQ, qO, qP, qL, qY, qZ, zC, qW, qU, i1, k1', qH m40 xM, qH mv40 xM, vw, xQ]))
    refine zW m40 xM rfl (by simp) rfl rfl fun h41 m41 f41 => ?_
    have mv41 := (f41 kv ksv.symm).trans mv40
    refine qJ ?_; repeat' (first | ((with_reducible first | apply qI | apply qB) <;> try simp only [qN, qC, qE, qG, qD, qA, qF, seval, qQ, qO, qP, qL, qY, qZ, zC, qW, qU]))
    refine xJ ?_
    refine qJ ?_; repeat' (first | (with_reducible first | apply qK | apply qS) | ((first | (with_reducible first | apply qI | apply qB | apply qR | apply qT) | with_reducible refine zE qU xC (by kernel_rfl) ?_) <;> try simp only [qN, qC, qE, qG, qD, qA, qF, seval, qQ, qO, qP, qL, qY, qZ, zC, qW, qU, i2, k2', qH m41 xM, qH mv41 xM, vw, xQ]))
    refine zW m41 xM rfl (by simp) rfl rfl fun h42 m42 f42 => ?_
    have mv42 := (f42 kv ksv.symm).trans mv41
    refine qJ ?_; repeat' (first | ((with_reducible first | apply qI | apply qB) <;> try simp only [qN, qC, qE, qG, qD, qA, qF, seval, qQ, qO, qP, qL, qY, qZ, zC, qW, qU]))
    refine xJ ?_
    refine qJ ?_; repeat' (first | (with_reducible first | apply qK | apply qS) | ((first | (with_reducible first | apply qI | apply qB | apply qR | apply qT) | with_reducible refine zE qU xC (by kernel_rfl) ?_) <;> try simp only [qN, qC, qE, qG, qD, qA, qF, seval, qQ, qO, qP, qL, qY, qZ, zC, qW, qU, i3, k3', qH m42 xM, qH mv42 xM, vw, xQ]))
    refine zW m42 xM rfl (by simp) rfl rfl fun h43 m43 f43 => ?_
    have mv43 := (f43 kv ksv.symm).trans mv42
    refine qJ ?_; repeat' (first | ((with_reducible first | apply qI | apply qB) <;> try simp only [qN, qC, qE, qG, qD, qA, qF, seval, qQ, qO, qP, qL, qY, qZ, zC, qW, qU]))
    refine xJ ?_
    refine qJ ?_; repeat' (first | (with_reducible first | apply qK | apply qS) | ((first | (with_reducible first | apply qI | apply qB | apply qR | apply qT) | with_reducible refine zE qU xC (by kernel_rfl) ?_) <;> try simp only [qN, qC, qE, qG, qD, qA, qF, seval, qQ, qO, qP, qL, qY, qZ, zC, qW, qU, i4, k4', qH m43 xM, qH mv43 xM, vw, xQ]))
    refine zW m43 xM rfl (by simp) rfl rfl fun h44 m44 f44 => ?_
    have mv44 := (f44 kv ksv.symm).trans mv43
    refine qJ ?_; repeat' (first | ((with_reducible first | apply qI | apply qB) <;> try simp only [qN, qC, qE, qG, qD, qA, qF, seval, qQ, qO, qP, qL, qY, qZ, zC, qW, qU]))
    refine xJ ?_
    refine qJ ?_; repeat' (first | (with_reducible first | apply qK | apply qS) | ((first | (with_reducible first | apply qI | apply qB | apply qR | apply qT) | with_reducible refine zE qU xC (by kernel_rfl) ?_) <;> try simp only [qN, qC, qE, qG, qD, qA, qF, seval, qQ, qO, qP, qL, qY, qZ, zC, qW, qU, i5, k5', qH m44 xM, qH mv44 xM, vw, xQ]))
    refine zW m44 xM rfl (by simp) rfl rfl fun h45 m45 f45 => ?_
    have mv45 := (f45 kv ksv.symm).trans mv44
    refine qJ ?_; repeat' (first | ((with_reducible first | apply qI | apply qB) <;> try simp only [qN, qC, qE, qG, qD, qA, qF, seval, qQ, qO, qP, qL, qY, qZ, zC, qW, qU]))
    refine xJ ?_
    refine qJ ?_; repeat' (first | (with_reducible first | apply qK | apply qS) | ((first | (with_reducible first | apply qI | apply qB | apply qR | apply qT) | with_reducible refine zE qU xC (by kernel_rfl) ?_) <;> try simp only [qN, qC, qE, qG, qD, qA, qF, seval, qQ, qO, qP, qL, qY, qZ, zC, qW, qU, i6, k6', qH m45 xM, qH mv45 xM, vw, xQ]))
    refine zW m45 xM rfl (by simp) rfl rfl fun h46 m46 f46 => ?_
    have mv46 := (f46 kv ksv.symm).trans mv45
    refine qJ ?_; repeat' (first | ((with_reducible first | apply qI | apply qB) <;> try simp only [qN, qC, qE, qG, qD, qA, qF, seval, qQ, qO, qP, qL, qY, qZ, zC, qW, qU]))
    refine xJ ?_
    refine qJ ?_; repeat' (first | (with_reducible first | apply qK | apply qS) | ((first | (with_reducible first | apply qI | apply qB | apply qR | apply qT) | with_reducible refine zE qU xC (by kernel_rfl) ?_) <;> try simp only [qN, qC, qE, qG, qD, qA, qF, seval, qQ, qO, qP, qL, qY, qZ, zC, qW, qU, i7, k7', qH m46 xM, qH mv46 xM, vw, xQ]))
    refine zW m46 xM rfl (by simp) rfl rfl fun h47 m47 f47 => ?_
    have mv47 := (f47 kv ksv.symm).trans mv46
    refine qJ ?_; repeat' (first | ((with_reducible first | apply qI | apply qB) <;> try simp only [qN, qC, qE, qG, qD, qA, qF, seval, qQ, qO, qP, qL, qY, qZ, zC, qW, qU]))
    refine xJ ?_
    refine qJ ?_; repeat' (first | with_reducible apply qK | ((with_reducible first | apply qI | apply qB | apply qR | apply xT) <;> try simp only [qN, qC, qE, qG, qD, qA, qF, seval, qQ, qO, qP, qL, qY, qZ, zC, qW, qU, wj]))
    exact ⟨_, j + 1, by omega, (by simp only [List.forall_mem_cons, List.not_mem_nil, false_implies, implies_true, List.map, List.cons_append, List.nil_append, lk, Nat.reduceEqDiff, reduceIte, and_true, true_and]), rfl, by omega, xj.trans ((s11.hx ks).trans ((((((((zH f40).trans (zH f41)).trans (zH f42)).trans (zH f43)).trans (zH f44)).trans (zH f45)).trans (zH f46)).trans (zH f47))), by rw [hcomp]; exact m47⟩
  have d4 : decide (((64 * j : Nat) : Int) < (P.length : Int)) = false := decide_eq_false (by omega)
  obtain rfl : j = vR l.length := by omega
  rw [hps] at mj
  refine qJ ?_; repeat' (first | (with_reducible first | apply qK | apply qS) | ((with_reducible first | apply qI | apply qB | apply qR | apply xT) <;> try simp only [qN, qC, qE, qG, qD, qA, qF, seval, qQ, qO, qP, qL, qY, qZ, zC, qW, qU, d4, zI mj tK rfl]))
  have sn1 : ∀ x : W32, (x.toNat : Int).fdiv (2 ^ min 24 IntKind.u32.bits) = ((x.toNat / 16777216 : Nat) : Int) := fun x => by rw [dQ x (k := 24) (by omega), BitVec.toNat_ushiftRight, Nat.shiftRight_eq_div_pow]
  have sn2 : ∀ x : W32, (x.toNat : Int).fdiv (2 ^ min 16 IntKind.u32.bits) = ((x.toNat / 65536 : Nat) : Int) := fun x => by rw [dQ x (k := 16) (by omega), BitVec.toNat_ushiftRight, Nat.shiftRight_eq_div_pow]
  have sn3 : ∀ x : W32, (x.toNat : Int).fdiv (2 ^ min 8 IntKind.u32.bits) = ((x.toNat / 256 : Nat) : Int) := fun x => by rw [dQ x (k := 8) (by omega), BitVec.toNat_ushiftRight, Nat.shiftRight_eq_div_pow]
  have Sj' := Sj
  have hF : qP2 l = outB (sZ l) := rfl
  generalize sZ l = S at mj hF ⊢
  obtain ⟨sa, sb, sc, sd, se, sf, sg', sh⟩ := S
  have o20 : OWN hj hj (.slice none 0 0) (arr (4 * 0) (ob ⟨sa, sb, sc, sd, se, sf, sg', sh⟩)) := OWN.nil _ _
  have s20 := HS.refl hj
  simp only [S8.cs]
  refine dU ?_
  refine xJ ?_
  refine qJ ?_; repeat' (first | (with_reducible first | apply qK | apply qS) | ((with_reducible first | apply qI | apply qB | apply qR | apply qT) <;> try simp only [qN, qC, qE, qG, qD, qA, qF, seval, qQ, qO, qP, qL, qY, qZ, zC, qW, qU, qA, vw, sn1, sn2, sn3, uN]))
  refine fJ (cs := ([UInt8.ofNat (sa.toNat / 16777216 % 256), UInt8.ofNat (sa.toNat / 65536 % 256), UInt8.ofNat (sa.toNat / 256 % 256), UInt8.ofNat (sa.toNat % 256)] : List UInt8).map bv) vA rfl (by decide) (by decide) (by rw [wD _ rfl]; rfl) rfl fun kb0 hb0 mb0 sb0 fb0 nb0 => ?_
  have rb0 : RB hb0 (.slice (some ⟨kb0, 0, none⟩) 4 9) [UInt8.ofNat (sa.toNat / 16777216 % 256), UInt8.ofNat (sa.toNat / 65536 % 256), UInt8.ofNat (sa.toNat / 256 % 256), UInt8.ofNat (sa.toNat % 256)] := yN (l := [UInt8.ofNat (sa.toNat / 16777216 % 256), UInt8.ofNat (sa.toNat / 65536 % 256), UInt8.ofNat (sa.toNat / 256 % 256), UInt8.ofNat (sa.toNat % 256)]) mb0 rfl
  refine qJ ?_; repeat' (first | ((with_reducible apply qI) <;> try simp only [qN, qC, qE, qG, qD, qA, qF, seval, qQ, qO, qP, qL, qY, qZ, zC, qW, qU]))
  refine xW vA Tryz.underlying22 rfl (s20.trans sb0) (o20.hs sb0) rb0.src (by rw [vB]; simp) fun v21 h21 s21 x21 o21 => ?_
  have q21 : arr (4 * 0) (ob ⟨sa, sb, sc, sd, se, sf, sg', sh⟩) ++ [UInt8.ofNat (sa.toNat / 16777216 % 256), UInt8.ofNat (sa.toNat / 65536 % 256), UInt8.ofNat (sa.toNat / 256 % 256), UInt8.ofNat (sa.toNat % 256)] = arr (4 * 1) (ob ⟨sa, sb, sc, sd, se, sf, sg', sh⟩) := by rw [← zH1 _ 0]; simp only [ob, S8.at]; simp
  rw [q21] at o21
  refine qJ ?_; repeat' (first | ((with_reducible first | apply qI | apply qB) <;> try simp only [qN, qC, qE, qG, qD, qA, qF, seval, qQ, qO, qP, qL, qY, qZ, zC, qW, qU]))
  refine xJ ?_
  refine qJ ?_; repeat' (first | (with_reducible first | apply qK | apply qS) | ((with_reducible first | apply qI | apply qB | apply qR | apply qT) <;> try simp only [qN, qC, qE, qG, qD, qA, qF, seval, qQ, qO, qP, qL, qY, qZ, zC, qW, qU, qA, vw, sn1, sn2, sn3, uN]))
  refine fJ (cs := ([UInt8.ofNat (sb.toNat / 16777216 % 256), UInt8.ofNat (sb.toNat / 65536 % 256), UInt8.ofNat (sb.toNat / 256 % 256), UInt8.ofNat (sb.toNat % 256)] : List UInt8).map bv) vA rfl (by decide) (by decide) (by rw [wD _ rfl]; rfl) rfl fun kb1 hb1 mb1 sb1 fb1 nb1 => ?_
  have rb1 : RB hb1 (.slice (some ⟨kb1, 0, none⟩) 4 9) [UInt8.ofNat (sb.toNat / 16777216 % 256), UInt8.ofNat (sb.toNat / 65536 % 256), UInt8.ofNat (sb.toNat / 256 % 256), UInt8.ofNat (sb.toNat % 256)] := yN (l := [UInt8.ofNat (sb.toNat / 16777216 % 256), UInt8.ofNat (sb.toNat / 65536 % 256), UInt8.ofNat (sb.toNat / 256 % 256), UInt8.ofNat (sb.toNat % 256)]) mb1 rfl
  refine qJ ?_; repeat' (first | ((with_reducible apply qI) <;> try simp only [qN, qC, qE, qG, qD, qA, qF, seval, qQ, qO, qP, qL, qY, qZ, zC, qW, qU]))
  refine xW vA Tryz.underlying22 rfl (s21.trans sb1) (o21.hs sb1) rb1.src (by rw [vB]; simp) fun v22 h22 s22 x22 o22 => ?_
  have q22 : arr (4 * 1) (ob ⟨sa, sb, sc, sd, se, sf, sg', sh⟩) ++ [UInt8.ofNat (sb.toNat / 16777216 % 256), UInt8.ofNat (sb.toNat / 65536 % 256), UInt8.ofNat (sb.toNat / 256 % 256), UInt8.ofNat (sb.toNat % 256)] = arr (4 * 2) (ob ⟨sa, sb, sc, sd, se, sf, sg', sh⟩) := by rw [← zH1 _ 1]; simp only [ob, S8.at]; simp
  rw [q22] at o22
  refine qJ ?_; repeat' (first | ((with_reducible first | apply qI | apply qB) <;> try simp only [qN, qC, qE, qG, qD, qA, qF, seval, qQ, qO, qP, qL, qY, qZ, zC, qW, qU]))
  refine xJ ?_
  refine qJ ?_; repeat' (first | (with_reducible first | apply qK | apply qS) | ((with_reducible first | apply qI | apply qB | apply qR | apply qT) <;> try simp only [qN, qC, qE, qG, qD, qA, qF, seval, qQ, qO, qP, qL, qY, qZ, zC, qW, qU, qA, vw, sn1, sn2, sn3, uN]))
  refine fJ (cs := ([UInt8.ofNat (sc.toNat / 16777216 % 256), UInt8.ofNat (sc.toNat / 65536 % 256), UInt8.ofNat (sc.toNat / 256 % 256), UInt8.ofNat (sc.toNat % 256)] : List UInt8).map bv) vA rfl (by decide) (by decide) (by rw [wD _ rfl]; rfl) rfl fun kb2 hb2 mb2 sb2 fb2 nb2 => ?_
  have rb2 : RB hb2 (.slice (some ⟨kb2, 0, none⟩) 4 9) [UInt8.ofNat (sc.toNat / 16777216 % 256), UInt8.ofNat (sc.toNat / 65536 % 256), UInt8.ofNat (sc.toNat / 256 % 256), UInt8.ofNat (sc.toNat % 256)] := yN (l := [UInt8.ofNat (sc.toNat / 16777216 % 256), UInt8.ofNat (sc.toNat / 65536 % 256), UInt8.ofNat (sc.toNat / 256 % 256), UInt8.ofNat (sc.toNat % 256)]) mb2 rfl
  refine qJ ?_; repeat' (first | ((with_reducible apply qI) <;> try simp only [qN, qC, qE, qG, qD, qA, qF, seval, qQ, qO, qP, qL, qY, qZ, zC, qW, qU]))
  refine xW vA Tryz.underlying22 rfl (s22.trans sb2) (o22.hs sb2) rb2.src (by rw [vB]; simp) fun v23 h23 s23 x23 o23 => ?_
  have q23 : arr (4 * 2) (ob ⟨sa, sb, sc, sd, se, sf, sg', sh⟩) ++ [UInt8.ofNat (sc.toNat / 16777216 % 256), UInt8.ofNat (sc.toNat / 65536 % 256), UInt8.ofNat (sc.toNat / 256 % 256), UInt8.ofNat (sc.toNat % 256)] = arr (4 * 3) (ob ⟨sa, sb, sc, sd, se, sf, sg', sh⟩) := by rw [← zH1 _ 2]; simp only [ob, S8.at]; simp
  rw [q23] at o23
  refine qJ ?_; repeat' (first | ((with_reducible first | apply qI | apply qB) <;> try simp only [qN, qC, qE, qG, qD, qA, qF, seval, qQ, qO, qP, qL, qY, qZ, zC, qW, qU]))
  refine xJ ?_
  refine qJ ?_; repeat' (first | (with_reducible first | apply qK | apply qS) | ((with_reducible first | apply qI | apply qB | apply qR | apply qT) <;> try simp only [qN, qC, qE, qG, qD, qA, qF, seval, qQ, qO, qP, qL, qY, qZ, zC, qW, qU, qA, vw, sn1, sn2, sn3, uN]))
  refine fJ (cs := ([UInt8.ofNat (sd.toNat / 16777216 % 256), UInt8.ofNat (sd.toNat / 65536 % 256), UInt8.ofNat (sd.toNat / 256 % 256), UInt8.ofNat (sd.toNat % 256)] : List UInt8).map bv) vA rfl (by decide) (by decide) (by rw [wD _ rfl]; rfl) rfl fun kb3 hb3 mb3 sb3 fb3 nb3 => ?_
  have rb3 : RB hb3 (.slice (some ⟨kb3, 0, none⟩) 4 9) [UInt8.ofNat (sd.toNat / 16777216 % 256), UInt8.ofNat (sd.toNat / 65536 % 256), UInt8.ofNat (sd.toNat / 256 % 256), UInt8.ofNat (sd.toNat % 256)] := yN (l := [UInt8.ofNat (sd.toNat / 16777216 % 256), UInt8.ofNat (sd.toNat / 65536 % 256), UInt8.ofNat (sd.toNat / 256 % 256), UInt8.ofNat (sd.toNat % 256)]) mb3 rfl
  refine qJ ?_; repeat' (first | ((with_reducible apply qI) <;> try simp only [qN, qC, qE, qG, qD, qA, qF, seval, qQ, qO, qP, qL, qY, qZ, zC, qW, qU]))
  refine xW vA Tryz.underlying22 rfl (s23.trans sb3) (o23.hs sb3) rb3.src (by rw [vB]; simp) fun v24 h24 s24 x24 o24 => ?_
  have q24 : arr (4 * 3) (ob ⟨sa, sb, sc, sd, se, sf, sg', sh⟩) ++ [UInt8.ofNat (sd.toNat / 16777216 % 256), UInt8.ofNat (sd.toNat / 65536 % 256), UInt8.ofNat (sd.toNat / 256 % 256), UInt8.ofNat (sd.toNat % 256)] = arr (4 * 4) (ob ⟨sa, sb, sc, sd, se, sf, sg', sh⟩) := by rw [← zH1 _ 3]; simp only [ob, S8.at]; simp
  rw [q24] at o24
  refine qJ ?_; repeat' (first | ((with_reducible first | apply qI | apply qB) <;> try simp only [qN, qC, qE, qG, qD, qA, qF, seval, qQ, qO, qP, qL, qY, qZ, zC, qW, qU]))
  refine xJ ?_
  refine qJ ?_; repeat' (first | (with_reducible first | apply qK | apply qS) | ((with_reducible first | apply qI | apply qB | apply qR | apply qT) <;> try simp only [qN, qC, qE, qG, qD, qA, qF, seval, qQ, qO, qP, qL, qY, qZ, zC, qW, qU, qA, vw, sn1, sn2, sn3, uN]))
  refine fJ (cs := ([UInt8.ofNat (se.toNat / 16777216 % 256), UInt8.ofNat (se.toNat / 65536 % 256), UInt8.ofNat (se.toNat / 256 % 256), UInt8.ofNat (se.toNat % 256)] : List UInt8).map bv) vA rfl (by decide) (by decide) (by rw [wD _ rfl]; rfl) rfl fun kb4 hb4 mb4 sb4 fb4 nb4 => ?_
  have rb4 : RB hb4 (.slice (some ⟨kb4, 0, none⟩) 4 9) [UInt8.ofNat (se.toNat / 16777216 % 256), UInt8.ofNat (se.toNat / 65536 % 256), UInt8.ofNat (se.toNat / 256 % 256), UInt8.ofNat (se.toNat % 256)] := yN (l := [UInt8.ofNat (se.toNat / 16777216 % 256), UInt8.ofNat (se.toNat / 65536 % 256), UInt8.ofNat (se.toNat / 256 % 256), UInt8.ofNat (se.toNat % 256)]) mb4 rfl
  refine qJ ?_; repeat' (first | ((with_reducible apply qI) <;> try simp only [qN, qC, qE, qG, qD, qA, qF, seval, qQ, qO, qP, qL, qY, qZ, zC, qW, qU]))
  refine xW vA Tryz.underlying22 rfl (s24.trans sb4) (o24.hs sb4) rb4.src (by rw [vB]; simp) fun v25 h25 s25 x25 o25 => ?_
  have q25 : arr (4 * 4) (ob ⟨sa, sb, sc, sd, se, sf, sg', sh⟩) ++ [UInt8.ofNat (se.toNat / 16777216 % 256), UInt8.ofNat (se.toNat / 65536 % 256), UInt8.ofNat (se.toNat / 256 % 256), UInt8.ofNat (se.toNat % 256)] = arr (4 * 5) (ob ⟨sa, sb, sc, sd, se, sf, sg', sh⟩) := by rw [← zH1 _ 4]; simp only [ob, S8.at]; simp
  rw [q25] at o25
  refine qJ ?_; repeat' (first | ((with_reducible first | apply qI | apply qB) <;> try simp only [qN, qC, qE, qG, qD, qA, qF, seval, qQ, qO, qP, qL, qY, qZ, zC, qW, qU]))
  refine xJ ?_
  refine qJ ?_; repeat' (first | (with_reducible first | apply qK | apply qS) | ((with_reducible first | apply qI | apply qB | apply qR | apply qT) <;> try simp only [qN, qC, qE, qG, qD, qA, qF, seval, qQ, qO, qP, qL, qY, qZ, zC, qW, qU, qA, vw, sn1, sn2, sn3, uN]))
  refine fJ (cs := ([UInt8.ofNat (sf.toNat / 16777216 % 256), UInt8.ofNat (sf.toNat / 65536 % 256), UInt8.ofNat (sf.toNat / 256 % 256), UInt8.ofNat (sf.toNat % 256)] : List UInt8).map bv) vA rfl (by decide) (by decide) (by rw [wD _ rfl]; rfl) rfl fun kb5 hb5 mb5 sb5 fb5 nb5 => ?_
  have rb5 : RB hb5 (.slice (some ⟨kb5, 0, none⟩) 4 9) [UInt8.ofNat (sf.toNat / 16777216 % 256), UInt8.ofNat (sf.toNat / 65536 % 256), UInt8.ofNat (sf.toNat / 256 % 256), UInt8.ofNat (sf.toNat % 256)] := yN (l := [UInt8.ofNat (sf.toNat / 16777216 % 256), UInt8.ofNat (sf.toNat / 65536 % 256), UInt8.ofNat (sf.toNat / 256 % 256), UInt8.ofNat (sf.toNat % 256)]) mb5 rfl
  refine qJ ?_; repeat' (first | ((with_reducible apply qI) <;> try simp only [qN, qC, qE, qG, qD, qA, qF, seval, qQ, qO, qP, qL, qY, qZ, zC, qW, qU]))
  refine xW vA Tryz.underlying22 rfl (s25.trans sb5) (o25.hs sb5) rb5.src (by rw [vB]; simp) fun v26 h26 s26 x26 o26 => ?_
  have q26 : arr (4 * 5) (ob ⟨sa, sb, sc, sd, se, sf, sg', sh⟩) ++ [UInt8.ofNat (sf.toNat / 16777216 % 256), UInt8.ofNat (sf.toNat / 65536 % 256), UInt8.ofNat (sf.toNat / 256 % 256), UInt8.ofNat (sf.toNat % 256)] = arr (4 * 6) (ob ⟨sa, sb, sc, sd, se, sf, sg', sh⟩) := by rw [← zH1 _ 5]; simp only [ob, S8.at]; simp
  rw [q26] at o26
  refine qJ ?_; repeat' (first | ((with_reducible first | apply qI | apply qB) <;> try simp only [qN, qC, qE, qG, qD, qA, qF, seval, qQ, qO, qP, qL, qY, qZ, zC, qW, qU]))
  refine xJ ?_
  refine qJ ?_; repeat' (first | (with_reducible first | apply qK | apply qS) | ((with_reducible first | apply qI | apply qB | apply qR | apply qT) <;> try simp only [qN, qC, qE, qG, qD, qA, qF, seval, qQ, qO, qP, qL, qY, qZ, zC, qW, qU, qA, vw, sn1, sn2, sn3, uN]))
  refine fJ (cs := ([UInt8.ofNat (sg'.toNat / 16777216 % 256), UInt8.ofNat (sg'.toNat / 65536 % 256), UInt8.ofNat (sg'.toNat / 256 % 256), UInt8.ofNat (sg'.toNat % 256)] : List UInt8).map bv) vA rfl (by decide) (by decide) (by rw [wD _ rfl]; rfl) rfl fun kb6 hb6 mb6 sb6 fb6 nb6 => ?_
  have rb6 : RB hb6 (.slice (some ⟨kb6, 0, none⟩) 4 9) [UInt8.ofNat (sg'.toNat / 16777216 % 256), UInt8.ofNat (sg'.toNat / 65536 % 256), UInt8.ofNat (sg'.toNat / 256 % 256), UInt8.ofNat (sg'.toNat % 256)] := yN (l := [UInt8.ofNat (sg'.toNat / 16777216 % 256), UInt8.ofNat (sg'.toNat / 65536 % 256), UInt8.ofNat (sg'.toNat / 256 % 256), UInt8.ofNat (sg'.toNat % 256)]) mb6 rfl
  refine qJ ?_; repeat' (first | ((with_reducible apply qI) <;> try simp only [qN, qC, qE, qG, qD, qA, qF, seval, qQ, qO, qP, qL, qY, qZ, zC, qW, qU]))
  refine xW vA Tryz.underlying22 rfl (s26.trans sb6) (o26.hs sb6) rb6.src (by rw [vB]; simp) fun v27 h27 s27 x27 o27 => ?_
  have q27 : arr (4 * 6) (ob ⟨sa, sb, sc, sd, se, sf, sg', sh⟩) ++ [UInt8.ofNat (sg'.toNat / 16777216 % 256), UInt8.ofNat (sg'.toNat / 65536 % 256), UInt8.ofNat (sg'.toNat / 256 % 256), UInt8.ofNat (sg'.toNat % 256)] = arr (4 * 7) (ob ⟨sa, sb, sc, sd, se, sf, sg', sh⟩) := by rw [← zH1 _ 6]; simp only [ob, S8.at]; simp
  rw [q27] at o27
  refine qJ ?_; repeat' (first | ((with_reducible first | apply qI | apply qB) <;> try simp only [qN, qC, qE, qG, qD, qA, qF, seval, qQ, qO, qP, qL, qY, qZ, zC, qW, qU]))
  refine xJ ?_
  refine qJ ?_; repeat' (first | (with_reducible first | apply qK | apply qS) | ((with_reducible first | apply qI | apply qB | apply qR | apply qT) <;> try simp only [qN, qC, qE, qG, qD, qA, qF, seval, qQ, qO, qP, qL, qY, qZ, zC, qW, qU, qA, vw, sn1, sn2, sn3, uN]))
  refine fJ (cs := ([UInt8.ofNat (sh.toNat / 16777216 % 256), UInt8.ofNat (sh.toNat / 65536 % 256), UInt8.ofNat (sh.toNat / 256 % 256), UInt8.ofNat (sh.toNat % 256)] : List UInt8).map bv) vA rfl (by decide) (by decide) (by rw [wD _ rfl]; rfl) rfl fun kb7 hb7 mb7 sb7 fb7 nb7 => ?_
  have rb7 : RB hb7 (.slice (some ⟨kb7, 0, none⟩) 4 9) [UInt8.ofNat (sh.toNat / 16777216 % 256), UInt8.ofNat (sh.toNat / 65536 % 256), UInt8.ofNat (sh.toNat / 256 % 256), UInt8.ofNat (sh.toNat % 256)] := yN (l := [UInt8.ofNat (sh.toNat / 16777216 % 256), UInt8.ofNat (sh.toNat / 65536 % 256), UInt8.ofNat (sh.toNat / 256 % 256), UInt8.ofNat (sh.toNat % 256)]) mb7 rfl
  refine qJ ?_; repeat' (first | ((with_reducible apply qI) <;> try simp only [qN, qC, qE, qG, qD, qA, qF, seval, qQ, qO, qP, qL, qY, qZ, zC, qW, qU]))
  refine xW vA Tryz.underlying22 rfl (s27.trans sb7) (o27.hs sb7) rb7.src (by rw [vB]; simp) fun v28 h28 s28 x28 o28 => ?_
  have q28 : arr (4 * 7) (ob ⟨sa, sb, sc, sd, se, sf, sg', sh⟩) ++ [UInt8.ofNat (sh.toNat / 16777216 % 256), UInt8.ofNat (sh.toNat / 65536 % 256), UInt8.ofNat (sh.toNat / 256 % 256), UInt8.ofNat (sh.toNat % 256)] = arr (4 * 8) (ob ⟨sa, sb, sc, sd, se, sf, sg', sh⟩) := by rw [← zH1 _ 7]; simp only [ob, S8.at]; simp
  rw [q28] at o28
  refine qJ ?_; repeat' (first | ((with_reducible first | apply qI | apply qB) <;> try simp only [qN, qC, qE, qG, qD, qA, qF, seval, qQ, qO, qP, qL, qY, qZ, zC, qW, qU]))
  refine xJ ?_
  refine qJ ?_; repeat' (first | with_reducible apply qK | ((with_reducible first | apply qI | apply qB | apply qR | apply xT | apply qM) <;> try simp only [qN, qC, qE, qG, qD, qA, qF, seval, qQ, qO, qP, qL, qY, qZ, zC, qW, qU]))
  have e32 : arr (4 * 8) (ob ⟨sa, sb, sc, sd, se, sf, sg', sh⟩) = qP2 l := by rw [hF]; rfl
  rw [e32] at o28
  obtain ⟨a28, c28, e28⟩ := o28.form
  rw [fU] at e28
  subst e28
  exact ⟨Sj.trans s28, a28, c28, rfl, o28.rb⟩
theorem zL3 (N : Nat) {h : GH} {a : Option Addr} {n c : Nat} {l : List UInt8} (r : RB h (.slice a n c) l) (hb : l.length ≤ 35184372088832) (k : Int) : GTri Tryz.prog N 62 [.int .i64 k, .slice a n c] h fun v h' => HS h h' ∧ ∃ a c, v = .slice a (vS k l).length c ∧ RB h' (.slice a (vS k l).length c) (vS k l) := by
  have mm : (if (if (32 : Int) < k then (32 : Int) else k) > (0 : Int) then (if (32 : Int) < k then (32 : Int) else k) else (0 : Int)) = (((min (max k 0) 32).toNat : Nat) : Int) := by split <;> split <;> omega
  have hm : (min (max k 0) 32).toNat ≤ 32 := by omega
  have hc : vS k l = (qP2 l).take (min (max k 0) 32).toNat := rfl
  generalize (min (max k 0) 32).toNat = m at mm hm hc
  refine zU Tryz.func62 rfl gf62 ok62 (by simp [Tryz.ntmps62]) ?_
  repeat' (first | with_reducible apply qK | ((with_reducible apply qB) <;> try simp only [qN, qC, qE, qG, qD, qA, qF, seval, qQ, qO, qP, qS7]))
  refine (c_rSum N r hb).mono ?_
  rintro _ h1 ⟨s1, a1, c1, rfl, r1⟩
  obtain ⟨a2, c2, q2, r2, _⟩ := r1.cut Tryz.underlying22 sH (hi := (m : Int)) (by omega) (by rw [fU]; omega) .i64
  rw [Int.toNat_natCast] at q2 r2
  have e : m = (vS k l).length := by rw [hc, List.length_take, fU]; omega
  refine qJ ?_; repeat' (first | ((with_reducible first | apply qI | apply qM) <;> try simp only [qN, qC, qE, qG, qD, qA, qF, seval, qQ, qO, qP, qS7, mm, q2]))
  rw [← hc] at r2
  rw [← e]
  exact ⟨s1, a2, c2, rfl, r2⟩
theorem rY : type_of% (And.intro zF (And.intro xB (And.intro wF (And.intro zA1 rs122)))) := And.intro zF (And.intro xB (And.intro wF (And.intro zA1 rs122)))
theorem wC : type_of% (And.intro zF (And.intro jA (And.intro xB (And.intro wF (And.intro zA1 rs75))))) := And.intro zF (And.intro jA (And.intro xB (And.intro wF (And.intro zA1 rs75))))
theorem c_Grow (N : Nat) (h : GH) (s : Nat) (hs : s ≤ 140737488355328) : GTri Tryz.prog N 122 [.slice none 0 0, .int .i64 s] h fun v h' => HS h h' ∧ ((s = 0 ∧ v = .slice none 0 0) ∨ (0 < s ∧ ∃ k, v = .slice (some ⟨k, 0, none⟩) 0 (2 * s) ∧ h k = none ∧ BUF h' k s [])) := by
  have w1 : IntKind.i64.wrap ((s : Int) - 0) = s := by rw [Int.sub_zero]; exact lG (by omega)
  refine zU Tryz.func122 rfl gf122 ok122 (by simp [Tryz.ntmps122]) ?_
  by_cases h0 : s = 0
  · subst h0
    repeat' (first | with_reducible apply qK | ((with_reducible first | apply qB | apply qR | apply qT | apply qM) <;> try simp only [qN, qC, qE, qG, qD, qA, qF, seval, qQ, qO, qP, rY, zD3]))
    exact ⟨HS.refl h, .inl trivial⟩
  · have d0 : decide ((s : Int) > 0) = true := decide_eq_true (by omega)
    repeat' (first | with_reducible apply qK | ((with_reducible first | apply qB | apply qR | apply qT) <;> try simp only [qN, qC, qE, qG, qD, qA, qF, seval, qQ, qO, qP, rY, zD3, qY7, d0, w1, zJ3 Tryz.underlying22 sH]))
    refine qO9 vA Tryz.underlying3 (by omega) hs fun k h' hb hS hk => ?_
    simp only [qN, qC, qE, qG, qD, qA, qF, seval, qQ, qO, qP, rY, zC0 Tryz.underlying22 sH]
    repeat' (first | with_reducible apply qK | ((with_reducible first | apply qB | apply qM) <;> try simp only [qN, qC, qE, qG, qD, qA, qF, seval, qQ, qO, qP, rY]))
    exact ⟨hS, .inr ⟨by omega, k, rfl, hk, hb⟩⟩
theorem zT6 (N : Nat) (h : GH) {k es : Nat} {wr tl : Bool} {a b : Option Addr} {n m c d : Nat} {l1 l2 : List UInt8} (hk : h k = some ⟨[.slice a n c, .slice b m d], es, wr, tl⟩) (r1 : RB h (.slice a n c) l1) (r2 : RB h (.slice b m d) l2) (hn : n = l1.length) (hm : m = l2.length)
    (hs : l1.length + l2.length ≤ 140737488355328) : GTri Tryz.prog N 75 [.slice (some ⟨k, 0, none⟩) 2 5] h fun v h' => HS h h' ∧ ∃ a' c', v = .slice a' (l1.length + l2.length) c' ∧ RB h' v (l1 ++ l2) ∧ AP h h' v 1 := by
  subst hn; subst hm
  have w1 : IntKind.i64.wrap (0 + (l1.length : Int)) = l1.length := by rw [Int.zero_add]; exact lG (by omega)
  have w2 : IntKind.i64.wrap ((l1.length : Int) + (l2.length : Int)) = ((l1.length + l2.length : Nat) : Int) := zA4 (by omega)
  have i0 : zJ Tryz.prog 36 (.slice (some ⟨k, 0, none⟩) 2 5) 0 = some (.pointer (some ⟨k, 0, none⟩)) := by simp [zJ, Tryz.underlying36, zD]
  have i1 : zJ Tryz.prog 36 (.slice (some ⟨k, 0, none⟩) 2 5) 1 = some (.pointer (some ⟨k, 1, none⟩)) := by simp [zJ, Tryz.underlying36, zD]
  refine zU Tryz.func75 rfl gf75 ok75 (by simp [Tryz.ntmps75]) ?_
  repeat' (first | (with_reducible first | apply qK | apply qS) | ((with_reducible apply qB) <;> try simp only [qN, qC, qE, qG, qD, qA, qF, seval, qQ, qO, qP, wC]))
  refine dU (xJ ?_)
  repeat' (first | (with_reducible first | apply qK | apply qS) | ((with_reducible first | apply qB | apply qR | apply qT) <;> try simp only [qN, qC, qE, qG, qD, qA, qF, seval, qQ, qO, qP, wC, i0, qH hk zD, w1, qY7]))
  refine xJ ?_
  repeat' (first | (with_reducible first | apply qK | apply qS) | ((with_reducible first | apply qB | apply qR | apply qT) <;> try simp only [qN, qC, qE, qG, qD, qA, qF, seval, qQ, qO, qP, wC, i1, qH hk zD, w2, qY7]))
  refine xJ ?_
  repeat' (first | with_reducible apply qK | ((with_reducible first | apply qB | apply qR | apply xT) <;> try simp only [qN, qC, qE, qG, qD, qA, qF, seval, qQ, qO, qP, wC]))
  refine (c_Grow N h (l1.length + l2.length) hs).mono ?_
  rintro v h1 ⟨s1, hv⟩
  have r1' := r1.hs s1
  have r2' := r2.hs s1
  have hk1 := s1 _ _ hk
  rcases hv with ⟨h0, rfl⟩ | ⟨h0, kb, rfl, hkb, hb⟩
  · have e1 : l1 = [] := List.eq_nil_of_length_eq_zero (by omega)
    have e2 : l2 = [] := List.eq_nil_of_length_eq_zero (by omega)
    subst e1; subst e2
    simp only [qN, qC, qE, qG, qD, qA, qF, seval, qQ, qO, qP, wC]
    repeat' (first | (with_reducible first | apply qK | apply qS) | ((with_reducible apply qB) <;> try simp only [qN, qC, qE, qG, qD, qA, qF, seval, qQ, qO, qP, wC]))
    refine dU (xJ ?_)
    repeat' (first | (with_reducible first | apply qK | apply qS) | ((with_reducible first | apply qB | apply qR | apply qT) <;> try simp only [qN, qC, qE, qG, qD, qA, qF, seval, qQ, qO, qP, wC, i0, qH hk1 zD]))
    refine qH8 vA Tryz.underlying22 rfl r1'.src ?_
    simp only [qN, qC, qE, qG, qD, qA, qF, seval, qQ, qO, qP, wC]
    repeat' (first | ((with_reducible apply qB) <;> try simp only [qN, qC, qE, qG, qD, qA, qF, seval, qQ, qO, qP, wC]))
    refine xJ ?_
    repeat' (first | (with_reducible first | apply qK | apply qS) | ((with_reducible first | apply qB | apply qR | apply qT) <;> try simp only [qN, qC, qE, qG, qD, qA, qF, seval, qQ, qO, qP, wC, i1, qH hk1 zD]))
    refine qH8 vA Tryz.underlying22 rfl r2'.src ?_
    simp only [qN, qC, qE, qG, qD, qA, qF, seval, qQ, qO, qP, wC]
    repeat' (first | ((with_reducible apply qB) <;> try simp only [qN, qC, qE, qG, qD, qA, qF, seval, qQ, qO, qP, wC]))
    refine xJ ?_
    repeat' (first | with_reducible apply qK | ((with_reducible first | apply qB | apply qR | apply xT | apply qM) <;> try simp only [qN, qC, qE, qG, qD, qA, qF, seval, qQ, qO, qP, wC]))
    exact ⟨s1, none, 0, rfl, .inl ⟨0, rfl, rfl⟩, .inl ⟨0, rfl⟩⟩
  · simp only [qN, qC, qE, qG, qD, qA, qF, seval, qQ, qO, qP, wC]
    repeat' (first | (with_reducible first | apply qK | apply qS) | ((with_reducible apply qB) <;> try simp only [qN, qC, qE, qG, qD, qA, qF, seval, qQ, qO, qP, wC]))
    refine dU (xJ ?_)
    repeat' (first | (with_reducible first | apply qK | apply qS) | ((with_reducible first | apply qB | apply qR | apply qT) <;> try simp only [qN, qC, qE, qG, qD, qA, qF, seval, qQ, qO, qP, wC, i0, qH hk1 zD]))
    refine qP0 vA Tryz.underlying22 rfl hb rfl r1'.src (by simp) (by omega) fun h2 hb2 f2 => ?_
    have s2 := s1.upd hkb f2
    have r2'' := r2.hs s2
    have hk2 := s2 _ _ hk
    simp only [qN, qC, qE, qG, qD, qA, qF, seval, qQ, qO, qP, wC, List.nil_append]
    repeat' (first | ((with_reducible apply qB) <;> try simp only [qN, qC, qE, qG, qD, qA, qF, seval, qQ, qO, qP, wC]))
    refine xJ ?_
    repeat' (first | (with_reducible first | apply qK | apply qS) | ((with_reducible first | apply qB | apply qR | apply qT) <;> try simp only [qN, qC, qE, qG, qD, qA, qF, seval, qQ, qO, qP, wC, i1, qH hk2 zD]))
    refine qP0 vA Tryz.underlying22 rfl hb2 (by simp) r2''.src (by simp) (by omega) fun h3 hb3 f3 => ?_
    have s3 := s2.upd hkb f3
    simp only [qN, qC, qE, qG, qD, qA, qF, seval, qQ, qO, qP, wC, List.nil_append]
    repeat' (first | ((with_reducible apply qB) <;> try simp only [qN, qC, qE, qG, qD, qA, qF, seval, qQ, qO, qP, wC]))
    refine xJ ?_
    repeat' (first | with_reducible apply qK | ((with_reducible first | apply qB | apply qR | apply xT | apply qM) <;> try simp only [qN, qC, qE, qG, qD, qA, qF, seval, qQ, qO, qP, wC]))
    rw [List.nil_append] at hb3
    have hr := hb3.rb
    have ha := hb3.ap (h0 := h) (by simp) hkb
    rw [List.length_append] at hr ha
    rw [Nat.zero_add]
    exact ⟨s3, _, _, rfl, hr, ha⟩
theorem rI : type_of% (And.intro mW (And.intro zF (And.intro jA (And.intro xB (And.intro wF rs38))))) := And.intro mW (And.intro zF (And.intro jA (And.intro xB (And.intro wF rs38))))
theorem sR : type_of% (And.intro mW (And.intro zF (And.intro xB (And.intro wF rs53)))) := And.intro mW (And.intro zF (And.intro xB (And.intro wF rs53)))
def zL (l : List UInt8) : List UInt8 := UInt8.ofNat (min l.length 255) :: l.take 255
theorem qW7 (l : List UInt8) : [UInt8.ofNat (min l.length 255)] ++ l.take (min l.length 255) = zL l := by
  have : l.take (min l.length 255) = l.take 255 := by
    rw [List.take_eq_take_iff]; omega
  rw [this]; rfl
theorem vV (l : List UInt8) : (zL l).length = min l.length 255 + 1 := by simp [zL]; omega
theorem qO1 (N : Nat) (h : GH) {a : Option Addr} {n c : Nat} {l : List UInt8} (r : RB h (.slice a n c) l) (hn : n = l.length) : GTri Tryz.prog N 38 [.slice a n c] h fun v h' => HS h h' ∧ ∃ a' c', v = .slice a' (zL l).length c' ∧ RB h' v (zL l) ∧ AP h h' v 1 := by
  subst hn
  refine zU Tryz.func38 rfl gf38 ok38 (by simp [Tryz.ntmps38]) ?_
  have mn : (if (255 : Int) < (l.length : Int) then (255 : Int) else (l.length : Int)) = ((min l.length 255 : Nat) : Int) := qL3 _ 255
  obtain ⟨a1, c1, q1, r1, _⟩ := r.cut Tryz.underlying22 sH (hi := ((min l.length 255 : Nat) : Int)) (by omega) (by omega) .i64
  rw [Int.toNat_natCast] at q1 r1
  have w1 : IntKind.u8.wrap ((min l.length 255 : Nat) : Int) = ((min l.length 255 : Nat) : Int) := sJ (by omega) (by omega)
  repeat' (first | with_reducible apply qK | ((with_reducible apply qB) <;> try simp only [qN, qC, qE, qG, qD, qA, qF, seval, qQ, qO, qP, rI, mn, q1, w1]))
  refine fJ (cs := [.int .u8 ((min l.length 255 : Nat) : Int)]) vA rfl (by decide) (by decide) (by rw [wD _ rfl]; rfl) rfl fun k1 h1 m1 s1 f1 n1 => ?_
  simp only [qN, qC, qE, qG, qD, qA, qF, seval, qQ, qO, qP, rI]
  refine fJ (cs := [.slice (some ⟨k1, 0, none⟩) 1 3, .slice a1 (min l.length 255) c1]) qP8 rfl (by decide) (by decide) (by rw [wD _ rfl]; rfl) rfl fun k2 h2 m2 s2 f2 n2 => ?_
  simp only [qN, qC, qE, qG, qD, qA, qF, seval, qQ, qO, qP, rI]
  have b1 : RB h1 (.slice (some ⟨k1, 0, none⟩) 1 3) [UInt8.ofNat (min l.length 255)] := by
    rw [bv_nat _ (by omega)] at m1
    exact yN (l := [UInt8.ofNat (min l.length 255)]) m1 rfl
  refine (zT6 N h2 m2 (b1.hs s2) (r1.hs (s1.trans s2)) rfl (by simp) (by simp; omega)).mono ?_
  rintro v h3 ⟨s3, a', c', rfl, hr, ha⟩
  simp only [qN, qC, qE, qG, qD, qA, qF, seval, qQ, qO, qP, rI]
  repeat' (first | ((with_reducible apply qM) <;> try simp only [qN, qC, qE, qG, qD, qA, qF, seval, qQ, qO, qP, rI]))
  rw [qW7] at hr
  have e : [UInt8.ofNat (min l.length 255)].length + (l.take (min l.length 255)).length = (zL l).length := by rw [← qW7, List.length_append]
  rw [e] at hr ha
  refine ⟨(s1.trans s2).trans s3, a', c', ?_, ?_, ?_⟩
  · rw [← e]; rfl
  · show RB _ (.slice a' ([UInt8.ofNat (min l.length 255)].length + (l.take (min l.length 255)).length) c') _
    rw [e]; exact hr
  · show AP _ _ (.slice a' ([UInt8.ofNat (min l.length 255)].length + (l.take (min l.length 255)).length) c') _
    rw [e]; exact ha.weak (s1.trans s2)
theorem pR (N : Nat) (h : GH) {a : Option Addr} {n c : Nat} {l : List UInt8} (r : RB h (.slice a n c) l) (hn : n = l.length) : GTri Tryz.prog N 53 [.slice a n c] h fun v h' => HS h h' ∧ ∃ a' c', v = .slice a' (zL l).length c' ∧ RB h' v (zL l) ∧ AP h h' v 1 := by
  subst hn
  refine zU Tryz.func53 rfl gf53 ok53 (by simp [Tryz.ntmps53]) ?_
  have mn : (if (255 : Int) < (l.length : Int) then (255 : Int) else (l.length : Int)) = ((min l.length 255 : Nat) : Int) := qL3 _ 255
  obtain ⟨a1, c1, q1, r1, _⟩ := r.cut Tryz.underlying22 sH (hi := ((min l.length 255 : Nat) : Int)) (by omega) (by omega) .i64
  rw [Int.toNat_natCast] at q1 r1
  have w1 : IntKind.u8.wrap ((min l.length 255 : Nat) : Int) = ((min l.length 255 : Nat) : Int) := sJ (by omega) (by omega)
  repeat' (first | with_reducible apply qK | ((with_reducible apply qB) <;> try simp only [qN, qC, qE, qG, qD, qA, qF, seval, qQ, qO, qP, sR, mn, w1]))
  refine fJ (cs := [.int .u8 ((min l.length 255 : Nat) : Int)]) vA rfl (by decide) (by decide) (by rw [wD _ rfl]; rfl) rfl fun k1 h1 m1 s1 f1 n1 => ?_
  obtain ⟨a1, c1, q1, r1, _⟩ := (r.hs s1).cut Tryz.underlying22 sH (hi := ((min l.length 255 : Nat) : Int)) (by omega) (by omega) .i64
  rw [Int.toNat_natCast] at q1 r1
  simp only [qN, qC, qE, qG, qD, qA, qF, seval, qQ, qO, qP, sR, q1]
  have b1 : RB h1 (.slice (some ⟨k1, 0, none⟩) 1 3) [UInt8.ofNat (min l.length 255)] := by
    rw [bv_nat _ (by omega)] at m1
    exact yN (l := [UInt8.ofNat (min l.length 255)]) m1 rfl
  refine jI vA Tryz.underlying22 rfl s1 b1 (.inr (.inl ⟨_, 1, rfl⟩)) r1.src (by simp; omega) fun v h2 s2 _ _ ha hr => ?_
  rw [qW7] at hr
  obtain ⟨a', c', rfl, _⟩ := hr.form
  simp only [qN, qC, qE, qG, qD, qA, qF, seval, qQ, qO, qP, sR]
  repeat' (first | ((with_reducible apply qM) <;> try simp only [qN, qC, qE, qG, qD, qA, qF, seval, qQ, qO, qP, sR]))
  exact ⟨s2, a', c', rfl, hr, ha⟩
theorem zE0 : type_of% (And.intro zF (And.intro wF rs146)) := And.intro zF (And.intro wF rs146)
theorem c_bcmp (N : Nat) (h : GH) {v u : Value} {l m : List UInt8} (r1 : RB h v l) (r2 : RB h u m) : GTri Tryz.prog N 157 [v, u] h fun x h' => x = .int .i64 (Lib.compareBytes l m) ∧ h' = h :=
  gtri_cmp Tryz.func157 (by kernel_rfl) (by kernel_rfl) (by kernel_rfl) (by kernel_rfl) r1 r2
theorem zT7 (N : Nat) (h : GH) {v u : Value} {l m : List UInt8} (r1 : RB h v l) (r2 : RB h u m) : GTri Tryz.prog N 146 [v, u] h fun x h' => x = .int .i64 (Lib.compareBytes l m) ∧ h' = h := by
  refine zU Tryz.func146 rfl gf146 ok146 (by simp [Tryz.ntmps146]) ?_
  repeat' (first | with_reducible apply qK | ((first | (with_reducible first | apply qB | apply qM) | ((refine GTri.mono (c_bcmp _ _ r1 r2) ?_); rintro _ _ ⟨rfl, rfl⟩)) <;> try simp only [qN, qC, qE, qG, qD, qA, qF, seval, qQ, qO, qP, zE0]))
theorem pP : type_of% (And.intro qT4 (And.intro xB (And.intro wF (And.intro zA1 rs156)))) := And.intro qT4 (And.intro xB (And.intro wF (And.intro zA1 rs156)))
theorem zD9 : type_of% (And.intro xB (And.intro wF rs137)) := And.intro xB (And.intro wF rs137)
theorem rH : type_of% (And.intro zF (And.intro xB (And.intro wF rs98))) := And.intro zF (And.intro xB (And.intro wF rs98))
def dG (x : Nat) : Nat := if x = 0 then 0 else Nat.log2 x + 1
theorem c_Len8 (N : Nat) (h : GH) (x : UInt8) : GTri Tryz.prog N 156 [bv x] h fun v h' => v = .int .i64 (dG x.toNat) ∧ h' = h := by
  refine zU Tryz.func156 rfl gf156 ok156 (by simp [Tryz.ntmps156]) ?_
  repeat' (first | with_reducible apply qK | ((with_reducible apply qB) <;> try simp only [qN, qC, qE, qG, qD, qA, qF, seval, qQ, qO, qP, pP, bv]))
  have hx := x.toNat_lt
  have hl : dG x.toNat < 256 := by
    unfold dG
    split
    · omega
    · have : Nat.log2 x.toNat < 8 := (Nat.log2_lt (by omega)).2 (by omega)
      omega
  rw [if_pos (by omega), Int.toNat_natCast, tab_at (f := dG)]
  · have e : ((UInt8.ofNat (dG x.toNat)).toNat : Int) = (dG x.toNat : Int) := by
      rw [UInt8.toNat_ofNat_of_lt' (by simpa using hl)]
    have w : IntKind.i64.wrap (dG x.toNat : Int) = (dG x.toNat : Int) := wrap64 (by omega) (by omega)
    simp only [qN, qC, qE, qG, qD, qA, qF, seval, qQ, qO, qP, pP, e, w]
    repeat' (first | ((with_reducible apply qM) <;> try simp only [qN, qC, qE, qG, qD, qA, qF, seval, qQ, qO, qP, pP]))
  · decide +kernel
theorem c_Lead (N : Nat) (h : GH) (x : UInt8) : GTri Tryz.prog N 137 [bv x] h fun v h' => v = .int .i64 ((8 - dG x.toNat : Nat) : Int) ∧ h' = h := by
  have hx := x.toNat_lt
  have hl : dG x.toNat ≤ 8 := by
    unfold dG
    split
    · omega
    · have : Nat.log2 x.toNat < 8 := (Nat.log2_lt (by omega)).2 (by omega)
      omega
  have w : IntKind.i64.wrap (8 - (dG x.toNat : Int)) = ((8 - dG x.toNat : Nat) : Int) := by
    rw [wrap64 (by omega) (by omega)]; omega
  refine zU Tryz.func137 rfl gf137 ok137 (by simp [Tryz.ntmps137]) ?_
  repeat' (first | with_reducible apply qK | ((first | (with_reducible first | apply qB | apply qM) | ((refine GTri.mono (c_Len8 _ _ x) ?_); rintro _ _ ⟨rfl, rfl⟩)) <;> try simp only [qN, qC, qE, qG, qD, qA, qF, seval, qQ, qO, qP, zD9, w]))
def yW : List UInt8 → List UInt8 → Nat
  | a :: l, b :: m => if a = b then 8 + yW l m else 8 - dG (a ^^^ b).toNat
  | _, _ => 0
theorem zN4 : ∀ {l m : List UInt8} {i : Nat} {x y : UInt8}, l.take i = m.take i → l[i]? = some x → m[i]? = some y → x ≠ y → yW l m = 8 * i + (8 - dG (x ^^^ y).toNat)
  | [], _, _, _, _, _, h, _, _ => by simp at h
  | _ :: _, [], _, _, _, _, _, h, _ => by simp at h
  | a :: l, b :: m, 0, x, y, _, h1, h2, h3 => by
    simp at h1 h2
    subst h1; subst h2
    simp [yW, h3]
  | a :: l, b :: m, i + 1, x, y, h, h1, h2, h3 => by
    simp only [List.take_succ_cons, List.cons.injEq] at h
    obtain ⟨rfl, h⟩ := h
    simp at h1 h2
    simp only [yW, if_true]
    rw [zN4 h h1 h2 h3]
    omega
theorem zB2 : ∀ {l m : List UInt8} {i : Nat}, l.take i = m.take i → i = min l.length m.length → yW l m = 8 * i
  | [], m, i, _, h => by simp at h; subst h; cases m <;> rfl
  | _ :: _, [], i, _, h => by simp at h; subst h; rfl
  | a :: l, b :: m, 0, _, h => by simp at h
  | a :: l, b :: m, i + 1, h, h2 => by
    simp only [List.take_succ_cons, List.cons.injEq] at h
    obtain ⟨rfl, h⟩ := h
    simp only [yW, if_true]
    rw [zB2 h (by simp at h2; omega)]
    omega
theorem qB7 (N : Nat) (h : GH) {a b : Option Addr} {n m c d : Nat} {l k : List UInt8} (r1 : RB h (.slice a n c) l) (r2 : RB h (.slice b m d) k) (hn : n = l.length) (hm : m = k.length) (hb : l.length ≤ 140737488355328) : GTri Tryz.prog N 98 [.slice a n c, .slice b m d] h fun v h' => v = .int .i64 (yW l k) ∧ h' = h := by
  subst hn; subst hm
  have mn : (if (k.length : Int) < (l.length : Int) then (k.length : Int) else (l.length : Int)) = ((min l.length k.length : Nat) : Int) := qL3 _ _
  obtain ⟨a1, c1, q1, r3, _⟩ := r1.cut Tryz.underlying22 sH (hi := ((min l.length k.length : Nat) : Int)) (by omega) (by omega) .i64
  rw [Int.toNat_natCast] at q1 r3
  refine zU Tryz.func98 rfl gf98 ok98 (by simp [Tryz.ntmps98]) ?_
  repeat' (first | (with_reducible first | apply qK | apply qS) | ((with_reducible apply qB) <;> try simp only [qN, qC, qE, qG, qD, qA, qF, seval, qQ, qO, qP, rH, mn, q1]))
  refine qW6 (fun q e h' => ∃ i : Nat, i ≤ min l.length k.length ∧ q = min l.length k.length - i ∧ h' = h ∧ l.take i = k.take i ∧ e = [(17, .int .i64 i), (16, .int .i64 ((min l.length k.length : Nat) : Int)), (15, .slice a1 (min l.length k.length) c1), (1, .slice b k.length d), (5, .int .i64 ((min l.length k.length : Nat) : Int))]) (min l.length k.length)
    (e0 := [(17, .int .i64 0), (16, .int .i64 ((min l.length k.length : Nat) : Int)), (15, .slice a1 (min l.length k.length) c1), (1, .slice b k.length d), (5, .int .i64 ((min l.length k.length : Nat) : Int))]) (pD (by simp only [List.forall_mem_cons, List.not_mem_nil, false_implies, implies_true, lk, Nat.reduceEqDiff, reduceIte, and_true, true_and])) ⟨0, by omega, rfl, rfl, by simp, rfl⟩ ?_
  rintro q e h' ⟨i, hi, rfl, rfl, ht, rfl⟩
  by_cases h0 : i < min l.length k.length
  · have d0 : decide ((i : Int) < ((min l.length k.length : Nat) : Int)) = true := decide_eq_true (by omega)
    obtain ⟨x, hx⟩ : ∃ x, l[i]? = some x := ⟨l[i]'(by omega), List.getElem?_eq_getElem _⟩
    obtain ⟨y, hy⟩ : ∃ y, k[i]? = some y := ⟨k[i]'(by omega), List.getElem?_eq_getElem _⟩
    obtain ⟨p1, u1, u2⟩ := r3.idx Tryz.underlying22 sH (i := (i : Int)) (by omega) (by simp; omega)
    obtain ⟨p2, u3, u4⟩ := r2.idx Tryz.underlying22 sH (i := (i : Int)) (by omega) (by omega)
    have ex : (l.take (min l.length k.length)).getD i 0 = x := by rw [List.getD, List.getElem?_take_of_lt h0, hx]; rfl
    have ey : k.getD i 0 = y := by rw [List.getD, hy]; rfl
    rw [Int.toNat_natCast, ex] at u2
    rw [Int.toNat_natCast, ey] at u4
    have w1 : IntKind.i64.wrap (8 * (i : Int)) = ((8 * i : Nat) : Int) := by rw [wrap64 (by omega) (by omega)]; omega
    have w2 : IntKind.i64.wrap ((i : Int) + 1) = ((i + 1 : Nat) : Int) := by rw [wrap64 (by omega) (by omega)]; omega
    have bx : Value.int .u8 (bits .xor .u8 (x.toNat : Int) (y.toNat : Int)) = bv (x ^^^ y) := by
      rw [(qZ6 x.toNat_lt y.toNat_lt).2.2, bv, UInt8.toNat_xor]
    repeat' (first | (with_reducible first | apply qK | apply qS) | ((first | (with_reducible first | apply qB | apply qR | apply qT) | (with_reducible apply qA0 <;> intro hb <;> (try simp only [hb]))) <;> try simp only [qN, qC, qE, qG, qD, qA, qF, seval, qQ, qO, qP, rH, d0, u1, u2, u3, u4, bv, w1, w2]))
    · rw [bx]
      have hne : x ≠ y := by rintro rfl; simp at hb
      have w3 := zA4 (n := 8 * i) (m := 8 - dG (x ^^^ y).toNat) (by omega)
      refine (c_Lead _ _ _).mono ?_
      rintro _ _ ⟨rfl, rfl⟩
      simp only [qN, qC, qE, qG, qD, qA, qF, seval, qQ, qO, qP, rH, w3]
      repeat' (first | ((with_reducible apply qM) <;> try simp only [qN, qC, qE, qG, qD, qA, qF, seval, qQ, qO, qP, rH]))
      rw [zN4 ht hx hy hne]
    · have he : x = y := by
        simp only [bne_eq_false_iff_eq] at hb
        exact UInt8.toNat_inj.1 (by omega)
      refine ⟨_, _, ?_, ?_, i + 1, ?_, rfl, ?_, rfl⟩
      · omega
      · exact (pD (by simp only [List.forall_mem_cons, List.not_mem_nil, false_implies, implies_true, lk, Nat.reduceEqDiff, reduceIte, and_true, true_and]))
      · omega
      · rw [List.take_add_one, List.take_add_one, ht, hx, hy, he]
  · have d0 : decide ((i : Int) < ((min l.length k.length : Nat) : Int)) = false := decide_eq_false (by omega)
    have w1 : IntKind.i64.wrap (8 * ((min l.length k.length : Nat) : Int)) = ((8 * min l.length k.length : Nat) : Int) := by rw [wrap64 (by omega) (by omega)]; omega
    repeat' (first | with_reducible apply qK | ((with_reducible first | apply qB | apply qR | apply xT | apply qM) <;> try simp only [qN, qC, qE, qG, qD, qA, qF, seval, qQ, qO, qP, rH, d0, w1]))
    have e : i = min l.length k.length := by omega
    rw [zB2 ht e, e]
end Go.Gh
