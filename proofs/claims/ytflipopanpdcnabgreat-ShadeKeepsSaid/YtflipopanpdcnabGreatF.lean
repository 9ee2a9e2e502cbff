/- What the translation says of its functions and types, for the evaluator: printed by mkfacts.py. -/
import Derived.Test.YtflipopanpdcnabGreatProg
import Derived.Test.YtflipopanpdcnabGreatGxK
namespace Go.Proofs.YtflipopanpdcnabGreat
open Go.Gx Go.RowKit
set_option maxRecDepth 100000
theorem fu4 : Tryz.prog.funcs[4]? = some Tryz.f4 := by kernel_rfl
theorem fu5 : Tryz.prog.funcs[5]? = some Tryz.f5 := by kernel_rfl
theorem fu7 : Tryz.prog.funcs[7]? = some Tryz.f7 := by kernel_rfl
theorem fu8 : Tryz.prog.funcs[8]? = some Tryz.f8 := by kernel_rfl
theorem fu14 : Tryz.prog.funcs[14]? = some Tryz.f14 := by kernel_rfl
theorem fu18 : Tryz.prog.funcs[18]? = some Tryz.f18 := by kernel_rfl
theorem fu20 : Tryz.prog.funcs[20]? = some Tryz.f20 := by kernel_rfl
theorem fu21 : Tryz.prog.funcs[21]? = some Tryz.f21 := by kernel_rfl
theorem fu22 : Tryz.prog.funcs[22]? = some Tryz.f22 := by kernel_rfl
theorem fu23 : Tryz.prog.funcs[23]? = some Tryz.f23 := by kernel_rfl
theorem fu25 : Tryz.prog.funcs[25]? = some Tryz.f25 := by kernel_rfl
theorem fu26 : Tryz.prog.funcs[26]? = some Tryz.f26 := by kernel_rfl
theorem fu27 : Tryz.prog.funcs[27]? = some Tryz.f27 := by kernel_rfl
theorem fu30 : Tryz.prog.funcs[30]? = some Tryz.f30 := by kernel_rfl
theorem fu37 : Tryz.prog.funcs[37]? = some Tryz.f37 := by kernel_rfl
theorem fu38 : Tryz.prog.funcs[38]? = some Tryz.f38 := by kernel_rfl
theorem fu39 : Tryz.prog.funcs[39]? = some Tryz.f39 := by kernel_rfl
theorem fu40 : Tryz.prog.funcs[40]? = some Tryz.f40 := by kernel_rfl
theorem fu41 : Tryz.prog.funcs[41]? = some Tryz.f41 := by kernel_rfl
theorem fu42 : Tryz.prog.funcs[42]? = some Tryz.f42 := by kernel_rfl
theorem fu43 : Tryz.prog.funcs[43]? = some Tryz.f43 := by kernel_rfl
theorem fu44 : Tryz.prog.funcs[44]? = some Tryz.f44 := by kernel_rfl
theorem fu45 : Tryz.prog.funcs[45]? = some Tryz.f45 := by kernel_rfl
theorem fu46 : Tryz.prog.funcs[46]? = some Tryz.f46 := by kernel_rfl
theorem fu47 : Tryz.prog.funcs[47]? = some Tryz.f47 := by kernel_rfl
theorem fu48 : Tryz.prog.funcs[48]? = some Tryz.f48 := by kernel_rfl
theorem fu49 : Tryz.prog.funcs[49]? = some Tryz.f49 := by kernel_rfl
theorem fu50 : Tryz.prog.funcs[50]? = some Tryz.f50 := by kernel_rfl
theorem fu51 : Tryz.prog.funcs[51]? = some Tryz.f51 := by kernel_rfl
theorem fu61 : Tryz.prog.funcs[61]? = some Tryz.f61 := by kernel_rfl
theorem fu62 : Tryz.prog.funcs[62]? = some Tryz.f62 := by kernel_rfl
theorem fu63 : Tryz.prog.funcs[63]? = some Tryz.f63 := by kernel_rfl
theorem fu64 : Tryz.prog.funcs[64]? = some Tryz.f64 := by kernel_rfl
theorem fu65 : Tryz.prog.funcs[65]? = some Tryz.f65 := by kernel_rfl
theorem fu66 : Tryz.prog.funcs[66]? = some Tryz.f66 := by kernel_rfl
theorem fu67 : Tryz.prog.funcs[67]? = some Tryz.f67 := by kernel_rfl
theorem fu74 : Tryz.prog.funcs[74]? = some Tryz.f74 := by kernel_rfl
theorem fu75 : Tryz.prog.funcs[75]? = some Tryz.f75 := by kernel_rfl
theorem fu77 : Tryz.prog.funcs[77]? = some Tryz.f77 := by kernel_rfl
theorem fu79 : Tryz.prog.funcs[79]? = some Tryz.f79 := by kernel_rfl
theorem fu81 : Tryz.prog.funcs[81]? = some Tryz.f81 := by kernel_rfl
theorem fu83 : Tryz.prog.funcs[83]? = some Tryz.f83 := by kernel_rfl
theorem fu84 : Tryz.prog.funcs[84]? = some Tryz.f84 := by kernel_rfl
theorem fu86 : Tryz.prog.funcs[86]? = some Tryz.f86 := by kernel_rfl
theorem fu87 : Tryz.prog.funcs[87]? = some Tryz.f87 := by kernel_rfl
theorem fu90 : Tryz.prog.funcs[90]? = some Tryz.f90 := by kernel_rfl
theorem fu93 : Tryz.prog.funcs[93]? = some Tryz.f93 := by kernel_rfl
theorem fu94 : Tryz.prog.funcs[94]? = some Tryz.f94 := by kernel_rfl
theorem fu97 : Tryz.prog.funcs[97]? = some Tryz.f97 := by kernel_rfl
theorem fu98 : Tryz.prog.funcs[98]? = some Tryz.f98 := by kernel_rfl
theorem fu99 : Tryz.prog.funcs[99]? = some Tryz.f99 := by kernel_rfl
theorem fu100 : Tryz.prog.funcs[100]? = some Tryz.f100 := by kernel_rfl
theorem fu101 : Tryz.prog.funcs[101]? = some Tryz.f101 := by kernel_rfl
theorem mixed : Tryz.prog.follows .mixedOrders = true := by kernel_rfl
theorem ft :
  Tryz.f4.results.toList = [.tmp 2] ∧
  Tryz.f4.ntmps = 22 ∧
  Tryz.f5.results.toList = [.tmp 2] ∧
  Tryz.f5.ntmps = 26 ∧
  Tryz.f7.results.toList = [.tmp 2] ∧
  Tryz.f7.ntmps = 52 ∧
  Tryz.f8.results.toList = [.tmp 4] ∧
  Tryz.f8.ntmps = 14 ∧
  Tryz.f14.results.toList = [.tmp 4] ∧
  Tryz.f14.ntmps = 23 ∧
  Tryz.f16.results.toList = [.tmp 4] ∧
  Tryz.f16.ntmps = 10 ∧
  Tryz.f18.results.toList = [.tmp 2] ∧
  Tryz.f18.ntmps = 24 ∧
  Tryz.f20.results.toList = [.tmp 2] ∧
  Tryz.f20.ntmps = 11 ∧
  Tryz.f21.results.toList = [.tmp 2, .tmp 3] ∧
  Tryz.f21.ntmps = 25 ∧
  Tryz.f22.results.toList = [.tmp 4] ∧
  Tryz.f22.ntmps = 13 ∧
  Tryz.f23.results.toList = [.tmp 2, .tmp 3] ∧
  Tryz.f23.ntmps = 9 ∧
  Tryz.f25.results.toList = [.cell 2 68] ∧
  Tryz.f25.ntmps = 21 ∧
  Tryz.f26.results.toList = [.tmp 2, .tmp 3] ∧
  Tryz.f26.ntmps = 12 ∧
  Tryz.f27.results.toList = [.tmp 2] ∧
  Tryz.f27.ntmps = 21 ∧
  Tryz.f28.results.toList = [.tmp 4, .tmp 5] ∧
  Tryz.f28.ntmps = 16 ∧
  Tryz.f29.results.toList = [.tmp 4, .tmp 5] ∧
  Tryz.f29.ntmps = 14 ∧
  Tryz.f30.results.toList = [.cell 4 77, .tmp 5] ∧
  Tryz.f30.ntmps = 69 ∧
  Tryz.f37.results.toList = [.tmp 4] ∧
  Tryz.f37.ntmps = 26 ∧
  Tryz.f38.results.toList = [.tmp 2] ∧
  Tryz.f38.ntmps = 23 ∧
  Tryz.f39.results.toList = [.tmp 2] ∧
  Tryz.f39.ntmps = 49 ∧
  Tryz.f40.results.toList = [.tmp 2, .tmp 3] ∧
  Tryz.f40.ntmps = 73 ∧
  Tryz.f41.results.toList = [.cell 2 99] ∧
  Tryz.f41.ntmps = 19 ∧
  Tryz.f42.results.toList = [.tmp 2] ∧
  Tryz.f42.ntmps = 11 ∧
  Tryz.f43.results.toList = [.tmp 2] ∧
  Tryz.f43.ntmps = 5 ∧
  Tryz.f44.results.toList = [.tmp 2] ∧
  Tryz.f44.ntmps = 18 ∧
  Tryz.f45.results.toList = [.tmp 6] ∧
  Tryz.f45.ntmps = 24 ∧
  Tryz.f46.results.toList = [.tmp 2] ∧
  Tryz.f46.ntmps = 15 ∧
  Tryz.f47.results.toList = [.tmp 8, .tmp 9] ∧
  Tryz.f47.ntmps = 25 ∧
  Tryz.f48.results.toList = [.tmp 4] ∧
  Tryz.f48.ntmps = 11 ∧
  Tryz.f49.results.toList = [.tmp 4] ∧
  Tryz.f49.ntmps = 16 ∧
  Tryz.f50.results.toList = [.tmp 2, .tmp 3] ∧
  Tryz.f50.ntmps = 9 ∧
  Tryz.f51.results.toList = [.tmp 4] ∧
  Tryz.f51.ntmps = 7 ∧
  Tryz.f61.results.toList = [.cell 0 122] ∧
  Tryz.f61.ntmps = 7 ∧
  Tryz.f62.results.toList = [.tmp 2] ∧
  Tryz.f62.ntmps = 5 ∧
  Tryz.f63.results.toList = [.tmp 4] ∧
  Tryz.f63.ntmps = 9 ∧
  Tryz.f64.results.toList = [.tmp 2] ∧
  Tryz.f64.ntmps = 25 ∧
  Tryz.f65.results.toList = [.tmp 3] ∧
  Tryz.f65.ntmps = 7 ∧
  Tryz.f66.results.toList = [.cell 2 128, .tmp 3] ∧
  Tryz.f66.ntmps = 27 ∧
  Tryz.f67.results.toList = [.tmp 4, .tmp 5] ∧
  Tryz.f67.ntmps = 23 ∧
  Tryz.f74.results.toList = [.tmp 2] ∧
  Tryz.f74.ntmps = 3 ∧
  Tryz.f75.results.toList = [.tmp 2] ∧
  Tryz.f75.ntmps = 6 ∧
  Tryz.f77.results.toList = [.tmp 2] ∧
  Tryz.f77.ntmps = 17 ∧
  Tryz.f78.results.toList = [.tmp 2] ∧
  Tryz.f78.ntmps = 6 ∧
  Tryz.f79.results.toList = [.tmp 2] ∧
  Tryz.f79.ntmps = 12 ∧
  Tryz.f81.results.toList = [.tmp 2] ∧
  Tryz.f81.ntmps = 5 ∧
  Tryz.f83.results.toList = [.tmp 4] ∧
  Tryz.f83.ntmps = 19 ∧
  Tryz.f84.results.toList = [.tmp 0] ∧
  Tryz.f84.ntmps = 3 ∧
  Tryz.f86.results.toList = [.cell 2 128, .tmp 3] ∧
  Tryz.f86.ntmps = 30 ∧
  Tryz.f87.results.toList = [.tmp 2] ∧
  Tryz.f87.ntmps = 25 ∧
  Tryz.f90.results.toList = [.tmp 4] ∧
  Tryz.f90.ntmps = 28 ∧
  Tryz.f93.results.toList = [.tmp 4, .tmp 5] ∧
  Tryz.f93.ntmps = 20 ∧
  Tryz.f94.results.toList = [.tmp 2, .tmp 3] ∧
  Tryz.f94.ntmps = 13 ∧
  Tryz.f97.results.toList = [.tmp 4, .tmp 5] ∧
  Tryz.f97.ntmps = 23 ∧
  Tryz.f98.results.toList = [.tmp 6, .tmp 7] ∧
  Tryz.f98.ntmps = 15 ∧
  Tryz.f99.results.toList = [.tmp 1] ∧
  Tryz.f99.ntmps = 5 ∧
  Tryz.f100.results.toList = [.cell 0 167] ∧
  Tryz.f100.ntmps = 2 ∧
  Tryz.f101.results.toList = [.tmp 4] ∧
  Tryz.f101.ntmps = 29 ∧
  Tryz.f104.results.toList = [.tmp 2, .tmp 3] ∧
  Tryz.f104.ntmps = 9 ∧
  Tryz.f107.results.toList = [.tmp 2, .tmp 3] ∧
  Tryz.f107.ntmps = 52 ∧
  tiof Tryz.prog 2 = some ⟨1, false, [.int .i64 0], .it .i64⟩ ∧
  tiof Tryz.prog 3 = some ⟨1, false, [.int .i64 0], .it .i64⟩ ∧
  tiof Tryz.prog 4 = some ⟨1, false, [.bool false], .bo⟩ ∧
  tiof Tryz.prog 5 = some ⟨1, false, [.int .u8 0], .it .u8⟩ ∧
  tiof Tryz.prog 9 = some ⟨1, false, [.string ⟨#[]⟩], .str⟩ ∧
  tiof Tryz.prog 22 = some ⟨1, false, [.slice none 0 0], .sl 1 51⟩ ∧
  tiof Tryz.prog 24 = some ⟨3, true, [.int .i64 0, .int .i64 0, .slice none 0 0], .st [(0, 1, 3), (1, 1, 3), (2, 1, 22)] true⟩ ∧
  tiof Tryz.prog 25 = some ⟨1, false, [.slice none 0 0], .sl 1 28⟩ ∧
  tiof Tryz.prog 28 = some ⟨1, false, [.int .u64 0], .it .u64⟩ ∧
  tiof Tryz.prog 36 = some ⟨1, false, [.int .i64 0], .it .i64⟩ ∧
  tiof Tryz.prog 51 = some ⟨1, false, [.string ⟨#[]⟩], .str⟩ ∧
  tiof Tryz.prog 58 = some ⟨4, true, [.int .i64 0, .int .i64 0, .int .i64 0, .int .i64 0], .st [(0, 1, 3), (1, 1, 3), (2, 1, 3), (3, 1, 3)] true⟩ ∧
  tiof Tryz.prog 66 = some ⟨1, false, [.int .i64 0], .it .i64⟩ ∧
  tiof Tryz.prog 68 = some ⟨3, true, [.int .i64 0, .bool false, .int .i64 0], .st [(0, 1, 66), (1, 1, 4), (2, 1, 2)] true⟩ ∧
  tiof Tryz.prog 75 = some ⟨1, false, [.int .i64 0], .it .i64⟩ ∧
  tiof Tryz.prog 77 = some ⟨3, true, [.int .i64 0, .int .i64 0, .int .i64 0], .st [(0, 1, 75), (1, 1, 3), (2, 1, 3)] true⟩ ∧
  tiof Tryz.prog 94 = some ⟨1, false, [.nilFunc], .fu⟩ ∧
  tiof Tryz.prog 97 = some ⟨1, false, [.int .u64 0], .it .u64⟩ ∧
  tiof Tryz.prog 99 = some ⟨2, true, [.int .u64 0, .int .i64 0], .st [(0, 1, 97), (1, 1, 66)] true⟩ ∧
  tiof Tryz.prog 103 = some ⟨1, false, [.slice none 0 0], .sl 1 3⟩ ∧
  tiof Tryz.prog 107 = some ⟨1, false, [.nilFunc], .fu⟩ ∧
  tiof Tryz.prog 109 = some ⟨3, true, [.int .i64 0, .int .i64 0, .slice none 0 0], .st [(0, 3, 24)] true⟩ ∧
  tiof Tryz.prog 118 = some ⟨1, false, [.nilFunc], .fu⟩ ∧
  tiof Tryz.prog 119 = some ⟨1, false, [.nilFunc], .fu⟩ ∧
  tiof Tryz.prog 121 = some ⟨5, true, [.string ⟨#[]⟩, .nilFunc, .int .i64 0, .int .i64 0, .nilFunc], .st [(0, 1, 9), (1, 1, 118), (2, 1, 2), (3, 1, 2), (4, 1, 119)] true⟩ ∧
  tiof Tryz.prog 122 = some ⟨25, true, [.string ⟨#[]⟩, .nilFunc, .int .i64 0, .int .i64 0, .nilFunc, .string ⟨#[]⟩, .nilFunc, .int .i64 0, .int .i64 0, .nilFunc, .string ⟨#[]⟩, .nilFunc, .int .i64 0, .int .i64 0, .nilFunc, .string ⟨#[]⟩, .nilFunc, .int .i64 0, .int .i64 0, .nilFunc, .string ⟨#[]⟩, .nilFunc, .int .i64 0, .int .i64 0, .nilFunc], .ar 5 5 121⟩ ∧
  tiof Tryz.prog 126 = some ⟨1, false, [.int .i64 0], .it .i64⟩ ∧
  tiof Tryz.prog 128 = some ⟨2, true, [.int .i64 0, .int .i64 0], .st [(0, 1, 3), (1, 1, 126)] true⟩ ∧
  tiof Tryz.prog 147 = some ⟨2, true, [.int .i64 0, .int .i64 0], .st [(0, 2, 128)] true⟩ ∧
  tiof Tryz.prog 166 = some ⟨1, false, [.nilFunc], .fu⟩ ∧
  tiof Tryz.prog 167 = some ⟨3, true, [.string ⟨#[]⟩, .string ⟨#[]⟩, .string ⟨#[]⟩], .ar 3 1 9⟩ ∧
  fnOk Tryz.prog 4 = true ∧
  fnOk Tryz.prog 5 = true ∧
  fnOk Tryz.prog 7 = true ∧
  fnOk Tryz.prog 8 = true ∧
  fnOk Tryz.prog 14 = true ∧
  fnOk Tryz.prog 16 = true ∧
  fnOk Tryz.prog 18 = true ∧
  fnOk Tryz.prog 20 = true ∧
  fnOk Tryz.prog 21 = true ∧
  fnOk Tryz.prog 22 = true ∧
  fnOk Tryz.prog 23 = true ∧
  fnOk Tryz.prog 25 = true ∧
  fnOk Tryz.prog 26 = true ∧
  fnOk Tryz.prog 27 = true ∧
  fnOk Tryz.prog 28 = true ∧
  fnOk Tryz.prog 29 = true ∧
  fnOk Tryz.prog 30 = true ∧
  fnOk Tryz.prog 37 = true ∧
  fnOk Tryz.prog 38 = true ∧
  fnOk Tryz.prog 39 = true ∧
  fnOk Tryz.prog 40 = true ∧
  fnOk Tryz.prog 41 = true ∧
  fnOk Tryz.prog 42 = true ∧
  fnOk Tryz.prog 43 = true ∧
  fnOk Tryz.prog 44 = true ∧
  fnOk Tryz.prog 45 = true ∧
  fnOk Tryz.prog 46 = true ∧
  fnOk Tryz.prog 47 = true ∧
  fnOk Tryz.prog 48 = true ∧
  fnOk Tryz.prog 49 = true ∧
  fnOk Tryz.prog 50 = true ∧
  fnOk Tryz.prog 51 = true ∧
  fnOk Tryz.prog 61 = true ∧
  fnOk Tryz.prog 62 = true ∧
  fnOk Tryz.prog 63 = true ∧
  fnOk Tryz.prog 64 = true ∧
  fnOk Tryz.prog 65 = true ∧
  fnOk Tryz.prog 66 = true ∧
  fnOk Tryz.prog 67 = true ∧
  fnOk Tryz.prog 74 = true ∧
  fnOk Tryz.prog 75 = true ∧
  fnOk Tryz.prog 76 = true ∧
  fnOk Tryz.prog 77 = true ∧
  fnOk Tryz.prog 78 = true ∧
  fnOk Tryz.prog 79 = true ∧
  fnOk Tryz.prog 80 = true ∧
  fnOk Tryz.prog 81 = true ∧
  fnOk Tryz.prog 82 = true ∧
  fnOk Tryz.prog 83 = true ∧
  fnOk Tryz.prog 84 = true ∧
  fnOk Tryz.prog 86 = true ∧
  fnOk Tryz.prog 87 = true ∧
  fnOk Tryz.prog 90 = true ∧
  fnOk Tryz.prog 93 = true ∧
  fnOk Tryz.prog 94 = true ∧
  fnOk Tryz.prog 97 = true ∧
  fnOk Tryz.prog 98 = true ∧
  fnOk Tryz.prog 99 = true ∧
  fnOk Tryz.prog 100 = true ∧
  fnOk Tryz.prog 101 = true ∧
  fnOk Tryz.prog 104 = true ∧
  fnOk Tryz.prog 107 = true :=
 ⟨rfl, rfl, rfl, rfl, rfl, rfl, rfl, rfl, rfl, rfl, rfl, rfl, rfl, rfl, rfl, rfl, rfl, rfl, rfl, rfl, rfl, rfl, rfl, rfl, rfl, rfl, rfl, rfl, rfl, rfl, rfl, rfl, rfl, rfl, rfl, rfl, rfl, rfl, rfl, rfl, rfl, rfl, rfl, rfl, rfl, rfl, rfl, rfl, rfl, rfl, rfl, rfl, rfl, rfl, rfl, rfl, rfl, rfl, rfl, rfl, rfl, rfl, rfl, rfl, rfl, rfl, rfl, rfl, rfl, rfl, rfl, rfl, rfl, rfl, rfl, rfl, rfl, rfl, rfl, rfl, rfl, rfl, rfl, rfl, rfl, rfl, rfl, rfl, rfl, rfl, rfl, rfl, rfl, rfl, rfl, rfl, rfl, rfl, rfl, rfl, rfl, rfl, rfl, rfl, rfl, rfl, rfl, rfl, rfl, rfl, rfl, rfl, rfl, rfl, rfl, rfl, rfl, rfl, (by kernel_rfl), (by kernel_rfl), (by kernel_rfl), (by kernel_rfl), (by kernel_rfl), (by kernel_rfl), (by kernel_rfl), (by kernel_rfl), (by kernel_rfl), (by kernel_rfl), (by kernel_rfl), (by kernel_rfl), (by kernel_rfl), (by kernel_rfl), (by kernel_rfl), (by kernel_rfl), (by kernel_rfl), (by kernel_rfl), (by kernel_rfl), (by kernel_rfl), (by kernel_rfl), (by kernel_rfl), (by kernel_rfl), (by kernel_rfl), (by kernel_rfl), (by kernel_rfl), (by kernel_rfl), (by kernel_rfl), (by kernel_rfl), (by kernel_rfl), (by kernel_rfl), (by kernel_rfl), (by kernel_rfl), (by kernel_rfl), (by kernel_rfl), (by kernel_rfl), (by kernel_rfl), (by kernel_rfl), (by kernel_rfl), (by kernel_rfl), (by kernel_rfl), (by kernel_rfl), (by kernel_rfl), (by kernel_rfl), (by kernel_rfl), (by kernel_rfl), (by kernel_rfl), (by kernel_rfl), (by kernel_rfl), (by kernel_rfl), (by kernel_rfl), (by kernel_rfl), (by kernel_rfl), (by kernel_rfl), (by kernel_rfl), (by kernel_rfl), (by kernel_rfl), (by kernel_rfl), (by kernel_rfl), (by kernel_rfl), (by kernel_rfl), (by kernel_rfl), (by kernel_rfl), (by kernel_rfl), (by kernel_rfl), (by kernel_rfl), (by kernel_rfl), (by kernel_rfl), (by kernel_rfl), (by kernel_rfl), (by kernel_rfl), (by kernel_rfl), (by kernel_rfl), (by kernel_rfl), (by kernel_rfl), (by kernel_rfl), (by kernel_rfl), (by kernel_rfl), (by kernel_rfl), (by kernel_rfl), (by kernel_rfl), (by kernel_rfl), (by kernel_rfl), (by kernel_rfl), (by kernel_rfl), (by kernel_rfl), (by kernel_rfl), (by kernel_rfl), (by kernel_rfl), (by kernel_rfl), (by kernel_rfl), (by kernel_rfl), (by kernel_rfl)⟩
end Go.Proofs.YtflipopanpdcnabGreat
