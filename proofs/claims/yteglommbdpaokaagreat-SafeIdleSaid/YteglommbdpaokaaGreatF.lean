/- What the translation says of its functions and types, for the evaluator: printed by mkfacts.py. -/
import Derived.Test.YteglommbdpaokaaGreatProg
import Derived.Test.YteglommbdpaokaaGreatGxK
namespace Go.Proofs.YteglommbdpaokaaGreat
open Go.Gx Go.RowKit
set_option maxRecDepth 100000
theorem fu4 : Tryz.prog.funcs[4]? = some Tryz.f4 := by kernel_rfl
theorem fu7 : Tryz.prog.funcs[7]? = some Tryz.f7 := by kernel_rfl
theorem fu15 : Tryz.prog.funcs[15]? = some Tryz.f15 := by kernel_rfl
theorem fu17 : Tryz.prog.funcs[17]? = some Tryz.f17 := by kernel_rfl
theorem fu22 : Tryz.prog.funcs[22]? = some Tryz.f22 := by kernel_rfl
theorem fu23 : Tryz.prog.funcs[23]? = some Tryz.f23 := by kernel_rfl
theorem fu24 : Tryz.prog.funcs[24]? = some Tryz.f24 := by kernel_rfl
theorem fu25 : Tryz.prog.funcs[25]? = some Tryz.f25 := by kernel_rfl
theorem fu26 : Tryz.prog.funcs[26]? = some Tryz.f26 := by kernel_rfl
theorem fu35 : Tryz.prog.funcs[35]? = some Tryz.f35 := by kernel_rfl
theorem fu36 : Tryz.prog.funcs[36]? = some Tryz.f36 := by kernel_rfl
theorem fu38 : Tryz.prog.funcs[38]? = some Tryz.f38 := by kernel_rfl
theorem fu39 : Tryz.prog.funcs[39]? = some Tryz.f39 := by kernel_rfl
theorem fu41 : Tryz.prog.funcs[41]? = some Tryz.f41 := by kernel_rfl
theorem fu42 : Tryz.prog.funcs[42]? = some Tryz.f42 := by kernel_rfl
theorem fu50 : Tryz.prog.funcs[50]? = some Tryz.f50 := by kernel_rfl
theorem fu51 : Tryz.prog.funcs[51]? = some Tryz.f51 := by kernel_rfl
theorem fu65 : Tryz.prog.funcs[65]? = some Tryz.f65 := by kernel_rfl
theorem fu74 : Tryz.prog.funcs[74]? = some Tryz.f74 := by kernel_rfl
theorem fu75 : Tryz.prog.funcs[75]? = some Tryz.f75 := by kernel_rfl
theorem fu76 : Tryz.prog.funcs[76]? = some Tryz.f76 := by kernel_rfl
theorem fu79 : Tryz.prog.funcs[79]? = some Tryz.f79 := by kernel_rfl
theorem fu80 : Tryz.prog.funcs[80]? = some Tryz.f80 := by kernel_rfl
theorem fu81 : Tryz.prog.funcs[81]? = some Tryz.f81 := by kernel_rfl
theorem fu94 : Tryz.prog.funcs[94]? = some Tryz.f94 := by kernel_rfl
theorem fu95 : Tryz.prog.funcs[95]? = some Tryz.f95 := by kernel_rfl
theorem fu96 : Tryz.prog.funcs[96]? = some Tryz.f96 := by kernel_rfl
theorem fu97 : Tryz.prog.funcs[97]? = some Tryz.f97 := by kernel_rfl
theorem fu98 : Tryz.prog.funcs[98]? = some Tryz.f98 := by kernel_rfl
theorem fu99 : Tryz.prog.funcs[99]? = some Tryz.f99 := by kernel_rfl
theorem fu100 : Tryz.prog.funcs[100]? = some Tryz.f100 := by kernel_rfl
theorem fu107 : Tryz.prog.funcs[107]? = some Tryz.f107 := by kernel_rfl
theorem fu108 : Tryz.prog.funcs[108]? = some Tryz.f108 := by kernel_rfl
theorem fu109 : Tryz.prog.funcs[109]? = some Tryz.f109 := by kernel_rfl
theorem fu110 : Tryz.prog.funcs[110]? = some Tryz.f110 := by kernel_rfl
theorem fu111 : Tryz.prog.funcs[111]? = some Tryz.f111 := by kernel_rfl
theorem fu112 : Tryz.prog.funcs[112]? = some Tryz.f112 := by kernel_rfl
theorem fu119 : Tryz.prog.funcs[119]? = some Tryz.f119 := by kernel_rfl
theorem fu120 : Tryz.prog.funcs[120]? = some Tryz.f120 := by kernel_rfl
theorem fu121 : Tryz.prog.funcs[121]? = some Tryz.f121 := by kernel_rfl
theorem fu122 : Tryz.prog.funcs[122]? = some Tryz.f122 := by kernel_rfl
theorem fu124 : Tryz.prog.funcs[124]? = some Tryz.f124 := by kernel_rfl
theorem fu126 : Tryz.prog.funcs[126]? = some Tryz.f126 := by kernel_rfl
theorem fu128 : Tryz.prog.funcs[128]? = some Tryz.f128 := by kernel_rfl
theorem fu130 : Tryz.prog.funcs[130]? = some Tryz.f130 := by kernel_rfl
theorem mixed : Tryz.prog.follows .mixedOrders = true := by kernel_rfl
theorem ft :
  Tryz.f4.results.toList = [.tmp 2] ∧
  Tryz.f4.ntmps = 22 ∧
  Tryz.f7.results.toList = [.tmp 2] ∧
  Tryz.f7.ntmps = 52 ∧
  Tryz.f15.results.toList = [.tmp 2] ∧
  Tryz.f15.ntmps = 26 ∧
  Tryz.f17.results.toList = [.tmp 4] ∧
  Tryz.f17.ntmps = 24 ∧
  Tryz.f22.results.toList = [.tmp 2] ∧
  Tryz.f22.ntmps = 11 ∧
  Tryz.f23.results.toList = [.tmp 2, .tmp 3] ∧
  Tryz.f23.ntmps = 25 ∧
  Tryz.f24.results.toList = [.tmp 4] ∧
  Tryz.f24.ntmps = 13 ∧
  Tryz.f25.results.toList = [.tmp 4] ∧
  Tryz.f25.ntmps = 14 ∧
  Tryz.f26.results.toList = [.tmp 2, .tmp 3] ∧
  Tryz.f26.ntmps = 9 ∧
  Tryz.f35.results.toList = [.tmp 4] ∧
  Tryz.f35.ntmps = 26 ∧
  Tryz.f36.results.toList = [.tmp 2] ∧
  Tryz.f36.ntmps = 24 ∧
  Tryz.f38.results.toList = [.cell 2 93] ∧
  Tryz.f38.ntmps = 50 ∧
  Tryz.f39.results.toList = [.tmp 4] ∧
  Tryz.f39.ntmps = 22 ∧
  Tryz.f41.results.toList = [.tmp 2] ∧
  Tryz.f41.ntmps = 49 ∧
  Tryz.f42.results.toList = [.tmp 2, .tmp 3] ∧
  Tryz.f42.ntmps = 73 ∧
  Tryz.f50.results.toList = [.tmp 2] ∧
  Tryz.f50.ntmps = 23 ∧
  Tryz.f51.results.toList = [.tmp 4] ∧
  Tryz.f51.ntmps = 23 ∧
  Tryz.f59.results.toList = [.tmp 4, .tmp 5] ∧
  Tryz.f59.ntmps = 14 ∧
  Tryz.f65.results.toList = [.tmp 4] ∧
  Tryz.f65.ntmps = 29 ∧
  Tryz.f74.results.toList = [.tmp 8, .tmp 9] ∧
  Tryz.f74.ntmps = 25 ∧
  Tryz.f75.results.toList = [.tmp 4] ∧
  Tryz.f75.ntmps = 7 ∧
  Tryz.f76.results.toList = [.tmp 4] ∧
  Tryz.f76.ntmps = 16 ∧
  Tryz.f79.results.toList = [.tmp 2] ∧
  Tryz.f79.ntmps = 21 ∧
  Tryz.f80.results.toList = [.cell 2 93] ∧
  Tryz.f80.ntmps = 21 ∧
  Tryz.f81.results.toList = [.tmp 4] ∧
  Tryz.f81.ntmps = 28 ∧
  Tryz.f91.results.toList = [.tmp 2, .tmp 3] ∧
  Tryz.f91.ntmps = 12 ∧
  Tryz.f94.results.toList = [.tmp 6] ∧
  Tryz.f94.ntmps = 24 ∧
  Tryz.f95.results.toList = [.tmp 2] ∧
  Tryz.f95.ntmps = 15 ∧
  Tryz.f96.results.toList = [.cell 2 155] ∧
  Tryz.f96.ntmps = 19 ∧
  Tryz.f97.results.toList = [.tmp 2] ∧
  Tryz.f97.ntmps = 11 ∧
  Tryz.f98.results.toList = [.tmp 2] ∧
  Tryz.f98.ntmps = 5 ∧
  Tryz.f99.results.toList = [.tmp 2] ∧
  Tryz.f99.ntmps = 18 ∧
  Tryz.f100.results.toList = [.cell 4 161, .tmp 5] ∧
  Tryz.f100.ntmps = 69 ∧
  Tryz.f101.results.toList = [.tmp 4, .tmp 5] ∧
  Tryz.f101.ntmps = 16 ∧
  Tryz.f107.results.toList = [.tmp 4] ∧
  Tryz.f107.ntmps = 9 ∧
  Tryz.f108.results.toList = [.tmp 2] ∧
  Tryz.f108.ntmps = 25 ∧
  Tryz.f109.results.toList = [.cell 0 175] ∧
  Tryz.f109.ntmps = 7 ∧
  Tryz.f110.results.toList = [.tmp 2] ∧
  Tryz.f110.ntmps = 5 ∧
  Tryz.f111.results.toList = [.tmp 2, .tmp 3] ∧
  Tryz.f111.ntmps = 9 ∧
  Tryz.f112.results.toList = [.tmp 4] ∧
  Tryz.f112.ntmps = 11 ∧
  Tryz.f119.results.toList = [.tmp 4] ∧
  Tryz.f119.ntmps = 19 ∧
  Tryz.f120.results.toList = [.tmp 0] ∧
  Tryz.f120.ntmps = 3 ∧
  Tryz.f121.results.toList = [.tmp 2] ∧
  Tryz.f121.ntmps = 3 ∧
  Tryz.f122.results.toList = [.tmp 2] ∧
  Tryz.f122.ntmps = 6 ∧
  Tryz.f124.results.toList = [.tmp 2] ∧
  Tryz.f124.ntmps = 17 ∧
  Tryz.f125.results.toList = [.tmp 2] ∧
  Tryz.f125.ntmps = 6 ∧
  Tryz.f126.results.toList = [.tmp 2] ∧
  Tryz.f126.ntmps = 12 ∧
  Tryz.f128.results.toList = [.tmp 2] ∧
  Tryz.f128.ntmps = 5 ∧
  Tryz.f130.results.toList = [.tmp 3] ∧
  Tryz.f130.ntmps = 7 ∧
  Tryz.f132.results.toList = [.cell 2 182, .tmp 3] ∧
  Tryz.f132.ntmps = 30 ∧
  Tryz.f133.results.toList = [.tmp 2] ∧
  Tryz.f133.ntmps = 25 ∧
  Tryz.f138.results.toList = [.tmp 4, .tmp 5] ∧
  Tryz.f138.ntmps = 20 ∧
  Tryz.f139.results.toList = [.tmp 2, .tmp 3] ∧
  Tryz.f139.ntmps = 13 ∧
  Tryz.f142.results.toList = [.tmp 4, .tmp 5] ∧
  Tryz.f142.ntmps = 23 ∧
  Tryz.f143.results.toList = [.tmp 6, .tmp 7] ∧
  Tryz.f143.ntmps = 15 ∧
  Tryz.f144.results.toList = [.tmp 1] ∧
  Tryz.f144.ntmps = 5 ∧
  Tryz.f145.results.toList = [.cell 0 215] ∧
  Tryz.f145.ntmps = 2 ∧
  Tryz.f148.results.toList = [.tmp 2, .tmp 3] ∧
  Tryz.f148.ntmps = 9 ∧
  Tryz.f151.results.toList = [.tmp 2, .tmp 3] ∧
  Tryz.f151.ntmps = 52 ∧
  tiof Tryz.prog 2 = some ⟨1, false, [.int .i64 0], .it .i64⟩ ∧
  tiof Tryz.prog 3 = some ⟨1, false, [.int .i64 0], .it .i64⟩ ∧
  tiof Tryz.prog 4 = some ⟨1, false, [.bool false], .bo⟩ ∧
  tiof Tryz.prog 5 = some ⟨1, false, [.int .u8 0], .it .u8⟩ ∧
  tiof Tryz.prog 9 = some ⟨1, false, [.string ⟨#[]⟩], .str⟩ ∧
  tiof Tryz.prog 22 = some ⟨1, false, [.slice none 0 0], .sl 1 54⟩ ∧
  tiof Tryz.prog 24 = some ⟨3, true, [.int .i64 0, .int .i64 0, .slice none 0 0], .st [(0, 1, 3), (1, 1, 3), (2, 1, 22)] true⟩ ∧
  tiof Tryz.prog 28 = some ⟨1, false, [.int .u64 0], .it .u64⟩ ∧
  tiof Tryz.prog 35 = some ⟨1, false, [.slice none 0 0], .sl 1 28⟩ ∧
  tiof Tryz.prog 42 = some ⟨1, false, [.int .i64 0], .it .i64⟩ ∧
  tiof Tryz.prog 48 = some ⟨1, false, [.slice none 0 0], .sl 1 3⟩ ∧
  tiof Tryz.prog 54 = some ⟨1, false, [.string ⟨#[]⟩], .str⟩ ∧
  tiof Tryz.prog 60 = some ⟨1, false, [.nilFunc], .fu⟩ ∧
  tiof Tryz.prog 64 = some ⟨4, true, [.int .i64 0, .int .i64 0, .int .i64 0, .int .i64 0], .st [(0, 1, 3), (1, 1, 3), (2, 1, 3), (3, 1, 3)] true⟩ ∧
  tiof Tryz.prog 91 = some ⟨1, false, [.int .i64 0], .it .i64⟩ ∧
  tiof Tryz.prog 93 = some ⟨3, true, [.int .i64 0, .bool false, .int .i64 0], .st [(0, 1, 91), (1, 1, 4), (2, 1, 2)] true⟩ ∧
  tiof Tryz.prog 106 = some ⟨1, false, [.nilFunc], .fu⟩ ∧
  tiof Tryz.prog 126 = some ⟨1, false, [.nilFunc], .fu⟩ ∧
  tiof Tryz.prog 128 = some ⟨3, true, [.int .i64 0, .int .i64 0, .slice none 0 0], .st [(0, 3, 24)] true⟩ ∧
  tiof Tryz.prog 153 = some ⟨1, false, [.int .u64 0], .it .u64⟩ ∧
  tiof Tryz.prog 155 = some ⟨2, true, [.int .u64 0, .int .i64 0], .st [(0, 1, 153), (1, 1, 91)] true⟩ ∧
  tiof Tryz.prog 159 = some ⟨1, false, [.int .i64 0], .it .i64⟩ ∧
  tiof Tryz.prog 161 = some ⟨3, true, [.int .i64 0, .int .i64 0, .int .i64 0], .st [(0, 1, 159), (1, 1, 3), (2, 1, 3)] true⟩ ∧
  tiof Tryz.prog 171 = some ⟨1, false, [.nilFunc], .fu⟩ ∧
  tiof Tryz.prog 172 = some ⟨1, false, [.nilFunc], .fu⟩ ∧
  tiof Tryz.prog 174 = some ⟨5, true, [.string ⟨#[]⟩, .nilFunc, .int .i64 0, .int .i64 0, .nilFunc], .st [(0, 1, 9), (1, 1, 171), (2, 1, 2), (3, 1, 2), (4, 1, 172)] true⟩ ∧
  tiof Tryz.prog 175 = some ⟨25, true, [.string ⟨#[]⟩, .nilFunc, .int .i64 0, .int .i64 0, .nilFunc, .string ⟨#[]⟩, .nilFunc, .int .i64 0, .int .i64 0, .nilFunc, .string ⟨#[]⟩, .nilFunc, .int .i64 0, .int .i64 0, .nilFunc, .string ⟨#[]⟩, .nilFunc, .int .i64 0, .int .i64 0, .nilFunc, .string ⟨#[]⟩, .nilFunc, .int .i64 0, .int .i64 0, .nilFunc], .ar 5 5 174⟩ ∧
  tiof Tryz.prog 180 = some ⟨1, false, [.int .i64 0], .it .i64⟩ ∧
  tiof Tryz.prog 182 = some ⟨2, true, [.int .i64 0, .int .i64 0], .st [(0, 1, 3), (1, 1, 180)] true⟩ ∧
  tiof Tryz.prog 197 = some ⟨2, true, [.int .i64 0, .int .i64 0], .st [(0, 2, 182)] true⟩ ∧
  tiof Tryz.prog 215 = some ⟨3, true, [.string ⟨#[]⟩, .string ⟨#[]⟩, .string ⟨#[]⟩], .ar 3 1 9⟩ ∧
  fnOk Tryz.prog 4 = true ∧
  fnOk Tryz.prog 7 = true ∧
  fnOk Tryz.prog 15 = true ∧
  fnOk Tryz.prog 17 = true ∧
  fnOk Tryz.prog 22 = true ∧
  fnOk Tryz.prog 23 = true ∧
  fnOk Tryz.prog 24 = true ∧
  fnOk Tryz.prog 25 = true ∧
  fnOk Tryz.prog 26 = true ∧
  fnOk Tryz.prog 35 = true ∧
  fnOk Tryz.prog 36 = true ∧
  fnOk Tryz.prog 38 = true ∧
  fnOk Tryz.prog 39 = true ∧
  fnOk Tryz.prog 41 = true ∧
  fnOk Tryz.prog 42 = true ∧
  fnOk Tryz.prog 50 = true ∧
  fnOk Tryz.prog 51 = true ∧
  fnOk Tryz.prog 59 = true ∧
  fnOk Tryz.prog 65 = true ∧
  fnOk Tryz.prog 74 = true ∧
  fnOk Tryz.prog 75 = true ∧
  fnOk Tryz.prog 76 = true ∧
  fnOk Tryz.prog 79 = true ∧
  fnOk Tryz.prog 80 = true ∧
  fnOk Tryz.prog 81 = true ∧
  fnOk Tryz.prog 91 = true ∧
  fnOk Tryz.prog 94 = true ∧
  fnOk Tryz.prog 95 = true ∧
  fnOk Tryz.prog 96 = true ∧
  fnOk Tryz.prog 97 = true ∧
  fnOk Tryz.prog 98 = true ∧
  fnOk Tryz.prog 99 = true ∧
  fnOk Tryz.prog 100 = true ∧
  fnOk Tryz.prog 101 = true ∧
  fnOk Tryz.prog 107 = true ∧
  fnOk Tryz.prog 108 = true ∧
  fnOk Tryz.prog 109 = true ∧
  fnOk Tryz.prog 110 = true ∧
  fnOk Tryz.prog 111 = true ∧
  fnOk Tryz.prog 112 = true ∧
  fnOk Tryz.prog 119 = true ∧
  fnOk Tryz.prog 120 = true ∧
  fnOk Tryz.prog 121 = true ∧
  fnOk Tryz.prog 122 = true ∧
  fnOk Tryz.prog 123 = true ∧
  fnOk Tryz.prog 124 = true ∧
  fnOk Tryz.prog 125 = true ∧
  fnOk Tryz.prog 126 = true ∧
  fnOk Tryz.prog 127 = true ∧
  fnOk Tryz.prog 128 = true ∧
  fnOk Tryz.prog 129 = true ∧
  fnOk Tryz.prog 130 = true ∧
  fnOk Tryz.prog 132 = true ∧
  fnOk Tryz.prog 133 = true ∧
  fnOk Tryz.prog 138 = true ∧
  fnOk Tryz.prog 139 = true ∧
  fnOk Tryz.prog 142 = true ∧
  fnOk Tryz.prog 143 = true ∧
  fnOk Tryz.prog 144 = true ∧
  fnOk Tryz.prog 145 = true ∧
  fnOk Tryz.prog 148 = true ∧
  fnOk Tryz.prog 151 = true :=
 ⟨rfl, rfl, rfl, rfl, rfl, rfl, rfl, rfl, rfl, rfl, rfl, rfl, rfl, rfl, rfl, rfl, rfl, rfl, rfl, rfl, rfl, rfl, rfl, rfl, rfl, rfl, rfl, rfl, rfl, rfl, rfl, rfl, rfl, rfl, rfl, rfl, rfl, rfl, rfl, rfl, rfl, rfl, rfl, rfl, rfl, rfl, rfl, rfl, rfl, rfl, rfl, rfl, rfl, rfl, rfl, rfl, rfl, rfl, rfl, rfl, rfl, rfl, rfl, rfl, rfl, rfl, rfl, rfl, rfl, rfl, rfl, rfl, rfl, rfl, rfl, rfl, rfl, rfl, rfl, rfl, rfl, rfl, rfl, rfl, rfl, rfl, rfl, rfl, rfl, rfl, rfl, rfl, rfl, rfl, rfl, rfl, rfl, rfl, rfl, rfl, rfl, rfl, rfl, rfl, rfl, rfl, rfl, rfl, rfl, rfl, rfl, rfl, rfl, rfl, rfl, rfl, rfl, rfl, (by kernel_rfl), (by kernel_rfl), (by kernel_rfl), (by kernel_rfl), (by kernel_rfl), (by kernel_rfl), (by kernel_rfl), (by kernel_rfl), (by kernel_rfl), (by kernel_rfl), (by kernel_rfl), (by kernel_rfl), (by kernel_rfl), (by kernel_rfl), (by kernel_rfl), (by kernel_rfl), (by kernel_rfl), (by kernel_rfl), (by kernel_rfl), (by kernel_rfl), (by kernel_rfl), (by kernel_rfl), (by kernel_rfl), (by kernel_rfl), (by kernel_rfl), (by kernel_rfl), (by kernel_rfl), (by kernel_rfl), (by kernel_rfl), (by kernel_rfl), (by kernel_rfl), (by kernel_rfl), (by kernel_rfl), (by kernel_rfl), (by kernel_rfl), (by kernel_rfl), (by kernel_rfl), (by kernel_rfl), (by kernel_rfl), (by kernel_rfl), (by kernel_rfl), (by kernel_rfl), (by kernel_rfl), (by kernel_rfl), (by kernel_rfl), (by kernel_rfl), (by kernel_rfl), (by kernel_rfl), (by kernel_rfl), (by kernel_rfl), (by kernel_rfl), (by kernel_rfl), (by kernel_rfl), (by kernel_rfl), (by kernel_rfl), (by kernel_rfl), (by kernel_rfl), (by kernel_rfl), (by kernel_rfl), (by kernel_rfl), (by kernel_rfl), (by kernel_rfl), (by kernel_rfl), (by kernel_rfl), (by kernel_rfl), (by kernel_rfl), (by kernel_rfl), (by kernel_rfl), (by kernel_rfl), (by kernel_rfl), (by kernel_rfl), (by kernel_rfl), (by kernel_rfl), (by kernel_rfl), (by kernel_rfl), (by kernel_rfl), (by kernel_rfl), (by kernel_rfl), (by kernel_rfl), (by kernel_rfl), (by kernel_rfl), (by kernel_rfl), (by kernel_rfl), (by kernel_rfl), (by kernel_rfl), (by kernel_rfl), (by kernel_rfl), (by kernel_rfl), (by kernel_rfl), (by kernel_rfl), (by kernel_rfl), (by kernel_rfl), (by kernel_rfl)⟩
end Go.Proofs.YteglommbdpaokaaGreat
