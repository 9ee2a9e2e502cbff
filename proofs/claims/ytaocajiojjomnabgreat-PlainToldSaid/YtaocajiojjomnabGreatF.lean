/- What the translation says of its functions and types, for the evaluator: printed by mkfacts.py. -/
import Derived.Test.YtaocajiojjomnabGreatProg
import Derived.Test.YtaocajiojjomnabGreatGxK
namespace Go.Proofs.YtaocajiojjomnabGreat
open Go.Gx Go.RowKit
set_option maxRecDepth 100000
theorem fu4 : Tryz.prog.funcs[4]? = some Tryz.f4 := by kernel_rfl
theorem fu24 : Tryz.prog.funcs[24]? = some Tryz.f24 := by kernel_rfl
theorem fu36 : Tryz.prog.funcs[36]? = some Tryz.f36 := by kernel_rfl
theorem fu39 : Tryz.prog.funcs[39]? = some Tryz.f39 := by kernel_rfl
theorem fu43 : Tryz.prog.funcs[43]? = some Tryz.f43 := by kernel_rfl
theorem fu44 : Tryz.prog.funcs[44]? = some Tryz.f44 := by kernel_rfl
theorem fu46 : Tryz.prog.funcs[46]? = some Tryz.f46 := by kernel_rfl
theorem fu48 : Tryz.prog.funcs[48]? = some Tryz.f48 := by kernel_rfl
theorem fu54 : Tryz.prog.funcs[54]? = some Tryz.f54 := by kernel_rfl
theorem fu56 : Tryz.prog.funcs[56]? = some Tryz.f56 := by kernel_rfl
theorem fu59 : Tryz.prog.funcs[59]? = some Tryz.f59 := by kernel_rfl
theorem fu61 : Tryz.prog.funcs[61]? = some Tryz.f61 := by kernel_rfl
theorem fu62 : Tryz.prog.funcs[62]? = some Tryz.f62 := by kernel_rfl
theorem fu65 : Tryz.prog.funcs[65]? = some Tryz.f65 := by kernel_rfl
theorem fu73 : Tryz.prog.funcs[73]? = some Tryz.f73 := by kernel_rfl
theorem fu74 : Tryz.prog.funcs[74]? = some Tryz.f74 := by kernel_rfl
theorem fu75 : Tryz.prog.funcs[75]? = some Tryz.f75 := by kernel_rfl
theorem fu76 : Tryz.prog.funcs[76]? = some Tryz.f76 := by kernel_rfl
theorem fu77 : Tryz.prog.funcs[77]? = some Tryz.f77 := by kernel_rfl
theorem fu78 : Tryz.prog.funcs[78]? = some Tryz.f78 := by kernel_rfl
theorem fu79 : Tryz.prog.funcs[79]? = some Tryz.f79 := by kernel_rfl
theorem fu91 : Tryz.prog.funcs[91]? = some Tryz.f91 := by kernel_rfl
theorem fu100 : Tryz.prog.funcs[100]? = some Tryz.f100 := by kernel_rfl
theorem fu102 : Tryz.prog.funcs[102]? = some Tryz.f102 := by kernel_rfl
theorem fu106 : Tryz.prog.funcs[106]? = some Tryz.f106 := by kernel_rfl
theorem fu108 : Tryz.prog.funcs[108]? = some Tryz.f108 := by kernel_rfl
theorem fu109 : Tryz.prog.funcs[109]? = some Tryz.f109 := by kernel_rfl
theorem fu110 : Tryz.prog.funcs[110]? = some Tryz.f110 := by kernel_rfl
theorem fu111 : Tryz.prog.funcs[111]? = some Tryz.f111 := by kernel_rfl
theorem fu112 : Tryz.prog.funcs[112]? = some Tryz.f112 := by kernel_rfl
theorem fu113 : Tryz.prog.funcs[113]? = some Tryz.f113 := by kernel_rfl
theorem fu114 : Tryz.prog.funcs[114]? = some Tryz.f114 := by kernel_rfl
theorem fu115 : Tryz.prog.funcs[115]? = some Tryz.f115 := by kernel_rfl
theorem fu121 : Tryz.prog.funcs[121]? = some Tryz.f121 := by kernel_rfl
theorem fu123 : Tryz.prog.funcs[123]? = some Tryz.f123 := by kernel_rfl
theorem fu131 : Tryz.prog.funcs[131]? = some Tryz.f131 := by kernel_rfl
theorem fu133 : Tryz.prog.funcs[133]? = some Tryz.f133 := by kernel_rfl
theorem fu134 : Tryz.prog.funcs[134]? = some Tryz.f134 := by kernel_rfl
theorem fu136 : Tryz.prog.funcs[136]? = some Tryz.f136 := by kernel_rfl
theorem fu138 : Tryz.prog.funcs[138]? = some Tryz.f138 := by kernel_rfl
theorem fu140 : Tryz.prog.funcs[140]? = some Tryz.f140 := by kernel_rfl
theorem fu142 : Tryz.prog.funcs[142]? = some Tryz.f142 := by kernel_rfl
theorem fu143 : Tryz.prog.funcs[143]? = some Tryz.f143 := by kernel_rfl
theorem fu144 : Tryz.prog.funcs[144]? = some Tryz.f144 := by kernel_rfl
theorem fu145 : Tryz.prog.funcs[145]? = some Tryz.f145 := by kernel_rfl
theorem fu156 : Tryz.prog.funcs[156]? = some Tryz.f156 := by kernel_rfl
theorem fu157 : Tryz.prog.funcs[157]? = some Tryz.f157 := by kernel_rfl
theorem fu158 : Tryz.prog.funcs[158]? = some Tryz.f158 := by kernel_rfl
theorem fu159 : Tryz.prog.funcs[159]? = some Tryz.f159 := by kernel_rfl
theorem fu167 : Tryz.prog.funcs[167]? = some Tryz.f167 := by kernel_rfl
theorem fu169 : Tryz.prog.funcs[169]? = some Tryz.f169 := by kernel_rfl
theorem fu173 : Tryz.prog.funcs[173]? = some Tryz.f173 := by kernel_rfl
theorem mixed : Tryz.prog.follows .mixedOrders = true := by kernel_rfl
theorem ft :
  Tryz.f4.results.toList = [.tmp 2] ∧
  Tryz.f4.ntmps = 22 ∧
  Tryz.f24.results.toList = [.tmp 2] ∧
  Tryz.f24.ntmps = 15 ∧
  Tryz.f28.results.toList = [.cell 2 58] ∧
  Tryz.f28.ntmps = 5 ∧
  Tryz.f31.results.toList = [.cell 6 58] ∧
  Tryz.f31.ntmps = 11 ∧
  Tryz.f36.results.toList = [.tmp 2] ∧
  Tryz.f36.ntmps = 11 ∧
  Tryz.f39.results.toList = [.tmp 4] ∧
  Tryz.f39.ntmps = 14 ∧
  Tryz.f43.results.toList = [.cell 2 115] ∧
  Tryz.f43.ntmps = 21 ∧
  Tryz.f44.results.toList = [.tmp 2] ∧
  Tryz.f44.ntmps = 21 ∧
  Tryz.f46.results.toList = [.tmp 4] ∧
  Tryz.f46.ntmps = 29 ∧
  Tryz.f48.results.toList = [.tmp 2, .tmp 3] ∧
  Tryz.f48.ntmps = 14 ∧
  Tryz.f54.results.toList = [.tmp 2] ∧
  Tryz.f54.ntmps = 26 ∧
  Tryz.f56.results.toList = [.tmp 4] ∧
  Tryz.f56.ntmps = 24 ∧
  Tryz.f59.results.toList = [.tmp 2] ∧
  Tryz.f59.ntmps = 11 ∧
  Tryz.f61.results.toList = [.tmp 4, .tmp 5] ∧
  Tryz.f61.ntmps = 23 ∧
  Tryz.f62.results.toList = [.tmp 4] ∧
  Tryz.f62.ntmps = 23 ∧
  Tryz.f65.results.toList = [.cell 2 115] ∧
  Tryz.f65.ntmps = 50 ∧
  Tryz.f73.results.toList = [.cell 2 153] ∧
  Tryz.f73.ntmps = 19 ∧
  Tryz.f74.results.toList = [.tmp 2] ∧
  Tryz.f74.ntmps = 11 ∧
  Tryz.f75.results.toList = [.tmp 2] ∧
  Tryz.f75.ntmps = 5 ∧
  Tryz.f76.results.toList = [.tmp 2] ∧
  Tryz.f76.ntmps = 18 ∧
  Tryz.f77.results.toList = [.tmp 6] ∧
  Tryz.f77.ntmps = 24 ∧
  Tryz.f78.results.toList = [.tmp 2] ∧
  Tryz.f78.ntmps = 15 ∧
  Tryz.f79.results.toList = [.tmp 4] ∧
  Tryz.f79.ntmps = 28 ∧
  Tryz.f84.results.toList = [.tmp 4, .tmp 5] ∧
  Tryz.f84.ntmps = 14 ∧
  Tryz.f91.results.toList = [.tmp 2, .tmp 3] ∧
  Tryz.f91.ntmps = 12 ∧
  Tryz.f100.results.toList = [.tmp 2] ∧
  Tryz.f100.ntmps = 24 ∧
  Tryz.f102.results.toList = [.tmp 4] ∧
  Tryz.f102.ntmps = 22 ∧
  Tryz.f106.results.toList = [.cell 2 139, .tmp 3] ∧
  Tryz.f106.ntmps = 27 ∧
  Tryz.f108.results.toList = [.cell 0 187] ∧
  Tryz.f108.ntmps = 7 ∧
  Tryz.f109.results.toList = [.tmp 2] ∧
  Tryz.f109.ntmps = 5 ∧
  Tryz.f110.results.toList = [.tmp 4] ∧
  Tryz.f110.ntmps = 9 ∧
  Tryz.f111.results.toList = [.tmp 2] ∧
  Tryz.f111.ntmps = 25 ∧
  Tryz.f112.results.toList = [.cell 4 194, .tmp 5] ∧
  Tryz.f112.ntmps = 69 ∧
  Tryz.f113.results.toList = [.tmp 8, .tmp 9] ∧
  Tryz.f113.ntmps = 25 ∧
  Tryz.f114.results.toList = [.tmp 4] ∧
  Tryz.f114.ntmps = 7 ∧
  Tryz.f115.results.toList = [.tmp 4] ∧
  Tryz.f115.ntmps = 16 ∧
  Tryz.f121.results.toList = [.tmp 4, .tmp 5] ∧
  Tryz.f121.ntmps = 20 ∧
  Tryz.f123.results.toList = [.cell 2 139, .tmp 3] ∧
  Tryz.f123.ntmps = 30 ∧
  Tryz.f131.results.toList = [.tmp 2] ∧
  Tryz.f131.ntmps = 23 ∧
  Tryz.f133.results.toList = [.tmp 2] ∧
  Tryz.f133.ntmps = 3 ∧
  Tryz.f134.results.toList = [.tmp 2] ∧
  Tryz.f134.ntmps = 6 ∧
  Tryz.f136.results.toList = [.tmp 2] ∧
  Tryz.f136.ntmps = 17 ∧
  Tryz.f137.results.toList = [.tmp 2] ∧
  Tryz.f137.ntmps = 6 ∧
  Tryz.f138.results.toList = [.tmp 2] ∧
  Tryz.f138.ntmps = 12 ∧
  Tryz.f140.results.toList = [.tmp 2] ∧
  Tryz.f140.ntmps = 5 ∧
  Tryz.f142.results.toList = [.tmp 4] ∧
  Tryz.f142.ntmps = 19 ∧
  Tryz.f143.results.toList = [.tmp 0] ∧
  Tryz.f143.ntmps = 3 ∧
  Tryz.f144.results.toList = [.tmp 2, .tmp 3] ∧
  Tryz.f144.ntmps = 9 ∧
  Tryz.f145.results.toList = [.tmp 4] ∧
  Tryz.f145.ntmps = 11 ∧
  Tryz.f156.results.toList = [.tmp 4, .tmp 5] ∧
  Tryz.f156.ntmps = 23 ∧
  Tryz.f157.results.toList = [.tmp 6, .tmp 7] ∧
  Tryz.f157.ntmps = 15 ∧
  Tryz.f158.results.toList = [.tmp 1] ∧
  Tryz.f158.ntmps = 5 ∧
  Tryz.f159.results.toList = [.tmp 2] ∧
  Tryz.f159.ntmps = 25 ∧
  Tryz.f167.results.toList = [.tmp 3] ∧
  Tryz.f167.ntmps = 7 ∧
  Tryz.f169.results.toList = [.tmp 2, .tmp 3] ∧
  Tryz.f169.ntmps = 13 ∧
  Tryz.f172.results.toList = [.tmp 2, .tmp 3] ∧
  Tryz.f172.ntmps = 52 ∧
  Tryz.f173.results.toList = [.cell 0 259] ∧
  Tryz.f173.ntmps = 2 ∧
  tiof Tryz.prog 2 = some ⟨1, false, [.int .i64 0], .it .i64⟩ ∧
  tiof Tryz.prog 3 = some ⟨1, false, [.int .i64 0], .it .i64⟩ ∧
  tiof Tryz.prog 4 = some ⟨1, false, [.bool false], .bo⟩ ∧
  tiof Tryz.prog 5 = some ⟨1, false, [.int .u8 0], .it .u8⟩ ∧
  tiof Tryz.prog 9 = some ⟨1, false, [.string ⟨#[]⟩], .str⟩ ∧
  tiof Tryz.prog 22 = some ⟨1, false, [.slice none 0 0], .sl 1 66⟩ ∧
  tiof Tryz.prog 24 = some ⟨3, true, [.int .i64 0, .int .i64 0, .slice none 0 0], .st [(0, 1, 3), (1, 1, 3), (2, 1, 22)] true⟩ ∧
  tiof Tryz.prog 28 = some ⟨1, false, [.int .u64 0], .it .u64⟩ ∧
  tiof Tryz.prog 32 = some ⟨1, false, [.int .i64 0], .it .i64⟩ ∧
  tiof Tryz.prog 34 = some ⟨8, true, [.int .i64 0, .int .i64 0, .int .i64 0, .int .i64 0, .int .i64 0, .int .i64 0, .int .i64 0, .int .i64 0], .st [(0, 1, 32), (1, 1, 3), (2, 1, 3), (3, 1, 3), (4, 1, 3), (5, 1, 3), (6, 1, 2), (7, 1, 2)] true⟩ ∧
  tiof Tryz.prog 39 = some ⟨1, false, [.int .i64 0], .it .i64⟩ ∧
  tiof Tryz.prog 56 = some ⟨1, false, [.int .i64 0], .it .i64⟩ ∧
  tiof Tryz.prog 58 = some ⟨4, true, [.int .i64 0, .int .i64 0, .int .u64 0, .int .u64 0], .st [(0, 1, 56), (1, 1, 3), (2, 1, 28), (3, 1, 28)] true⟩ ∧
  tiof Tryz.prog 66 = some ⟨1, false, [.string ⟨#[]⟩], .str⟩ ∧
  tiof Tryz.prog 113 = some ⟨1, false, [.int .i64 0], .it .i64⟩ ∧
  tiof Tryz.prog 115 = some ⟨3, true, [.int .i64 0, .bool false, .int .i64 0], .st [(0, 1, 113), (1, 1, 4), (2, 1, 2)] true⟩ ∧
  tiof Tryz.prog 137 = some ⟨1, false, [.int .i64 0], .it .i64⟩ ∧
  tiof Tryz.prog 139 = some ⟨2, true, [.int .i64 0, .int .i64 0], .st [(0, 1, 3), (1, 1, 137)] true⟩ ∧
  tiof Tryz.prog 151 = some ⟨1, false, [.int .u64 0], .it .u64⟩ ∧
  tiof Tryz.prog 153 = some ⟨2, true, [.int .u64 0, .int .i64 0], .st [(0, 1, 151), (1, 1, 113)] true⟩ ∧
  tiof Tryz.prog 157 = some ⟨1, false, [.slice none 0 0], .sl 1 3⟩ ∧
  tiof Tryz.prog 183 = some ⟨1, false, [.nilFunc], .fu⟩ ∧
  tiof Tryz.prog 184 = some ⟨1, false, [.nilFunc], .fu⟩ ∧
  tiof Tryz.prog 186 = some ⟨5, true, [.string ⟨#[]⟩, .nilFunc, .int .i64 0, .int .i64 0, .nilFunc], .st [(0, 1, 9), (1, 1, 183), (2, 1, 2), (3, 1, 2), (4, 1, 184)] true⟩ ∧
  tiof Tryz.prog 187 = some ⟨25, true, [.string ⟨#[]⟩, .nilFunc, .int .i64 0, .int .i64 0, .nilFunc, .string ⟨#[]⟩, .nilFunc, .int .i64 0, .int .i64 0, .nilFunc, .string ⟨#[]⟩, .nilFunc, .int .i64 0, .int .i64 0, .nilFunc, .string ⟨#[]⟩, .nilFunc, .int .i64 0, .int .i64 0, .nilFunc, .string ⟨#[]⟩, .nilFunc, .int .i64 0, .int .i64 0, .nilFunc], .ar 5 5 186⟩ ∧
  tiof Tryz.prog 191 = some ⟨1, false, [.nilFunc], .fu⟩ ∧
  tiof Tryz.prog 192 = some ⟨1, false, [.int .i64 0], .it .i64⟩ ∧
  tiof Tryz.prog 194 = some ⟨3, true, [.int .i64 0, .int .i64 0, .int .i64 0], .st [(0, 1, 192), (1, 1, 3), (2, 1, 3)] true⟩ ∧
  tiof Tryz.prog 199 = some ⟨1, false, [.nilFunc], .fu⟩ ∧
  tiof Tryz.prog 201 = some ⟨3, true, [.int .i64 0, .int .i64 0, .slice none 0 0], .st [(0, 3, 24)] true⟩ ∧
  tiof Tryz.prog 244 = some ⟨1, false, [.nilFunc], .fu⟩ ∧
  tiof Tryz.prog 246 = some ⟨2, true, [.int .i64 0, .int .i64 0], .st [(0, 2, 139)] true⟩ ∧
  tiof Tryz.prog 259 = some ⟨3, true, [.string ⟨#[]⟩, .string ⟨#[]⟩, .string ⟨#[]⟩], .ar 3 1 9⟩ ∧
  fnOk Tryz.prog 4 = true ∧
  fnOk Tryz.prog 24 = true ∧
  fnOk Tryz.prog 28 = true ∧
  fnOk Tryz.prog 31 = true ∧
  fnOk Tryz.prog 36 = true ∧
  fnOk Tryz.prog 39 = true ∧
  fnOk Tryz.prog 43 = true ∧
  fnOk Tryz.prog 44 = true ∧
  fnOk Tryz.prog 46 = true ∧
  fnOk Tryz.prog 48 = true ∧
  fnOk Tryz.prog 54 = true ∧
  fnOk Tryz.prog 56 = true ∧
  fnOk Tryz.prog 59 = true ∧
  fnOk Tryz.prog 61 = true ∧
  fnOk Tryz.prog 62 = true ∧
  fnOk Tryz.prog 65 = true ∧
  fnOk Tryz.prog 73 = true ∧
  fnOk Tryz.prog 74 = true ∧
  fnOk Tryz.prog 75 = true ∧
  fnOk Tryz.prog 76 = true ∧
  fnOk Tryz.prog 77 = true ∧
  fnOk Tryz.prog 78 = true ∧
  fnOk Tryz.prog 79 = true ∧
  fnOk Tryz.prog 84 = true ∧
  fnOk Tryz.prog 91 = true ∧
  fnOk Tryz.prog 100 = true ∧
  fnOk Tryz.prog 102 = true ∧
  fnOk Tryz.prog 106 = true ∧
  fnOk Tryz.prog 108 = true ∧
  fnOk Tryz.prog 109 = true ∧
  fnOk Tryz.prog 110 = true ∧
  fnOk Tryz.prog 111 = true ∧
  fnOk Tryz.prog 112 = true ∧
  fnOk Tryz.prog 113 = true ∧
  fnOk Tryz.prog 114 = true ∧
  fnOk Tryz.prog 115 = true ∧
  fnOk Tryz.prog 121 = true ∧
  fnOk Tryz.prog 123 = true ∧
  fnOk Tryz.prog 131 = true ∧
  fnOk Tryz.prog 133 = true ∧
  fnOk Tryz.prog 134 = true ∧
  fnOk Tryz.prog 135 = true ∧
  fnOk Tryz.prog 136 = true ∧
  fnOk Tryz.prog 137 = true ∧
  fnOk Tryz.prog 138 = true ∧
  fnOk Tryz.prog 139 = true ∧
  fnOk Tryz.prog 140 = true ∧
  fnOk Tryz.prog 141 = true ∧
  fnOk Tryz.prog 142 = true ∧
  fnOk Tryz.prog 143 = true ∧
  fnOk Tryz.prog 144 = true ∧
  fnOk Tryz.prog 145 = true ∧
  fnOk Tryz.prog 156 = true ∧
  fnOk Tryz.prog 157 = true ∧
  fnOk Tryz.prog 158 = true ∧
  fnOk Tryz.prog 159 = true ∧
  fnOk Tryz.prog 167 = true ∧
  fnOk Tryz.prog 169 = true ∧
  fnOk Tryz.prog 172 = true ∧
  fnOk Tryz.prog 173 = true :=
 ⟨rfl, rfl, rfl, rfl, rfl, rfl, rfl, rfl, rfl, rfl, rfl, rfl, rfl, rfl, rfl, rfl, rfl, rfl, rfl, rfl, rfl, rfl, rfl, rfl, rfl, rfl, rfl, rfl, rfl, rfl, rfl, rfl, rfl, rfl, rfl, rfl, rfl, rfl, rfl, rfl, rfl, rfl, rfl, rfl, rfl, rfl, rfl, rfl, rfl, rfl, rfl, rfl, rfl, rfl, rfl, rfl, rfl, rfl, rfl, rfl, rfl, rfl, rfl, rfl, rfl, rfl, rfl, rfl, rfl, rfl, rfl, rfl, rfl, rfl, rfl, rfl, rfl, rfl, rfl, rfl, rfl, rfl, rfl, rfl, rfl, rfl, rfl, rfl, rfl, rfl, rfl, rfl, rfl, rfl, rfl, rfl, rfl, rfl, rfl, rfl, rfl, rfl, rfl, rfl, rfl, rfl, rfl, rfl, rfl, rfl, rfl, rfl, rfl, rfl, (by kernel_rfl), (by kernel_rfl), (by kernel_rfl), (by kernel_rfl), (by kernel_rfl), (by kernel_rfl), (by kernel_rfl), (by kernel_rfl), (by kernel_rfl), (by kernel_rfl), (by kernel_rfl), (by kernel_rfl), (by kernel_rfl), (by kernel_rfl), (by kernel_rfl), (by kernel_rfl), (by kernel_rfl), (by kernel_rfl), (by kernel_rfl), (by kernel_rfl), (by kernel_rfl), (by kernel_rfl), (by kernel_rfl), (by kernel_rfl), (by kernel_rfl), (by kernel_rfl), (by kernel_rfl), (by kernel_rfl), (by kernel_rfl), (by kernel_rfl), (by kernel_rfl), (by kernel_rfl), (by kernel_rfl), (by kernel_rfl), (by kernel_rfl), (by kernel_rfl), (by kernel_rfl), (by kernel_rfl), (by kernel_rfl), (by kernel_rfl), (by kernel_rfl), (by kernel_rfl), (by kernel_rfl), (by kernel_rfl), (by kernel_rfl), (by kernel_rfl), (by kernel_rfl), (by kernel_rfl), (by kernel_rfl), (by kernel_rfl), (by kernel_rfl), (by kernel_rfl), (by kernel_rfl), (by kernel_rfl), (by kernel_rfl), (by kernel_rfl), (by kernel_rfl), (by kernel_rfl), (by kernel_rfl), (by kernel_rfl), (by kernel_rfl), (by kernel_rfl), (by kernel_rfl), (by kernel_rfl), (by kernel_rfl), (by kernel_rfl), (by kernel_rfl), (by kernel_rfl), (by kernel_rfl), (by kernel_rfl), (by kernel_rfl), (by kernel_rfl), (by kernel_rfl), (by kernel_rfl), (by kernel_rfl), (by kernel_rfl), (by kernel_rfl), (by kernel_rfl), (by kernel_rfl), (by kernel_rfl), (by kernel_rfl), (by kernel_rfl), (by kernel_rfl), (by kernel_rfl), (by kernel_rfl), (by kernel_rfl), (by kernel_rfl), (by kernel_rfl), (by kernel_rfl), (by kernel_rfl), (by kernel_rfl), (by kernel_rfl), (by kernel_rfl)⟩
end Go.Proofs.YtaocajiojjomnabGreat
