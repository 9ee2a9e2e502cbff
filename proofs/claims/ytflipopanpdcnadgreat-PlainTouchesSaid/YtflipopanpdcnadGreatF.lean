/- What the translation says of its functions and types, for the evaluator: printed by mkfacts.py. -/
import Derived.Test.YtflipopanpdcnadGreatProg
import Derived.Test.YtflipopanpdcnadGreatGxK
namespace Go.Proofs.YtflipopanpdcnadGreat
open Go.Gx Go.RowKit
set_option maxRecDepth 100000
theorem fu4 : Tryz.prog.funcs[4]? = some Tryz.f4 := by kernel_rfl
theorem fu7 : Tryz.prog.funcs[7]? = some Tryz.f7 := by kernel_rfl
theorem fu12 : Tryz.prog.funcs[12]? = some Tryz.f12 := by kernel_rfl
theorem fu14 : Tryz.prog.funcs[14]? = some Tryz.f14 := by kernel_rfl
theorem fu25 : Tryz.prog.funcs[25]? = some Tryz.f25 := by kernel_rfl
theorem fu26 : Tryz.prog.funcs[26]? = some Tryz.f26 := by kernel_rfl
theorem fu27 : Tryz.prog.funcs[27]? = some Tryz.f27 := by kernel_rfl
theorem fu29 : Tryz.prog.funcs[29]? = some Tryz.f29 := by kernel_rfl
theorem fu32 : Tryz.prog.funcs[32]? = some Tryz.f32 := by kernel_rfl
theorem fu35 : Tryz.prog.funcs[35]? = some Tryz.f35 := by kernel_rfl
theorem fu36 : Tryz.prog.funcs[36]? = some Tryz.f36 := by kernel_rfl
theorem fu38 : Tryz.prog.funcs[38]? = some Tryz.f38 := by kernel_rfl
theorem fu45 : Tryz.prog.funcs[45]? = some Tryz.f45 := by kernel_rfl
theorem fu47 : Tryz.prog.funcs[47]? = some Tryz.f47 := by kernel_rfl
theorem fu50 : Tryz.prog.funcs[50]? = some Tryz.f50 := by kernel_rfl
theorem fu51 : Tryz.prog.funcs[51]? = some Tryz.f51 := by kernel_rfl
theorem fu52 : Tryz.prog.funcs[52]? = some Tryz.f52 := by kernel_rfl
theorem fu53 : Tryz.prog.funcs[53]? = some Tryz.f53 := by kernel_rfl
theorem fu54 : Tryz.prog.funcs[54]? = some Tryz.f54 := by kernel_rfl
theorem fu55 : Tryz.prog.funcs[55]? = some Tryz.f55 := by kernel_rfl
theorem fu56 : Tryz.prog.funcs[56]? = some Tryz.f56 := by kernel_rfl
theorem fu58 : Tryz.prog.funcs[58]? = some Tryz.f58 := by kernel_rfl
theorem fu64 : Tryz.prog.funcs[64]? = some Tryz.f64 := by kernel_rfl
theorem fu65 : Tryz.prog.funcs[65]? = some Tryz.f65 := by kernel_rfl
theorem fu66 : Tryz.prog.funcs[66]? = some Tryz.f66 := by kernel_rfl
theorem fu67 : Tryz.prog.funcs[67]? = some Tryz.f67 := by kernel_rfl
theorem fu68 : Tryz.prog.funcs[68]? = some Tryz.f68 := by kernel_rfl
theorem fu69 : Tryz.prog.funcs[69]? = some Tryz.f69 := by kernel_rfl
theorem fu70 : Tryz.prog.funcs[70]? = some Tryz.f70 := by kernel_rfl
theorem fu82 : Tryz.prog.funcs[82]? = some Tryz.f82 := by kernel_rfl
theorem fu91 : Tryz.prog.funcs[91]? = some Tryz.f91 := by kernel_rfl
theorem fu92 : Tryz.prog.funcs[92]? = some Tryz.f92 := by kernel_rfl
theorem fu94 : Tryz.prog.funcs[94]? = some Tryz.f94 := by kernel_rfl
theorem fu96 : Tryz.prog.funcs[96]? = some Tryz.f96 := by kernel_rfl
theorem fu98 : Tryz.prog.funcs[98]? = some Tryz.f98 := by kernel_rfl
theorem fu100 : Tryz.prog.funcs[100]? = some Tryz.f100 := by kernel_rfl
theorem fu101 : Tryz.prog.funcs[101]? = some Tryz.f101 := by kernel_rfl
theorem fu102 : Tryz.prog.funcs[102]? = some Tryz.f102 := by kernel_rfl
theorem fu103 : Tryz.prog.funcs[103]? = some Tryz.f103 := by kernel_rfl
theorem fu104 : Tryz.prog.funcs[104]? = some Tryz.f104 := by kernel_rfl
theorem fu105 : Tryz.prog.funcs[105]? = some Tryz.f105 := by kernel_rfl
theorem fu106 : Tryz.prog.funcs[106]? = some Tryz.f106 := by kernel_rfl
theorem fu112 : Tryz.prog.funcs[112]? = some Tryz.f112 := by kernel_rfl
theorem fu114 : Tryz.prog.funcs[114]? = some Tryz.f114 := by kernel_rfl
theorem fu122 : Tryz.prog.funcs[122]? = some Tryz.f122 := by kernel_rfl
theorem fu133 : Tryz.prog.funcs[133]? = some Tryz.f133 := by kernel_rfl
theorem fu134 : Tryz.prog.funcs[134]? = some Tryz.f134 := by kernel_rfl
theorem fu135 : Tryz.prog.funcs[135]? = some Tryz.f135 := by kernel_rfl
theorem fu136 : Tryz.prog.funcs[136]? = some Tryz.f136 := by kernel_rfl
theorem fu145 : Tryz.prog.funcs[145]? = some Tryz.f145 := by kernel_rfl
theorem fu149 : Tryz.prog.funcs[149]? = some Tryz.f149 := by kernel_rfl
theorem mixed : Tryz.prog.follows .mixedOrders = true := by kernel_rfl
theorem ft :
  Tryz.f4.results.toList = [.tmp 2] ∧
  Tryz.f4.ntmps = 22 ∧
  Tryz.f7.results.toList = [.tmp 2] ∧
  Tryz.f7.ntmps = 11 ∧
  Tryz.f12.results.toList = [.tmp 2] ∧
  Tryz.f12.ntmps = 11 ∧
  Tryz.f14.results.toList = [.tmp 2] ∧
  Tryz.f14.ntmps = 15 ∧
  Tryz.f15.results.toList = [.tmp 2] ∧
  Tryz.f15.ntmps = 52 ∧
  Tryz.f25.results.toList = [.tmp 4] ∧
  Tryz.f25.ntmps = 27 ∧
  Tryz.f26.results.toList = [.cell 2 83] ∧
  Tryz.f26.ntmps = 50 ∧
  Tryz.f27.results.toList = [.tmp 2] ∧
  Tryz.f27.ntmps = 26 ∧
  Tryz.f29.results.toList = [.tmp 4] ∧
  Tryz.f29.ntmps = 24 ∧
  Tryz.f30.results.toList = [.tmp 2, .tmp 3] ∧
  Tryz.f30.ntmps = 25 ∧
  Tryz.f31.results.toList = [.tmp 4] ∧
  Tryz.f31.ntmps = 13 ∧
  Tryz.f32.results.toList = [.tmp 4] ∧
  Tryz.f32.ntmps = 14 ∧
  Tryz.f33.results.toList = [.tmp 2, .tmp 3] ∧
  Tryz.f33.ntmps = 9 ∧
  Tryz.f35.results.toList = [.cell 2 83] ∧
  Tryz.f35.ntmps = 21 ∧
  Tryz.f36.results.toList = [.tmp 2] ∧
  Tryz.f36.ntmps = 21 ∧
  Tryz.f38.results.toList = [.tmp 4] ∧
  Tryz.f38.ntmps = 29 ∧
  Tryz.f45.results.toList = [.tmp 2] ∧
  Tryz.f45.ntmps = 24 ∧
  Tryz.f47.results.toList = [.tmp 4] ∧
  Tryz.f47.ntmps = 22 ∧
  Tryz.f48.results.toList = [.tmp 2] ∧
  Tryz.f48.ntmps = 49 ∧
  Tryz.f49.results.toList = [.tmp 2, .tmp 3] ∧
  Tryz.f49.ntmps = 73 ∧
  Tryz.f50.results.toList = [.cell 2 114] ∧
  Tryz.f50.ntmps = 19 ∧
  Tryz.f51.results.toList = [.tmp 2] ∧
  Tryz.f51.ntmps = 11 ∧
  Tryz.f52.results.toList = [.tmp 2] ∧
  Tryz.f52.ntmps = 5 ∧
  Tryz.f53.results.toList = [.tmp 2] ∧
  Tryz.f53.ntmps = 18 ∧
  Tryz.f54.results.toList = [.tmp 6] ∧
  Tryz.f54.ntmps = 24 ∧
  Tryz.f55.results.toList = [.tmp 2] ∧
  Tryz.f55.ntmps = 15 ∧
  Tryz.f56.results.toList = [.tmp 4] ∧
  Tryz.f56.ntmps = 28 ∧
  Tryz.f58.results.toList = [.tmp 2, .tmp 3] ∧
  Tryz.f58.ntmps = 14 ∧
  Tryz.f64.results.toList = [.tmp 2] ∧
  Tryz.f64.ntmps = 23 ∧
  Tryz.f65.results.toList = [.tmp 4] ∧
  Tryz.f65.ntmps = 23 ∧
  Tryz.f66.results.toList = [.cell 0 143] ∧
  Tryz.f66.ntmps = 7 ∧
  Tryz.f67.results.toList = [.tmp 2] ∧
  Tryz.f67.ntmps = 5 ∧
  Tryz.f68.results.toList = [.tmp 4] ∧
  Tryz.f68.ntmps = 9 ∧
  Tryz.f69.results.toList = [.tmp 2] ∧
  Tryz.f69.ntmps = 25 ∧
  Tryz.f70.results.toList = [.cell 4 149, .tmp 5] ∧
  Tryz.f70.ntmps = 69 ∧
  Tryz.f75.results.toList = [.tmp 4, .tmp 5] ∧
  Tryz.f75.ntmps = 14 ∧
  Tryz.f82.results.toList = [.tmp 2, .tmp 3] ∧
  Tryz.f82.ntmps = 12 ∧
  Tryz.f91.results.toList = [.tmp 2] ∧
  Tryz.f91.ntmps = 3 ∧
  Tryz.f92.results.toList = [.tmp 2] ∧
  Tryz.f92.ntmps = 6 ∧
  Tryz.f94.results.toList = [.tmp 2] ∧
  Tryz.f94.ntmps = 17 ∧
  Tryz.f95.results.toList = [.tmp 2] ∧
  Tryz.f95.ntmps = 6 ∧
  Tryz.f96.results.toList = [.tmp 2] ∧
  Tryz.f96.ntmps = 12 ∧
  Tryz.f98.results.toList = [.tmp 2] ∧
  Tryz.f98.ntmps = 5 ∧
  Tryz.f100.results.toList = [.tmp 4] ∧
  Tryz.f100.ntmps = 19 ∧
  Tryz.f101.results.toList = [.tmp 0] ∧
  Tryz.f101.ntmps = 3 ∧
  Tryz.f102.results.toList = [.tmp 2, .tmp 3] ∧
  Tryz.f102.ntmps = 9 ∧
  Tryz.f103.results.toList = [.tmp 4] ∧
  Tryz.f103.ntmps = 11 ∧
  Tryz.f104.results.toList = [.tmp 4] ∧
  Tryz.f104.ntmps = 7 ∧
  Tryz.f105.results.toList = [.tmp 4] ∧
  Tryz.f105.ntmps = 16 ∧
  Tryz.f106.results.toList = [.tmp 8, .tmp 9] ∧
  Tryz.f106.ntmps = 25 ∧
  Tryz.f112.results.toList = [.tmp 4, .tmp 5] ∧
  Tryz.f112.ntmps = 20 ∧
  Tryz.f114.results.toList = [.cell 2 193, .tmp 3] ∧
  Tryz.f114.ntmps = 30 ∧
  Tryz.f122.results.toList = [.tmp 3] ∧
  Tryz.f122.ntmps = 7 ∧
  Tryz.f133.results.toList = [.tmp 4, .tmp 5] ∧
  Tryz.f133.ntmps = 23 ∧
  Tryz.f134.results.toList = [.tmp 6, .tmp 7] ∧
  Tryz.f134.ntmps = 15 ∧
  Tryz.f135.results.toList = [.tmp 1] ∧
  Tryz.f135.ntmps = 5 ∧
  Tryz.f136.results.toList = [.tmp 2] ∧
  Tryz.f136.ntmps = 25 ∧
  Tryz.f145.results.toList = [.tmp 2, .tmp 3] ∧
  Tryz.f145.ntmps = 13 ∧
  Tryz.f148.results.toList = [.tmp 2, .tmp 3] ∧
  Tryz.f148.ntmps = 52 ∧
  Tryz.f149.results.toList = [.cell 0 231] ∧
  Tryz.f149.ntmps = 2 ∧
  tiof Tryz.prog 2 = some ⟨1, false, [.int .i64 0], .it .i64⟩ ∧
  tiof Tryz.prog 3 = some ⟨1, false, [.int .i64 0], .it .i64⟩ ∧
  tiof Tryz.prog 4 = some ⟨1, false, [.bool false], .bo⟩ ∧
  tiof Tryz.prog 5 = some ⟨1, false, [.int .u8 0], .it .u8⟩ ∧
  tiof Tryz.prog 9 = some ⟨1, false, [.string ⟨#[]⟩], .str⟩ ∧
  tiof Tryz.prog 22 = some ⟨1, false, [.slice none 0 0], .sl 1 55⟩ ∧
  tiof Tryz.prog 24 = some ⟨3, true, [.int .i64 0, .int .i64 0, .slice none 0 0], .st [(0, 1, 3), (1, 1, 3), (2, 1, 22)] true⟩ ∧
  tiof Tryz.prog 25 = some ⟨1, false, [.slice none 0 0], .sl 1 29⟩ ∧
  tiof Tryz.prog 29 = some ⟨1, false, [.int .u64 0], .it .u64⟩ ∧
  tiof Tryz.prog 33 = some ⟨1, false, [.int .i64 0], .it .i64⟩ ∧
  tiof Tryz.prog 35 = some ⟨8, true, [.int .i64 0, .int .i64 0, .int .i64 0, .int .i64 0, .int .i64 0, .int .i64 0, .int .i64 0, .int .i64 0], .st [(0, 1, 33), (1, 1, 3), (2, 1, 3), (3, 1, 3), (4, 1, 3), (5, 1, 3), (6, 1, 2), (7, 1, 2)] true⟩ ∧
  tiof Tryz.prog 41 = some ⟨1, false, [.int .i64 0], .it .i64⟩ ∧
  tiof Tryz.prog 51 = some ⟨1, false, [.slice none 0 0], .sl 1 3⟩ ∧
  tiof Tryz.prog 55 = some ⟨1, false, [.string ⟨#[]⟩], .str⟩ ∧
  tiof Tryz.prog 81 = some ⟨1, false, [.int .i64 0], .it .i64⟩ ∧
  tiof Tryz.prog 83 = some ⟨3, true, [.int .i64 0, .bool false, .int .i64 0], .st [(0, 1, 81), (1, 1, 4), (2, 1, 2)] true⟩ ∧
  tiof Tryz.prog 90 = some ⟨4, true, [.int .i64 0, .int .i64 0, .int .i64 0, .int .i64 0], .st [(0, 1, 3), (1, 1, 3), (2, 1, 3), (3, 1, 3)] true⟩ ∧
  tiof Tryz.prog 112 = some ⟨1, false, [.int .u64 0], .it .u64⟩ ∧
  tiof Tryz.prog 114 = some ⟨2, true, [.int .u64 0, .int .i64 0], .st [(0, 1, 112), (1, 1, 81)] true⟩ ∧
  tiof Tryz.prog 138 = some ⟨1, false, [.nilFunc], .fu⟩ ∧
  tiof Tryz.prog 139 = some ⟨1, false, [.nilFunc], .fu⟩ ∧
  tiof Tryz.prog 140 = some ⟨1, false, [.nilFunc], .fu⟩ ∧
  tiof Tryz.prog 142 = some ⟨5, true, [.string ⟨#[]⟩, .nilFunc, .int .i64 0, .int .i64 0, .nilFunc], .st [(0, 1, 9), (1, 1, 139), (2, 1, 2), (3, 1, 2), (4, 1, 140)] true⟩ ∧
  tiof Tryz.prog 143 = some ⟨25, true, [.string ⟨#[]⟩, .nilFunc, .int .i64 0, .int .i64 0, .nilFunc, .string ⟨#[]⟩, .nilFunc, .int .i64 0, .int .i64 0, .nilFunc, .string ⟨#[]⟩, .nilFunc, .int .i64 0, .int .i64 0, .nilFunc, .string ⟨#[]⟩, .nilFunc, .int .i64 0, .int .i64 0, .nilFunc, .string ⟨#[]⟩, .nilFunc, .int .i64 0, .int .i64 0, .nilFunc], .ar 5 5 142⟩ ∧
  tiof Tryz.prog 147 = some ⟨1, false, [.int .i64 0], .it .i64⟩ ∧
  tiof Tryz.prog 149 = some ⟨3, true, [.int .i64 0, .int .i64 0, .int .i64 0], .st [(0, 1, 147), (1, 1, 3), (2, 1, 3)] true⟩ ∧
  tiof Tryz.prog 169 = some ⟨3, true, [.int .i64 0, .int .i64 0, .slice none 0 0], .st [(0, 3, 24)] true⟩ ∧
  tiof Tryz.prog 170 = some ⟨1, false, [.nilFunc], .fu⟩ ∧
  tiof Tryz.prog 191 = some ⟨1, false, [.int .i64 0], .it .i64⟩ ∧
  tiof Tryz.prog 193 = some ⟨2, true, [.int .i64 0, .int .i64 0], .st [(0, 1, 3), (1, 1, 191)] true⟩ ∧
  tiof Tryz.prog 216 = some ⟨1, false, [.nilFunc], .fu⟩ ∧
  tiof Tryz.prog 218 = some ⟨2, true, [.int .i64 0, .int .i64 0], .st [(0, 2, 193)] true⟩ ∧
  tiof Tryz.prog 231 = some ⟨3, true, [.string ⟨#[]⟩, .string ⟨#[]⟩, .string ⟨#[]⟩], .ar 3 1 9⟩ ∧
  fnOk Tryz.prog 4 = true ∧
  fnOk Tryz.prog 7 = true ∧
  fnOk Tryz.prog 12 = true ∧
  fnOk Tryz.prog 14 = true ∧
  fnOk Tryz.prog 15 = true ∧
  fnOk Tryz.prog 25 = true ∧
  fnOk Tryz.prog 26 = true ∧
  fnOk Tryz.prog 27 = true ∧
  fnOk Tryz.prog 29 = true ∧
  fnOk Tryz.prog 30 = true ∧
  fnOk Tryz.prog 31 = true ∧
  fnOk Tryz.prog 32 = true ∧
  fnOk Tryz.prog 33 = true ∧
  fnOk Tryz.prog 35 = true ∧
  fnOk Tryz.prog 36 = true ∧
  fnOk Tryz.prog 38 = true ∧
  fnOk Tryz.prog 45 = true ∧
  fnOk Tryz.prog 47 = true ∧
  fnOk Tryz.prog 48 = true ∧
  fnOk Tryz.prog 49 = true ∧
  fnOk Tryz.prog 50 = true ∧
  fnOk Tryz.prog 51 = true ∧
  fnOk Tryz.prog 52 = true ∧
  fnOk Tryz.prog 53 = true ∧
  fnOk Tryz.prog 54 = true ∧
  fnOk Tryz.prog 55 = true ∧
  fnOk Tryz.prog 56 = true ∧
  fnOk Tryz.prog 58 = true ∧
  fnOk Tryz.prog 64 = true ∧
  fnOk Tryz.prog 65 = true ∧
  fnOk Tryz.prog 66 = true ∧
  fnOk Tryz.prog 67 = true ∧
  fnOk Tryz.prog 68 = true ∧
  fnOk Tryz.prog 69 = true ∧
  fnOk Tryz.prog 70 = true ∧
  fnOk Tryz.prog 75 = true ∧
  fnOk Tryz.prog 82 = true ∧
  fnOk Tryz.prog 91 = true ∧
  fnOk Tryz.prog 92 = true ∧
  fnOk Tryz.prog 93 = true ∧
  fnOk Tryz.prog 94 = true ∧
  fnOk Tryz.prog 95 = true ∧
  fnOk Tryz.prog 96 = true ∧
  fnOk Tryz.prog 97 = true ∧
  fnOk Tryz.prog 98 = true ∧
  fnOk Tryz.prog 99 = true ∧
  fnOk Tryz.prog 100 = true ∧
  fnOk Tryz.prog 101 = true ∧
  fnOk Tryz.prog 102 = true ∧
  fnOk Tryz.prog 103 = true ∧
  fnOk Tryz.prog 104 = true ∧
  fnOk Tryz.prog 105 = true ∧
  fnOk Tryz.prog 106 = true ∧
  fnOk Tryz.prog 112 = true ∧
  fnOk Tryz.prog 114 = true ∧
  fnOk Tryz.prog 122 = true ∧
  fnOk Tryz.prog 133 = true ∧
  fnOk Tryz.prog 134 = true ∧
  fnOk Tryz.prog 135 = true ∧
  fnOk Tryz.prog 136 = true ∧
  fnOk Tryz.prog 145 = true ∧
  fnOk Tryz.prog 148 = true ∧
  fnOk Tryz.prog 149 = true :=
 ⟨rfl, rfl, rfl, rfl, rfl, rfl, rfl, rfl, rfl, rfl, rfl, rfl, rfl, rfl, rfl, rfl, rfl, rfl, rfl, rfl, rfl, rfl, rfl, rfl, rfl, rfl, rfl, rfl, rfl, rfl, rfl, rfl, rfl, rfl, rfl, rfl, rfl, rfl, rfl, rfl, rfl, rfl, rfl, rfl, rfl, rfl, rfl, rfl, rfl, rfl, rfl, rfl, rfl, rfl, rfl, rfl, rfl, rfl, rfl, rfl, rfl, rfl, rfl, rfl, rfl, rfl, rfl, rfl, rfl, rfl, rfl, rfl, rfl, rfl, rfl, rfl, rfl, rfl, rfl, rfl, rfl, rfl, rfl, rfl, rfl, rfl, rfl, rfl, rfl, rfl, rfl, rfl, rfl, rfl, rfl, rfl, rfl, rfl, rfl, rfl, rfl, rfl, rfl, rfl, rfl, rfl, rfl, rfl, rfl, rfl, rfl, rfl, rfl, rfl, rfl, rfl, rfl, rfl, rfl, rfl, (by kernel_rfl), (by kernel_rfl), (by kernel_rfl), (by kernel_rfl), (by kernel_rfl), (by kernel_rfl), (by kernel_rfl), (by kernel_rfl), (by kernel_rfl), (by kernel_rfl), (by kernel_rfl), (by kernel_rfl), (by kernel_rfl), (by kernel_rfl), (by kernel_rfl), (by kernel_rfl), (by kernel_rfl), (by kernel_rfl), (by kernel_rfl), (by kernel_rfl), (by kernel_rfl), (by kernel_rfl), (by kernel_rfl), (by kernel_rfl), (by kernel_rfl), (by kernel_rfl), (by kernel_rfl), (by kernel_rfl), (by kernel_rfl), (by kernel_rfl), (by kernel_rfl), (by kernel_rfl), (by kernel_rfl), (by kernel_rfl), (by kernel_rfl), (by kernel_rfl), (by kernel_rfl), (by kernel_rfl), (by kernel_rfl), (by kernel_rfl), (by kernel_rfl), (by kernel_rfl), (by kernel_rfl), (by kernel_rfl), (by kernel_rfl), (by kernel_rfl), (by kernel_rfl), (by kernel_rfl), (by kernel_rfl), (by kernel_rfl), (by kernel_rfl), (by kernel_rfl), (by kernel_rfl), (by kernel_rfl), (by kernel_rfl), (by kernel_rfl), (by kernel_rfl), (by kernel_rfl), (by kernel_rfl), (by kernel_rfl), (by kernel_rfl), (by kernel_rfl), (by kernel_rfl), (by kernel_rfl), (by kernel_rfl), (by kernel_rfl), (by kernel_rfl), (by kernel_rfl), (by kernel_rfl), (by kernel_rfl), (by kernel_rfl), (by kernel_rfl), (by kernel_rfl), (by kernel_rfl), (by kernel_rfl), (by kernel_rfl), (by kernel_rfl), (by kernel_rfl), (by kernel_rfl), (by kernel_rfl), (by kernel_rfl), (by kernel_rfl), (by kernel_rfl), (by kernel_rfl), (by kernel_rfl), (by kernel_rfl), (by kernel_rfl), (by kernel_rfl), (by kernel_rfl), (by kernel_rfl), (by kernel_rfl), (by kernel_rfl), (by kernel_rfl), (by kernel_rfl), (by kernel_rfl), (by kernel_rfl)⟩
end Go.Proofs.YtflipopanpdcnadGreat
