/- What the translation says of its functions and types, for the evaluator: printed by mkfacts.py. -/
import Derived.Test.YtofkapncgmjcfaaProg
import Derived.Test.YtofkapncgmjcfaaGxK
namespace Go.Proofs.Ytofkapncgmjcfaa
open Go.Gx Go.RowKit
set_option maxRecDepth 100000
theorem fu3 : Try.prog.funcs[3]? = some Try.f3 := by kernel_rfl
theorem fu4 : Try.prog.funcs[4]? = some Try.f4 := by kernel_rfl
theorem fu6 : Try.prog.funcs[6]? = some Try.f6 := by kernel_rfl
theorem fu7 : Try.prog.funcs[7]? = some Try.f7 := by kernel_rfl
theorem fu8 : Try.prog.funcs[8]? = some Try.f8 := by kernel_rfl
theorem fu9 : Try.prog.funcs[9]? = some Try.f9 := by kernel_rfl
theorem fu10 : Try.prog.funcs[10]? = some Try.f10 := by kernel_rfl
theorem fu11 : Try.prog.funcs[11]? = some Try.f11 := by kernel_rfl
theorem fu12 : Try.prog.funcs[12]? = some Try.f12 := by kernel_rfl
theorem fu13 : Try.prog.funcs[13]? = some Try.f13 := by kernel_rfl
theorem fu14 : Try.prog.funcs[14]? = some Try.f14 := by kernel_rfl
theorem fu15 : Try.prog.funcs[15]? = some Try.f15 := by kernel_rfl
theorem fu16 : Try.prog.funcs[16]? = some Try.f16 := by kernel_rfl
theorem fu17 : Try.prog.funcs[17]? = some Try.f17 := by kernel_rfl
theorem fu18 : Try.prog.funcs[18]? = some Try.f18 := by kernel_rfl
theorem fu19 : Try.prog.funcs[19]? = some Try.f19 := by kernel_rfl
theorem fu20 : Try.prog.funcs[20]? = some Try.f20 := by kernel_rfl
theorem fu21 : Try.prog.funcs[21]? = some Try.f21 := by kernel_rfl
theorem fu22 : Try.prog.funcs[22]? = some Try.f22 := by kernel_rfl
theorem fu23 : Try.prog.funcs[23]? = some Try.f23 := by kernel_rfl
theorem fu24 : Try.prog.funcs[24]? = some Try.f24 := by kernel_rfl
theorem fu25 : Try.prog.funcs[25]? = some Try.f25 := by kernel_rfl
theorem fu26 : Try.prog.funcs[26]? = some Try.f26 := by kernel_rfl
theorem fu27 : Try.prog.funcs[27]? = some Try.f27 := by kernel_rfl
theorem fu28 : Try.prog.funcs[28]? = some Try.f28 := by kernel_rfl
theorem fu29 : Try.prog.funcs[29]? = some Try.f29 := by kernel_rfl
theorem fu30 : Try.prog.funcs[30]? = some Try.f30 := by kernel_rfl
theorem fu31 : Try.prog.funcs[31]? = some Try.f31 := by kernel_rfl
theorem fu32 : Try.prog.funcs[32]? = some Try.f32 := by kernel_rfl
theorem fu33 : Try.prog.funcs[33]? = some Try.f33 := by kernel_rfl
theorem fu34 : Try.prog.funcs[34]? = some Try.f34 := by kernel_rfl
theorem fu35 : Try.prog.funcs[35]? = some Try.f35 := by kernel_rfl
theorem fu36 : Try.prog.funcs[36]? = some Try.f36 := by kernel_rfl
theorem fu37 : Try.prog.funcs[37]? = some Try.f37 := by kernel_rfl
theorem fu38 : Try.prog.funcs[38]? = some Try.f38 := by kernel_rfl
theorem fu39 : Try.prog.funcs[39]? = some Try.f39 := by kernel_rfl
theorem fu40 : Try.prog.funcs[40]? = some Try.f40 := by kernel_rfl
theorem fu41 : Try.prog.funcs[41]? = some Try.f41 := by kernel_rfl
theorem fu42 : Try.prog.funcs[42]? = some Try.f42 := by kernel_rfl
theorem fu43 : Try.prog.funcs[43]? = some Try.f43 := by kernel_rfl
theorem fu44 : Try.prog.funcs[44]? = some Try.f44 := by kernel_rfl
theorem fu45 : Try.prog.funcs[45]? = some Try.f45 := by kernel_rfl
theorem fu46 : Try.prog.funcs[46]? = some Try.f46 := by kernel_rfl
theorem fu47 : Try.prog.funcs[47]? = some Try.f47 := by kernel_rfl
theorem fu48 : Try.prog.funcs[48]? = some Try.f48 := by kernel_rfl
theorem fu49 : Try.prog.funcs[49]? = some Try.f49 := by kernel_rfl
theorem fu50 : Try.prog.funcs[50]? = some Try.f50 := by kernel_rfl
theorem fu51 : Try.prog.funcs[51]? = some Try.f51 := by kernel_rfl
theorem fu52 : Try.prog.funcs[52]? = some Try.f52 := by kernel_rfl
theorem fu53 : Try.prog.funcs[53]? = some Try.f53 := by kernel_rfl
theorem fu54 : Try.prog.funcs[54]? = some Try.f54 := by kernel_rfl
theorem fu55 : Try.prog.funcs[55]? = some Try.f55 := by kernel_rfl
theorem fu56 : Try.prog.funcs[56]? = some Try.f56 := by kernel_rfl
theorem fu57 : Try.prog.funcs[57]? = some Try.f57 := by kernel_rfl
theorem fu58 : Try.prog.funcs[58]? = some Try.f58 := by kernel_rfl
theorem fu59 : Try.prog.funcs[59]? = some Try.f59 := by kernel_rfl
theorem fu60 : Try.prog.funcs[60]? = some Try.f60 := by kernel_rfl
theorem fu61 : Try.prog.funcs[61]? = some Try.f61 := by kernel_rfl
theorem fu62 : Try.prog.funcs[62]? = some Try.f62 := by kernel_rfl
theorem fu63 : Try.prog.funcs[63]? = some Try.f63 := by kernel_rfl
theorem fu64 : Try.prog.funcs[64]? = some Try.f64 := by kernel_rfl
theorem fu65 : Try.prog.funcs[65]? = some Try.f65 := by kernel_rfl
theorem fu66 : Try.prog.funcs[66]? = some Try.f66 := by kernel_rfl
theorem fu67 : Try.prog.funcs[67]? = some Try.f67 := by kernel_rfl
theorem fu68 : Try.prog.funcs[68]? = some Try.f68 := by kernel_rfl
theorem fu69 : Try.prog.funcs[69]? = some Try.f69 := by kernel_rfl
theorem fu70 : Try.prog.funcs[70]? = some Try.f70 := by kernel_rfl
theorem fu71 : Try.prog.funcs[71]? = some Try.f71 := by kernel_rfl
theorem fu72 : Try.prog.funcs[72]? = some Try.f72 := by kernel_rfl
theorem fu73 : Try.prog.funcs[73]? = some Try.f73 := by kernel_rfl
theorem fu74 : Try.prog.funcs[74]? = some Try.f74 := by kernel_rfl
theorem fu75 : Try.prog.funcs[75]? = some Try.f75 := by kernel_rfl
theorem fu76 : Try.prog.funcs[76]? = some Try.f76 := by kernel_rfl
theorem fu77 : Try.prog.funcs[77]? = some Try.f77 := by kernel_rfl
theorem fu78 : Try.prog.funcs[78]? = some Try.f78 := by kernel_rfl
theorem fu79 : Try.prog.funcs[79]? = some Try.f79 := by kernel_rfl
theorem fu80 : Try.prog.funcs[80]? = some Try.f80 := by kernel_rfl
theorem fu81 : Try.prog.funcs[81]? = some Try.f81 := by kernel_rfl
theorem fu82 : Try.prog.funcs[82]? = some Try.f82 := by kernel_rfl
theorem fu83 : Try.prog.funcs[83]? = some Try.f83 := by kernel_rfl
theorem fu84 : Try.prog.funcs[84]? = some Try.f84 := by kernel_rfl
theorem fu85 : Try.prog.funcs[85]? = some Try.f85 := by kernel_rfl
theorem fu86 : Try.prog.funcs[86]? = some Try.f86 := by kernel_rfl
theorem fu87 : Try.prog.funcs[87]? = some Try.f87 := by kernel_rfl
theorem fu88 : Try.prog.funcs[88]? = some Try.f88 := by kernel_rfl
theorem fu89 : Try.prog.funcs[89]? = some Try.f89 := by kernel_rfl
theorem fu90 : Try.prog.funcs[90]? = some Try.f90 := by kernel_rfl
theorem fu91 : Try.prog.funcs[91]? = some Try.f91 := by kernel_rfl
theorem fu92 : Try.prog.funcs[92]? = some Try.f92 := by kernel_rfl
theorem fu93 : Try.prog.funcs[93]? = some Try.f93 := by kernel_rfl
theorem fu94 : Try.prog.funcs[94]? = some Try.f94 := by kernel_rfl
theorem fu95 : Try.prog.funcs[95]? = some Try.f95 := by kernel_rfl
theorem fu96 : Try.prog.funcs[96]? = some Try.f96 := by kernel_rfl
theorem fu97 : Try.prog.funcs[97]? = some Try.f97 := by kernel_rfl
theorem fu98 : Try.prog.funcs[98]? = some Try.f98 := by kernel_rfl
theorem fu99 : Try.prog.funcs[99]? = some Try.f99 := by kernel_rfl
theorem fu100 : Try.prog.funcs[100]? = some Try.f100 := by kernel_rfl
theorem fu101 : Try.prog.funcs[101]? = some Try.f101 := by kernel_rfl
theorem fu102 : Try.prog.funcs[102]? = some Try.f102 := by kernel_rfl
theorem fu103 : Try.prog.funcs[103]? = some Try.f103 := by kernel_rfl
theorem fu104 : Try.prog.funcs[104]? = some Try.f104 := by kernel_rfl
theorem fu105 : Try.prog.funcs[105]? = some Try.f105 := by kernel_rfl
theorem fu106 : Try.prog.funcs[106]? = some Try.f106 := by kernel_rfl
theorem fu107 : Try.prog.funcs[107]? = some Try.f107 := by kernel_rfl
theorem fu108 : Try.prog.funcs[108]? = some Try.f108 := by kernel_rfl
theorem mixed : Try.prog.follows .mixedOrders = true := by kernel_rfl
theorem ft :
    Try.f3.results.toList = [.tmp 6] ∧
    Try.f3.ntmps = 108 ∧
    Try.f4.results.toList = [.tmp 6] ∧
    Try.f4.ntmps = 110 ∧
    Try.f6.results.toList = [.tmp 2] ∧
    Try.f6.ntmps = 22 ∧
    Try.f7.results.toList = [.tmp 0] ∧
    Try.f7.ntmps = 67 ∧
    Try.f8.results.toList = [.tmp 4, .tmp 5] ∧
    Try.f8.ntmps = 30 ∧
    Try.f9.results.toList = [.tmp 8] ∧
    Try.f9.ntmps = 29 ∧
    Try.f10.results.toList = [.tmp 2] ∧
    Try.f10.ntmps = 4 ∧
    Try.f11.results.toList = [.cell 4 41, .tmp 5] ∧
    Try.f11.ntmps = 20 ∧
    Try.f12.results.toList = [.cell 4 38, .cell 5 41, .tmp 6] ∧
    Try.f12.ntmps = 46 ∧
    Try.f13.results.toList = [.cell 2 36, .tmp 3] ∧
    Try.f13.ntmps = 33 ∧
    Try.f14.results.toList = [.tmp 2] ∧
    Try.f14.ntmps = 6 ∧
    Try.f15.results.toList = [.tmp 2] ∧
    Try.f15.ntmps = 26 ∧
    Try.f16.results.toList = [.tmp 2] ∧
    Try.f16.ntmps = 11 ∧
    Try.f17.results.toList = [.tmp 2, .tmp 3] ∧
    Try.f17.ntmps = 23 ∧
    Try.f18.results.toList = [.cell 6 55, .cell 7 29] ∧
    Try.f18.ntmps = 49 ∧
    Try.f19.results.toList = [.tmp 6, .tmp 7] ∧
    Try.f19.ntmps = 49 ∧
    Try.f20.results.toList = [.tmp 4] ∧
    Try.f20.ntmps = 29 ∧
    Try.f21.results.toList = [.tmp 4] ∧
    Try.f21.ntmps = 24 ∧
    Try.f22.results.toList = [.cell 4 41, .tmp 5] ∧
    Try.f22.ntmps = 20 ∧
    Try.f23.results.toList = [.tmp 2, .tmp 3] ∧
    Try.f23.ntmps = 27 ∧
    Try.f24.results.toList = [.cell 0 24] ∧
    Try.f24.ntmps = 3 ∧
    Try.f25.results.toList = [.tmp 6, .tmp 7] ∧
    Try.f25.ntmps = 37 ∧
    Try.f26.results.toList = [.tmp 2] ∧
    Try.f26.ntmps = 49 ∧
    Try.f27.results.toList = [.tmp 2] ∧
    Try.f27.ntmps = 45 ∧
    Try.f28.results.toList = [.tmp 2] ∧
    Try.f28.ntmps = 52 ∧
    Try.f29.results.toList = [.tmp 8] ∧
    Try.f29.ntmps = 58 ∧
    Try.f30.results.toList = [.tmp 6] ∧
    Try.f30.ntmps = 59 ∧
    Try.f31.results.toList = [.tmp 4, .tmp 5] ∧
    Try.f31.ntmps = 21 ∧
    Try.f32.results.toList = [.cell 4 41, .tmp 5] ∧
    Try.f32.ntmps = 23 ∧
    Try.f33.results.toList = [.tmp 4] ∧
    Try.f33.ntmps = 22 ∧
    Try.f34.results.toList = [.cell 6 41, .tmp 7] ∧
    Try.f34.ntmps = 34 ∧
    Try.f35.results.toList = [.cell 2 41] ∧
    Try.f35.ntmps = 5 ∧
    Try.f36.results.toList = [.tmp 4] ∧
    Try.f36.ntmps = 10 ∧
    Try.f37.results.toList = [.cell 4 38, .cell 5 41, .tmp 6] ∧
    Try.f37.ntmps = 33 ∧
    Try.f38.results.toList = [.tmp 2] ∧
    Try.f38.ntmps = 11 ∧
    Try.f39.results.toList = [.tmp 2] ∧
    Try.f39.ntmps = 24 ∧
    Try.f40.results.toList = [.tmp 2, .tmp 3] ∧
    Try.f40.ntmps = 15 ∧
    Try.f41.results.toList = [] ∧
    Try.f41.ntmps = 17 ∧
    Try.f42.results.toList = [.tmp 2, .tmp 3] ∧
    Try.f42.ntmps = 9 ∧
    Try.f43.results.toList = [.tmp 2] ∧
    Try.f43.ntmps = 11 ∧
    Try.f44.results.toList = [.tmp 4] ∧
    Try.f44.ntmps = 28 ∧
    Try.f45.results.toList = [.tmp 6] ∧
    Try.f45.ntmps = 8 ∧
    Try.f46.results.toList = [.tmp 2] ∧
    Try.f46.ntmps = 21 ∧
    Try.f47.results.toList = [.cell 2 106] ∧
    Try.f47.ntmps = 21 ∧
    Try.f48.results.toList = [.cell 2 106] ∧
    Try.f48.ntmps = 50 ∧
    Try.f49.results.toList = [.cell 4 41, .tmp 5] ∧
    Try.f49.ntmps = 23 ∧
    Try.f50.results.toList = [.tmp 4] ∧
    Try.f50.ntmps = 19 ∧
    Try.f51.results.toList = [.tmp 4] ∧
    Try.f51.ntmps = 19 ∧
    Try.f52.results.toList = [.tmp 2, .tmp 3] ∧
    Try.f52.ntmps = 25 ∧
    Try.f53.results.toList = [.tmp 4] ∧
    Try.f53.ntmps = 13 ∧
    Try.f54.results.toList = [.tmp 4] ∧
    Try.f54.ntmps = 14 ∧
    Try.f55.results.toList = [.tmp 2, .tmp 3] ∧
    Try.f55.ntmps = 9 ∧
    Try.f56.results.toList = [.tmp 4, .tmp 5] ∧
    Try.f56.ntmps = 55 ∧
    Try.f57.results.toList = [.tmp 4, .tmp 5] ∧
    Try.f57.ntmps = 16 ∧
    Try.f58.results.toList = [.cell 6 41, .tmp 7] ∧
    Try.f58.ntmps = 13 ∧
    Try.f59.results.toList = [.cell 4 41, .tmp 5] ∧
    Try.f59.ntmps = 51 ∧
    Try.f60.results.toList = [.tmp 4] ∧
    Try.f60.ntmps = 23 ∧
    Try.f61.results.toList = [.cell 6 41] ∧
    Try.f61.ntmps = 11 ∧
    Try.f62.results.toList = [.tmp 2] ∧
    Try.f62.ntmps = 23 ∧
    Try.f63.results.toList = [.tmp 8, .tmp 9] ∧
    Try.f63.ntmps = 25 ∧
    Try.f64.results.toList = [.tmp 3] ∧
    Try.f64.ntmps = 7 ∧
    Try.f65.results.toList = [.tmp 4] ∧
    Try.f65.ntmps = 16 ∧
    Try.f66.results.toList = [.tmp 2] ∧
    Try.f66.ntmps = 14 ∧
    Try.f67.results.toList = [.cell 4 128, .tmp 5] ∧
    Try.f67.ntmps = 69 ∧
    Try.f68.results.toList = [] ∧
    Try.f68.ntmps = 41 ∧
    Try.f69.results.toList = [.tmp 4, .tmp 5] ∧
    Try.f69.ntmps = 12 ∧
    Try.f70.results.toList = [.tmp 2, .tmp 3] ∧
    Try.f70.ntmps = 12 ∧
    Try.f71.results.toList = [.tmp 6] ∧
    Try.f71.ntmps = 24 ∧
    Try.f72.results.toList = [.tmp 2] ∧
    Try.f72.ntmps = 15 ∧
    Try.f73.results.toList = [.cell 2 140] ∧
    Try.f73.ntmps = 19 ∧
    Try.f74.results.toList = [.tmp 2] ∧
    Try.f74.ntmps = 11 ∧
    Try.f75.results.toList = [.tmp 2] ∧
    Try.f75.ntmps = 5 ∧
    Try.f76.results.toList = [.tmp 2] ∧
    Try.f76.ntmps = 18 ∧
    Try.f77.results.toList = [.cell 4 41, .tmp 5] ∧
    Try.f77.ntmps = 45 ∧
    Try.f78.results.toList = [.tmp 2] ∧
    Try.f78.ntmps = 49 ∧
    Try.f79.results.toList = [.tmp 2, .tmp 3] ∧
    Try.f79.ntmps = 73 ∧
    Try.f80.results.toList = [.tmp 2] ∧
    Try.f80.ntmps = 35 ∧
    Try.f81.results.toList = [.tmp 4] ∧
    Try.f81.ntmps = 13 ∧
    Try.f82.results.toList = [.tmp 4] ∧
    Try.f82.ntmps = 14 ∧
    Try.f83.results.toList = [.tmp 4] ∧
    Try.f83.ntmps = 28 ∧
    Try.f84.results.toList = [.tmp 4] ∧
    Try.f84.ntmps = 11 ∧
    Try.f85.results.toList = [.cell 4 41, .tmp 5] ∧
    Try.f85.ntmps = 17 ∧
    Try.f86.results.toList = [.cell 8 41, .tmp 9] ∧
    Try.f86.ntmps = 25 ∧
    Try.f87.results.toList = [.cell 2 41, .tmp 3] ∧
    Try.f87.ntmps = 19 ∧
    Try.f88.results.toList = [.tmp 4] ∧
    Try.f88.ntmps = 7 ∧
    Try.f89.results.toList = [.tmp 4] ∧
    Try.f89.ntmps = 9 ∧
    Try.f90.results.toList = [.tmp 2] ∧
    Try.f90.ntmps = 25 ∧
    Try.f91.results.toList = [.cell 0 157] ∧
    Try.f91.ntmps = 7 ∧
    Try.f92.results.toList = [.tmp 2] ∧
    Try.f92.ntmps = 5 ∧
    Try.f93.results.toList = [.cell 3 41, .tmp 4] ∧
    Try.f93.ntmps = 26 ∧
    Try.f94.results.toList = [.tmp 2, .tmp 3] ∧
    Try.f94.ntmps = 9 ∧
    Try.f95.results.toList = [.cell 1 41, .tmp 2] ∧
    Try.f95.ntmps = 10 ∧
    Try.f96.results.toList = [.cell 5 41, .tmp 6] ∧
    Try.f96.ntmps = 22 ∧
    Try.f97.results.toList = [.tmp 4] ∧
    Try.f97.ntmps = 19 ∧
    Try.f98.results.toList = [.tmp 0] ∧
    Try.f98.ntmps = 3 ∧
    Try.f99.results.toList = [.tmp 2] ∧
    Try.f99.ntmps = 3 ∧
    Try.f100.results.toList = [.tmp 2] ∧
    Try.f100.ntmps = 6 ∧
    Try.f101.results.toList = [.tmp 2] ∧
    Try.f101.ntmps = 3 ∧
    Try.f102.results.toList = [.tmp 2] ∧
    Try.f102.ntmps = 17 ∧
    Try.f103.results.toList = [.tmp 2] ∧
    Try.f103.ntmps = 6 ∧
    Try.f104.results.toList = [.tmp 2] ∧
    Try.f104.ntmps = 12 ∧
    Try.f105.results.toList = [.tmp 2] ∧
    Try.f105.ntmps = 8 ∧
    Try.f106.results.toList = [.tmp 2] ∧
    Try.f106.ntmps = 5 ∧
    Try.f107.results.toList = [.tmp 2] ∧
    Try.f107.ntmps = 3 ∧
    Try.f108.results.toList = [.tmp 2, .tmp 3] ∧
    Try.f108.ntmps = 52 ∧
    tiof Try.prog 2 = some ⟨1, false, [.int .i64 0], .it .i64⟩ ∧
    tiof Try.prog 3 = some ⟨1, false, [.int .i64 0], .it .i64⟩ ∧
    tiof Try.prog 4 = some ⟨1, false, [.bool false], .bo⟩ ∧
    tiof Try.prog 5 = some ⟨1, false, [.int .u8 0], .it .u8⟩ ∧
    tiof Try.prog 9 = some ⟨1, false, [.string ⟨#[]⟩], .str⟩ ∧
    tiof Try.prog 20 = some ⟨1, false, [.nilIface], .ifc⟩ ∧
    tiof Try.prog 22 = some ⟨1, false, [.slice none 0 0], .sl 1 74⟩ ∧
    tiof Try.prog 24 = some ⟨3, true, [.int .i64 0, .int .i64 0, .slice none 0 0], .st [(0, 1, 3), (1, 1, 3), (2, 1, 22)] true⟩ ∧
    tiof Try.prog 25 = some ⟨1, false, [.slice none 0 0], .sl 1 34⟩ ∧
    tiof Try.prog 28 = some ⟨1, false, [.pointer none], .pt⟩ ∧
    tiof Try.prog 29 = some ⟨1, false, [.int .i64 0], .it .i64⟩ ∧
    tiof Try.prog 34 = some ⟨1, false, [.int .u64 0], .it .u64⟩ ∧
    tiof Try.prog 36 = some ⟨2, true, [.int .i64 0, .int .i64 0], .st [(0, 1, 29), (1, 1, 3)] true⟩ ∧
    tiof Try.prog 38 = some ⟨8, true, [.int .i64 0, .int .i64 0, .slice none 0 0, .int .i64 0, .int .i64 0, .int .u64 0, .int .i64 0, .int .i64 0], .st [(0, 3, 24), (3, 1, 3), (4, 1, 3), (5, 1, 34), (6, 2, 36)] true⟩ ∧
    tiof Try.prog 39 = some ⟨1, false, [.int .i64 0], .it .i64⟩ ∧
    tiof Try.prog 41 = some ⟨4, true, [.int .i64 0, .int .i64 0, .int .u64 0, .int .u64 0], .st [(0, 1, 39), (1, 1, 3), (2, 1, 34), (3, 1, 34)] true⟩ ∧
    tiof Try.prog 50 = some ⟨4, true, [.int .i64 0, .int .i64 0, .slice none 0 0, .slice none 0 0], .st [(0, 3, 24), (3, 1, 25)] true⟩ ∧
    tiof Try.prog 52 = some ⟨1, false, [.pointer none], .pt⟩ ∧
    tiof Try.prog 55 = some ⟨1, false, [.slice none 0 0], .sl 1 3⟩ ∧
    tiof Try.prog 62 = some ⟨1, false, [.pointer none], .pt⟩ ∧
    tiof Try.prog 69 = some ⟨1, false, [.pointer none], .pt⟩ ∧
    tiof Try.prog 71 = some ⟨3, true, [.pointer none, .int .i64 0, .slice none 0 0], .st [(0, 1, 69), (1, 1, 3), (2, 1, 25)] true⟩ ∧
    tiof Try.prog 74 = some ⟨1, false, [.string ⟨#[]⟩], .str⟩ ∧
    tiof Try.prog 81 = some ⟨3, true, [.pointer none, .int .i64 0, .slice none 0 0], .st [(0, 1, 69), (1, 1, 3), (2, 1, 25)] true⟩ ∧
    tiof Try.prog 82 = some ⟨1, false, [.nilFunc], .fu⟩ ∧
    tiof Try.prog 84 = some ⟨8, true, [.int .i64 0, .int .i64 0, .slice none 0 0, .int .i64 0, .int .u64 0, .nilFunc, .bool false, .int .i64 0], .st [(0, 3, 24), (3, 1, 3), (4, 1, 34), (5, 1, 82), (6, 1, 4), (7, 1, 29)] true⟩ ∧
    tiof Try.prog 87 = some ⟨1, false, [.pointer none], .pt⟩ ∧
    tiof Try.prog 94 = some ⟨1, true, [.slice none 0 0], .st [(0, 1, 25)] true⟩ ∧
    tiof Try.prog 96 = some ⟨1, true, [.slice none 0 0], .st [(0, 1, 94)] true⟩ ∧
    tiof Try.prog 104 = some ⟨1, false, [.int .i64 0], .it .i64⟩ ∧
    tiof Try.prog 106 = some ⟨3, true, [.int .i64 0, .bool false, .int .i64 0], .st [(0, 1, 104), (1, 1, 4), (2, 1, 2)] true⟩ ∧
    tiof Try.prog 113 = some ⟨4, true, [.int .i64 0, .int .i64 0, .int .i64 0, .int .i64 0], .st [(0, 1, 3), (1, 1, 3), (2, 1, 3), (3, 1, 3)] true⟩ ∧
    tiof Try.prog 121 = some ⟨1, false, [.nilFunc], .fu⟩ ∧
    tiof Try.prog 124 = some ⟨3, true, [.int .i64 0, .int .i64 0, .slice none 0 0], .st [(0, 3, 24)] true⟩ ∧
    tiof Try.prog 125 = some ⟨1, false, [.nilFunc], .fu⟩ ∧
    tiof Try.prog 126 = some ⟨1, false, [.int .i64 0], .it .i64⟩ ∧
    tiof Try.prog 128 = some ⟨3, true, [.int .i64 0, .int .i64 0, .int .i64 0], .st [(0, 1, 126), (1, 1, 3), (2, 1, 3)] true⟩ ∧
    tiof Try.prog 138 = some ⟨1, false, [.int .u64 0], .it .u64⟩ ∧
    tiof Try.prog 140 = some ⟨2, true, [.int .u64 0, .int .i64 0], .st [(0, 1, 138), (1, 1, 104)] true⟩ ∧
    tiof Try.prog 147 = some ⟨1, false, [.nilFunc], .fu⟩ ∧
    tiof Try.prog 148 = some ⟨4, true, [.nilFunc, .nilFunc, .nilFunc, .nilFunc], .ar 4 1 147⟩ ∧
    tiof Try.prog 151 = some ⟨1, false, [.nilFunc], .fu⟩ ∧
    tiof Try.prog 153 = some ⟨1, false, [.nilFunc], .fu⟩ ∧
    tiof Try.prog 154 = some ⟨1, false, [.nilFunc], .fu⟩ ∧
    tiof Try.prog 156 = some ⟨5, true, [.string ⟨#[]⟩, .nilFunc, .int .i64 0, .int .i64 0, .nilFunc], .st [(0, 1, 9), (1, 1, 153), (2, 1, 2), (3, 1, 2), (4, 1, 154)] true⟩ ∧
    tiof Try.prog 157 = some ⟨25, true, [.string ⟨#[]⟩, .nilFunc, .int .i64 0, .int .i64 0, .nilFunc, .string ⟨#[]⟩, .nilFunc, .int .i64 0, .int .i64 0, .nilFunc, .string ⟨#[]⟩, .nilFunc, .int .i64 0, .int .i64 0, .nilFunc, .string ⟨#[]⟩, .nilFunc, .int .i64 0, .int .i64 0, .nilFunc, .string ⟨#[]⟩, .nilFunc, .int .i64 0, .int .i64 0, .nilFunc], .ar 5 5 156⟩ ∧
    tiof Try.prog 161 = some ⟨16, true, [.int .i64 0, .int .i64 0, .int .u64 0, .int .u64 0, .int .i64 0, .int .i64 0, .int .u64 0, .int .u64 0, .int .i64 0, .int .i64 0, .int .u64 0, .int .u64 0, .int .i64 0, .int .i64 0, .int .u64 0, .int .u64 0], .ar 4 4 41⟩ ∧
    fnOk Try.prog 3 = true ∧
    fnOk Try.prog 4 = true ∧
    fnOk Try.prog 6 = true ∧
    fnOk Try.prog 7 = true ∧
    fnOk Try.prog 8 = true ∧
    fnOk Try.prog 9 = true ∧
    fnOk Try.prog 10 = true ∧
    fnOk Try.prog 11 = true ∧
    fnOk Try.prog 12 = true ∧
    fnOk Try.prog 13 = true ∧
    fnOk Try.prog 14 = true ∧
    fnOk Try.prog 15 = true ∧
    fnOk Try.prog 16 = true ∧
    fnOk Try.prog 17 = true ∧
    fnOk Try.prog 18 = true ∧
    fnOk Try.prog 19 = true ∧
    fnOk Try.prog 20 = true ∧
    fnOk Try.prog 21 = true ∧
    fnOk Try.prog 22 = true ∧
    fnOk Try.prog 23 = true ∧
    fnOk Try.prog 24 = true ∧
    fnOk Try.prog 25 = true ∧
    fnOk Try.prog 26 = true ∧
    fnOk Try.prog 27 = true ∧
    fnOk Try.prog 28 = true ∧
    fnOk Try.prog 29 = true ∧
    fnOk Try.prog 30 = true ∧
    fnOk Try.prog 31 = true ∧
    fnOk Try.prog 32 = true ∧
    fnOk Try.prog 33 = true ∧
    fnOk Try.prog 34 = true ∧
    fnOk Try.prog 35 = true ∧
    fnOk Try.prog 36 = true ∧
    fnOk Try.prog 37 = true ∧
    fnOk Try.prog 38 = true ∧
    fnOk Try.prog 39 = true ∧
    fnOk Try.prog 40 = true ∧
    fnOk Try.prog 41 = true ∧
    fnOk Try.prog 42 = true ∧
    fnOk Try.prog 43 = true ∧
    fnOk Try.prog 44 = true ∧
    fnOk Try.prog 45 = true ∧
    fnOk Try.prog 46 = true ∧
    fnOk Try.prog 47 = true ∧
    fnOk Try.prog 48 = true ∧
    fnOk Try.prog 49 = true ∧
    fnOk Try.prog 50 = true ∧
    fnOk Try.prog 51 = true ∧
    fnOk Try.prog 52 = true ∧
    fnOk Try.prog 53 = true ∧
    fnOk Try.prog 54 = true ∧
    fnOk Try.prog 55 = true ∧
    fnOk Try.prog 56 = true ∧
    fnOk Try.prog 57 = true ∧
    fnOk Try.prog 58 = true ∧
    fnOk Try.prog 59 = true ∧
    fnOk Try.prog 60 = true ∧
    fnOk Try.prog 61 = true ∧
    fnOk Try.prog 62 = true ∧
    fnOk Try.prog 63 = true ∧
    fnOk Try.prog 64 = true ∧
    fnOk Try.prog 65 = true ∧
    fnOk Try.prog 66 = true ∧
    fnOk Try.prog 67 = true ∧
    fnOk Try.prog 68 = true ∧
    fnOk Try.prog 69 = true ∧
    fnOk Try.prog 70 = true ∧
    fnOk Try.prog 71 = true ∧
    fnOk Try.prog 72 = true ∧
    fnOk Try.prog 73 = true ∧
    fnOk Try.prog 74 = true ∧
    fnOk Try.prog 75 = true ∧
    fnOk Try.prog 76 = true ∧
    fnOk Try.prog 77 = true ∧
    fnOk Try.prog 78 = true ∧
    fnOk Try.prog 79 = true ∧
    fnOk Try.prog 80 = true ∧
    fnOk Try.prog 81 = true ∧
    fnOk Try.prog 82 = true ∧
    fnOk Try.prog 83 = true ∧
    fnOk Try.prog 84 = true ∧
    fnOk Try.prog 85 = true ∧
    fnOk Try.prog 86 = true ∧
    fnOk Try.prog 87 = true ∧
    fnOk Try.prog 88 = true ∧
    fnOk Try.prog 89 = true ∧
    fnOk Try.prog 90 = true ∧
    fnOk Try.prog 91 = true ∧
    fnOk Try.prog 92 = true ∧
    fnOk Try.prog 93 = true ∧
    fnOk Try.prog 94 = true ∧
    fnOk Try.prog 95 = true ∧
    fnOk Try.prog 96 = true ∧
    fnOk Try.prog 97 = true ∧
    fnOk Try.prog 98 = true ∧
    fnOk Try.prog 99 = true ∧
    fnOk Try.prog 100 = true ∧
    fnOk Try.prog 101 = true ∧
    fnOk Try.prog 102 = true ∧
    fnOk Try.prog 103 = true ∧
    fnOk Try.prog 104 = true ∧
    fnOk Try.prog 105 = true ∧
    fnOk Try.prog 106 = true ∧
    fnOk Try.prog 107 = true ∧
    fnOk Try.prog 108 = true :=
  ⟨rfl, rfl, rfl, rfl, rfl, rfl, rfl, rfl, rfl, rfl, rfl, rfl, rfl, rfl, rfl, rfl, rfl, rfl, rfl, rfl, rfl, rfl, rfl, rfl, rfl, rfl, rfl, rfl, rfl, rfl, rfl, rfl, rfl, rfl, rfl, rfl, rfl, rfl, rfl, rfl, rfl, rfl, rfl, rfl, rfl, rfl, rfl, rfl, rfl, rfl, rfl, rfl, rfl, rfl, rfl, rfl, rfl, rfl, rfl, rfl, rfl, rfl, rfl, rfl, rfl, rfl, rfl, rfl, rfl, rfl, rfl, rfl, rfl, rfl, rfl, rfl, rfl, rfl, rfl, rfl, rfl, rfl, rfl, rfl, rfl, rfl, rfl, rfl, rfl, rfl, rfl, rfl, rfl, rfl, rfl, rfl, rfl, rfl, rfl, rfl, rfl, rfl, rfl, rfl, rfl, rfl, rfl, rfl, rfl, rfl, rfl, rfl, rfl, rfl, rfl, rfl, rfl, rfl, rfl, rfl, rfl, rfl, rfl, rfl, rfl, rfl, rfl, rfl, rfl, rfl, rfl, rfl, rfl, rfl, rfl, rfl, rfl, rfl, rfl, rfl, rfl, rfl, rfl, rfl, rfl, rfl, rfl, rfl, rfl, rfl, rfl, rfl, rfl, rfl, rfl, rfl, rfl, rfl, rfl, rfl, rfl, rfl, rfl, rfl, rfl, rfl, rfl, rfl, rfl, rfl, rfl, rfl, rfl, rfl, rfl, rfl, rfl, rfl, rfl, rfl, rfl, rfl, rfl, rfl, rfl, rfl, rfl, rfl, rfl, rfl, rfl, rfl, rfl, rfl, rfl, rfl, rfl, rfl, rfl, rfl, rfl, rfl, rfl, rfl, rfl, rfl, rfl, rfl, rfl, rfl, (by kernel_rfl), (by kernel_rfl), (by kernel_rfl), (by kernel_rfl), (by kernel_rfl), (by kernel_rfl), (by kernel_rfl), (by kernel_rfl), (by kernel_rfl), (by kernel_rfl), (by kernel_rfl), (by kernel_rfl), (by kernel_rfl), (by kernel_rfl), (by kernel_rfl), (by kernel_rfl), (by kernel_rfl), (by kernel_rfl), (by kernel_rfl), (by kernel_rfl), (by kernel_rfl), (by kernel_rfl), (by kernel_rfl), (by kernel_rfl), (by kernel_rfl), (by kernel_rfl), (by kernel_rfl), (by kernel_rfl), (by kernel_rfl), (by kernel_rfl), (by kernel_rfl), (by kernel_rfl), (by kernel_rfl), (by kernel_rfl), (by kernel_rfl), (by kernel_rfl), (by kernel_rfl), (by kernel_rfl), (by kernel_rfl), (by kernel_rfl), (by kernel_rfl), (by kernel_rfl), (by kernel_rfl), (by kernel_rfl), (by kernel_rfl), (by kernel_rfl), (by kernel_rfl), (by kernel_rfl), (by kernel_rfl), (by kernel_rfl), (by kernel_rfl), (by kernel_rfl), (by kernel_rfl), (by kernel_rfl), (by kernel_rfl), (by kernel_rfl), (by kernel_rfl), (by kernel_rfl), (by kernel_rfl), (by kernel_rfl), (by kernel_rfl), (by kernel_rfl), (by kernel_rfl), (by kernel_rfl), (by kernel_rfl), (by kernel_rfl), (by kernel_rfl), (by kernel_rfl), (by kernel_rfl), (by kernel_rfl), (by kernel_rfl), (by kernel_rfl), (by kernel_rfl), (by kernel_rfl), (by kernel_rfl), (by kernel_rfl), (by kernel_rfl), (by kernel_rfl), (by kernel_rfl), (by kernel_rfl), (by kernel_rfl), (by kernel_rfl), (by kernel_rfl), (by kernel_rfl), (by kernel_rfl), (by kernel_rfl), (by kernel_rfl), (by kernel_rfl), (by kernel_rfl), (by kernel_rfl), (by kernel_rfl), (by kernel_rfl), (by kernel_rfl), (by kernel_rfl), (by kernel_rfl), (by kernel_rfl), (by kernel_rfl), (by kernel_rfl), (by kernel_rfl), (by kernel_rfl), (by kernel_rfl), (by kernel_rfl), (by kernel_rfl), (by kernel_rfl), (by kernel_rfl), (by kernel_rfl), (by kernel_rfl), (by kernel_rfl), (by kernel_rfl), (by kernel_rfl), (by kernel_rfl), (by kernel_rfl), (by kernel_rfl), (by kernel_rfl), (by kernel_rfl), (by kernel_rfl), (by kernel_rfl), (by kernel_rfl), (by kernel_rfl), (by kernel_rfl), (by kernel_rfl), (by kernel_rfl), (by kernel_rfl), (by kernel_rfl), (by kernel_rfl), (by kernel_rfl), (by kernel_rfl), (by kernel_rfl), (by kernel_rfl), (by kernel_rfl), (by kernel_rfl), (by kernel_rfl), (by kernel_rfl), (by kernel_rfl), (by kernel_rfl), (by kernel_rfl), (by kernel_rfl), (by kernel_rfl), (by kernel_rfl), (by kernel_rfl), (by kernel_rfl), (by kernel_rfl), (by kernel_rfl), (by kernel_rfl), (by kernel_rfl), (by kernel_rfl), (by kernel_rfl), (by kernel_rfl), (by kernel_rfl), (by kernel_rfl), (by kernel_rfl), (by kernel_rfl)⟩
end Go.Proofs.Ytofkapncgmjcfaa
