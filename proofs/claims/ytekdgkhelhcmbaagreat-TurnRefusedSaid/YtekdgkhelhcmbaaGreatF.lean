/- What the translation says of its functions and types, for the evaluator: printed by mkfacts.py. -/
import Derived.Test.YtekdgkhelhcmbaaGreatProg
import Derived.Test.YtekdgkhelhcmbaaGreatGxK
namespace Go.Proofs.YtekdgkhelhcmbaaGreat
open Go.Gx Go.RowKit
set_option maxRecDepth 100000
theorem fu3 : Tryz.prog.funcs[3]? = some Tryz.f3 := by kernel_rfl
theorem fu4 : Tryz.prog.funcs[4]? = some Tryz.f4 := by kernel_rfl
theorem fu5 : Tryz.prog.funcs[5]? = some Tryz.f5 := by kernel_rfl
theorem fu6 : Tryz.prog.funcs[6]? = some Tryz.f6 := by kernel_rfl
theorem fu8 : Tryz.prog.funcs[8]? = some Tryz.f8 := by kernel_rfl
theorem fu9 : Tryz.prog.funcs[9]? = some Tryz.f9 := by kernel_rfl
theorem fu10 : Tryz.prog.funcs[10]? = some Tryz.f10 := by kernel_rfl
theorem fu11 : Tryz.prog.funcs[11]? = some Tryz.f11 := by kernel_rfl
theorem fu12 : Tryz.prog.funcs[12]? = some Tryz.f12 := by kernel_rfl
theorem fu13 : Tryz.prog.funcs[13]? = some Tryz.f13 := by kernel_rfl
theorem fu14 : Tryz.prog.funcs[14]? = some Tryz.f14 := by kernel_rfl
theorem fu15 : Tryz.prog.funcs[15]? = some Tryz.f15 := by kernel_rfl
theorem fu16 : Tryz.prog.funcs[16]? = some Tryz.f16 := by kernel_rfl
theorem fu17 : Tryz.prog.funcs[17]? = some Tryz.f17 := by kernel_rfl
theorem fu18 : Tryz.prog.funcs[18]? = some Tryz.f18 := by kernel_rfl
theorem fu19 : Tryz.prog.funcs[19]? = some Tryz.f19 := by kernel_rfl
theorem fu20 : Tryz.prog.funcs[20]? = some Tryz.f20 := by kernel_rfl
theorem fu21 : Tryz.prog.funcs[21]? = some Tryz.f21 := by kernel_rfl
theorem fu22 : Tryz.prog.funcs[22]? = some Tryz.f22 := by kernel_rfl
theorem fu23 : Tryz.prog.funcs[23]? = some Tryz.f23 := by kernel_rfl
theorem fu24 : Tryz.prog.funcs[24]? = some Tryz.f24 := by kernel_rfl
theorem fu25 : Tryz.prog.funcs[25]? = some Tryz.f25 := by kernel_rfl
theorem fu26 : Tryz.prog.funcs[26]? = some Tryz.f26 := by kernel_rfl
theorem fu27 : Tryz.prog.funcs[27]? = some Tryz.f27 := by kernel_rfl
theorem fu28 : Tryz.prog.funcs[28]? = some Tryz.f28 := by kernel_rfl
theorem fu29 : Tryz.prog.funcs[29]? = some Tryz.f29 := by kernel_rfl
theorem fu30 : Tryz.prog.funcs[30]? = some Tryz.f30 := by kernel_rfl
theorem fu31 : Tryz.prog.funcs[31]? = some Tryz.f31 := by kernel_rfl
theorem fu32 : Tryz.prog.funcs[32]? = some Tryz.f32 := by kernel_rfl
theorem fu33 : Tryz.prog.funcs[33]? = some Tryz.f33 := by kernel_rfl
theorem fu34 : Tryz.prog.funcs[34]? = some Tryz.f34 := by kernel_rfl
theorem fu35 : Tryz.prog.funcs[35]? = some Tryz.f35 := by kernel_rfl
theorem fu36 : Tryz.prog.funcs[36]? = some Tryz.f36 := by kernel_rfl
theorem fu37 : Tryz.prog.funcs[37]? = some Tryz.f37 := by kernel_rfl
theorem fu38 : Tryz.prog.funcs[38]? = some Tryz.f38 := by kernel_rfl
theorem fu39 : Tryz.prog.funcs[39]? = some Tryz.f39 := by kernel_rfl
theorem fu40 : Tryz.prog.funcs[40]? = some Tryz.f40 := by kernel_rfl
theorem fu41 : Tryz.prog.funcs[41]? = some Tryz.f41 := by kernel_rfl
theorem fu42 : Tryz.prog.funcs[42]? = some Tryz.f42 := by kernel_rfl
theorem fu43 : Tryz.prog.funcs[43]? = some Tryz.f43 := by kernel_rfl
theorem fu44 : Tryz.prog.funcs[44]? = some Tryz.f44 := by kernel_rfl
theorem fu45 : Tryz.prog.funcs[45]? = some Tryz.f45 := by kernel_rfl
theorem fu46 : Tryz.prog.funcs[46]? = some Tryz.f46 := by kernel_rfl
theorem fu47 : Tryz.prog.funcs[47]? = some Tryz.f47 := by kernel_rfl
theorem fu48 : Tryz.prog.funcs[48]? = some Tryz.f48 := by kernel_rfl
theorem fu49 : Tryz.prog.funcs[49]? = some Tryz.f49 := by kernel_rfl
theorem fu50 : Tryz.prog.funcs[50]? = some Tryz.f50 := by kernel_rfl
theorem fu51 : Tryz.prog.funcs[51]? = some Tryz.f51 := by kernel_rfl
theorem fu52 : Tryz.prog.funcs[52]? = some Tryz.f52 := by kernel_rfl
theorem fu53 : Tryz.prog.funcs[53]? = some Tryz.f53 := by kernel_rfl
theorem fu54 : Tryz.prog.funcs[54]? = some Tryz.f54 := by kernel_rfl
theorem fu55 : Tryz.prog.funcs[55]? = some Tryz.f55 := by kernel_rfl
theorem fu56 : Tryz.prog.funcs[56]? = some Tryz.f56 := by kernel_rfl
theorem fu57 : Tryz.prog.funcs[57]? = some Tryz.f57 := by kernel_rfl
theorem fu58 : Tryz.prog.funcs[58]? = some Tryz.f58 := by kernel_rfl
theorem fu59 : Tryz.prog.funcs[59]? = some Tryz.f59 := by kernel_rfl
theorem fu60 : Tryz.prog.funcs[60]? = some Tryz.f60 := by kernel_rfl
theorem fu61 : Tryz.prog.funcs[61]? = some Tryz.f61 := by kernel_rfl
theorem fu62 : Tryz.prog.funcs[62]? = some Tryz.f62 := by kernel_rfl
theorem fu63 : Tryz.prog.funcs[63]? = some Tryz.f63 := by kernel_rfl
theorem fu64 : Tryz.prog.funcs[64]? = some Tryz.f64 := by kernel_rfl
theorem fu65 : Tryz.prog.funcs[65]? = some Tryz.f65 := by kernel_rfl
theorem fu66 : Tryz.prog.funcs[66]? = some Tryz.f66 := by kernel_rfl
theorem fu67 : Tryz.prog.funcs[67]? = some Tryz.f67 := by kernel_rfl
theorem fu68 : Tryz.prog.funcs[68]? = some Tryz.f68 := by kernel_rfl
theorem fu69 : Tryz.prog.funcs[69]? = some Tryz.f69 := by kernel_rfl
theorem fu70 : Tryz.prog.funcs[70]? = some Tryz.f70 := by kernel_rfl
theorem fu71 : Tryz.prog.funcs[71]? = some Tryz.f71 := by kernel_rfl
theorem fu72 : Tryz.prog.funcs[72]? = some Tryz.f72 := by kernel_rfl
theorem fu73 : Tryz.prog.funcs[73]? = some Tryz.f73 := by kernel_rfl
theorem fu74 : Tryz.prog.funcs[74]? = some Tryz.f74 := by kernel_rfl
theorem fu75 : Tryz.prog.funcs[75]? = some Tryz.f75 := by kernel_rfl
theorem fu76 : Tryz.prog.funcs[76]? = some Tryz.f76 := by kernel_rfl
theorem fu77 : Tryz.prog.funcs[77]? = some Tryz.f77 := by kernel_rfl
theorem fu78 : Tryz.prog.funcs[78]? = some Tryz.f78 := by kernel_rfl
theorem fu79 : Tryz.prog.funcs[79]? = some Tryz.f79 := by kernel_rfl
theorem fu80 : Tryz.prog.funcs[80]? = some Tryz.f80 := by kernel_rfl
theorem fu81 : Tryz.prog.funcs[81]? = some Tryz.f81 := by kernel_rfl
theorem fu82 : Tryz.prog.funcs[82]? = some Tryz.f82 := by kernel_rfl
theorem fu83 : Tryz.prog.funcs[83]? = some Tryz.f83 := by kernel_rfl
theorem fu84 : Tryz.prog.funcs[84]? = some Tryz.f84 := by kernel_rfl
theorem fu85 : Tryz.prog.funcs[85]? = some Tryz.f85 := by kernel_rfl
theorem fu86 : Tryz.prog.funcs[86]? = some Tryz.f86 := by kernel_rfl
theorem fu87 : Tryz.prog.funcs[87]? = some Tryz.f87 := by kernel_rfl
theorem fu88 : Tryz.prog.funcs[88]? = some Tryz.f88 := by kernel_rfl
theorem fu89 : Tryz.prog.funcs[89]? = some Tryz.f89 := by kernel_rfl
theorem fu90 : Tryz.prog.funcs[90]? = some Tryz.f90 := by kernel_rfl
theorem fu91 : Tryz.prog.funcs[91]? = some Tryz.f91 := by kernel_rfl
theorem fu92 : Tryz.prog.funcs[92]? = some Tryz.f92 := by kernel_rfl
theorem fu93 : Tryz.prog.funcs[93]? = some Tryz.f93 := by kernel_rfl
theorem fu94 : Tryz.prog.funcs[94]? = some Tryz.f94 := by kernel_rfl
theorem fu95 : Tryz.prog.funcs[95]? = some Tryz.f95 := by kernel_rfl
theorem fu96 : Tryz.prog.funcs[96]? = some Tryz.f96 := by kernel_rfl
theorem fu97 : Tryz.prog.funcs[97]? = some Tryz.f97 := by kernel_rfl
theorem fu98 : Tryz.prog.funcs[98]? = some Tryz.f98 := by kernel_rfl
theorem fu99 : Tryz.prog.funcs[99]? = some Tryz.f99 := by kernel_rfl
theorem fu100 : Tryz.prog.funcs[100]? = some Tryz.f100 := by kernel_rfl
theorem fu101 : Tryz.prog.funcs[101]? = some Tryz.f101 := by kernel_rfl
theorem fu102 : Tryz.prog.funcs[102]? = some Tryz.f102 := by kernel_rfl
theorem fu103 : Tryz.prog.funcs[103]? = some Tryz.f103 := by kernel_rfl
theorem fu104 : Tryz.prog.funcs[104]? = some Tryz.f104 := by kernel_rfl
theorem fu105 : Tryz.prog.funcs[105]? = some Tryz.f105 := by kernel_rfl
theorem fu106 : Tryz.prog.funcs[106]? = some Tryz.f106 := by kernel_rfl
theorem fu107 : Tryz.prog.funcs[107]? = some Tryz.f107 := by kernel_rfl
theorem fu108 : Tryz.prog.funcs[108]? = some Tryz.f108 := by kernel_rfl
theorem fu109 : Tryz.prog.funcs[109]? = some Tryz.f109 := by kernel_rfl
theorem fu110 : Tryz.prog.funcs[110]? = some Tryz.f110 := by kernel_rfl
theorem fu111 : Tryz.prog.funcs[111]? = some Tryz.f111 := by kernel_rfl
theorem fu112 : Tryz.prog.funcs[112]? = some Tryz.f112 := by kernel_rfl
theorem fu113 : Tryz.prog.funcs[113]? = some Tryz.f113 := by kernel_rfl
theorem fu114 : Tryz.prog.funcs[114]? = some Tryz.f114 := by kernel_rfl
theorem fu115 : Tryz.prog.funcs[115]? = some Tryz.f115 := by kernel_rfl
theorem fu116 : Tryz.prog.funcs[116]? = some Tryz.f116 := by kernel_rfl
theorem fu117 : Tryz.prog.funcs[117]? = some Tryz.f117 := by kernel_rfl
theorem fu118 : Tryz.prog.funcs[118]? = some Tryz.f118 := by kernel_rfl
theorem fu119 : Tryz.prog.funcs[119]? = some Tryz.f119 := by kernel_rfl
theorem fu120 : Tryz.prog.funcs[120]? = some Tryz.f120 := by kernel_rfl
theorem fu121 : Tryz.prog.funcs[121]? = some Tryz.f121 := by kernel_rfl
theorem fu122 : Tryz.prog.funcs[122]? = some Tryz.f122 := by kernel_rfl
theorem fu123 : Tryz.prog.funcs[123]? = some Tryz.f123 := by kernel_rfl
theorem fu124 : Tryz.prog.funcs[124]? = some Tryz.f124 := by kernel_rfl
theorem fu125 : Tryz.prog.funcs[125]? = some Tryz.f125 := by kernel_rfl
theorem fu126 : Tryz.prog.funcs[126]? = some Tryz.f126 := by kernel_rfl
theorem fu127 : Tryz.prog.funcs[127]? = some Tryz.f127 := by kernel_rfl
theorem fu128 : Tryz.prog.funcs[128]? = some Tryz.f128 := by kernel_rfl
theorem fu129 : Tryz.prog.funcs[129]? = some Tryz.f129 := by kernel_rfl
theorem fu130 : Tryz.prog.funcs[130]? = some Tryz.f130 := by kernel_rfl
theorem fu131 : Tryz.prog.funcs[131]? = some Tryz.f131 := by kernel_rfl
theorem fu132 : Tryz.prog.funcs[132]? = some Tryz.f132 := by kernel_rfl
theorem fu133 : Tryz.prog.funcs[133]? = some Tryz.f133 := by kernel_rfl
theorem fu134 : Tryz.prog.funcs[134]? = some Tryz.f134 := by kernel_rfl
theorem fu135 : Tryz.prog.funcs[135]? = some Tryz.f135 := by kernel_rfl
theorem fu136 : Tryz.prog.funcs[136]? = some Tryz.f136 := by kernel_rfl
theorem fu137 : Tryz.prog.funcs[137]? = some Tryz.f137 := by kernel_rfl
theorem fu138 : Tryz.prog.funcs[138]? = some Tryz.f138 := by kernel_rfl
theorem fu139 : Tryz.prog.funcs[139]? = some Tryz.f139 := by kernel_rfl
theorem fu140 : Tryz.prog.funcs[140]? = some Tryz.f140 := by kernel_rfl
theorem fu141 : Tryz.prog.funcs[141]? = some Tryz.f141 := by kernel_rfl
theorem fu142 : Tryz.prog.funcs[142]? = some Tryz.f142 := by kernel_rfl
theorem fu143 : Tryz.prog.funcs[143]? = some Tryz.f143 := by kernel_rfl
theorem fu144 : Tryz.prog.funcs[144]? = some Tryz.f144 := by kernel_rfl
theorem fu145 : Tryz.prog.funcs[145]? = some Tryz.f145 := by kernel_rfl
theorem fu146 : Tryz.prog.funcs[146]? = some Tryz.f146 := by kernel_rfl
theorem fu147 : Tryz.prog.funcs[147]? = some Tryz.f147 := by kernel_rfl
theorem fu148 : Tryz.prog.funcs[148]? = some Tryz.f148 := by kernel_rfl
theorem fu149 : Tryz.prog.funcs[149]? = some Tryz.f149 := by kernel_rfl
theorem fu150 : Tryz.prog.funcs[150]? = some Tryz.f150 := by kernel_rfl
theorem fu151 : Tryz.prog.funcs[151]? = some Tryz.f151 := by kernel_rfl
theorem fu152 : Tryz.prog.funcs[152]? = some Tryz.f152 := by kernel_rfl
theorem fu153 : Tryz.prog.funcs[153]? = some Tryz.f153 := by kernel_rfl
theorem fu154 : Tryz.prog.funcs[154]? = some Tryz.f154 := by kernel_rfl
theorem fu155 : Tryz.prog.funcs[155]? = some Tryz.f155 := by kernel_rfl
theorem fu156 : Tryz.prog.funcs[156]? = some Tryz.f156 := by kernel_rfl
theorem fu157 : Tryz.prog.funcs[157]? = some Tryz.f157 := by kernel_rfl
theorem fu158 : Tryz.prog.funcs[158]? = some Tryz.f158 := by kernel_rfl
theorem fu159 : Tryz.prog.funcs[159]? = some Tryz.f159 := by kernel_rfl
theorem fu160 : Tryz.prog.funcs[160]? = some Tryz.f160 := by kernel_rfl
theorem fu161 : Tryz.prog.funcs[161]? = some Tryz.f161 := by kernel_rfl
theorem fu162 : Tryz.prog.funcs[162]? = some Tryz.f162 := by kernel_rfl
theorem fu163 : Tryz.prog.funcs[163]? = some Tryz.f163 := by kernel_rfl
theorem fu164 : Tryz.prog.funcs[164]? = some Tryz.f164 := by kernel_rfl
theorem fu165 : Tryz.prog.funcs[165]? = some Tryz.f165 := by kernel_rfl
theorem fu166 : Tryz.prog.funcs[166]? = some Tryz.f166 := by kernel_rfl
theorem fu167 : Tryz.prog.funcs[167]? = some Tryz.f167 := by kernel_rfl
theorem fu168 : Tryz.prog.funcs[168]? = some Tryz.f168 := by kernel_rfl
theorem fu169 : Tryz.prog.funcs[169]? = some Tryz.f169 := by kernel_rfl
theorem fu170 : Tryz.prog.funcs[170]? = some Tryz.f170 := by kernel_rfl
theorem fu171 : Tryz.prog.funcs[171]? = some Tryz.f171 := by kernel_rfl
theorem fu172 : Tryz.prog.funcs[172]? = some Tryz.f172 := by kernel_rfl
theorem fu173 : Tryz.prog.funcs[173]? = some Tryz.f173 := by kernel_rfl
theorem fu174 : Tryz.prog.funcs[174]? = some Tryz.f174 := by kernel_rfl
theorem fu175 : Tryz.prog.funcs[175]? = some Tryz.f175 := by kernel_rfl
theorem fu176 : Tryz.prog.funcs[176]? = some Tryz.f176 := by kernel_rfl
theorem fu177 : Tryz.prog.funcs[177]? = some Tryz.f177 := by kernel_rfl
theorem fu178 : Tryz.prog.funcs[178]? = some Tryz.f178 := by kernel_rfl
theorem fu179 : Tryz.prog.funcs[179]? = some Tryz.f179 := by kernel_rfl
theorem fu180 : Tryz.prog.funcs[180]? = some Tryz.f180 := by kernel_rfl
theorem fu181 : Tryz.prog.funcs[181]? = some Tryz.f181 := by kernel_rfl
theorem fu182 : Tryz.prog.funcs[182]? = some Tryz.f182 := by kernel_rfl
theorem fu183 : Tryz.prog.funcs[183]? = some Tryz.f183 := by kernel_rfl
theorem fu184 : Tryz.prog.funcs[184]? = some Tryz.f184 := by kernel_rfl
theorem fu185 : Tryz.prog.funcs[185]? = some Tryz.f185 := by kernel_rfl
theorem fu186 : Tryz.prog.funcs[186]? = some Tryz.f186 := by kernel_rfl
theorem fu187 : Tryz.prog.funcs[187]? = some Tryz.f187 := by kernel_rfl
theorem fu188 : Tryz.prog.funcs[188]? = some Tryz.f188 := by kernel_rfl
theorem fu189 : Tryz.prog.funcs[189]? = some Tryz.f189 := by kernel_rfl
theorem fu190 : Tryz.prog.funcs[190]? = some Tryz.f190 := by kernel_rfl
theorem fu191 : Tryz.prog.funcs[191]? = some Tryz.f191 := by kernel_rfl
theorem fu192 : Tryz.prog.funcs[192]? = some Tryz.f192 := by kernel_rfl
theorem fu193 : Tryz.prog.funcs[193]? = some Tryz.f193 := by kernel_rfl
theorem fu194 : Tryz.prog.funcs[194]? = some Tryz.f194 := by kernel_rfl
theorem fu195 : Tryz.prog.funcs[195]? = some Tryz.f195 := by kernel_rfl
theorem fu196 : Tryz.prog.funcs[196]? = some Tryz.f196 := by kernel_rfl
theorem fu197 : Tryz.prog.funcs[197]? = some Tryz.f197 := by kernel_rfl
theorem fu198 : Tryz.prog.funcs[198]? = some Tryz.f198 := by kernel_rfl
theorem fu199 : Tryz.prog.funcs[199]? = some Tryz.f199 := by kernel_rfl
theorem fu200 : Tryz.prog.funcs[200]? = some Tryz.f200 := by kernel_rfl
theorem fu201 : Tryz.prog.funcs[201]? = some Tryz.f201 := by kernel_rfl
theorem fu202 : Tryz.prog.funcs[202]? = some Tryz.f202 := by kernel_rfl
theorem fu203 : Tryz.prog.funcs[203]? = some Tryz.f203 := by kernel_rfl
theorem fu204 : Tryz.prog.funcs[204]? = some Tryz.f204 := by kernel_rfl
theorem fu205 : Tryz.prog.funcs[205]? = some Tryz.f205 := by kernel_rfl
theorem fu206 : Tryz.prog.funcs[206]? = some Tryz.f206 := by kernel_rfl
theorem fu207 : Tryz.prog.funcs[207]? = some Tryz.f207 := by kernel_rfl
theorem fu208 : Tryz.prog.funcs[208]? = some Tryz.f208 := by kernel_rfl
theorem fu209 : Tryz.prog.funcs[209]? = some Tryz.f209 := by kernel_rfl
theorem fu210 : Tryz.prog.funcs[210]? = some Tryz.f210 := by kernel_rfl
theorem fu211 : Tryz.prog.funcs[211]? = some Tryz.f211 := by kernel_rfl
theorem fu212 : Tryz.prog.funcs[212]? = some Tryz.f212 := by kernel_rfl
theorem fu213 : Tryz.prog.funcs[213]? = some Tryz.f213 := by kernel_rfl
theorem fu214 : Tryz.prog.funcs[214]? = some Tryz.f214 := by kernel_rfl
theorem fu215 : Tryz.prog.funcs[215]? = some Tryz.f215 := by kernel_rfl
theorem fu216 : Tryz.prog.funcs[216]? = some Tryz.f216 := by kernel_rfl
theorem fu217 : Tryz.prog.funcs[217]? = some Tryz.f217 := by kernel_rfl
theorem fu218 : Tryz.prog.funcs[218]? = some Tryz.f218 := by kernel_rfl
theorem fu219 : Tryz.prog.funcs[219]? = some Tryz.f219 := by kernel_rfl
theorem fu220 : Tryz.prog.funcs[220]? = some Tryz.f220 := by kernel_rfl
theorem fu237 : Tryz.prog.funcs[237]? = some Tryz.f237 := by kernel_rfl
theorem fu238 : Tryz.prog.funcs[238]? = some Tryz.f238 := by kernel_rfl
theorem fu239 : Tryz.prog.funcs[239]? = some Tryz.f239 := by kernel_rfl
theorem fu240 : Tryz.prog.funcs[240]? = some Tryz.f240 := by kernel_rfl
theorem fu241 : Tryz.prog.funcs[241]? = some Tryz.f241 := by kernel_rfl
theorem fu243 : Tryz.prog.funcs[243]? = some Tryz.f243 := by kernel_rfl
theorem fu244 : Tryz.prog.funcs[244]? = some Tryz.f244 := by kernel_rfl
theorem fu245 : Tryz.prog.funcs[245]? = some Tryz.f245 := by kernel_rfl
theorem fu246 : Tryz.prog.funcs[246]? = some Tryz.f246 := by kernel_rfl
theorem fu247 : Tryz.prog.funcs[247]? = some Tryz.f247 := by kernel_rfl
theorem fu248 : Tryz.prog.funcs[248]? = some Tryz.f248 := by kernel_rfl
theorem fu249 : Tryz.prog.funcs[249]? = some Tryz.f249 := by kernel_rfl
theorem fu250 : Tryz.prog.funcs[250]? = some Tryz.f250 := by kernel_rfl
theorem fu251 : Tryz.prog.funcs[251]? = some Tryz.f251 := by kernel_rfl
theorem fu252 : Tryz.prog.funcs[252]? = some Tryz.f252 := by kernel_rfl
theorem fu253 : Tryz.prog.funcs[253]? = some Tryz.f253 := by kernel_rfl
theorem fu254 : Tryz.prog.funcs[254]? = some Tryz.f254 := by kernel_rfl
theorem fu255 : Tryz.prog.funcs[255]? = some Tryz.f255 := by kernel_rfl
theorem fu256 : Tryz.prog.funcs[256]? = some Tryz.f256 := by kernel_rfl
theorem fu257 : Tryz.prog.funcs[257]? = some Tryz.f257 := by kernel_rfl
theorem fu258 : Tryz.prog.funcs[258]? = some Tryz.f258 := by kernel_rfl
theorem fu259 : Tryz.prog.funcs[259]? = some Tryz.f259 := by kernel_rfl
theorem fu260 : Tryz.prog.funcs[260]? = some Tryz.f260 := by kernel_rfl
theorem fu261 : Tryz.prog.funcs[261]? = some Tryz.f261 := by kernel_rfl
theorem fu262 : Tryz.prog.funcs[262]? = some Tryz.f262 := by kernel_rfl
theorem fu263 : Tryz.prog.funcs[263]? = some Tryz.f263 := by kernel_rfl
theorem fu264 : Tryz.prog.funcs[264]? = some Tryz.f264 := by kernel_rfl
theorem fu265 : Tryz.prog.funcs[265]? = some Tryz.f265 := by kernel_rfl
theorem fu266 : Tryz.prog.funcs[266]? = some Tryz.f266 := by kernel_rfl
theorem fu267 : Tryz.prog.funcs[267]? = some Tryz.f267 := by kernel_rfl
theorem fu268 : Tryz.prog.funcs[268]? = some Tryz.f268 := by kernel_rfl
theorem fu269 : Tryz.prog.funcs[269]? = some Tryz.f269 := by kernel_rfl
theorem fu270 : Tryz.prog.funcs[270]? = some Tryz.f270 := by kernel_rfl
theorem fu271 : Tryz.prog.funcs[271]? = some Tryz.f271 := by kernel_rfl
theorem fu272 : Tryz.prog.funcs[272]? = some Tryz.f272 := by kernel_rfl
theorem fu273 : Tryz.prog.funcs[273]? = some Tryz.f273 := by kernel_rfl
theorem fu274 : Tryz.prog.funcs[274]? = some Tryz.f274 := by kernel_rfl
theorem fu275 : Tryz.prog.funcs[275]? = some Tryz.f275 := by kernel_rfl
theorem fu278 : Tryz.prog.funcs[278]? = some Tryz.f278 := by kernel_rfl
theorem fu279 : Tryz.prog.funcs[279]? = some Tryz.f279 := by kernel_rfl
theorem fu280 : Tryz.prog.funcs[280]? = some Tryz.f280 := by kernel_rfl
theorem fu281 : Tryz.prog.funcs[281]? = some Tryz.f281 := by kernel_rfl
theorem fu282 : Tryz.prog.funcs[282]? = some Tryz.f282 := by kernel_rfl
theorem fu283 : Tryz.prog.funcs[283]? = some Tryz.f283 := by kernel_rfl
theorem fu284 : Tryz.prog.funcs[284]? = some Tryz.f284 := by kernel_rfl
theorem fu285 : Tryz.prog.funcs[285]? = some Tryz.f285 := by kernel_rfl
theorem fu286 : Tryz.prog.funcs[286]? = some Tryz.f286 := by kernel_rfl
theorem fu287 : Tryz.prog.funcs[287]? = some Tryz.f287 := by kernel_rfl
theorem fu288 : Tryz.prog.funcs[288]? = some Tryz.f288 := by kernel_rfl
theorem fu289 : Tryz.prog.funcs[289]? = some Tryz.f289 := by kernel_rfl
theorem fu290 : Tryz.prog.funcs[290]? = some Tryz.f290 := by kernel_rfl
theorem fu291 : Tryz.prog.funcs[291]? = some Tryz.f291 := by kernel_rfl
theorem fu292 : Tryz.prog.funcs[292]? = some Tryz.f292 := by kernel_rfl
theorem fu293 : Tryz.prog.funcs[293]? = some Tryz.f293 := by kernel_rfl
theorem fu294 : Tryz.prog.funcs[294]? = some Tryz.f294 := by kernel_rfl
theorem fu295 : Tryz.prog.funcs[295]? = some Tryz.f295 := by kernel_rfl
theorem fu296 : Tryz.prog.funcs[296]? = some Tryz.f296 := by kernel_rfl
theorem fu297 : Tryz.prog.funcs[297]? = some Tryz.f297 := by kernel_rfl
theorem fu298 : Tryz.prog.funcs[298]? = some Tryz.f298 := by kernel_rfl
theorem mixed : Tryz.prog.follows .mixedOrders = true := by kernel_rfl
theorem ft :
    Tryz.f3.results.toList = [.tmp 6] ∧
    Tryz.f3.ntmps = 63 ∧
    Tryz.f4.results.toList = [.tmp 6, .tmp 7] ∧
    Tryz.f4.ntmps = 28 ∧
    Tryz.f5.results.toList = [.tmp 2] ∧
    Tryz.f5.ntmps = 22 ∧
    Tryz.f6.results.toList = [.tmp 2] ∧
    Tryz.f6.ntmps = 4 ∧
    Tryz.f8.results.toList = [.tmp 4] ∧
    Tryz.f8.ntmps = 83 ∧
    Tryz.f9.results.toList = [.cell 4 45, .tmp 5] ∧
    Tryz.f9.ntmps = 34 ∧
    Tryz.f10.results.toList = [.cell 2 51, .tmp 3] ∧
    Tryz.f10.ntmps = 15 ∧
    Tryz.f11.results.toList = [.tmp 4] ∧
    Tryz.f11.ntmps = 10 ∧
    Tryz.f12.results.toList = [.cell 4 45, .tmp 5] ∧
    Tryz.f12.ntmps = 44 ∧
    Tryz.f13.results.toList = [.tmp 2, .tmp 3] ∧
    Tryz.f13.ntmps = 23 ∧
    Tryz.f14.results.toList = [.tmp 2] ∧
    Tryz.f14.ntmps = 52 ∧
    Tryz.f15.results.toList = [.cell 0 24] ∧
    Tryz.f15.ntmps = 3 ∧
    Tryz.f16.results.toList = [.cell 4 31] ∧
    Tryz.f16.ntmps = 14 ∧
    Tryz.f17.results.toList = [.cell 8 51, .tmp 9] ∧
    Tryz.f17.ntmps = 56 ∧
    Tryz.f18.results.toList = [.tmp 2, .tmp 3] ∧
    Tryz.f18.ntmps = 17 ∧
    Tryz.f19.results.toList = [.tmp 2] ∧
    Tryz.f19.ntmps = 24 ∧
    Tryz.f20.results.toList = [.tmp 2] ∧
    Tryz.f20.ntmps = 35 ∧
    Tryz.f21.results.toList = [.tmp 2] ∧
    Tryz.f21.ntmps = 13 ∧
    Tryz.f22.results.toList = [.tmp 4] ∧
    Tryz.f22.ntmps = 32 ∧
    Tryz.f23.results.toList = [.tmp 4, .tmp 5] ∧
    Tryz.f23.ntmps = 23 ∧
    Tryz.f24.results.toList = [.tmp 2] ∧
    Tryz.f24.ntmps = 10 ∧
    Tryz.f25.results.toList = [.tmp 4] ∧
    Tryz.f25.ntmps = 64 ∧
    Tryz.f26.results.toList = [.tmp 0] ∧
    Tryz.f26.ntmps = 3 ∧
    Tryz.f27.results.toList = [.cell 2 45, .tmp 3] ∧
    Tryz.f27.ntmps = 94 ∧
    Tryz.f28.results.toList = [.cell 4 45, .tmp 5] ∧
    Tryz.f28.ntmps = 16 ∧
    Tryz.f29.results.toList = [.tmp 2, .tmp 3] ∧
    Tryz.f29.ntmps = 15 ∧
    Tryz.f30.results.toList = [.tmp 2] ∧
    Tryz.f30.ntmps = 11 ∧
    Tryz.f31.results.toList = [.tmp 2, .tmp 3] ∧
    Tryz.f31.ntmps = 25 ∧
    Tryz.f32.results.toList = [.tmp 4] ∧
    Tryz.f32.ntmps = 13 ∧
    Tryz.f33.results.toList = [.tmp 4] ∧
    Tryz.f33.ntmps = 14 ∧
    Tryz.f34.results.toList = [.tmp 2, .tmp 3] ∧
    Tryz.f34.ntmps = 9 ∧
    Tryz.f35.results.toList = [.tmp 2] ∧
    Tryz.f35.ntmps = 6 ∧
    Tryz.f36.results.toList = [.tmp 4, .tmp 5] ∧
    Tryz.f36.ntmps = 55 ∧
    Tryz.f37.results.toList = [.tmp 2, .tmp 3] ∧
    Tryz.f37.ntmps = 41 ∧
    Tryz.f38.results.toList = [.tmp 0] ∧
    Tryz.f38.ntmps = 1 ∧
    Tryz.f39.results.toList = [.tmp 2] ∧
    Tryz.f39.ntmps = 23 ∧
    Tryz.f40.results.toList = [.tmp 4] ∧
    Tryz.f40.ntmps = 17 ∧
    Tryz.f41.results.toList = [.tmp 2] ∧
    Tryz.f41.ntmps = 15 ∧
    Tryz.f42.results.toList = [.tmp 1] ∧
    Tryz.f42.ntmps = 15 ∧
    Tryz.f43.results.toList = [.tmp 4, .tmp 5] ∧
    Tryz.f43.ntmps = 16 ∧
    Tryz.f44.results.toList = [.tmp 1] ∧
    Tryz.f44.ntmps = 15 ∧
    Tryz.f45.results.toList = [.tmp 4, .tmp 5] ∧
    Tryz.f45.ntmps = 14 ∧
    Tryz.f46.results.toList = [.tmp 1] ∧
    Tryz.f46.ntmps = 17 ∧
    Tryz.f47.results.toList = [.tmp 2, .tmp 3] ∧
    Tryz.f47.ntmps = 24 ∧
    Tryz.f48.results.toList = [.tmp 1] ∧
    Tryz.f48.ntmps = 19 ∧
    Tryz.f49.results.toList = [.tmp 4] ∧
    Tryz.f49.ntmps = 10 ∧
    Tryz.f50.results.toList = [.tmp 1] ∧
    Tryz.f50.ntmps = 16 ∧
    Tryz.f51.results.toList = [.tmp 4] ∧
    Tryz.f51.ntmps = 29 ∧
    Tryz.f52.results.toList = [.tmp 2] ∧
    Tryz.f52.ntmps = 15 ∧
    Tryz.f53.results.toList = [.tmp 2] ∧
    Tryz.f53.ntmps = 36 ∧
    Tryz.f54.results.toList = [.cell 0 117] ∧
    Tryz.f54.ntmps = 9 ∧
    Tryz.f55.results.toList = [.tmp 4] ∧
    Tryz.f55.ntmps = 20 ∧
    Tryz.f56.results.toList = [.tmp 4, .tmp 5] ∧
    Tryz.f56.ntmps = 20 ∧
    Tryz.f57.results.toList = [.cell 2 45, .tmp 3] ∧
    Tryz.f57.ntmps = 31 ∧
    Tryz.f58.results.toList = [.cell 2 45, .tmp 3] ∧
    Tryz.f58.ntmps = 20 ∧
    Tryz.f59.results.toList = [.cell 2 45, .tmp 3] ∧
    Tryz.f59.ntmps = 30 ∧
    Tryz.f60.results.toList = [.cell 2 45, .tmp 3] ∧
    Tryz.f60.ntmps = 19 ∧
    Tryz.f61.results.toList = [.cell 2 45, .tmp 3] ∧
    Tryz.f61.ntmps = 9 ∧
    Tryz.f62.results.toList = [.tmp 6, .tmp 7] ∧
    Tryz.f62.ntmps = 66 ∧
    Tryz.f63.results.toList = [.cell 6 45, .tmp 7] ∧
    Tryz.f63.ntmps = 19 ∧
    Tryz.f64.results.toList = [.cell 4 45, .tmp 5] ∧
    Tryz.f64.ntmps = 17 ∧
    Tryz.f65.results.toList = [.tmp 6, .tmp 7] ∧
    Tryz.f65.ntmps = 50 ∧
    Tryz.f66.results.toList = [.tmp 6, .tmp 7] ∧
    Tryz.f66.ntmps = 26 ∧
    Tryz.f67.results.toList = [.tmp 2] ∧
    Tryz.f67.ntmps = 49 ∧
    Tryz.f68.results.toList = [.tmp 2, .tmp 3] ∧
    Tryz.f68.ntmps = 73 ∧
    Tryz.f69.results.toList = [.tmp 2] ∧
    Tryz.f69.ntmps = 35 ∧
    Tryz.f70.results.toList = [.tmp 2] ∧
    Tryz.f70.ntmps = 14 ∧
    Tryz.f71.results.toList = [.tmp 4] ∧
    Tryz.f71.ntmps = 13 ∧
    Tryz.f72.results.toList = [.tmp 4] ∧
    Tryz.f72.ntmps = 14 ∧
    Tryz.f73.results.toList = [.tmp 4] ∧
    Tryz.f73.ntmps = 28 ∧
    Tryz.f74.results.toList = [.cell 4 27, .tmp 5] ∧
    Tryz.f74.ntmps = 18 ∧
    Tryz.f75.results.toList = [.tmp 2] ∧
    Tryz.f75.ntmps = 4 ∧
    Tryz.f76.results.toList = [.tmp 8, .tmp 9] ∧
    Tryz.f76.ntmps = 25 ∧
    Tryz.f77.results.toList = [.tmp 4] ∧
    Tryz.f77.ntmps = 7 ∧
    Tryz.f78.results.toList = [.tmp 4] ∧
    Tryz.f78.ntmps = 16 ∧
    Tryz.f79.results.toList = [.tmp 4] ∧
    Tryz.f79.ntmps = 21 ∧
    Tryz.f80.results.toList = [.tmp 2] ∧
    Tryz.f80.ntmps = 41 ∧
    Tryz.f81.results.toList = [.tmp 2] ∧
    Tryz.f81.ntmps = 21 ∧
    Tryz.f82.results.toList = [.cell 2 140] ∧
    Tryz.f82.ntmps = 21 ∧
    Tryz.f83.results.toList = [.tmp 4] ∧
    Tryz.f83.ntmps = 28 ∧
    Tryz.f84.results.toList = [.tmp 4] ∧
    Tryz.f84.ntmps = 9 ∧
    Tryz.f85.results.toList = [.tmp 2] ∧
    Tryz.f85.ntmps = 25 ∧
    Tryz.f86.results.toList = [.cell 2 165, .tmp 3] ∧
    Tryz.f86.ntmps = 14 ∧
    Tryz.f87.results.toList = [] ∧
    Tryz.f87.ntmps = 21 ∧
    Tryz.f88.results.toList = [.tmp 2] ∧
    Tryz.f88.ntmps = 7 ∧
    Tryz.f89.results.toList = [.tmp 2] ∧
    Tryz.f89.ntmps = 7 ∧
    Tryz.f90.results.toList = [.tmp 2] ∧
    Tryz.f90.ntmps = 7 ∧
    Tryz.f91.results.toList = [.tmp 2] ∧
    Tryz.f91.ntmps = 7 ∧
    Tryz.f92.results.toList = [.tmp 2] ∧
    Tryz.f92.ntmps = 7 ∧
    Tryz.f93.results.toList = [.tmp 2] ∧
    Tryz.f93.ntmps = 7 ∧
    Tryz.f94.results.toList = [.tmp 2] ∧
    Tryz.f94.ntmps = 7 ∧
    Tryz.f95.results.toList = [.tmp 4, .tmp 5] ∧
    Tryz.f95.ntmps = 23 ∧
    Tryz.f96.results.toList = [.tmp 6, .tmp 7] ∧
    Tryz.f96.ntmps = 15 ∧
    Tryz.f97.results.toList = [.tmp 1] ∧
    Tryz.f97.ntmps = 5 ∧
    Tryz.f98.results.toList = [.tmp 6, .tmp 7] ∧
    Tryz.f98.ntmps = 30 ∧
    Tryz.f99.results.toList = [.cell 6 45, .tmp 7] ∧
    Tryz.f99.ntmps = 19 ∧
    Tryz.f100.results.toList = [.cell 3 45, .tmp 4] ∧
    Tryz.f100.ntmps = 44 ∧
    Tryz.f101.results.toList = [.cell 2 45, .tmp 3] ∧
    Tryz.f101.ntmps = 13 ∧
    Tryz.f102.results.toList = [.tmp 2, .tmp 3] ∧
    Tryz.f102.ntmps = 9 ∧
    Tryz.f103.results.toList = [.cell 6 45, .tmp 7] ∧
    Tryz.f103.ntmps = 56 ∧
    Tryz.f104.results.toList = [.cell 3 45, .tmp 4] ∧
    Tryz.f104.ntmps = 21 ∧
    Tryz.f105.results.toList = [.cell 4 45, .tmp 5] ∧
    Tryz.f105.ntmps = 14 ∧
    Tryz.f106.results.toList = [.cell 3 45, .tmp 4] ∧
    Tryz.f106.ntmps = 10 ∧
    Tryz.f107.results.toList = [.cell 4 45, .tmp 5] ∧
    Tryz.f107.ntmps = 34 ∧
    Tryz.f108.results.toList = [.tmp 6, .tmp 7] ∧
    Tryz.f108.ntmps = 33 ∧
    Tryz.f109.results.toList = [.cell 4 45, .tmp 5] ∧
    Tryz.f109.ntmps = 99 ∧
    Tryz.f110.results.toList = [.cell 4 45, .tmp 5] ∧
    Tryz.f110.ntmps = 28 ∧
    Tryz.f111.results.toList = [.tmp 2, .tmp 3] ∧
    Tryz.f111.ntmps = 14 ∧
    Tryz.f112.results.toList = [.cell 4 45, .tmp 5] ∧
    Tryz.f112.ntmps = 107 ∧
    Tryz.f113.results.toList = [.cell 4 45, .tmp 5] ∧
    Tryz.f113.ntmps = 62 ∧
    Tryz.f114.results.toList = [] ∧
    Tryz.f114.ntmps = 20 ∧
    Tryz.f115.results.toList = [.tmp 0] ∧
    Tryz.f115.ntmps = 3 ∧
    Tryz.f116.results.toList = [.tmp 6] ∧
    Tryz.f116.ntmps = 47 ∧
    Tryz.f117.results.toList = [.tmp 6] ∧
    Tryz.f117.ntmps = 24 ∧
    Tryz.f118.results.toList = [.cell 2 215] ∧
    Tryz.f118.ntmps = 19 ∧
    Tryz.f119.results.toList = [.tmp 2] ∧
    Tryz.f119.ntmps = 11 ∧
    Tryz.f120.results.toList = [.tmp 2] ∧
    Tryz.f120.ntmps = 5 ∧
    Tryz.f121.results.toList = [.tmp 2] ∧
    Tryz.f121.ntmps = 18 ∧
    Tryz.f122.results.toList = [.cell 4 221, .tmp 5] ∧
    Tryz.f122.ntmps = 69 ∧
    Tryz.f123.results.toList = [.tmp 4] ∧
    Tryz.f123.ntmps = 19 ∧
    Tryz.f124.results.toList = [.cell 0 225] ∧
    Tryz.f124.ntmps = 23 ∧
    Tryz.f125.results.toList = [.cell 4 45, .tmp 5] ∧
    Tryz.f125.ntmps = 28 ∧
    Tryz.f126.results.toList = [.tmp 2, .tmp 3] ∧
    Tryz.f126.ntmps = 52 ∧
    Tryz.f127.results.toList = [.tmp 2, .tmp 3] ∧
    Tryz.f127.ntmps = 12 ∧
    Tryz.f128.results.toList = [.tmp 6] ∧
    Tryz.f128.ntmps = 45 ∧
    Tryz.f129.results.toList = [.tmp 2] ∧
    Tryz.f129.ntmps = 28 ∧
    Tryz.f130.results.toList = [.cell 4 45, .tmp 5] ∧
    Tryz.f130.ntmps = 24 ∧
    Tryz.f131.results.toList = [.cell 4 45, .tmp 5] ∧
    Tryz.f131.ntmps = 25 ∧
    Tryz.f132.results.toList = [.cell 2 51, .tmp 3] ∧
    Tryz.f132.ntmps = 15 ∧
    Tryz.f133.results.toList = [.cell 4 45, .tmp 5] ∧
    Tryz.f133.ntmps = 17 ∧
    Tryz.f134.results.toList = [.cell 4 45, .tmp 5] ∧
    Tryz.f134.ntmps = 51 ∧
    Tryz.f135.results.toList = [.cell 2 45, .tmp 3] ∧
    Tryz.f135.ntmps = 10 ∧
    Tryz.f136.results.toList = [.cell 4 45, .tmp 5] ∧
    Tryz.f136.ntmps = 66 ∧
    Tryz.f137.results.toList = [.cell 4 45, .tmp 5] ∧
    Tryz.f137.ntmps = 38 ∧
    Tryz.f138.results.toList = [.cell 2 45, .tmp 3] ∧
    Tryz.f138.ntmps = 13 ∧
    Tryz.f139.results.toList = [.cell 4 45, .tmp 5] ∧
    Tryz.f139.ntmps = 25 ∧
    Tryz.f140.results.toList = [.cell 2 242, .tmp 3] ∧
    Tryz.f140.ntmps = 15 ∧
    Tryz.f141.results.toList = [] ∧
    Tryz.f141.ntmps = 6 ∧
    Tryz.f142.results.toList = [.cell 6 45, .tmp 7] ∧
    Tryz.f142.ntmps = 25 ∧
    Tryz.f143.results.toList = [.tmp 6] ∧
    Tryz.f143.ntmps = 42 ∧
    Tryz.f144.results.toList = [.cell 2 45, .tmp 3] ∧
    Tryz.f144.ntmps = 124 ∧
    Tryz.f145.results.toList = [.cell 6 45, .tmp 7] ∧
    Tryz.f145.ntmps = 15 ∧
    Tryz.f146.results.toList = [.cell 3 45, .tmp 4] ∧
    Tryz.f146.ntmps = 29 ∧
    Tryz.f147.results.toList = [.tmp 8] ∧
    Tryz.f147.ntmps = 42 ∧
    Tryz.f148.results.toList = [.tmp 0] ∧
    Tryz.f148.ntmps = 3 ∧
    Tryz.f149.results.toList = [.cell 6 45, .tmp 7] ∧
    Tryz.f149.ntmps = 25 ∧
    Tryz.f150.results.toList = [.cell 0 260] ∧
    Tryz.f150.ntmps = 7 ∧
    Tryz.f151.results.toList = [.tmp 2] ∧
    Tryz.f151.ntmps = 5 ∧
    Tryz.f152.results.toList = [.tmp 2, .tmp 3] ∧
    Tryz.f152.ntmps = 9 ∧
    Tryz.f153.results.toList = [.tmp 4] ∧
    Tryz.f153.ntmps = 11 ∧
    Tryz.f154.results.toList = [.cell 4 45, .tmp 5] ∧
    Tryz.f154.ntmps = 123 ∧
    Tryz.f155.results.toList = [.cell 4 45, .tmp 5] ∧
    Tryz.f155.ntmps = 17 ∧
    Tryz.f156.results.toList = [.tmp 8, .tmp 9] ∧
    Tryz.f156.ntmps = 76 ∧
    Tryz.f157.results.toList = [.cell 5 45, .tmp 6] ∧
    Tryz.f157.ntmps = 39 ∧
    Tryz.f158.results.toList = [.cell 2 268, .tmp 3] ∧
    Tryz.f158.ntmps = 18 ∧
    Tryz.f159.results.toList = [.tmp 2] ∧
    Tryz.f159.ntmps = 11 ∧
    Tryz.f160.results.toList = [.cell 2 45, .tmp 3] ∧
    Tryz.f160.ntmps = 51 ∧
    Tryz.f161.results.toList = [.cell 3 45, .tmp 4] ∧
    Tryz.f161.ntmps = 51 ∧
    Tryz.f162.results.toList = [.cell 6 45, .tmp 7] ∧
    Tryz.f162.ntmps = 13 ∧
    Tryz.f163.results.toList = [.cell 4 45, .tmp 5] ∧
    Tryz.f163.ntmps = 11 ∧
    Tryz.f164.results.toList = [.cell 4 45, .tmp 5] ∧
    Tryz.f164.ntmps = 22 ∧
    Tryz.f165.results.toList = [.cell 4 45, .tmp 5] ∧
    Tryz.f165.ntmps = 33 ∧
    Tryz.f166.results.toList = [.cell 4 45, .tmp 5] ∧
    Tryz.f166.ntmps = 11 ∧
    Tryz.f167.results.toList = [.cell 4 45, .tmp 5] ∧
    Tryz.f167.ntmps = 17 ∧
    Tryz.f168.results.toList = [.cell 4 45, .tmp 5] ∧
    Tryz.f168.ntmps = 23 ∧
    Tryz.f169.results.toList = [.tmp 2] ∧
    Tryz.f169.ntmps = 3 ∧
    Tryz.f170.results.toList = [.tmp 2] ∧
    Tryz.f170.ntmps = 6 ∧
    Tryz.f171.results.toList = [.tmp 2] ∧
    Tryz.f171.ntmps = 3 ∧
    Tryz.f172.results.toList = [.tmp 2] ∧
    Tryz.f172.ntmps = 17 ∧
    Tryz.f173.results.toList = [.tmp 2] ∧
    Tryz.f173.ntmps = 6 ∧
    Tryz.f174.results.toList = [.tmp 2] ∧
    Tryz.f174.ntmps = 12 ∧
    Tryz.f175.results.toList = [.tmp 2] ∧
    Tryz.f175.ntmps = 8 ∧
    Tryz.f176.results.toList = [.tmp 2] ∧
    Tryz.f176.ntmps = 5 ∧
    Tryz.f177.results.toList = [.tmp 2] ∧
    Tryz.f177.ntmps = 3 ∧
    Tryz.f178.results.toList = [.tmp 3] ∧
    Tryz.f178.ntmps = 7 ∧
    Tryz.f179.results.toList = [.tmp 4, .tmp 5] ∧
    Tryz.f179.ntmps = 21 ∧
    Tryz.f180.results.toList = [.cell 2 279, .tmp 3] ∧
    Tryz.f180.ntmps = 30 ∧
    Tryz.f181.results.toList = [.tmp 8] ∧
    Tryz.f181.ntmps = 26 ∧
    Tryz.f182.results.toList = [.tmp 4, .tmp 5] ∧
    Tryz.f182.ntmps = 16 ∧
    Tryz.f183.results.toList = [.tmp 2, .tmp 3] ∧
    Tryz.f183.ntmps = 9 ∧
    Tryz.f184.results.toList = [.cell 2 45, .tmp 3] ∧
    Tryz.f184.ntmps = 33 ∧
    Tryz.f185.results.toList = [.cell 3 45, .tmp 4] ∧
    Tryz.f185.ntmps = 25 ∧
    Tryz.f186.results.toList = [.cell 6 45, .tmp 7] ∧
    Tryz.f186.ntmps = 15 ∧
    Tryz.f187.results.toList = [.cell 4 49] ∧
    Tryz.f187.ntmps = 19 ∧
    Tryz.f188.results.toList = [.cell 6 45, .tmp 7] ∧
    Tryz.f188.ntmps = 15 ∧
    Tryz.f189.results.toList = [.cell 8 45, .tmp 9] ∧
    Tryz.f189.ntmps = 19 ∧
    Tryz.f190.results.toList = [.cell 4 49] ∧
    Tryz.f190.ntmps = 9 ∧
    Tryz.f191.results.toList = [.tmp 2] ∧
    Tryz.f191.ntmps = 11 ∧
    Tryz.f192.results.toList = [.tmp 2] ∧
    Tryz.f192.ntmps = 25 ∧
    Tryz.f193.results.toList = [.tmp 6, .tmp 7] ∧
    Tryz.f193.ntmps = 34 ∧
    Tryz.f194.results.toList = [.tmp 2] ∧
    Tryz.f194.ntmps = 17 ∧
    Tryz.f195.results.toList = [.cell 4 45, .tmp 5] ∧
    Tryz.f195.ntmps = 17 ∧
    Tryz.f196.results.toList = [.cell 3 45, .tmp 4] ∧
    Tryz.f196.ntmps = 17 ∧
    Tryz.f197.results.toList = [.tmp 0] ∧
    Tryz.f197.ntmps = 1 ∧
    Tryz.f198.results.toList = [.cell 2 45, .tmp 3] ∧
    Tryz.f198.ntmps = 43 ∧
    Tryz.f199.results.toList = [.cell 4 45, .tmp 5] ∧
    Tryz.f199.ntmps = 61 ∧
    Tryz.f200.results.toList = [.cell 6 45, .tmp 7] ∧
    Tryz.f200.ntmps = 13 ∧
    Tryz.f201.results.toList = [.cell 5 45, .tmp 6] ∧
    Tryz.f201.ntmps = 26 ∧
    Tryz.f202.results.toList = [.tmp 4] ∧
    Tryz.f202.ntmps = 22 ∧
    Tryz.f203.results.toList = [.cell 4 45, .tmp 5] ∧
    Tryz.f203.ntmps = 11 ∧
    Tryz.f204.results.toList = [.cell 5 45, .tmp 6] ∧
    Tryz.f204.ntmps = 24 ∧
    Tryz.f205.results.toList = [.tmp 2, .tmp 3] ∧
    Tryz.f205.ntmps = 13 ∧
    Tryz.f206.results.toList = [.tmp 6, .tmp 7] ∧
    Tryz.f206.ntmps = 15 ∧
    Tryz.f207.results.toList = [.tmp 2] ∧
    Tryz.f207.ntmps = 9 ∧
    Tryz.f208.results.toList = [.cell 3 45, .tmp 4] ∧
    Tryz.f208.ntmps = 10 ∧
    Tryz.f209.results.toList = [.cell 3 45, .tmp 4] ∧
    Tryz.f209.ntmps = 30 ∧
    Tryz.f210.results.toList = [.cell 4 45, .tmp 5] ∧
    Tryz.f210.ntmps = 75 ∧
    Tryz.f211.results.toList = [] ∧
    Tryz.f211.ntmps = 15 ∧
    Tryz.f212.results.toList = [.tmp 2] ∧
    Tryz.f212.ntmps = 17 ∧
    Tryz.f213.results.toList = [.cell 4 45, .tmp 5] ∧
    Tryz.f213.ntmps = 37 ∧
    Tryz.f214.results.toList = [.cell 4 45, .tmp 5] ∧
    Tryz.f214.ntmps = 12 ∧
    Tryz.f215.results.toList = [.cell 8 45, .tmp 9] ∧
    Tryz.f215.ntmps = 22 ∧
    Tryz.f216.results.toList = [.tmp 6] ∧
    Tryz.f216.ntmps = 32 ∧
    Tryz.f217.results.toList = [.cell 0 304] ∧
    Tryz.f217.ntmps = 2 ∧
    Tryz.f218.results.toList = [.tmp 2, .tmp 3] ∧
    Tryz.f218.ntmps = 13 ∧
    Tryz.f219.results.toList = [.cell 5 45, .tmp 6] ∧
    Tryz.f219.ntmps = 19 ∧
    Tryz.f220.results.toList = [.tmp 4] ∧
    Tryz.f220.ntmps = 17 ∧
    Tryz.f237.results.toList = [.cell 4 45, .tmp 5] ∧
    Tryz.f237.ntmps = 34 ∧
    Tryz.f238.results.toList = [.cell 2 51, .tmp 3] ∧
    Tryz.f238.ntmps = 15 ∧
    Tryz.f239.results.toList = [.cell 4 45, .cell 5 4] ∧
    Tryz.f239.ntmps = 35 ∧
    Tryz.f240.results.toList = [.cell 2 51, .tmp 3] ∧
    Tryz.f240.ntmps = 15 ∧
    Tryz.f241.results.toList = [] ∧
    Tryz.f241.ntmps = 23 ∧
    Tryz.f243.results.toList = [.cell 4 45, .tmp 5] ∧
    Tryz.f243.ntmps = 165 ∧
    Tryz.f244.results.toList = [.cell 2 181, .tmp 3] ∧
    Tryz.f244.ntmps = 15 ∧
    Tryz.f245.results.toList = [.cell 3 45, .tmp 4] ∧
    Tryz.f245.ntmps = 18 ∧
    Tryz.f246.results.toList = [.cell 6 27, .tmp 7, .tmp 8] ∧
    Tryz.f246.ntmps = 40 ∧
    Tryz.f247.results.toList = [.cell 6 45, .tmp 7] ∧
    Tryz.f247.ntmps = 41 ∧
    Tryz.f248.results.toList = [.tmp 4, .tmp 5] ∧
    Tryz.f248.ntmps = 28 ∧
    Tryz.f249.results.toList = [.tmp 8, .tmp 9] ∧
    Tryz.f249.ntmps = 45 ∧
    Tryz.f250.results.toList = [.cell 2 45, .tmp 3] ∧
    Tryz.f250.ntmps = 52 ∧
    Tryz.f251.results.toList = [.cell 4 45, .tmp 5] ∧
    Tryz.f251.ntmps = 31 ∧
    Tryz.f252.results.toList = [.cell 2 334, .tmp 3] ∧
    Tryz.f252.ntmps = 18 ∧
    Tryz.f253.results.toList = [.cell 8 27, .tmp 9] ∧
    Tryz.f253.ntmps = 42 ∧
    Tryz.f254.results.toList = [.cell 6 27] ∧
    Tryz.f254.ntmps = 15 ∧
    Tryz.f255.results.toList = [.tmp 2] ∧
    Tryz.f255.ntmps = 15 ∧
    Tryz.f256.results.toList = [.tmp 1] ∧
    Tryz.f256.ntmps = 4 ∧
    Tryz.f257.results.toList = [.tmp 2] ∧
    Tryz.f257.ntmps = 4 ∧
    Tryz.f258.results.toList = [.cell 4 45, .tmp 5] ∧
    Tryz.f258.ntmps = 10 ∧
    Tryz.f259.results.toList = [.cell 4 45, .tmp 5] ∧
    Tryz.f259.ntmps = 121 ∧
    Tryz.f260.results.toList = [.cell 4 45, .tmp 5] ∧
    Tryz.f260.ntmps = 42 ∧
    Tryz.f261.results.toList = [.tmp 2] ∧
    Tryz.f261.ntmps = 16 ∧
    Tryz.f262.results.toList = [.tmp 2] ∧
    Tryz.f262.ntmps = 9 ∧
    Tryz.f263.results.toList = [.tmp 3] ∧
    Tryz.f263.ntmps = 13 ∧
    Tryz.f264.results.toList = [] ∧
    Tryz.f264.ntmps = 59 ∧
    Tryz.f265.results.toList = [.tmp 2, .tmp 3] ∧
    Tryz.f265.ntmps = 11 ∧
    Tryz.f266.results.toList = [.cell 3 45, .tmp 4] ∧
    Tryz.f266.ntmps = 11 ∧
    Tryz.f267.results.toList = [.cell 4 45, .tmp 5] ∧
    Tryz.f267.ntmps = 14 ∧
    Tryz.f268.results.toList = [.cell 2 94, .tmp 3] ∧
    Tryz.f268.ntmps = 26 ∧
    Tryz.f269.results.toList = [.tmp 6] ∧
    Tryz.f269.ntmps = 10 ∧
    Tryz.f270.results.toList = [.tmp 4] ∧
    Tryz.f270.ntmps = 24 ∧
    Tryz.f271.results.toList = [.cell 6 94, .tmp 7, .tmp 8] ∧
    Tryz.f271.ntmps = 53 ∧
    Tryz.f272.results.toList = [.tmp 2, .tmp 3] ∧
    Tryz.f272.ntmps = 23 ∧
    Tryz.f273.results.toList = [.tmp 2] ∧
    Tryz.f273.ntmps = 14 ∧
    Tryz.f274.results.toList = [.tmp 3] ∧
    Tryz.f274.ntmps = 13 ∧
    Tryz.f275.results.toList = [.tmp 2] ∧
    Tryz.f275.ntmps = 34 ∧
    Tryz.f278.results.toList = [.cell 4 45, .tmp 5] ∧
    Tryz.f278.ntmps = 25 ∧
    Tryz.f279.results.toList = [.cell 4 45, .tmp 5] ∧
    Tryz.f279.ntmps = 23 ∧
    Tryz.f280.results.toList = [.cell 4 45, .tmp 5] ∧
    Tryz.f280.ntmps = 50 ∧
    Tryz.f281.results.toList = [.cell 4 45, .tmp 5] ∧
    Tryz.f281.ntmps = 88 ∧
    Tryz.f282.results.toList = [.cell 4 45, .tmp 5] ∧
    Tryz.f282.ntmps = 34 ∧
    Tryz.f283.results.toList = [.cell 4 45, .tmp 5] ∧
    Tryz.f283.ntmps = 15 ∧
    Tryz.f284.results.toList = [.cell 4 279, .tmp 5] ∧
    Tryz.f284.ntmps = 28 ∧
    Tryz.f285.results.toList = [.tmp 4, .tmp 5] ∧
    Tryz.f285.ntmps = 29 ∧
    Tryz.f286.results.toList = [.tmp 6, .tmp 7] ∧
    Tryz.f286.ntmps = 37 ∧
    Tryz.f287.results.toList = [.cell 4 45, .tmp 5] ∧
    Tryz.f287.ntmps = 20 ∧
    Tryz.f288.results.toList = [.tmp 2, .tmp 3] ∧
    Tryz.f288.ntmps = 27 ∧
    Tryz.f289.results.toList = [.tmp 4, .tmp 5] ∧
    Tryz.f289.ntmps = 21 ∧
    Tryz.f290.results.toList = [.cell 4 45, .tmp 5] ∧
    Tryz.f290.ntmps = 23 ∧
    Tryz.f291.results.toList = [.cell 6 45, .tmp 7] ∧
    Tryz.f291.ntmps = 34 ∧
    Tryz.f292.results.toList = [.cell 6 45, .tmp 7] ∧
    Tryz.f292.ntmps = 13 ∧
    Tryz.f293.results.toList = [.cell 4 45, .tmp 5] ∧
    Tryz.f293.ntmps = 45 ∧
    Tryz.f294.results.toList = [.cell 4 45, .tmp 5] ∧
    Tryz.f294.ntmps = 17 ∧
    Tryz.f295.results.toList = [.cell 3 45, .tmp 4] ∧
    Tryz.f295.ntmps = 26 ∧
    Tryz.f296.results.toList = [.cell 8 45, .tmp 9] ∧
    Tryz.f296.ntmps = 25 ∧
    Tryz.f297.results.toList = [.cell 1 45, .tmp 2] ∧
    Tryz.f297.ntmps = 10 ∧
    Tryz.f298.results.toList = [.cell 5 45, .tmp 6] ∧
    Tryz.f298.ntmps = 22 ∧
    tiof Tryz.prog 2 = some ⟨1, false, [.int .i64 0], .it .i64⟩ ∧
    tiof Tryz.prog 3 = some ⟨1, false, [.int .i64 0], .it .i64⟩ ∧
    tiof Tryz.prog 4 = some ⟨1, false, [.bool false], .bo⟩ ∧
    tiof Tryz.prog 5 = some ⟨1, false, [.int .u8 0], .it .u8⟩ ∧
    tiof Tryz.prog 9 = some ⟨1, false, [.string ⟨#[]⟩], .str⟩ ∧
    tiof Tryz.prog 20 = some ⟨1, false, [.nilIface], .ifc⟩ ∧
    tiof Tryz.prog 21 = some ⟨1, false, [.int .i32 0], .it .i32⟩ ∧
    tiof Tryz.prog 22 = some ⟨1, false, [.slice none 0 0], .sl 1 59⟩ ∧
    tiof Tryz.prog 24 = some ⟨3, true, [.int .i64 0, .int .i64 0, .slice none 0 0], .st [(0, 1, 3), (1, 1, 3), (2, 1, 22)] true⟩ ∧
    tiof Tryz.prog 25 = some ⟨1, false, [.int .i64 0], .it .i64⟩ ∧
    tiof Tryz.prog 27 = some ⟨3, true, [.int .i64 0, .int .i64 0, .int .i64 0], .st [(0, 1, 3), (1, 1, 3), (2, 1, 3)] true⟩ ∧
    tiof Tryz.prog 28 = some ⟨1, false, [.int .u64 0], .it .u64⟩ ∧
    tiof Tryz.prog 29 = some ⟨6, true, [.int .u64 0, .int .u64 0, .int .u64 0, .int .u64 0, .int .u64 0, .int .u64 0], .ar 6 1 28⟩ ∧
    tiof Tryz.prog 31 = some ⟨13, true, [.int .i64 0, .int .i64 0, .int .i64 0, .int .i64 0, .int .i64 0, .int .i64 0, .int .i64 0, .int .u64 0, .int .u64 0, .int .u64 0, .int .u64 0, .int .u64 0, .int .u64 0], .st [(0, 1, 3), (1, 1, 25), (2, 1, 2), (3, 1, 3), (4, 3, 27), (7, 6, 29)] true⟩ ∧
    tiof Tryz.prog 32 = some ⟨1, false, [.int .i64 0], .it .i64⟩ ∧
    tiof Tryz.prog 34 = some ⟨8, true, [.int .i64 0, .int .i64 0, .int .i64 0, .int .i64 0, .int .i64 0, .int .i64 0, .int .i64 0, .int .i64 0], .st [(0, 1, 32), (1, 1, 3), (2, 1, 3), (3, 1, 3), (4, 1, 3), (5, 1, 3), (6, 1, 2), (7, 1, 2)] true⟩ ∧
    tiof Tryz.prog 35 = some ⟨1, false, [.pointer none], .pt⟩ ∧
    tiof Tryz.prog 36 = some ⟨1, false, [.int .i64 0], .it .i64⟩ ∧
    tiof Tryz.prog 41 = some ⟨1, false, [.nilFunc], .fu⟩ ∧
    tiof Tryz.prog 43 = some ⟨1, false, [.int .i64 0], .it .i64⟩ ∧
    tiof Tryz.prog 45 = some ⟨4, true, [.int .i64 0, .int .i64 0, .int .u64 0, .int .u64 0], .st [(0, 1, 43), (1, 1, 3), (2, 1, 28), (3, 1, 28)] true⟩ ∧
    tiof Tryz.prog 47 = some ⟨1, false, [.nilFunc], .fu⟩ ∧
    tiof Tryz.prog 49 = some ⟨3, true, [.int .i64 0, .bool false, .int .i64 0], .st [(0, 1, 36), (1, 1, 4), (2, 1, 2)] true⟩ ∧
    tiof Tryz.prog 51 = some ⟨17, true, [.int .i64 0, .int .i64 0, .bool false, .int .i64 0, .int .i64 0, .int .i64 0, .int .i64 0, .int .i64 0, .int .i64 0, .int .i64 0, .int .i64 0, .int .u64 0, .int .u64 0, .int .u64 0, .int .u64 0, .int .u64 0, .int .u64 0], .st [(0, 1, 36), (1, 3, 49), (4, 13, 31)] true⟩ ∧
    tiof Tryz.prog 56 = some ⟨1, false, [.slice none 0 0], .sl 1 28⟩ ∧
    tiof Tryz.prog 58 = some ⟨57, true, [.int .i64 0, .int .i64 0, .int .i64 0, .int .i64 0, .int .i64 0, .int .i64 0, .int .i64 0, .int .u64 0, .int .u64 0, .int .u64 0, .int .u64 0, .int .u64 0, .int .u64 0, .int .i64 0, .int .i64 0, .slice none 0 0, .int .i64 0, .int .i64 0, .int .i64 0, .int .i64 0, .int .i64 0, .int .i64 0, .int .i64 0, .int .i64 0, .int .i64 0, .int .i64 0, .int .i64 0, .int .i64 0, .int .i64 0, .int .i64 0, .int .i64 0, .int .u64 0, .int .u64 0, .int .u64 0, .int .u64 0, .int .u64 0, .int .u64 0, .nilFunc, .slice none 0 0, .bool false, .int .i64 0, .int .i64 0, .bool false, .int .i64 0, .int .i64 0, .int .i64 0, .int .i64 0, .int .i64 0, .int .i64 0, .int .i64 0, .int .i64 0, .int .u64 0, .int .u64 0, .int .u64 0, .int .u64 0, .int .u64 0, .int .u64 0], .st [(0, 13, 31), (13, 3, 24), (16, 8, 34), (24, 13, 31), (37, 1, 47), (38, 1, 56), (39, 1, 4), (40, 17, 51)] true⟩ ∧
    tiof Tryz.prog 59 = some ⟨1, false, [.string ⟨#[]⟩], .str⟩ ∧
    tiof Tryz.prog 60 = some ⟨1, false, [.pointer none], .pt⟩ ∧
    tiof Tryz.prog 77 = some ⟨16, true, [.int .i64 0, .int .i64 0, .int .i64 0, .int .i64 0, .int .i64 0, .int .i64 0, .int .i64 0, .int .u64 0, .int .u64 0, .int .u64 0, .int .u64 0, .int .u64 0, .int .u64 0, .int .i64 0, .int .i64 0, .slice none 0 0], .st [(0, 13, 31), (13, 3, 24)] true⟩ ∧
    tiof Tryz.prog 83 = some ⟨1, false, [.nilFunc], .fu⟩ ∧
    tiof Tryz.prog 87 = some ⟨1, true, [.slice none 0 0], .st [(0, 1, 56)] true⟩ ∧
    tiof Tryz.prog 89 = some ⟨1, true, [.slice none 0 0], .st [(0, 1, 87)] true⟩ ∧
    tiof Tryz.prog 94 = some ⟨4, true, [.int .i64 0, .int .i64 0, .int .i64 0, .int .i64 0], .st [(0, 1, 3), (1, 1, 3), (2, 1, 3), (3, 1, 3)] true⟩ ∧
    tiof Tryz.prog 101 = some ⟨1, false, [.nilFunc], .fu⟩ ∧
    tiof Tryz.prog 102 = some ⟨1, false, [.nilFunc], .fu⟩ ∧
    tiof Tryz.prog 104 = some ⟨1, false, [.slice none 0 0], .sl 1 9⟩ ∧
    tiof Tryz.prog 109 = some ⟨2, true, [.int .i64 0, .int .i64 0], .st [(0, 1, 2), (1, 1, 25)] true⟩ ∧
    tiof Tryz.prog 113 = some ⟨1, false, [.nilFunc], .fu⟩ ∧
    tiof Tryz.prog 114 = some ⟨1, false, [.nilFunc], .fu⟩ ∧
    tiof Tryz.prog 116 = some ⟨3, true, [.nilFunc, .nilFunc, .bool false], .st [(0, 1, 113), (1, 1, 114), (2, 1, 4)] true⟩ ∧
    tiof Tryz.prog 117 = some ⟨21, true, [.nilFunc, .nilFunc, .bool false, .nilFunc, .nilFunc, .bool false, .nilFunc, .nilFunc, .bool false, .nilFunc, .nilFunc, .bool false, .nilFunc, .nilFunc, .bool false, .nilFunc, .nilFunc, .bool false, .nilFunc, .nilFunc, .bool false], .ar 7 3 116⟩ ∧
    tiof Tryz.prog 120 = some ⟨1, false, [.pointer none], .pt⟩ ∧
    tiof Tryz.prog 122 = some ⟨8, true, [.int .i64 0, .int .i64 0, .int .i64 0, .int .i64 0, .int .i64 0, .int .i64 0, .int .i64 0, .int .i64 0], .st [(0, 8, 34)] true⟩ ∧
    tiof Tryz.prog 124 = some ⟨2, true, [.int .i64 0, .int .i64 0], .ar 2 1 2⟩ ∧
    tiof Tryz.prog 125 = some ⟨1, false, [.pointer none], .pt⟩ ∧
    tiof Tryz.prog 129 = some ⟨1, false, [.nilFunc], .fu⟩ ∧
    tiof Tryz.prog 130 = some ⟨1, false, [.pointer none], .pt⟩ ∧
    tiof Tryz.prog 133 = some ⟨1, false, [.pointer none], .pt⟩ ∧
    tiof Tryz.prog 138 = some ⟨1, false, [.int .i64 0], .it .i64⟩ ∧
    tiof Tryz.prog 140 = some ⟨3, true, [.int .i64 0, .bool false, .int .i64 0], .st [(0, 1, 138), (1, 1, 4), (2, 1, 2)] true⟩ ∧
    tiof Tryz.prog 142 = some ⟨1, false, [.nilFunc], .fu⟩ ∧
    tiof Tryz.prog 143 = some ⟨4, true, [.nilFunc, .nilFunc, .nilFunc, .nilFunc], .ar 4 1 142⟩ ∧
    tiof Tryz.prog 149 = some ⟨1, false, [.int .i64 0], .it .i64⟩ ∧
    tiof Tryz.prog 150 = some ⟨1, false, [.slice none 0 0], .sl 1 41⟩ ∧
    tiof Tryz.prog 152 = some ⟨1, false, [.nilFunc], .fu⟩ ∧
    tiof Tryz.prog 154 = some ⟨3, true, [.int .i64 0, .int .i64 0, .slice none 0 0], .st [(0, 3, 24)] true⟩ ∧
    tiof Tryz.prog 158 = some ⟨6, true, [.int .i64 0, .int .i64 0, .int .i64 0, .int .i64 0, .int .i64 0, .slice none 0 0], .st [(0, 3, 27), (3, 3, 24)] true⟩ ∧
    tiof Tryz.prog 163 = some ⟨1, false, [.slice none 0 0], .sl 1 3⟩ ∧
    tiof Tryz.prog 165 = some ⟨2, true, [.string ⟨#[]⟩, .slice none 0 0], .st [(0, 1, 9), (1, 1, 163)] true⟩ ∧
    tiof Tryz.prog 176 = some ⟨1, false, [.pointer none], .pt⟩ ∧
    tiof Tryz.prog 181 = some ⟨5, true, [.int .i64 0, .int .i64 0, .int .i64 0, .int .i64 0, .int .i64 0], .st [(0, 1, 36), (1, 1, 3), (2, 3, 27)] true⟩ ∧
    tiof Tryz.prog 183 = some ⟨1, false, [.nilFunc], .fu⟩ ∧
    tiof Tryz.prog 186 = some ⟨1, false, [.nilIface], .ifc⟩ ∧
    tiof Tryz.prog 188 = some ⟨47, true, [.pointer none, .int .i64 0, .int .i64 0, .slice none 0 0, .int .i64 0, .int .i64 0, .int .i64 0, .int .i64 0, .int .i64 0, .int .i64 0, .int .i64 0, .int .u64 0, .int .u64 0, .int .u64 0, .int .u64 0, .int .u64 0, .int .u64 0, .int .i64 0, .int .i64 0, .int .i64 0, .int .i64 0, .int .i64 0, .int .i64 0, .int .i64 0, .int .i64 0, .nilIface, .slice none 0 0, .nilFunc, .slice none 0 0, .bool false, .int .i64 0, .int .i64 0, .bool false, .int .i64 0, .int .i64 0, .int .i64 0, .int .i64 0, .int .i64 0, .int .i64 0, .int .i64 0, .int .i64 0, .int .u64 0, .int .u64 0, .int .u64 0, .int .u64 0, .int .u64 0, .int .u64 0], .st [(0, 1, 133), (1, 3, 24), (4, 13, 31), (17, 8, 34), (25, 1, 186), (26, 1, 56), (27, 1, 47), (28, 1, 56), (29, 1, 4), (30, 17, 51)] false⟩ ∧
    tiof Tryz.prog 189 = some ⟨1, false, [.pointer none], .pt⟩ ∧
    tiof Tryz.prog 193 = some ⟨1, false, [.nilIface], .ifc⟩ ∧
    tiof Tryz.prog 195 = some ⟨4, true, [.int .i64 0, .int .i64 0, .int .i64 0, .int .i64 0], .st [(0, 1, 3), (1, 1, 3), (2, 1, 3), (3, 1, 3)] true⟩ ∧
    tiof Tryz.prog 196 = some ⟨1, false, [.nilFunc], .fu⟩ ∧
    tiof Tryz.prog 198 = some ⟨53, true, [.int .i64 0, .int .i64 0, .int .i64 0, .int .i64 0, .int .i64 0, .int .i64 0, .slice none 0 0, .int .i64 0, .int .i64 0, .int .i64 0, .int .i64 0, .int .i64 0, .int .i64 0, .int .i64 0, .int .u64 0, .int .u64 0, .int .u64 0, .int .u64 0, .int .u64 0, .int .u64 0, .int .i64 0, .int .i64 0, .int .i64 0, .int .i64 0, .int .i64 0, .int .i64 0, .int .i64 0, .int .i64 0, .int .i64 0, .pointer none, .int .u64 0, .int .u64 0, .int .u64 0, .nilFunc, .slice none 0 0, .bool false, .int .i64 0, .int .i64 0, .bool false, .int .i64 0, .int .i64 0, .int .i64 0, .int .i64 0, .int .i64 0, .int .i64 0, .int .i64 0, .int .i64 0, .int .u64 0, .int .u64 0, .int .u64 0, .int .u64 0, .int .u64 0, .int .u64 0], .st [(0, 4, 195), (4, 3, 24), (7, 13, 31), (20, 8, 34), (28, 1, 149), (29, 1, 189), (30, 1, 28), (31, 1, 28), (32, 1, 28), (33, 1, 196), (34, 1, 56), (35, 1, 4), (36, 17, 51)] true⟩ ∧
    tiof Tryz.prog 202 = some ⟨1, false, [.nilFunc], .fu⟩ ∧
    tiof Tryz.prog 204 = some ⟨44, true, [.pointer none, .int .i64 0, .int .i64 0, .slice none 0 0, .int .i64 0, .int .i64 0, .int .i64 0, .int .i64 0, .int .i64 0, .int .i64 0, .int .i64 0, .int .u64 0, .int .u64 0, .int .u64 0, .int .u64 0, .int .u64 0, .int .u64 0, .int .i64 0, .int .i64 0, .int .i64 0, .int .i64 0, .int .i64 0, .int .i64 0, .int .i64 0, .int .i64 0, .nilFunc, .bool false, .int .i64 0, .int .i64 0, .bool false, .int .i64 0, .int .i64 0, .int .i64 0, .int .i64 0, .int .i64 0, .int .i64 0, .int .i64 0, .int .i64 0, .int .u64 0, .int .u64 0, .int .u64 0, .int .u64 0, .int .u64 0, .int .u64 0], .st [(0, 1, 189), (1, 3, 24), (4, 13, 31), (17, 8, 34), (25, 1, 202), (26, 1, 4), (27, 17, 51)] true⟩ ∧
    tiof Tryz.prog 205 = some ⟨16, true, [.int .i64 0, .int .i64 0, .int .u64 0, .int .u64 0, .int .i64 0, .int .i64 0, .int .u64 0, .int .u64 0, .int .i64 0, .int .i64 0, .int .u64 0, .int .u64 0, .int .i64 0, .int .i64 0, .int .u64 0, .int .u64 0], .ar 4 4 45⟩ ∧
    tiof Tryz.prog 210 = some ⟨1, false, [.slice none 0 0], .sl 1 2⟩ ∧
    tiof Tryz.prog 213 = some ⟨1, false, [.int .u64 0], .it .u64⟩ ∧
    tiof Tryz.prog 215 = some ⟨2, true, [.int .u64 0, .int .i64 0], .st [(0, 1, 213), (1, 1, 138)] true⟩ ∧
    tiof Tryz.prog 219 = some ⟨1, false, [.int .i64 0], .it .i64⟩ ∧
    tiof Tryz.prog 221 = some ⟨3, true, [.int .i64 0, .int .i64 0, .int .i64 0], .st [(0, 1, 219), (1, 1, 3), (2, 1, 3)] true⟩ ∧
    tiof Tryz.prog 225 = some ⟨24, true, [.string ⟨#[]⟩, .slice none 0 0, .string ⟨#[]⟩, .slice none 0 0, .string ⟨#[]⟩, .slice none 0 0, .string ⟨#[]⟩, .slice none 0 0, .string ⟨#[]⟩, .slice none 0 0, .string ⟨#[]⟩, .slice none 0 0, .string ⟨#[]⟩, .slice none 0 0, .string ⟨#[]⟩, .slice none 0 0, .string ⟨#[]⟩, .slice none 0 0, .string ⟨#[]⟩, .slice none 0 0, .string ⟨#[]⟩, .slice none 0 0, .string ⟨#[]⟩, .slice none 0 0], .ar 12 2 165⟩ ∧
    tiof Tryz.prog 227 = some ⟨1, false, [.pointer none], .pt⟩ ∧
    tiof Tryz.prog 228 = some ⟨1, false, [.slice none 0 0], .sl 4 45⟩ ∧
    tiof Tryz.prog 230 = some ⟨18, true, [.pointer none, .int .i64 0, .int .i64 0, .slice none 0 0, .int .i64 0, .int .i64 0, .int .i64 0, .int .i64 0, .int .i64 0, .int .i64 0, .bool false, .bool false, .slice none 0 0, .int .i64 0, .int .i64 0, .int .i64 0, .int .i64 0, .int .i64 0], .st [(0, 1, 227), (1, 3, 24), (4, 3, 27), (7, 1, 3), (8, 1, 3), (9, 1, 3), (10, 1, 4), (11, 1, 4), (12, 1, 228), (13, 5, 181)] true⟩ ∧
    tiof Tryz.prog 232 = some ⟨1, false, [.nilIface], .ifc⟩ ∧
    tiof Tryz.prog 240 = some ⟨1, false, [.nilFunc], .fu⟩ ∧
    tiof Tryz.prog 242 = some ⟨3, true, [.int .i64 0, .int .i64 0, .int .i64 0], .st [(0, 1, 36), (1, 1, 3), (2, 1, 3)] true⟩ ∧
    tiof Tryz.prog 244 = some ⟨29, true, [.int .i64 0, .int .i64 0, .int .i64 0, .int .i64 0, .int .i64 0, .int .i64 0, .int .i64 0, .int .u64 0, .int .u64 0, .int .u64 0, .int .u64 0, .int .u64 0, .int .u64 0, .int .i64 0, .int .i64 0, .slice none 0 0, .int .i64 0, .int .i64 0, .int .i64 0, .int .i64 0, .int .i64 0, .int .i64 0, .int .i64 0, .int .i64 0, .nilFunc, .bool false, .int .i64 0, .int .i64 0, .int .i64 0], .st [(0, 16, 77), (16, 8, 34), (24, 1, 240), (25, 1, 4), (26, 3, 242)] true⟩ ∧
    tiof Tryz.prog 256 = some ⟨1, false, [.nilFunc], .fu⟩ ∧
    tiof Tryz.prog 257 = some ⟨1, false, [.nilFunc], .fu⟩ ∧
    tiof Tryz.prog 259 = some ⟨5, true, [.string ⟨#[]⟩, .nilFunc, .int .i64 0, .int .i64 0, .nilFunc], .st [(0, 1, 9), (1, 1, 256), (2, 1, 2), (3, 1, 2), (4, 1, 257)] true⟩ ∧
    tiof Tryz.prog 260 = some ⟨25, true, [.string ⟨#[]⟩, .nilFunc, .int .i64 0, .int .i64 0, .nilFunc, .string ⟨#[]⟩, .nilFunc, .int .i64 0, .int .i64 0, .nilFunc, .string ⟨#[]⟩, .nilFunc, .int .i64 0, .int .i64 0, .nilFunc, .string ⟨#[]⟩, .nilFunc, .int .i64 0, .int .i64 0, .nilFunc, .string ⟨#[]⟩, .nilFunc, .int .i64 0, .int .i64 0, .nilFunc], .ar 5 5 259⟩ ∧
    tiof Tryz.prog 264 = some ⟨1, false, [.pointer none], .pt⟩ ∧
    tiof Tryz.prog 268 = some ⟨2, true, [.int .i64 0, .bool false], .st [(0, 1, 36), (1, 1, 4)] true⟩ ∧
    tiof Tryz.prog 272 = some ⟨0, true, [], .st [] true⟩ ∧
    tiof Tryz.prog 277 = some ⟨1, false, [.int .i64 0], .it .i64⟩ ∧
    tiof Tryz.prog 279 = some ⟨2, true, [.int .i64 0, .int .i64 0], .st [(0, 1, 3), (1, 1, 277)] true⟩ ∧
    tiof Tryz.prog 283 = some ⟨1, false, [.pointer none], .pt⟩ ∧
    tiof Tryz.prog 285 = some ⟨10, true, [.pointer none, .int .i64 0, .int .i64 0, .slice none 0 0, .int .i64 0, .int .i64 0, .int .i64 0, .int .u64 0, .int .i64 0, .bool false], .st [(0, 1, 283), (1, 3, 24), (4, 1, 3), (5, 1, 3), (6, 1, 3), (7, 1, 28), (8, 2, 268)] true⟩ ∧
    tiof Tryz.prog 287 = some ⟨1, false, [.nilFunc], .fu⟩ ∧
    tiof Tryz.prog 291 = some ⟨2, true, [.int .i64 0, .int .i64 0], .st [(0, 2, 279)] true⟩ ∧
    tiof Tryz.prog 299 = some ⟨1, false, [.nilFunc], .fu⟩ ∧
    tiof Tryz.prog 304 = some ⟨3, true, [.string ⟨#[]⟩, .string ⟨#[]⟩, .string ⟨#[]⟩], .ar 3 1 9⟩ ∧
    tiof Tryz.prog 308 = some ⟨1, false, [.slice none 0 0], .sl 1 149⟩ ∧
    tiof Tryz.prog 334 = some ⟨3, true, [.int .i64 0, .int .i64 0, .int .i64 0], .st [(0, 1, 36), (1, 1, 3), (2, 1, 3)] true⟩ ∧
    tiof Tryz.prog 342 = some ⟨1, false, [.int .i64 0], .it .i64⟩ ∧
    tiof Tryz.prog 344 = some ⟨15, true, [.int .i64 0, .int .i64 0, .slice none 0 0, .int .i64 0, .int .i64 0, .int .i64 0, .int .i64 0, .int .i64 0, .int .u64 0, .int .i64 0, .int .i64 0, .int .i64 0, .int .i64 0, .int .i64 0, .int .i64 0], .st [(0, 3, 24), (3, 1, 3), (4, 1, 3), (5, 1, 3), (6, 1, 342), (7, 1, 3), (8, 1, 28), (9, 3, 334), (12, 3, 334)] true⟩ ∧
    tiof Tryz.prog 346 = some ⟨1, false, [.nilFunc], .fu⟩ ∧
    tiof Tryz.prog 358 = some ⟨4, true, [.int .i64 0, .int .i64 0, .int .i64 0, .int .i64 0], .st [(0, 4, 94)] true⟩ ∧
    tiof Tryz.prog 361 = some ⟨1, false, [.nilFunc], .fu⟩ ∧
    tiof Tryz.prog 362 = some ⟨6, true, [.nilFunc, .nilFunc, .nilFunc, .nilFunc, .nilFunc, .nilFunc], .ar 6 1 361⟩ ∧
    tiof Tryz.prog 368 = some ⟨1, false, [.pointer none], .pt⟩ ∧
    tiof Tryz.prog 372 = some ⟨3, true, [.pointer none, .int .i64 0, .slice none 0 0], .st [(0, 1, 368), (1, 1, 3), (2, 1, 56)] true⟩ ∧
    tiof Tryz.prog 373 = some ⟨1, false, [.nilFunc], .fu⟩ ∧
    tiof Tryz.prog 375 = some ⟨8, true, [.int .i64 0, .int .i64 0, .slice none 0 0, .int .i64 0, .int .u64 0, .nilFunc, .bool false, .int .i64 0], .st [(0, 3, 24), (3, 1, 3), (4, 1, 28), (5, 1, 373), (6, 1, 4), (7, 1, 36)] true⟩ ∧
    tiof Tryz.prog 377 = some ⟨1, false, [.pointer none], .pt⟩ ∧
    fnOk Tryz.prog 3 = true ∧
    fnOk Tryz.prog 4 = true ∧
    fnOk Tryz.prog 5 = true ∧
    fnOk Tryz.prog 6 = true ∧
    fnOk Tryz.prog 7 = true ∧
    fnOk Tryz.prog 8 = true ∧
    fnOk Tryz.prog 9 = true ∧
    fnOk Tryz.prog 10 = true ∧
    fnOk Tryz.prog 11 = true ∧
    fnOk Tryz.prog 12 = true ∧
    fnOk Tryz.prog 13 = true ∧
    fnOk Tryz.prog 14 = true ∧
    fnOk Tryz.prog 15 = true ∧
    fnOk Tryz.prog 16 = true ∧
    fnOk Tryz.prog 17 = true ∧
    fnOk Tryz.prog 18 = true ∧
    fnOk Tryz.prog 19 = true ∧
    fnOk Tryz.prog 20 = true ∧
    fnOk Tryz.prog 21 = true ∧
    fnOk Tryz.prog 22 = true ∧
    fnOk Tryz.prog 23 = true ∧
    fnOk Tryz.prog 24 = true ∧
    fnOk Tryz.prog 25 = true ∧
    fnOk Tryz.prog 26 = true ∧
    fnOk Tryz.prog 27 = true ∧
    fnOk Tryz.prog 28 = true ∧
    fnOk Tryz.prog 29 = true ∧
    fnOk Tryz.prog 30 = true ∧
    fnOk Tryz.prog 31 = true ∧
    fnOk Tryz.prog 32 = true ∧
    fnOk Tryz.prog 33 = true ∧
    fnOk Tryz.prog 34 = true ∧
    fnOk Tryz.prog 35 = true ∧
    fnOk Tryz.prog 36 = true ∧
    fnOk Tryz.prog 37 = true ∧
    fnOk Tryz.prog 38 = true ∧
    fnOk Tryz.prog 39 = true ∧
    fnOk Tryz.prog 40 = true ∧
    fnOk Tryz.prog 41 = true ∧
    fnOk Tryz.prog 42 = true ∧
    fnOk Tryz.prog 43 = true ∧
    fnOk Tryz.prog 44 = true ∧
    fnOk Tryz.prog 45 = true ∧
    fnOk Tryz.prog 46 = true ∧
    fnOk Tryz.prog 47 = true ∧
    fnOk Tryz.prog 48 = true ∧
    fnOk Tryz.prog 49 = true ∧
    fnOk Tryz.prog 50 = true ∧
    fnOk Tryz.prog 51 = true ∧
    fnOk Tryz.prog 52 = true ∧
    fnOk Tryz.prog 53 = true ∧
    fnOk Tryz.prog 54 = true ∧
    fnOk Tryz.prog 55 = true ∧
    fnOk Tryz.prog 56 = true ∧
    fnOk Tryz.prog 57 = true ∧
    fnOk Tryz.prog 58 = true ∧
    fnOk Tryz.prog 59 = true ∧
    fnOk Tryz.prog 60 = true ∧
    fnOk Tryz.prog 61 = true ∧
    fnOk Tryz.prog 62 = true ∧
    fnOk Tryz.prog 63 = true ∧
    fnOk Tryz.prog 64 = true ∧
    fnOk Tryz.prog 65 = true ∧
    fnOk Tryz.prog 66 = true ∧
    fnOk Tryz.prog 67 = true ∧
    fnOk Tryz.prog 68 = true ∧
    fnOk Tryz.prog 69 = true ∧
    fnOk Tryz.prog 70 = true ∧
    fnOk Tryz.prog 71 = true ∧
    fnOk Tryz.prog 72 = true ∧
    fnOk Tryz.prog 73 = true ∧
    fnOk Tryz.prog 74 = true ∧
    fnOk Tryz.prog 75 = true ∧
    fnOk Tryz.prog 76 = true ∧
    fnOk Tryz.prog 77 = true ∧
    fnOk Tryz.prog 78 = true ∧
    fnOk Tryz.prog 79 = true ∧
    fnOk Tryz.prog 80 = true ∧
    fnOk Tryz.prog 81 = true ∧
    fnOk Tryz.prog 82 = true ∧
    fnOk Tryz.prog 83 = true ∧
    fnOk Tryz.prog 84 = true ∧
    fnOk Tryz.prog 85 = true ∧
    fnOk Tryz.prog 86 = true ∧
    fnOk Tryz.prog 87 = true ∧
    fnOk Tryz.prog 88 = true ∧
    fnOk Tryz.prog 89 = true ∧
    fnOk Tryz.prog 90 = true ∧
    fnOk Tryz.prog 91 = true ∧
    fnOk Tryz.prog 92 = true ∧
    fnOk Tryz.prog 93 = true ∧
    fnOk Tryz.prog 94 = true ∧
    fnOk Tryz.prog 95 = true ∧
    fnOk Tryz.prog 96 = true ∧
    fnOk Tryz.prog 97 = true ∧
    fnOk Tryz.prog 98 = true ∧
    fnOk Tryz.prog 99 = true ∧
    fnOk Tryz.prog 100 = true ∧
    fnOk Tryz.prog 101 = true ∧
    fnOk Tryz.prog 102 = true ∧
    fnOk Tryz.prog 103 = true ∧
    fnOk Tryz.prog 104 = true ∧
    fnOk Tryz.prog 105 = true ∧
    fnOk Tryz.prog 106 = true ∧
    fnOk Tryz.prog 107 = true ∧
    fnOk Tryz.prog 108 = true ∧
    fnOk Tryz.prog 109 = true ∧
    fnOk Tryz.prog 110 = true ∧
    fnOk Tryz.prog 111 = true ∧
    fnOk Tryz.prog 112 = true ∧
    fnOk Tryz.prog 113 = true ∧
    fnOk Tryz.prog 114 = true ∧
    fnOk Tryz.prog 115 = true ∧
    fnOk Tryz.prog 116 = true ∧
    fnOk Tryz.prog 117 = true ∧
    fnOk Tryz.prog 118 = true ∧
    fnOk Tryz.prog 119 = true ∧
    fnOk Tryz.prog 120 = true ∧
    fnOk Tryz.prog 121 = true ∧
    fnOk Tryz.prog 122 = true ∧
    fnOk Tryz.prog 123 = true ∧
    fnOk Tryz.prog 124 = true ∧
    fnOk Tryz.prog 125 = true ∧
    fnOk Tryz.prog 126 = true ∧
    fnOk Tryz.prog 127 = true ∧
    fnOk Tryz.prog 128 = true ∧
    fnOk Tryz.prog 129 = true ∧
    fnOk Tryz.prog 130 = true ∧
    fnOk Tryz.prog 131 = true ∧
    fnOk Tryz.prog 132 = true ∧
    fnOk Tryz.prog 133 = true ∧
    fnOk Tryz.prog 134 = true ∧
    fnOk Tryz.prog 135 = true ∧
    fnOk Tryz.prog 136 = true ∧
    fnOk Tryz.prog 137 = true ∧
    fnOk Tryz.prog 138 = true ∧
    fnOk Tryz.prog 139 = true ∧
    fnOk Tryz.prog 140 = true ∧
    fnOk Tryz.prog 141 = true ∧
    fnOk Tryz.prog 142 = true ∧
    fnOk Tryz.prog 143 = true ∧
    fnOk Tryz.prog 144 = true ∧
    fnOk Tryz.prog 145 = true ∧
    fnOk Tryz.prog 146 = true ∧
    fnOk Tryz.prog 147 = true ∧
    fnOk Tryz.prog 148 = true ∧
    fnOk Tryz.prog 149 = true ∧
    fnOk Tryz.prog 150 = true ∧
    fnOk Tryz.prog 151 = true ∧
    fnOk Tryz.prog 152 = true ∧
    fnOk Tryz.prog 153 = true ∧
    fnOk Tryz.prog 154 = true ∧
    fnOk Tryz.prog 155 = true ∧
    fnOk Tryz.prog 156 = true ∧
    fnOk Tryz.prog 157 = true ∧
    fnOk Tryz.prog 158 = true ∧
    fnOk Tryz.prog 159 = true ∧
    fnOk Tryz.prog 160 = true ∧
    fnOk Tryz.prog 161 = true ∧
    fnOk Tryz.prog 162 = true ∧
    fnOk Tryz.prog 163 = true ∧
    fnOk Tryz.prog 164 = true ∧
    fnOk Tryz.prog 165 = true ∧
    fnOk Tryz.prog 166 = true ∧
    fnOk Tryz.prog 167 = true ∧
    fnOk Tryz.prog 168 = true ∧
    fnOk Tryz.prog 169 = true ∧
    fnOk Tryz.prog 170 = true ∧
    fnOk Tryz.prog 171 = true ∧
    fnOk Tryz.prog 172 = true ∧
    fnOk Tryz.prog 173 = true ∧
    fnOk Tryz.prog 174 = true ∧
    fnOk Tryz.prog 175 = true ∧
    fnOk Tryz.prog 176 = true ∧
    fnOk Tryz.prog 177 = true ∧
    fnOk Tryz.prog 178 = true ∧
    fnOk Tryz.prog 179 = true ∧
    fnOk Tryz.prog 180 = true ∧
    fnOk Tryz.prog 181 = true ∧
    fnOk Tryz.prog 182 = true ∧
    fnOk Tryz.prog 183 = true ∧
    fnOk Tryz.prog 184 = true ∧
    fnOk Tryz.prog 185 = true ∧
    fnOk Tryz.prog 186 = true ∧
    fnOk Tryz.prog 187 = true ∧
    fnOk Tryz.prog 188 = true ∧
    fnOk Tryz.prog 189 = true ∧
    fnOk Tryz.prog 190 = true ∧
    fnOk Tryz.prog 191 = true ∧
    fnOk Tryz.prog 192 = true ∧
    fnOk Tryz.prog 193 = true ∧
    fnOk Tryz.prog 194 = true ∧
    fnOk Tryz.prog 195 = true ∧
    fnOk Tryz.prog 196 = true ∧
    fnOk Tryz.prog 197 = true ∧
    fnOk Tryz.prog 198 = true ∧
    fnOk Tryz.prog 199 = true ∧
    fnOk Tryz.prog 200 = true ∧
    fnOk Tryz.prog 201 = true ∧
    fnOk Tryz.prog 202 = true ∧
    fnOk Tryz.prog 203 = true ∧
    fnOk Tryz.prog 204 = true ∧
    fnOk Tryz.prog 205 = true ∧
    fnOk Tryz.prog 206 = true ∧
    fnOk Tryz.prog 207 = true ∧
    fnOk Tryz.prog 208 = true ∧
    fnOk Tryz.prog 209 = true ∧
    fnOk Tryz.prog 210 = true ∧
    fnOk Tryz.prog 211 = true ∧
    fnOk Tryz.prog 212 = true ∧
    fnOk Tryz.prog 213 = true ∧
    fnOk Tryz.prog 214 = true ∧
    fnOk Tryz.prog 215 = true ∧
    fnOk Tryz.prog 216 = true ∧
    fnOk Tryz.prog 217 = true ∧
    fnOk Tryz.prog 218 = true ∧
    fnOk Tryz.prog 219 = true ∧
    fnOk Tryz.prog 220 = true ∧
    fnOk Tryz.prog 237 = true ∧
    fnOk Tryz.prog 238 = true ∧
    fnOk Tryz.prog 239 = true ∧
    fnOk Tryz.prog 240 = true ∧
    fnOk Tryz.prog 241 = true ∧
    fnOk Tryz.prog 243 = true ∧
    fnOk Tryz.prog 244 = true ∧
    fnOk Tryz.prog 245 = true ∧
    fnOk Tryz.prog 246 = true ∧
    fnOk Tryz.prog 247 = true ∧
    fnOk Tryz.prog 248 = true ∧
    fnOk Tryz.prog 249 = true ∧
    fnOk Tryz.prog 250 = true ∧
    fnOk Tryz.prog 251 = true ∧
    fnOk Tryz.prog 252 = true ∧
    fnOk Tryz.prog 253 = true ∧
    fnOk Tryz.prog 254 = true ∧
    fnOk Tryz.prog 255 = true ∧
    fnOk Tryz.prog 256 = true ∧
    fnOk Tryz.prog 257 = true ∧
    fnOk Tryz.prog 258 = true ∧
    fnOk Tryz.prog 259 = true ∧
    fnOk Tryz.prog 260 = true ∧
    fnOk Tryz.prog 261 = true ∧
    fnOk Tryz.prog 262 = true ∧
    fnOk Tryz.prog 263 = true ∧
    fnOk Tryz.prog 264 = true ∧
    fnOk Tryz.prog 265 = true ∧
    fnOk Tryz.prog 266 = true ∧
    fnOk Tryz.prog 267 = true ∧
    fnOk Tryz.prog 268 = true ∧
    fnOk Tryz.prog 269 = true ∧
    fnOk Tryz.prog 270 = true ∧
    fnOk Tryz.prog 271 = true ∧
    fnOk Tryz.prog 272 = true ∧
    fnOk Tryz.prog 273 = true ∧
    fnOk Tryz.prog 274 = true ∧
    fnOk Tryz.prog 275 = true ∧
    fnOk Tryz.prog 278 = true ∧
    fnOk Tryz.prog 279 = true ∧
    fnOk Tryz.prog 280 = true ∧
    fnOk Tryz.prog 281 = true ∧
    fnOk Tryz.prog 282 = true ∧
    fnOk Tryz.prog 283 = true ∧
    fnOk Tryz.prog 284 = true ∧
    fnOk Tryz.prog 285 = true ∧
    fnOk Tryz.prog 286 = true ∧
    fnOk Tryz.prog 287 = true ∧
    fnOk Tryz.prog 288 = true ∧
    fnOk Tryz.prog 289 = true ∧
    fnOk Tryz.prog 290 = true ∧
    fnOk Tryz.prog 291 = true ∧
    fnOk Tryz.prog 292 = true ∧
    fnOk Tryz.prog 293 = true ∧
    fnOk Tryz.prog 294 = true ∧
    fnOk Tryz.prog 295 = true ∧
    fnOk Tryz.prog 296 = true ∧
    fnOk Tryz.prog 297 = true ∧
    fnOk Tryz.prog 298 = true :=
  ⟨rfl, rfl, rfl, rfl, rfl, rfl, rfl, rfl, rfl, rfl, rfl, rfl, rfl, rfl, rfl, rfl, rfl, rfl, rfl, rfl, rfl, rfl, rfl, rfl, rfl, rfl, rfl, rfl, rfl, rfl, rfl, rfl, rfl, rfl, rfl, rfl, rfl, rfl, rfl, rfl, rfl, rfl, rfl, rfl, rfl, rfl, rfl, rfl, rfl, rfl, rfl, rfl, rfl, rfl, rfl, rfl, rfl, rfl, rfl, rfl, rfl, rfl, rfl, rfl, rfl, rfl, rfl, rfl, rfl, rfl, rfl, rfl, rfl, rfl, rfl, rfl, rfl, rfl, rfl, rfl, rfl, rfl, rfl, rfl, rfl, rfl, rfl, rfl, rfl, rfl, rfl, rfl, rfl, rfl, rfl, rfl, rfl, rfl, rfl, rfl, rfl, rfl, rfl, rfl, rfl, rfl, rfl, rfl, rfl, rfl, rfl, rfl, rfl, rfl, rfl, rfl, rfl, rfl, rfl, rfl, rfl, rfl, rfl, rfl, rfl, rfl, rfl, rfl, rfl, rfl, rfl, rfl, rfl, rfl, rfl, rfl, rfl, rfl, rfl, rfl, rfl, rfl, rfl, rfl, rfl, rfl, rfl, rfl, rfl, rfl, rfl, rfl, rfl, rfl, rfl, rfl, rfl, rfl, rfl, rfl, rfl, rfl, rfl, rfl, rfl, rfl, rfl, rfl, rfl, rfl, rfl, rfl, rfl, rfl, rfl, rfl, rfl, rfl, rfl, rfl, rfl, rfl, rfl, rfl, rfl, rfl, rfl, rfl, rfl, rfl, rfl, rfl, rfl, rfl, rfl, rfl, rfl, rfl, rfl, rfl, rfl, rfl, rfl, rfl, rfl, rfl, rfl, rfl, rfl, rfl, rfl, rfl, rfl, rfl, rfl, rfl, rfl, rfl, rfl, rfl, rfl, rfl, rfl, rfl, rfl, rfl, rfl, rfl, rfl, rfl, rfl, rfl, rfl, rfl, rfl, rfl, rfl, rfl, rfl, rfl, rfl, rfl, rfl, rfl, rfl, rfl, rfl, rfl, rfl, rfl, rfl, rfl, rfl, rfl, rfl, rfl, rfl, rfl, rfl, rfl, rfl, rfl, rfl, rfl, rfl, rfl, rfl, rfl, rfl, rfl, rfl, rfl, rfl, rfl, rfl, rfl, rfl, rfl, rfl, rfl, rfl, rfl, rfl, rfl, rfl, rfl, rfl, rfl, rfl, rfl, rfl, rfl, rfl, rfl, rfl, rfl, rfl, rfl, rfl, rfl, rfl, rfl, rfl, rfl, rfl, rfl, rfl, rfl, rfl, rfl, rfl, rfl, rfl, rfl, rfl, rfl, rfl, rfl, rfl, rfl, rfl, rfl, rfl, rfl, rfl, rfl, rfl, rfl, rfl, rfl, rfl, rfl, rfl, rfl, rfl, rfl, rfl, rfl, rfl, rfl, rfl, rfl, rfl, rfl, rfl, rfl, rfl, rfl, rfl, rfl, rfl, rfl, rfl, rfl, rfl, rfl, rfl, rfl, rfl, rfl, rfl, rfl, rfl, rfl, rfl, rfl, rfl, rfl, rfl, rfl, rfl, rfl, rfl, rfl, rfl, rfl, rfl, rfl, rfl, rfl, rfl, rfl, rfl, rfl, rfl, rfl, rfl, rfl, rfl, rfl, rfl, rfl, rfl, rfl, rfl, rfl, rfl, rfl, rfl, rfl, rfl, rfl, rfl, rfl, rfl, rfl, rfl, rfl, rfl, rfl, rfl, rfl, rfl, rfl, rfl, rfl, rfl, rfl, rfl, rfl, rfl, rfl, rfl, rfl, rfl, rfl, rfl, rfl, rfl, rfl, rfl, rfl, rfl, rfl, rfl, rfl, rfl, rfl, rfl, rfl, rfl, rfl, rfl, rfl, rfl, rfl, rfl, rfl, rfl, rfl, rfl, rfl, rfl, rfl, rfl, rfl, rfl, rfl, rfl, rfl, rfl, rfl, rfl, rfl, rfl, rfl, rfl, rfl, rfl, rfl, rfl, rfl, rfl, rfl, rfl, rfl, rfl, rfl, rfl, rfl, rfl, rfl, rfl, rfl, rfl, rfl, rfl, rfl, rfl, rfl, rfl, rfl, rfl, rfl, rfl, rfl, rfl, rfl, rfl, rfl, rfl, rfl, rfl, rfl, rfl, rfl, rfl, rfl, rfl, rfl, rfl, rfl, rfl, rfl, rfl, rfl, rfl, rfl, rfl, rfl, rfl, rfl, rfl, rfl, rfl, rfl, rfl, rfl, rfl, rfl, rfl, rfl, rfl, rfl, rfl, rfl, rfl, rfl, rfl, rfl, rfl, rfl, rfl, rfl, rfl, rfl, rfl, rfl, rfl, rfl, rfl, rfl, (by kernel_rfl), (by kernel_rfl), (by kernel_rfl), (by kernel_rfl), (by kernel_rfl), (by kernel_rfl), (by kernel_rfl), (by kernel_rfl), (by kernel_rfl), (by kernel_rfl), (by kernel_rfl), (by kernel_rfl), (by kernel_rfl), (by kernel_rfl), (by kernel_rfl), (by kernel_rfl), (by kernel_rfl), (by kernel_rfl), (by kernel_rfl), (by kernel_rfl), (by kernel_rfl), (by kernel_rfl), (by kernel_rfl), (by kernel_rfl), (by kernel_rfl), (by kernel_rfl), (by kernel_rfl), (by kernel_rfl), (by kernel_rfl), (by kernel_rfl), (by kernel_rfl), (by kernel_rfl), (by kernel_rfl), (by kernel_rfl), (by kernel_rfl), (by kernel_rfl), (by kernel_rfl), (by kernel_rfl), (by kernel_rfl), (by kernel_rfl), (by kernel_rfl), (by kernel_rfl), (by kernel_rfl), (by kernel_rfl), (by kernel_rfl), (by kernel_rfl), (by kernel_rfl), (by kernel_rfl), (by kernel_rfl), (by kernel_rfl), (by kernel_rfl), (by kernel_rfl), (by kernel_rfl), (by kernel_rfl), (by kernel_rfl), (by kernel_rfl), (by kernel_rfl), (by kernel_rfl), (by kernel_rfl), (by kernel_rfl), (by kernel_rfl), (by kernel_rfl), (by kernel_rfl), (by kernel_rfl), (by kernel_rfl), (by kernel_rfl), (by kernel_rfl), (by kernel_rfl), (by kernel_rfl), (by kernel_rfl), (by kernel_rfl), (by kernel_rfl), (by kernel_rfl), (by kernel_rfl), (by kernel_rfl), (by kernel_rfl), (by kernel_rfl), (by kernel_rfl), (by kernel_rfl), (by kernel_rfl), (by kernel_rfl), (by kernel_rfl), (by kernel_rfl), (by kernel_rfl), (by kernel_rfl), (by kernel_rfl), (by kernel_rfl), (by kernel_rfl), (by kernel_rfl), (by kernel_rfl), (by kernel_rfl), (by kernel_rfl), (by kernel_rfl), (by kernel_rfl), (by kernel_rfl), (by kernel_rfl), (by kernel_rfl), (by kernel_rfl), (by kernel_rfl), (by kernel_rfl), (by kernel_rfl), (by kernel_rfl), (by kernel_rfl), (by kernel_rfl), (by kernel_rfl), (by kernel_rfl), (by kernel_rfl), (by kernel_rfl), (by kernel_rfl), (by kernel_rfl), (by kernel_rfl), (by kernel_rfl), (by kernel_rfl), (by kernel_rfl), (by kernel_rfl), (by kernel_rfl), (by kernel_rfl), (by kernel_rfl), (by kernel_rfl), (by kernel_rfl), (by kernel_rfl), (by kernel_rfl), (by kernel_rfl), (by kernel_rfl), (by kernel_rfl), (by kernel_rfl), (by kernel_rfl), (by kernel_rfl), (by kernel_rfl), (by kernel_rfl), (by kernel_rfl), (by kernel_rfl), (by kernel_rfl), (by kernel_rfl), (by kernel_rfl), (by kernel_rfl), (by kernel_rfl), (by kernel_rfl), (by kernel_rfl), (by kernel_rfl), (by kernel_rfl), (by kernel_rfl), (by kernel_rfl), (by kernel_rfl), (by kernel_rfl), (by kernel_rfl), (by kernel_rfl), (by kernel_rfl), (by kernel_rfl), (by kernel_rfl), (by kernel_rfl), (by kernel_rfl), (by kernel_rfl), (by kernel_rfl), (by kernel_rfl), (by kernel_rfl), (by kernel_rfl), (by kernel_rfl), (by kernel_rfl), (by kernel_rfl), (by kernel_rfl), (by kernel_rfl), (by kernel_rfl), (by kernel_rfl), (by kernel_rfl), (by kernel_rfl), (by kernel_rfl), (by kernel_rfl), (by kernel_rfl), (by kernel_rfl), (by kernel_rfl), (by kernel_rfl), (by kernel_rfl), (by kernel_rfl), (by kernel_rfl), (by kernel_rfl), (by kernel_rfl), (by kernel_rfl), (by kernel_rfl), (by kernel_rfl), (by kernel_rfl), (by kernel_rfl), (by kernel_rfl), (by kernel_rfl), (by kernel_rfl), (by kernel_rfl), (by kernel_rfl), (by kernel_rfl), (by kernel_rfl), (by kernel_rfl), (by kernel_rfl), (by kernel_rfl), (by kernel_rfl), (by kernel_rfl), (by kernel_rfl), (by kernel_rfl), (by kernel_rfl), (by kernel_rfl), (by kernel_rfl), (by kernel_rfl), (by kernel_rfl), (by kernel_rfl), (by kernel_rfl), (by kernel_rfl), (by kernel_rfl), (by kernel_rfl), (by kernel_rfl), (by kernel_rfl), (by kernel_rfl), (by kernel_rfl), (by kernel_rfl), (by kernel_rfl), (by kernel_rfl), (by kernel_rfl), (by kernel_rfl), (by kernel_rfl), (by kernel_rfl), (by kernel_rfl), (by kernel_rfl), (by kernel_rfl), (by kernel_rfl), (by kernel_rfl), (by kernel_rfl), (by kernel_rfl), (by kernel_rfl), (by kernel_rfl), (by kernel_rfl), (by kernel_rfl), (by kernel_rfl), (by kernel_rfl), (by kernel_rfl), (by kernel_rfl), (by kernel_rfl), (by kernel_rfl), (by kernel_rfl), (by kernel_rfl), (by kernel_rfl), (by kernel_rfl), (by kernel_rfl), (by kernel_rfl), (by kernel_rfl), (by kernel_rfl), (by kernel_rfl), (by kernel_rfl), (by kernel_rfl), (by kernel_rfl), (by kernel_rfl), (by kernel_rfl), (by kernel_rfl), (by kernel_rfl), (by kernel_rfl), (by kernel_rfl), (by kernel_rfl), (by kernel_rfl), (by kernel_rfl), (by kernel_rfl), (by kernel_rfl), (by kernel_rfl), (by kernel_rfl), (by kernel_rfl), (by kernel_rfl), (by kernel_rfl), (by kernel_rfl), (by kernel_rfl), (by kernel_rfl), (by kernel_rfl), (by kernel_rfl), (by kernel_rfl), (by kernel_rfl), (by kernel_rfl), (by kernel_rfl), (by kernel_rfl), (by kernel_rfl), (by kernel_rfl), (by kernel_rfl), (by kernel_rfl), (by kernel_rfl), (by kernel_rfl), (by kernel_rfl), (by kernel_rfl), (by kernel_rfl), (by kernel_rfl), (by kernel_rfl), (by kernel_rfl), (by kernel_rfl), (by kernel_rfl), (by kernel_rfl), (by kernel_rfl), (by kernel_rfl), (by kernel_rfl), (by kernel_rfl), (by kernel_rfl), (by kernel_rfl), (by kernel_rfl), (by kernel_rfl), (by kernel_rfl), (by kernel_rfl), (by kernel_rfl), (by kernel_rfl), (by kernel_rfl), (by kernel_rfl), (by kernel_rfl), (by kernel_rfl), (by kernel_rfl), (by kernel_rfl), (by kernel_rfl), (by kernel_rfl), (by kernel_rfl), (by kernel_rfl), (by kernel_rfl), (by kernel_rfl), (by kernel_rfl), (by kernel_rfl), (by kernel_rfl), (by kernel_rfl), (by kernel_rfl), (by kernel_rfl), (by kernel_rfl), (by kernel_rfl), (by kernel_rfl), (by kernel_rfl), (by kernel_rfl), (by kernel_rfl), (by kernel_rfl), (by kernel_rfl), (by kernel_rfl), (by kernel_rfl), (by kernel_rfl), (by kernel_rfl), (by kernel_rfl), (by kernel_rfl), (by kernel_rfl), (by kernel_rfl), (by kernel_rfl), (by kernel_rfl), (by kernel_rfl), (by kernel_rfl), (by kernel_rfl), (by kernel_rfl), (by kernel_rfl), (by kernel_rfl), (by kernel_rfl), (by kernel_rfl), (by kernel_rfl), (by kernel_rfl), (by kernel_rfl), (by kernel_rfl), (by kernel_rfl), (by kernel_rfl), (by kernel_rfl), (by kernel_rfl), (by kernel_rfl), (by kernel_rfl), (by kernel_rfl), (by kernel_rfl), (by kernel_rfl), (by kernel_rfl), (by kernel_rfl), (by kernel_rfl), (by kernel_rfl), (by kernel_rfl), (by kernel_rfl), (by kernel_rfl), (by kernel_rfl), (by kernel_rfl), (by kernel_rfl), (by kernel_rfl), (by kernel_rfl), (by kernel_rfl), (by kernel_rfl), (by kernel_rfl), (by kernel_rfl), (by kernel_rfl), (by kernel_rfl), (by kernel_rfl), (by kernel_rfl), (by kernel_rfl), (by kernel_rfl), (by kernel_rfl), (by kernel_rfl), (by kernel_rfl), (by kernel_rfl), (by kernel_rfl), (by kernel_rfl), (by kernel_rfl), (by kernel_rfl), (by kernel_rfl), (by kernel_rfl), (by kernel_rfl), (by kernel_rfl)⟩
end Go.Proofs.YtekdgkhelhcmbaaGreat
