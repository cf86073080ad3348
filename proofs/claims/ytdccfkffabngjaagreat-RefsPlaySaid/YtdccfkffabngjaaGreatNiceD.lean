/- Printed by /tmp/tools2/gen.py: the condition of each function,and that a call meets it. -/
import Derived.Test.YtdccfkffabngjaaGreatVcFun
import Derived.Test.YtdccfkffabngjaaGreatProg
import Derived.Test.YtdccfkffabngjaaGreatNiceA
import Derived.Test.YtdccfkffabngjaaGreatNiceB
import Derived.Test.YtdccfkffabngjaaGreatNiceC
set_option maxRecDepth 100000
set_option linter.unusedVariables false
namespace Go.Proofs.YtdccfkffabngjaaGreat
open Go.Vc Go.Instr Go.Builtin

def n3 (x0 script1:Value) (R:VP) (h:Heap):Prop :=
 vF (box 23 x0) (fun x2 H1 =>
 vF (loadAt 23 x2) (fun t38 H2 =>
 vC 6 #[t38,script1] (fun t40 H3 =>
 vD t40 (
 vC 7 #[] (fun t41 H4 =>
 R t41 H4) H3) (
 vF (loadAt 23 x2) (fun t43 H5 =>
 vC 8 #[t43,(.slice none 0 0)] (fun t44 H6 =>
 vF (extract t44 0) (fun t45 H7 =>
 vF (extract t44 1) (fun t46 H8 =>
 vF (Op.unary .not t46) (fun t48 H9 =>
 vD t48 (
 vC 7 #[] (fun t49 H10 =>
 R t49 H10) H9) (
 vC 9 #[t45,(str [97])] (fun t52 H11 =>
 vF (extract t52 0) (fun t53 H12 =>
 vF (extract t52 1) (fun t54 H13 =>
 vF (vk .neq 31 55 .i64 0 t54) (fun t56 H14 =>
 vJ t56 false (vV t53) (fun t58 H16 =>
 vJ t56 false (vF (binS .eql 30 (.tmp 58) (.const (.pointer none)) t58 (.pointer none))) (fun t59 H18 =>
 vF (pickS t56 (.bool true) t59) (fun t60 H19 =>
 vD t60 (
 R (.bool false) H19) (
 vF (fieldAt 23 x2 0) (fun t61 H20 =>
 vF (loadAt 3 t61) (fun t62 H21 =>
 vF (binS .shl 2 (.const (.int .i64 1)) (.tmp 62) (.int .i64 1) t62) (fun t63 H22 =>
 vG (fieldAt 23 x2 2) (fun t64 _ =>
 vG (loadAt 3 t64) (fun t65 _ =>
 vG (vt .mul 2 65 66 t65 t63) (fun t67 _ =>
 vG (vk .quo 2 67 .i64 8 t67) (fun t68 _ =>
 vG (fieldAt 23 x2 0) (fun t69 _ =>
 vG (loadAt 3 t69) (fun t70 _ =>
 vG (fieldAt 23 x2 1) (fun t71 _ =>
 vG (loadAt 3 t71) (fun t72 _ =>
 vC 10 #[t70,t72] (fun t73 H23=>vG (loadAt 3 t64) (fun u _=>u=t65) H23 ∧
 vG (vt .mul 2 68 73 t68 t73) (fun t74 _ =>
 LoopC 3 (fun (X:Value→Value→VP)=>fun r7 mine11 i12 H24 =>
 vF (len_ #[24] 3 #[script1]) (fun t77 H25 =>
 vF (vt .lss 3 75 77 i12 t77) (fun t78 H26 =>
 vD t78 (
 vF (indexAt 24 script1 i12) (fun t83 H27 =>
 vF (loadAt 37 t83) (fun t84 H28 =>
 vF (alloc 37 true undef) (fun t13 H29 =>
 vF (storeS 37 t13 t84) (fun _ H30 =>
 vC 11 #[t45,(str [97])] (fun t87 H31 =>
 vF (extract t87 0) (fun t88 H32 =>
 vF (extract t87 1) (fun t89 H33 =>
 JoinN 2 (fun (k_2:Value→VP) H34 =>
 vF (fieldAt 37 t13 0) (fun t90 H35 =>
 vF (loadAt 3 t90) (fun t91 H36 =>
 JoinN 2 (fun (k_3:Value→VP) H37 =>
 vF (vk .eql 3 91 .i64 1 t91) (fun t93 H38 =>
 vD t93 (
 vF (fieldAt 37 t13 1) (fun t96 H39 =>
 vF (loadAt 3 t96) (fun t97 H40 =>
 vC 12 #[r7,t97] (fun t98 H41 =>
 vF (extract t98 0) (fun t99 H42 =>
 vF (extract t98 1) (fun t100 H43 =>
 vF (fieldAt 37 t13 1) (fun t101 H44 =>
 vF (loadAt 3 t101) (fun t102 H45 =>
 vF (vk .lss 3 102 .i64 1 t102) (fun t103 H46 =>
 vD t103 (
 vF (vk .neq 2 104 .i64 0 t99) (fun t105 H47 =>
 vJ t105 false (vV t100) (fun t107 H49 =>
 vJ t105 false (vF (vk .neq 31 107 .i64 2 t107)) (fun t108 H51 =>
 vF (pickS t105 (.bool true) t108) (fun t109 H52 =>
 vD t109 (
 R (.bool false) H52) (
 k_3 r7 mine11 H52)) H51) H49) H47) H46) (
 vC 11 #[t45,(str [97])] (fun t112 H53 =>
 vF (extract t112 0) (fun t113 H54 =>
 vF (extract t112 1) (fun t114 H55 =>
 vF (vk .eql 31 115 .i64 6 t100) (fun t116 H56 =>
 vJ t116 true (vV t99) (fun t118 H58 =>
 vJ t116 true (vF (vk .eql 2 118 .i64 0 t118)) (fun t119 H60 =>
 vF (pickS t116 t119 (.bool false)) (fun t120 H61 =>
 vD t120 (
 k_3 r7 mine11 H61) (
 vF (fieldAt 37 t13 1) (fun t122 H62 =>
 vF (loadAt 3 t122) (fun t123 H63 =>
 vF (build 42 #[(0,t99),(1,t123)]) (fun t124 H64 =>
 vF (alloc 42 true undef) (fun y18 H65 =>
 vF (storeS 42 y18 t124) (fun _ H66 =>
 vF (vk .neq 31 125 .i64 0 t100) (fun t126 H67 =>
 vJ t126 false (vF (loadAt 42 y18)) (fun t128 H69 =>
 vJ t126 false (vV mine11) (fun t129 H71 =>
 vJ t126 false (vV t63) (fun t130 H73 =>
 vJ t126 false (vV t113) (fun t131 H75 =>
 vJ t126 false (vC 13 #[t128,t129,t130,t131]) (fun t132 H77 =>
 vJ t126 false (vF (Op.unary .not t132)) (fun t133 H79 =>
 vF (pickS t126 (.bool true) t133) (fun t134 H80 =>
 vD t134 (
 R (.bool false) H80) (
 vF (loadAt 42 y18) (fun t136 H81 =>
 vF (buildSlice 35 1 #[(0,t136)]) (fun t137 H82 =>
 vF (append_ #[35,35] 35 #[mine11,t137]) (fun t138 H83 =>
 k_3 r7 t138 H83) H82) H81) H80)) H79) H77) H75) H73) H71) H69) H67) H66) H65) H64) H63) H62) H61)) H60) H58) H56) H55) H54) H53) H46)) H45) H44) H43) H42) H41) H40) H39) H38) (
 JoinN 1 (fun (k_14:VP) H84 =>
 vF (vk .eql 3 91 .i64 2 t91) (fun t140 H85 =>
 vD t140 (
 k_14 t140 H85) (
 vF (vk .eql 3 91 .i64 3 t91) (fun t141 H86 =>
 k_14 t141 H86) H85)) H84)
 (fun t139 H87 =>
 vD t139 (
 vF (len_ #[35] 3 #[mine11]) (fun t143 H88 =>
 vF (vk .eql 3 143 .i64 0 t143) (fun t144 H89 =>
 vJ t144 false (vF (fieldAt 37 t13 1)) (fun t146 H91 =>
 vJ t144 false (vF (loadAt 3 t146)) (fun t147 H93 =>
 vJ t144 false (vF (vk .lss 3 147 .i64 0 t147)) (fun t148 H95 =>
 vF (pickS t144 (.bool true) t148) (fun t149 H96 =>
 vD t149 (
 k_3 r7 mine11 H96) (
 vF (len_ #[35] 3 #[mine11]) (fun t151 H97 =>
 vF (vk .sub 3 151 .i64 1 t151) (fun t152 H98 =>
 vF (fieldAt 37 t13 1) (fun t153 H99 =>
 vF (loadAt 3 t153) (fun t154 H100 =>
 vF (len_ #[35] 3 #[mine11]) (fun t156 H101 =>
 vF (vt .rem 3 154 156 t154 t156) (fun t157 H102 =>
 vF (vt .sub 3 152 157 t152 t157) (fun t158 H103 =>
 vF (indexAt 35 mine11 t158) (fun t161 H104 =>
 vF (loadAt 42 t161) (fun t162 H105 =>
 vF (alloc 42 true undef) (fun y20 H106 =>
 vF (storeS 42 y20 t162) (fun _ H107 =>
 vF (fieldAt 42 y20 0) (fun t165 H108 =>
 vF (loadAt 2 t165) (fun t166 H109 =>
 vF (vt .quo 2 166 167 t166 t63) (fun t168 H110 =>
 vC 14 #[r7,t168] (fun t169 H111 =>
 vF (extract t169 0) (fun t170 H112 =>
 vF (extract t169 1) (fun t171 H113 =>
 vF (fieldAt 37 t13 0) (fun t172 H114 =>
 vF (loadAt 3 t172) (fun t173 H115 =>
 vF (vk .eql 3 173 .i64 3 t173) (fun t174 H116 =>
 vD t174 (
 LoopC 2 (fun (X_1:Value→VP)=>fun clusters23 n24 H117 =>
 vF (fieldAt 42 y20 1) (fun t176 H118 =>
 vF (loadAt 3 t176) (fun t177 H119 =>
 vF (vt .lss 3 175 177 n24 t177) (fun t178 H120 =>
 vD t178 (
 vF (fieldAt 42 y20 0) (fun t182 H121 =>
 vF (loadAt 2 t182) (fun t183 H122 =>
 vF (vt .quo 2 183 184 t183 t63) (fun t185 H123 =>
 vF (vt .add 2 185 186 t185 n24) (fun t187 H124 =>
 vF (buildSlice 47 1 #[(0,t187)]) (fun t188 H125 =>
 vF (append_ #[47,47] 47 #[clusters23,t188]) (fun t189 H126 =>
 vF (vk .add 3 179 .i64 1 n24) (fun t180 H127 =>
 X_1 t189 t180 H127) H126) H125) H124) H123) H122) H121) H120) (
 vF (fieldAt 37 t13 3) (fun t191 H128 =>
 vF (loadAt 2 t191) (fun t192 H129 =>
 vC 15 #[r7,t192,clusters23] (fun t194 H130 =>
 vF (fieldAt 42 y20 0) (fun t197 H131 =>
 vF (loadAt 2 t197) (fun t198 H132 =>
 vF (vt .quo 2 198 199 t198 t63) (fun t200 H133 =>
 vC 14 #[r7,t200] (fun t201 H134 =>
 vF (extract t201 0) (fun t202 H135 =>
 vF (extract t201 1) (fun t203 H136 =>
 vF (fieldAt 37 t13 3) (fun t204 H137 =>
 vF (loadAt 2 t204) (fun t205 H138 =>
 vF (vk .neq 2 205 .i64 1 t205) (fun t206 H139 =>
 vJ t206 true (vF (fieldAt 37 t13 3)) (fun t208 H141 =>
 vJ t206 true (vF (loadAt 2 t208)) (fun t209 H143 =>
 vJ t206 true (vF (vk .neq 2 209 .i64 (-1) t209)) (fun t210 H145 =>
 vF (pickS t206 t210 (.bool false)) (fun t211 H146 =>
 vD t211 (
 vF (vk .neq 31 212 .i64 2 t194) (fun t213 H147 =>
 vJ t213 false (vV t202) (fun t215 H149 =>
 vJ t213 false (vV t170) (fun t216 H151 =>
 vJ t213 false (vF (vt .neq 44 215 216 t215 t216)) (fun t217 H153 =>
 vF (pickS t213 (.bool true) t217) (fun t218 H154 =>
 vD t218 (
 R (.bool false) H154) (
 k_3 r7 mine11 H154)) H153) H151) H149) H147) H146) (
 vF (fieldAt 37 t13 3) (fun t219 H155 =>
 vF (loadAt 2 t219) (fun t220 H156 =>
 vF (vk .eql 2 220 .i64 1 t220) (fun t221 H157 =>
 vJ t221 true (vV t194) (fun t223 H159 =>
 vJ t221 true (vF (vk .eql 31 223 .i64 0 t223)) (fun t224 H161 =>
 vJ t221 true (vV t224) (fun t225 H163 =>
 vJ t225 true (vV t202) (fun t226 H165 =>
 vJ t225 true (vV t170) (fun t227 H167 =>
 vJ t225 true (vF (vk .add 44 227 .u64 1 t227)) (fun t228 H169 =>
 vJ t225 true (vF (vt .neq 44 226 228 t226 t228)) (fun t229 H171 =>
 vJ t221 true (vF (pickS t225 t229 (.bool false))) (fun t230 H173 =>
 vJ t221 true (vV t230) (fun t231 H175 =>
 vJ t231 false (vV t194) (fun t232 H177 =>
 vJ t231 false (vF (vk .neq 31 232 .i64 0 t232)) (fun t233 H179 =>
 vJ t231 false (vV t233) (fun t234 H181 =>
 vJ t234 true (vV t194) (fun t235 H183 =>
 vJ t234 true (vF (vk .neq 31 235 .i64 6 t235)) (fun t236 H185 =>
 vJ t234 true (vV t236) (fun t237 H187 =>
 vJ t237 false (vV t202) (fun t238 H189 =>
 vJ t237 false (vV t170) (fun t239 H191 =>
 vJ t237 false (vF (vt .neq 44 238 239 t238 t239)) (fun t240 H193 =>
 vJ t234 true (vF (pickS t237 (.bool true) t240)) (fun t241 H195 =>
 vJ t231 false (vF (pickS t234 t241 (.bool false))) (fun t242 H197 =>
 vJ t221 true (vF (pickS t231 (.bool true) t242)) (fun t243 H199 =>
 vF (pickS t221 t243 (.bool false)) (fun t244 H200 =>
 vJ t244 false (vF (fieldAt 37 t13 3)) (fun t246 H202 =>
 vJ t244 false (vF (loadAt 2 t246)) (fun t247 H204 =>
 vJ t244 false (vF (vk .eql 2 247 .i64 (-1) t247)) (fun t248 H206 =>
 vJ t244 false (vV t248) (fun t249 H208 =>
 vJ t249 true (vV t194) (fun t250 H210 =>
 vJ t249 true (vF (vk .neq 31 250 .i64 0 t250)) (fun t251 H212 =>
 vJ t249 true (vV t251) (fun t252 H214 =>
 vJ t252 false (vV t202) (fun t253 H216 =>
 vJ t252 false (vV t170) (fun t254 H218 =>
 vJ t252 false (vF (vk .sub 44 254 .u64 1 t254)) (fun t255 H220 =>
 vJ t252 false (vF (vt .neq 44 253 255 t253 t255)) (fun t256 H222 =>
 vJ t249 true (vF (pickS t252 (.bool true) t256)) (fun t257 H224 =>
 vJ t244 false (vF (pickS t249 t257 (.bool false))) (fun t258 H226 =>
 vF (pickS t244 (.bool true) t258) (fun t259 H227 =>
 vD t259 (
 R (.bool false) H227) (
 JoinN 1 (fun (k_58:VP) H228 =>
 vF (vk .eql 44 260 .u64 0 t202) (fun t261 H229 =>
 vD t261 (
 vG (sliceAt 35 mine11 none (some t158) none) (fun t264 _ =>
 vG (vk .add 3 267 .i64 1 t158) (fun t268 _ =>
 vG (sliceAt 35 mine11 (some t268) none none) (fun t269 _ =>
 vF (append_ #[35,35] 35 #[(.slice none 0 0),t264]) (fun t265 H230 =>
 vF (append_ #[35,35] 35 #[t265,t269]) (fun t270 H231 =>
 k_58 t270 H231) H230) H229) #[]) #[]) #[]) (
 k_58 mine11 H229)) H228)
 (fun mine11_1 H232 =>
 k_3 r7 mine11_1 H232) H227 ⟨⟩ ⟨⟩)) H226) H224) H222) H220) H218) H216) H214) H212) H210) H208) H206) H204) H202) H200) H199) H197) H195) H193) H191) H189) H187) H185) H183) H181) H179) H177) H175) H173) H171) H169) H167) H165) H163) H161) H159) H157) H156) H155) H146)) H145) H143) H141) H139) H138) H137) H136) H135) H134) H133) H132) H131) H130) H129) H128) H120)) H119) H118) H117) [(.slice none 0 0),(.int .i64 0)] H116 ⟨⟩) (
 vF (fieldAt 42 y20 0) (fun t272 H233 =>
 vF (loadAt 2 t272) (fun t273 H234 =>
 vF (fieldAt 42 y20 1) (fun t274 H235 =>
 vF (loadAt 3 t274) (fun t275 H236 =>
 vC 16 #[r7,t273,t275] (fun t276 H237 =>
 vF (vk .neq 31 276 .i64 0 t276) (fun t277 H238 =>
 vD t277 (
 R (.bool false) H238) (
 vF (fieldAt 42 y20 0) (fun t280 H239 =>
 vF (loadAt 2 t280) (fun t281 H240 =>
 vF (vt .quo 2 281 282 t281 t63) (fun t283 H241 =>
 vC 14 #[r7,t283] (fun t284 H242 =>
 vF (extract t284 0) (fun t285 H243 =>
 vF (extract t284 1) (fun t286 H244 =>
 vF (vk .neq 31 287 .i64 0 t286) (fun t288 H245 =>
 vJ t288 false (vV t285) (fun t290 H247 =>
 vJ t288 false (vV t170) (fun t291 H249 =>
 vJ t288 false (vF (vk .sub 44 291 .u64 1 t291)) (fun t292 H251 =>
 vJ t288 false (vF (vt .neq 44 290 292 t290 t292)) (fun t293 H253 =>
 vF (pickS t288 (.bool true) t293) (fun t294 H254 =>
 vD t294 (
 R (.bool false) H254) (
 vF (vk .eql 44 295 .u64 0 t285) (fun t296 H255 =>
 vD t296 (
 vG (sliceAt 35 mine11 none (some t158) none) (fun t299 _ =>
 vG (vk .add 3 302 .i64 1 t158) (fun t303 _ =>
 vG (sliceAt 35 mine11 (some t303) none none) (fun t304 _ =>
 vF (append_ #[35,35] 35 #[(.slice none 0 0),t299]) (fun t300 H256 =>
 vF (append_ #[35,35] 35 #[t300,t304]) (fun t305 H257 =>
 k_3 r7 t305 H257) H256) H255) #[]) #[]) #[]) (
 k_3 r7 mine11 H255)) H254)) H253) H251) H249) H247) H245) H244) H243) H242) H241) H240) H239) H238)) H237) H236) H235) H234) H233) H116)) H115) H114) H113) H112) H111) H110) H109) H108) H107) H106) H105) H104) H103) H102) H101) H100) H99) H98) H97) H96)) H95) H93) H91) H89) H88) H87) (
 vF (vk .eql 3 91 .i64 4 t91) (fun t307 H258 =>
 vD t307 (
 vF (fieldAt 37 t13 2) (fun t310 H259 =>
 vF (loadAt 2 t310) (fun t311 H260 =>
 vC 14 #[r7,t311] (fun t312 H261 =>
 vF (extract t312 0) (fun t313 H262 =>
 vF (extract t312 1) (fun t314 H263 =>
 vF (fieldAt 37 t13 2) (fun t315 H264 =>
 vF (loadAt 2 t315) (fun t316 H265 =>
 vF (vk .lss 2 316 .i64 0 t316) (fun t317 H266 =>
 vJ t317 false (vF (fieldAt 37 t13 2)) (fun t319 H268 =>
 vJ t317 false (vF (loadAt 2 t319)) (fun t320 H270 =>
 vJ t317 false (vV t74) (fun t321 H272 =>
 vJ t317 false (vF (vt .geq 2 320 321 t320 t321)) (fun t322 H274 =>
 vF (pickS t317 (.bool true) t322) (fun t323 H275 =>
 vD t323 (
 vF (vk .neq 44 324 .u64 0 t313) (fun t325 H276 =>
 vJ t325 false (vV t314) (fun t327 H278 =>
 vJ t325 false (vF (vk .neq 31 327 .i64 4 t327)) (fun t328 H280 =>
 vF (pickS t325 (.bool true) t328) (fun t329 H281 =>
 vD t329 (
 R (.bool false) H281) (
 k_3 r7 mine11 H281)) H280) H278) H276) H275) (
 vG (fieldAt 37 t13 2) (fun t333 _ =>
 vG (loadAt 2 t333) (fun t334 _ =>
 vC 18 #[t45] (fun t332 H282=>vG (loadAt 2 t333) (fun u _=>u=t334) H282 ∧
 vC 17 #[t332,t334] (fun t335 H283 =>
 vG (extract t335 0) (fun t336 _ =>
 vG (extract t335 1) (fun t337 _ =>
 vF (Op.unary .not t337) (fun t339 H284 =>
 vJ t339 false (vV t313) (fun t341 H286 =>
 vJ t339 false (vV t336) (fun t342 H288 =>
 vJ t339 false (vF (vt .neq 44 341 342 t341 t342)) (fun t343 H290 =>
 vF (pickS t339 (.bool true) t343) (fun t344 H291 =>
 vJ t344 false (vV t314) (fun t346 H293 =>
 vJ t344 false (vF (vk .neq 31 346 .i64 0 t346)) (fun t347 H295 =>
 vF (pickS t344 (.bool true) t347) (fun t348 H296 =>
 vD t348 (
 R (.bool false) H296) (
 k_3 r7 mine11 H296)) H295) H293) H291) H290) H288) H286) H284) H283) #[]) #[]) H282) H275) H275) #[])) H274) H272) H270) H268) H266) H265) H264) H263) H262) H261) H260) H259) H258) (
 vF (vk .eql 3 91 .i64 5 t91) (fun t350 H297 =>
 vD t350 (
 vF (fieldAt 37 t13 2) (fun t351 H298 =>
 vF (loadAt 2 t351) (fun t352 H299 =>
 vF (vk .geq 2 352 .i64 0 t352) (fun t353 H300 =>
 vJ t353 true (vF (fieldAt 37 t13 2)) (fun t355 H302 =>
 vJ t353 true (vF (loadAt 2 t355)) (fun t356 H304 =>
 vJ t353 true (vV t63) (fun t357 H306 =>
 vJ t353 true (vF (vt .rem 2 356 357 t356 t357)) (fun t358 H308 =>
 vJ t353 true (vF (vk .eql 2 358 .i64 0 t358)) (fun t359 H310 =>
 vF (pickS t353 t359 (.bool false)) (fun t360 H311 =>
 vD t360 (
 k_3 r7 mine11 H311) (
 vF (fieldAt 37 t13 2) (fun t362 H312 =>
 vF (loadAt 2 t362) (fun t363 H313 =>
 vF (fieldAt 37 t13 1) (fun t364 H314 =>
 vF (loadAt 3 t364) (fun t365 H315 =>
 vC 16 #[r7,t363,t365] (fun t366 H316 =>
 vF (fieldAt 37 t13 1) (fun t367 H317 =>
 vF (loadAt 3 t367) (fun t368 H318 =>
 vF (vk .lss 3 368 .i64 1 t368) (fun t369 H319 =>
 vJ t369 true (vV t366) (fun t371 H321 =>
 vJ t369 true (vF (vk .neq 31 371 .i64 2 t371)) (fun t372 H323 =>
 vF (pickS t369 t372 (.bool false)) (fun t373 H324 =>
 vJ t373 false (vF (fieldAt 37 t13 1)) (fun t375 H326 =>
 vJ t373 false (vF (loadAt 3 t375)) (fun t376 H328 =>
 vJ t373 false (vF (vk .geq 3 376 .i64 1 t376)) (fun t377 H330 =>
 vJ t373 false (vV t377) (fun t378 H332 =>
 vJ t378 true (vV t366) (fun t379 H334 =>
 vJ t378 true (vF (vk .neq 31 379 .i64 4 t379)) (fun t380 H336 =>
 vJ t373 false (vF (pickS t378 t380 (.bool false))) (fun t381 H338 =>
 vF (pickS t373 (.bool true) t381) (fun t382 H339 =>
 vD t382 (
 R (.bool false) H339) (
 k_3 r7 mine11 H339)) H338) H336) H334) H332) H330) H328) H326) H324) H323) H321) H319) H318) H317) H316) H315) H314) H313) H312) H311)) H310) H308) H306) H304) H302) H300) H299) H298) H297) (
 vF (vk .eql 3 91 .i64 6 t91) (fun t384 H340 =>
 vD t384 (
 vC 9 #[t45,(str [97])] (fun t387 H341 =>
 vF (extract t387 0) (fun t388 H342 =>
 vF (extract t387 1) (fun t389 H343 =>
 vF (vk .neq 31 390 .i64 0 t389) (fun t391 H344 =>
 vJ t391 false (vV t388) (fun t393 H346 =>
 vJ t391 false (vF (binS .eql 30 (.tmp 393) (.const (.pointer none)) t393 (.pointer none))) (fun t394 H348 =>
 vF (pickS t391 (.bool true) t394) (fun t395 H349 =>
 vD t395 (
 R (.bool false) H349) (
 k_3 t388 mine11 H349)) H348) H346) H344) H343) H342) H341) H340) (
 vF (vk .eql 3 91 .i64 7 t91) (fun t397 H350 =>
 vD t397 (
 vF (fieldAt 37 t13 2) (fun t399 H351 =>
 vF (loadAt 2 t399) (fun t400 H352 =>
 vC 19 #[r7,t400] (fun t401 H353 =>
 vC 11 #[t45,(str [97])] (fun t404 H354 =>
 vF (extract t404 0) (fun t405 H355 =>
 vF (extract t404 1) (fun t406 H356 =>
 vF (vk .neq 31 407 .i64 0 t401) (fun t408 H357 =>
 vJ t408 false (vV t405) (fun t410 H359 =>
 vJ t408 false (vF (fieldAt 37 t13 2)) (fun t411 H361 =>
 vJ t408 false (vF (loadAt 2 t411)) (fun t412 H363 =>
 vJ t408 false (vF (vt .lss 2 410 412 t410 t412)) (fun t413 H365 =>
 vF (pickS t408 (.bool true) t413) (fun t414 H366 =>
 vJ t414 false (vV t405) (fun t416 H368 =>
 vJ t414 false (vV t88) (fun t417 H370 =>
 vJ t414 false (vF (vt .lss 2 416 417 t416 t417)) (fun t418 H372 =>
 vF (pickS t414 (.bool true) t418) (fun t419 H373 =>
 vJ t419 false (vV t405) (fun t421 H375 =>
 vJ t419 false (vV t63) (fun t422 H377 =>
 vJ t419 false (vF (vt .rem 2 421 422 t421 t422)) (fun t423 H379 =>
 vJ t419 false (vF (vk .neq 2 423 .i64 0 t423)) (fun t424 H381 =>
 vJ t419 false (vV t424) (fun t425 H383 =>
 vJ t425 true (vV t405) (fun t426 H385 =>
 vJ t425 true (vV t88) (fun t427 H387 =>
 vJ t425 true (vF (vt .neq 2 426 427 t426 t427)) (fun t428 H389 =>
 vJ t419 false (vF (pickS t425 t428 (.bool false))) (fun t429 H391 =>
 vF (pickS t419 (.bool true) t429) (fun t430 H392 =>
 vD t430 (
 R (.bool false) H392) (
 k_3 r7 mine11 H392)) H391) H389) H387) H385) H383) H381) H379) H377) H375) H373) H372) H370) H368) H366) H365) H363) H361) H359) H357) H356) H355) H354) H353) H352) H351) H350) (
 k_3 r7 mine11 H350)) H340)) H297)) H258)) H87)) H38 ⟨⟩ ⟨⟩)) H37)
 (fun r7_1 mine11_2 H393 =>
 k_2 r7_1 mine11_2 H393) H36 ⟨⟩ ⟨⟩) H35) H34)
 (fun r7_2 mine11_3 H394 =>
 vC 20 #[r7_2] (fun t432 H395 =>
 vF (vt .neq 2 432 433 t432 t74) (fun t434 H396 =>
 vJ t434 false (vV t45) (fun t436 H398 =>
 vJ t434 false (vC 18 #[t436]) (fun t437 H400 =>
 vJ t434 false (vV mine11_3) (fun t438 H402 =>
 vJ t434 false (vV t63) (fun t439 H404 =>
 vJ t434 false (vC 21 #[t437,t438,t439]) (fun t440 H406 =>
 vJ t434 false (vF (Op.unary .not t440)) (fun t441 H408 =>
 vF (pickS t434 (.bool true) t441) (fun t442 H409 =>
 vD t442 (
 R (.bool false) H409) (
 vF (vk .add 3 79 .i64 1 i12) (fun t80 H410 =>
 X r7_2 mine11_3 t80 H410) H409)) H408) H406) H404) H402) H400) H398) H396) H395) H394) H33 ⟨⟩ ⟨⟩) H32) H31) H30) H29) H28) H27) H26) (
 vC 7 #[] (fun t443 H411 =>
 R t443 H411) H26)) H25) H24) [t53,(.slice none 0 0),(.int .i64 0)] H23 ⟨⟩) #[]) H22) H22) #[]) H22) #[]) #[]) #[]) H22) #[]) H21) H20) H19)) H18) H16) H14) H13) H12) H11) H9)) H8) H7) H6) H5) H3)) H2) H1) h

theorem n3_calls {x0 script1:Value} {R:VP} {h:Heap} (H:n3 x0 script1 R h):CallsH Tryz.prog 3 #[x0,script1] h R ⟨⟩ :=
 callsH_of_eq Tryz.follow (.n none .l (.n none .l (.n none .l (.n none .l (.n none .l (.n none .l (.n none .l (.n none .l (.n none .l (.n none (.n none .l (.n none (.n (some [8,12,13]) (.n none .l (.n none (.n none (.n none .l (.n none .l (.n (some [8,12]) (.n none .l (.n (some [8,12]) (.n none .l (.n none .l (.n (some [140]) .l (.n none (.n none .l (.n none .l (.n none .l (.n none .l (.n none (.n none .l (.n none (.n none .l (.n none (.n none .l (.n none (.n (some [24,25]) .l .l) .l)) (.n none .l (.n none .l (.n none .l (.n none .l (.n (some [12]) .l .l))))))) .l)) .l))))) .l)))) .l)) .l))) .l) .l)) .l) .l)) .l)))))))))) Tryz.func3 kR kR kR H

def n6 (x0 l1:Value) (R:VP) (h:Heap):Prop :=
 vF (box 23 x0) (fun x2 H1 =>
 vF (len_ #[24] 3 #[l1]) (fun t7 H2 =>
 vF (vk .gtr 3 7 .i64 60 t7) (fun t8 H3 =>
 vJ t8 false (vF (fieldAt 23 x2 0)) (fun t10 H5 =>
 vJ t8 false (vF (loadAt 3 t10)) (fun t11 H7 =>
 vJ t8 false (vF (vk .gtr 3 11 .i64 12 t11)) (fun t12 H9 =>
 vF (pickS t8 (.bool true) t12) (fun t13 H10 =>
 vJ t13 false (vF (fieldAt 23 x2 3)) (fun t15 H12 =>
 vJ t13 false (vF (loadAt 2 t15)) (fun t16 H14 =>
 vJ t13 false (vF (vk .gtr 2 16 .i64 262144 t16)) (fun t17 H16 =>
 vF (pickS t13 (.bool true) t17) (fun t18 H17 =>
 vD t18 (
 R (.bool true) H17) (
 LoopC 1 (fun (X:VP)=>fun i5 H18 =>
 vF (len_ #[24] 3 #[l1]) (fun t21 H19 =>
 vF (vt .lss 3 19 21 i5 t21) (fun t22 H20 =>
 vD t22 (
 vF (indexAt 24 l1 i5) (fun t27 H21 =>
 vF (fieldAt 37 t27 1) (fun t28 H22 =>
 vF (loadAt 3 t28) (fun t29 H23 =>
 vF (vk .gtr 3 29 .i64 200 t29) (fun t30 H24 =>
 vJ t30 false (vV l1) (fun t32 H26 =>
 vJ t30 false (vV i5) (fun t33 H28 =>
 vJ t30 false (vF (indexAt 24 t32 t33)) (fun t34 H30 =>
 vJ t30 false (vF (fieldAt 37 t34 0)) (fun t35 H32 =>
 vJ t30 false (vF (loadAt 3 t35)) (fun t36 H34 =>
 vJ t30 false (vF (vk .eql 3 36 .i64 7 t36)) (fun t37 H36 =>
 vJ t30 false (vV t37) (fun t38 H38 =>
 vJ t38 true (vV l1) (fun t39 H40 =>
 vJ t38 true (vV i5) (fun t40 H42 =>
 vJ t38 true (vF (indexAt 24 t39 t40)) (fun t41 H44 =>
 vJ t38 true (vF (fieldAt 37 t41 2)) (fun t42 H46 =>
 vJ t38 true (vF (loadAt 2 t42)) (fun t43 H48 =>
 vJ t38 true (vF (vk .gtr 2 43 .i64 4194304 t43)) (fun t44 H50 =>
 vJ t30 false (vF (pickS t38 t44 (.bool false))) (fun t45 H52 =>
 vF (pickS t30 (.bool true) t45) (fun t46 H53 =>
 vD t46 (
 R (.bool true) H53) (
 vF (vk .add 3 23 .i64 1 i5) (fun t24 H54 =>
 X t24 H54) H53)) H52) H50) H48) H46) H44) H42) H40) H38) H36) H34) H32) H30) H28) H26) H24) H23) H22) H21) H20) (
 R (.bool false) H20)) H19) H18) [(.int .i64 0)] H17 ⟨⟩)) H16) H14) H12) H10) H9) H7) H5) H3) H2) H1) h

theorem n6_calls {x0 l1:Value} {R:VP} {h:Heap} (H:n6 x0 l1 R h):CallsH Tryz.prog 6 #[x0,l1] h R ⟨⟩ :=
 callsH_of_eq Tryz.follow (.n none .l (.n none .l (.n none (.n none .l (.n none (.n (some [6]) .l .l) .l)) .l))) Tryz.func6 kR kR kR H

def n7 (R:VP) (h:Heap):Prop :=
 vF (build 23 #[(0,(.int .i64 9)),(1,(.int .i64 4)),(2,(.int .i64 1)),(3,(.int .i64 1024))]) (fun t15 H1 =>
 vC 8 #[t15,(.slice none 0 0)] (fun t16 H2 =>
 vF (extract t16 0) (fun t17 H3 =>
 vF (extract t16 1) (fun t18 H4 =>
 vC 9 #[t17,(str [97])] (fun t21 H5 =>
 vF (extract t21 0) (fun t22 H6 =>
 vF (extract t21 1) (fun t23 H7 =>
 vC 12 #[t22,(.int .i64 2)] (fun t26 H8 =>
 vF (extract t26 0) (fun t27 H9 =>
 vF (extract t26 1) (fun t28 H10 =>
 vF (vk .quo 2 31 .i64 512 t27) (fun t32 H11 =>
 vC 14 #[t22,t32] (fun t33 H12 =>
 vF (extract t33 0) (fun t34 H13 =>
 vF (extract t33 1) (fun t35 H14 =>
 vC 16 #[t22,t27,(.int .i64 2)] (fun t38 H15 =>
 vF (vk .quo 2 41 .i64 512 t27) (fun t42 H16 =>
 vC 14 #[t22,t42] (fun t43 H17 =>
 vF (extract t43 0) (fun t44 H18 =>
 vF (extract t43 1) (fun t45 H19 =>
 vC 9 #[(.pointer none),(str [97])] (fun t47 H20 =>
 vF (extract t47 0) (fun t48 H21 =>
 vF (extract t47 1) (fun t49 H22 =>
 vJ t18 true (vV t23) (fun t52 H24 =>
 vJ t18 true (vF (vk .eql 31 52 .i64 0 t52)) (fun t53 H26 =>
 vF (pickS t18 t53 (.bool false)) (fun t54 H27 =>
 vJ t54 true (vV t27) (fun t56 H29 =>
 vJ t54 true (vF (vk .gtr 2 56 .i64 0 t56)) (fun t57 H31 =>
 vF (pickS t54 t57 (.bool false)) (fun t58 H32 =>
 vJ t58 true (vV t27) (fun t60 H34 =>
 vJ t58 true (vF (vk .rem 2 60 .i64 512 t60)) (fun t61 H36 =>
 vJ t58 true (vF (vk .eql 2 61 .i64 0 t61)) (fun t62 H38 =>
 vF (pickS t58 t62 (.bool false)) (fun t63 H39 =>
 vJ t63 true (vV t28) (fun t65 H41 =>
 vJ t63 true (vF (vk .eql 31 65 .i64 0 t65)) (fun t66 H43 =>
 vF (pickS t63 t66 (.bool false)) (fun t67 H44 =>
 vJ t67 true (vV t34) (fun t69 H46 =>
 vJ t67 true (vF (vk .eql 44 69 .u64 1 t69)) (fun t70 H48 =>
 vF (pickS t67 t70 (.bool false)) (fun t71 H49 =>
 vJ t71 true (vV t35) (fun t73 H51 =>
 vJ t71 true (vF (vk .eql 31 73 .i64 0 t73)) (fun t74 H53 =>
 vF (pickS t71 t74 (.bool false)) (fun t75 H54 =>
 vJ t75 true (vV t38) (fun t77 H56 =>
 vJ t75 true (vF (vk .eql 31 77 .i64 0 t77)) (fun t78 H58 =>
 vF (pickS t75 t78 (.bool false)) (fun t79 H59 =>
 vJ t79 true (vV t44) (fun t81 H61 =>
 vJ t79 true (vF (vk .eql 44 81 .u64 0 t81)) (fun t82 H63 =>
 vF (pickS t79 t82 (.bool false)) (fun t83 H64 =>
 vJ t83 true (vV t45) (fun t85 H66 =>
 vJ t83 true (vF (vk .eql 31 85 .i64 0 t85)) (fun t86 H68 =>
 vF (pickS t83 t86 (.bool false)) (fun t87 H69 =>
 vJ t87 true (vV t49) (fun t89 H71 =>
 vJ t87 true (vF (vk .eql 31 89 .i64 1 t89)) (fun t90 H73 =>
 vF (pickS t87 t90 (.bool false)) (fun t91 H74 =>
 R t91 H74) H73) H71) H69) H68) H66) H64) H63) H61) H59) H58) H56) H54) H53) H51) H49) H48) H46) H44) H43) H41) H39) H38) H36) H34) H32) H31) H29) H27) H26) H24) H22) H21) H20) H19) H18) H17) H16) H15) H14) H13) H12) H11) H10) H9) H8) H7) H6) H5) H4) H3) H2) H1) h

theorem n7_calls {R:VP} {h:Heap} (H:n7  R h):CallsH Tryz.prog 7 #[] h R ⟨⟩ :=
 callsH_of_eq Tryz.follow .l Tryz.func7 kR kR kR H

def n8 (x0 fates1:Value) (R:VP) (h:Heap):Prop :=
 vF (box 23 x0) (fun x2 H1 =>
 vF (fieldAt 23 x2 0) (fun t11 H2 =>
 vF (loadAt 3 t11) (fun t12 H3 =>
 vF (fieldAt 23 x2 1) (fun t13 H4 =>
 vF (loadAt 3 t13) (fun t14 H5 =>
 vF (fieldAt 23 x2 3) (fun t15 H6 =>
 vF (loadAt 2 t15) (fun t16 H7 =>
 vF (fieldAt 23 x2 2) (fun t17 H8 =>
 vF (loadAt 3 t17) (fun t18 H9 =>
 vC 27 #[t12,t14,t16,t18,(str [])] (fun t19 H10 =>
 vF (extract t19 0) (fun t20 H11 =>
 vF (extract t19 1) (fun t21 H12 =>
 vF (Op.unary .not t21) (fun t23 H13 =>
 vD t23 (
 R (.tuple #[(.pointer none),(.bool false)]) H13) (
 vC 28 #[(.slice none 0 0)] (fun t25 H14 =>
 vF (extract t25 0) (fun t26 H15 =>
 vF (extract t25 1) (fun t27 H16 =>
 vC 29 #[t26,(str [97])] (fun t29 H17 =>
 vC 30 #[t26,(str [97]),(.int .i64 0),t20] (fun t32 H18 =>
 vC 31 #[t26,(str [97])] (fun t34 H19 =>
 vC 32 #[t26,fates1] (fun t37 H20 =>
 R (.tuple #[t26,(.bool true)]) H20) H19) H18) H17) H16) H15) H14) H13)) H12) H11) H10) H9) H8) H7) H6) H5) H4) H3) H2) H1) h

theorem n8_calls {x0 fates1:Value} {R:VP} {h:Heap} (H:n8 x0 fates1 R h):CallsH Tryz.prog 8 #[x0,fates1] h R ⟨⟩ :=
 callsH_of_eq Tryz.follow .l Tryz.func8 kR kR kR H

def n9 (s0 name1:Value) (R:VP) (h:Heap):Prop :=
 vC 33 #[s0,name1,(.int .i64 0),(.int .i64 512)] (fun t13 H1 =>
 vF (extract t13 0) (fun t14 H2 =>
 vF (extract t13 1) (fun t15 H3 =>
 vF (vk .neq 31 16 .i64 0 t15) (fun t17 H4 =>
 vD t17 (
 R (.tuple #[(.pointer none),t15]) H4) (
 vC 34 #[t14] (fun t21 H5 =>
 vF (extract t21 0) (fun t22 H6 =>
 vF (extract t21 1) (fun t23 H7 =>
 vF (alloc 84 true undef) (fun h8 H8 =>
 vF (storeS 84 h8 t22) (fun _ H9 =>
 vF (vk .neq 31 24 .i64 0 t23) (fun t25 H10 =>
 vD t25 (
 R (.tuple #[(.pointer none),t23]) H10) (
 vF (loadAt 84 h8) (fun t27 H11 =>
 vC 35 #[t27] (fun t28 H12 =>
 vG (loadAt 84 h8) (fun t31 _ =>
 vG (binS .mul 2 (.const (.int .i64 8)) (.tmp 33) (.int .i64 8) t28) (fun t34 _ =>
 vG (fieldAt 84 h8 5) (fun t35 _ =>
 vG (loadAt 3 t35) (fun t36 _ =>
 vG (vt .shr 2 34 36 t34 t36) (fun t37 _ =>
 vG (build 89 #[(0,s0),(1,name1),(2,t31),(3,t28),(4,t37)]) (fun t38 _ =>
 vF (box 89 t38) (fun t39 H13 =>
 R (.tuple #[t39,(.int .i64 0)]) H13) H12) #[]) #[]) H12) #[]) #[]) H12) H11) H10)) H9) H8) H7) H6) H5) H4)) H3) H2) H1) h

theorem n9_calls {s0 name1:Value} {R:VP} {h:Heap} (H:n9 s0 name1 R h):CallsH Tryz.prog 9 #[s0,name1] h R ⟨⟩ :=
 callsH_of_eq Tryz.follow .l Tryz.func9 kR kR kR H

def n10 (bits0 order1:Value) (R:VP) (h:Heap):Prop :=
 vC 36 #[bits0] (fun t6 H1 =>
 vF (binS .mul 2 (.const (.int .i64 8)) (.tmp 6) (.int .i64 8) t6) (fun t7 H2 =>
 vC 37 #[order1] (fun t9 H3 =>
 vF (vt .quo 2 7 9 t7 t9) (fun t10 H4 =>
 R t10 H4) H3) H2) H1) h

theorem n10_calls {bits0 order1:Value} {R:VP} {h:Heap} (H:n10 bits0 order1 R h):CallsH Tryz.prog 10 #[bits0,order1] h R ⟨⟩ :=
 callsH_of_eq Tryz.follow .l Tryz.func10 kR kR kR H

def n11 (s0 name1:Value) (R:VP) (h:Heap):Prop :=
 vC 38 #[s0,name1] (fun t11 H1 =>
 vF (extract t11 0) (fun t12 H2 =>
 vF (extract t11 1) (fun t13 H3 =>
 vF (vk .neq 31 14 .i64 0 t13) (fun t15 H4 =>
 vD t15 (
 R (.tuple #[(.int .i64 0),t13]) H4) (
 vF (nilS t12) (fun t18 H5 =>
 vF (fieldAt 97 t18 2) (fun t19 H6 =>
 vF (loadAt 52 t19) (fun t20 H7 =>
 vF (len_ #[52] 3 #[t20]) (fun t21 H8 =>
 R (.tuple #[t21,(.int .i64 0)]) H8) H7) H6) H5) H4)) H3) H2) H1) h

theorem n11_calls {s0 name1:Value} {R:VP} {h:Heap} (H:n11 s0 name1 R h):CallsH Tryz.prog 11 #[s0,name1] h R ⟨⟩ :=
 callsH_of_eq Tryz.follow .l Tryz.func11 kR kR kR H

def n12 (r0 n1:Value) (R:VP) (h:Heap):Prop :=
 vF (box 30 r0) (fun r2 H1 =>
 vF (box 3 n1) (fun n3 H2 =>
 vF (loadAt 30 r2) (fun t16 H3 =>
 vC 39 #[t16] (fun t17 H4 =>
 vD t17 (
 R (.tuple #[(.int .i64 0),(.int .i64 1)]) H4) (
 vF (loadAt 3 n3) (fun t19 H5 =>
 vF (vk .lss 3 19 .i64 1 t19) (fun t20 H6 =>
 vJ t20 false (vF (loadAt 3 n3)) (fun t22 H8 =>
 vJ t20 false (vF (vk .gtr 3 22 .i64 1048576 t22)) (fun t23 H10 =>
 vF (pickS t20 (.bool true) t23) (fun t24 H11 =>
 vD t24 (
 R (.tuple #[(.int .i64 0),(.int .i64 2)]) H11) (
 vG (loadAt 30 r2) (fun t26 _ =>
 vG (nilS t26) (fun t27 _ =>
 vG (fieldAt 89 t27 0) (fun t28 _ =>
 vG (loadAt 27 t28) (fun t29 _ =>
 vG (loadAt 30 r2) (fun t30 _ =>
 vG (nilS t30) (fun t31 _ =>
 vG (fieldAt 89 t31 1) (fun t32 _ =>
 vG (loadAt 9 t32) (fun t33 _ =>
 vC 11 #[t29,t33] (fun t34 H12 =>
 vG (extract t34 0) (fun t35 _ =>
 vG (extract t34 1) (fun t36 _ =>
 vF (vk .neq 31 37 .i64 0 t36) (fun t38 H13 =>
 vD t38 (
 R (.tuple #[(.int .i64 0),t36]) H13) (
 vF (loadAt 30 r2) (fun t41 H14 =>
 vF (loadAt 3 n3) (fun t42 H15 =>
 vC 40 #[t41,t42] (fun t43 H16 =>
 vF (extract t43 0) (fun t44 H17 =>
 vF (extract t43 1) (fun t45 H18 =>
 vF (alloc 2 true undef) (fun first8 H19 =>
 vF (storeS 2 first8 t44) (fun _ H20 =>
 vF (vk .neq 31 46 .i64 0 t45) (fun t47 H21 =>
 vD t47 (
 R (.tuple #[(.int .i64 0),t45]) H21) (
 vF (alloc 47 true undef) (fun clusters10 H22 =>
 vF (loadAt 3 n3) (fun t49 H23 =>
 LoopC 1 (fun (X:VP)=>fun t50 H24 =>
 vF (vt .lss 2 50 49 t50 t49) (fun t51 H25 =>
 vD t51 (
 vF (loadAt 47 clusters10) (fun t53 H26 =>
 vF (loadAt 2 first8) (fun t54 H27 =>
 vF (vt .add 2 54 55 t54 t50) (fun t56 H28 =>
 vF (buildSlice 47 1 #[(0,t56)]) (fun t57 H29 =>
 vF (append_ #[47,47] 47 #[t53,t57]) (fun t58 H30 =>
 vF (storeS 47 clusters10 t58) (fun _ H31 =>
 vF (vk .add 2 50 .i64 1 t50) (fun t59 H32 =>
 X t59 H32) H31) H30) H29) H28) H27) H26) H25) (
 vF (pure (.func (.func 41) #[] #[r2,first8,n3])) (fun t60 H33 =>
 vF (pure (.func (.func 42) #[] #[r2,clusters10])) (fun t61 H34 =>
 vF (pure (.func (.func 43) #[] #[r2])) (fun t62 H35 =>
 vF (buildSlice 100 3 #[(0,t60),(1,t61),(2,t62)]) (fun t63 H36 =>
 vF (len_ #[100] 3 #[t63]) (fun t64 H37 =>
 LoopC 1 (fun (X_1:VP)=>fun t65 H38 =>
 vF (vt .lss 3 65 64 t65 t64) (fun t66 H39 =>
 vD t66 (
 vF (indexAt 100 t63 t65) (fun t67 H40 =>
 vF (loadAt 99 t67) (fun t68 H41 =>
 InvokeH Tryz.prog t68 #[] H41 (fun t70 H42 =>
 vF (vk .neq 31 71 .i64 0 t70) (fun t72 H43 =>
 vD t72 (
 R (.tuple #[(.int .i64 0),t70]) H43) (
 vF (vk .add 3 65 .i64 1 t65) (fun t74 H44 =>
 X_1 t74 H44) H43)) H42) ⟨⟩) H40) H39) (
 vG (loadAt 2 first8) (fun t75 _ =>
 vG (loadAt 30 r2) (fun t76 _ =>
 vG (nilS t76) (fun t77 _ =>
 vG (fieldAt 89 t77 3) (fun t78 _ =>
 vG (loadAt 2 t78) (fun t79 _ =>
 vG (vt .mul 2 75 79 t75 t79) (fun t80 _ =>
 R (.tuple #[t80,(.int .i64 0)]) H39) #[]) H39) #[]) #[]) H39) H39)) H38) [(.int .i64 0)] H37 ⟨⟩) H36) H35) H34) H33) H25)) H24) [(.int .i64 0)] H23 ⟨⟩) H22) H21)) H20) H19) H18) H17) H16) H15) H14) H13)) H12) #[]) #[]) H11) H11) #[]) #[]) H11) H11) #[]) #[]) H11)) H10) H8) H6) H5) H4)) H3) H2) H1) h

theorem n12_calls {r0 n1:Value} {R:VP} {h:Heap} (H:n12 r0 n1 R h):CallsH Tryz.prog 12 #[r0,n1] h R ⟨⟩ :=
 callsH_of_eq Tryz.follow (.n none .l (.n none .l (.n none .l (.n none .l (.n none .l (.n none .l (.n none (.n none .l (.n none (.n (some [51]) .l .l) .l)) (.n none (.n none .l (.n none (.n (some [66]) .l .l) .l)) .l)))))))) Tryz.func12 kR kR kR H

def n13 (x0 mine1 c2 size3:Value) (R:VP) (h:Heap):Prop :=
 vF (box 42 x0) (fun x4 H1 =>
 vF (fieldAt 42 x4 0) (fun t11 H2 =>
 vF (loadAt 2 t11) (fun t12 H3 =>
 vF (fieldAt 42 x4 1) (fun t13 H4 =>
 vF (loadAt 3 t13) (fun t14 H5 =>
 vF (vt .mul 2 14 15 t14 c2) (fun t16 H6 =>
 vF (vt .add 2 12 16 t12 t16) (fun t17 H7 =>
 vF (fieldAt 42 x4 0) (fun t18 H8 =>
 vF (loadAt 2 t18) (fun t19 H9 =>
 vF (vk .leq 2 19 .i64 0 t19) (fun t20 H10 =>
 vJ t20 false (vF (fieldAt 42 x4 0)) (fun t22 H12 =>
 vJ t20 false (vF (loadAt 2 t22)) (fun t23 H14 =>
 vJ t20 false (vV c2) (fun t24 H16 =>
 vJ t20 false (vF (vt .rem 2 23 24 t23 t24)) (fun t25 H18 =>
 vJ t20 false (vF (vk .neq 2 25 .i64 0 t25)) (fun t26 H20 =>
 vF (pickS t20 (.bool true) t26) (fun t27 H21 =>
 vJ t27 false (vV t17) (fun t29 H23 =>
 vJ t27 false (vV size3) (fun t30 H25 =>
 vJ t27 false (vF (vt .gtr 2 29 30 t29 t30)) (fun t31 H27 =>
 vF (pickS t27 (.bool true) t31) (fun t32 H28 =>
 vD t32 (
 R (.bool false) H28) (
 LoopC 1 (fun (X:VP)=>fun i10 H29 =>
 vF (len_ #[35] 3 #[mine1]) (fun t35 H30 =>
 vF (vt .lss 3 33 35 i10 t35) (fun t36 H31 =>
 vD t36 (
 vG (fieldAt 42 x4 0) (fun t39 _ =>
 vG (loadAt 2 t39) (fun t40 _ =>
 vG (indexAt 35 mine1 i10) (fun t43 _ =>
 vG (fieldAt 42 t43 0) (fun t44 _ =>
 vG (loadAt 2 t44) (fun t45 _ =>
 vG (indexAt 35 mine1 i10) (fun t48 _ =>
 vG (fieldAt 42 t48 1) (fun t49 _ =>
 vG (loadAt 3 t49) (fun t50 _ =>
 vG (vt .mul 2 50 51 t50 c2) (fun t52 _ =>
 vG (vt .add 2 45 52 t45 t52) (fun t53 _ =>
 vG (vt .lss 2 40 53 t40 t53) (fun t54 _ =>
 vJ t54 true (vV mine1) (fun t56 _ =>
 vJ t54 true (vV i10) (fun t57 _ =>
 vJ t54 true (vG (indexAt 35 t56 t57)) (fun t58 _ =>
 vJ t54 true (vG (fieldAt 42 t58 0)) (fun t59 _ =>
 vJ t54 true (vG (loadAt 2 t59)) (fun t60 _ =>
 vJ t54 true (vV t17) (fun t61 _ =>
 vJ t54 true (vG (vt .lss 2 60 61 t60 t61)) (fun t62 _ =>
 vG (pickS t54 t62 (.bool false)) (fun t63 _ =>
 vD t63 (
 R (.bool false) H31) (
 vF (vk .add 3 37 .i64 1 i10) (fun t38 H39 =>
 X t38 H39) H31)) #[]) #[]) #[]) H31) #[]) #[]) #[]) #[]) #[]) #[]) #[]) H31) #[]) #[]) H31) #[]) #[]) H31) #[]) (
 R (.bool true) H31)) H30) H29) [(.int .i64 0)] H28 ⟨⟩)) H27) H25) H23) H21) H20) H18) H16) H14) H12) H10) H9) H8) H7) H6) H5) H4) H3) H2) H1) h

theorem n13_calls {x0 mine1 c2 size3:Value} {R:VP} {h:Heap} (H:n13 x0 mine1 c2 size3 R h):CallsH Tryz.prog 13 #[x0,mine1,c2,size3] h R ⟨⟩ :=
 callsH_of_eq Tryz.follow (.n none .l (.n none .l (.n none .l (.n none (.n none .l (.n none (.n (some [11]) .l .l) .l)) .l)))) Tryz.func13 kR kR kR H

def n14 (r0 cluster1:Value) (R:VP) (h:Heap):Prop :=
 vC 39 #[r0] (fun t14 H1 =>
 vD t14 (
 R (.tuple #[(.int .u64 0),(.int .i64 1)]) H1) (
 vG (nilS r0) (fun t17 _ =>
 vG (fieldAt 89 t17 0) (fun t18 _ =>
 vG (loadAt 27 t18) (fun t19 _ =>
 vG (nilS r0) (fun t21 _ =>
 vG (fieldAt 89 t21 1) (fun t22 _ =>
 vG (loadAt 9 t22) (fun t23 _ =>
 vC 11 #[t19,t23] (fun t24 H2 =>
 vG (extract t24 0) (fun t25 _ =>
 vG (extract t24 1) (fun t26 _ =>
 vF (vk .neq 31 27 .i64 0 t26) (fun t28 H3 =>
 vD t28 (
 R (.tuple #[(.int .u64 0),t26]) H3) (
 vF (vk .lss 2 30 .i64 0 cluster1) (fun t31 H4 =>
 vJ t31 false (vV cluster1) (fun t33 H6 =>
 vJ t31 false (vV r0) (fun t34 H8 =>
 vJ t31 false (vC 20 #[t34]) (fun t35 H10 =>
 vJ t31 false (vF (vt .geq 2 33 35 t33 t35)) (fun t36 H12 =>
 vF (pickS t31 (.bool true) t36) (fun t37 H13 =>
 vD t37 (
 R (.tuple #[(.int .u64 0),(.int .i64 4)]) H13) (
 vF (nilS r0) (fun t42 H14 =>
 vF (fieldAt 89 t42 4) (fun t43 H15 =>
 vF (loadAt 2 t43) (fun t44 H16 =>
 vF (vt .quo 2 40 44 cluster1 t44) (fun t45 H17 =>
 vC 44 #[r0,t45] (fun t46 H18 =>
 vF (extract t46 0) (fun t47 H19 =>
 vF (extract t46 1) (fun t48 H20 =>
 vF (extract t46 2) (fun t49 H21 =>
 vF (vk .neq 31 50 .i64 0 t49) (fun t51 H22 =>
 vJ t51 false (vV t47) (fun t53 H24 =>
 vJ t51 false (vF (binS .eql 52 (.tmp 53) (.const (.slice none 0 0)) t53 (.slice none 0 0))) (fun t54 H26 =>
 vF (pickS t51 (.bool true) t54) (fun t55 H27 =>
 vD t55 (
 R (.tuple #[(.int .u64 0),t49]) H27) (
 vG (nilS r0) (fun t60 _ =>
 vG (fieldAt 89 t60 2) (fun t61 _ =>
 vG (fieldAt 84 t61 5) (fun t62 _ =>
 vG (loadAt 3 t62) (fun t63 _ =>
 vG (nilS r0) (fun t66 _ =>
 vG (fieldAt 89 t66 4) (fun t67 _ =>
 vG (loadAt 2 t67) (fun t68 _ =>
 vG (vt .rem 2 64 68 cluster1 t68) (fun t69 _ =>
 vC 45 #[t47,t63,t69] (fun t70 H28 =>
 vG (extract t70 0) (fun t71 _ =>
 vG (extract t70 1) (fun t72 _ =>
 R (.tuple #[t71,(.int .i64 0)]) H28) #[]) #[]) H27) #[]) H27) #[]) #[]) H27) #[]) #[]) #[])) H26) H24) H22) H21) H20) H19) H18) H17) H16) H15) H14) H13)) H12) H10) H8) H6) H4) H3)) H2) #[]) #[]) H1) H1) #[]) #[]) H1) #[]) #[])) h

theorem n14_calls {r0 cluster1:Value} {R:VP} {h:Heap} (H:n14 r0 cluster1 R h):CallsH Tryz.prog 14 #[r0,cluster1] h R ⟨⟩ :=
 callsH_of_eq Tryz.follow .l Tryz.func14 kR kR kR H

def n15 (r0 by1 clusters2:Value) (R:VP) (h:Heap):Prop :=
 vC 39 #[r0] (fun t34 H1 =>
 vD t34 (
 R (.int .i64 1) H1) (
 vF (vk .neq 2 36 .i64 1 by1) (fun t37 H2 =>
 vJ t37 true (vV by1) (fun t39 H4 =>
 vJ t37 true (vF (vk .neq 2 39 .i64 (-1) t39)) (fun t40 H6 =>
 vF (pickS t37 t40 (.bool false)) (fun t41 H7 =>
 vD t41 (
 R (.int .i64 2) H7) (
 vG (nilS r0) (fun t44 _ =>
 vG (fieldAt 89 t44 0) (fun t45 _ =>
 vG (loadAt 27 t45) (fun t46 _ =>
 vG (nilS r0) (fun t48 _ =>
 vG (fieldAt 89 t48 1) (fun t49 _ =>
 vG (loadAt 9 t49) (fun t50 _ =>
 vC 11 #[t46,t50] (fun t51 H8 =>
 vG (extract t51 0) (fun t52 _ =>
 vG (extract t51 1) (fun t53 _ =>
 vF (vk .neq 31 54 .i64 0 t53) (fun t55 H9 =>
 vD t55 (
 R t53 H9) (
 vF (makeMap 104 none) (fun t57 H10 =>
 vF (len_ #[47] 3 #[clusters2]) (fun t59 H11 =>
 LoopC 1 (fun (X:VP)=>fun t60 H12 =>
 vF (vt .lss 3 60 59 t60 t59) (fun t61 H13 =>
 vD t61 (
 vF (indexAt 47 clusters2 t60) (fun t62 H14 =>
 vF (loadAt 2 t62) (fun t63 H15 =>
 vF (vk .lss 2 64 .i64 0 t63) (fun t65 H16 =>
 vJ t65 false (vV t63) (fun t67 H18 =>
 vJ t65 false (vV r0) (fun t68 H20 =>
 vJ t65 false (vC 20 #[t68]) (fun t69 H22 =>
 vJ t65 false (vF (vt .geq 2 67 69 t67 t69)) (fun t70 H24 =>
 vF (pickS t65 (.bool true) t70) (fun t71 H25 =>
 vD t71 (
 R (.int .i64 4) H25) (
 vF (lookup 104 t57 t63 false) (fun t74 H26 =>
 vF (vk .add 2 74 .i64 1 t74) (fun t75 H27 =>
 vF (unitS (mapUpdate 104 t57 t63 t75)) (fun _ H28 =>
 vF (vk .add 3 60 .i64 1 t60) (fun t76 H29 =>
 X t76 H29) H28) H27) H26) H25)) H24) H22) H20) H18) H16) H15) H14) H13) (
 vC 47 #[t57] (fun t78 H30 =>
 vC 46 #[t78] (fun t79 H31 =>
 vF (nilS r0) (fun t82 H32 =>
 vF (fieldAt 89 t82 2) (fun t83 H33 =>
 vF (fieldAt 84 t83 5) (fun t84 H34 =>
 vF (loadAt 3 t84) (fun t85 H35 =>
 vC 48 #[t85] (fun t86 H36 =>
 vF (extract t86 0) (fun t87 H37 =>
 vF (extract t86 1) (fun t88 H38 =>
 vF (len_ #[47] 3 #[t79]) (fun t90 H39 =>
 LoopC 2 (fun (X_1:Value→VP)=>fun full15 t91 H40 =>
 vF (vt .lss 3 91 90 t91 t90) (fun t92 H41 =>
 vD t92 (
 vF (indexAt 47 t79 t91) (fun t93 H42 =>
 vF (loadAt 2 t93) (fun t94 H43 =>
 vC 14 #[r0,t94] (fun t98 H44 =>
 vF (extract t98 0) (fun t99 H45 =>
 vF (extract t98 1) (fun t100 H46 =>
 vF (vk .neq 31 101 .i64 0 t100) (fun t102 H47 =>
 vD t102 (
 R t100 H47) (
 vF (vk .lss 2 104 .i64 0 by1) (fun t105 H48 =>
 vJ t105 true (vV t99) (fun t107 H50 =>
 vJ t105 true (vV t57) (fun t108 H52 =>
 vJ t105 true (vV t94) (fun t109 H54 =>
 vJ t105 true (vF (lookup 104 t108 t109 false)) (fun t110 H56 =>
 vJ t105 true (vF (convert 2 44 t110)) (fun t111 H58 =>
 vJ t105 true (vF (vt .lss 44 107 111 t107 t111)) (fun t112 H60 =>
 vF (pickS t105 t112 (.bool false)) (fun t113 H61 =>
 vD t113 (
 R (.int .i64 9) H61) (
 vJ full15 false (vV by1) (fun t116 H63 =>
 vJ full15 false (vF (vk .gtr 2 116 .i64 0 t116)) (fun t117 H65 =>
 vJ full15 false (vV t117) (fun t118 H67 =>
 vJ t118 true (vV t87) (fun t119 H69 =>
 vJ t118 true (vV t99) (fun t120 H71 =>
 vJ t118 true (vF (vt .sub 44 119 120 t119 t120)) (fun t121 H73 =>
 vJ t118 true (vV t57) (fun t122 H75 =>
 vJ t118 true (vV t94) (fun t123 H77 =>
 vJ t118 true (vF (lookup 104 t122 t123 false)) (fun t124 H79 =>
 vJ t118 true (vF (convert 2 44 t124)) (fun t125 H81 =>
 vJ t118 true (vF (vt .lss 44 121 125 t121 t125)) (fun t126 H83 =>
 vJ full15 false (vF (pickS t118 t126 (.bool false))) (fun t127 H85 =>
 vF (pickS full15 (.bool true) t127) (fun t128 H86 =>
 vF (vk .add 3 91 .i64 1 t91) (fun t129 H87 =>
 X_1 t128 t129 H87) H86) H85) H83) H81) H79) H77) H75) H73) H71) H69) H67) H65) H63) H61)) H60) H58) H56) H54) H52) H50) H48) H47)) H46) H45) H44) H43) H42) H41) (
 vD full15 (
 R (.int .i64 6) H41) (
 vF (makeMap 110 none) (fun t131 H88 =>
 vF (len_ #[47] 3 #[t79]) (fun t133 H89 =>
 LoopC 1 (fun (X_2:VP)=>fun t134 H90 =>
 vF (vt .lss 3 134 133 t134 t133) (fun t135 H91 =>
 vD t135 (
 vF (indexAt 47 t79 t134) (fun t136 H92 =>
 vF (loadAt 2 t136) (fun t137 H93 =>
 vF (nilS r0) (fun t141 H94 =>
 vF (fieldAt 89 t141 4) (fun t142 H95 =>
 vF (loadAt 2 t142) (fun t143 H96 =>
 vF (vt .quo 2 139 143 t137 t143) (fun t144 H97 =>
 vF (lookup 110 t131 t144 false) (fun t145 H98 =>
 vF (vk .add 3 145 .i64 1 t145) (fun t146 H99 =>
 vF (unitS (mapUpdate 110 t131 t144 t146)) (fun _ H100 =>
 vF (vk .add 3 134 .i64 1 t134) (fun t147 H101 =>
 X_2 t147 H101) H100) H99) H98) H97) H96) H95) H94) H93) H92) H91) (
 vC 49 #[t131] (fun t149 H102 =>
 vC 46 #[t149] (fun t150 H103 =>
 vF (len_ #[47] 3 #[t150]) (fun t151 H104 =>
 LoopC 1 (fun (X_3:VP)=>fun t152 H105 =>
 vF (vt .lss 3 152 151 t152 t151) (fun t153 H106 =>
 vD t153 (
 JoinN 0 (fun (k_24:Heap→Prop) H107 =>
 JoinN 0 (fun (k_25:Heap→Prop) H108 =>
 vF (indexAt 47 t150 t152) (fun t154 H109 =>
 vF (loadAt 2 t154) (fun t155 H110 =>
 vC 44 #[r0,t155] (fun t159 H111 =>
 vF (extract t159 0) (fun t160 H112 =>
 vF (extract t159 1) (fun t161 H113 =>
 vF (extract t159 2) (fun t162 H114 =>
 JoinN 3 (fun (k_26:Value→Value→VP) H115 =>
 vF (vk .eql 31 163 .i64 0 t162) (fun t164 H116 =>
 vJ t164 true (vV t160) (fun t166 H118 =>
 vJ t164 true (vF (binS .eql 52 (.tmp 166) (.const (.slice none 0 0)) t166 (.slice none 0 0))) (fun t167 H120 =>
 vF (pickS t164 t167 (.bool false)) (fun t168 H121 =>
 vJ t168 true (vV by1) (fun t170 H123 =>
 vJ t168 true (vF (vk .gtr 2 170 .i64 0 t170)) (fun t171 H125 =>
 vF (pickS t168 t171 (.bool false)) (fun t172 H126 =>
 vD t172 (
 vC 50 #[r0,t155] (fun t175 H127 =>
 vF (vk .eql 31 176 .i64 0 t175) (fun t177 H128 =>
 vD t177 (
 vC 44 #[r0,t155] (fun t181 H129 =>
 vF (extract t181 0) (fun t182 H130 =>
 vF (extract t181 1) (fun t183 H131 =>
 vF (extract t181 2) (fun t184 H132 =>
 k_26 t182 t183 t184 H132) H131) H130) H129) H128) (
 k_26 t160 t161 t175 H128)) H127) H126) (
 k_26 t160 t161 t162 H126)) H125) H123) H121) H120) H118) H116) H115)
 (fun b25 at26 e27 H133 =>
 vF (vk .neq 31 185 .i64 0 e27) (fun t186 H134 =>
 vD t186 (
 R e27 H134) (
 vF (binS .eql 52 (.tmp 188) (.const (.slice none 0 0)) b25 (.slice none 0 0)) (fun t189 H135 =>
 vD t189 (
 k_25 H135) (
 vC 51 #[b25] (fun t191 H136 =>
 vF (len_ #[47] 3 #[t79]) (fun t193 H137 =>
 LoopC 1 (fun (X_4:VP)=>fun t194 H138 =>
 vF (vt .lss 3 194 193 t194 t193) (fun t195 H139 =>
 vD t195 (
 JoinN 0 (fun (k_31:Heap→Prop) H140 =>
 JoinN 0 (fun (k_32:Heap→Prop) H141 =>
 vF (indexAt 47 t79 t194) (fun t196 H142 =>
 vF (loadAt 2 t196) (fun t197 H143 =>
 vF (nilS r0) (fun t200 H144 =>
 vF (fieldAt 89 t200 4) (fun t201 H145 =>
 vF (loadAt 2 t201) (fun t202 H146 =>
 vF (vt .quo 2 198 202 t197 t202) (fun t203 H147 =>
 vF (vt .eql 2 203 204 t203 t155) (fun t205 H148 =>
 vD t205 (
 vG (nilS r0) (fun t208 _ =>
 vG (fieldAt 89 t208 2) (fun t209 _ =>
 vG (fieldAt 84 t209 5) (fun t210 _ =>
 vG (loadAt 3 t210) (fun t211 _ =>
 vG (nilS r0) (fun t214 _ =>
 vG (fieldAt 89 t214 4) (fun t215 _ =>
 vG (loadAt 2 t215) (fun t216 _ =>
 vG (vt .rem 2 212 216 t197 t216) (fun t217 _ =>
 vG (lookup 104 t57 t197 false) (fun t221 _ =>
 vG (vt .mul 2 218 221 by1 t221) (fun t222 _ =>
 vC 52 #[b25,t211,t217,t222] (fun t223 H149 =>
 k_32 H149) H148) #[]) H148) #[]) H148) #[]) #[]) H148) #[]) #[]) #[]) (
 k_32 H148)) H147) H146) H145) H144) H143) H142) H141)
 (fun H150 =>
 k_31 H150) H140 ⟨⟩ ⟨⟩)
 (fun H151 =>
 vF (vk .add 3 194 .i64 1 t194) (fun t224 H152 =>
 X_4 t224 H152) H151) H139 ⟨⟩ ⟨⟩) (
 vC 53 #[r0,at26,t191,b25] (fun t229 H153 =>
 vF (vk .neq 31 230 .i64 0 t229) (fun t231 H154 =>
 vD t231 (
 R t229 H154) (
 k_25 H154)) H153) H139)) H138) [(.int .i64 0)] H137 ⟨⟩) H136) H135)) H134)) H133) H114 ⟨⟩ ⟨⟩) H113) H112) H111) H110) H109) H108)
 (fun H155 =>
 k_24 H155) H107 ⟨⟩ ⟨⟩)
 (fun H156 =>
 vF (vk .add 3 152 .i64 1 t152) (fun t233 H157 =>
 X_3 t233 H157) H156) H106 ⟨⟩ ⟨⟩) (
 R (.int .i64 0) H106)) H105) [(.int .i64 0)] H104 ⟨⟩) H103) H102) H91)) H90) [(.int .i64 0)] H89 ⟨⟩) H88) H41))) H40) [(.bool false),(.int .i64 0)] H39 ⟨⟩) H38) H37) H36) H35) H34) H33) H32) H31) H30) H13)) H12) [(.int .i64 0)] H11 ⟨⟩) H10) H9)) H8) #[]) #[]) H7) H7) #[]) #[]) H7) #[]) #[])) H6) H4) H2) H1)) h

theorem n15_calls {r0 by1 clusters2:Value} {R:VP} {h:Heap} (H:n15 r0 by1 clusters2 R h):CallsH Tryz.prog 15 #[r0,by1,clusters2] h R ⟨⟩ :=
 callsH_of_eq Tryz.follow (.n none .l (.n none .l (.n none .l (.n none .l (.n none (.n none .l (.n none (.n (some [61]) .l .l) .l)) (.n none .l (.n none .l (.n none .l (.n none (.n none .l (.n none (.n (some [16,92]) .l .l) .l)) (.n none .l (.n none .l (.n none (.n none .l (.n none (.n (some [135]) .l .l) .l)) (.n none (.n none .l (.n none (.n (some [153]) (.n none .l (.n none .l (.n (some []) (.n (some []) (.n none .l (.n none .l (.n (some [26,27,28]) .l (.n none .l (.n none .l (.n none .l (.n none (.n none .l (.n none (.n (some [195]) (.n none .l (.n none .l (.n (some []) (.n (some []) .l .l) .l))) .l) .l)) .l))))))) .l) .l))) .l) .l)) .l))))))))))))) Tryz.func15 kR kR kR H

def n16 (r0 place1 n2:Value) (R:VP) (h:Heap):Prop :=
 vC 39 #[r0] (fun t11 H1 =>
 vD t11 (
 R (.int .i64 1) H1) (
 vF (vk .lss 3 13 .i64 1 n2) (fun t14 H2 =>
 vJ t14 false (vV n2) (fun t16 H4 =>
 vJ t14 false (vF (vk .gtr 3 16 .i64 1048576 t16)) (fun t17 H6 =>
 vF (pickS t14 (.bool true) t17) (fun t18 H7 =>
 vD t18 (
 R (.int .i64 2) H7) (
 vF (vk .lss 2 20 .i64 0 place1) (fun t21 H8 =>
 vJ t21 false (vV place1) (fun t23 H10 =>
 vJ t21 false (vV r0) (fun t24 H12 =>
 vJ t21 false (vF (nilS t24)) (fun t25 H14 =>
 vJ t21 false (vF (fieldAt 89 t25 3)) (fun t26 H16 =>
 vJ t21 false (vF (loadAt 2 t26)) (fun t27 H18 =>
 vJ t21 false (vF (vt .rem 2 23 27 t23 t27)) (fun t28 H20 =>
 vJ t21 false (vF (vk .neq 2 28 .i64 0 t28)) (fun t29 H22 =>
 vF (pickS t21 (.bool true) t29) (fun t30 H23 =>
 vD t30 (
 R (.int .i64 4) H23) (
 LoopC 2 (fun (X:Value→VP)=>fun clusters7 t32 H24 =>
 vF (vt .lss 2 32 31 t32 n2) (fun t33 H25 =>
 vD t33 (
 vF (nilS r0) (fun t38 H26 =>
 vF (fieldAt 89 t38 3) (fun t39 H27 =>
 vF (loadAt 2 t39) (fun t40 H28 =>
 vF (vt .quo 2 36 40 place1 t40) (fun t41 H29 =>
 vF (vt .add 2 41 42 t41 t32) (fun t43 H30 =>
 vF (buildSlice 47 1 #[(0,t43)]) (fun t44 H31 =>
 vF (append_ #[47,47] 47 #[clusters7,t44]) (fun t45 H32 =>
 vF (vk .add 2 32 .i64 1 t32) (fun t46 H33 =>
 X t45 t46 H33) H32) H31) H30) H29) H28) H27) H26) H25) (
 vC 15 #[r0,(.int .i64 (-1)),clusters7] (fun t49 H34 =>
 R t49 H34) H25)) H24) [(.slice none 0 0),(.int .i64 0)] H23 ⟨⟩)) H22) H20) H18) H16) H14) H12) H10) H8) H7)) H6) H4) H2) H1)) h

theorem n16_calls {r0 place1 n2:Value} {R:VP} {h:Heap} (H:n16 r0 place1 n2 R h):CallsH Tryz.prog 16 #[r0,place1,n2] h R ⟨⟩ :=
 callsH_of_eq Tryz.follow (.n none .l (.n none .l (.n none .l (.n none (.n none .l (.n none (.n (some [8,33]) .l .l) .l)) .l)))) Tryz.func16 kR kR kR H

def n17 (b0 cluster1:Value) (R:VP) (h:Heap):Prop :=
 vC 54 #[b0] (fun t14 H1 =>
 vF (extract t14 0) (fun t15 H2 =>
 vF (extract t14 1) (fun t16 H3 =>
 vF (alloc 84 true undef) (fun h6 H4 =>
 vF (storeS 84 h6 t15) (fun _ H5 =>
 vF (Op.unary .not t16) (fun t18 H6 =>
 vJ t18 false (vV cluster1) (fun t20 H8 =>
 vJ t18 false (vF (vk .lss 2 20 .i64 0 t20)) (fun t21 H10 =>
 vF (pickS t18 (.bool true) t21) (fun t22 H11 =>
 vD t22 (
 R (.tuple #[(.int .u64 0),(.bool false)]) H11) (
 vF (fieldAt 84 h6 0) (fun t23 H12 =>
 vF (loadAt 3 t23) (fun t24 H13 =>
 vC 36 #[t24] (fun t25 H14 =>
 vF (fieldAt 84 h6 0) (fun t26 H15 =>
 vF (loadAt 3 t26) (fun t27 H16 =>
 vF (fieldAt 84 h6 5) (fun t28 H17 =>
 vF (loadAt 3 t28) (fun t29 H18 =>
 vC 10 #[t27,t29] (fun t30 H19 =>
 vG (fieldAt 84 h6 6) (fun t31 _ =>
 vG (loadAt 2 t31) (fun t32 _ =>
 vG (vt .quo 2 33 34 cluster1 t30) (fun t35 _ =>
 vG (binS .mul 2 (.const (.int .i64 8)) (.tmp 35) (.int .i64 8) t35) (fun t36 _ =>
 vG (vt .add 2 32 36 t32 t36) (fun t37 _ =>
 vG (vt .quo 2 38 39 cluster1 t30) (fun t40 _ =>
 vG (fieldAt 84 h6 7) (fun t41 _ =>
 vG (loadAt 3 t41) (fun t42 _ =>
 vG (vt .mul 2 42 43 t42 t25) (fun t44 _ =>
 vG (vk .quo 2 44 .i64 8 t44) (fun t45 _ =>
 vG (vt .geq 2 40 45 t40 t45) (fun t46 _ =>
 vJ t46 false (vV t37) (fun t48 _ =>
 vJ t46 false (vV b0) (fun t49 _ =>
 vJ t46 false (vG (len_ #[52] 3 #[t49])) (fun t50 _ =>
 vJ t46 false (vG (vk .sub 2 50 .i64 8 t50)) (fun t51 _ =>
 vJ t46 false (vG (vt .gtr 2 48 51 t48 t51)) (fun t52 _ =>
 vG (pickS t46 (.bool true) t52) (fun t53 _ =>
 vD t53 (
 R (.tuple #[(.int .u64 0),(.bool false)]) H19) (
 vF (vk .add 2 56 .i64 8 t37) (fun t57 H25 =>
 vF (sliceAt 52 b0 (some t37) (some t57) none) (fun t58 H26 =>
 vC 55 #[t58] (fun t59 H27 =>
 vF (vk .eql 44 60 .u64 0 t59) (fun t61 H28 =>
 vD t61 (
 R (.tuple #[(.int .u64 0),(.bool true)]) H28) (
 vF (vk .gtr 44 62 .u64 1099511627776 t59) (fun t63 H29 =>
 vJ t63 false (vV t59) (fun t65 H31 =>
 vJ t63 false (vF (convert 44 2 t65)) (fun t66 H33 =>
 vJ t63 false (vV b0) (fun t67 H35 =>
 vJ t63 false (vF (len_ #[52] 3 #[t67])) (fun t68 H37 =>
 vJ t63 false (vV t25) (fun t69 H39 =>
 vJ t63 false (vF (vt .sub 2 68 69 t68 t69)) (fun t70 H41 =>
 vJ t63 false (vF (vt .gtr 2 66 70 t66 t70)) (fun t71 H43 =>
 vF (pickS t63 (.bool true) t71) (fun t72 H44 =>
 vD t72 (
 R (.tuple #[(.int .u64 0),(.bool false)]) H44) (
 vG (convert 44 2 t59) (fun t76 _ =>
 vG (vt .add 2 76 77 t76 t25) (fun t78 _ =>
 vG (sliceAt 52 b0 (some t59) (some t78) none) (fun t79 _ =>
 vG (fieldAt 84 h6 5) (fun t80 _ =>
 vG (loadAt 3 t80) (fun t81 _ =>
 vG (vt .rem 2 82 83 cluster1 t30) (fun t84 _ =>
 vC 56 #[t79,t81,t84] (fun t85 H45 =>
 R (.tuple #[t85,(.bool true)]) H45) H44) #[]) H44) #[]) #[]) #[]) #[])) H43) H41) H39) H37) H35) H33) H31) H29) H28)) H27) H26) H25) H19)) #[]) #[]) #[]) #[]) #[]) #[]) #[]) #[]) #[]) H19) #[]) #[]) #[]) #[]) #[]) H19) #[]) H18) H17) H16) H15) H14) H13) H12) H11)) H10) H8) H6) H5) H4) H3) H2) H1) h

theorem n17_calls {b0 cluster1:Value} {R:VP} {h:Heap} (H:n17 b0 cluster1 R h):CallsH Tryz.prog 17 #[b0,cluster1] h R ⟨⟩ :=
 callsH_of_eq Tryz.follow .l Tryz.func17 kR kR kR H

def n18 (s0:Value) (R:VP) (h:Heap):Prop :=
 vC 33 #[s0,(str [97]),(.int .i64 0),(.int .i64 268435456)] (fun t7 H1 =>
 vF (extract t7 0) (fun t8 H2 =>
 vF (extract t7 1) (fun t9 H3 =>
 R t8 H3) H2) H1) h

theorem n18_calls {s0:Value} {R:VP} {h:Heap} (H:n18 s0 R h):CallsH Tryz.prog 18 #[s0] h R ⟨⟩ :=
 callsH_of_eq Tryz.follow .l Tryz.func18 kR kR kR H

def n19 (r0 size1:Value) (R:VP) (h:Heap):Prop :=
 vC 39 #[r0] (fun t8 H1 =>
 vD t8 (
 R (.int .i64 1) H1) (
 vG (nilS r0) (fun t11 _ =>
 vG (fieldAt 89 t11 0) (fun t12 _ =>
 vG (loadAt 27 t12) (fun t13 _ =>
 vG (nilS r0) (fun t15 _ =>
 vG (fieldAt 89 t15 1) (fun t16 _ =>
 vG (loadAt 9 t16) (fun t17 _ =>
 vC 11 #[t13,t17] (fun t18 H2 =>
 vG (extract t18 0) (fun t19 _ =>
 vG (extract t18 1) (fun t20 _ =>
 vF (vk .neq 31 21 .i64 0 t20) (fun t22 H3 =>
 vJ t22 false (vV t19) (fun t24 H5 =>
 vJ t22 false (vV size1) (fun t25 H7 =>
 vJ t22 false (vF (vt .geq 2 24 25 t24 t25)) (fun t26 H9 =>
 vF (pickS t22 (.bool true) t26) (fun t27 H10 =>
 vD t27 (
 R t20 H10) (
 vG (nilS r0) (fun t30 _ =>
 vG (fieldAt 89 t30 0) (fun t31 _ =>
 vG (loadAt 27 t31) (fun t32 _ =>
 vG (nilS r0) (fun t34 _ =>
 vG (fieldAt 89 t34 1) (fun t35 _ =>
 vG (loadAt 9 t35) (fun t36 _ =>
 vG (nilS r0) (fun t39 _ =>
 vG (fieldAt 89 t39 3) (fun t40 _ =>
 vG (loadAt 2 t40) (fun t41 _ =>
 vG (vt .add 2 37 41 size1 t41) (fun t42 _ =>
 vG (vk .sub 2 42 .i64 1 t42) (fun t43 _ =>
 vG (nilS r0) (fun t45 _ =>
 vG (fieldAt 89 t45 3) (fun t46 _ =>
 vG (loadAt 2 t46) (fun t47 _ =>
 vG (vt .quo 2 43 47 t43 t47) (fun t48 _ =>
 vG (nilS r0) (fun t50 _ =>
 vG (fieldAt 89 t50 3) (fun t51 _ =>
 vG (loadAt 2 t51) (fun t52 _ =>
 vG (vt .mul 2 48 52 t48 t52) (fun t53 _ =>
 vC 57 #[t32,t36,t53] (fun t54 H11 =>
 R t54 H11) H10) #[]) H10) #[]) #[]) #[]) H10) #[]) #[]) #[]) #[]) H10) #[]) #[]) H10) #[]) #[]) H10) #[]) #[])) H9) H7) H5) H3) H2) #[]) #[]) H1) H1) #[]) #[]) H1) #[]) #[])) h

theorem n19_calls {r0 size1:Value} {R:VP} {h:Heap} (H:n19 r0 size1 R h):CallsH Tryz.prog 19 #[r0,size1] h R ⟨⟩ :=
 callsH_of_eq Tryz.follow .l Tryz.func19 kR kR kR H

def n20 (r0:Value) (R:VP) (h:Heap):Prop :=
 vC 39 #[r0] (fun t4 H1 =>
 vD t4 (
 R (.int .i64 0) H1) (
 vG (nilS r0) (fun t6 _ =>
 vG (fieldAt 89 t6 2) (fun t7 _ =>
 vG (fieldAt 84 t7 7) (fun t8 _ =>
 vG (loadAt 3 t8) (fun t9 _ =>
 vG (nilS r0) (fun t11 _ =>
 vG (fieldAt 89 t11 3) (fun t12 _ =>
 vG (loadAt 2 t12) (fun t13 _ =>
 vG (vt .mul 2 9 13 t9 t13) (fun t14 _ =>
 vG (vk .quo 2 14 .i64 8 t14) (fun t15 _ =>
 vG (nilS r0) (fun t17 _ =>
 vG (fieldAt 89 t17 4) (fun t18 _ =>
 vG (loadAt 2 t18) (fun t19 _ =>
 vG (vt .mul 2 15 19 t15 t19) (fun t20 _ =>
 R t20 H1) #[]) H1) #[]) #[]) #[]) #[]) H1) #[]) #[]) H1) #[]) #[]) #[])) h

theorem n20_calls {r0:Value} {R:VP} {h:Heap} (H:n20 r0 R h):CallsH Tryz.prog 20 #[r0] h R ⟨⟩ :=
 callsH_of_eq Tryz.follow .l Tryz.func20 kR kR kR H

def n21 (b0 mine1 c2:Value) (R:VP) (h:Heap):Prop :=
 vC 24 #[b0] (fun t15 H1 =>
 vF (extract t15 0) (fun t16 H2 =>
 vF (extract t15 1) (fun t17 H3 =>
 vF (alloc 63 true undef) (fun r7 H4 =>
 vF (storeS 63 r7 t16) (fun _ H5 =>
 vF (vk .neq 3 18 .i64 0 t17) (fun t19 H6 =>
 vJ t19 false (vF (fieldAt 63 r7 1)) (fun t21 H8 =>
 vJ t19 false (vF (loadAt 4 t21)) (fun t22 H10 =>
 vF (pickS t19 (.bool true) t22) (fun t23 H11 =>
 vD t23 (
 R (.bool false) H11) (
 LoopC 1 (fun (X:VP)=>fun i9 H12 =>
 vF (len_ #[35] 3 #[mine1]) (fun t26 H13 =>
 vF (vt .lss 3 24 26 i9 t26) (fun t27 H14 =>
 vD t27 (
 LoopC 1 (fun (X_1:VP)=>fun k10 H15 =>
 vF (indexAt 35 mine1 i9) (fun t33 H16 =>
 vF (fieldAt 42 t33 1) (fun t34 H17 =>
 vF (loadAt 3 t34) (fun t35 H18 =>
 vF (vt .lss 2 30 35 k10 t35) (fun t36 H19 =>
 vD t36 (
 vF (indexAt 35 mine1 i9) (fun t43 H20 =>
 vF (fieldAt 42 t43 0) (fun t44 H21 =>
 vF (loadAt 2 t44) (fun t45 H22 =>
 vF (vt .quo 2 45 46 t45 c2) (fun t47 H23 =>
 vF (vt .add 2 47 48 t47 k10) (fun t49 H24 =>
 vC 17 #[b0,t49] (fun t50 H25 =>
 vF (extract t50 0) (fun t51 H26 =>
 vF (extract t50 1) (fun t52 H27 =>
 vF (Op.unary .not t52) (fun t54 H28 =>
 vJ t54 false (vV t51) (fun t56 H30 =>
 vJ t54 false (vF (vk .lss 44 56 .u64 1 t56)) (fun t57 H32 =>
 vF (pickS t54 (.bool true) t57) (fun t58 H33 =>
 vD t58 (
 R (.bool false) H33) (
 vF (vk .add 2 37 .i64 1 k10) (fun t38 H34 =>
 X_1 t38 H34) H33)) H32) H30) H28) H27) H26) H25) H24) H23) H22) H21) H20) H19) (
 vF (vk .add 3 28 .i64 1 i9) (fun t29 H35 =>
 X t29 H35) H19)) H18) H17) H16) H15) [(.int .i64 0)] H14 ⟨⟩) (
 R (.bool true) H14)) H13) H12) [(.int .i64 0)] H11 ⟨⟩)) H10) H8) H6) H5) H4) H3) H2) H1) h

theorem n21_calls {b0 mine1 c2:Value} {R:VP} {h:Heap} (H:n21 b0 mine1 c2 R h):CallsH Tryz.prog 21 #[b0,mine1,c2] h R ⟨⟩ :=
 callsH_of_eq Tryz.follow (.n none .l (.n none .l (.n none .l (.n none (.n none .l (.n none (.n (some [10]) (.n none .l (.n none (.n none (.n none .l (.n none (.n (some [11]) .l .l) .l)) .l) .l)) .l) .l)) .l)))) Tryz.func21 kR kR kR H

def n24 (b0:Value) (R:VP) (h:Heap):Prop :=
 vF (alloc 63 true undef) (fun t2 H1 =>
 vC 60 #[b0] (fun t14 H2 =>
 vF (extract t14 0) (fun t15 H3 =>
 vF (extract t14 1) (fun t16 H4 =>
 vF (vk .neq 3 17 .i64 0 t16) (fun t18 H5 =>
 vD t18 (
 vF (build 63 #[]) (fun t19 H6 =>
 vF (storeS 63 t2 t19) (fun _ H7 =>
 vG (loadCell 63 t2) (fun r _ =>
 R (.tuple #[r,t16]) H7) H7) H6) H5) (
 vC 61 #[t15] (fun t23 H8 =>
 vF (nilS t15) (fun t24 H9 =>
 vF (fieldAt 130 t24 4) (fun t25 H10 =>
 vF (fieldAt 63 t25 2) (fun t26 H11 =>
 vF (storeS 2 t26 t23) (fun _ H12 =>
 LoopC 1 (fun (X:VP)=>fun k6 H13 =>
 vC 62 #[t15] (fun t29 H14 =>
 vF (vt .lss 2 27 29 k6 t29) (fun t30 H15 =>
 vD t30 (
 JoinN 0 (fun (k:Heap→Prop) H16 =>
 JoinN 0 (fun (k_1:Heap→Prop) H17 =>
 vC 63 #[t15,k6] (fun t36 H18 =>
 vF (extract t36 0) (fun t37 H19 =>
 vF (extract t36 1) (fun t38 H20 =>
 JoinN 0 (fun (k_2:Heap→Prop) H21 =>
 vF (vk .gtr 44 39 .u64 0 t37) (fun t40 H22 =>
 vD t40 (
 vF (nilS t15) (fun t42 H23 =>
 vF (fieldAt 130 t42 4) (fun t43 H24 =>
 vF (fieldAt 63 t43 3) (fun t44 H25 =>
 vF (loadAt 2 t44) (fun t45 H26 =>
 vF (vk .add 2 45 .i64 1 t45) (fun t46 H27 =>
 vF (nilS t15) (fun t47 H28 =>
 vF (fieldAt 130 t47 4) (fun t48 H29 =>
 vF (fieldAt 63 t48 3) (fun t49 H30 =>
 vF (storeS 2 t49 t46) (fun _ H31 =>
 k_2 H31) H30) H29) H28) H27) H26) H25) H24) H23) H22) (
 k_2 H22)) H21)
 (fun H32 =>
 vF (nilS t15) (fun t52 H33 =>
 vF (fieldAt 130 t52 1) (fun t53 H34 =>
 vF (fieldAt 84 t53 0) (fun t54 H35 =>
 vF (loadAt 3 t54) (fun t55 H36 =>
 vF (vt .shl 2 50 55 k6 t55) (fun t56 H37 =>
 JoinN 0 (fun (k_3:Heap→Prop) H38 =>
 vF (Op.unary .not t38) (fun t58 H39 =>
 vD t58 (
 vF (nilS t15) (fun t61 H40 =>
 vF (fieldAt 130 t61 3) (fun t62 H41 =>
 vF (loadAt 61 t62) (fun t63 H42 =>
 vF (build 134 #[(0,(.int .i64 4)),(1,t56),(2,(.int .u64 1)),(3,t37)]) (fun t66 H43 =>
 vF (buildSlice 61 1 #[(0,t66)]) (fun t67 H44 =>
 vF (append_ #[61,61] 61 #[t63,t67]) (fun t68 H45 =>
 vF (nilS t15) (fun t69 H46 =>
 vF (fieldAt 130 t69 3) (fun t70 H47 =>
 vF (storeS 61 t70 t68) (fun _ H48 =>
 k_3 H48) H47) H46) H45) H44) H43) H42) H41) H40) H39) (
 k_3 H39)) H38)
 (fun H49 =>
 vC 64 #[t15,k6] (fun t73 H50 =>
 JoinN 0 (fun (k_4:Heap→Prop) H51 =>
 vF (vt .lss 44 74 75 t73 t37) (fun t76 H52 =>
 vD t76 (
 vF (nilS t15) (fun t79 H53 =>
 vF (fieldAt 130 t79 3) (fun t80 H54 =>
 vF (loadAt 61 t80) (fun t81 H55 =>
 vF (build 134 #[(0,(.int .i64 6)),(1,t56),(2,t37),(3,t73)]) (fun t85 H56 =>
 vF (buildSlice 61 1 #[(0,t85)]) (fun t86 H57 =>
 vF (append_ #[61,61] 61 #[t81,t86]) (fun t87 H58 =>
 vF (nilS t15) (fun t88 H59 =>
 vF (fieldAt 130 t88 3) (fun t89 H60 =>
 vF (storeS 61 t89 t87) (fun _ H61 =>
 k_4 H61) H60) H59) H58) H57) H56) H55) H54) H53) H52) (
 k_4 H52)) H51)
 (fun H62 =>
 vF (vt .gtr 44 90 91 t73 t37) (fun t92 H63 =>
 vD t92 (
 vF (nilS t15) (fun t95 H64 =>
 vF (fieldAt 130 t95 3) (fun t96 H65 =>
 vF (loadAt 61 t96) (fun t97 H66 =>
 vF (build 134 #[(0,(.int .i64 7)),(1,t56),(2,t37),(3,t73)]) (fun t101 H67 =>
 vF (buildSlice 61 1 #[(0,t101)]) (fun t102 H68 =>
 vF (append_ #[61,61] 61 #[t97,t102]) (fun t103 H69 =>
 vF (nilS t15) (fun t104 H70 =>
 vF (fieldAt 130 t104 3) (fun t105 H71 =>
 vF (storeS 61 t105 t103) (fun _ H72 =>
 k_1 H72) H71) H70) H69) H68) H67) H66) H65) H64) H63) (
 k_1 H63)) H62) H50 ⟨⟩ ⟨⟩) H49) H37 ⟨⟩ ⟨⟩) H36) H35) H34) H33) H32) H20 ⟨⟩ ⟨⟩) H19) H18) H17)
 (fun H73 =>
 k H73) H16 ⟨⟩ ⟨⟩)
 (fun H74 =>
 vF (vk .add 2 31 .i64 1 k6) (fun t32 H75 =>
 X t32 H75) H74) H15 ⟨⟩ ⟨⟩) (
 LoopC 1 (fun (X_1:VP)=>fun i11 H76 =>
 vF (nilS t15) (fun t108 H77 =>
 vF (fieldAt 130 t108 3) (fun t109 H78 =>
 vF (loadAt 61 t109) (fun t110 H79 =>
 vF (len_ #[61] 3 #[t110]) (fun t111 H80 =>
 vF (vt .lss 3 106 111 i11 t111) (fun t112 H81 =>
 vD t112 (
 vG (nilS t15) (fun t117 _ =>
 vG (fieldAt 130 t117 4) (fun t118 _ =>
 vG (fieldAt 63 t118 0) (fun t119 _ =>
 vG (loadAt 61 t119) (fun t120 _ =>
 vG (nilS t15) (fun t122 _ =>
 vG (fieldAt 130 t122 3) (fun t123 _ =>
 vG (loadAt 61 t123) (fun t124 _ =>
 vG (indexAt 61 t124 i11) (fun t126 _ =>
 vG (loadAt 134 t126) (fun t127 _ =>
 vC 65 #[t120,t127] (fun t128 H82 =>
 vG (nilS t15) (fun t129 _ =>
 vG (fieldAt 130 t129 4) (fun t130 _ =>
 vG (fieldAt 63 t130 0) (fun t131 _ =>
 vF (storeS 61 t131 t128) (fun _ H83 =>
 vF (nilS t15) (fun t134 H84 =>
 vF (fieldAt 130 t134 4) (fun t135 H85 =>
 vF (fieldAt 63 t135 1) (fun t136 H86 =>
 vF (loadAt 4 t136) (fun t137 H87 =>
 vJ t137 false (vV t15) (fun t139 H89 =>
 vJ t137 false (vF (nilS t139)) (fun t140 H91 =>
 vJ t137 false (vF (fieldAt 130 t140 3)) (fun t141 H93 =>
 vJ t137 false (vF (loadAt 61 t141)) (fun t142 H95 =>
 vJ t137 false (vV i11) (fun t143 H97 =>
 vJ t137 false (vF (indexAt 61 t142 t143)) (fun t144 H99 =>
 vJ t137 false (vF (fieldAt 134 t144 0)) (fun t145 H101 =>
 vJ t137 false (vF (loadAt 132 t145)) (fun t146 H103 =>
 vJ t137 false (vF (vk .neq 132 146 .i64 7 t146)) (fun t147 H105 =>
 vF (pickS t137 (.bool true) t147) (fun t148 H106 =>
 vF (nilS t15) (fun t149 H107 =>
 vF (fieldAt 130 t149 4) (fun t150 H108 =>
 vF (fieldAt 63 t150 1) (fun t151 H109 =>
 vF (storeS 4 t151 t148) (fun _ H110 =>
 vF (vk .add 3 113 .i64 1 i11) (fun t114 H111 =>
 X_1 t114 H111) H110) H109) H108) H107) H106) H105) H103) H101) H99) H97) H95) H93) H91) H89) H87) H86) H85) H84) H83) H82) #[]) #[]) #[]) H81) H81) #[]) H81) #[]) #[]) H81) #[]) #[]) #[]) (
 vF (nilS t15) (fun t153 H112 =>
 vF (fieldAt 130 t153 4) (fun t154 H113 =>
 vF (loadAt 63 t154) (fun t155 H114 =>
 vF (storeS 63 t2 t155) (fun _ H115 =>
 vG (loadCell 63 t2) (fun r_1 _ =>
 R (.tuple #[r_1,(.int .i64 0)]) H115) H115) H114) H113) H112) H81)) H80) H79) H78) H77) H76) [(.int .i64 0)] H15 ⟨⟩)) H14) H13) [(.int .i64 0)] H12 ⟨⟩) H11) H10) H9) H8) H5)) H4) H3) H2) H1) h

theorem n24_calls {b0:Value} {R:VP} {h:Heap} (H:n24 b0 R h):CallsH Tryz.prog 24 #[b0] h R ⟨⟩ :=
 callsH_of_eq Tryz.follow (.n none .l (.n none .l (.n none .l (.n none .l (.n none (.n none .l (.n none (.n (some [7]) (.n none .l (.n (some []) (.n (some []) (.n none .l (.n (some []) .l (.n none .l (.n (some []) .l (.n none .l (.n (some []) .l .l)))))) .l) .l)) .l) .l)) (.n none (.n none .l (.n none (.n (some [12]) .l .l) .l)) .l)))))) Tryz.func24 kR kR kR H

end Go.Proofs.YtdccfkffabngjaaGreat
