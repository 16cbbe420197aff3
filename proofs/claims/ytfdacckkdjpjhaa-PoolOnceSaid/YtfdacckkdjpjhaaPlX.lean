/- The law PoolOnce: each case of its switch. -/
import Derived.Test.YtfdacckkdjpjhaaPlV
import Derived.Test.YtfdacckkdjpjhaaPlQ
import Derived.Deep.CutBlock
import Derived.Deep.CutRange
namespace Go.Proofs.Ytfdacckkdjpjhaa
open Go.RowKit

def blockOf : Code → Nat → Option Code
  | .seq a b, k => (blockOf a k).or (blockOf b k)
  | .cond _ a b, k => (blockOf a k).or (blockOf b k)
  | .block i b, k => if i == k then some (.block i b) else blockOf b k
  | .loop b, k => blockOf b k
  | .scope b, k => blockOf b k
  | _, _ => none
def blkOnceS : { x : Code // (Try.f7.body.bind (blockOf · 2)) = some x } := by
  refine ⟨?_, ?_⟩
  rotate_left
  · exact rfl
def blkOnce : Code := blkOnceS.1
/-- What an operation leaves. -/
def OnceR (w W : World) (p lim i ga : Nat) (ov : Value) (ops : List PV) (tk tv : Value) : Prop := ∃ (D : Pl) (L : List Tr) (a : List Int) (Z : Nat → Prop), tk = .int .i64 D.tick ∧ Bx (OnceI (lim : Int) (i + 1) D L a) ∧ Bx (OncS w W p Z D (lim : Int) tv L ga a ov ops)
set_option linter.unusedSimpArgs false in
set_option maxRecDepth 20000 in
set_option maxHeartbeats 4000000 in
theorem once_k0 {w W1 : World} {p ga bo i lim : Nat} {Z : Nat → Prop} {D : Pl} {L : List Tr} {a : List Int} {ops : List PV} {ov TV : Value} {tk mw nn : Int} {sl0 sl1 sl2 sl3 sl4 sl7 sl8 sl15 sl16 sl17 sl18 sl19 sl20 sl21 sl22 sl23 sl24 sl25 sl26 sl27 sl28 sl29 sl30 sl31 sl32 sl33 sl34 sl35 sl36 sl37 sl38 sl39 sl40 sl41 sl42 sl43 sl44 sl45 sl46 sl47 sl48 sl49 sl50 sl51 sl52 sl53 sl54 sl55 sl56 sl57 sl58 sl59 sl60 sl61 sl63 sl64 sl65 sl66 sl67 sl68 sl69 sl70 sl71 sl72 sl73 sl74 sl75 sl76 sl77 sl78 sl79 sl80 sl81 sl82 sl83 sl84 sl85 sl86 sl87 sl88 sl89 sl90 sl91 sl92 sl93 sl94 sl95 sl96 sl97 sl98 sl99 sl100 sl101 sl102 sl103 sl104 sl105 sl106 sl107 sl108 sl109 sl110 sl111 sl112 sl113 sl114 sl115 sl116 sl117 sl118 sl119 sl120 sl121 sl122 sl123 sl124 sl125 sl126 sl127 sl128 sl129 sl130 sl131 sl132 sl133 sl134 sl135 sl136 sl137 sl138 sl139 sl140 sl141 sl142 sl143 sl144 sl145 sl146 sl147 sl148 sl149 sl150 sl151 sl152 sl153 sl154 sl155 sl156 sl157 sl158 sl159 sl160 sl161 sl162 sl163 sl164 sl165 sl166 sl167 sl168 sl169 sl170 sl171 sl172 sl173 sl174 sl175 sl176 sl177 sl178 sl179 sl180 sl181 sl182 sl183 sl184 sl185 sl186 sl187 sl188 sl189 sl190 sl191 sl192 sl193 sl194 sl195 sl196 sl197 sl198 sl199 sl200 sl201 sl202 sl203 sl204 sl205 sl206 sl207 sl208 sl209 sl210 sl211 sl212 sl213 sl214 sl215 sl216 sl217 sl218 sl219 sl220 sl221 sl222 sl223 sl224 sl225 sl226 sl227 sl228 sl229 sl230 sl231 sl232 sl233 sl234 sl235 sl236 sl237 sl238 sl239 sl240 sl241 sl242 sl243 sl244 sl245 sl246 sl247 sl248 sl249 sl250 sl251 sl252 sl253 sl254 sl255 sl256 sl257 sl258 sl259 sl260 sl261 sl262 sl263 sl264 sl265 sl266 sl267 sl268 sl269 sl270 sl271 sl272 sl273 sl274 sl275 sl276 sl277 sl278 sl279 sl280 sl281 sl282 sl283 sl284 sl285 sl286 sl287 sl288 sl289 sl290 sl291 sl292 sl293 sl294 sl295 sl296 sl297 sl298 sl299 sl300 sl301 : Value} {Q : Exit → Act → World → Prop} (HI : Bx (OnceI (lim : Int) i D L a)) (HS1 : Bx (OncS w W1 p Z D (lim : Int) TV L ga a ov ops)) (HTK : Bx (D.tick = tk)) (o2 : W1.cell? ⟨bo, 2, none⟩ = some (.int .i64 nn)) (H11 : nn ≤ 11)
    (hN : Bx (∀ {v4 v9 v10 v13 v14 v15 v16 v17 v18 v19 v20 v21 v22 v23 v24 v46 v47 v48 v49 v50 v51 v52 v53 v54 v55 v56 v57 v58 v59 v60 v61 v62 v63 v64 v65 v66 v67 v68 v69 v70 v71 v72 v73 v74 v75 v76 v77 v78 v79 v80 v81 v82 v83 v84 v85 v86 v87 v88 v89 v90 v91 v92 v93 v94 v95 v96 v97 v98 v99 v100 v101 v102 v103 v104 v105 v106 v107 v108 v109 v110 v111 v112 v113 v114 v115 v116 v117 v118 v119 v120 v121 v122 v123 v124 v125 v126 v127 v128 v129 v130 v131 v132 v133 v134 v135 v136 v137 v138 v139 v140 v141 v142 v143 v144 v145 v146 v147 v148 v149 v150 v151 v152 v153 v154 v155 v156 v157 v158 v159 v160 v161 v162 v163 v164 v165 v166 v167 v168 v169 v170 v171 v172 v173 v174 v175 v176 v177 v178 v179 v180 v181 v182 v183 v184 v185 v186 v187 v188 v189 v190 v191 v192 v193 v194 v195 v196 v197 v198 v199 v200 v201 v202 v203 v204 v205 v206 v207 v208 v209 v210 v211 v212 v213 v214 v215 v216 v217 v218 v219 v220 v221 v222 v223 v224 v225 v226 v227 v228 v229 v230 v231 : Value} {W' : World}, OnceR w W' p lim i ga ov ops v9 v10 → Q .normal ⟨#[sl0, sl1, sl2, sl3, v4, .int .i64 (lim : Int), .pointer (some ⟨p, 0, none⟩), sl7, sl8, v9, v10, .slice (some ⟨ga, 0, none⟩) 16 16, .int .i64 (i : Int), v13, v14, v15, v16, v17, v18, v19, v20, v21, v22, v23, v24, sl25, sl26, sl27, sl28, sl29, sl30, sl31, sl32, sl33, sl34, sl35, sl36, sl37, sl38, sl39, sl40, sl41, sl42, sl43, sl44, sl45, v46, v47, v48, v49, v50, v51, v52, v53, v54, v55, v56, v57, v58, v59, v60, v61, v62, v63, v64, v65, v66, v67, v68, v69, v70, v71, v72, v73, v74, v75, v76, v77, v78, v79, v80, v81, v82, v83, v84, v85, v86, v87, v88, v89, v90, v91, v92, v93, v94, v95, v96, v97, v98, v99, v100, v101, v102, v103, v104, v105, v106, v107, v108, v109, v110, v111, v112, v113, v114, v115, v116, v117, v118, v119, v120, v121, v122, v123, v124, v125, v126, v127, v128, v129, v130, v131, v132, v133, v134, v135, v136, v137, v138, v139, v140, v141, v142, v143, v144, v145, v146, v147, v148, v149, v150, v151, v152, v153, v154, v155, v156, v157, v158, v159, v160, v161, v162, v163, v164, v165, v166, v167, v168, v169, v170, v171, v172, v173, v174, v175, v176, v177, v178, v179, v180, v181, v182, v183, v184, v185, v186, v187, v188, v189, v190, v191, v192, v193, v194, v195, v196, v197, v198, v199, v200, v201, v202, v203, v204, v205, v206, v207, v208, v209, v210, v211, v212, v213, v214, v215, v216, v217, v218, v219, v220, v221, v222, v223, v224, v225, v226, v227, v228, v229, v230, v231, sl232, sl233, sl234, sl235, sl236, sl237, sl238, sl239, sl240, sl241, sl242, sl243, sl244, sl245, sl246, sl247, sl248, sl249, sl250, sl251, sl252, sl253, sl254, sl255, sl256, sl257, sl258, sl259, sl260, sl261, sl262, sl263, sl264, sl265, sl266, sl267, sl268, sl269, sl270, sl271, sl272, sl273, sl274, sl275, sl276, sl277, sl278, sl279, sl280, sl281, sl282, sl283, sl284, sl285, sl286, sl287, sl288, sl289, sl290, sl291, sl292, sl293, sl294, sl295, sl296, sl297, sl298, sl299, sl300, sl301], []⟩ W')) :
    Code.wp Try.prog blkOnce Q ⟨#[sl0, sl1, sl2, sl3, sl4, .int .i64 (lim : Int), .pointer (some ⟨p, 0, none⟩), sl7, sl8, .int .i64 tk, TV, .slice (some ⟨ga, 0, none⟩) 16 16, .int .i64 (i : Int), .pointer (some ⟨bo, 0, none⟩), .int .i64 (tk + mw), sl15, sl16, sl17, sl18, sl19, sl20, sl21, sl22, sl23, sl24, sl25, sl26, sl27, sl28, sl29, sl30, sl31, sl32, sl33, sl34, sl35, sl36, sl37, sl38, sl39, sl40, sl41, sl42, sl43, sl44, sl45, sl46, sl47, sl48, sl49, sl50, sl51, sl52, sl53, sl54, sl55, sl56, sl57, sl58, sl59, sl60, sl61, .int .i64 0, sl63, sl64, sl65, sl66, sl67, sl68, sl69, sl70, sl71, sl72, sl73, sl74, sl75, sl76, sl77, sl78, sl79, sl80, sl81, sl82, sl83, sl84, sl85, sl86, sl87, sl88, sl89, sl90, sl91, sl92, sl93, sl94, sl95, sl96, sl97, sl98, sl99, sl100, sl101, sl102, sl103, sl104, sl105, sl106, sl107, sl108, sl109, sl110, sl111, sl112, sl113, sl114, sl115, sl116, sl117, sl118, sl119, sl120, sl121, sl122, sl123, sl124, sl125, sl126, sl127, sl128, sl129, sl130, sl131, sl132, sl133, sl134, sl135, sl136, sl137, sl138, sl139, sl140, sl141, sl142, sl143, sl144, sl145, sl146, sl147, sl148, sl149, sl150, sl151, sl152, sl153, sl154, sl155, sl156, sl157, sl158, sl159, sl160, sl161, sl162, sl163, sl164, sl165, sl166, sl167, sl168, sl169, sl170, sl171, sl172, sl173, sl174, sl175, sl176, sl177, sl178, sl179, sl180, sl181, sl182, sl183, sl184, sl185, sl186, sl187, sl188, sl189, sl190, sl191, sl192, sl193, sl194, sl195, sl196, sl197, sl198, sl199, sl200, sl201, sl202, sl203, sl204, sl205, sl206, sl207, sl208, sl209, sl210, sl211, sl212, sl213, sl214, sl215, sl216, sl217, sl218, sl219, sl220, sl221, sl222, sl223, sl224, sl225, sl226, sl227, sl228, sl229, sl230, sl231, sl232, sl233, sl234, sl235, sl236, sl237, sl238, sl239, sl240, sl241, sl242, sl243, sl244, sl245, sl246, sl247, sl248, sl249, sl250, sl251, sl252, sl253, sl254, sl255, sl256, sl257, sl258, sl259, sl260, sl261, sl262, sl263, sl264, sl265, sl266, sl267, sl268, sl269, sl270, sl271, sl272, sl273, sl274, sl275, sl276, sl277, sl278, sl279, sl280, sl281, sl282, sl283, sl284, sl285, sl286, sl287, sl288, sl289, sl290, sl291, sl292, sl293, sl294, sl295, sl296, sl297, sl298, sl299, sl300, sl301], []⟩ W1 := by
  simp only [blkOnce, blkOnceS]
  have HA := Bx.mk (pz_add nn (.slice none 0 0) [] W1 HS1.out.pz (by omega) (Rv.nil _) (by decide))
  have HI5 := Bx.mk (HI.out.add nn H11 [])
  go_wp2_with fail
  refine HA.out.mono ?_
  rintro e w5 ⟨rfl, Z5, P5, S5⟩
  dsimp only
  have HP5 := Bx.mk (HS1.out.step P5 S5)
  clear HA P5 S5 o2 HS1
  go_wp2_with fail
  exact hN.out ⟨_, L, a, Z5, by rw [HI5.out.2, HTK.out], ⟨HI5.out.1⟩, HP5⟩
set_option linter.unusedSimpArgs false in
set_option maxRecDepth 20000 in
set_option maxHeartbeats 4000000 in
theorem once_k4 {w W1 : World} {p ga bo i lim : Nat} {Z : Nat → Prop} {D : Pl} {L : List Tr} {a : List Int} {ops : List PV} {ov TV : Value} {tk mw wk : Int} {sl0 sl1 sl2 sl3 sl4 sl7 sl8 sl15 sl16 sl17 sl18 sl19 sl20 sl21 sl22 sl23 sl24 sl25 sl26 sl27 sl28 sl29 sl30 sl31 sl32 sl33 sl34 sl35 sl36 sl37 sl38 sl39 sl40 sl41 sl42 sl43 sl44 sl45 sl46 sl47 sl48 sl49 sl50 sl51 sl52 sl53 sl54 sl55 sl56 sl57 sl58 sl59 sl60 sl61 sl63 sl64 sl65 sl66 sl67 sl68 sl69 sl70 sl71 sl72 sl73 sl74 sl75 sl76 sl77 sl78 sl79 sl80 sl81 sl82 sl83 sl84 sl85 sl86 sl87 sl88 sl89 sl90 sl91 sl92 sl93 sl94 sl95 sl96 sl97 sl98 sl99 sl100 sl101 sl102 sl103 sl104 sl105 sl106 sl107 sl108 sl109 sl110 sl111 sl112 sl113 sl114 sl115 sl116 sl117 sl118 sl119 sl120 sl121 sl122 sl123 sl124 sl125 sl126 sl127 sl128 sl129 sl130 sl131 sl132 sl133 sl134 sl135 sl136 sl137 sl138 sl139 sl140 sl141 sl142 sl143 sl144 sl145 sl146 sl147 sl148 sl149 sl150 sl151 sl152 sl153 sl154 sl155 sl156 sl157 sl158 sl159 sl160 sl161 sl162 sl163 sl164 sl165 sl166 sl167 sl168 sl169 sl170 sl171 sl172 sl173 sl174 sl175 sl176 sl177 sl178 sl179 sl180 sl181 sl182 sl183 sl184 sl185 sl186 sl187 sl188 sl189 sl190 sl191 sl192 sl193 sl194 sl195 sl196 sl197 sl198 sl199 sl200 sl201 sl202 sl203 sl204 sl205 sl206 sl207 sl208 sl209 sl210 sl211 sl212 sl213 sl214 sl215 sl216 sl217 sl218 sl219 sl220 sl221 sl222 sl223 sl224 sl225 sl226 sl227 sl228 sl229 sl230 sl231 sl232 sl233 sl234 sl235 sl236 sl237 sl238 sl239 sl240 sl241 sl242 sl243 sl244 sl245 sl246 sl247 sl248 sl249 sl250 sl251 sl252 sl253 sl254 sl255 sl256 sl257 sl258 sl259 sl260 sl261 sl262 sl263 sl264 sl265 sl266 sl267 sl268 sl269 sl270 sl271 sl272 sl273 sl274 sl275 sl276 sl277 sl278 sl279 sl280 sl281 sl282 sl283 sl284 sl285 sl286 sl287 sl288 sl289 sl290 sl291 sl292 sl293 sl294 sl295 sl296 sl297 sl298 sl299 sl300 sl301 : Value} {Q : Exit → Act → World → Prop} (HI : Bx (OnceI (lim : Int) i D L a)) (HS1 : Bx (OncS w W1 p Z D (lim : Int) TV L ga a ov ops)) (HTK : Bx (D.tick = tk)) (o1 : W1.cell? ⟨bo, 1, none⟩ = some (.int .i64 wk))
    (hN : Bx (∀ {v4 v9 v10 v13 v14 v15 v16 v17 v18 v19 v20 v21 v22 v23 v24 v46 v47 v48 v49 v50 v51 v52 v53 v54 v55 v56 v57 v58 v59 v60 v61 v62 v63 v64 v65 v66 v67 v68 v69 v70 v71 v72 v73 v74 v75 v76 v77 v78 v79 v80 v81 v82 v83 v84 v85 v86 v87 v88 v89 v90 v91 v92 v93 v94 v95 v96 v97 v98 v99 v100 v101 v102 v103 v104 v105 v106 v107 v108 v109 v110 v111 v112 v113 v114 v115 v116 v117 v118 v119 v120 v121 v122 v123 v124 v125 v126 v127 v128 v129 v130 v131 v132 v133 v134 v135 v136 v137 v138 v139 v140 v141 v142 v143 v144 v145 v146 v147 v148 v149 v150 v151 v152 v153 v154 v155 v156 v157 v158 v159 v160 v161 v162 v163 v164 v165 v166 v167 v168 v169 v170 v171 v172 v173 v174 v175 v176 v177 v178 v179 v180 v181 v182 v183 v184 v185 v186 v187 v188 v189 v190 v191 v192 v193 v194 v195 v196 v197 v198 v199 v200 v201 v202 v203 v204 v205 v206 v207 v208 v209 v210 v211 v212 v213 v214 v215 v216 v217 v218 v219 v220 v221 v222 v223 v224 v225 v226 v227 v228 v229 v230 v231 : Value} {W' : World}, OnceR w W' p lim i ga ov ops v9 v10 → Q .normal ⟨#[sl0, sl1, sl2, sl3, v4, .int .i64 (lim : Int), .pointer (some ⟨p, 0, none⟩), sl7, sl8, v9, v10, .slice (some ⟨ga, 0, none⟩) 16 16, .int .i64 (i : Int), v13, v14, v15, v16, v17, v18, v19, v20, v21, v22, v23, v24, sl25, sl26, sl27, sl28, sl29, sl30, sl31, sl32, sl33, sl34, sl35, sl36, sl37, sl38, sl39, sl40, sl41, sl42, sl43, sl44, sl45, v46, v47, v48, v49, v50, v51, v52, v53, v54, v55, v56, v57, v58, v59, v60, v61, v62, v63, v64, v65, v66, v67, v68, v69, v70, v71, v72, v73, v74, v75, v76, v77, v78, v79, v80, v81, v82, v83, v84, v85, v86, v87, v88, v89, v90, v91, v92, v93, v94, v95, v96, v97, v98, v99, v100, v101, v102, v103, v104, v105, v106, v107, v108, v109, v110, v111, v112, v113, v114, v115, v116, v117, v118, v119, v120, v121, v122, v123, v124, v125, v126, v127, v128, v129, v130, v131, v132, v133, v134, v135, v136, v137, v138, v139, v140, v141, v142, v143, v144, v145, v146, v147, v148, v149, v150, v151, v152, v153, v154, v155, v156, v157, v158, v159, v160, v161, v162, v163, v164, v165, v166, v167, v168, v169, v170, v171, v172, v173, v174, v175, v176, v177, v178, v179, v180, v181, v182, v183, v184, v185, v186, v187, v188, v189, v190, v191, v192, v193, v194, v195, v196, v197, v198, v199, v200, v201, v202, v203, v204, v205, v206, v207, v208, v209, v210, v211, v212, v213, v214, v215, v216, v217, v218, v219, v220, v221, v222, v223, v224, v225, v226, v227, v228, v229, v230, v231, sl232, sl233, sl234, sl235, sl236, sl237, sl238, sl239, sl240, sl241, sl242, sl243, sl244, sl245, sl246, sl247, sl248, sl249, sl250, sl251, sl252, sl253, sl254, sl255, sl256, sl257, sl258, sl259, sl260, sl261, sl262, sl263, sl264, sl265, sl266, sl267, sl268, sl269, sl270, sl271, sl272, sl273, sl274, sl275, sl276, sl277, sl278, sl279, sl280, sl281, sl282, sl283, sl284, sl285, sl286, sl287, sl288, sl289, sl290, sl291, sl292, sl293, sl294, sl295, sl296, sl297, sl298, sl299, sl300, sl301], []⟩ W')) :
    Code.wp Try.prog blkOnce Q ⟨#[sl0, sl1, sl2, sl3, sl4, .int .i64 (lim : Int), .pointer (some ⟨p, 0, none⟩), sl7, sl8, .int .i64 tk, TV, .slice (some ⟨ga, 0, none⟩) 16 16, .int .i64 (i : Int), .pointer (some ⟨bo, 0, none⟩), .int .i64 (tk + mw), sl15, sl16, sl17, sl18, sl19, sl20, sl21, sl22, sl23, sl24, sl25, sl26, sl27, sl28, sl29, sl30, sl31, sl32, sl33, sl34, sl35, sl36, sl37, sl38, sl39, sl40, sl41, sl42, sl43, sl44, sl45, sl46, sl47, sl48, sl49, sl50, sl51, sl52, sl53, sl54, sl55, sl56, sl57, sl58, sl59, sl60, sl61, .int .i64 4, sl63, sl64, sl65, sl66, sl67, sl68, sl69, sl70, sl71, sl72, sl73, sl74, sl75, sl76, sl77, sl78, sl79, sl80, sl81, sl82, sl83, sl84, sl85, sl86, sl87, sl88, sl89, sl90, sl91, sl92, sl93, sl94, sl95, sl96, sl97, sl98, sl99, sl100, sl101, sl102, sl103, sl104, sl105, sl106, sl107, sl108, sl109, sl110, sl111, sl112, sl113, sl114, sl115, sl116, sl117, sl118, sl119, sl120, sl121, sl122, sl123, sl124, sl125, sl126, sl127, sl128, sl129, sl130, sl131, sl132, sl133, sl134, sl135, sl136, sl137, sl138, sl139, sl140, sl141, sl142, sl143, sl144, sl145, sl146, sl147, sl148, sl149, sl150, sl151, sl152, sl153, sl154, sl155, sl156, sl157, sl158, sl159, sl160, sl161, sl162, sl163, sl164, sl165, sl166, sl167, sl168, sl169, sl170, sl171, sl172, sl173, sl174, sl175, sl176, sl177, sl178, sl179, sl180, sl181, sl182, sl183, sl184, sl185, sl186, sl187, sl188, sl189, sl190, sl191, sl192, sl193, sl194, sl195, sl196, sl197, sl198, sl199, sl200, sl201, sl202, sl203, sl204, sl205, sl206, sl207, sl208, sl209, sl210, sl211, sl212, sl213, sl214, sl215, sl216, sl217, sl218, sl219, sl220, sl221, sl222, sl223, sl224, sl225, sl226, sl227, sl228, sl229, sl230, sl231, sl232, sl233, sl234, sl235, sl236, sl237, sl238, sl239, sl240, sl241, sl242, sl243, sl244, sl245, sl246, sl247, sl248, sl249, sl250, sl251, sl252, sl253, sl254, sl255, sl256, sl257, sl258, sl259, sl260, sl261, sl262, sl263, sl264, sl265, sl266, sl267, sl268, sl269, sl270, sl271, sl272, sl273, sl274, sl275, sl276, sl277, sl278, sl279, sl280, sl281, sl282, sl283, sl284, sl285, sl286, sl287, sl288, sl289, sl290, sl291, sl292, sl293, sl294, sl295, sl296, sl297, sl298, sl299, sl300, sl301], []⟩ W1 := by
  simp only [blkOnce, blkOnceS]
  have HA := Bx.mk (pz_revive wk W1 HS1.out.pz)
  have HI5 := Bx.mk (HI.out.revive wk)
  go_wp2_with fail
  refine HA.out.mono ?_
  rintro e w5 ⟨rfl, Z5, P5, S5⟩
  dsimp only
  have HP5 := Bx.mk (HS1.out.step P5 S5)
  clear HA P5 S5 o1 HS1
  go_wp2_with fail
  exact hN.out ⟨_, L, a, Z5, by rw [HI5.out.2, HTK.out], ⟨HI5.out.1⟩, HP5⟩
set_option linter.unusedSimpArgs false in
set_option maxRecDepth 20000 in
set_option maxHeartbeats 4000000 in
theorem once_k3 {w W1 : World} {p ga bo i lim m tc : Nat} {Z : Nat → Prop} {D : Pl} {L : List Tr} {a : List Int} {ops : List PV} {ov : Value} {ta : Option Addr} {tk mw wk : Int} {sl0 sl1 sl2 sl3 sl4 sl7 sl8 sl15 sl16 sl17 sl18 sl19 sl20 sl21 sl22 sl23 sl24 sl25 sl26 sl27 sl28 sl29 sl30 sl31 sl32 sl33 sl34 sl35 sl36 sl37 sl38 sl39 sl40 sl41 sl42 sl43 sl44 sl45 sl46 sl47 sl48 sl49 sl50 sl51 sl52 sl53 sl54 sl55 sl56 sl57 sl58 sl59 sl60 sl61 sl63 sl64 sl65 sl66 sl67 sl68 sl69 sl70 sl71 sl72 sl73 sl74 sl75 sl76 sl77 sl78 sl79 sl80 sl81 sl82 sl83 sl84 sl85 sl86 sl87 sl88 sl89 sl90 sl91 sl92 sl93 sl94 sl95 sl96 sl97 sl98 sl99 sl100 sl101 sl102 sl103 sl104 sl105 sl106 sl107 sl108 sl109 sl110 sl111 sl112 sl113 sl114 sl115 sl116 sl117 sl118 sl119 sl120 sl121 sl122 sl123 sl124 sl125 sl126 sl127 sl128 sl129 sl130 sl131 sl132 sl133 sl134 sl135 sl136 sl137 sl138 sl139 sl140 sl141 sl142 sl143 sl144 sl145 sl146 sl147 sl148 sl149 sl150 sl151 sl152 sl153 sl154 sl155 sl156 sl157 sl158 sl159 sl160 sl161 sl162 sl163 sl164 sl165 sl166 sl167 sl168 sl169 sl170 sl171 sl172 sl173 sl174 sl175 sl176 sl177 sl178 sl179 sl180 sl181 sl182 sl183 sl184 sl185 sl186 sl187 sl188 sl189 sl190 sl191 sl192 sl193 sl194 sl195 sl196 sl197 sl198 sl199 sl200 sl201 sl202 sl203 sl204 sl205 sl206 sl207 sl208 sl209 sl210 sl211 sl212 sl213 sl214 sl215 sl216 sl217 sl218 sl219 sl220 sl221 sl222 sl223 sl224 sl225 sl226 sl227 sl228 sl229 sl230 sl231 sl232 sl233 sl234 sl235 sl236 sl237 sl238 sl239 sl240 sl241 sl242 sl243 sl244 sl245 sl246 sl247 sl248 sl249 sl250 sl251 sl252 sl253 sl254 sl255 sl256 sl257 sl258 sl259 sl260 sl261 sl262 sl263 sl264 sl265 sl266 sl267 sl268 sl269 sl270 sl271 sl272 sl273 sl274 sl275 sl276 sl277 sl278 sl279 sl280 sl281 sl282 sl283 sl284 sl285 sl286 sl287 sl288 sl289 sl290 sl291 sl292 sl293 sl294 sl295 sl296 sl297 sl298 sl299 sl300 sl301 : Value} {Q : Exit → Act → World → Prop} (HI : Bx (OnceI (lim : Int) i D L a)) (HS1 : Bx (OncS w W1 p Z D (lim : Int) (.slice ta m tc) L ga a ov ops)) (HTK : Bx (D.tick = tk)) (o1 : W1.cell? ⟨bo, 1, none⟩ = some (.int .i64 wk)) (HM : Bx (L.length = m)) (hi40 : i ≤ 39) (hmw2 : 0 ≤ mw ∧ mw ≤ 3) (HZB : Bx (∀ b, Z b → b < bo)) (hb1 : kindAt W1 bo = some (some 69))
    (hN : Bx (∀ {v4 v9 v10 v13 v14 v15 v16 v17 v18 v19 v20 v21 v22 v23 v24 v46 v47 v48 v49 v50 v51 v52 v53 v54 v55 v56 v57 v58 v59 v60 v61 v62 v63 v64 v65 v66 v67 v68 v69 v70 v71 v72 v73 v74 v75 v76 v77 v78 v79 v80 v81 v82 v83 v84 v85 v86 v87 v88 v89 v90 v91 v92 v93 v94 v95 v96 v97 v98 v99 v100 v101 v102 v103 v104 v105 v106 v107 v108 v109 v110 v111 v112 v113 v114 v115 v116 v117 v118 v119 v120 v121 v122 v123 v124 v125 v126 v127 v128 v129 v130 v131 v132 v133 v134 v135 v136 v137 v138 v139 v140 v141 v142 v143 v144 v145 v146 v147 v148 v149 v150 v151 v152 v153 v154 v155 v156 v157 v158 v159 v160 v161 v162 v163 v164 v165 v166 v167 v168 v169 v170 v171 v172 v173 v174 v175 v176 v177 v178 v179 v180 v181 v182 v183 v184 v185 v186 v187 v188 v189 v190 v191 v192 v193 v194 v195 v196 v197 v198 v199 v200 v201 v202 v203 v204 v205 v206 v207 v208 v209 v210 v211 v212 v213 v214 v215 v216 v217 v218 v219 v220 v221 v222 v223 v224 v225 v226 v227 v228 v229 v230 v231 : Value} {W' : World}, OnceR w W' p lim i ga ov ops v9 v10 → Q .normal ⟨#[sl0, sl1, sl2, sl3, v4, .int .i64 (lim : Int), .pointer (some ⟨p, 0, none⟩), sl7, sl8, v9, v10, .slice (some ⟨ga, 0, none⟩) 16 16, .int .i64 (i : Int), v13, v14, v15, v16, v17, v18, v19, v20, v21, v22, v23, v24, sl25, sl26, sl27, sl28, sl29, sl30, sl31, sl32, sl33, sl34, sl35, sl36, sl37, sl38, sl39, sl40, sl41, sl42, sl43, sl44, sl45, v46, v47, v48, v49, v50, v51, v52, v53, v54, v55, v56, v57, v58, v59, v60, v61, v62, v63, v64, v65, v66, v67, v68, v69, v70, v71, v72, v73, v74, v75, v76, v77, v78, v79, v80, v81, v82, v83, v84, v85, v86, v87, v88, v89, v90, v91, v92, v93, v94, v95, v96, v97, v98, v99, v100, v101, v102, v103, v104, v105, v106, v107, v108, v109, v110, v111, v112, v113, v114, v115, v116, v117, v118, v119, v120, v121, v122, v123, v124, v125, v126, v127, v128, v129, v130, v131, v132, v133, v134, v135, v136, v137, v138, v139, v140, v141, v142, v143, v144, v145, v146, v147, v148, v149, v150, v151, v152, v153, v154, v155, v156, v157, v158, v159, v160, v161, v162, v163, v164, v165, v166, v167, v168, v169, v170, v171, v172, v173, v174, v175, v176, v177, v178, v179, v180, v181, v182, v183, v184, v185, v186, v187, v188, v189, v190, v191, v192, v193, v194, v195, v196, v197, v198, v199, v200, v201, v202, v203, v204, v205, v206, v207, v208, v209, v210, v211, v212, v213, v214, v215, v216, v217, v218, v219, v220, v221, v222, v223, v224, v225, v226, v227, v228, v229, v230, v231, sl232, sl233, sl234, sl235, sl236, sl237, sl238, sl239, sl240, sl241, sl242, sl243, sl244, sl245, sl246, sl247, sl248, sl249, sl250, sl251, sl252, sl253, sl254, sl255, sl256, sl257, sl258, sl259, sl260, sl261, sl262, sl263, sl264, sl265, sl266, sl267, sl268, sl269, sl270, sl271, sl272, sl273, sl274, sl275, sl276, sl277, sl278, sl279, sl280, sl281, sl282, sl283, sl284, sl285, sl286, sl287, sl288, sl289, sl290, sl291, sl292, sl293, sl294, sl295, sl296, sl297, sl298, sl299, sl300, sl301], []⟩ W')) :
    Code.wp Try.prog blkOnce Q ⟨#[sl0, sl1, sl2, sl3, sl4, .int .i64 (lim : Int), .pointer (some ⟨p, 0, none⟩), sl7, sl8, .int .i64 tk, .slice ta m tc, .slice (some ⟨ga, 0, none⟩) 16 16, .int .i64 (i : Int), .pointer (some ⟨bo, 0, none⟩), .int .i64 (tk + mw), sl15, sl16, sl17, sl18, sl19, sl20, sl21, sl22, sl23, sl24, sl25, sl26, sl27, sl28, sl29, sl30, sl31, sl32, sl33, sl34, sl35, sl36, sl37, sl38, sl39, sl40, sl41, sl42, sl43, sl44, sl45, sl46, sl47, sl48, sl49, sl50, sl51, sl52, sl53, sl54, sl55, sl56, sl57, sl58, sl59, sl60, sl61, .int .i64 3, sl63, sl64, sl65, sl66, sl67, sl68, sl69, sl70, sl71, sl72, sl73, sl74, sl75, sl76, sl77, sl78, sl79, sl80, sl81, sl82, sl83, sl84, sl85, sl86, sl87, sl88, sl89, sl90, sl91, sl92, sl93, sl94, sl95, sl96, sl97, sl98, sl99, sl100, sl101, sl102, sl103, sl104, sl105, sl106, sl107, sl108, sl109, sl110, sl111, sl112, sl113, sl114, sl115, sl116, sl117, sl118, sl119, sl120, sl121, sl122, sl123, sl124, sl125, sl126, sl127, sl128, sl129, sl130, sl131, sl132, sl133, sl134, sl135, sl136, sl137, sl138, sl139, sl140, sl141, sl142, sl143, sl144, sl145, sl146, sl147, sl148, sl149, sl150, sl151, sl152, sl153, sl154, sl155, sl156, sl157, sl158, sl159, sl160, sl161, sl162, sl163, sl164, sl165, sl166, sl167, sl168, sl169, sl170, sl171, sl172, sl173, sl174, sl175, sl176, sl177, sl178, sl179, sl180, sl181, sl182, sl183, sl184, sl185, sl186, sl187, sl188, sl189, sl190, sl191, sl192, sl193, sl194, sl195, sl196, sl197, sl198, sl199, sl200, sl201, sl202, sl203, sl204, sl205, sl206, sl207, sl208, sl209, sl210, sl211, sl212, sl213, sl214, sl215, sl216, sl217, sl218, sl219, sl220, sl221, sl222, sl223, sl224, sl225, sl226, sl227, sl228, sl229, sl230, sl231, sl232, sl233, sl234, sl235, sl236, sl237, sl238, sl239, sl240, sl241, sl242, sl243, sl244, sl245, sl246, sl247, sl248, sl249, sl250, sl251, sl252, sl253, sl254, sl255, sl256, sl257, sl258, sl259, sl260, sl261, sl262, sl263, sl264, sl265, sl266, sl267, sl268, sl269, sl270, sl271, sl272, sl273, sl274, sl275, sl276, sl277, sl278, sl279, sl280, sl281, sl282, sl283, sl284, sl285, sl286, sl287, sl288, sl289, sl290, sl291, sl292, sl293, sl294, sl295, sl296, sl297, sl298, sl299, sl300, sl301], []⟩ W1 := by
  simp only [blkOnce, blkOnceS]
  have HA := Bx.mk (pz_die wk (tk + mw) W1 HS1.out.pz)
  have HI5 := HI.out.die HS1.out.pz.ok (x := wk) (t := tk + mw) (by rw [HTK.out]; omega)
  unfold Pl.logDie at HI5
  obtain ⟨r, hr⟩ : ∃ r, (D.die wk (tk + mw)).1 = r := ⟨_, rfl⟩
  rw [hr] at HA HI5
  have hm40 := HI.out.Ll
  rw [HM.out] at hm40
  have HI5 := Bx.mk HI5
  have HTB := Bx.mk (fun tg (htg : (Value.slice ta m tc).ownBlock = some tg) => (show bo ≠ tg from kind_ne (w := W1) (x := some 69) (y := some 80) hb1 (own_kind HS1.out.tr htg) (by decide)))
  have hZbo : ¬ Z bo := fun hz => by have := HZB.out _ hz; omega
  clear hr
  go_wp2_with fail
  refine HA.out.mono ?_
  rintro e w5 ⟨rfl, Z5, P5, S5⟩
  dsimp only
  have HP5 := Bx.mk (HS1.out.step P5 S5)
  have o15 : w5.cell? ⟨bo, 1, none⟩ = some (.int .i64 wk) := by
    rw [← o1]
    unfold World.cell?
    rw [S5.block bo (World.block_lt_of_cell? _ _ o1) hZbo]
  clear HA P5 S5 o1 HS1 hZbo
  by_cases hr0 : r = 0
  · subst hr0
    have HI6 := HI5.out
    rw [if_pos rfl, if_pos rfl] at HI6
    have HI6 := Bx.mk HI6
    obtain ⟨D5, hD5⟩ : ∃ E, (D.die wk (tk + mw)).2 = E := ⟨_, rfl⟩
    rw [hD5] at HP5 HI6
    clear HI5 hD5
    go_wp2_with fail
    go_loopw [21] (fun u W6 => ∃ k : Nat, u = .int .i64 (k : Int) ∧ k ≤ m ∧ Bx (OncS w W6 p Z5 D5 (lim : Int) (.slice ta m tc) ((L.take k).map (Tr.mark wk) ++ L.drop k) ga a ov ops) ∧ W6.cell? ⟨bo, 1, none⟩ = some (.int .i64 wk)) (fun u _ => m - (intOf u).toNat)
    case atStart => exact ⟨0, rfl, Nat.zero_le _, by simpa using HP5, o15⟩
    case round =>
      rename World => W6
      clear o15 HP5
      obtain ⟨k, rfl, hk, HS6, o16⟩ := hrel
      by_cases hlt2 : k < m
      · have hlt2I : (k : Int) < (m : Int) := by omega
        obtain ⟨y, hy⟩ : ∃ y, L[k]? = some y := ⟨_, List.getElem?_eq_getElem (by rw [HM.out]; omega)⟩
        obtain ⟨tg, tc', htv2, htc, y0, y1, y2, y3⟩ := HS6.out.four (mark_at wk hy)
        injection htv2 with t1 t2 t3
        subst t1
        rw [mark_len, HM.out] at htc
        clear t2 t3
        have hbt := HTB.out tg rfl
        have hfr : W6.frozen? ⟨tg, k * 4 + 3, none⟩ = false := by
          have hr := HS6.out.tr
          rw [mark_len, HM.out] at hr
          exact hr.frozenAt _
        have htl : tg < W6.heap.size := World.block_lt_of_cell? _ _ y0
        have HY := Bx.mk hy
        obtain ⟨yw, hyw⟩ : ∃ t, y.worker = t := ⟨_, rfl⟩
        rw [hyw] at y1
        have HYW := Bx.mk hyw
        clear hy y0 y2 hyw
        by_cases hw1 : yw = wk
        · subst hw1
          have hS7 := HS6.out.setT (g := tg) (c := tc) (n := m) rfl (mark_at yw HY.out)
          rw [mark_set yw HY.out HYW.out] at hS7
          have HS7 := Bx.mk hS7
          have o17 := (cell_set_ne (w := W6) hbt (k * 4 + 3) 1 (.int .i64 0)).trans o16
          clear hS7
          go_wp2_with fail
          go_quiet (fail)
          have y3' : (W6.drewN nq).cell? ⟨tg, k * 4 + 3, none⟩ = _ := y3
          have hfr' : (W6.drewN nq).frozen? ⟨tg, k * 4 + 3, none⟩ = false := hfr
          have htl' : tg < (W6.drewN nq).heap.size := htl
          go_wp2_with fail
          go_roundw
          case rel => exact ⟨k + 1, by simp, by omega, ⟨HS7.out.later ⟨rfl, rfl, rfl, Nat.le_refl _, fun _ _ => rfl⟩⟩, o17⟩
          case measure => simp [intOf]; omega
        · have hwb : (yw == wk) = false := by simp [hw1]
          have hS7 := HS6.out
          rw [mark_not wk HY.out (by rw [HYW.out]; exact hw1)] at hS7
          have HS7 := Bx.mk hS7
          clear hS7
          go_wp2_with fail
          go_quiet (fail)
          go_wp2_with fail
          go_roundw
          case rel => exact ⟨k + 1, by simp, by omega, ⟨HS7.out.later (below_drewN (Below.refl _ _) nq)⟩, o16⟩
          case measure => simp [intOf]; omega
      · obtain rfl : k = m := by omega
        have hS7 := HS6.out
        rw [← HM.out, List.take_length, List.drop_length, List.append_nil, HM.out] at hS7
        have HS7 := Bx.mk hS7
        clear hS7 HS6
        go_wp2_with fail
        exact hN.out ⟨D5, _, a, Z5, by rw [HI6.out.2], ⟨HI6.out.1⟩, HS7⟩
  · have HI6 := HI5.out
    rw [if_neg hr0, if_neg hr0] at HI6
    have HI6 := Bx.mk HI6
    have hrb : (r == 0) = false := by simp [hr0]
    clear HI5
    go_wp2_with fail
    exact hN.out ⟨_, L, a, Z5, by rw [HI6.out.2, HTK.out], ⟨HI6.out.1⟩, HP5⟩
set_option linter.unusedSimpArgs false in
set_option maxRecDepth 20000 in
set_option maxHeartbeats 4000000 in
theorem once_k2 {w W1 : World} {p ga bo i lim m tc : Nat} {Z : Nat → Prop} {D : Pl} {L : List Tr} {a : List Int} {ops : List PV} {ov : Value} {ta : Option Addr} {tk mw nn : Int} {sl0 sl1 sl2 sl3 sl4 sl7 sl8 sl15 sl16 sl17 sl18 sl19 sl20 sl21 sl22 sl23 sl24 sl25 sl26 sl27 sl28 sl29 sl30 sl31 sl32 sl33 sl34 sl35 sl36 sl37 sl38 sl39 sl40 sl41 sl42 sl43 sl44 sl45 sl46 sl47 sl48 sl49 sl50 sl51 sl52 sl53 sl54 sl55 sl56 sl57 sl58 sl59 sl60 sl61 sl63 sl64 sl65 sl66 sl67 sl68 sl69 sl70 sl71 sl72 sl73 sl74 sl75 sl76 sl77 sl78 sl79 sl80 sl81 sl82 sl83 sl84 sl85 sl86 sl87 sl88 sl89 sl90 sl91 sl92 sl93 sl94 sl95 sl96 sl97 sl98 sl99 sl100 sl101 sl102 sl103 sl104 sl105 sl106 sl107 sl108 sl109 sl110 sl111 sl112 sl113 sl114 sl115 sl116 sl117 sl118 sl119 sl120 sl121 sl122 sl123 sl124 sl125 sl126 sl127 sl128 sl129 sl130 sl131 sl132 sl133 sl134 sl135 sl136 sl137 sl138 sl139 sl140 sl141 sl142 sl143 sl144 sl145 sl146 sl147 sl148 sl149 sl150 sl151 sl152 sl153 sl154 sl155 sl156 sl157 sl158 sl159 sl160 sl161 sl162 sl163 sl164 sl165 sl166 sl167 sl168 sl169 sl170 sl171 sl172 sl173 sl174 sl175 sl176 sl177 sl178 sl179 sl180 sl181 sl182 sl183 sl184 sl185 sl186 sl187 sl188 sl189 sl190 sl191 sl192 sl193 sl194 sl195 sl196 sl197 sl198 sl199 sl200 sl201 sl202 sl203 sl204 sl205 sl206 sl207 sl208 sl209 sl210 sl211 sl212 sl213 sl214 sl215 sl216 sl217 sl218 sl219 sl220 sl221 sl222 sl223 sl224 sl225 sl226 sl227 sl228 sl229 sl230 sl231 sl232 sl233 sl234 sl235 sl236 sl237 sl238 sl239 sl240 sl241 sl242 sl243 sl244 sl245 sl246 sl247 sl248 sl249 sl250 sl251 sl252 sl253 sl254 sl255 sl256 sl257 sl258 sl259 sl260 sl261 sl262 sl263 sl264 sl265 sl266 sl267 sl268 sl269 sl270 sl271 sl272 sl273 sl274 sl275 sl276 sl277 sl278 sl279 sl280 sl281 sl282 sl283 sl284 sl285 sl286 sl287 sl288 sl289 sl290 sl291 sl292 sl293 sl294 sl295 sl296 sl297 sl298 sl299 sl300 sl301 : Value} {Q : Exit → Act → World → Prop} (HI : Bx (OnceI (lim : Int) i D L a)) (HS1 : Bx (OncS w W1 p Z D (lim : Int) (.slice ta m tc) L ga a ov ops)) (HTK : Bx (D.tick = tk)) (o2 : W1.cell? ⟨bo, 2, none⟩ = some (.int .i64 nn)) (HM : Bx (L.length = m)) (hi40 : i ≤ 39) (hmw2 : 0 ≤ mw ∧ mw ≤ 3) (hn0 : 0 ≤ nn)
    (hN : Bx (∀ {v4 v9 v10 v13 v14 v15 v16 v17 v18 v19 v20 v21 v22 v23 v24 v46 v47 v48 v49 v50 v51 v52 v53 v54 v55 v56 v57 v58 v59 v60 v61 v62 v63 v64 v65 v66 v67 v68 v69 v70 v71 v72 v73 v74 v75 v76 v77 v78 v79 v80 v81 v82 v83 v84 v85 v86 v87 v88 v89 v90 v91 v92 v93 v94 v95 v96 v97 v98 v99 v100 v101 v102 v103 v104 v105 v106 v107 v108 v109 v110 v111 v112 v113 v114 v115 v116 v117 v118 v119 v120 v121 v122 v123 v124 v125 v126 v127 v128 v129 v130 v131 v132 v133 v134 v135 v136 v137 v138 v139 v140 v141 v142 v143 v144 v145 v146 v147 v148 v149 v150 v151 v152 v153 v154 v155 v156 v157 v158 v159 v160 v161 v162 v163 v164 v165 v166 v167 v168 v169 v170 v171 v172 v173 v174 v175 v176 v177 v178 v179 v180 v181 v182 v183 v184 v185 v186 v187 v188 v189 v190 v191 v192 v193 v194 v195 v196 v197 v198 v199 v200 v201 v202 v203 v204 v205 v206 v207 v208 v209 v210 v211 v212 v213 v214 v215 v216 v217 v218 v219 v220 v221 v222 v223 v224 v225 v226 v227 v228 v229 v230 v231 : Value} {W' : World}, OnceR w W' p lim i ga ov ops v9 v10 → Q .normal ⟨#[sl0, sl1, sl2, sl3, v4, .int .i64 (lim : Int), .pointer (some ⟨p, 0, none⟩), sl7, sl8, v9, v10, .slice (some ⟨ga, 0, none⟩) 16 16, .int .i64 (i : Int), v13, v14, v15, v16, v17, v18, v19, v20, v21, v22, v23, v24, sl25, sl26, sl27, sl28, sl29, sl30, sl31, sl32, sl33, sl34, sl35, sl36, sl37, sl38, sl39, sl40, sl41, sl42, sl43, sl44, sl45, v46, v47, v48, v49, v50, v51, v52, v53, v54, v55, v56, v57, v58, v59, v60, v61, v62, v63, v64, v65, v66, v67, v68, v69, v70, v71, v72, v73, v74, v75, v76, v77, v78, v79, v80, v81, v82, v83, v84, v85, v86, v87, v88, v89, v90, v91, v92, v93, v94, v95, v96, v97, v98, v99, v100, v101, v102, v103, v104, v105, v106, v107, v108, v109, v110, v111, v112, v113, v114, v115, v116, v117, v118, v119, v120, v121, v122, v123, v124, v125, v126, v127, v128, v129, v130, v131, v132, v133, v134, v135, v136, v137, v138, v139, v140, v141, v142, v143, v144, v145, v146, v147, v148, v149, v150, v151, v152, v153, v154, v155, v156, v157, v158, v159, v160, v161, v162, v163, v164, v165, v166, v167, v168, v169, v170, v171, v172, v173, v174, v175, v176, v177, v178, v179, v180, v181, v182, v183, v184, v185, v186, v187, v188, v189, v190, v191, v192, v193, v194, v195, v196, v197, v198, v199, v200, v201, v202, v203, v204, v205, v206, v207, v208, v209, v210, v211, v212, v213, v214, v215, v216, v217, v218, v219, v220, v221, v222, v223, v224, v225, v226, v227, v228, v229, v230, v231, sl232, sl233, sl234, sl235, sl236, sl237, sl238, sl239, sl240, sl241, sl242, sl243, sl244, sl245, sl246, sl247, sl248, sl249, sl250, sl251, sl252, sl253, sl254, sl255, sl256, sl257, sl258, sl259, sl260, sl261, sl262, sl263, sl264, sl265, sl266, sl267, sl268, sl269, sl270, sl271, sl272, sl273, sl274, sl275, sl276, sl277, sl278, sl279, sl280, sl281, sl282, sl283, sl284, sl285, sl286, sl287, sl288, sl289, sl290, sl291, sl292, sl293, sl294, sl295, sl296, sl297, sl298, sl299, sl300, sl301], []⟩ W')) (hE : Bx (∀ {v4 v9 v10 v13 v14 v15 v16 v17 v18 v19 v20 v21 v22 v23 v24 v46 v47 v48 v49 v50 v51 v52 v53 v54 v55 v56 v57 v58 v59 v60 v61 v62 v63 v64 v65 v66 v67 v68 v69 v70 v71 v72 v73 v74 v75 v76 v77 v78 v79 v80 v81 v82 v83 v84 v85 v86 v87 v88 v89 v90 v91 v92 v93 v94 v95 v96 v97 v98 v99 v100 v101 v102 v103 v104 v105 v106 v107 v108 v109 v110 v111 v112 v113 v114 v115 v116 v117 v118 v119 v120 v121 v122 v123 v124 v125 v126 v127 v128 v129 v130 v131 v132 v133 v134 v135 v136 v137 v138 v139 v140 v141 v142 v143 v144 v145 v146 v147 v148 v149 v150 v151 v152 v153 v154 v155 v156 v157 v158 v159 v160 v161 v162 v163 v164 v165 v166 v167 v168 v169 v170 v171 v172 v173 v174 v175 v176 v177 v178 v179 v180 v181 v182 v183 v184 v185 v186 v187 v188 v189 v190 v191 v192 v193 v194 v195 v196 v197 v198 v199 v200 v201 v202 v203 v204 v205 v206 v207 v208 v209 v210 v211 v212 v213 v214 v215 v216 v217 v218 v219 v220 v221 v222 v223 v224 v225 v226 v227 v228 v229 v230 v231 : Value} {W' : World}, OnceR w W' p lim i ga ov ops v9 v10 → Q (.exit 1) ⟨#[sl0, sl1, sl2, sl3, v4, .int .i64 (lim : Int), .pointer (some ⟨p, 0, none⟩), sl7, sl8, v9, v10, .slice (some ⟨ga, 0, none⟩) 16 16, .int .i64 (i : Int), v13, v14, v15, v16, v17, v18, v19, v20, v21, v22, v23, v24, sl25, sl26, sl27, sl28, sl29, sl30, sl31, sl32, sl33, sl34, sl35, sl36, sl37, sl38, sl39, sl40, sl41, sl42, sl43, sl44, sl45, v46, v47, v48, v49, v50, v51, v52, v53, v54, v55, v56, v57, v58, v59, v60, v61, v62, v63, v64, v65, v66, v67, v68, v69, v70, v71, v72, v73, v74, v75, v76, v77, v78, v79, v80, v81, v82, v83, v84, v85, v86, v87, v88, v89, v90, v91, v92, v93, v94, v95, v96, v97, v98, v99, v100, v101, v102, v103, v104, v105, v106, v107, v108, v109, v110, v111, v112, v113, v114, v115, v116, v117, v118, v119, v120, v121, v122, v123, v124, v125, v126, v127, v128, v129, v130, v131, v132, v133, v134, v135, v136, v137, v138, v139, v140, v141, v142, v143, v144, v145, v146, v147, v148, v149, v150, v151, v152, v153, v154, v155, v156, v157, v158, v159, v160, v161, v162, v163, v164, v165, v166, v167, v168, v169, v170, v171, v172, v173, v174, v175, v176, v177, v178, v179, v180, v181, v182, v183, v184, v185, v186, v187, v188, v189, v190, v191, v192, v193, v194, v195, v196, v197, v198, v199, v200, v201, v202, v203, v204, v205, v206, v207, v208, v209, v210, v211, v212, v213, v214, v215, v216, v217, v218, v219, v220, v221, v222, v223, v224, v225, v226, v227, v228, v229, v230, v231, sl232, sl233, sl234, sl235, sl236, sl237, sl238, sl239, sl240, sl241, sl242, sl243, sl244, sl245, sl246, sl247, sl248, sl249, sl250, sl251, sl252, sl253, sl254, sl255, sl256, sl257, sl258, sl259, sl260, sl261, sl262, sl263, sl264, sl265, sl266, sl267, sl268, sl269, sl270, sl271, sl272, sl273, sl274, sl275, sl276, sl277, sl278, sl279, sl280, sl281, sl282, sl283, sl284, sl285, sl286, sl287, sl288, sl289, sl290, sl291, sl292, sl293, sl294, sl295, sl296, sl297, sl298, sl299, sl300, sl301], []⟩ W')) :
    Code.wp Try.prog blkOnce Q ⟨#[sl0, sl1, sl2, sl3, sl4, .int .i64 (lim : Int), .pointer (some ⟨p, 0, none⟩), sl7, sl8, .int .i64 tk, .slice ta m tc, .slice (some ⟨ga, 0, none⟩) 16 16, .int .i64 (i : Int), .pointer (some ⟨bo, 0, none⟩), .int .i64 (tk + mw), sl15, sl16, sl17, sl18, sl19, sl20, sl21, sl22, sl23, sl24, sl25, sl26, sl27, sl28, sl29, sl30, sl31, sl32, sl33, sl34, sl35, sl36, sl37, sl38, sl39, sl40, sl41, sl42, sl43, sl44, sl45, sl46, sl47, sl48, sl49, sl50, sl51, sl52, sl53, sl54, sl55, sl56, sl57, sl58, sl59, sl60, sl61, .int .i64 2, sl63, sl64, sl65, sl66, sl67, sl68, sl69, sl70, sl71, sl72, sl73, sl74, sl75, sl76, sl77, sl78, sl79, sl80, sl81, sl82, sl83, sl84, sl85, sl86, sl87, sl88, sl89, sl90, sl91, sl92, sl93, sl94, sl95, sl96, sl97, sl98, sl99, sl100, sl101, sl102, sl103, sl104, sl105, sl106, sl107, sl108, sl109, sl110, sl111, sl112, sl113, sl114, sl115, sl116, sl117, sl118, sl119, sl120, sl121, sl122, sl123, sl124, sl125, sl126, sl127, sl128, sl129, sl130, sl131, sl132, sl133, sl134, sl135, sl136, sl137, sl138, sl139, sl140, sl141, sl142, sl143, sl144, sl145, sl146, sl147, sl148, sl149, sl150, sl151, sl152, sl153, sl154, sl155, sl156, sl157, sl158, sl159, sl160, sl161, sl162, sl163, sl164, sl165, sl166, sl167, sl168, sl169, sl170, sl171, sl172, sl173, sl174, sl175, sl176, sl177, sl178, sl179, sl180, sl181, sl182, sl183, sl184, sl185, sl186, sl187, sl188, sl189, sl190, sl191, sl192, sl193, sl194, sl195, sl196, sl197, sl198, sl199, sl200, sl201, sl202, sl203, sl204, sl205, sl206, sl207, sl208, sl209, sl210, sl211, sl212, sl213, sl214, sl215, sl216, sl217, sl218, sl219, sl220, sl221, sl222, sl223, sl224, sl225, sl226, sl227, sl228, sl229, sl230, sl231, sl232, sl233, sl234, sl235, sl236, sl237, sl238, sl239, sl240, sl241, sl242, sl243, sl244, sl245, sl246, sl247, sl248, sl249, sl250, sl251, sl252, sl253, sl254, sl255, sl256, sl257, sl258, sl259, sl260, sl261, sl262, sl263, sl264, sl265, sl266, sl267, sl268, sl269, sl270, sl271, sl272, sl273, sl274, sl275, sl276, sl277, sl278, sl279, sl280, sl281, sl282, sl283, sl284, sl285, sl286, sl287, sl288, sl289, sl290, sl291, sl292, sl293, sl294, sl295, sl296, sl297, sl298, sl299, sl300, sl301], []⟩ W1 := by
  simp only [blkOnce, blkOnceS]
  have hm40 := HI.out.Ll
  rw [HM.out] at hm40
  by_cases hm0 : m = 0
  · subst hm0
    have HI5 := Bx.mk HI.out.same
    go_wp2_with fail
    first | exact hN.out ⟨D, L, a, Z, by rw [HTK.out], HI5, HS1⟩ | exact hE.out ⟨D, L, a, Z, by rw [HTK.out], HI5, HS1⟩
  · have hmI : ¬ (m : Int) = 0 := by omega
    have hmp : 0 < (m : Int) := by omega
    have hmod0 := Int.emod_nonneg nn hmI
    have hmod1 := Int.emod_lt_of_pos nn hmp
    obtain ⟨j, hj⟩ : ∃ j : Nat, nn % (m : Int) = (j : Int) := ⟨(nn % (m : Int)).toNat, by omega⟩
    rw [hj] at hmod0 hmod1
    obtain ⟨y, hy⟩ : ∃ y, L[j]? = some y := ⟨_, List.getElem?_eq_getElem (by rw [HM.out]; omega)⟩
    obtain ⟨tg, tc', htv2, htc, y0, y1, y2, y3⟩ := HS1.out.four hy
    rw [HM.out] at htv2 htc
    injection htv2 with t1 t2 t3
    subst t1
    clear t2 t3
    have HY := Bx.mk (HI.out.answer HS1.out.pz.ok (List.mem_of_getElem? hy) (t := tk + mw) (by rw [HTK.out]; omega) (by rw [HTK.out]; omega) (by omega))
    obtain ⟨r1, r2, jy, u, hjt, hjl, hau, r3, hI⟩ := HY.out
    rw [hjt] at r1 r2 r3 hI y0
    have hnum : y.num ≤ 1000 := by
      obtain ⟨e, he, hg⟩ := HI.out.log.get y (List.mem_of_getElem? hy)
      have h1 := HI.out.tl _ e he
      have h2 := (List.getElem?_eq_some_iff.1 hg).1
      omega
    have HR2 := Bx.mk r2
    have HAU := Bx.mk hau
    have HI' := Bx.mk hI
    have HR1 := Bx.mk r1
    have HR3 := Bx.mk r3
    clear hy HY r1 r2 r3 hI hau hjt
    go_upto_region 17 with fail
    have B2 := (Below.refl W1.heap.size W1).alloc (Nat.le_refl _) (.cells #[.int .i64 (jy : Int), .int .i64 y.worker, .int .i64 (y.num : Int), .int .i64 (y.exp (lim : Int))] 80)
    have hb2 := World.alloc_heap_new W1 (.cells #[.int .i64 (jy : Int), .int .i64 y.worker, .int .i64 (y.num : Int), .int .i64 (y.exp (lim : Int))] 80)
    have HS2 := Bx.mk (HS1.out.later B2)
    have HBW2 := Bx.mk HS1.out.bel.size
    obtain ⟨W2, hW2⟩ : ∃ WW, W1.alloc (.cells #[.int .i64 (jy : Int), .int .i64 y.worker, .int .i64 (y.num : Int), .int .i64 (y.exp (lim : Int))] 80) = WW := ⟨_, rfl⟩
    rw [hW2] at B2 hb2 HS2 ⊢
    clear hW2
    obtain ⟨bx, hbx⟩ : ∃ b, W1.heap.size = b := ⟨_, rfl⟩
    have HZX := Bx.mk (fun b hb => (show b < bx from by rw [← hbx]; exact HS1.out.pz.zl b hb))
    rw [hbx] at hb2 HBW2 ⊢
    have x0 : W2.cell? ⟨bx, 0, none⟩ = some (.int .i64 (jy : Int)) := by simp [World.cell?, hb2]
    have x1 : W2.cell? ⟨bx, 1, none⟩ = some (.int .i64 y.worker) := by simp [World.cell?, hb2]
    have x2 : W2.cell? ⟨bx, 2, none⟩ = some (.int .i64 (y.num : Int)) := by simp [World.cell?, hb2]
    have hiw : (((i : Int) + 1) % 256) = ((i : Int) + 1) := by omega
    have HB2 := Bx.mk hb2
    have hi40 : i ≤ 39 := by omega
    clear B2 hb2 hbx HS1 y0 y1 y2 y3 o2
    go_wp2_with fail
    have B3 := (Below.refl W2.heap.size W2).alloc (Nat.le_refl _) (.cells #[.int .u8 ((i : Int) + 1)] 5)
    have e1 : (Value.int .u8 ((i : Int) + 1)) = vB (UInt8.ofNat (i + 1)) := by unfold vB; congr 1; rw [UInt8.toNat_ofNat']; omega
    have R3 : Rv (W2.alloc (.cells #[.int .u8 ((i : Int) + 1)] 5)) (.slice (some ⟨W2.heap.size, 0, none⟩) 1 1) 1 ([UInt8.ofNat (i + 1)].map vB) := by
      have := Rv.lit W2 [vB (UInt8.ofNat (i + 1))] 5 1 (by decide)
      rw [← e1] at this
      rw [List.map_cons, List.map_nil, ← e1]
      exact this
    have HS3 := Bx.mk (HS2.out.later B3)
    have hz3 : (W2.alloc (.cells #[.int .u8 ((i : Int) + 1)] 5)).heap.size = W2.heap.size + 1 := World.size_alloc _ _
    have hoff : Off (.slice (some ⟨W2.heap.size, 0, none⟩) 1 1) Z := fun b hb hx => by
      obtain rfl : W2.heap.size = b := Option.some.inj hb
      have := HS2.out.pz.zl _ hx
      omega
    have x03 := (B3.cell (p := ⟨bx, 0, none⟩) (World.block_lt_of_cell? _ _ x0)).trans x0
    obtain ⟨W3, hW3⟩ : ∃ WW, W2.alloc (.cells #[.int .u8 ((i : Int) + 1)] 5) = WW := ⟨_, rfl⟩
    rw [hW3] at B3 R3 HS3 hz3 x03 ⊢
    clear hW3
    refine (pz_answer (jy : Int) y.worker (y.num : Int) (.slice (some ⟨W2.heap.size, 0, none⟩) 1 1) [UInt8.ofNat (i + 1)] (tk + mw) W3 HS3.out.pz (by omega) R3 (by show 1 ≤ 1000000000; decide) hoff).mono ?_
    rintro e w5 ⟨rfl, Z5, P5, S5⟩
    dsimp only
    rw [HR1.out, HR3.out]
    have HS5 := Bx.mk (HS3.out.step P5 S5)
    have x05 : w5.cell? ⟨bx, 0, none⟩ = some (.int .i64 (jy : Int)) := by
      rw [← x03]
      unfold World.cell?
      rw [S5.block bx (World.block_lt_of_cell? _ _ x03) (fun hz => by have := HZX.out _ hz; omega)]
    have hans := HS5.out.ans HAU.out
    have hfa : w5.frozen? ⟨ga, jy, none⟩ = false := HS5.out.an.frozenAt jy
    have hgl : ga < w5.heap.size := World.block_lt_of_cell? _ _ hans
    clear HS3 P5 S5 x03 x0 x1 x2 hoff R3 B3 hz3 HS2 HB2 HZX e1
    by_cases hu0 : u = 0
    · subst hu0
      have HI6 := HI'.out
      rw [if_pos rfl] at HI6
      have HI6 := Bx.mk HI6
      clear HI'
      go_wp2_with fail
      first | exact hN.out ⟨_, L, _, Z5, by rw [HR2.out], HI6, ⟨HS5.out.setA ((i : Int) + 1)⟩⟩ | exact hE.out ⟨_, L, _, Z5, by rw [HR2.out], HI6, ⟨HS5.out.setA ((i : Int) + 1)⟩⟩
    · have HI6 := HI'.out
      rw [if_neg hu0] at HI6
      have HI6 := Bx.mk HI6
      have hd0 : decide (u = 0) = false := decide_eq_false hu0
      have hbq : (u == 0) = false := by simp [hu0]
      rw [hd0]
      clear HI'
      go_wp2_with fail
      first | exact hN.out ⟨_, L, a, Z5, by rw [HR2.out], HI6, HS5⟩ | exact hE.out ⟨_, L, a, Z5, by rw [HR2.out], HI6, HS5⟩
set_option linter.unusedSimpArgs false in
set_option maxRecDepth 20000 in
set_option maxHeartbeats 4000000 in
theorem once_k1 {w W1 : World} {p ga bo i lim m tc : Nat} {Z : Nat → Prop} {D : Pl} {L : List Tr} {a : List Int} {ops : List PV} {ov : Value} {ta : Option Addr} {tk mw wk : Int} {sl0 sl1 sl2 sl3 sl4 sl7 sl8 sl15 sl16 sl17 sl18 sl19 sl20 sl21 sl22 sl23 sl24 sl25 sl26 sl27 sl28 sl29 sl30 sl31 sl32 sl33 sl34 sl35 sl36 sl37 sl38 sl39 sl40 sl41 sl42 sl43 sl44 sl45 sl46 sl47 sl48 sl49 sl50 sl51 sl52 sl53 sl54 sl55 sl56 sl57 sl58 sl59 sl60 sl61 sl63 sl64 sl65 sl66 sl67 sl68 sl69 sl70 sl71 sl72 sl73 sl74 sl75 sl76 sl77 sl78 sl79 sl80 sl81 sl82 sl83 sl84 sl85 sl86 sl87 sl88 sl89 sl90 sl91 sl92 sl93 sl94 sl95 sl96 sl97 sl98 sl99 sl100 sl101 sl102 sl103 sl104 sl105 sl106 sl107 sl108 sl109 sl110 sl111 sl112 sl113 sl114 sl115 sl116 sl117 sl118 sl119 sl120 sl121 sl122 sl123 sl124 sl125 sl126 sl127 sl128 sl129 sl130 sl131 sl132 sl133 sl134 sl135 sl136 sl137 sl138 sl139 sl140 sl141 sl142 sl143 sl144 sl145 sl146 sl147 sl148 sl149 sl150 sl151 sl152 sl153 sl154 sl155 sl156 sl157 sl158 sl159 sl160 sl161 sl162 sl163 sl164 sl165 sl166 sl167 sl168 sl169 sl170 sl171 sl172 sl173 sl174 sl175 sl176 sl177 sl178 sl179 sl180 sl181 sl182 sl183 sl184 sl185 sl186 sl187 sl188 sl189 sl190 sl191 sl192 sl193 sl194 sl195 sl196 sl197 sl198 sl199 sl200 sl201 sl202 sl203 sl204 sl205 sl206 sl207 sl208 sl209 sl210 sl211 sl212 sl213 sl214 sl215 sl216 sl217 sl218 sl219 sl220 sl221 sl222 sl223 sl224 sl225 sl226 sl227 sl228 sl229 sl230 sl231 sl232 sl233 sl234 sl235 sl236 sl237 sl238 sl239 sl240 sl241 sl242 sl243 sl244 sl245 sl246 sl247 sl248 sl249 sl250 sl251 sl252 sl253 sl254 sl255 sl256 sl257 sl258 sl259 sl260 sl261 sl262 sl263 sl264 sl265 sl266 sl267 sl268 sl269 sl270 sl271 sl272 sl273 sl274 sl275 sl276 sl277 sl278 sl279 sl280 sl281 sl282 sl283 sl284 sl285 sl286 sl287 sl288 sl289 sl290 sl291 sl292 sl293 sl294 sl295 sl296 sl297 sl298 sl299 sl300 sl301 : Value} {Q : Exit → Act → World → Prop} (HI : Bx (OnceI (lim : Int) i D L a)) (HS1 : Bx (OncS w W1 p Z D (lim : Int) (.slice ta m tc) L ga a ov ops)) (HTK : Bx (D.tick = tk)) (o1 : W1.cell? ⟨bo, 1, none⟩ = some (.int .i64 wk)) (HM : Bx (L.length = m)) (hi40 : i ≤ 39) (hmw2 : 0 ≤ mw ∧ mw ≤ 3) (HZB : Bx (∀ b, Z b → b < bo)) (htk0 : 0 ≤ tk) (htk2 : tk ≤ 120) (hl2 : lim ≤ 10)
    (hN : Bx (∀ {v4 v9 v10 v13 v14 v15 v16 v17 v18 v19 v20 v21 v22 v23 v24 v46 v47 v48 v49 v50 v51 v52 v53 v54 v55 v56 v57 v58 v59 v60 v61 v62 v63 v64 v65 v66 v67 v68 v69 v70 v71 v72 v73 v74 v75 v76 v77 v78 v79 v80 v81 v82 v83 v84 v85 v86 v87 v88 v89 v90 v91 v92 v93 v94 v95 v96 v97 v98 v99 v100 v101 v102 v103 v104 v105 v106 v107 v108 v109 v110 v111 v112 v113 v114 v115 v116 v117 v118 v119 v120 v121 v122 v123 v124 v125 v126 v127 v128 v129 v130 v131 v132 v133 v134 v135 v136 v137 v138 v139 v140 v141 v142 v143 v144 v145 v146 v147 v148 v149 v150 v151 v152 v153 v154 v155 v156 v157 v158 v159 v160 v161 v162 v163 v164 v165 v166 v167 v168 v169 v170 v171 v172 v173 v174 v175 v176 v177 v178 v179 v180 v181 v182 v183 v184 v185 v186 v187 v188 v189 v190 v191 v192 v193 v194 v195 v196 v197 v198 v199 v200 v201 v202 v203 v204 v205 v206 v207 v208 v209 v210 v211 v212 v213 v214 v215 v216 v217 v218 v219 v220 v221 v222 v223 v224 v225 v226 v227 v228 v229 v230 v231 : Value} {W' : World}, OnceR w W' p lim i ga ov ops v9 v10 → Q .normal ⟨#[sl0, sl1, sl2, sl3, v4, .int .i64 (lim : Int), .pointer (some ⟨p, 0, none⟩), sl7, sl8, v9, v10, .slice (some ⟨ga, 0, none⟩) 16 16, .int .i64 (i : Int), v13, v14, v15, v16, v17, v18, v19, v20, v21, v22, v23, v24, sl25, sl26, sl27, sl28, sl29, sl30, sl31, sl32, sl33, sl34, sl35, sl36, sl37, sl38, sl39, sl40, sl41, sl42, sl43, sl44, sl45, v46, v47, v48, v49, v50, v51, v52, v53, v54, v55, v56, v57, v58, v59, v60, v61, v62, v63, v64, v65, v66, v67, v68, v69, v70, v71, v72, v73, v74, v75, v76, v77, v78, v79, v80, v81, v82, v83, v84, v85, v86, v87, v88, v89, v90, v91, v92, v93, v94, v95, v96, v97, v98, v99, v100, v101, v102, v103, v104, v105, v106, v107, v108, v109, v110, v111, v112, v113, v114, v115, v116, v117, v118, v119, v120, v121, v122, v123, v124, v125, v126, v127, v128, v129, v130, v131, v132, v133, v134, v135, v136, v137, v138, v139, v140, v141, v142, v143, v144, v145, v146, v147, v148, v149, v150, v151, v152, v153, v154, v155, v156, v157, v158, v159, v160, v161, v162, v163, v164, v165, v166, v167, v168, v169, v170, v171, v172, v173, v174, v175, v176, v177, v178, v179, v180, v181, v182, v183, v184, v185, v186, v187, v188, v189, v190, v191, v192, v193, v194, v195, v196, v197, v198, v199, v200, v201, v202, v203, v204, v205, v206, v207, v208, v209, v210, v211, v212, v213, v214, v215, v216, v217, v218, v219, v220, v221, v222, v223, v224, v225, v226, v227, v228, v229, v230, v231, sl232, sl233, sl234, sl235, sl236, sl237, sl238, sl239, sl240, sl241, sl242, sl243, sl244, sl245, sl246, sl247, sl248, sl249, sl250, sl251, sl252, sl253, sl254, sl255, sl256, sl257, sl258, sl259, sl260, sl261, sl262, sl263, sl264, sl265, sl266, sl267, sl268, sl269, sl270, sl271, sl272, sl273, sl274, sl275, sl276, sl277, sl278, sl279, sl280, sl281, sl282, sl283, sl284, sl285, sl286, sl287, sl288, sl289, sl290, sl291, sl292, sl293, sl294, sl295, sl296, sl297, sl298, sl299, sl300, sl301], []⟩ W')) (hE : Bx (∀ {v4 v9 v10 v13 v14 v15 v16 v17 v18 v19 v20 v21 v22 v23 v24 v46 v47 v48 v49 v50 v51 v52 v53 v54 v55 v56 v57 v58 v59 v60 v61 v62 v63 v64 v65 v66 v67 v68 v69 v70 v71 v72 v73 v74 v75 v76 v77 v78 v79 v80 v81 v82 v83 v84 v85 v86 v87 v88 v89 v90 v91 v92 v93 v94 v95 v96 v97 v98 v99 v100 v101 v102 v103 v104 v105 v106 v107 v108 v109 v110 v111 v112 v113 v114 v115 v116 v117 v118 v119 v120 v121 v122 v123 v124 v125 v126 v127 v128 v129 v130 v131 v132 v133 v134 v135 v136 v137 v138 v139 v140 v141 v142 v143 v144 v145 v146 v147 v148 v149 v150 v151 v152 v153 v154 v155 v156 v157 v158 v159 v160 v161 v162 v163 v164 v165 v166 v167 v168 v169 v170 v171 v172 v173 v174 v175 v176 v177 v178 v179 v180 v181 v182 v183 v184 v185 v186 v187 v188 v189 v190 v191 v192 v193 v194 v195 v196 v197 v198 v199 v200 v201 v202 v203 v204 v205 v206 v207 v208 v209 v210 v211 v212 v213 v214 v215 v216 v217 v218 v219 v220 v221 v222 v223 v224 v225 v226 v227 v228 v229 v230 v231 : Value} {W' : World}, OnceR w W' p lim i ga ov ops v9 v10 → Q (.exit 1) ⟨#[sl0, sl1, sl2, sl3, v4, .int .i64 (lim : Int), .pointer (some ⟨p, 0, none⟩), sl7, sl8, v9, v10, .slice (some ⟨ga, 0, none⟩) 16 16, .int .i64 (i : Int), v13, v14, v15, v16, v17, v18, v19, v20, v21, v22, v23, v24, sl25, sl26, sl27, sl28, sl29, sl30, sl31, sl32, sl33, sl34, sl35, sl36, sl37, sl38, sl39, sl40, sl41, sl42, sl43, sl44, sl45, v46, v47, v48, v49, v50, v51, v52, v53, v54, v55, v56, v57, v58, v59, v60, v61, v62, v63, v64, v65, v66, v67, v68, v69, v70, v71, v72, v73, v74, v75, v76, v77, v78, v79, v80, v81, v82, v83, v84, v85, v86, v87, v88, v89, v90, v91, v92, v93, v94, v95, v96, v97, v98, v99, v100, v101, v102, v103, v104, v105, v106, v107, v108, v109, v110, v111, v112, v113, v114, v115, v116, v117, v118, v119, v120, v121, v122, v123, v124, v125, v126, v127, v128, v129, v130, v131, v132, v133, v134, v135, v136, v137, v138, v139, v140, v141, v142, v143, v144, v145, v146, v147, v148, v149, v150, v151, v152, v153, v154, v155, v156, v157, v158, v159, v160, v161, v162, v163, v164, v165, v166, v167, v168, v169, v170, v171, v172, v173, v174, v175, v176, v177, v178, v179, v180, v181, v182, v183, v184, v185, v186, v187, v188, v189, v190, v191, v192, v193, v194, v195, v196, v197, v198, v199, v200, v201, v202, v203, v204, v205, v206, v207, v208, v209, v210, v211, v212, v213, v214, v215, v216, v217, v218, v219, v220, v221, v222, v223, v224, v225, v226, v227, v228, v229, v230, v231, sl232, sl233, sl234, sl235, sl236, sl237, sl238, sl239, sl240, sl241, sl242, sl243, sl244, sl245, sl246, sl247, sl248, sl249, sl250, sl251, sl252, sl253, sl254, sl255, sl256, sl257, sl258, sl259, sl260, sl261, sl262, sl263, sl264, sl265, sl266, sl267, sl268, sl269, sl270, sl271, sl272, sl273, sl274, sl275, sl276, sl277, sl278, sl279, sl280, sl281, sl282, sl283, sl284, sl285, sl286, sl287, sl288, sl289, sl290, sl291, sl292, sl293, sl294, sl295, sl296, sl297, sl298, sl299, sl300, sl301], []⟩ W')) :
    Code.wp Try.prog blkOnce Q ⟨#[sl0, sl1, sl2, sl3, sl4, .int .i64 (lim : Int), .pointer (some ⟨p, 0, none⟩), sl7, sl8, .int .i64 tk, .slice ta m tc, .slice (some ⟨ga, 0, none⟩) 16 16, .int .i64 (i : Int), .pointer (some ⟨bo, 0, none⟩), .int .i64 (tk + mw), sl15, sl16, sl17, sl18, sl19, sl20, sl21, sl22, sl23, sl24, sl25, sl26, sl27, sl28, sl29, sl30, sl31, sl32, sl33, sl34, sl35, sl36, sl37, sl38, sl39, sl40, sl41, sl42, sl43, sl44, sl45, sl46, sl47, sl48, sl49, sl50, sl51, sl52, sl53, sl54, sl55, sl56, sl57, sl58, sl59, sl60, sl61, .int .i64 1, sl63, sl64, sl65, sl66, sl67, sl68, sl69, sl70, sl71, sl72, sl73, sl74, sl75, sl76, sl77, sl78, sl79, sl80, sl81, sl82, sl83, sl84, sl85, sl86, sl87, sl88, sl89, sl90, sl91, sl92, sl93, sl94, sl95, sl96, sl97, sl98, sl99, sl100, sl101, sl102, sl103, sl104, sl105, sl106, sl107, sl108, sl109, sl110, sl111, sl112, sl113, sl114, sl115, sl116, sl117, sl118, sl119, sl120, sl121, sl122, sl123, sl124, sl125, sl126, sl127, sl128, sl129, sl130, sl131, sl132, sl133, sl134, sl135, sl136, sl137, sl138, sl139, sl140, sl141, sl142, sl143, sl144, sl145, sl146, sl147, sl148, sl149, sl150, sl151, sl152, sl153, sl154, sl155, sl156, sl157, sl158, sl159, sl160, sl161, sl162, sl163, sl164, sl165, sl166, sl167, sl168, sl169, sl170, sl171, sl172, sl173, sl174, sl175, sl176, sl177, sl178, sl179, sl180, sl181, sl182, sl183, sl184, sl185, sl186, sl187, sl188, sl189, sl190, sl191, sl192, sl193, sl194, sl195, sl196, sl197, sl198, sl199, sl200, sl201, sl202, sl203, sl204, sl205, sl206, sl207, sl208, sl209, sl210, sl211, sl212, sl213, sl214, sl215, sl216, sl217, sl218, sl219, sl220, sl221, sl222, sl223, sl224, sl225, sl226, sl227, sl228, sl229, sl230, sl231, sl232, sl233, sl234, sl235, sl236, sl237, sl238, sl239, sl240, sl241, sl242, sl243, sl244, sl245, sl246, sl247, sl248, sl249, sl250, sl251, sl252, sl253, sl254, sl255, sl256, sl257, sl258, sl259, sl260, sl261, sl262, sl263, sl264, sl265, sl266, sl267, sl268, sl269, sl270, sl271, sl272, sl273, sl274, sl275, sl276, sl277, sl278, sl279, sl280, sl281, sl282, sl283, sl284, sl285, sl286, sl287, sl288, sl289, sl290, sl291, sl292, sl293, sl294, sl295, sl296, sl297, sl298, sl299, sl300, sl301], []⟩ W1 := by
  simp only [blkOnce, blkOnceS]
  have HA := Bx.mk (pz_ask wk (tk + mw) W1 HS1.out.pz HI.out.tl (by omega))
  have hm40 := HI.out.Ll
  rw [HM.out] at hm40
  have hZbo : ¬ Z bo := fun hz => by have := HZB.out _ hz; omega
  obtain ⟨bd, hbd⟩ : ∃ l, (D.ask wk (tk + mw)).1.body = l := ⟨_, rfl⟩
  obtain ⟨bl, hbl⟩ : ∃ l, bd.length = l := ⟨_, rfl⟩
  obtain ⟨E, hE⟩ : ∃ E, (D.ask wk (tk + mw)).2 = E := ⟨_, rfl⟩
  rw [hbd, hbl, hE] at HA
  clear hbd hbl
  by_cases hy : (D.ask wk (tk + mw)).1.is = true
  · obtain ⟨q1, q2, id, m0, q3, hid, q4, hm0, hau, hnot, hI⟩ := HI.out.askYes HS1.out.pz.ok (x := wk) (t := tk + mw) (by rw [HTK.out]; omega) hy
    rw [hy, q1, q3, q4] at HA
    rw [hE] at q2 hI
    have HQ2 := Bx.mk q2
    have HII := Bx.mk hI
    have HNOT := Bx.mk hnot
    have HAU := Bx.mk hau
    have HOKD := Bx.mk HS1.out.pz.ok
    clear hy q1 q2 q3 q4 hnot hI hau hE
    go_wp2_with fail
    refine HA.out.mono ?_
    rintro e w5 ⟨bv5, Z5, rfl, O5, P5, S5, _⟩
    dsimp only
    obtain ⟨b5, c5, rfl⟩ := own_isSlice O5
    have HP5 := Bx.mk (HS1.out.step P5 S5)
    have o15 : w5.cell? ⟨bo, 1, none⟩ = some (.int .i64 wk) := by
      rw [← o1]
      unfold World.cell?
      rw [S5.block bo (World.block_lt_of_cell? _ _ o1) hZbo]
    clear HA P5 S5 o1 HS1 hZbo O5
    go_upto_region 30 with fail
    have B6 := (Below.refl w5.heap.size w5).alloc (Nat.le_refl _) (.cells #[.int .i64 (id : Int), .slice b5 bl c5] 37)
    have hb6 := World.alloc_heap_new w5 (.cells #[.int .i64 (id : Int), .slice b5 bl c5] 37)
    have HS6 := Bx.mk (HP5.out.later B6)
    have o16 := (B6.cell (p := ⟨bo, 1, none⟩) (World.block_lt_of_cell? _ _ o15)).trans o15
    obtain ⟨w6, hw6⟩ : ∃ WW, w5.alloc (.cells #[.int .i64 (id : Int), .slice b5 bl c5] 37) = WW := ⟨_, rfl⟩
    rw [hw6] at B6 hb6 HS6 o16 ⊢
    clear hw6
    obtain ⟨bt, hbt⟩ : ∃ b, w5.heap.size = b := ⟨_, rfl⟩
    rw [hbt] at hb6 ⊢
    have t06 : w6.cell? ⟨bt, 0, none⟩ = some (.int .i64 (id : Int)) := by simp [World.cell?, hb6]
    have hans := HS6.out.ans HAU.out
    clear HP5 B6 hb6 o15 hbt
    go_wp2_with fail
    go_loopw [19, 20] (fun u _ W7 => ∃ k : Nat, u = .int .i64 (k : Int) ∧ k ≤ m ∧ Bx (OncS w W7 p Z5 E (lim : Int) (.slice ta m tc) L ga a ov ops) ∧ W7.cell? ⟨bt, 0, none⟩ = some (.int .i64 (id : Int)) ∧ W7.cell? ⟨bo, 1, none⟩ = some (.int .i64 wk)) (fun u _ _ => m - (intOf u).toNat)
    case atStart => exact ⟨0, rfl, Nat.zero_le _, HS6, t06, o16⟩
    case round =>
      rename World => W7
      clear hans t06 o16 HS6
      obtain ⟨k, rfl, hk, HS7, t07, o17⟩ := hrel
      by_cases hlt2 : k < m
      · have hlt2I : (k : Int) < (m : Int) := by omega
        obtain ⟨y, hy⟩ : ∃ y, L[k]? = some y := ⟨_, List.getElem?_eq_getElem (by rw [HM.out]; omega)⟩
        obtain ⟨tg, tc', htv2, htc, y0, y1, y2, y3⟩ := HS7.out.four hy
        injection htv2 with t1 t2 t3
        subst t1
        rw [HM.out] at htc
        clear t2 t3
        obtain ⟨ey, hey, _⟩ := HI.out.log.get y (List.mem_of_getElem? hy)
        obtain ⟨jy, uy, hjy, hjl, hauy, _⟩ := HI.out.at HOKD.out hey
        have hcy := HS7.out.ans hauy
        have hN := HNOT.out y (List.mem_of_getElem? hy)
        rw [hjy] at y0 hN
        have hN2 : tk + mw < y.exp (lim : Int) → ((jy : Int) = (id : Int) ∨ y.worker = wk) → uy ≠ 0 := fun h1 h2 => by
          unfold Tr.exp at h1
          split at h1
          · omega
          · rename_i ho
            obtain ⟨j2, u2, e1, _, e2, e3⟩ := hN (by simpa using ho) h1 h2
            obtain rfl : jy = j2 := by omega
            rw [hauy] at e2
            cases e2
            exact e3
        have HN2 := Bx.mk hN2
        obtain ⟨x3, hx3⟩ : ∃ x, y.exp (lim : Int) = x := ⟨_, rfl⟩
        obtain ⟨yw, hyw⟩ : ∃ x, y.worker = x := ⟨_, rfl⟩
        rw [hx3] at y3 HN2
        rw [hyw] at y1 HN2
        have BX := fun o => (Below.refl W7.heap.size W7).alloc (Nat.le_refl _) o
        have HBX := Bx.mk BX
        clear hx3 hyw hN hN2 hey hjy hauy hy BX
        go_upto_region 36 with fail
        have B8 := HBX.out (.cells #[.int .i64 (jy : Int), .int .i64 yw, .int .i64 (y.num : Int), .int .i64 x3] 80)
        have hb8 := World.alloc_heap_new W7 (.cells #[.int .i64 (jy : Int), .int .i64 yw, .int .i64 (y.num : Int), .int .i64 x3] 80)
        have HS8 := Bx.mk (HS7.out.later B8)
        have t08 := (B8.cell (p := ⟨bt, 0, none⟩) (World.block_lt_of_cell? _ _ t07)).trans t07
        have o18 := (B8.cell (p := ⟨bo, 1, none⟩) (World.block_lt_of_cell? _ _ o17)).trans o17
        have hcy8 := (B8.cell (p := ⟨ga, jy, none⟩) (World.block_lt_of_cell? _ _ hcy)).trans hcy
        obtain ⟨w8, hw8⟩ : ∃ WW, W7.alloc (.cells #[.int .i64 (jy : Int), .int .i64 yw, .int .i64 (y.num : Int), .int .i64 x3] 80) = WW := ⟨_, rfl⟩
        rw [hw8] at B8 hb8 HS8 t08 o18 hcy8 ⊢
        clear hw8
        obtain ⟨bx, hbx⟩ : ∃ b, W7.heap.size = b := ⟨_, rfl⟩
        rw [hbx] at hb8 ⊢
        have x0 : w8.cell? ⟨bx, 0, none⟩ = some (.int .i64 (jy : Int)) := by simp [World.cell?, hb8]
        have x1 : w8.cell? ⟨bx, 1, none⟩ = some (.int .i64 yw) := by simp [World.cell?, hb8]
        have x3c : w8.cell? ⟨bx, 3, none⟩ = some (.int .i64 x3) := by simp [World.cell?, hb8]
        clear hb8 hbx B8 HBX HS7 t07 o17 hcy y0 y1 y2 y3
        by_cases h3 : tk + mw < x3
        · by_cases h0 : jy = id
          · subst h0
            have hu := HN2.out h3 (.inl rfl)
            have hub : (uy == 0) = false := by simp [hu]
            clear HN2
            go_wp2_with fail
            go_roundw
            case rel => exact ⟨k + 1, by simp, by omega, HS8, t08, o18⟩
            case measure => simp [intOf]; omega
          · have h0I : ¬ (jy : Int) = (id : Int) := by omega
            have h0b : ((jy : Int) == (id : Int)) = false := beq_eq_false_iff_ne.2 h0I
            by_cases h1 : yw = wk
            · subst h1
              have hu := HN2.out h3 (.inr rfl)
              have hub : (uy == 0) = false := by simp [hu]
              clear HN2
              go_wp2_with fail
              go_roundw
              case rel => exact ⟨k + 1, by simp, by omega, HS8, t08, o18⟩
              case measure => simp [intOf]; omega
            · have h1b : (yw == wk) = false := by simp [h1]
              clear HN2
              go_wp2_with fail
              go_roundw
              case rel => exact ⟨k + 1, by simp, by omega, HS8, t08, o18⟩
              case measure => simp [intOf]; omega
        · clear HN2
          go_wp2_with fail
          go_roundw
          case rel => exact ⟨k + 1, by simp, by omega, HS8, t08, o18⟩
          case measure => simp [intOf]; omega
      · obtain rfl : k = m := by omega
        have O8 := HS7.out.tr
        rw [HM.out] at O8
        have hw7 := HS7.out.bel.size
        have hX := Rv.lit W7 [.int .i64 (id : Int), .int .i64 wk, .int .i64 (m0 : Int), .int .i64 (tk + mw + (lim : Int))] 80 1 (by decide)
        have O8 := O8.alloc (.cells #[.int .i64 (id : Int), .int .i64 wk, .int .i64 (m0 : Int), .int .i64 (tk + mw + (lim : Int))] 80)
        have htw2 : IntKind.i64.wrap (tk + mw + (lim : Int)) = tk + mw + (lim : Int) := by rw [IntKind.wrap_i64]; omega
        obtain ⟨tcs, htcs⟩ : ∃ l, L.flatMap (Tr.four (lim : Int)) = l := ⟨_, rfl⟩
        rw [htcs] at O8
        have HTC := Bx.mk htcs
        clear htcs
        go_wp2_with (at_builtin; go_loud (refine wpList_app2 _ rfl _ _ rfl Try.elFr w.heap.size (.slice ta k tc) k _ rfl O8 _ 1 _ rfl hX rfl (by simp [Value.oneCell']) (by omega) (by simp; omega) ?_; intro v9 w9 O9 g9 s9; refine later ?_))
        refine Later.in ?_
        have BX := (Below.refl W7.heap.size W7).alloc (Nat.le_refl _) (.cells #[.int .i64 (id : Int), .int .i64 wk, .int .i64 (m0 : Int), .int .i64 (tk + mw + (lim : Int))] 80)
        have HS9 := Bx.mk ((HS7.out.later BX).app (x := ⟨(id : Int), m0, wk, tk + mw, false⟩) (by rw [HM.out, HTC.out]; exact O9) g9 s9)
        obtain ⟨a9, c9, rfl⟩ := own_isSlice O9
        have h9l : (L ++ [(⟨(id : Int), m0, wk, tk + mw, false⟩ : Tr)]).length = k + 1 := by rw [List.length_append, HM.out]; rfl
        clear HS7 BX O9 g9 s9 O8 hX t07 o17
        go_wp2_with fail
        have hR : OnceR w w9 p lim i ga ov ops (.int .i64 (tk + mw)) (.slice a9 (k + 1) c9) := ⟨E, _, a, Z5, by rw [HQ2.out], HII, HS9⟩
        exact hN.out hR
  · have hy : (D.ask wk (tk + mw)).1.is = false := by simpa using hy
    have HI5 := HI.out.askNo (x := wk) (t := tk + mw) (by rw [HTK.out]; omega) hy
    rw [hy] at HA
    obtain ⟨r, hr⟩ : ∃ r, (D.ask wk (tk + mw)).1.err = r := ⟨_, rfl⟩
    obtain ⟨idn, hidn⟩ : ∃ r, (D.ask wk (tk + mw)).1.id = r := ⟨_, rfl⟩
    obtain ⟨nn2, hnn2⟩ : ∃ r, (D.ask wk (tk + mw)).1.n = r := ⟨_, rfl⟩
    rw [hr, hidn, hnn2] at HA
    rw [hr, hE] at HI5
    have HI5 := Bx.mk HI5
    clear hr hidn hnn2 hy hE
    go_wp2_with fail
    refine HA.out.mono ?_
    rintro e w5 ⟨bv5, Z5, rfl, O5, P5, S5, _⟩
    dsimp only
    obtain ⟨b5, c5, rfl⟩ := own_isSlice O5
    have HP5 := Bx.mk (HS1.out.step P5 S5)
    have HP6 := Bx.mk (HP5.out.later ((Below.refl w5.heap.size w5).alloc (Nat.le_refl _) (.cells #[.int .i64 idn, .slice b5 bl c5] 37)))
    clear HA P5 S5 o1 HS1 hZbo O5 HP5
    by_cases hr0 : r = 0
    · subst hr0
      have HI6 := HI5.out
      rw [if_pos rfl] at HI6
      have HI6 := Bx.mk HI6
      clear HI5
      go_wp2_with fail
      first | exact hN.out ⟨E, L, a, Z5, by rw [HI6.out.2], ⟨HI6.out.1⟩, HP6⟩ | exact hE.out ⟨E, L, a, Z5, by rw [HI6.out.2], ⟨HI6.out.1⟩, HP6⟩
    · have HI6 := HI5.out
      rw [if_neg hr0] at HI6
      have HI6 := Bx.mk HI6
      have hrb : (r == 0) = false := by simp [hr0]
      clear HI5
      go_wp2_with fail
      first | exact hN.out ⟨E, L, a, Z5, by rw [HI6.out.2, HTK.out], ⟨HI6.out.1⟩, HP6⟩ | exact hE.out ⟨E, L, a, Z5, by rw [HI6.out.2, HTK.out], ⟨HI6.out.1⟩, HP6⟩
end Go.Proofs.Ytfdacckkdjpjhaa
