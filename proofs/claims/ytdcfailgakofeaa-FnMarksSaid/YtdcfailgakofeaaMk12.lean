/-
  The statement FnMarks: the walk of the law behind its first loop.
-/
import Derived.Test.YtdcfailgakofeaaMkNum6
namespace Go.Proofs.Ytdcfailgakofeaa
open Go.RowKit Go.Flt

/-- What follows the first statements of a function's body. -/
def dropSeq : Nat → Code → Code
  | 0, c => c
  | n + 1, .seq _ b => dropSeq n b
  | _ + 1, c => c

noncomputable def marksRest : Code := dropSeq 13 (Try.f4.body.getD .skip)

/-- What an answer of a law is: true, and old memory is as it was. -/
def LawPost (w : World) (e : Ending) (w' : World) : Prop := e = .returned (.bool true) ∧ Below w.heap.size w w'

set_option maxHeartbeats 12800000 in
set_option maxRecDepth 100000 in
theorem marks_rest (a1 a2 ma : Option Addr) (n1 n2 c1 c2 n lg lc mc s K : Nat) (z2 : Nat → Int) (xs : Nat → Nat) (ms : List Nat) (w wr : World) (hn3 : 3 ≤ n) (hn14 : n ≤ 14) (h2 : n2 ≤ 48) (hb2 : Bytes w a2 n2 z2) (hlst : Lst xs n) (hcap0 : n ≤ lc) (hml : ms.length ≤ 14)
    (hl4 : wr.ownsRow w.heap.size 27 1 (.slice (some ⟨lg, 0, none⟩) n lc) n ((List.range n).map (fw xs))) (hb4 : Below w.heap.size w wr) (hst : sumW xs n = some s) (hqt : Qr s (K : Int)) (hk1 : n ≤ K) (hk2 : K ≤ 16 * n)
    {v2 v3 v4 v7 v9 v10 v11 v16 v17 v18 v19 v20 v21 v22 v23 v24 v25 v26 v27 v28 v29 v30 v31 v32 v33 v34 v35 v36 v37 v38 v39 v40 v41 v42 v43 v44 v45 v46 v47 v48 v49 v50 v51 v52 v53 v54 v55 v56 v57 v58 v59 v60 v61 v62 v63 v64 v65 v66 v67 v68 v69 v70 v71 v72 v73 v74 v75 v76 v77 v78 v79 v80 v81 v82 v83 v84 v85 v86 v87 v88 v89 v90 v91 v92 v93 v94 v95 v96 v97 v98 v99 v100 v101 v102 v103 v104 v105 v106 v107 v108 v109 v110 v111 v112 v113 v114 v115 v116 v117 v118 v119 v120 v121 v122 v123 v124 v125 v126 v127 v128 v129 v130 v131 v132 v133 v134 v135 v136 v137 v138 v139 v140 v141 v142 v143 v144 v145 v146 v147 v148 v149 v150 v151 v152 v153 v154 v155 v156 v157 v158 v159 v160 v161 v162 v163 v164 v165 v166 v167 v168 v169 v170 v171 v172 v173 v174 v175 v176 v177 v178 v179 v180 v181 v182 v183 v184 v185 v186 v187 v188 v189 v190 v191 v192 v193 v194 v195 v196 v197 v198 v199 v200 v201 v202 v203 v204 v205 v206 v207 v208 v209 v210 v211 v212 v213 v214 v215 v216 v217 v218 v219 v220 v221 v222 v223 v224 v225 v226 v227 v228 v229 v230 v231 v232 v233 v234 v235 v236 v237 v238 v239 v240 v241 v242 v243 v244 v245 v246 v247 v248 v249 v250 v251 v252 v253 v254 v255 v256 v257 v258 v259 v260 v261 v262 v263 v264 v265 v266 v267 v268 v269 v270 v271 v272 v273 v274 v275 v276 v277 v278 v279 v280 v281 v282 v283 v284 v285 v286 v287 v288 v289 v290 v291 v292 v293 v294 v295 v296 v297 v298 v299 v300 v301 v302 v303 v304 v305 v306 v307 v308 v309 v310 v311 v312 v313 v314 v315 v316 v317 v318 v319 v320 v321 v322 v323 v324 v325 v326 v327 v328 v329 v330 v331 v332 v333 v334 v335 v336 v337 v338 v339 v340 v341 v342 v343 v344 v345 v346 v347 v348 v349 v350 v351 v352 v353 v354 v355 v356 v357 v358 v359 v360 v361 v362 v363 v364 v365 v366 v367 v368 v369 v370 v371 v372 v373 v374 v375 v376 v377 v378 v379 v380 v381 v382 v383 v384 v385 v386 v387 v388 v389 v390 v391 v392 v393 v394 v395 v396 v397 v398 v399 v400 v401 v402 v403 v404 v405 v406 v407 : Value} :
    Code.wp Try.prog marksRest (bodyPost Try.prog Try.f4 (LawPost w)) ⟨#[.slice a1 n1 c1, .slice a2 n2 c2, v2, v3, v4, .int .i64 n, .slice (some ⟨lg, 0, none⟩) n lc, v7, .slice ma ms.length mc, v9, v10, v11, .int .i64 ms.length, .float .f32 (lowTo xs n), .float .f32 (highTo xs n), .float .f32 s, v16, v17, v18, v19, v20, v21, v22, v23, v24, v25, v26, v27, v28, v29, v30, v31, v32, v33, v34, v35, v36, v37, v38, v39, v40, v41, v42, v43, v44, v45, v46, v47, v48, v49, v50, v51, v52, v53, v54, v55, v56, v57, v58, v59, v60, v61, v62, v63, v64, v65, v66, v67, v68, v69, v70, v71, v72, v73, v74, v75, v76, v77, v78, v79, v80, v81, v82, v83, v84, v85, v86, v87, v88, v89, v90, v91, v92, v93, v94, v95, v96, v97, v98, v99, v100, v101, v102, v103, v104, v105, v106, v107, v108, v109, v110, v111, v112, v113, v114, v115, v116, v117, v118, v119, v120, v121, v122, v123, v124, v125, v126, v127, v128, v129, v130, v131, v132, v133, v134, v135, v136, v137, v138, v139, v140, v141, v142, v143, v144, v145, v146, v147, v148, v149, v150, v151, v152, v153, v154, v155, v156, v157, v158, v159, v160, v161, v162, v163, v164, v165, v166, v167, v168, v169, v170, v171, v172, v173, v174, v175, v176, v177, v178, v179, v180, v181, v182, v183, v184, v185, v186, v187, v188, v189, v190, v191, v192, v193, v194, v195, v196, v197, v198, v199, v200, v201, v202, v203, v204, v205, v206, v207, v208, v209, v210, v211, v212, v213, v214, v215, v216, v217, v218, v219, v220, v221, v222, v223, v224, v225, v226, v227, v228, v229, v230, v231, v232, v233, v234, v235, v236, v237, v238, v239, v240, v241, v242, v243, v244, v245, v246, v247, v248, v249, v250, v251, v252, v253, v254, v255, v256, v257, v258, v259, v260, v261, v262, v263, v264, v265, v266, v267, v268, v269, v270, v271, v272, v273, v274, v275, v276, v277, v278, v279, v280, v281, v282, v283, v284, v285, v286, v287, v288, v289, v290, v291, v292, v293, v294, v295, v296, v297, v298, v299, v300, v301, v302, v303, v304, v305, v306, v307, v308, v309, v310, v311, v312, v313, v314, v315, v316, v317, v318, v319, v320, v321, v322, v323, v324, v325, v326, v327, v328, v329, v330, v331, v332, v333, v334, v335, v336, v337, v338, v339, v340, v341, v342, v343, v344, v345, v346, v347, v348, v349, v350, v351, v352, v353, v354, v355, v356, v357, v358, v359, v360, v361, v362, v363, v364, v365, v366, v367, v368, v369, v370, v371, v372, v373, v374, v375, v376, v377, v378, v379, v380, v381, v382, v383, v384, v385, v386, v387, v388, v389, v390, v391, v392, v393, v394, v395, v396, v397, v398, v399, v400, v401, v402, v403, v404, v405, v406, v407], []⟩ wr := by
  obtain ⟨i0, hi, hz0, hz1, hz2⟩ := info_parts info27
  have AT := Lib.hid (fun (i : Nat) (m : Int) (w' : World) (hi : i ≤ 1000) (hm : 2 ≤ m) (hb : Below w.heap.size w w') => at8_any a2 n2 c2 i m z2 w' (hb2.below hb) (by omega) hi hm)
  have hnot : ∀ (b : Bool) (w : World), (Op.unary .not (.bool b)).run Try.prog w = .ok (.bool (!b)) w := fun _ _ => rfl
  have rs := run_store_float
  have LS := Lib.hid hlst
  have hcap := Lib.hid hcap0
  have L4 := Lib.hid hl4
  have B4 := Lib.hid hb4
  have hne : ((n : Int) != (n : Int)) = false := by simp
  obtain ⟨ptot, nr, nq, np, ng, nT, nm, NO⟩ := tot_told hqt hk1 hk2 hn3 hn14
  have N1 := Lib.hid (noise_any (some ⟨lg, 0, none⟩) n lc xs s nr nq wr (by omega) (by omega) hcap.out (own_frow L4.out (fun i hi => LS.out.fin hi)) LS.out.nn hst hqt.fin ptot NO.root NO.quo NO.fq)
  have a1 := ar NO.sq 27
  have a2 := ar NO.scal 33
  have c1 := cv (src := 27) (dst := 33) u27 Try.underlying33 NO.wide
  have G := Lib.hid (fun w => gap8_any w NO.gap)
  have t1 := NO.ok
  clear NO ptot hst hqt hk1 hk2 hb2 hlst hcap0 hl4 hb4
  conv => arg 2; whnf
  go_wp2_with fail
  refine N1.out.mono ?_
  rintro e w5 ⟨rfl, b5⟩
  have L5 := Lib.hid (owns_below L4.out b5)
  have B5 := Lib.hid (B4.out.trans (b5.mono B4.out.size))
  clear b5 N1 L4 B4
  go_wp2_with fail
  refine (G.out _).mono ?_
  rintro e w6 ⟨rfl, rfl⟩
  go_wp2_with fail
  refine (AT.out 42 3 _ (by decide) (by decide) B5.out).mono ?_
  rintro e w' ⟨x, rfl, hx0, hx1, hw⟩
  rw [hw]; clear hw w'
  obtain ⟨x', rfl⟩ : ∃ m : Nat, x = (m : Int) := ⟨x.toNat, by omega⟩
  obtain ⟨ov, hov⟩ : ∃ ov : Nat, ov = x' + 1 := ⟨_, rfl⟩
  have e2 : (1 + (x' : Int)) = (ov : Int) := by omega
  have ho1 : 1 ≤ ov := by omega
  have ho3 : ov ≤ 3 := by omega
  clear hx0 hx1 hov
  go_wp2_with fail
  clear e2
  refine (AT.out 43 4 _ (by decide) (by decide) B5.out).mono ?_
  rintro e w' ⟨x, rfl, hx0, hx1, hw⟩
  rw [hw]; clear hw w'
  obtain ⟨jy, rfl⟩ : ∃ m : Nat, x = (m : Int) := ⟨x.toNat, by omega⟩
  have hjy : jy < 4 := by omega
  have hbt := byW_told jy hjy
  have aby : ∀ w, (binOp .quo 27 (.float .f32 (floatOfInt .f32 (1 + (jy : Int)))) (.float .f32 1073741824)).run Try.prog w = .ok (.float .f32 (byW jy)) w := ar hbt 27
  have hon : ov ≤ n := by omega
  obtain ⟨st1, st2, st3, st4, st5, STO⟩ := stitch_told LS.out ho1 hon ho3 hjy
  have TG := Lib.hid (fun i (hi : i < ov) => tail_told LS.out hon hjy i hi)
  have TF := Lib.hid (fun i => tail_fin LS.out hon hjy i)
  generalize hyw : byW jy = by_ at *
  clear hbt hyw hx0 hx1
  have ST := Lib.hid STO
  clear STO
  obtain ⟨fr, hfr⟩ : ∃ fr : Nat, fr = n - ov := ⟨_, rfl⟩
  have e3 : (n : Int) - (ov : Int) = (fr : Int) := by omega
  have hfr2 : fr + ov = n := by omega
  have HFR := Lib.hid hfr
  clear hfr
  go_wp2
  have hown0 := World.ownsRow_made (base := w6.heap.size) (e := 27) (size := 1) w6 #[] 0 (Nat.le_refl _) (by decide) rfl
  have hs6 := B5.out.size
  go_loopw [22, 23] (fun v ii wv => ∃ (k : Nat), k ≤ ov ∧ ii = .int .i64 ((fr + k : Nat) : Int) ∧ wv.ownsRow w6.heap.size 27 1 v k ((List.range k).map (fw (tailW xs n ov by_))) ∧ Hid (Below w6.heap.size w6 wv)) (fun _ ii _ => n - (intOf ii).toNat)
  case atStart => exact ⟨0, by omega, by simp, hown0, (Below.refl _ _).alloc (Nat.le_refl _) _⟩
  case round =>
    obtain ⟨k, hk, rfl, hown, hb⟩ := hrel
    by_cases hlk : k < ov
    · obtain ⟨p, hp⟩ : ∃ p, p = fr + k := ⟨_, rfl⟩
      rw [← hp]
      have hpn : p < n := by omega
      have cl0 := seq_row (i := 0) (own_at L5.out) hpn rfl
      have cl : wr.cell? ⟨lg, p, none⟩ = some (.float .f32 (xs p)) := by
        have := (hb.out.cell (p := ⟨lg, 0 + p, none⟩) (World.block_lt_of_cell? w6 _ cl0)).trans cl0
        simpa [fw] using this
      have hmul : floatBits .mul .f32 (xs p) by_ = some (tailW xs n ov by_ k) := by
        have := (TG.out k hlk).1
        rw [← HFR.out, ← hp] at this
        exact this
      have a1 := ar hmul 27
      obtain ⟨va, vc, rfl⟩ := row_slice hown
      have HOW := Lib.hid hown
      have hlp : (p : Int) < (n : Int) := by omega
      have HP := Lib.hid hp
      clear cl0 hmul hown hp
      go_wp2_with (at_builtin; refine wpList_append_own _ rfl _ _ 37 rfl w6.heap.size 27 i0 (.float .f32 0) 1 4 Try.underlying37 hi hz0 hz1 hz2 rfl (by decide) _ _ _ rfl (HOW.out.alloc _) ⟨wr.heap.size, 0, none⟩ 1 1 [.float .f32 (tailW xs n ov by_ k)] rfl rfl ?c1 ?c2 ?c3 ?c4 ?c5 ?_)
      case c1 => exact cell_one_new _ _ _
      case c2 => simp [Value.oneCell']
      case c3 => unfold maxLen; omega
      case c4 => omega
      case c5 => have := hb.out.size; simp at this ⊢; omega
      intro v' w7 hown' hgrow _
      have hb5 := Lib.hid ((hb.out.alloc hb.out.size _).grown hgrow (by have := hb.out.size; simp at this ⊢; omega) (fun j hj => (HOW.out.lt j hj).1))
      have hown2 : w7.ownsRow w6.heap.size 27 1 v' (k + 1) ((List.range (k + 1)).map (fw (tailW xs n ov by_))) := by
        rw [List.range_succ, List.map_append]
        exact hown'
      have HO5 := Lib.hid hown2
      clear hgrow hown' hown2
      go_wp2
      go_roundw
      case rel => exact ⟨k + 1, by omega, by rw [HP.out]; go_num, HO5.out, hb5.out⟩
      case measure => simp [intOf]; omega
    · obtain rfl : ov = k := by omega
      have e4 : ((fr + ov : Nat) : Int) = (n : Int) := by omega
      rw [e4]
      have hnn : ¬ (n : Int) < (n : Int) := by omega
      obtain ⟨va, vc, rfl⟩ := row_slice hown
      have HOW := Lib.hid hown
      clear hown hown0 TG e4
      go_wp2_with (at_builtin; refine wpList_append_own _ rfl _ _ 37 rfl w6.heap.size 27 i0 (.float .f32 0) 1 4 Try.underlying37 hi hz0 hz1 hz2 rfl (by decide) _ _ _ rfl (HOW.out.alloc _) ⟨wr.heap.size, 0, none⟩ 1 1 [.float .f32 1077936128] rfl rfl ?c1 ?c2 ?c3 ?c4 ?c5 ?_)
      case c2 => simp [Value.oneCell']
      case c3 => unfold maxLen; omega
      case c4 => omega
      case c5 => have := hb.out.size; simp at this ⊢; omega
      intro v' w7 hown' hgrow _
      have hb7 := Lib.hid ((hb.out.alloc hb.out.size _).grown hgrow (by have := hb.out.size; simp at this ⊢; omega) (fun j hj => (HOW.out.lt j hj).1))
      have hown2 : w7.ownsRow w6.heap.size 27 1 v' (ov + 1) ((List.range (ov + 1)).map (fw (tailW xs n ov by_))) := by
        rw [List.range_succ, List.map_append]
        have e : [Value.float .f32 1077936128] = [ov].map (fw (tailW xs n ov by_)) := by simp [fw, tailW]
        rw [← e]
        exact hown'
      obtain ⟨tg, tc, rfl⟩ := row_form hown2 (by omega)
      have htc : Hid (ov + 1 ≤ tc) := by
        rcases hown2.2 with ⟨h1, _⟩ | ⟨g', cap', cur, h1, _, _, h3, _⟩
        · cases h1
        · injection h1 with _ _ h1; subst h1; exact h3
      have T7 := Lib.hid hown2
      have L7 := Lib.hid (owns_below L5.out hb7.out)
      have B7 := Lib.hid (B5.out.trans (hb7.out.mono hs6))
      clear hgrow hown' hown2 HOW hb hb7 L5 B5
      have S1 := Lib.hid (stitch_any (some ⟨lg, 0, none⟩) (some ⟨tg, 0, none⟩) n lc (ov + 1) tc ov xs (tailW xs n ov by_) st1 st2 st3 w7 (by omega) (by omega) (by omega) ho1 (by omega) (by omega) hcap.out htc.out (own_frow L7.out (fun i hi => LS.out.fin hi)) (own_frow T7.out (fun i _ => TF.out i)) ST.out.hs1 ST.out.hs2 ST.out.hq ST.out.fq ST.out.st)
      go_wp2_with fail
      refine S1.out.mono ?_
      rintro e w8 ⟨sa, sc, rfl, o8, b8⟩
      rw [show n + (ov + 1 - ov) = n + 1 by omega] at o8 ⊢
      have hs7 := B7.out.size
      obtain ⟨sg, hsg⟩ : ∃ g, sa = some ⟨g, 0, none⟩ := by
        obtain ⟨g, c, e⟩ := row_form o8 (by omega)
        injection e with e; exact ⟨g, e⟩
      subst hsg
      have L8 := Lib.hid (owns_below L7.out b8)
      have B8 := Lib.hid (B7.out.trans (b8.mono hs7))
      obtain ⟨sw, hsw⟩ : ∃ sw, sw = stitchW xs (tailW xs n ov by_) st3 n (n - ov) := ⟨_, rfl⟩
      have S8 := Lib.hid (own_at o8)
      rw [← hsw] at S8
      have hp := ST.out.hp
      rw [← hsw] at hp
      have hnear := ST.out.near
      rw [← hsw] at hnear
      have NEAR := Lib.hid hnear
      have a1 := ar hp 27
      have G1 := Lib.hid (fun w => gap8_any w ST.out.hg)
      have t1 := ST.out.og
      have cs : w8.cell? ⟨sg, n, none⟩ = some (.float .f32 (sw n)) := by have := seq_row (i := 0) S8.out (show n < n + 1 by omega) rfl; simpa [fw] using this
      have hlt1 : (n : Int) < (n : Int) + 1 := by omega
      clear S1 b8 o8 T7 htc TF ST L7 B7 hp hnear hsw
      go_wp2_with fail
      refine (G1.out _).mono ?_
      rintro e w' ⟨rfl, hw⟩
      rw [hw]; clear hw w' G1
      go_wp2
      go_loopw [26] (fun ii wv => ∃ i : Nat, i ≤ n ∧ ii = .int .i64 i ∧ Hid (∃ q, wv = w8.drewN q)) (fun ii _ => n - (intOf ii).toNat)
      case atStart => exact ⟨0, by omega, rfl, ⟨0, rfl⟩⟩
      case round =>
        obtain ⟨i, hin, rfl, hq⟩ := hrel
        by_cases hlt : i < n
        · obtain ⟨q0, hq0⟩ := hq.out
          have c1 : wr.cell? ⟨sg, i, none⟩ = some (.float .f32 (sw i)) := by rw [hq0]; have := seq_row (i := 0) S8.out (show i < n + 1 by omega) rfl; simpa [fw] using this
          have c2 : wr.cell? ⟨lg, i, none⟩ = some (.float .f32 (xs i)) := by rw [hq0]; have := seq_row (i := 0) (own_at L8.out) hlt rfl; simpa [fw] using this
          obtain ⟨g, hg, og⟩ := NEAR.out i hlt
          have G := Lib.hid (fun w => gap8_any w hg)
          have hlti : (i : Int) < (n : Int) := by omega
          have hlti1 : (i : Int) < (n : Int) + 1 := by omega
          clear hg hq0
          go_wp2
          go_big_quiet ((go_at_call 21; first | exact quiet_more ((G.out _).mono fun _ _ h => h.quiet) | exact Calls.quiet_of ((G.out _).mono fun _ _ h => h.quiet)))
          go_wp2
          go_roundw
          case rel => exact ⟨i + 1, by omega, by go_num, by obtain ⟨q0, rfl⟩ := hq.out; exact ⟨_, World.drewN_drewN _ _ _⟩⟩
          case measure => simp [intOf]; omega
        · obtain rfl : n = i := by omega
          obtain ⟨q0, hq0⟩ := hq.out
          have L9 := Lib.hid (show wr.ownsRow w.heap.size 27 1 (.slice (some ⟨lg, 0, none⟩) n lc) n ((List.range n).map (fw xs)) by rw [hq0]; exact L8.out)
          have B9 := Lib.hid (show Below w.heap.size w wr by rw [hq0]; exact below_drewN B8.out q0)
          have hni : ¬ (n : Int) < (n : Int) := by omega
          clear hq hq0 L8 B8 S8 NEAR
          go_wp2_with fail
          refine (AT.out 44 4 _ (by decide) (by decide) B9.out).mono ?_
          rintro e w' ⟨x, rfl, hx0, hx1, hw⟩
          rw [hw]; clear hw w'
          obtain ⟨ka, rfl⟩ : ∃ m : Nat, x = (m : Int) := ⟨x.toNat, by omega⟩
          have hka : ka ≤ 3 := by omega
          clear hx0 hx1
          go_wp2_with fail
          refine (AT.out 45 4 _ (by decide) (by decide) B9.out).mono ?_
          rintro e w' ⟨x, rfl, hx0, hx1, hw⟩
          rw [hw]; clear hw w'
          obtain ⟨kb, rfl⟩ : ∃ m : Nat, x = (m : Int) := ⟨x.toNat, by omega⟩
          have hkb : kb ≤ 3 := by omega
          clear hx0 hx1
          obtain ⟨all, allb, sp, SP⟩ := spreads_told LS.out hn3 hka hkb
          have PS := Lib.hid SP
          clear SP
          go_wp2_with fail
          obtain ⟨w10, hw10⟩ : ∃ x : World, x = wr.alloc (.cells #[Value.float .f32 (floatOfInt .f32 (ka : Int)), .float .f32 1065353216, .float .f32 (floatOfInt .f32 (kb : Int))] 27) := ⟨_, rfl⟩
          obtain ⟨kg, hkg⟩ : ∃ g : Nat, g = wr.heap.size := ⟨_, rfl⟩
          rw [← hw10, ← hkg]
          have K10 := Lib.hid (show w10.ownsRow w.heap.size 27 1 (.slice (some ⟨kg, 0, none⟩) 3 3) 3 ((List.range 3).map (fw (ker3 ka kb))) by rw [hw10, hkg, ker3_list]; exact World.ownsRow_lit (base := w.heap.size) (e := 27) (size := 1) wr #[Value.float .f32 (floatOfInt .f32 (ka : Int)), .float .f32 1065353216, .float .f32 (floatOfInt .f32 (kb : Int))] 3 B9.out.size (by decide) rfl)
          have hb10 : Below wr.heap.size wr w10 := by rw [hw10]; exact (Below.refl _ _).alloc (Nat.le_refl _) _
          have L10 := Lib.hid (owns_below L9.out hb10)
          have B10 := Lib.hid (B9.out.trans (hb10.mono B9.out.size))
          clear hw10 hkg hb10 L9 B9
          have S1 := Lib.hid (spreadBy_any (some ⟨lg, 0, none⟩) (some ⟨kg, 0, none⟩) n lc 3 3 xs (ker3 ka kb) all sp w10 (by omega) (by omega) (Or.inr rfl) (own_frow L10.out (fun i hi => LS.out.fin hi)) (own_frow K10.out PS.out.k.fin) PS.out.k.nn PS.out.k.sum (PS.out.k.fa rfl) PS.out.k.pa PS.out.hsp PS.out.fsp)
          refine S1.out.mono ?_
          rintro e w11 ⟨pa, pc, rfl, o11, b11⟩
          have hs10 := B10.out.size
          have P11 := Lib.hid (own_le o11 hs10)
          have K11 := Lib.hid (owns_below K10.out b11)
          have L11 := Lib.hid (owns_below L10.out b11)
          have B11 := Lib.hid (B10.out.trans (b11.mono hs10))
          clear o11 b11 S1 K10 L10 B10 hs10
          obtain ⟨all2, sm, nn, nows, all1, ON⟩ := ones_told LS.out hn3
          have OS := Lib.hid ON
          clear ON
          go_wp2_with fail
          obtain ⟨w12, hw12⟩ : ∃ x : World, x = w11.alloc (.cells #[Value.float .f32 1073741824] 27) := ⟨_, rfl⟩
          obtain ⟨bg, hbg⟩ : ∃ g : Nat, g = w11.heap.size := ⟨_, rfl⟩
          rw [← hw12, ← hbg]
          have Q12 := Lib.hid (show w12.ownsRow w.heap.size 27 1 (.slice (some ⟨bg, 0, none⟩) 1 1) 1 ((List.range 1).map (fw (fun _ => 1073741824))) by rw [hw12, hbg, one_list]; exact World.ownsRow_lit (base := w.heap.size) (e := 27) (size := 1) w11 #[Value.float .f32 1073741824] 1 B11.out.size (by decide) rfl)
          have hb12 : Below w11.heap.size w11 w12 := by rw [hw12]; exact (Below.refl _ _).alloc (Nat.le_refl _) _
          have L12 := Lib.hid (owns_below L11.out hb12)
          have K12 := Lib.hid (owns_below K11.out hb12)
          have P12 := Lib.hid (owns_below P11.out hb12)
          have B12 := Lib.hid (B11.out.trans (hb12.mono B11.out.size))
          clear hw12 hbg hb12 L11 K11 P11 B11
          have S2 := Lib.hid (spreadBy_any (some ⟨lg, 0, none⟩) (some ⟨bg, 0, none⟩) n lc 1 1 xs (fun _ => 1073741824) all2 sm w12 (by omega) (by omega) (Or.inl rfl) (own_frow L12.out (fun i hi => LS.out.fin hi)) (own_frow Q12.out OS.out.k2.fin) OS.out.k2.nn OS.out.k2.sum (OS.out.k2.fa rfl) OS.out.k2.pa OS.out.hsm OS.out.fsm)
          refine S2.out.mono ?_
          rintro e w13 ⟨ma2, mc2, rfl, o13, b13⟩
          have hs12 := B12.out.size
          have M13 := Lib.hid (own_le o13 hs12)
          have L13 := Lib.hid (owns_below L12.out b13)
          have K13 := Lib.hid (owns_below K12.out b13)
          have P13 := Lib.hid (owns_below P12.out b13)
          have B13 := Lib.hid (B12.out.trans (b13.mono hs12))
          clear o13 b13 S2 Q12 L12 K12 P12 B12 hs12
          go_wp2_with fail
          refine (AT.out 46 6 _ (by decide) (by decide) B13.out).mono ?_
          rintro e w' ⟨x, rfl, hx0, hx1, hw⟩
          rw [hw]; clear hw w'
          obtain ⟨R, rfl⟩ : ∃ m : Nat, x = (m : Int) := ⟨x.toNat, by omega⟩
          have hR5 : R ≤ 5 := by omega
          clear hx0 hx1
          obtain ⟨shw, hshw⟩ : ∃ f : Nat → Nat → Nat, f = nowsW xs (ker3 ka kb) (fun i => ker3 ka kb (3 - 1 - i)) n 3 all allb := ⟨_, rfl⟩
          have SHP := Lib.hid (PS.out.pos R hR5)
          rw [← hshw] at SHP
          have S3 := Lib.hid (sharpen_any (some ⟨lg, 0, none⟩) (some ⟨kg, 0, none⟩) n lc 3 3 R xs (ker3 ka kb) all allb shw w13 (by omega) (by omega) (Or.inr rfl) (by omega) (own_frow L13.out (fun i hi => LS.out.fin hi)) LS.out.pos (own_at K13.out) PS.out.k PS.out.kb (by rw [hshw]; rfl) (fun r hr => by rw [hshw]; exact PS.out.sh r (by omega)))
          clear hshw
          go_wp2_with fail
          refine S3.out.mono ?_
          rintro e w14 ⟨sa4, sc4, rfl, o14, b14⟩
          have hs13 := B13.out.size
          have H14 := Lib.hid (own_le o14 hs13)
          have L14 := Lib.hid (owns_below L13.out b14)
          have M14 := Lib.hid (owns_below M13.out b14)
          have P14 := Lib.hid (owns_below P13.out b14)
          have B14 := Lib.hid (B13.out.trans (b14.mono hs13))
          clear o14 b14 S3 L13 M13 P13 K13 B13 hs13
          go_wp2_with fail
          obtain ⟨w15, hw15⟩ : ∃ x : World, x = w14.alloc (.cells #[Value.float .f32 1065353216] 27) := ⟨_, rfl⟩
          obtain ⟨dg, hdg⟩ : ∃ g : Nat, g = w14.heap.size := ⟨_, rfl⟩
          rw [← hw15, ← hdg]
          have Q15 := Lib.hid (show w15.ownsRow w.heap.size 27 1 (.slice (some ⟨dg, 0, none⟩) 1 1) 1 ((List.range 1).map (fw (fun _ => 1065353216))) by rw [hw15, hdg, one_list]; exact World.ownsRow_lit (base := w.heap.size) (e := 27) (size := 1) w14 #[Value.float .f32 1065353216] 1 B14.out.size (by decide) rfl)
          have hb15 : Below w14.heap.size w14 w15 := by rw [hw15]; exact (Below.refl _ _).alloc (Nat.le_refl _) _
          have L15 := Lib.hid (owns_below L14.out hb15)
          have M15 := Lib.hid (owns_below M14.out hb15)
          have P15 := Lib.hid (owns_below P14.out hb15)
          have H15 := Lib.hid (owns_below H14.out hb15)
          have B15 := Lib.hid (B14.out.trans (hb15.mono B14.out.size))
          clear hw15 hdg hb15 L14 M14 P14 H14 B14
          have S4 := Lib.hid (sharpen_any (some ⟨lg, 0, none⟩) (some ⟨dg, 0, none⟩) n lc 1 1 3 xs (fun _ => 1065353216) all1 all1 nows w15 (by omega) (by omega) (Or.inl rfl) (by omega) (own_frow L15.out (fun i hi => LS.out.fin hi)) LS.out.pos (own_at Q15.out) OS.out.k1 OS.out.k1 OS.out.n0 OS.out.sh)
          rw [OS.out.hnn] at S4
          refine S4.out.mono ?_
          rintro e w16 ⟨na, nc, rfl, o16, b16⟩
          have hs15 := B15.out.size
          have N16 := Lib.hid (own_le o16 hs15)
          have L16 := Lib.hid (owns_below L15.out b16)
          have M16 := Lib.hid (owns_below M15.out b16)
          have P16 := Lib.hid (owns_below P15.out b16)
          have H16 := Lib.hid (owns_below H15.out b16)
          have B16 := Lib.hid (B15.out.trans (b16.mono hs15))
          clear o16 b16 S4 L15 M15 P15 H15 B15 Q15 hs15
          go_wp2
          go_loopw [36] (fun ii wv => ∃ i : Nat, i ≤ n ∧ ii = .int .i64 i ∧ Hid (∃ q, wv = w16.drewN q)) (fun ii _ => n - (intOf ii).toNat)
          case atStart => exact ⟨0, by omega, rfl, ⟨0, rfl⟩⟩
          case round =>
            obtain ⟨i, hin, rfl, hq⟩ := hrel
            by_cases hlt : i < n
            · obtain ⟨q0, hq0⟩ := hq.out
              obtain ⟨pg, po, rfl, cp0⟩ := own_at P16.out i hlt
              obtain ⟨mg, mo, rfl, cm0⟩ := own_at M16.out i hlt
              obtain ⟨hg, ho, rfl, ch0⟩ := own_at H16.out i hlt
              obtain ⟨ng', no, rfl, cn0⟩ := own_at N16.out i hlt
              have cp : wr.cell? ⟨pg, po + i, none⟩ = some (.float .f32 (sp i)) := by rw [hq0]; exact cp0
              have cm : wr.cell? ⟨mg, mo + i, none⟩ = some (.float .f32 (sm i)) := by rw [hq0]; exact cm0
              have ch : wr.cell? ⟨hg, ho + i, none⟩ = some (.float .f32 (shw R i)) := by rw [hq0]; exact ch0
              have cn : wr.cell? ⟨ng', no + i, none⟩ = some (.float .f32 (nn i)) := by rw [hq0]; exact cn0
              have cl : wr.cell? ⟨lg, i, none⟩ = some (.float .f32 (xs i)) := by rw [hq0]; have := seq_row (i := 0) (own_at L16.out) hlt rfl; simpa [fw] using this
              obtain ⟨Z, A, B, C, D, LO⟩ := PS.out.hlast i hlt
              have v1 := cv (src := 27) (dst := 33) u27 Try.underlying33 LO.wz
              have v2 := cv (src := 27) (dst := 33) u27 Try.underlying33 LO.wl
              have v3 := ar LO.sb 33
              have v4 := cv (src := 27) (dst := 33) u27 Try.underlying33 LO.wh
              have v5 := ar LO.ad 33
              have o1 := LO.o1
              have o2 := LO.o2
              obtain ⟨g2, hg2, og2⟩ := OS.out.g2 i hlt
              obtain ⟨g1, hg1, og1⟩ := OS.out.g1 i hlt
              obtain ⟨p1, p2⟩ := SHP.out i hlt
              have G2 := Lib.hid (fun w => gap8_any w hg2)
              have G1 := Lib.hid (fun w => gap8_any w hg1)
              have hlti : (i : Int) < (n : Int) := by omega
              clear cp0 cm0 ch0 cn0 LO hg2 hg1 hq0
              go_wp2
              go_big_quiet ((first
                | (go_at_call_has 21 (Value.float .f32 (sm i)); first | exact quiet_more ((G2.out _).mono fun _ _ h => h.quiet) | exact Calls.quiet_of ((G2.out _).mono fun _ _ h => h.quiet))
                | (go_at_call_has 21 (Value.float .f32 (nn i)); first | exact quiet_more ((G1.out _).mono fun _ _ h => h.quiet) | exact Calls.quiet_of ((G1.out _).mono fun _ _ h => h.quiet))))
              go_wp2
              go_roundw
              case rel => exact ⟨i + 1, by omega, by go_num, by obtain ⟨q0, rfl⟩ := hq.out; exact ⟨_, World.drewN_drewN _ _ _⟩⟩
              case measure => simp [intOf]; omega
            · obtain rfl : n = i := by omega
              obtain ⟨q0, hq0⟩ := hq.out
              have B17 := Lib.hid (show Below w.heap.size w wr by rw [hq0]; exact below_drewN B16.out q0)
              have hni2 : ¬ (n : Int) < (n : Int) := by omega
              clear hq hq0
              go_wp2
              go_ret
              exact ⟨rfl, B17.out⟩
end Go.Proofs.Ytdcfailgakofeaa
