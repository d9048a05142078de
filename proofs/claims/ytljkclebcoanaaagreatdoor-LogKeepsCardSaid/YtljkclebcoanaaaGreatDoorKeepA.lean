/-
  ONE ROUND of merelaw3.LogKeeps's inner loop: a deed of the log and of the reference. CONDITIONS: the library's variables read as they are laid (TvB).
-/
import Derived.Test.YtljkclebcoanaaaGreatDoorKeepK
import Derived.Deep.CutBlock
import Derived.Deep.DeepCutAuto
import Derived.BigQuiet
namespace Go.Proofs.YtljkclebcoanaaaGreatDoor
open Go.RowKit
open Go.ChangeShapes Go.WideShapes Go.ChangeAt

/-- the last store of the row -/
theorem KD.last {base : Nat} {w : World} {vd vm : Value} {ps : List Nat} {D : List E} (h : KD base w vd vm ps D) : ∃ g off c b v, vd = .slice (some ⟨g, off, none⟩) (D.length + 1) c ∧ base ≤ g ∧ g < w.heap.size ∧ w.cell? ⟨g, off + D.length, none⟩ = some (.pointer (some ⟨b, 0, none⟩)) ∧ RStoreO base w b v D := by
  have hl := h.len
  obtain ⟨g, off, c, rfl, _, _, h1, h2, _, hc, _⟩ := h.done.get (by omega)
  have hd : D.length < ps.length := by omega
  have := hc D.length hd 0 (by decide)
  rw [Nat.mul_one, Nat.add_zero] at this
  obtain ⟨v, hv⟩ := h.refs D.length (Nat.le_refl _)
  rw [getD_get _ hd, List.take_length] at hv
  exact ⟨g, off, c, _, v, by rw [hl], h1, h2, by rw [this]; rfl, hv⟩
theorem RStoreO.mono {base base' : Nat} {w : World} {b : Nat} {v : Value} {D : List E} (h : RStoreO base w b v D) (hb : base' ≤ base) : RStoreO base' w b v D := ⟨h.blk, h.own.mono hb, h.off, Nat.le_trans hb h.base, h.good, h.short⟩
theorem lt2_no {a b : Nat} (h : b + 2 ≤ a) : ¬ ((a : Int) < (b : Int) + 2) := by omega
theorem wrap2_id {b m : Nat} (h : b ≤ m) (hm : m ≤ 4000000000 := by decide) : wrap64 ((b : Int) + 2) = (b : Int) + 2 := by unfold wrap64; omega
theorem intsAt_cell {w0 W : World} {s : SlV Int} {n : Nat} (h : IntsAt w0 s) (hb : Below w0.heap.size w0 W) (hn : n < s.xs.length) : ∃ b off, s.A = some ⟨b, off, none⟩ ∧ b < W.heap.size ∧ W.cell? ⟨b, off + n, none⟩ = some (.int .i64 (s.xs.getD n 0)) := by
  obtain ⟨b, off, hA, hlt, hc⟩ := h.row (by omega)
  have hz := hb.size
  exact ⟨b, off, hA, by omega, (hb.cell (p := ⟨b, off + n, none⟩) hlt).trans (hc n hn)⟩

noncomputable def part_ka : Code := (Tryz.f4.body.bind (findBlk 3)).getD .skip
set_option maxHeartbeats 16000000 in
set_option maxRecDepth 1000000 in
theorem ka_any (w0 : World) (ks dl sy : SlV Int) (tx : SlV ByteArray) (hks : IntsAt w0 ks) (hdl : IntsAt w0 dl) (hsy : IntsAt w0 sy) (htx : StrsAt w0 tx) (hT : TvB w0.heap.size w0) (w : World) (hb : Below w0.heap.size w0 w) (l n : Nat) (G : LG) (vd vm : Value) (ps : List Nat) (hX : LogX w0.heap.size w l G) (hK0 : KD w0.heap.size w vd vm ps G.D) (hn : n < ks.xs.length) (u4 u5 u6 u7 u8 u9 u10 u11 u12 u13 u14 u15 u16 u17 u18 u19 u20 u25 u26 u27 u28 u29 u30 u31 u32 u33 u34 u35 u36 u37 u38 u39 u40 u41 u42 u43 u44 u45 u46 u47 u48 u49 u50 u51 u52 u53 u54 u55 u56 u57 u58 u59 u60 u61 u62 u63 u64 u65 u66 u67 u68 u69 u70 u71 u72 u73 u74 u75 u76 u77 u78 u79 u80 u81 u82 u83 u84 u85 u86 u87 u88 u89 u90 u91 u92 u93 u94 u95 u96 u97 u98 u99 u100 u101 u102 u103 u104 u105 u106 u107 u108 u109 u110 u111 u112 u113 u114 u115 u116 u117 u118 u119 u120 u121 u122 u123 u124 u125 u126 u127 u128 u129 u130 u131 u132 u133 u134 u135 u136 u137 u138 u139 u140 u141 u142 u143 u144 u145 u146 u147 u148 u149 u150 u151 u152 u153 u154 u155 u156 u157 u158 u159 u160 u161 u162 u163 u164 u165 u166 u167 u168 u169 u170 u171 u172 u173 u174 u175 u176 u177 u178 u179 u180 u181 u182 u183 u184 u185 u186 u187 u188 u189 u190 u191 u192 u193 u194 u195 u196 u197 u198 u199 u200 u201 u202 u203 u204 u205 u206 u207 u208 u209 u210 u211 u212 u213 u214 u215 u216 u217 u218 u219 u220 u221 u222 u223 u224 u225 u226 u227 u228 u229 u230 u231 u232 u233 u234 u235 u236 u237 u238 u239 u240 u241 u242 u243 u244 u245 u246 u247 u248 u249 u250 u251 u252 u253 u254 u255 u256 u257 u258 u259 u260 u261 u262 u263 u264 u265 u266 u267 u268 u269 u270 u271 u272 u273 u274 u275 u276 u277 u278 u279 u280 u281 u282 u283 u284 u285 u286 u287 u288 u289 u290 u291 u292 u293 u294 u295 u296 u297 u298 u299 u300 u301 u302 u303 u304 u305 u306 u307 u308 u309 u310 u311 u312 u313 u314 u315 u316 u317 u318 u319 u320 u321 u322 u323 u324 u325 u326 u327 u328 u329 u330 u331 u332 u333 u334 u335 u336 u337 u338 u339 u340 u341 u342 u343 u344 u345 u346 u347 : Value) (K : Act → World → Prop)
    (hK : ∀ (G' : LG) (vd' vm' : Value) (ps' : List Nat) (z : Int) (wx : World), z = ((n + 1 : Nat) : Int) → LogX w0.heap.size wx l G' → KD w0.heap.size wx vd' vm' ps' G'.D → Below w0.heap.size w0 wx → ∀ (v12 v27 v28 v29 v30 v31 v32 v33 v34 v35 v36 v37 v126 v127 v128 v129 v130 v131 v132 v133 v134 v135 v136 v137 v138 v139 v140 v141 v142 v143 v144 v145 v146 v147 v148 v149 v150 v151 v152 v153 v154 v155 v156 v157 v158 v159 v160 v161 v162 v163 v164 v165 v166 v167 v168 v169 v170 v171 v172 v173 v174 v175 v176 v177 v178 v179 v180 v181 v182 v183 v184 v185 v186 v187 v188 v189 v190 v191 v192 v193 v194 v195 v196 v197 v198 v199 v200 v201 v202 v203 v204 v205 v206 v207 v208 v209 v210 v211 v212 v213 v214 v215 v216 v217 v218 v219 v220 v221 v222 v223 v224 v225 v226 v227 v228 v229 v230 v231 v232 v233 v234 v235 v236 v237 v238 v239 v240 v241 v242 v243 v244 v245 v246 v247 v248 v249 v250 v251 v252 v253 v254 v255 v256 v257 v258 v259 v260 v261 v262 v263 v264 v265 v266 v267 v268 v269 : Value), K ⟨List.toArray ((.slice ks.A ks.xs.length ks.c) :: (.slice tx.A tx.xs.length tx.c) :: (.slice dl.A dl.xs.length dl.c) :: (.slice sy.A sy.xs.length sy.c) :: u4 :: u5 :: u6 :: u7 :: u8 :: u9 :: u10 :: u11 :: v12 :: u13 :: u14 :: u15 :: u16 :: u17 :: u18 :: u19 :: u20 :: (.pointer (some ⟨l, 0, none⟩)) :: vd' :: vm' :: (.int .i64 z) :: u25 :: u26 :: v27 :: v28 :: v29 :: v30 :: v31 :: v32 :: v33 :: v34 :: v35 :: v36 :: v37 :: u38 :: u39 :: u40 :: u41 :: u42 :: u43 :: u44 :: u45 :: u46 :: u47 :: u48 :: u49 :: u50 :: u51 :: u52 :: u53 :: u54 :: u55 :: u56 :: u57 :: u58 :: u59 :: u60 :: u61 :: u62 :: u63 :: u64 :: u65 :: u66 :: u67 :: u68 :: u69 :: u70 :: u71 :: u72 :: u73 :: u74 :: u75 :: u76 :: u77 :: u78 :: u79 :: u80 :: u81 :: u82 :: u83 :: u84 :: u85 :: u86 :: u87 :: u88 :: u89 :: u90 :: u91 :: u92 :: u93 :: u94 :: u95 :: u96 :: u97 :: u98 :: u99 :: u100 :: u101 :: u102 :: u103 :: u104 :: u105 :: u106 :: u107 :: u108 :: u109 :: u110 :: u111 :: u112 :: u113 :: u114 :: u115 :: u116 :: u117 :: u118 :: u119 :: u120 :: u121 :: u122 :: u123 :: u124 :: u125 :: v126 :: v127 :: v128 :: v129 :: v130 :: v131 :: v132 :: v133 :: v134 :: v135 :: v136 :: v137 :: v138 :: v139 :: v140 :: v141 :: v142 :: v143 :: v144 :: v145 :: v146 :: v147 :: v148 :: v149 :: v150 :: v151 :: v152 :: v153 :: v154 :: v155 :: v156 :: v157 :: v158 :: v159 :: v160 :: v161 :: v162 :: v163 :: v164 :: v165 :: v166 :: v167 :: v168 :: v169 :: v170 :: v171 :: v172 :: v173 :: v174 :: v175 :: v176 :: v177 :: v178 :: v179 :: v180 :: v181 :: v182 :: v183 :: v184 :: v185 :: v186 :: v187 :: v188 :: v189 :: v190 :: v191 :: v192 :: v193 :: v194 :: v195 :: v196 :: v197 :: v198 :: v199 :: v200 :: v201 :: v202 :: v203 :: v204 :: v205 :: v206 :: v207 :: v208 :: v209 :: v210 :: v211 :: v212 :: v213 :: v214 :: v215 :: v216 :: v217 :: v218 :: v219 :: v220 :: v221 :: v222 :: v223 :: v224 :: v225 :: v226 :: v227 :: v228 :: v229 :: v230 :: v231 :: v232 :: v233 :: v234 :: v235 :: v236 :: v237 :: v238 :: v239 :: v240 :: v241 :: v242 :: v243 :: v244 :: v245 :: v246 :: v247 :: v248 :: v249 :: v250 :: v251 :: v252 :: v253 :: v254 :: v255 :: v256 :: v257 :: v258 :: v259 :: v260 :: v261 :: v262 :: v263 :: v264 :: v265 :: v266 :: v267 :: v268 :: v269 :: u270 :: u271 :: u272 :: u273 :: u274 :: u275 :: u276 :: u277 :: u278 :: u279 :: u280 :: u281 :: u282 :: u283 :: u284 :: u285 :: u286 :: u287 :: u288 :: u289 :: u290 :: u291 :: u292 :: u293 :: u294 :: u295 :: u296 :: u297 :: u298 :: u299 :: u300 :: u301 :: u302 :: u303 :: u304 :: u305 :: u306 :: u307 :: u308 :: u309 :: u310 :: u311 :: u312 :: u313 :: u314 :: u315 :: u316 :: u317 :: u318 :: u319 :: u320 :: u321 :: u322 :: u323 :: u324 :: u325 :: u326 :: u327 :: u328 :: u329 :: u330 :: u331 :: u332 :: u333 :: u334 :: u335 :: u336 :: u337 :: u338 :: u339 :: u340 :: u341 :: u342 :: u343 :: u344 :: u345 :: u346 :: u347 :: []), []⟩ wx) :
    Code.wp Tryz.prog part_ka (Exit.then K (bodyPost Tryz.prog Tryz.f4 (fun _ _ => False))) ⟨List.toArray ((.slice ks.A ks.xs.length ks.c) :: (.slice tx.A tx.xs.length tx.c) :: (.slice dl.A dl.xs.length dl.c) :: (.slice sy.A sy.xs.length sy.c) :: u4 :: u5 :: u6 :: u7 :: u8 :: u9 :: u10 :: u11 :: u12 :: u13 :: u14 :: u15 :: u16 :: u17 :: u18 :: u19 :: u20 :: (.pointer (some ⟨l, 0, none⟩)) :: vd :: vm :: (.int .i64 (n : Nat)) :: u25 :: u26 :: u27 :: u28 :: u29 :: u30 :: u31 :: u32 :: u33 :: u34 :: u35 :: u36 :: u37 :: u38 :: u39 :: u40 :: u41 :: u42 :: u43 :: u44 :: u45 :: u46 :: u47 :: u48 :: u49 :: u50 :: u51 :: u52 :: u53 :: u54 :: u55 :: u56 :: u57 :: u58 :: u59 :: u60 :: u61 :: u62 :: u63 :: u64 :: u65 :: u66 :: u67 :: u68 :: u69 :: u70 :: u71 :: u72 :: u73 :: u74 :: u75 :: u76 :: u77 :: u78 :: u79 :: u80 :: u81 :: u82 :: u83 :: u84 :: u85 :: u86 :: u87 :: u88 :: u89 :: u90 :: u91 :: u92 :: u93 :: u94 :: u95 :: u96 :: u97 :: u98 :: u99 :: u100 :: u101 :: u102 :: u103 :: u104 :: u105 :: u106 :: u107 :: u108 :: u109 :: u110 :: u111 :: u112 :: u113 :: u114 :: u115 :: u116 :: u117 :: u118 :: u119 :: u120 :: u121 :: u122 :: u123 :: u124 :: u125 :: u126 :: u127 :: u128 :: u129 :: u130 :: u131 :: u132 :: u133 :: u134 :: u135 :: u136 :: u137 :: u138 :: u139 :: u140 :: u141 :: u142 :: u143 :: u144 :: u145 :: u146 :: u147 :: u148 :: u149 :: u150 :: u151 :: u152 :: u153 :: u154 :: u155 :: u156 :: u157 :: u158 :: u159 :: u160 :: u161 :: u162 :: u163 :: u164 :: u165 :: u166 :: u167 :: u168 :: u169 :: u170 :: u171 :: u172 :: u173 :: u174 :: u175 :: u176 :: u177 :: u178 :: u179 :: u180 :: u181 :: u182 :: u183 :: u184 :: u185 :: u186 :: u187 :: u188 :: u189 :: u190 :: u191 :: u192 :: u193 :: u194 :: u195 :: u196 :: u197 :: u198 :: u199 :: u200 :: u201 :: u202 :: u203 :: u204 :: u205 :: u206 :: u207 :: u208 :: u209 :: u210 :: u211 :: u212 :: u213 :: u214 :: u215 :: u216 :: u217 :: u218 :: u219 :: u220 :: u221 :: u222 :: u223 :: u224 :: u225 :: u226 :: u227 :: u228 :: u229 :: u230 :: u231 :: u232 :: u233 :: u234 :: u235 :: u236 :: u237 :: u238 :: u239 :: u240 :: u241 :: u242 :: u243 :: u244 :: u245 :: u246 :: u247 :: u248 :: u249 :: u250 :: u251 :: u252 :: u253 :: u254 :: u255 :: u256 :: u257 :: u258 :: u259 :: u260 :: u261 :: u262 :: u263 :: u264 :: u265 :: u266 :: u267 :: u268 :: u269 :: u270 :: u271 :: u272 :: u273 :: u274 :: u275 :: u276 :: u277 :: u278 :: u279 :: u280 :: u281 :: u282 :: u283 :: u284 :: u285 :: u286 :: u287 :: u288 :: u289 :: u290 :: u291 :: u292 :: u293 :: u294 :: u295 :: u296 :: u297 :: u298 :: u299 :: u300 :: u301 :: u302 :: u303 :: u304 :: u305 :: u306 :: u307 :: u308 :: u309 :: u310 :: u311 :: u312 :: u313 :: u314 :: u315 :: u316 :: u317 :: u318 :: u319 :: u320 :: u321 :: u322 :: u323 :: u324 :: u325 :: u326 :: u327 :: u328 :: u329 :: u330 :: u331 :: u332 :: u333 :: u334 :: u335 :: u336 :: u337 :: u338 :: u339 :: u340 :: u341 :: u342 :: u343 :: u344 :: u345 :: u346 :: u347 :: []), []⟩ w := by
  conv => arg 2; whnf
  have hsl := hsy.len
  have hdll := hdl.len
  have htl := htx.len
  have hkl := hks.len
  unfold maxLen at hsl hdll htl hkl
  have HK := hid hK
  have HT := hid (fun W (hW : Below w0.heap.size w0 W) => hT.step hW)
  have HX := hid hX
  have HK0 := hid hK0
  have Hb := hid hb
  clear hK hX hK0 hb hT
  go_upto_region 21 with fail
  go_cut [158] (fun v wx => v = .bool false ∧ ∃ G1, G1.D = G.D ∧ LogX w0.heap.size wx l G1 ∧ KD w0.heap.size wx vd vm ps G.D ∧ Below w0.heap.size w0 wx)
  case first =>
    by_cases hs : n < sy.xs.length
    · obtain ⟨b, off, hA, hbl, hc⟩ := intsAt_cell hsy Hb.out hs
      generalize sy.xs.getD n 0 = x at *
      rw [hA]
      have HA := hid hA
      have hs' : (n : Int) < (sy.xs.length : Int) := by omega
      clear hA
      by_cases hx : x = 1
      · have hxb : (x == 1) = true := by rw [hx]; rfl
        have HS := hid (ksync HX.out)
        have hw := LG.sync_ways (G := G)
        have HB := hid (fun W (hX : LogX w0.heap.size W l G.sync.2) => xbytes hX)
        have HZ := hid (fun W (hX : LogX w0.heap.size W l G.sync.2) => xsafe hX)
        clear hx
        rcases hw with ⟨h1, h2⟩ | ⟨h1, h2, h3⟩
        · rw [h1, errV_ne (show (6 : Int) ≠ 0 by decide)] at HS
          have H2 := hid h2
          clear h1 h2
          generalize G.sync.2 = G1 at *
          go_wp2_with fail
          refine HS.out.mono ?_
          rintro e w1 ⟨rfl, hX1, hb1, hF1⟩
          have Hr := hid (And.intro hX1 (And.intro (HK0.out.log hF1) (Hb.out.trans hb1)))
          clear hX1 hb1 hF1 HS
          go_wp2_with fail
          rw [← HA.out]
          go_meet
          exact ⟨rfl, G1, H2.out, Hr.out.1, Hr.out.2.1, Hr.out.2.2⟩
        · rw [h1, errV_zero] at HS
          rw [h3] at HZ
          have H2 := hid h2
          clear h1 h2 h3
          generalize G.sync.2 = G1 at *
          go_wp2_with fail
          refine HS.out.mono ?_
          rintro e w1 ⟨rfl, hX1, hb1, hF1⟩
          have Hr := hid (And.intro hX1 (And.intro (HK0.out.log hF1) (Hb.out.trans hb1)))
          have HB1 := hid (HB.out w1 hX1)
          have HZ1 := hid (HZ.out w1 hX1)
          clear hX1 hb1 hF1 HS HB HZ
          generalize G1.bs.length = nb at *
          go_wp2_with fail
          refine HZ1.out.mono ?_
          rintro e w2 ⟨rfl, rfl⟩
          go_wp2_with fail
          refine HB1.out.mono ?_
          rintro e w2 ⟨rfl, rfl⟩
          go_wp2_with fail
          rw [← HA.out]
          go_meet
          exact ⟨rfl, G1, H2.out, Hr.out.1, Hr.out.2.1, Hr.out.2.2⟩
      · have hxb : (x == 1) = false := beq_eq_false_iff_ne.2 hx
        clear hx
        go_wp2_with fail
        rw [← HA.out]
        go_meet
        exact ⟨rfl, G, rfl, HX.out, HK0.out, Hb.out⟩
    · have hs' : ¬ (n : Int) < (sy.xs.length : Int) := by omega
      clear hs
      go_wp2_with fail
      go_meet
      exact ⟨rfl, G, rfl, HX.out, HK0.out, Hb.out⟩
  case rest =>
  obtain ⟨rfl, G1, hG1, hX1, hK1, hb1⟩ := hcut
  obtain ⟨w1, rfl⟩ : ∃ w1 : World, w1 = wc := ⟨_, rfl⟩
  clear HX HK0 Hb
  obtain ⟨D, hD⟩ : ∃ D, G.D = D := ⟨_, rfl⟩
  rw [hD] at hG1 hK1
  have hm := hX1.1.many
  rw [hG1] at hm
  clear hD
  obtain ⟨g, off, c, b, v, rfl, -, hgl, hcl, hRb⟩ := hK1.last
  have hw1 : wrap64 (((D.length + 1 : Nat) : Int) - 1) = (D.length : Int) := by unfold wrap64; omega
  have HCp := hid (rcopy_any w1 hRb)
  have HX1 := hid (fun W (hW : Below w1.heap.size w1 W) => hX1.belowS hW)
  have HK1 := hid (fun W (hW : Below w1.heap.size w1 W) => hK1.belowS hW)
  have Hb1 := hid hb1
  have hz1 := hb1.size
  have hol := hX1.1.len
  clear hX1 hK1 hRb hb1
  go_wp2_with fail
  refine HCp.out.mono ?_
  rintro e w2 ⟨v2, rfl, hR2, hb2⟩
  have HX2 := hid (HX1.out w2 hb2)
  have HK2 := hid (HK1.out w2 hb2)
  have HB2 := hid (xbytes HX2.out)
  have HR2 := hid hR2
  have Hb12 := hid hb2
  have Hb2 := hid (Below.step Hb1.out hb2 hz1)
  have hz2 := hb2.size
  have hnb := hR2.lt
  clear hR2 hb2 HCp hgl hcl hw1
  go_wp2_with fail
  refine HB2.out.mono ?_
  rintro e w3 ⟨rfl, rfl⟩
  clear HB2
  go_upto_if 172 with fail
  go_cut [30] (fun t wx => TextV t ∧ wx = w2)
  case first =>
    by_cases hnt : n < tx.xs.length
    · obtain ⟨b2, off2, hA2, hbt, hc2⟩ := htx.row (by omega)
      have hx := (Hb2.out.cell (p := ⟨b2, off2 + n, none⟩) hbt).trans (hc2 n hnt)
      have hxg := htx.each _ (List.getElem_mem hnt)
      have Hxg := hid hxg
      generalize tx.xs[n] = x at *
      have HA2 := hid hA2
      have hbt2 : b2 < w2.heap.size := by have := Hb2.out.size; omega
      rw [hA2]
      clear hA2 hc2 hxg
      go_wp2_with fail
      rw [← HA2.out]
      go_meet
      exact ⟨⟨x, Hxg.out, rfl⟩, rfl⟩
    · have hnt' : ¬ ((n : Int) < (tx.xs.length : Int)) := by omega
      go_wp2_with fail
      go_meet
      exact ⟨⟨ByteArray.mk #[], Nat.zero_le _, rfl⟩, rfl⟩
  case rest =>
  obtain ⟨⟨t, ht, rfl⟩, hwc⟩ := hcut
  obtain rfl : w2 = wc := hwc.symm
  have Ht := hid ht
  clear ht
  go_upto_region 33 with fail
  go_cut [187] (fun v wx => (∃ db : Bool, v = .bool db) ∧ wx = w2)
  case first =>
    by_cases hs : n < dl.xs.length
    · obtain ⟨b3, off3, hA, hbl, hc⟩ := intsAt_cell hdl Hb2.out hs
      generalize dl.xs.getD n 0 = x at *
      rw [hA]
      have HA := hid hA
      have hs' : (n : Int) < (dl.xs.length : Int) := by omega
      clear hA
      go_wp2_with fail
      rw [← HA.out]
      go_meet
      exact ⟨⟨_, rfl⟩, rfl⟩
    · have hs' : ¬ (n : Int) < (dl.xs.length : Int) := by omega
      clear hs
      go_wp2_with fail
      go_meet
      exact ⟨⟨_, rfl⟩, rfl⟩
  case rest =>
  obtain ⟨⟨db, rfl⟩, hwc⟩ := hcut
  obtain rfl : w2 = wc := hwc.symm
  go_upto_if 187 with fail
  go_cut [31, 32, 33, 34] (fun a e m er wx => ∃ (r : (Int × Int) × List E) (y : (Int × Int) × LG), a = .int .i64 r.1.1 ∧ e = .int .i64 r.1.2 ∧ m = .int .i64 y.1.1 ∧ er = errV y.1.2 ∧ DeedW G1 r y ∧ LogX w0.heap.size wx l y.2 ∧ KD w0.heap.size wx (.slice (some ⟨g, off, none⟩) (D.length + 1) c) vm ps D ∧ (∃ v', RStoreO w0.heap.size wx w1.heap.size v' r.2) ∧ Below w0.heap.size w0 wx)
  case first =>
    obtain ⟨bk, ok, hAk, hlk, hck⟩ := intsAt_cell hks Hb2.out hn
    have HcK := hid (fun W (hW : Below w0.heap.size w0 W) => show W.cell? ⟨bk, ok + n, none⟩ = some (.int .i64 (ks.xs.getD n 0)) from by
      obtain ⟨b', o', hA', _, hc'⟩ := intsAt_cell hks hW hn
      rw [hAk] at hA'
      injection hA' with hA'
      injection hA' with q1 q2
      subst q1 q2
      exact hc')
    generalize ks.xs.getD n 0 = x at *
    have HAk := hid hAk
    rw [hAk]
    clear hAk
    cases db
    · as_aux_lemma =>
      have HP := hid (rput_any w1.heap.size w1.heap.size x t Ht.out v2 D w2 HR2.out)
      have HQ := hid (fun W (hW : Below w1.heap.size w1 W) (hB : Below w0.heap.size w0 W) => kput (HX1.out W hW) (HT.out W hB) x t Ht.out)
      have hwy : DeedW G1 (rput D x t) (G1.put x t) := by
        have h := LG.put_ways HX2.out.1 x t
        rw [hG1] at h
        exact h
      have Hwy := hid hwy
      clear hwy
      generalize rput D x t = r at *
      generalize G1.put x t = y at *
      obtain ⟨⟨r0, r1⟩, rD⟩ := r
      obtain ⟨⟨y0, y1⟩, yG⟩ := y
      simp only at HQ
      go_wp2_with fail
      refine HP.out.mono ?_
      rintro e w3 ⟨v3, rfl, hR3, hF3, -⟩
      have hb13 : Below w1.heap.size w1 w3 := Hb12.out.trans (hF3.below0 hz2 (fun i hi => by
        rcases hi with hi | hi
        · omega
        · exact HR2.out.own.ge i hi))
      have Hb13 := hid hb13
      have Hb3 := hid (Below.step Hb1.out hb13 hz1)
      have HQ3 := hid (HQ.out w3 hb13 Hb3.out)
      have HR3 := hid hR3
      have hck3 : w3.cell? ⟨bk, ok + n, none⟩ = some (.int .i64 x) := HcK.out w3 Hb3.out
      have hlk3 : bk < w3.heap.size := by have := hF3.size; omega
      clear hR3 hF3 hb13 HP HQ
      go_wp2_with fail
      refine HQ3.out.mono ?_
      rintro e w4 ⟨rfl, hX4, hb4, hF4⟩
      have Hr := hid (And.intro hX4 (And.intro ((HK1.out w3 Hb13.out).log hF4) (And.intro ((HR3.out.log hF4).mono hz1) (Hb3.out.trans hb4))))
      clear hX4 hb4 hF4 HQ3
      go_wp2_with fail
      rw [← HAk.out]
      go_meet
      exact ⟨((r0, r1), rD), ((y0, y1), yG), rfl, rfl, rfl, rfl, Hwy.out, Hr.out.1, Hr.out.2.1, ⟨_, Hr.out.2.2.1⟩, Hr.out.2.2.2⟩
    · as_aux_lemma =>
      have HP := hid (rdel_any w1.heap.size w1.heap.size x v2 D w2 HR2.out)
      have HQ := hid (fun W (hW : Below w1.heap.size w1 W) (hB : Below w0.heap.size w0 W) => kdel (HX1.out W hW) (HT.out W hB) x)
      have hwy : DeedW G1 (rdel D x) (G1.del x) := by
        have h := LG.del_ways HX2.out.1 x
        rw [hG1] at h
        exact h
      have Hwy := hid hwy
      clear hwy
      generalize rdel D x = r at *
      generalize G1.del x = y at *
      obtain ⟨⟨r0, r1⟩, rD⟩ := r
      obtain ⟨⟨y0, y1⟩, yG⟩ := y
      simp only at HQ
      go_wp2_with fail
      refine HP.out.mono ?_
      rintro e w3 ⟨v3, rfl, hR3, hF3, -⟩
      have hb13 : Below w1.heap.size w1 w3 := Hb12.out.trans (hF3.below0 hz2 (fun i hi => by
        rcases hi with hi | hi
        · omega
        · exact HR2.out.own.ge i hi))
      have Hb13 := hid hb13
      have Hb3 := hid (Below.step Hb1.out hb13 hz1)
      have HQ3 := hid (HQ.out w3 hb13 Hb3.out)
      have HR3 := hid hR3
      have hck3 : w3.cell? ⟨bk, ok + n, none⟩ = some (.int .i64 x) := HcK.out w3 Hb3.out
      have hlk3 : bk < w3.heap.size := by have := hF3.size; omega
      clear hR3 hF3 hb13 HP HQ
      go_wp2_with fail
      refine HQ3.out.mono ?_
      rintro e w4 ⟨rfl, hX4, hb4, hF4⟩
      have Hr := hid (And.intro hX4 (And.intro ((HK1.out w3 Hb13.out).log hF4) (And.intro ((HR3.out.log hF4).mono hz1) (Hb3.out.trans hb4))))
      clear hX4 hb4 hF4 HQ3
      go_wp2_with fail
      rw [← HAk.out]
      go_meet
      exact ⟨((r0, r1), rD), ((y0, y1), yG), rfl, rfl, rfl, rfl, Hwy.out, Hr.out.1, Hr.out.2.1, ⟨_, Hr.out.2.2.1⟩, Hr.out.2.2.2⟩
  case rest =>
  obtain ⟨⟨⟨r0, r1⟩, rD⟩, ⟨⟨y0, y1⟩, yG⟩, rfl, rfl, rfl, rfl, hW, hX4, hK4, hR4, hb4⟩ := hcut
  obtain ⟨w4, rfl⟩ : ∃ w4 : World, w4 = wc := ⟨_, rfl⟩
  have Hb4 := hid hb4
  have HX4 := hid hX4
  have HK4 := hid hK4
  have HR4 := hid hR4
  simp only at hW HX4 HR4
  clear hX4 hK4 hR4 hb4 HX1 HK1 HX2 HK2 HR2 Hb12 Hb2 hnb
  dsimp only
  rcases hW with ⟨h1, h2⟩ | ⟨h1, h2, h3⟩ | ⟨h1, h2, h3, ⟨ee, h4⟩, h5, h6⟩
  · obtain ⟨rfl, rfl⟩ := Prod.mk.inj h1
    rw [hG1] at h2
    have HE1 := hid (error_any 6 6 w4 (HT.out w4 Hb4.out).now.gl)
    have HE2 := hid (fun W (hW : Below w0.heap.size w0 W) => error_any 6 r1 W (HT.out W hW).now.gl)
    rw [errV_ne (show (6 : Int) ≠ 0 by decide)]
    rw [errV_ne (show (6 : Int) ≠ 0 by decide)] at HE1 HE2
    go_wp2_with fail
    refine HE1.out.mono ?_
    rintro e w5 ⟨rfl, hb5⟩
    have Hb5 := hid (Below.step Hb4.out hb5 Hb4.out.size)
    have Hb45 := hid hb5
    have HE2' := hid (HE2.out w5 Hb5.out)
    have hz5 := hb5.size
    clear hb5 HE1 HE2
    go_wp2_with fail
    refine HE2'.out.mono ?_
    rintro e w6 ⟨rfl, hb6⟩
    have Hb6 := hid (Below.step Hb5.out hb6 Hb5.out.size)
    have Hb46 := hid (Below.step Hb45.out hb6 hz5)
    clear hb6 HE2' Hb45 Hb5
    have HK6 := hid (HK4.out.belowS Hb46.out)
    have HX6 := hid (HX4.out.belowS Hb46.out)
    obtain ⟨g6, o6, c6, b6, v6, he6, -, hg6, hc6, hR6⟩ := HK6.out.last
    injection he6 with q1 q2 q3
    injection q1 with q1
    injection q1 with q4 q5
    subst q3 q4 q5
    have HA6 := hid (alike_any w6 HX6.out (by rw [h2]; exact hR6) (HT.out w6 Hb6.out).now)
    have hw1 : wrap64 (((D.length + 1 : Nat) : Int) - 1) = (D.length : Int) := by unfold wrap64; omega
    clear hR6
    go_wp2_with fail
    refine HA6.out.mono ?_
    rintro e w7 ⟨rfl, hb7⟩
    have Hr := hid (And.intro (HX6.out.belowS hb7) (And.intro (HK6.out.belowS hb7) (Below.step Hb6.out hb7 Hb6.out.size)))
    clear hb7 HA6
    go_wp2_with fail
    exact HK.out yG _ _ ps ((n : Int) + 1) w7 (by go_num) Hr.out.1 (by rw [h2]; exact Hr.out.2.1) Hr.out.2.2 _ _ _ _ _ _ _ _ _ _ _ _ _ _ _ _ _ _ _ _ _ _ _ _ _ _ _ _ _ _ _ _ _ _ _ _ _ _ _ _ _ _ _ _ _ _ _ _ _ _ _ _ _ _ _ _ _ _ _ _ _ _ _ _ _ _ _ _ _ _ _ _ _ _ _ _ _ _ _ _ _ _ _ _ _ _ _ _ _ _ _ _ _ _ _ _ _ _ _ _ _ _ _ _ _ _ _ _ _ _ _ _ _ _ _ _ _ _ _ _ _ _ _ _ _ _ _ _ _ _ _ _ _ _ _ _ _ _ _ _ _ _ _ _ _ _ _ _ _ _ _ _ _ _ _ _
  · have e1 := (Prod.mk.inj h1).1
    have e2 := (Prod.mk.inj h1).2
    simp only at e1 e2 h2
    subst e1 e2
    rw [hG1] at h3
    have hne := errV_ne h2
    have HE1 := hid (error_any y1 6 w4 (HT.out w4 Hb4.out).now.gl)
    have HE2 := hid (fun W (hW : Below w0.heap.size w0 W) => error_any y1 y1 W (HT.out W hW).now.gl)
    rw [beq_self_eq_true] at HE2
    rw [hne]
    rw [hne] at HE1 HE2
    clear h1 h2 hne
    have h2 := h3
    clear h3
    generalize (y1 == 6) = bb at *
    cases bb
    · go_wp2_with fail
      refine HE1.out.mono ?_
      rintro e w5 ⟨rfl, hb5⟩
      have Hb5 := hid (Below.step Hb4.out hb5 Hb4.out.size)
      have Hb45 := hid hb5
      have HE2' := hid (HE2.out w5 Hb5.out)
      have hz5 := hb5.size
      clear hb5 HE1 HE2
      go_wp2_with fail
      refine HE2'.out.mono ?_
      rintro e w6 ⟨rfl, hb6⟩
      have Hb6 := hid (Below.step Hb5.out hb6 Hb5.out.size)
      have Hb46 := hid (Below.step Hb45.out hb6 hz5)
      clear hb6 HE2' Hb45 Hb5
      have HK6 := hid (HK4.out.belowS Hb46.out)
      have HX6 := hid (HX4.out.belowS Hb46.out)
      obtain ⟨g6, o6, c6, b6, v6, he6, -, hg6, hc6, hR6⟩ := HK6.out.last
      injection he6 with q1 q2 q3
      injection q1 with q1
      injection q1 with q4 q5
      subst q3 q4 q5
      have HA6 := hid (alike_any w6 HX6.out (by rw [h2]; exact hR6) (HT.out w6 Hb6.out).now)
      have hw1 : wrap64 (((D.length + 1 : Nat) : Int) - 1) = (D.length : Int) := by unfold wrap64; omega
      clear hR6
      go_wp2_with fail
      refine HA6.out.mono ?_
      rintro e w7 ⟨rfl, hb7⟩
      have Hr := hid (And.intro (HX6.out.belowS hb7) (And.intro (HK6.out.belowS hb7) (Below.step Hb6.out hb7 Hb6.out.size)))
      clear hb7 HA6
      go_wp2_with fail
      exact HK.out yG _ _ ps ((n : Int) + 1) w7 (by go_num) Hr.out.1 (by rw [h2]; exact Hr.out.2.1) Hr.out.2.2 _ _ _ _ _ _ _ _ _ _ _ _ _ _ _ _ _ _ _ _ _ _ _ _ _ _ _ _ _ _ _ _ _ _ _ _ _ _ _ _ _ _ _ _ _ _ _ _ _ _ _ _ _ _ _ _ _ _ _ _ _ _ _ _ _ _ _ _ _ _ _ _ _ _ _ _ _ _ _ _ _ _ _ _ _ _ _ _ _ _ _ _ _ _ _ _ _ _ _ _ _ _ _ _ _ _ _ _ _ _ _ _ _ _ _ _ _ _ _ _ _ _ _ _ _ _ _ _ _ _ _ _ _ _ _ _ _ _ _ _ _ _ _ _ _ _ _ _ _ _ _ _ _ _ _ _
    · go_wp2_with fail
      refine HE1.out.mono ?_
      rintro e w5 ⟨rfl, hb5⟩
      have Hb5 := hid (Below.step Hb4.out hb5 Hb4.out.size)
      have Hb45 := hid hb5
      have HE2' := hid (HE2.out w5 Hb5.out)
      have hz5 := hb5.size
      clear hb5 HE1 HE2
      go_wp2_with fail
      refine HE2'.out.mono ?_
      rintro e w6 ⟨rfl, hb6⟩
      have Hb6 := hid (Below.step Hb5.out hb6 Hb5.out.size)
      have Hb46 := hid (Below.step Hb45.out hb6 hz5)
      clear hb6 HE2' Hb45 Hb5
      have HK6 := hid (HK4.out.belowS Hb46.out)
      have HX6 := hid (HX4.out.belowS Hb46.out)
      obtain ⟨g6, o6, c6, b6, v6, he6, -, hg6, hc6, hR6⟩ := HK6.out.last
      injection he6 with q1 q2 q3
      injection q1 with q1
      injection q1 with q4 q5
      subst q3 q4 q5
      have HA6 := hid (alike_any w6 HX6.out (by rw [h2]; exact hR6) (HT.out w6 Hb6.out).now)
      have hw1 : wrap64 (((D.length + 1 : Nat) : Int) - 1) = (D.length : Int) := by unfold wrap64; omega
      clear hR6
      go_wp2_with fail
      refine HA6.out.mono ?_
      rintro e w7 ⟨rfl, hb7⟩
      have Hr := hid (And.intro (HX6.out.belowS hb7) (And.intro (HK6.out.belowS hb7) (Below.step Hb6.out hb7 Hb6.out.size)))
      clear hb7 HA6
      go_wp2_with fail
      exact HK.out yG _ _ ps ((n : Int) + 1) w7 (by go_num) Hr.out.1 (by rw [h2]; exact Hr.out.2.1) Hr.out.2.2 _ _ _ _ _ _ _ _ _ _ _ _ _ _ _ _ _ _ _ _ _ _ _ _ _ _ _ _ _ _ _ _ _ _ _ _ _ _ _ _ _ _ _ _ _ _ _ _ _ _ _ _ _ _ _ _ _ _ _ _ _ _ _ _ _ _ _ _ _ _ _ _ _ _ _ _ _ _ _ _ _ _ _ _ _ _ _ _ _ _ _ _ _ _ _ _ _ _ _ _ _ _ _ _ _ _ _ _ _ _ _ _ _ _ _ _ _ _ _ _ _ _ _ _ _ _ _ _ _ _ _ _ _ _ _ _ _ _ _ _ _ _ _ _ _ _ _ _ _ _ _ _ _ _ _ _
  · have e1 := (Prod.mk.inj h1).1
    have e2 := (Prod.mk.inj h1).2
    simp only at e1 e2 h2
    subst e1 e2
    subst h2
    simp only at h3 h4 h5 h6 HR4
    rw [hG1] at h4
    subst h4
    have HE1 := hid (error_any 0 6 w4 (HT.out w4 Hb4.out).now.gl)
    have HE2 := hid (fun W (hW : Below w0.heap.size w0 W) => error_any 0 0 W (HT.out W hW).now.gl)
    rw [errV_zero] at HE1 HE2
    rw [errV_zero]
    clear h1
    go_wp2_with fail
    refine HE1.out.mono ?_
    rintro e w5 ⟨rfl, hb5⟩
    have Hb5 := hid (Below.step Hb4.out hb5 Hb4.out.size)
    have Hb45 := hid hb5
    have HE2' := hid (HE2.out w5 Hb5.out)
    have hz5 := hb5.size
    clear hb5 HE1 HE2
    go_wp2_with fail
    refine HE2'.out.mono ?_
    rintro e w6 ⟨rfl, hb6⟩
    have Hb6 := hid (Below.step Hb5.out hb6 Hb5.out.size)
    have Hb46 := hid (Below.step Hb45.out hb6 hz5)
    clear hb6 HE2' Hb45 Hb5
    have HK6 := hid (HK4.out.belowS Hb46.out)
    have HX6 := hid (HX4.out.belowS Hb46.out)
    have HR6 := hid (HR4.out.imp fun _ hv => hv.belowS Hb46.out)
    have HB6 := hid (xbytes HX6.out)
    have hwb := wrap2_id hol
    have h6' := lt2_no h6
    have hpl : ps.length ≤ 1001 := by rw [HK6.out.len]; omega
    have hml : (marksOf D).length ≤ 1001 := by rw [marksOf_len]; omega
    have hz6 := Hb6.out.size
    have H5 := hid h5
    have H3 := hid h3
    have HBx := hid (fun W (hX : LogX w0.heap.size W l yG) => xbytes hX)
    clear h3 h5 h6
    generalize hnb : yG.bs.length = nb at *
    generalize hnc : G1.bs.length = nc at *
    clear hnb hnc hol
    go_wp2_with fail
    refine HB6.out.mono ?_
    rintro e w7 ⟨rfl, rfl⟩
    clear HB6
    go_wp2_with (at_builtin; refine appP _ w0.heap.size _ ps w1.heap.size HK6.out.done rfl _ _ rfl rfl rfl ?_ ?_ ?_ ?_)
    any_goals (first | (with_reducible rfl) | omega | exact World.size_alloc _ _ | (show _ ≤ _; rw [World.size_alloc]; omega))
    intro v8 w8 h8 f8 o8
    obtain ⟨hm8, hr8, hn8⟩ := HK6.out.app1 f8
    have HX8 := hid (HX6.out.frT f8 (HK6.out.done.tyNo (by decide)))
    have Hm8 := hid hm8
    have Hr8 := hid hr8
    have Hn8 := hid (HR6.out.imp fun _ hv => hn8 hv)
    have Hd8 := hid h8
    have Hb8 := hid (Hb6.out.trans (f8.below0 hz6 (fun i hi => HK6.out.done.ge i hi)))
    have HB8 := hid (HBx.out w8 HX8.out)
    have hz8 := Hb8.out.size
    clear hm8 hr8 hn8 h8 f8 o8 HBx
    go_wp2_with fail
    refine HB8.out.mono ?_
    rintro e w9 ⟨rfl, rfl⟩
    clear HB8
    go_wp2_with (at_builtin; refine appI _ w0.heap.size _ (marksOf D) _ Hm8.out rfl _ _ rfl rfl rfl ?_ ?_ ?_ ?_)
    any_goals (first | (with_reducible rfl) | omega | exact World.size_alloc _ _ | (show _ ≤ _; rw [World.size_alloc]; omega))
    intro v9 w10 h9 f9 o9
    rw [H5.out] at h9
    have HK10 := hid (HK6.out.app2 Hm8.out Hr8.out Hn8.out Hd8.out f9 h9)
    have HX10 := hid (HX8.out.frT f9 (Hm8.out.tyNo (by decide)))
    have Hb10 := hid (Hb8.out.trans (f9.below0 hz8 (fun i hi => Hm8.out.ge i hi)))
    have hz10 := Hb10.out.size
    clear h9 f9 o9
    obtain ⟨g6, o6, c6, b6, v6, rfl, -, hg6, hc6, hR6⟩ := HK10.out.last
    have hlD : (D ++ [ee]).length = D.length + 1 := by rw [List.length_append, List.length_singleton]
    rw [hlD] at hc6
    have HA6 := hid (alike_any w10 HX10.out (by rw [H3.out]; exact hR6) (HT.out w10 Hb10.out).now)
    have hw1 : wrap64 (((D.length + 1 + 1 : Nat) : Int) - 1) = ((D.length + 1 : Nat) : Int) := by unfold wrap64; omega
    rw [hlD]
    have HlD := hid hlD
    clear hR6 hlD
    go_wp2_with fail
    refine HA6.out.mono ?_
    rintro e w11 ⟨rfl, hb11⟩
    have Hr := hid (And.intro (HX10.out.belowS hb11) (And.intro (HK10.out.belowS hb11) (Below.step Hb10.out hb11 hz10)))
    clear hb11 HA6
    go_wp2_with fail
    have hk := Hr.out.2.1
    rw [HlD.out] at hk
    rw [← H3.out] at hk
    exact HK.out yG _ _ _ ((n : Int) + 1) w11 (by go_num) Hr.out.1 hk Hr.out.2.2 _ _ _ _ _ _ _ _ _ _ _ _ _ _ _ _ _ _ _ _ _ _ _ _ _ _ _ _ _ _ _ _ _ _ _ _ _ _ _ _ _ _ _ _ _ _ _ _ _ _ _ _ _ _ _ _ _ _ _ _ _ _ _ _ _ _ _ _ _ _ _ _ _ _ _ _ _ _ _ _ _ _ _ _ _ _ _ _ _ _ _ _ _ _ _ _ _ _ _ _ _ _ _ _ _ _ _ _ _ _ _ _ _ _ _ _ _ _ _ _ _ _ _ _ _ _ _ _ _ _ _ _ _ _ _ _ _ _ _ _ _ _ _ _ _ _ _ _ _ _ _ _ _ _ _ _
set_option maxRecDepth 1000000 in
theorem ka_all (w0 : World) (ks dl sy : SlV Int) (tx : SlV ByteArray) (hks : IntsAt w0 ks) (hdl : IntsAt w0 dl) (hsy : IntsAt w0 sy) (htx : StrsAt w0 tx) (hT : TvB w0.heap.size w0) (w : World) (hb : Below w0.heap.size w0 w) (l n : Nat) (G : LG) (vd vm : Value) (ps : List Nat) (hX : LogX w0.heap.size w l G) (hK0 : KD w0.heap.size w vd vm ps G.D) (hn : n < ks.xs.length) (u4 u5 u6 u7 u8 u9 u10 u11 u12 u13 u14 u15 u16 u17 u18 u19 u20 u25 u26 u27 u28 u29 u30 u31 u32 u33 u34 u35 u36 u37 u38 u39 u40 u41 u42 u43 u44 u45 u46 u47 u48 u49 u50 u51 u52 u53 u54 u55 u56 u57 u58 u59 u60 u61 u62 u63 u64 u65 u66 u67 u68 u69 u70 u71 u72 u73 u74 u75 u76 u77 u78 u79 u80 u81 u82 u83 u84 u85 u86 u87 u88 u89 u90 u91 u92 u93 u94 u95 u96 u97 u98 u99 u100 u101 u102 u103 u104 u105 u106 u107 u108 u109 u110 u111 u112 u113 u114 u115 u116 u117 u118 u119 u120 u121 u122 u123 u124 u125 u126 u127 u128 u129 u130 u131 u132 u133 u134 u135 u136 u137 u138 u139 u140 u141 u142 u143 u144 u145 u146 u147 u148 u149 u150 u151 u152 u153 u154 u155 u156 u157 u158 u159 u160 u161 u162 u163 u164 u165 u166 u167 u168 u169 u170 u171 u172 u173 u174 u175 u176 u177 u178 u179 u180 u181 u182 u183 u184 u185 u186 u187 u188 u189 u190 u191 u192 u193 u194 u195 u196 u197 u198 u199 u200 u201 u202 u203 u204 u205 u206 u207 u208 u209 u210 u211 u212 u213 u214 u215 u216 u217 u218 u219 u220 u221 u222 u223 u224 u225 u226 u227 u228 u229 u230 u231 u232 u233 u234 u235 u236 u237 u238 u239 u240 u241 u242 u243 u244 u245 u246 u247 u248 u249 u250 u251 u252 u253 u254 u255 u256 u257 u258 u259 u260 u261 u262 u263 u264 u265 u266 u267 u268 u269 u270 u271 u272 u273 u274 u275 u276 u277 u278 u279 u280 u281 u282 u283 u284 u285 u286 u287 u288 u289 u290 u291 u292 u293 u294 u295 u296 u297 u298 u299 u300 u301 u302 u303 u304 u305 u306 u307 u308 u309 u310 u311 u312 u313 u314 u315 u316 u317 u318 u319 u320 u321 u322 u323 u324 u325 u326 u327 u328 u329 u330 u331 u332 u333 u334 u335 u336 u337 u338 u339 u340 u341 u342 u343 u344 u345 u346 u347 : Value) (Q : Exit → Act → World → Prop)
    (hK : ∀ (G' : LG) (vd' vm' : Value) (ps' : List Nat) (z : Int) (wx : World), z = ((n + 1 : Nat) : Int) → LogX w0.heap.size wx l G' → KD w0.heap.size wx vd' vm' ps' G'.D → Below w0.heap.size w0 wx → ∀ (v12 v27 v28 v29 v30 v31 v32 v33 v34 v35 v36 v37 v126 v127 v128 v129 v130 v131 v132 v133 v134 v135 v136 v137 v138 v139 v140 v141 v142 v143 v144 v145 v146 v147 v148 v149 v150 v151 v152 v153 v154 v155 v156 v157 v158 v159 v160 v161 v162 v163 v164 v165 v166 v167 v168 v169 v170 v171 v172 v173 v174 v175 v176 v177 v178 v179 v180 v181 v182 v183 v184 v185 v186 v187 v188 v189 v190 v191 v192 v193 v194 v195 v196 v197 v198 v199 v200 v201 v202 v203 v204 v205 v206 v207 v208 v209 v210 v211 v212 v213 v214 v215 v216 v217 v218 v219 v220 v221 v222 v223 v224 v225 v226 v227 v228 v229 v230 v231 v232 v233 v234 v235 v236 v237 v238 v239 v240 v241 v242 v243 v244 v245 v246 v247 v248 v249 v250 v251 v252 v253 v254 v255 v256 v257 v258 v259 v260 v261 v262 v263 v264 v265 v266 v267 v268 v269 : Value), Q .normal ⟨List.toArray ((.slice ks.A ks.xs.length ks.c) :: (.slice tx.A tx.xs.length tx.c) :: (.slice dl.A dl.xs.length dl.c) :: (.slice sy.A sy.xs.length sy.c) :: u4 :: u5 :: u6 :: u7 :: u8 :: u9 :: u10 :: u11 :: v12 :: u13 :: u14 :: u15 :: u16 :: u17 :: u18 :: u19 :: u20 :: (.pointer (some ⟨l, 0, none⟩)) :: vd' :: vm' :: (.int .i64 z) :: u25 :: u26 :: v27 :: v28 :: v29 :: v30 :: v31 :: v32 :: v33 :: v34 :: v35 :: v36 :: v37 :: u38 :: u39 :: u40 :: u41 :: u42 :: u43 :: u44 :: u45 :: u46 :: u47 :: u48 :: u49 :: u50 :: u51 :: u52 :: u53 :: u54 :: u55 :: u56 :: u57 :: u58 :: u59 :: u60 :: u61 :: u62 :: u63 :: u64 :: u65 :: u66 :: u67 :: u68 :: u69 :: u70 :: u71 :: u72 :: u73 :: u74 :: u75 :: u76 :: u77 :: u78 :: u79 :: u80 :: u81 :: u82 :: u83 :: u84 :: u85 :: u86 :: u87 :: u88 :: u89 :: u90 :: u91 :: u92 :: u93 :: u94 :: u95 :: u96 :: u97 :: u98 :: u99 :: u100 :: u101 :: u102 :: u103 :: u104 :: u105 :: u106 :: u107 :: u108 :: u109 :: u110 :: u111 :: u112 :: u113 :: u114 :: u115 :: u116 :: u117 :: u118 :: u119 :: u120 :: u121 :: u122 :: u123 :: u124 :: u125 :: v126 :: v127 :: v128 :: v129 :: v130 :: v131 :: v132 :: v133 :: v134 :: v135 :: v136 :: v137 :: v138 :: v139 :: v140 :: v141 :: v142 :: v143 :: v144 :: v145 :: v146 :: v147 :: v148 :: v149 :: v150 :: v151 :: v152 :: v153 :: v154 :: v155 :: v156 :: v157 :: v158 :: v159 :: v160 :: v161 :: v162 :: v163 :: v164 :: v165 :: v166 :: v167 :: v168 :: v169 :: v170 :: v171 :: v172 :: v173 :: v174 :: v175 :: v176 :: v177 :: v178 :: v179 :: v180 :: v181 :: v182 :: v183 :: v184 :: v185 :: v186 :: v187 :: v188 :: v189 :: v190 :: v191 :: v192 :: v193 :: v194 :: v195 :: v196 :: v197 :: v198 :: v199 :: v200 :: v201 :: v202 :: v203 :: v204 :: v205 :: v206 :: v207 :: v208 :: v209 :: v210 :: v211 :: v212 :: v213 :: v214 :: v215 :: v216 :: v217 :: v218 :: v219 :: v220 :: v221 :: v222 :: v223 :: v224 :: v225 :: v226 :: v227 :: v228 :: v229 :: v230 :: v231 :: v232 :: v233 :: v234 :: v235 :: v236 :: v237 :: v238 :: v239 :: v240 :: v241 :: v242 :: v243 :: v244 :: v245 :: v246 :: v247 :: v248 :: v249 :: v250 :: v251 :: v252 :: v253 :: v254 :: v255 :: v256 :: v257 :: v258 :: v259 :: v260 :: v261 :: v262 :: v263 :: v264 :: v265 :: v266 :: v267 :: v268 :: v269 :: u270 :: u271 :: u272 :: u273 :: u274 :: u275 :: u276 :: u277 :: u278 :: u279 :: u280 :: u281 :: u282 :: u283 :: u284 :: u285 :: u286 :: u287 :: u288 :: u289 :: u290 :: u291 :: u292 :: u293 :: u294 :: u295 :: u296 :: u297 :: u298 :: u299 :: u300 :: u301 :: u302 :: u303 :: u304 :: u305 :: u306 :: u307 :: u308 :: u309 :: u310 :: u311 :: u312 :: u313 :: u314 :: u315 :: u316 :: u317 :: u318 :: u319 :: u320 :: u321 :: u322 :: u323 :: u324 :: u325 :: u326 :: u327 :: u328 :: u329 :: u330 :: u331 :: u332 :: u333 :: u334 :: u335 :: u336 :: u337 :: u338 :: u339 :: u340 :: u341 :: u342 :: u343 :: u344 :: u345 :: u346 :: u347 :: []), []⟩ wx) :
    Code.wp Tryz.prog part_ka Q ⟨List.toArray ((.slice ks.A ks.xs.length ks.c) :: (.slice tx.A tx.xs.length tx.c) :: (.slice dl.A dl.xs.length dl.c) :: (.slice sy.A sy.xs.length sy.c) :: u4 :: u5 :: u6 :: u7 :: u8 :: u9 :: u10 :: u11 :: u12 :: u13 :: u14 :: u15 :: u16 :: u17 :: u18 :: u19 :: u20 :: (.pointer (some ⟨l, 0, none⟩)) :: vd :: vm :: (.int .i64 (n : Nat)) :: u25 :: u26 :: u27 :: u28 :: u29 :: u30 :: u31 :: u32 :: u33 :: u34 :: u35 :: u36 :: u37 :: u38 :: u39 :: u40 :: u41 :: u42 :: u43 :: u44 :: u45 :: u46 :: u47 :: u48 :: u49 :: u50 :: u51 :: u52 :: u53 :: u54 :: u55 :: u56 :: u57 :: u58 :: u59 :: u60 :: u61 :: u62 :: u63 :: u64 :: u65 :: u66 :: u67 :: u68 :: u69 :: u70 :: u71 :: u72 :: u73 :: u74 :: u75 :: u76 :: u77 :: u78 :: u79 :: u80 :: u81 :: u82 :: u83 :: u84 :: u85 :: u86 :: u87 :: u88 :: u89 :: u90 :: u91 :: u92 :: u93 :: u94 :: u95 :: u96 :: u97 :: u98 :: u99 :: u100 :: u101 :: u102 :: u103 :: u104 :: u105 :: u106 :: u107 :: u108 :: u109 :: u110 :: u111 :: u112 :: u113 :: u114 :: u115 :: u116 :: u117 :: u118 :: u119 :: u120 :: u121 :: u122 :: u123 :: u124 :: u125 :: u126 :: u127 :: u128 :: u129 :: u130 :: u131 :: u132 :: u133 :: u134 :: u135 :: u136 :: u137 :: u138 :: u139 :: u140 :: u141 :: u142 :: u143 :: u144 :: u145 :: u146 :: u147 :: u148 :: u149 :: u150 :: u151 :: u152 :: u153 :: u154 :: u155 :: u156 :: u157 :: u158 :: u159 :: u160 :: u161 :: u162 :: u163 :: u164 :: u165 :: u166 :: u167 :: u168 :: u169 :: u170 :: u171 :: u172 :: u173 :: u174 :: u175 :: u176 :: u177 :: u178 :: u179 :: u180 :: u181 :: u182 :: u183 :: u184 :: u185 :: u186 :: u187 :: u188 :: u189 :: u190 :: u191 :: u192 :: u193 :: u194 :: u195 :: u196 :: u197 :: u198 :: u199 :: u200 :: u201 :: u202 :: u203 :: u204 :: u205 :: u206 :: u207 :: u208 :: u209 :: u210 :: u211 :: u212 :: u213 :: u214 :: u215 :: u216 :: u217 :: u218 :: u219 :: u220 :: u221 :: u222 :: u223 :: u224 :: u225 :: u226 :: u227 :: u228 :: u229 :: u230 :: u231 :: u232 :: u233 :: u234 :: u235 :: u236 :: u237 :: u238 :: u239 :: u240 :: u241 :: u242 :: u243 :: u244 :: u245 :: u246 :: u247 :: u248 :: u249 :: u250 :: u251 :: u252 :: u253 :: u254 :: u255 :: u256 :: u257 :: u258 :: u259 :: u260 :: u261 :: u262 :: u263 :: u264 :: u265 :: u266 :: u267 :: u268 :: u269 :: u270 :: u271 :: u272 :: u273 :: u274 :: u275 :: u276 :: u277 :: u278 :: u279 :: u280 :: u281 :: u282 :: u283 :: u284 :: u285 :: u286 :: u287 :: u288 :: u289 :: u290 :: u291 :: u292 :: u293 :: u294 :: u295 :: u296 :: u297 :: u298 :: u299 :: u300 :: u301 :: u302 :: u303 :: u304 :: u305 :: u306 :: u307 :: u308 :: u309 :: u310 :: u311 :: u312 :: u313 :: u314 :: u315 :: u316 :: u317 :: u318 :: u319 :: u320 :: u321 :: u322 :: u323 :: u324 :: u325 :: u326 :: u327 :: u328 :: u329 :: u330 :: u331 :: u332 :: u333 :: u334 :: u335 :: u336 :: u337 :: u338 :: u339 :: u340 :: u341 :: u342 :: u343 :: u344 :: u345 :: u346 :: u347 :: []), []⟩ w :=
  Code.wp_mono (fun e a W h => by
    cases e
    · exact h
    · exact h.elim
    · exact h.elim
    · exact h.2.elim fun _ h => h.2.elim
    · exact h.2.elim
    · exact h.elim) (ka_any w0 ks dl sy tx hks hdl hsy htx hT w hb l n G vd vm ps hX hK0 hn u4 u5 u6 u7 u8 u9 u10 u11 u12 u13 u14 u15 u16 u17 u18 u19 u20 u25 u26 u27 u28 u29 u30 u31 u32 u33 u34 u35 u36 u37 u38 u39 u40 u41 u42 u43 u44 u45 u46 u47 u48 u49 u50 u51 u52 u53 u54 u55 u56 u57 u58 u59 u60 u61 u62 u63 u64 u65 u66 u67 u68 u69 u70 u71 u72 u73 u74 u75 u76 u77 u78 u79 u80 u81 u82 u83 u84 u85 u86 u87 u88 u89 u90 u91 u92 u93 u94 u95 u96 u97 u98 u99 u100 u101 u102 u103 u104 u105 u106 u107 u108 u109 u110 u111 u112 u113 u114 u115 u116 u117 u118 u119 u120 u121 u122 u123 u124 u125 u126 u127 u128 u129 u130 u131 u132 u133 u134 u135 u136 u137 u138 u139 u140 u141 u142 u143 u144 u145 u146 u147 u148 u149 u150 u151 u152 u153 u154 u155 u156 u157 u158 u159 u160 u161 u162 u163 u164 u165 u166 u167 u168 u169 u170 u171 u172 u173 u174 u175 u176 u177 u178 u179 u180 u181 u182 u183 u184 u185 u186 u187 u188 u189 u190 u191 u192 u193 u194 u195 u196 u197 u198 u199 u200 u201 u202 u203 u204 u205 u206 u207 u208 u209 u210 u211 u212 u213 u214 u215 u216 u217 u218 u219 u220 u221 u222 u223 u224 u225 u226 u227 u228 u229 u230 u231 u232 u233 u234 u235 u236 u237 u238 u239 u240 u241 u242 u243 u244 u245 u246 u247 u248 u249 u250 u251 u252 u253 u254 u255 u256 u257 u258 u259 u260 u261 u262 u263 u264 u265 u266 u267 u268 u269 u270 u271 u272 u273 u274 u275 u276 u277 u278 u279 u280 u281 u282 u283 u284 u285 u286 u287 u288 u289 u290 u291 u292 u293 u294 u295 u296 u297 u298 u299 u300 u301 u302 u303 u304 u305 u306 u307 u308 u309 u310 u311 u312 u313 u314 u315 u316 u317 u318 u319 u320 u321 u322 u323 u324 u325 u326 u327 u328 u329 u330 u331 u332 u333 u334 u335 u336 u337 u338 u339 u340 u341 u342 u343 u344 u345 u346 u347 (fun a W => Q .normal a W) hK)
end Go.Proofs.YtljkclebcoanaaaGreatDoor
