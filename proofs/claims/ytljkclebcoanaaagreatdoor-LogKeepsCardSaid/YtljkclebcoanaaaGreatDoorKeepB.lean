/-
  WHAT FOLLOWS merelaw3.LogKeeps's inner loop: a crash, and what it leaves. CONDITIONS: the library's variables read as they are laid (TvB).
-/
import Derived.Test.YtljkclebcoanaaaGreatDoorKeepA
namespace Go.Proofs.YtljkclebcoanaaaGreatDoor
open Go.RowKit
open Go.ChangeShapes Go.WideShapes Go.ChangeAt

theorem wrap_sub {a b : Nat} (h : b ≤ a) (ha : a ≤ 57000) : wrap64 ((a : Int) - (b : Int)) = (a : Int) - (b : Int) := by unfold wrap64; omega
theorem safe_at {a H : Nat} {z : Int} (h : (H : Int) = (a : Int) + z) (hH : H ≤ 57000) : 0 ≤ (a : Int) + z ∧ (a : Int) + z ≤ 57000 := by omega
theorem high_le (G : LG) (hs : G.safe ≤ G.bs.length) (hb : G.bs.length ≤ 57000) (z : Int) : G.high z ≤ 57000 := by
  obtain ⟨a1, a2, a3⟩ := LG.high_ways G hs z
  by_cases h0 : 0 < z
  · by_cases h1 : z < (G.bs.length : Int) - (G.safe : Int)
    · have := a2 h0 h1; omega
    · have := a3 h0 h1; omega
  · have := a1 (by omega); omega
theorem KD.rowD {base : Nat} {w : World} {vd vm : Value} {ps : List Nat} {D : List E} (h : KD base w vd vm ps D) : ∃ g off c, vd = .slice (some ⟨g, off, none⟩) (D.length + 1) c ∧ D.length + 1 ≤ c ∧ c ≤ maxLen ∧ g < w.heap.size ∧ ∀ i, i ≤ D.length → w.cell? ⟨g, off + i, none⟩ = some (.pointer (some ⟨ps.getD i 0, 0, none⟩)) := by
  have hl := h.len
  obtain ⟨g, off, c, rfl, h1, h2, h3, h4, _, hc, _⟩ := h.done.get (by omega)
  refine ⟨g, off, c, by rw [hl], by omega, h2, h4, fun i hi => ?_⟩
  have := hc i (by omega) 0 (by decide)
  rw [Nat.mul_one, Nat.add_zero] at this
  rw [this, getD_get _ (by omega)]
  rfl
theorem KD.rowM {base : Nat} {w : World} {vd vm : Value} {ps : List Nat} {D : List E} (h : KD base w vd vm ps D) : ∃ g off c, vm = .slice (some ⟨g, off, none⟩) (D.length + 1) c ∧ D.length + 1 ≤ c ∧ c ≤ maxLen ∧ g < w.heap.size ∧ ∀ i, i ≤ D.length → w.cell? ⟨g, off + i, none⟩ = some (.int .i64 ((bytesL (D.take i)).length : Nat)) := by
  have hl := marksOf_len D
  obtain ⟨g, off, c, rfl, h1, h2, h3, h4, _, hc, _⟩ := h.marks.get (by omega)
  refine ⟨g, off, c, by rw [hl], by omega, h2, h4, fun i hi => ?_⟩
  have := hc i (by omega) 0 (by decide)
  rw [Nat.mul_one, Nat.add_zero] at this
  rw [this]
  show some (Value.int .i64 _) = _
  rw [← getD_get _ (by omega), marksOf_get D hi]

noncomputable def part_kb : Code := (Tryz.f4.body.bind (tailBlk 2)).getD .skip
set_option maxHeartbeats 16000000 in
set_option maxRecDepth 1000000 in
theorem kb_any (w0 : World) (kp : SlV Int) (hkp : IntsAt w0 kp) (hkr : ∀ x ∈ kp.xs, -9223372036854775808 ≤ x ∧ x ≤ 9223372036854775807) (hT : TvB w0.heap.size w0) (w : World) (hb : Below w0.heap.size w0 w) (l r : Nat) (G : LG) (vd vm : Value) (ps : List Nat) (hX : LogX w0.heap.size w l G) (hK0 : KD w0.heap.size w vd vm ps G.D) (_hr : r ≤ 3) (u0 u1 u2 u3 u4 u6 u7 u8 u9 u10 u11 u12 u13 u14 u15 u16 u17 u18 u19 u20 u24 u26 u27 u28 u29 u30 u31 u32 u33 u34 u35 u36 u37 u38 u39 u40 u41 u42 u43 u44 u45 u46 u47 u48 u49 u50 u51 u52 u53 u54 u55 u56 u57 u58 u59 u60 u61 u62 u63 u64 u65 u66 u67 u68 u69 u70 u71 u72 u73 u74 u75 u76 u77 u78 u79 u80 u81 u82 u83 u84 u85 u86 u87 u88 u89 u90 u91 u92 u93 u94 u95 u96 u97 u98 u99 u100 u101 u102 u103 u104 u105 u106 u107 u108 u109 u110 u111 u112 u113 u114 u115 u116 u117 u118 u119 u120 u121 u122 u123 u124 u125 u126 u127 u128 u129 u130 u131 u132 u133 u134 u135 u136 u137 u138 u139 u140 u141 u142 u143 u144 u145 u146 u147 u148 u149 u150 u151 u152 u153 u154 u155 u156 u157 u158 u159 u160 u161 u162 u163 u164 u165 u166 u167 u168 u169 u170 u171 u172 u173 u174 u175 u176 u177 u178 u179 u180 u181 u182 u183 u184 u185 u186 u187 u188 u189 u190 u191 u192 u193 u194 u195 u196 u197 u198 u199 u200 u201 u202 u203 u204 u205 u206 u207 u208 u209 u210 u211 u212 u213 u214 u215 u216 u217 u218 u219 u220 u221 u222 u223 u224 u225 u226 u227 u228 u229 u230 u231 u232 u233 u234 u235 u236 u237 u238 u239 u240 u241 u242 u243 u244 u245 u246 u247 u248 u249 u250 u251 u252 u253 u254 u255 u256 u257 u258 u259 u260 u261 u262 u263 u264 u265 u266 u267 u268 u269 u270 u271 u272 u273 u274 u275 u276 u277 u278 u279 u280 u281 u282 u283 u284 u285 u286 u287 u288 u289 u290 u291 u292 u293 u294 u295 u296 u297 u298 u299 u300 u301 u302 u303 u304 u305 u306 u307 u308 u309 u310 u311 u312 u313 u314 u315 u316 u317 u318 u319 u320 u321 u322 u323 u324 u325 u326 u327 u328 u329 u330 u331 u332 u333 u334 u335 u336 u337 u338 u339 u340 u341 u342 u343 u344 u345 u346 u347 : Value) (K : Act → World → Prop)
    (hK : ∀ (G' : LG) (vd' vm' : Value) (ps' : List Nat) (wx : World), LogX w0.heap.size wx l G' → KD w0.heap.size wx vd' vm' ps' G'.D → Below w0.heap.size w0 wx → ∀ (v12 v38 v39 v40 v41 v42 v43 v44 v270 v271 v272 v273 v274 v275 v276 v277 v278 v279 v280 v281 v282 v283 v284 v285 v286 v287 v288 v289 v290 v291 v292 v293 v294 v295 v296 v297 v298 v299 v300 v301 v302 v303 v304 v305 v306 v307 v308 v309 v310 v311 v312 v313 v314 v315 v316 v317 v318 v319 v320 v321 v322 v323 v324 v325 v326 v327 v328 v329 v330 v331 v332 v333 v334 v335 v336 v337 v338 v339 v340 v341 v342 v343 v344 v345 v346 v347 : Value), K ⟨List.toArray (u0 :: u1 :: u2 :: u3 :: u4 :: (.slice kp.A kp.xs.length kp.c) :: u6 :: u7 :: u8 :: u9 :: u10 :: u11 :: v12 :: u13 :: u14 :: u15 :: u16 :: u17 :: u18 :: u19 :: u20 :: (.pointer (some ⟨l, 0, none⟩)) :: vd' :: vm' :: u24 :: (.int .i64 (r : Nat)) :: u26 :: u27 :: u28 :: u29 :: u30 :: u31 :: u32 :: u33 :: u34 :: u35 :: u36 :: u37 :: v38 :: v39 :: v40 :: v41 :: v42 :: v43 :: v44 :: u45 :: u46 :: u47 :: u48 :: u49 :: u50 :: u51 :: u52 :: u53 :: u54 :: u55 :: u56 :: u57 :: u58 :: u59 :: u60 :: u61 :: u62 :: u63 :: u64 :: u65 :: u66 :: u67 :: u68 :: u69 :: u70 :: u71 :: u72 :: u73 :: u74 :: u75 :: u76 :: u77 :: u78 :: u79 :: u80 :: u81 :: u82 :: u83 :: u84 :: u85 :: u86 :: u87 :: u88 :: u89 :: u90 :: u91 :: u92 :: u93 :: u94 :: u95 :: u96 :: u97 :: u98 :: u99 :: u100 :: u101 :: u102 :: u103 :: u104 :: u105 :: u106 :: u107 :: u108 :: u109 :: u110 :: u111 :: u112 :: u113 :: u114 :: u115 :: u116 :: u117 :: u118 :: u119 :: u120 :: u121 :: u122 :: u123 :: u124 :: u125 :: u126 :: u127 :: u128 :: u129 :: u130 :: u131 :: u132 :: u133 :: u134 :: u135 :: u136 :: u137 :: u138 :: u139 :: u140 :: u141 :: u142 :: u143 :: u144 :: u145 :: u146 :: u147 :: u148 :: u149 :: u150 :: u151 :: u152 :: u153 :: u154 :: u155 :: u156 :: u157 :: u158 :: u159 :: u160 :: u161 :: u162 :: u163 :: u164 :: u165 :: u166 :: u167 :: u168 :: u169 :: u170 :: u171 :: u172 :: u173 :: u174 :: u175 :: u176 :: u177 :: u178 :: u179 :: u180 :: u181 :: u182 :: u183 :: u184 :: u185 :: u186 :: u187 :: u188 :: u189 :: u190 :: u191 :: u192 :: u193 :: u194 :: u195 :: u196 :: u197 :: u198 :: u199 :: u200 :: u201 :: u202 :: u203 :: u204 :: u205 :: u206 :: u207 :: u208 :: u209 :: u210 :: u211 :: u212 :: u213 :: u214 :: u215 :: u216 :: u217 :: u218 :: u219 :: u220 :: u221 :: u222 :: u223 :: u224 :: u225 :: u226 :: u227 :: u228 :: u229 :: u230 :: u231 :: u232 :: u233 :: u234 :: u235 :: u236 :: u237 :: u238 :: u239 :: u240 :: u241 :: u242 :: u243 :: u244 :: u245 :: u246 :: u247 :: u248 :: u249 :: u250 :: u251 :: u252 :: u253 :: u254 :: u255 :: u256 :: u257 :: u258 :: u259 :: u260 :: u261 :: u262 :: u263 :: u264 :: u265 :: u266 :: u267 :: u268 :: u269 :: v270 :: v271 :: v272 :: v273 :: v274 :: v275 :: v276 :: v277 :: v278 :: v279 :: v280 :: v281 :: v282 :: v283 :: v284 :: v285 :: v286 :: v287 :: v288 :: v289 :: v290 :: v291 :: v292 :: v293 :: v294 :: v295 :: v296 :: v297 :: v298 :: v299 :: v300 :: v301 :: v302 :: v303 :: v304 :: v305 :: v306 :: v307 :: v308 :: v309 :: v310 :: v311 :: v312 :: v313 :: v314 :: v315 :: v316 :: v317 :: v318 :: v319 :: v320 :: v321 :: v322 :: v323 :: v324 :: v325 :: v326 :: v327 :: v328 :: v329 :: v330 :: v331 :: v332 :: v333 :: v334 :: v335 :: v336 :: v337 :: v338 :: v339 :: v340 :: v341 :: v342 :: v343 :: v344 :: v345 :: v346 :: v347 :: []), []⟩ wx) :
    Code.wp Tryz.prog part_kb (Exit.then K (bodyPost Tryz.prog Tryz.f4 (fun _ _ => False))) ⟨List.toArray (u0 :: u1 :: u2 :: u3 :: u4 :: (.slice kp.A kp.xs.length kp.c) :: u6 :: u7 :: u8 :: u9 :: u10 :: u11 :: u12 :: u13 :: u14 :: u15 :: u16 :: u17 :: u18 :: u19 :: u20 :: (.pointer (some ⟨l, 0, none⟩)) :: vd :: vm :: u24 :: (.int .i64 (r : Nat)) :: u26 :: u27 :: u28 :: u29 :: u30 :: u31 :: u32 :: u33 :: u34 :: u35 :: u36 :: u37 :: u38 :: u39 :: u40 :: u41 :: u42 :: u43 :: u44 :: u45 :: u46 :: u47 :: u48 :: u49 :: u50 :: u51 :: u52 :: u53 :: u54 :: u55 :: u56 :: u57 :: u58 :: u59 :: u60 :: u61 :: u62 :: u63 :: u64 :: u65 :: u66 :: u67 :: u68 :: u69 :: u70 :: u71 :: u72 :: u73 :: u74 :: u75 :: u76 :: u77 :: u78 :: u79 :: u80 :: u81 :: u82 :: u83 :: u84 :: u85 :: u86 :: u87 :: u88 :: u89 :: u90 :: u91 :: u92 :: u93 :: u94 :: u95 :: u96 :: u97 :: u98 :: u99 :: u100 :: u101 :: u102 :: u103 :: u104 :: u105 :: u106 :: u107 :: u108 :: u109 :: u110 :: u111 :: u112 :: u113 :: u114 :: u115 :: u116 :: u117 :: u118 :: u119 :: u120 :: u121 :: u122 :: u123 :: u124 :: u125 :: u126 :: u127 :: u128 :: u129 :: u130 :: u131 :: u132 :: u133 :: u134 :: u135 :: u136 :: u137 :: u138 :: u139 :: u140 :: u141 :: u142 :: u143 :: u144 :: u145 :: u146 :: u147 :: u148 :: u149 :: u150 :: u151 :: u152 :: u153 :: u154 :: u155 :: u156 :: u157 :: u158 :: u159 :: u160 :: u161 :: u162 :: u163 :: u164 :: u165 :: u166 :: u167 :: u168 :: u169 :: u170 :: u171 :: u172 :: u173 :: u174 :: u175 :: u176 :: u177 :: u178 :: u179 :: u180 :: u181 :: u182 :: u183 :: u184 :: u185 :: u186 :: u187 :: u188 :: u189 :: u190 :: u191 :: u192 :: u193 :: u194 :: u195 :: u196 :: u197 :: u198 :: u199 :: u200 :: u201 :: u202 :: u203 :: u204 :: u205 :: u206 :: u207 :: u208 :: u209 :: u210 :: u211 :: u212 :: u213 :: u214 :: u215 :: u216 :: u217 :: u218 :: u219 :: u220 :: u221 :: u222 :: u223 :: u224 :: u225 :: u226 :: u227 :: u228 :: u229 :: u230 :: u231 :: u232 :: u233 :: u234 :: u235 :: u236 :: u237 :: u238 :: u239 :: u240 :: u241 :: u242 :: u243 :: u244 :: u245 :: u246 :: u247 :: u248 :: u249 :: u250 :: u251 :: u252 :: u253 :: u254 :: u255 :: u256 :: u257 :: u258 :: u259 :: u260 :: u261 :: u262 :: u263 :: u264 :: u265 :: u266 :: u267 :: u268 :: u269 :: u270 :: u271 :: u272 :: u273 :: u274 :: u275 :: u276 :: u277 :: u278 :: u279 :: u280 :: u281 :: u282 :: u283 :: u284 :: u285 :: u286 :: u287 :: u288 :: u289 :: u290 :: u291 :: u292 :: u293 :: u294 :: u295 :: u296 :: u297 :: u298 :: u299 :: u300 :: u301 :: u302 :: u303 :: u304 :: u305 :: u306 :: u307 :: u308 :: u309 :: u310 :: u311 :: u312 :: u313 :: u314 :: u315 :: u316 :: u317 :: u318 :: u319 :: u320 :: u321 :: u322 :: u323 :: u324 :: u325 :: u326 :: u327 :: u328 :: u329 :: u330 :: u331 :: u332 :: u333 :: u334 :: u335 :: u336 :: u337 :: u338 :: u339 :: u340 :: u341 :: u342 :: u343 :: u344 :: u345 :: u346 :: u347 :: []), []⟩ w := by
  conv => arg 2; whnf
  have hkl := hkp.len
  unfold maxLen at hkl
  have hbl := hX.1.len
  have hsf := hX.1.safe
  have hdl := hX.1.many
  have HK := hid hK
  have HT := hid (fun W (hW : Below w0.heap.size w0 W) => hT.step hW)
  have HX := hid hX
  have HK0 := hid hK0
  have Hb := hid hb
  clear hK hX hK0 hb hT
  go_upto_if 273 with fail
  go_cut [38] from 270 to 277 (fun v wx => (∃ z : Int, -9223372036854775808 ≤ z ∧ z ≤ 9223372036854775807 ∧ v = .int .i64 z) ∧ wx = w)
  case first =>
    by_cases hs : r < kp.xs.length
    · obtain ⟨b, off, hA, hbb, hc⟩ := intsAt_cell hkp Hb.out hs
      have hx := hkr _ (List.getElem_mem hs)
      rw [← getD_get 0 hs] at hx
      generalize kp.xs.getD r 0 = x at *
      rw [hA]
      have HA := hid hA
      have Hx := hid hx
      have hs' : (r : Int) < (kp.xs.length : Int) := by omega
      clear hA hx
      go_wp2_with fail
      rw [← HA.out]
      go_meet
      exact ⟨⟨x, Hx.out.1, Hx.out.2, rfl⟩, rfl⟩
    · have hs' : ¬ (r : Int) < (kp.xs.length : Int) := by omega
      clear hs
      go_wp2_with fail
      go_meet
      exact ⟨⟨0, by decide, by decide, rfl⟩, rfl⟩
  case rest =>
  obtain ⟨⟨z, hz1, hz2, rfl⟩, hwc⟩ := hcut
  obtain rfl : w = wc := hwc.symm
  have HB := hid (xbytes HX.out)
  have HZ := hid (xsafe HX.out)
  have HC := hid (kcrash HX.out (HT.out w Hb.out) z ⟨hz1, hz2⟩)
  have Hw := hid (LG.high_ways G hsf z)
  have hH := high_le G hsf hbl z
  have Hcd := hid (show (G.crash z).D = G.D.take (wholeN G.D (G.high z)) ∧ (G.crash z).bs.length = (bytesL (G.D.take (wholeN G.D (G.high z)))).length ∧ (G.crash z).safe = (bytesL (G.D.take (wholeN G.D (G.high z)))).length from ⟨rfl, rfl, rfl⟩)
  generalize G.crash z = G2 at *
  generalize G.high z = H at *
  go_wp2_with fail
  refine HB.out.mono ?_
  rintro e w1 ⟨rfl, rfl⟩
  go_wp2_with fail
  refine HZ.out.mono ?_
  rintro e w1 ⟨rfl, rfl⟩
  clear HB HZ
  go_wp2_with fail
  refine HC.out.mono ?_
  rintro e w2 ⟨⟨vc, rfl⟩, hX2, hb2, hF2⟩
  have HX2 := hid hX2
  have Hb2 := hid (Hb.out.trans hb2)
  have HK2 := hid (HK0.out.log hF2)
  clear hX2 hb2 hF2 HC HX HK0 Hb hkl hkr hkp
  generalize G.bs.length = nb at *
  generalize G.safe = ns at *
  go_upto_region 58 with fail
  go_cut [294] from 286 to 294 (fun v wx => (∃ b : Bool, v = .bool b ∧ (b = true ↔ (0 < z ∧ z < (nb : Int) - (ns : Int)))) ∧ wx = w2)
  case first =>
    clear hH hz1 hz2
    by_cases h0 : 0 < z
    · by_cases h1 : z < (nb : Int) - (ns : Int)
      · go_wp2_with fail
        go_meet
        exact ⟨⟨_, rfl, iff_of_true rfl ⟨h0, h1⟩⟩, rfl⟩
      · go_wp2_with fail
        go_meet
        exact ⟨⟨_, rfl, iff_of_false Bool.false_ne_true (fun h => absurd h.2 (Int.not_lt.2 h1))⟩, rfl⟩
    · go_wp2_with fail
      go_meet
      exact ⟨⟨_, rfl, iff_of_false Bool.false_ne_true (fun h => absurd h.1 (Int.not_lt.2 h0))⟩, rfl⟩
  case rest =>
  obtain ⟨⟨b, rfl, hbz⟩, hwc⟩ := hcut
  obtain rfl : w2 = wc := hwc.symm
  go_upto_if 294 with fail
  go_cut [41] from 286 to 300 (fun v wx => v = .int .i64 (H : Nat) ∧ wx = w2)
  case first =>
    obtain ⟨a1, a2, a3⟩ := Hw.out
    cases b
    · by_cases h0 : 0 < z
      · have h2 := a3 h0 (Int.not_lt.1 (fun h => Bool.false_ne_true (hbz.2 ⟨h0, h⟩)))
        clear a1 a2 a3 hbz
        go_wp2_with fail
        go_meet
        exact ⟨by rw [h2], rfl⟩
      · have h2 := a1 (Int.not_lt.1 h0)
        clear a1 a2 a3 hbz
        go_wp2_with fail
        go_meet
        exact ⟨by rw [h2], rfl⟩
    · obtain ⟨h0, h1⟩ := hbz.1 rfl
      have h2 := a2 h0 h1
      have H2 := hid h2
      have hq := safe_at h2 hH
      clear a1 a2 a3 h2 hbz
      go_wp2_with fail
      go_meet
      exact ⟨by rw [H2.out], rfl⟩
  case rest =>
  obtain ⟨rfl, hwc⟩ := hcut
  obtain rfl : w2 = wc := hwc.symm
  clear hbz
  obtain ⟨gm, om, cm, rfl, hcm1, hcm2, hgm, hcm⟩ := HK2.out.rowM
  go_upto_block 4 with fail
  go_cut [42] from 301 to 313 (fun v wx => v = .int .i64 ((wholeN G.D H : Nat) : Int) ∧ wx = w2)
  case first =>
    as_aux_lemma =>
    clear Hcd Hw
    go_wp2_with fail
    go_loopw [42, 43] (fun a i' wr => ∃ (L i : Nat), i ≤ G.D.length + 1 ∧ a = .int .i64 L ∧ i' = .int .i64 i ∧ LeftR G.D H i L ∧ wr = w2) (fun _ i _ => G.D.length + 1 - (intOf i).toNat)
    case atStart => exact ⟨0, 0, by omega, rfl, rfl, LeftR.start _ _, rfl⟩
    case round =>
      obtain ⟨L, i, hi, rfl, rfl, hL, hwr⟩ := hrel
      obtain rfl : w2 = wr := hwr.symm
      have HL := hid hL
      clear hL
      by_cases hlt : i < G.D.length + 1
      · have hlt' : (i : Int) < ((G.D.length + 1 : Nat) : Int) := by omega
        have hc := hcm i (by omega)
        by_cases hh : (bytesL (G.D.take i)).length ≤ H
        · have Hn := hid (HL.out.hit hh)
          generalize (bytesL (G.D.take i)).length = x at *
          have hh' : (x : Int) ≤ (H : Int) := by omega
          go_wp2_with fail
          go_roundw
          case rel => exact ⟨i, i + 1, by omega, rfl, by go_num, Hn.out, trivial⟩
          case measure => simp [intOf]; omega
        · have Hn := hid (HL.out.miss hh)
          generalize (bytesL (G.D.take i)).length = x at *
          have hh' : ¬ (x : Int) ≤ (H : Int) := by omega
          go_wp2_with fail
          go_roundw
          case rel => exact ⟨L, i + 1, by omega, rfl, by go_num, Hn.out, trivial⟩
          case measure => simp [intOf]; omega
      · obtain rfl : i = G.D.length + 1 := by omega
        have hlt' : ¬ ((G.D.length + 1 : Nat) : Int) < ((G.D.length + 1 : Nat) : Int) := by omega
        go_wp2_with fail
        go_meet
        exact ⟨by rw [HL.out.done], rfl⟩
  case rest =>
  obtain ⟨rfl, hwc⟩ := hcut
  obtain rfl : w2 = wc := hwc.symm
  have hL := wholeN_le G.D H
  obtain ⟨gd, od, cd, rfl, hcd1, hcd2, hgd, hcd⟩ := HK2.out.rowD
  have hc1 := hcd _ hL
  have hc2 := hcm _ hL
  clear hcd hcm
  have HKc := hid (HK2.out.cut hL)
  obtain ⟨v2, hv2⟩ := HK2.out.refs _ hL
  have HR := hid hv2
  clear hv2 HK2
  obtain ⟨hD2, hB2, hS2⟩ := Hcd.out
  have HD2 := hid hD2
  rw [← hB2] at hc2
  rw [← hB2] at hS2
  generalize wholeN G.D H = L at *
  clear hD2 hB2 Hcd
  have HA := hid (alike_any w2 HX2.out (by rw [HD2.out]; exact HR.out) (HT.out w2 Hb2.out).now)
  generalize ps.getD L 0 = pl at *
  have hl1 : ((L : Int) + 1).toNat = L + 1 := rfl
  have hl2 : (L : Int) + 1 ≤ (cd : Int) := by omega
  have hl3 : (L : Int) + 1 ≤ (cm : Int) := by omega
  go_wp2_with fail
  refine HA.out.mono ?_
  rintro e w3 ⟨rfl, hb3⟩
  have HX3 := hid (HX2.out.belowS hb3)
  have HK3 := hid (HKc.out.belowS hb3)
  have Hb3 := hid (Below.step Hb2.out hb3 Hb2.out.size)
  have hc3 := (hb3.cell (p := ⟨gm, om + L, none⟩) hgm).trans hc2
  have HB := hid (fun n : Nat => xbytes (HX3.out.belowS (Below.manyDrew (Below.refl _ _) n)))
  have HS := hid (fun n : Nat => xsafe (HX3.out.belowS (Below.manyDrew (Below.refl _ _) n)))
  rw [hS2] at HS
  generalize G2.bs.length = nb at *
  clear hb3 HA hc2 hc1 hS2 HX2 HKc Hb2
  go_wp2_with fail
  go_quiet (first | (go_at_call 15; exact Calls.quiet_of_same ((HB.out _).mono (by rintro e w' ⟨rfl, rfl⟩; exact ⟨rfl, rfl⟩))) | (go_at_call 14; exact Calls.quiet_of_same ((HS.out _).mono (by rintro e w' ⟨rfl, rfl⟩; exact ⟨rfl, rfl⟩))))
  go_wp2_with fail
  have HE := hid (fun n : Nat => And.intro (HX3.out.belowS (Below.manyDrew (Below.refl _ _) n)) (And.intro (HK3.out.belowS (Below.manyDrew (Below.refl _ _) n)) (Below.manyDrew Hb3.out n)))
  rw [← HD2.out] at HE
  exact HK.out G2 _ _ _ _ (HE.out _).1 (HE.out _).2.1 (HE.out _).2.2 _ _ _ _ _ _ _ _ _ _ _ _ _ _ _ _ _ _ _ _ _ _ _ _ _ _ _ _ _ _ _ _ _ _ _ _ _ _ _ _ _ _ _ _ _ _ _ _ _ _ _ _ _ _ _ _ _ _ _ _ _ _ _ _ _ _ _ _ _ _ _ _ _ _ _ _ _ _ _ _ _ _ _ _ _ _
set_option maxRecDepth 1000000 in
theorem kb_all (w0 : World) (kp : SlV Int) (hkp : IntsAt w0 kp) (hkr : ∀ x ∈ kp.xs, -9223372036854775808 ≤ x ∧ x ≤ 9223372036854775807) (hT : TvB w0.heap.size w0) (w : World) (hb : Below w0.heap.size w0 w) (l r : Nat) (G : LG) (vd vm : Value) (ps : List Nat) (hX : LogX w0.heap.size w l G) (hK0 : KD w0.heap.size w vd vm ps G.D) (_hr : r ≤ 3) (u0 u1 u2 u3 u4 u6 u7 u8 u9 u10 u11 u12 u13 u14 u15 u16 u17 u18 u19 u20 u24 u26 u27 u28 u29 u30 u31 u32 u33 u34 u35 u36 u37 u38 u39 u40 u41 u42 u43 u44 u45 u46 u47 u48 u49 u50 u51 u52 u53 u54 u55 u56 u57 u58 u59 u60 u61 u62 u63 u64 u65 u66 u67 u68 u69 u70 u71 u72 u73 u74 u75 u76 u77 u78 u79 u80 u81 u82 u83 u84 u85 u86 u87 u88 u89 u90 u91 u92 u93 u94 u95 u96 u97 u98 u99 u100 u101 u102 u103 u104 u105 u106 u107 u108 u109 u110 u111 u112 u113 u114 u115 u116 u117 u118 u119 u120 u121 u122 u123 u124 u125 u126 u127 u128 u129 u130 u131 u132 u133 u134 u135 u136 u137 u138 u139 u140 u141 u142 u143 u144 u145 u146 u147 u148 u149 u150 u151 u152 u153 u154 u155 u156 u157 u158 u159 u160 u161 u162 u163 u164 u165 u166 u167 u168 u169 u170 u171 u172 u173 u174 u175 u176 u177 u178 u179 u180 u181 u182 u183 u184 u185 u186 u187 u188 u189 u190 u191 u192 u193 u194 u195 u196 u197 u198 u199 u200 u201 u202 u203 u204 u205 u206 u207 u208 u209 u210 u211 u212 u213 u214 u215 u216 u217 u218 u219 u220 u221 u222 u223 u224 u225 u226 u227 u228 u229 u230 u231 u232 u233 u234 u235 u236 u237 u238 u239 u240 u241 u242 u243 u244 u245 u246 u247 u248 u249 u250 u251 u252 u253 u254 u255 u256 u257 u258 u259 u260 u261 u262 u263 u264 u265 u266 u267 u268 u269 u270 u271 u272 u273 u274 u275 u276 u277 u278 u279 u280 u281 u282 u283 u284 u285 u286 u287 u288 u289 u290 u291 u292 u293 u294 u295 u296 u297 u298 u299 u300 u301 u302 u303 u304 u305 u306 u307 u308 u309 u310 u311 u312 u313 u314 u315 u316 u317 u318 u319 u320 u321 u322 u323 u324 u325 u326 u327 u328 u329 u330 u331 u332 u333 u334 u335 u336 u337 u338 u339 u340 u341 u342 u343 u344 u345 u346 u347 : Value) (Q : Exit → Act → World → Prop)
    (hK : ∀ (G' : LG) (vd' vm' : Value) (ps' : List Nat) (wx : World), LogX w0.heap.size wx l G' → KD w0.heap.size wx vd' vm' ps' G'.D → Below w0.heap.size w0 wx → ∀ (v12 v38 v39 v40 v41 v42 v43 v44 v270 v271 v272 v273 v274 v275 v276 v277 v278 v279 v280 v281 v282 v283 v284 v285 v286 v287 v288 v289 v290 v291 v292 v293 v294 v295 v296 v297 v298 v299 v300 v301 v302 v303 v304 v305 v306 v307 v308 v309 v310 v311 v312 v313 v314 v315 v316 v317 v318 v319 v320 v321 v322 v323 v324 v325 v326 v327 v328 v329 v330 v331 v332 v333 v334 v335 v336 v337 v338 v339 v340 v341 v342 v343 v344 v345 v346 v347 : Value), Q .normal ⟨List.toArray (u0 :: u1 :: u2 :: u3 :: u4 :: (.slice kp.A kp.xs.length kp.c) :: u6 :: u7 :: u8 :: u9 :: u10 :: u11 :: v12 :: u13 :: u14 :: u15 :: u16 :: u17 :: u18 :: u19 :: u20 :: (.pointer (some ⟨l, 0, none⟩)) :: vd' :: vm' :: u24 :: (.int .i64 (r : Nat)) :: u26 :: u27 :: u28 :: u29 :: u30 :: u31 :: u32 :: u33 :: u34 :: u35 :: u36 :: u37 :: v38 :: v39 :: v40 :: v41 :: v42 :: v43 :: v44 :: u45 :: u46 :: u47 :: u48 :: u49 :: u50 :: u51 :: u52 :: u53 :: u54 :: u55 :: u56 :: u57 :: u58 :: u59 :: u60 :: u61 :: u62 :: u63 :: u64 :: u65 :: u66 :: u67 :: u68 :: u69 :: u70 :: u71 :: u72 :: u73 :: u74 :: u75 :: u76 :: u77 :: u78 :: u79 :: u80 :: u81 :: u82 :: u83 :: u84 :: u85 :: u86 :: u87 :: u88 :: u89 :: u90 :: u91 :: u92 :: u93 :: u94 :: u95 :: u96 :: u97 :: u98 :: u99 :: u100 :: u101 :: u102 :: u103 :: u104 :: u105 :: u106 :: u107 :: u108 :: u109 :: u110 :: u111 :: u112 :: u113 :: u114 :: u115 :: u116 :: u117 :: u118 :: u119 :: u120 :: u121 :: u122 :: u123 :: u124 :: u125 :: u126 :: u127 :: u128 :: u129 :: u130 :: u131 :: u132 :: u133 :: u134 :: u135 :: u136 :: u137 :: u138 :: u139 :: u140 :: u141 :: u142 :: u143 :: u144 :: u145 :: u146 :: u147 :: u148 :: u149 :: u150 :: u151 :: u152 :: u153 :: u154 :: u155 :: u156 :: u157 :: u158 :: u159 :: u160 :: u161 :: u162 :: u163 :: u164 :: u165 :: u166 :: u167 :: u168 :: u169 :: u170 :: u171 :: u172 :: u173 :: u174 :: u175 :: u176 :: u177 :: u178 :: u179 :: u180 :: u181 :: u182 :: u183 :: u184 :: u185 :: u186 :: u187 :: u188 :: u189 :: u190 :: u191 :: u192 :: u193 :: u194 :: u195 :: u196 :: u197 :: u198 :: u199 :: u200 :: u201 :: u202 :: u203 :: u204 :: u205 :: u206 :: u207 :: u208 :: u209 :: u210 :: u211 :: u212 :: u213 :: u214 :: u215 :: u216 :: u217 :: u218 :: u219 :: u220 :: u221 :: u222 :: u223 :: u224 :: u225 :: u226 :: u227 :: u228 :: u229 :: u230 :: u231 :: u232 :: u233 :: u234 :: u235 :: u236 :: u237 :: u238 :: u239 :: u240 :: u241 :: u242 :: u243 :: u244 :: u245 :: u246 :: u247 :: u248 :: u249 :: u250 :: u251 :: u252 :: u253 :: u254 :: u255 :: u256 :: u257 :: u258 :: u259 :: u260 :: u261 :: u262 :: u263 :: u264 :: u265 :: u266 :: u267 :: u268 :: u269 :: v270 :: v271 :: v272 :: v273 :: v274 :: v275 :: v276 :: v277 :: v278 :: v279 :: v280 :: v281 :: v282 :: v283 :: v284 :: v285 :: v286 :: v287 :: v288 :: v289 :: v290 :: v291 :: v292 :: v293 :: v294 :: v295 :: v296 :: v297 :: v298 :: v299 :: v300 :: v301 :: v302 :: v303 :: v304 :: v305 :: v306 :: v307 :: v308 :: v309 :: v310 :: v311 :: v312 :: v313 :: v314 :: v315 :: v316 :: v317 :: v318 :: v319 :: v320 :: v321 :: v322 :: v323 :: v324 :: v325 :: v326 :: v327 :: v328 :: v329 :: v330 :: v331 :: v332 :: v333 :: v334 :: v335 :: v336 :: v337 :: v338 :: v339 :: v340 :: v341 :: v342 :: v343 :: v344 :: v345 :: v346 :: v347 :: []), []⟩ wx) :
    Code.wp Tryz.prog part_kb Q ⟨List.toArray (u0 :: u1 :: u2 :: u3 :: u4 :: (.slice kp.A kp.xs.length kp.c) :: u6 :: u7 :: u8 :: u9 :: u10 :: u11 :: u12 :: u13 :: u14 :: u15 :: u16 :: u17 :: u18 :: u19 :: u20 :: (.pointer (some ⟨l, 0, none⟩)) :: vd :: vm :: u24 :: (.int .i64 (r : Nat)) :: u26 :: u27 :: u28 :: u29 :: u30 :: u31 :: u32 :: u33 :: u34 :: u35 :: u36 :: u37 :: u38 :: u39 :: u40 :: u41 :: u42 :: u43 :: u44 :: u45 :: u46 :: u47 :: u48 :: u49 :: u50 :: u51 :: u52 :: u53 :: u54 :: u55 :: u56 :: u57 :: u58 :: u59 :: u60 :: u61 :: u62 :: u63 :: u64 :: u65 :: u66 :: u67 :: u68 :: u69 :: u70 :: u71 :: u72 :: u73 :: u74 :: u75 :: u76 :: u77 :: u78 :: u79 :: u80 :: u81 :: u82 :: u83 :: u84 :: u85 :: u86 :: u87 :: u88 :: u89 :: u90 :: u91 :: u92 :: u93 :: u94 :: u95 :: u96 :: u97 :: u98 :: u99 :: u100 :: u101 :: u102 :: u103 :: u104 :: u105 :: u106 :: u107 :: u108 :: u109 :: u110 :: u111 :: u112 :: u113 :: u114 :: u115 :: u116 :: u117 :: u118 :: u119 :: u120 :: u121 :: u122 :: u123 :: u124 :: u125 :: u126 :: u127 :: u128 :: u129 :: u130 :: u131 :: u132 :: u133 :: u134 :: u135 :: u136 :: u137 :: u138 :: u139 :: u140 :: u141 :: u142 :: u143 :: u144 :: u145 :: u146 :: u147 :: u148 :: u149 :: u150 :: u151 :: u152 :: u153 :: u154 :: u155 :: u156 :: u157 :: u158 :: u159 :: u160 :: u161 :: u162 :: u163 :: u164 :: u165 :: u166 :: u167 :: u168 :: u169 :: u170 :: u171 :: u172 :: u173 :: u174 :: u175 :: u176 :: u177 :: u178 :: u179 :: u180 :: u181 :: u182 :: u183 :: u184 :: u185 :: u186 :: u187 :: u188 :: u189 :: u190 :: u191 :: u192 :: u193 :: u194 :: u195 :: u196 :: u197 :: u198 :: u199 :: u200 :: u201 :: u202 :: u203 :: u204 :: u205 :: u206 :: u207 :: u208 :: u209 :: u210 :: u211 :: u212 :: u213 :: u214 :: u215 :: u216 :: u217 :: u218 :: u219 :: u220 :: u221 :: u222 :: u223 :: u224 :: u225 :: u226 :: u227 :: u228 :: u229 :: u230 :: u231 :: u232 :: u233 :: u234 :: u235 :: u236 :: u237 :: u238 :: u239 :: u240 :: u241 :: u242 :: u243 :: u244 :: u245 :: u246 :: u247 :: u248 :: u249 :: u250 :: u251 :: u252 :: u253 :: u254 :: u255 :: u256 :: u257 :: u258 :: u259 :: u260 :: u261 :: u262 :: u263 :: u264 :: u265 :: u266 :: u267 :: u268 :: u269 :: u270 :: u271 :: u272 :: u273 :: u274 :: u275 :: u276 :: u277 :: u278 :: u279 :: u280 :: u281 :: u282 :: u283 :: u284 :: u285 :: u286 :: u287 :: u288 :: u289 :: u290 :: u291 :: u292 :: u293 :: u294 :: u295 :: u296 :: u297 :: u298 :: u299 :: u300 :: u301 :: u302 :: u303 :: u304 :: u305 :: u306 :: u307 :: u308 :: u309 :: u310 :: u311 :: u312 :: u313 :: u314 :: u315 :: u316 :: u317 :: u318 :: u319 :: u320 :: u321 :: u322 :: u323 :: u324 :: u325 :: u326 :: u327 :: u328 :: u329 :: u330 :: u331 :: u332 :: u333 :: u334 :: u335 :: u336 :: u337 :: u338 :: u339 :: u340 :: u341 :: u342 :: u343 :: u344 :: u345 :: u346 :: u347 :: []), []⟩ w :=
  Code.wp_mono (fun e a W h => by
    cases e
    · exact h
    · exact h.elim
    · exact h.elim
    · exact h.2.elim fun _ h => h.2.elim
    · exact h.2.elim
    · exact h.elim) (kb_any w0 kp hkp hkr hT w hb l r G vd vm ps hX hK0 _hr u0 u1 u2 u3 u4 u6 u7 u8 u9 u10 u11 u12 u13 u14 u15 u16 u17 u18 u19 u20 u24 u26 u27 u28 u29 u30 u31 u32 u33 u34 u35 u36 u37 u38 u39 u40 u41 u42 u43 u44 u45 u46 u47 u48 u49 u50 u51 u52 u53 u54 u55 u56 u57 u58 u59 u60 u61 u62 u63 u64 u65 u66 u67 u68 u69 u70 u71 u72 u73 u74 u75 u76 u77 u78 u79 u80 u81 u82 u83 u84 u85 u86 u87 u88 u89 u90 u91 u92 u93 u94 u95 u96 u97 u98 u99 u100 u101 u102 u103 u104 u105 u106 u107 u108 u109 u110 u111 u112 u113 u114 u115 u116 u117 u118 u119 u120 u121 u122 u123 u124 u125 u126 u127 u128 u129 u130 u131 u132 u133 u134 u135 u136 u137 u138 u139 u140 u141 u142 u143 u144 u145 u146 u147 u148 u149 u150 u151 u152 u153 u154 u155 u156 u157 u158 u159 u160 u161 u162 u163 u164 u165 u166 u167 u168 u169 u170 u171 u172 u173 u174 u175 u176 u177 u178 u179 u180 u181 u182 u183 u184 u185 u186 u187 u188 u189 u190 u191 u192 u193 u194 u195 u196 u197 u198 u199 u200 u201 u202 u203 u204 u205 u206 u207 u208 u209 u210 u211 u212 u213 u214 u215 u216 u217 u218 u219 u220 u221 u222 u223 u224 u225 u226 u227 u228 u229 u230 u231 u232 u233 u234 u235 u236 u237 u238 u239 u240 u241 u242 u243 u244 u245 u246 u247 u248 u249 u250 u251 u252 u253 u254 u255 u256 u257 u258 u259 u260 u261 u262 u263 u264 u265 u266 u267 u268 u269 u270 u271 u272 u273 u274 u275 u276 u277 u278 u279 u280 u281 u282 u283 u284 u285 u286 u287 u288 u289 u290 u291 u292 u293 u294 u295 u296 u297 u298 u299 u300 u301 u302 u303 u304 u305 u306 u307 u308 u309 u310 u311 u312 u313 u314 u315 u316 u317 u318 u319 u320 u321 u322 u323 u324 u325 u326 u327 u328 u329 u330 u331 u332 u333 u334 u335 u336 u337 u338 u339 u340 u341 u342 u343 u344 u345 u346 u347 (fun a W => Q .normal a W) hK)
end Go.Proofs.YtljkclebcoanaaaGreatDoor
