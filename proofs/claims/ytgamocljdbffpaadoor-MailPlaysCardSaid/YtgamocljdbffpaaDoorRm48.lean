/-
  ONE REGION of merelaw2.MailPlays, a declaration of its own: a letter that is on its way comes twice. CONDITIONS: none.
-/
import Derived.Test.YtgamocljdbffpaaDoorRMail2
import Derived.Test.YtgamocljdbffpaaDoorLtEq
import Derived.Test.YtgamocljdbffpaaDoorLtLd
import Derived.Deep.CutBlock
namespace Go.Proofs.YtgamocljdbffpaaDoor
open Go.RowKit
open Go.ChangeShapes Go.WideShapes Go.ChangeAt

/-- a region of a code, by its number -/
def findReg (n : Nat) : Code → Option Code
  | .region id ops b => if id = n then some (.region id ops b) else none
  | .loop c => findReg n c
  | .seq a b => match findReg n a with
    | some c => some c
    | none => findReg n b
  | .block _ c => findReg n c
  | .scope c => findReg n c
  | .cond _ a b => match findReg n a with
    | some c => some c
    | none => findReg n b
  | _ => none
noncomputable def reg48 : Code := (Tryd.f3.body.bind (findReg 48)).getD .skip

set_option maxHeartbeats 16000000 in
set_option maxRecDepth 100000 in
theorem r48_any (B0 g1 go gu off2 cu k : Nat) (L : List Lt) (C : Int → Int → Bool) (y0 y1 y2 y3 y4 : Int) (y5 : Bool) (y6 : ByteArray) (we : World)
    (hR : RMO B0 we g1 (.slice (some ⟨gu, off2, none⟩) L.length cu) L C) (hbw1 : B0 ≤ we.heap.size) (hk : k < L.length) (hl40 : L.length < 40) (_hlc : L.length ≤ cu)
    (e1 : we.cell? ⟨go, 1, none⟩ = some (.int .i64 k)) (_hgo : go < we.heap.size) (_hgu : gu < we.heap.size)
    (k0 : we.cell? ⟨gu, off2 + k * 7, none⟩ = some (.int .i64 y0)) (k1 : we.cell? ⟨gu, off2 + k * 7 + 1, none⟩ = some (.int .i64 y1)) (k2 : we.cell? ⟨gu, off2 + k * 7 + 2, none⟩ = some (.int .i64 y2)) (k3 : we.cell? ⟨gu, off2 + k * 7 + 3, none⟩ = some (.int .i64 y3)) (k4 : we.cell? ⟨gu, off2 + k * 7 + 4, none⟩ = some (.int .i64 y4)) (k5 : we.cell? ⟨gu, off2 + k * 7 + 5, none⟩ = some (.bool y5)) (k6 : we.cell? ⟨gu, off2 + k * 7 + 6, none⟩ = some (.string y6))
    (hyg : (⟨y0, y1, y2, y3, y4, y5, y6⟩ : Lt).good) (u0 u1 u2 u3 u4 u5 u7 u8 u10 u11 u12 u13 u14 u15 u16 u17 u18 u19 u20 u21 u22 u23 u24 u25 u26 u27 u28 u29 u30 u31 u32 u33 u34 u35 u36 u37 u38 u39 u40 u41 u42 u43 u44 u45 u46 u47 u48 u49 u50 u51 u52 u53 u54 u55 u56 u57 u58 u59 u60 u61 u62 u63 u64 u65 u66 u67 u68 u69 u70 u71 u72 u73 u74 u75 u76 u77 u78 u79 u80 u81 u82 u83 u84 u85 u86 u87 u88 u89 u90 u91 u92 u93 u94 u95 u96 u97 u98 u99 u100 u101 u102 u103 u104 u105 u106 u107 u108 u109 u110 u111 u112 u113 u114 u115 u116 u117 u118 u119 u120 u121 u122 u123 u124 u125 u126 u127 u128 u129 u130 u131 u132 u133 u134 u135 u136 u137 u138 u139 u140 u141 u142 u143 u144 u145 u146 u147 u148 u149 u150 u151 u152 u153 u154 u155 u156 u157 u158 u159 u160 u161 u162 u163 u164 u165 u166 u167 u168 u169 u170 u171 u172 u173 u174 u175 u176 u177 u178 u179 u180 u181 u182 u183 u184 u185 u186 u187 u188 u189 u190 u191 u192 u193 u194 u195 u196 u197 u198 u199 u200 u201 u202 u203 u204 u205 u206 u207 u208 u209 u210 u211 u212 u213 u214 u215 u216 : Value) (K : Act → World → Prop) (R : Ending → World → Prop)
    (hK : ∀ (v182 v183 v184 v185 v186 v187 v188 v189 v190 v191 v192 v193 v194 v195 v196 v197 v198 : Value) (wx : World), RRes B0 g1 (.slice (some ⟨gu, off2, none⟩) L.length cu) we (.tuple #[]) (L ++ [⟨y0, y1, y2, y3, y4, y5, y6⟩]) C (.returned (.tuple #[])) wx → K ⟨#[u0, u1, u2, u3, u4, u5, .pointer (some ⟨g1, 0, none⟩), u7, u8, .pointer (some ⟨go, 0, none⟩), u10, u11, u12, u13, u14, u15, u16, u17, u18, u19, u20, u21, u22, u23, u24, u25, u26, u27, u28, u29, u30, u31, u32, u33, u34, u35, u36, u37, u38, u39, u40, u41, u42, u43, u44, u45, u46, u47, u48, u49, u50, u51, u52, u53, u54, u55, u56, u57, u58, u59, u60, u61, u62, u63, u64, u65, u66, u67, u68, u69, u70, u71, u72, u73, u74, u75, u76, u77, u78, u79, u80, u81, u82, u83, u84, u85, u86, u87, u88, u89, u90, u91, u92, u93, u94, u95, u96, u97, u98, u99, u100, u101, u102, u103, u104, u105, u106, u107, u108, u109, u110, u111, u112, u113, u114, u115, u116, u117, u118, u119, u120, u121, u122, u123, u124, u125, u126, u127, u128, u129, u130, u131, u132, u133, u134, u135, u136, u137, u138, u139, u140, u141, u142, u143, u144, u145, u146, u147, u148, u149, u150, u151, u152, u153, u154, u155, u156, u157, u158, u159, u160, u161, u162, u163, u164, u165, u166, u167, u168, u169, u170, u171, u172, u173, u174, u175, u176, u177, u178, u179, u180, u181, v182, v183, v184, v185, v186, v187, v188, v189, v190, v191, v192, v193, v194, v195, v196, v197, v198, u199, u200, u201, u202, u203, u204, u205, u206, u207, u208, u209, u210, u211, u212, u213, u214, u215, u216], []⟩ wx) :
    Code.wp Tryd.prog reg48 (Exit.then K (bodyPost Tryd.prog Tryd.f3 R)) ⟨#[u0, u1, u2, u3, u4, u5, .pointer (some ⟨g1, 0, none⟩), u7, u8, .pointer (some ⟨go, 0, none⟩), u10, u11, u12, u13, u14, u15, u16, u17, u18, u19, u20, u21, u22, u23, u24, u25, u26, u27, u28, u29, u30, u31, u32, u33, u34, u35, u36, u37, u38, u39, u40, u41, u42, u43, u44, u45, u46, u47, u48, u49, u50, u51, u52, u53, u54, u55, u56, u57, u58, u59, u60, u61, u62, u63, u64, u65, u66, u67, u68, u69, u70, u71, u72, u73, u74, u75, u76, u77, u78, u79, u80, u81, u82, u83, u84, u85, u86, u87, u88, u89, u90, u91, u92, u93, u94, u95, u96, u97, u98, u99, u100, u101, u102, u103, u104, u105, u106, u107, u108, u109, u110, u111, u112, u113, u114, u115, u116, u117, u118, u119, u120, u121, u122, u123, u124, u125, u126, u127, u128, u129, u130, u131, u132, u133, u134, u135, u136, u137, u138, u139, u140, u141, u142, u143, u144, u145, u146, u147, u148, u149, u150, u151, u152, u153, u154, u155, u156, u157, u158, u159, u160, u161, u162, u163, u164, u165, u166, u167, u168, u169, u170, u171, u172, u173, u174, u175, u176, u177, u178, u179, u180, u181, u182, u183, u184, u185, u186, u187, u188, u189, u190, u191, u192, u193, u194, u195, u196, u197, u198, u199, u200, u201, u202, u203, u204, u205, u206, u207, u208, u209, u210, u211, u212, u213, u214, u215, u216], []⟩ we := by
  have hk0 : (0 : Int) ≤ (k : Int) := by omega
  have hk1 : (k : Int) < (L.length : Int) := by omega
  have hgle : g1 < we.heap.size := hR.lt
  have HRe := hid hR
  have c0 := hR.c0
  have g0 := hR.fz 0
  have hlbR := hR.lb
  have hfs : ¬ some g1 = foot (.slice (some ⟨gu, off2, none⟩) L.length cu) := fun e => hR.off e.symm
  have Hown1 := hid hR.own
  have Hyg := hid hyg
  clear hyg hR
  conv => arg 2; whnf
  go_region_law (first | (refine at_appLt rfl ?_; refine appLtat _ B0 (.slice (some ⟨gu, off2, none⟩) L.length cu) L y0 y1 y2 y3 y4 y5 y6 we.heap.size ?_ (Hown1.out.alloc _).drew rfl _ _ rfl rfl rfl ?_ ?_ ?_; (focus exact LtAt.of_blk (Blk.new we _ _).drew); (focus omega); (focus (first | omega | (simp; omega))); intro v8 w8 h8 f8 o8; obtain ⟨A8, c8, hv8, p8, q8, _⟩ := h8.form; rw [List.length_append, List.length_singleton] at hv8; subst hv8; have hz8 : w8.frozen? ⟨g1, 0, none⟩ = false := (f8.frozen (p := ⟨g1, 0, none⟩) (by simp; omega) hfs).trans ((((Below.refl we.heap.size we).alloc (Nat.le_refl _) _).frozen (p := ⟨g1, 0, none⟩) hgle).trans g0); have hc8 : w8.cell? ⟨g1, 0, none⟩ = some (.slice (some ⟨gu, off2, none⟩) L.length cu) := (f8.cell (p := ⟨g1, 0, none⟩) (by simp; omega) hfs).trans ((World.cell?_alloc_lt we _ ⟨g1, 0, none⟩ hgle).trans c0)))
  all_goals
    have hfin := HRe.out.put (X := (we.alloc (.cells #[.int .i64 y0, .int .i64 y1, .int .i64 y2, .int .i64 y3, .int .i64 y4, .bool y5, .string y6] 37)).drew) (((Below.refl _ _).alloc (Nat.le_refl _) _).drew) h8 f8 (o8.imp (fun o => o) (fun o k hk => by rw [o] at hk; cases hk; simp)) (fun z hz => by
      rcases List.mem_append.1 hz with hz | hz
      · exact HRe.out.good z hz
      · rw [List.mem_singleton.1 hz]; exact Hyg.out) (by simp; omega)
    have ho8 : foot (.slice A8 (L.length + 1) c8) = foot (.slice (some ⟨gu, off2, none⟩) L.length cu) ∨ ∀ k, foot (.slice A8 (L.length + 1) c8) = some k → we.heap.size ≤ k := o8.imp (fun o => o) (fun o k hk => by rw [o] at hk; cases hk; simp)
    have Hfin := hid hfin
    have Ho8 := hid ho8
    clear hfin h8 f8 o8 hz8 hc8 ho8
    go_wp2_with fail
    exact ⟨_, rfl, Hfin.out.1, Hfin.out.2, Ho8.out⟩
set_option maxHeartbeats 16000000 in
set_option maxRecDepth 100000 in
theorem r48_all (B0 g1 go gu off2 cu k : Nat) (L : List Lt) (C : Int → Int → Bool) (y0 y1 y2 y3 y4 : Int) (y5 : Bool) (y6 : ByteArray) (we : World)
    (hR : RMO B0 we g1 (.slice (some ⟨gu, off2, none⟩) L.length cu) L C) (hbw1 : B0 ≤ we.heap.size) (hk : k < L.length) (hl40 : L.length < 40) (hlc : L.length ≤ cu)
    (e1 : we.cell? ⟨go, 1, none⟩ = some (.int .i64 k)) (hgo : go < we.heap.size) (hgu : gu < we.heap.size)
    (k0 : we.cell? ⟨gu, off2 + k * 7, none⟩ = some (.int .i64 y0)) (k1 : we.cell? ⟨gu, off2 + k * 7 + 1, none⟩ = some (.int .i64 y1)) (k2 : we.cell? ⟨gu, off2 + k * 7 + 2, none⟩ = some (.int .i64 y2)) (k3 : we.cell? ⟨gu, off2 + k * 7 + 3, none⟩ = some (.int .i64 y3)) (k4 : we.cell? ⟨gu, off2 + k * 7 + 4, none⟩ = some (.int .i64 y4)) (k5 : we.cell? ⟨gu, off2 + k * 7 + 5, none⟩ = some (.bool y5)) (k6 : we.cell? ⟨gu, off2 + k * 7 + 6, none⟩ = some (.string y6))
    (hyg : (⟨y0, y1, y2, y3, y4, y5, y6⟩ : Lt).good) (u0 u1 u2 u3 u4 u5 u7 u8 u10 u11 u12 u13 u14 u15 u16 u17 u18 u19 u20 u21 u22 u23 u24 u25 u26 u27 u28 u29 u30 u31 u32 u33 u34 u35 u36 u37 u38 u39 u40 u41 u42 u43 u44 u45 u46 u47 u48 u49 u50 u51 u52 u53 u54 u55 u56 u57 u58 u59 u60 u61 u62 u63 u64 u65 u66 u67 u68 u69 u70 u71 u72 u73 u74 u75 u76 u77 u78 u79 u80 u81 u82 u83 u84 u85 u86 u87 u88 u89 u90 u91 u92 u93 u94 u95 u96 u97 u98 u99 u100 u101 u102 u103 u104 u105 u106 u107 u108 u109 u110 u111 u112 u113 u114 u115 u116 u117 u118 u119 u120 u121 u122 u123 u124 u125 u126 u127 u128 u129 u130 u131 u132 u133 u134 u135 u136 u137 u138 u139 u140 u141 u142 u143 u144 u145 u146 u147 u148 u149 u150 u151 u152 u153 u154 u155 u156 u157 u158 u159 u160 u161 u162 u163 u164 u165 u166 u167 u168 u169 u170 u171 u172 u173 u174 u175 u176 u177 u178 u179 u180 u181 u182 u183 u184 u185 u186 u187 u188 u189 u190 u191 u192 u193 u194 u195 u196 u197 u198 u199 u200 u201 u202 u203 u204 u205 u206 u207 u208 u209 u210 u211 u212 u213 u214 u215 u216 : Value) (K : Act → World → Prop) (Q : Exit → Act → World → Prop)
    (hK : ∀ (v182 v183 v184 v185 v186 v187 v188 v189 v190 v191 v192 v193 v194 v195 v196 v197 v198 : Value) (wx : World), RRes B0 g1 (.slice (some ⟨gu, off2, none⟩) L.length cu) we (.tuple #[]) (L ++ [⟨y0, y1, y2, y3, y4, y5, y6⟩]) C (.returned (.tuple #[])) wx → K ⟨#[u0, u1, u2, u3, u4, u5, .pointer (some ⟨g1, 0, none⟩), u7, u8, .pointer (some ⟨go, 0, none⟩), u10, u11, u12, u13, u14, u15, u16, u17, u18, u19, u20, u21, u22, u23, u24, u25, u26, u27, u28, u29, u30, u31, u32, u33, u34, u35, u36, u37, u38, u39, u40, u41, u42, u43, u44, u45, u46, u47, u48, u49, u50, u51, u52, u53, u54, u55, u56, u57, u58, u59, u60, u61, u62, u63, u64, u65, u66, u67, u68, u69, u70, u71, u72, u73, u74, u75, u76, u77, u78, u79, u80, u81, u82, u83, u84, u85, u86, u87, u88, u89, u90, u91, u92, u93, u94, u95, u96, u97, u98, u99, u100, u101, u102, u103, u104, u105, u106, u107, u108, u109, u110, u111, u112, u113, u114, u115, u116, u117, u118, u119, u120, u121, u122, u123, u124, u125, u126, u127, u128, u129, u130, u131, u132, u133, u134, u135, u136, u137, u138, u139, u140, u141, u142, u143, u144, u145, u146, u147, u148, u149, u150, u151, u152, u153, u154, u155, u156, u157, u158, u159, u160, u161, u162, u163, u164, u165, u166, u167, u168, u169, u170, u171, u172, u173, u174, u175, u176, u177, u178, u179, u180, u181, v182, v183, v184, v185, v186, v187, v188, v189, v190, v191, v192, v193, v194, v195, v196, v197, v198, u199, u200, u201, u202, u203, u204, u205, u206, u207, u208, u209, u210, u211, u212, u213, u214, u215, u216], []⟩ wx) :
    Code.wp Tryd.prog reg48 (Exit.then K Q) ⟨#[u0, u1, u2, u3, u4, u5, .pointer (some ⟨g1, 0, none⟩), u7, u8, .pointer (some ⟨go, 0, none⟩), u10, u11, u12, u13, u14, u15, u16, u17, u18, u19, u20, u21, u22, u23, u24, u25, u26, u27, u28, u29, u30, u31, u32, u33, u34, u35, u36, u37, u38, u39, u40, u41, u42, u43, u44, u45, u46, u47, u48, u49, u50, u51, u52, u53, u54, u55, u56, u57, u58, u59, u60, u61, u62, u63, u64, u65, u66, u67, u68, u69, u70, u71, u72, u73, u74, u75, u76, u77, u78, u79, u80, u81, u82, u83, u84, u85, u86, u87, u88, u89, u90, u91, u92, u93, u94, u95, u96, u97, u98, u99, u100, u101, u102, u103, u104, u105, u106, u107, u108, u109, u110, u111, u112, u113, u114, u115, u116, u117, u118, u119, u120, u121, u122, u123, u124, u125, u126, u127, u128, u129, u130, u131, u132, u133, u134, u135, u136, u137, u138, u139, u140, u141, u142, u143, u144, u145, u146, u147, u148, u149, u150, u151, u152, u153, u154, u155, u156, u157, u158, u159, u160, u161, u162, u163, u164, u165, u166, u167, u168, u169, u170, u171, u172, u173, u174, u175, u176, u177, u178, u179, u180, u181, u182, u183, u184, u185, u186, u187, u188, u189, u190, u191, u192, u193, u194, u195, u196, u197, u198, u199, u200, u201, u202, u203, u204, u205, u206, u207, u208, u209, u210, u211, u212, u213, u214, u215, u216], []⟩ we :=
  Code.wp_mono (fun e a W h => by
    cases e
    · exact h
    · exact h.elim
    · exact h.elim
    · exact h.2.elim fun _ h => h.2.elim
    · exact h.2.elim
    · exact h.elim) (r48_any B0 g1 go gu off2 cu k L C y0 y1 y2 y3 y4 y5 y6 we hR hbw1 hk hl40 hlc e1 hgo hgu k0 k1 k2 k3 k4 k5 k6 hyg u0 u1 u2 u3 u4 u5 u7 u8 u10 u11 u12 u13 u14 u15 u16 u17 u18 u19 u20 u21 u22 u23 u24 u25 u26 u27 u28 u29 u30 u31 u32 u33 u34 u35 u36 u37 u38 u39 u40 u41 u42 u43 u44 u45 u46 u47 u48 u49 u50 u51 u52 u53 u54 u55 u56 u57 u58 u59 u60 u61 u62 u63 u64 u65 u66 u67 u68 u69 u70 u71 u72 u73 u74 u75 u76 u77 u78 u79 u80 u81 u82 u83 u84 u85 u86 u87 u88 u89 u90 u91 u92 u93 u94 u95 u96 u97 u98 u99 u100 u101 u102 u103 u104 u105 u106 u107 u108 u109 u110 u111 u112 u113 u114 u115 u116 u117 u118 u119 u120 u121 u122 u123 u124 u125 u126 u127 u128 u129 u130 u131 u132 u133 u134 u135 u136 u137 u138 u139 u140 u141 u142 u143 u144 u145 u146 u147 u148 u149 u150 u151 u152 u153 u154 u155 u156 u157 u158 u159 u160 u161 u162 u163 u164 u165 u166 u167 u168 u169 u170 u171 u172 u173 u174 u175 u176 u177 u178 u179 u180 u181 u182 u183 u184 u185 u186 u187 u188 u189 u190 u191 u192 u193 u194 u195 u196 u197 u198 u199 u200 u201 u202 u203 u204 u205 u206 u207 u208 u209 u210 u211 u212 u213 u214 u215 u216 K (fun _ _ => False) hK)
end Go.Proofs.YtgamocljdbffpaaDoor
