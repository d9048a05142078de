/-
  THE CONTRACTS of log's keep, Put, Delete, Crash. CONDITIONS: the library's tables read as they are laid (Tv).
-/
import Derived.Test.YtljkclebcoanaaaGreatDoorLogA
namespace Go.Proofs.YtljkclebcoanaaaGreatDoor
open Go.RowKit
open Go.ChangeShapes Go.WideShapes Go.ChangeAt

theorem Tv.belowS {w w' : World} (h : Tv w) (hb : Below w.heap.size w w') : Tv w' := ⟨h.tb.belowS hb, h.ta.belowS hb, h.gl.belowS hb⟩
/-- what the row's variables hold stands, whatever is done from base on -/
def TvB (base : Nat) (w : World) : Prop := ∀ W, Below base w W → Tv W
theorem Tv.base {w : World} (h : Tv w) : TvB w.heap.size w := fun _ hW => h.belowS hW
theorem TvB.step {base : Nat} {w W : World} (h : TvB base w) (hb : Below base w W) : TvB base W := fun _ hV => h _ (hb.trans hV)
theorem TvB.now {base : Nat} {w : World} (h : TvB base w) : Tv w := h w (Below.refl _ _)
theorem mkB_app (a b : List UInt8) : mkB a ++ mkB b = mkB (a ++ b) := by
  apply ByteArray.ext
  simp [mkB]
theorem run_add_mk {P : Program} (W : World) (a b : List UInt8) (h : a.length + b.length ≤ 1000000) : (Op.stringOp .add (mkB a) (mkB b)).run P W = .ok (.string (mkB (a ++ b))) W := by
  rw [run_string_add_sum W _ _ (by rw [mkB_size, mkB_size]; omega), mkB_app]

set_option maxHeartbeats 4000000 in
set_option maxRecDepth 100000 in
theorem keep_on {base l s : Nat} {vs : List Value} {G : LG} (hG : G.ok) (h0 : ¬ G.left = 0) (D' : List E) (n : Int) (k : Nat) (hk : k < 8) (g : Bool) (t : ByteArray) (ht : t.size ≤ 12) (w : World) (h : LogP base w l s vs G D') (hT : Tb w) :
    Calls Tryz.prog 22 #[.pointer (some ⟨l, 0, none⟩), .int .i64 n, .int .i64 k, .bool g, .string t] w fun e w' => e = .returned (.tuple #[.int .i64 n, .nilIface]) ∧ LRes base l s vs w { G.step with D := D', bs := G.bs ++ recL k g t } w' := by
  have HR := hid (record_any k hk g t ht w hT)
  have hlen := hG.len
  have hrl := recL_le k g t (by omega) ht
  have hl := h.blk.lt
  have HS := hid (fun W (hW : Below w.heap.size w W) => step_any l s G hG.left W (h.belowS hW).blk)
  rw [show decide (G.left = 0) = false from decide_eq_false h0] at HS
  have hq : ∀ W, (Op.stringOp .add (mkB G.bs) (mkB (recL k g t))).run Tryz.prog W = .ok (.string (mkB (G.bs ++ recL k g t))) W := fun W => run_add_mk W _ _ (by omega)
  have Hf := hid (fun w1 w2 (hb : Below w.heap.size w w1) (hB : Blk w2 l 54 (G.step.cells s)) (hF : Fr (fun i => i = l) w1 w2) =>
    (show LRes base l s vs w { G.step with D := D', bs := G.bs ++ recL k g t } (w2.setCell ⟨l, 1, none⟩ (.string (mkB (G.bs ++ recL k g t)))) from
      ⟨s, vs, (h.belowS hb).step (G' := { G.step with D := D', bs := G.bs ++ recL k g t }) (hB.put 1 (.string (mkB (G.bs ++ recL k g t)))) (hF.own1 _ _),
        (Fr.ofB hb).step ((hF.own1 1 (.string (mkB (G.bs ++ recL k g t)))).mono (fun i _ hi => .inl hi)), fun _ h => .inl h⟩))
  have Hc := hid (fun w1 (hB : Blk w1 l 54 (G.step.cells s)) => (show w1.cell? ⟨l, 1, none⟩ = some (.string (mkB G.bs)) ∧ w1.frozen? ⟨l, 1, none⟩ = false ∧ l < w1.heap.size from ⟨hB.cell 1, hB.frozen 1, hB.lt⟩))
  clear h hT hG h0 hlen hrl
  generalize mkB (G.bs ++ recL k g t) = B2 at *
  generalize mkB G.bs = B1 at *
  generalize mkB (recL k g t) = R at *
  generalize { G.step with D := D', bs := G.bs ++ recL k g t } = G' at *
  generalize G.step.cells s = cs at *
  go_enter Tryz.func22, Tryz.ntmps22
  go_wp2_with fail
  refine HR.out.mono ?_
  rintro e w1 ⟨rfl, hb1⟩
  have HS1 := hid (HS.out w1 hb1)
  have Hf1 := hid (fun w2 => Hf.out w1 w2 hb1)
  clear hb1 HS Hf HR
  go_wp2_with fail
  refine HS1.out.mono ?_
  rintro e w2 ⟨rfl, hB2, hF2⟩
  obtain ⟨k1, k2, k3⟩ := Hc.out w2 hB2
  have Hf2 := hid (Hf1.out w2 hB2 hF2)
  clear hB2 hF2 Hf1 HS1
  go_wp2_with fail
  go_ret2
  exact ⟨rfl, Hf2.out⟩

set_option maxHeartbeats 4000000 in
set_option maxRecDepth 100000 in
theorem keep_stop {base l s : Nat} {vs : List Value} {G : LG} (hG : G.ok) (hst : G.stopped = false) (h0 : G.left = 0) (D' : List E) (n : Int) (k : Nat) (hk : k < 8) (g : Bool) (t : ByteArray) (ht : t.size ≤ 12) (w : World) (h : LogP base w l s vs G D') (hT : TvB base w) :
    Calls Tryz.prog 22 #[.pointer (some ⟨l, 0, none⟩), .int .i64 n, .int .i64 k, .bool g, .string t] w fun e w' => e = .returned (.tuple #[.int .i64 0, errV 6]) ∧ LRes base l s vs w { G.step with bs := G.bs ++ halfL (recL k g t) } w' := by
  have HR := hid (record_any k hk g t ht w hT.now.tb)
  have hlen := hG.len
  have hrl := recL_le k g t (by omega) ht
  have hl := h.blk.lt
  have HS := hid (fun W (hW : Below w.heap.size w W) => step_any l s G hG.left W (h.belowS hW).blk)
  rw [show decide (G.left = 0) = true from decide_eq_true h0] at HS
  have hbs : G.bs = bytesL G.D := by
    obtain ⟨p, hp, _, _, hp0⟩ := hG.bs
    rw [hp, hp0 hst, List.append_nil]
  have HRd := hid (fun W (hW : Ta W) => redo_any G.D hG.val hG.many W hW)
  rw [← hbs] at HRd
  have HT := hid (fun W (hW : Below base w W) => (hT W hW).ta)
  have Hne := hid (show (∀ i, FL l s vs i → base ≤ i ∧ i < w.heap.size) ∧ base ≤ l from ⟨fun i hi => h.lt hi, h.base⟩)
  have hq : ∀ W, (Op.stringOp .add (mkB G.bs) (mkB (halfL (recL k g t)))).run Tryz.prog W = .ok (.string (mkB (G.bs ++ halfL (recL k g t)))) W := fun W => run_add_mk W _ _ (by have := halfL_le (recL k g t); omega)
  have hx : (mkB (recL k g t)).extract 0 ((recL k g t).length / 2) = mkB (halfL (recL k g t)) := extract_take _ _
  have hrz := mkB_size (recL k g t)
  have Hl := hid (fun (w1 w2 w3 : World) (s' : Nat) (vs' : List Value) (hb : Below w.heap.size w w1) (hB : Blk w2 l 54 (G.step.cells s)) (hF : Fr (fun i => i = l) w1 w2) (hO : StoreO w2.heap.size w3 s' vs' (lsOf G.D) G.D.length) (hP : StP (lsOf G.D) G.D.length) (hb3 : Below w2.heap.size w2 w3) =>
    (show LRes base l s vs w { G.step with bs := G.bs ++ halfL (recL k g t) } ((w3.setCell ⟨l, 0, none⟩ (.pointer (some ⟨s', 0, none⟩))).setCell ⟨l, 1, none⟩ (.string (mkB (G.bs ++ halfL (recL k g t)))) ).drew ∧ (w3.cell? ⟨l, 0, none⟩ = some (.pointer (some ⟨s, 0, none⟩)) ∧ w3.cell? ⟨l, 1, none⟩ = some (.string (mkB G.bs)) ∧ w3.frozen? ⟨l, 0, none⟩ = false ∧ w3.frozen? ⟨l, 1, none⟩ = false ∧ l < w3.heap.size) from by
      have hz1 := hb.size
      have hz2 := hF.size
      have hz3 := hb3.size
      have hB3 := hB.belowS hb3
      have hlt := hB.lt
      have hfs : ∀ i, FS s' vs' i → w2.heap.size ≤ i := fun i hi => (hO.fsr hi).1
      have hne : ¬ FS s' vs' l := fun h => by have := hfs l h; omega
      have hF4 : Fr (fun i => i = l) w3 ((w3.setCell ⟨l, 0, none⟩ (.pointer (some ⟨s', 0, none⟩))).setCell ⟨l, 1, none⟩ (.string (mkB (G.bs ++ halfL (recL k g t))))).drew := (((Fr.refl _ _).own1 _ _).own1 _ _).drew
      refine ⟨⟨s', vs', ⟨((hB3.put 0 (.pointer (some ⟨s', 0, none⟩))).put 1 (.string (mkB (G.bs ++ halfL (recL k g t))))).drew, (hO.mono (by have := Hne.out.2; omega)).fr hF4 (fun e => hne (e ▸ .inl rfl)) (fun k hk _ hg e => hne (e ▸ .inr ⟨k, hk, hg.symm⟩)), hP, hne, Hne.out.2⟩, ?_, fun i hi => ?_⟩, hB3.cell 0, hB3.cell 1, hB3.frozen 0, hB3.frozen 1, hB3.lt⟩
      · exact ((Fr.ofB hb).step ((hF.stepB hb3).mono (fun i _ hi => .inl hi))).step (hF4.mono (fun i _ hi => .inl hi))
      · rcases hi with hi | hi
        · exact .inl (.inl hi)
        · exact .inr (by have := hfs i hi; omega)))
  have hr56 : (recL k g t).length ≤ 56 := hrl
  rw [errV_ne (show (6 : Int) ≠ 0 by decide)]
  have HcB := hid (fun w2 (hB : Blk w2 l 54 (G.step.cells s)) => (show w2.cell? ⟨l, 1, none⟩ = some (.string (mkB G.bs)) from hB.cell 1))
  clear h hT hG h0 hlen hst hrl hbs
  generalize (recL k g t).length = n0 at *
  generalize mkB (G.bs ++ halfL (recL k g t)) = B2 at *
  generalize mkB (halfL (recL k g t)) = RH at *
  generalize mkB (recL k g t) = R at *
  generalize mkB G.bs = B1 at *
  generalize { G.step with bs := G.bs ++ halfL (recL k g t) } = G' at *
  generalize G.step.cells s = cs at *
  go_enter Tryz.func22, Tryz.ntmps22
  go_wp2_with fail
  refine HR.out.mono ?_
  rintro e w1 ⟨rfl, hb1⟩
  have HS1 := hid (HS.out w1 hb1)
  have Hb1 := hid hb1
  clear hb1 HS HR
  go_wp2_with fail
  refine HS1.out.mono ?_
  rintro e w2 ⟨rfl, hB2, hF2⟩
  have hz1 := Hb1.out.size
  have hlb := Hne.out.2
  have hbb : Below base w w2 := (Hb1.out.mono (by omega)).trans (hF2.below0 (by omega) (fun i hi => by have e : i = l := hi; omega))
  have HRd2 := hid (HRd.out w2 (HT.out w2 hbb))
  have Hl2 := hid (fun w3 s' vs' => Hl.out w1 w2 w3 s' vs' Hb1.out hB2 hF2)
  have k1 : w2.cell? ⟨l, 1, none⟩ = some (.string B1) := HcB.out w2 hB2
  have hl2 := hB2.lt
  clear HT HRd hB2 hF2 hbb HS1 Hl HcB
  go_wp2_with fail
  refine HRd2.out.mono ?_
  rintro e w3 ⟨s', vs', rfl, hO3, hP3, hb3⟩
  obtain ⟨Hres, k0, k1', f0, f1, hl3⟩ := Hl2.out w3 s' vs' hO3 hP3 hb3
  have Hres := hid Hres
  clear hO3 hP3 hb3 HRd2 Hl2 k1 hl2
  go_wp2_with fail
  go_region
  go_wp2_with fail
  go_ret2
  exact ⟨rfl, Hres.out⟩
theorem LRes.from {base l s : Nat} {vs vs1 : List Value} {w w1 w' : World} {G : LG} (h : LRes base l s vs1 w1 G w') (hF : Fr (FS s vs) w w1) (hf : ∀ i, FS s vs1 i → FS s vs i ∨ w.heap.size ≤ i) : LRes base l s vs w G w' := by
  obtain ⟨s', vs', a, b, c⟩ := h
  have hz := hF.size
  have hs : ∀ i, FL l s vs1 i → FL l s vs i ∨ w.heap.size ≤ i := fun i hi => by
    rcases hi with hi | hi
    · exact .inl (.inl hi)
    · exact (hf i hi).imp (fun h => .inr h) (fun h => h)
  exact ⟨s', vs', a, (hF.mono (S' := FL l s vs) (fun i _ hi => .inr hi)).trans b hs, fun i hi => (c i hi).elim (hs i) (fun h => .inr (by omega))⟩

set_option maxHeartbeats 4000000 in
set_option maxRecDepth 100000 in
theorem lput_any {base l s : Nat} {vs : List Value} {G : LG} (hG : G.ok) (key : Int) (t : ByteArray) (htm : t.size ≤ maxLen) (w : World) (h : LogP base w l s vs G G.D) (hT : TvB base w) :
    Calls Tryz.prog 7 #[.pointer (some ⟨l, 0, none⟩), .int .i64 key, .string t] w fun e w' => e = .returned (.tuple #[.int .i64 (G.put key t).1.1, errV (G.put key t).1.2]) ∧ LRes base l s vs w (G.put key t).2 w' := by
  have c4 : w.cell? ⟨l, 4, none⟩ = some (.bool G.stopped) := h.blk.cell 4
  have c0 : w.cell? ⟨l, 0, none⟩ = some (.pointer (some ⟨s, 0, none⟩)) := h.blk.cell 0
  have hl := h.blk.lt
  rcases hst : G.stopped with _ | _
  · rw [hst] at c4
    have HS := hid (sput_any base s key t htm vs (lsOf G.D) G.D.length w h.st h.stp)
    rw [sput_r] at HS
    have HFs := hid (fun w1 vs1 D1 (hO : StoreO base w1 s vs1 (lsOf D1) D1.length) (hP : StP (lsOf D1) D1.length) (hF : Fr (FS s vs) w w1) (hf : ∀ i, FS s vs1 i → FS s vs i ∨ w.heap.size ≤ i) =>
      (show LogP base w1 l s vs1 G D1 from ⟨h.blk.fr hF h.ne, hO, hP, fun hi => by
        rcases hf l hi with hi | hi
        · exact h.ne hi
        · omega, h.base⟩))
    have Hbb := hid (fun w1 (hF : Fr (FS s vs) w w1) => (show Below base w w1 from hF.below0 (by have := h.base; omega) (fun i hi => (h.st.fsr hi).1)))
    by_cases hr : (rput G.D key t).1.2 = 0
    · obtain ⟨hkey, ht, -, -⟩ := rput_ok hr
      have hst2 := hst
      have hcl : G.put key t = if G.left = 0 then ((0, 6), { G.step with bs := G.bs ++ halfL (recL key.toNat false t) }) else ((rput G.D key t).1, { G.step with D := (rput G.D key t).2, bs := G.bs ++ recL key.toNat false t }) := by
        unfold LG.put LG.deed
        rw [hst, if_neg (by decide), if_neg (by rw [hr]; decide)]
      rw [hcl]
      obtain ⟨k, rfl⟩ := Int.eq_ofNat_of_zero_le hkey.1
      rw [Int.toNat_natCast]
      have hk8 : k < 8 := by omega
      have HK := hid (fun w1 vs1 (hP : LogP base w1 l s vs1 G (rput G.D k t).2) (hB : Below base w w1) => And.intro
        (fun h0 : G.left = 0 => keep_stop hG hst h0 (rput G.D k t).2 (rput G.D k t).1.1 k hk8 false t ht w1 hP (hT.step hB))
        (fun h0 : ¬ G.left = 0 => keep_on hG h0 (rput G.D k t).2 (rput G.D k t).1.1 k hk8 false t ht w1 hP (hT.step hB).now.tb))
      generalize rput G.D k t = R at *
      obtain ⟨⟨r0, r1⟩, D1⟩ := R
      simp only at hr HK HS
      subst hr
      by_cases h0 : G.left = 0
      · rw [if_pos h0]
        have HK' := hid (fun w1 vs1 hP hB => (HK.out w1 vs1 hP hB).1 h0)
        generalize { G.step with bs := G.bs ++ halfL (recL k false t) } = G' at *
        simp only
        clear HK h hT hG h0 hst hst2 hcl hkey
        go_enter Tryz.func7, Tryz.ntmps7
        go_wp2_with fail
        refine HS.out.mono ?_
        rintro e w1 ⟨vs1, rfl, hO, hP, hF, hf⟩
        have HK1 := hid (HK'.out w1 vs1 (HFs.out w1 vs1 D1 hO hP hF hf) (Hbb.out w1 hF))
        have Hfrom := hid (fun w2 (h2 : LRes base l s vs1 w1 G' w2) => h2.from hF hf)
        clear hO hP hF hf HK' HS
        simp only [errV_zero]
        go_wp2_with fail
        refine HK1.out.mono ?_
        rintro e w2 ⟨rfl, h2⟩
        have Hr := hid (Hfrom.out w2 h2)
        clear h2
        go_wp2_with fail
        go_ret2
        exact ⟨rfl, Hr.out⟩
      · rw [if_neg h0]
        have HK' := hid (fun w1 vs1 hP hB => (HK.out w1 vs1 hP hB).2 h0)
        generalize { G.step with D := D1, bs := G.bs ++ recL k false t } = G' at *
        simp only [errV_zero]
        clear HK h hT hG h0 hst hst2 hcl hkey
        go_enter Tryz.func7, Tryz.ntmps7
        go_wp2_with fail
        refine HS.out.mono ?_
        rintro e w1 ⟨vs1, rfl, hO, hP, hF, hf⟩
        have HK1 := hid (HK'.out w1 vs1 (HFs.out w1 vs1 D1 hO hP hF hf) (Hbb.out w1 hF))
        have Hfrom := hid (fun w2 (h2 : LRes base l s vs1 w1 G' w2) => h2.from hF hf)
        clear hO hP hF hf HK' HS
        simp only [errV_zero]
        go_wp2_with fail
        refine HK1.out.mono ?_
        rintro e w2 ⟨rfl, h2⟩
        have Hr := hid (Hfrom.out w2 h2)
        clear h2
        go_wp2_with fail
        go_ret2
        exact ⟨rfl, Hr.out⟩
    · have hcl : G.put key t = ((0, (rput G.D key t).1.2), G) := by
        unfold LG.put LG.deed
        rw [hst, if_neg (by decide), if_pos hr]
      have hbad := rput_bad hr
      rw [hcl]
      have hne := errV_ne hr
      generalize rput G.D key t = R at *
      obtain ⟨⟨r0, r1⟩, D1⟩ := R
      simp only at hbad HS hr hne
      obtain ⟨rfl, rfl⟩ := hbad
      simp only
      rw [hne]
      have Hne := hid hne
      have Hfin := hid (fun w1 vs1 (hO : StoreO base w1 s vs1 (lsOf G.D) G.D.length) (hP : StP (lsOf G.D) G.D.length) (hF : Fr (FS s vs) w w1) (hf : ∀ i, FS s vs1 i → FS s vs i ∨ w.heap.size ≤ i) =>
        (show LRes base l s vs w G w1 from ⟨s, vs1, HFs.out w1 vs1 G.D hO hP hF hf, hF.mono (fun i _ hi => .inr hi), fun i hi => by
          rcases hi with hi | hi
          · exact .inl (.inl hi)
          · exact (hf i hi).imp (fun h => .inr h) (fun h => h)⟩))
      clear h hT hG hst hcl hr hne HFs Hbb
      go_enter Tryz.func7, Tryz.ntmps7
      go_wp2_with fail
      refine HS.out.mono ?_
      rintro e w1 ⟨vs1, rfl, hO, hP, hF, hf⟩
      have Hr := hid (Hfin.out w1 vs1 hO hP hF hf)
      clear hO hP hF hf HS Hfin
      simp only [Hne.out]
      go_wp2_with fail
      go_ret2
      exact ⟨rfl, Hr.out⟩
  · rw [hst] at c4
    have hcl : G.put key t = ((0, 6), G) := by
      unfold LG.put LG.deed
      rw [hst, if_pos rfl]
    have Hr := hid (LRes.same (vs := vs) h (Below.refl _ _))
    rw [hcl, errV_ne (show (6 : Int) ≠ 0 by decide)]
    clear h hT hG hst hcl
    go_enter Tryz.func7, Tryz.ntmps7
    go_wp2_with fail
    go_ret2
    exact ⟨rfl, Hr.out⟩

set_option maxHeartbeats 4000000 in
set_option maxRecDepth 100000 in
theorem ldel_any {base l s : Nat} {vs : List Value} {G : LG} (hG : G.ok) (key : Int) (w : World) (h : LogP base w l s vs G G.D) (hT : TvB base w) :
    Calls Tryz.prog 10 #[.pointer (some ⟨l, 0, none⟩), .int .i64 key] w fun e w' => e = .returned (.tuple #[.int .i64 (G.del key).1.1, errV (G.del key).1.2]) ∧ LRes base l s vs w (G.del key).2 w' := by
  have c4 : w.cell? ⟨l, 4, none⟩ = some (.bool G.stopped) := h.blk.cell 4
  have c0 : w.cell? ⟨l, 0, none⟩ = some (.pointer (some ⟨s, 0, none⟩)) := h.blk.cell 0
  have hl := h.blk.lt
  rcases hst : G.stopped with _ | _
  · rw [hst] at c4
    have HS := hid (sdel_any base s key vs (lsOf G.D) G.D.length w h.st h.stp)
    rw [sdel_r] at HS
    have HFs := hid (fun w1 vs1 D1 (hO : StoreO base w1 s vs1 (lsOf D1) D1.length) (hP : StP (lsOf D1) D1.length) (hF : Fr (FS s vs) w w1) (hf : ∀ i, FS s vs1 i → FS s vs i ∨ w.heap.size ≤ i) =>
      (show LogP base w1 l s vs1 G D1 from ⟨h.blk.fr hF h.ne, hO, hP, fun hi => by
        rcases hf l hi with hi | hi
        · exact h.ne hi
        · omega, h.base⟩))
    have Hbb := hid (fun w1 (hF : Fr (FS s vs) w w1) => (show Below base w w1 from hF.below0 (by have := h.base; omega) (fun i hi => (h.st.fsr hi).1)))
    by_cases hr : (rdel G.D key).1.2 = 0
    · obtain ⟨hkey, -, -⟩ := rdel_ok hr
      have hst2 := hst
      have hcl : G.del key = if G.left = 0 then ((0, 6), { G.step with bs := G.bs ++ halfL (recL key.toNat true ⟨#[]⟩) }) else ((rdel G.D key).1, { G.step with D := (rdel G.D key).2, bs := G.bs ++ recL key.toNat true ⟨#[]⟩ }) := by
        unfold LG.del LG.deed
        rw [hst, if_neg (by decide), if_neg (by rw [hr]; decide)]
      rw [hcl]
      obtain ⟨k, rfl⟩ := Int.eq_ofNat_of_zero_le hkey.1
      rw [Int.toNat_natCast]
      have hk8 : k < 8 := by omega
      have HK := hid (fun w1 vs1 (hP : LogP base w1 l s vs1 G (rdel G.D k).2) (hB : Below base w w1) => And.intro
        (fun h0 : G.left = 0 => keep_stop hG hst h0 (rdel G.D k).2 (rdel G.D k).1.1 k hk8 true ⟨#[]⟩ (by decide) w1 hP (hT.step hB))
        (fun h0 : ¬ G.left = 0 => keep_on hG h0 (rdel G.D k).2 (rdel G.D k).1.1 k hk8 true ⟨#[]⟩ (by decide) w1 hP (hT.step hB).now.tb))
      generalize rdel G.D k = R at *
      obtain ⟨⟨r0, r1⟩, D1⟩ := R
      simp only at hr HK HS
      subst hr
      by_cases h0 : G.left = 0
      · rw [if_pos h0]
        have HK' := hid (fun w1 vs1 hP hB => (HK.out w1 vs1 hP hB).1 h0)
        generalize { G.step with bs := G.bs ++ halfL (recL k true ⟨#[]⟩) } = G' at *
        simp only
        clear HK h hT hG h0 hst hst2 hcl hkey
        go_enter Tryz.func10, Tryz.ntmps10
        go_wp2_with fail
        refine HS.out.mono ?_
        rintro e w1 ⟨vs1, rfl, hO, hP, hF, hf⟩
        have HK1 := hid (HK'.out w1 vs1 (HFs.out w1 vs1 D1 hO hP hF hf) (Hbb.out w1 hF))
        have Hfrom := hid (fun w2 (h2 : LRes base l s vs1 w1 G' w2) => h2.from hF hf)
        clear hO hP hF hf HK' HS
        simp only [errV_zero]
        go_wp2_with fail
        refine HK1.out.mono ?_
        rintro e w2 ⟨rfl, h2⟩
        have Hr := hid (Hfrom.out w2 h2)
        clear h2
        go_wp2_with fail
        go_ret2
        exact ⟨rfl, Hr.out⟩
      · rw [if_neg h0]
        have HK' := hid (fun w1 vs1 hP hB => (HK.out w1 vs1 hP hB).2 h0)
        generalize { G.step with D := D1, bs := G.bs ++ recL k true ⟨#[]⟩ } = G' at *
        simp only [errV_zero]
        clear HK h hT hG h0 hst hst2 hcl hkey
        go_enter Tryz.func10, Tryz.ntmps10
        go_wp2_with fail
        refine HS.out.mono ?_
        rintro e w1 ⟨vs1, rfl, hO, hP, hF, hf⟩
        have HK1 := hid (HK'.out w1 vs1 (HFs.out w1 vs1 D1 hO hP hF hf) (Hbb.out w1 hF))
        have Hfrom := hid (fun w2 (h2 : LRes base l s vs1 w1 G' w2) => h2.from hF hf)
        clear hO hP hF hf HK' HS
        simp only [errV_zero]
        go_wp2_with fail
        refine HK1.out.mono ?_
        rintro e w2 ⟨rfl, h2⟩
        have Hr := hid (Hfrom.out w2 h2)
        clear h2
        go_wp2_with fail
        go_ret2
        exact ⟨rfl, Hr.out⟩
    · have hcl : G.del key = ((0, (rdel G.D key).1.2), G) := by
        unfold LG.del LG.deed
        rw [hst, if_neg (by decide), if_pos hr]
      have hbad := rdel_bad hr
      rw [hcl]
      have hne := errV_ne hr
      generalize rdel G.D key = R at *
      obtain ⟨⟨r0, r1⟩, D1⟩ := R
      simp only at hbad HS hr hne
      obtain ⟨rfl, rfl⟩ := hbad
      simp only
      rw [hne]
      have Hne := hid hne
      have Hfin := hid (fun w1 vs1 (hO : StoreO base w1 s vs1 (lsOf G.D) G.D.length) (hP : StP (lsOf G.D) G.D.length) (hF : Fr (FS s vs) w w1) (hf : ∀ i, FS s vs1 i → FS s vs i ∨ w.heap.size ≤ i) =>
        (show LRes base l s vs w G w1 from ⟨s, vs1, HFs.out w1 vs1 G.D hO hP hF hf, hF.mono (fun i _ hi => .inr hi), fun i hi => by
          rcases hi with hi | hi
          · exact .inl (.inl hi)
          · exact (hf i hi).imp (fun h => .inr h) (fun h => h)⟩))
      clear h hT hG hst hcl hr hne HFs Hbb
      go_enter Tryz.func10, Tryz.ntmps10
      go_wp2_with fail
      refine HS.out.mono ?_
      rintro e w1 ⟨vs1, rfl, hO, hP, hF, hf⟩
      have Hr := hid (Hfin.out w1 vs1 hO hP hF hf)
      clear hO hP hF hf HS Hfin
      simp only [Hne.out]
      go_wp2_with fail
      go_ret2
      exact ⟨rfl, Hr.out⟩
  · rw [hst] at c4
    have hcl : G.del key = ((0, 6), G) := by
      unfold LG.del LG.deed
      rw [hst, if_pos rfl]
    have Hr := hid (LRes.same (vs := vs) h (Below.refl _ _))
    rw [hcl, errV_ne (show (6 : Int) ≠ 0 by decide)]
    clear h hT hG hst hcl
    go_enter Tryz.func10, Tryz.ntmps10
    go_wp2_with fail
    go_ret2
    exact ⟨rfl, Hr.out⟩
end Go.Proofs.YtljkclebcoanaaaGreatDoor
