/-
  PROVED HERE: merelaw1.CacheJoins returns true: of two caches both are the same either way round, have each key that one of both has, and nothing older; with one of both again they are the same. CONDITIONS: none.
-/
import Derived.Test.YtgfbpabffnabaaaCBoth
import Derived.Deep.DeepCutAuto
namespace Go.Proofs.Ytgfbpabffnabaaa
open Go.RowKit
open Go.ChangeShapes Go.WideShapes Go.ChangeAt

def fA : E := ⟨5, 1, 2, false, ⟨#[97]⟩⟩
def fB : E := ⟨2, 3, 3, false, ⟨#[98]⟩⟩
theorem fact_chk (k v a : Int) (t : ByteArray) (h : keyB k = true ∧ 0 ≤ v ∧ v ≤ a ∧ a ≤ 1000 ∧ t.size ≤ 12) : chk ⟨k, v, a, false, t⟩ = 0 :=
  chk_zero.2 ⟨h.1, seqB_true.2 (by simp only; omega), seqB_true.2 (by simp only; omega), h.2.2.1, h.2.2.2.2, fun h => by cases h⟩
theorem fA_chk : chk fA = 0 := fact_chk 5 1 2 ⟨#[97]⟩ ⟨rfl, by decide, by decide, by decide, (show (1 : Nat) ≤ 12 by decide)⟩
theorem fB_chk : chk fB = 0 := fact_chk 2 3 3 ⟨#[98]⟩ ⟨rfl, by decide, by decide, by decide, (show (1 : Nat) ≤ 12 by decide)⟩
theorem val_1 {e : E} (h : chk e = 0) : chkC [e] = 0 := val_iff.2 ⟨by simp [Asc], fun x hx => by rw [List.mem_singleton.1 hx]; exact h⟩
theorem fact_both : bothR [fA] [fB] = ([fB, fA], 0) := by
  rw [bothR_val (val_1 fA_chk) (val_1 fB_chk)]
  rfl
/-- what is got at a key of two caches and of both -/
def kRes (x : Option E) : E × Int := match x with | some e => (e, 0) | none => (E.zero, 5)

set_option maxHeartbeats 8000000 in
set_option maxRecDepth 100000 in
theorem cacheJoins_any (s m : SlV E) (w : World) (hs : EsAt w s) (hm : EsAt w m) :
    Calls Try.prog 4 #[.slice s.A s.xs.length s.c, .slice m.A m.xs.length m.c] w fun e w' => e = .returned (.bool true) ∧ Below w.heap.size w w' := by
  have HBoth := hid (fun (p q : SlV E) W (hp : EsAt W p) (hq : EsAt W q) => both_any p q W hp hq)
  have Hs := hid (fun W (hW : Below w.heap.size w W) => hs.stays hW)
  have Hm := hid (fun W (hW : Below w.heap.size w W) => hm.stays hW)
  have HFA : Hid (∀ W : World, EsAt (W.alloc (.cells #[.int .i64 5, .int .i64 1, .int .i64 2, .bool false, .string ⟨#[97]⟩] 34)) ⟨some ⟨W.heap.size, 0, none⟩, 1, [fA]⟩) := hid (fun W => ⟨fun _ => ⟨W.heap.size, 0, rfl, by simp, fun i hi => by
    obtain rfl : i = 0 := by simpa using hi
    exact EAt.of_blk (Blk.new W _ _)⟩, fun y hy => by rw [List.mem_singleton.1 hy]; exact chk_goodE fA_chk, by unfold maxLen; simp⟩)
  have HFB : Hid (∀ W : World, EsAt (W.alloc (.cells #[.int .i64 2, .int .i64 3, .int .i64 3, .bool false, .string ⟨#[98]⟩] 34)) ⟨some ⟨W.heap.size, 0, none⟩, 1, [fB]⟩) := hid (fun W => ⟨fun _ => ⟨W.heap.size, 0, rfl, by simp, fun i hi => by
    obtain rfl : i = 0 := by simpa using hi
    exact EAt.of_blk (Blk.new W _ _)⟩, fun y hy => by rw [List.mem_singleton.1 hy]; exact chk_goodE fB_chk, by unfold maxLen; simp⟩)
  have hF := hid fact_both
  clear hs hm
  go_enter Try.func4, Try.ntmps4
  go_wp2_with fail
  refine (HBoth.out ⟨some ⟨w.heap.size, 0, none⟩, 1, [fA]⟩ ⟨some ⟨w.heap.size + 1, 0, none⟩, 1, [fB]⟩ _ ((HFA.out w).stays (by (repeat (first | with_reducible exact Below.refl _ _ | with_reducible assumption | (with_reducible refine Below.drew ?_) | (with_reducible refine Below.manyDrew ?_ _) | ((with_reducible refine Below.alloc ?_ ?_ _); rotate_left; (focus (first | omega | (dsimp only; omega) | (simp; done) | (simp; omega)))) | ((with_reducible refine Below.setCell ?_ ?_ _); rotate_left; (focus (first | omega | (dsimp only; omega) | (simp; done) | (simp; omega)))) | ((with_reducible refine Below.step ?_ (by assumption) ?_); rotate_left; (focus (first | omega | (dsimp only; omega) | (simp; done) | (simp; omega)))))))) (by have := HFB.out (w.alloc (.cells #[.int .i64 5, .int .i64 1, .int .i64 2, .bool false, .string ⟨#[97]⟩] 34)); rw [World.size_alloc] at this; exact this)).mono ?_
  rw [hF.out]
  intro e w1 h1
  obtain ⟨v, rfl, hOw, hb1⟩ := h1.under (W := w) (by (repeat (first | with_reducible exact Below.refl _ _ | with_reducible assumption | (with_reducible refine Below.drew ?_) | (with_reducible refine Below.manyDrew ?_ _) | ((with_reducible refine Below.alloc ?_ ?_ _); rotate_left; (focus (first | omega | (dsimp only; omega) | (simp; done) | (simp; omega)))) | ((with_reducible refine Below.setCell ?_ ?_ _); rotate_left; (focus (first | omega | (dsimp only; omega) | (simp; done) | (simp; omega)))) | ((with_reducible refine Below.step ?_ (by assumption) ?_); rotate_left; (focus (first | omega | (dsimp only; omega) | (simp; done) | (simp; omega)))))))
  simp only [errV_zero]
  obtain ⟨g, off, cap, rfl, hlc, hcm, hbg, hgl, -, hcells, -⟩ := hOw.get (show 0 < [fB, fA].length by decide)
  have k0 : w1.cell? ⟨g, off, none⟩ = some (.int .i64 2) := hcells 0 (by decide) 0 (by decide)
  have k5 : w1.cell? ⟨g, off + 5, none⟩ = some (.int .i64 5) := hcells 1 (by decide) 0 (by decide)
  have Hb1 := hid hb1
  have hz1 := hb1.size
  have hcap : 2 ≤ cap := hlc
  clear h1 hOw hcells hb1 hcm hlc
  go_wp2_with fail
  have HB1 := hid (HBoth.out s m w1 (Hs.out w1 Hb1.out) (Hm.out w1 Hb1.out))
  by_cases h0 : (bothR s.xs m.xs).2 = 0
  · obtain ⟨X, hX⟩ : ∃ X, bothR s.xs m.xs = (X, 0) := ⟨_, by rw [← h0]⟩
    obtain ⟨hvX, hms, hxl, hmx, hkey⟩ := both_laws hX
    obtain ⟨hvl, hvm, -⟩ := bothR_zero h0
    have hok := (allC_key hvl hvm).1.1 (by rw [← bothR_val hvl hvm]; exact h0)
    rw [hX] at HB1
    have Hms := hid hms
    have Hxl := hid hxl
    have Hmx := hid hmx
    have HgX := hid (val_good hvX)
    have HvX := hid hvX
    have Hvl := hid hvl
    have Hvm := hid hvm
    have Hkey := hid hkey
    have Hok := hid hok
    clear h0 hX hvX hms hxl hmx hkey hvl hvm hok
    refine HB1.out.mono ?_
    rintro e w2 ⟨v2, rfl, hOw2, hb2⟩
    simp only [errV_zero]
    obtain ⟨x, rfl, hxx, hxA, -, -⟩ := EsAt.of_ow hOw2 HgX.out
    have Hb2 := hid (Below.step Hb1.out hb2 hz1)
    have hz2 := Hb2.out.size
    have HxA := hid hxA
    have Hxx := hid hxx
    clear hOw2 hb2 hxA hxx
    go_wp2_with fail
    refine (HBoth.out m s w2 (Hm.out w2 Hb2.out) (Hs.out w2 Hb2.out)).mono ?_
    rw [Hms.out]
    rintro e w3 ⟨v3, rfl, hOw3, hb3⟩
    simp only [errV_zero]
    obtain ⟨y, rfl, hyx, hyA, -, -⟩ := EsAt.of_ow hOw3 HgX.out
    have Hb3 := hid (Below.step Hb2.out hb3 hz2)
    have hz3 := Hb3.out.size
    have HyA := hid hyA
    have Hyx := hid hyx
    have HxA3 := hid (HxA.out.stays hb3)
    clear hOw3 hb3 hyA hyx
    go_wp2_with fail
    refine (HBoth.out x s w3 HxA3.out (Hs.out w3 Hb3.out)).mono ?_
    rw [Hxx.out, Hxl.out]
    rintro e w4 ⟨v4, rfl, hOw4, hb4⟩
    simp only [errV_zero]
    obtain ⟨z, rfl, hzx, hzA, -, -⟩ := EsAt.of_ow hOw4 HgX.out
    have Hb4 := hid (Below.step Hb3.out hb4 hz3)
    have hz4 := Hb4.out.size
    have HzA := hid hzA
    have Hzx := hid hzx
    have HxA4 := hid (HxA3.out.stays hb4)
    have HyA4 := hid (HyA.out.stays hb4)
    clear hOw4 hb4 hzA hzx
    rw [← Hxx.out]
    go_wp2_with fail
    refine (HBoth.out m x w4 (Hm.out w4 Hb4.out) HxA4.out).mono ?_
    rw [Hxx.out, Hmx.out]
    rintro e w5 ⟨v5, rfl, hOw5, hb5⟩
    simp only [errV_zero]
    obtain ⟨u, rfl, hux, huA, -, -⟩ := EsAt.of_ow hOw5 HgX.out
    have Hb5 := hid (Below.step Hb4.out hb5 hz4)
    have hz5 := Hb5.out.size
    have HuA := hid huA
    have Hux := hid hux
    have HxA5 := hid (HxA4.out.stays hb5)
    have HyA5 := hid (HyA4.out.stays hb5)
    have HzA5 := hid (HzA.out.stays hb5)
    clear hOw5 hb5 huA hux
    rw [← Hxx.out]
    have HSm := hid (fun (p q : SlV E) W (hp : EsAt W p) (hq : EsAt W q) (hpx : p.xs = X) (hqx : q.xs = X) => show Calls Try.prog 12 #[.slice p.A p.xs.length p.c, .slice q.A q.xs.length q.c] W (fun e w' => e = .returned (.bool true) ∧ Below W.heap.size W w') from by
      have := ecache_any p q W hp hq
      rw [hpx, hqx, eqsE_refl] at this
      rw [hpx, hqx]
      exact this)
    have HCk := hid (fun W (hp : EsAt W x) => show Calls Try.prog 8 #[.slice x.A x.xs.length x.c] W (fun e w' => e = .returned .nilIface ∧ Below W.heap.size W w') from by
      have := ccheck_any x W hp.entries
      rw [Hxx.out, HvX.out, errV_zero] at this
      rw [Hxx.out]
      exact this)
    go_wp2_with fail
    refine (HSm.out x y w5 HxA5.out HyA5.out Hxx.out Hyx.out).mono ?_
    rintro e w6 ⟨rfl, hb6⟩
    have Hb6 := hid (Below.step Hb5.out hb6 hz5)
    have hz6 := Hb6.out.size
    have HxA6 := hid (HxA5.out.stays hb6)
    have HzA6 := hid (HzA5.out.stays hb6)
    have HuA6 := hid (HuA.out.stays hb6)
    clear hb6
    go_wp2_with fail
    refine (HSm.out x z w6 HxA6.out HzA6.out Hxx.out Hzx.out).mono ?_
    rintro e w7 ⟨rfl, hb7⟩
    have Hb7 := hid (Below.step Hb6.out hb7 hz6)
    have hz7 := Hb7.out.size
    have HxA7 := hid (HxA6.out.stays hb7)
    have HuA7 := hid (HuA6.out.stays hb7)
    clear hb7
    go_wp2_with fail
    refine (HSm.out x u w7 HxA7.out HuA7.out Hxx.out Hux.out).mono ?_
    rintro e w8 ⟨rfl, hb8⟩
    have Hb8 := hid (Below.step Hb7.out hb8 hz7)
    have hz8 := Hb8.out.size
    have HxA8 := hid (HxA7.out.stays hb8)
    clear hb8
    go_wp2_with fail
    refine (HCk.out w8 HxA8.out).mono ?_
    rintro e w9 ⟨rfl, hb9⟩
    have Hb9 := hid (Below.step Hb8.out hb9 hz8)
    have hz9 := Hb9.out.size
    have HxA9 := hid (HxA8.out.stays hb9)
    clear hb9
    have Hget := hid (fun (p : SlV E) (hp : chkC p.xs = 0) (k : Int) W (hW : EsAt W p) (hkb : keyB k = true) => show Calls Try.prog 13 #[.slice p.A p.xs.length p.c, .int .i64 k] W (fun e w' => e = .returned (.tuple #[(kRes (lk p.xs k)).1.val, errV (kRes (lk p.xs k)).2]) ∧ Below W.heap.size W w') from by
      have := get_any p k W hW.entries
      rw [getR_lk hp hkb] at this
      exact this)
    go_wp2_with fail
    go_loopw [15] (fun i wr => ∃ k : Nat, k ≤ 8 ∧ i = .int .i64 k ∧ Below w9.heap.size w9 wr) (fun i _ => 8 - (intOf i).toNat)
    case atStart => exact ⟨0, by omega, rfl, Below.refl _ _⟩
    case round =>
      obtain ⟨k, hk, rfl, hbr⟩ := hrel
      by_cases h8 : k < 8
      · have hkb : keyB (k : Int) = true := keyB_true.2 (by omega)
        have Hb := hid hbr
        have hzr := hbr.size
        have HX9 := hid (fun W (hW : Below w9.heap.size w9 W) => HxA9.out.stays hW)
        clear hbr
        rcases ha : lk s.xs (k : Int) with _ | ⟨a0, a1, a2, a3, a4⟩
        · rcases hb' : lk m.xs (k : Int) with _ | ⟨b0, b1, b2, b3, b4⟩
          · have hx : lk x.xs k = none := by rw [Hxx.out, Hkey.out, ha, hb']; rfl
            have HGs := hid (fun W (hW : Below w9.heap.size w9 W) => show Calls Try.prog 13 #[.slice s.A s.xs.length s.c, .int .i64 k] W (fun e w' => e = .returned (.tuple #[.agg #[.int .i64 0, .int .i64 0, .int .i64 0, .bool false, .string ⟨#[]⟩], .iface 56 (.int .i64 5)]) ∧ Below W.heap.size W w') from by
              have := Hget.out s (Hvl.out) k W (Hs.out W (Below.step Hb9.out hW hz9)) hkb
              rw [ha] at this
              exact this)
            have HGm := hid (fun W (hW : Below w9.heap.size w9 W) => show Calls Try.prog 13 #[.slice m.A m.xs.length m.c, .int .i64 k] W (fun e w' => e = .returned (.tuple #[.agg #[.int .i64 0, .int .i64 0, .int .i64 0, .bool false, .string ⟨#[]⟩], .iface 56 (.int .i64 5)]) ∧ Below W.heap.size W w') from by
              have := Hget.out m (Hvm.out) k W (Hm.out W (Below.step Hb9.out hW hz9)) hkb
              rw [hb'] at this
              exact this)
            have HGx := hid (fun W (hW : Below w9.heap.size w9 W) => show Calls Try.prog 13 #[.slice x.A x.xs.length x.c, .int .i64 k] W (fun e w' => e = .returned (.tuple #[.agg #[.int .i64 0, .int .i64 0, .int .i64 0, .bool false, .string ⟨#[]⟩], .iface 56 (.int .i64 5)]) ∧ Below W.heap.size W w') from by
              have := Hget.out x (by rw [Hxx.out]; exact HvX.out) k W (HX9.out W hW) hkb
              rw [hx] at this
              exact this)
            clear ha hb' hx hkb
            go_wp2_with fail
            refine (HGs.out wr Hb.out).mono ?_
            rintro e w10 ⟨rfl, hb10⟩
            have Hb10 := hid (Below.step Hb.out hb10 hzr)
            have hz10 := Hb10.out.size
            clear hb10
            go_wp2_with fail
            have hX10 := Blk.new w10 34 #[.int .i64 0, .int .i64 0, .int .i64 0, .bool false, .string ⟨#[]⟩]
            have HX10 := hid hX10
            have Hb10' := hid (show Below w9.heap.size w9 (w10.alloc (.cells #[.int .i64 0, .int .i64 0, .int .i64 0, .bool false, .string ⟨#[]⟩] 34)) from Hb10.out.alloc hz10 _)
            clear hX10
            refine (HGm.out _ Hb10'.out).mono ?_
            rintro e w11 ⟨rfl, hb11⟩
            have Hb11 := hid (Below.step Hb10'.out hb11 Hb10'.out.size)
            have hz11 := Hb11.out.size
            have HA11 := hid (HX10.out.belowS hb11)
            have hl11 := HA11.out.lt
            clear hb11
            go_wp2_with fail
            have hX11 := Blk.new w11 34 #[.int .i64 0, .int .i64 0, .int .i64 0, .bool false, .string ⟨#[]⟩]
            have HX11 := hid hX11
            have HA11' := hid (HA11.out.alloc (.cells #[.int .i64 0, .int .i64 0, .int .i64 0, .bool false, .string ⟨#[]⟩] 34))
            have Hb11' := hid (show Below w9.heap.size w9 (w11.alloc (.cells #[.int .i64 0, .int .i64 0, .int .i64 0, .bool false, .string ⟨#[]⟩] 34)) from Hb11.out.alloc hz11 _)
            clear hX11
            refine (HGx.out _ Hb11'.out).mono ?_
            rintro e w12 ⟨rfl, hb12⟩
            have Hb12 := hid (Below.step Hb11'.out hb12 Hb11'.out.size)
            have hz12 := Hb12.out.size
            have hA12 := HA11'.out.belowS hb12
            have hB12 := HX11.out.belowS hb12
            have a1' : w12.cell? ⟨w10.heap.size, 1, none⟩ = some (.int .i64 0) := hA12.cell 1
            have a2' : w12.cell? ⟨w10.heap.size, 2, none⟩ = some (.int .i64 0) := hA12.cell 2
            have b1' : w12.cell? ⟨w11.heap.size, 1, none⟩ = some (.int .i64 0) := hB12.cell 1
            have b2' : w12.cell? ⟨w11.heap.size, 2, none⟩ = some (.int .i64 0) := hB12.cell 2
            have hl12 : w10.heap.size < w12.heap.size := hA12.lt
            have hl13 : w11.heap.size < w12.heap.size := hB12.lt
            clear hb12 hA12 hB12
            go_wp2_with fail
            go_quiet (fail)
            go_wp2_with fail
            go_roundw
            case rel => exact ⟨k + 1, by omega, by go_num, by have := Hb12.out; exact Below.manyDrew (this.alloc hz12 _) _⟩
            case measure => simp [intOf]; omega
          · have hx : lk x.xs k = some ⟨b0, b1, b2, b3, b4⟩ := by rw [Hxx.out, Hkey.out, ha, hb']; rfl
            have HGs := hid (fun W (hW : Below w9.heap.size w9 W) => show Calls Try.prog 13 #[.slice s.A s.xs.length s.c, .int .i64 k] W (fun e w' => e = .returned (.tuple #[.agg #[.int .i64 0, .int .i64 0, .int .i64 0, .bool false, .string ⟨#[]⟩], .iface 56 (.int .i64 5)]) ∧ Below W.heap.size W w') from by
              have := Hget.out s (Hvl.out) k W (Hs.out W (Below.step Hb9.out hW hz9)) hkb
              rw [ha] at this
              exact this)
            have HGm := hid (fun W (hW : Below w9.heap.size w9 W) => show Calls Try.prog 13 #[.slice m.A m.xs.length m.c, .int .i64 k] W (fun e w' => e = .returned (.tuple #[.agg #[.int .i64 b0, .int .i64 b1, .int .i64 b2, .bool b3, .string b4], .nilIface]) ∧ Below W.heap.size W w') from by
              have := Hget.out m (Hvm.out) k W (Hm.out W (Below.step Hb9.out hW hz9)) hkb
              rw [hb'] at this
              exact this)
            have HGx := hid (fun W (hW : Below w9.heap.size w9 W) => show Calls Try.prog 13 #[.slice x.A x.xs.length x.c, .int .i64 k] W (fun e w' => e = .returned (.tuple #[.agg #[.int .i64 b0, .int .i64 b1, .int .i64 b2, .bool b3, .string b4], .nilIface]) ∧ Below W.heap.size W w') from by
              have := Hget.out x (by rw [Hxx.out]; exact HvX.out) k W (HX9.out W hW) hkb
              rw [hx] at this
              exact this)
            clear ha hb' hx hkb
            go_wp2_with fail
            refine (HGs.out wr Hb.out).mono ?_
            rintro e w10 ⟨rfl, hb10⟩
            have Hb10 := hid (Below.step Hb.out hb10 hzr)
            have hz10 := Hb10.out.size
            clear hb10
            go_wp2_with fail
            have hX10 := Blk.new w10 34 #[.int .i64 0, .int .i64 0, .int .i64 0, .bool false, .string ⟨#[]⟩]
            have HX10 := hid hX10
            have Hb10' := hid (show Below w9.heap.size w9 (w10.alloc (.cells #[.int .i64 0, .int .i64 0, .int .i64 0, .bool false, .string ⟨#[]⟩] 34)) from Hb10.out.alloc hz10 _)
            clear hX10
            refine (HGm.out _ Hb10'.out).mono ?_
            rintro e w11 ⟨rfl, hb11⟩
            have Hb11 := hid (Below.step Hb10'.out hb11 Hb10'.out.size)
            have hz11 := Hb11.out.size
            have HA11 := hid (HX10.out.belowS hb11)
            have hl11 := HA11.out.lt
            clear hb11
            go_wp2_with fail
            have hX11 := Blk.new w11 34 #[.int .i64 b0, .int .i64 b1, .int .i64 b2, .bool b3, .string b4]
            have HX11 := hid hX11
            have HA11' := hid (HA11.out.alloc (.cells #[.int .i64 b0, .int .i64 b1, .int .i64 b2, .bool b3, .string b4] 34))
            have Hb11' := hid (show Below w9.heap.size w9 (w11.alloc (.cells #[.int .i64 b0, .int .i64 b1, .int .i64 b2, .bool b3, .string b4] 34)) from Hb11.out.alloc hz11 _)
            clear hX11
            refine (HGx.out _ Hb11'.out).mono ?_
            rintro e w12 ⟨rfl, hb12⟩
            have Hb12 := hid (Below.step Hb11'.out hb12 Hb11'.out.size)
            have hz12 := Hb12.out.size
            have hA12 := HA11'.out.belowS hb12
            have hB12 := HX11.out.belowS hb12
            have a1' : w12.cell? ⟨w10.heap.size, 1, none⟩ = some (.int .i64 0) := hA12.cell 1
            have a2' : w12.cell? ⟨w10.heap.size, 2, none⟩ = some (.int .i64 0) := hA12.cell 2
            have b1' : w12.cell? ⟨w11.heap.size, 1, none⟩ = some (.int .i64 b1) := hB12.cell 1
            have b2' : w12.cell? ⟨w11.heap.size, 2, none⟩ = some (.int .i64 b2) := hB12.cell 2
            have hl12 : w10.heap.size < w12.heap.size := hA12.lt
            have hl13 : w11.heap.size < w12.heap.size := hB12.lt
            clear hb12 hA12 hB12
            go_wp2_with fail
            go_quiet (fail)
            go_wp2_with fail
            go_roundw
            case rel => exact ⟨k + 1, by omega, by go_num, by have := Hb12.out; exact Below.manyDrew (this.alloc hz12 _) _⟩
            case measure => simp [intOf]; omega
        · rcases hb' : lk m.xs (k : Int) with _ | ⟨b0, b1, b2, b3, b4⟩
          · have hx : lk x.xs k = some ⟨a0, a1, a2, a3, a4⟩ := by rw [Hxx.out, Hkey.out, ha, hb']; rfl
            have HGs := hid (fun W (hW : Below w9.heap.size w9 W) => show Calls Try.prog 13 #[.slice s.A s.xs.length s.c, .int .i64 k] W (fun e w' => e = .returned (.tuple #[.agg #[.int .i64 a0, .int .i64 a1, .int .i64 a2, .bool a3, .string a4], .nilIface]) ∧ Below W.heap.size W w') from by
              have := Hget.out s (Hvl.out) k W (Hs.out W (Below.step Hb9.out hW hz9)) hkb
              rw [ha] at this
              exact this)
            have HGm := hid (fun W (hW : Below w9.heap.size w9 W) => show Calls Try.prog 13 #[.slice m.A m.xs.length m.c, .int .i64 k] W (fun e w' => e = .returned (.tuple #[.agg #[.int .i64 0, .int .i64 0, .int .i64 0, .bool false, .string ⟨#[]⟩], .iface 56 (.int .i64 5)]) ∧ Below W.heap.size W w') from by
              have := Hget.out m (Hvm.out) k W (Hm.out W (Below.step Hb9.out hW hz9)) hkb
              rw [hb'] at this
              exact this)
            have HGx := hid (fun W (hW : Below w9.heap.size w9 W) => show Calls Try.prog 13 #[.slice x.A x.xs.length x.c, .int .i64 k] W (fun e w' => e = .returned (.tuple #[.agg #[.int .i64 a0, .int .i64 a1, .int .i64 a2, .bool a3, .string a4], .nilIface]) ∧ Below W.heap.size W w') from by
              have := Hget.out x (by rw [Hxx.out]; exact HvX.out) k W (HX9.out W hW) hkb
              rw [hx] at this
              exact this)
            clear ha hb' hx hkb
            go_wp2_with fail
            refine (HGs.out wr Hb.out).mono ?_
            rintro e w10 ⟨rfl, hb10⟩
            have Hb10 := hid (Below.step Hb.out hb10 hzr)
            have hz10 := Hb10.out.size
            clear hb10
            go_wp2_with fail
            have hX10 := Blk.new w10 34 #[.int .i64 a0, .int .i64 a1, .int .i64 a2, .bool a3, .string a4]
            have HX10 := hid hX10
            have Hb10' := hid (show Below w9.heap.size w9 (w10.alloc (.cells #[.int .i64 a0, .int .i64 a1, .int .i64 a2, .bool a3, .string a4] 34)) from Hb10.out.alloc hz10 _)
            clear hX10
            refine (HGm.out _ Hb10'.out).mono ?_
            rintro e w11 ⟨rfl, hb11⟩
            have Hb11 := hid (Below.step Hb10'.out hb11 Hb10'.out.size)
            have hz11 := Hb11.out.size
            have HA11 := hid (HX10.out.belowS hb11)
            have hl11 := HA11.out.lt
            clear hb11
            go_wp2_with fail
            have hX11 := Blk.new w11 34 #[.int .i64 0, .int .i64 0, .int .i64 0, .bool false, .string ⟨#[]⟩]
            have HX11 := hid hX11
            have HA11' := hid (HA11.out.alloc (.cells #[.int .i64 0, .int .i64 0, .int .i64 0, .bool false, .string ⟨#[]⟩] 34))
            have Hb11' := hid (show Below w9.heap.size w9 (w11.alloc (.cells #[.int .i64 0, .int .i64 0, .int .i64 0, .bool false, .string ⟨#[]⟩] 34)) from Hb11.out.alloc hz11 _)
            clear hX11
            refine (HGx.out _ Hb11'.out).mono ?_
            rintro e w12 ⟨rfl, hb12⟩
            have Hb12 := hid (Below.step Hb11'.out hb12 Hb11'.out.size)
            have hz12 := Hb12.out.size
            have hA12 := HA11'.out.belowS hb12
            have hB12 := HX11.out.belowS hb12
            have a1' : w12.cell? ⟨w10.heap.size, 1, none⟩ = some (.int .i64 a1) := hA12.cell 1
            have a2' : w12.cell? ⟨w10.heap.size, 2, none⟩ = some (.int .i64 a2) := hA12.cell 2
            have b1' : w12.cell? ⟨w11.heap.size, 1, none⟩ = some (.int .i64 0) := hB12.cell 1
            have b2' : w12.cell? ⟨w11.heap.size, 2, none⟩ = some (.int .i64 0) := hB12.cell 2
            have hl12 : w10.heap.size < w12.heap.size := hA12.lt
            have hl13 : w11.heap.size < w12.heap.size := hB12.lt
            clear hb12 hA12 hB12
            go_wp2_with fail
            go_quiet (fail)
            go_wp2_with fail
            go_roundw
            case rel => exact ⟨k + 1, by omega, by go_num, by have := Hb12.out; exact Below.manyDrew (this.alloc hz12 _) _⟩
            case measure => simp [intOf]; omega
          · have hkk : (⟨a0, a1, a2, a3, a4⟩ : E).key = (⟨b0, b1, b2, b3, b4⟩ : E).key := by rw [(lk_some ha).2, (lk_some hb').2]
            have hj := joined_jn hkk (Hok.out k _ _ ha hb')
            have hnew := hj.newer ((val_iff.1 Hvl.out).2 _ (lk_some ha).1) ((val_iff.1 Hvm.out).2 _ (lk_some hb').1)
            have hx : lk x.xs k = some (joined ⟨a0, a1, a2, a3, a4⟩ ⟨b0, b1, b2, b3, b4⟩).1 := by rw [Hxx.out, Hkey.out, ha, hb']; rfl
            generalize (joined ⟨a0, a1, a2, a3, a4⟩ ⟨b0, b1, b2, b3, b4⟩).1 = c at *
            obtain ⟨c0, c1, c2, c3, c4⟩ := c
            obtain ⟨n1, n2, n3, n4⟩ := hnew
            simp only at n1 n2 n3 n4
            clear hkk hj
            have HGs := hid (fun W (hW : Below w9.heap.size w9 W) => show Calls Try.prog 13 #[.slice s.A s.xs.length s.c, .int .i64 k] W (fun e w' => e = .returned (.tuple #[.agg #[.int .i64 a0, .int .i64 a1, .int .i64 a2, .bool a3, .string a4], .nilIface]) ∧ Below W.heap.size W w') from by
              have := Hget.out s (Hvl.out) k W (Hs.out W (Below.step Hb9.out hW hz9)) hkb
              rw [ha] at this
              exact this)
            have HGm := hid (fun W (hW : Below w9.heap.size w9 W) => show Calls Try.prog 13 #[.slice m.A m.xs.length m.c, .int .i64 k] W (fun e w' => e = .returned (.tuple #[.agg #[.int .i64 b0, .int .i64 b1, .int .i64 b2, .bool b3, .string b4], .nilIface]) ∧ Below W.heap.size W w') from by
              have := Hget.out m (Hvm.out) k W (Hm.out W (Below.step Hb9.out hW hz9)) hkb
              rw [hb'] at this
              exact this)
            have HGx := hid (fun W (hW : Below w9.heap.size w9 W) => show Calls Try.prog 13 #[.slice x.A x.xs.length x.c, .int .i64 k] W (fun e w' => e = .returned (.tuple #[.agg #[.int .i64 c0, .int .i64 c1, .int .i64 c2, .bool c3, .string c4], .nilIface]) ∧ Below W.heap.size W w') from by
              have := Hget.out x (by rw [Hxx.out]; exact HvX.out) k W (HX9.out W hW) hkb
              rw [hx] at this
              exact this)
            clear ha hb' hx hkb
            go_wp2_with fail
            refine (HGs.out wr Hb.out).mono ?_
            rintro e w10 ⟨rfl, hb10⟩
            have Hb10 := hid (Below.step Hb.out hb10 hzr)
            have hz10 := Hb10.out.size
            clear hb10
            go_wp2_with fail
            have hX10 := Blk.new w10 34 #[.int .i64 a0, .int .i64 a1, .int .i64 a2, .bool a3, .string a4]
            have HX10 := hid hX10
            have Hb10' := hid (show Below w9.heap.size w9 (w10.alloc (.cells #[.int .i64 a0, .int .i64 a1, .int .i64 a2, .bool a3, .string a4] 34)) from Hb10.out.alloc hz10 _)
            clear hX10
            refine (HGm.out _ Hb10'.out).mono ?_
            rintro e w11 ⟨rfl, hb11⟩
            have Hb11 := hid (Below.step Hb10'.out hb11 Hb10'.out.size)
            have hz11 := Hb11.out.size
            have HA11 := hid (HX10.out.belowS hb11)
            have hl11 := HA11.out.lt
            clear hb11
            go_wp2_with fail
            have hX11 := Blk.new w11 34 #[.int .i64 b0, .int .i64 b1, .int .i64 b2, .bool b3, .string b4]
            have HX11 := hid hX11
            have HA11' := hid (HA11.out.alloc (.cells #[.int .i64 b0, .int .i64 b1, .int .i64 b2, .bool b3, .string b4] 34))
            have Hb11' := hid (show Below w9.heap.size w9 (w11.alloc (.cells #[.int .i64 b0, .int .i64 b1, .int .i64 b2, .bool b3, .string b4] 34)) from Hb11.out.alloc hz11 _)
            clear hX11
            refine (HGx.out _ Hb11'.out).mono ?_
            rintro e w12 ⟨rfl, hb12⟩
            have Hb12 := hid (Below.step Hb11'.out hb12 Hb11'.out.size)
            have hz12 := Hb12.out.size
            have hA12 := HA11'.out.belowS hb12
            have hB12 := HX11.out.belowS hb12
            have a1' : w12.cell? ⟨w10.heap.size, 1, none⟩ = some (.int .i64 a1) := hA12.cell 1
            have a2' : w12.cell? ⟨w10.heap.size, 2, none⟩ = some (.int .i64 a2) := hA12.cell 2
            have b1' : w12.cell? ⟨w11.heap.size, 1, none⟩ = some (.int .i64 b1) := hB12.cell 1
            have b2' : w12.cell? ⟨w11.heap.size, 2, none⟩ = some (.int .i64 b2) := hB12.cell 2
            have hl12 : w10.heap.size < w12.heap.size := hA12.lt
            have hl13 : w11.heap.size < w12.heap.size := hB12.lt
            clear hb12 hA12 hB12
            go_wp2_with fail
            go_quiet (fail)
            go_wp2_with fail
            go_roundw
            case rel => exact ⟨k + 1, by omega, by go_num, by have := Hb12.out; exact Below.manyDrew (this.alloc hz12 _) _⟩
            case measure => simp [intOf]; omega
      · obtain rfl : k = 8 := by omega
        have Hb := hid (Below.step Hb9.out hbr hz9)
        clear hbr
        go_wp2_with fail
        go_ret
        exact ⟨rfl, Hb.out⟩
  · have Hen := hid (errV_ne h0)
    generalize (bothR s.xs m.xs).2 = en at *
    clear h0
    refine HB1.out.mono ?_
    rintro e w2 ⟨v2, rfl, _, hb2⟩
    rw [Hen.out]
    have Hb2 := hid (Below.step Hb1.out hb2 hz1)
    clear hb2
    go_wp2_with fail
    go_ret
    exact ⟨rfl, Hb2.out⟩

set_option maxRecDepth 100000 in
theorem cacheJoins_walk : LawWalk Try.prog 4 Try.f4 (fun _ => True) := by
  intro W base args H enc ds p hval hA _
  rw [Try.params4] at hA hval
  obtain ⟨v0, v1, d0, d1, p0, p1, rfl, rfl, rfl, h0, h1⟩ := trodAll_two hA
  obtain ⟨s, rfl, hs⟩ := arg_slice Try.underlying22 codecEntry (pos_of_eq Try.cellsEntry (by decide)) (hval 0 22 v0 rfl rfl) h0
  obtain ⟨m, rfl, hm⟩ := arg_slice Try.underlying22 codecEntry (pos_of_eq Try.cellsEntry (by decide)) (hval 1 22 v1 rfl rfl) h1
  exact cacheJoins_any s m W (entriesAt_of hs).es (entriesAt_of hm).es

set_option maxRecDepth 100000 in
theorem cacheJoins_lifted (os : Os) (started : os.Started) (H : Type) (enc : TypeId × Value → H) :
    ReturnsInHanded {} Try.checked os 4 .any (Rows.cacheJoinsSpec.pre6 enc Try.prog Try.f4 Rows.cacheJoinsRow.domain false) (Rows.cacheJoinsSpec.post enc Try.prog Try.f4 false true false false) :=
  law_lifted (C := Try.checked) Rows.cacheJoinsRow.domain Try.own started (by kernel_rfl) Try.func4 Try.laidOut (by kernel_rfl) rfl Try.underlying4 rfl (fun ds h => by match ds, h with | [_, _], _ => rfl)
    (ChangeSpec.witness6 (enc := enc) (C := Try.checked) false ⟨#[], #[.slice none 0 0, .slice none 0 0], []⟩ 8 (by kernel_rfl) (by kernel_rfl) (by kernel_rfl) (by kernel_rfl)) cacheJoins_walk

theorem cacheJoins_holds : Rows.CacheJoinsSaid :=
  OpenClaim.holds_of_wide 4 Try.f4 rfl rfl rfl rfl rfl rfl rfl ⟨rfl, rfl, rfl, rfl, rfl⟩ rfl rfl rfl rfl rfl (by kernel_rfl) Try.func4 (by kernel_rfl)
    (of_decide_eq_true (by kernel_rfl)) (by unfold Func.isWrapper; rw [if_neg (of_decide_eq_false (by kernel_rfl))]; exact ⟨rfl, rfl⟩)
    (fun os started H enc _ => cacheJoins_lifted os started H enc)

end Go.Proofs.Ytgfbpabffnabaaa
