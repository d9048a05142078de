/-
  CONTRACT of mail.Give. CONDITIONS: none.
-/
import Derived.Test.YtgamocljdbffpaaDoorMail2
namespace Go.Proofs.YtgamocljdbffpaaDoor
open Go.RowKit
open Go.ChangeShapes Go.WideShapes Go.ChangeAt

set_option maxHeartbeats 1000000 in
set_option maxRecDepth 100000 in
theorem mgive_any (base s bm nc : Nat) (i : Int) (v : Value) (L : List Lt) (C : Int → Int → Bool) (w : World) (hO : MailO base w s bm v L nc C) :
    Calls Tryd.prog 11 #[.pointer (some ⟨s, 0, none⟩), .int .i64 i] w (MRes base s bm v w (.tuple #[(giveY L i).val, errV (giveE L i)]) (giveL L i) nc C) := by
  have hs := hO.blk.lt
  have hIs := hid (fun W (hW : Below w.heap.size w W) => mis_any base s bm nc i v L C W (hO.belowS hW))
  have HO := hid hO
  rcases hk : inB i L.length with _ | _
  · rw [giveY, giveE, giveL, if_neg (by rw [hk]; decide), if_neg (by rw [hk]; decide), if_neg (by rw [hk]; decide), errV_ne (show (1 : Int) ≠ 0 by decide)]
    show Calls _ _ _ _ (MRes base s bm v w (.tuple #[.agg #[.int .i64 0, .int .i64 0, .int .i64 0, .int .i64 0, .int .i64 0, .bool false, .string ⟨#[]⟩], .iface 86 (.int .i64 1)]) L nc C)
    have Hk := hid hk
    have hB0 := hid (Blk.new w 37 #[.int .i64 0, .int .i64 0, .int .i64 0, .int .i64 0, .int .i64 0, .bool false, .string ⟨#[]⟩])
    clear hk hO
    go_enter Tryd.func11, Tryd.ntmps11
    go_wp2_with fail
    refine (hIs.out _ (by (repeat (first | with_reducible exact Below.refl _ _ | with_reducible assumption | (with_reducible refine Below.drew ?_) | (with_reducible refine Below.manyDrew ?_ _) | ((with_reducible refine Below.alloc ?_ ?_ _); rotate_left; (focus (first | omega | (dsimp only; omega) | (simp; done) | (simp; omega)))) | ((with_reducible refine Below.setCell ?_ ?_ _); rotate_left; (focus (first | omega | (dsimp only; omega) | (simp; done) | (simp; omega)))) | ((with_reducible refine Below.step ?_ (by assumption) ?_); rotate_left; (focus (first | omega | (dsimp only; omega) | (simp; done) | (simp; omega)))))))).mono ?_
    rw [Hk.out]
    rintro e w' ⟨rfl, rfl⟩
    have z0 := hB0.out.frozen 0
    have z1 := hB0.out.frozen 1
    have z2 := hB0.out.frozen 2
    have z3 := hB0.out.frozen 3
    have z4 := hB0.out.frozen 4
    have z5 := hB0.out.frozen 5
    have z6 := hB0.out.frozen 6
    go_wp2_with fail
    refine bodyPost_ret (v := .tuple #[.agg #[.int .i64 0, .int .i64 0, .int .i64 0, .int .i64 0, .int .i64 0, .bool false, .string ⟨#[]⟩], .iface 86 (.int .i64 1)]) ?_ rfl ?_
    · exact results_box Tryd.results11 rfl hB0.out Tryd.underlying37 rfl (by kernel_rfl)
    · exact MRes.no HO.out (by (repeat (first | with_reducible exact Below.refl _ _ | with_reducible assumption | (with_reducible refine Below.drew ?_) | (with_reducible refine Below.manyDrew ?_ _) | ((with_reducible refine Below.alloc ?_ ?_ _); rotate_left; (focus (first | omega | (dsimp only; omega) | (simp; done) | (simp; omega)))) | ((with_reducible refine Below.setCell ?_ ?_ _); rotate_left; (focus (first | omega | (dsimp only; omega) | (simp; done) | (simp; omega)))) | ((with_reducible refine Below.step ?_ (by assumption) ?_); rotate_left; (focus (first | omega | (dsimp only; omega) | (simp; done) | (simp; omega)))))))
  · rw [giveY, giveE, giveL, if_pos hk, if_pos hk, if_pos hk, errV_zero]
    have Hk := hid hk
    obtain ⟨k0, k1⟩ := inB_true.1 hk
    obtain ⟨n, rfl⟩ := Int.eq_ofNat_of_zero_le k0
    have hn : n < L.length := by omega
    rw [Int.toNat_natCast]
    obtain ⟨g, off, c, hv, hlc, hcm, hbg, hgl, hfo, hcells, _⟩ := hO.own.get (by omega)
    have hway := hO.way
    rw [hv] at hway
    have hls := hO.lens
    have hf0 := hO.blk.frozen 0
    have x0' : w.cell? ⟨g, off + n * 7, none⟩ = some (.int .i64 L[n].frm) := hcells n hn 0 (by decide)
    have x1' : w.cell? ⟨g, off + n * 7 + 1, none⟩ = some (.int .i64 L[n].dst) := hcells n hn 1 (by decide)
    have x2' : w.cell? ⟨g, off + n * 7 + 2, none⟩ = some (.int .i64 L[n].key) := hcells n hn 2 (by decide)
    have x3' : w.cell? ⟨g, off + n * 7 + 3, none⟩ = some (.int .i64 L[n].ver) := hcells n hn 3 (by decide)
    have x4' : w.cell? ⟨g, off + n * 7 + 4, none⟩ = some (.int .i64 L[n].asof) := hcells n hn 4 (by decide)
    have x5' : w.cell? ⟨g, off + n * 7 + 5, none⟩ = some (.bool L[n].gone) := hcells n hn 5 (by decide)
    have x6' : w.cell? ⟨g, off + n * 7 + 6, none⟩ = some (.string L[n].text) := hcells n hn 6 (by decide)
    rw [getD_get _ hn]
    generalize hy : L[n] = y at *
    obtain ⟨y0, y1, y2, y3, y4, y5, y6⟩ := y
    simp only at x0' x1' x2' x3' x4' x5' x6'
    show Calls _ _ _ _ (MRes base s bm v w (.tuple #[.agg #[.int .i64 y0, .int .i64 y1, .int .i64 y2, .int .i64 y3, .int .i64 y4, .bool y5, .string y6], .nilIface]) (Lt.out L n) nc C)
    obtain ⟨k, hkk⟩ : ∃ k, k + 1 = L.length := ⟨L.length - 1, by omega⟩
    have hOs : Hid (Ow Lt.cells 7 base 37 w (.slice (some ⟨g, off, none⟩) L.length c) L) := hid (by rw [← hv]; exact hO.own)
    have HDel := hid (fun W (hW : Below w.heap.size w W) => (ldel_any base g off c n k L W (hOs.out.belowS hW) hn hkk (by omega) hO.good).mono fun e w' h => (⟨h.1, h.2.1, h.2.2, hW⟩ : e = _ ∧ _ ∧ _ ∧ Below w.heap.size w W))
    have Hv := hid hv
    have Hfo := hid hfo
    have Hgs := hid (show g ≠ s from fun e => hO.off (by rw [hfo, e]))
    have hnl : (n : Int) < (L.length : Int) := by omega
    have hn0 : (0 : Int) ≤ (n : Int) := by omega
    have hmx : c ≤ 9223372036854775807 := hcm
    clear hk hO hkk hv hfo hcells hy k0 k1 hcm
    go_enter Tryd.func11, Tryd.ntmps11
    go_wp2_with fail
    refine (hIs.out _ (by (repeat (first | with_reducible exact Below.refl _ _ | with_reducible assumption | (with_reducible refine Below.drew ?_) | (with_reducible refine Below.manyDrew ?_ _) | ((with_reducible refine Below.alloc ?_ ?_ _); rotate_left; (focus (first | omega | (dsimp only; omega) | (simp; done) | (simp; omega)))) | ((with_reducible refine Below.setCell ?_ ?_ _); rotate_left; (focus (first | omega | (dsimp only; omega) | (simp; done) | (simp; omega)))) | ((with_reducible refine Below.step ?_ (by assumption) ?_); rotate_left; (focus (first | omega | (dsimp only; omega) | (simp; done) | (simp; omega)))))))).mono ?_
    rw [Hk.out]
    rintro e w' ⟨rfl, rfl⟩
    have e0 : (w.alloc (.cells #[.int .i64 0, .int .i64 0, .int .i64 0, .int .i64 0, .int .i64 0, .bool false, .string ⟨#[]⟩] 37)).cell? ⟨s, 0, none⟩ = some (.slice (some ⟨g, off, none⟩) L.length c) := (World.cell?_alloc_lt w _ ⟨s, 0, none⟩ hs).trans hway
    go_wp2_with fail
    refine (HDel.out _ (by (repeat (first | with_reducible exact Below.refl _ _ | with_reducible assumption | (with_reducible refine Below.drew ?_) | (with_reducible refine Below.manyDrew ?_ _) | ((with_reducible refine Below.alloc ?_ ?_ _); rotate_left; (focus (first | omega | (dsimp only; omega) | (simp; done) | (simp; omega)))) | ((with_reducible refine Below.setCell ?_ ?_ _); rotate_left; (focus (first | omega | (dsimp only; omega) | (simp; done) | (simp; omega)))) | ((with_reducible refine Below.step ?_ (by assumption) ?_); rotate_left; (focus (first | omega | (dsimp only; omega) | (simp; done) | (simp; omega)))))))).mono ?_
    rintro e w4 ⟨rfl, h4, f4, hX3⟩
    have hz3 := hX3.size
    have hgs := Hgs.out
    have hs3 := Nat.lt_of_lt_of_le hs hz3
    have a4 : w4.cell? ⟨s, 0, none⟩ = some (.slice (some ⟨g, off, none⟩) L.length c) := (f4.cell (p := ⟨s, 0, none⟩) hs3 (fun e => hgs e.symm)).trans ((hX3.cell (p := ⟨s, 0, none⟩) hs).trans hway)
    have b4 : w4.frozen? ⟨s, 0, none⟩ = false := (f4.frozen (p := ⟨s, 0, none⟩) hs3 (fun e => hgs e.symm)).trans ((hX3.frozen (p := ⟨s, 0, none⟩) hs).trans hf0)
    have hB1' : Blk w4 (w.heap.size + 1) 37 #[.int .i64 y0, .int .i64 y1, .int .i64 y2, .int .i64 y3, .int .i64 y4, .bool y5, .string y6] := (Blk.new_at (by simp)).fr f4 (by omega)
    have hB0' : Blk w4 w.heap.size 37 #[.int .i64 0, .int .i64 0, .int .i64 0, .int .i64 0, .int .i64 0, .bool false, .string ⟨#[]⟩] := ((Blk.new w _ _).alloc _).fr f4 (by omega)
    have hfin := give_new HO.out hX3 (n := n) h4 hn (f4.mono (fun i _ h => by show some i = _; rw [h]; exact Hfo.out.symm)) (by rw [Hv.out]; exact foot_slice _ _ _ _)
    have Hfin := hid hfin
    have d0 := hB1'.cell 0
    have d1 := hB1'.cell 1
    have d2 := hB1'.cell 2
    have d3 := hB1'.cell 3
    have d4 := hB1'.cell 4
    have d5 := hB1'.cell 5
    have d6 := hB1'.cell 6
    have c0 := hB0'.cell 0
    have c1 := hB0'.cell 1
    have c2 := hB0'.cell 2
    have c3 := hB0'.cell 3
    have c4 := hB0'.cell 4
    have c5 := hB0'.cell 5
    have c6 := hB0'.cell 6
    have z0 := hB0'.frozen 0
    have z1 := hB0'.frozen 1
    have z2 := hB0'.frozen 2
    have z3 := hB0'.frozen 3
    have z4 := hB0'.frozen 4
    have z5 := hB0'.frozen 5
    have z6 := hB0'.frozen 6
    simp at d0 d1 d2 d3 d4 d5 d6 c0 c1 c2 c3 c4 c5 c6
    have HB0' := hid hB0'
    clear h4 f4 hX3 hB0' hB1' hfin e0 hway hf0
    have hs0 : s ≠ w.heap.size := by omega
    have hs1 : s ≠ w.heap.size + 1 := by omega
    go_wp2_with fail
    refine bodyPost_ret (v := .tuple #[.agg #[.int .i64 y0, .int .i64 y1, .int .i64 y2, .int .i64 y3, .int .i64 y4, .bool y5, .string y6], .nilIface]) ?_ rfl ?_
    · exact results_box Tryd.results11 rfl ((HB0'.out.far (p := ⟨s, 0, none⟩) (fun e => hs0 e.symm) _).put7 _ _ _ _ _ _ _) Tryd.underlying37 rfl (by kernel_rfl)
    · exact MRes.more (g := w.heap.size) Hfin.out.1 Hfin.out.2 (.inl (by rw [Hv.out]; exact foot_slice _ _ _ _)) (Fr.put7 w.heap.size (Fr.refl (fun k => k = w.heap.size) _) (.inl rfl) _ _ _ _ _ _ _) (Nat.le_refl _) (fun h => by have h1 := HO.out.fml (i := w.heap.size) (by rcases h with h | h | h; exact .inl h; exact .inr (.inl h); exact .inr (.inr (by rw [h, Hv.out]; exact foot_slice _ _ _ _))); omega)
end Go.Proofs.YtgamocljdbffpaaDoor
