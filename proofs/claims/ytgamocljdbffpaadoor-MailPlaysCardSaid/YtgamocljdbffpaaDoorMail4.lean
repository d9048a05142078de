/-
  CONTRACT of mail.Lose and mail.Twice. CONDITIONS: none.
-/
import Derived.Test.YtgamocljdbffpaaDoorMail3
namespace Go.Proofs.YtgamocljdbffpaaDoor
open Go.RowKit
open Go.ChangeShapes Go.WideShapes Go.ChangeAt

set_option maxHeartbeats 1000000 in
set_option maxRecDepth 100000 in
theorem mlose_any (base s bm nc : Nat) (i : Int) (v : Value) (L : List Lt) (C : Int → Int → Bool) (w : World) (hO : MailO base w s bm v L nc C) :
    Calls Tryd.prog 12 #[.pointer (some ⟨s, 0, none⟩), .int .i64 i] w (MRes base s bm v w (errV (giveE L i)) (giveL L i) nc C) := by
  have HG := hid (mgive_any base s bm nc i v L C w hO)
  have hfm := fun i (h : FM s bm v i) => hO.fml h
  have Hfm := hid hfm
  generalize giveY L i = y at *
  generalize errV (giveE L i) = er at *
  generalize giveL L i = L' at *
  obtain ⟨y0, y1, y2, y3, y4, y5, y6⟩ := y
  clear hO hfm
  go_enter Tryd.func12, Tryd.ntmps12
  go_wp2_with fail
  refine HG.out.mono ?_
  unfold Lt.val
  rintro e w1 ⟨v1, rfl, hM, hF, o1⟩
  have hz1 := hF.size
  have HM := hid hM
  have HF := hid hF
  have hlt1 := hM.blk.lt
  clear hM hF
  go_wp2_with fail
  go_ret
  exact MRes.more (g := w1.heap.size) HM.out HF.out o1 ((Fr.refl (fun k => k = w1.heap.size) w1).alloc _) hz1 (fun h => by have := (HM.out.fml h).2; omega)
def twiceE (L : List Lt) (i : Int) : Int := if inB i L.length = true then putE L else 1
def twiceL (L : List Lt) (i : Int) : List Lt := if inB i L.length = true then putL L (L.getD i.toNat Lt.zero) else L
set_option maxHeartbeats 1000000 in
set_option maxRecDepth 100000 in
theorem mtwice_any (base s bm nc : Nat) (i : Int) (v : Value) (L : List Lt) (C : Int → Int → Bool) (w : World) (hO : MailO base w s bm v L nc C) :
    Calls Tryd.prog 13 #[.pointer (some ⟨s, 0, none⟩), .int .i64 i] w (MRes base s bm v w (errV (twiceE L i)) (twiceL L i) nc C) := by
  have hIs := hid (mis_any base s bm nc i v L C w hO)
  have HO := hid hO
  rcases hk : inB i L.length with _ | _
  · rw [twiceE, twiceL, if_neg (by rw [hk]; decide), if_neg (by rw [hk]; decide), errV_ne (show (1 : Int) ≠ 0 by decide)]
    have Hk := hid hk
    clear hk hO
    go_enter Tryd.func13, Tryd.ntmps13
    go_wp2_with fail
    refine hIs.out.mono ?_
    rw [Hk.out]
    rintro e w' ⟨rfl, rfl⟩
    go_wp2_with fail
    go_ret
    exact MRes.no HO.out (Below.refl _ _)
  · rw [twiceE, twiceL, if_pos hk, if_pos hk]
    have Hk := hid hk
    obtain ⟨k0, k1⟩ := inB_true.1 hk
    obtain ⟨n, rfl⟩ := Int.eq_ofNat_of_zero_le k0
    have hn : n < L.length := by omega
    rw [Int.toNat_natCast]
    obtain ⟨g, off, c, hv, hlc, hcm, hbg, hgl, hfo, hcells, _⟩ := hO.own.get (by omega)
    have hway := hO.way
    rw [hv] at hway
    have hls := hO.lens
    have x0' : w.cell? ⟨g, off + n * 7, none⟩ = some (.int .i64 L[n].frm) := hcells n hn 0 (by decide)
    have x1' : w.cell? ⟨g, off + n * 7 + 1, none⟩ = some (.int .i64 L[n].dst) := hcells n hn 1 (by decide)
    have x2' : w.cell? ⟨g, off + n * 7 + 2, none⟩ = some (.int .i64 L[n].key) := hcells n hn 2 (by decide)
    have x3' : w.cell? ⟨g, off + n * 7 + 3, none⟩ = some (.int .i64 L[n].ver) := hcells n hn 3 (by decide)
    have x4' : w.cell? ⟨g, off + n * 7 + 4, none⟩ = some (.int .i64 L[n].asof) := hcells n hn 4 (by decide)
    have x5' : w.cell? ⟨g, off + n * 7 + 5, none⟩ = some (.bool L[n].gone) := hcells n hn 5 (by decide)
    have x6' : w.cell? ⟨g, off + n * 7 + 6, none⟩ = some (.string L[n].text) := hcells n hn 6 (by decide)
    have hyg := hO.good _ (List.getElem_mem hn)
    rw [getD_get _ hn]
    generalize L[n] = y at *
    obtain ⟨y0, y1, y2, y3, y4, y5, y6⟩ := y
    simp only at x0' x1' x2' x3' x4' x5' x6'
    have HP := hid (mput_any base s bm nc y0 y1 y2 y3 y4 y5 y6 hyg v L C w hO)
    generalize errV (putE L) = er at *
    generalize putL L _ = L' at *
    have hnl : (n : Int) < (L.length : Int) := by omega
    have hn0 : (0 : Int) ≤ (n : Int) := by omega
    clear hk hO hv hfo hcells k0 k1 hyg
    go_enter Tryd.func13, Tryd.ntmps13
    go_wp2_with fail
    refine hIs.out.mono ?_
    rw [Hk.out]
    rintro e w' ⟨rfl, rfl⟩
    go_wp2_with fail
    refine HP.out.mono ?_
    rintro e w1 ⟨v1, rfl, h1⟩
    have H1 := hid h1
    clear h1
    go_wp2_with fail
    go_ret
    exact ⟨v1, rfl, H1.out⟩
end Go.Proofs.YtgamocljdbffpaaDoor
