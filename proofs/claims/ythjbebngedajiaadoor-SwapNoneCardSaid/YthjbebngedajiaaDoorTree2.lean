/-
  THE CONTRACTS of tree.Node. CONDITIONS: the library's table of the powers of ten reads as it is laid (Tb).
-/
import Derived.Test.YthjbebngedajiaaDoorTree
import Derived.Test.YthjbebngedajiaaDoorTAsk
import Derived.Test.YthjbebngedajiaaDoorTPick
import Derived.BigQuiet
import Derived.Deep.QuietTactic
import Derived.Laws.Tables
namespace Go.Proofs.YthjbebngedajiaaDoor
open Go.RowKit
open Go.ChangeShapes Go.WideShapes Go.ChangeAt

def nodE (l : List E) (i : Int) : Int := if 1 ≤ i ∧ i < 16 then chkC l else 1
theorem errV_one : errV 1 = .iface 87 (.int .i64 1) := rfl

set_option maxRecDepth 100000 in
theorem index16 {l : List Int} (hl : l.length = 16) {n : Nat} (hn : n < 16) (w : World) : (Instr.index 102 (.agg (ints l)) (.int .i64 n)).run Tryd.prog w = .ok (.int .i64 (l.getD n 0)) w := by
  obtain ⟨y0, y1, y2, y3, y4, y5, y6, y7, y8, y9, y10, y11, y12, y13, y14, y15, rfl⟩ := list16 hl
  rcases (show n = 0 ∨ n = 1 ∨ n = 2 ∨ n = 3 ∨ n = 4 ∨ n = 5 ∨ n = 6 ∨ n = 7 ∨ n = 8 ∨ n = 9 ∨ n = 10 ∨ n = 11 ∨ n = 12 ∨ n = 13 ∨ n = 14 ∨ n = 15 by omega) with rfl | rfl | rfl | rfl | rfl | rfl | rfl | rfl | rfl | rfl | rfl | rfl | rfl | rfl | rfl | rfl
  all_goals kernel_rfl

set_option maxHeartbeats 4000000 in
set_option maxRecDepth 100000 in
theorem node_any (s : SlV E) (i : Int) (w : World) (hs : EsAt w s) (ht : Tb w) :
    Calls Tryd.prog 36 #[.slice s.A s.xs.length s.c, .int .i64 i] w fun e w' => e = .returned (.tuple #[.int .i64 (tnN s.xs i), errV (tnE s.xs i)]) ∧ Below w.heap.size w w' := by
  by_cases hr : 1 ≤ i ∧ i < 16
  · obtain ⟨h1, h16⟩ := hr
    have HC := hid (ccheck_any s w hs.entries)
    by_cases hc : chkC s.xs = 0
    · rw [show tnN s.xs i = (nodeN s.xs i.toNat : Int) by rw [tnN, if_pos ⟨h1, h16⟩, if_pos hc], show errV (tnE s.xs i) = .nilIface by rw [tnE, if_pos ⟨h1, h16⟩, hc]; rfl]
      rw [show errV (chkC s.xs) = .nilIface by rw [hc]; rfl] at HC
      have HN := hid (fun W (hW : Below w.heap.size w W) => nodes_any s W (hs.stays hW) hc (ht.belowS hW))
      obtain ⟨n, rfl⟩ := Int.eq_ofNat_of_zero_le (show 0 ≤ i by omega)
      have hn1 : ¬ (n : Int) < 1 := by omega
      have hn16 : ¬ (16 : Int) ≤ (n : Int) := by omega
      have hg := rowT_get s.xs 0 (m := n) (by omega)
      rw [if_pos (by omega)] at hg
      have hq := index16 (rowT_len s.xs 0) (n := n) (by omega)
      rw [hg] at hq
      rw [Int.toNat_natCast]
      generalize ints (rowT s.xs 0) = R at *
      generalize nodeN s.xs n = N at *
      clear hc hs ht hg
      go_enter Tryd.func36, Tryd.ntmps36
      go_wp2_with fail
      refine HC.out.mono ?_
      rintro e w1 ⟨rfl, hb1⟩
      have HN1 := hid (HN.out w1 hb1)
      go_wp2_with fail
      refine HN1.out.mono ?_
      rintro e w2 ⟨rfl, hb2⟩
      go_wp2_with fail
      go_ret2
      exact ⟨rfl, Below.step hb1 hb2 hb1.size⟩
    · rw [show tnN s.xs i = 0 by rw [tnN, if_pos ⟨h1, h16⟩, if_neg hc], show tnE s.xs i = chkC s.xs by rw [tnE, if_pos ⟨h1, h16⟩]]
      have Hen := hid (errV_ne hc)
      rw [errV_ne hc] at HC
      rw [errV_ne hc]
      have hn1 : ¬ i < 1 := by omega
      have hn16 : ¬ (16 : Int) ≤ i := by omega
      generalize chkC s.xs = en at *
      clear hc hs ht
      go_enter Tryd.func36, Tryd.ntmps36
      go_wp2_with fail
      refine HC.out.mono ?_
      rintro e w1 ⟨rfl, hb1⟩
      go_wp2_with fail
      go_ret2
      exact ⟨rfl, hb1⟩
  · rw [show tnN s.xs i = 0 by rw [tnN, if_neg hr], show errV (tnE s.xs i) = .iface 87 (.int .i64 1) by rw [tnE, if_neg hr]; rfl]
    rcases (show i < 1 ∨ (¬ i < 1 ∧ 16 ≤ i) by omega) with h | ⟨h, h'⟩
    all_goals
      clear hr
      go_enter Tryd.func36, Tryd.ntmps36
      go_wp2_with fail
      go_ret2
      exact ⟨rfl, Below.refl _ _⟩

end Go.Proofs.YthjbebngedajiaaDoor
