/-
  THE CONTRACTS of tree.Apart, tree.Diff. CONDITIONS: the library's table of the powers of ten reads as it is laid (Tb).
-/
import Derived.Test.YthjbebngedajiaaDoorTree2
import Derived.BigQuiet
import Derived.Deep.QuietTactic
import Derived.Laws.Tables
namespace Go.Proofs.YthjbebngedajiaaDoor
open Go.RowKit
open Go.ChangeShapes Go.WideShapes Go.ChangeAt

/-- What tells of two, whoever's the row. -/
def DiffR (w : World) (K : List Int) (n : Nat) (en : Int) (e : Ending) (w' : World) : Prop :=
  ∃ q : SlV Int, e = .returned (.tuple #[.slice q.A q.xs.length q.c, .int .i64 n, errV en]) ∧ (q.xs = K ∧ q.ok) ∧ IntsAt w' q ∧ Below w.heap.size w w'
def ApartR (w : World) (K : List Int) (n : Nat) (e : Ending) (w' : World) : Prop :=
  ∃ q : SlV Int, e = .returned (.tuple #[.slice q.A q.xs.length q.c, .int .i64 n]) ∧ (q.xs = K ∧ q.ok) ∧ IntsAt w' q ∧ Below w.heap.size w w'
theorem SlV.ok_nil : (⟨none, 0, []⟩ : SlV Int).ok := ⟨Nat.le_refl _, Nat.zero_le _⟩
theorem part_rows (a b : List E) : partF (fun j => (rowT a 0).getD j 0) (fun j => (rowT b 0).getD j 0) 1 = partT a b 1 :=
  partF_congr (fun m h1 h16 => by show (rowT a 0).getD m 0 = _; rw [rowT_get a 0 h16, if_pos (by omega)]; rfl) (fun m h1 h16 => by show (rowT b 0).getD m 0 = _; rw [rowT_get b 0 h16, if_pos (by omega)]; rfl) 1 (by decide) (by decide)

theorem ints16 (a0 a1 a2 a3 a4 a5 a6 a7 a8 a9 a10 a11 a12 a13 a14 a15 : Int) : ints [a0, a1, a2, a3, a4, a5, a6, a7, a8, a9, a10, a11, a12, a13, a14, a15] = #[.int .i64 a0, .int .i64 a1, .int .i64 a2, .int .i64 a3, .int .i64 a4, .int .i64 a5, .int .i64 a6, .int .i64 a7, .int .i64 a8, .int .i64 a9, .int .i64 a10, .int .i64 a11, .int .i64 a12, .int .i64 a13, .int .i64 a14, .int .i64 a15] := by simp [ints]
theorem walkC16 (a0 a1 a2 a3 a4 a5 a6 a7 a8 a9 a10 a11 a12 a13 a14 a15 b0 b1 b2 b3 b4 b5 b6 b7 b8 b9 b10 b11 b12 b13 b14 b15 : Int) (v : Value) (n : Nat) : walkC [a0, a1, a2, a3, a4, a5, a6, a7, a8, a9, a10, a11, a12, a13, a14, a15] [b0, b1, b2, b3, b4, b5, b6, b7, b8, b9, b10, b11, b12, b13, b14, b15] v n = #[.int .i64 a0, .int .i64 a1, .int .i64 a2, .int .i64 a3, .int .i64 a4, .int .i64 a5, .int .i64 a6, .int .i64 a7, .int .i64 a8, .int .i64 a9, .int .i64 a10, .int .i64 a11, .int .i64 a12, .int .i64 a13, .int .i64 a14, .int .i64 a15, .int .i64 b0, .int .i64 b1, .int .i64 b2, .int .i64 b3, .int .i64 b4, .int .i64 b5, .int .i64 b6, .int .i64 b7, .int .i64 b8, .int .i64 b9, .int .i64 b10, .int .i64 b11, .int .i64 b12, .int .i64 b13, .int .i64 b14, .int .i64 b15, v, .int .i64 n] := by simp [walkC, ints]
theorem built16 (a0 a1 a2 a3 a4 a5 a6 a7 a8 a9 a10 a11 a12 a13 a14 a15 b0 b1 b2 b3 b4 b5 b6 b7 b8 b9 b10 b11 b12 b13 b14 b15 : Int) (W : World) : (Instr.build 113 #[(0, .agg #[.int .i64 a0, .int .i64 a1, .int .i64 a2, .int .i64 a3, .int .i64 a4, .int .i64 a5, .int .i64 a6, .int .i64 a7, .int .i64 a8, .int .i64 a9, .int .i64 a10, .int .i64 a11, .int .i64 a12, .int .i64 a13, .int .i64 a14, .int .i64 a15]), (1, .agg #[.int .i64 b0, .int .i64 b1, .int .i64 b2, .int .i64 b3, .int .i64 b4, .int .i64 b5, .int .i64 b6, .int .i64 b7, .int .i64 b8, .int .i64 b9, .int .i64 b10, .int .i64 b11, .int .i64 b12, .int .i64 b13, .int .i64 b14, .int .i64 b15])]).run Tryd.prog W = .ok (.agg #[.int .i64 a0, .int .i64 a1, .int .i64 a2, .int .i64 a3, .int .i64 a4, .int .i64 a5, .int .i64 a6, .int .i64 a7, .int .i64 a8, .int .i64 a9, .int .i64 a10, .int .i64 a11, .int .i64 a12, .int .i64 a13, .int .i64 a14, .int .i64 a15, .int .i64 b0, .int .i64 b1, .int .i64 b2, .int .i64 b3, .int .i64 b4, .int .i64 b5, .int .i64 b6, .int .i64 b7, .int .i64 b8, .int .i64 b9, .int .i64 b10, .int .i64 b11, .int .i64 b12, .int .i64 b13, .int .i64 b14, .int .i64 b15, .slice none 0 0, .int .i64 0]) W := run_build W 113 _ _ (by kernel_rfl)
set_option maxHeartbeats 4000000 in
set_option maxRecDepth 100000 in
theorem apart_any (s t : SlV E) (w : World) (hs : EsAt w s) (ht : EsAt w t) (hvs : chkC s.xs = 0) (hvt : chkC t.xs = 0) (htb : Tb w) :
    Calls Tryd.prog 59 #[.slice s.A s.xs.length s.c, .slice t.A t.xs.length t.c] w (ApartR w (partT s.xs t.xs 1).1 (partT s.xs t.xs 1).2) := by
  have HN1 := hid (nodes_any s w hs hvs htb)
  have HN2 := hid (fun W (hW : Below w.heap.size w W) => nodes_any t W (ht.stays hW) hvt (htb.belowS hW))
  have HA := hid (fun g v W => ask_any (rowT s.xs 0) (rowT t.xs 0) (rowT_len _ _) (rowT_len _ _) g 16 1 (by omega) (by omega) (by omega) v [] 0 W)
  rw [part_rows] at HA
  have hla := rowT_len s.xs 0
  have hlb := rowT_len t.xs 0
  generalize partT s.xs t.xs 1 = P at *
  generalize rowT s.xs 0 = fa at *
  generalize rowT t.xs 0 = fb at *
  obtain ⟨a0, a1, a2, a3, a4, a5, a6, a7, a8, a9, a10, a11, a12, a13, a14, a15, rfl⟩ := list16 hla
  obtain ⟨b0, b1, b2, b3, b4, b5, b6, b7, b8, b9, b10, b11, b12, b13, b14, b15, rfl⟩ := list16 hlb
  obtain ⟨K, n⟩ := P
  rw [ints16] at HN1 HN2
  have hbd := built16 a0 a1 a2 a3 a4 a5 a6 a7 a8 a9 a10 a11 a12 a13 a14 a15 b0 b1 b2 b3 b4 b5 b6 b7 b8 b9 b10 b11 b12 b13 b14 b15
  clear hs ht hvs hvt htb hla hlb
  go_enter Tryd.func59, Tryd.ntmps59
  go_wp2_with fail
  refine HN1.out.mono ?_
  rintro e w1 ⟨rfl, hb1⟩
  have HN3 := hid (HN2.out w1 hb1)
  have Hb1 := hid hb1
  clear hb1
  go_wp2_with fail
  refine HN3.out.mono ?_
  rintro e w2 ⟨rfl, hb2⟩
  have Hb2 := hid (Below.step Hb1.out hb2 Hb1.out.size)
  have hz2 := Hb2.out.size
  clear hb2
  go_wp2_with fail
  obtain ⟨wA, hwA⟩ : ∃ wA : World, wA = w2.alloc (.cells #[.int .i64 a0, .int .i64 a1, .int .i64 a2, .int .i64 a3, .int .i64 a4, .int .i64 a5, .int .i64 a6, .int .i64 a7, .int .i64 a8, .int .i64 a9, .int .i64 a10, .int .i64 a11, .int .i64 a12, .int .i64 a13, .int .i64 a14, .int .i64 a15, .int .i64 b0, .int .i64 b1, .int .i64 b2, .int .i64 b3, .int .i64 b4, .int .i64 b5, .int .i64 b6, .int .i64 b7, .int .i64 b8, .int .i64 b9, .int .i64 b10, .int .i64 b11, .int .i64 b12, .int .i64 b13, .int .i64 b14, .int .i64 b15, .slice none 0 0, .int .i64 0] 113) := ⟨_, rfl⟩
  rw [← hwA]
  have hBA : Blk wA w2.heap.size 113 (walkC [a0, a1, a2, a3, a4, a5, a6, a7, a8, a9, a10, a11, a12, a13, a14, a15] [b0, b1, b2, b3, b4, b5, b6, b7, b8, b9, b10, b11, b12, b13, b14, b15] (.slice none 0 0) 0) := by rw [hwA, walkC16]; exact Blk.new _ _ _
  have HbA := hid (show Below w.heap.size w wA by rw [hwA]; exact Hb2.out.alloc hz2 _)
  clear hwA
  refine (HA.out w2.heap.size _ _ hBA (Ow.nil _ _ _ _ _) (by simp) (by omega)).mono ?_
  rintro e w3 ⟨v, rfl, hB3, hO3, hb3⟩
  have Hb3 := hid (HbA.out.trans (hb3.mono hz2))
  obtain ⟨r, rfl, hrx, hrA, hro, _⟩ := IntsAt.of_ow hO3
  have Hro := hid hro
  have cK : w3.cell? ⟨w2.heap.size, 32, none⟩ = some (.slice r.A r.xs.length r.c) := (hB3.cell 32).trans (walkC_k rfl rfl)
  have cN : w3.cell? ⟨w2.heap.size, 33, none⟩ = some (.int .i64 n) := (hB3.cell 33).trans (by rw [walkC_n rfl rfl, Nat.zero_add])
  have Hrx := hid hrx
  have HrA := hid hrA
  clear hB3 hO3 hb3 hrx hrA hro
  go_wp2_with fail
  go_quiet (fail)
  rename_i nq
  go_wp2_with fail
  go_ret2
  exact ⟨r, rfl, ⟨by rw [Hrx.out]; rfl, Hro.out⟩, HrA.out.drewN nq, Below.manyDrew Hb3.out nq⟩

def diffR (a b : List E) : (List Int × Nat) × Int := if chkC a = 0 then (if chkC b = 0 then (partT a b 1, 0) else (([], 0), chkC b)) else (([], 0), chkC a)
set_option maxHeartbeats 4000000 in
set_option maxRecDepth 100000 in
theorem diff_any (s m : SlV E) (w : World) (hs : EsAt w s) (hm : EsAt w m) (htb : Tb w) :
    Calls Tryd.prog 25 #[.slice s.A s.xs.length s.c, .slice m.A m.xs.length m.c] w (DiffR w (diffR s.xs m.xs).1.1 (diffR s.xs m.xs).1.2 (diffR s.xs m.xs).2) := by
  have HC1 := hid (fun W (hW : Below w.heap.size w W) => ccheck_any s W (hs.stays hW).entries)
  have HC2 := hid (fun W (hW : Below w.heap.size w W) => ccheck_any m W (hm.stays hW).entries)
  have HAp := hid (fun W (hW : Below w.heap.size w W) (h1 : chkC s.xs = 0) (h2 : chkC m.xs = 0) => apart_any s m W (hs.stays hW) (hm.stays hW) h1 h2 (htb.belowS hW))
  have hB0 : Blk (w.alloc (.cells #[.slice s.A s.xs.length s.c, .slice m.A m.xs.length m.c] 22)) w.heap.size 22 #[.slice s.A s.xs.length s.c, .slice m.A m.xs.length m.c] := Blk.new _ _ _
  generalize hR : diffR s.xs m.xs = R
  have HR := hid hR
  clear hR hs hm htb
  go_enter Tryd.func25, Tryd.ntmps25
  go_wp2_with fail
  obtain ⟨w1, hw1⟩ : ∃ w1 : World, w1 = w.alloc (.cells #[.slice s.A s.xs.length s.c, .slice m.A m.xs.length m.c] 22) := ⟨_, rfl⟩
  rw [← hw1] at hB0 ⊢
  have Hb1 := hid (show Below w.heap.size w w1 by rw [hw1]; (repeat (first | with_reducible exact Below.refl _ _ | with_reducible assumption | (with_reducible refine Below.drew ?_) | (with_reducible refine Below.manyDrew ?_ _) | ((with_reducible refine Below.alloc ?_ ?_ _); rotate_left; (focus (first | omega | (dsimp only; omega) | (simp; done) | (simp; omega)))) | ((with_reducible refine Below.setCell ?_ ?_ _); rotate_left; (focus (first | omega | (dsimp only; omega) | (simp; done) | (simp; omega)))) | ((with_reducible refine Below.step ?_ (by assumption) ?_); rotate_left; (focus (first | omega | (dsimp only; omega) | (simp; done) | (simp; omega)))))))
  have HB0 := hid hB0
  have hzb1 := Hb1.out.size
  clear hw1 hB0
  go_loopw [16] (fun i wr => ∃ k : Nat, k ≤ 2 ∧ i = .int .i64 k ∧ (1 ≤ k → chkC s.xs = 0) ∧ (2 ≤ k → chkC m.xs = 0) ∧ Below w1.heap.size w1 wr) (fun i _ => 2 - (intOf i).toNat)
  case atStart => exact ⟨0, by omega, rfl, (fun h => by omega), (fun h => by omega), Below.refl _ _⟩
  case round =>
    obtain ⟨k, hk, rfl, h1, h2, hb⟩ := hrel
    have hBr := HB0.out.belowS hb
    have c0 : wr.cell? ⟨w.heap.size, 0, none⟩ = some (.slice s.A s.xs.length s.c) := hBr.cell 0
    have c1 : wr.cell? ⟨w.heap.size, 1, none⟩ = some (.slice m.A m.xs.length m.c) := hBr.cell 1
    have H1 := hid h1
    have H2 := hid h2
    have Hbr := hid (Below.step Hb1.out hb hzb1)
    have Hb := hid hb
    have hzr := hb.size
    clear hBr h1 h2 hb
    rcases (show k = 0 ∨ k = 1 ∨ k = 2 by omega) with rfl | rfl | rfl
    · by_cases hc : chkC s.xs = 0
      · have HC := hid (HC1.out wr Hbr.out)
        rw [hc, errV_zero] at HC
        have Hc := hid hc
        clear hc
        go_wp2_with fail
        refine HC.out.mono ?_
        rintro e w2 ⟨rfl, hb2⟩
        have Hb2 := hid (Below.step Hb.out hb2 (by omega))
        clear hb2
        go_wp2_with fail
        go_roundw
        case rel => exact ⟨1, by omega, by go_num, fun _ => Hc.out, (fun h => by omega), Hb2.out⟩
        case measure => simp [intOf]
      · have HC := hid (HC1.out wr Hbr.out)
        rw [errV_ne hc] at HC
        have HRe := hid (show R = (([], 0), chkC s.xs) from by rw [← HR.out, diffR, if_neg hc])
        have Hen := hid (errV_ne hc)
        generalize chkC s.xs = en at *
        clear hc
        go_wp2_with fail
        refine HC.out.mono ?_
        rintro e w2 ⟨rfl, hb2⟩
        have Hb2 := hid (Below.step Hbr.out hb2 (by omega))
        clear hb2
        go_wp2_with fail
        refine bodyPost_ret (v := .tuple #[.slice none 0 0, .int .i64 0, .iface 87 (.int .i64 en)]) ?_ rfl ?_
        · simp [results, Tryd.results25, go_sem]
        · rw [HRe.out, ← Hen.out]
          exact ⟨⟨none, 0, []⟩, rfl, ⟨rfl, SlV.ok_nil⟩, IntsAt.bare _ _ _, Hb2.out⟩
    · by_cases hc : chkC m.xs = 0
      · have HC := hid (HC2.out wr Hbr.out)
        rw [hc, errV_zero] at HC
        have Hc := hid hc
        clear hc
        go_wp2_with fail
        refine HC.out.mono ?_
        rintro e w2 ⟨rfl, hb2⟩
        have Hb2 := hid (Below.step Hb.out hb2 (by omega))
        clear hb2
        go_wp2_with fail
        go_roundw
        case rel => exact ⟨2, by omega, by go_num, fun _ => H1.out (by omega), fun _ => Hc.out, Hb2.out⟩
        case measure => simp [intOf]
      · have HC := hid (HC2.out wr Hbr.out)
        rw [errV_ne hc] at HC
        have HRe := hid (show R = (([], 0), chkC m.xs) from by rw [← HR.out, diffR, if_pos (H1.out (by omega)), if_neg hc])
        have Hen := hid (errV_ne hc)
        generalize chkC m.xs = en at *
        clear hc
        go_wp2_with fail
        refine HC.out.mono ?_
        rintro e w2 ⟨rfl, hb2⟩
        have Hb2 := hid (Below.step Hbr.out hb2 (by omega))
        clear hb2
        go_wp2_with fail
        refine bodyPost_ret (v := .tuple #[.slice none 0 0, .int .i64 0, .iface 87 (.int .i64 en)]) ?_ rfl ?_
        · simp [results, Tryd.results25, go_sem]
        · rw [HRe.out, ← Hen.out]
          exact ⟨⟨none, 0, []⟩, rfl, ⟨rfl, SlV.ok_nil⟩, IntsAt.bare _ _ _, Hb2.out⟩
    · have HA := hid (HAp.out wr Hbr.out (H1.out (by omega)) (H2.out (by omega)))
      have HRe := hid (show R = (partT s.xs m.xs 1, 0) from by rw [← HR.out, diffR, if_pos (H1.out (by omega)), if_pos (H2.out (by omega))])
      go_wp2_with fail
      refine HA.out.mono ?_
      rintro e w2 ⟨q, rfl, hqx, hqA, hb2⟩
      have Hqx := hid hqx
      have HqA := hid hqA
      have Hb2 := hid (Below.step Hbr.out hb2 (by omega))
      clear hqx hqA hb2
      go_wp2_with fail
      refine bodyPost_ret (v := .tuple #[.slice q.A q.xs.length q.c, .int .i64 (partT s.xs m.xs 1).2, .nilIface]) ?_ rfl ?_
      · simp [results, Tryd.results25, go_sem]
      · rw [HRe.out]
        exact ⟨q, rfl, Hqx.out, HqA.out, Hb2.out⟩
end Go.Proofs.YthjbebngedajiaaDoor
