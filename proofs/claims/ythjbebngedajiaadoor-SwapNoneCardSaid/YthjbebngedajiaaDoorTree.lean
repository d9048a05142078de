/-
  THE CONTRACTS of package tree: nodes, ask. CONDITIONS: the library's table of the powers of ten reads as it is laid (Tb).
-/
import Derived.Test.YthjbebngedajiaaDoorTPart
import Derived.Test.YthjbebngedajiaaDoorCAll
import Derived.Test.YthjbebngedajiaaDoorHEnt
import Derived.IntWalk
namespace Go.Proofs.YthjbebngedajiaaDoor
open Go.RowKit
open Go.ChangeShapes Go.WideShapes Go.ChangeAt

theorem chk_hash {e : E} (h : chk e = 0) : I64 e.key ∧ I64 e.ver ∧ e.text.size ≤ 12 ∧ 0 ≤ e.key ∧ e.key < 8 := by
  obtain ⟨h1, h2, h3, _, h5, _⟩ := chk_zero.1 h
  have k1 := keyB_true.1 h1
  have k2 := seqB_true.1 h2
  exact ⟨⟨by omega, by omega⟩, ⟨by omega, by omega⟩, by omega, by omega, by omega⟩
theorem asc_take {l : List E} {j : Nat} (h : Asc l) (hj : j < l.length) : ∀ x ∈ l.take j, x.key ≠ (l.getD j E.zero).key := by
  have hd : l = l.take j ++ l.drop j := (List.take_append_drop j l).symm
  rw [drop_consD E.zero hj] at hd
  rw [hd] at h
  intro x hx
  have := (List.pairwise_append.1 h).2.2 x hx _ (List.mem_cons_self)
  omega
theorem list16 : ∀ {l : List Int}, l.length = 16 → ∃ y0 y1 y2 y3 y4 y5 y6 y7 y8 y9 y10 y11 y12 y13 y14 y15, l = [y0, y1, y2, y3, y4, y5, y6, y7, y8, y9, y10, y11, y12, y13, y14, y15]
  | [y0, y1, y2, y3, y4, y5, y6, y7, y8, y9, y10, y11, y12, y13, y14, y15], _ => ⟨y0, y1, y2, y3, y4, y5, y6, y7, y8, y9, y10, y11, y12, y13, y14, y15, rfl⟩
theorem ints_get' (l : List Int) {i : Nat} (h : i < l.length) {x : Int} (hx : l.getD i 0 = x) : (ints l)[i]? = some (.int .i64 x) := by rw [ints_get l i h, hx]

theorem results_boxT {P : Program} {fn : Func} {p : Tmp} {ty t : TypeId} {tmps : Array Value} {w : World} {g : Nat} {cs : Array Value} {d : TypeDesc} (h : fn.results = #[.cell p ty])
    (hp : tmps.getD p undef = .pointer (some ⟨g, 0, none⟩)) (hg : Blk w g t cs) (hu : P.underlying ty = some d) (hd : (match d with | .struct _ | .array _ _ => true | _ => false) = true) (hi : (P.info? ty).map (·.size) = some cs.size) :
    (results fn tmps).run P w = .ok (.agg cs) w := by
  have hp' : tmps[p]?.getD undef = .pointer (some ⟨g, 0, none⟩) := by simpa using hp
  simp [results, h, hp', asAddr, run_loadVar_row w g t ty cs (0, 0) d hg hu hd hi]
theorem Blk.putI {w : World} {g : Nat} {t : TypeId} {l : List Int} (h : Blk w g t (ints l)) (i : Nat) (y : Int) : Blk (w.setCell ⟨g, i, none⟩ (.int .i64 y)) g t (ints (l.set i y)) := by
  have := h.put i (.int .i64 y)
  rw [ints_set] at this
  exact this
theorem sets16 (x0 x1 x2 x3 x4 x5 x6 x7 x8 x9 x10 x11 x12 x13 x14 x15 : Int) : (List.set (List.set (List.set (List.set (List.set (List.set (List.set (List.set (List.set (List.set (List.set (List.set (List.set (List.set (List.set (List.set [0, 0, 0, 0, 0, 0, 0, 0, 0, 0, 0, 0, 0, 0, 0, 0] 0 x0) 1 x1) 2 x2) 3 x3) 4 x4) 5 x5) 6 x6) 7 x7) 8 x8) 9 x9) 10 x10) 11 x11) 12 x12) 13 x13) 14 x14) 15 x15) = [x0, x1, x2, x3, x4, x5, x6, x7, x8, x9, x10, x11, x12, x13, x14, x15] := rfl
theorem Blk.put16 {w : World} {g : Nat} {t : TypeId} (h : Blk w g t (ints [0, 0, 0, 0, 0, 0, 0, 0, 0, 0, 0, 0, 0, 0, 0, 0])) (x0 x1 x2 x3 x4 x5 x6 x7 x8 x9 x10 x11 x12 x13 x14 x15 : Int) :
    Blk ((((((((((((((((w.setCell ⟨g, 0, none⟩ (.int .i64 x0)).setCell ⟨g, 1, none⟩ (.int .i64 x1)).setCell ⟨g, 2, none⟩ (.int .i64 x2)).setCell ⟨g, 3, none⟩ (.int .i64 x3)).setCell ⟨g, 4, none⟩ (.int .i64 x4)).setCell ⟨g, 5, none⟩ (.int .i64 x5)).setCell ⟨g, 6, none⟩ (.int .i64 x6)).setCell ⟨g, 7, none⟩ (.int .i64 x7)).setCell ⟨g, 8, none⟩ (.int .i64 x8)).setCell ⟨g, 9, none⟩ (.int .i64 x9)).setCell ⟨g, 10, none⟩ (.int .i64 x10)).setCell ⟨g, 11, none⟩ (.int .i64 x11)).setCell ⟨g, 12, none⟩ (.int .i64 x12)).setCell ⟨g, 13, none⟩ (.int .i64 x13)).setCell ⟨g, 14, none⟩ (.int .i64 x14)).setCell ⟨g, 15, none⟩ (.int .i64 x15)) g t (ints [x0, x1, x2, x3, x4, x5, x6, x7, x8, x9, x10, x11, x12, x13, x14, x15]) := by
  rw [← sets16 x0 x1 x2 x3 x4 x5 x6 x7 x8 x9 x10 x11 x12 x13 x14 x15]
  exact ((((((((((((((((h.putI 0 x0).putI 1 x1).putI 2 x2).putI 3 x3).putI 4 x4).putI 5 x5).putI 6 x6).putI 7 x7).putI 8 x8).putI 9 x9).putI 10 x10).putI 11 x11).putI 12 x12).putI 13 x13).putI 14 x14).putI 15 x15)

set_option maxHeartbeats 4000000 in
set_option maxRecDepth 100000 in
theorem nodes_any (s : SlV E) (w : World) (hs : EsAt w s) (hv : chkC s.xs = 0) (ht : Tb w) :
    Calls Tryd.prog 66 #[.slice s.A s.xs.length s.c] w fun e w' => e = .returned (.agg (ints (rowT s.xs 0))) ∧ Below w.heap.size w w' := by
  obtain ⟨_, _, hl8⟩ := val_facts hv
  obtain ⟨hasc, hchk⟩ := val_iff.1 hv
  have Ha := hid hasc
  have Hch := hid hchk
  have Ht := hid ht
  obtain ⟨y0, y1, y2, y3, y4, y5, y6, y7, y8, y9, y10, y11, y12, y13, y14, y15, hl⟩ := list16 (rowT_len s.xs 0)
  rw [hl]
  have Hl := hid hl
  clear hl
  have hB0 : Blk (w.alloc (.cells (ints (rowT [] 7)) 102)) w.heap.size 102 (ints (rowT [] 7)) := Blk.new _ _ _
  rw [rowT_nil] at hB0
  have HB0 := hid hB0
  clear hasc hchk hv ht hB0
  go_enter Tryd.func66, Tryd.ntmps66
  go_wp2_with fail
  obtain ⟨wO, hwO⟩ : ∃ wO : World, wO = (w.alloc (.cells #[.int .i64 0, .int .i64 0, .int .i64 0, .int .i64 0, .int .i64 0, .int .i64 0, .int .i64 0, .int .i64 0, .int .i64 0, .int .i64 0, .int .i64 0, .int .i64 0, .int .i64 0, .int .i64 0, .int .i64 0, .int .i64 0] 102)).alloc (.cells #[.int .i64 0, .int .i64 0, .int .i64 0, .int .i64 0, .int .i64 0, .int .i64 0, .int .i64 0, .int .i64 0, .int .i64 0, .int .i64 0, .int .i64 0, .int .i64 0, .int .i64 0, .int .i64 0, .int .i64 0, .int .i64 0] 102) := ⟨_, rfl⟩
  rw [← hwO]
  have hbO : Below w.heap.size w wO := by rw [hwO]; (repeat (first | with_reducible exact Below.refl _ _ | with_reducible assumption | (with_reducible refine Below.drew ?_) | (with_reducible refine Below.manyDrew ?_ _) | ((with_reducible refine Below.alloc ?_ ?_ _); rotate_left; (focus (first | omega | (dsimp only; omega) | (simp; done) | (simp; omega)))) | ((with_reducible refine Below.setCell ?_ ?_ _); rotate_left; (focus (first | omega | (dsimp only; omega) | (simp; done) | (simp; omega)))) | ((with_reducible refine Below.step ?_ (by assumption) ?_); rotate_left; (focus (first | omega | (dsimp only; omega) | (simp; done) | (simp; omega))))))
  have hBR : Blk wO w.heap.size 102 #[.int .i64 0, .int .i64 0, .int .i64 0, .int .i64 0, .int .i64 0, .int .i64 0, .int .i64 0, .int .i64 0, .int .i64 0, .int .i64 0, .int .i64 0, .int .i64 0, .int .i64 0, .int .i64 0, .int .i64 0, .int .i64 0] := by rw [hwO]; exact (Blk.new _ _ _).alloc _
  have hBO : Blk wO (w.heap.size + 1) 102 (ints (rowT [] 7)) := by rw [hwO, rowT_nil]; exact Blk.new_at (by simp)
  have hzO : w.heap.size + 2 ≤ wO.heap.size := by rw [hwO]; simp
  clear hwO HB0
  go_loopw [9] (fun i wr => ∃ j : Nat, j ≤ s.xs.length ∧ i = .int .i64 j ∧ Blk wr (w.heap.size + 1) 102 (ints (rowT (s.xs.take j) 7)) ∧ Blk wr w.heap.size 102 #[.int .i64 0, .int .i64 0, .int .i64 0, .int .i64 0, .int .i64 0, .int .i64 0, .int .i64 0, .int .i64 0, .int .i64 0, .int .i64 0, .int .i64 0, .int .i64 0, .int .i64 0, .int .i64 0, .int .i64 0, .int .i64 0] ∧ Below w.heap.size w wr) (fun i _ => s.xs.length - (intOf i).toNat)
  case atStart => exact ⟨0, Nat.zero_le _, rfl, hBO, hBR, hbO⟩
  case round =>
    obtain ⟨j, hj, rfl, hO, hR, hbr⟩ := hrel
    have hz0 := hbr.size
    have hzo := hO.lt
    clear hBO hBR hbO
    by_cases hlt : j < s.xs.length
    · obtain ⟨g, off, hA, hg, hcells⟩ := hs.row (by omega)
      obtain ⟨k0, k1, k2, k3, k4⟩ := (hcells j hlt).stays hbr hg
      have hx := Hch.out _ (getD_memD E.zero hlt)
      obtain ⟨hI0, hI1, h12, hk0, hk8⟩ := chk_hash hx
      have hsn := asc_take Ha.out hlt
      have htk := take_snocD E.zero hlt
      generalize s.xs.getD j E.zero = x at *
      obtain ⟨xk, xv, xa, xg, xt⟩ := x
      simp only at k0 k1 k2 k3 k4 hI0 hI1 h12 hk0 hk8
      obtain ⟨n, rfl⟩ := Int.eq_ofNat_of_zero_le hk0
      have hrs := rowT_snoc hsn (k := n) rfl (by omega)
      rw [← htk] at hrs
      simp only at hrs
      have HOne := hid (fun W hW => one_any n xv xa xg xt hI0 hI1 h12 W hW)
      have Hrs := hid hrs
      have hrl := rowT_len (s.xs.take j) 7
      clear htk hsn hx hcells hI0 hI1 hrs
      generalize hashL (oneT n xv xg xt) = h at *
      generalize rowT (s.xs.take j) 7 = L at *
      obtain ⟨wE, hwE⟩ : ∃ wE : World, wE = wr.alloc (.cells #[.int .i64 n, .int .i64 xv, .int .i64 xa, .bool xg, .string xt] 26) := ⟨_, rfl⟩
      have hXE : Blk wE wr.heap.size 26 #[.int .i64 n, .int .i64 xv, .int .i64 xa, .bool xg, .string xt] := by rw [hwE]; exact Blk.new _ _ _
      have hOE : Blk wE (w.heap.size + 1) 102 (ints L) := by rw [hwE]; exact hO.alloc _
      have HRE := hid (show Blk wE w.heap.size 102 _ by rw [hwE]; exact hR.alloc _)
      have hbE : Below w.heap.size w wE := by rw [hwE]; (repeat (first | with_reducible exact Below.refl _ _ | with_reducible assumption | (with_reducible refine Below.drew ?_) | (with_reducible refine Below.manyDrew ?_ _) | ((with_reducible refine Below.alloc ?_ ?_ _); rotate_left; (focus (first | omega | (dsimp only; omega) | (simp; done) | (simp; omega)))) | ((with_reducible refine Below.setCell ?_ ?_ _); rotate_left; (focus (first | omega | (dsimp only; omega) | (simp; done) | (simp; omega)))) | ((with_reducible refine Below.step ?_ (by assumption) ?_); rotate_left; (focus (first | omega | (dsimp only; omega) | (simp; done) | (simp; omega))))))
      have HbE := hid hbE
      have HtE := hid (Ht.out.belowS hbE)
      have hzE := hXE.lt
      have hzE2 := hbE.size
      have HXE := hid hXE
      have HOE := hid hOE
      have HwE := hid hwE
      rw [hA]
      clear hA hwE hXE hbE hO hR hbr hOE
      go_wp2_with fail
      rw [← HwE.out]
      have c0 : wE.cell? ⟨wr.heap.size, 0, none⟩ = some (.int .i64 n) := HXE.out.cell 0
      have c1 : wE.cell? ⟨wr.heap.size, 1, none⟩ = some (.int .i64 xv) := HXE.out.cell 1
      have c2 : wE.cell? ⟨wr.heap.size, 2, none⟩ = some (.int .i64 xa) := HXE.out.cell 2
      have c3 : wE.cell? ⟨wr.heap.size, 3, none⟩ = some (.bool xg) := HXE.out.cell 3
      have c4 : wE.cell? ⟨wr.heap.size, 4, none⟩ = some (.string xt) := HXE.out.cell 4
      have q1 : IntKind.i64.wrap (8 + (n : Int)) = 8 + (n : Int) := IntWalk.i64_in _ (by omega)
      have q2 : (0 : Int) ≤ 8 + (n : Int) := by omega
      have q3 : (8 + (n : Int)).toNat = 8 + n := by omega
      have q4 : 8 + n < 16 := by omega
      go_region_with (first
        | (go_at_call 68; refine (HOne.out _ (HtE.out.belowS (by (repeat (first | with_reducible exact Below.refl _ _ | with_reducible assumption | (with_reducible refine Below.drew ?_) | (with_reducible refine Below.manyDrew ?_ _) | ((with_reducible refine Below.alloc ?_ ?_ _); rotate_left; (focus (first | omega | (dsimp only; omega) | (simp; done) | (simp; omega)))) | ((with_reducible refine Below.setCell ?_ ?_ _); rotate_left; (focus (first | omega | (dsimp only; omega) | (simp; done) | (simp; omega)))) | ((with_reducible refine Below.step ?_ (by assumption) ?_); rotate_left; (focus (first | omega | (dsimp only; omega) | (simp; done) | (simp; omega))))))))).mono ?_; rintro e wx ⟨rfl, hbx⟩; have hbx2 : Below wE.heap.size wE wx := (Below.step (by (repeat (first | with_reducible exact Below.refl _ _ | with_reducible assumption | (with_reducible refine Below.drew ?_) | (with_reducible refine Below.manyDrew ?_ _) | ((with_reducible refine Below.alloc ?_ ?_ _); rotate_left; (focus (first | omega | (dsimp only; omega) | (simp; done) | (simp; omega)))) | ((with_reducible refine Below.setCell ?_ ?_ _); rotate_left; (focus (first | omega | (dsimp only; omega) | (simp; done) | (simp; omega)))) | ((with_reducible refine Below.step ?_ (by assumption) ?_); rotate_left; (focus (first | omega | (dsimp only; omega) | (simp; done) | (simp; omega))))))) hbx (by simp)); have hzx := hbx2.size; have c0x : wx.cell? ⟨wr.heap.size, 0, none⟩ = some (.int .i64 n) := (hbx2.cell (p := ⟨wr.heap.size, 0, none⟩) hzE).trans c0; have hOx := HOE.out.belowS hbx2; have cox : wx.cell? ⟨w.heap.size + 1, 8 + n, none⟩ = some (.int .i64 (L.getD (8 + n) 0)) := (hOx.cell (8 + n)).trans (ints_get L (8 + n) (by omega)); have fox := hOx.frozen (8 + n); have HOx := hid hOx; clear hOx))
      all_goals
        have Hbx := hid hbx2
        clear hbx hbx2
        go_wp2_with fail
        go_roundw
        case rel =>
          refine ⟨j + 1, by omega, by go_num, ?_, (HRE.out.belowS Hbx.out).far (by simp) _, (Below.step HbE.out Hbx.out hzE2).setCell (by simp) _⟩
          have := HOx.out.put (8 + n) (.int .i64 h)
          rw [ints_set, Hrs.out] at this
          exact this
        case measure => simp [intOf]; omega
    · obtain rfl : j = s.xs.length := by omega
      rw [List.take_length] at hO
      have HP := hid (fun n : Nat => fun W hW => pair_any (nodeN s.xs (2 * n)) (nodeN s.xs (2 * n + 1)) ⟨by omega, by have := nodeN_lt s.xs (2 * n); omega⟩ ⟨by omega, by have := nodeN_lt s.xs (2 * n + 1); omega⟩ W hW)
      have HS := hid (fun i h1 h8 => rowT_set s.xs (i := i) h1 h8)
      have HN := hid (fun i h1 h8 => nodeN_node (l := s.xs) (i := i) h1 h8)
      have HG := hid (fun n m h => rowT_get s.xs n (m := m) h)
      have HL := hid (rowT_len s.xs)
      go_wp2_with fail
      go_loopw [6] (fun i wr => ∃ n : Nat, n ≤ 7 ∧ i = .int .i64 n ∧ Blk wr (w.heap.size + 1) 102 (ints (rowT s.xs n)) ∧ Blk wr w.heap.size 102 #[.int .i64 0, .int .i64 0, .int .i64 0, .int .i64 0, .int .i64 0, .int .i64 0, .int .i64 0, .int .i64 0, .int .i64 0, .int .i64 0, .int .i64 0, .int .i64 0, .int .i64 0, .int .i64 0, .int .i64 0, .int .i64 0] ∧ Below w.heap.size w wr) (fun i _ => (intOf i).toNat)
      case atStart => exact ⟨7, by omega, rfl, hO, hR, hbr⟩
      case round =>
        clear hO hR hbr hz0 hzo
        obtain ⟨n, hn, rfl, hO, hR, hbr⟩ := hrel
        have hz0 := hbr.size
        have hzo := hO.lt
        by_cases h0 : n = 0
        · subst h0
          rw [Hl.out] at hO
          have HO := hid (show Blk _ _ _ #[.int .i64 y0, .int .i64 y1, .int .i64 y2, .int .i64 y3, .int .i64 y4, .int .i64 y5, .int .i64 y6, .int .i64 y7, .int .i64 y8, .int .i64 y9, .int .i64 y10, .int .i64 y11, .int .i64 y12, .int .i64 y13, .int .i64 y14, .int .i64 y15] from hO)
          have HR := hid hR
          have Hb := hid hbr
          have c0 := HO.out.cell 0
          have d0 := HR.out.cell 0
          have f0 := HR.out.frozen 0
          have c1 := HO.out.cell 1
          have d1 := HR.out.cell 1
          have f1 := HR.out.frozen 1
          have c2 := HO.out.cell 2
          have d2 := HR.out.cell 2
          have f2 := HR.out.frozen 2
          have c3 := HO.out.cell 3
          have d3 := HR.out.cell 3
          have f3 := HR.out.frozen 3
          have c4 := HO.out.cell 4
          have d4 := HR.out.cell 4
          have f4 := HR.out.frozen 4
          have c5 := HO.out.cell 5
          have d5 := HR.out.cell 5
          have f5 := HR.out.frozen 5
          have c6 := HO.out.cell 6
          have d6 := HR.out.cell 6
          have f6 := HR.out.frozen 6
          have c7 := HO.out.cell 7
          have d7 := HR.out.cell 7
          have f7 := HR.out.frozen 7
          have c8 := HO.out.cell 8
          have d8 := HR.out.cell 8
          have f8 := HR.out.frozen 8
          have c9 := HO.out.cell 9
          have d9 := HR.out.cell 9
          have f9 := HR.out.frozen 9
          have c10 := HO.out.cell 10
          have d10 := HR.out.cell 10
          have f10 := HR.out.frozen 10
          have c11 := HO.out.cell 11
          have d11 := HR.out.cell 11
          have f11 := HR.out.frozen 11
          have c12 := HO.out.cell 12
          have d12 := HR.out.cell 12
          have f12 := HR.out.frozen 12
          have c13 := HO.out.cell 13
          have d13 := HR.out.cell 13
          have f13 := HR.out.frozen 13
          have c14 := HO.out.cell 14
          have d14 := HR.out.cell 14
          have f14 := HR.out.frozen 14
          have c15 := HO.out.cell 15
          have d15 := HR.out.cell 15
          have f15 := HR.out.frozen 15
          clear hO hR hbr
          go_wp2_with fail
          refine bodyPost_ret (v := .agg (ints [y0, y1, y2, y3, y4, y5, y6, y7, y8, y9, y10, y11, y12, y13, y14, y15])) ?_ rfl ⟨rfl, ?_⟩
          · exact results_boxT Tryd.results66 rfl (Blk.put16 HR.out _ _ _ _ _ _ _ _ _ _ _ _ _ _ _ _) Tryd.underlying102 rfl (by kernel_rfl)
          · have hb := Hb.out
            (repeat (first | with_reducible exact Below.refl _ _ | with_reducible assumption | (with_reducible refine Below.drew ?_) | (with_reducible refine Below.manyDrew ?_ _) | ((with_reducible refine Below.alloc ?_ ?_ _); rotate_left; (focus (first | omega | (dsimp only; omega) | (simp; done) | (simp; omega)))) | ((with_reducible refine Below.setCell ?_ ?_ _); rotate_left; (focus (first | omega | (dsimp only; omega) | (simp; done) | (simp; omega)))) | ((with_reducible refine Below.step ?_ (by assumption) ?_); rotate_left; (focus (first | omega | (dsimp only; omega) | (simp; done) | (simp; omega))))))
        · have hr := HS.out n (by omega) (by omega)
          have hnn := HN.out n (by omega) (by omega)
          have e1 := HG.out n (2 * n) (by omega)
          have e2 := HG.out n (2 * n + 1) (by omega)
          rw [if_pos (by omega)] at e1 e2
          have c1 : wr.cell? ⟨w.heap.size + 1, 2 * n, none⟩ = some (.int .i64 (nodeN s.xs (2 * n) : Nat)) := (hO.cell (2 * n)).trans (ints_get' _ (by rw [HL.out]; omega) e1)
          have c2 : wr.cell? ⟨w.heap.size + 1, 2 * n + 1, none⟩ = some (.int .i64 (nodeN s.xs (2 * n + 1) : Nat)) := (hO.cell (2 * n + 1)).trans (ints_get' _ (by rw [HL.out]; omega) e2)
          have HPn := hid (fun W hW => HP.out n W hW)
          rw [hnn] at hr
          have Hr := hid hr
          have Htr := hid (Ht.out.belowS hbr)
          have hll := HL.out n
          clear hr hnn e1 e2
          generalize nodeN s.xs (2 * n) = N1 at *
          generalize nodeN s.xs (2 * n + 1) = N2 at *
          generalize hashL (pairT N1 N2) = h at *
          generalize rowT s.xs n = L at *
          have HO := hid hO
          have HR := hid hR
          have Hb := hid hbr
          clear hO hR hbr
          have q1 : IntKind.i64.wrap (2 * (n : Int)) = 2 * (n : Int) := IntWalk.i64_in _ (by omega)
          have q2 : (0 : Int) ≤ 2 * (n : Int) := by omega
          have q3 : (2 * (n : Int)).toNat = 2 * n := by omega
          have q4 : IntKind.i64.wrap (2 * (n : Int) + 1) = 2 * (n : Int) + 1 := IntWalk.i64_in _ (by omega)
          have q5 : (0 : Int) ≤ 2 * (n : Int) + 1 := by omega
          have q6 : (2 * (n : Int) + 1).toNat = 2 * n + 1 := by omega
          have q7 : (n : Int) < 16 := by omega
          have q8 : 2 * (n : Int) < 16 := by omega
          have q9 : 2 * (n : Int) + 1 < 16 := by omega
          go_wp2_with fail
          go_region_with (first
            | (go_at_call 69; refine (HPn.out _ (Htr.out.belowS (by (repeat (first | with_reducible exact Below.refl _ _ | with_reducible assumption | (with_reducible refine Below.drew ?_) | (with_reducible refine Below.manyDrew ?_ _) | ((with_reducible refine Below.alloc ?_ ?_ _); rotate_left; (focus (first | omega | (dsimp only; omega) | (simp; done) | (simp; omega)))) | ((with_reducible refine Below.setCell ?_ ?_ _); rotate_left; (focus (first | omega | (dsimp only; omega) | (simp; done) | (simp; omega)))) | ((with_reducible refine Below.step ?_ (by assumption) ?_); rotate_left; (focus (first | omega | (dsimp only; omega) | (simp; done) | (simp; omega))))))))).mono ?_; rintro e wx ⟨rfl, hbx⟩; have hbx2 : Below wr.heap.size wr wx := (Below.step (by (repeat (first | with_reducible exact Below.refl _ _ | with_reducible assumption | (with_reducible refine Below.drew ?_) | (with_reducible refine Below.manyDrew ?_ _) | ((with_reducible refine Below.alloc ?_ ?_ _); rotate_left; (focus (first | omega | (dsimp only; omega) | (simp; done) | (simp; omega)))) | ((with_reducible refine Below.setCell ?_ ?_ _); rotate_left; (focus (first | omega | (dsimp only; omega) | (simp; done) | (simp; omega)))) | ((with_reducible refine Below.step ?_ (by assumption) ?_); rotate_left; (focus (first | omega | (dsimp only; omega) | (simp; done) | (simp; omega))))))) hbx (by simp)); have hzx := hbx2.size; have hOx := HO.out.belowS hbx2; have cox : wx.cell? ⟨w.heap.size + 1, n, none⟩ = some (.int .i64 (L.getD n 0)) := (hOx.cell n).trans (ints_get L n (by omega)); have fox := hOx.frozen n; have HOx := hid hOx; clear hOx))
          all_goals
            have Hbx := hid hbx2
            clear hbx hbx2
            go_wp2_with fail
            go_roundw
            case rel =>
              refine ⟨n - 1, by omega, ?_, ?_, (HR.out.belowS Hbx.out).far (by simp) _, (Below.step Hb.out Hbx.out hz0).setCell (by simp) _⟩
              · rw [show ((n - 1 : Nat) : Int) = (n : Int) - 1 by omega]
              · have := HOx.out.put n (.int .i64 h)
                rw [ints_set, Hr.out] at this
                exact this
            case measure => simp [intOf]; omega
end Go.Proofs.YthjbebngedajiaaDoor
