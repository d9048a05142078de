/-
  THE CONTRACTS of package tree: nodes, ask. CONDITIONS: the library's table of the powers of ten reads as it is laid (Tb).
  THE CONTRACT of tree's walker: ask. CONDITIONS: none.
  THE CONTRACTS of tree.Node. CONDITIONS: the library's table of the powers of ten reads as it is laid (Tb).
  THE CONTRACTS of tree.Apart, tree.Diff. CONDITIONS: the library's table of the powers of ten reads as it is laid (Tb).
-/
import Derived.Test.YtemhdfodghfkfaaGreatDoorTPick
import Derived.Test.YtemhdfodghfkfaaGreatDoorCAll
import Derived.Test.YtemhdfodghfkfaaGreatDoorHEnt
import Derived.IntWalk
import Derived.Test.YtemhdfodghfkfaaGreatDoorIKit
import Derived.Deep.RegionWith
import Derived.BigQuiet
import Derived.Deep.QuietTactic
import Derived.Laws.Tables
namespace Go.Proofs.YtemhdfodghfkfaaGreatDoor
open Go.RowKit
open Go.ChangeShapes Go.WideShapes Go.ChangeAt

theorem chk_hash {e : E} (h : chk e = 0) : I64 e.key ∧ I64 e.ver ∧ e.text.size ≤ 12 ∧ 0 ≤ e.key ∧ e.key < 8 := by
  obtain ⟨h1, h2, h3, _, h5, _⟩ := chk_zero.1 h
  have k1 := keyB_true.1 h1
  have k2 := seqB_true.1 h2
  exact ⟨⟨by omega, by omega⟩, ⟨by omega, by omega⟩, by omega, by omega, by omega⟩
theorem asc_take {l : List E} {j : Nat} (h : Asc l) (hj : j < l.length) : ∀ x ∈ l.take j, x.key ≠ (l.getD j E.zero).key := by
  have hd : l = l.take j ++ l.drop j := (List.take_append_drop j l).symm
  rw [drop_consD E.zero hj] at hd
  rw [hd] at h
  intro x hx
  have := (List.pairwise_append.1 h).2.2 x hx _ (List.mem_cons_self)
  omega
theorem list16 : ∀ {l : List Int}, l.length = 16 → ∃ y0 y1 y2 y3 y4 y5 y6 y7 y8 y9 y10 y11 y12 y13 y14 y15, l = [y0, y1, y2, y3, y4, y5, y6, y7, y8, y9, y10, y11, y12, y13, y14, y15]
  | [y0, y1, y2, y3, y4, y5, y6, y7, y8, y9, y10, y11, y12, y13, y14, y15], _ => ⟨y0, y1, y2, y3, y4, y5, y6, y7, y8, y9, y10, y11, y12, y13, y14, y15, rfl⟩
theorem ints_get' (l : List Int) {i : Nat} (h : i < l.length) {x : Int} (hx : l.getD i 0 = x) : (ints l)[i]? = some (.int .i64 x) := by rw [ints_get l i h, hx]

theorem results_boxT3 {P : Program} {fn : Func} {p : Tmp} {ty t : TypeId} {tmps : Array Value} {w : World} {g : Nat} {cs : Array Value} {d : TypeDesc} (h : fn.results = #[.cell p ty])
    (hp : tmps.getD p undef = .pointer (some ⟨g, 0, none⟩)) (hg : Blk w g t cs) (hu : P.underlying ty = some d) (hd : (match d with | .struct _ | .array _ _ => true | _ => false) = true) (hi : (P.info? ty).map (·.size) = some cs.size) :
    (results fn tmps).run P w = .ok (.agg cs) w := by
  have hp' : tmps[p]?.getD undef = .pointer (some ⟨g, 0, none⟩) := by simpa using hp
  simp [results, h, hp', asAddr, run_loadVar_row w g t ty cs (0, 0) d hg hu hd hi]
theorem Blk.putI {w : World} {g : Nat} {t : TypeId} {l : List Int} (h : Blk w g t (ints l)) (i : Nat) (y : Int) : Blk (w.setCell ⟨g, i, none⟩ (.int .i64 y)) g t (ints (l.set i y)) := by
  have := h.put i (.int .i64 y)
  rw [ints_set] at this
  exact this
theorem sets16 (x0 x1 x2 x3 x4 x5 x6 x7 x8 x9 x10 x11 x12 x13 x14 x15 : Int) : (List.set (List.set (List.set (List.set (List.set (List.set (List.set (List.set (List.set (List.set (List.set (List.set (List.set (List.set (List.set (List.set [0, 0, 0, 0, 0, 0, 0, 0, 0, 0, 0, 0, 0, 0, 0, 0] 0 x0) 1 x1) 2 x2) 3 x3) 4 x4) 5 x5) 6 x6) 7 x7) 8 x8) 9 x9) 10 x10) 11 x11) 12 x12) 13 x13) 14 x14) 15 x15) = [x0, x1, x2, x3, x4, x5, x6, x7, x8, x9, x10, x11, x12, x13, x14, x15] := rfl
theorem Blk.put16 {w : World} {g : Nat} {t : TypeId} (h : Blk w g t (ints [0, 0, 0, 0, 0, 0, 0, 0, 0, 0, 0, 0, 0, 0, 0, 0])) (x0 x1 x2 x3 x4 x5 x6 x7 x8 x9 x10 x11 x12 x13 x14 x15 : Int) :
    Blk ((((((((((((((((w.setCell ⟨g, 0, none⟩ (.int .i64 x0)).setCell ⟨g, 1, none⟩ (.int .i64 x1)).setCell ⟨g, 2, none⟩ (.int .i64 x2)).setCell ⟨g, 3, none⟩ (.int .i64 x3)).setCell ⟨g, 4, none⟩ (.int .i64 x4)).setCell ⟨g, 5, none⟩ (.int .i64 x5)).setCell ⟨g, 6, none⟩ (.int .i64 x6)).setCell ⟨g, 7, none⟩ (.int .i64 x7)).setCell ⟨g, 8, none⟩ (.int .i64 x8)).setCell ⟨g, 9, none⟩ (.int .i64 x9)).setCell ⟨g, 10, none⟩ (.int .i64 x10)).setCell ⟨g, 11, none⟩ (.int .i64 x11)).setCell ⟨g, 12, none⟩ (.int .i64 x12)).setCell ⟨g, 13, none⟩ (.int .i64 x13)).setCell ⟨g, 14, none⟩ (.int .i64 x14)).setCell ⟨g, 15, none⟩ (.int .i64 x15)) g t (ints [x0, x1, x2, x3, x4, x5, x6, x7, x8, x9, x10, x11, x12, x13, x14, x15]) := by
  rw [← sets16 x0 x1 x2 x3 x4 x5 x6 x7 x8 x9 x10 x11 x12 x13 x14 x15]
  exact ((((((((((((((((h.putI 0 x0).putI 1 x1).putI 2 x2).putI 3 x3).putI 4 x4).putI 5 x5).putI 6 x6).putI 7 x7).putI 8 x8).putI 9 x9).putI 10 x10).putI 11 x11).putI 12 x12).putI 13 x13).putI 14 x14).putI 15 x15)

set_option maxHeartbeats 4000000 in
set_option maxRecDepth 100000 in
theorem nodes_any (s : SlV E) (w : World) (hs : EsAt w s) (hv : chkC s.xs = 0) (ht : Tb w) :
    Calls Tryz.prog 186 #[.slice s.A s.xs.length s.c] w fun e w' => e = .returned (.agg (ints (rowT s.xs 0))) ∧ Below w.heap.size w w' := by
  obtain ⟨_, _, hl8⟩ := val_facts hv
  obtain ⟨hasc, hchk⟩ := val_iff.1 hv
  have Ha := hid hasc
  have Hch := hid hchk
  have Ht := hid ht
  obtain ⟨y0, y1, y2, y3, y4, y5, y6, y7, y8, y9, y10, y11, y12, y13, y14, y15, hl⟩ := list16 (rowT_len s.xs 0)
  rw [hl]
  have Hl := hid hl
  clear hl
  have hB0 : Blk (w.alloc (.cells (ints (rowT [] 7)) 266)) w.heap.size 266 (ints (rowT [] 7)) := Blk.new _ _ _
  rw [rowT_nil] at hB0
  have HB0 := hid hB0
  clear hasc hchk hv ht hB0
  go_enter Tryz.func186, Tryz.ntmps186
  go_wp2_with fail
  obtain ⟨wO, hwO⟩ : ∃ wO : World, wO = (w.alloc (.cells #[.int .i64 0, .int .i64 0, .int .i64 0, .int .i64 0, .int .i64 0, .int .i64 0, .int .i64 0, .int .i64 0, .int .i64 0, .int .i64 0, .int .i64 0, .int .i64 0, .int .i64 0, .int .i64 0, .int .i64 0, .int .i64 0] 266)).alloc (.cells #[.int .i64 0, .int .i64 0, .int .i64 0, .int .i64 0, .int .i64 0, .int .i64 0, .int .i64 0, .int .i64 0, .int .i64 0, .int .i64 0, .int .i64 0, .int .i64 0, .int .i64 0, .int .i64 0, .int .i64 0, .int .i64 0] 266) := ⟨_, rfl⟩
  rw [← hwO]
  have hbO : Below w.heap.size w wO := by rw [hwO]; (repeat (first | with_reducible exact Below.refl _ _ | with_reducible assumption | (with_reducible refine Below.drew ?_) | (with_reducible refine Below.manyDrew ?_ _) | ((with_reducible refine Below.alloc ?_ ?_ _); rotate_left; (focus (first | omega | (dsimp only; omega) | (simp; done) | (simp; omega)))) | ((with_reducible refine Below.setCell ?_ ?_ _); rotate_left; (focus (first | omega | (dsimp only; omega) | (simp; done) | (simp; omega)))) | ((with_reducible refine Below.step ?_ (by assumption) ?_); rotate_left; (focus (first | omega | (dsimp only; omega) | (simp; done) | (simp; omega))))))
  have hBR : Blk wO w.heap.size 266 #[.int .i64 0, .int .i64 0, .int .i64 0, .int .i64 0, .int .i64 0, .int .i64 0, .int .i64 0, .int .i64 0, .int .i64 0, .int .i64 0, .int .i64 0, .int .i64 0, .int .i64 0, .int .i64 0, .int .i64 0, .int .i64 0] := by rw [hwO]; exact (Blk.new _ _ _).alloc _
  have hBO : Blk wO (w.heap.size + 1) 266 (ints (rowT [] 7)) := by rw [hwO, rowT_nil]; exact Blk.new_at (by simp)
  have hzO : w.heap.size + 2 ≤ wO.heap.size := by rw [hwO]; simp
  clear hwO HB0
  go_loopw [9] (fun i wr => ∃ j : Nat, j ≤ s.xs.length ∧ i = .int .i64 j ∧ Blk wr (w.heap.size + 1) 266 (ints (rowT (s.xs.take j) 7)) ∧ Blk wr w.heap.size 266 #[.int .i64 0, .int .i64 0, .int .i64 0, .int .i64 0, .int .i64 0, .int .i64 0, .int .i64 0, .int .i64 0, .int .i64 0, .int .i64 0, .int .i64 0, .int .i64 0, .int .i64 0, .int .i64 0, .int .i64 0, .int .i64 0] ∧ Below w.heap.size w wr) (fun i _ => s.xs.length - (intOf i).toNat)
  case atStart => exact ⟨0, Nat.zero_le _, rfl, hBO, hBR, hbO⟩
  case round =>
    obtain ⟨j, hj, rfl, hO, hR, hbr⟩ := hrel
    have hz0 := hbr.size
    have hzo := hO.lt
    clear hBO hBR hbO
    by_cases hlt : j < s.xs.length
    · obtain ⟨g, off, hA, hg, hcells⟩ := hs.row (by omega)
      obtain ⟨k0, k1, k2, k3, k4⟩ := (hcells j hlt).stays hbr hg
      have hx := Hch.out _ (getD_memD E.zero hlt)
      obtain ⟨hI0, hI1, h12, hk0, hk8⟩ := chk_hash hx
      have hsn := asc_take Ha.out hlt
      have htk := take_snocD E.zero hlt
      generalize s.xs.getD j E.zero = x at *
      obtain ⟨xk, xv, xa, xg, xt⟩ := x
      simp only at k0 k1 k2 k3 k4 hI0 hI1 h12 hk0 hk8
      obtain ⟨n, rfl⟩ := Int.eq_ofNat_of_zero_le hk0
      have hrs := rowT_snoc hsn (k := n) rfl (by omega)
      rw [← htk] at hrs
      simp only at hrs
      have HOne := hid (fun W hW => one_any n xv xa xg xt hI0 hI1 h12 W hW)
      have Hrs := hid hrs
      have hrl := rowT_len (s.xs.take j) 7
      clear htk hsn hx hcells hI0 hI1 hrs
      generalize hashL (oneT n xv xg xt) = h at *
      generalize rowT (s.xs.take j) 7 = L at *
      obtain ⟨wE, hwE⟩ : ∃ wE : World, wE = wr.alloc (.cells #[.int .i64 n, .int .i64 xv, .int .i64 xa, .bool xg, .string xt] 59) := ⟨_, rfl⟩
      have hXE : Blk wE wr.heap.size 59 #[.int .i64 n, .int .i64 xv, .int .i64 xa, .bool xg, .string xt] := by rw [hwE]; exact Blk.new _ _ _
      have hOE : Blk wE (w.heap.size + 1) 266 (ints L) := by rw [hwE]; exact hO.alloc _
      have HRE := hid (show Blk wE w.heap.size 266 _ by rw [hwE]; exact hR.alloc _)
      have hbE : Below w.heap.size w wE := by rw [hwE]; (repeat (first | with_reducible exact Below.refl _ _ | with_reducible assumption | (with_reducible refine Below.drew ?_) | (with_reducible refine Below.manyDrew ?_ _) | ((with_reducible refine Below.alloc ?_ ?_ _); rotate_left; (focus (first | omega | (dsimp only; omega) | (simp; done) | (simp; omega)))) | ((with_reducible refine Below.setCell ?_ ?_ _); rotate_left; (focus (first | omega | (dsimp only; omega) | (simp; done) | (simp; omega)))) | ((with_reducible refine Below.step ?_ (by assumption) ?_); rotate_left; (focus (first | omega | (dsimp only; omega) | (simp; done) | (simp; omega))))))
      have HbE := hid hbE
      have HtE := hid (Ht.out.belowS hbE)
      have hzE := hXE.lt
      have hzE2 := hbE.size
      have HXE := hid hXE
      have HOE := hid hOE
      have HwE := hid hwE
      rw [hA]
      clear hA hwE hXE hbE hO hR hbr hOE
      go_wp2_with fail
      rw [← HwE.out]
      have c0 : wE.cell? ⟨wr.heap.size, 0, none⟩ = some (.int .i64 n) := HXE.out.cell 0
      have c1 : wE.cell? ⟨wr.heap.size, 1, none⟩ = some (.int .i64 xv) := HXE.out.cell 1
      have c2 : wE.cell? ⟨wr.heap.size, 2, none⟩ = some (.int .i64 xa) := HXE.out.cell 2
      have c3 : wE.cell? ⟨wr.heap.size, 3, none⟩ = some (.bool xg) := HXE.out.cell 3
      have c4 : wE.cell? ⟨wr.heap.size, 4, none⟩ = some (.string xt) := HXE.out.cell 4
      have q1 : IntKind.i64.wrap (8 + (n : Int)) = 8 + (n : Int) := IntWalk.i64_in _ (by omega)
      have q2 : (0 : Int) ≤ 8 + (n : Int) := by omega
      have q3 : (8 + (n : Int)).toNat = 8 + n := by omega
      have q4 : 8 + n < 16 := by omega
      go_region_with (first
        | (go_at_call 192; refine (HOne.out _ (HtE.out.belowS (by (repeat (first | with_reducible exact Below.refl _ _ | with_reducible assumption | (with_reducible refine Below.drew ?_) | (with_reducible refine Below.manyDrew ?_ _) | ((with_reducible refine Below.alloc ?_ ?_ _); rotate_left; (focus (first | omega | (dsimp only; omega) | (simp; done) | (simp; omega)))) | ((with_reducible refine Below.setCell ?_ ?_ _); rotate_left; (focus (first | omega | (dsimp only; omega) | (simp; done) | (simp; omega)))) | ((with_reducible refine Below.step ?_ (by assumption) ?_); rotate_left; (focus (first | omega | (dsimp only; omega) | (simp; done) | (simp; omega))))))))).mono ?_; rintro e wx ⟨rfl, hbx⟩; have hbx2 : Below wE.heap.size wE wx := (Below.step (by (repeat (first | with_reducible exact Below.refl _ _ | with_reducible assumption | (with_reducible refine Below.drew ?_) | (with_reducible refine Below.manyDrew ?_ _) | ((with_reducible refine Below.alloc ?_ ?_ _); rotate_left; (focus (first | omega | (dsimp only; omega) | (simp; done) | (simp; omega)))) | ((with_reducible refine Below.setCell ?_ ?_ _); rotate_left; (focus (first | omega | (dsimp only; omega) | (simp; done) | (simp; omega)))) | ((with_reducible refine Below.step ?_ (by assumption) ?_); rotate_left; (focus (first | omega | (dsimp only; omega) | (simp; done) | (simp; omega))))))) hbx (by simp)); have hzx := hbx2.size; have c0x : wx.cell? ⟨wr.heap.size, 0, none⟩ = some (.int .i64 n) := (hbx2.cell (p := ⟨wr.heap.size, 0, none⟩) hzE).trans c0; have hOx := HOE.out.belowS hbx2; have cox : wx.cell? ⟨w.heap.size + 1, 8 + n, none⟩ = some (.int .i64 (L.getD (8 + n) 0)) := (hOx.cell (8 + n)).trans (ints_get L (8 + n) (by omega)); have fox := hOx.frozen (8 + n); have HOx := hid hOx; clear hOx))
      all_goals
        have Hbx := hid hbx2
        clear hbx hbx2
        go_wp2_with fail
        go_roundw
        case rel =>
          refine ⟨j + 1, by omega, by go_num, ?_, (HRE.out.belowS Hbx.out).far (by simp) _, (Below.step HbE.out Hbx.out hzE2).setCell (by simp) _⟩
          have := HOx.out.put (8 + n) (.int .i64 h)
          rw [ints_set, Hrs.out] at this
          exact this
        case measure => simp [intOf]; omega
    · obtain rfl : j = s.xs.length := by omega
      rw [List.take_length] at hO
      have HP := hid (fun n : Nat => fun W hW => pair_any (nodeN s.xs (2 * n)) (nodeN s.xs (2 * n + 1)) ⟨by omega, by have := nodeN_lt s.xs (2 * n); omega⟩ ⟨by omega, by have := nodeN_lt s.xs (2 * n + 1); omega⟩ W hW)
      have HS := hid (fun i h1 h8 => rowT_set s.xs (i := i) h1 h8)
      have HN := hid (fun i h1 h8 => nodeN_node (l := s.xs) (i := i) h1 h8)
      have HG := hid (fun n m h => rowT_get s.xs n (m := m) h)
      have HL := hid (rowT_len s.xs)
      go_wp2_with fail
      go_loopw [6] (fun i wr => ∃ n : Nat, n ≤ 7 ∧ i = .int .i64 n ∧ Blk wr (w.heap.size + 1) 266 (ints (rowT s.xs n)) ∧ Blk wr w.heap.size 266 #[.int .i64 0, .int .i64 0, .int .i64 0, .int .i64 0, .int .i64 0, .int .i64 0, .int .i64 0, .int .i64 0, .int .i64 0, .int .i64 0, .int .i64 0, .int .i64 0, .int .i64 0, .int .i64 0, .int .i64 0, .int .i64 0] ∧ Below w.heap.size w wr) (fun i _ => (intOf i).toNat)
      case atStart => exact ⟨7, by omega, rfl, hO, hR, hbr⟩
      case round =>
        clear hO hR hbr hz0 hzo
        obtain ⟨n, hn, rfl, hO, hR, hbr⟩ := hrel
        have hz0 := hbr.size
        have hzo := hO.lt
        by_cases h0 : n = 0
        · subst h0
          rw [Hl.out] at hO
          have HO := hid (show Blk _ _ _ #[.int .i64 y0, .int .i64 y1, .int .i64 y2, .int .i64 y3, .int .i64 y4, .int .i64 y5, .int .i64 y6, .int .i64 y7, .int .i64 y8, .int .i64 y9, .int .i64 y10, .int .i64 y11, .int .i64 y12, .int .i64 y13, .int .i64 y14, .int .i64 y15] from hO)
          have HR := hid hR
          have Hb := hid hbr
          have c0 := HO.out.cell 0
          have d0 := HR.out.cell 0
          have f0 := HR.out.frozen 0
          have c1 := HO.out.cell 1
          have d1 := HR.out.cell 1
          have f1 := HR.out.frozen 1
          have c2 := HO.out.cell 2
          have d2 := HR.out.cell 2
          have f2 := HR.out.frozen 2
          have c3 := HO.out.cell 3
          have d3 := HR.out.cell 3
          have f3 := HR.out.frozen 3
          have c4 := HO.out.cell 4
          have d4 := HR.out.cell 4
          have f4 := HR.out.frozen 4
          have c5 := HO.out.cell 5
          have d5 := HR.out.cell 5
          have f5 := HR.out.frozen 5
          have c6 := HO.out.cell 6
          have d6 := HR.out.cell 6
          have f6 := HR.out.frozen 6
          have c7 := HO.out.cell 7
          have d7 := HR.out.cell 7
          have f7 := HR.out.frozen 7
          have c8 := HO.out.cell 8
          have d8 := HR.out.cell 8
          have f8 := HR.out.frozen 8
          have c9 := HO.out.cell 9
          have d9 := HR.out.cell 9
          have f9 := HR.out.frozen 9
          have c10 := HO.out.cell 10
          have d10 := HR.out.cell 10
          have f10 := HR.out.frozen 10
          have c11 := HO.out.cell 11
          have d11 := HR.out.cell 11
          have f11 := HR.out.frozen 11
          have c12 := HO.out.cell 12
          have d12 := HR.out.cell 12
          have f12 := HR.out.frozen 12
          have c13 := HO.out.cell 13
          have d13 := HR.out.cell 13
          have f13 := HR.out.frozen 13
          have c14 := HO.out.cell 14
          have d14 := HR.out.cell 14
          have f14 := HR.out.frozen 14
          have c15 := HO.out.cell 15
          have d15 := HR.out.cell 15
          have f15 := HR.out.frozen 15
          clear hO hR hbr
          go_wp2_with fail
          refine bodyPost_ret (v := .agg (ints [y0, y1, y2, y3, y4, y5, y6, y7, y8, y9, y10, y11, y12, y13, y14, y15])) ?_ rfl ⟨rfl, ?_⟩
          · exact results_boxT3 Tryz.results186 rfl (Blk.put16 HR.out _ _ _ _ _ _ _ _ _ _ _ _ _ _ _ _) Tryz.underlying266 rfl (by kernel_rfl)
          · have hb := Hb.out
            (repeat (first | with_reducible exact Below.refl _ _ | with_reducible assumption | (with_reducible refine Below.drew ?_) | (with_reducible refine Below.manyDrew ?_ _) | ((with_reducible refine Below.alloc ?_ ?_ _); rotate_left; (focus (first | omega | (dsimp only; omega) | (simp; done) | (simp; omega)))) | ((with_reducible refine Below.setCell ?_ ?_ _); rotate_left; (focus (first | omega | (dsimp only; omega) | (simp; done) | (simp; omega)))) | ((with_reducible refine Below.step ?_ (by assumption) ?_); rotate_left; (focus (first | omega | (dsimp only; omega) | (simp; done) | (simp; omega))))))
        · have hr := HS.out n (by omega) (by omega)
          have hnn := HN.out n (by omega) (by omega)
          have e1 := HG.out n (2 * n) (by omega)
          have e2 := HG.out n (2 * n + 1) (by omega)
          rw [if_pos (by omega)] at e1 e2
          have c1 : wr.cell? ⟨w.heap.size + 1, 2 * n, none⟩ = some (.int .i64 (nodeN s.xs (2 * n) : Nat)) := (hO.cell (2 * n)).trans (ints_get' _ (by rw [HL.out]; omega) e1)
          have c2 : wr.cell? ⟨w.heap.size + 1, 2 * n + 1, none⟩ = some (.int .i64 (nodeN s.xs (2 * n + 1) : Nat)) := (hO.cell (2 * n + 1)).trans (ints_get' _ (by rw [HL.out]; omega) e2)
          have HPn := hid (fun W hW => HP.out n W hW)
          rw [hnn] at hr
          have Hr := hid hr
          have Htr := hid (Ht.out.belowS hbr)
          have hll := HL.out n
          clear hr hnn e1 e2
          generalize nodeN s.xs (2 * n) = N1 at *
          generalize nodeN s.xs (2 * n + 1) = N2 at *
          generalize hashL (pairT N1 N2) = h at *
          generalize rowT s.xs n = L at *
          have HO := hid hO
          have HR := hid hR
          have Hb := hid hbr
          clear hO hR hbr
          have q1 : IntKind.i64.wrap (2 * (n : Int)) = 2 * (n : Int) := IntWalk.i64_in _ (by omega)
          have q2 : (0 : Int) ≤ 2 * (n : Int) := by omega
          have q3 : (2 * (n : Int)).toNat = 2 * n := by omega
          have q4 : IntKind.i64.wrap (2 * (n : Int) + 1) = 2 * (n : Int) + 1 := IntWalk.i64_in _ (by omega)
          have q5 : (0 : Int) ≤ 2 * (n : Int) + 1 := by omega
          have q6 : (2 * (n : Int) + 1).toNat = 2 * n + 1 := by omega
          have q7 : (n : Int) < 16 := by omega
          have q8 : 2 * (n : Int) < 16 := by omega
          have q9 : 2 * (n : Int) + 1 < 16 := by omega
          go_wp2_with fail
          go_region_with (first
            | (go_at_call 42; refine (HPn.out _ (Htr.out.belowS (by (repeat (first | with_reducible exact Below.refl _ _ | with_reducible assumption | (with_reducible refine Below.drew ?_) | (with_reducible refine Below.manyDrew ?_ _) | ((with_reducible refine Below.alloc ?_ ?_ _); rotate_left; (focus (first | omega | (dsimp only; omega) | (simp; done) | (simp; omega)))) | ((with_reducible refine Below.setCell ?_ ?_ _); rotate_left; (focus (first | omega | (dsimp only; omega) | (simp; done) | (simp; omega)))) | ((with_reducible refine Below.step ?_ (by assumption) ?_); rotate_left; (focus (first | omega | (dsimp only; omega) | (simp; done) | (simp; omega))))))))).mono ?_; rintro e wx ⟨rfl, hbx⟩; have hbx2 : Below wr.heap.size wr wx := (Below.step (by (repeat (first | with_reducible exact Below.refl _ _ | with_reducible assumption | (with_reducible refine Below.drew ?_) | (with_reducible refine Below.manyDrew ?_ _) | ((with_reducible refine Below.alloc ?_ ?_ _); rotate_left; (focus (first | omega | (dsimp only; omega) | (simp; done) | (simp; omega)))) | ((with_reducible refine Below.setCell ?_ ?_ _); rotate_left; (focus (first | omega | (dsimp only; omega) | (simp; done) | (simp; omega)))) | ((with_reducible refine Below.step ?_ (by assumption) ?_); rotate_left; (focus (first | omega | (dsimp only; omega) | (simp; done) | (simp; omega))))))) hbx (by simp)); have hzx := hbx2.size; have hOx := HO.out.belowS hbx2; have cox : wx.cell? ⟨w.heap.size + 1, n, none⟩ = some (.int .i64 (L.getD n 0)) := (hOx.cell n).trans (ints_get L n (by omega)); have fox := hOx.frozen n; have HOx := hid hOx; clear hOx))
          all_goals
            have Hbx := hid hbx2
            clear hbx hbx2
            go_wp2_with fail
            go_roundw
            case rel =>
              refine ⟨n - 1, by omega, ?_, ?_, (HR.out.belowS Hbx.out).far (by simp) _, (Below.step Hb.out Hbx.out hz0).setCell (by simp) _⟩
              · rw [show ((n - 1 : Nat) : Int) = (n : Int) - 1 by omega]
              · have := HOx.out.put n (.int .i64 h)
                rw [ints_set, Hr.out] at this
                exact this
            case measure => simp [intOf]; omega
end Go.Proofs.YtemhdfodghfkfaaGreatDoor
namespace Go.Proofs.YtemhdfodghfkfaaGreatDoor
open Go.RowKit
open Go.ChangeShapes Go.WideShapes Go.ChangeAt

theorem sz_step {f g : Nat → Int} {c L C : Nat} (hL : 1 ≤ L) (h : ∀ i, 2 * c ≤ i → (partF f g i).1.length ≤ L ∧ (partF f g i).2 ≤ C) : ∀ i, c ≤ i → (partF f g i).1.length ≤ 2 * L ∧ (partF f g i).2 ≤ 2 * C + 1 := by
  intro i hi
  by_cases he : f i = g i
  · rw [partF_eq he]; simp
  · by_cases h8 : 8 ≤ i ∨ i = 0
    · rw [partF_leaf he h8]; simp; omega
    · rw [partF_node he h8, List.length_append]
      have a := h (2 * i) (by omega)
      have b := h (2 * i + 1) (by omega)
      simp only
      omega
theorem sz_leaf {f g : Nat → Int} : ∀ i, 8 ≤ i → (partF f g i).1.length ≤ 1 ∧ (partF f g i).2 ≤ 1 := by
  intro i hi
  by_cases he : f i = g i
  · rw [partF_eq he]; simp
  · rw [partF_leaf he (.inl hi)]; simp
theorem partF_sz {f g : Nat → Int} : ∀ i, 1 ≤ i → (partF f g i).1.length ≤ 8 ∧ (partF f g i).2 ≤ 15 :=
  sz_step (c := 1) (L := 4) (C := 7) (by decide) (sz_step (c := 2) (L := 2) (C := 3) (by decide) (sz_step (c := 4) (L := 1) (C := 1) (by decide) sz_leaf))

/-- A walker as it lies. -/
def walkC (fa fb : List Int) (v : Value) (n : Nat) : Array Value := (ints fa ++ ints fb) ++ #[v, .int .i64 n]
section
variable {fa fb : List Int} {v : Value} {n : Nat}
theorem ints_size (l : List Int) : (ints l).size = l.length := by simp [ints]
theorem walkC_a (ha : fa.length = 16) {i : Nat} (h : i < 16) : (walkC fa fb v n)[i]? = some (.int .i64 (fa.getD i 0)) := by
  unfold walkC
  rw [Array.getElem?_append_left (by rw [Array.size_append, ints_size]; omega), Array.getElem?_append_left (by rw [ints_size]; omega), ints_get fa i (by omega)]
theorem walkC_b (ha : fa.length = 16) (hb : fb.length = 16) {i : Nat} (h : i < 16) : (walkC fa fb v n)[16 + i]? = some (.int .i64 (fb.getD i 0)) := by
  unfold walkC
  rw [Array.getElem?_append_left (by rw [Array.size_append, ints_size, ints_size]; omega), Array.getElem?_append_right (by rw [ints_size]; omega), ints_size, ha, Nat.add_sub_cancel_left, ints_get fb i (by omega)]
theorem walk_base (ha : fa.length = 16) (hb : fb.length = 16) : (ints fa ++ ints fb).size = 32 := by rw [Array.size_append, ints_size, ints_size]; omega
theorem walkC_k (ha : fa.length = 16) (hb : fb.length = 16) : (walkC fa fb v n)[32]? = some v := by
  unfold walkC
  rw [Array.getElem?_append_right (by rw [walk_base ha hb]; omega), walk_base ha hb]; rfl
theorem walkC_n (ha : fa.length = 16) (hb : fb.length = 16) : (walkC fa fb v n)[33]? = some (.int .i64 n) := by
  unfold walkC
  rw [Array.getElem?_append_right (by rw [walk_base ha hb]; omega), walk_base ha hb]; rfl
theorem walkC_putk (ha : fa.length = 16) (hb : fb.length = 16) (v' : Value) : (walkC fa fb v n).setIfInBounds 32 v' = walkC fa fb v' n := by
  unfold walkC
  rw [Array.setIfInBounds_append_right (by rw [walk_base ha hb]; omega), walk_base ha hb]; rfl
theorem walkC_putn (ha : fa.length = 16) (hb : fb.length = 16) (m : Nat) : (walkC fa fb v n).setIfInBounds 33 (.int .i64 m) = walkC fa fb v m := by
  unfold walkC
  rw [Array.setIfInBounds_append_right (by rw [walk_base ha hb]; omega), walk_base ha hb]; rfl
end

def AskR (g : Nat) (fa fb : List Int) (K : List Int) (n : Nat) (r : List Int × Nat) (w : World) (e : Ending) (w' : World) : Prop :=
  ∃ v', e = .returned (.tuple #[]) ∧ Blk w' g 269 (walkC fa fb v' (n + r.2)) ∧ Ow cellI 1 (g + 1) 3 w' v' (K ++ r.1) ∧ Below g w w'

set_option maxHeartbeats 4000000 in
set_option maxRecDepth 100000 in
theorem ask_any (fa fb : List Int) (ha : fa.length = 16) (hb : fb.length = 16) (g : Nat) : ∀ (m i : Nat), 16 - i ≤ m → 1 ≤ i → i < 16 → ∀ (v : Value) (K : List Int) (n : Nat) (w : World), Blk w g 269 (walkC fa fb v n) → Ow cellI 1 (g + 1) 3 w v K → K.length ≤ 1000 + 8 * i → n ≤ 1000 + 16 * i →
    Calls Tryz.prog 187 #[.pointer (some ⟨g, 0, none⟩), .int .i64 i] w (AskR g fa fb K n (partF (fun j => fa.getD j 0) (fun j => fb.getD j 0) i) w)
  | 0, i, h, _, h16 => by omega
  | m + 1, i, h, h1, h16 => by
    have IH := hid (ask_any fa fb ha hb g m)
    intro v K n w hB hO hK hn
    have cn : w.cell? ⟨g, 33, none⟩ = some (.int .i64 n) := (hB.cell 33).trans (walkC_n ha hb)
    have f33 := hB.frozen 33
    obtain ⟨w1, hw1⟩ : ∃ w1 : World, w1 = w.setCell ⟨g, 33, none⟩ (.int .i64 ((n : Int) + 1)) := ⟨_, rfl⟩
    have hB1 : Blk w1 g 269 (walkC fa fb v (n + 1)) := by
      have := hB.put 33 (.int .i64 ((n : Int) + 1))
      rw [show ((n : Int) + 1) = ((n + 1 : Nat) : Int) by omega, walkC_putn ha hb] at this
      rw [hw1, show ((n : Int) + 1) = ((n + 1 : Nat) : Int) by omega]
      exact this
    have hO1 : Ow cellI 1 (g + 1) 3 w1 v K := by
      rw [hw1]
      exact hO.fr (S := fun x => x = g) (Fr.setCell (S := fun x => x = g) (Fr.refl _ _) (.inl rfl) _) (fun q hq hqg => by have := (hO.lt hq).1; omega)
    have hb1 : Below g w w1 := by rw [hw1]; exact (Below.refl _ _).setCell (p := ⟨g, 33, none⟩) (Nat.le_refl _) _
    have ca : w1.cell? ⟨g, i, none⟩ = some (.int .i64 (fa.getD i 0)) := (hB1.cell i).trans (walkC_a ha h16)
    have cb : w1.cell? ⟨g, 16 + i, none⟩ = some (.int .i64 (fb.getD i 0)) := (hB1.cell (16 + i)).trans (walkC_b ha hb h16)
    have hg := hB.lt
    have hg1 := hB1.lt
    have HB1 := hid hB1
    have HO1 := hid hO1
    have Hb1 := hid hb1
    have Hw1 := hid hw1
    clear hB hO hB1 hO1 hb1 hw1
    by_cases he : fa.getD i 0 = fb.getD i 0
    · have heb : (fa.getD i 0 == fb.getD i 0) = true := by rw [he]; simp
      rw [partF_eq (f := fun j => fa.getD j 0) (g := fun j => fb.getD j 0) he]
      generalize fa.getD i 0 = x at *
      generalize fb.getD i 0 = y at *
      clear he
      go_enter Tryz.func187, Tryz.ntmps187
      go_wp2_with fail
      rw [← Hw1.out]
      go_quiet (fail)
      rename_i nq
      go_wp2_with fail
      (first | go_end0 | (refine bodyPost_ret (results_none rfl _ _ _) rfl ?_) | (refine bodyPost_end (results_none rfl _ _ _) rfl ?_))
      exact ⟨v, rfl, HB1.out.drewN nq, by rw [List.append_nil]; exact HO1.out.drewN nq, Below.manyDrew Hb1.out nq⟩
    · have heb : (fa.getD i 0 == fb.getD i 0) = false := by rw [beq_eq_false_iff_ne]; exact he
      have ck : w1.cell? ⟨g, 32, none⟩ = some v := (HB1.out.cell 32).trans (walkC_k ha hb)
      have f32 := HB1.out.frozen 32
      by_cases h8 : 8 ≤ i
      · rw [partF_leaf (f := fun j => fa.getD j 0) (g := fun j => fb.getD j 0) he (.inl h8)]
        have h8' : (8 : Int) ≤ (i : Int) := by omega
        generalize fa.getD i 0 = x at *
        generalize fb.getD i 0 = y at *
        clear he
        go_enter Tryz.func187, Tryz.ntmps187
        go_wp2_with fail
        rw [← Hw1.out]
        go_quiet (fail)
        rename_i nq
        go_wp2_with (at_builtin; refine appI _ (g + 1) _ K _ (HO1.out.drewN nq) rfl _ _ rfl rfl rfl ?_ ?_ ?_ ?_)
        any_goals (first | (with_reducible rfl) | omega | (show g + 1 ≤ w1.heap.size; omega) | exact rfl)
        intro v8 w8 h8 f8 o8
        obtain ⟨A8, c8n, hv8, _, _, _⟩ := h8.form
        rw [List.length_append, List.length_singleton] at hv8
        subst hv8
        have hng : ¬ some g = foot v := fun e => by have := HO1.out.ge _ e; omega
        have hB8 := (HB1.out.drewN nq).fr f8 hng
        have hb8 : Below g w w8 := (Below.manyDrew Hb1.out nq).trans (f8.below0 (by show g ≤ w1.heap.size; omega) (fun q hq => by have := HO1.out.ge _ hq; omega))
        have c8 : w8.cell? ⟨g, 32, none⟩ = some v := (hB8.cell 32).trans (walkC_k ha hb)
        have f8' := hB8.frozen 32
        have HB8 := hid (hB8.put 32 (.slice A8 (K.length + 1) c8n))
        rw [walkC_putk ha hb] at HB8
        have HO8 := hid (show Ow cellI 1 (g + 1) 3 (w8.setCell ⟨g, 32, none⟩ (.slice A8 (K.length + 1) c8n)) (.slice A8 (K.length + 1) c8n) (K ++ [(i : Int) - 8]) from h8.fr (S := fun x => x = g) (Fr.setCell (S := fun x => x = g) (Fr.refl _ _) (.inl rfl) _) (fun q hq hqg => by have := (h8.lt hq).1; omega))
        have Hb8 := hid (hb8.setCell (p := ⟨g, 32, none⟩) (Nat.le_refl _) (.slice A8 (K.length + 1) c8n))
        clear hB8 hb8 h8 f8 o8
        go_wp2_with fail
        (first | go_end0 | (refine bodyPost_ret (results_none rfl _ _ _) rfl ?_) | (refine bodyPost_end (results_none rfl _ _ _) rfl ?_))
        exact ⟨_, rfl, HB8.out, HO8.out, Hb8.out⟩
      · have HF := hid (partF_node (f := fun j => fa.getD j 0) (g := fun j => fb.getD j 0) he (show ¬ (8 ≤ i ∨ i = 0) by omega))
        have h8' : ¬ (8 : Int) ≤ (i : Int) := by omega
        have hs1 := partF_sz (f := fun j => fa.getD j 0) (g := fun j => fb.getD j 0) (2 * i) (by omega)
        have HI1 := hid (fun W hB hO => IH.out (2 * i) (by omega) (by omega) (by omega) v K (n + 1) W hB hO (by omega) (by omega))
        have HI2 := hid (fun v' W hB hO => IH.out (2 * i + 1) (by omega) (by omega) (by omega) v' (K ++ (partF (fun j => fa.getD j 0) (fun j => fb.getD j 0) (2 * i)).1) (n + 1 + (partF (fun j => fa.getD j 0) (fun j => fb.getD j 0) (2 * i)).2) W hB hO (by rw [List.length_append]; omega) (by omega))
        rw [show (((2 * i : Nat)) : Int) = 2 * (i : Int) by omega] at HI1
        rw [show (((2 * i + 1 : Nat)) : Int) = 2 * (i : Int) + 1 by omega] at HI2
        rw [HF.out]
        clear HF
        generalize partF (fun j => fa.getD j 0) (fun j => fb.getD j 0) (2 * i) = P1 at *
        generalize partF (fun j => fa.getD j 0) (fun j => fb.getD j 0) (2 * i + 1) = P2 at *
        obtain ⟨K1, n1⟩ := P1
        obtain ⟨K2, n2⟩ := P2
        generalize fa.getD i 0 = x at *
        generalize fb.getD i 0 = y at *
        clear he
        go_enter Tryz.func187, Tryz.ntmps187
        go_wp2_with fail
        rw [← Hw1.out]
        go_quiet (fail)
        rename_i nq
        go_wp2_with fail
        refine (HI1.out _ (HB1.out.drewN nq) (HO1.out.drewN nq)).mono ?_
        rintro e w2 ⟨v2, rfl, hB2, hO2, hb2⟩
        have HI3 := hid (HI2.out v2 w2 hB2 hO2)
        have Hb2 := hid ((Below.manyDrew Hb1.out nq).trans hb2)
        clear hB2 hO2 hb2
        go_wp2_with fail
        refine HI3.out.mono ?_
        rintro e w3 ⟨v3, rfl, hB3, hO3, hb3⟩
        have HB3 := hid hB3
        have HO3 := hid hO3
        have Hb3 := hid (Hb2.out.trans hb3)
        clear hB3 hO3 hb3
        go_wp2_with fail
        (first | go_end0 | (refine bodyPost_ret (results_none rfl _ _ _) rfl ?_) | (refine bodyPost_end (results_none rfl _ _ _) rfl ?_))
        refine ⟨v3, rfl, ?_, ?_, Hb3.out⟩
        · have := HB3.out
          rw [show n + 1 + n1 + n2 = n + (n1 + n2 + 1) by omega] at this
          exact this
        · have := HO3.out
          rw [List.append_assoc] at this
          exact this
end Go.Proofs.YtemhdfodghfkfaaGreatDoor
namespace Go.Proofs.YtemhdfodghfkfaaGreatDoor
open Go.RowKit
open Go.ChangeShapes Go.WideShapes Go.ChangeAt

def nodE (l : List E) (i : Int) : Int := if 1 ≤ i ∧ i < 16 then chkC l else 1
theorem errV_one : errV 1 = .iface 78 (.int .i64 1) := rfl

set_option maxRecDepth 100000 in
theorem index16 {l : List Int} (hl : l.length = 16) {n : Nat} (hn : n < 16) (w : World) : (Instr.index 266 (.agg (ints l)) (.int .i64 n)).run Tryz.prog w = .ok (.int .i64 (l.getD n 0)) w := by
  obtain ⟨y0, y1, y2, y3, y4, y5, y6, y7, y8, y9, y10, y11, y12, y13, y14, y15, rfl⟩ := list16 hl
  rcases (show n = 0 ∨ n = 1 ∨ n = 2 ∨ n = 3 ∨ n = 4 ∨ n = 5 ∨ n = 6 ∨ n = 7 ∨ n = 8 ∨ n = 9 ∨ n = 10 ∨ n = 11 ∨ n = 12 ∨ n = 13 ∨ n = 14 ∨ n = 15 by omega) with rfl | rfl | rfl | rfl | rfl | rfl | rfl | rfl | rfl | rfl | rfl | rfl | rfl | rfl | rfl | rfl
  all_goals kernel_rfl

end Go.Proofs.YtemhdfodghfkfaaGreatDoor
namespace Go.Proofs.YtemhdfodghfkfaaGreatDoor
open Go.RowKit
open Go.ChangeShapes Go.WideShapes Go.ChangeAt

/-- What tells of two, whoever's the row. -/
def DiffR (w : World) (K : List Int) (n : Nat) (en : Int) (e : Ending) (w' : World) : Prop :=
  ∃ q : SlV Int, e = .returned (.tuple #[.slice q.A q.xs.length q.c, .int .i64 n, errV en]) ∧ (q.xs = K ∧ q.ok) ∧ IntsAt w' q ∧ Below w.heap.size w w'
def ApartR (w : World) (K : List Int) (n : Nat) (e : Ending) (w' : World) : Prop :=
  ∃ q : SlV Int, e = .returned (.tuple #[.slice q.A q.xs.length q.c, .int .i64 n]) ∧ (q.xs = K ∧ q.ok) ∧ IntsAt w' q ∧ Below w.heap.size w w'
theorem SlV.ok_nil : (⟨none, 0, []⟩ : SlV Int).ok := ⟨Nat.le_refl _, Nat.zero_le _⟩
theorem part_rows (a b : List E) : partF (fun j => (rowT a 0).getD j 0) (fun j => (rowT b 0).getD j 0) 1 = partT a b 1 :=
  partF_congr (fun m h1 h16 => by show (rowT a 0).getD m 0 = _; rw [rowT_get a 0 h16, if_pos (by omega)]; rfl) (fun m h1 h16 => by show (rowT b 0).getD m 0 = _; rw [rowT_get b 0 h16, if_pos (by omega)]; rfl) 1 (by decide) (by decide)

theorem ints16 (a0 a1 a2 a3 a4 a5 a6 a7 a8 a9 a10 a11 a12 a13 a14 a15 : Int) : ints [a0, a1, a2, a3, a4, a5, a6, a7, a8, a9, a10, a11, a12, a13, a14, a15] = #[.int .i64 a0, .int .i64 a1, .int .i64 a2, .int .i64 a3, .int .i64 a4, .int .i64 a5, .int .i64 a6, .int .i64 a7, .int .i64 a8, .int .i64 a9, .int .i64 a10, .int .i64 a11, .int .i64 a12, .int .i64 a13, .int .i64 a14, .int .i64 a15] := by simp [ints]
theorem walkC16 (a0 a1 a2 a3 a4 a5 a6 a7 a8 a9 a10 a11 a12 a13 a14 a15 b0 b1 b2 b3 b4 b5 b6 b7 b8 b9 b10 b11 b12 b13 b14 b15 : Int) (v : Value) (n : Nat) : walkC [a0, a1, a2, a3, a4, a5, a6, a7, a8, a9, a10, a11, a12, a13, a14, a15] [b0, b1, b2, b3, b4, b5, b6, b7, b8, b9, b10, b11, b12, b13, b14, b15] v n = #[.int .i64 a0, .int .i64 a1, .int .i64 a2, .int .i64 a3, .int .i64 a4, .int .i64 a5, .int .i64 a6, .int .i64 a7, .int .i64 a8, .int .i64 a9, .int .i64 a10, .int .i64 a11, .int .i64 a12, .int .i64 a13, .int .i64 a14, .int .i64 a15, .int .i64 b0, .int .i64 b1, .int .i64 b2, .int .i64 b3, .int .i64 b4, .int .i64 b5, .int .i64 b6, .int .i64 b7, .int .i64 b8, .int .i64 b9, .int .i64 b10, .int .i64 b11, .int .i64 b12, .int .i64 b13, .int .i64 b14, .int .i64 b15, v, .int .i64 n] := by simp [walkC, ints]
theorem built16 (a0 a1 a2 a3 a4 a5 a6 a7 a8 a9 a10 a11 a12 a13 a14 a15 b0 b1 b2 b3 b4 b5 b6 b7 b8 b9 b10 b11 b12 b13 b14 b15 : Int) (W : World) : (Instr.build 269 #[(0, .agg #[.int .i64 a0, .int .i64 a1, .int .i64 a2, .int .i64 a3, .int .i64 a4, .int .i64 a5, .int .i64 a6, .int .i64 a7, .int .i64 a8, .int .i64 a9, .int .i64 a10, .int .i64 a11, .int .i64 a12, .int .i64 a13, .int .i64 a14, .int .i64 a15]), (1, .agg #[.int .i64 b0, .int .i64 b1, .int .i64 b2, .int .i64 b3, .int .i64 b4, .int .i64 b5, .int .i64 b6, .int .i64 b7, .int .i64 b8, .int .i64 b9, .int .i64 b10, .int .i64 b11, .int .i64 b12, .int .i64 b13, .int .i64 b14, .int .i64 b15])]).run Tryz.prog W = .ok (.agg #[.int .i64 a0, .int .i64 a1, .int .i64 a2, .int .i64 a3, .int .i64 a4, .int .i64 a5, .int .i64 a6, .int .i64 a7, .int .i64 a8, .int .i64 a9, .int .i64 a10, .int .i64 a11, .int .i64 a12, .int .i64 a13, .int .i64 a14, .int .i64 a15, .int .i64 b0, .int .i64 b1, .int .i64 b2, .int .i64 b3, .int .i64 b4, .int .i64 b5, .int .i64 b6, .int .i64 b7, .int .i64 b8, .int .i64 b9, .int .i64 b10, .int .i64 b11, .int .i64 b12, .int .i64 b13, .int .i64 b14, .int .i64 b15, .slice none 0 0, .int .i64 0]) W := run_build W 269 _ _ (by kernel_rfl)
set_option maxHeartbeats 4000000 in
set_option maxRecDepth 100000 in
theorem apart_any (s t : SlV E) (w : World) (hs : EsAt w s) (ht : EsAt w t) (hvs : chkC s.xs = 0) (hvt : chkC t.xs = 0) (htb : Tb w) :
    Calls Tryz.prog 175 #[.slice s.A s.xs.length s.c, .slice t.A t.xs.length t.c] w (ApartR w (partT s.xs t.xs 1).1 (partT s.xs t.xs 1).2) := by
  have HN1 := hid (nodes_any s w hs hvs htb)
  have HN2 := hid (fun W (hW : Below w.heap.size w W) => nodes_any t W (ht.stays hW) hvt (htb.belowS hW))
  have HA := hid (fun g v W => ask_any (rowT s.xs 0) (rowT t.xs 0) (rowT_len _ _) (rowT_len _ _) g 16 1 (by omega) (by omega) (by omega) v [] 0 W)
  rw [part_rows] at HA
  have hla := rowT_len s.xs 0
  have hlb := rowT_len t.xs 0
  generalize partT s.xs t.xs 1 = P at *
  generalize rowT s.xs 0 = fa at *
  generalize rowT t.xs 0 = fb at *
  obtain ⟨a0, a1, a2, a3, a4, a5, a6, a7, a8, a9, a10, a11, a12, a13, a14, a15, rfl⟩ := list16 hla
  obtain ⟨b0, b1, b2, b3, b4, b5, b6, b7, b8, b9, b10, b11, b12, b13, b14, b15, rfl⟩ := list16 hlb
  obtain ⟨K, n⟩ := P
  rw [ints16] at HN1 HN2
  have hbd := built16 a0 a1 a2 a3 a4 a5 a6 a7 a8 a9 a10 a11 a12 a13 a14 a15 b0 b1 b2 b3 b4 b5 b6 b7 b8 b9 b10 b11 b12 b13 b14 b15
  clear hs ht hvs hvt htb hla hlb
  go_enter Tryz.func175, Tryz.ntmps175
  go_wp2_with fail
  refine HN1.out.mono ?_
  rintro e w1 ⟨rfl, hb1⟩
  have HN3 := hid (HN2.out w1 hb1)
  have Hb1 := hid hb1
  clear hb1
  go_wp2_with fail
  refine HN3.out.mono ?_
  rintro e w2 ⟨rfl, hb2⟩
  have Hb2 := hid (Below.step Hb1.out hb2 Hb1.out.size)
  have hz2 := Hb2.out.size
  clear hb2
  go_wp2_with fail
  obtain ⟨wA, hwA⟩ : ∃ wA : World, wA = w2.alloc (.cells #[.int .i64 a0, .int .i64 a1, .int .i64 a2, .int .i64 a3, .int .i64 a4, .int .i64 a5, .int .i64 a6, .int .i64 a7, .int .i64 a8, .int .i64 a9, .int .i64 a10, .int .i64 a11, .int .i64 a12, .int .i64 a13, .int .i64 a14, .int .i64 a15, .int .i64 b0, .int .i64 b1, .int .i64 b2, .int .i64 b3, .int .i64 b4, .int .i64 b5, .int .i64 b6, .int .i64 b7, .int .i64 b8, .int .i64 b9, .int .i64 b10, .int .i64 b11, .int .i64 b12, .int .i64 b13, .int .i64 b14, .int .i64 b15, .slice none 0 0, .int .i64 0] 269) := ⟨_, rfl⟩
  rw [← hwA]
  have hBA : Blk wA w2.heap.size 269 (walkC [a0, a1, a2, a3, a4, a5, a6, a7, a8, a9, a10, a11, a12, a13, a14, a15] [b0, b1, b2, b3, b4, b5, b6, b7, b8, b9, b10, b11, b12, b13, b14, b15] (.slice none 0 0) 0) := by rw [hwA, walkC16]; exact Blk.new _ _ _
  have HbA := hid (show Below w.heap.size w wA by rw [hwA]; exact Hb2.out.alloc hz2 _)
  clear hwA
  refine (HA.out w2.heap.size _ _ hBA (Ow.nil _ _ _ _ _) (by simp) (by omega)).mono ?_
  rintro e w3 ⟨v, rfl, hB3, hO3, hb3⟩
  have Hb3 := hid (HbA.out.trans (hb3.mono hz2))
  obtain ⟨r, rfl, hrx, hrA, hro, _⟩ := IntsAt.of_ow hO3
  have Hro := hid hro
  have cK : w3.cell? ⟨w2.heap.size, 32, none⟩ = some (.slice r.A r.xs.length r.c) := (hB3.cell 32).trans (walkC_k rfl rfl)
  have cN : w3.cell? ⟨w2.heap.size, 33, none⟩ = some (.int .i64 n) := (hB3.cell 33).trans (by rw [walkC_n rfl rfl, Nat.zero_add])
  have Hrx := hid hrx
  have HrA := hid hrA
  clear hB3 hO3 hb3 hrx hrA hro
  go_wp2_with fail
  go_quiet (fail)
  rename_i nq
  go_wp2_with fail
  go_ret2
  exact ⟨r, rfl, ⟨by rw [Hrx.out]; rfl, Hro.out⟩, HrA.out.drewN nq, Below.manyDrew Hb3.out nq⟩

def diffR (a b : List E) : (List Int × Nat) × Int := if chkC a = 0 then (if chkC b = 0 then (partT a b 1, 0) else (([], 0), chkC b)) else (([], 0), chkC a)
set_option maxHeartbeats 4000000 in
set_option maxRecDepth 100000 in
theorem diff_any (s m : SlV E) (w : World) (hs : EsAt w s) (hm : EsAt w m) (htb : Tb w) :
    Calls Tryz.prog 161 #[.slice s.A s.xs.length s.c, .slice m.A m.xs.length m.c] w (DiffR w (diffR s.xs m.xs).1.1 (diffR s.xs m.xs).1.2 (diffR s.xs m.xs).2) := by
  have HC1 := hid (fun W (hW : Below w.heap.size w W) => ccheck_any s W (hs.stays hW).entries)
  have HC2 := hid (fun W (hW : Below w.heap.size w W) => ccheck_any m W (hm.stays hW).entries)
  have HAp := hid (fun W (hW : Below w.heap.size w W) (h1 : chkC s.xs = 0) (h2 : chkC m.xs = 0) => apart_any s m W (hs.stays hW) (hm.stays hW) h1 h2 (htb.belowS hW))
  have hB0 : Blk (w.alloc (.cells #[.slice s.A s.xs.length s.c, .slice m.A m.xs.length m.c] 27)) w.heap.size 27 #[.slice s.A s.xs.length s.c, .slice m.A m.xs.length m.c] := Blk.new _ _ _
  generalize hR : diffR s.xs m.xs = R
  have HR := hid hR
  clear hR hs hm htb
  go_enter Tryz.func161, Tryz.ntmps161
  go_wp2_with fail
  obtain ⟨w1, hw1⟩ : ∃ w1 : World, w1 = w.alloc (.cells #[.slice s.A s.xs.length s.c, .slice m.A m.xs.length m.c] 27) := ⟨_, rfl⟩
  rw [← hw1] at hB0 ⊢
  have Hb1 := hid (show Below w.heap.size w w1 by rw [hw1]; (repeat (first | with_reducible exact Below.refl _ _ | with_reducible assumption | (with_reducible refine Below.drew ?_) | (with_reducible refine Below.manyDrew ?_ _) | ((with_reducible refine Below.alloc ?_ ?_ _); rotate_left; (focus (first | omega | (dsimp only; omega) | (simp; done) | (simp; omega)))) | ((with_reducible refine Below.setCell ?_ ?_ _); rotate_left; (focus (first | omega | (dsimp only; omega) | (simp; done) | (simp; omega)))) | ((with_reducible refine Below.step ?_ (by assumption) ?_); rotate_left; (focus (first | omega | (dsimp only; omega) | (simp; done) | (simp; omega)))))))
  have HB0 := hid hB0
  have hzb1 := Hb1.out.size
  clear hw1 hB0
  go_loopw [16] (fun i wr => ∃ k : Nat, k ≤ 2 ∧ i = .int .i64 k ∧ (1 ≤ k → chkC s.xs = 0) ∧ (2 ≤ k → chkC m.xs = 0) ∧ Below w1.heap.size w1 wr) (fun i _ => 2 - (intOf i).toNat)
  case atStart => exact ⟨0, by omega, rfl, (fun h => by omega), (fun h => by omega), Below.refl _ _⟩
  case round =>
    obtain ⟨k, hk, rfl, h1, h2, hb⟩ := hrel
    have hBr := HB0.out.belowS hb
    have c0 : wr.cell? ⟨w.heap.size, 0, none⟩ = some (.slice s.A s.xs.length s.c) := hBr.cell 0
    have c1 : wr.cell? ⟨w.heap.size, 1, none⟩ = some (.slice m.A m.xs.length m.c) := hBr.cell 1
    have H1 := hid h1
    have H2 := hid h2
    have Hbr := hid (Below.step Hb1.out hb hzb1)
    have Hb := hid hb
    have hzr := hb.size
    clear hBr h1 h2 hb
    rcases (show k = 0 ∨ k = 1 ∨ k = 2 by omega) with rfl | rfl | rfl
    · by_cases hc : chkC s.xs = 0
      · have HC := hid (HC1.out wr Hbr.out)
        rw [hc, errV_zero] at HC
        have Hc := hid hc
        clear hc
        go_wp2_with fail
        refine HC.out.mono ?_
        rintro e w2 ⟨rfl, hb2⟩
        have Hb2 := hid (Below.step Hb.out hb2 (by omega))
        clear hb2
        go_wp2_with fail
        go_roundw
        case rel => exact ⟨1, by omega, by go_num, fun _ => Hc.out, (fun h => by omega), Hb2.out⟩
        case measure => simp [intOf]
      · have HC := hid (HC1.out wr Hbr.out)
        rw [errV_ne hc] at HC
        have HRe := hid (show R = (([], 0), chkC s.xs) from by rw [← HR.out, diffR, if_neg hc])
        have Hen := hid (errV_ne hc)
        generalize chkC s.xs = en at *
        clear hc
        go_wp2_with fail
        refine HC.out.mono ?_
        rintro e w2 ⟨rfl, hb2⟩
        have Hb2 := hid (Below.step Hbr.out hb2 (by omega))
        clear hb2
        go_wp2_with fail
        refine bodyPost_ret (v := .tuple #[.slice none 0 0, .int .i64 0, .iface 78 (.int .i64 en)]) ?_ rfl ?_
        · simp [results, Tryz.results161, go_sem]
        · rw [HRe.out, ← Hen.out]
          exact ⟨⟨none, 0, []⟩, rfl, ⟨rfl, SlV.ok_nil⟩, IntsAt.bare _ _ _, Hb2.out⟩
    · by_cases hc : chkC m.xs = 0
      · have HC := hid (HC2.out wr Hbr.out)
        rw [hc, errV_zero] at HC
        have Hc := hid hc
        clear hc
        go_wp2_with fail
        refine HC.out.mono ?_
        rintro e w2 ⟨rfl, hb2⟩
        have Hb2 := hid (Below.step Hb.out hb2 (by omega))
        clear hb2
        go_wp2_with fail
        go_roundw
        case rel => exact ⟨2, by omega, by go_num, fun _ => H1.out (by omega), fun _ => Hc.out, Hb2.out⟩
        case measure => simp [intOf]
      · have HC := hid (HC2.out wr Hbr.out)
        rw [errV_ne hc] at HC
        have HRe := hid (show R = (([], 0), chkC m.xs) from by rw [← HR.out, diffR, if_pos (H1.out (by omega)), if_neg hc])
        have Hen := hid (errV_ne hc)
        generalize chkC m.xs = en at *
        clear hc
        go_wp2_with fail
        refine HC.out.mono ?_
        rintro e w2 ⟨rfl, hb2⟩
        have Hb2 := hid (Below.step Hbr.out hb2 (by omega))
        clear hb2
        go_wp2_with fail
        refine bodyPost_ret (v := .tuple #[.slice none 0 0, .int .i64 0, .iface 78 (.int .i64 en)]) ?_ rfl ?_
        · simp [results, Tryz.results161, go_sem]
        · rw [HRe.out, ← Hen.out]
          exact ⟨⟨none, 0, []⟩, rfl, ⟨rfl, SlV.ok_nil⟩, IntsAt.bare _ _ _, Hb2.out⟩
    · have HA := hid (HAp.out wr Hbr.out (H1.out (by omega)) (H2.out (by omega)))
      have HRe := hid (show R = (partT s.xs m.xs 1, 0) from by rw [← HR.out, diffR, if_pos (H1.out (by omega)), if_pos (H2.out (by omega))])
      go_wp2_with fail
      refine HA.out.mono ?_
      rintro e w2 ⟨q, rfl, hqx, hqA, hb2⟩
      have Hqx := hid hqx
      have HqA := hid hqA
      have Hb2 := hid (Below.step Hbr.out hb2 (by omega))
      clear hqx hqA hb2
      go_wp2_with fail
      refine bodyPost_ret (v := .tuple #[.slice q.A q.xs.length q.c, .int .i64 (partT s.xs m.xs 1).2, .nilIface]) ?_ rfl ?_
      · simp [results, Tryz.results161, go_sem]
      · rw [HRe.out]
        exact ⟨q, rfl, Hqx.out, HqA.out, Hb2.out⟩
end Go.Proofs.YtemhdfodghfkfaaGreatDoor
