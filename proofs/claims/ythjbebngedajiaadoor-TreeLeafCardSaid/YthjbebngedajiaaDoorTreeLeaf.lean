/-
  PROVED HERE: merelaw4.TreeLeaf returns true: an end is its entry's number, 0 of none; the root hangs on all. CONDITIONS: the library's tables and errors.errorType as the program's text lays them (tied by the card).
-/
import Derived.Test.YthjbebngedajiaaDoorTree2
import Derived.Test.YthjbebngedajiaaDoorCGet
import Derived.ChangeVars
import Derived.JoinedOf
import Derived.Stop.Joined
namespace Go.Proofs.YthjbebngedajiaaDoor
open Go.RowKit
open Go.ChangeShapes Go.WideShapes Go.ChangeAt

theorem getR_at {l : List E} {k : Int} (hl : chkC l = 0) (hk : keyB k = true) : getR l k = match lk l k with | some e => (e, 0) | none => (E.zero, 5) := by
  obtain ⟨ha, _⟩ := val_iff.1 hl
  rw [getR, if_pos hl, if_pos hk, at_lk ha]
  cases hasK k l <;> rfl
theorem tn_in {l : List E} {n : Nat} (hl : chkC l = 0) (h1 : 1 ≤ n) (h16 : n < 16) : tnN l n = (nodeN l n : Nat) ∧ tnE l n = 0 := by
  unfold tnN tnE
  rw [if_pos (by omega), if_pos hl, if_pos (by omega), hl]
  exact ⟨by rw [Int.toNat_natCast], rfl⟩

set_option maxHeartbeats 8000000 in
set_option maxRecDepth 100000 in
theorem treeLeaf_any (s : SlV E) (key : Int) (w : World) (hs : EsAt w s) (htb : Tb w) (hgl : Gl w) :
    Calls Tryd.prog 8 #[.slice s.A s.xs.length s.c, .int .i64 key] w fun e w' => e = .returned (.bool true) ∧ Below w.heap.size w w' := by
  have HN := hid (fun i W (hW : Below w.heap.size w W) => node_any s i W (hs.stays hW) (htb.belowS hW))
  have HG := hid (fun W (hW : Below w.heap.size w W) => hgl.belowS hW)
  have HT := hid (fun W (hW : Below w.heap.size w W) => htb.belowS hW)
  have HS := hid (fun W (hW : Below w.heap.size w W) => hs.stays hW)
  clear htb hgl hs
  by_cases hk : 0 ≤ key ∧ key < 8
  · obtain ⟨hk0, hk8⟩ := hk
    obtain ⟨k, rfl⟩ := Int.eq_ofNat_of_zero_le hk0
    have hk1 : ¬ (k : Int) < 0 := by omega
    have hk7 : ¬ (7 : Int) < (k : Int) := by omega
    have hkB : keyB k = true := keyB_true.2 ⟨by omega, by omega⟩
    have HN8 := hid (fun W (hW : Below w.heap.size w W) => HN.out (8 + (k : Int)) W hW)
    by_cases hc : chkC s.xs = 0
    · obtain ⟨t1, t2⟩ := tn_in hc (n := 8 + k) (by omega) (by omega)
      rw [show ((8 + k : Nat) : Int) = 8 + (k : Int) by omega] at t1 t2
      rw [t1, t2, nodeN_leaf (by omega), show 8 + k - 8 = k by omega] at HN8
      have hgr := getR_at hc hkB
      have HGt := hid (fun W (hW : Below w.heap.size w W) => get_any s k W (HS.out W hW).entries)
      rw [hgr] at HGt
      cases hlk : lk s.xs (k : Int) with
      | none =>
        have hlf : leafN s.xs k = 0 := by unfold leafN; rw [hlk]
        rw [hlf] at HN8
        rw [hlk] at HGt
        simp only at HGt
        rw [show E.zero.val = .agg #[.int .i64 0, .int .i64 0, .int .i64 0, .bool false, .string ⟨#[]⟩] from rfl] at HGt
        rw [show errV 0 = .nilIface from rfl] at HN8
        rw [show errV 5 = .iface 87 (.int .i64 5) from rfl] at HGt
        clear hlf hlk hgr t1 t2 hc hkB HN
        go_enter Tryd.func8, Tryd.ntmps8
        go_wp2_with fail
        refine (HN8.out w (Below.refl _ _)).mono ?_
        rintro e w1 ⟨rfl, hb1⟩
        have HG1 := hid (HGt.out w1 hb1)
        have Hb1 := hid hb1
        clear hb1
        go_wp2_with fail
        refine HG1.out.mono ?_
        rintro e w2 ⟨rfl, hb2⟩
        have Hb2 := hid (Below.step Hb1.out hb2 Hb1.out.size)
        have hz2 := Hb2.out.size
        clear hb2
        go_wp2_with fail
        go_ret
        exact ⟨rfl, Hb2.out.alloc hz2 _⟩
      | some x =>
        have hxc := (val_iff.1 hc).2 x (lk_some hlk).1
        have hlf : leafN s.xs k = hashL (oneT x.key x.ver x.gone x.text) := by unfold leafN; rw [hlk]
        rw [hlf] at HN8
        rw [hlk] at HGt
        simp only at HGt
        have hgd := chk_goodE hxc
        obtain ⟨x0, x1, x2, x3, x4⟩ := x
        have HE := hid (fun W (hW : Below w.heap.size w W) => hentry_any x0 x1 x2 x3 x4 hgd.2.2.2 W (HT.out W hW))
        rw [show entN ⟨x0, x1, x2, x3, x4⟩ = (hashL (oneT x0 x1 x3 x4) : Nat) from if_pos hxc, hxc] at HE
        unfold E.val at HGt
        simp only at HGt HN8
        have HN2 := hid (fun W (hW : Below w.heap.size w W) => HN.out 2 W hW)
        have HN3 := hid (fun W (hW : Below w.heap.size w W) => HN.out 3 W hW)
        have HN1 := hid (fun W (hW : Below w.heap.size w W) => HN.out 1 W hW)
        have u2 := tn_in hc (n := 2) (by omega) (by omega)
        have u3 := tn_in hc (n := 3) (by omega) (by omega)
        have u1 := tn_in hc (n := 1) (by omega) (by omega)
        rw [show ((2 : Nat) : Int) = 2 from rfl] at u2
        rw [show ((3 : Nat) : Int) = 3 from rfl] at u3
        rw [show ((1 : Nat) : Int) = 1 from rfl] at u1
        rw [u2.1, u2.2] at HN2
        rw [u3.1, u3.2] at HN3
        rw [u1.1, u1.2, nodeN_node (by omega) (by omega)] at HN1
        have l2 := nodeN_lt s.xs 2
        have l3 := nodeN_lt s.xs 3
        have HTw := hid (fun W (hW : Below w.heap.size w W) => two_any (nodeN s.xs 2) (nodeN s.xs 3) W (HT.out W hW))
        rw [show twoN (nodeN s.xs 2) (nodeN s.xs 3) = (hashL (pairT (nodeN s.xs 2) (nodeN s.xs 3)) : Nat) by rw [twoN, numB_true.2 (by omega), numB_true.2 (by omega)]; rfl, show twoE (nodeN s.xs 2) (nodeN s.xs 3) = 0 by rw [twoE, numB_true.2 (by omega), numB_true.2 (by omega)]; rfl] at HTw
        rw [show errV 0 = .nilIface from rfl] at HN8 HGt HE HN2 HN3 HN1 HTw
        rw [show 2 * 1 = 2 from rfl, show 2 + 1 = 3 from rfl] at HN1
        clear hlf hlk hgr t1 t2 hc hkB HN hxc u1 u2 u3 l2 l3 hgd
        generalize nodeN s.xs 2 = A at *
        generalize nodeN s.xs 3 = B at *
        generalize hashL (pairT A B) = h at *
        generalize hashL (oneT x0 x1 x3 x4) = h8 at *
        go_enter Tryd.func8, Tryd.ntmps8
        go_wp2_with fail
        refine (HN8.out w (Below.refl _ _)).mono ?_
        rintro e w1 ⟨rfl, hb1⟩
        have HG1 := hid (HGt.out w1 hb1)
        have Hb1 := hid hb1
        clear hb1
        go_wp2_with fail
        refine HG1.out.mono ?_
        rintro e w2 ⟨rfl, hb2⟩
        have Hb2 := hid (Below.step Hb1.out hb2 Hb1.out.size)
        have hz2 := Hb2.out.size
        clear hb2
        go_wp2_with fail
        have Hb2' := hid (Hb2.out.alloc hz2 (.cells #[.int .i64 x0, .int .i64 x1, .int .i64 x2, .bool x3, .string x4] 26))
        refine (HE.out _ Hb2'.out).mono ?_
        rintro e w3 ⟨rfl, hb3⟩
        have Hb3 := hid (Below.step Hb2'.out hb3 Hb2'.out.size)
        clear hb3
        go_wp2_with fail
        refine (HN2.out _ Hb3.out).mono ?_
        rintro e w4 ⟨rfl, hb4⟩
        have Hb4 := hid (Below.step Hb3.out hb4 Hb3.out.size)
        clear hb4
        go_wp2_with fail
        refine (HN3.out _ Hb4.out).mono ?_
        rintro e w5 ⟨rfl, hb5⟩
        have Hb5 := hid (Below.step Hb4.out hb5 Hb4.out.size)
        clear hb5
        go_wp2_with fail
        refine (HN1.out _ Hb5.out).mono ?_
        rintro e w6 ⟨rfl, hb6⟩
        have Hb6 := hid (Below.step Hb5.out hb6 Hb5.out.size)
        clear hb6
        go_wp2_with fail
        refine (HTw.out _ Hb6.out).mono ?_
        rintro e w7 ⟨rfl, hb7⟩
        have Hb7 := hid (Below.step Hb6.out hb7 Hb6.out.size)
        clear hb7
        go_wp2_with fail
        go_ret
        exact ⟨rfl, Hb7.out⟩
    · have HC := hid (fun W (hW : Below w.heap.size w W) => ccheck_any s W (HS.out W hW).entries)
      rw [show tnE s.xs (8 + (k : Int)) = chkC s.xs from if_pos (by omega), errV_ne hc] at HN8
      rw [errV_ne hc] at HC
      generalize chkC s.xs = en at *
      generalize tnN s.xs (8 + (k : Int)) = tn at *
      clear hc hkB HN
      go_enter Tryd.func8, Tryd.ntmps8
      go_wp2_with fail
      refine (HN8.out w (Below.refl _ _)).mono ?_
      rintro e w1 ⟨rfl, hb1⟩
      have HC1 := hid (HC.out w1 hb1)
      have Hb1 := hid hb1
      clear hb1
      go_wp2_with fail
      refine HC1.out.mono ?_
      rintro e w2 ⟨rfl, hb2⟩
      have Hb2 := hid (Below.step Hb1.out hb2 Hb1.out.size)
      clear hb2
      go_wp2_with fail
      go_ret
      exact ⟨rfl, Hb2.out⟩
  · have HN0 := hid (HN.out 0 w (Below.refl _ _))
    rw [show tnE s.xs 0 = 1 from if_neg (by omega), show tnN s.xs 0 = 0 from if_neg (by omega)] at HN0
    have HEr := hid (fun W (hW : Below w.heap.size w W) => error_any 1 1 W (HG.out W hW))
    clear HN
    rcases (show key < 0 ∨ (¬ key < 0 ∧ 7 < key) by omega) with h | ⟨h, h'⟩
    all_goals
      clear hk
      go_enter Tryd.func8, Tryd.ntmps8
      go_wp2_with fail
      refine HN0.out.mono ?_
      rintro e w1 ⟨rfl, hb1⟩
      have HE1 := hid (HEr.out w1 hb1)
      have Hb1 := hid hb1
      clear hb1
      go_wp2_with fail
      refine HE1.out.mono ?_
      rintro e w2 ⟨rfl, hb2⟩
      have Hb2 := hid (Below.step Hb1.out hb2 Hb1.out.size)
      clear hb2
      go_wp2_with fail
      go_ret
      exact ⟨rfl, Hb2.out⟩

set_option maxRecDepth 100000 in
theorem treeLeaf_walk : LawWalk Tryd.prog 8 Tryd.f8 (fun W => Tb W ∧ Gl W) := by
  intro W base args H enc ds p hval hA hgl
  rw [Tryd.params8] at hA hval
  obtain ⟨v0, v1, d0, d1, p0, p1, rfl, rfl, rfl, h0, h1⟩ := trodAll_two hA
  obtain ⟨s, rfl, hs⟩ := arg_slice Tryd.underlying22 codecEntry (pos_of_eq Tryd.cellsEntry (by decide)) (hval 0 22 v0 rfl rfl) h0
  obtain ⟨i, rfl, _⟩ := arg_int Tryd.underlying3 (hval 1 3 v1 rfl rfl) h1
  exact treeLeaf_any s i W (entriesAt_of hs).es hgl.1 hgl.2

set_option maxRecDepth 100000 in
theorem treeLeaf_lifted (os : Os) (started : os.Started) (H : Type) (enc : TypeId × Value → H) :
    ReturnsInHanded {} Tryd.checked os 8 .any (fun w args => (Rows.treeLeafSpec.pre enc Tryd.checked.prog Tryd.f8 [] false w args ∧ laidMetH Tryd.prog laid4 w) ∧ sizedMet enc Tryd.checked.prog Tryd.f8 (OpenSpec.ofChange Rows.treeLeafSpec) false w args) (Rows.treeLeafSpec.post enc Tryd.checked.prog Tryd.f8 false true false false) :=
  laid_lifted (C := Tryd.checked) laid4 (fun _ h => tb_of_laid4 h) [] Tryd.own started (by kernel_rfl) Tryd.func8 Tryd.laidOut (by kernel_rfl) rfl Tryd.underlying4 rfl (fun ds h => by match ds, h with | [_, _], _ => rfl)
    (ChangeSpec.witness_shaped (enc := enc) (C := Tryd.checked) (os := os) (X := fun w _ => laidMetH Tryd.prog laid4 w) false (World.doorLaid Tryd.prog 4000 os) #[.slice none 0 0, .int .i64 0] 8 rfl (World.shaped_of_RefB (by kernel_rfl) (by kernel_rfl)) (by kernel_rfl) (by kernel_rfl) (by kernel_rfl) (door_met4 os _)) treeLeaf_walk

theorem treeLeaf_row : Rows.TreeLeafSaid :=
  OpenClaim.holds_of_wide 8 Tryd.f8 rfl rfl rfl rfl rfl rfl rfl ⟨rfl, rfl, rfl, rfl, rfl⟩ rfl rfl rfl rfl rfl (by kernel_rfl) Tryd.func8 (by kernel_rfl)
    (of_decide_eq_true (by kernel_rfl)) (by unfold Func.isWrapper; rw [if_neg (of_decide_eq_false (by kernel_rfl))]; exact ⟨rfl, rfl⟩)
    (fun os started H enc _ => treeLeaf_lifted os started H enc)

theorem treeLeaf_holds : Rows.TreeLeafCardSaid :=
  Claim7.holds_tied_plain_at .later [] [.data, .data, .data, .handle] true _ true
    treeLeaf_row (fun _ h => by cases h) (by kernel_rfl) (fun _ h => by cases h) treeLeaf_row_tie rfl ⟨rfl, rfl⟩ (by kernel_rfl) rfl
    (fun f fn hf hfn => by
      obtain rfl : f = 8 := Option.some.inj ((show Tryd.prog.funcNamed "beaconmere/merelaw4.TreeLeaf" = some 8 by kernel_rfl).symm.trans hf) |>.symm
      obtain rfl : fn = Tryd.f8 := (Option.some.inj (Tryd.func8.symm.trans hfn)).symm
      refine ⟨by kernel_rfl, fun j t ht => ?_⟩
      have hall : Tryd.f8.params.toList.all (fun t => !Tryd.prog.wantsStandIn t) = true := by kernel_rfl
      have hm : t ∈ Tryd.f8.params.toList := by
        obtain ⟨hj, hje⟩ := Array.getElem?_eq_some_iff.1 ht
        rw [← hje]
        exact Array.mem_toList_iff.2 (Array.getElem_mem hj)
      have := List.all_eq_true.1 hall t hm
      exact (show Tryd.prog.wantsStandIn t = false by simpa using this))
    (by kernel_rfl)

end Go.Proofs.YthjbebngedajiaaDoor
