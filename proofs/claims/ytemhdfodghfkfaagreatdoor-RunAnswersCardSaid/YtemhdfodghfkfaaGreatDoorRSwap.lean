/-
  THE CONTRACTS of the references mereref1.Two, Node, Part. CONDITIONS: caches that are right (Node, Part).
  THE CONTRACTS of the references mereref2.Some and Swap. CONDITIONS: caches that are right (Swap).
  THE CONTRACTS of the references mereref1.All and mereref2.Swap over caches of the call's own: where the results lie. CONDITIONS: caches that are right (Swap).
-/
import Derived.Test.YtemhdfodghfkfaaGreatDoorTree3
import Derived.Test.YtemhdfodghfkfaaGreatDoorRHash
import Derived.Test.YtemhdfodghfkfaaGreatDoorRAll
import Derived.Deep.DeepCutAuto
import Derived.Deep.CutBlock
import Derived.Test.YtemhdfodghfkfaaGreatDoorSwap
import Derived.Test.YtemhdfodghfkfaaGreatDoorRowE
namespace Go.Proofs.YtemhdfodghfkfaaGreatDoor
open Go.RowKit
open Go.ChangeShapes Go.WideShapes Go.ChangeAt

/-- The fault of two. -/
def twoC (a b : List E) : Int := if chkC a = 0 then chkC b else chkC a
theorem twoC_zero {a b : List E} (h : twoC a b = 0) : chkC a = 0 ∧ chkC b = 0 := by
  unfold twoC at h
  split at h
  · exact ⟨by assumption, h⟩
  · exact absurd h (by assumption)
set_option maxHeartbeats 4000000 in
set_option maxRecDepth 100000 in
theorem rtnode_any (s : SlV E) (hv : chkC s.xs = 0) : ∀ (m i : Nat), 16 - i ≤ m → 1 ≤ i → i < 16 → ∀ (w : World), EsAt w s →
    Calls Tryz.prog 87 #[.slice s.A s.xs.length s.c, .int .i64 i] w fun e w' => e = .returned (.int .i64 (nodeN s.xs i : Nat)) ∧ Below w.heap.size w w'
  | 0, i, h, _, h16 => by omega
  | m + 1, i, h, h1, h16 => by
    intro w hs
    by_cases h8 : 8 ≤ i
    · have HG := hid (fun W (hW : Below w.heap.size w W) => rget_any s ((i : Int) - 8) W (hs.stays hW).entries)
      have hlf := nodeN_leaf (l := s.xs) h8
      unfold leafN at hlf
      rw [show ((i - 8 : Nat) : Int) = (i : Int) - 8 by omega] at hlf
      unfold rget at HG
      cases hlk : lk s.xs ((i : Int) - 8) with
      | none =>
        rw [hlk] at hlf HG
        rw [hlf]
        simp only at HG
        rw [show E.zero.val = .agg #[.int .i64 0, .int .i64 0, .int .i64 0, .bool false, .string ⟨#[]⟩] from rfl] at HG
        have h8' : (8 : Int) ≤ (i : Int) := by omega
        clear hlf hlk hs
        go_enter Tryz.func87, Tryz.ntmps87
        go_wp2_with fail
        refine (HG.out _ (by (repeat (first | with_reducible exact Below.refl _ _ | with_reducible assumption | (with_reducible refine Below.drew ?_) | (with_reducible refine Below.manyDrew ?_ _) | ((with_reducible refine Below.alloc ?_ ?_ _); rotate_left; (focus (first | omega | (dsimp only; omega) | (simp; done) | (simp; omega)))) | ((with_reducible refine Below.setCell ?_ ?_ _); rotate_left; (focus (first | omega | (dsimp only; omega) | (simp; done) | (simp; omega)))) | ((with_reducible refine Below.step ?_ (by assumption) ?_); rotate_left; (focus (first | omega | (dsimp only; omega) | (simp; done) | (simp; omega)))))))).mono ?_
        rintro e w1 ⟨rfl, hb1⟩
        have hz1 := hb1.size
        go_wp2_with fail
        go_ret
        exact ⟨rfl, by (repeat (first | with_reducible exact Below.refl _ _ | with_reducible assumption | (with_reducible refine Below.drew ?_) | (with_reducible refine Below.manyDrew ?_ _) | ((with_reducible refine Below.alloc ?_ ?_ _); rotate_left; (focus (first | omega | (dsimp only; omega) | (simp; done) | (simp; omega)))) | ((with_reducible refine Below.setCell ?_ ?_ _); rotate_left; (focus (first | omega | (dsimp only; omega) | (simp; done) | (simp; omega)))) | ((with_reducible refine Below.step ?_ (by assumption) ?_); rotate_left; (focus (first | omega | (dsimp only; omega) | (simp; done) | (simp; omega))))))⟩
      | some x =>
        rw [hlk] at hlf HG
        rw [hlf]
        simp only at HG ⊢
        obtain ⟨hI0, hI1, h12, hk0, hk8⟩ := chk_hash ((val_iff.1 hv).2 x (lk_some hlk).1)
        obtain ⟨_, hv0, _⟩ := chk_zero.1 ((val_iff.1 hv).2 x (lk_some hlk).1)
        have hv1 := seqB_true.1 hv0
        have hxk := (lk_some hlk).2
        obtain ⟨xk, xv, xa, xg, xt⟩ := x
        simp only at hI0 hI1 h12 hk0 hk8 hv1 hxk
        obtain ⟨k, rfl⟩ := Int.eq_ofNat_of_zero_le hk0
        obtain ⟨v, rfl⟩ := Int.eq_ofNat_of_zero_le hv1.1
        have HO := hid (fun W => rone_any k v xa xg xt (by omega) (by omega) h12 W)
        unfold E.val at HG
        simp only at HG ⊢
        have h8' : (8 : Int) ≤ (i : Int) := by omega
        clear hlf hlk hs hI0 hI1 hv0 hxk
        go_enter Tryz.func87, Tryz.ntmps87
        go_wp2_with fail
        refine (HG.out _ (by (repeat (first | with_reducible exact Below.refl _ _ | with_reducible assumption | (with_reducible refine Below.drew ?_) | (with_reducible refine Below.manyDrew ?_ _) | ((with_reducible refine Below.alloc ?_ ?_ _); rotate_left; (focus (first | omega | (dsimp only; omega) | (simp; done) | (simp; omega)))) | ((with_reducible refine Below.setCell ?_ ?_ _); rotate_left; (focus (first | omega | (dsimp only; omega) | (simp; done) | (simp; omega)))) | ((with_reducible refine Below.step ?_ (by assumption) ?_); rotate_left; (focus (first | omega | (dsimp only; omega) | (simp; done) | (simp; omega)))))))).mono ?_
        rintro e w1 ⟨rfl, hb1⟩
        have hz1 := hb1.size
        go_wp2_with fail
        refine (HO.out _).mono ?_
        rintro e w2 ⟨rfl, hb2⟩
        go_wp2_with fail
        go_ret
        exact ⟨rfl, by (repeat (first | with_reducible exact Below.refl _ _ | with_reducible assumption | (with_reducible refine Below.drew ?_) | (with_reducible refine Below.manyDrew ?_ _) | ((with_reducible refine Below.alloc ?_ ?_ _); rotate_left; (focus (first | omega | (dsimp only; omega) | (simp; done) | (simp; omega)))) | ((with_reducible refine Below.setCell ?_ ?_ _); rotate_left; (focus (first | omega | (dsimp only; omega) | (simp; done) | (simp; omega)))) | ((with_reducible refine Below.step ?_ (by assumption) ?_); rotate_left; (focus (first | omega | (dsimp only; omega) | (simp; done) | (simp; omega))))))⟩
    · have IH := hid (rtnode_any s hv m)
      have HF := hid (nodeN_node (l := s.xs) h1 (by omega))
      have hl1 := nodeN_lt s.xs (2 * i)
      have hl2 := nodeN_lt s.xs (2 * i + 1)
      have HP := hid (fun W => rpair_any (nodeN s.xs (2 * i)) (nodeN s.xs (2 * i + 1)) hl1 hl2 W)
      have HI1 := hid (IH.out (2 * i) (by omega) (by omega) (by omega) w hs)
      have HI2 := hid (fun W (hW : Below w.heap.size w W) => IH.out (2 * i + 1) (by omega) (by omega) (by omega) W (hs.stays hW))
      rw [show (((2 * i : Nat)) : Int) = 2 * (i : Int) by omega] at HI1
      rw [show (((2 * i + 1 : Nat)) : Int) = 2 * (i : Int) + 1 by omega] at HI2
      rw [HF.out]
      have h8' : ¬ (8 : Int) ≤ (i : Int) := by omega
      clear hs IH HF
      generalize nodeN s.xs (2 * i) = N1 at *
      generalize nodeN s.xs (2 * i + 1) = N2 at *
      go_enter Tryz.func87, Tryz.ntmps87
      go_wp2_with fail
      refine HI1.out.mono ?_
      rintro e w1 ⟨rfl, hb1⟩
      have HI3 := hid (HI2.out w1 hb1)
      go_wp2_with fail
      refine HI3.out.mono ?_
      rintro e w2 ⟨rfl, hb2⟩
      go_wp2_with fail
      refine (HP.out _).mono ?_
      rintro e w3 ⟨rfl, hb3⟩
      have hz1 := hb1.size
      have hz2 := hb2.size
      go_wp2_with fail
      go_ret
      exact ⟨rfl, by (repeat (first | with_reducible exact Below.refl _ _ | with_reducible assumption | (with_reducible refine Below.drew ?_) | (with_reducible refine Below.manyDrew ?_ _) | ((with_reducible refine Below.alloc ?_ ?_ _); rotate_left; (focus (first | omega | (dsimp only; omega) | (simp; done) | (simp; omega)))) | ((with_reducible refine Below.setCell ?_ ?_ _); rotate_left; (focus (first | omega | (dsimp only; omega) | (simp; done) | (simp; omega)))) | ((with_reducible refine Below.step ?_ (by assumption) ?_); rotate_left; (focus (first | omega | (dsimp only; omega) | (simp; done) | (simp; omega))))))⟩

/-- What Part tells, however it lies. -/
def PartR (w : World) (r : List Int × Nat) (e : Ending) (w' : World) : Prop :=
  ∃ q : SlV Int, e = .returned (.tuple #[.slice q.A q.xs.length q.c, .int .i64 r.2]) ∧ q.xs = r.1 ∧ IntsAt w' q ∧ Below w.heap.size w w'
theorem IntsAt.nil (w : World) : IntsAt w ⟨none, 0, []⟩ := IntsAt.bare _ _ _

set_option maxHeartbeats 8000000 in
set_option maxRecDepth 100000 in
theorem rpart_any (s t : SlV E) (hvs : chkC s.xs = 0) (hvt : chkC t.xs = 0) : ∀ (m i : Nat), 16 - i ≤ m → 1 ≤ i → i < 16 → ∀ (w : World), EsAt w s → EsAt w t →
    Calls Tryz.prog 59 #[.slice s.A s.xs.length s.c, .slice t.A t.xs.length t.c, .int .i64 i] w (PartR w (partT s.xs t.xs i))
  | 0, i, h, _, h16 => by omega
  | m + 1, i, h, h1, h16 => by
    intro w hs ht
    have HN1 := hid (rtnode_any s hvs 16 i (by omega) h1 h16 w hs)
    have HN2 := hid (fun W (hW : Below w.heap.size w W) => rtnode_any t hvt 16 i (by omega) h1 h16 W (ht.stays hW))
    by_cases he : nodeN s.xs i = nodeN t.xs i
    · have heb : (((nodeN s.xs i : Nat) : Int) == ((nodeN t.xs i : Nat) : Int)) = true := by rw [he]; simp
      rw [show partT s.xs t.xs i = ([], 1) from partF_eq (by unfold treeF; rw [he])]
      clear he hs ht
      generalize nodeN s.xs i = N1 at *
      generalize nodeN t.xs i = N2 at *
      go_enter Tryz.func59, Tryz.ntmps59
      go_wp2_with fail
      refine HN1.out.mono ?_
      rintro e w1 ⟨rfl, hb1⟩
      have HN3 := hid (HN2.out w1 hb1)
      go_wp2_with fail
      refine HN3.out.mono ?_
      rintro e w2 ⟨rfl, hb2⟩
      go_wp2_with fail
      go_ret2
      exact ⟨⟨none, 0, []⟩, rfl, rfl, IntsAt.nil _, Below.step hb1 hb2 hb1.size⟩
    · have heb : (((nodeN s.xs i : Nat) : Int) == ((nodeN t.xs i : Nat) : Int)) = false := by rw [beq_eq_false_iff_ne]; omega
      have hne : ¬ treeF s.xs i = treeF t.xs i := by unfold treeF; omega
      by_cases h8 : 8 ≤ i
      · rw [show partT s.xs t.xs i = ([(i : Int) - 8], 1) from partF_leaf hne (.inl h8)]
        have h8' : (8 : Int) ≤ (i : Int) := by omega
        clear he hs ht hne
        generalize nodeN s.xs i = N1 at *
        generalize nodeN t.xs i = N2 at *
        go_enter Tryz.func59, Tryz.ntmps59
        go_wp2_with fail
        refine HN1.out.mono ?_
        rintro e w1 ⟨rfl, hb1⟩
        have HN3 := hid (HN2.out w1 hb1)
        go_wp2_with fail
        refine HN3.out.mono ?_
        rintro e w2 ⟨rfl, hb2⟩
        have Hb2 := hid (Below.step hb1 hb2 hb1.size)
        have hz2 := Hb2.out.size
        go_wp2_with fail
        go_ret2
        refine ⟨⟨some ⟨w2.heap.size, 0, none⟩, 1, [(i : Int) - 8]⟩, rfl, rfl, intsAt_new w2 3 [(i : Int) - 8] (by simp), Hb2.out.alloc hz2 _⟩
      · have IH := hid (rpart_any s t hvs hvt m)
        have HF := hid (show partT s.xs t.xs i = ((partT s.xs t.xs (2 * i)).1 ++ (partT s.xs t.xs (2 * i + 1)).1, (partT s.xs t.xs (2 * i)).2 + (partT s.xs t.xs (2 * i + 1)).2 + 1) from partF_node hne (by omega))
        have HI1 := hid (fun W (hW : Below w.heap.size w W) => IH.out (2 * i) (by omega) (by omega) (by omega) W (hs.stays hW) (ht.stays hW))
        have HI2 := hid (fun W (hW : Below w.heap.size w W) => IH.out (2 * i + 1) (by omega) (by omega) (by omega) W (hs.stays hW) (ht.stays hW))
        rw [show (((2 * i : Nat)) : Int) = 2 * (i : Int) by omega] at HI1
        rw [show (((2 * i + 1 : Nat)) : Int) = 2 * (i : Int) + 1 by omega] at HI2
        have hs1 := partF_sz (f := treeF s.xs) (g := treeF t.xs) (2 * i) (by omega)
        have hs2 := partF_sz (f := treeF s.xs) (g := treeF t.xs) (2 * i + 1) (by omega)
        rw [show partF (treeF s.xs) (treeF t.xs) (2 * i) = partT s.xs t.xs (2 * i) from rfl] at hs1
        rw [show partF (treeF s.xs) (treeF t.xs) (2 * i + 1) = partT s.xs t.xs (2 * i + 1) from rfl] at hs2
        rw [HF.out]
        have h8' : ¬ (8 : Int) ≤ (i : Int) := by omega
        clear hs ht IH HF he hne
        generalize nodeN s.xs i = N1 at *
        generalize nodeN t.xs i = N2 at *
        generalize partT s.xs t.xs (2 * i) = P1 at *
        generalize partT s.xs t.xs (2 * i + 1) = P2 at *
        obtain ⟨K1, n1⟩ := P1
        obtain ⟨K2, n2⟩ := P2
        simp only at hs1 hs2 ⊢
        go_enter Tryz.func59, Tryz.ntmps59
        go_wp2_with fail
        refine HN1.out.mono ?_
        rintro e w1 ⟨rfl, hb1⟩
        have HN3 := hid (HN2.out w1 hb1)
        have Hb1 := hid hb1
        clear hb1
        go_wp2_with fail
        refine HN3.out.mono ?_
        rintro e w2 ⟨rfl, hb2⟩
        have Hb2 := hid (Below.step Hb1.out hb2 Hb1.out.size)
        clear hb2
        go_wp2_with fail
        refine (HI1.out _ Hb2.out).mono ?_
        rintro e w3 ⟨q1, rfl, hq1, hA1, hb3⟩
        have Hb3 := hid (Below.step Hb2.out hb3 Hb2.out.size)
        have Hq1 := hid hq1
        have HA1 := hid hA1
        clear hb3 hq1 hA1
        go_wp2_with fail
        refine (HI2.out _ Hb3.out).mono ?_
        rintro e w4 ⟨q2, rfl, hq2, hA2, hb4⟩
        have Hb4 := hid (Below.step Hb3.out hb4 Hb3.out.size)
        have Hq2 := hid hq2
        have HA2 := hid hA2
        have HA14 := hid (HA1.out.stays0 hb4)
        have hz4 := Hb4.out.size
        have hl1 : q1.xs.length ≤ 8 := by rw [Hq1.out]; exact hs1.1
        have hl2 : q2.xs.length ≤ 8 := by rw [Hq2.out]; exact hs2.1
        clear hb4 hq2 hA2 HA1
        go_wp2_with (at_builtin; refine appIs _ w4.heap.size _ [] q1 HA14.out (Ow.nil _ _ _ _ _) rfl _ _ rfl rfl rfl ?_ (Nat.le_refl _) ?_)
        · simp; omega
        intro v5 w5 h5 f5 o5
        have hb5 : Below w4.heap.size w4 w5 := f5.below0 (Nat.le_refl _) (fun i hi => by cases hi)
        have HA25 := hid (HA2.out.stays0 hb5)
        have Hb5 := hid (Below.step Hb4.out hb5 hz4)
        have H5 := hid h5
        have hz5 := hb5.size
        clear h5 f5 o5
        go_wp2_with (at_builtin; refine appIs _ w4.heap.size _ ([] ++ q1.xs) q2 HA25.out H5.out rfl _ _ rfl rfl rfl ?_ ?_ ?_)
        · simp; omega
        · exact hz5
        intro v6 w6 h6 f6 o6
        have hb6 : Below w4.heap.size w5 w6 := f6.below0 hz5 (fun i hi => H5.out.ge _ hi)
        obtain ⟨r, rfl, hrx, hrA, _, _⟩ := IntsAt.of_ow h6
        have Hr := hid hrx
        have HrA := hid hrA
        have Hb6 := hid (Hb5.out.trans (hb6.mono hz4))
        clear h6 f6 o6 hb6 hb5 hrx hrA
        go_wp2_with fail
        go_ret2
        refine ⟨r, ?_, ?_, HrA.out, Hb6.out⟩
        · congr 3
        · rw [Hr.out, Hq1.out, Hq2.out]
end Go.Proofs.YtemhdfodghfkfaaGreatDoor
namespace Go.Proofs.YtemhdfodghfkfaaGreatDoor
open Go.RowKit
open Go.ChangeShapes Go.WideShapes Go.ChangeAt

set_option maxHeartbeats 4000000 in
set_option maxRecDepth 100000 in
theorem rsome_any (s : SlV E) (K : SlV Int) (w : World) (hs : EsAt w s) (hK : IntsAt w K) (h8 : s.xs.length ≤ 100) :
    Calls Tryz.prog 61 #[.slice s.A s.xs.length s.c, .slice K.A K.xs.length K.c] w (SomeR w (someL s.xs K.xs)) := by
  have HC := hid (fun n W (hW : Below w.heap.size w W) => in_any K n W (hK.stays0 hW))
  go_enter Tryz.func61, Tryz.ntmps61
  go_wp2_with fail
  go_loopw [5, 6] (fun v i wr => ∃ j : Nat, j ≤ s.xs.length ∧ i = .int .i64 j ∧ Ow E.cells 5 w.heap.size 59 wr v (someL (s.xs.take j) K.xs) ∧ Below w.heap.size w wr) (fun _ i _ => s.xs.length - (intOf i).toNat)
  case atStart => exact ⟨0, Nat.zero_le _, rfl, Ow.nil _ _ _ _ _, Below.refl _ _⟩
  case round =>
    obtain ⟨j, hj, rfl, hO, hbr⟩ := hrel
    have hz0 := hbr.size
    have HO := hid hO
    clear hO
    by_cases hlt : j < s.xs.length
    · obtain ⟨g, off, hA, hg, hcells⟩ := hs.row (by omega)
      obtain ⟨k0, k1, k2, k3, k4⟩ := (hcells j hlt).stays hbr hg
      have htk := take_snocD E.zero hlt
      have hl1 : (someL (s.xs.take j) K.xs).length ≤ 100 := by
        have h1 := some_len (s.xs.take j) K.xs
        rw [List.length_take] at h1
        omega
      have hst : someL (s.xs.take (j + 1)) K.xs = if inL (s.xs.getD j E.zero).key K.xs = true then someL (s.xs.take j) K.xs ++ [s.xs.getD j E.zero] else someL (s.xs.take j) K.xs := by
        rw [htk]
        unfold someL inL
        rw [List.filter_append, List.filter_cons]
        split
        · rw [List.filter_nil]
        · rw [List.filter_nil, List.append_nil]
      generalize s.xs.getD j E.zero = x at *
      generalize someL (s.xs.take j) K.xs = L at *
      obtain ⟨xk, xv, xa, xg, xt⟩ := x
      simp only at k0 k1 k2 k3 k4 hst
      have HCk := hid (HC.out xk)
      have Hbr := hid hbr
      rw [hA]
      clear hA hcells htk hbr
      rcases hin : inL xk K.xs with _ | _
      · rw [hin, if_neg (by decide)] at hst
        rw [hin] at HCk
        have Hst := hid hst
        clear hst hin
        go_wp2_with fail
        refine (HCk.out _ Hbr.out).mono ?_
        rintro e w2 ⟨rfl, rfl⟩
        go_wp2_with fail
        go_roundw
        case rel => exact ⟨j + 1, by omega, by go_num, by rw [Hst.out]; exact HO.out, Hbr.out⟩
        case measure => simp [intOf]; omega
      · rw [hin, if_pos rfl] at hst
        rw [hin] at HCk
        have Hst := hid hst
        clear hst hin
        go_wp2_with fail
        refine (HCk.out _ Hbr.out).mono ?_
        rintro e w2 ⟨rfl, rfl⟩
        go_wp2_with (at_builtin; refine appE _ w.heap.size _ L xk xv xa xg xt HO.out rfl _ _ rfl rfl rfl ?_ ?_ ?_ ?_)
        any_goals (first | (with_reducible rfl) | omega | exact World.size_alloc _ _ | (show _ ≤ _; rw [World.size_alloc]; omega))
        intro v8 w8 hO8 f8 o8
        have hb8 : Below w.heap.size w w8 := Hbr.out.trans (f8.below0 hz0 (fun i hi => HO.out.ge _ hi))
        go_wp2_with fail
        go_roundw
        case rel => exact ⟨j + 1, by omega, by go_num, by rw [Hst.out]; exact hO8, hb8⟩
        case measure => simp [intOf]; omega
    · obtain rfl : j = s.xs.length := by omega
      rw [List.take_length] at HO
      go_wp2_with fail
      go_ret
      exact ⟨_, rfl, HO.out, hbr⟩

/-- What the reference's swap leaves. -/
def RPairR (w : World) (r : List E × List E × Int) (e : Ending) (w' : World) : Prop :=
  ∃ v u, e = .returned (.tuple #[v, u, .int .i64 r.2.2]) ∧ RowV w' v r.1 ∧ RowV w' u r.2.1 ∧ Below w.heap.size w w'
set_option maxHeartbeats 4000000 in
set_option maxRecDepth 100000 in
theorem rswp_any (s m : SlV E) (w : World) (hs : EsAt w s) (hm : EsAt w m) (hva : chkC s.xs = 0) (hvb : chkC m.xs = 0) :
    Calls Tryz.prog 37 #[.slice s.A s.xs.length s.c, .slice m.A m.xs.length m.c] w (RPairR w (pairR s.xs m.xs)) := by
  have HL := hid (rpart_any s m hva hvb 16 1 (by omega) (by omega) (by omega) w hs hm)
  have HS := hid (fun W (hW : Below w.heap.size w W) => hs.stays hW)
  have HM := hid (fun W (hW : Below w.heap.size w W) => hm.stays hW)
  clear hs hm
  unfold pairR
  rw [if_pos (show (diffR s.xs m.xs).2 = 0 by rw [diffR, if_pos hva, if_pos hvb])]
  have hla := (val_facts hva).2.2
  have hlb := (val_facts hvb).2.2
  have HSb := hid (fun (q : SlV Int) W (hW : Below w.heap.size w W) hq => rsome_any m q W (HM.out W hW) hq (by omega))
  have HSa := hid (fun (q : SlV Int) W (hW : Below w.heap.size w W) hq => rsome_any s q W (HS.out W hW) hq (by omega))
  have HAa := hid (fun (t : SlV E) W (hW : Below w.heap.size w W) ht (hv : chkC t.xs = 0) => rall_any s t W (HS.out W hW) ht hva hv)
  have HAb := hid (fun (t : SlV E) W (hW : Below w.heap.size w W) ht (hv : chkC t.xs = 0) => rall_any m t W (HM.out W hW) ht hvb hv)
  have hvb2 := some_val hvb (partT s.xs m.xs 1).1
  have hva2 := some_val hva (partT s.xs m.xs 1).1
  generalize partT s.xs m.xs 1 = PP at *
  obtain ⟨K, N⟩ := PP
  simp only at hvb2 hva2 HL ⊢
  have Hvb2 := hid hvb2
  have Hva2 := hid hva2
  clear hva hvb hla hlb hvb2 hva2
  by_cases h1 : (allC s.xs (someL m.xs K)).2 = 0
  case neg =>
    rw [if_neg h1]
    have hcb : ((allC s.xs (someL m.xs K)).2 != 0) = true := by rw [bne_iff_ne]; exact h1
    generalize hX : allC s.xs (someL m.xs K) = X at *
    have HX := hid hX
    clear h1 hX
    go_enter Tryz.func37, Tryz.ntmps37
    go_wp2_with fail
    refine HL.out.mono ?_
    rintro e w1 ⟨q, rfl, hqx, hqA, hb1⟩
    have Hqx := hid hqx
    have Hb1 := hid hb1
    have HSb1 := hid (HSb.out q w1 hb1 hqA)
    clear hqx hqA hb1
    go_wp2_with fail
    refine HSb1.out.mono ?_
    rintro e w2 ⟨v, rfl, hO, hb2⟩
    rw [Hqx.out] at hO
    obtain ⟨t, rfl, htx, htA⟩ := RowV.of_ow hO (val_good Hvb2.out)
    have Htx := hid htx
    have Hb2 := hid (Below.step Hb1.out hb2 Hb1.out.size)
    have HA := hid (HAa.out t w2 Hb2.out htA (by rw [Htx.out]; exact Hvb2.out))
    rw [Htx.out, HX.out] at HA
    clear hO htx htA hb2
    rw [Htx.out]
    go_wp2_with fail
    refine HA.out.mono ?_
    rintro e w3 ⟨u, rfl, _, _, hb3⟩
    have Hb3 := hid (Below.step Hb2.out hb3 Hb2.out.size)
    clear hb3
    go_wp2_with fail
    refine bodyPost_ret (v := .tuple #[.slice none 0 0, .slice none 0 0, .int .i64 X.2]) ?_ rfl ?_
    · simp [results, Tryz.results37, go_sem]
    · exact ⟨_, _, rfl, RowV.nil _, RowV.nil _, Hb3.out⟩
  case pos =>
  rw [if_pos h1]
  by_cases h2 : (allC m.xs (someL s.xs K)).2 = 0
  all_goals
    first
      | (rw [if_neg h2]; have hcb : ((allC m.xs (someL s.xs K)).2 != 0) = true := by rw [bne_iff_ne]; exact h2)
      | (rw [if_pos h2]; have hcb : ((allC m.xs (someL s.xs K)).2 != 0) = false := by rw [h2]; rfl)
    generalize hX : allC s.xs (someL m.xs K) = X at *
    generalize hY : allC m.xs (someL s.xs K) = Y at *
    have HX := hid hX
    have HY := hid hY
    have H1 := hid h1
    clear h1 hX hY h2
    go_enter Tryz.func37, Tryz.ntmps37
    go_wp2_with fail
    refine HL.out.mono ?_
    rintro e w1 ⟨q, rfl, hqx, hqA, hb1⟩
    have Hqx := hid hqx
    have Hb1 := hid hb1
    have HSb1 := hid (HSb.out q w1 hb1 hqA)
    have HqA := hid (fun W (hW : Below w1.heap.size w1 W) => hqA.stays0 hW)
    clear hqx hqA hb1
    go_wp2_with fail
    refine HSb1.out.mono ?_
    rintro e w2 ⟨v, rfl, hO, hb2⟩
    rw [Hqx.out] at hO
    obtain ⟨t, rfl, htx, htA⟩ := RowV.of_ow hO (val_good Hvb2.out)
    have Htx := hid htx
    have Hb12 := hid hb2
    have Hb2 := hid (Below.step Hb1.out hb2 Hb1.out.size)
    have HA := hid (HAa.out t w2 Hb2.out htA (by rw [Htx.out]; exact Hvb2.out))
    rw [Htx.out, HX.out] at HA
    clear hO htx htA hb2
    rw [Htx.out]
    go_wp2_with fail
    refine HA.out.mono ?_
    rintro e w3 ⟨p, rfl, hpx, hpA, hb3⟩
    rw [H1.out]
    have Hpx := hid hpx
    have HpA := hid (fun W (hW : Below w3.heap.size w3 W) => hpA.stays hW)
    have Hb13 := hid (Below.step Hb12.out hb3 Hb12.out.size)
    have Hb3 := hid (Below.step Hb2.out hb3 Hb2.out.size)
    have HSa3 := hid (HSa.out q w3 Hb3.out (HqA.out _ Hb13.out))
    clear hb3 hpx hpA
    go_wp2_with fail
    refine HSa3.out.mono ?_
    rintro e w4 ⟨v2, rfl, hO2, hb4⟩
    rw [Hqx.out] at hO2
    obtain ⟨t2, rfl, htx2, htA2⟩ := RowV.of_ow hO2 (val_good Hva2.out)
    have Htx2 := hid htx2
    have Hb34 := hid hb4
    have Hb4 := hid (Below.step Hb3.out hb4 Hb3.out.size)
    have HB := hid (HAb.out t2 w4 Hb4.out htA2 (by rw [Htx2.out]; exact Hva2.out))
    rw [Htx2.out, HY.out] at HB
    clear hO2 htx2 htA2 hb4
    rw [Htx2.out]
    go_wp2_with fail
    refine HB.out.mono ?_
    rintro e w5 ⟨p2, rfl, hpx2, hpA2, hb5⟩
    have Hpx2 := hid hpx2
    have HpA2 := hid hpA2
    have Hb35 := hid (Below.step Hb34.out hb5 Hb34.out.size)
    have Hb5 := hid (Below.step Hb4.out hb5 Hb4.out.size)
    clear hb5 hpx2 hpA2
    go_wp2_with fail
    first
      | (refine bodyPost_ret (v := .tuple #[.slice p.A p.xs.length p.c, .slice p2.A p2.xs.length p2.c, .int .i64 0]) (by simp [results, Tryz.results37, go_sem]) rfl ?_; exact ⟨_, _, rfl, ⟨p, rfl, Hpx.out, HpA.out _ Hb35.out⟩, ⟨p2, rfl, Hpx2.out, HpA2.out⟩, Hb5.out⟩)
      | (refine bodyPost_ret (v := .tuple #[.slice none 0 0, .slice none 0 0, .int .i64 Y.2]) (by simp [results, Tryz.results37, go_sem]) rfl ?_; exact ⟨_, _, rfl, RowV.nil _, RowV.nil _, Hb5.out⟩)
end Go.Proofs.YtemhdfodghfkfaaGreatDoor
namespace Go.Proofs.YtemhdfodghfkfaaGreatDoor
open Go.RowKit
open Go.ChangeShapes Go.WideShapes Go.ChangeAt

/-- a cache lies where another one lay, or in new memory -/
def NearE (w : World) (s r : SlV E) : Prop := ∀ i, foot r.val = some i → foot s.val = some i ∨ w.heap.size ≤ i
theorem NearE.refl (w : World) (s : SlV E) : NearE w s s := fun _ h => .inl h
theorem NearE.up {w w1 : World} {s r : SlV E} (h : NearE w1 s r) (hb : w.heap.size ≤ w1.heap.size) : NearE w s r := fun i hi => (h i hi).imp (fun h => h) (fun h => Nat.le_trans hb h)
def RLAt (base : Nat) (w : World) (s : SlV E) (r : List E × Int) (e : Ending) (w' : World) : Prop :=
  ∃ q : SlV E, e = .returned (.tuple #[.slice q.A q.xs.length q.c, .int .i64 r.2]) ∧ q.xs = r.1 ∧ OwnC base w' q ∧ NearE w s q ∧ Below w.heap.size w w'
set_option maxHeartbeats 4000000 in
set_option maxRecDepth 100000 in
theorem rall_at (base : Nat) (s m : SlV E) (w : World) (hB : base ≤ w.heap.size) (hs : OwnC base w s) (hm : EsAt w m) (hvs : chkC s.xs = 0) (hvm : chkC m.xs = 0) :
    Calls Tryz.prog 60 #[.slice s.A s.xs.length s.c, .slice m.A m.xs.length m.c] w (RLAt base w s (allC s.xs m.xs)) := by
  obtain ⟨_, _, hm8⟩ := val_facts hvm
  have Hvs := hid hvs
  have Hvm := hid hvm
  have Hs := hid hs
  generalize hR : allC s.xs m.xs = R
  have HR := hid hR
  clear hR hvs hvm hs
  go_enter Tryz.func60, Tryz.ntmps60
  go_wp2_with fail
  go_loopw [0, 6, 7] (fun u fv i wr => ∃ (k : Nat) (r : SlV E) (f : Int), k ≤ m.xs.length ∧ u = .slice r.A r.xs.length r.c ∧ fv = .int .i64 f ∧ i = .int .i64 k ∧ OwnC base wr r ∧ NearE w s r ∧ (f = 0 → chkC r.xs = 0 ∧ allC r.xs (m.xs.drop k) = R) ∧ (f ≠ 0 → R = (r.xs, f)) ∧ Below w.heap.size w wr) (fun _ _ i _ => m.xs.length - (intOf i).toNat)
  case atStart => exact ⟨0, s, 0, Nat.zero_le _, rfl, rfl, rfl, Hs.out, NearE.refl _ _, (fun _ => ⟨Hvs.out, HR.out⟩), (fun h => absurd rfl h), Below.refl _ _⟩
  case round =>
    obtain ⟨k, r, f, hk, rfl, rfl, rfl, hrA, hrN, h0, h1, hb⟩ := hrel
    have HrA := hid hrA
    have HrN := hid hrN
    have HB0 := hid (show base ≤ wr.heap.size from Nat.le_trans hB hb.size)
    have H0 := hid h0
    have H1 := hid h1
    have Hb := hid hb
    have hzb := hb.size
    clear hrA hrN h0 h1
    by_cases hf : f = 0
    · subst hf
      obtain ⟨hv, hRk⟩ := H0.out rfl
      by_cases hlt : k < m.xs.length
      · obtain ⟨g, off, hA, hgl, hcells⟩ := hm.row (by omega)
        obtain ⟨k0, k1, k2, k3, k4⟩ := (hcells k hlt).stays hb hgl
        have hych := (val_iff.1 Hvm.out).2 _ (getD_memD E.zero hlt)
        rw [drop_consD E.zero hlt, allC] at hRk
        rw [hA]
        generalize m.xs.getD k E.zero = y at *
        obtain ⟨y0, y1, y2, y3, y4⟩ := y
        simp only at k0 k1 k2 k3 k4
        have HAd := hid (radd_any r y0 y1 y2 y3 y4 wr HrA.out.es (val_facts hv).2.2)
        rw [radd_addC hv] at HAd
        have hkey := (addC_key hv hych).2
        have hnil := addC_nil (l := r.xs) (e := ⟨y0, y1, y2, y3, y4⟩)
        generalize addC r.xs ⟨y0, y1, y2, y3, y4⟩ = A at *
        obtain ⟨l2, f2⟩ := A
        have Hkey := hid hkey
        have HRk := hid hRk
        have Hnil := hid hnil
        clear hcells hA hych hb hv hkey hRk hnil
        go_wp2_with fail
        refine HAd.out.mono ?_
        rintro e w2 ⟨v2, rfl, hOw2, hb2⟩
        have hl2g : ∀ e ∈ l2, e.good := by
          by_cases hf2 : f2 = 0
          · exact val_good (Hkey.out hf2).1
          · rw [show l2 = [] from Hnil.out hf2]
            simp
        obtain ⟨r2, rfl, hr2x, hr2A⟩ := OwnC.of_ow (hOw2.mono HB0.out) hl2g
        have Hr2N := hid (show NearE w s r2 from fun i hi => .inr (Nat.le_trans hzb (hOw2.ge i hi.symm)))
        have Hb2 := hid (Below.step Hb.out hb2 hzb)
        have Hr2x := hid hr2x
        have Hr2A := hid hr2A
        clear hr2x hr2A hOw2 hb2
        go_wp2_with fail
        go_roundw
        case rel =>
          refine ⟨k + 1, r2, f2, by omega, rfl, rfl, by go_num, Hr2A.out, Hr2N.out, (fun hf2 => ?_), (fun hf2 => ?_), Hb2.out⟩
          · rw [Hr2x.out]
            have := HRk.out
            rw [if_pos (show (l2, f2).2 = 0 from hf2)] at this
            exact ⟨(Hkey.out hf2).1, this⟩
          · rw [Hr2x.out]
            have := HRk.out
            rw [if_neg (show ¬ (l2, f2).2 = 0 from hf2)] at this
            rw [show l2 = [] from Hnil.out hf2]
            exact this.symm
        case measure => simp [intOf]; omega
      · obtain rfl : k = m.xs.length := by omega
        rw [List.drop_length] at hRk
        have HRk := hid (show R = (r.xs, 0) from hRk.symm)
        clear hb hv hRk
        go_wp2_with fail
        go_ret2
        rw [HRk.out]
        exact ⟨r, rfl, rfl, HrA.out, HrN.out, Hb.out⟩
    · have hRk := H1.out hf
      have HRk := hid hRk
      have hfb : (f == 0) = false := by simpa using hf
      clear hb hRk hf
      go_wp2_with fail
      all_goals
        go_ret2
        rw [HRk.out]
        exact ⟨r, rfl, rfl, HrA.out, HrN.out, Hb.out⟩
/-- what a swap without a clash leaves -/
def RPairAt (base : Nat) (w : World) (s m : SlV E) (r : List E × List E × Int) (e : Ending) (w' : World) : Prop :=
  ∃ p q : SlV E, e = .returned (.tuple #[.slice p.A p.xs.length p.c, .slice q.A q.xs.length q.c, .int .i64 0]) ∧ p.xs = r.1 ∧ q.xs = r.2.1 ∧ OwnC base w' p ∧ OwnC base w' q ∧ NearE w s p ∧ NearE w m q ∧ Below w.heap.size w w'
set_option maxHeartbeats 4000000 in
set_option maxRecDepth 100000 in
theorem rpair_at (base : Nat) (s m : SlV E) (w : World) (hB : base ≤ w.heap.size) (hs : OwnC base w s) (hm : OwnC base w m) (hva : chkC s.xs = 0) (hvb : chkC m.xs = 0) (h1 : (allC s.xs (someL m.xs (partT s.xs m.xs 1).1)).2 = 0) (h2 : (allC m.xs (someL s.xs (partT s.xs m.xs 1).1)).2 = 0) :
    Calls Tryz.prog 37 #[.slice s.A s.xs.length s.c, .slice m.A m.xs.length m.c] w (RPairAt base w s m (pairR s.xs m.xs)) := by
  have HL := hid (rpart_any s m hva hvb 16 1 (by omega) (by omega) (by omega) w hs.es hm.es)
  have HS := hid (fun W (hW : Below w.heap.size w W) => hs.belowS hW)
  have HM := hid (fun W (hW : Below w.heap.size w W) => hm.belowS hW)
  have HB := hid (fun W (hW : Below w.heap.size w W) => Nat.le_trans hB hW.size)
  clear hs hm hB
  unfold pairR
  rw [if_pos (show (diffR s.xs m.xs).2 = 0 by rw [diffR, if_pos hva, if_pos hvb])]
  have hla := (val_facts hva).2.2
  have hlb := (val_facts hvb).2.2
  have HSb := hid (fun (q : SlV Int) W (hW : Below w.heap.size w W) hq => rsome_any m q W (HM.out W hW).es hq (by omega))
  have HSa := hid (fun (q : SlV Int) W (hW : Below w.heap.size w W) hq => rsome_any s q W (HS.out W hW).es hq (by omega))
  have HAa := hid (fun (t : SlV E) W (hW : Below w.heap.size w W) ht (hv : chkC t.xs = 0) => rall_at base s t W (HB.out W hW) (HS.out W hW) ht hva hv)
  have HAb := hid (fun (t : SlV E) W (hW : Below w.heap.size w W) ht (hv : chkC t.xs = 0) => rall_at base m t W (HB.out W hW) (HM.out W hW) ht hvb hv)
  have hvb2 := some_val hvb (partT s.xs m.xs 1).1
  have hva2 := some_val hva (partT s.xs m.xs 1).1
  generalize partT s.xs m.xs 1 = PP at *
  obtain ⟨K, N⟩ := PP
  simp only at hvb2 hva2 HL h1 h2 ⊢
  have Hvb2 := hid hvb2
  have Hva2 := hid hva2
  clear hva hvb hla hlb hvb2 hva2
  rw [if_pos h1, if_pos h2]
  generalize hX : allC s.xs (someL m.xs K) = X at *
  generalize hY : allC m.xs (someL s.xs K) = Y at *
  have HX := hid hX
  have HY := hid hY
  have H1 := hid h1
  have H2 := hid h2
  clear h1 hX hY h2
  go_enter Tryz.func37, Tryz.ntmps37
  go_wp2_with fail
  refine HL.out.mono ?_
  rintro e w1 ⟨q, rfl, hqx, hqA, hb1⟩
  have Hqx := hid hqx
  have Hb1 := hid hb1
  have HSb1 := hid (HSb.out q w1 hb1 hqA)
  have HqA := hid (fun W (hW : Below w1.heap.size w1 W) => hqA.stays0 hW)
  clear hqx hqA hb1
  go_wp2_with fail
  refine HSb1.out.mono ?_
  rintro e w2 ⟨v, rfl, hO, hb2⟩
  rw [Hqx.out] at hO
  obtain ⟨t, rfl, htx, htA⟩ := RowV.of_ow hO (val_good Hvb2.out)
  have Htx := hid htx
  have Hb12 := hid hb2
  have Hb2 := hid (Below.step Hb1.out hb2 Hb1.out.size)
  have HA := hid (HAa.out t w2 Hb2.out htA (by rw [Htx.out]; exact Hvb2.out))
  rw [Htx.out, HX.out] at HA
  clear hO htx htA hb2
  rw [Htx.out]
  go_wp2_with fail
  refine HA.out.mono ?_
  rintro e w3 ⟨p, rfl, hpx, hpA, hpN, hb3⟩
  rw [H1.out]
  have Hpx := hid hpx
  have HpN := hid (hpN.up Hb2.out.size)
  have HpA := hid (fun W (hW : Below w3.heap.size w3 W) => hpA.belowS hW)
  have Hb13 := hid (Below.step Hb12.out hb3 Hb12.out.size)
  have Hb3 := hid (Below.step Hb2.out hb3 Hb2.out.size)
  have HSa3 := hid (HSa.out q w3 Hb3.out (HqA.out _ Hb13.out))
  clear hb3 hpx hpA hpN
  go_wp2_with fail
  refine HSa3.out.mono ?_
  rintro e w4 ⟨v2, rfl, hO2, hb4⟩
  rw [Hqx.out] at hO2
  obtain ⟨t2, rfl, htx2, htA2⟩ := RowV.of_ow hO2 (val_good Hva2.out)
  have Htx2 := hid htx2
  have Hb34 := hid hb4
  have Hb4 := hid (Below.step Hb3.out hb4 Hb3.out.size)
  have HB4 := hid (HAb.out t2 w4 Hb4.out htA2 (by rw [Htx2.out]; exact Hva2.out))
  rw [Htx2.out, HY.out] at HB4
  clear hO2 htx2 htA2 hb4
  rw [Htx2.out]
  go_wp2_with fail
  refine HB4.out.mono ?_
  rintro e w5 ⟨p2, rfl, hpx2, hpA2, hpN2, hb5⟩
  rw [H2.out]
  have Hpx2 := hid hpx2
  have HpA2 := hid hpA2
  have HpN2 := hid (hpN2.up Hb4.out.size)
  have Hb35 := hid (Below.step Hb34.out hb5 Hb34.out.size)
  have Hb5 := hid (Below.step Hb4.out hb5 Hb4.out.size)
  clear hb5 hpx2 hpA2 hpN2
  go_wp2_with fail
  refine bodyPost_ret (v := .tuple #[.slice p.A p.xs.length p.c, .slice p2.A p2.xs.length p2.c, .int .i64 0]) (by simp [results, Tryz.results37, go_sem]) rfl ?_
  exact ⟨p, p2, rfl, Hpx.out, Hpx2.out, HpA.out _ Hb35.out, HpA2.out, HpN.out, HpN2.out, Hb5.out⟩
end Go.Proofs.YtemhdfodghfkfaaGreatDoor
