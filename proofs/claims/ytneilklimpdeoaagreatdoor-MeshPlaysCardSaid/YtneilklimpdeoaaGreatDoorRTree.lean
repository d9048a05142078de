/-
  THE CONTRACTS of the references mereref1.Two, Node, Part. CONDITIONS: caches that are right (Node, Part).
-/
import Derived.Test.YtneilklimpdeoaaGreatDoorTree3
import Derived.Test.YtneilklimpdeoaaGreatDoorRHash
import Derived.Test.YtneilklimpdeoaaGreatDoorRCache
import Derived.Deep.DeepCutAuto
import Derived.Deep.CutBlock
namespace Go.Proofs.YtneilklimpdeoaaGreatDoor
open Go.RowKit
open Go.ChangeShapes Go.WideShapes Go.ChangeAt

/-- The fault of two. -/
def twoC (a b : List E) : Int := if chkC a = 0 then chkC b else chkC a
theorem twoC_zero {a b : List E} (h : twoC a b = 0) : chkC a = 0 ∧ chkC b = 0 := by
  unfold twoC at h
  split at h
  · exact ⟨by assumption, h⟩
  · exact absurd h (by assumption)
set_option maxHeartbeats 4000000 in
set_option maxRecDepth 100000 in
theorem rnode_any (s : SlV E) (hv : chkC s.xs = 0) : ∀ (m i : Nat), 16 - i ≤ m → 1 ≤ i → i < 16 → ∀ (w : World), EsAt w s →
    Calls Tryz.prog 60 #[.slice s.A s.xs.length s.c, .int .i64 i] w fun e w' => e = .returned (.int .i64 (nodeN s.xs i : Nat)) ∧ Below w.heap.size w w'
  | 0, i, h, _, h16 => by omega
  | m + 1, i, h, h1, h16 => by
    intro w hs
    by_cases h8 : 8 ≤ i
    · have HG := hid (fun W (hW : Below w.heap.size w W) => rget_any s ((i : Int) - 8) W (hs.stays hW).entries)
      have hlf := nodeN_leaf (l := s.xs) h8
      unfold leafN at hlf
      rw [show ((i - 8 : Nat) : Int) = (i : Int) - 8 by omega] at hlf
      unfold rget at HG
      cases hlk : lk s.xs ((i : Int) - 8) with
      | none =>
        rw [hlk] at hlf HG
        rw [hlf]
        simp only at HG
        rw [show E.zero.val = .agg #[.int .i64 0, .int .i64 0, .int .i64 0, .bool false, .string ⟨#[]⟩] from rfl] at HG
        have h8' : (8 : Int) ≤ (i : Int) := by omega
        clear hlf hlk hs
        go_enter Tryz.func60, Tryz.ntmps60
        go_wp2_with fail
        refine (HG.out _ (by (repeat (first | with_reducible exact Below.refl _ _ | with_reducible assumption | (with_reducible refine Below.drew ?_) | (with_reducible refine Below.manyDrew ?_ _) | ((with_reducible refine Below.alloc ?_ ?_ _); rotate_left; (focus (first | omega | (dsimp only; omega) | (simp; done) | (simp; omega)))) | ((with_reducible refine Below.setCell ?_ ?_ _); rotate_left; (focus (first | omega | (dsimp only; omega) | (simp; done) | (simp; omega)))) | ((with_reducible refine Below.step ?_ (by assumption) ?_); rotate_left; (focus (first | omega | (dsimp only; omega) | (simp; done) | (simp; omega)))))))).mono ?_
        rintro e w1 ⟨rfl, hb1⟩
        have hz1 := hb1.size
        go_wp2_with fail
        go_ret
        exact ⟨rfl, by (repeat (first | with_reducible exact Below.refl _ _ | with_reducible assumption | (with_reducible refine Below.drew ?_) | (with_reducible refine Below.manyDrew ?_ _) | ((with_reducible refine Below.alloc ?_ ?_ _); rotate_left; (focus (first | omega | (dsimp only; omega) | (simp; done) | (simp; omega)))) | ((with_reducible refine Below.setCell ?_ ?_ _); rotate_left; (focus (first | omega | (dsimp only; omega) | (simp; done) | (simp; omega)))) | ((with_reducible refine Below.step ?_ (by assumption) ?_); rotate_left; (focus (first | omega | (dsimp only; omega) | (simp; done) | (simp; omega))))))⟩
      | some x =>
        rw [hlk] at hlf HG
        rw [hlf]
        simp only at HG ⊢
        obtain ⟨hI0, hI1, h12, hk0, hk8⟩ := chk_hash ((val_iff.1 hv).2 x (lk_some hlk).1)
        obtain ⟨_, hv0, _⟩ := chk_zero.1 ((val_iff.1 hv).2 x (lk_some hlk).1)
        have hv1 := seqB_true.1 hv0
        have hxk := (lk_some hlk).2
        obtain ⟨xk, xv, xa, xg, xt⟩ := x
        simp only at hI0 hI1 h12 hk0 hk8 hv1 hxk
        obtain ⟨k, rfl⟩ := Int.eq_ofNat_of_zero_le hk0
        obtain ⟨v, rfl⟩ := Int.eq_ofNat_of_zero_le hv1.1
        have HO := hid (fun W => rone_any k v xa xg xt (by omega) (by omega) h12 W)
        unfold E.val at HG
        simp only at HG ⊢
        have h8' : (8 : Int) ≤ (i : Int) := by omega
        clear hlf hlk hs hI0 hI1 hv0 hxk
        go_enter Tryz.func60, Tryz.ntmps60
        go_wp2_with fail
        refine (HG.out _ (by (repeat (first | with_reducible exact Below.refl _ _ | with_reducible assumption | (with_reducible refine Below.drew ?_) | (with_reducible refine Below.manyDrew ?_ _) | ((with_reducible refine Below.alloc ?_ ?_ _); rotate_left; (focus (first | omega | (dsimp only; omega) | (simp; done) | (simp; omega)))) | ((with_reducible refine Below.setCell ?_ ?_ _); rotate_left; (focus (first | omega | (dsimp only; omega) | (simp; done) | (simp; omega)))) | ((with_reducible refine Below.step ?_ (by assumption) ?_); rotate_left; (focus (first | omega | (dsimp only; omega) | (simp; done) | (simp; omega)))))))).mono ?_
        rintro e w1 ⟨rfl, hb1⟩
        have hz1 := hb1.size
        go_wp2_with fail
        refine (HO.out _).mono ?_
        rintro e w2 ⟨rfl, hb2⟩
        go_wp2_with fail
        go_ret
        exact ⟨rfl, by (repeat (first | with_reducible exact Below.refl _ _ | with_reducible assumption | (with_reducible refine Below.drew ?_) | (with_reducible refine Below.manyDrew ?_ _) | ((with_reducible refine Below.alloc ?_ ?_ _); rotate_left; (focus (first | omega | (dsimp only; omega) | (simp; done) | (simp; omega)))) | ((with_reducible refine Below.setCell ?_ ?_ _); rotate_left; (focus (first | omega | (dsimp only; omega) | (simp; done) | (simp; omega)))) | ((with_reducible refine Below.step ?_ (by assumption) ?_); rotate_left; (focus (first | omega | (dsimp only; omega) | (simp; done) | (simp; omega))))))⟩
    · have IH := hid (rnode_any s hv m)
      have HF := hid (nodeN_node (l := s.xs) h1 (by omega))
      have hl1 := nodeN_lt s.xs (2 * i)
      have hl2 := nodeN_lt s.xs (2 * i + 1)
      have HP := hid (fun W => rpair_any (nodeN s.xs (2 * i)) (nodeN s.xs (2 * i + 1)) hl1 hl2 W)
      have HI1 := hid (IH.out (2 * i) (by omega) (by omega) (by omega) w hs)
      have HI2 := hid (fun W (hW : Below w.heap.size w W) => IH.out (2 * i + 1) (by omega) (by omega) (by omega) W (hs.stays hW))
      rw [show (((2 * i : Nat)) : Int) = 2 * (i : Int) by omega] at HI1
      rw [show (((2 * i + 1 : Nat)) : Int) = 2 * (i : Int) + 1 by omega] at HI2
      rw [HF.out]
      have h8' : ¬ (8 : Int) ≤ (i : Int) := by omega
      clear hs IH HF
      generalize nodeN s.xs (2 * i) = N1 at *
      generalize nodeN s.xs (2 * i + 1) = N2 at *
      go_enter Tryz.func60, Tryz.ntmps60
      go_wp2_with fail
      refine HI1.out.mono ?_
      rintro e w1 ⟨rfl, hb1⟩
      have HI3 := hid (HI2.out w1 hb1)
      go_wp2_with fail
      refine HI3.out.mono ?_
      rintro e w2 ⟨rfl, hb2⟩
      go_wp2_with fail
      refine (HP.out _).mono ?_
      rintro e w3 ⟨rfl, hb3⟩
      have hz1 := hb1.size
      have hz2 := hb2.size
      go_wp2_with fail
      go_ret
      exact ⟨rfl, by (repeat (first | with_reducible exact Below.refl _ _ | with_reducible assumption | (with_reducible refine Below.drew ?_) | (with_reducible refine Below.manyDrew ?_ _) | ((with_reducible refine Below.alloc ?_ ?_ _); rotate_left; (focus (first | omega | (dsimp only; omega) | (simp; done) | (simp; omega)))) | ((with_reducible refine Below.setCell ?_ ?_ _); rotate_left; (focus (first | omega | (dsimp only; omega) | (simp; done) | (simp; omega)))) | ((with_reducible refine Below.step ?_ (by assumption) ?_); rotate_left; (focus (first | omega | (dsimp only; omega) | (simp; done) | (simp; omega))))))⟩

/-- What Part tells, however it lies. -/
def PartR (w : World) (r : List Int × Nat) (e : Ending) (w' : World) : Prop :=
  ∃ q : SlV Int, e = .returned (.tuple #[.slice q.A q.xs.length q.c, .int .i64 r.2]) ∧ q.xs = r.1 ∧ IntsAt w' q ∧ Below w.heap.size w w'
theorem IntsAt.nil (w : World) : IntsAt w ⟨none, 0, []⟩ := IntsAt.bare _ _ _

set_option maxHeartbeats 8000000 in
set_option maxRecDepth 100000 in
theorem rpart_any (s t : SlV E) (hvs : chkC s.xs = 0) (hvt : chkC t.xs = 0) : ∀ (m i : Nat), 16 - i ≤ m → 1 ≤ i → i < 16 → ∀ (w : World), EsAt w s → EsAt w t →
    Calls Tryz.prog 45 #[.slice s.A s.xs.length s.c, .slice t.A t.xs.length t.c, .int .i64 i] w (PartR w (partT s.xs t.xs i))
  | 0, i, h, _, h16 => by omega
  | m + 1, i, h, h1, h16 => by
    intro w hs ht
    have HN1 := hid (rnode_any s hvs 16 i (by omega) h1 h16 w hs)
    have HN2 := hid (fun W (hW : Below w.heap.size w W) => rnode_any t hvt 16 i (by omega) h1 h16 W (ht.stays hW))
    by_cases he : nodeN s.xs i = nodeN t.xs i
    · have heb : (((nodeN s.xs i : Nat) : Int) == ((nodeN t.xs i : Nat) : Int)) = true := by rw [he]; simp
      rw [show partT s.xs t.xs i = ([], 1) from partF_eq (by unfold treeF; rw [he])]
      clear he hs ht
      generalize nodeN s.xs i = N1 at *
      generalize nodeN t.xs i = N2 at *
      go_enter Tryz.func45, Tryz.ntmps45
      go_wp2_with fail
      refine HN1.out.mono ?_
      rintro e w1 ⟨rfl, hb1⟩
      have HN3 := hid (HN2.out w1 hb1)
      go_wp2_with fail
      refine HN3.out.mono ?_
      rintro e w2 ⟨rfl, hb2⟩
      go_wp2_with fail
      go_ret2
      exact ⟨⟨none, 0, []⟩, rfl, rfl, IntsAt.nil _, Below.step hb1 hb2 hb1.size⟩
    · have heb : (((nodeN s.xs i : Nat) : Int) == ((nodeN t.xs i : Nat) : Int)) = false := by rw [beq_eq_false_iff_ne]; omega
      have hne : ¬ treeF s.xs i = treeF t.xs i := by unfold treeF; omega
      by_cases h8 : 8 ≤ i
      · rw [show partT s.xs t.xs i = ([(i : Int) - 8], 1) from partF_leaf hne (.inl h8)]
        have h8' : (8 : Int) ≤ (i : Int) := by omega
        clear he hs ht hne
        generalize nodeN s.xs i = N1 at *
        generalize nodeN t.xs i = N2 at *
        go_enter Tryz.func45, Tryz.ntmps45
        go_wp2_with fail
        refine HN1.out.mono ?_
        rintro e w1 ⟨rfl, hb1⟩
        have HN3 := hid (HN2.out w1 hb1)
        go_wp2_with fail
        refine HN3.out.mono ?_
        rintro e w2 ⟨rfl, hb2⟩
        have Hb2 := hid (Below.step hb1 hb2 hb1.size)
        have hz2 := Hb2.out.size
        go_wp2_with fail
        go_ret2
        refine ⟨⟨some ⟨w2.heap.size, 0, none⟩, 1, [(i : Int) - 8]⟩, rfl, rfl, intsAt_new w2 3 [(i : Int) - 8] (by simp), Hb2.out.alloc hz2 _⟩
      · have IH := hid (rpart_any s t hvs hvt m)
        have HF := hid (show partT s.xs t.xs i = ((partT s.xs t.xs (2 * i)).1 ++ (partT s.xs t.xs (2 * i + 1)).1, (partT s.xs t.xs (2 * i)).2 + (partT s.xs t.xs (2 * i + 1)).2 + 1) from partF_node hne (by omega))
        have HI1 := hid (fun W (hW : Below w.heap.size w W) => IH.out (2 * i) (by omega) (by omega) (by omega) W (hs.stays hW) (ht.stays hW))
        have HI2 := hid (fun W (hW : Below w.heap.size w W) => IH.out (2 * i + 1) (by omega) (by omega) (by omega) W (hs.stays hW) (ht.stays hW))
        rw [show (((2 * i : Nat)) : Int) = 2 * (i : Int) by omega] at HI1
        rw [show (((2 * i + 1 : Nat)) : Int) = 2 * (i : Int) + 1 by omega] at HI2
        have hs1 := partF_sz (f := treeF s.xs) (g := treeF t.xs) (2 * i) (by omega)
        have hs2 := partF_sz (f := treeF s.xs) (g := treeF t.xs) (2 * i + 1) (by omega)
        rw [show partF (treeF s.xs) (treeF t.xs) (2 * i) = partT s.xs t.xs (2 * i) from rfl] at hs1
        rw [show partF (treeF s.xs) (treeF t.xs) (2 * i + 1) = partT s.xs t.xs (2 * i + 1) from rfl] at hs2
        rw [HF.out]
        have h8' : ¬ (8 : Int) ≤ (i : Int) := by omega
        clear hs ht IH HF he hne
        generalize nodeN s.xs i = N1 at *
        generalize nodeN t.xs i = N2 at *
        generalize partT s.xs t.xs (2 * i) = P1 at *
        generalize partT s.xs t.xs (2 * i + 1) = P2 at *
        obtain ⟨K1, n1⟩ := P1
        obtain ⟨K2, n2⟩ := P2
        simp only at hs1 hs2 ⊢
        go_enter Tryz.func45, Tryz.ntmps45
        go_wp2_with fail
        refine HN1.out.mono ?_
        rintro e w1 ⟨rfl, hb1⟩
        have HN3 := hid (HN2.out w1 hb1)
        have Hb1 := hid hb1
        clear hb1
        go_wp2_with fail
        refine HN3.out.mono ?_
        rintro e w2 ⟨rfl, hb2⟩
        have Hb2 := hid (Below.step Hb1.out hb2 Hb1.out.size)
        clear hb2
        go_wp2_with fail
        refine (HI1.out _ Hb2.out).mono ?_
        rintro e w3 ⟨q1, rfl, hq1, hA1, hb3⟩
        have Hb3 := hid (Below.step Hb2.out hb3 Hb2.out.size)
        have Hq1 := hid hq1
        have HA1 := hid hA1
        clear hb3 hq1 hA1
        go_wp2_with fail
        refine (HI2.out _ Hb3.out).mono ?_
        rintro e w4 ⟨q2, rfl, hq2, hA2, hb4⟩
        have Hb4 := hid (Below.step Hb3.out hb4 Hb3.out.size)
        have Hq2 := hid hq2
        have HA2 := hid hA2
        have HA14 := hid (HA1.out.stays0 hb4)
        have hz4 := Hb4.out.size
        have hl1 : q1.xs.length ≤ 8 := by rw [Hq1.out]; exact hs1.1
        have hl2 : q2.xs.length ≤ 8 := by rw [Hq2.out]; exact hs2.1
        clear hb4 hq2 hA2 HA1
        go_wp2_with (at_builtin; refine appIs _ w4.heap.size _ [] q1 HA14.out (Ow.nil _ _ _ _ _) rfl _ _ rfl rfl rfl ?_ (Nat.le_refl _) ?_)
        · simp; omega
        intro v5 w5 h5 f5 o5
        have hb5 : Below w4.heap.size w4 w5 := f5.below0 (Nat.le_refl _) (fun i hi => by cases hi)
        have HA25 := hid (HA2.out.stays0 hb5)
        have Hb5 := hid (Below.step Hb4.out hb5 hz4)
        have H5 := hid h5
        have hz5 := hb5.size
        clear h5 f5 o5
        go_wp2_with (at_builtin; refine appIs _ w4.heap.size _ ([] ++ q1.xs) q2 HA25.out H5.out rfl _ _ rfl rfl rfl ?_ ?_ ?_)
        · simp; omega
        · exact hz5
        intro v6 w6 h6 f6 o6
        have hb6 : Below w4.heap.size w5 w6 := f6.below0 hz5 (fun i hi => H5.out.ge _ hi)
        obtain ⟨r, rfl, hrx, hrA, _, _⟩ := IntsAt.of_ow h6
        have Hr := hid hrx
        have HrA := hid hrA
        have Hb6 := hid (Hb5.out.trans (hb6.mono hz4))
        clear h6 f6 o6 hb6 hb5 hrx hrA
        go_wp2_with fail
        go_ret2
        refine ⟨r, ?_, ?_, HrA.out, Hb6.out⟩
        · congr 3
        · rw [Hr.out, Hq1.out, Hq2.out]
end Go.Proofs.YtneilklimpdeoaaGreatDoor
