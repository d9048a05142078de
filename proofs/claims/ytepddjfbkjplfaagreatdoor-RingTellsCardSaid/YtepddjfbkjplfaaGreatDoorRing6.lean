/-
  CONTRACTS: slices.Grow of nothing and slices.Concat at points; ring.Owner and ring.Owners. CONDITIONS: the library's table of the powers of ten reads as it is laid (Tb).
-/
import Derived.Test.YtepddjfbkjplfaaGreatDoorRing5
import Derived.Test.YtepddjfbkjplfaaGreatDoorRowS
namespace Go.Proofs.YtepddjfbkjplfaaGreatDoor
open Go.RowKit
open Go.ChangeShapes Go.WideShapes Go.ChangeAt

set_option maxHeartbeats 4000000 in
/-- slices.Grow of nothing -/
theorem pgrow_any (k : Nat) (X : World) (hk : k ≤ 1000) :
    Calls Tryz.prog 41 #[.slice none 0 0, .int .i64 k] X fun e w' => ∃ v', e = .returned v' ∧ Ow Pt.cells 2 X.heap.size 44 w' v' [] ∧ Below X.heap.size X w' := by
  by_cases h0 : k = 0
  · subst h0
    go_enter Tryz.func41, Tryz.ntmps41
    go_wp2_with fail
    go_ret
    exact ⟨_, rfl, Ow.nil _ _ _ _ _, Below.refl _ _⟩
  · obtain ⟨i0, hi0, hz0, hzs, hzb⟩ := info_parts infoPt
    obtain ⟨G, hG⟩ : ∃ G, G = grownCap X k 0 44 := ⟨_, rfl⟩
    have hGn : k ≤ G := by rw [hG]; exact grownCap_ge X _ _ _
    have hG63 : G ≤ maxLen := by
      rw [hG]; exact grownCap_le_maxLen X k 0 44 (by unfold maxLen; omega)
    have hrz : ∀ ty, (Builtin.append_ #[23, 3] ty #[.slice none 0 0, .int .i64 (k : Int)]).run Tryz.prog X =
        .ok (.slice (some ⟨X.heap.size, 0, none⟩) k G) (X.drew.alloc (.cells (Builtin.zeroCells Pt.zero.val.cells k ++ Builtin.zeroCells Pt.zero.val.cells (G - k)) 44)) := fun ty => by
      have h := Lib.run_append_nil_zeros (P := Tryz.prog) X 23 3 ty 44 i0 Pt.zero.val .i64 .i64 Tryz.underlying23 Tryz.underlying3 hi0 hz0 k (by omega) (by omega) (by omega) (by rw [hzb]; omega)
      rw [hG]
      exact h
    have hOw := Ow.row_zeros (cells := Pt.cells) (n := 2) Pt.cells_length X.drew Pt.zero.val Pt.zero rfl [] k G 44 (by simp; omega) hG63
    rw [show ((([] : List Pt).flatMap Pt.cells).toArray ++ Builtin.zeroCells Pt.zero.val.cells k) = Builtin.zeroCells Pt.zero.val.cells k from by simp, List.length_nil, Nat.zero_add, List.nil_append] at hOw
    have hO := hOw.take (k := 0) (Nat.zero_le _)
    rw [List.take_zero] at hO
    generalize Builtin.zeroCells Pt.zero.val.cells k ++ Builtin.zeroCells Pt.zero.val.cells (G - k) = ROW at *
    have hO2 : Ow Pt.cells 2 X.heap.size 44 ((X.alloc (.cells ROW 44)).drew) (.slice (some ⟨X.heap.size, 0, none⟩) 0 G) [] := hO
    have Hrz := hid hrz
    have HO := hid hO2
    have hk0 : 0 < k := by omega
    unfold maxLen at hG63
    clear hrz hO hO2 hOw hG hi0 hz0 hzs hzb
    go_enter Tryz.func41, Tryz.ntmps41
    go_wp2_with (at_builtin; refine Lib.wpList_append_run _ rfl _ _ _ _ rfl _ _ rfl rfl _ _ (Hrz.out _) ?_)
    go_ret
    exact ⟨_, rfl, HO.out, ((Below.refl _ _).alloc (Nat.le_refl _) _).drew⟩

set_option maxHeartbeats 4000000 in
/-- slices.Concat -/
theorem pconcat_any (q : SlV (SlV Pt)) (w : World) (hq : SsAt w q) (he : ∀ s ∈ q.xs, PtsAt w s) (hl : q.xs.length ≤ 100) (hn : (q.xs.flatMap SlV.xs).length ≤ 1000) :
    Calls Tryz.prog 25 #[.slice q.A q.xs.length q.c] w fun e w' => ∃ v', e = .returned v' ∧ Ow Pt.cells 2 w.heap.size 44 w' v' (q.xs.flatMap SlV.xs) ∧ Below w.heap.size w w' := by
  have Hq := hid (fun W (hW : Below w.heap.size w W) => hq.stays hW)
  have He := hid he
  have Hn := hid hn
  have Hl := hid (fun k (hk : k < q.xs.length) => show ((q.xs.take (k + 1)).flatMap SlV.xs) = ((q.xs.take k).flatMap SlV.xs) ++ (q.xs.getD k SlV.nil).xs from by
    rw [take_snocD SlV.nil hk, List.flatMap_append]; simp)
  have Hm := hid (fun k => show ((q.xs.take k).flatMap SlV.xs).length ≤ 1000 from by
    have := congrArg (fun l => (l.flatMap SlV.xs).length) (List.take_append_drop k q.xs)
    simp only [List.flatMap_append, List.length_append] at this
    omega)
  clear hq he hn
  go_enter Tryz.func25, Tryz.ntmps25
  go_wp2_with fail
  go_loopw [3, 11] (fun z i wr => ∃ k : Nat, k ≤ q.xs.length ∧ i = .int .i64 k ∧ z = .int .i64 (((q.xs.take k).flatMap SlV.xs).length : Nat) ∧ wr = w) (fun _ i _ => q.xs.length - (intOf i).toNat)
  case atStart => exact ⟨0, Nat.zero_le _, rfl, rfl, rfl⟩
  case round =>
    obtain ⟨k, hk, rfl, rfl, hwr⟩ := hrel
    obtain rfl : w = wr := hwr.symm
    by_cases hlt : k < q.xs.length
    · obtain ⟨b, off, hA, hgl, hcells⟩ := (Hq.out w (Below.refl _ _)).row (by omega)
      have c0 := hcells k hlt
      have hl1 := Hl.out k hlt
      have hm1 := Hm.out (k + 1)
      rw [hl1, List.length_append] at hm1
      generalize (q.xs.take k).flatMap SlV.xs = LN at *
      generalize q.xs.getD k SlV.nil = s at *
      have HL1 := hid hl1
      unfold SlV.val at c0
      rw [hA]
      clear hA hcells hl1
      have hnn : ¬ ((LN.length : Int) + (s.xs.length : Int) < 0) := by omega
      go_wp2_with fail
      go_roundw
      case rel => exact ⟨k + 1, by omega, by go_num, by rw [HL1.out, List.length_append]; go_num, by first | rfl | trivial⟩
      case measure => simp [intOf]; omega
    · obtain rfl : k = q.xs.length := by omega
      have hG := pgrow_any ((q.xs.take q.xs.length).flatMap SlV.xs).length w (Hm.out _)
      have HG := hid hG
      generalize ((q.xs.take q.xs.length).flatMap SlV.xs).length = N at *
      clear hG
      go_wp2_with fail
      refine HG.out.mono ?_
      rintro e w1 ⟨v, rfl, hO, hb⟩
      have HO := hid hO
      have Hb := hid hb
      clear hO hb HG
      go_wp2_with fail
      go_loopw [6, 27] (fun v i wr => ∃ k : Nat, k ≤ q.xs.length ∧ i = .int .i64 k ∧ Ow Pt.cells 2 w.heap.size 44 wr v ((q.xs.take k).flatMap SlV.xs) ∧ Below w.heap.size w wr) (fun _ i _ => q.xs.length - (intOf i).toNat)
      case atStart => exact ⟨0, Nat.zero_le _, rfl, HO.out, Hb.out⟩
      case round =>
        obtain ⟨k, hk, rfl, hO, hb⟩ := hrel
        have HO := hid hO
        have Hb := hid hb
        by_cases hlt : k < q.xs.length
        · obtain ⟨b, off, hA, hgl, hcells⟩ := (Hq.out _ hb).row (by omega)
          have c0 := hcells k hlt
          have hl1 := Hl.out k hlt
          have hm1 := Hm.out (k + 1)
          have hs := (He.out _ (getD_memD SlV.nil hlt)).stays hb
          have hz := hb.size
          rw [hl1, List.length_append] at hm1
          generalize (q.xs.take k).flatMap SlV.xs = LN at *
          generalize q.xs.getD k SlV.nil = s at *
          have HL1 := hid hl1
          have HS := hid hs
          unfold SlV.val at c0
          rw [hA]
          clear hA hcells hl1 hs hO hb
          go_wp2_with (at_builtin; refine appPts _ w.heap.size _ LN s HS.out HO.out rfl _ _ rfl rfl rfl ?_ ?_ ?_)
          any_goals (first | (with_reducible rfl) | omega)
          intro v8 w8 h8 f8 o8
          have hb8 : Below w.heap.size w w8 := Hb.out.trans (f8.below0 hz (fun i hi => HO.out.ge _ hi))
          go_wp2_with fail
          go_roundw
          case rel => exact ⟨k + 1, by omega, by go_num, by rw [HL1.out]; exact h8, hb8⟩
          case measure => simp [intOf]; omega
        · obtain rfl : k = q.xs.length := by omega
          rw [List.take_length] at HO
          go_wp2_with fail
          go_ret
          exact ⟨_, rfl, HO.out, Hb.out⟩

def ownerP (l : List Pt) (key : Int) : Int := (l.getD (firstP l key) Pt.zero).node
theorem rightP_len {l : List Pt} (h : rightP l = true) : 0 < l.length ∧ l.length ≤ 48 := by
  unfold rightP at h
  rw [Bool.and_eq_true, Bool.and_eq_true, decide_eq_true_eq, decide_eq_true_eq] at h
  exact ⟨h.1.2, h.2⟩
theorem rgE_zero {l : List Pt} {key : Int} (h : rgE l key = 0) : rightP l = true ∧ keyB key = true := by
  unfold rgE at h
  split at h
  · rename_i h1
    split at h
    · rename_i h2
      exact ⟨h1, h2⟩
    · cases h
  · cases h
set_option maxHeartbeats 2000000 in
theorem rowner_any (s : SlV Pt) (key : Int) (w : World) (hs : PtsAt w s) (htb : Tb w) :
    Calls Tryz.prog 12 #[.slice s.A s.xs.length s.c, .int .i64 key] w fun e w' => e = .returned (.tuple #[.int .i64 (if rgE s.xs key = 0 then ownerP s.xs key else 0), errV (rgE s.xs key)]) ∧ Below w.heap.size w w' := by
  have HC := hid (rgcheck_any s key w hs)
  by_cases h0 : rgE s.xs key = 0
  · rw [if_pos h0]
    rw [h0, errV_zero] at HC
    obtain ⟨hr, hk⟩ := rgE_zero h0
    have hlt := firstP_lt key (rightP_len hr).1
    have HF := hid (fun W (hW : Below w.heap.size w W) => first_any s key W (hs.stays hW) hk (htb.belowS hW))
    have HS := hid (fun W (hW : Below w.heap.size w W) => hs.stays hW)
    rw [h0, errV_zero]
    unfold ownerP
    generalize firstP s.xs key = f at *
    have hfl : (f : Int) < (s.xs.length : Int) := by omega
    clear hs htb h0 hr hk
    go_enter Tryz.func12, Tryz.ntmps12
    go_wp2_with fail
    refine HC.out.mono ?_
    rintro e w1 ⟨rfl, hb1⟩
    have HF1 := hid (HF.out w1 hb1)
    have Hb1 := hid hb1
    clear hb1
    go_wp2_with fail
    refine HF1.out.mono ?_
    rintro e w2 ⟨rfl, hb2⟩
    have hb12 := Below.step Hb1.out hb2 Hb1.out.size
    obtain ⟨b, off, hA, hb, hcells⟩ := (HS.out w2 hb12).row (by omega)
    obtain ⟨-, c1⟩ := hcells f hlt
    obtain ⟨x, hx⟩ : ∃ x, s.xs.getD f Pt.zero = x := ⟨_, rfl⟩
    rw [hx] at c1
    obtain ⟨x0, x1⟩ := x
    simp only at c1
    rw [hA]
    have Hb12 := hid hb12
    have Hx := hid hx
    clear hx
    clear hb2 hA hcells hb12
    go_wp2_with fail
    go_ret2
    exact ⟨by rw [Hx.out]; rfl, Hb12.out⟩
  · rw [if_neg h0]
    rw [errV_ne h0] at HC
    have Hen := hid (errV_ne h0)
    generalize rgE s.xs key = en at *
    clear h0 hs htb
    go_enter Tryz.func12, Tryz.ntmps12
    go_wp2_with fail
    refine HC.out.mono ?_
    rintro e w1 ⟨rfl, hb1⟩
    go_wp2_with fail
    go_ret2
    exact ⟨by rw [Hen.out]; rfl, hb1⟩
end Go.Proofs.YtepddjfbkjplfaaGreatDoor
