/-
  CONTRACTS: slices.Grow of nothing and slices.Concat at points; ring.Owner and ring.Owners. CONDITIONS: the library's table of the powers of ten reads as it is laid (Tb).
  CONTRACT of ring.Owners. CONDITIONS: the library's table of the powers of ten reads as it is laid (Tb).
-/
import Derived.Test.YtmgiecoeeidgoaaGreatDoorRing3
import Derived.Test.YtmgiecoeeidgoaaGreatDoorRowS
import Derived.Deep.RegionHeld3
namespace Go.Proofs.YtmgiecoeeidgoaaGreatDoor
open Go.RowKit
open Go.ChangeShapes Go.WideShapes Go.ChangeAt

set_option maxHeartbeats 4000000 in
/-- slices.Grow of nothing -/
theorem pgrow_any (k : Nat) (X : World) (hk : k ≤ 1000) :
    Calls Tryz.prog 61 #[.slice none 0 0, .int .i64 k] X fun e w' => ∃ v', e = .returned v' ∧ Ow Pt.cells 2 X.heap.size 63 w' v' [] ∧ Below X.heap.size X w' := by
  by_cases h0 : k = 0
  · subst h0
    go_enter Tryz.func61, Tryz.ntmps61
    go_wp2_with fail
    go_ret
    exact ⟨_, rfl, Ow.nil _ _ _ _ _, Below.refl _ _⟩
  · obtain ⟨i0, hi0, hz0, hzs, hzb⟩ := info_parts infoPt
    obtain ⟨G, hG⟩ : ∃ G, G = grownCap X k 0 63 := ⟨_, rfl⟩
    have hGn : k ≤ G := by rw [hG]; exact grownCap_ge X _ _ _
    have hG63 : G ≤ maxLen := by
      rw [hG]; exact grownCap_le_maxLen X k 0 63 (by unfold maxLen; omega)
    have hrz : ∀ ty, (Builtin.append_ #[24, 3] ty #[.slice none 0 0, .int .i64 (k : Int)]).run Tryz.prog X =
        .ok (.slice (some ⟨X.heap.size, 0, none⟩) k G) (X.drew.alloc (.cells (Builtin.zeroCells Pt.zero.val.cells k ++ Builtin.zeroCells Pt.zero.val.cells (G - k)) 63)) := fun ty => by
      have h := Lib.run_append_nil_zeros (P := Tryz.prog) X 24 3 ty 63 i0 Pt.zero.val .i64 .i64 Tryz.underlying24 Tryz.underlying3 hi0 hz0 k (by omega) (by omega) (by omega) (by rw [hzb]; omega)
      rw [hG]
      exact h
    have hOw := Ow.row_zeros (cells := Pt.cells) (n := 2) Pt.cells_length X.drew Pt.zero.val Pt.zero rfl [] k G 63 (by simp; omega) hG63
    rw [show ((([] : List Pt).flatMap Pt.cells).toArray ++ Builtin.zeroCells Pt.zero.val.cells k) = Builtin.zeroCells Pt.zero.val.cells k from by simp, List.length_nil, Nat.zero_add, List.nil_append] at hOw
    have hO := hOw.take (k := 0) (Nat.zero_le _)
    rw [List.take_zero] at hO
    generalize Builtin.zeroCells Pt.zero.val.cells k ++ Builtin.zeroCells Pt.zero.val.cells (G - k) = ROW at *
    have hO2 : Ow Pt.cells 2 X.heap.size 63 ((X.alloc (.cells ROW 63)).drew) (.slice (some ⟨X.heap.size, 0, none⟩) 0 G) [] := hO
    have Hrz := hid hrz
    have HO := hid hO2
    have hk0 : 0 < k := by omega
    unfold maxLen at hG63
    clear hrz hO hO2 hOw hG hi0 hz0 hzs hzb
    go_enter Tryz.func61, Tryz.ntmps61
    go_wp2_with (at_builtin; refine Lib.wpList_append_run _ rfl _ _ _ _ rfl _ _ rfl rfl _ _ (Hrz.out _) ?_)
    go_ret
    exact ⟨_, rfl, HO.out, ((Below.refl _ _).alloc (Nat.le_refl _) _).drew⟩

set_option maxHeartbeats 4000000 in
/-- slices.Concat -/
theorem pconcat_any (q : SlV (SlV Pt)) (w : World) (hq : SsAt w q) (he : ∀ s ∈ q.xs, PtsAt w s) (hl : q.xs.length ≤ 100) (hn : (q.xs.flatMap SlV.xs).length ≤ 1000) :
    Calls Tryz.prog 29 #[.slice q.A q.xs.length q.c] w fun e w' => ∃ v', e = .returned v' ∧ Ow Pt.cells 2 w.heap.size 63 w' v' (q.xs.flatMap SlV.xs) ∧ Below w.heap.size w w' := by
  have Hq := hid (fun W (hW : Below w.heap.size w W) => hq.stays hW)
  have He := hid he
  have Hn := hid hn
  have Hl := hid (fun k (hk : k < q.xs.length) => show ((q.xs.take (k + 1)).flatMap SlV.xs) = ((q.xs.take k).flatMap SlV.xs) ++ (q.xs.getD k SlV.nil).xs from by
    rw [take_snocD SlV.nil hk, List.flatMap_append]; simp)
  have Hm := hid (fun k => show ((q.xs.take k).flatMap SlV.xs).length ≤ 1000 from by
    have := congrArg (fun l => (l.flatMap SlV.xs).length) (List.take_append_drop k q.xs)
    simp only [List.flatMap_append, List.length_append] at this
    omega)
  clear hq he hn
  go_enter Tryz.func29, Tryz.ntmps29
  go_wp2_with fail
  go_loopw [3, 11] (fun z i wr => ∃ k : Nat, k ≤ q.xs.length ∧ i = .int .i64 k ∧ z = .int .i64 (((q.xs.take k).flatMap SlV.xs).length : Nat) ∧ wr = w) (fun _ i _ => q.xs.length - (intOf i).toNat)
  case atStart => exact ⟨0, Nat.zero_le _, rfl, rfl, rfl⟩
  case round =>
    obtain ⟨k, hk, rfl, rfl, hwr⟩ := hrel
    obtain rfl : w = wr := hwr.symm
    by_cases hlt : k < q.xs.length
    · obtain ⟨b, off, hA, hgl, hcells⟩ := (Hq.out w (Below.refl _ _)).row (by omega)
      have c0 := hcells k hlt
      have hl1 := Hl.out k hlt
      have hm1 := Hm.out (k + 1)
      rw [hl1, List.length_append] at hm1
      generalize (q.xs.take k).flatMap SlV.xs = LN at *
      generalize q.xs.getD k SlV.nil = s at *
      have HL1 := hid hl1
      unfold SlV.val at c0
      rw [hA]
      clear hA hcells hl1
      have hnn : ¬ ((LN.length : Int) + (s.xs.length : Int) < 0) := by omega
      go_wp2_with fail
      go_roundw
      case rel => exact ⟨k + 1, by omega, by go_num, by rw [HL1.out, List.length_append]; go_num, by first | rfl | trivial⟩
      case measure => simp [intOf]; omega
    · obtain rfl : k = q.xs.length := by omega
      have hG := pgrow_any ((q.xs.take q.xs.length).flatMap SlV.xs).length w (Hm.out _)
      have HG := hid hG
      generalize ((q.xs.take q.xs.length).flatMap SlV.xs).length = N at *
      clear hG
      go_wp2_with fail
      refine HG.out.mono ?_
      rintro e w1 ⟨v, rfl, hO, hb⟩
      have HO := hid hO
      have Hb := hid hb
      clear hO hb HG
      go_wp2_with fail
      go_loopw [6, 27] (fun v i wr => ∃ k : Nat, k ≤ q.xs.length ∧ i = .int .i64 k ∧ Ow Pt.cells 2 w.heap.size 63 wr v ((q.xs.take k).flatMap SlV.xs) ∧ Below w.heap.size w wr) (fun _ i _ => q.xs.length - (intOf i).toNat)
      case atStart => exact ⟨0, Nat.zero_le _, rfl, HO.out, Hb.out⟩
      case round =>
        obtain ⟨k, hk, rfl, hO, hb⟩ := hrel
        have HO := hid hO
        have Hb := hid hb
        by_cases hlt : k < q.xs.length
        · obtain ⟨b, off, hA, hgl, hcells⟩ := (Hq.out _ hb).row (by omega)
          have c0 := hcells k hlt
          have hl1 := Hl.out k hlt
          have hm1 := Hm.out (k + 1)
          have hs := (He.out _ (getD_memD SlV.nil hlt)).stays hb
          have hz := hb.size
          rw [hl1, List.length_append] at hm1
          generalize (q.xs.take k).flatMap SlV.xs = LN at *
          generalize q.xs.getD k SlV.nil = s at *
          have HL1 := hid hl1
          have HS := hid hs
          unfold SlV.val at c0
          rw [hA]
          clear hA hcells hl1 hs hO hb
          go_wp2_with (at_builtin; refine appPts _ w.heap.size _ LN s HS.out HO.out rfl _ _ rfl rfl rfl ?_ ?_ ?_)
          any_goals (first | (with_reducible rfl) | omega)
          intro v8 w8 h8 f8 o8
          have hb8 : Below w.heap.size w w8 := Hb.out.trans (f8.below0 hz (fun i hi => HO.out.ge _ hi))
          go_wp2_with fail
          go_roundw
          case rel => exact ⟨k + 1, by omega, by go_num, by rw [HL1.out]; exact h8, hb8⟩
          case measure => simp [intOf]; omega
        · obtain rfl : k = q.xs.length := by omega
          rw [List.take_length] at HO
          go_wp2_with fail
          go_ret
          exact ⟨_, rfl, HO.out, Hb.out⟩

def ownerP (l : List Pt) (key : Int) : Int := (l.getD (firstP l key) Pt.zero).node
theorem rightP_len {l : List Pt} (h : rightP l = true) : 0 < l.length ∧ l.length ≤ 48 := by
  unfold rightP at h
  rw [Bool.and_eq_true, Bool.and_eq_true, decide_eq_true_eq, decide_eq_true_eq] at h
  exact ⟨h.1.2, h.2⟩
theorem rgE_zero {l : List Pt} {key : Int} (h : rgE l key = 0) : rightP l = true ∧ keyB key = true := by
  unfold rgE at h
  split at h
  · rename_i h1
    split at h
    · rename_i h2
      exact ⟨h1, h2⟩
    · cases h
  · cases h
end Go.Proofs.YtmgiecoeeidgoaaGreatDoor
namespace Go.Proofs.YtmgiecoeeidgoaaGreatDoor
open Go.RowKit
open Go.ChangeShapes Go.WideShapes Go.ChangeAt

theorem PtsAt.preP {w : World} {s : SlV Pt} (h : PtsAt w s) (j : Nat) (hj : j ≤ s.xs.length) : PtsAt w ⟨s.A, s.c, s.xs.take j⟩ where
  row h0 := by
    have hl : (s.xs.take j).length = j := by rw [List.length_take]; omega
    have h0' : 0 < (s.xs.take j).length := h0
    obtain ⟨b, off, h1, h2, h3⟩ := h.row (by omega)
    refine ⟨b, off, h1, h2, fun i hi => ?_⟩
    have hi' : i < (s.xs.take j).length := hi
    have := h3 i (by omega)
    show PtAt w b (off + i * 2) ((s.xs.take j).getD i Pt.zero)
    rw [List.getD_eq_getElem?_getD, List.getElem?_take_of_lt (by omega), ← List.getD_eq_getElem?_getD]
    exact this
  each x hx := h.each x (List.mem_of_mem_take hx)
  len := by
    have h1 : (s.xs.take j).length ≤ s.xs.length := by rw [List.length_take]; omega
    exact Nat.le_trans h1 h.len
theorem PtsAt.dropP {w : World} {s : SlV Pt} {b off : Nat} (h : PtsAt w s) (hA : s.A = some ⟨b, off, none⟩) (j : Nat) (_hj : j ≤ s.xs.length) : PtsAt w ⟨some ⟨b, off + j * 2, none⟩, s.c - j, s.xs.drop j⟩ where
  row h0 := by
    have hl : (s.xs.drop j).length = s.xs.length - j := List.length_drop
    have h0' : 0 < (s.xs.drop j).length := h0
    obtain ⟨b', off', h1, h2, h3⟩ := h.row (by omega)
    rw [hA] at h1
    cases h1
    refine ⟨b, off + j * 2, rfl, h2, fun i hi => ?_⟩
    have hi' : i < (s.xs.drop j).length := hi
    have := h3 (j + i) (by omega)
    show PtAt w b (off + j * 2 + i * 2) ((s.xs.drop j).getD i Pt.zero)
    rw [List.getD_eq_getElem?_getD, List.getElem?_drop, ← List.getD_eq_getElem?_getD, show off + j * 2 + i * 2 = off + (j + i) * 2 by omega]
    exact this
  each x hx := h.each x (List.mem_of_mem_drop hx)
  len := by
    have h1 : (s.xs.drop j).length ≤ s.xs.length := by rw [List.length_drop]; omega
    exact Nat.le_trans h1 h.len
/-- from a place on, and round -/
def rotP (l : List Pt) (f : Nat) : List Pt := l.drop f ++ l.take f
def ownS (many : Int) (out : List Int) (p : Pt) : List Int := if (out.length : Int) < many ∧ ¬ p.node ∈ out then out ++ [p.node] else out
def ownL (many : Int) (l : List Pt) : List Int := l.foldl (ownS many) []
theorem ownL_snoc (many : Int) (l : List Pt) (p : Pt) : ownL many (l ++ [p]) = ownS many (ownL many l) p := by unfold ownL; rw [List.foldl_append]; rfl
theorem ownL_len (many : Int) (l : List Pt) : (ownL many l).length ≤ l.length := by
  refine snoc_indP (P := fun l => (ownL many l).length ≤ l.length) l (Nat.le_refl _) (fun l p ih => ?_)
  rw [ownL_snoc, ownS, List.length_append, List.length_singleton]
  split
  · rw [List.length_append, List.length_singleton]; omega
  · omega
def ownsE (l : List Pt) (key many : Int) : Int :=
  if rgE l key = 0 then (if many < 1 ∨ 6 < many then 1 else if ((ownL many (rotP l (firstP l key))).length : Int) < many then 5 else 0) else rgE l key
def ROwns (w : World) (l : List Pt) (key many : Int) (e : Ending) (w' : World) : Prop :=
  ∃ r : SlV Int, e = .returned (.tuple #[.slice r.A r.xs.length r.c, errV (ownsE l key many)]) ∧ r.xs = (if ownsE l key many = 0 then ownL many (rotP l (firstP l key)) else []) ∧ r.ok ∧ IntsAt w' r ∧ Below w.heap.size w w'
theorem ROwns.no {w w' : World} {l : List Pt} {key many en : Int} (he : ownsE l key many = en) (h0 : en ≠ 0) (hb : Below w.heap.size w w') : ROwns w l key many (.returned (.tuple #[.slice none 0 0, .iface 60 (.int .i64 en)])) w' :=
  ⟨⟨none, 0, []⟩, by rw [he, errV_ne h0]; rfl, by rw [he, if_neg h0], ⟨Nat.le_refl _, Nat.zero_le _⟩, IntsAt.bare _ _ _, hb⟩
set_option maxHeartbeats 8000000 in
set_option maxRecDepth 100000 in
theorem rowners_any (s : SlV Pt) (key many : Int) (w : World) (hs : PtsAt w s) (hok : s.ok) (htb : Tb w) :
    Calls Tryz.prog 6 #[.slice s.A s.xs.length s.c, .int .i64 key, .int .i64 many] w (ROwns w s.xs key many) := by
  have HC := hid (rgcheck_any s key w hs)
  by_cases h0 : rgE s.xs key = 0
  case neg =>
    rw [errV_ne h0] at HC
    have HN := hid (fun w' hb => ROwns.no (w := w) (w' := w') (l := s.xs) (key := key) (many := many) (en := rgE s.xs key) (by rw [ownsE, if_neg h0]) h0 hb)
    generalize rgE s.xs key = en at *
    clear h0 hs htb
    go_enter Tryz.func6, Tryz.ntmps6
    go_wp2_with fail
    refine HC.out.mono ?_
    rintro e w1 ⟨rfl, hb1⟩
    have Hb1 := hid hb1
    clear hb1
    go_wp2_with fail
    go_ret2
    exact HN.out _ Hb1.out
  case pos =>
  rw [h0, errV_zero] at HC
  by_cases hm : many < 1 ∨ 6 < many
  · have HN := hid (fun w' hb => ROwns.no (w := w) (w' := w') (l := s.xs) (key := key) (many := many) (en := 1) (by rw [ownsE, if_pos h0, if_pos hm]) (by decide) hb)
    rcases (show many < 1 ∨ (¬ many < 1 ∧ 6 < many) by omega) with h | ⟨h, h2⟩
    all_goals
      clear h0 hs htb hm
      go_enter Tryz.func6, Tryz.ntmps6
      go_wp2_with fail
      refine HC.out.mono ?_
      rintro e w1 ⟨rfl, hb1⟩
      have Hb1 := hid hb1
      clear hb1
      go_wp2_with fail
      go_ret2
      exact HN.out _ Hb1.out
  obtain ⟨hr, hk⟩ := rgE_zero h0
  obtain ⟨hl0, hl48⟩ := rightP_len hr
  have hlt := firstP_lt key hl0
  have HF := hid (fun W (hW : Below w.heap.size w W) => first_any s key W (hs.stays hW) hk (htb.belowS hW))
  have HS := hid (fun W (hW : Below w.heap.size w W) => hs.stays hW)
  obtain ⟨hlc, hcm⟩ := hok
  unfold maxLen at hcm
  have hm1 : ¬ many < 1 := by omega
  have hm6 : ¬ 6 < many := by omega
  have HE := hid (show ∀ n : Int, ((ownL many (rotP s.xs (firstP s.xs key))).length : Int) = n → ownsE s.xs key many = if n < many then 5 else 0 from fun n hn => by rw [ownsE, if_pos h0, if_neg hm, hn])
  have HR := hid (show ∀ v w', (∃ W : World, Below w.heap.size w W ∧ Ow cellI 1 W.heap.size 3 w' v (ownL many (rotP s.xs (firstP s.xs key)))) → Below w.heap.size w w' → ¬ ((ownL many (rotP s.xs (firstP s.xs key))).length : Int) < many → ROwns w s.xs key many (.returned (.tuple #[v, .nilIface])) w' from by
    rintro v w' ⟨W, -, hO⟩ hb hn
    have hE : ownsE s.xs key many = 0 := by rw [ownsE, if_pos h0, if_neg hm, if_neg hn]
    obtain ⟨r, rfl, hrx, hrA, hro, -⟩ := IntsAt.of_ow hO
    exact ⟨r, by rw [hE, errV_zero], by rw [hE, if_pos rfl, hrx], hro, hrA, hb⟩)
  have HN5 := hid (fun w' (hn : ((ownL many (rotP s.xs (firstP s.xs key))).length : Int) < many) hb => ROwns.no (w := w) (w' := w') (l := s.xs) (key := key) (many := many) (en := 5) (by rw [ownsE, if_pos h0, if_neg hm, if_pos hn]) (by decide) hb)
  generalize firstP s.xs key = f at *
  have hfl : (f : Int) < (s.xs.length : Int) := by omega
  have hfl' : (f : Int) ≤ (s.xs.length : Int) := by omega
  have hfc : (f : Int) ≤ (s.c : Int) := by omega
  have hlc' : (s.xs.length : Int) ≤ (s.c : Int) := by omega
  have hcf : ¬ s.c = f := by omega
  clear hs htb h0 hr hk hm
  go_enter Tryz.func6, Tryz.ntmps6
  go_wp2_with fail
  refine HC.out.mono ?_
  rintro e w1 ⟨rfl, hb1⟩
  have HF1 := hid (HF.out w1 hb1)
  have Hb1 := hid hb1
  clear hb1 HF
  go_wp2_with fail
  refine HF1.out.mono ?_
  rintro e w2 ⟨rfl, hb2⟩
  have hb12 := Below.step Hb1.out hb2 Hb1.out.size
  have Hb12 := hid hb12
  have hz2 := hb12.size
  obtain ⟨b, off, hA, hb, -⟩ := (HS.out w2 hb12).row (by omega)
  have HCc := hid (fun W (hW : Below w2.heap.size w2 W) => show Calls Tryz.prog 29 #[.slice (some ⟨W.heap.size, 0, none⟩) 2 2] (W.alloc (.cells #[.slice (some ⟨b, off + f * 2, none⟩) (s.xs.length - f) (s.c - f), .slice (some ⟨b, off, none⟩) f s.c] 24)) (fun e w' => ∃ v', e = .returned v' ∧ Ow Pt.cells 2 w.heap.size 63 w' v' (rotP s.xs f) ∧ Below W.heap.size W w') from by
    have hWS := HS.out W (Below.step hb12 hW hz2)
    have hle := hWS.len
    have h1 : (s.xs.drop f).length = s.xs.length - f := List.length_drop
    have h2 : (s.xs.take f).length = f := by rw [List.length_take]; omega
    have hq : SsAt (W.alloc (.cells #[.slice (some ⟨b, off + f * 2, none⟩) (s.xs.length - f) (s.c - f), .slice (some ⟨b, off, none⟩) f s.c] 24)) (⟨some ⟨W.heap.size, 0, none⟩, 2, [⟨some ⟨b, off + f * 2, none⟩, s.c - f, s.xs.drop f⟩, ⟨some ⟨b, off, none⟩, s.c, s.xs.take f⟩]⟩ : SlV (SlV Pt)) := by
      refine SsAt.of_blk (T := 24) ?_ 2 (by unfold maxLen; simp)
      have : ([⟨some ⟨b, off + f * 2, none⟩, s.c - f, s.xs.drop f⟩, ⟨some ⟨b, off, none⟩, s.c, s.xs.take f⟩] : List (SlV Pt)).map SlV.val = [.slice (some ⟨b, off + f * 2, none⟩) (s.xs.length - f) (s.c - f), .slice (some ⟨b, off, none⟩) f s.c] := by
        simp only [List.map_cons, List.map_nil, SlV.val, h1, h2]
      rw [this]
      exact Blk.new _ _ _
    have hbA : Below W.heap.size W (W.alloc (.cells #[.slice (some ⟨b, off + f * 2, none⟩) (s.xs.length - f) (s.c - f), .slice (some ⟨b, off, none⟩) f s.c] 24)) := (Below.refl _ _).alloc (Nat.le_refl _) _
    refine (pconcat_any _ _ hq (fun x hx => ?_) (by simp) ?_).mono ?_
    · simp only [List.mem_cons, List.not_mem_nil, or_false] at hx
      rcases hx with rfl | rfl
      · exact (hWS.dropP hA f (by omega)).stays hbA
      · have := (hWS.preP f (by omega)).stays hbA
        rw [hA] at this
        exact this
    · simp only [List.flatMap_cons, List.flatMap_nil, List.append_nil, List.length_append, h1, h2]
      omega
    · rintro e w' ⟨v', rfl, hO, hb'⟩
      simp only [List.flatMap_cons, List.flatMap_nil, List.append_nil] at hO
      exact ⟨v', rfl, hO.mono (by rw [World.size_alloc]; have := hW.size; omega), bstepR hbA hb'⟩)
  rw [hA]
  clear hA hb2 hb12
  go_upto_region 8 with fail
  go_cut [36, 37, 38] (fun v n i wx => ∃ r : SlV Pt, v = .slice r.A r.xs.length r.c ∧ n = .int .i64 r.xs.length ∧ i = .int .i64 0 ∧ r.xs = rotP s.xs f ∧ PtsAt wx r ∧ Below w2.heap.size w2 wx)
  case first =>
    have Hgood := hid (show ∀ x ∈ rotP s.xs f, x.good from fun x hx => by
      rcases List.mem_append.1 hx with hx | hx
      · exact (HS.out w2 Hb12.out).each x (List.mem_of_mem_drop hx)
      · exact (HS.out w2 Hb12.out).each x (List.mem_of_mem_take hx))
    go_region_held3 (fun W => Below w2.heap.size w2 W) (first | exact (Below.refl _ _).drew | assumption | (exact Below.alloc (by assumption) (Below.size (by assumption)) _)) (first | (go_at_call 29; refine (HCc.out w2.drew (Below.refl _ _).drew).mono ?_; rintro e w8 ⟨v, rfl, hO, hb8⟩; have hb28 : Below w2.heap.size w2 w8 := bstepR (Below.refl w2.heap.size w2).drew hb8; obtain ⟨r, hrv, hrx, hrA, -, -⟩ := PtsAt.of_ow hO Hgood.out; subst hrv))
    all_goals
      have Hrx := hid hrx
      have HrA := hid hrA
      clear hrx hrA hO hb8
      go_wp2_with fail
      go_meet
      exact ⟨r, by rw [Hrx.out], by rw [Hrx.out], rfl, Hrx.out, HrA.out, by assumption⟩
  case rest =>
  obtain ⟨r, rfl, rfl, rfl, hrx, hrA, hb3⟩ := hcut
  obtain ⟨w3, rfl⟩ : ∃ w3 : World, w3 = wc := ⟨_, rfl⟩
  have Hb3 := hid (Below.step Hb12.out hb3 hz2)
  have HP := hid (fun W (hW : Below w3.heap.size w3 W) => hrA.stays hW)
  have hrl : r.xs.length ≤ 48 := by rw [hrx, rotP, List.length_append, List.length_drop, List.length_take]; omega
  rw [← hrx] at HR HN5
  have hz3 := hb3.size
  clear hrA hb3 hrx HCc HE
  go_wp2_with fail
  go_loopw [10, 38] (fun v i wr => ∃ j : Nat, j ≤ r.xs.length ∧ i = .int .i64 j ∧ Ow cellI 1 w3.heap.size 3 wr v (ownL many (r.xs.take j)) ∧ Below w3.heap.size w3 wr) (fun _ i _ => r.xs.length - (intOf i).toNat)
  case atStart => exact ⟨0, Nat.zero_le _, rfl, Ow.nil _ _ _ _ _, Below.refl _ _⟩
  case round =>
    obtain ⟨j, hj, rfl, hO, hbr⟩ := hrel
    obtain ⟨wj, rfl⟩ : ∃ wj : World, wj = wr := ⟨_, rfl⟩
    have Hbr := hid hbr
    have hzj := hbr.size
    obtain ⟨o, rfl, hox, hoA, hoo, -⟩ := IntsAt.of_ow hO
    have hol := ownL_len many (r.xs.take j)
    rw [List.length_take] at hol
    have HO := hid hO
    by_cases hlj : j < r.xs.length
    · obtain ⟨g, off2, hA2, hg, hcells⟩ := (HP.out wj hbr).row (by omega)
      obtain ⟨k0, k1⟩ := hcells j hlj
      have htk := take_snocD Pt.zero hlj
      have hsn := ownL_snoc many (r.xs.take j) (r.xs.getD j Pt.zero)
      rw [← htk] at hsn
      obtain ⟨x, hx⟩ : ∃ x, r.xs.getD j Pt.zero = x := ⟨_, rfl⟩
      rw [hx] at k0 k1 hsn
      obtain ⟨x0, x1⟩ := x
      simp only at k0 k1
      unfold ownS at hsn
      simp only at hsn
      rw [← hox] at hsn hol
      have hjl : (j : Int) < (r.xs.length : Int) := by omega
      have HCo := hid (fun W (hW : Below wj.heap.size wj W) => contains_any o x1 W (hoA.stays0 hW))
      have Hox := hid hox
      rw [← hox] at HO
      rw [hA2]
      clear hA2 hcells htk hx hbr hO hoA hoo hox
      by_cases hlm : (o.xs.length : Int) < many
      · rcases hin : inL x1 o.xs with _ | _
        · rw [if_pos ⟨hlm, inL_false.1 hin⟩] at hsn
          have Hsn := hid hsn
          rw [hin] at HCo
          clear hsn hin
          go_wp2_with fail
          refine (HCo.out _ ((Below.refl _ _).alloc (Nat.le_refl _) _)).mono ?_
          rintro e w8 ⟨rfl, rfl⟩
          go_wp2_with (at_builtin; refine appI _ w3.heap.size _ o.xs x1 (HO.out.alloc _) rfl _ _ rfl rfl rfl ?_ ?_ ?_ ?_)
          any_goals (first | (with_reducible rfl) | omega | exact World.size_alloc _ _ | (show _ ≤ _; rw [World.size_alloc]; omega))
          intro v8 w8 hO8 f8 o8
          have hb8 : Below w3.heap.size w3 w8 := (Hbr.out.alloc hzj _).trans (f8.below0 (by rw [World.size_alloc]; omega) (fun i hi => HO.out.ge _ hi))
          have Hb8 := hid hb8
          have HO8 := hid hO8
          clear hb8 hO8 f8 o8
          go_wp2_with fail
          go_roundw
          case rel => exact ⟨j + 1, by omega, by go_num, by rw [Hsn.out]; exact HO8.out, Hb8.out⟩
          case measure => simp [intOf]; omega
        · rw [if_neg (fun h => h.2 (inL_true.1 hin))] at hsn
          have Hsn := hid hsn
          rw [hin] at HCo
          clear hsn hin
          go_wp2_with fail
          refine (HCo.out _ ((Below.refl _ _).alloc (Nat.le_refl _) _)).mono ?_
          rintro e w8 ⟨rfl, rfl⟩
          go_wp2_with fail
          go_roundw
          case rel => exact ⟨j + 1, by omega, by go_num, by rw [Hsn.out]; exact HO.out.alloc _, Hbr.out.alloc hzj _⟩
          case measure => simp [intOf]; omega
      · rw [if_neg (fun h => hlm h.1)] at hsn
        have Hsn := hid hsn
        clear hsn
        go_wp2_with fail
        go_roundw
        case rel => exact ⟨j + 1, by omega, by go_num, by rw [Hsn.out]; exact HO.out.alloc _, Hbr.out.alloc hzj _⟩
        case measure => simp [intOf]; omega
    · obtain rfl : j = r.xs.length := by omega
      rw [List.take_length] at hox HO hO
      have HbF := hid (Below.step Hb3.out Hbr.out Hb3.out.size)
      rw [← hox] at HR HN5 HO
      clear hO hoA hoo hbr hox hol
      by_cases hlm : (o.xs.length : Int) < many
      · have HNo := hid (HN5.out wj hlm HbF.out)
        clear HN5 HR
        go_wp2_with fail
        go_ret2
        exact HNo.out
      · have HRo := hid (HR.out (.slice o.A o.xs.length o.c) wj ⟨w3, Hb3.out, HO.out⟩ HbF.out (by omega))
        clear HN5 HR
        go_wp2_with fail
        go_ret2
        exact HRo.out
end Go.Proofs.YtmgiecoeeidgoaaGreatDoor
