/-
  CONTRACTS of the reference store (mereref1.Store): At, Read, Put, Delete, Swap: the same plain functions as the program's. CONDITIONS: none.
-/
import Derived.Test.YtemhdfodghfkfaaGreatDoorStore2
import Derived.Test.YtemhdfodghfkfaaGreatDoorJoin
import Derived.Test.YtemhdfodghfkfaaGreatDoorCCheck
namespace Go.Proofs.YtemhdfodghfkfaaGreatDoor
open Go.RowKit
open Go.ChangeShapes Go.WideShapes Go.ChangeAt

/-- the reference store at b -/
structure RStoreO (base : Nat) (w : World) (b : Nat) (v : Value) (D : List E) : Prop where
  blk : Blk w b 29 #[v]
  own : Ow E.cells 5 base 59 w v D
  off : foot v ≠ some b
  base : base ≤ b
  good : ∀ y ∈ D, y.good
  short : D.length ≤ 1000
section
variable {base b : Nat} {w w' : World} {v : Value} {D : List E}
theorem RStoreO.fr {S : Nat → Prop} (h : RStoreO base w b v D) (hf : Fr S w w') (h1 : ¬ S b) (h2 : ∀ g, foot v = some g → ¬ S g) : RStoreO base w' b v D :=
  ⟨h.blk.fr hf h1, h.own.fr hf h2, h.off, h.base, h.good, h.short⟩
theorem RStoreO.belowS (h : RStoreO base w b v D) (hb : Below w.heap.size w w') : RStoreO base w' b v D :=
  h.fr (S := fun _ => False) (Fr.ofB hb) (fun h => h) (fun _ _ h => h)
theorem RStoreO.lt (h : RStoreO base w b v D) : b < w.heap.size := h.blk.lt
theorem RStoreO.form (h : RStoreO base w b v D) : ∃ r : SlV E, v = .slice r.A r.xs.length r.c ∧ r.xs = D ∧ EsAt w r := by
  obtain ⟨r, h1, h2, h3, _⟩ := EsAt.of_ow h.own h.good
  exact ⟨r, h1, h2, h3⟩
end
/-- what a deed's call does to the reference -/
def RRes (base b : Nat) (v : Value) (w : World) (r : (Int × Int) × List E) (e : Ending) (w' : World) : Prop :=
  ∃ v', e = .returned (.tuple #[.int .i64 r.1.1, .int .i64 r.1.2]) ∧ RStoreO base w' b v' r.2 ∧ Fr (fun i => i = b ∨ some i = foot v) w w' ∧ (foot v' = foot v ∨ ∃ k, foot v' = some k ∧ w.heap.size ≤ k)
theorem RRes.no {base b : Nat} {v : Value} {w w' : World} {D : List E} {x : Int} (hR : RStoreO base w b v D) (hb : Below w.heap.size w w') : RRes base b v w ((0, x), D) (.returned (.tuple #[.int .i64 0, .int .i64 x])) w' :=
  ⟨v, rfl, hR.belowS hb, Fr.ofB hb, .inl rfl⟩
theorem rrec {base b : Nat} {v : Value} {W w : World} {r : (Int × Int) × List E} {e : Ending} {w' : World} (h : RRes base b v w r e w') (hb : Below W.heap.size W w) : RRes base b v W r e w' := by
  obtain ⟨v', h1, h2, h3, h4⟩ := h
  exact ⟨v', h1, h2, (Fr.ofB hb).step h3, h4.imp (fun h => h) (fun ⟨k, o, hk⟩ => ⟨k, o, Nat.le_trans hb.size hk⟩)⟩
set_option maxHeartbeats 4000000 in
set_option maxRecDepth 100000 in
theorem rAt_any (base b : Nat) (key : Int) (q : Nat) (v : Value) (D : List E) (hq : q ≤ D.length) (w : World) (hR : RStoreO base w b v D) :
    Calls Tryz.prog 85 #[.pointer (some ⟨b, 0, none⟩), .int .i64 key, .int .i64 q] w fun e w' => e = .returned (entC key q (refC (D.take q) key)).val ∧ Below w.heap.size w w' := by
  obtain ⟨r, rfl, hrx, hrA⟩ := hR.form
  subst hrx
  have hsh := hR.short
  have hb0 : w.cell? ⟨b, 0, none⟩ = some (.slice r.A r.xs.length r.c) := hR.blk.cell 0
  have hbl := hR.lt
  have hbn : b ≠ w.heap.size + 1 := by omega
  clear hR
  go_enter Tryz.func85, Tryz.ntmps85
  go_wp2_with fail
  go_loopw [8] (fun i wr => ∃ m : Nat, m ≤ q ∧ i = .int .i64 m ∧ Blk wr w.heap.size 59 #[.int .i64 0, .int .i64 0, .int .i64 0, .bool false, .string ⟨#[]⟩] ∧ Blk wr (w.heap.size + 1) 59 #[.int .i64 key, .int .i64 (refC (r.xs.take m) key).seq, .int .i64 q, .bool (refC (r.xs.take m) key).gone, .string (refC (r.xs.take m) key).text] ∧ Below w.heap.size w wr) (fun i _ => q - (intOf i).toNat)
  case atStart =>
    refine ⟨0, Nat.zero_le _, rfl, ?_, ?_, by (repeat (first | with_reducible exact Below.refl _ _ | with_reducible assumption | (with_reducible refine Below.drew ?_) | (with_reducible refine Below.manyDrew ?_ _) | ((with_reducible refine Below.alloc ?_ ?_ _); rotate_left; (focus (first | omega | (dsimp only; omega) | (simp; done) | (simp; omega)))) | ((with_reducible refine Below.setCell ?_ ?_ _); rotate_left; (focus (first | omega | (dsimp only; omega) | (simp; done) | (simp; omega)))) | ((with_reducible refine Below.step ?_ (by assumption) ?_); rotate_left; (focus (first | omega | (dsimp only; omega) | (simp; done) | (simp; omega))))))⟩
    · exact (Blk.new w _ _).alloc _
    · exact Blk.new_at (by simp)
  case round =>
    obtain ⟨m, hm, rfl, hB0, hB1, hbr⟩ := hrel
    have hz0 := hbr.size
    have hz1 := hB1.lt
    have hcb : wr.cell? ⟨b, 0, none⟩ = some (.slice r.A r.xs.length r.c) := (hbr.cell (p := ⟨b, 0, none⟩) hbl).trans hb0
    have HB0 := hid hB0
    have HB1 := hid hB1
    by_cases hlt : m < q
    · have hlt2 : m < r.xs.length := by omega
      obtain ⟨g, off, hA, hgl, hcells⟩ := hrA.row (by omega)
      obtain ⟨k0, k1, k2, k3, k4⟩ := (hcells m hlt2).stays hbr hgl
      have hgn : g ≠ w.heap.size + 1 := by omega
      have f0 := hB1.frozen 0
      have f1 := hB1.frozen 1
      have f2 := hB1.frozen 2
      have f3 := hB1.frozen 3
      have f4 := hB1.frozen 4
      have c0 := hB1.cell 0
      have c1 := hB1.cell 1
      have c2 := hB1.cell 2
      have c3 := hB1.cell 3
      have c4 := hB1.cell 4
      have htl : (r.xs.take m).length = m := by rw [List.length_take]; omega
      have HS : Hid (refC (r.xs.take (m + 1)) key = if (r.xs.getD m E.zero).key = key then ⟨(m : Int) + 1, (r.xs.getD m E.zero).gone, (r.xs.getD m E.zero).text⟩ else refC (r.xs.take m) key) := hid (by rw [take_snocD E.zero hlt2, refC_snoc, htl])
      generalize r.xs.getD m E.zero = y at *
      obtain ⟨y0, y1, y2, y3, y4⟩ := y
      generalize refC (r.xs.take m) key = o at *
      obtain ⟨o0, o1, o2⟩ := o
      simp only at k0 k1 k2 k3 k4 c0 c1 c2 c3 c4
      rw [hA] at hcb
      clear hA hcells hB0 hB1 htl
      by_cases hk : y0 = key
      · subst hk
        go_wp2_with fail
        go_roundw
        case rel =>
          refine ⟨m + 1, by omega, by go_num, ?_, ?_, by (repeat (first | with_reducible exact Below.refl _ _ | with_reducible assumption | (with_reducible refine Below.drew ?_) | (with_reducible refine Below.manyDrew ?_ _) | ((with_reducible refine Below.alloc ?_ ?_ _); rotate_left; (focus (first | omega | (dsimp only; omega) | (simp; done) | (simp; omega)))) | ((with_reducible refine Below.setCell ?_ ?_ _); rotate_left; (focus (first | omega | (dsimp only; omega) | (simp; done) | (simp; omega)))) | ((with_reducible refine Below.step ?_ (by assumption) ?_); rotate_left; (focus (first | omega | (dsimp only; omega) | (simp; done) | (simp; omega))))))⟩
          · exact ((HB0.out.far (p := ⟨w.heap.size + 1, 1, none⟩) (by simp) _).far (p := ⟨w.heap.size + 1, 3, none⟩) (by simp) _).far (p := ⟨w.heap.size + 1, 4, none⟩) (by simp) _
          · rw [HS.out]
            first | rw [if_pos rfl] | rw [if_pos trivial]
            exact ((HB1.out.put 1 _).put 3 _).put 4 _
        case measure => simp [intOf]; omega
      · have Hk := hid hk
        go_wp2_with fail
        go_roundw
        case rel =>
          refine ⟨m + 1, by omega, by go_num, HB0.out, ?_, hbr⟩
          rw [HS.out, if_neg Hk.out]
          exact HB1.out
        case measure => simp [intOf]; omega
    · obtain rfl : m = q := by omega
      have c0 := hB1.cell 0
      have c1 := hB1.cell 1
      have c2 := hB1.cell 2
      have c3 := hB1.cell 3
      have c4 := hB1.cell 4
      have g0 := HB0.out.frozen 0
      have g1 := HB0.out.frozen 1
      have g2 := HB0.out.frozen 2
      have g3 := HB0.out.frozen 3
      have g4 := HB0.out.frozen 4
      have d0 := HB0.out.cell 0
      have d1 := HB0.out.cell 1
      have d2 := HB0.out.cell 2
      have d3 := HB0.out.cell 3
      have d4 := HB0.out.cell 4
      clear hB0 hB1
      go_wp2_with fail
      refine bodyPost_ret (v := (entC key m (refC (r.xs.take m) key)).val) ?_ rfl ⟨rfl, by (repeat (first | with_reducible exact Below.refl _ _ | with_reducible assumption | (with_reducible refine Below.drew ?_) | (with_reducible refine Below.manyDrew ?_ _) | ((with_reducible refine Below.alloc ?_ ?_ _); rotate_left; (focus (first | omega | (dsimp only; omega) | (simp; done) | (simp; omega)))) | ((with_reducible refine Below.setCell ?_ ?_ _); rotate_left; (focus (first | omega | (dsimp only; omega) | (simp; done) | (simp; omega)))) | ((with_reducible refine Below.step ?_ (by assumption) ?_); rotate_left; (focus (first | omega | (dsimp only; omega) | (simp; done) | (simp; omega))))))⟩
      exact results_box1 Tryz.results85 rfl (HB0.out.put5 _ _ _ _ _) Tryz.underlying59 rfl (by kernel_rfl)

set_option maxHeartbeats 4000000 in
theorem rRead_any (base b : Nat) (key : Int) (v : Value) (D : List E) (w : World) (hR : RStoreO base w b v D) :
    Calls Tryz.prog 57 #[.pointer (some ⟨b, 0, none⟩), .int .i64 key] w fun e w' => e = .returned (entC key D.length (refC D key)).val ∧ Below w.heap.size w w' := by
  obtain ⟨r, rfl, hrx, hrA⟩ := hR.form
  subst hrx
  have hsh := hR.short
  have hb0 : w.cell? ⟨b, 0, none⟩ = some (.slice r.A r.xs.length r.c) := hR.blk.cell 0
  have hbl := hR.lt
  have hB0 : Blk (w.alloc (.cells #[.int .i64 0, .int .i64 0, .int .i64 0, .bool false, .string ⟨#[]⟩] 59)) w.heap.size 59 #[.int .i64 0, .int .i64 0, .int .i64 0, .bool false, .string ⟨#[]⟩] := Blk.new w _ _
  have HC := hid (rAt_any base b key r.xs.length _ r.xs (Nat.le_refl _) _ (hR.belowS (show Below w.heap.size w (w.alloc (.cells #[.int .i64 0, .int .i64 0, .int .i64 0, .bool false, .string ⟨#[]⟩] 59)) by (repeat (first | with_reducible exact Below.refl _ _ | with_reducible assumption | (with_reducible refine Below.drew ?_) | (with_reducible refine Below.manyDrew ?_ _) | ((with_reducible refine Below.alloc ?_ ?_ _); rotate_left; (focus (first | omega | (dsimp only; omega) | (simp; done) | (simp; omega)))) | ((with_reducible refine Below.setCell ?_ ?_ _); rotate_left; (focus (first | omega | (dsimp only; omega) | (simp; done) | (simp; omega)))) | ((with_reducible refine Below.step ?_ (by assumption) ?_); rotate_left; (focus (first | omega | (dsimp only; omega) | (simp; done) | (simp; omega)))))))))
  rw [List.take_length] at HC
  generalize entC key r.xs.length (refC r.xs key) = c at *
  obtain ⟨c0, c1, c2, c3, c4⟩ := c
  clear hR
  go_enter Tryz.func57, Tryz.ntmps57
  go_wp2_with fail
  refine HC.out.mono ?_
  unfold E.val
  rintro e w1 ⟨rfl, hb1⟩; obtain ⟨hc1, hf1⟩ := bcell hb1; have hz1 := hb1.size; (try simp only [World.size_alloc] at hz1); (try simp only [World.size_setCell] at hz1)
  have hB1 := hB0.belowS hb1
  have hl1 : w.heap.size < w1.heap.size := by omega
  have g0 := hB1.frozen 0
  have g1 := hB1.frozen 1
  have g2 := hB1.frozen 2
  have g3 := hB1.frozen 3
  have g4 := hB1.frozen 4
  have d0 := hB1.cell 0
  have d1 := hB1.cell 1
  have d2 := hB1.cell 2
  have d3 := hB1.cell 3
  have d4 := hB1.cell 4
  have HB1 := hid hB1
  clear hB0 hB1
  go_wp2_with fail
  refine bodyPost_ret (v := E.val ⟨c0, c1, c2, c3, c4⟩) ?_ rfl ⟨rfl, by (repeat (first | with_reducible exact Below.refl _ _ | with_reducible assumption | (with_reducible refine Below.drew ?_) | (with_reducible refine Below.manyDrew ?_ _) | ((with_reducible refine Below.alloc ?_ ?_ _); rotate_left; (focus (first | omega | (dsimp only; omega) | (simp; done) | (simp; omega)))) | ((with_reducible refine Below.setCell ?_ ?_ _); rotate_left; (focus (first | omega | (dsimp only; omega) | (simp; done) | (simp; omega)))) | ((with_reducible refine Below.step ?_ (by assumption) ?_); rotate_left; (focus (first | omega | (dsimp only; omega) | (simp; done) | (simp; omega))))))⟩
  exact results_box1 Tryz.results57 rfl (HB1.out.put5 _ _ _ _ _) Tryz.underlying59 rfl (by kernel_rfl)

theorem rnew {base b : Nat} {w w8 X : World} {v v8 : Value} {D : List E} {e : E} (hR : RStoreO base w b v D) (he : e.good) (h10 : D.length < 1000) (hX : Below w.heap.size w X) (h8 : Ow E.cells 5 base 59 w8 v8 (D ++ [e])) (f8 : Fr (fun k => some k = foot v) X w8) (o8 : foot v8 = foot v ∨ ∃ k, foot v8 = some k ∧ w.heap.size ≤ k) :
    RStoreO base (w8.setCell ⟨b, 0, none⟩ v8) b v8 (D ++ [e]) ∧ Fr (fun i => i = b ∨ some i = foot v) w (w8.setCell ⟨b, 0, none⟩ v8) ∧ (foot v8 = foot v ∨ ∃ k, foot v8 = some k ∧ w.heap.size ≤ k) := by
  have hbl := hR.lt
  have hf8 : foot v8 ≠ some b := fun h => by
    rcases o8 with o | ⟨k, o, hk⟩
    · exact hR.off (by rw [← o, h])
    · rw [h] at o; cases o; omega
  have hFs : Fr (fun i => i = b) w8 (w8.setCell ⟨b, 0, none⟩ v8) := (Fr.refl (fun i => i = b) w8).setCell (p := ⟨b, 0, none⟩) (.inl rfl) _
  refine ⟨⟨((hR.blk.belowS hX).fr f8 (fun h => hR.off h.symm)).put 0 v8, h8.fr hFs (fun g hg h => hf8 (by rw [hg, h])), hf8, hR.base, fun y hy => ?_, by rw [List.length_append, List.length_singleton]; omega⟩, ?_, o8⟩
  · rcases List.mem_append.1 hy with hy | hy
    · exact hR.good y hy
    · rw [List.mem_singleton.1 hy]; exact he
  · exact ((Fr.ofB hX).step (f8.mono (fun i _ h => .inr h))).setCell (p := ⟨b, 0, none⟩) (.inl (.inl rfl)) _

set_option maxHeartbeats 4000000 in
set_option maxRecDepth 100000 in
theorem rput_any (base b : Nat) (key : Int) (t : ByteArray) (ht : t.size ≤ maxLen) (v : Value) (D : List E) (w : World) (hR : RStoreO base w b v D) :
    Calls Tryz.prog 33 #[.pointer (some ⟨b, 0, none⟩), .int .i64 key, .string t] w (RRes base b v w (rput D key t)) := by
  have hm := ht
  unfold maxLen at hm
  have HR := hid hR
  obtain ⟨r, rfl, hrx, hrA⟩ := hR.form
  subst hrx
  have hsh := hR.short
  have hb0 : w.cell? ⟨b, 0, none⟩ = some (.slice r.A r.xs.length r.c) := hR.blk.cell 0
  have hbz := hR.blk.frozen 0
  have hbl := hR.lt
  have hown := hR.own
  clear hR
  rcases hk : keyB key with _ | _
  · rw [rput, hk, if_neg (by decide)]
    have Hk := hid hk
    clear hk hown
    go_enter Tryz.func33, Tryz.ntmps33
    go_wp2_with ((go_at_call 35; refine (rkey_any _ _).mono ?_; rintro e w' ⟨rfl, rfl⟩); rw [Hk.out])
    go_ret2
    exact RRes.no HR.out (Below.refl _ _)
  · rw [rput, hk, if_pos rfl]
    have hkk := keyB_true.1 hk
    have Hk := hid hk
    clear hk
    by_cases h12 : (12 : Int) < (t.size : Int)
    · rw [if_pos h12]
      clear hown
      go_enter Tryz.func33, Tryz.ntmps33
      go_wp2_with ((go_at_call 35; refine (rkey_any _ _).mono ?_; rintro e w' ⟨rfl, rfl⟩); rw [Hk.out])
      go_ret2
      exact RRes.no HR.out (Below.refl _ _)
    · rw [if_neg h12]
      by_cases h10 : r.xs.length = 1000
      · have hD : rdone r.xs ⟨key, 0, 0, false, t⟩ = ((0, 4), r.xs) := by rw [rdone, if_pos h10]
        have hge : (1000 : Int) ≤ (r.xs.length : Int) := by omega
        rw [hD]
        clear hD h10 hown
        go_enter Tryz.func33, Tryz.ntmps33
        go_wp2_with ((go_at_call 35; refine (rkey_any _ _).mono ?_; rintro e w' ⟨rfl, rfl⟩); rw [Hk.out])
        go_ret2
        exact RRes.no HR.out (Below.refl _ _)
      · have hD : rdone r.xs ⟨key, 0, 0, false, t⟩ = (((r.xs.length : Int) + 1, 0), r.xs ++ [⟨key, 0, 0, false, t⟩]) := by rw [rdone, if_neg h10]
        have hge : ¬ (1000 : Int) ≤ (r.xs.length : Int) := by omega
        have hlt : r.xs.length < 1000 := by omega
        have hgood : (⟨key, 0, 0, false, t⟩ : E).good := ⟨by simp only; omega, by simp only; omega, by simp only; omega, ht⟩
        have Hgood := hid hgood
        have hbb : base ≤ w.heap.size := Nat.le_trans HR.out.base (by omega)
        have Hoff := hid HR.out.off
        rw [hD]
        clear hD h10 hgood
        go_enter Tryz.func33, Tryz.ntmps33
        go_wp2_with (first | ((go_at_call 35; refine (rkey_any _ _).mono ?_; rintro e w' ⟨rfl, rfl⟩); rw [Hk.out]) | (at_builtin; refine appE _ base _ r.xs key 0 0 false t hown rfl _ _ rfl rfl rfl ?_ ?_ ?_ ?_))
        all_goals try (first | omega | (simp; done) | (simp; omega))
        intro v8 w8 h8 f8 o8
        have hn := rnew HR.out Hgood.out hlt (Below.refl _ w) h8 f8 (o8.imp (fun o => o) (fun o => ⟨_, o, by omega⟩))
        have hfb : ¬ some b = foot (.slice r.A r.xs.length r.c) := fun e => Hoff.out e.symm
        have hc8 : w8.cell? ⟨b, 0, none⟩ = some (.slice r.A r.xs.length r.c) := (f8.cell (p := ⟨b, 0, none⟩) hbl hfb).trans hb0
        have hz8 : w8.frozen? ⟨b, 0, none⟩ = false := (f8.frozen (p := ⟨b, 0, none⟩) hbl hfb).trans hbz
        obtain ⟨A8, c8, rfl, p8, q8, _⟩ := h8.form
        have hl8 : (r.xs ++ [(⟨key, 0, 0, false, t⟩ : E)]).length = r.xs.length + 1 := by simp
        rw [hl8] at hn
        have Hn := hid hn
        have Hl8 := hid hl8
        clear h8 f8 o8 hn hl8 hb0 hbz hown
        rw [Hl8.out]
        go_wp2_with fail
        go_ret2
        first | exact ⟨_, rfl, Hn.out⟩ | exact ⟨rfl, _, Hn.out⟩

set_option maxHeartbeats 4000000 in
set_option maxRecDepth 100000 in
theorem rdel_any (base b : Nat) (key : Int) (v : Value) (D : List E) (w : World) (hR : RStoreO base w b v D) :
    Calls Tryz.prog 32 #[.pointer (some ⟨b, 0, none⟩), .int .i64 key] w (RRes base b v w (rdel D key)) := by
  have HR := hid hR
  have hbl := hR.lt
  have hsh := hR.short
  rcases hk : keyB key with _ | _
  · rw [rdel, hk, if_neg (by decide)]
    have Hk := hid hk
    clear hk
    go_enter Tryz.func32, Tryz.ntmps32
    go_wp2_with ((go_at_call 35; refine (rkey_any _ _).mono ?_; rintro e w' ⟨rfl, rfl⟩); rw [Hk.out])
    go_ret2
    exact RRes.no HR.out (Below.refl _ _)
  · rw [rdel, hk, if_pos rfl]
    have hkk := keyB_true.1 hk
    have Hk := hid hk
    clear hk
    have HC := hid (rRead_any base b key v D w hR)
    generalize hc : refC D key = c at *
    clear hc
    obtain ⟨c0, c1, c2⟩ := c
    unfold entC E.val at HC
    cases c1 with
    | true =>
      rw [if_pos rfl]
      clear hR
      go_enter Tryz.func32, Tryz.ntmps32
      go_wp2_with ((go_at_call 35; refine (rkey_any _ _).mono ?_; rintro e w' ⟨rfl, rfl⟩); rw [Hk.out])
      refine HC.out.mono ?_
      rintro e w1 ⟨rfl, hb1⟩; obtain ⟨hc1, hf1⟩ := bcell hb1; have hz1 := hb1.size; (try simp only [World.size_alloc] at hz1); (try simp only [World.size_setCell] at hz1)
      go_wp2_with fail
      go_ret2
      exact RRes.no HR.out (by (repeat (first | with_reducible exact Below.refl _ _ | with_reducible assumption | (with_reducible refine Below.drew ?_) | (with_reducible refine Below.manyDrew ?_ _) | ((with_reducible refine Below.alloc ?_ ?_ _); rotate_left; (focus (first | omega | (dsimp only; omega) | (simp; done) | (simp; omega)))) | ((with_reducible refine Below.setCell ?_ ?_ _); rotate_left; (focus (first | omega | (dsimp only; omega) | (simp; done) | (simp; omega)))) | ((with_reducible refine Below.step ?_ (by assumption) ?_); rotate_left; (focus (first | omega | (dsimp only; omega) | (simp; done) | (simp; omega)))))))
    | false =>
      rw [if_neg (by simp)]
      clear hR
      go_enter Tryz.func32, Tryz.ntmps32
      go_wp2_with ((go_at_call 35; refine (rkey_any _ _).mono ?_; rintro e w' ⟨rfl, rfl⟩); rw [Hk.out])
      refine HC.out.mono ?_
      rintro e w1 ⟨rfl, hb1⟩; obtain ⟨hc1, hf1⟩ := bcell hb1; have hz1 := hb1.size; (try simp only [World.size_alloc] at hz1); (try simp only [World.size_setCell] at hz1)
      have hR1 := HR.out.belowS hb1
      obtain ⟨r, rfl, hrx, hrA⟩ := hR1.form
      subst hrx
      have hb0 : w1.cell? ⟨b, 0, none⟩ = some (.slice r.A r.xs.length r.c) := hR1.blk.cell 0
      have hbz := hR1.blk.frozen 0
      have hbl1 := hR1.lt
      have hbn1 : b ≠ w1.heap.size := by omega
      have hown := hR1.own
      have hbb : base ≤ w1.heap.size := Nat.le_trans hR1.base (by omega)
      have Hoff := hid hR1.off
      have HR1 := hid hR1
      clear hR1 hc1 hf1
      by_cases h10 : r.xs.length = 1000
      · have hD : rdone r.xs ⟨key, 0, 0, true, ⟨#[]⟩⟩ = ((0, 4), r.xs) := by rw [rdone, if_pos h10]
        have hge : (1000 : Int) ≤ (r.xs.length : Int) := by omega
        have HD := hid hD
        clear hD h10 hown
        go_wp2_with fail
        go_ret2
        rw [HD.out]
        refine RRes.no HR.out ?_
        (repeat (first | with_reducible exact Below.refl _ _ | with_reducible assumption | (with_reducible refine Below.drew ?_) | (with_reducible refine Below.manyDrew ?_ _) | ((with_reducible refine Below.alloc ?_ ?_ _); rotate_left; (focus (first | omega | (dsimp only; omega) | (simp; done) | (simp; omega)))) | ((with_reducible refine Below.setCell ?_ ?_ _); rotate_left; (focus (first | omega | (dsimp only; omega) | (simp; done) | (simp; omega)))) | ((with_reducible refine Below.step ?_ (by assumption) ?_); rotate_left; (focus (first | omega | (dsimp only; omega) | (simp; done) | (simp; omega))))))
      · have hD : rdone r.xs ⟨key, 0, 0, true, ⟨#[]⟩⟩ = (((r.xs.length : Int) + 1, 0), r.xs ++ [⟨key, 0, 0, true, ⟨#[]⟩⟩]) := by rw [rdone, if_neg h10]
        have hge : ¬ (1000 : Int) ≤ (r.xs.length : Int) := by omega
        have hlt : r.xs.length < 1000 := by omega
        have Hgood := hid (show (⟨key, 0, 0, true, ⟨#[]⟩⟩ : E).good from ⟨by simp only; omega, by simp only; omega, by simp only; omega, Nat.zero_le _⟩)
        have HD := hid hD
        clear hD h10
        go_wp2_with (at_builtin; refine appE _ base _ r.xs key 0 0 true ⟨#[]⟩ (hown.alloc _) rfl _ _ rfl rfl rfl ?_ ?_ ?_ ?_)
        all_goals try (first | omega | (simp; done) | (simp; omega))
        intro v8 w8 h8 f8 o8
        have hn := rnew HR1.out Hgood.out hlt (show Below w1.heap.size w1 _ by (repeat (first | with_reducible exact Below.refl _ _ | with_reducible assumption | (with_reducible refine Below.drew ?_) | (with_reducible refine Below.manyDrew ?_ _) | ((with_reducible refine Below.alloc ?_ ?_ _); rotate_left; (focus (first | omega | (dsimp only; omega) | (simp; done) | (simp; omega)))) | ((with_reducible refine Below.setCell ?_ ?_ _); rotate_left; (focus (first | omega | (dsimp only; omega) | (simp; done) | (simp; omega)))) | ((with_reducible refine Below.step ?_ (by assumption) ?_); rotate_left; (focus (first | omega | (dsimp only; omega) | (simp; done) | (simp; omega))))))) h8 f8 (o8.imp (fun o => o) (fun o => ⟨_, o, by first | omega | (simp; omega)⟩))
        have hfb : ¬ some b = foot (.slice r.A r.xs.length r.c) := fun e => Hoff.out e.symm
        have hc8 : w8.cell? ⟨b, 0, none⟩ = some (.slice r.A r.xs.length r.c) := (f8.cell (p := ⟨b, 0, none⟩) (by simp; omega) hfb).trans ((World.cell?_alloc_lt w1 _ ⟨b, 0, none⟩ hbl1).trans hb0)
        have hz8 : w8.frozen? ⟨b, 0, none⟩ = false := (HR1.out.blk.alloc _ |>.fr f8 hfb).frozen 0
        obtain ⟨A8, c8, rfl, p8, q8, _⟩ := h8.form
        have hl8 : (r.xs ++ [(⟨key, 0, 0, true, ⟨#[]⟩⟩ : E)]).length = r.xs.length + 1 := by simp
        rw [hl8] at hn
        have Hn := hid hn
        have Hl8 := hid hl8
        clear h8 f8 o8 hn hl8 hb0 hbz hown
        rw [Hl8.out]
        go_wp2_with fail
        go_ret2
        rw [HD.out]
        refine rrec (w := w1) ?_ hb1
        first | exact ⟨_, rfl, Hn.out⟩ | exact ⟨rfl, _, Hn.out⟩

end Go.Proofs.YtemhdfodghfkfaaGreatDoor
