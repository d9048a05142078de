/-
  CONTRACTS of package store: New, last, done. CONDITIONS: none.
-/
import Derived.Test.YtdocdmpfokdjkaaStoreTy
import Derived.Laws.EntriesVeiled
import Derived.Deep.DeepCutAuto
import Derived.Deep.RegionLaw
import Derived.BigQuiet
namespace Go.Proofs.Ytdocdmpfokdjkaa
open Go.RowKit
open Go.ChangeShapes Go.WideShapes Go.ChangeAt

theorem snew_any (w : World) : Calls Try.prog 31 #[] w fun e w' => e = .returned (.pointer (some ⟨w.heap.size, 0, none⟩)) ∧ StoreO w.heap.size w' w.heap.size (List.replicate 8 nilS) (List.replicate 8 []) 0 ∧ Below w.heap.size w w' := by
  go_enter Try.func31, Try.ntmps31
  go_wp2
  go_ret
  refine ⟨rfl, ⟨Blk.new _ _ _, rfl, fun k hk => ?_, fun j k hj hk _ g h => ?_, fun k hk h => ?_, Nat.le_refl _⟩, by (repeat (first | with_reducible exact Below.refl _ _ | with_reducible assumption | (with_reducible refine Below.drew ?_) | (with_reducible refine Below.manyDrew ?_ _) | ((with_reducible refine Below.alloc ?_ ?_ _); rotate_left; (focus (first | omega | (dsimp only; omega) | (simp; done) | (simp; omega)))) | ((with_reducible refine Below.setCell ?_ ?_ _); rotate_left; (focus (first | omega | (dsimp only; omega) | (simp; done) | (simp; omega)))) | ((with_reducible refine Below.step ?_ (by assumption) ?_); rotate_left; (focus (first | omega | (dsimp only; omega) | (simp; done) | (simp; omega))))))⟩
  · have e1 : (List.replicate 8 nilS).getD k nilS = nilS := by simp only [List.getD, List.getElem?_replicate]; split <;> rfl
    have e2 : (List.replicate 8 ([] : List Ch)).getD k [] = [] := by simp only [List.getD, List.getElem?_replicate]; split <;> rfl
    rw [e1, e2]
    exact Ow.nil _ _ _ _ _
  · have e1 : (List.replicate 8 nilS).getD j nilS = nilS := by simp only [List.getD, List.getElem?_replicate]; split <;> rfl
    rw [e1] at h; cases h
  · have e1 : (List.replicate 8 nilS).getD k nilS = nilS := by simp only [List.getD, List.getElem?_replicate]; split <;> rfl
    rw [e1] at h; cases h
theorem StP.new : StP (List.replicate 8 []) 0 := by
  have e2 : ∀ k, (List.replicate 8 ([] : List Ch)).getD k [] = [] := fun k => by simp only [List.getD, List.getElem?_replicate]; split <;> rfl
  refine ⟨rfl, Int.le_refl _, by omega, fun k c hc => ?_, fun k => ?_⟩
  · rw [e2] at hc; cases hc
  · rw [e2]; simp

set_option maxHeartbeats 2000000 in
theorem last_any (base s k : Nat) (q : Int) (vs : List Value) (ls : List (List Ch)) (n : Int) (hk : k < 8) (w : World) (hO : StoreO base w s vs ls n) (hP : StP ls n) :
    Calls Try.prog 61 #[.pointer (some ⟨s, 0, none⟩), .int .i64 k, .int .i64 q] w fun e w' => e = .returned (lastC (ls.getD k []) q).val ∧ Below w.heap.size w w' := by
  obtain ⟨r, hv, hrx, hrA, _, _⟩ := ChsAt.of_ow (hO.own k hk) (hP.good k)
  have hat : w.cell? ⟨s, 1 + k, none⟩ = some (.slice r.A r.xs.length r.c) := by rw [← hv]; exact hO.at hk
  have hsl := hO.lt
  have hsh := hP.short k
  have hhi := hP.hi
  rw [← hrx] at hsh ⊢
  have hlen : r.xs.length ≤ 1000 := by omega
  clear hO hP hv hrx hsh hhi
  go_enter Try.func61, Try.ntmps61
  go_wp2_with fail
  go_loopw [18] (fun i wr => ∃ m : Nat, m ≤ r.xs.length ∧ i = .int .i64 m ∧ Blk wr w.heap.size 105 #[.int .i64 0, .bool false, .string ⟨#[]⟩] ∧ Blk wr (w.heap.size + 1) 105 #[.int .i64 (lastC (r.xs.take m) q).seq, .bool (lastC (r.xs.take m) q).gone, .string (lastC (r.xs.take m) q).text] ∧ Below w.heap.size w wr) (fun i _ => r.xs.length - (intOf i).toNat)
  case atStart =>
    refine ⟨0, Nat.zero_le _, rfl, ?_, ?_, by (repeat (first | with_reducible exact Below.refl _ _ | with_reducible assumption | (with_reducible refine Below.drew ?_) | (with_reducible refine Below.manyDrew ?_ _) | ((with_reducible refine Below.alloc ?_ ?_ _); rotate_left; (focus (first | omega | (dsimp only; omega) | (simp; done) | (simp; omega)))) | ((with_reducible refine Below.setCell ?_ ?_ _); rotate_left; (focus (first | omega | (dsimp only; omega) | (simp; done) | (simp; omega)))) | ((with_reducible refine Below.step ?_ (by assumption) ?_); rotate_left; (focus (first | omega | (dsimp only; omega) | (simp; done) | (simp; omega))))))⟩
    · exact (Blk.new w _ _).alloc _
    · exact Blk.new_at (by simp)
  case round =>
    obtain ⟨m, hm, rfl, hB0, hB1, hbr⟩ := hrel
    have hz0 := hbr.size
    have hz1 := hB1.lt
    have f0 := hB1.frozen 0
    have f1 := hB1.frozen 1
    have f2 := hB1.frozen 2
    have c0 := hB1.cell 0
    have c1 := hB1.cell 1
    have c2 := hB1.cell 2
    have HB0 := hid hB0
    have HB1 := hid hB1
    clear hB0 hB1
    by_cases hlt : m < r.xs.length
    · obtain ⟨g, off, hA, hgl, hcells⟩ := hrA.row (by omega)
      obtain ⟨k0, k1, k2⟩ := (hcells m hlt).stays hbr hgl
      have HT := hid (take_snocD Ch.zero hlt)
      have HS := hid (lastC_snoc (r.xs.take m) (r.xs.getD m Ch.zero) q)
      rw [← HT.out] at HS
      generalize r.xs.getD m Ch.zero = y at *
      obtain ⟨y0, y1, y2⟩ := y
      generalize lastC (r.xs.take m) q = o at *
      obtain ⟨o0, o1, o2⟩ := o
      have hn0 : w.heap.size ≠ wr.heap.size := by omega
      have hn1 : w.heap.size + 1 ≠ wr.heap.size := by omega
      simp only at k0 k1 k2 c0 c1 c2
      rw [hA] at *
      clear hA hcells
      by_cases hq : y0 ≤ q
      · go_wp2_with fail
        go_roundw
        case rel =>
          refine ⟨m + 1, by omega, by go_num, ?_, ?_, by (repeat (first | with_reducible exact Below.refl _ _ | with_reducible assumption | (with_reducible refine Below.drew ?_) | (with_reducible refine Below.manyDrew ?_ _) | ((with_reducible refine Below.alloc ?_ ?_ _); rotate_left; (focus (first | omega | (dsimp only; omega) | (simp; done) | (simp; omega)))) | ((with_reducible refine Below.setCell ?_ ?_ _); rotate_left; (focus (first | omega | (dsimp only; omega) | (simp; done) | (simp; omega)))) | ((with_reducible refine Below.step ?_ (by assumption) ?_); rotate_left; (focus (first | omega | (dsimp only; omega) | (simp; done) | (simp; omega))))))⟩
          · exact (((HB0.out.far (p := ⟨w.heap.size + 1, 0, none⟩) (by simp) _).far (p := ⟨w.heap.size + 1, 1, none⟩) (by simp) _).far (p := ⟨w.heap.size + 1, 2, none⟩) (by simp) _).alloc _
          · rw [HS.out, if_pos hq]
            exact (HB1.out.put3 _ _ _).alloc _
        case measure => simp [intOf]; omega
      · go_wp2_with fail
        go_roundw
        case rel =>
          refine ⟨m + 1, by omega, by go_num, HB0.out.alloc _, ?_, by (repeat (first | with_reducible exact Below.refl _ _ | with_reducible assumption | (with_reducible refine Below.drew ?_) | (with_reducible refine Below.manyDrew ?_ _) | ((with_reducible refine Below.alloc ?_ ?_ _); rotate_left; (focus (first | omega | (dsimp only; omega) | (simp; done) | (simp; omega)))) | ((with_reducible refine Below.setCell ?_ ?_ _); rotate_left; (focus (first | omega | (dsimp only; omega) | (simp; done) | (simp; omega)))) | ((with_reducible refine Below.step ?_ (by assumption) ?_); rotate_left; (focus (first | omega | (dsimp only; omega) | (simp; done) | (simp; omega))))))⟩
          rw [HS.out, if_neg hq]
          exact HB1.out.alloc _
        case measure => simp [intOf]; omega
    · obtain rfl : m = r.xs.length := by omega
      rw [List.take_length] at *
      have g0 := HB0.out.frozen 0
      have g1 := HB0.out.frozen 1
      have g2 := HB0.out.frozen 2
      have d0 := HB0.out.cell 0
      have d1 := HB0.out.cell 1
      have d2 := HB0.out.cell 2
      go_wp2_with fail
      refine bodyPost_ret (v := (lastC r.xs q).val) ?_ rfl ⟨rfl, by (repeat (first | with_reducible exact Below.refl _ _ | with_reducible assumption | (with_reducible refine Below.drew ?_) | (with_reducible refine Below.manyDrew ?_ _) | ((with_reducible refine Below.alloc ?_ ?_ _); rotate_left; (focus (first | omega | (dsimp only; omega) | (simp; done) | (simp; omega)))) | ((with_reducible refine Below.setCell ?_ ?_ _); rotate_left; (focus (first | omega | (dsimp only; omega) | (simp; done) | (simp; omega)))) | ((with_reducible refine Below.step ?_ (by assumption) ?_); rotate_left; (focus (first | omega | (dsimp only; omega) | (simp; done) | (simp; omega))))))⟩
      exact results_box1 Try.results61 rfl (HB0.out.put3 _ _ _) Try.underlying105 rfl (by kernel_rfl)

set_option maxHeartbeats 4000000 in
theorem done_full (base s k : Nat) (g : Bool) (t : ByteArray) (vs : List Value) (ls : List (List Ch)) (w : World) (hO : StoreO base w s vs ls 1000) :
    Calls Try.prog 50 #[.pointer (some ⟨s, 0, none⟩), .int .i64 k, .bool g, .string t] w fun e w' => e = .returned (.tuple #[.int .i64 0, errV 4]) ∧ w = w' := by
  have hs := hO.seq
  go_enter Try.func50, Try.ntmps50
  go_wp2_with fail
  go_ret2
  exact ⟨rfl, rfl⟩

theorem cons_set (x : Value) (vs : List Value) (k : Nat) (v : Value) : (x :: vs).toArray.setIfInBounds (1 + k) v = (x :: vs.set k v).toArray := by
  rw [Nat.add_comm]; simp
theorem done_new {base s k : Nat} {w w2 X w8 : World} {vs : List Value} {ls : List (List Ch)} {n m : Int} {v8 : Value} {L' : List Ch} (hO : StoreO base w s vs ls n) (hll8 : ls.length = 8) (hk : k < 8) (hF2 : Fr (fun i => i = s) w w2) (hB2 : Blk w2 s 97 (.int .i64 m :: vs).toArray)
    (hX : Below w2.heap.size w2 X) (h8 : Ow Ch.cells 3 base 105 w8 v8 L') (f8 : Fr (fun i => some i = foot (vs.getD k nilS)) X w8) (o8 : foot v8 = foot (vs.getD k nilS) ∨ ∃ g, foot v8 = some g ∧ w2.heap.size ≤ g) :
    StoreO base (w8.setCell ⟨s, 1 + k, none⟩ v8) s (vs.set k v8) (ls.set k L') m ∧ Fr (fun i => i = s ∨ some i = foot (vs.getD k nilS)) w (w8.setCell ⟨s, 1 + k, none⟩ v8) ∧
      ∀ j, j < 8 → foot ((vs.set k v8).getD j nilS) = foot (vs.getD j nilS) ∨ ∃ g, foot ((vs.set k v8).getD j nilS) = some g ∧ w.heap.size ≤ g := by
  have hz2 := hF2.size
  have hsl := hO.lt
  have hoff := hO.off k hk
  have hkv : k < vs.length := by rw [hO.len]; exact hk
  have hf8s : foot v8 ≠ some s := fun e => by
    rcases o8 with o | ⟨g, o, hg⟩
    · exact hoff (by rw [← o, e])
    · rw [e] at o; cases o; omega
  have hB8 : Blk w8 s 97 (.int .i64 m :: vs).toArray := (hB2.belowS hX).fr f8 (fun e => hoff e.symm)
  have hFs : Fr (fun i => i = s) w8 (w8.setCell ⟨s, 1 + k, none⟩ v8) := (Fr.refl (fun i => i = s) w8).setCell (p := ⟨s, 1 + k, none⟩) (.inl rfl) _
  have hfresh : ∀ j, j < 8 → ∀ g, foot (vs.getD j nilS) = some g → g < w2.heap.size := fun j hj g hg => Nat.lt_of_lt_of_le (hO.footlt hj hg).2 hz2
  refine ⟨⟨?_, by rw [List.length_set, hO.len], fun j hj => ?_, fun i j hi hj hij g hg e => ?_, fun j hj e => ?_, hO.base⟩, ?_, fun j hj => ?_⟩
  · have := hB8.put (1 + k) v8
    rw [cons_set] at this
    exact this
  · by_cases hjk : k = j
    · subst hjk
      have hll : k < ls.length := by rw [hll8]; exact hk
      rw [set_getD _ _ _ _ _ hkv, if_pos rfl, set_getD _ _ _ _ _ hll, if_pos rfl]
      exact h8.fr hFs (fun g hg e => hf8s (by rw [hg, e]))
    · rw [set_getD _ _ _ _ _ hkv, if_neg hjk]
      have hlj : (ls.set k L').getD j [] = ls.getD j [] := by
        simp only [List.getD, List.getElem?_set_ne hjk]
      rw [hlj]
      exact ((((hO.own j hj).fr hF2 (fun g hg e => hO.off j hj (by rw [hg, e]))).belowS hX).fr f8 (fun g hg e => hO.apart j k hj hk (fun h => hjk h.symm) g hg e.symm)).fr hFs (fun g hg e => hO.off j hj (by rw [hg, e]))
  · rw [set_getD _ _ _ _ _ hkv] at hg e
    split at hg
    · rename_i hki
      rw [if_neg (fun h => hij (by rw [← hki, h]))] at e
      rcases o8 with o | ⟨g', o, hg'⟩
      · rw [o] at hg
        exact hO.apart k j hk hj (fun h => hij (by rw [← hki, h])) g hg e
      · rw [hg] at o; cases o
        have := hfresh j hj _ e
        omega
    · split at e
      · rename_i hki hkj
        rcases o8 with o | ⟨g', o, hg'⟩
        · rw [o] at e
          exact hO.apart i k hi hk (fun h => hki h.symm) g hg e
        · rw [e] at o; cases o
          have := hfresh i hi _ hg
          omega
      · exact hO.apart i j hi hj hij g hg e
  · rw [set_getD _ _ _ _ _ hkv] at e
    split at e
    · exact hf8s e
    · exact hO.off j hj e
  · exact (((hF2.mono (fun i _ h => .inl h)).stepB hX).step (f8.mono (fun i _ h => .inr h))).setCell (p := ⟨s, 1 + k, none⟩) (.inl (.inl rfl)) _
  · rw [set_getD _ _ _ _ _ hkv]
    split
    · rename_i hkj
      subst hkj
      exact o8.imp (fun o => o) (fun ⟨g, o, hg⟩ => ⟨g, o, by omega⟩)
    · exact .inl rfl
theorem hF2_at {base s : Nat} {w w2 : World} {vs : List Value} {ls : List (List Ch)} {n m : Int} {k : Nat} (hO : StoreO base w s vs ls n) (hk : k < 8) (h : w2 = w.setCell ⟨s, 0, none⟩ (.int .i64 m)) : w2.cell? ⟨s, 1 + k, none⟩ = some (vs.getD k nilS) := by
  rw [h, World.cell?_setCell_other _ _ _ _ (by intro e; injection e; omega)]
  exact hO.at hk
set_option maxHeartbeats 16000000 in
theorem done_any (base s k : Nat) (g : Bool) (t : ByteArray) (vs : List Value) (ls : List (List Ch)) (n : Int) (hk : k < 8) (hn : n < 1000) (w : World) (hO : StoreO base w s vs ls n) (hP : StP ls n) :
    Calls Try.prog 50 #[.pointer (some ⟨s, 0, none⟩), .int .i64 k, .bool g, .string t] w fun e w' => ∃ vs', e = .returned (.tuple #[.int .i64 (n + 1), .nilIface]) ∧ StoreO base w' s vs' (ls.set k (ls.getD k [] ++ [⟨n + 1, g, t⟩])) (n + 1) ∧ Fr (fun i => i = s ∨ some i = foot (vs.getD k nilS)) w w' ∧ (∀ j, j < 8 → foot (vs'.getD j nilS) = foot (vs.getD j nilS) ∨ ∃ g, foot (vs'.getD j nilS) = some g ∧ w.heap.size ≤ g) := by
  have hs := hO.seq
  have hsf := hO.blk.frozen 0
  have hkf := hO.blk.frozen (1 + k)
  have hat := hO.at hk
  have hsl := hO.lt
  have hlo := hP.lo
  have hll8 := hP.len
  have hne : (n == 1000) = false := by rw [beq_eq_false_iff_ne]; omega
  have hown := hO.own k hk
  have hoff := hO.off k hk
  have hsh := hP.short k
  obtain ⟨A, c, hv, hlc, hcm, _⟩ := hown.form
  rw [hv] at hat
  have HO := hid hO
  have Hown := hid hown
  have Hoff := hid hoff
  have Hv := hid hv
  have hnk : ¬ (1 + k = 0) := by omega
  clear hO hown hoff hv hP
  go_enter Try.func50, Try.ntmps50
  go_wp2_with fail
  obtain ⟨w2, hw2⟩ : ∃ w2 : World, w2 = w.setCell ⟨s, 0, none⟩ (.int .i64 (n + 1)) := ⟨_, rfl⟩
  rw [← hw2]
  have hF2 : Fr (fun i => i = s) w w2 := by rw [hw2]; exact (Fr.refl (fun i => i = s) w).setCell (p := ⟨s, 0, none⟩) (.inl rfl) _
  have hB2 : Blk w2 s 97 (.int .i64 (n + 1) :: vs).toArray := by rw [hw2]; exact HO.out.blk.put 0 _
  have hown2 : Ow Ch.cells 3 base 105 w2 (.slice A (ls.getD k []).length c) (ls.getD k []) := by rw [← Hv.out]; exact Hown.out.fr hF2 (fun g hg e => Hoff.out (by rw [hg, e]))
  have hz2 := hF2.size
  have hs2 : w2.cell? ⟨s, 0, none⟩ = some (.int .i64 (n + 1)) := hB2.cell 0
  have hat2 : w2.cell? ⟨s, 1 + k, none⟩ = some (.slice A (ls.getD k []).length c) := (hF2_at HO.out hk hw2).trans (by rw [Hv.out])
  have hkf2 : w2.frozen? ⟨s, 1 + k, none⟩ = false := hB2.frozen _
  have hfs : ¬ some s = foot (.slice A (ls.getD k []).length c) := fun e => Hoff.out (by rw [Hv.out]; exact e.symm)
  have Hown2 := hid hown2
  have HB2 := hid hB2
  have hbs : base ≤ w2.heap.size := Nat.le_trans HO.out.base (by omega)
  have hLl : (ls.getD k []).length ≤ 1000 := by omega
  have hsl2 : s < w2.heap.size := by omega
  have HF2 := hid hF2
  clear hw2 hF2 hB2 hown2 hs hat hsf hkf
  generalize hL : ls.getD k [] = L at *
  have HL := hid hL
  clear hL
  have hki : (k : Int) < 8 := by omega
  have hki0 : (0 : Int) ≤ (k : Int) := by omega
  have hkt : ((k : Int)).toNat = k := Int.toNat_natCast k
  go_region_law (first | (refine appChat _ base (.slice A L.length c) L (n + 1) g t w2.heap.size ?_ (Hown2.out.alloc _).drew rfl _ _ rfl rfl rfl ?_ ?_ ?_; (focus exact ChAt.of_blk (Blk.new w2 _ _).drew); (focus omega); (focus (first | omega | (simp; omega))); intro v8 w8 h8 f8 o8; obtain ⟨A8, c8, hv8, p8, q8, _⟩ := h8.form; rw [List.length_append, List.length_singleton] at hv8; subst hv8; have hB8 : Blk w8 s _ _ := (HB2.out.alloc _).drew.fr f8 hfs; have hz8 : w8.frozen? ⟨s, 1 + k, none⟩ = false := hB8.frozen _; have hc8 : w8.cell? ⟨s, 1 + k, none⟩ = some (.slice A L.length c) := (f8.cell (p := ⟨s, 1 + k, none⟩) (by simp; omega) hfs).trans ((World.cell?_alloc_lt w2 _ ⟨s, 1 + k, none⟩ hsl2).trans hat2); have hs8 : w8.cell? ⟨s, 0, none⟩ = some (.int .i64 (n + 1)) := hB8.cell 0))
  all_goals
    have hfin := done_new HO.out hll8 hk HF2.out HB2.out (X := (w2.alloc (.cells #[.int .i64 (n + 1), .bool g, .string t] 105)).drew) (by (repeat (first | with_reducible exact Below.refl _ _ | with_reducible assumption | (with_reducible refine Below.drew ?_) | (with_reducible refine Below.manyDrew ?_ _) | ((with_reducible refine Below.alloc ?_ ?_ _); rotate_left; (focus (first | omega | (dsimp only; omega) | (simp; done) | (simp; omega)))) | ((with_reducible refine Below.setCell ?_ ?_ _); rotate_left; (focus (first | omega | (dsimp only; omega) | (simp; done) | (simp; omega)))) | ((with_reducible refine Below.step ?_ (by assumption) ?_); rotate_left; (focus (first | omega | (dsimp only; omega) | (simp; done) | (simp; omega))))))) h8 (by rw [Hv.out]; exact f8) (by rw [Hv.out]; exact o8.imp (fun o => o) (fun o => ⟨_, o, by simp⟩))
    have Hfin := hid hfin
    clear hfin h8 f8 o8 hB8
    go_wp2_with fail
    go_ret2
    first
      | exact ⟨_, rfl, by rw [HL.out]; exact Hfin.out.1, Hfin.out.2⟩
      | exact ⟨rfl, _, by rw [HL.out]; exact Hfin.out.1, Hfin.out.2⟩
end Go.Proofs.Ytdocdmpfokdjkaa
