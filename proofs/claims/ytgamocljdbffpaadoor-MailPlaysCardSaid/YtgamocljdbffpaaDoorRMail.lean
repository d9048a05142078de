/-
  CONTRACTS of the reference's mail: Ends, Send, Out; what it keeps. CONDITIONS: none.
-/
import Derived.Test.YtgamocljdbffpaaDoorMail2
import Derived.Test.YtgamocljdbffpaaDoorREntry
import Derived.Deep.DeepCutAuto
namespace Go.Proofs.YtgamocljdbffpaaDoor
open Go.RowKit
open Go.ChangeShapes Go.WideShapes Go.ChangeAt

/-- the reference's mail at g -/
structure RMO (base : Nat) (w : World) (g : Nat) (u : Value) (L : List Lt) (C : Int → Int → Bool) : Prop where
  blk : ∃ cs, Blk w g 31 cs ∧ cs.size = 37 ∧ cs[0]? = some u ∧ ∀ a b : Nat, a < 6 → b < 6 → cs[1 + a * 6 + b]? = some (.bool (C a b))
  own : Ow Lt.cells 7 base 37 w u L
  off : foot u ≠ some g
  good : ∀ y ∈ L, y.good
  lens : L.length ≤ 40
  lb : base ≤ g
def FR (g : Nat) (u : Value) (i : Nat) : Prop := i = g ∨ some i = foot u
section
variable {base g : Nat} {w w' : World} {u : Value} {L : List Lt} {C : Int → Int → Bool}
theorem RMO.lt (h : RMO base w g u L C) : g < w.heap.size := by obtain ⟨cs, hb, _⟩ := h.blk; exact hb.lt
theorem RMO.c0 (h : RMO base w g u L C) : w.cell? ⟨g, 0, none⟩ = some u := by
  obtain ⟨cs, hb, _, h0, _⟩ := h.blk
  exact (hb.cell 0).trans h0
theorem RMO.cut (h : RMO base w g u L C) {a b : Nat} (ha : a < 6) (hb : b < 6) : w.cell? ⟨g, 1 + a * 6 + b, none⟩ = some (.bool (C a b)) := by
  obtain ⟨cs, hB, _, _, hc⟩ := h.blk
  exact (hB.cell _).trans (hc a b ha hb)
theorem RMO.fz (h : RMO base w g u L C) (o : Nat) : w.frozen? ⟨g, o, none⟩ = false := by
  obtain ⟨cs, hB, _⟩ := h.blk
  exact hB.frozen o
theorem RMO.fr {S : Nat → Prop} (h : RMO base w g u L C) (hf : Fr S w w') (hS : ∀ i, FR g u i → ¬ S i) : RMO base w' g u L C := by
  obtain ⟨cs, hb, h1, h2, h3⟩ := h.blk
  exact ⟨⟨cs, hb.fr hf (hS _ (.inl rfl)), h1, h2, h3⟩, h.own.fr hf (fun _ hg => hS _ (.inr hg.symm)), h.off, h.good, h.lens, h.lb⟩
theorem RMO.belowS (h : RMO base w g u L C) (hb : Below w.heap.size w w') : RMO base w' g u L C := h.fr (S := fun _ => False) (Fr.ofB hb) (fun _ _ h => h)
theorem RMO.frl (h : RMO base w g u L C) {i : Nat} (hi : FR g u i) : base ≤ i ∧ i < w.heap.size := by
  rcases hi with rfl | hi
  · exact ⟨h.lb, h.lt⟩
  · exact h.own.lt hi.symm
/-- the slice is another one -/
theorem RMO.put (h : RMO base w g u L C) {X w8 : World} {u8 : Value} {L8 : List Lt} (hX : Below w.heap.size w X) (h8 : Ow Lt.cells 7 base 37 w8 u8 L8) (f8 : Fr (fun k => some k = foot u) X w8)
    (o8 : foot u8 = foot u ∨ ∀ k, foot u8 = some k → w.heap.size ≤ k) (hg8 : ∀ y ∈ L8, y.good) (hl8 : L8.length ≤ 40) : RMO base (w8.setCell ⟨g, 0, none⟩ u8) g u8 L8 C ∧ Fr (FR g u) w (w8.setCell ⟨g, 0, none⟩ u8) := by
  have hlt := h.lt
  have h8s : foot u8 ≠ some g := fun e => by
    rcases o8 with o | o
    · exact h.off (by rw [← o, e])
    · have := o g e; omega
  have hF : Fr (fun k => k = g) w8 (w8.setCell ⟨g, 0, none⟩ u8) := (Fr.refl (fun k => k = g) _).setCell (p := ⟨g, 0, none⟩) (.inl rfl) _
  obtain ⟨cs, hb, h1, h2, h3⟩ := h.blk
  refine ⟨⟨⟨_, (((hb.belowS hX).fr f8 (fun e => h.off e.symm)).put 0 u8), by simpa using h1, by simp [h1], fun a b ha hb => ?_⟩, h8.fr hF (fun k hk e => h8s (by rw [hk, e])), h8s, hg8, hl8, h.lb⟩, ?_⟩
  · rw [Array.getElem?_setIfInBounds, if_neg (by omega)]
    exact h3 a b ha hb
  · exact ((Fr.ofB hX).step (f8.mono (fun i _ h => .inr h))).step (hF.mono (fun i _ h => .inl h))
theorem nat6 {a b a' b' : Nat} (hb : b < 6) (hb' : b' < 6) (h : 1 + a * 6 + b = 1 + a' * 6 + b') : a = a' ∧ b = b' := by omega
/-- one way is set -/
theorem RMO.putC (h : RMO base w g u L C) {a b : Nat} (ha : a < 6) (hb : b < 6) (c : Bool) : RMO base (w.setCell ⟨g, 1 + a * 6 + b, none⟩ (.bool c)) g u L (setC C a b c) ∧ Fr (FR g u) w (w.setCell ⟨g, 1 + a * 6 + b, none⟩ (.bool c)) := by
  have hF : Fr (fun k => k = g) w (w.setCell ⟨g, 1 + a * 6 + b, none⟩ (.bool c)) := (Fr.refl (fun k => k = g) _).setCell (p := ⟨g, 1 + a * 6 + b, none⟩) (.inl rfl) _
  obtain ⟨cs, hB, h1, h2, h3⟩ := h.blk
  refine ⟨⟨⟨_, hB.put _ (.bool c), by simpa using h1, ?_, fun a' b' ha' hb' => ?_⟩, h.own.fr hF (fun k hk e => h.off (by rw [hk, e])), h.off, h.good, h.lens, h.lb⟩, hF.mono (fun i _ h => .inl h)⟩
  · rw [Array.getElem?_setIfInBounds, if_neg (by omega)]; exact h2
  · rw [Array.getElem?_setIfInBounds]
    by_cases he : 1 + a * 6 + b = 1 + a' * 6 + b'
    · obtain ⟨rfl, rfl⟩ := nat6 hb hb' he
      rw [if_pos rfl, if_pos (by omega), setC, if_pos ⟨rfl, rfl⟩]
    · rw [if_neg he, h3 a' b' ha' hb', setC, if_neg (fun h => by omega)]
end
/-- what a deed of the reference's does -/
def RRes (base g : Nat) (u : Value) (w : World) (ret : Value) (L' : List Lt) (C' : Int → Int → Bool) (e : Ending) (w' : World) : Prop :=
  ∃ u', e = .returned ret ∧ RMO base w' g u' L' C' ∧ Fr (FR g u) w w' ∧ (foot u' = foot u ∨ ∀ k, foot u' = some k → w.heap.size ≤ k)
theorem RRes.no {base g : Nat} {u : Value} {w w' : World} {L : List Lt} {C : Int → Int → Bool} {ret : Value} (hO : RMO base w g u L C) (hb : Below w.heap.size w w') : RRes base g u w ret L C (.returned ret) w' :=
  ⟨u, rfl, hO.belowS hb, Fr.ofB hb, .inl rfl⟩

set_option maxHeartbeats 1000000 in
theorem rends_any (f t : Int) (w : World) : Calls Tryd.prog 14 #[.int .i64 f, .int .i64 t] w fun e w' => e = .returned (.int .i64 (endsE f t)) ∧ w = w' := by
  obtain ⟨r, hr⟩ : ∃ r, endsE f t = r := ⟨_, rfl⟩
  rw [hr]
  unfold endsE at hr
  rcases (show f < 0 ∨ (0 ≤ f ∧ 5 < f) ∨ (0 ≤ f ∧ f ≤ 5 ∧ t < 0) ∨ (0 ≤ f ∧ f ≤ 5 ∧ 0 ≤ t ∧ 5 < t) ∨ (0 ≤ f ∧ f ≤ 5 ∧ 0 ≤ t ∧ t ≤ 5) by omega) with h | ⟨h, h2⟩ | ⟨h, h2, h3⟩ | ⟨h, h2, h3, h4⟩ | ⟨h, h2, h3, h4⟩
  · rw [if_neg (by rw [nodeB_true]; omega)] at hr
    subst hr
    go_enter Tryd.func14, Tryd.ntmps14
    go_wp2
    go_ret
    exact ⟨rfl, rfl⟩
  · rw [if_neg (by rw [nodeB_true]; omega)] at hr
    subst hr
    go_enter Tryd.func14, Tryd.ntmps14
    go_wp2
    go_ret
    exact ⟨rfl, rfl⟩
  · rw [if_pos (by rw [nodeB_true]; omega), if_neg (by rw [nodeB_true]; omega)] at hr
    subst hr
    go_enter Tryd.func14, Tryd.ntmps14
    go_wp2
    go_ret
    exact ⟨rfl, rfl⟩
  · rw [if_pos (by rw [nodeB_true]; omega), if_neg (by rw [nodeB_true]; omega)] at hr
    subst hr
    go_enter Tryd.func14, Tryd.ntmps14
    go_wp2
    go_ret
    exact ⟨rfl, rfl⟩
  · rw [if_pos (by rw [nodeB_true]; omega), if_pos (by rw [nodeB_true]; omega)] at hr
    by_cases hft : f = t
    · rw [if_pos hft] at hr
      subst hr
      have hb : (f == t) = true := by rw [beq_iff_eq]; exact hft
      clear hft
      go_enter Tryd.func14, Tryd.ntmps14
      go_wp2
      go_ret
      exact ⟨rfl, rfl⟩
    · rw [if_neg hft] at hr
      subst hr
      have hb : (f == t) = false := by rw [beq_eq_false_iff_ne]; exact hft
      clear hft
      go_enter Tryd.func14, Tryd.ntmps14
      go_wp2
      go_ret
      exact ⟨rfl, rfl⟩

set_option maxHeartbeats 4000000 in
set_option maxRecDepth 100000 in
/-- nothing comes: something is wrong, or it is full -/
theorem rmsend_no (base g : Nat) (x0 x1 x2 x3 x4 : Int) (x5 : Bool) (x6 : ByteArray) (hx : (⟨x0, x1, x2, x3, x4, x5, x6⟩ : Lt).good) (u : Value) (L : List Lt) (C : Int → Int → Bool) (w : World) (hO : RMO base w g u L C) (hne : sendE L ⟨x0, x1, x2, x3, x4, x5, x6⟩ ≠ 0) :
    Calls Tryd.prog 7 #[.pointer (some ⟨g, 0, none⟩), .agg #[.int .i64 x0, .int .i64 x1, .int .i64 x2, .int .i64 x3, .int .i64 x4, .bool x5, .string x6]] w
      (RRes base g u w (.int .i64 (sendE L ⟨x0, x1, x2, x3, x4, x5, x6⟩)) L C) := by
  have htx : x6.size ≤ maxLen := hx.2.2.2.2.2.2
  have hX := hid (Blk.new w 37 #[.int .i64 x0, .int .i64 x1, .int .i64 x2, .int .i64 x3, .int .i64 x4, .bool x5, .string x6])
  have hEn := hid (fun W => rends_any x0 x1 W)
  by_cases he : endsE x0 x1 = 0
  · have hCk := hid (fun W => rentry_any x2 x3 x4 x5 x6 W htx)
    rw [he] at hEn
    by_cases hc : chk ⟨x2, x3, x4, x5, x6⟩ = 0
    · have hE : sendE L ⟨x0, x1, x2, x3, x4, x5, x6⟩ = putE L := by rw [sendE, if_pos (show endsE x0 x1 = 0 from he), if_pos (show chkL ⟨x0, x1, x2, x3, x4, x5, x6⟩ = 0 from hc)]
      rw [hE] at hne ⊢
      have hl40 : L.length = 40 := by
        unfold putE at hne
        split at hne
        · assumption
        · exact absurd rfl hne
      rw [putE, if_pos hl40]
      have HO := hid hO
      obtain ⟨A, c, hu, -, -, -⟩ := hO.own.form
      have c0 := hO.c0
      rw [hu] at c0
      have hs := hO.lt
      have hge : (40 : Int) ≤ (L.length : Int) := by omega
      rw [hc] at hCk
      clear he hc hE hne hl40 hu hO
      go_enter Tryd.func7, Tryd.ntmps7
      go_wp2_with fail
      refine (hEn.out _).mono ?_
      rintro e w' ⟨rfl, rfl⟩
      go_wp2_with fail
      refine (hCk.out _).mono ?_
      rintro e w2 ⟨rfl, hb2⟩
      have hb2' : Below w.heap.size w w2 := (show Below w.heap.size w _ by (repeat (first | with_reducible exact Below.refl _ _ | with_reducible assumption | (with_reducible refine Below.drew ?_) | (with_reducible refine Below.manyDrew ?_ _) | ((with_reducible refine Below.alloc ?_ ?_ _); rotate_left; (focus (first | omega | (dsimp only; omega) | (simp; done) | (simp; omega)))) | ((with_reducible refine Below.setCell ?_ ?_ _); rotate_left; (focus (first | omega | (dsimp only; omega) | (simp; done) | (simp; omega)))) | ((with_reducible refine Below.step ?_ (by assumption) ?_); rotate_left; (focus (first | omega | (dsimp only; omega) | (simp; done) | (simp; omega))))))).trans (hb2.mono (by simp))
      have e0 : w2.cell? ⟨g, 0, none⟩ = some (.slice A L.length c) := (hb2'.cell (p := ⟨g, 0, none⟩) hs).trans c0
      have Hb2 := hid hb2'
      clear hb2 hb2' c0
      go_wp2_with fail
      go_quiet (fail)
      go_wp2_with fail
      go_ret
      exact RRes.no HO.out (Below.manyDrew Hb2.out _)
    · have hE : sendE L ⟨x0, x1, x2, x3, x4, x5, x6⟩ = chk ⟨x2, x3, x4, x5, x6⟩ := by rw [sendE, if_pos (show endsE x0 x1 = 0 from he), if_neg (show ¬ chkL ⟨x0, x1, x2, x3, x4, x5, x6⟩ = 0 from hc)]; rfl
      rw [hE]
      have HO := hid hO
      generalize hce : chk ⟨x2, x3, x4, x5, x6⟩ = ce at *
      have hcb : (ce == 0) = false := by rw [beq_eq_false_iff_ne]; exact hc
      clear he hc hE hne hO hce
      go_enter Tryd.func7, Tryd.ntmps7
      go_wp2_with fail
      refine (hEn.out _).mono ?_
      rintro e w' ⟨rfl, rfl⟩
      go_wp2_with fail
      refine (hCk.out _).mono ?_
      rintro e w2 ⟨rfl, hb2⟩
      have Hb2 := hid (show Below w.heap.size w w2 from (show Below w.heap.size w _ by (repeat (first | with_reducible exact Below.refl _ _ | with_reducible assumption | (with_reducible refine Below.drew ?_) | (with_reducible refine Below.manyDrew ?_ _) | ((with_reducible refine Below.alloc ?_ ?_ _); rotate_left; (focus (first | omega | (dsimp only; omega) | (simp; done) | (simp; omega)))) | ((with_reducible refine Below.setCell ?_ ?_ _); rotate_left; (focus (first | omega | (dsimp only; omega) | (simp; done) | (simp; omega)))) | ((with_reducible refine Below.step ?_ (by assumption) ?_); rotate_left; (focus (first | omega | (dsimp only; omega) | (simp; done) | (simp; omega))))))).trans (hb2.mono (by simp)))
      clear hb2
      go_wp2_with fail
      go_quiet (fail)
      go_wp2_with fail
      go_ret
      exact RRes.no HO.out (Below.manyDrew Hb2.out _)
  · have hE : sendE L ⟨x0, x1, x2, x3, x4, x5, x6⟩ = endsE x0 x1 := by rw [sendE, if_neg (show ¬ endsE x0 x1 = 0 from he)]
    rw [hE]
    have HO := hid hO
    generalize hce : endsE x0 x1 = ce at *
    have hcb : (ce == 0) = false := by rw [beq_eq_false_iff_ne]; exact he
    clear he hE hne hO hce
    go_enter Tryd.func7, Tryd.ntmps7
    go_wp2_with fail
    refine (hEn.out _).mono ?_
    rintro e w' ⟨rfl, rfl⟩
    go_wp2_with fail
    go_quiet (fail)
    go_wp2_with fail
    go_ret
    exact RRes.no HO.out (Below.manyDrew (by (repeat (first | with_reducible exact Below.refl _ _ | with_reducible assumption | (with_reducible refine Below.drew ?_) | (with_reducible refine Below.manyDrew ?_ _) | ((with_reducible refine Below.alloc ?_ ?_ _); rotate_left; (focus (first | omega | (dsimp only; omega) | (simp; done) | (simp; omega)))) | ((with_reducible refine Below.setCell ?_ ?_ _); rotate_left; (focus (first | omega | (dsimp only; omega) | (simp; done) | (simp; omega)))) | ((with_reducible refine Below.step ?_ (by assumption) ?_); rotate_left; (focus (first | omega | (dsimp only; omega) | (simp; done) | (simp; omega))))))) _)

set_option maxHeartbeats 8000000 in
set_option maxRecDepth 100000 in
/-- all is right: it is cut, or it comes -/
theorem rmsend_ok (base g : Nat) (x0 x1 x2 x3 x4 : Int) (x5 : Bool) (x6 : ByteArray) (hx : (⟨x0, x1, x2, x3, x4, x5, x6⟩ : Lt).good) (u : Value) (L : List Lt) (C : Int → Int → Bool) (w : World) (hO : RMO base w g u L C) (hze : sendE L ⟨x0, x1, x2, x3, x4, x5, x6⟩ = 0) :
    Calls Tryd.prog 7 #[.pointer (some ⟨g, 0, none⟩), .agg #[.int .i64 x0, .int .i64 x1, .int .i64 x2, .int .i64 x3, .int .i64 x4, .bool x5, .string x6]] w
      (RRes base g u w (.int .i64 0) (sendL C L ⟨x0, x1, x2, x3, x4, x5, x6⟩) C) := by
  have htx : x6.size ≤ maxLen := hx.2.2.2.2.2.2
  have hX := hid (Blk.new w 37 #[.int .i64 x0, .int .i64 x1, .int .i64 x2, .int .i64 x3, .int .i64 x4, .bool x5, .string x6])
  have hEn := hid (fun W => rends_any x0 x1 W)
  have hCk := hid (fun W => rentry_any x2 x3 x4 x5 x6 W htx)
  have he : endsE x0 x1 = 0 := by
    unfold sendE at hze
    split at hze
    · assumption
    · exact hze
  have hc : chk ⟨x2, x3, x4, x5, x6⟩ = 0 := by
    rw [sendE, if_pos (show endsE x0 x1 = 0 from he)] at hze
    split at hze
    · assumption
    · exact hze
  have hl : L.length < 40 := by
    rw [sendE, if_pos (show endsE x0 x1 = 0 from he), if_pos (show chkL ⟨x0, x1, x2, x3, x4, x5, x6⟩ = 0 from hc)] at hze
    have := hO.lens
    unfold putE at hze
    split at hze
    · cases hze
    · omega
  rw [he] at hEn
  rw [hc] at hCk
  obtain ⟨hn0, hn1, -⟩ := endsE_zero he
  have hsL : sendL C L ⟨x0, x1, x2, x3, x4, x5, x6⟩ = if C x0 x1 = true then L else L ++ [⟨x0, x1, x2, x3, x4, x5, x6⟩] := by
    rw [sendL, if_pos (show endsE x0 x1 = 0 from he), if_pos (show chkL ⟨x0, x1, x2, x3, x4, x5, x6⟩ = 0 from hc), show putL L ⟨x0, x1, x2, x3, x4, x5, x6⟩ = L ++ [⟨x0, x1, x2, x3, x4, x5, x6⟩] by rw [putL, if_neg (by omega)]]
  rw [hsL]
  clear hsL
  have h0 := nodeB_true.1 hn0
  have h1 := nodeB_true.1 hn1
  obtain ⟨a, rfl⟩ := Int.eq_ofNat_of_zero_le h0.1
  obtain ⟨b, rfl⟩ := Int.eq_ofNat_of_zero_le h1.1
  have ha : a < 6 := by omega
  have hb : b < 6 := by omega
  have ha1 : (a : Int) < 6 := by omega
  have hb1 : (b : Int) < 6 := by omega
  have HO := hid hO
  obtain ⟨A, c, hu, -, -, -⟩ := hO.own.form
  have c0 := hO.c0
  have cc := hO.cut ha hb
  have zz := hO.fz 0
  rw [hu] at c0
  have Hu := hid hu
  have hs := hO.lt
  have hge : ¬ (40 : Int) ≤ (L.length : Int) := by omega
  generalize C (a : Int) (b : Int) = cb at *
  obtain ⟨LL, hLL⟩ : ∃ LL, LL = if cb = true then L else L ++ [⟨a, b, x2, x3, x4, x5, x6⟩] := ⟨_, rfl⟩
  rw [← hLL]
  have HLL := hid hLL
  clear he hc hze hu hO hn0 hn1 h0 h1 hLL
  go_enter Tryd.func7, Tryd.ntmps7
  go_wp2_with fail
  refine (hEn.out _).mono ?_
  rintro e w' ⟨rfl, rfl⟩
  go_wp2_with fail
  refine (hCk.out _).mono ?_
  rintro e w2 ⟨rfl, hb2⟩
  have hb2' : Below w.heap.size w w2 := (show Below w.heap.size w _ by (repeat (first | with_reducible exact Below.refl _ _ | with_reducible assumption | (with_reducible refine Below.drew ?_) | (with_reducible refine Below.manyDrew ?_ _) | ((with_reducible refine Below.alloc ?_ ?_ _); rotate_left; (focus (first | omega | (dsimp only; omega) | (simp; done) | (simp; omega)))) | ((with_reducible refine Below.setCell ?_ ?_ _); rotate_left; (focus (first | omega | (dsimp only; omega) | (simp; done) | (simp; omega)))) | ((with_reducible refine Below.step ?_ (by assumption) ?_); rotate_left; (focus (first | omega | (dsimp only; omega) | (simp; done) | (simp; omega))))))).trans (hb2.mono (by simp))
  have e0 : w2.cell? ⟨g, 0, none⟩ = some (.slice A L.length c) := (hb2'.cell (p := ⟨g, 0, none⟩) hs).trans c0
  have ec : w2.cell? ⟨g, 1 + a * 6 + b, none⟩ = some (.bool cb) := (hb2'.cell (p := ⟨g, _, none⟩) hs).trans cc
  have f0 : w2.frozen? ⟨g, 0, none⟩ = false := (hb2'.frozen (p := ⟨g, 0, none⟩) hs).trans zz
  have hX2 := hX.out.belowS hb2
  have d0 := hX2.cell 0
  have d1 := hX2.cell 1
  have d2 := hX2.cell 2
  have d3 := hX2.cell 3
  have d4 := hX2.cell 4
  have d5 := hX2.cell 5
  have d6 := hX2.cell 6
  simp at d0 d1 d2 d3 d4 d5 d6
  have hXl := hX2.lt
  have Hb2 := hid hb2'
  clear hb2 hb2' c0 cc zz hX2
  rcases cb with _ | _
  · have hLL := HLL.out
    rw [if_neg (by decide)] at hLL
    subst hLL
    clear HLL
    go_wp2_with fail
    go_quiet (fail)
    obtain ⟨w1, hw1⟩ : ∃ w1 : World, w1 = w2.drewN nq := ⟨_, rfl⟩
    rw [← hw1]
    have hb1 : Below w.heap.size w w1 := by rw [hw1]; exact Below.manyDrew Hb2.out _
    have e0 : w1.cell? ⟨g, 0, none⟩ = some (.slice A L.length c) := by rw [hw1]; exact e0
    have g0 : w1.frozen? ⟨g, 0, none⟩ = false := by rw [hw1]; exact f0
    have d0 : w1.cell? ⟨w.heap.size, 0, none⟩ = some (.int .i64 a) := by rw [hw1]; exact d0
    have d1 : w1.cell? ⟨w.heap.size, 1, none⟩ = some (.int .i64 b) := by rw [hw1]; exact d1
    have d2 : w1.cell? ⟨w.heap.size, 2, none⟩ = some (.int .i64 x2) := by rw [hw1]; exact d2
    have d3 : w1.cell? ⟨w.heap.size, 3, none⟩ = some (.int .i64 x3) := by rw [hw1]; exact d3
    have d4 : w1.cell? ⟨w.heap.size, 4, none⟩ = some (.int .i64 x4) := by rw [hw1]; exact d4
    have d5 : w1.cell? ⟨w.heap.size, 5, none⟩ = some (.bool x5) := by rw [hw1]; exact d5
    have d6 : w1.cell? ⟨w.heap.size, 6, none⟩ = some (.string x6) := by rw [hw1]; exact d6
    have hwf : w.heap.size < w1.heap.size := by rw [hw1]; exact hXl
    have hs1 : g < w1.heap.size := by omega
    have hbw1 : base ≤ w1.heap.size := by have := HO.out.lb; omega
    have hlb := HO.out.lb
    have Hown1 := hid (show Ow Lt.cells 7 base 37 w1 (.slice A L.length c) L from by rw [← Hu.out]; exact HO.out.own.belowS hb1)
    have hfs : ¬ some g = foot (.slice A L.length c) := fun e => HO.out.off (by rw [Hu.out]; exact e.symm)
    have Hb1 := hid hb1
    clear hw1 hb1 ec f0 hXl Hb2
    go_wp2_with fail
    go_region_law (first | (refine appLtat _ base (.slice A L.length c) L a b x2 x3 x4 x5 x6 w1.heap.size ?_ (Hown1.out.alloc _).drew rfl _ _ rfl rfl rfl ?_ ?_ ?_; (focus exact LtAt.of_blk (Blk.new w1 _ _).drew); (focus omega); (focus (first | omega | (simp; omega))); intro v8 w8 h8 f8 o8; obtain ⟨A8, c8, hv8, p8, q8, _⟩ := h8.form; rw [List.length_append, List.length_singleton] at hv8; subst hv8; have hz8 : w8.frozen? ⟨g, 0, none⟩ = false := (f8.frozen (p := ⟨g, 0, none⟩) (by simp; omega) hfs).trans ((((Below.refl w1.heap.size w1).alloc (Nat.le_refl _) _).frozen (p := ⟨g, 0, none⟩) hs1).trans g0); have hc8 : w8.cell? ⟨g, 0, none⟩ = some (.slice A L.length c) := (f8.cell (p := ⟨g, 0, none⟩) (by simp; omega) hfs).trans ((World.cell?_alloc_lt w1 _ ⟨g, 0, none⟩ hs1).trans e0)))
    all_goals
      have hfin := HO.out.put (X := (w1.alloc (.cells #[.int .i64 a, .int .i64 b, .int .i64 x2, .int .i64 x3, .int .i64 x4, .bool x5, .string x6] 37)).drew) ((Hb1.out.alloc (by omega) _).drew) h8 (by rw [Hu.out]; exact f8) (by rw [Hu.out]; exact o8.imp (fun o => o) (fun o k hk => by rw [o] at hk; cases hk; simp; omega)) (fun z hz => by
        rcases List.mem_append.1 hz with hz | hz
        · exact HO.out.good z hz
        · rw [List.mem_singleton.1 hz]; exact hx) (by simp; omega)
      have ho8 : foot (.slice A8 (L.length + 1) c8) = foot u ∨ ∀ k, foot (.slice A8 (L.length + 1) c8) = some k → w.heap.size ≤ k := by rw [Hu.out]; exact o8.imp (fun o => o) (fun o k hk => by rw [o] at hk; cases hk; simp; omega)
      have Hfin := hid hfin
      have Ho8 := hid ho8
      clear hfin h8 f8 o8 hz8 hc8 ho8
      go_wp2_with fail
      go_ret
      exact ⟨_, rfl, Hfin.out.1, Hfin.out.2, Ho8.out⟩
  · have hLL := HLL.out
    rw [if_pos rfl] at hLL
    subst hLL
    clear HLL
    go_wp2_with fail
    go_quiet (fail)
    go_wp2_with fail
    go_ret
    exact RRes.no HO.out (Below.manyDrew Hb2.out _)
end Go.Proofs.YtgamocljdbffpaaDoor
