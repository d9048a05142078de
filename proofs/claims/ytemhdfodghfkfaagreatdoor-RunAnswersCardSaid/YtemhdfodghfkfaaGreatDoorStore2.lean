/-
  CONTRACTS of package store: Put, Delete, Swap, at, At, Read, Seq. CONDITIONS: none.
  CONTRACT of store.Seq. CONDITIONS: none.
  THE STORE's HISTORY: the deeds in a row, and the program's lists out of it. CONDITIONS: none.
-/
import Derived.Test.YtemhdfodghfkfaaGreatDoorStore
import Derived.Test.YtemhdfodghfkfaaGreatDoorJoin
import Derived.Test.YtemhdfodghfkfaaGreatDoorCCheck
namespace Go.Proofs.YtemhdfodghfkfaaGreatDoor
open Go.RowKit
open Go.ChangeShapes Go.WideShapes Go.ChangeAt

/-! ### what a deed does, in plain: its number and its fault; the lists and the number behind it -/
abbrev SR := (Int × Int) × List (List Ch) × Int
def sno (ls : List (List Ch)) (n e : Int) : SR := ((0, e), ls, n)
def sdone (ls : List (List Ch)) (n : Int) (k : Nat) (g : Bool) (t : ByteArray) : SR := if n = 1000 then sno ls n 4 else ((n + 1, 0), ls.set k (ls.getD k [] ++ [⟨n + 1, g, t⟩]), n + 1)
def sput (ls : List (List Ch)) (n key : Int) (t : ByteArray) : SR := if keyB key = true then (if (12 : Int) < (t.size : Int) then sno ls n 4 else sdone ls n key.toNat false t) else sno ls n 1
def sdel (ls : List (List Ch)) (n key : Int) : SR := if keyB key = true then (if (lastC (ls.getD key.toNat []) n).gone = true then sno ls n 5 else sdone ls n key.toNat true ⟨#[]⟩) else sno ls n 1
def sswap (ls : List (List Ch)) (n key ver : Int) (t : ByteArray) : SR := if keyB key = true then (if (12 : Int) < (t.size : Int) then sno ls n 4 else if (lastC (ls.getD key.toNat []) n).seq = ver then sdone ls n key.toNat false t else sno ls n 7) else sno ls n 1
def entC (key q : Int) (c : Ch) : E := ⟨key, c.seq, q, c.gone, c.text⟩
def atS (ls : List (List Ch)) (n key q : Int) : E × Int := if keyB key = true ∧ 0 ≤ q ∧ q ≤ n then (entC key q (lastC (ls.getD key.toNat []) q), 0) else (E.zero, 1)

/-- the blocks of a store -/
def FS (s : Nat) (vs : List Value) (i : Nat) : Prop := i = s ∨ ∃ j, j < 8 ∧ some i = foot (vs.getD j nilS)
/-- what a deed's call does -/
def SRes (base s : Nat) (vs : List Value) (w : World) (r : SR) (e : Ending) (w' : World) : Prop :=
  ∃ vs', e = .returned (.tuple #[.int .i64 r.1.1, errV r.1.2]) ∧ StoreO base w' s vs' r.2.1 r.2.2 ∧ StP r.2.1 r.2.2 ∧ Fr (FS s vs) w w' ∧ ∀ i, FS s vs' i → FS s vs i ∨ w.heap.size ≤ i
theorem SRes.no {base s : Nat} {vs : List Value} {w w' : World} {ls : List (List Ch)} {n e : Int} (hO : StoreO base w s vs ls n) (hP : StP ls n) (hb : Below w.heap.size w w') : SRes base s vs w (sno ls n e) (.returned (.tuple #[.int .i64 0, errV e])) w' :=
  ⟨vs, rfl, hO.belowS hb, hP, Fr.ofB hb, fun _ h => .inl h⟩

theorem done_res (base s k : Nat) (g : Bool) (t : ByteArray) (ht : t.size ≤ maxLen) (vs : List Value) (ls : List (List Ch)) (n : Int) (hk : k < 8) (w : World) (hO : StoreO base w s vs ls n) (hP : StP ls n) :
    Calls Tryz.prog 135 #[.pointer (some ⟨s, 0, none⟩), .int .i64 k, .bool g, .string t] w (SRes base s vs w (sdone ls n k g t)) := by
  by_cases hn : n = 1000
  · subst hn
    refine (done_full base s k g t vs ls w hO).mono ?_
    rintro e w' ⟨rfl, rfl⟩
    rw [sdone, if_pos rfl]
    exact SRes.no hO hP (Below.refl _ _)
  · have hh := hP.hi
    have hn' : n < 1000 := by omega
    refine (done_any base s k g t vs ls n hk hn' w hO hP).mono ?_
    rintro e w' ⟨vs', rfl, h1, h2, h3⟩
    rw [sdone, if_neg hn]
    refine ⟨vs', rfl, h1, hP.more hn' k g t ht, h2.mono (fun i _ h => h.imp (fun h => h) (fun h => ⟨k, hk, h⟩)), fun i hi => ?_⟩
    rcases hi with hi | ⟨j, hj, hi⟩
    · exact .inl (.inl hi)
    · rcases h3 j hj with o | ⟨q, o, hq⟩
      · exact .inl (.inr ⟨j, hj, by rw [← o]; exact hi⟩)
      · rw [o] at hi; cases hi; exact .inr hq

theorem srec {base s : Nat} {vs : List Value} {W w : World} {r : SR} {e : Ending} {w' : World} (h : SRes base s vs w r e w') (hb : Below W.heap.size W w) : SRes base s vs W r e w' := by
  obtain ⟨vs', h1, h2, h3, h4, h5⟩ := h
  exact ⟨vs', h1, h2, h3, ((Fr.ofB hb).step h4), fun i hi => (h5 i hi).imp (fun h => h) (fun h => Nat.le_trans hb.size h)⟩

set_option maxHeartbeats 2000000 in
set_option maxRecDepth 100000 in
theorem sput_any (base s : Nat) (key : Int) (t : ByteArray) (ht : t.size ≤ maxLen) (vs : List Value) (ls : List (List Ch)) (n : Int) (w : World) (hO : StoreO base w s vs ls n) (hP : StP ls n) :
    Calls Tryz.prog 108 #[.pointer (some ⟨s, 0, none⟩), .int .i64 key, .string t] w (SRes base s vs w (sput ls n key t)) := by
  have hm := ht
  unfold maxLen at hm
  rcases hk : keyB key with _ | _
  · rw [sput, hk, if_neg (by decide)]
    have Hk := hid hk
    clear hk
    go_enter Tryz.func108, Tryz.ntmps108
    go_wp2_with ((go_at_call 134; refine (key_any _ _).mono ?_; rintro e w' ⟨rfl, rfl⟩); rw [Hk.out])
    go_ret2
    exact SRes.no hO hP (Below.refl _ _)
  · rw [sput, hk, if_pos rfl]
    have Hk := hid hk
    obtain ⟨k0, k8⟩ := keyB_true.1 hk
    obtain ⟨k, rfl⟩ := Int.eq_ofNat_of_zero_le k0
    rw [Int.toNat_natCast]
    have hk8 : k < 8 := by omega
    clear hk k0 k8
    by_cases h12 : (12 : Int) < (t.size : Int)
    · rw [if_pos h12]
      go_enter Tryz.func108, Tryz.ntmps108
      go_wp2_with ((go_at_call 134; refine (key_any _ _).mono ?_; rintro e w' ⟨rfl, rfl⟩); rw [Hk.out])
      go_ret2
      exact SRes.no hO hP (Below.refl _ _)
    · rw [if_neg h12]
      have Hd := hid (done_res base s k false t ht vs ls n hk8 w hO hP)
      generalize sdone ls n k false t = R at *
      clear hO hP
      go_enter Tryz.func108, Tryz.ntmps108
      go_wp2_with ((go_at_call 134; refine (key_any _ _).mono ?_; rintro e w' ⟨rfl, rfl⟩); rw [Hk.out])
      refine Hd.out.mono ?_
      rintro e w' ⟨vs', rfl, h1⟩
      have H1 := hid h1
      clear h1
      go_wp2_with fail
      go_ret2
      exact ⟨vs', rfl, H1.out⟩

set_option maxHeartbeats 2000000 in
set_option maxRecDepth 100000 in
theorem sdel_any (base s : Nat) (key : Int) (vs : List Value) (ls : List (List Ch)) (n : Int) (w : World) (hO : StoreO base w s vs ls n) (hP : StP ls n) :
    Calls Tryz.prog 110 #[.pointer (some ⟨s, 0, none⟩), .int .i64 key] w (SRes base s vs w (sdel ls n key)) := by
  have hs := hO.seq
  rcases hk : keyB key with _ | _
  · rw [sdel, hk, if_neg (by decide)]
    have Hk := hid hk
    clear hk
    go_enter Tryz.func110, Tryz.ntmps110
    go_wp2_with ((go_at_call 134; refine (key_any _ _).mono ?_; rintro e w' ⟨rfl, rfl⟩); rw [Hk.out])
    go_ret2
    exact SRes.no hO hP (Below.refl _ _)
  · rw [sdel, hk, if_pos rfl]
    have Hk := hid hk
    obtain ⟨k0, k8⟩ := keyB_true.1 hk
    obtain ⟨k, rfl⟩ := Int.eq_ofNat_of_zero_le k0
    rw [Int.toNat_natCast]
    have hk8 : k < 8 := by omega
    clear hk k0 k8
    have Hl := hid (last_any base s k n vs ls n hk8 w hO hP)
    have HO := hid hO
    have HP := hid hP
    clear hO hP
    generalize lastC (ls.getD k []) n = c at *
    obtain ⟨c0, c1, c2⟩ := c
    cases c1 with
    | true =>
      rw [if_pos rfl]
      go_enter Tryz.func110, Tryz.ntmps110
      go_wp2_with ((go_at_call 134; refine (key_any _ _).mono ?_; rintro e w' ⟨rfl, rfl⟩); rw [Hk.out])
      have hfl1 : ∀ (W : World) (x0 : Int) (x1 : Bool) (x2 : ByteArray), (Instr.field 209 (.agg #[.int .i64 x0, .bool x1, .string x2]) 1).run Tryz.prog W = .ok (.bool x1) W := fun _ _ _ _ => by kernel_rfl
      refine Hl.out.mono ?_
      unfold Ch.val
      rintro e w1 ⟨rfl, hb1⟩; obtain ⟨hc1, hf1⟩ := bcell hb1; have hz1 := hb1.size; (try simp only [World.size_alloc] at hz1); (try simp only [World.size_setCell] at hz1)
      go_wp2_with fail
      go_ret2
      exact SRes.no HO.out HP.out hb1
    | false =>
      rw [if_neg (by simp)]
      go_enter Tryz.func110, Tryz.ntmps110
      go_wp2_with ((go_at_call 134; refine (key_any _ _).mono ?_; rintro e w' ⟨rfl, rfl⟩); rw [Hk.out])
      have hfl1 : ∀ (W : World) (x0 : Int) (x1 : Bool) (x2 : ByteArray), (Instr.field 209 (.agg #[.int .i64 x0, .bool x1, .string x2]) 1).run Tryz.prog W = .ok (.bool x1) W := fun _ _ _ _ => by kernel_rfl
      refine Hl.out.mono ?_
      unfold Ch.val
      rintro e w1 ⟨rfl, hb1⟩; obtain ⟨hc1, hf1⟩ := bcell hb1; have hz1 := hb1.size; (try simp only [World.size_alloc] at hz1); (try simp only [World.size_setCell] at hz1)
      have Hd := hid (done_res base s k true ⟨#[]⟩ (by unfold maxLen; decide) vs ls n hk8 w1 (HO.out.belowS hb1) HP.out)
      generalize sdone ls n k true ⟨#[]⟩ = R at *
      go_wp2_with fail
      refine Hd.out.mono ?_
      intro e w' hr
      obtain ⟨vs', rfl, h1⟩ := srec hr hb1
      have H1 := hid h1
      clear h1 hr
      go_wp2_with fail
      go_ret2
      exact ⟨vs', rfl, H1.out⟩

set_option maxHeartbeats 2000000 in
set_option maxRecDepth 100000 in
theorem sat_any (base s k : Nat) (q : Int) (vs : List Value) (ls : List (List Ch)) (n : Int) (hk8 : k < 8) (w : World) (hO : StoreO base w s vs ls n) (hP : StP ls n) :
    Calls Tryz.prog 182 #[.pointer (some ⟨s, 0, none⟩), .int .i64 k, .int .i64 q] w fun e w' => e = .returned (entC k q (lastC (ls.getD k []) q)).val ∧ Below w.heap.size w w' := by
  generalize hc : lastC (ls.getD k []) q = c
  have Hc := hid hc
  clear hc
  obtain ⟨c0, c1, c2⟩ := c
  go_enter Tryz.func182, Tryz.ntmps182
  go_wp2_with fail
  refine (last_any base s k q vs ls n hk8 _ (hO.belowS (by (repeat (first | with_reducible exact Below.refl _ _ | with_reducible assumption | (with_reducible refine Below.drew ?_) | (with_reducible refine Below.manyDrew ?_ _) | ((with_reducible refine Below.alloc ?_ ?_ _); rotate_left; (focus (first | omega | (dsimp only; omega) | (simp; done) | (simp; omega)))) | ((with_reducible refine Below.setCell ?_ ?_ _); rotate_left; (focus (first | omega | (dsimp only; omega) | (simp; done) | (simp; omega)))) | ((with_reducible refine Below.step ?_ (by assumption) ?_); rotate_left; (focus (first | omega | (dsimp only; omega) | (simp; done) | (simp; omega)))))))) hP).mono ?_
  rw [Hc.out]
  unfold Ch.val
  rintro e w1 ⟨rfl, hb1⟩; obtain ⟨hc1, hf1⟩ := bcell hb1; have hz1 := hb1.size; (try simp only [World.size_alloc] at hz1); (try simp only [World.size_setCell] at hz1)
  have hB0 : Blk w1 w.heap.size 59 #[.int .i64 0, .int .i64 0, .int .i64 0, .bool false, .string ⟨#[]⟩] := (Blk.new w _ _).belowS hb1
  have hl1 : w.heap.size < w1.heap.size := by omega
  have hl2 : w.heap.size ≠ w1.heap.size := by omega
  have g0 := hB0.frozen 0
  have g1 := hB0.frozen 1
  have g2 := hB0.frozen 2
  have g3 := hB0.frozen 3
  have g4 := hB0.frozen 4
  have d0 := hB0.cell 0
  have d1 := hB0.cell 1
  have d2 := hB0.cell 2
  have d3 := hB0.cell 3
  have d4 := hB0.cell 4
  have HB0 := hid hB0
  clear hB0
  go_wp2_with fail
  refine bodyPost_ret (v := (entC k q ⟨c0, c1, c2⟩).val) ?_ rfl ⟨rfl, by (repeat (first | with_reducible exact Below.refl _ _ | with_reducible assumption | (with_reducible refine Below.drew ?_) | (with_reducible refine Below.manyDrew ?_ _) | ((with_reducible refine Below.alloc ?_ ?_ _); rotate_left; (focus (first | omega | (dsimp only; omega) | (simp; done) | (simp; omega)))) | ((with_reducible refine Below.setCell ?_ ?_ _); rotate_left; (focus (first | omega | (dsimp only; omega) | (simp; done) | (simp; omega)))) | ((with_reducible refine Below.step ?_ (by assumption) ?_); rotate_left; (focus (first | omega | (dsimp only; omega) | (simp; done) | (simp; omega))))))⟩
  exact results_box1 Tryz.results182 rfl (HB0.out.put5 _ _ _ _ _ |>.alloc _) Tryz.underlying59 rfl (by kernel_rfl)

set_option maxHeartbeats 4000000 in
set_option maxRecDepth 100000 in
theorem sAt_any (base s : Nat) (key q : Int) (vs : List Value) (ls : List (List Ch)) (n : Int) (w : World) (hO : StoreO base w s vs ls n) (hP : StP ls n) :
    Calls Tryz.prog 171 #[.pointer (some ⟨s, 0, none⟩), .int .i64 key, .int .i64 q] w fun e w' => e = .returned (.tuple #[(atS ls n key q).1.val, errV (atS ls n key q).2]) ∧ Below w.heap.size w w' := by
  have hs := hO.seq
  have hsl := hO.lt
  have hn0 := hP.lo
  have hn1 := hP.hi
  have hB0 : Blk (w.alloc (.cells #[.int .i64 0, .int .i64 0, .int .i64 0, .bool false, .string ⟨#[]⟩] 59)) w.heap.size 59 #[.int .i64 0, .int .i64 0, .int .i64 0, .bool false, .string ⟨#[]⟩] := Blk.new w _ _
  by_cases hok : keyB key = true ∧ 0 ≤ q ∧ q ≤ n
  · rw [atS, if_pos hok]
    obtain ⟨hk, hq0, hqn⟩ := hok
    have Hk := hid hk
    obtain ⟨k0, k8⟩ := keyB_true.1 hk
    obtain ⟨k, rfl⟩ := Int.eq_ofNat_of_zero_le k0
    rw [Int.toNat_natCast]
    have hk8 : k < 8 := by omega
    clear hk k0 k8
    generalize hc : entC k q (lastC (ls.getD k []) q) = c
    have Hc := hid hc
    clear hc
    obtain ⟨c0, c1, c2, c3, c4⟩ := c
    go_enter Tryz.func171, Tryz.ntmps171
    go_wp2_with ((go_at_call 134; refine (key_any _ _).mono ?_; rintro e w' ⟨rfl, rfl⟩); rw [Hk.out])
    refine (sat_any base s k q vs ls n hk8 _ (hO.belowS (by (repeat (first | with_reducible exact Below.refl _ _ | with_reducible assumption | (with_reducible refine Below.drew ?_) | (with_reducible refine Below.manyDrew ?_ _) | ((with_reducible refine Below.alloc ?_ ?_ _); rotate_left; (focus (first | omega | (dsimp only; omega) | (simp; done) | (simp; omega)))) | ((with_reducible refine Below.setCell ?_ ?_ _); rotate_left; (focus (first | omega | (dsimp only; omega) | (simp; done) | (simp; omega)))) | ((with_reducible refine Below.step ?_ (by assumption) ?_); rotate_left; (focus (first | omega | (dsimp only; omega) | (simp; done) | (simp; omega)))))))) hP).mono ?_
    rw [Hc.out]
    unfold E.val
    rintro e w1 ⟨rfl, hb1⟩; obtain ⟨hc1, hf1⟩ := bcell hb1; have hz1 := hb1.size; (try simp only [World.size_alloc] at hz1); (try simp only [World.size_setCell] at hz1)
    have hB1 := hB0.belowS hb1
    have hl1 : w.heap.size < w1.heap.size := by omega
    have g0 := hB1.frozen 0
    have g1 := hB1.frozen 1
    have g2 := hB1.frozen 2
    have g3 := hB1.frozen 3
    have g4 := hB1.frozen 4
    have d0 := hB1.cell 0
    have d1 := hB1.cell 1
    have d2 := hB1.cell 2
    have d3 := hB1.cell 3
    have d4 := hB1.cell 4
    have HB1 := hid hB1
    clear hB0 hB1
    go_wp2_with fail
    refine bodyPost_ret (v := .tuple #[E.val ⟨c0, c1, c2, c3, c4⟩, .nilIface]) ?_ rfl ⟨rfl, by (repeat (first | with_reducible exact Below.refl _ _ | with_reducible assumption | (with_reducible refine Below.drew ?_) | (with_reducible refine Below.manyDrew ?_ _) | ((with_reducible refine Below.alloc ?_ ?_ _); rotate_left; (focus (first | omega | (dsimp only; omega) | (simp; done) | (simp; omega)))) | ((with_reducible refine Below.setCell ?_ ?_ _); rotate_left; (focus (first | omega | (dsimp only; omega) | (simp; done) | (simp; omega)))) | ((with_reducible refine Below.step ?_ (by assumption) ?_); rotate_left; (focus (first | omega | (dsimp only; omega) | (simp; done) | (simp; omega))))))⟩
    exact results_box Tryz.results171 rfl (HB1.out.put5 _ _ _ _ _) Tryz.underlying59 rfl (by kernel_rfl)
  · rw [atS, if_neg hok]
    have hc : keyB key = false ∨ (keyB key = true ∧ q < 0) ∨ (keyB key = true ∧ 0 ≤ q ∧ n < q) := by
      rcases hk : keyB key with _ | _
      · exact .inl rfl
      · rw [hk] at hok
        by_cases h0 : 0 ≤ q
        · exact .inr (.inr ⟨rfl, h0, by by_cases hqn : q ≤ n; exact absurd ⟨rfl, h0, hqn⟩ hok; omega⟩)
        · exact .inr (.inl ⟨rfl, by omega⟩)
    have g0 := hB0.frozen 0
    have g1 := hB0.frozen 1
    have g2 := hB0.frozen 2
    have g3 := hB0.frozen 3
    have g4 := hB0.frozen 4
    have d0 := hB0.cell 0
    have d1 := hB0.cell 1
    have d2 := hB0.cell 2
    have d3 := hB0.cell 3
    have d4 := hB0.cell 4
    have HB0 := hid hB0
    clear hB0 hok
    rcases hc with hk | ⟨hk, hq⟩ | ⟨hk, hq, hq'⟩
    all_goals
      have Hk := hid hk
      clear hk
      go_enter Tryz.func171, Tryz.ntmps171
      go_wp2_with ((go_at_call 134; refine (key_any _ _).mono ?_; rintro e w' ⟨rfl, rfl⟩); rw [Hk.out])
      refine bodyPost_ret (v := .tuple #[E.val E.zero, errV 1]) ?_ rfl ⟨rfl, by (repeat (first | with_reducible exact Below.refl _ _ | with_reducible assumption | (with_reducible refine Below.drew ?_) | (with_reducible refine Below.manyDrew ?_ _) | ((with_reducible refine Below.alloc ?_ ?_ _); rotate_left; (focus (first | omega | (dsimp only; omega) | (simp; done) | (simp; omega)))) | ((with_reducible refine Below.setCell ?_ ?_ _); rotate_left; (focus (first | omega | (dsimp only; omega) | (simp; done) | (simp; omega)))) | ((with_reducible refine Below.step ?_ (by assumption) ?_); rotate_left; (focus (first | omega | (dsimp only; omega) | (simp; done) | (simp; omega))))))⟩
      exact results_box Tryz.results171 rfl HB0.out Tryz.underlying59 rfl (by kernel_rfl)

set_option maxHeartbeats 4000000 in
set_option maxRecDepth 100000 in
theorem sread_any (base s : Nat) (key : Int) (vs : List Value) (ls : List (List Ch)) (n : Int) (w : World) (hO : StoreO base w s vs ls n) (hP : StP ls n) :
    Calls Tryz.prog 157 #[.pointer (some ⟨s, 0, none⟩), .int .i64 key] w fun e w' => e = .returned (.tuple #[(atS ls n key n).1.val, errV (atS ls n key n).2]) ∧ Below w.heap.size w w' := by
  have hs := hO.seq
  have hsl := hO.lt
  have hB0 : Blk (w.alloc (.cells #[.int .i64 0, .int .i64 0, .int .i64 0, .bool false, .string ⟨#[]⟩] 59)) w.heap.size 59 #[.int .i64 0, .int .i64 0, .int .i64 0, .bool false, .string ⟨#[]⟩] := Blk.new w _ _
  generalize hc : atS ls n key n = c
  have Hc := hid hc
  clear hc
  obtain ⟨⟨c0, c1, c2, c3, c4⟩, e0⟩ := c
  go_enter Tryz.func157, Tryz.ntmps157
  go_wp2_with fail
  refine (sAt_any base s key n vs ls n _ (hO.belowS (by (repeat (first | with_reducible exact Below.refl _ _ | with_reducible assumption | (with_reducible refine Below.drew ?_) | (with_reducible refine Below.manyDrew ?_ _) | ((with_reducible refine Below.alloc ?_ ?_ _); rotate_left; (focus (first | omega | (dsimp only; omega) | (simp; done) | (simp; omega)))) | ((with_reducible refine Below.setCell ?_ ?_ _); rotate_left; (focus (first | omega | (dsimp only; omega) | (simp; done) | (simp; omega)))) | ((with_reducible refine Below.step ?_ (by assumption) ?_); rotate_left; (focus (first | omega | (dsimp only; omega) | (simp; done) | (simp; omega)))))))) hP).mono ?_
  rw [Hc.out]
  unfold E.val
  rintro e w1 ⟨rfl, hb1⟩; obtain ⟨hc1, hf1⟩ := bcell hb1; have hz1 := hb1.size; (try simp only [World.size_alloc] at hz1); (try simp only [World.size_setCell] at hz1)
  have hB1 := hB0.belowS hb1
  have hl1 : w.heap.size < w1.heap.size := by omega
  have g0 := hB1.frozen 0
  have g1 := hB1.frozen 1
  have g2 := hB1.frozen 2
  have g3 := hB1.frozen 3
  have g4 := hB1.frozen 4
  have d0 := hB1.cell 0
  have d1 := hB1.cell 1
  have d2 := hB1.cell 2
  have d3 := hB1.cell 3
  have d4 := hB1.cell 4
  have HB1 := hid hB1
  clear hB0 hB1
  go_wp2_with fail
  refine bodyPost_ret (v := .tuple #[E.val ⟨c0, c1, c2, c3, c4⟩, errV e0]) ?_ rfl ⟨rfl, by (repeat (first | with_reducible exact Below.refl _ _ | with_reducible assumption | (with_reducible refine Below.drew ?_) | (with_reducible refine Below.manyDrew ?_ _) | ((with_reducible refine Below.alloc ?_ ?_ _); rotate_left; (focus (first | omega | (dsimp only; omega) | (simp; done) | (simp; omega)))) | ((with_reducible refine Below.setCell ?_ ?_ _); rotate_left; (focus (first | omega | (dsimp only; omega) | (simp; done) | (simp; omega)))) | ((with_reducible refine Below.step ?_ (by assumption) ?_); rotate_left; (focus (first | omega | (dsimp only; omega) | (simp; done) | (simp; omega))))))⟩
  exact results_box Tryz.results157 rfl (HB1.out.put5 _ _ _ _ _) Tryz.underlying59 rfl (by kernel_rfl)
end Go.Proofs.YtemhdfodghfkfaaGreatDoor
namespace Go.Proofs.YtemhdfodghfkfaaGreatDoor
open Go.RowKit
open Go.ChangeShapes Go.WideShapes Go.ChangeAt

theorem sseq_any (base s : Nat) (vs : List Value) (ls : List (List Ch)) (n : Int) (w : World) (hO : StoreO base w s vs ls n) : Calls Tryz.prog 118 #[.pointer (some ⟨s, 0, none⟩)] w fun e w' => e = .returned (.int .i64 n) ∧ w = w' := by
  have hs := hO.seq
  go_enter Tryz.func118, Tryz.ntmps118
  go_wp2
  go_ret
  exact ⟨rfl, rfl⟩
end Go.Proofs.YtemhdfodghfkfaaGreatDoor
namespace Go.Proofs.YtemhdfodghfkfaaGreatDoor
open Go.RowKit
open Go.ChangeShapes Go.WideShapes Go.ChangeAt

/-! ### the reference's row of deeds, and the program's lists out of it -/
def chsOf (D : List E) (k : Int) : List Ch := (D.zipIdx.filter fun p => decide (p.1.key = k)).map fun p => ⟨(p.2 : Int) + 1, p.1.gone, p.1.text⟩
def lsOf (D : List E) : List (List Ch) := (List.range 8).map fun (k : Nat) => chsOf D (k : Int)
theorem chsOf_snoc (D : List E) (e : E) (k : Int) : chsOf (D ++ [e]) k = if e.key = k then chsOf D k ++ [⟨(D.length : Int) + 1, e.gone, e.text⟩] else chsOf D k := by
  unfold chsOf
  rw [List.zipIdx_append, List.filter_append, List.map_append]
  by_cases h : e.key = k <;> simp [h]
theorem lsOf_get (D : List E) (k : Nat) (hk : k < 8) : (lsOf D).getD k [] = chsOf D (k : Int) := by
  unfold lsOf
  rw [List.getD, List.getElem?_map, List.getElem?_range hk]
  rfl
theorem lsOf_snoc (D : List E) (e : E) (k : Nat) (hk : k < 8) (he : e.key = (k : Int)) : lsOf (D ++ [e]) = (lsOf D).set k ((lsOf D).getD k [] ++ [⟨(D.length : Int) + 1, e.gone, e.text⟩]) := by
  rw [lsOf_get D k hk]
  apply List.ext_getElem?
  intro i
  unfold lsOf
  rw [List.getElem?_map, List.getElem?_set, List.length_map, List.length_range, List.getElem?_map]
  by_cases hi : k = i
  · subst hi
    rw [if_pos rfl, if_pos hk, List.getElem?_range hk, Option.map_some, chsOf_snoc, if_pos he]
  · rw [if_neg hi]
    by_cases h8 : i < 8
    · rw [List.getElem?_range h8, Option.map_some, Option.map_some, chsOf_snoc, if_neg (by rw [he]; omega)]
    · rw [List.getElem?_eq_none (by simpa using h8)]
      rfl
/-- what the reference's At computes of the deeds that it looks at -/
def refC (D : List E) (k : Int) : Ch := lastC (chsOf D k) (D.length : Int)
theorem chsOf_seq (D : List E) (k : Int) : ∀ c ∈ chsOf D k, 1 ≤ c.seq ∧ c.seq ≤ (D.length : Int) := by
  refine snoc_ind (P := fun D => ∀ c ∈ chsOf D k, 1 ≤ c.seq ∧ c.seq ≤ (D.length : Int)) D (fun c hc => by cases hc) fun D e ih c hc => ?_
  rw [chsOf_snoc] at hc
  rw [List.length_append, List.length_singleton]
  split at hc
  · rcases List.mem_append.1 hc with hc | hc
    · have := ih c hc; omega
    · rw [List.mem_singleton.1 hc]; simp only; omega
  · have := ih c hc; omega
theorem lastC_ge (l : List Ch) (q r : Int) (h : ∀ c ∈ l, c.seq ≤ q) (hr : q ≤ r) : lastC l r = lastC l q := by
  refine snoc_ind (P := fun l => (∀ c ∈ l, c.seq ≤ q) → lastC l r = lastC l q) l (fun _ => rfl) (fun l c ih h => ?_) h
  rw [lastC_snoc, lastC_snoc, if_pos (by have := h c (by simp); omega), if_pos (h c (by simp))]
theorem refC_snoc (D : List E) (e : E) (k : Int) : refC (D ++ [e]) k = if e.key = k then ⟨(D.length : Int) + 1, e.gone, e.text⟩ else refC D k := by
  unfold refC
  rw [chsOf_snoc, List.length_append, List.length_singleton]
  split
  · rw [lastC_snoc, if_pos (by simp only; omega)]
  · exact lastC_ge _ _ _ (fun c hc => (chsOf_seq D k c hc).2) (by omega)
/-- what came later does not count -/
theorem lastC_take (D : List E) (k : Int) (q : Nat) (hq : q ≤ D.length) : lastC (chsOf D k) (q : Int) = refC (D.take q) k := by
  refine snoc_ind (P := fun D => q ≤ D.length → lastC (chsOf D k) (q : Int) = refC (D.take q) k) D (fun h => ?_) (fun D e ih h => ?_) hq
  · have : q = 0 := by simpa using h
    subst this
    rfl
  · by_cases hl : q ≤ D.length
    · rw [List.take_append_of_le_length hl, ← ih hl, chsOf_snoc]
      split
      · rw [lastC_snoc, if_neg (by simp only; omega)]
      · rfl
    · rw [List.length_append, List.length_singleton] at h
      have : q = D.length + 1 := by omega
      subst this
      rw [List.take_of_length_le (by simp)]
      unfold refC
      rw [List.length_append, List.length_singleton]
theorem lastC_all (D : List E) (k : Int) : lastC (chsOf D k) (D.length : Int) = refC D k := rfl
theorem lsOf_nil : lsOf [] = List.replicate 8 [] := rfl

def rdone (D : List E) (e : E) : (Int × Int) × List E := if D.length = 1000 then ((0, 4), D) else (((D.length : Int) + 1, 0), D ++ [e])
def rput (D : List E) (key : Int) (t : ByteArray) : (Int × Int) × List E := if keyB key = true then (if (12 : Int) < (t.size : Int) then ((0, 4), D) else rdone D ⟨key, 0, 0, false, t⟩) else ((0, 1), D)
def rdel (D : List E) (key : Int) : (Int × Int) × List E := if keyB key = true then (if (refC D key).gone = true then ((0, 5), D) else rdone D ⟨key, 0, 0, true, ⟨#[]⟩⟩) else ((0, 1), D)
def rswap (D : List E) (key ver : Int) (t : ByteArray) : (Int × Int) × List E := if keyB key = true then (if (12 : Int) < (t.size : Int) then ((0, 4), D) else if (refC D key).seq = ver then rdone D ⟨key, 0, 0, false, t⟩ else ((0, 7), D)) else ((0, 1), D)
theorem lsOf_last {D : List E} {key : Int} (hk : keyB key = true) : lastC ((lsOf D).getD key.toNat []) (D.length : Int) = refC D key := by
  obtain ⟨h0, h8⟩ := keyB_true.1 hk
  rw [lsOf_get D _ (by omega), show ((key.toNat : Nat) : Int) = key by omega]
  rfl
theorem sdone_r (D : List E) (key : Int) (hk : keyB key = true) (g : Bool) (t : ByteArray) :
    sdone (lsOf D) D.length key.toNat g t = ((rdone D ⟨key, 0, 0, g, t⟩).1, lsOf (rdone D ⟨key, 0, 0, g, t⟩).2, ((rdone D ⟨key, 0, 0, g, t⟩).2.length : Int)) := by
  obtain ⟨h0, h8⟩ := keyB_true.1 hk
  by_cases h : D.length = 1000
  · rw [sdone, if_pos (by omega), rdone, if_pos h]; rfl
  · rw [sdone, if_neg (by omega), rdone, if_neg h]
    simp only
    rw [lsOf_snoc D ⟨key, 0, 0, g, t⟩ key.toNat (by omega) (by simp only; omega), List.length_append, List.length_singleton]
    rfl
theorem sput_r (D : List E) (key : Int) (t : ByteArray) : sput (lsOf D) D.length key t = ((rput D key t).1, lsOf (rput D key t).2, ((rput D key t).2.length : Int)) := by
  unfold sput rput
  split
  · rename_i hk
    split
    · rfl
    · exact sdone_r D key hk false t
  · rfl
theorem sdel_r (D : List E) (key : Int) : sdel (lsOf D) D.length key = ((rdel D key).1, lsOf (rdel D key).2, ((rdel D key).2.length : Int)) := by
  unfold sdel rdel
  split
  · rename_i hk
    rw [lsOf_last hk]
    split
    · rfl
    · exact sdone_r D key hk true ⟨#[]⟩
  · rfl
theorem sswap_r (D : List E) (key ver : Int) (t : ByteArray) : sswap (lsOf D) D.length key ver t = ((rswap D key ver t).1, lsOf (rswap D key ver t).2, ((rswap D key ver t).2.length : Int)) := by
  unfold sswap rswap
  split
  · rename_i hk
    split
    · rfl
    · rw [lsOf_last hk]
      split
      · exact sdone_r D key hk false t
      · rfl
  · rfl
def ratS (D : List E) (key q : Int) : E × Int := if keyB key = true ∧ 0 ≤ q ∧ q ≤ (D.length : Int) then (entC key q (refC (D.take q.toNat) key), 0) else (E.zero, 1)
theorem atS_r (D : List E) (key q : Int) : atS (lsOf D) D.length key q = ratS D key q := by
  unfold atS ratS
  split
  · rename_i h
    obtain ⟨hk, h0, hq⟩ := h
    obtain ⟨k0, k8⟩ := keyB_true.1 hk
    obtain ⟨n, rfl⟩ := Int.eq_ofNat_of_zero_le h0
    rw [lsOf_get D _ (by omega), show ((key.toNat : Nat) : Int) = key by omega, lastC_take D key n (by omega), Int.toNat_natCast]
  · rfl

theorem bstep {a W W' : World} (h : Below a.heap.size a W) (k : Below W.heap.size W W') : Below a.heap.size a W' := h.trans (k.mono h.size)
/-- a text -/
def TextV (v : Value) : Prop := ∃ x : ByteArray, x.size ≤ maxLen ∧ v = .string x
end Go.Proofs.YtemhdfodghfkfaaGreatDoor
