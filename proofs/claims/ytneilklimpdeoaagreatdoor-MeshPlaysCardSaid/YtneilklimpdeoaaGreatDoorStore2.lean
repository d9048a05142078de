/-
  CONTRACTS of package store: Put, Delete, Swap, at, At, Read, Seq. CONDITIONS: none.
  CONTRACT of store.Seq. CONDITIONS: none.
-/
import Derived.Test.YtneilklimpdeoaaGreatDoorStore
import Derived.Test.YtneilklimpdeoaaGreatDoorJoin
namespace Go.Proofs.YtneilklimpdeoaaGreatDoor
open Go.RowKit
open Go.ChangeShapes Go.WideShapes Go.ChangeAt

/-! ### what a deed does, in plain: its number and its fault; the lists and the number behind it -/
abbrev SR := (Int × Int) × List (List Ch) × Int
def sno (ls : List (List Ch)) (n e : Int) : SR := ((0, e), ls, n)
def sdone (ls : List (List Ch)) (n : Int) (k : Nat) (g : Bool) (t : ByteArray) : SR := if n = 1000 then sno ls n 4 else ((n + 1, 0), ls.set k (ls.getD k [] ++ [⟨n + 1, g, t⟩]), n + 1)
def sput (ls : List (List Ch)) (n key : Int) (t : ByteArray) : SR := if keyB key = true then (if (12 : Int) < (t.size : Int) then sno ls n 4 else sdone ls n key.toNat false t) else sno ls n 1
def sdel (ls : List (List Ch)) (n key : Int) : SR := if keyB key = true then (if (lastC (ls.getD key.toNat []) n).gone = true then sno ls n 5 else sdone ls n key.toNat true ⟨#[]⟩) else sno ls n 1
def sswap (ls : List (List Ch)) (n key ver : Int) (t : ByteArray) : SR := if keyB key = true then (if (12 : Int) < (t.size : Int) then sno ls n 4 else if (lastC (ls.getD key.toNat []) n).seq = ver then sdone ls n key.toNat false t else sno ls n 7) else sno ls n 1
def entC (key q : Int) (c : Ch) : E := ⟨key, c.seq, q, c.gone, c.text⟩
def atS (ls : List (List Ch)) (n key q : Int) : E × Int := if keyB key = true ∧ 0 ≤ q ∧ q ≤ n then (entC key q (lastC (ls.getD key.toNat []) q), 0) else (E.zero, 1)

/-- the blocks of a store -/
def FS (s : Nat) (vs : List Value) (i : Nat) : Prop := i = s ∨ ∃ j, j < 8 ∧ some i = foot (vs.getD j nilS)
/-- what a deed's call does -/
def SRes (base s : Nat) (vs : List Value) (w : World) (r : SR) (e : Ending) (w' : World) : Prop :=
  ∃ vs', e = .returned (.tuple #[.int .i64 r.1.1, errV r.1.2]) ∧ StoreO base w' s vs' r.2.1 r.2.2 ∧ StP r.2.1 r.2.2 ∧ Fr (FS s vs) w w' ∧ ∀ i, FS s vs' i → FS s vs i ∨ w.heap.size ≤ i
theorem SRes.no {base s : Nat} {vs : List Value} {w w' : World} {ls : List (List Ch)} {n e : Int} (hO : StoreO base w s vs ls n) (hP : StP ls n) (hb : Below w.heap.size w w') : SRes base s vs w (sno ls n e) (.returned (.tuple #[.int .i64 0, errV e])) w' :=
  ⟨vs, rfl, hO.belowS hb, hP, Fr.ofB hb, fun _ h => .inl h⟩

theorem done_res (base s k : Nat) (g : Bool) (t : ByteArray) (ht : t.size ≤ maxLen) (vs : List Value) (ls : List (List Ch)) (n : Int) (hk : k < 8) (w : World) (hO : StoreO base w s vs ls n) (hP : StP ls n) :
    Calls Tryz.prog 39 #[.pointer (some ⟨s, 0, none⟩), .int .i64 k, .bool g, .string t] w (SRes base s vs w (sdone ls n k g t)) := by
  by_cases hn : n = 1000
  · subst hn
    refine (done_full base s k g t vs ls w hO).mono ?_
    rintro e w' ⟨rfl, rfl⟩
    rw [sdone, if_pos rfl]
    exact SRes.no hO hP (Below.refl _ _)
  · have hh := hP.hi
    have hn' : n < 1000 := by omega
    refine (done_any base s k g t vs ls n hk hn' w hO hP).mono ?_
    rintro e w' ⟨vs', rfl, h1, h2, h3⟩
    rw [sdone, if_neg hn]
    refine ⟨vs', rfl, h1, hP.more hn' k g t ht, h2.mono (fun i _ h => h.imp (fun h => h) (fun h => ⟨k, hk, h⟩)), fun i hi => ?_⟩
    rcases hi with hi | ⟨j, hj, hi⟩
    · exact .inl (.inl hi)
    · rcases h3 j hj with o | ⟨q, o, hq⟩
      · exact .inl (.inr ⟨j, hj, by rw [← o]; exact hi⟩)
      · rw [o] at hi; cases hi; exact .inr hq

theorem srec {base s : Nat} {vs : List Value} {W w : World} {r : SR} {e : Ending} {w' : World} (h : SRes base s vs w r e w') (hb : Below W.heap.size W w) : SRes base s vs W r e w' := by
  obtain ⟨vs', h1, h2, h3, h4, h5⟩ := h
  exact ⟨vs', h1, h2, h3, ((Fr.ofB hb).step h4), fun i hi => (h5 i hi).imp (fun h => h) (fun h => Nat.le_trans hb.size h)⟩

set_option maxHeartbeats 2000000 in
set_option maxRecDepth 100000 in
theorem sput_any (base s : Nat) (key : Int) (t : ByteArray) (ht : t.size ≤ maxLen) (vs : List Value) (ls : List (List Ch)) (n : Int) (w : World) (hO : StoreO base w s vs ls n) (hP : StP ls n) :
    Calls Tryz.prog 23 #[.pointer (some ⟨s, 0, none⟩), .int .i64 key, .string t] w (SRes base s vs w (sput ls n key t)) := by
  have hm := ht
  unfold maxLen at hm
  rcases hk : keyB key with _ | _
  · rw [sput, hk, if_neg (by decide)]
    have Hk := hid hk
    clear hk
    go_enter Tryz.func23, Tryz.ntmps23
    go_wp2_with ((go_at_call 29; refine (key_any _ _).mono ?_; rintro e w' ⟨rfl, rfl⟩); rw [Hk.out])
    go_ret2
    exact SRes.no hO hP (Below.refl _ _)
  · rw [sput, hk, if_pos rfl]
    have Hk := hid hk
    obtain ⟨k0, k8⟩ := keyB_true.1 hk
    obtain ⟨k, rfl⟩ := Int.eq_ofNat_of_zero_le k0
    rw [Int.toNat_natCast]
    have hk8 : k < 8 := by omega
    clear hk k0 k8
    by_cases h12 : (12 : Int) < (t.size : Int)
    · rw [if_pos h12]
      go_enter Tryz.func23, Tryz.ntmps23
      go_wp2_with ((go_at_call 29; refine (key_any _ _).mono ?_; rintro e w' ⟨rfl, rfl⟩); rw [Hk.out])
      go_ret2
      exact SRes.no hO hP (Below.refl _ _)
    · rw [if_neg h12]
      have Hd := hid (done_res base s k false t ht vs ls n hk8 w hO hP)
      generalize sdone ls n k false t = R at *
      clear hO hP
      go_enter Tryz.func23, Tryz.ntmps23
      go_wp2_with ((go_at_call 29; refine (key_any _ _).mono ?_; rintro e w' ⟨rfl, rfl⟩); rw [Hk.out])
      refine Hd.out.mono ?_
      rintro e w' ⟨vs', rfl, h1⟩
      have H1 := hid h1
      clear h1
      go_wp2_with fail
      go_ret2
      exact ⟨vs', rfl, H1.out⟩

set_option maxHeartbeats 2000000 in
set_option maxRecDepth 100000 in
theorem sdel_any (base s : Nat) (key : Int) (vs : List Value) (ls : List (List Ch)) (n : Int) (w : World) (hO : StoreO base w s vs ls n) (hP : StP ls n) :
    Calls Tryz.prog 25 #[.pointer (some ⟨s, 0, none⟩), .int .i64 key] w (SRes base s vs w (sdel ls n key)) := by
  have hs := hO.seq
  rcases hk : keyB key with _ | _
  · rw [sdel, hk, if_neg (by decide)]
    have Hk := hid hk
    clear hk
    go_enter Tryz.func25, Tryz.ntmps25
    go_wp2_with ((go_at_call 29; refine (key_any _ _).mono ?_; rintro e w' ⟨rfl, rfl⟩); rw [Hk.out])
    go_ret2
    exact SRes.no hO hP (Below.refl _ _)
  · rw [sdel, hk, if_pos rfl]
    have Hk := hid hk
    obtain ⟨k0, k8⟩ := keyB_true.1 hk
    obtain ⟨k, rfl⟩ := Int.eq_ofNat_of_zero_le k0
    rw [Int.toNat_natCast]
    have hk8 : k < 8 := by omega
    clear hk k0 k8
    have Hl := hid (last_any base s k n vs ls n hk8 w hO hP)
    have HO := hid hO
    have HP := hid hP
    clear hO hP
    generalize lastC (ls.getD k []) n = c at *
    obtain ⟨c0, c1, c2⟩ := c
    cases c1 with
    | true =>
      rw [if_pos rfl]
      go_enter Tryz.func25, Tryz.ntmps25
      go_wp2_with ((go_at_call 29; refine (key_any _ _).mono ?_; rintro e w' ⟨rfl, rfl⟩); rw [Hk.out])
      have hfl1 : ∀ (W : World) (x0 : Int) (x1 : Bool) (x2 : ByteArray), (Instr.field 94 (.agg #[.int .i64 x0, .bool x1, .string x2]) 1).run Tryz.prog W = .ok (.bool x1) W := fun _ _ _ _ => by kernel_rfl
      refine Hl.out.mono ?_
      unfold Ch.val
      rintro e w1 ⟨rfl, hb1⟩; obtain ⟨hc1, hf1⟩ := bcell hb1; have hz1 := hb1.size; (try simp only [World.size_alloc] at hz1); (try simp only [World.size_setCell] at hz1)
      go_wp2_with fail
      go_ret2
      exact SRes.no HO.out HP.out hb1
    | false =>
      rw [if_neg (by simp)]
      go_enter Tryz.func25, Tryz.ntmps25
      go_wp2_with ((go_at_call 29; refine (key_any _ _).mono ?_; rintro e w' ⟨rfl, rfl⟩); rw [Hk.out])
      have hfl1 : ∀ (W : World) (x0 : Int) (x1 : Bool) (x2 : ByteArray), (Instr.field 94 (.agg #[.int .i64 x0, .bool x1, .string x2]) 1).run Tryz.prog W = .ok (.bool x1) W := fun _ _ _ _ => by kernel_rfl
      refine Hl.out.mono ?_
      unfold Ch.val
      rintro e w1 ⟨rfl, hb1⟩; obtain ⟨hc1, hf1⟩ := bcell hb1; have hz1 := hb1.size; (try simp only [World.size_alloc] at hz1); (try simp only [World.size_setCell] at hz1)
      have Hd := hid (done_res base s k true ⟨#[]⟩ (by unfold maxLen; decide) vs ls n hk8 w1 (HO.out.belowS hb1) HP.out)
      generalize sdone ls n k true ⟨#[]⟩ = R at *
      go_wp2_with fail
      refine Hd.out.mono ?_
      intro e w' hr
      obtain ⟨vs', rfl, h1⟩ := srec hr hb1
      have H1 := hid h1
      clear h1 hr
      go_wp2_with fail
      go_ret2
      exact ⟨vs', rfl, H1.out⟩

set_option maxHeartbeats 2000000 in
set_option maxRecDepth 100000 in
theorem sat_any (base s k : Nat) (q : Int) (vs : List Value) (ls : List (List Ch)) (n : Int) (hk8 : k < 8) (w : World) (hO : StoreO base w s vs ls n) (hP : StP ls n) :
    Calls Tryz.prog 67 #[.pointer (some ⟨s, 0, none⟩), .int .i64 k, .int .i64 q] w fun e w' => e = .returned (entC k q (lastC (ls.getD k []) q)).val ∧ Below w.heap.size w w' := by
  generalize hc : lastC (ls.getD k []) q = c
  have Hc := hid hc
  clear hc
  obtain ⟨c0, c1, c2⟩ := c
  go_enter Tryz.func67, Tryz.ntmps67
  go_wp2_with fail
  refine (last_any base s k q vs ls n hk8 _ (hO.belowS (by (repeat (first | with_reducible exact Below.refl _ _ | with_reducible assumption | (with_reducible refine Below.drew ?_) | (with_reducible refine Below.manyDrew ?_ _) | ((with_reducible refine Below.alloc ?_ ?_ _); rotate_left; (focus (first | omega | (dsimp only; omega) | (simp; done) | (simp; omega)))) | ((with_reducible refine Below.setCell ?_ ?_ _); rotate_left; (focus (first | omega | (dsimp only; omega) | (simp; done) | (simp; omega)))) | ((with_reducible refine Below.step ?_ (by assumption) ?_); rotate_left; (focus (first | omega | (dsimp only; omega) | (simp; done) | (simp; omega)))))))) hP).mono ?_
  rw [Hc.out]
  unfold Ch.val
  rintro e w1 ⟨rfl, hb1⟩; obtain ⟨hc1, hf1⟩ := bcell hb1; have hz1 := hb1.size; (try simp only [World.size_alloc] at hz1); (try simp only [World.size_setCell] at hz1)
  have hB0 : Blk w1 w.heap.size 46 #[.int .i64 0, .int .i64 0, .int .i64 0, .bool false, .string ⟨#[]⟩] := (Blk.new w _ _).belowS hb1
  have hl1 : w.heap.size < w1.heap.size := by omega
  have hl2 : w.heap.size ≠ w1.heap.size := by omega
  have g0 := hB0.frozen 0
  have g1 := hB0.frozen 1
  have g2 := hB0.frozen 2
  have g3 := hB0.frozen 3
  have g4 := hB0.frozen 4
  have d0 := hB0.cell 0
  have d1 := hB0.cell 1
  have d2 := hB0.cell 2
  have d3 := hB0.cell 3
  have d4 := hB0.cell 4
  have HB0 := hid hB0
  clear hB0
  go_wp2_with fail
  refine bodyPost_ret (v := (entC k q ⟨c0, c1, c2⟩).val) ?_ rfl ⟨rfl, by (repeat (first | with_reducible exact Below.refl _ _ | with_reducible assumption | (with_reducible refine Below.drew ?_) | (with_reducible refine Below.manyDrew ?_ _) | ((with_reducible refine Below.alloc ?_ ?_ _); rotate_left; (focus (first | omega | (dsimp only; omega) | (simp; done) | (simp; omega)))) | ((with_reducible refine Below.setCell ?_ ?_ _); rotate_left; (focus (first | omega | (dsimp only; omega) | (simp; done) | (simp; omega)))) | ((with_reducible refine Below.step ?_ (by assumption) ?_); rotate_left; (focus (first | omega | (dsimp only; omega) | (simp; done) | (simp; omega))))))⟩
  exact results_box1 Tryz.results67 rfl (HB0.out.put5 _ _ _ _ _ |>.alloc _) Tryz.underlying46 rfl (by kernel_rfl)

set_option maxHeartbeats 4000000 in
set_option maxRecDepth 100000 in
theorem sAt_any (base s : Nat) (key q : Int) (vs : List Value) (ls : List (List Ch)) (n : Int) (w : World) (hO : StoreO base w s vs ls n) (hP : StP ls n) :
    Calls Tryz.prog 57 #[.pointer (some ⟨s, 0, none⟩), .int .i64 key, .int .i64 q] w fun e w' => e = .returned (.tuple #[(atS ls n key q).1.val, errV (atS ls n key q).2]) ∧ Below w.heap.size w w' := by
  have hs := hO.seq
  have hsl := hO.lt
  have hn0 := hP.lo
  have hn1 := hP.hi
  have hB0 : Blk (w.alloc (.cells #[.int .i64 0, .int .i64 0, .int .i64 0, .bool false, .string ⟨#[]⟩] 46)) w.heap.size 46 #[.int .i64 0, .int .i64 0, .int .i64 0, .bool false, .string ⟨#[]⟩] := Blk.new w _ _
  by_cases hok : keyB key = true ∧ 0 ≤ q ∧ q ≤ n
  · rw [atS, if_pos hok]
    obtain ⟨hk, hq0, hqn⟩ := hok
    have Hk := hid hk
    obtain ⟨k0, k8⟩ := keyB_true.1 hk
    obtain ⟨k, rfl⟩ := Int.eq_ofNat_of_zero_le k0
    rw [Int.toNat_natCast]
    have hk8 : k < 8 := by omega
    clear hk k0 k8
    generalize hc : entC k q (lastC (ls.getD k []) q) = c
    have Hc := hid hc
    clear hc
    obtain ⟨c0, c1, c2, c3, c4⟩ := c
    go_enter Tryz.func57, Tryz.ntmps57
    go_wp2_with ((go_at_call 29; refine (key_any _ _).mono ?_; rintro e w' ⟨rfl, rfl⟩); rw [Hk.out])
    refine (sat_any base s k q vs ls n hk8 _ (hO.belowS (by (repeat (first | with_reducible exact Below.refl _ _ | with_reducible assumption | (with_reducible refine Below.drew ?_) | (with_reducible refine Below.manyDrew ?_ _) | ((with_reducible refine Below.alloc ?_ ?_ _); rotate_left; (focus (first | omega | (dsimp only; omega) | (simp; done) | (simp; omega)))) | ((with_reducible refine Below.setCell ?_ ?_ _); rotate_left; (focus (first | omega | (dsimp only; omega) | (simp; done) | (simp; omega)))) | ((with_reducible refine Below.step ?_ (by assumption) ?_); rotate_left; (focus (first | omega | (dsimp only; omega) | (simp; done) | (simp; omega)))))))) hP).mono ?_
    rw [Hc.out]
    unfold E.val
    rintro e w1 ⟨rfl, hb1⟩; obtain ⟨hc1, hf1⟩ := bcell hb1; have hz1 := hb1.size; (try simp only [World.size_alloc] at hz1); (try simp only [World.size_setCell] at hz1)
    have hB1 := hB0.belowS hb1
    have hl1 : w.heap.size < w1.heap.size := by omega
    have g0 := hB1.frozen 0
    have g1 := hB1.frozen 1
    have g2 := hB1.frozen 2
    have g3 := hB1.frozen 3
    have g4 := hB1.frozen 4
    have d0 := hB1.cell 0
    have d1 := hB1.cell 1
    have d2 := hB1.cell 2
    have d3 := hB1.cell 3
    have d4 := hB1.cell 4
    have HB1 := hid hB1
    clear hB0 hB1
    go_wp2_with fail
    refine bodyPost_ret (v := .tuple #[E.val ⟨c0, c1, c2, c3, c4⟩, .nilIface]) ?_ rfl ⟨rfl, by (repeat (first | with_reducible exact Below.refl _ _ | with_reducible assumption | (with_reducible refine Below.drew ?_) | (with_reducible refine Below.manyDrew ?_ _) | ((with_reducible refine Below.alloc ?_ ?_ _); rotate_left; (focus (first | omega | (dsimp only; omega) | (simp; done) | (simp; omega)))) | ((with_reducible refine Below.setCell ?_ ?_ _); rotate_left; (focus (first | omega | (dsimp only; omega) | (simp; done) | (simp; omega)))) | ((with_reducible refine Below.step ?_ (by assumption) ?_); rotate_left; (focus (first | omega | (dsimp only; omega) | (simp; done) | (simp; omega))))))⟩
    exact results_box Tryz.results57 rfl (HB1.out.put5 _ _ _ _ _) Tryz.underlying46 rfl (by kernel_rfl)
  · rw [atS, if_neg hok]
    have hc : keyB key = false ∨ (keyB key = true ∧ q < 0) ∨ (keyB key = true ∧ 0 ≤ q ∧ n < q) := by
      rcases hk : keyB key with _ | _
      · exact .inl rfl
      · rw [hk] at hok
        by_cases h0 : 0 ≤ q
        · exact .inr (.inr ⟨rfl, h0, by by_cases hqn : q ≤ n; exact absurd ⟨rfl, h0, hqn⟩ hok; omega⟩)
        · exact .inr (.inl ⟨rfl, by omega⟩)
    have g0 := hB0.frozen 0
    have g1 := hB0.frozen 1
    have g2 := hB0.frozen 2
    have g3 := hB0.frozen 3
    have g4 := hB0.frozen 4
    have d0 := hB0.cell 0
    have d1 := hB0.cell 1
    have d2 := hB0.cell 2
    have d3 := hB0.cell 3
    have d4 := hB0.cell 4
    have HB0 := hid hB0
    clear hB0 hok
    rcases hc with hk | ⟨hk, hq⟩ | ⟨hk, hq, hq'⟩
    all_goals
      have Hk := hid hk
      clear hk
      go_enter Tryz.func57, Tryz.ntmps57
      go_wp2_with ((go_at_call 29; refine (key_any _ _).mono ?_; rintro e w' ⟨rfl, rfl⟩); rw [Hk.out])
      refine bodyPost_ret (v := .tuple #[E.val E.zero, errV 1]) ?_ rfl ⟨rfl, by (repeat (first | with_reducible exact Below.refl _ _ | with_reducible assumption | (with_reducible refine Below.drew ?_) | (with_reducible refine Below.manyDrew ?_ _) | ((with_reducible refine Below.alloc ?_ ?_ _); rotate_left; (focus (first | omega | (dsimp only; omega) | (simp; done) | (simp; omega)))) | ((with_reducible refine Below.setCell ?_ ?_ _); rotate_left; (focus (first | omega | (dsimp only; omega) | (simp; done) | (simp; omega)))) | ((with_reducible refine Below.step ?_ (by assumption) ?_); rotate_left; (focus (first | omega | (dsimp only; omega) | (simp; done) | (simp; omega))))))⟩
      exact results_box Tryz.results57 rfl HB0.out Tryz.underlying46 rfl (by kernel_rfl)

set_option maxHeartbeats 4000000 in
set_option maxRecDepth 100000 in
theorem sread_any (base s : Nat) (key : Int) (vs : List Value) (ls : List (List Ch)) (n : Int) (w : World) (hO : StoreO base w s vs ls n) (hP : StP ls n) :
    Calls Tryz.prog 43 #[.pointer (some ⟨s, 0, none⟩), .int .i64 key] w fun e w' => e = .returned (.tuple #[(atS ls n key n).1.val, errV (atS ls n key n).2]) ∧ Below w.heap.size w w' := by
  have hs := hO.seq
  have hsl := hO.lt
  have hB0 : Blk (w.alloc (.cells #[.int .i64 0, .int .i64 0, .int .i64 0, .bool false, .string ⟨#[]⟩] 46)) w.heap.size 46 #[.int .i64 0, .int .i64 0, .int .i64 0, .bool false, .string ⟨#[]⟩] := Blk.new w _ _
  generalize hc : atS ls n key n = c
  have Hc := hid hc
  clear hc
  obtain ⟨⟨c0, c1, c2, c3, c4⟩, e0⟩ := c
  go_enter Tryz.func43, Tryz.ntmps43
  go_wp2_with fail
  refine (sAt_any base s key n vs ls n _ (hO.belowS (by (repeat (first | with_reducible exact Below.refl _ _ | with_reducible assumption | (with_reducible refine Below.drew ?_) | (with_reducible refine Below.manyDrew ?_ _) | ((with_reducible refine Below.alloc ?_ ?_ _); rotate_left; (focus (first | omega | (dsimp only; omega) | (simp; done) | (simp; omega)))) | ((with_reducible refine Below.setCell ?_ ?_ _); rotate_left; (focus (first | omega | (dsimp only; omega) | (simp; done) | (simp; omega)))) | ((with_reducible refine Below.step ?_ (by assumption) ?_); rotate_left; (focus (first | omega | (dsimp only; omega) | (simp; done) | (simp; omega)))))))) hP).mono ?_
  rw [Hc.out]
  unfold E.val
  rintro e w1 ⟨rfl, hb1⟩; obtain ⟨hc1, hf1⟩ := bcell hb1; have hz1 := hb1.size; (try simp only [World.size_alloc] at hz1); (try simp only [World.size_setCell] at hz1)
  have hB1 := hB0.belowS hb1
  have hl1 : w.heap.size < w1.heap.size := by omega
  have g0 := hB1.frozen 0
  have g1 := hB1.frozen 1
  have g2 := hB1.frozen 2
  have g3 := hB1.frozen 3
  have g4 := hB1.frozen 4
  have d0 := hB1.cell 0
  have d1 := hB1.cell 1
  have d2 := hB1.cell 2
  have d3 := hB1.cell 3
  have d4 := hB1.cell 4
  have HB1 := hid hB1
  clear hB0 hB1
  go_wp2_with fail
  refine bodyPost_ret (v := .tuple #[E.val ⟨c0, c1, c2, c3, c4⟩, errV e0]) ?_ rfl ⟨rfl, by (repeat (first | with_reducible exact Below.refl _ _ | with_reducible assumption | (with_reducible refine Below.drew ?_) | (with_reducible refine Below.manyDrew ?_ _) | ((with_reducible refine Below.alloc ?_ ?_ _); rotate_left; (focus (first | omega | (dsimp only; omega) | (simp; done) | (simp; omega)))) | ((with_reducible refine Below.setCell ?_ ?_ _); rotate_left; (focus (first | omega | (dsimp only; omega) | (simp; done) | (simp; omega)))) | ((with_reducible refine Below.step ?_ (by assumption) ?_); rotate_left; (focus (first | omega | (dsimp only; omega) | (simp; done) | (simp; omega))))))⟩
  exact results_box Tryz.results43 rfl (HB1.out.put5 _ _ _ _ _) Tryz.underlying46 rfl (by kernel_rfl)
end Go.Proofs.YtneilklimpdeoaaGreatDoor
namespace Go.Proofs.YtneilklimpdeoaaGreatDoor
open Go.RowKit
open Go.ChangeShapes Go.WideShapes Go.ChangeAt

theorem sseq_any (base s : Nat) (vs : List Value) (ls : List (List Ch)) (n : Int) (w : World) (hO : StoreO base w s vs ls n) : Calls Tryz.prog 30 #[.pointer (some ⟨s, 0, none⟩)] w fun e w' => e = .returned (.int .i64 n) ∧ w = w' := by
  have hs := hO.seq
  go_enter Tryz.func30, Tryz.ntmps30
  go_wp2
  go_ret
  exact ⟨rfl, rfl⟩
end Go.Proofs.YtneilklimpdeoaaGreatDoor
