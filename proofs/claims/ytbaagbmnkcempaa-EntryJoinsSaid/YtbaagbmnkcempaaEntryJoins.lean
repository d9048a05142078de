/-
  PROVED HERE: merelaw1.EntryJoins returns true for every three entries: joining goes either way round, as often as one likes, in any order. CONDITIONS: none.
-/
import Derived.Test.YtbaagbmnkcempaaJoinLaw
namespace Go.Proofs.Ytbaagbmnkcempaa
open Go.RowKit
open Go.ChangeShapes Go.WideShapes Go.ChangeAt

theorem factJoin (s1 s2 : ByteArray) (h : s1 = s2) (h2 : s1.size = 1) : joinR ⟨1, 2, 5, false, s1⟩ ⟨1, 2, 9, false, s2⟩ = (⟨1, 2, 9, false, s2⟩, 0) := by
  subst h
  refine joinR_ok.2 ⟨?_, ?_, rfl, .inl ⟨rfl, rfl, rfl, rfl⟩⟩
  · exact chk_zero.2 ⟨rfl, rfl, rfl, (by decide : (2 : Int) ≤ 5), by simp only [h2]; omega, by intro h; cases h⟩
  · exact chk_zero.2 ⟨rfl, rfl, rfl, (by decide : (2 : Int) ≤ 9), by simp only [h2]; omega, by intro h; cases h⟩

def lo (w w1 : World) : Prop := w.heap.size < w1.heap.size ∧ w.heap.size + 1 < w1.heap.size ∧ w.heap.size + 1 + 1 < w1.heap.size

set_option maxHeartbeats 8000000 in
set_option maxRecDepth 100000 in
theorem entryJoins_bad (k v s : Int) (g : Bool) (t : ByteArray) (k' v' s' : Int) (g' : Bool) (t' : ByteArray) (k'' v'' s'' : Int) (g'' : Bool) (t'' : ByteArray) (ht : t.size ≤ maxLen) (ht' : t'.size ≤ maxLen) (_ht'' : t''.size ≤ maxLen) (w : World) (x : E) (ex : Int) (hab : joinR ⟨k, v, s, g, t⟩ ⟨k', v', s', g', t'⟩ = (x, ex)) (he : ex ≠ 0) :
    Calls Try.prog 6 #[.agg #[.int .i64 k, .int .i64 v, .int .i64 s, .bool g, .string t], .agg #[.int .i64 k', .int .i64 v', .int .i64 s', .bool g', .string t'], .agg #[.int .i64 k'', .int .i64 v'', .int .i64 s'', .bool g'', .string t'']] w fun e w' =>
      e = .returned (.bool true) ∧ Below w.heap.size w w' := by
  have hF : joinR ⟨1, 2, 5, false, ⟨#[120]⟩⟩ ⟨1, 2, 9, false, ⟨#[120]⟩⟩ = (⟨1, 2, 9, false, ⟨#[120]⟩⟩, 0) := factJoin _ _ rfl (by decide)
  have HF := hid hF
  clear hF
  have hne := errV_ne he
  have Hab := hid hab
  have Hne := hid hne
  obtain ⟨xk, xv, xs, xg, xt⟩ := x
  clear hab hne he
  go_enter Try.func6, Try.ntmps6
  go_wp2_with fail
  refine (join_any 1 2 5 false ⟨#[120]⟩ 1 2 9 false ⟨#[120]⟩ (by decide) (by decide) _).mono ?_
  rw [HF.out, errV_zero]
  unfold E.val
  rintro e w1 ⟨rfl, hb1⟩; obtain ⟨hc1, hf1⟩ := bcell hb1; have hz1 := hb1.size; (try simp only [World.size_alloc] at hz1); (try simp only [World.size_setCell] at hz1)
  have hl1 : w.heap.size < w1.heap.size := by omega
  have hl2 : w.heap.size + 1 < w1.heap.size := by omega
  have hl3 : w.heap.size + 1 + 1 < w1.heap.size := by omega
  go_wp2_with fail
  refine (join_any k v s g t k' v' s' g' t' ht ht' _).mono ?_
  rw [Hab.out, Hne.out]
  unfold E.val
  rintro e w2 ⟨rfl, hb2⟩; obtain ⟨hc2, hf2⟩ := bcell hb2; have hz2 := hb2.size; (try simp only [World.size_alloc] at hz2); (try simp only [World.size_setCell] at hz2)
  go_wp2_with fail
  go_ret
  exact ⟨rfl, by (repeat (first | with_reducible exact Below.refl _ _ | with_reducible assumption | (with_reducible refine Below.drew ?_) | (with_reducible refine Below.manyDrew ?_ _) | ((with_reducible refine Below.alloc ?_ ?_ _); rotate_left; (focus (first | omega | (dsimp only; omega) | (simp; done) | (simp; omega)))) | ((with_reducible refine Below.setCell ?_ ?_ _); rotate_left; (focus (first | omega | (dsimp only; omega) | (simp; done) | (simp; omega)))) | ((with_reducible refine Below.step ?_ (by assumption) ?_); rotate_left; (focus (first | omega | (dsimp only; omega) | (simp; done) | (simp; omega))))))⟩

set_option maxHeartbeats 8000000 in
set_option maxRecDepth 100000 in
theorem entryJoins_part (k v s : Int) (g : Bool) (t : ByteArray) (k' v' s' : Int) (g' : Bool) (t' : ByteArray) (k'' v'' s'' : Int) (g'' : Bool) (t'' : ByteArray) (ht : t.size ≤ maxLen) (ht' : t'.size ≤ maxLen) (ht'' : t''.size ≤ maxLen) (w : World) (xk xv xs : Int) (xg : Bool) (xt : ByteArray) (hxt : xt.size ≤ maxLen) (pk pv ps : Int) (pg : Bool) (pt : ByteArray) (yk yv ys : Int) (yg : Bool) (yt : ByteArray) (hyt : yt.size ≤ maxLen) (zk zv zs : Int) (zg : Bool) (zt : ByteArray) (e1 e2 e3 : Int)
    (Hab : Hid (joinR ⟨k, v, s, g, t⟩ ⟨k', v', s', g', t'⟩ = (⟨xk, xv, xs, xg, xt⟩, 0))) (Hba : Hid (joinR ⟨k', v', s', g', t'⟩ ⟨k, v, s, g, t⟩ = (⟨xk, xv, xs, xg, xt⟩, 0))) (Hxa : Hid (joinR ⟨xk, xv, xs, xg, xt⟩ ⟨k, v, s, g, t⟩ = (⟨xk, xv, xs, xg, xt⟩, 0)))
    (Hxb : Hid (joinR ⟨xk, xv, xs, xg, xt⟩ ⟨k', v', s', g', t'⟩ = (⟨xk, xv, xs, xg, xt⟩, 0))) (i1 : v ≤ xv) (i2 : v' ≤ xv) (i3 : s ≤ xs) (i4 : s' ≤ xs)
    (Hxc : Hid (joinR ⟨xk, xv, xs, xg, xt⟩ ⟨k'', v'', s'', g'', t''⟩ = (⟨pk, pv, ps, pg, pt⟩, e1))) (Hbc : Hid (joinR ⟨k', v', s', g', t'⟩ ⟨k'', v'', s'', g'', t''⟩ = (⟨yk, yv, ys, yg, yt⟩, e2))) (Hac : Hid (joinR ⟨k, v, s, g, t⟩ ⟨k'', v'', s'', g'', t''⟩ = (⟨zk, zv, zs, zg, zt⟩, e3))) (hcase : e1 ≠ 0 ∨ (e1 = 0 ∧ e2 ≠ 0) ∨ (e1 = 0 ∧ e2 = 0 ∧ e3 ≠ 0)) :
    Calls Try.prog 6 #[.agg #[.int .i64 k, .int .i64 v, .int .i64 s, .bool g, .string t], .agg #[.int .i64 k', .int .i64 v', .int .i64 s', .bool g', .string t'], .agg #[.int .i64 k'', .int .i64 v'', .int .i64 s'', .bool g'', .string t'']] w fun e w' =>
      e = .returned (.bool true) ∧ Below w.heap.size w w' := by
  have hF : joinR ⟨1, 2, 5, false, ⟨#[120]⟩⟩ ⟨1, 2, 9, false, ⟨#[120]⟩⟩ = (⟨1, 2, 9, false, ⟨#[120]⟩⟩, 0) := factJoin _ _ rfl (by decide)
  have HF := hid hF
  clear hF
  have hv : ∃ V1 V2 V3 : Value, errV e1 = V1 ∧ errV e2 = V2 ∧ errV e3 = V3 ∧ ((∃ n, V1 = .iface 23 n) ∨ (V1 = .nilIface ∧ ∃ n, V2 = .iface 23 n) ∨ (V1 = .nilIface ∧ V2 = .nilIface ∧ ∃ n, V3 = .iface 23 n)) := by
    refine ⟨_, _, _, rfl, rfl, rfl, ?_⟩
    rcases hcase with h | ⟨rfl, h⟩ | ⟨rfl, rfl, h⟩
    · exact .inl ⟨_, errV_ne h⟩
    · exact .inr (.inl ⟨rfl, _, errV_ne h⟩)
    · exact .inr (.inr ⟨rfl, rfl, _, errV_ne h⟩)
  clear hcase
  obtain ⟨V1, V2, V3, h1, h2, h3, hv⟩ := hv
  have HE1 := hid h1
  have HE2 := hid h2
  have HE3 := hid h3
  clear h1 h2 h3
  rcases hv with ⟨n, rfl⟩ | ⟨rfl, n, rfl⟩ | ⟨rfl, rfl, n, rfl⟩
  all_goals
    go_enter Try.func6, Try.ntmps6
    go_wp2_with fail
    refine (join_any 1 2 5 false ⟨#[120]⟩ 1 2 9 false ⟨#[120]⟩ (by decide) (by decide) _).mono ?_
    rw [HF.out, errV_zero]
    unfold E.val
    rintro e w1 ⟨rfl, hb1⟩; obtain ⟨hc1, hf1⟩ := bcell hb1; have hz1 := hb1.size; (try simp only [World.size_alloc] at hz1); (try simp only [World.size_setCell] at hz1)
    have hl1 : w.heap.size < w1.heap.size := by omega
    have hl2 : w.heap.size + 1 < w1.heap.size := by omega
    have hl3 : w.heap.size + 1 + 1 < w1.heap.size := by omega
    go_wp2_with fail
    refine (join_any k v s g t k' v' s' g' t' ht ht' _).mono ?_
    rw [Hab.out, errV_zero]
    unfold E.val
    rintro e w2 ⟨rfl, hb2⟩; obtain ⟨hc2, hf2⟩ := bcell hb2; have hz2 := hb2.size; (try simp only [World.size_alloc] at hz2); (try simp only [World.size_setCell] at hz2)
    have hm20 : w.heap.size < w2.heap.size := by omega
    have hm21 : w.heap.size + 1 < w2.heap.size := by omega
    have hm22 : w.heap.size + 1 + 1 < w2.heap.size := by omega
    go_wp2_with fail
    refine (join_any k' v' s' g' t' k v s g t ht' ht _).mono ?_
    rw [Hba.out, errV_zero]
    unfold E.val
    rintro e w3 ⟨rfl, hb3⟩; obtain ⟨hc3, hf3⟩ := bcell hb3; have hz3 := hb3.size; (try simp only [World.size_alloc] at hz3); (try simp only [World.size_setCell] at hz3)
    have hm30 : w.heap.size < w3.heap.size := by omega
    have hm31 : w.heap.size + 1 < w3.heap.size := by omega
    have hm32 : w.heap.size + 1 + 1 < w3.heap.size := by omega
    have hm3_2 : w2.heap.size < w3.heap.size := by omega
    go_wp2_with fail
    refine (join_any xk xv xs xg xt k v s g t hxt ht _).mono ?_
    rw [Hxa.out, errV_zero]
    unfold E.val
    rintro e w4 ⟨rfl, hb4⟩; obtain ⟨hc4, hf4⟩ := bcell hb4; have hz4 := hb4.size; (try simp only [World.size_alloc] at hz4); (try simp only [World.size_setCell] at hz4)
    have hm40 : w.heap.size < w4.heap.size := by omega
    have hm41 : w.heap.size + 1 < w4.heap.size := by omega
    have hm42 : w.heap.size + 1 + 1 < w4.heap.size := by omega
    have hm4_2 : w2.heap.size < w4.heap.size := by omega
    have hm4_3 : w3.heap.size < w4.heap.size := by omega
    go_wp2_with fail
    refine (join_any xk xv xs xg xt k' v' s' g' t' hxt ht' _).mono ?_
    rw [Hxb.out, errV_zero]
    unfold E.val
    rintro e w5 ⟨rfl, hb5⟩; obtain ⟨hc5, hf5⟩ := bcell hb5; have hz5 := hb5.size; (try simp only [World.size_alloc] at hz5); (try simp only [World.size_setCell] at hz5)
    have hm50 : w.heap.size < w5.heap.size := by omega
    have hm51 : w.heap.size + 1 < w5.heap.size := by omega
    have hm52 : w.heap.size + 1 + 1 < w5.heap.size := by omega
    have hm5_2 : w2.heap.size < w5.heap.size := by omega
    have hm5_3 : w3.heap.size < w5.heap.size := by omega
    have hm5_4 : w4.heap.size < w5.heap.size := by omega
    go_wp2_with fail
    refine (join_any xk xv xs xg xt k'' v'' s'' g'' t'' hxt ht'' _).mono ?_
    rw [Hxc.out, HE1.out]
    unfold E.val
    rintro e w6 ⟨rfl, hb6⟩; obtain ⟨hc6, hf6⟩ := bcell hb6; have hz6 := hb6.size; (try simp only [World.size_alloc] at hz6); (try simp only [World.size_setCell] at hz6)
    have hm60 : w.heap.size < w6.heap.size := by omega
    have hm61 : w.heap.size + 1 < w6.heap.size := by omega
    have hm62 : w.heap.size + 1 + 1 < w6.heap.size := by omega
    have hm6_2 : w2.heap.size < w6.heap.size := by omega
    have hm6_3 : w3.heap.size < w6.heap.size := by omega
    have hm6_4 : w4.heap.size < w6.heap.size := by omega
    have hm6_5 : w5.heap.size < w6.heap.size := by omega
    go_wp2_with fail
    refine (join_any k' v' s' g' t' k'' v'' s'' g'' t'' ht' ht'' _).mono ?_
    rw [Hbc.out, HE2.out]
    unfold E.val
    rintro e w7 ⟨rfl, hb7⟩; obtain ⟨hc7, hf7⟩ := bcell hb7; have hz7 := hb7.size; (try simp only [World.size_alloc] at hz7); (try simp only [World.size_setCell] at hz7)
    have hm70 : w.heap.size < w7.heap.size := by omega
    have hm71 : w.heap.size + 1 < w7.heap.size := by omega
    have hm72 : w.heap.size + 1 + 1 < w7.heap.size := by omega
    have hm7_2 : w2.heap.size < w7.heap.size := by omega
    have hm7_3 : w3.heap.size < w7.heap.size := by omega
    have hm7_4 : w4.heap.size < w7.heap.size := by omega
    have hm7_5 : w5.heap.size < w7.heap.size := by omega
    have hm7_6 : w6.heap.size < w7.heap.size := by omega
    go_wp2_with fail
    refine (join_any k v s g t k'' v'' s'' g'' t'' ht ht'' _).mono ?_
    rw [Hac.out, HE3.out]
    unfold E.val
    rintro e w8 ⟨rfl, hb8⟩; obtain ⟨hc8, hf8⟩ := bcell hb8; have hz8 := hb8.size; (try simp only [World.size_alloc] at hz8); (try simp only [World.size_setCell] at hz8)
    have hm80 : w.heap.size < w8.heap.size := by omega
    have hm81 : w.heap.size + 1 < w8.heap.size := by omega
    have hm82 : w.heap.size + 1 + 1 < w8.heap.size := by omega
    have hm8_2 : w2.heap.size < w8.heap.size := by omega
    have hm8_3 : w3.heap.size < w8.heap.size := by omega
    have hm8_4 : w4.heap.size < w8.heap.size := by omega
    have hm8_5 : w5.heap.size < w8.heap.size := by omega
    have hm8_6 : w6.heap.size < w8.heap.size := by omega
    have hm8_7 : w7.heap.size < w8.heap.size := by omega
    go_wp2_with fail
    go_ret
    exact ⟨rfl, by (repeat (first | with_reducible exact Below.refl _ _ | with_reducible assumption | (with_reducible refine Below.drew ?_) | (with_reducible refine Below.manyDrew ?_ _) | ((with_reducible refine Below.alloc ?_ ?_ _); rotate_left; (focus (first | omega | (dsimp only; omega) | (simp; done) | (simp; omega)))) | ((with_reducible refine Below.setCell ?_ ?_ _); rotate_left; (focus (first | omega | (dsimp only; omega) | (simp; done) | (simp; omega)))) | ((with_reducible refine Below.step ?_ (by assumption) ?_); rotate_left; (focus (first | omega | (dsimp only; omega) | (simp; done) | (simp; omega))))))⟩

set_option maxHeartbeats 8000000 in
set_option maxRecDepth 100000 in
theorem entryJoins_all (k v s : Int) (g : Bool) (t : ByteArray) (k' v' s' : Int) (g' : Bool) (t' : ByteArray) (k'' v'' s'' : Int) (g'' : Bool) (t'' : ByteArray) (ht : t.size ≤ maxLen) (ht' : t'.size ≤ maxLen) (ht'' : t''.size ≤ maxLen) (w : World) (xk xv xs : Int) (xg : Bool) (xt : ByteArray) (hxt : xt.size ≤ maxLen) (pk pv ps : Int) (pg : Bool) (pt : ByteArray) (yk yv ys : Int) (yg : Bool) (yt : ByteArray) (hyt : yt.size ≤ maxLen) (zk zv zs : Int) (zg : Bool) (zt : ByteArray) (e1 e2 e3 : Int)
    (Hab : Hid (joinR ⟨k, v, s, g, t⟩ ⟨k', v', s', g', t'⟩ = (⟨xk, xv, xs, xg, xt⟩, 0))) (Hba : Hid (joinR ⟨k', v', s', g', t'⟩ ⟨k, v, s, g, t⟩ = (⟨xk, xv, xs, xg, xt⟩, 0))) (Hxa : Hid (joinR ⟨xk, xv, xs, xg, xt⟩ ⟨k, v, s, g, t⟩ = (⟨xk, xv, xs, xg, xt⟩, 0)))
    (Hxb : Hid (joinR ⟨xk, xv, xs, xg, xt⟩ ⟨k', v', s', g', t'⟩ = (⟨xk, xv, xs, xg, xt⟩, 0))) (i1 : v ≤ xv) (i2 : v' ≤ xv) (i3 : s ≤ xs) (i4 : s' ≤ xs)
    (Hxc : Hid (joinR ⟨xk, xv, xs, xg, xt⟩ ⟨k'', v'', s'', g'', t''⟩ = (⟨pk, pv, ps, pg, pt⟩, e1))) (Hbc : Hid (joinR ⟨k', v', s', g', t'⟩ ⟨k'', v'', s'', g'', t''⟩ = (⟨yk, yv, ys, yg, yt⟩, e2))) (Hac : Hid (joinR ⟨k, v, s, g, t⟩ ⟨k'', v'', s'', g'', t''⟩ = (⟨zk, zv, zs, zg, zt⟩, e3))) (h1 : e1 = 0) (h2 : e2 = 0) (h3 : e3 = 0) (Hay : Hid (joinR ⟨k, v, s, g, t⟩ ⟨yk, yv, ys, yg, yt⟩ = (⟨pk, pv, ps, pg, pt⟩, 0))) :
    Calls Try.prog 6 #[.agg #[.int .i64 k, .int .i64 v, .int .i64 s, .bool g, .string t], .agg #[.int .i64 k', .int .i64 v', .int .i64 s', .bool g', .string t'], .agg #[.int .i64 k'', .int .i64 v'', .int .i64 s'', .bool g'', .string t'']] w fun e w' =>
      e = .returned (.bool true) ∧ Below w.heap.size w w' := by
  have hF : joinR ⟨1, 2, 5, false, ⟨#[120]⟩⟩ ⟨1, 2, 9, false, ⟨#[120]⟩⟩ = (⟨1, 2, 9, false, ⟨#[120]⟩⟩, 0) := factJoin _ _ rfl (by decide)
  have HF := hid hF
  clear hF
  have HE1 : Hid (errV e1 = .nilIface) := hid (by rw [h1]; rfl)
  have HE2 : Hid (errV e2 = .nilIface) := hid (by rw [h2]; rfl)
  have HE3 : Hid (errV e3 = .nilIface) := hid (by rw [h3]; rfl)
  clear h1 h2 h3
  go_enter Try.func6, Try.ntmps6
  go_wp2_with fail
  refine (join_any 1 2 5 false ⟨#[120]⟩ 1 2 9 false ⟨#[120]⟩ (by decide) (by decide) _).mono ?_
  rw [HF.out, errV_zero]
  unfold E.val
  rintro e w1 ⟨rfl, hb1⟩; obtain ⟨hc1, hf1⟩ := bcell hb1; have hz1 := hb1.size; (try simp only [World.size_alloc] at hz1); (try simp only [World.size_setCell] at hz1)
  have hl1 : w.heap.size < w1.heap.size := by omega
  have hl2 : w.heap.size + 1 < w1.heap.size := by omega
  have hl3 : w.heap.size + 1 + 1 < w1.heap.size := by omega
  go_wp2_with fail
  refine (join_any k v s g t k' v' s' g' t' ht ht' _).mono ?_
  rw [Hab.out, errV_zero]
  unfold E.val
  rintro e w2 ⟨rfl, hb2⟩; obtain ⟨hc2, hf2⟩ := bcell hb2; have hz2 := hb2.size; (try simp only [World.size_alloc] at hz2); (try simp only [World.size_setCell] at hz2)
  have hm20 : w.heap.size < w2.heap.size := by omega
  have hm21 : w.heap.size + 1 < w2.heap.size := by omega
  have hm22 : w.heap.size + 1 + 1 < w2.heap.size := by omega
  go_wp2_with fail
  refine (join_any k' v' s' g' t' k v s g t ht' ht _).mono ?_
  rw [Hba.out, errV_zero]
  unfold E.val
  rintro e w3 ⟨rfl, hb3⟩; obtain ⟨hc3, hf3⟩ := bcell hb3; have hz3 := hb3.size; (try simp only [World.size_alloc] at hz3); (try simp only [World.size_setCell] at hz3)
  have hm30 : w.heap.size < w3.heap.size := by omega
  have hm31 : w.heap.size + 1 < w3.heap.size := by omega
  have hm32 : w.heap.size + 1 + 1 < w3.heap.size := by omega
  have hm3_2 : w2.heap.size < w3.heap.size := by omega
  go_wp2_with fail
  refine (join_any xk xv xs xg xt k v s g t hxt ht _).mono ?_
  rw [Hxa.out, errV_zero]
  unfold E.val
  rintro e w4 ⟨rfl, hb4⟩; obtain ⟨hc4, hf4⟩ := bcell hb4; have hz4 := hb4.size; (try simp only [World.size_alloc] at hz4); (try simp only [World.size_setCell] at hz4)
  have hm40 : w.heap.size < w4.heap.size := by omega
  have hm41 : w.heap.size + 1 < w4.heap.size := by omega
  have hm42 : w.heap.size + 1 + 1 < w4.heap.size := by omega
  have hm4_2 : w2.heap.size < w4.heap.size := by omega
  have hm4_3 : w3.heap.size < w4.heap.size := by omega
  go_wp2_with fail
  refine (join_any xk xv xs xg xt k' v' s' g' t' hxt ht' _).mono ?_
  rw [Hxb.out, errV_zero]
  unfold E.val
  rintro e w5 ⟨rfl, hb5⟩; obtain ⟨hc5, hf5⟩ := bcell hb5; have hz5 := hb5.size; (try simp only [World.size_alloc] at hz5); (try simp only [World.size_setCell] at hz5)
  have hm50 : w.heap.size < w5.heap.size := by omega
  have hm51 : w.heap.size + 1 < w5.heap.size := by omega
  have hm52 : w.heap.size + 1 + 1 < w5.heap.size := by omega
  have hm5_2 : w2.heap.size < w5.heap.size := by omega
  have hm5_3 : w3.heap.size < w5.heap.size := by omega
  have hm5_4 : w4.heap.size < w5.heap.size := by omega
  go_wp2_with fail
  refine (join_any xk xv xs xg xt k'' v'' s'' g'' t'' hxt ht'' _).mono ?_
  rw [Hxc.out, HE1.out]
  unfold E.val
  rintro e w6 ⟨rfl, hb6⟩; obtain ⟨hc6, hf6⟩ := bcell hb6; have hz6 := hb6.size; (try simp only [World.size_alloc] at hz6); (try simp only [World.size_setCell] at hz6)
  have hm60 : w.heap.size < w6.heap.size := by omega
  have hm61 : w.heap.size + 1 < w6.heap.size := by omega
  have hm62 : w.heap.size + 1 + 1 < w6.heap.size := by omega
  have hm6_2 : w2.heap.size < w6.heap.size := by omega
  have hm6_3 : w3.heap.size < w6.heap.size := by omega
  have hm6_4 : w4.heap.size < w6.heap.size := by omega
  have hm6_5 : w5.heap.size < w6.heap.size := by omega
  go_wp2_with fail
  refine (join_any k' v' s' g' t' k'' v'' s'' g'' t'' ht' ht'' _).mono ?_
  rw [Hbc.out, HE2.out]
  unfold E.val
  rintro e w7 ⟨rfl, hb7⟩; obtain ⟨hc7, hf7⟩ := bcell hb7; have hz7 := hb7.size; (try simp only [World.size_alloc] at hz7); (try simp only [World.size_setCell] at hz7)
  have hm70 : w.heap.size < w7.heap.size := by omega
  have hm71 : w.heap.size + 1 < w7.heap.size := by omega
  have hm72 : w.heap.size + 1 + 1 < w7.heap.size := by omega
  have hm7_2 : w2.heap.size < w7.heap.size := by omega
  have hm7_3 : w3.heap.size < w7.heap.size := by omega
  have hm7_4 : w4.heap.size < w7.heap.size := by omega
  have hm7_5 : w5.heap.size < w7.heap.size := by omega
  have hm7_6 : w6.heap.size < w7.heap.size := by omega
  go_wp2_with fail
  refine (join_any k v s g t k'' v'' s'' g'' t'' ht ht'' _).mono ?_
  rw [Hac.out, HE3.out]
  unfold E.val
  rintro e w8 ⟨rfl, hb8⟩; obtain ⟨hc8, hf8⟩ := bcell hb8; have hz8 := hb8.size; (try simp only [World.size_alloc] at hz8); (try simp only [World.size_setCell] at hz8)
  have hm80 : w.heap.size < w8.heap.size := by omega
  have hm81 : w.heap.size + 1 < w8.heap.size := by omega
  have hm82 : w.heap.size + 1 + 1 < w8.heap.size := by omega
  have hm8_2 : w2.heap.size < w8.heap.size := by omega
  have hm8_3 : w3.heap.size < w8.heap.size := by omega
  have hm8_4 : w4.heap.size < w8.heap.size := by omega
  have hm8_5 : w5.heap.size < w8.heap.size := by omega
  have hm8_6 : w6.heap.size < w8.heap.size := by omega
  have hm8_7 : w7.heap.size < w8.heap.size := by omega
  go_wp2_with fail
  refine (join_any k v s g t yk yv ys yg yt ht hyt _).mono ?_
  rw [Hay.out, errV_zero]
  unfold E.val
  rintro e w9 ⟨rfl, hb9⟩; obtain ⟨hc9, hf9⟩ := bcell hb9; have hz9 := hb9.size; (try simp only [World.size_alloc] at hz9); (try simp only [World.size_setCell] at hz9)
  have hm90 : w.heap.size < w9.heap.size := by omega
  have hm91 : w.heap.size + 1 < w9.heap.size := by omega
  have hm92 : w.heap.size + 1 + 1 < w9.heap.size := by omega
  have hm9_2 : w2.heap.size < w9.heap.size := by omega
  have hm9_3 : w3.heap.size < w9.heap.size := by omega
  have hm9_4 : w4.heap.size < w9.heap.size := by omega
  have hm9_5 : w5.heap.size < w9.heap.size := by omega
  have hm9_6 : w6.heap.size < w9.heap.size := by omega
  have hm9_7 : w7.heap.size < w9.heap.size := by omega
  go_wp2_with fail
  go_ret
  exact ⟨rfl, by (repeat (first | with_reducible exact Below.refl _ _ | with_reducible assumption | (with_reducible refine Below.drew ?_) | (with_reducible refine Below.manyDrew ?_ _) | ((with_reducible refine Below.alloc ?_ ?_ _); rotate_left; (focus (first | omega | (dsimp only; omega) | (simp; done) | (simp; omega)))) | ((with_reducible refine Below.setCell ?_ ?_ _); rotate_left; (focus (first | omega | (dsimp only; omega) | (simp; done) | (simp; omega)))) | ((with_reducible refine Below.step ?_ (by assumption) ?_); rotate_left; (focus (first | omega | (dsimp only; omega) | (simp; done) | (simp; omega))))))⟩
end Go.Proofs.Ytbaagbmnkcempaa
