/-
  CONTRACT of repair.Read. CONDITIONS: none.
-/
import Derived.Test.YtdocdmpfokdjkaaTomb
namespace Go.Proofs.Ytdocdmpfokdjkaa
open Go.RowKit
open Go.ChangeShapes Go.WideShapes Go.ChangeAt

/-- what is read: what was found so far, and the caches left -/
def readG (k : Int) : Bool → E → List (SlV E) → E × Int
  | f, o, [] => if f = true then (o, 0) else (E.zero, 5)
  | f, o, c :: r =>
    if hasK k c.xs = true then
      (if f = true then (if (joined o (c.xs.getD (plc k c.xs) E.zero)).2 = 0 then readG k true (joined o (c.xs.getD (plc k c.xs) E.zero)).1 r else (E.zero, (joined o (c.xs.getD (plc k c.xs) E.zero)).2))
       else readG k true (c.xs.getD (plc k c.xs) E.zero) r)
    else readG k f o r
def readR (l : List (SlV E)) (k : Int) : E × Int := if chkTK l k = 0 then readG k false E.zero l else (E.zero, chkTK l k)
theorem chkTs_ok : ∀ {l : List (SlV E)}, chkTs l = 0 → ∀ c ∈ l, chkC c.xs = 0
  | [], _ => by simp
  | c :: r, h => by
    rw [chkTs] at h
    split at h
    · rename_i h1
      intro x hx
      rcases List.mem_cons.1 hx with rfl | hx
      · exact h1
      · exact chkTs_ok h x hx
    · rename_i h1
      exact absurd h h1
theorem chkTK_ok {l : List (SlV E)} {k : Int} (h : chkTK l k = 0) : (1 ≤ l.length ∧ l.length ≤ 6) ∧ (∀ c ∈ l, chkC c.xs = 0) ∧ keyB k = true := by
  unfold chkTK at h
  split at h
  · rename_i h1
    split at h
    · rename_i h2
      unfold chkT at h1
      split at h1
      · cases h1
      · split at h1
        · cases h1
        · exact ⟨by omega, chkTs_ok h1, h2⟩
    · cases h
  · rename_i h1
    exact absurd h h1

set_option maxHeartbeats 400000 in
theorem read_one (s : SlV (SlV E)) (k : Int) (w : World) (hs : CachesAt w s) (hL : s.xs.length = 1) :
    Calls Try.prog 22 #[.slice s.A s.xs.length s.c, .int .i64 k] w fun e w' => e = .returned (.tuple #[(readR s.xs k).1.val, errV (readR s.xs k).2]) ∧ Below w.heap.size w w' := by
  obtain ⟨r, hr⟩ : ∃ r, readR s.xs k = r := ⟨_, rfl⟩
  rw [hr]
  unfold readR at hr
  have HL := hid hL
  clear hL
  by_cases hc : chkTK s.xs k = 0
  · rw [if_pos hc] at hr
    obtain ⟨⟨h1, h6⟩, hch, hk⟩ := chkTK_ok hc
    have Hc := hid hc
    have Hk := hid hk
    have Hch := hid hch
    have Hr := hid hr
    clear hc hk hch hr
    go_enter Try.func22, Try.ntmps22
    go_wp2_with fail
    refine (tkey_any s k _ (hs.stays (by (repeat (first | with_reducible exact Below.refl _ _ | with_reducible assumption | (with_reducible refine Below.drew ?_) | (with_reducible refine Below.manyDrew ?_ _) | ((with_reducible refine Below.alloc ?_ ?_ _); rotate_left; (focus (first | omega | (dsimp only; omega) | (simp; done) | (simp; omega)))) | ((with_reducible refine Below.setCell ?_ ?_ _); rotate_left; (focus (first | omega | (dsimp only; omega) | (simp; done) | (simp; omega)))) | ((with_reducible refine Below.step ?_ (by assumption) ?_); rotate_left; (focus (first | omega | (dsimp only; omega) | (simp; done) | (simp; omega))))))))).mono ?_; rintro e w1 ⟨rfl, hb1⟩; obtain ⟨hc1, hf1⟩ := bcell hb1; have hz1 := hb1.size; (try simp only [World.size_alloc] at hz1); (try simp only [World.size_setCell] at hz1)
    rw [Hc.out, show errV 0 = .nilIface from rfl]
    have hl1 : w.heap.size < w1.heap.size := by omega
    go_wp2_with fail
    have hb1x : Below w.heap.size w w1 := by (repeat (first | with_reducible exact Below.refl _ _ | with_reducible assumption | (with_reducible refine Below.drew ?_) | (with_reducible refine Below.manyDrew ?_ _) | ((with_reducible refine Below.alloc ?_ ?_ _); rotate_left; (focus (first | omega | (dsimp only; omega) | (simp; done) | (simp; omega)))) | ((with_reducible refine Below.setCell ?_ ?_ _); rotate_left; (focus (first | omega | (dsimp only; omega) | (simp; done) | (simp; omega)))) | ((with_reducible refine Below.step ?_ (by assumption) ?_); rotate_left; (focus (first | omega | (dsimp only; omega) | (simp; done) | (simp; omega))))))
    go_loopw [8, 24] (fun f i wr => ∃ (j : Nat) (fb : Bool) (o : E), j ≤ s.xs.length ∧ f = .bool fb ∧ i = .int .i64 j ∧ (fb = true → 1 ≤ j) ∧ readG k fb o (s.xs.drop j) = r ∧ Blk wr w1.heap.size 47 #[.int .i64 o.key, .int .i64 o.ver, .int .i64 o.asof, .bool o.gone, .string o.text] ∧ Below w1.heap.size w1 wr) (fun _ i _ => s.xs.length - (intOf i).toNat)
    case atStart => exact ⟨0, false, E.zero, Nat.zero_le _, rfl, rfl, by decide, Hr.out, Blk.new_at (by simp), by (repeat (first | with_reducible exact Below.refl _ _ | with_reducible assumption | (with_reducible refine Below.drew ?_) | (with_reducible refine Below.manyDrew ?_ _) | ((with_reducible refine Below.alloc ?_ ?_ _); rotate_left; (focus (first | omega | (dsimp only; omega) | (simp; done) | (simp; omega)))) | ((with_reducible refine Below.setCell ?_ ?_ _); rotate_left; (focus (first | omega | (dsimp only; omega) | (simp; done) | (simp; omega)))) | ((with_reducible refine Below.step ?_ (by assumption) ?_); rotate_left; (focus (first | omega | (dsimp only; omega) | (simp; done) | (simp; omega))))))⟩
    case round =>
      obtain ⟨j, fb, o, hj, rfl, rfl, hf1, hkr, hB, hbr⟩ := hrel
      have hz0 := hbr.size
      have hlo := hB.lt
      have hbw : Below w.heap.size w wr := Below.step hb1x hbr (by omega)
      by_cases hlt : j < s.xs.length
      · obtain rfl : fb = false := by
          rcases fb with _ | _
          · rfl
          · have := hf1 rfl
            have := HL.out
            omega
        obtain ⟨b, off, hA, hb, hcells⟩ := hs.row (by omega)
        have hcell := hcells j hlt
        have hin := (hs.each j hlt).stays hbw
        rw [← hbw.cell (p := ⟨b, off + j, none⟩) hb] at hcell
        have hd : s.xs.drop j = s.xs[j] :: s.xs.drop (j + 1) := List.drop_eq_getElem_cons hlt
        rw [hd, readG] at hkr
        obtain ⟨hn, _, hS, hK⟩ := chkC_ok (Hch.out _ (List.getElem_mem hlt))
        generalize s.xs[j] = c at *
        have HS := hid hS
        have HK := hid hK
        rcases hh : hasK k c.xs with _ | _
        · rw [if_neg (by simp [hh])] at hkr
          have Hkr := hid hkr
          have Hh := hid hh
          rw [hA]
          clear hA hcells hd hkr hS hK hh
          go_wp2_with fail
          refine (place_any k c _ hin HS.out HK.out (keyB_true.1 Hk.out) hn).mono ?_; rintro e w2 ⟨rfl, hb2⟩; obtain ⟨hc2, hf2⟩ := bcell hb2; have hz2 := hb2.size; (try simp only [World.size_alloc] at hz2); (try simp only [World.size_setCell] at hz2)
          rw [Hh.out]
          go_wp2_with fail
          go_roundw
          case rel => exact ⟨j + 1, false, o, by omega, rfl, by go_num, (fun h => by cases h), Hkr.out, hB.belowS hb2, by (repeat (first | with_reducible exact Below.refl _ _ | with_reducible assumption | (with_reducible refine Below.drew ?_) | (with_reducible refine Below.manyDrew ?_ _) | ((with_reducible refine Below.alloc ?_ ?_ _); rotate_left; (focus (first | omega | (dsimp only; omega) | (simp; done) | (simp; omega)))) | ((with_reducible refine Below.setCell ?_ ?_ _); rotate_left; (focus (first | omega | (dsimp only; omega) | (simp; done) | (simp; omega)))) | ((with_reducible refine Below.step ?_ (by assumption) ?_); rotate_left; (focus (first | omega | (dsimp only; omega) | (simp; done) | (simp; omega))))))⟩
          case measure => simp [intOf]; omega
        · rw [if_pos hh, if_neg (by decide)] at hkr
          have hp : plc k c.xs < c.xs.length := by
            unfold hasK at hh
            simp at hh
            exact hh.1
          obtain ⟨g, off2, hA2, hg, hcells2⟩ := hin.get (by omega)
          have hE := hcells2 _ hp
          have hcl := hin.len
          unfold maxLen at hcl
          generalize c.xs.getD (plc k c.xs) E.zero = x at *
          have Hkr := hid hkr
          have Hh := hid hh
          have HA2 := hid hA2
          rw [hA]
          clear hA hcells hd hkr hS hK hh hcells2 hA2
          go_wp2_with fail
          refine (place_any k c _ hin HS.out HK.out (keyB_true.1 Hk.out) hn).mono ?_; rintro e w2 ⟨rfl, hb2⟩; obtain ⟨hc2, hf2⟩ := bcell hb2; have hz2 := hb2.size; (try simp only [World.size_alloc] at hz2); (try simp only [World.size_setCell] at hz2)
          obtain ⟨k0, k1, k2, k3, k4⟩ := hE
          have hx0 : wr.cell? ⟨w1.heap.size, 0, none⟩ = some (.int .i64 o.key) := hB.cell 0
          have hx1 : wr.cell? ⟨w1.heap.size, 1, none⟩ = some (.int .i64 o.ver) := hB.cell 1
          have hx2 : wr.cell? ⟨w1.heap.size, 2, none⟩ = some (.int .i64 o.asof) := hB.cell 2
          have hx3 : wr.cell? ⟨w1.heap.size, 3, none⟩ = some (.bool o.gone) := hB.cell 3
          have hx4 : wr.cell? ⟨w1.heap.size, 4, none⟩ = some (.string o.text) := hB.cell 4
          have f0 := hB.frozen 0
          have f1 := hB.frozen 1
          have f2 := hB.frozen 2
          have f3 := hB.frozen 3
          have f4 := hB.frozen 4
          rw [Hh.out, HA2.out]
          rw [HA2.out] at hcell
          obtain ⟨xk, xv, xa, xg, xt⟩ := x
          simp only at k0 k1 k2 k3 k4
          generalize plc k c.xs = q at *
          have hB2 := hB.belowS hb2
          go_wp2_with fail
          go_roundw
          case rel => exact ⟨j + 1, true, ⟨xk, xv, xa, xg, xt⟩, by omega, rfl, by go_num, (fun _ => by omega), Hkr.out, Blk.put5 hB2 _ _ _ _ _, by (repeat (first | with_reducible exact Below.refl _ _ | with_reducible assumption | (with_reducible refine Below.drew ?_) | (with_reducible refine Below.manyDrew ?_ _) | ((with_reducible refine Below.alloc ?_ ?_ _); rotate_left; (focus (first | omega | (dsimp only; omega) | (simp; done) | (simp; omega)))) | ((with_reducible refine Below.setCell ?_ ?_ _); rotate_left; (focus (first | omega | (dsimp only; omega) | (simp; done) | (simp; omega)))) | ((with_reducible refine Below.step ?_ (by assumption) ?_); rotate_left; (focus (first | omega | (dsimp only; omega) | (simp; done) | (simp; omega))))))⟩
          case measure => simp [intOf]; omega
      · obtain rfl : j = s.xs.length := by omega
        rw [List.drop_length, readG] at hkr
        obtain ⟨hcr, hfr⟩ := bcell hbr
        have hBx := (Blk.new w 47 #[.int .i64 0, .int .i64 0, .int .i64 0, .bool false, .string ⟨#[]⟩]).belowS hb1
        have hBy := hBx.below hbr (by omega)
        rcases fb with _ | _
        · rw [if_neg (by decide)] at hkr
          subst hkr
          go_wp2_with fail
          refine bodyPost_ret (v := .tuple #[E.zero.val, errV 5]) ?_ rfl ⟨rfl, ?_⟩
          · exact results_box Try.results22 rfl (Blk.put5 hBy _ _ _ _ _) Try.underlying47 rfl (by kernel_rfl)
          · (repeat (first | with_reducible exact Below.refl _ _ | with_reducible assumption | (with_reducible refine Below.drew ?_) | (with_reducible refine Below.manyDrew ?_ _) | ((with_reducible refine Below.alloc ?_ ?_ _); rotate_left; (focus (first | omega | (dsimp only; omega) | (simp; done) | (simp; omega)))) | ((with_reducible refine Below.setCell ?_ ?_ _); rotate_left; (focus (first | omega | (dsimp only; omega) | (simp; done) | (simp; omega)))) | ((with_reducible refine Below.step ?_ (by assumption) ?_); rotate_left; (focus (first | omega | (dsimp only; omega) | (simp; done) | (simp; omega))))))
        · rw [if_pos rfl] at hkr
          subst hkr
          have hx0 : wr.cell? ⟨w1.heap.size, 0, none⟩ = some (.int .i64 o.key) := hB.cell 0
          have hx1 : wr.cell? ⟨w1.heap.size, 1, none⟩ = some (.int .i64 o.ver) := hB.cell 1
          have hx2 : wr.cell? ⟨w1.heap.size, 2, none⟩ = some (.int .i64 o.asof) := hB.cell 2
          have hx3 : wr.cell? ⟨w1.heap.size, 3, none⟩ = some (.bool o.gone) := hB.cell 3
          have hx4 : wr.cell? ⟨w1.heap.size, 4, none⟩ = some (.string o.text) := hB.cell 4
          obtain ⟨ok, ov, oa, og, ot⟩ := o
          simp only at hx0 hx1 hx2 hx3 hx4
          go_wp2_with fail
          refine bodyPost_ret (v := .tuple #[E.val ⟨ok, ov, oa, og, ot⟩, errV 0]) ?_ rfl ⟨rfl, ?_⟩
          · exact results_box Try.results22 rfl (Blk.put5 hBy _ _ _ _ _) Try.underlying47 rfl (by kernel_rfl)
          · (repeat (first | with_reducible exact Below.refl _ _ | with_reducible assumption | (with_reducible refine Below.drew ?_) | (with_reducible refine Below.manyDrew ?_ _) | ((with_reducible refine Below.alloc ?_ ?_ _); rotate_left; (focus (first | omega | (dsimp only; omega) | (simp; done) | (simp; omega)))) | ((with_reducible refine Below.setCell ?_ ?_ _); rotate_left; (focus (first | omega | (dsimp only; omega) | (simp; done) | (simp; omega)))) | ((with_reducible refine Below.step ?_ (by assumption) ?_); rotate_left; (focus (first | omega | (dsimp only; omega) | (simp; done) | (simp; omega))))))
  · rw [if_neg hc] at hr
    subst hr
    have He := hid (errV_ne hc)
    clear hc
    go_enter Try.func22, Try.ntmps22
    go_wp2_with fail
    refine (tkey_any s k _ (hs.stays (by (repeat (first | with_reducible exact Below.refl _ _ | with_reducible assumption | (with_reducible refine Below.drew ?_) | (with_reducible refine Below.manyDrew ?_ _) | ((with_reducible refine Below.alloc ?_ ?_ _); rotate_left; (focus (first | omega | (dsimp only; omega) | (simp; done) | (simp; omega)))) | ((with_reducible refine Below.setCell ?_ ?_ _); rotate_left; (focus (first | omega | (dsimp only; omega) | (simp; done) | (simp; omega)))) | ((with_reducible refine Below.step ?_ (by assumption) ?_); rotate_left; (focus (first | omega | (dsimp only; omega) | (simp; done) | (simp; omega))))))))).mono ?_; rintro e w1 ⟨rfl, hb1⟩; obtain ⟨hc1, hf1⟩ := bcell hb1; have hz1 := hb1.size; (try simp only [World.size_alloc] at hz1); (try simp only [World.size_setCell] at hz1)
    rw [He.out]
    have hl1 : w.heap.size < w1.heap.size := by omega
    go_wp2_with fail
    refine bodyPost_ret (v := .tuple #[E.zero.val, errV (chkTK s.xs k)]) ?_ rfl ⟨rfl, ?_⟩
    · rw [He.out]
      exact results_box Try.results22 rfl (Blk.put5 ((Blk.new_at (by simp)).belowS hb1) _ _ _ _ _) Try.underlying47 rfl (by kernel_rfl)
    · (repeat (first | with_reducible exact Below.refl _ _ | with_reducible assumption | (with_reducible refine Below.drew ?_) | (with_reducible refine Below.manyDrew ?_ _) | ((with_reducible refine Below.alloc ?_ ?_ _); rotate_left; (focus (first | omega | (dsimp only; omega) | (simp; done) | (simp; omega)))) | ((with_reducible refine Below.setCell ?_ ?_ _); rotate_left; (focus (first | omega | (dsimp only; omega) | (simp; done) | (simp; omega)))) | ((with_reducible refine Below.step ?_ (by assumption) ?_); rotate_left; (focus (first | omega | (dsimp only; omega) | (simp; done) | (simp; omega))))))
end Go.Proofs.Ytdocdmpfokdjkaa
