/-
  CONTRACTS of package tomb: what Safe asks of a cache; slices.IndexFunc and ContainsFunc at one cache. CONDITIONS: none.
-/
import Derived.Test.YthjbebngedajiaaDoorSafe
namespace Go.Proofs.YthjbebngedajiaaDoor
open Go.RowKit
open Go.ChangeShapes Go.WideShapes Go.ChangeAt

set_option maxHeartbeats 400000 in
theorem safe1_any (c : SlV E) (ib b : Nat) (e : E) (w : World) (hs : EntriesAt w c) (hc : chkC c.xs = 0) (hk : 0 ≤ e.key ∧ e.key < 8) (he : EAt w b 0 e) (hb : b < w.heap.size) (hi : w.cell? ⟨ib, 0, none⟩ = some (.func (.func 77) #[] #[.pointer (some ⟨b, 0, none⟩)])) :
    Calls Tryd.prog 58 #[.slice c.A c.xs.length c.c, .pointer (some ⟨ib, 0, none⟩)] w fun r w' => r = .returned (.bool (!alikeB e c.xs)) ∧ Below w.heap.size w w' := by
  have hal := alike1_any c b e w hs hc hk he hb
  generalize alikeB e c.xs = r at *
  have Hal := hide hal
  clear hal he
  go_enter Tryd.func58, Tryd.ntmps58
  go_wp2_with fail
  refine Hal.out.mono ?_
  rintro e w1 ⟨rfl, hb1⟩; obtain ⟨hc1, hf1⟩ := bcell hb1; have hz1 := hb1.size; (try simp only [World.size_alloc] at hz1); (try simp only [World.size_setCell] at hz1)
  go_wp2_with fail
  go_ret
  exact ⟨rfl, by (repeat (first | with_reducible exact Below.refl _ _ | with_reducible assumption | (with_reducible refine Below.drew ?_) | (with_reducible refine Below.manyDrew ?_ _) | ((with_reducible refine Below.alloc ?_ ?_ _); rotate_left; (focus (first | omega | (dsimp only; omega) | (simp; done) | (simp; omega)))) | ((with_reducible refine Below.setCell ?_ ?_ _); rotate_left; (focus (first | omega | (dsimp only; omega) | (simp; done) | (simp; omega)))) | ((with_reducible refine Below.step ?_ (by assumption) ?_); rotate_left; (focus (first | omega | (dsimp only; omega) | (simp; done) | (simp; omega))))))⟩

set_option maxHeartbeats 400000 in
theorem sindex_one (A : Option Addr) (cp : Nat) (c : SlV E) (ib b : Nat) (e : E) (w : World) (hC : CachesAt w ⟨A, cp, [c]⟩) (hc : chkC c.xs = 0) (hk : 0 ≤ e.key ∧ e.key < 8) (he : EAt w b 0 e) (hb : b < w.heap.size) (hi : w.cell? ⟨ib, 0, none⟩ = some (.func (.func 77) #[] #[.pointer (some ⟨b, 0, none⟩)])) :
    Calls Tryd.prog 78 #[.slice A 1 cp, .func (.func 58) #[] #[.pointer (some ⟨ib, 0, none⟩)]] w fun r w' => r = .returned (.int .i64 (if alikeB e c.xs = true then -1 else 0)) ∧ Below w.heap.size w w' := by
  obtain ⟨b0, off, hA, hb0, hcells⟩ := hC.row (by simp)
  have hcell := hcells 0 (by simp)
  have hin := hC.each 0 (by simp)
  simp only [List.getElem_cons_zero, Nat.add_zero] at hcell hin
  simp only at hA
  subst hA
  have h1 := safe1_any c ib b e w hin hc hk he hb hi
  have H1 := hide h1
  clear h1 he hi hcells hin
  rcases hr : alikeB e c.xs with _ | _
  · rw [hr] at H1
    go_enter Tryd.func78, Tryd.ntmps78
    go_wp2_with fail
    go_loopw [8] (fun i wr => i = .int .i64 0 ∧ wr = w) (fun _ _ => 0)
    case atStart => exact ⟨rfl, rfl⟩
    case round =>
      obtain ⟨rfl, rfl⟩ := hrel
      go_wp2_with fail
      refine H1.out.mono ?_
      rintro e w1 ⟨rfl, hb1⟩; obtain ⟨hc1, hf1⟩ := bcell hb1; have hz1 := hb1.size; (try simp only [World.size_alloc] at hz1); (try simp only [World.size_setCell] at hz1)
      go_wp2_with fail
      go_ret
      exact ⟨rfl, hb1⟩
  · rw [hr] at H1
    go_enter Tryd.func78, Tryd.ntmps78
    go_wp2_with fail
    go_loopw [8] (fun i wr => (i = .int .i64 0 ∧ wr = w) ∨ (i = .int .i64 1 ∧ Below w.heap.size w wr)) (fun i _ => 1 - (intOf i).toNat)
    case atStart => exact .inl ⟨rfl, rfl⟩
    case round =>
      rcases hrel with ⟨rfl, rfl⟩ | ⟨rfl, hbr⟩
      · go_wp2_with fail
        refine H1.out.mono ?_
        rintro e w1 ⟨rfl, hb1⟩; obtain ⟨hc1, hf1⟩ := bcell hb1; have hz1 := hb1.size; (try simp only [World.size_alloc] at hz1); (try simp only [World.size_setCell] at hz1)
        go_wp2_with fail
        go_roundw
        case rel => exact .inr ⟨rfl, hb1⟩
        case measure => simp [intOf]
      · go_wp2_with fail
        go_ret
        exact ⟨rfl, hbr⟩

set_option maxHeartbeats 400000 in
theorem scontains_one (A : Option Addr) (cp : Nat) (c : SlV E) (ib b : Nat) (e : E) (w : World) (hC : CachesAt w ⟨A, cp, [c]⟩) (hc : chkC c.xs = 0) (hk : 0 ≤ e.key ∧ e.key < 8) (he : EAt w b 0 e) (hb : b < w.heap.size) (hi : w.cell? ⟨ib, 0, none⟩ = some (.func (.func 77) #[] #[.pointer (some ⟨b, 0, none⟩)])) :
    Calls Tryd.prog 57 #[.slice A 1 cp, .func (.func 58) #[] #[.pointer (some ⟨ib, 0, none⟩)]] w fun r w' => r = .returned (.bool (!alikeB e c.xs)) ∧ Below w.heap.size w w' := by
  have h1 := sindex_one A cp c ib b e w hC hc hk he hb hi
  have H1 := hide h1
  clear h1 hC hi he
  rcases hr : alikeB e c.xs with _ | _
  all_goals
    rw [hr] at H1
    go_enter Tryd.func57, Tryd.ntmps57
    go_wp2_with fail
    refine H1.out.mono ?_
    rintro e w1 ⟨rfl, hb1⟩; obtain ⟨hc1, hf1⟩ := bcell hb1; have hz1 := hb1.size; (try simp only [World.size_alloc] at hz1); (try simp only [World.size_setCell] at hz1)
    go_wp2_with fail
    go_ret
    exact ⟨rfl, hb1⟩
end Go.Proofs.YthjbebngedajiaaDoor
