/-
  CONTRACT of tomb.Safe at one cache. CONDITIONS: none.
-/
import Derived.Test.YthjbebngedajiaaDoorSafe2
import Derived.Laws.EntriesVeiled
import Derived.Test.YthjbebngedajiaaDoorIKit
namespace Go.Proofs.YthjbebngedajiaaDoor
open Go.RowKit
open Go.ChangeShapes Go.WideShapes Go.ChangeAt

theorem alike_any (k v a : Int) (g : Bool) (t : ByteArray) (w : World) :
    Calls Tryd.prog 56 #[.agg #[.int .i64 k, .int .i64 v, .int .i64 a, .bool g, .string t]] w fun r w' => r = .returned (.func (.func 77) #[] #[.pointer (some ⟨w.heap.size, 0, none⟩)]) ∧ w' = w.alloc (.cells #[.int .i64 k, .int .i64 v, .int .i64 a, .bool g, .string t] 26) := by
  go_enter Tryd.func56, Tryd.ntmps56
  go_wp2_with fail
  go_ret
  exact ⟨rfl, rfl⟩
theorem alikeB_self {l : List E} (h : chkC l = 0) {i : Nat} (hi : i < l.length) : alikeB (l.getD i E.zero) l = (l.getD i E.zero).gone := by
  obtain ⟨_, _, hS, _⟩ := chkC_ok h
  have hp : plc (l.getD i E.zero).key l = i := plc_eq l i (by omega) (fun t ht => hS t i ht hi) (fun _ => Int.le_refl _)
  have hh : hasK (l.getD i E.zero).key l = true := by rw [hasK, hp]; simp [hi]
  rw [alikeB, hh, hp]
  simp

def goneKeys (l : List E) : List Int := (l.filter fun e => e.gone).map (·.key)
theorem goneKeys_snoc (l : List E) (e : E) : goneKeys (l ++ [e]) = if e.gone = true then goneKeys l ++ [e.key] else goneKeys l := by
  unfold goneKeys
  rw [List.filter_append]
  by_cases h : e.gone = true <;> simp [h]

set_option maxHeartbeats 400000 in
theorem safe_one (A : Option Addr) (cp : Nat) (c : SlV E) (w : World) (hC : CachesAt w ⟨A, cp, [c]⟩) (hT : chkT [c] = 0) (hc : chkC c.xs = 0) :
    Calls Tryd.prog 23 #[.slice A 1 cp] w fun r w' => ∃ gv, r = .returned (.tuple #[gv, .nilIface]) ∧ Ow cellI 1 w.heap.size 3 w' gv (goneKeys c.xs) ∧ Below w.heap.size w w' := by
  obtain ⟨b0, off, hA, hb0, hcells⟩ := hC.row (by simp)
  have hcell := hcells 0 (by simp)
  have hin := hC.each 0 (by simp)
  simp only [List.getElem_cons_zero, Nat.add_zero] at hcell hin
  simp only at hA
  subst hA
  have Hc := hid hc
  have hct := caches_any _ w hC
  simp only [List.length_cons, List.length_nil, hT] at hct
  have Hct := hide hct
  clear hct hT hc hcells
  go_enter Tryd.func23, Tryd.ntmps23
  go_wp2_with fail
  refine Hct.out.mono ?_
  rintro e w1 ⟨rfl, hb1⟩; obtain ⟨hc1, hf1⟩ := bcell hb1; have hz1 := hb1.size; (try simp only [World.size_alloc] at hz1); (try simp only [World.size_setCell] at hz1)
  rw [show errV 0 = .nilIface from rfl]
  go_wp2_with fail
  go_loopw [5, 18] (fun vg i wr => ∃ j : Nat, j ≤ c.xs.length ∧ i = .int .i64 j ∧ Ow cellI 1 w.heap.size 3 wr vg (goneKeys (c.xs.take j)) ∧ Below w.heap.size w wr) (fun _ i _ => c.xs.length - (intOf i).toNat)
  case atStart => exact ⟨0, by omega, rfl, Ow.nil _ _ _ _ _, by (repeat (first | with_reducible exact Below.refl _ _ | with_reducible assumption | (with_reducible refine Below.drew ?_) | (with_reducible refine Below.manyDrew ?_ _) | ((with_reducible refine Below.alloc ?_ ?_ _); rotate_left; (focus (first | omega | (dsimp only; omega) | (simp; done) | (simp; omega)))) | ((with_reducible refine Below.setCell ?_ ?_ _); rotate_left; (focus (first | omega | (dsimp only; omega) | (simp; done) | (simp; omega)))) | ((with_reducible refine Below.step ?_ (by assumption) ?_); rotate_left; (focus (first | omega | (dsimp only; omega) | (simp; done) | (simp; omega))))))⟩
  case round =>
    obtain ⟨j, hj, rfl, hvg, hbr⟩ := hrel
    have hz0 := hbr.size
    by_cases hlt : j < c.xs.length
    · obtain ⟨g, off2, hA2, hg, hcells2⟩ := hin.get (by omega)
      obtain ⟨k0, k1, k2, k3, k4⟩ := (hcells2 j hlt).stays hbr hg
      have htk := take_snoc hlt
      have hcl := hin.len
      unfold maxLen at hcl
      have hal := alikeB_self Hc.out hlt
      have hkx := (chkC_ok Hc.out).2.2.2 j hlt
      generalize c.xs.getD j E.zero = x at *
      have hg2 := goneKeys_snoc (c.xs.take j) x
      rw [← htk] at hg2
      obtain ⟨xk, xv, xa, xg, xt⟩ := x
      simp only at k0 k1 k2 k3 k4
      have Hg2 := hid hg2
      have Hal := hid hal
      rw [hA2]
      clear hA2 hcells2 htk hg2 hal
      go_wp2_with fail
      refine (alike_any xk xv xa xg xt _).mono ?_
      rintro r w2 ⟨rfl, rfl⟩
      rcases xg with _ | _
      · go_wp2_with fail
        go_roundw
        case rel => exact ⟨j + 1, by omega, by go_num, by rw [Hg2.out]; exact (((hvg.alloc _).alloc _).alloc _), by (repeat (first | with_reducible exact Below.refl _ _ | with_reducible assumption | (with_reducible refine Below.drew ?_) | (with_reducible refine Below.manyDrew ?_ _) | ((with_reducible refine Below.alloc ?_ ?_ _); rotate_left; (focus (first | omega | (dsimp only; omega) | (simp; done) | (simp; omega)))) | ((with_reducible refine Below.setCell ?_ ?_ _); rotate_left; (focus (first | omega | (dsimp only; omega) | (simp; done) | (simp; omega)))) | ((with_reducible refine Below.step ?_ (by assumption) ?_); rotate_left; (focus (first | omega | (dsimp only; omega) | (simp; done) | (simp; omega))))))⟩
        case measure => simp [intOf]; omega
      · go_wp2_with fail
        have hbx : Below w.heap.size w (((wr.alloc (.cells #[.int .i64 xk, .int .i64 xv, .int .i64 xa, .bool true, .string xt] 26)).alloc (.cells #[.int .i64 xk, .int .i64 xv, .int .i64 xa, .bool true, .string xt] 26)).alloc (.cells #[.func (.func 77) #[] #[.pointer (some ⟨wr.heap.size + 1, 0, none⟩)]] 80)) := by (repeat (first | with_reducible exact Below.refl _ _ | with_reducible assumption | (with_reducible refine Below.drew ?_) | (with_reducible refine Below.manyDrew ?_ _) | ((with_reducible refine Below.alloc ?_ ?_ _); rotate_left; (focus (first | omega | (dsimp only; omega) | (simp; done) | (simp; omega)))) | ((with_reducible refine Below.setCell ?_ ?_ _); rotate_left; (focus (first | omega | (dsimp only; omega) | (simp; done) | (simp; omega)))) | ((with_reducible refine Below.step ?_ (by assumption) ?_); rotate_left; (focus (first | omega | (dsimp only; omega) | (simp; done) | (simp; omega))))))
        have hct2 := scontains_one _ cp c (wr.heap.size + 1 + 1) (wr.heap.size + 1) ⟨xk, xv, xa, true, xt⟩ _ (hC.stays hbx) Hc.out hkx (by constructor <;> simp [go_sem]) (by simp) (by simp [go_sem])
        rw [Hal.out] at hct2
        refine hct2.mono ?_
        clear hct2
        rintro e w3 ⟨rfl, hb3⟩; obtain ⟨hc3, hf3⟩ := bcell hb3; have hz3 := hb3.size; (try simp only [World.size_alloc] at hz3); (try simp only [World.size_setCell] at hz3)
        have hOw3 := ((((hvg.alloc (.cells #[.int .i64 xk, .int .i64 xv, .int .i64 xa, .bool true, .string xt] 26)).alloc (.cells #[.int .i64 xk, .int .i64 xv, .int .i64 xa, .bool true, .string xt] 26)).alloc (.cells #[.func (.func 77) #[] #[.pointer (some ⟨wr.heap.size + 1, 0, none⟩)]] 80))).belowS hb3
        have hbx3 := Below.step hbx hb3 hbx.size
        have hgl8 : (goneKeys (c.xs.take j)).length ≤ 8 := by
          have h1 : (goneKeys (c.xs.take j)).length ≤ (c.xs.take j).length := by unfold goneKeys; rw [List.length_map]; exact List.length_filter_le _ _
          have h2 := List.length_take_le j c.xs
          have h3 := (chkC_ok Hc.out).1
          omega
        have HOw3 := hid hOw3
        have Hbx3 := hid hbx3
        have hzb3 := hbx3.size
        clear hOw3 hbx3 hbx hvg
        go_wp2_with (at_builtin; refine appI _ w.heap.size _ (goneKeys (c.xs.take j)) xk HOw3.out rfl _ _ rfl rfl rfl ?_ ?_ ?_ ?_)
        all_goals try (first | omega | (simp; done) | (simp; omega))
        intro v8 w8 h8 f8 o8
        have hb8 : Below w.heap.size w w8 := Hbx3.out.trans (f8.below0 hzb3 (fun i hi => HOw3.out.ge i hi))
        have H8 := hid h8
        have Hb8 := hid hb8
        clear h8 f8 o8 hb8
        go_wp2_with fail
        go_roundw
        case rel => exact ⟨j + 1, by omega, by go_num, by rw [Hg2.out]; exact H8.out, Hb8.out⟩
        case measure => simp [intOf]; omega
    · obtain rfl : j = c.xs.length := by omega
      rw [List.take_length] at hvg
      go_wp2_with fail
      refine bodyPost_ret (v := .tuple #[_, .nilIface]) ?_ rfl ⟨_, rfl, hvg, hbr⟩
      simp [results, Tryd.results23, go_sem]
end Go.Proofs.YthjbebngedajiaaDoor
