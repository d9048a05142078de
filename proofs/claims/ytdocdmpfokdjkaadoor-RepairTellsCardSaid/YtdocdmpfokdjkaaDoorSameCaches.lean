/-
  CONTRACT of meresame.Caches at rows that are alike. CONDITIONS: none.
-/
import Derived.Test.YtdocdmpfokdjkaaDoorESame
import Derived.Test.YtdocdmpfokdjkaaDoorTomb
import Derived.Deep.CutBlock
import Derived.Deep.DeepCutAuto
import Derived.Deep.RegionLaw
namespace Go.Proofs.YtdocdmpfokdjkaaDoor
open Go.RowKit
open Go.ChangeShapes Go.WideShapes Go.ChangeAt

set_option maxHeartbeats 4000000 in
theorem caches_same (s r : SlV (SlV E)) (w : World) (hs : CachesAt w s) (hr : CachesAt w r) (he : s.xs.map SlV.xs = r.xs.map SlV.xs) :
    Calls Tryd.prog 25 #[.slice s.A s.xs.length s.c, .slice r.A r.xs.length r.c] w fun e w' => e = .returned (.bool true) ∧ Below w.heap.size w w' := by
  have hlen := hs.len
  have hlenr := hr.len
  unfold maxLen at hlen hlenr
  have hll : s.xs.length = r.xs.length := by
    have := congrArg List.length he
    rwa [List.length_map, List.length_map] at this
  have Hs := hid hs
  have Hr := hid hr
  have He := hid he
  have hl' : ((s.xs.length : Int) != (r.xs.length : Int)) = false := by rw [hll]; simp
  have Hll := hid hll
  clear hll hs hr he
  go_enter Tryd.func25, Tryd.ntmps25
  go_wp2_with fail
  go_loopw [5] (fun i wr => ∃ k : Nat, k ≤ s.xs.length ∧ i = .int .i64 k ∧ Below w.heap.size w wr) (fun i _ => s.xs.length - (intOf i).toNat)
  case atStart => exact ⟨0, Nat.zero_le _, rfl, Below.refl _ _⟩
  case round =>
    obtain ⟨k, hk, rfl, hbr⟩ := hrel
    have Hbr := hid hbr
    by_cases hlt : k < s.xs.length
    · have hltr : k < r.xs.length := by have := Hll.out; omega
      have hltr' : (k : Int) < (r.xs.length : Int) := by omega
      have hss := Hs.out.stays hbr
      have hrr := Hr.out.stays hbr
      obtain ⟨b, off, hA, hbl, hcells⟩ := hss.row (by omega)
      obtain ⟨b2, off2, hA2, hbl2, hcells2⟩ := hrr.row (by omega)
      have c0 := hcells k hlt
      have c1 := hcells2 k hltr
      have hI := hss.each k hlt
      have hJ := hrr.each k hltr
      have hxy : s.xs[k].xs = r.xs[k].xs := by
        have := congrArg (fun l => l[k]?) He.out
        simpa [hlt, hltr] using this
      generalize s.xs[k] = x at *
      generalize r.xs[k] = y at *
      have HI := hid (fun W (hW : Below wr.heap.size wr W) => show Calls Tryd.prog 45 #[.slice x.A x.xs.length x.c, .slice y.A y.xs.length y.c] W (fun e w' => e = .returned (.bool true) ∧ Below W.heap.size W w') from by
        have := ecache_any x y W (hI.es.stays hW) (hJ.es.stays hW)
        rw [show eqsE x.xs y.xs = true by rw [hxy, eqsE_refl]] at this
        exact this)
      have hz := hbr.size
      rw [hA, hA2]
      clear hA hA2 hcells hcells2 hss hrr hI hJ hbr hxy
      go_upto_region 6 with fail
      go_cut [6] (fun t wx => t = .bool true ∧ Below wr.heap.size wr wx)
      case first =>
        go_region_law (first | (go_simp; go_at_call 45; refine (HI.out _ (Below.manyDrew (Below.refl _ _) 1)).mono ?_; rintro e w8 ⟨rfl, h8⟩; have hw8 : Below wr.heap.size wr w8 := (Below.manyDrew (Below.refl _ _) 1).trans h8))
        all_goals
          go_simp
          go_wp2_with fail
          go_meet
          first | exact hw8 | exact ⟨rfl, hw8⟩
      case rest =>
      obtain ⟨rfl, hb8⟩ := hcut
      have hbf := Below.step Hbr.out hb8 hz
      go_wp2_with fail
      go_roundw
      case rel => exact ⟨k + 1, by omega, by go_num, hbf⟩
      case measure => simp [intOf]; omega
    · obtain rfl : k = s.xs.length := by omega
      go_wp2_with fail
      go_ret
      exact ⟨rfl, Hbr.out⟩
end Go.Proofs.YtdocdmpfokdjkaaDoor
