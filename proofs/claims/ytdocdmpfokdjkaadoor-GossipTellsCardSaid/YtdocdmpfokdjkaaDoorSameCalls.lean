/-
  CONTRACT of meresame.Calls: two rows of rows of ints alike. CONDITIONS: none.
-/
import Derived.Test.YtdocdmpfokdjkaaDoorInts
import Derived.Test.YtdocdmpfokdjkaaDoorGDone
import Derived.Deep.CutBlock
import Derived.Deep.DeepCutAuto
import Derived.Deep.RegionLaw
namespace Go.Proofs.YtdocdmpfokdjkaaDoor
open Go.RowKit
open Go.ChangeShapes Go.WideShapes Go.ChangeAt

def sameCs (a b : List (SlV Int)) : Bool := decide (a.map SlV.xs = b.map SlV.xs)
theorem map_take_snoc {l : List (SlV Int)} {k : Nat} (h : k < l.length) : (l.take (k + 1)).map SlV.xs = (l.take k).map SlV.xs ++ [l[k].xs] := by
  rw [List.take_succ_eq_append_getElem h, List.map_append]; rfl

set_option maxHeartbeats 4000000 in
theorem calls_any (s r : SlV (SlV Int)) (w : World) (hs : IntssAt w s) (hr : IntssAt w r) :
    Calls Tryd.prog 13 #[.slice s.A s.xs.length s.c, .slice r.A r.xs.length r.c] w fun e w' => e = .returned (.bool (sameCs s.xs r.xs)) ∧ Below w.heap.size w w' := by
  have hlen := hs.len
  have hlenr := hr.len
  unfold maxLen at hlen hlenr
  obtain ⟨q, hq⟩ : ∃ q, sameCs s.xs r.xs = q := ⟨_, rfl⟩
  rw [hq]
  have Hq := hid hq
  have Hs := hid hs
  have Hr := hid hr
  clear hq hs hr
  by_cases hll : s.xs.length = r.xs.length
  · have hl' : ((s.xs.length : Int) != (r.xs.length : Int)) = false := by rw [hll]; simp
    have Hll := hid hll
    clear hll
    go_enter Tryd.func13, Tryd.ntmps13
    go_wp2_with fail
    go_loopw [5] (fun i wr => ∃ k : Nat, k ≤ s.xs.length ∧ i = .int .i64 k ∧ (s.xs.take k).map SlV.xs = (r.xs.take k).map SlV.xs ∧ Below w.heap.size w wr) (fun i _ => s.xs.length - (intOf i).toNat)
    case atStart => exact ⟨0, Nat.zero_le _, rfl, by simp, Below.refl _ _⟩
    case round =>
      obtain ⟨k, hk, rfl, hkt, hbr⟩ := hrel
      have Hkt := hid hkt
      have Hbr := hid hbr
      by_cases hlt : k < s.xs.length
      · have hltr : k < r.xs.length := by have := Hll.out; omega
        have hltr' : (k : Int) < (r.xs.length : Int) := by omega
        have hss := Hs.out.stays hbr
        have hrr := Hr.out.stays hbr
        obtain ⟨b, off, hA, hbl, hcells⟩ := hss.row (by omega)
        obtain ⟨b2, off2, hA2, hbl2, hcells2⟩ := hrr.row (by omega)
        have c0 := hcells k hlt
        have c1 := hcells2 k hltr
        have hI := hss.each k hlt
        have hJ := hrr.each k hltr
        have hm1 := map_take_snoc hlt
        have hm2 := map_take_snoc hltr
        have hqf : s.xs[k].xs ≠ r.xs[k].xs → q = false := fun hne => by
          rw [← Hq.out, sameCs]
          refine decide_eq_false (fun e => hne ?_)
          have := congrArg (fun l => l[k]?) e
          simpa [hlt, hltr] using this
        generalize s.xs[k] = x at *
        generalize r.xs[k] = y at *
        have HI := hid (fun W (hW : Below wr.heap.size wr W) => ints_any x y W (hI.stays0 hW) (hJ.stays0 hW))
        have Hqf := hid hqf
        have Hm1 := hid hm1
        have Hm2 := hid hm2
        have hz := hbr.size
        rw [hA, hA2]
        clear hA hA2 hcells hcells2 hss hrr hI hJ hm1 hm2 hqf hkt hbr
        go_upto_region 6 with fail
        go_cut [6] (fun t wx => t = .bool (sameI x.xs y.xs) ∧ Below wr.heap.size wr wx)
        case first =>
          go_region_law (first | (go_simp; go_at_call 10; refine (HI.out _ (Below.manyDrew (Below.refl _ _) 1)).mono ?_; rintro e w8 ⟨rfl, h8⟩; have hw8 : Below wr.heap.size wr w8 := (Below.manyDrew (Below.refl _ _) 1).trans h8))
          all_goals
            go_simp
            go_wp2_with fail
            go_meet
            first | exact hw8 | exact ⟨rfl, hw8⟩
        case rest =>
        obtain ⟨rfl, hb8⟩ := hcut
        rcases hsm : sameI x.xs y.xs with _ | _
        · have hq0 := Hqf.out (fun e => by rw [sameI_true.2 e] at hsm; cases hsm)
          have Hq0 := hid hq0
          clear hq0
          have hbf := Below.step Hbr.out hb8 hz
          go_wp2_with fail
          go_ret
          exact ⟨ret_b (by rw [Hq0.out]), hbf⟩
        · have he := sameI_true.1 hsm
          have He := hid he
          clear he
          have hbf := Below.step Hbr.out hb8 hz
          go_wp2_with fail
          go_roundw
          case rel => exact ⟨k + 1, by omega, by go_num, by rw [Hm1.out, Hm2.out, Hkt.out, He.out], hbf⟩
          case measure => simp [intOf]; omega
      · obtain rfl : k = s.xs.length := by omega
        have hq1 : q = true := by
          rw [← Hq.out, sameCs]
          refine decide_eq_true ?_
          have := Hkt.out
          rw [List.take_length, Hll.out, List.take_length] at this
          exact this
        have Hq1 := hid hq1
        clear hq1
        go_wp2_with fail
        go_ret
        exact ⟨ret_b (by rw [Hq1.out]), Hbr.out⟩
  · have hq0 : q = false := by
      rw [← Hq.out, sameCs]
      refine decide_eq_false (fun e => hll ?_)
      have := congrArg List.length e
      rwa [List.length_map, List.length_map] at this
    subst hq0
    have hl' : ((s.xs.length : Int) == (r.xs.length : Int)) = false := by rw [beq_eq_false_iff_ne]; omega
    go_enter Tryd.func13, Tryd.ntmps13
    go_wp2_with fail
    go_ret
    exact ⟨rfl, Below.refl _ _⟩
end Go.Proofs.YtdocdmpfokdjkaaDoor
