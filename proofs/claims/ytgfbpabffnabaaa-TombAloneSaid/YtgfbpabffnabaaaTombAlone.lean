/-
  PROVED HERE: merelaw4.TombAlone returns true: of one cache all that is gone is safe, and up to its time it is swept. CONDITIONS: none.
-/
import Derived.Test.YtgfbpabffnabaaaSafe3
import Derived.Test.YtgfbpabffnabaaaInts
import Derived.Test.YtgfbpabffnabaaaEKit
import Derived.Test.YtgfbpabffnabaaaEntryLaw
namespace Go.Proofs.Ytgfbpabffnabaaa
open Go.RowKit
open Go.ChangeShapes Go.WideShapes Go.ChangeAt

theorem swept_all {e : E} (h : chk e = 0) : sweptB 1000 e = e.gone := by
  obtain ⟨_, h2, _⟩ := chk_zero.1 h
  have := seqB_true.1 h2
  unfold sweptB
  rw [decide_eq_true (by omega), Bool.and_true]
theorem gone_all {l : List E} (h : ∀ e ∈ l, chk e = 0) : goneL 1000 l = goneKeys l := by
  unfold goneL goneKeys
  rw [List.filter_congr (fun e he => swept_all (h e he))]
theorem left_gone {l : List E} (h : ∀ e ∈ l, chk e = 0) : ∀ e ∈ leftL 1000 l, e.gone = false := by
  intro e he
  obtain ⟨h1, h2⟩ := List.mem_filter.1 he
  rw [swept_all (h e h1)] at h2
  simpa using h2
theorem left_len (m : Int) : ∀ l : List E, (leftL m l).length + (goneL m l).length = l.length
  | [] => rfl
  | e :: r => by
    have := left_len m r
    have h1 : leftL m (e :: r) = if sweptB m e = true then leftL m r else e :: leftL m r := by
      unfold leftL
      by_cases h : sweptB m e = true <;> simp [h]
    have h2 : goneL m (e :: r) = if sweptB m e = true then e.key :: goneL m r else goneL m r := by
      unfold goneL
      by_cases h : sweptB m e = true <;> simp [h]
    rw [h1, h2]
    by_cases h : sweptB m e = true
    · rw [if_pos h, if_pos h, List.length_cons, List.length_cons]; omega
    · rw [if_neg h, if_neg h, List.length_cons, List.length_cons]; omega
theorem cellI_map (l : List Int) : l.flatMap cellI = l.map (Value.int .i64) := by
  induction l with
  | nil => rfl
  | cons a r ih => rw [List.flatMap_cons, ih]; rfl
theorem chkT_one (c : SlV E) : chkT [c] = chkC c.xs := by
  unfold chkT
  rw [if_neg (by simp), if_neg (by simp), chkTs, chkTs]
  split
  · rename_i h; exact h.symm
  · rfl

set_option maxHeartbeats 400000 in
theorem safe_bad (A : Option Addr) (cp : Nat) (c : SlV E) (w : World) (hC : CachesAt w ⟨A, cp, [c]⟩) (hc : chkC c.xs ≠ 0) :
    Calls Try.prog 7 #[.slice A 1 cp] w fun r w' => r = .returned (.tuple #[.slice none 0 0, .iface 56 (.int .i64 (chkC c.xs))]) ∧ Below w.heap.size w w' := by
  have hct := caches_any _ w hC
  simp only [List.length_cons, List.length_nil, chkT_one, errV_ne hc] at hct
  have Hct := hide hct
  generalize chkC c.xs = en at *
  clear hct hc
  go_enter Try.func7, Try.ntmps7
  go_wp2_with fail
  refine Hct.out.mono ?_
  rintro e w1 ⟨rfl, hb1⟩; obtain ⟨hc1, hf1⟩ := bcell hb1; have hz1 := hb1.size; (try simp only [World.size_alloc] at hz1); (try simp only [World.size_setCell] at hz1)
  go_wp2_with fail
  refine bodyPost_ret (v := .tuple #[.slice none 0 0, .iface 56 (.int .i64 en)]) ?_ rfl ⟨rfl, hb1⟩
  simp [results, Try.results7, go_sem]

set_option maxHeartbeats 2000000 in
set_option maxRecDepth 100000 in
theorem tombAlone_any (s : SlV E) (w : World) (hs : EsAt w s) :
    Calls Try.prog 3 #[.slice s.A s.xs.length s.c] w fun e w' => e = .returned (.bool true) ∧ Below w.heap.size w w' := by
  obtain ⟨w1, hw1⟩ : ∃ w1 : World, w1 = w.alloc (.cells #[.slice s.A s.xs.length s.c] 22) := ⟨_, rfl⟩
  have hb1 : Below w.heap.size w w1 := by rw [hw1]; (repeat (first | with_reducible exact Below.refl _ _ | with_reducible assumption | (with_reducible refine Below.drew ?_) | (with_reducible refine Below.manyDrew ?_ _) | ((with_reducible refine Below.alloc ?_ ?_ _); rotate_left; (focus (first | omega | (dsimp only; omega) | (simp; done) | (simp; omega)))) | ((with_reducible refine Below.setCell ?_ ?_ _); rotate_left; (focus (first | omega | (dsimp only; omega) | (simp; done) | (simp; omega)))) | ((with_reducible refine Below.step ?_ (by assumption) ?_); rotate_left; (focus (first | omega | (dsimp only; omega) | (simp; done) | (simp; omega))))))
  have hB1 : Blk w1 w.heap.size 22 #[.slice s.A s.xs.length s.c] := by rw [hw1]; exact Blk.new _ _ _
  have hs1 := hs.stays hb1
  have hC : CachesAt w1 ⟨some ⟨w.heap.size, 0, none⟩, 1, [s]⟩ := ⟨fun _ => ⟨w.heap.size, 0, rfl, hB1.lt, fun i hi => by
    obtain rfl : i = 0 := by simpa using hi
    exact hB1.cell 0⟩, fun i hi => by
    obtain rfl : i = 0 := by simpa using hi
    exact hs1.entries, by unfold maxLen; simp⟩
  have Hb1 := hid hb1
  have hz1 := hb1.size
  have Hw1 := hid hw1
  by_cases hc : chkC s.xs = 0
  · obtain ⟨hl8, hch, _, _⟩ := chkC_ok hc
    have HSafe := hid (safe_one (some ⟨w.heap.size, 0, none⟩) 1 s w1 hC (by rw [chkT_one, hc]) hc)
    have HSw := hid (fun W (hW : Below w.heap.size w W) => sweep_walk s 1000 W (hs.stays hW).entries hc rfl)
    have Hgone := hid (gone_all hch)
    have Hleft := hid (left_gone hch)
    have Hlen := hid (left_len 1000 s.xs)
    have Hgl := hid (show ∀ e ∈ leftL 1000 s.xs, e.good from fun e he => hs.each e (List.mem_filter.1 he).1)
    have hl1 : (leftL 1000 s.xs).length ≤ 8 := by have := Hlen.out; omega
    have hl2 : (goneL 1000 s.xs).length ≤ 8 := by have := Hlen.out; omega
    clear hs hb1 hB1 hs1 hC hw1 hc hch
    go_enter Try.func3, Try.ntmps3
    go_wp2_with fail
    rw [← Hw1.out]
    refine HSafe.out.mono ?_
    rintro e w2 ⟨gv, rfl, hOg, hb2⟩
    obtain ⟨r, rfl, hrx, hrA, -, -⟩ := IntsAt.of_ow hOg
    have Hb2 := hid (Below.step Hb1.out hb2 hz1)
    have hz2 := Hb2.out.size
    have HrA := hid hrA
    have Hrx := hid hrx
    clear hOg hb2 hrA hrx
    go_wp2_with fail
    refine (HSw.out w2 Hb2.out).mono ?_
    rintro e w3 ⟨lv, gv, rfl, hol, hog, hb3⟩
    have hOl : Ow E.cells 5 w2.heap.size 34 w3 lv (leftL 1000 s.xs) := Ow.of_own E.cells_length hol
    have hOg : Ow cellI 1 w2.heap.size 3 w3 gv (goneL 1000 s.xs) := Ow.of_own cellI_length (by rw [cellI_map]; exact hog)
    obtain ⟨q, rfl, hqx, hqA, -, -⟩ := IntsAt.of_ow hOg
    obtain ⟨u, rfl, hux, huA, -, -⟩ := EsAt.of_ow hOl Hgl.out
    have Hb3 := hid (Below.step Hb2.out hb3 hz2)
    have hz3 := Hb3.out.size
    have HI : Hid (Calls Try.prog 10 #[.slice r.A r.xs.length r.c, .slice q.A q.xs.length q.c] w3 fun e w' => e = .returned (.bool true) ∧ Below w3.heap.size w3 w') := hid (by
      have := ints_any r q w3 (HrA.out.stays0 hb3) hqA
      rw [show sameI r.xs q.xs = true by rw [Hrx.out, hqx, Hgone.out]; exact sameI_self _] at this
      exact this)
    have hul : u.xs.length ≤ 8 := by rw [hux]; exact hl1
    have hql : q.xs.length ≤ 8 := by rw [hqx]; exact hl2
    have hsum : u.xs.length + q.xs.length = s.xs.length := by rw [hux, hqx]; exact Hlen.out
    have hsum1 : ((u.xs.length : Int) + (q.xs.length : Int) == (s.xs.length : Int)) = true := by rw [beq_iff_eq]; omega
    have hsum2 : ((u.xs.length : Int) + (q.xs.length : Int) != (s.xs.length : Int)) = false := by simp only [bne, hsum1]; rfl
    have HuA := hid huA
    have Hux := hid hux
    clear hol hog hOl hOg hqx hqA hux huA hb3 hsum
    go_wp2_with fail
    refine HI.out.mono ?_
    rintro e w4 ⟨rfl, hb4⟩
    have Hb4 := hid (Below.step Hb3.out hb4 hz3)
    have HuA4 := hid (HuA.out.stays hb4)
    have hz4 := Hb4.out.size
    clear hb4
    go_wp2_with fail
    go_loopw [8] (fun i wr => ∃ k : Nat, k ≤ u.xs.length ∧ i = .int .i64 k ∧ Below w4.heap.size w4 wr) (fun i _ => u.xs.length - (intOf i).toNat)
    case atStart => exact ⟨0, Nat.zero_le _, rfl, Below.refl _ _⟩
    case round =>
      obtain ⟨k, hk, rfl, hbr⟩ := hrel
      by_cases hlt : k < u.xs.length
      · obtain ⟨g, off, hA, hgl, hcells⟩ := HuA4.out.row (by omega)
        obtain ⟨k0, k1, k2, k3, k4⟩ := (hcells k hlt).stays hbr hgl
        have hgn : (u.xs.getD k E.zero).gone = false := Hleft.out _ (by rw [← Hux.out]; exact getD_memD E.zero hlt)
        rw [hgn] at k3
        have HA := hid hA
        rw [hA]
        have Hbr := hid hbr
        clear hA hcells hgn hbr k0 k1 k2 k4
        go_wp2_with fail
        go_roundw
        case rel => exact ⟨k + 1, by omega, by go_num, Hbr.out⟩
        case measure => simp [intOf]; omega
      · obtain rfl : k = u.xs.length := by omega
        have Hbr := hid (Below.step Hb4.out hbr hz4)
        clear hbr
        go_wp2_with fail
        go_ret
        exact ⟨rfl, Hbr.out⟩
  · have HSafe := hid (safe_bad (some ⟨w.heap.size, 0, none⟩) 1 s w1 hC hc)
    have HCk := hid (fun W (hW : Below w.heap.size w W) => show Calls Try.prog 8 #[.slice s.A s.xs.length s.c] W (fun e w' => e = .returned (.iface 56 (.int .i64 (chkC s.xs))) ∧ Below W.heap.size W w') from by
      have := ccheck_any s W (hs.stays hW).entries
      rw [errV_ne hc] at this
      exact this)
    generalize chkC s.xs = en at *
    clear hs hb1 hB1 hs1 hC hw1 hc
    go_enter Try.func3, Try.ntmps3
    go_wp2_with fail
    rw [← Hw1.out]
    refine HSafe.out.mono ?_
    rintro e w2 ⟨rfl, hb2⟩
    have Hb2 := hid (Below.step Hb1.out hb2 hz1)
    clear hb2
    go_wp2_with fail
    refine (HCk.out w2 Hb2.out).mono ?_
    rintro e w3 ⟨rfl, hb3⟩
    have Hb3 := hid (Below.step Hb2.out hb3 Hb2.out.size)
    clear hb3
    go_wp2_with fail
    go_ret
    exact ⟨rfl, Hb3.out⟩

set_option maxRecDepth 100000 in
theorem tombAlone_walk : LawWalk Try.prog 3 Try.f3 (fun _ => True) := by
  intro W base args H enc ds p hval hA _
  rw [Try.params3] at hA hval
  obtain ⟨v0, d0, rfl, rfl, h0⟩ := trodAll_one hA
  obtain ⟨s, rfl, hs⟩ := arg_slice Try.underlying22 codecEntry (pos_of_eq Try.cellsEntry (by decide)) (hval 0 22 v0 rfl rfl) h0
  exact tombAlone_any s W (entriesAt_of hs).es

set_option maxRecDepth 100000 in
theorem tombAlone_lifted (os : Os) (started : os.Started) (H : Type) (enc : TypeId × Value → H) :
    ReturnsInHanded {} Try.checked os 3 .any (Rows.tombAloneSpec.pre6 enc Try.prog Try.f3 Rows.tombAloneRow.domain false) (Rows.tombAloneSpec.post enc Try.prog Try.f3 false true false false) :=
  law_lifted (C := Try.checked) Rows.tombAloneRow.domain Try.own started (by kernel_rfl) Try.func3 Try.laidOut (by kernel_rfl) rfl Try.underlying4 rfl (fun ds h => by match ds, h with | [_], _ => rfl)
    (ChangeSpec.witness6 (enc := enc) (C := Try.checked) false ⟨#[], #[.slice none 0 0], []⟩ 8 (by kernel_rfl) (by kernel_rfl) (by kernel_rfl) (by kernel_rfl)) tombAlone_walk

theorem tombAlone_holds : Rows.TombAloneSaid :=
  OpenClaim.holds_of_wide 3 Try.f3 rfl rfl rfl rfl rfl rfl rfl ⟨rfl, rfl, rfl, rfl, rfl⟩ rfl rfl rfl rfl rfl (by kernel_rfl) Try.func3 (by kernel_rfl)
    (of_decide_eq_true (by kernel_rfl)) (by unfold Func.isWrapper; rw [if_neg (of_decide_eq_false (by kernel_rfl))]; exact ⟨rfl, rfl⟩)
    (fun os started H enc _ => tombAlone_lifted os started H enc)

end Go.Proofs.Ytgfbpabffnabaaa
