/-
  CONTRACTS of (*hint.Hints).All and Take. CONDITIONS: none.
-/
import Derived.Test.YtjhphagcmiggdaaHint3
namespace Go.Proofs.Ytjhphagcmiggdaa
open Go.RowKit
open Go.ChangeShapes Go.WideShapes Go.ChangeAt

set_option maxHeartbeats 1000000 in
theorem hall_any (h base : Nat) (v : Value) (l : List H) (lost : Int) (w : World) (ho : HintsO base w h v l lost) (hg : ∀ y ∈ l, y.good) (hlen : l.length ≤ 10) :
    Calls Try.prog 6 #[.pointer (some ⟨h, 0, none⟩)] w fun e w' => ∃ r : SlV H, e = .returned (.slice r.A r.xs.length r.c) ∧ r.xs = l ∧ HsAt w' r ∧ (0 < r.xs.length → ∀ b off, r.A = some ⟨b, off, none⟩ → w.heap.size ≤ b) ∧ Below w.heap.size w w' := by
  obtain ⟨r, rfl, hrx, hrA, _, _⟩ := HsAt.of_ow ho.2.1 hg
  have hall : w.cell? ⟨h, 0, none⟩ = some (.slice r.A r.xs.length r.c) := ho.1.cell 0
  have Hrx := hid hrx
  have Hlen := hid hlen
  have Hg := hid hg
  clear ho hrx hlen hg
  go_enter Try.func6, Try.ntmps6
  go_wp2_with fail
  refine (hclone_any r _ hrA (by rw [Hrx.out]; have := Hlen.out; omega)).mono ?_
  rintro e w1 ⟨v1, rfl, hO1, hb1⟩
  obtain ⟨r1, rfl, hr1, hr1A, _, hr1f⟩ := HsAt.of_ow hO1 (by rw [Hrx.out]; exact Hg.out)
  have Hr1 := hid hr1
  have Hr1f := hid hr1f
  clear hr1 hr1f hO1
  go_wp2_with fail
  go_ret
  exact ⟨r1, rfl, by rw [Hr1.out, Hrx.out], hr1A, fun h0 b off hA => (Hr1f.out h0 b off hA).2, hb1⟩

def takenL (n : Int) (l : List H) : List H := l.filter fun x => decide (x.node = n)
def leftL (n : Int) (l : List H) : List H := l.filter fun x => !decide (x.node = n)
theorem takenL_snoc (n : Int) (l : List H) (x : H) : takenL n (l ++ [x]) = if x.node = n then takenL n l ++ [x] else takenL n l := by
  unfold takenL; rw [List.filter_append]; by_cases h : x.node = n <;> simp [h]
theorem leftL_snoc (n : Int) (l : List H) (x : H) : leftL n (l ++ [x]) = if x.node = n then leftL n l else leftL n l ++ [x] := by
  unfold leftL; rw [List.filter_append]; by_cases h : x.node = n <;> simp [h]

set_option maxHeartbeats 2000000 in
theorem htake_no (n : Int) (h : Nat) (w : World) (hn : nodeB n = false) :
    Calls Try.prog 8 #[.pointer (some ⟨h, 0, none⟩), .int .i64 n] w fun e w' => e = .returned (.tuple #[.slice none 0 0, errV 1]) ∧ w = w' := by
  have Hn := hid hn
  clear hn
  go_enter Try.func8, Try.ntmps8
  go_wp2_with ((go_at_call 9; refine (node_any _ _).mono ?_; rintro e w' ⟨rfl, rfl⟩); rw [Hn.out])
  go_ret2
  exact ⟨rfl, rfl⟩

set_option maxHeartbeats 4000000 in
theorem htake_any (n : Int) (h base : Nat) (v : Value) (l : List H) (lost : Int) (w : World) (ho : HintsO base w h v l lost) (hg : ∀ y ∈ l, y.good) (hlen : l.length ≤ 10) (hn : nodeB n = true) :
    Calls Try.prog 8 #[.pointer (some ⟨h, 0, none⟩), .int .i64 n] w fun e w' => ∃ (r : SlV H) (v' : Value), e = .returned (.tuple #[.slice r.A r.xs.length r.c, .nilIface]) ∧ r.xs = takenL n l ∧ HsAt w' r ∧ (0 < r.xs.length → ∀ b off, r.A = some ⟨b, off, none⟩ → w.heap.size ≤ b ∧ foot v' ≠ some b) ∧ HintsO base w' h v' (leftL n l) lost ∧ (∀ k, foot v' = some k → w.heap.size ≤ k) ∧ Fr (fun k => k = h) w w' := by
  have hB := ho.1
  have hhl := hB.lt
  have hbh := ho.2.2.2
  obtain ⟨r, rfl, hrx, hrA, _, _⟩ := HsAt.of_ow ho.2.1 hg
  subst hrx
  have hall : w.cell? ⟨h, 0, none⟩ = some (.slice r.A r.xs.length r.c) := hB.cell 0
  have Hn := hid hn
  have HB := hid hB
  clear ho hn hB
  go_enter Try.func8, Try.ntmps8
  go_wp2_with ((go_at_call 9; refine (node_any _ _).mono ?_; rintro e w' ⟨rfl, rfl⟩); rw [Hn.out])
  go_loopw [6, 7, 19] (fun a b i wr => ∃ k : Nat, k ≤ r.xs.length ∧ i = .int .i64 k ∧ Ow H.cells 3 w.heap.size 29 wr a (takenL n (r.xs.take k)) ∧ Ow H.cells 3 w.heap.size 29 wr b (leftL n (r.xs.take k)) ∧ (∀ g, foot a = some g → foot b ≠ some g) ∧ Below w.heap.size w wr) (fun _ _ i _ => r.xs.length - (intOf i).toNat)
  case atStart => exact ⟨0, Nat.zero_le _, rfl, Ow.nil _ _ _ _ _, Ow.nil _ _ _ _ _, (fun g h => by cases h), Below.refl _ _⟩
  case round =>
    obtain ⟨k, hk, rfl, hOa, hOb, hdj, hbr⟩ := hrel
    have hz0 := hbr.size
    have Hdj := hid hdj
    clear hdj
    by_cases hlt : k < r.xs.length
    · obtain ⟨g, off, hA, hgl, hcells⟩ := hrA.row (by omega)
      obtain ⟨k0, k1, k2⟩ := (hcells k hlt).stays hbr hgl
      have HT := hid (take_snocD H.zero hlt)
      have hl1 : (takenL n (r.xs.take k)).length ≤ 10 := by
        have h1 := List.length_filter_le (fun x : H => decide (x.node = n)) (r.xs.take k)
        have h2 : (r.xs.take k).length ≤ k := by rw [List.length_take]; omega
        unfold takenL; omega
      have hl2 : (leftL n (r.xs.take k)).length ≤ 10 := by
        have h1 := List.length_filter_le (fun x : H => !decide (x.node = n)) (r.xs.take k)
        have h2 : (r.xs.take k).length ≤ k := by rw [List.length_take]; omega
        unfold leftL; omega
      generalize r.xs.getD k H.zero = y at *
      have HA2 := hid (takenL_snoc n (r.xs.take k) y)
      have HB2 := hid (leftL_snoc n (r.xs.take k) y)
      rw [← HT.out] at HA2 HB2
      generalize takenL n (r.xs.take k) = La at *
      generalize leftL n (r.xs.take k) = Lb at *
      obtain ⟨y0, y1, y2⟩ := y
      simp only at k0 k1 k2
      rw [hA]
      clear hA hcells
      by_cases hy : y0 = n
      · subst hy
        go_wp2_with (at_builtin; refine appH _ w.heap.size _ La y0 y1 y2 (hOa.alloc _) rfl _ _ rfl rfl rfl ?c0 ?c1 ?c2 ?_)
        try (case c0 => simp)
        case c1 => omega
        case c2 => first | omega | (simp; omega)
        intro v2 w2 h2 f2 o2
        have f2' := (Fr.refl _ wr).alloc _ |>.step f2
        have hOb2 := hOb.fr f2' (fun g hg e => Hdj.out g e.symm hg)
        have hb2 := hbr.trans (f2'.below0 hz0 hOa.ge)
        have hdj2 : ∀ g, foot v2 = some g → foot u7 ≠ some g := fun g hg e => by
          rcases o2 with o | o
          · exact Hdj.out g (by rw [← o]; exact hg) e
          · have := (hOb.lt e).2
            rw [hg] at o
            cases o
            first | omega | (simp at this; omega)
        have Hdj2 := hid hdj2
        clear hdj2 f2 f2' o2 hOb hOa
        go_wp2_with fail
        go_roundw
        case rel => exact ⟨k + 1, by omega, by go_num, by rw [HA2.out]; first | (rw [if_pos rfl]; exact h2) | (rw [if_pos trivial]; exact h2), by rw [HB2.out]; first | (rw [if_pos rfl]; exact hOb2) | (rw [if_pos trivial]; exact hOb2), Hdj2.out, hb2⟩
        case measure => simp [intOf]; omega
      · have Hy := hid hy
        go_wp2_with (at_builtin; refine appH _ w.heap.size _ Lb y0 y1 y2 (hOb.alloc _) rfl _ _ rfl rfl rfl ?d0 ?d1 ?d2 ?_)
        try (case d0 => simp)
        case d1 => omega
        case d2 => first | omega | (simp; omega)
        intro v2 w2 h2 f2 o2
        have f2' := (Fr.refl _ wr).alloc _ |>.step f2
        have hOa2 := hOa.fr f2' (fun g hg e => Hdj.out g hg e.symm)
        have hb2 := hbr.trans (f2'.below0 hz0 hOb.ge)
        have hdj2 : ∀ g, foot u6 = some g → foot v2 ≠ some g := fun g hg e => by
          rcases o2 with o | o
          · exact Hdj.out g hg (by rw [← o]; exact e)
          · have := (hOa.lt hg).2
            rw [e] at o
            cases o
            first | omega | (simp at this; omega)
        have Hdj2 := hid hdj2
        clear hdj2 f2 f2' o2 hOb hOa hy
        go_wp2_with fail
        go_roundw
        case rel => exact ⟨k + 1, by omega, by go_num, by rw [HA2.out, if_neg Hy.out]; exact hOa2, by rw [HB2.out, if_neg Hy.out]; exact h2, Hdj2.out, hb2⟩
        case measure => simp [intOf]; omega
    · obtain rfl : k = r.xs.length := by omega
      rw [List.take_length] at hOa hOb
      obtain ⟨q, rfl, hqx, hqA, _, hqf⟩ := HsAt.of_ow hOa (fun y hy => hg y (List.mem_filter.1 hy).1)
      obtain ⟨A8, c8, rfl, p8, q8, _⟩ := hOb.form
      have Hqx := hid hqx
      have Hqf := hid hqf
      have hBr : Blk wr h _ _ := HB.out.belowS hbr
      have hc8 : wr.cell? ⟨h, 0, none⟩ = some (.slice r.A r.xs.length r.c) := hBr.cell 0
      have hz8 := hBr.frozen 0
      have HBr := hid hBr
      have HOb := hid hOb
      have hFh : Fr (fun k => k = h) wr (wr.setCell ⟨h, 0, none⟩ (.slice A8 (leftL n r.xs).length c8)) := (Fr.refl (fun k => k = h) wr).setCell (p := ⟨h, 0, none⟩) (.inl rfl) _
      have HFh := hid hFh
      clear hqx hqf hBr hOa hOb hFh hall
      go_wp2_with fail
      go_ret2
      refine ⟨q, .slice A8 (leftL n r.xs).length c8, rfl, Hqx.out, hqA.fr HFh.out ?_, ?_, ⟨HBr.out.put 0 _, HOb.out.mono ?_ |>.fr HFh.out ?_, ?_, hbh⟩, ?_, (Fr.ofB hbr).step HFh.out⟩
      · intro h0 b off hA e
        have := (Hqf.out h0 b off hA).2
        omega
      · intro h0 b off hA
        have := Hqf.out h0 b off hA
        exact ⟨this.2, Hdj.out b this.1⟩
      · omega
      · intro g hg e
        have := (HOb.out.lt hg).1
        omega
      · intro e
        have := (HOb.out.lt e).1
        omega
      · intro k hk
        exact (HOb.out.lt hk).1
end Go.Proofs.Ytjhphagcmiggdaa
