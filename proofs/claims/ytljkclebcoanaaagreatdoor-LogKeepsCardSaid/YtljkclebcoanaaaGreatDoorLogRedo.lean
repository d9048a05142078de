/-
  THE CONTRACT of log.redo: the store of the deeds whose records a text holds. CONDITIONS: the deeds can be done one after the other; the library's table of white space reads as it is laid (Ta).
-/
import Derived.Test.YtljkclebcoanaaaGreatDoorLines
import Derived.Test.YtljkclebcoanaaaGreatDoorLogDo
namespace Go.Proofs.YtljkclebcoanaaaGreatDoor
open Go.RowKit Go.Shelf

attribute [local go_sem] Oper.semAt_some

theorem StoreO.fsr {base s : Nat} {w : World} {vs : List Value} {ls : List (List Ch)} {n : Int} (hO : StoreO base w s vs ls n) {i : Nat} (h : FS s vs i) : base ≤ i ∧ i < w.heap.size := by
  rcases h with rfl | ⟨j, hj, h⟩
  · exact ⟨hO.base, hO.lt⟩
  · exact hO.footlt hj h.symm
theorem StoreO.mono {base base' s : Nat} {w : World} {vs : List Value} {ls : List (List Ch)} {n : Int} (h : StoreO base w s vs ls n) (hb : base' ≤ base) : StoreO base' w s vs ls n :=
  ⟨h.blk, h.len, fun k hk => (h.own k hk).mono hb, h.apart, h.off, Nat.le_trans hb h.base⟩
theorem lines_rec : ∀ (D : List E), linesL (bytesL D) = D.map recE
  | [] => rfl
  | e :: D => by
    rw [bytesL_cons, List.map_cons, ← lines_rec D]
    show linesGo [] (recL _ _ _ ++ bytesL D) = recL _ _ _ :: linesGo [] (bytesL D)
    rw [recL_eq, List.append_assoc, List.singleton_append, linesGo_one _ _ _ (recB_no _ _ _), List.nil_append]

set_option maxRecDepth 100000 in
set_option maxHeartbeats 4000000 in
theorem redo_any (D : List E) (hv : ValD D) (hD : D.length ≤ 1000) (w : World) (hT : Ta w) :
    Calls Tryz.prog 27 #[.string (mkB (bytesL D))] w fun e w' => ∃ s vs, e = .returned (.tuple #[.pointer (some ⟨s, 0, none⟩), .nilIface]) ∧ StoreO w.heap.size w' s vs (lsOf D) D.length ∧ StP (lsOf D) D.length ∧ Below w.heap.size w w' := by
  refine (callsIn_wide (n := 6)).1 ?_
  refine callsIn_of_wp_marks Tryz.func27 rfl trivial ?_ rfl
  simp only [Tryz.ntmps27, List.size_toArray, List.length_cons, List.length_nil, Nat.reduceAdd, Nat.reduceSub, Array.replicate_succ, Array.replicate_zero, List.push_toArray, List.append_toArray, List.nil_append, List.cons_append]
  gi_wp2_with (first | (refine ⟨trivial, ?_⟩; gi_at_call 20; refine (callsIn_wide.2 (snew_any _)).mono ?_; rintro e w1 ⟨rfl, hO1, hb1⟩) | (refine ⟨trivial, ?_⟩; gi_at_call 39; refine (lines_in Fence.wide _ trivial rfl _ _).mono ?_; rintro e w2 ⟨rfl, hw2⟩))
  have hs1 : ((w.alloc (Obj.cells #[Value.pointer none] 51)).alloc (Obj.cells #[Value.nilIface] 26)).heap.size = w.heap.size + 2 := by simp
  have hB0 : Blk ((w.alloc (Obj.cells #[Value.pointer none] 51)).alloc (Obj.cells #[Value.nilIface] 26)) w.heap.size 51 #[.pointer none] := (Blk.new _ _ _).alloc _
  have hB1 : Blk ((w.alloc (Obj.cells #[Value.pointer none] 51)).alloc (Obj.cells #[Value.nilIface] 26)) (w.heap.size + 1) 26 #[.nilIface] := Blk.new_at (by simp)
  have hbw : Below w.heap.size w ((w.alloc (Obj.cells #[Value.pointer none] 51)).alloc (Obj.cells #[Value.nilIface] 26)) := ((Below.refl _ _).alloc (Nat.le_refl _) _).alloc (by simp) _
  have HB0 := hB0.belowS hb1
  have HB1 := hB1.belowS hb1
  have hbw1 := Below.step hbw hb1 (by rw [hs1]; omega)
  have hz1 := hb1.size
  rw [hs1] at hO1 hz1
  clear hB0 hB1 hbw hb1 hs1
  have hsz : ((w1.alloc (Obj.cells #[Value.pointer (some { block := w.heap.size + 1 + 1, off := 0 })] 51)).alloc (Obj.cells #[Value.string (mkB (bytesL D))] 9)).heap.size = w1.heap.size + 2 := by simp
  have hBs : Blk ((w1.alloc (Obj.cells #[Value.pointer (some { block := w.heap.size + 1 + 1, off := 0 })] 51)).alloc (Obj.cells #[Value.string (mkB (bytesL D))] 9)) (w1.heap.size + 1) 9 #[.string (mkB (bytesL D))] := Blk.new_at (by simp)
  have hBp : Blk ((w1.alloc (Obj.cells #[Value.pointer (some { block := w.heap.size + 1 + 1, off := 0 })] 51)).alloc (Obj.cells #[Value.string (mkB (bytesL D))] 9)) w1.heap.size 51 #[.pointer (some ⟨w.heap.size + 1 + 1, 0, none⟩)] := (Blk.new _ _ _).alloc _
  have hb12 : Below w1.heap.size w1 ((w1.alloc (Obj.cells #[Value.pointer (some { block := w.heap.size + 1 + 1, off := 0 })] 51)).alloc (Obj.cells #[Value.string (mkB (bytesL D))] 9)) := ((Below.refl _ _).alloc (Nat.le_refl _) _).alloc (by simp) _
  generalize hwL : (w1.alloc (Obj.cells #[Value.pointer (some { block := w.heap.size + 1 + 1, off := 0 })] 51)).alloc (Obj.cells #[Value.string (mkB (bytesL D))] 9) = wL at *
  have HB0' := HB0.belowS hb12
  have HB1' := HB1.belowS hb12
  have hO2 := hO1.belowS hb12
  have hbwL := Below.step hbw1 hb12 (by omega)
  obtain ⟨s, hs⟩ : ∃ s, s = w.heap.size + 2 := ⟨_, rfl⟩
  have hs' : w.heap.size + 1 + 1 = s := by omega
  rw [hs'] at hBp
  rw [← hs] at hO2
  rw [hs']
  obtain ⟨Is, hIs⟩ : ∃ Is : List (List UInt8) → World → Prop, Is = fun pre W => ∃ vs, StoreO s W s vs (lsOf (D.take pre.length)) (D.take pre.length).length ∧ StP (lsOf (D.take pre.length)) (D.take pre.length).length ∧
    (∀ i, FS s vs i → i ≠ w1.heap.size ∧ ¬ Three (w1.heap.size + 1) (w1.heap.size + 2) i) ∧ Blk W w.heap.size 51 #[.pointer none] ∧ Blk W (w.heap.size + 1) 26 #[.nilIface] ∧ Blk W w1.heap.size 51 #[.pointer (some ⟨s, 0, none⟩)] ∧ Below w.heap.size w W := ⟨_, rfl⟩
  refine range_box rfl (by decide) (gf := 50) (B := w1.heap.size + 1) rfl trivial (enters_of Tryz.func50 (by kernel_rfl) rfl) (fun x : List UInt8 => Value.string (mkB x)) (D.map recE) (by rw [hsz]; omega) rfl
    (by rw [← lines_rec D]; exact lines_seq Fence.wide _ trivial rfl (by decide) (w1.heap.size + 1) (mkB (bytesL D)) (by rw [mkB_size]; have := bytesL_len D hv.each; omega) wL hBs)
    Is ?inv ?start
    (fun x => { tmps := #[Value.string (mkB (bytesL D)), undef, Value.pointer (some { block := w.heap.size, off := 0 }), Value.pointer (some { block := w.heap.size + 1, off := 0 }), Value.pointer (some { block := w1.heap.size, off := 0 }), .string (mkB x), undef,
          Value.pointer (some { block := s, off := 0 }), Value.string (mkB (bytesL D)), Value.func (Fn.func 50) #[] #[Value.pointer (some { block := w1.heap.size + 1, off := 0 })], .string (mkB x), undef,
          undef, undef, undef, undef, undef, undef], defers := [] }) ?assign ?body ?done
  case inv =>
    rintro pre W W' hi hf
    rw [hIs] at hi ⊢
    rw [hsz] at hf
    obtain ⟨vs, h1, h2, h3, h4, h5, h6, h7⟩ := hi
    have n4 : ¬ Three (w1.heap.size + 1) (w1.heap.size + 2) w.heap.size := fun h => by unfold Three at h; omega
    have n5 : ¬ Three (w1.heap.size + 1) (w1.heap.size + 2) (w.heap.size + 1) := fun h => by unfold Three at h; omega
    have n6 : ¬ Three (w1.heap.size + 1) (w1.heap.size + 2) w1.heap.size := fun h => by unfold Three at h; omega
    exact ⟨vs, h1.fr hf (h3 s (.inl rfl)).2 (fun k hk g hg hs => (h3 g (.inr ⟨k, hk, hg.symm⟩)).2 hs), h2, h3, h4.fr hf n4, h5.fr hf n5, h6.fr hf n6, h7.trans (hf.below0 h7.size (fun i hi => by unfold Three at hi; omega))⟩
  case start =>
    have hsl := hO1.lt
    rw [hIs]
    refine ⟨_, by rw [List.length_nil, List.take_zero, lsOf_nil]; exact hO2, by rw [List.length_nil, List.take_zero, lsOf_nil]; exact StP.new, fun i hi => ?_, HB0', HB1', hBp, hbwL⟩
    have e1 : ∀ k, (List.replicate 8 nilS).getD k nilS = nilS := fun k => by simp only [List.getD, List.getElem?_replicate]; split <;> rfl
    rcases hi with hi | ⟨k, hk, hg⟩
    · exact ⟨by omega, fun h => by unfold Three at h; omega⟩
    · rw [e1] at hg; cases hg
  case assign =>
    intro l x W K hK
    simp only [List.zip_toArray, List.zip_cons_cons, List.zip_nil_right, List.foldl_toArray', List.size_toArray, List.length_cons, List.length_nil, List.foldl_cons, List.foldl_nil, List.setIfInBounds_toArray, List.set_cons_succ, List.set_cons_zero]
    gi_wp2
    exact hK
  case body =>
    intro l pre x rest W hx hi hlt
    rw [hsz] at hlt
    obtain ⟨A, Bq, hAB, hA, hBq⟩ := List.map_eq_append_iff.1 hx
    obtain ⟨e, B, rfl, he, hB⟩ := List.map_eq_cons_iff.1 hBq
    subst he hA hB
    obtain ⟨hde, hre⟩ := hv A e B hAB
    rw [hIs] at hi
    obtain ⟨vs, h1, h2, h3, h4, h5, h6, h7⟩ := hi
    have hAl : D.take (A.map recE).length = A := by rw [List.length_map, hAB, List.take_left']; rfl
    have hAl2 : D.take (A.map recE ++ [recE e]).length = A ++ [e] := by
      rw [List.length_append, List.length_map, List.length_singleton, hAB, show A ++ e :: B = (A ++ [e]) ++ B by simp, List.take_left' (by simp)]
    rw [hAl] at h1 h2
    have HDo := hid (do_any s s A e hde hre vs W h1 h2 (hT.belowS h7))
    have hcp : W.cell? ⟨w1.heap.size, 0, none⟩ = some (.pointer (some ⟨s, 0, none⟩)) := h6.cell 0
    have Hpost := hid (fun (w3 : World) (h : DoR s s vs W (A ++ [e]) (.returned .nilIface) w3) => show boxPost (w1.heap.size + 1) wL.heap.size Is (A.map recE ++ [recE e]) W .normal ⟨#[], []⟩ w3 from by
      obtain ⟨vs', _, g1, g2, g3, g4⟩ := h
      have nf : ∀ i, i < W.heap.size → ¬ FS s vs i → w3.heap[i]? = W.heap[i]? := fun i hi hn => g3.block i hi hn
      refine ⟨?_, fun i hi => ?_⟩
      · rw [hIs]
        show ∃ vs, StoreO s w3 s vs (lsOf (D.take (A.map recE ++ [recE e]).length)) (D.take (A.map recE ++ [recE e]).length).length ∧ _
        rw [hAl2]
        refine ⟨vs', g1, g2, fun i hi => ?_, h4.fr g3 (fun h => ?_), h5.fr g3 (fun h => ?_), h6.fr g3 (fun h => (h3 _ h).1 rfl), h7.trans (g3.below0 h7.size (fun i hi => by have := (h1.fsr hi).1; omega))⟩
        · rcases g4 i hi with h | h
          · exact h3 i h
          · exact ⟨by omega, fun h' => by unfold Three at h'; omega⟩
        · have := (h1.fsr h).1; omega
        · have := (h1.fsr h).1; omega
      · rw [hsz] at hi
        refine nf i (by unfold Three at hi; omega) (fun h => (h3 i h).2 hi))
    clear h1 h2 h3 h4 h5 h6 h7 hv hre hde hAB hx hBq hAl hAl2 hIs hs hs' hwL hw2 hsz hO1 hO2 HB0 HB1 hbw1 hz1 hBs hBp hb12 HB0' HB1' hbwL hlt
    gi_wp2_with (refine ⟨trivial, ?_⟩; gi_at_call 40; refine (CallsIn.inRound l (callsIn_wide.2 HDo.out)).mono ?_; rintro e w3 hdo; have Hdo := hid hdo; obtain ⟨vs', rfl, -, -, -, -⟩ := hdo)
    exact Hpost.out w3 Hdo.out
  case done =>
    intro W hi hW
    rw [hIs] at hi
    obtain ⟨vs, h1, h2, h3, h4, h5, h6, h7⟩ := hi
    have c6 : W.cell? ⟨w1.heap.size, 0, none⟩ = some (.pointer (some ⟨s, 0, none⟩)) := h6.cell 0
    have c4 : W.cell? ⟨w.heap.size, 0, none⟩ = some (.pointer none) := h4.cell 0
    have c5 : W.cell? ⟨w.heap.size + 1, 0, none⟩ = some .nilIface := h5.cell 0
    have f4 := h4.frozen 0
    have f5 := h5.frozen 0
    have Hfin := hid (And.intro h1 (And.intro h2 (And.intro h3 (And.intro h7 (And.intro h4 h5)))))
    have Hs := hid hs
    have Hsz := hid (show w.heap.size + 2 ≤ w1.heap.size ∧ wL.heap.size = w1.heap.size + 2 from ⟨hz1, hsz⟩)
    have hlt1 : w.heap.size + 1 < W.heap.size := h5.lt
    clear h1 h2 h3 h4 h5 h6 h7 hv hIs hs hs' hwL hw2 hsz hO1 hO2 HB0 HB1 hbw1 hz1 hBs hBp hb12 HB0' HB1' hbwL
    have hne0 : wL.heap.size ≠ w.heap.size := by have := Hsz.out; omega
    have hne1 : wL.heap.size ≠ w.heap.size + 1 := by have := Hsz.out; omega
    gi_wp2
    have hK4 : ((W.setCell ⟨w.heap.size, 0, none⟩ (.pointer (some ⟨s, 0, none⟩))).setCell ⟨w.heap.size + 1, 0, none⟩ .nilIface).heap[wL.heap.size]? = some (.deferred (some [])) :=
      (Below.heap_setCell _ ⟨w.heap.size + 1, 0, none⟩ _ _ hne1).trans ((Below.heap_setCell W ⟨w.heap.size, 0, none⟩ _ _ hne0).trans hW)
    refine ⟨by simp, .inl ⟨_, _, rfl, run_takeDeferred hK4, ?_⟩⟩
    obtain ⟨h1, h2, h3, h7, h4, h5⟩ := Hfin.out
    have hD0 : D.take (D.map recE).length = D := by rw [List.length_map, List.take_length]
    rw [hD0] at h1 h2
    have hFr : Fr (fun i => i = w.heap.size ∨ i = w.heap.size + 1 ∨ i = wL.heap.size) W (((W.setCell ⟨w.heap.size, 0, none⟩ (.pointer (some ⟨s, 0, none⟩))).setCell ⟨w.heap.size + 1, 0, none⟩ .nilIface).putObj wL.heap.size (.deferred none)) :=
      (((Fr.refl _ _).setCell (.inl (.inl rfl)) _).setCell (.inl (.inr (.inl rfl))) _).grown (grownBy_putObj' _ wL.heap.size _) (fun k e => by cases e; exact .inl (.inr (.inr rfl)))
    have g4 : Blk (((W.setCell ⟨w.heap.size, 0, none⟩ (.pointer (some ⟨s, 0, none⟩))).setCell ⟨w.heap.size + 1, 0, none⟩ .nilIface).putObj wL.heap.size (.deferred none)) w.heap.size 51 #[.pointer (some ⟨s, 0, none⟩)] :=
      (World.putObj_heap_other (Ne.symm hne0)).trans ((h4.put 0 (.pointer (some ⟨s, 0, none⟩))).far (p := ⟨w.heap.size + 1, 0, none⟩) (by show w.heap.size ≠ w.heap.size + 1; omega) .nilIface)
    have g5 : Blk (((W.setCell ⟨w.heap.size, 0, none⟩ (.pointer (some ⟨s, 0, none⟩))).setCell ⟨w.heap.size + 1, 0, none⟩ .nilIface).putObj wL.heap.size (.deferred none)) (w.heap.size + 1) 26 #[.nilIface] :=
      (World.putObj_heap_other (Ne.symm hne1)).trans ((h5.far (p := ⟨w.heap.size, 0, none⟩) (by show w.heap.size + 1 ≠ w.heap.size; omega) (.pointer (some ⟨s, 0, none⟩))).put 0 .nilIface)
    generalize (((W.setCell ⟨w.heap.size, 0, none⟩ (.pointer (some ⟨s, 0, none⟩))).setCell ⟨w.heap.size + 1, 0, none⟩ .nilIface).putObj wL.heap.size (.deferred none)) = W9 at *
    have k4 : W9.cell? ⟨w.heap.size, 0, none⟩ = some (.pointer (some ⟨s, 0, none⟩)) := g4.cell 0
    have k5 : W9.cell? ⟨w.heap.size + 1, 0, none⟩ = some .nilIface := g5.cell 0
    have hs9 := Hs.out
    have hz9 := Hsz.out
    refine ⟨.tuple #[.pointer (some ⟨s, 0, none⟩), .nilIface], by simp [results, Tryz.f27, go_sem, k4, k5], s, vs, rfl, ?_, h2, ?_⟩
    · have h9 : StoreO s W9 s vs (lsOf D) D.length := h1.fr hFr (fun h => by omega) (fun k hk g hg h => by
        have a1 := (h1.fsr (.inr ⟨k, hk, hg.symm⟩)).1
        have a2 := (h3 g (.inr ⟨k, hk, hg.symm⟩)).2
        rcases h with h | h | h
        · omega
        · omega
        · exact a2 (.inr (.inl (by omega))))
      exact h9.mono (by omega)
    · exact h7.trans (hFr.below0 h7.size (fun i hi => by omega))
end Go.Proofs.YtljkclebcoanaaaGreatDoor
