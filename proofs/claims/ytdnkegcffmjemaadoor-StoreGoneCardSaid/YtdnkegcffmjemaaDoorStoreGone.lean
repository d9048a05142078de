/-
  PROVED HERE: merelaw4.StoreGone returns true for every number and every text: at first nothing is there, and nothing can be deleted; of version 0 anything can be swapped in. CONDITIONS: errors.errorType as the program's text lays it (tied by the card).
-/
import Derived.Test.YtdnkegcffmjemaaDoorStore2
import Derived.Test.YtdnkegcffmjemaaDoorDoor
namespace Go.Proofs.YtdnkegcffmjemaaDoor
open Go.RowKit
open Go.ChangeShapes Go.WideShapes Go.ChangeAt

theorem StoreO.fs {base s : Nat} {w : World} {vs : List Value} {ls : List (List Ch)} {n : Int} (hO : StoreO base w s vs ls n) {i : Nat} (h : FS s vs i) : base ≤ i ∧ i < w.heap.size := by
  rcases h with rfl | ⟨j, hj, h⟩
  · exact ⟨hO.base, hO.lt⟩
  · exact hO.footlt hj h.symm
theorem empties_get (k : Nat) : (List.replicate 8 ([] : List Ch)).getD k [] = [] := by simp only [List.getD, List.getElem?_replicate]; split <;> rfl

set_option maxHeartbeats 4000000 in
set_option maxRecDepth 100000 in
theorem storeGone_bad (key : Int) (t : ByteArray) (w : World) (hgl : Gl w) (hk : keyB key = false) :
    Calls Tryd.prog 4 #[.int .i64 key, .string t] w fun e w' => e = .returned (.bool true) ∧ Below w.heap.size w w' := by
  have hg0 := hgl.lt
  have hA : atS (List.replicate 8 []) 0 key 0 = (E.zero, 1) := by rw [atS, hk, if_neg (by simp)]
  have hD : sdel (List.replicate 8 []) 0 key = sno (List.replicate 8 []) 0 1 := by rw [sdel, hk, if_neg (by decide)]
  have hc := keyB_false.1 hk
  have HA := hid hA
  have HD := hid hD
  clear hA hD hk
  rcases (show key < 0 ∨ (0 ≤ key ∧ 7 < key) by omega) with hc | ⟨hc, hc'⟩
  all_goals
    go_enter Tryd.func4, Tryd.ntmps4
    go_wp2_with fail
    refine (snew_any _).mono ?_
    rintro e w1 ⟨rfl, hO1, hb1⟩
    have hz1 := hb1.size
    go_wp2_with fail
    refine (sread_any w.heap.size w.heap.size key _ _ 0 _ hO1 StP.new).mono ?_
    rw [HA.out, errV_ne (show (1 : Int) ≠ 0 by decide)]
    unfold E.val E.zero
    rintro e w2 ⟨rfl, hb2⟩; obtain ⟨hc2, hf2⟩ := bcell hb2; have hz2 := hb2.size; (try simp only [World.size_alloc] at hz2); (try simp only [World.size_setCell] at hz2)
    have hO2 := hO1.belowS hb2
    have hbw2 : Below w.heap.size w w2 := Below.step hb1 hb2 (by omega)
    have HO2 := hid hO2
    clear hO1 hO2
    go_wp2_with fail
    refine (sdel_any w.heap.size w.heap.size key _ _ 0 _ (HO2.out.belowS (by (repeat (first | with_reducible exact Below.refl _ _ | with_reducible assumption | (with_reducible refine Below.drew ?_) | (with_reducible refine Below.manyDrew ?_ _) | ((with_reducible refine Below.alloc ?_ ?_ _); rotate_left; (focus (first | omega | (dsimp only; omega) | (simp; done) | (simp; omega)))) | ((with_reducible refine Below.setCell ?_ ?_ _); rotate_left; (focus (first | omega | (dsimp only; omega) | (simp; done) | (simp; omega)))) | ((with_reducible refine Below.step ?_ (by assumption) ?_); rotate_left; (focus (first | omega | (dsimp only; omega) | (simp; done) | (simp; omega)))))))) StP.new).mono ?_
    rw [HD.out]
    rintro e w3 ⟨vs3, rfl, hO3, hP3, hF3, hfs3⟩
    have hbw3 : Below w.heap.size w w3 := (hbw2.alloc (by omega) _).trans (hF3.below0 (by simp; omega) (fun i hi => (HO2.out.fs hi).1))
    have hg3 : Gl w3 := hgl.below hbw3 hg0
    have Hbw3 := hid hbw3
    simp only [sno]
    clear hF3 hfs3 hbw3 hbw2 hO3
    go_wp2_with fail
    refine (error_any 1 1 _ hg3).mono ?_
    rintro e w4 ⟨rfl, hb4⟩
    go_wp2_with fail
    go_ret
    exact ⟨rfl, Below.step Hbw3.out hb4 Hbw3.out.size⟩

set_option maxHeartbeats 4000000 in
set_option maxRecDepth 100000 in
theorem storeGone_long (key : Int) (t : ByteArray) (ht : t.size ≤ maxLen) (w : World) (hgl : Gl w) (hk : keyB key = true) (h12 : (12 : Int) < (t.size : Int)) :
    Calls Tryd.prog 4 #[.int .i64 key, .string t] w fun e w' => e = .returned (.bool true) ∧ Below w.heap.size w w' := by
  have hg0 := hgl.lt
  have hA : atS (List.replicate 8 []) 0 key 0 = (⟨key, 0, 0, true, ⟨#[]⟩⟩, 0) := by rw [atS, hk, if_pos (by simp), empties_get]; rfl
  have hD : sdel (List.replicate 8 []) 0 key = sno (List.replicate 8 []) 0 5 := by rw [sdel, hk, if_pos rfl, empties_get]; rfl
  have hS : sswap (List.replicate 8 []) 0 key 0 t = sno (List.replicate 8 []) 0 4 := by rw [sswap, hk, if_pos rfl, if_pos h12]
  have hm := ht
  unfold maxLen at hm
  have HA := hid hA
  have HD := hid hD
  have HS := hid hS
  clear hA hD hS hk
  go_enter Tryd.func4, Tryd.ntmps4
  go_wp2_with fail
  refine (snew_any _).mono ?_
  rintro e w1 ⟨rfl, hO1, hb1⟩
  have hz1 := hb1.size
  go_wp2_with fail
  refine (sread_any w.heap.size w.heap.size key _ _ 0 _ hO1 StP.new).mono ?_
  rw [HA.out, errV_zero]
  unfold E.val
  rintro e w2 ⟨rfl, hb2⟩; obtain ⟨hc2, hf2⟩ := bcell hb2; have hz2 := hb2.size; (try simp only [World.size_alloc] at hz2); (try simp only [World.size_setCell] at hz2)
  have hO2 := hO1.belowS hb2
  have hbw2 : Below w.heap.size w w2 := Below.step hb1 hb2 (by omega)
  have HO2 := hid hO2
  clear hO1 hO2
  go_wp2_with fail
  refine (sdel_any w.heap.size w.heap.size key _ _ 0 _ (HO2.out.belowS (by (repeat (first | with_reducible exact Below.refl _ _ | with_reducible assumption | (with_reducible refine Below.drew ?_) | (with_reducible refine Below.manyDrew ?_ _) | ((with_reducible refine Below.alloc ?_ ?_ _); rotate_left; (focus (first | omega | (dsimp only; omega) | (simp; done) | (simp; omega)))) | ((with_reducible refine Below.setCell ?_ ?_ _); rotate_left; (focus (first | omega | (dsimp only; omega) | (simp; done) | (simp; omega)))) | ((with_reducible refine Below.step ?_ (by assumption) ?_); rotate_left; (focus (first | omega | (dsimp only; omega) | (simp; done) | (simp; omega)))))))) StP.new).mono ?_
  rw [HD.out]
  rintro e w3 ⟨vs3, rfl, hO3, hP3, hF3, hfs3⟩
  have hbw3 : Below w.heap.size w w3 := (hbw2.alloc (by omega) _).trans (hF3.below0 (by simp; omega) (fun i hi => (HO2.out.fs hi).1))
  have Hbw3 := hid hbw3
  have HO3 := hid hO3
  simp only [sno]
  clear hF3 hfs3 hbw3 hbw2 hO3
  go_wp2_with fail
  refine (sswap_any w.heap.size w.heap.size key 0 t ht vs3 (List.replicate 8 []) 0 _ HO3.out StP.new).mono ?_
  rw [HS.out]
  rintro e w4 ⟨vs4, rfl, hO4, hP4, hF4, hfs4⟩
  have hbw4 : Below w.heap.size w w4 := Hbw3.out.trans (hF4.below0 Hbw3.out.size (fun i hi => (HO3.out.fs hi).1))
  have Hbw4 := hid hbw4
  have HO4 := hid hO4
  have hg4 : Gl w4 := hgl.below hbw4 hg0
  simp only [sno]
  clear hF4 hfs4 hbw4 hO4
  go_wp2_with fail
  refine (error_any 4 4 _ hg4).mono ?_
  rintro e w5 ⟨rfl, hb5⟩
  go_wp2_with fail
  refine (sseq_any w.heap.size w.heap.size _ _ 0 _ (HO4.out.belowS hb5)).mono ?_
  rintro e w6 ⟨rfl, rfl⟩
  go_wp2_with fail
  go_ret
  exact ⟨rfl, Below.step Hbw4.out hb5 Hbw4.out.size⟩

set_option maxHeartbeats 4000000 in
set_option maxRecDepth 100000 in
theorem storeGone_good (key : Int) (t : ByteArray) (ht : t.size ≤ maxLen) (w : World) (hgl : Gl w) (hk : keyB key = true) (h12 : (t.size : Int) ≤ 12) :
    Calls Tryd.prog 4 #[.int .i64 key, .string t] w fun e w' => e = .returned (.bool true) ∧ Below w.heap.size w w' := by
  have hg0 := hgl.lt
  have hA : atS (List.replicate 8 []) 0 key 0 = (⟨key, 0, 0, true, ⟨#[]⟩⟩, 0) := by rw [atS, hk, if_pos (by simp), empties_get]; rfl
  have hD : sdel (List.replicate 8 []) 0 key = sno (List.replicate 8 []) 0 5 := by rw [sdel, hk, if_pos rfl, empties_get]; rfl
  have hS : ∃ L, sswap (List.replicate 8 []) 0 key 0 t = ((1, 0), L, 1) := ⟨_, by rw [sswap, hk, if_pos rfl, if_neg (by omega), empties_get, if_pos (show (lastC [] 0).seq = 0 from rfl), sdone, if_neg (by decide)]; rfl⟩
  obtain ⟨L, hS⟩ := hS
  have hm := ht
  unfold maxLen at hm
  have HA := hid hA
  have HD := hid hD
  have HS := hid hS
  clear hA hD hS hk
  go_enter Tryd.func4, Tryd.ntmps4
  go_wp2_with fail
  refine (snew_any _).mono ?_
  rintro e w1 ⟨rfl, hO1, hb1⟩
  have hz1 := hb1.size
  go_wp2_with fail
  refine (sread_any w.heap.size w.heap.size key _ _ 0 _ hO1 StP.new).mono ?_
  rw [HA.out, errV_zero]
  unfold E.val
  rintro e w2 ⟨rfl, hb2⟩; obtain ⟨hc2, hf2⟩ := bcell hb2; have hz2 := hb2.size; (try simp only [World.size_alloc] at hz2); (try simp only [World.size_setCell] at hz2)
  have hO2 := hO1.belowS hb2
  have hbw2 : Below w.heap.size w w2 := Below.step hb1 hb2 (by omega)
  have HO2 := hid hO2
  clear hO1 hO2
  go_wp2_with fail
  refine (sdel_any w.heap.size w.heap.size key _ _ 0 _ (HO2.out.belowS (by (repeat (first | with_reducible exact Below.refl _ _ | with_reducible assumption | (with_reducible refine Below.drew ?_) | (with_reducible refine Below.manyDrew ?_ _) | ((with_reducible refine Below.alloc ?_ ?_ _); rotate_left; (focus (first | omega | (dsimp only; omega) | (simp; done) | (simp; omega)))) | ((with_reducible refine Below.setCell ?_ ?_ _); rotate_left; (focus (first | omega | (dsimp only; omega) | (simp; done) | (simp; omega)))) | ((with_reducible refine Below.step ?_ (by assumption) ?_); rotate_left; (focus (first | omega | (dsimp only; omega) | (simp; done) | (simp; omega)))))))) StP.new).mono ?_
  rw [HD.out]
  rintro e w3 ⟨vs3, rfl, hO3, hP3, hF3, hfs3⟩
  have hbw3 : Below w.heap.size w w3 := (hbw2.alloc (by omega) _).trans (hF3.below0 (by simp; omega) (fun i hi => (HO2.out.fs hi).1))
  have hE3 : Blk w3 w2.heap.size 40 #[.int .i64 key, .int .i64 0, .int .i64 0, .bool true, .string ⟨#[]⟩] := (Blk.new w2 _ _).fr hF3 (fun h => by have := (HO2.out.fs h).2; omega)
  have hfs3' : ∀ i, FS w.heap.size vs3 i → i = w2.heap.size → False := fun i hi e => by
    rcases hfs3 i hi with h | h
    · have := (HO2.out.fs h).2; omega
    · simp at h; omega
  have Hfs3 := hid hfs3'
  have Hbw3 := hid hbw3
  have HO3 := hid hO3
  have HE3 := hid hE3
  simp only [sno]
  clear hF3 hfs3 hbw3 hbw2 hO3 hE3 hfs3'
  go_wp2_with fail
  refine (sswap_any w.heap.size w.heap.size key 0 t ht vs3 (List.replicate 8 []) 0 _ HO3.out StP.new).mono ?_
  rw [HS.out]
  rintro e w4 ⟨vs4, rfl, hO4, hP4, hF4, hfs4⟩
  have hbw4 : Below w.heap.size w w4 := Hbw3.out.trans (hF4.below0 Hbw3.out.size (fun i hi => (HO3.out.fs hi).1))
  have hE4 := HE3.out.fr hF4 (fun h => Hfs3.out _ h rfl)
  have Hbw4 := hid hbw4
  have HO4 := hid hO4
  have hg4 : Gl w4 := hgl.below hbw4 hg0
  have c0 : w4.cell? ⟨w2.heap.size, 3, none⟩ = some (.bool true) := hE4.cell 3
  have c1 : w4.cell? ⟨w2.heap.size, 1, none⟩ = some (.int .i64 0) := hE4.cell 1
  have c2 : w4.cell? ⟨w2.heap.size, 2, none⟩ = some (.int .i64 0) := hE4.cell 2
  have c4 : w4.cell? ⟨w2.heap.size, 4, none⟩ = some (.string ⟨#[]⟩) := hE4.cell 4
  simp only [errV_zero]
  clear hF4 hfs4 hbw4 hO4 hE4
  go_wp2_with fail
  refine (error_any 5 5 _ hg4).mono ?_
  rintro e w5 ⟨rfl, hb5⟩
  go_wp2_with fail
  refine (sseq_any w.heap.size w.heap.size _ _ 1 _ (HO4.out.belowS hb5)).mono ?_
  rintro e w6 ⟨rfl, rfl⟩
  go_wp2_with fail
  go_ret
  exact ⟨rfl, Below.step Hbw4.out hb5 Hbw4.out.size⟩

set_option maxRecDepth 100000 in
theorem storeGone_walk : LawWalk Tryd.prog 4 Tryd.f4 Gl := by
  intro W base args H enc ds p hval hA hgl
  rw [Tryd.params4] at hA hval
  obtain ⟨v0, v1, d0, d1, p0, p1, rfl, rfl, rfl, h0, h1⟩ := trodAll_two hA
  obtain ⟨key, rfl, _⟩ := arg_int Tryd.underlying3 (hval 0 3 v0 rfl rfl) h0
  obtain ⟨t, rfl, ht⟩ := arg_str Tryd.underlying9 (hval 1 9 v1 rfl rfl) h1
  rcases hk : keyB key with _ | _
  · exact storeGone_bad key t W hgl hk
  · by_cases h12 : (12 : Int) < (t.size : Int)
    · exact storeGone_long key t ht W hgl hk h12
    · exact storeGone_good key t ht W hgl hk (by omega)

set_option maxRecDepth 100000 in
theorem storeGone_lifted (os : Os) (started : os.Started) (H : Type) (enc : TypeId × Value → H) :
    ReturnsInHanded {} Tryd.checked os 4 .any (fun w args => (Rows.storeGoneSpec.pre enc Tryd.checked.prog Tryd.f4 [] false w args ∧ laidMetH Tryd.prog theLaid w) ∧ sizedMet enc Tryd.checked.prog Tryd.f4 (OpenSpec.ofChange Rows.storeGoneSpec) false w args) (Rows.storeGoneSpec.post enc Tryd.checked.prog Tryd.f4 false true false false) :=
  laid_lifted (C := Tryd.checked) theLaid (fun _ h => handle_of_laid h) [] Tryd.own started (by kernel_rfl) Tryd.func4 Tryd.laidOut (by kernel_rfl) rfl Tryd.underlying4 rfl (fun ds h => by match ds, h with | [_, _], _ => rfl)
    (ChangeSpec.witness_at (enc := enc) (C := Tryd.checked) (os := os) (X := fun w _ => laidMetH Tryd.prog theLaid w) false (laidWorld os) #[.int .i64 0, .string ⟨#[]⟩] 8 rfl (by kernel_rfl) (by kernel_rfl) (by kernel_rfl) (by kernel_rfl) (by kernel_rfl) (laidWorld_met os _)) storeGone_walk

theorem storeGone_row : Rows.StoreGoneSaid :=
  OpenClaim.holds_of_wide 4 Tryd.f4 rfl rfl rfl rfl rfl rfl rfl ⟨rfl, rfl, rfl, rfl, rfl⟩ rfl rfl rfl rfl rfl (by kernel_rfl) Tryd.func4 (by kernel_rfl)
    (of_decide_eq_true (by kernel_rfl)) (by unfold Func.isWrapper; rw [if_neg (of_decide_eq_false (by kernel_rfl))]; exact ⟨rfl, rfl⟩)
    (fun os started H enc _ => storeGone_lifted os started H enc)

theorem storeGone_holds : Rows.StoreGoneCardSaid :=
  Claim7.holds_tied_plain_at .later [] [.handle] true _ true
    storeGone_row (fun _ h => by cases h) (by kernel_rfl) (fun _ h => by cases h) storeGone_row_tie rfl ⟨rfl, rfl⟩ (by kernel_rfl) rfl
    (fun f fn hf hfn => by
      obtain rfl : f = 4 := Option.some.inj ((show Tryd.prog.funcNamed "beaconmere/merelaw4.StoreGone" = some 4 by kernel_rfl).symm.trans hf) |>.symm
      obtain rfl : fn = Tryd.f4 := (Option.some.inj (Tryd.func4.symm.trans hfn)).symm
      refine ⟨by kernel_rfl, fun j t ht => ?_⟩
      have hall : Tryd.f4.params.toList.all (fun t => !Tryd.prog.wantsStandIn t) = true := by kernel_rfl
      have hm : t ∈ Tryd.f4.params.toList := by
        obtain ⟨hj, hje⟩ := Array.getElem?_eq_some_iff.1 ht
        rw [← hje]
        exact Array.mem_toList_iff.2 (Array.getElem_mem hj)
      have := List.all_eq_true.1 hall t hm
      exact (show Tryd.prog.wantsStandIn t = false by simpa using this))
    (by kernel_rfl)

end Go.Proofs.YtdnkegcffmjemaaDoor
