/-
  run.Run: a text is answered as the session says. CONDITIONS: the library's variables read as they are laid (Tr).
-/
import Derived.Test.YtemhdfodghfkfaaGreatDoorRunBeg
import Derived.Test.YtemhdfodghfkfaaGreatDoorLines
namespace Go.Proofs.YtemhdfodghfkfaaGreatDoor
open Go.RowKit Go.Shelf
open Go.ChangeShapes Go.WideShapes Go.ChangeAt
attribute [local go_sem] Oper.semAt_some

theorem bld_text_k (B b : Nat) (l : Tx) (w : World) (h : BldAt B b l w) (hBw : B ≤ w.heap.size) :
    Calls Tryz.prog 15 #[.pointer (some ⟨b, 0, none⟩)] w fun e w' => e = .returned (.string (mkB l)) ∧ Below B w w' ∧ Lib.OthersKept 5 (some b) w w' :=
  (Tryz.Builder_String_any_k B b l w (Lib.IsBuilderF.of h) hBw).mono (fun _ _ h => ⟨h.1, h.2.2⟩)
set_option maxRecDepth 100000 in
set_option maxHeartbeats 8000000 in
theorem run_short (t : Tx) (ht : t.length ≤ 3000) (w : World) (hT : Tr w) :
    Calls Tryz.prog 6 #[.string (mkB t)] w fun e w' => e = .returned (.string (mkB (RSt.new.run (linesT t)))) ∧ Below w.heap.size w w' := by
  have hsz0 := mkB_size t
  refine (callsIn_wide (n := 6)).1 ?_
  refine callsIn_of_wp_marks Tryz.func6 rfl trivial ?_ rfl
  simp only [Tryz.ntmps6, List.size_toArray, List.length_cons, List.length_nil, Nat.reduceAdd, Nat.reduceSub, Array.replicate_succ, Array.replicate_zero, List.push_toArray, List.append_toArray, List.nil_append, List.cons_append]
  have h3 : ¬ (3000 : Int) < (t.length : Int) := by omega
  gi_wp2_with (first | (refine ⟨trivial, ?_⟩; gi_at_call 10; refine (callsIn_wide.2 (begin_any _ hT.tb)).mono ?_; rintro e w1 ⟨d, rfl, hD1, hb1⟩) | (refine ⟨trivial, ?_⟩; gi_at_call 11; refine (lines_in Fence.wide _ trivial rfl _ _).mono ?_; rintro e w2 ⟨rfl, hw2⟩))
  clear hw2
  have hsz : (((w1.alloc (Obj.cells #[Value.pointer (some { block := d, off := 0 })] 37)).alloc (Obj.cells #[Value.pointer none, Value.slice none 0 0] 45)).alloc (Obj.cells #[Value.string (mkB t)] 9)).heap.size = w1.heap.size + 3 := by simp
  have hBs : Blk (((w1.alloc (Obj.cells #[Value.pointer (some { block := d, off := 0 })] 37)).alloc (Obj.cells #[Value.pointer none, Value.slice none 0 0] 45)).alloc (Obj.cells #[Value.string (mkB t)] 9)) (w1.heap.size + 1 + 1) 9 #[.string (mkB t)] := Blk.new_at (by simp)
  have hBd : Blk (((w1.alloc (Obj.cells #[Value.pointer (some { block := d, off := 0 })] 37)).alloc (Obj.cells #[Value.pointer none, Value.slice none 0 0] 45)).alloc (Obj.cells #[Value.string (mkB t)] 9)) w1.heap.size 37 #[.pointer (some ⟨d, 0, none⟩)] := ((Blk.new _ _ _).alloc _).alloc _
  have hb12 : Below w1.heap.size w1 (((w1.alloc (Obj.cells #[Value.pointer (some { block := d, off := 0 })] 37)).alloc (Obj.cells #[Value.pointer none, Value.slice none 0 0] 45)).alloc (Obj.cells #[Value.string (mkB t)] 9)) := (((Below.refl _ _).alloc (Nat.le_refl _) _).alloc (by simp) _).alloc (by simp; omega) _
  have hBb : BldR (w1.heap.size + 5) (w1.heap.size + 1) [] (((w1.alloc (Obj.cells #[Value.pointer (some { block := d, off := 0 })] 37)).alloc (Obj.cells #[Value.pointer none, Value.slice none 0 0] 45)).alloc (Obj.cells #[Value.string (mkB t)] 9)) := by
    have h := BldR.new (w1.heap.size + 5) (w1.alloc (Obj.cells #[Value.pointer (some { block := d, off := 0 })] 37))
    rw [World.size_alloc] at h
    exact h.fr (S := fun _ => False) (Fr.ofB ((Below.refl _ _).alloc (Nat.le_refl _) _)) (fun h => h) (fun _ _ _ h => h)
  generalize hwL : ((w1.alloc (Obj.cells #[Value.pointer (some { block := d, off := 0 })] 37)).alloc (Obj.cells #[Value.pointer none, Value.slice none 0 0] 45)).alloc (Obj.cells #[Value.string (mkB t)] 9) = wL at *
  have hz1 := hb1.size
  obtain ⟨Is, hIs⟩ : ∃ Is : List (List UInt8) → World → Prop, Is = fun pre W => DeskV (Three (w1.heap.size + 1 + 1) wL.heap.size) w.heap.size W d (RSt.new.all (pre.map cutN)) ∧ (BldR (w1.heap.size + 5) (w1.heap.size + 1) (RSt.new.run (pre.map cutN)) W ∧ (RSt.new.run (pre.map cutN)).length ≤ 4001 * pre.length) ∧ Blk W w1.heap.size 37 #[.pointer (some ⟨d, 0, none⟩)] ∧ Below w.heap.size w W := ⟨_, rfl⟩
  have hlines : linesL (mkB t).data.toList = linesL t := by rw [mkB_list]
  refine range_box rfl (by decide) (gf := 25) (B := w1.heap.size + 1 + 1) rfl trivial (enters_of Tryz.func25 (by kernel_rfl) rfl) (fun x : List UInt8 => Value.string (mkB x)) (linesL t) (by rw [hsz]; omega) rfl
    (by rw [← hlines]; exact lines_seq Fence.wide _ trivial rfl (by decide) (w1.heap.size + 1 + 1) (mkB t) (by rw [hsz0]; omega) wL hBs)
    Is ?inv ?start
    (fun x => { tmps := #[Value.string (mkB t), undef, Value.string { data := #[] }, Value.pointer (some { block := w1.heap.size, off := 0 }), Value.nilIface, Value.pointer (some { block := w1.heap.size + 1, off := 0 }), .string (mkB x), Value.string (mkB t),
          Value.int IntKind.i64 ↑(List.length t), Value.bool false, Value.tuple #[Value.pointer (some { block := d, off := 0 }), Value.nilIface], Value.tuple #[Value.pointer (some { block := d, off := 0 }), Value.nilIface],
          Value.pointer (some { block := d, off := 0 }), Value.nilIface, Value.nilIface, Value.bool false, Value.string (mkB t), Value.func (Fn.func 25) #[] #[Value.pointer (some { block := w1.heap.size + 1 + 1, off := 0 })], .string (mkB x), undef,
          undef, undef, undef, undef, undef, undef], defers := [] }) ?assign ?body ?done
  case inv =>
    rintro pre W W' hi hf
    rw [hIs] at hi ⊢
    obtain ⟨h1, ⟨h2, h2l⟩, h3, h4⟩ := hi
    refine ⟨h1.fr hf (fun _ h => h), ⟨h2.fr hf (fun h => by unfold Three at h; omega) (fun i _ hi h => by unfold Three at h; omega), h2l⟩, h3.fr hf (fun h => by unfold Three at h; omega), h4.trans (hf.below0 h4.size (fun i hi => by unfold Three at hi; omega))⟩
  case start =>
    rw [hIs]
    exact ⟨hD1.avoid hb12 (fun i hi => by unfold Three at hi; omega), ⟨hBb, Nat.zero_le _⟩, hBd, hb1.trans (hb12.mono hz1)⟩
  case assign =>
    intro l x W K hK
    simp only [List.zip_toArray, List.zip_cons_cons, List.zip_nil_right, List.foldl_toArray', List.size_toArray, List.length_cons, List.length_nil, List.foldl_cons, List.foldl_nil, List.setIfInBounds_toArray, List.set_cons_succ, List.set_cons_zero]
    gi_wp2
    exact hK
  case body =>
    intro l pre x rest W hx hi hlt
    rw [hIs] at hi
    obtain ⟨h1, ⟨h2, h2l⟩, h3, h4⟩ := hi
    rw [hsz] at hlt
    obtain ⟨Z, hZ⟩ : ∃ Z : Nat → Prop, Z = Three (w1.heap.size + 1 + 1) wL.heap.size := ⟨_, rfl⟩
    have hZ3 : ∀ i, Z i → w1.heap.size + 2 ≤ i ∧ i < w1.heap.size + 5 := fun i hi => by rw [hZ] at hi; unfold Three at hi; omega
    rw [← hZ] at h1
    have hDk := h1.desk (fun i hi => by have := hZ3 i hi; omega)
    have hS1 : RSt.new.all ((pre ++ [x]).map cutN) = ((RSt.new.all (pre.map cutN)).line (cutN x)).2 := by rw [List.map_append, List.map_singleton, RSt.all_snoc]
    have hS2 : RSt.new.run ((pre ++ [x]).map cutN) = RSt.new.run (pre.map cutN) ++ (((RSt.new.all (pre.map cutN)).line (cutN x)).1 ++ [10]) := by rw [List.map_append, List.map_singleton, RSt.run_snoc]
    have hal : ((RSt.new.all (pre.map cutN)).line (cutN x)).1.length ≤ 4000 := by
      obtain ⟨m, v, g1, g2, g3⟩ := hDk
      exact line_len g2.deeds g2.cac _
    have hxl : x.length ≤ 3000 := by
      have := linesGo_len t [] x (by show x ∈ linesL t; rw [hx]; simp)
      simp only [List.length_nil] at this
      omega
    have hpl : pre.length ≤ 3001 := by
      have := linesGo_many t []
      rw [show linesGo [] t = linesL t from rfl, hx, List.length_append] at this
      omega
    have hcl := cutN_len x
    have hTB : ∀ X, Below W.heap.size W X → TrB w.heap.size X := fun X hX V hV => hT.belowS ((h4.trans (hX.mono h4.size)).trans hV)
    have HTm := hid (fun X => trim_any x (by omega) X)
    have HAn := hid (fun X (hX : Below W.heap.size W X) => answer_any w.heap.size d (cutN x) (by omega) _ X (hDk.belowS hX) (hTB X hX))
    generalize hq : (RSt.new.all (pre.map cutN)).line (cutN x) = q at *
    generalize hrun : RSt.new.run (pre.map cutN) = rn at *
    have HWr := hid (fun X w3 (hX : Below W.heap.size W X) (hF3 : Fr (TouchD Z w.heap.size X) X w3) => show Calls Tryz.prog 12 #[.pointer (some ⟨w1.heap.size + 1, 0, none⟩), .string (mkB q.1 ++ ⟨#[10]⟩)] w3 (fun e w4 => (∃ v, e = .returned v) ∧ BldR (w1.heap.size + 5) (w1.heap.size + 1) (rn ++ (q.1 ++ [10])) w4 ∧ Below (w1.heap.size + 1) w3 w4 ∧ Fr (fun i => SB w3 i ∧ (i = w1.heap.size + 1 ∨ w1.heap.size + 5 ≤ i)) w3 w4) from by
      have e1 : (mkB q.1 ++ ⟨#[10]⟩ : ByteArray) = mkB (q.1 ++ [10]) := by rw [← mkB_append]; rfl
      rw [e1]
      have hX2 : BldR (w1.heap.size + 5) (w1.heap.size + 1) rn X := h2.fr (S := fun _ => False) (Fr.ofB hX) (fun h => h) (fun _ _ _ h => h)
      have hX3 : BldR (w1.heap.size + 5) (w1.heap.size + 1) rn w3 := hX2.fr hF3 (fun hs => hs.2 hX2.sb.keep) (fun i hi _ hs => hs.2 hi.keep)
      exact write_bldR (w1.heap.size + 5) (w1.heap.size + 1) rn (q.1 ++ [10]) w3 hX3 (by omega) (by omega) (by rw [List.length_append, List.length_singleton]; omega) (by have := hX.size; have := hF3.size; omega))
    have Hpost := hid (fun X w3 w4 (hX : Below W.heap.size W X) (hD3 : DeskW Z w.heap.size w3 d q.2) (hF3 : Fr (TouchD Z w.heap.size X) X w3) (hR4 : BldR (w1.heap.size + 5) (w1.heap.size + 1) (rn ++ (q.1 ++ [10])) w4) (hb4 : Below (w1.heap.size + 1) w3 w4) (hF4 : Fr (fun i => SB w3 i ∧ (i = w1.heap.size + 1 ∨ w1.heap.size + 5 ≤ i)) w3 w4) => show boxPost (w1.heap.size + 1 + 1) wL.heap.size Is (pre ++ [x]) W .normal ⟨#[], []⟩ w4 from by
      have hB3 : Blk w3 w1.heap.size 37 #[.pointer (some ⟨d, 0, none⟩)] := (h3.belowS hX).keepD hF3 tyPD
      refine ⟨?_, fun i hi => ?_⟩
      · rw [hIs]
        show DeskV _ _ _ _ (RSt.new.all ((pre ++ [x]).map cutN)) ∧ (BldR _ _ (RSt.new.run ((pre ++ [x]).map cutN)) _ ∧ _) ∧ _ ∧ _
        rw [hS1, hS2, ← hZ]
        refine ⟨(hD3.frSB hF4 (fun _ h => h.1)).deskV, ⟨hR4, ?_⟩, hB3.fr hF4 (fun h => SB.not hB3 (by decide) (by decide) h.1), ?_⟩
        · rw [List.length_append, List.length_append, List.length_append, List.length_singleton, List.length_singleton]
          omega
        · have hw : w.heap.size ≤ X.heap.size := Nat.le_trans h4.size hX.size
          exact ((h4.trans (hX.mono h4.size)).trans (hF3.below0 hw (fun i hi => hi.1))).trans (hb4.mono (by omega))
      · have hi' : Z i := by rw [hZ]; exact hi
        have hlt3 := hZ3 i hi'
        have hiX : i < X.heap.size := by have := hX.size; omega
        have a1 := hF3.block i hiX (fun hs => hs.2 ⟨hiX, .inr hi'⟩)
        have a2 := hF4.block i (Nat.lt_of_lt_of_le hiX hF3.size) (fun hs => by omega)
        exact a2.trans (a1.trans (hX.block i (by omega))))
    have q1 : ¬ 9223372036854775807 < q.1.length + 1 := by omega
    have hqs := mkB_size q.1
    have hcp : W.cell? ⟨w1.heap.size, 0, none⟩ = some (.pointer (some ⟨d, 0, none⟩)) := h3.cell 0
    clear h1 h2 h3 h4 hDk hS1 hS2 hal hpl hcl hTB hq hrun hx hwL hIs hsz hBs hBd hb12 hBb hlines hlt h2l hxl hZ3
    have hmx : Tryz.prog.follows .mixedOrders = true := by kernel_rfl
    gi_wp2
    gi_region_with_o (first | (refine ⟨trivial, ?_⟩; gi_at_call 14; refine (CallsIn.inRound l (callsIn_wide.2 (HTm.out _))).mono ?_; rintro e wt ⟨rfl, rfl⟩) | (refine ⟨trivial, ?_⟩; gi_at_call 13; refine (CallsIn.inRound l (callsIn_wide.2 (HAn.out _ (by (repeat (first | with_reducible exact Below.refl _ _ | with_reducible assumption | (with_reducible refine Below.drew ?_) | (with_reducible refine Below.manyDrew ?_ _) | ((with_reducible refine Below.alloc ?_ ?_ _); rotate_left; (focus (first | omega | (dsimp only; omega) | (simp; done) | (simp; omega)))) | ((with_reducible refine Below.setCell ?_ ?_ _); rotate_left; (focus (first | omega | (dsimp only; omega) | (simp; done) | (simp; omega)))) | ((with_reducible refine Below.step ?_ (by assumption) ?_); rotate_left; (focus (first | omega | (dsimp only; omega) | (simp; done) | (simp; omega)))))))))).mono ?_; rintro e w3 ⟨rfl, hD3, hF3⟩) | (refine ⟨trivial, ?_⟩; gi_at_call 12; refine (CallsIn.inRound l (callsIn_wide.2 (HWr.out _ _ (by (repeat (first | with_reducible exact Below.refl _ _ | with_reducible assumption | (with_reducible refine Below.drew ?_) | (with_reducible refine Below.manyDrew ?_ _) | ((with_reducible refine Below.alloc ?_ ?_ _); rotate_left; (focus (first | omega | (dsimp only; omega) | (simp; done) | (simp; omega)))) | ((with_reducible refine Below.setCell ?_ ?_ _); rotate_left; (focus (first | omega | (dsimp only; omega) | (simp; done) | (simp; omega)))) | ((with_reducible refine Below.step ?_ (by assumption) ?_); rotate_left; (focus (first | omega | (dsimp only; omega) | (simp; done) | (simp; omega))))))) hF3))).mono ?_; rintro e w4 ⟨⟨v, rfl⟩, hR4, hb4, hF4⟩))
    all_goals exact Hpost.out _ _ _ (by (repeat (first | with_reducible exact Below.refl _ _ | with_reducible assumption | (with_reducible refine Below.drew ?_) | (with_reducible refine Below.manyDrew ?_ _) | ((with_reducible refine Below.alloc ?_ ?_ _); rotate_left; (focus (first | omega | (dsimp only; omega) | (simp; done) | (simp; omega)))) | ((with_reducible refine Below.setCell ?_ ?_ _); rotate_left; (focus (first | omega | (dsimp only; omega) | (simp; done) | (simp; omega)))) | ((with_reducible refine Below.step ?_ (by assumption) ?_); rotate_left; (focus (first | omega | (dsimp only; omega) | (simp; done) | (simp; omega))))))) hD3 hF3 hR4 hb4 hF4
  case done =>
    intro W hi hW
    rw [hIs] at hi
    obtain ⟨h1, ⟨h2, -⟩, h3, h4⟩ := hi
    have hWz : wL.heap.size < W.heap.size := (Array.getElem?_eq_some_iff.1 hW).1
    have HSt := hid (bld_text_k (w1.heap.size + 1) (w1.heap.size + 1) _ W (h2.at (by omega)) (by omega))
    have HW := hid hW
    have Hz := hid (And.intro hsz hz1)
    have H4 := hid h4
    clear h1 h2 h3 h4 hwL hIs hsz hBs hBd hb12 hBb hlines hz1 hW
    gi_wp2_with (refine ⟨trivial, ?_⟩; gi_at_call 15; refine (callsIn_wide.2 HSt.out).mono ?_; rintro e w9 ⟨rfl, hb9, ho9⟩)
    obtain ⟨hsz, hz1⟩ := Hz.out
    have hK := ho9 _ _ HW.out (fun e => by injection e with e; omega) (fun c fz e => by cases e)
    refine ⟨by simp, .inl ⟨_, _, rfl, run_takeDeferred hK, ?_⟩⟩
    have hFr : Fr (fun i => i = wL.heap.size) w9 (w9.putObj wL.heap.size (.deferred none)) := (Fr.refl _ _).grown (grownBy_putObj' _ wL.heap.size _) (fun k e => by cases e; exact .inl rfl)
    have hz4 := H4.out.size
    have hz9 := hb9.size
    refine ⟨.string (mkB (RSt.new.run (List.map cutN (linesL t)))), by simp [results, Tryz.f6, go_sem], rfl, ?_⟩
    exact (H4.out.trans (hb9.mono (by omega))).trans (hFr.below0 (by omega) (fun i hi => by omega))
theorem run_long (t : Tx) (ht : 3000 < t.length) (w : World) : Calls Tryz.prog 6 #[.string (mkB t)] w fun e w' => e = .returned (.string (mkB longT)) ∧ Below w.heap.size w w' := by
  have hsz0 := mkB_size t
  have h3 : (3000 : Int) < (t.length : Int) := by omega
  go_enter Tryz.func6, Tryz.ntmps6
  go_wp2_with fail
  go_ret
  exact ⟨rfl, Below.refl _ _⟩
/-- run.Run -/
theorem run_any (t : Tx) (_hl : t.length ≤ maxLen) (w : World) (hT : Tr w) : Calls Tryz.prog 6 #[.string (mkB t)] w fun e w' => e = .returned (.string (mkB (runT t))) ∧ Below w.heap.size w w' := by
  unfold runT
  split
  · rename_i h
    exact run_long t h w
  · rename_i h
    exact run_short t (by omega) w hT
end Go.Proofs.YtemhdfodghfkfaaGreatDoor
