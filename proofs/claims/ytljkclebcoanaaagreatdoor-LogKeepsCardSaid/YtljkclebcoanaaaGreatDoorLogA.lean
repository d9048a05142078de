/-
  WHAT A LOG IS in memory; THE CONTRACTS of package log's small functions: New, step, Fail, Sync, Bytes, Safe, Seq, Read. CONDITIONS: none.
-/
import Derived.Test.YtljkclebcoanaaaGreatDoorLogRedo
import Derived.Deep.DeepCutAuto
import Derived.Deep.CutBlock
import Derived.BigQuiet
namespace Go.Proofs.YtljkclebcoanaaaGreatDoor
open Go.RowKit
open Go.ChangeShapes Go.WideShapes Go.ChangeAt

theorem Fr.own1 {w X : World} {l : Nat} (h : Fr (fun i => i = l) w X) (o : Nat) (v : Value) : Fr (fun i => i = l) w (X.setCell ⟨l, o, none⟩ v) := h.setCell (p := ⟨l, o, none⟩) (.inl (show l = l from rfl)) v
/-- the cells of a log -/
def LG.cells (G : LG) (s : Nat) : Array Value := #[.pointer (some ⟨s, 0, none⟩), .string (mkB G.bs), .int .i64 G.safe, .int .i64 G.left, .bool G.stopped]
/-- the blocks of a log -/
def FL (l s : Nat) (vs : List Value) (i : Nat) : Prop := i = l ∨ FS s vs i
/-- the log at l: its store at s has the deeds D -/
structure LogP (base : Nat) (w : World) (l s : Nat) (vs : List Value) (G : LG) (D : List E) : Prop where
  blk : Blk w l 54 (G.cells s)
  st : StoreO base w s vs (lsOf D) D.length
  stp : StP (lsOf D) D.length
  ne : ¬ FS s vs l
  base : base ≤ l
section
variable {base l s : Nat} {w w' : World} {vs : List Value} {G : LG} {D : List E}
theorem LogP.fr {S : Nat → Prop} (h : LogP base w l s vs G D) (hf : Fr S w w') (hS : ∀ i, FL l s vs i → ¬ S i) : LogP base w' l s vs G D :=
  ⟨h.blk.fr hf (hS l (.inl rfl)), h.st.fr hf (hS s (.inr (.inl rfl))) (fun k hk g hg => hS g (.inr (.inr ⟨k, hk, hg.symm⟩))), h.stp, h.ne, h.base⟩
theorem LogP.belowS (h : LogP base w l s vs G D) (hb : Below w.heap.size w w') : LogP base w' l s vs G D := h.fr (S := fun _ => False) (Fr.ofB hb) (fun _ _ h => h)
theorem LogP.lt (h : LogP base w l s vs G D) {i : Nat} (hi : FL l s vs i) : base ≤ i ∧ i < w.heap.size := by
  rcases hi with rfl | hi
  · exact ⟨h.base, h.blk.lt⟩
  · exact h.st.fsr hi
end
/-- what a call leaves of a log -/
def LRes (base l s : Nat) (vs : List Value) (w : World) (G : LG) (w' : World) : Prop :=
  ∃ s' vs', LogP base w' l s' vs' G G.D ∧ Fr (FL l s vs) w w' ∧ ∀ i, FL l s' vs' i → FL l s vs i ∨ w.heap.size ≤ i
theorem LRes.same {base l s : Nat} {vs : List Value} {w w' : World} {G : LG} (h : LogP base w l s vs G G.D) (hb : Below w.heap.size w w') : LRes base l s vs w G w' :=
  ⟨s, vs, h.belowS hb, Fr.ofB hb, fun _ h => .inl h⟩

set_option maxRecDepth 100000 in
theorem lnew_any (w : World) : Calls Tryz.prog 5 #[] w fun e w' => ∃ l s vs, e = .returned (.pointer (some ⟨l, 0, none⟩)) ∧ LogP w.heap.size w' l s vs LG.new LG.new.D ∧ Below w.heap.size w w' := by
  go_enter Tryz.func5, Tryz.ntmps5
  go_wp2_with fail
  refine (snew_any w).mono ?_
  rintro e w1 ⟨rfl, hO1, hb1⟩
  have hz1 := hb1.size
  have hl1 := hO1.lt
  have Hf := hid (show LogP w.heap.size (w1.alloc (.cells (LG.new.cells w.heap.size) 54)) w1.heap.size w.heap.size (List.replicate 8 nilS) LG.new LG.new.D ∧ Below w.heap.size w (w1.alloc (.cells (LG.new.cells w.heap.size) 54)) from
    ⟨⟨Blk.new _ _ _, by show StoreO _ _ _ _ (lsOf []) _; rw [lsOf_nil]; exact hO1.belowS ((Below.refl _ _).alloc (Nat.le_refl _) _), by show StP (lsOf []) _; rw [lsOf_nil]; exact StP.new, fun h => by
      have := (hO1.fsr h).2
      omega, hz1⟩, hb1.alloc hz1 _⟩)
  clear hO1 hb1
  go_wp2_with fail
  go_ret
  exact ⟨w1.heap.size, w.heap.size, _, rfl, Hf.out⟩

/-- a log's block with the fields of a step -/
theorem LG.cells_step (G : LG) (s : Nat) : ((G.cells s).setIfInBounds 4 (.bool (decide (G.left = 0)))).setIfInBounds 3 (.int .i64 (max (-1) (G.left - 1))) = G.step.cells s := rfl

set_option maxHeartbeats 2000000 in
set_option maxRecDepth 100000 in
theorem step_any (l s : Nat) (G : LG) (hG : -1 ≤ G.left ∧ G.left ≤ 9223372036854775807) (w : World) (hB : Blk w l 54 (G.cells s)) :
    Calls Tryz.prog 24 #[.pointer (some ⟨l, 0, none⟩)] w fun e w' => e = .returned (.bool (decide (G.left = 0))) ∧ Blk w' l 54 (G.step.cells s) ∧ Fr (fun i => i = l) w w' := by
  have c3 : w.cell? ⟨l, 3, none⟩ = some (.int .i64 G.left) := hB.cell 3
  have c4 : w.cell? ⟨l, 4, none⟩ = some (.bool G.stopped) := hB.cell 4
  have f3 := hB.frozen 3
  have f4 := hB.frozen 4
  have hlt := hB.lt
  have H1 := hB.put 4 (.bool (decide (G.left = 0)))
  have H2 := H1.put 3 (.int .i64 (max (-1) (G.left - 1)))
  rw [LG.cells_step] at H2
  have hF : Fr (fun i => i = l) w ((w.setCell ⟨l, 4, none⟩ (.bool (decide (G.left = 0)))).setCell ⟨l, 3, none⟩ (.int .i64 (max (-1) (G.left - 1)))) := ((Fr.refl _ _).own1 _ _).own1 _ _
  have HF := hid (And.intro H2 hF)
  have Hz := hid hG
  clear H1 H2 hF hB
  generalize G.step.cells s = cs at *
  obtain ⟨G0, Gb, Gs, Gl, Gst⟩ := G
  simp only at c3 c4 HF Hz ⊢
  have hw : wrap64 (Gl - 1) = Gl - 1 := by have := Hz.out; unfold wrap64; omega
  go_enter Tryz.func24, Tryz.ntmps24
  go_wp2_with fail
  go_ret
  exact ⟨rfl, HF.out⟩

set_option maxRecDepth 100000 in
theorem lbytes_any {base l s : Nat} {vs : List Value} {G : LG} {D : List E} (w : World) (h : LogP base w l s vs G D) (_hb : G.bs.length ≤ 57000) : Calls Tryz.prog 15 #[.pointer (some ⟨l, 0, none⟩)] w fun e w' => e = .returned (.int .i64 (G.bs.length : Nat)) ∧ w = w' := by
  have c1 : w.cell? ⟨l, 1, none⟩ = some (.string (mkB G.bs)) := h.blk.cell 1
  have hl := h.blk.lt
  have hz := mkB_size G.bs
  clear h
  generalize mkB G.bs = B at *
  go_enter Tryz.func15, Tryz.ntmps15
  go_wp2_with fail
  go_ret
  exact ⟨rfl, rfl⟩
set_option maxRecDepth 100000 in
theorem lsafe_any {base l s : Nat} {vs : List Value} {G : LG} {D : List E} (w : World) (h : LogP base w l s vs G D) : Calls Tryz.prog 14 #[.pointer (some ⟨l, 0, none⟩)] w fun e w' => e = .returned (.int .i64 (G.safe : Nat)) ∧ w = w' := by
  have c1 : w.cell? ⟨l, 2, none⟩ = some (.int .i64 G.safe) := h.blk.cell 2
  have hl := h.blk.lt
  clear h
  go_enter Tryz.func14, Tryz.ntmps14
  go_wp2_with fail
  go_ret
  exact ⟨rfl, rfl⟩
set_option maxRecDepth 100000 in
theorem lseq_any {base l s : Nat} {vs : List Value} {G : LG} {D : List E} (w : World) (h : LogP base w l s vs G D) : Calls Tryz.prog 12 #[.pointer (some ⟨l, 0, none⟩)] w fun e w' => e = .returned (.int .i64 (D.length : Nat)) ∧ w = w' := by
  have c0 : w.cell? ⟨l, 0, none⟩ = some (.pointer (some ⟨s, 0, none⟩)) := h.blk.cell 0
  have hl := h.blk.lt
  have HS := hid (sseq_any base s vs (lsOf D) D.length w h.st)
  clear h
  go_enter Tryz.func12, Tryz.ntmps12
  go_wp2_with fail
  refine HS.out.mono ?_
  rintro e w1 ⟨rfl, rfl⟩
  go_wp2_with fail
  go_ret
  exact ⟨rfl, rfl⟩
set_option maxRecDepth 100000 in
theorem lfail_any {base l s : Nat} {vs : List Value} {G : LG} {D : List E} (n : Int) (w : World) (h : LogP base w l s vs G D) : Calls Tryz.prog 6 #[.pointer (some ⟨l, 0, none⟩), .int .i64 n] w fun e w' => (∃ v, e = .returned v) ∧ LogP base w' l s vs (G.fail n) D ∧ Fr (fun i => i = l) w w' := by
  have c3 : w.cell? ⟨l, 3, none⟩ = some (.int .i64 G.left) := h.blk.cell 3
  have f3 := h.blk.frozen 3
  have hl := h.blk.lt
  have hF : Fr (fun i => i = l) w (w.setCell ⟨l, 3, none⟩ (.int .i64 (max (-1) n))) := (Fr.refl _ _).own1 _ _
  have hH : LogP base (w.setCell ⟨l, 3, none⟩ (.int .i64 (max (-1) n))) l s vs (G.fail n) D :=
    ⟨h.blk.put 3 _, h.st.fr hF (fun e => h.ne (e ▸ .inl rfl)) (fun k hk _ hg e => h.ne (e ▸ .inr ⟨k, hk, hg.symm⟩)), h.stp, h.ne, h.base⟩
  have Hf := hid (And.intro hH hF)
  clear h hF hH
  go_enter Tryz.func6, Tryz.ntmps6
  go_wp2_with fail
  go_end0
  exact ⟨⟨_, rfl⟩, Hf.out⟩
theorem LogP.step {base l s : Nat} {vs : List Value} {G : LG} {D : List E} {w w' : World} (h : LogP base w l s vs G D) {G' : LG} (hB : Blk w' l 54 (G'.cells s)) (hF : Fr (fun i => i = l) w w') : LogP base w' l s vs G' D :=
  ⟨hB, h.st.fr hF (fun e => h.ne (e ▸ .inl rfl)) (fun k hk _ hg e => h.ne (e ▸ .inr ⟨k, hk, hg.symm⟩)), h.stp, h.ne, h.base⟩
theorem LRes.of {base l s : Nat} {vs : List Value} {G G' : LG} {w w' : World} (h : LogP base w l s vs G G.D) (hB : Blk w' l 54 (G'.cells s)) (hF : Fr (fun i => i = l) w w') (hD : G'.D = G.D) : LRes base l s vs w G' w' :=
  ⟨s, vs, by rw [hD]; exact h.step hB hF, hF.mono (fun i _ hi => .inl hi), fun _ h => .inl h⟩

set_option maxHeartbeats 2000000 in
set_option maxRecDepth 100000 in
theorem lsync_any {base l s : Nat} {vs : List Value} {G : LG} (hG : G.ok) (w : World) (h : LogP base w l s vs G G.D) : Calls Tryz.prog 9 #[.pointer (some ⟨l, 0, none⟩)] w fun e w' => e = .returned (errV G.sync.1) ∧ LRes base l s vs w G.sync.2 w' := by
  have c4 : w.cell? ⟨l, 4, none⟩ = some (.bool G.stopped) := h.blk.cell 4
  have hl := h.blk.lt
  have hlen := hG.len
  rcases hst : G.stopped with _ | _
  · have HS := hid (step_any l s G hG.left w h.blk)
    rw [hst] at c4
    by_cases h0 : G.left = 0
    · have e1 : G.sync = (6, G.step) := by unfold LG.sync; rw [hst, if_neg (by decide), if_pos h0]
      rw [show decide (G.left = 0) = true from decide_eq_true h0] at HS
      have Hf := hid (fun w' (hB : Blk w' l 54 (G.step.cells s)) (hF : Fr (fun i => i = l) w w') => LRes.of h hB hF rfl)
      rw [e1, errV_ne (show (6 : Int) ≠ 0 by decide)]
      clear hst e1 h h0 hG
      generalize G.step = G' at *
      go_enter Tryz.func9, Tryz.ntmps9
      go_wp2_with fail
      refine HS.out.mono ?_
      rintro e w1 ⟨rfl, hB1, hF1⟩
      have Hf1 := hid (Hf.out w1 hB1 hF1)
      clear hB1 hF1
      go_wp2_with fail
      go_ret
      exact ⟨rfl, Hf1.out⟩
    · have e1 : G.sync = (0, { G.step with safe := G.bs.length }) := by unfold LG.sync; rw [hst, if_neg (by decide), if_neg h0]
      rw [show decide (G.left = 0) = false from decide_eq_false h0] at HS
      have Hf := hid (fun w1 (hB : Blk w1 l 54 (G.step.cells s)) (hF : Fr (fun i => i = l) w w1) => (show LRes base l s vs w { G.step with safe := G.bs.length } (w1.setCell ⟨l, 2, none⟩ (.int .i64 (G.bs.length : Nat))) from
        LRes.of h (hB.put 2 (.int .i64 (G.bs.length : Nat))) (hF.own1 _ _) rfl))
      have Hc := hid (fun w1 (hB : Blk w1 l 54 (G.step.cells s)) => (show w1.cell? ⟨l, 1, none⟩ = some (.string (mkB G.bs)) ∧ w1.cell? ⟨l, 2, none⟩ = some (.int .i64 G.safe) ∧ w1.frozen? ⟨l, 2, none⟩ = false ∧ l < w1.heap.size from ⟨hB.cell 1, hB.cell 2, hB.frozen 2, hB.lt⟩))
      have hz := mkB_size G.bs
      rw [e1, errV_zero]
      clear hst e1 h h0 hG
      generalize G.step.cells s = cs at *
      generalize mkB G.bs = B at *
      go_enter Tryz.func9, Tryz.ntmps9
      go_wp2_with fail
      refine HS.out.mono ?_
      rintro e w1 ⟨rfl, hB1, hF1⟩
      obtain ⟨k1, k2, k3, k4⟩ := Hc.out w1 hB1
      have Hf1 := hid (Hf.out w1 hB1 hF1)
      clear hB1 hF1
      go_wp2_with fail
      go_ret
      exact ⟨rfl, Hf1.out⟩
  · have e1 : G.sync = (6, G) := by unfold LG.sync; rw [hst, if_pos rfl]
    rw [hst] at c4
    have Hf := hid (LRes.same (vs := vs) h (Below.refl _ _))
    rw [e1, errV_ne (show (6 : Int) ≠ 0 by decide)]
    clear hst e1 h hG
    go_enter Tryz.func9, Tryz.ntmps9
    go_wp2_with fail
    go_ret
    exact ⟨rfl, Hf.out⟩

set_option maxHeartbeats 4000000 in
set_option maxRecDepth 100000 in
theorem lread_any {base l s : Nat} {vs : List Value} {G : LG} {D : List E} (key : Int) (w : World) (h : LogP base w l s vs G D) :
    Calls Tryz.prog 13 #[.pointer (some ⟨l, 0, none⟩), .int .i64 key] w fun e w' => e = .returned (.tuple #[(ratS D key D.length).1.val, errV (ratS D key D.length).2]) ∧ Below w.heap.size w w' := by
  have c0 : w.cell? ⟨l, 0, none⟩ = some (.pointer (some ⟨s, 0, none⟩)) := h.blk.cell 0
  have hl := h.blk.lt
  have hB0 : Blk (w.alloc (.cells #[.int .i64 0, .int .i64 0, .int .i64 0, .bool false, .string ⟨#[]⟩] 34)) w.heap.size 34 #[.int .i64 0, .int .i64 0, .int .i64 0, .bool false, .string ⟨#[]⟩] := Blk.new w _ _
  have HR := hid (fun W (hW : Below w.heap.size w W) => sread_any base s key vs (lsOf D) D.length W (h.st.belowS hW) h.stp)
  rw [atS_r] at HR
  generalize ratS D key D.length = c at *
  obtain ⟨⟨c0, c1, c2, c3, c4⟩, e0⟩ := c
  clear h
  go_enter Tryz.func13, Tryz.ntmps13
  go_wp2_with fail
  refine (HR.out _ (by (repeat (first | with_reducible exact Below.refl _ _ | with_reducible assumption | (with_reducible refine Below.drew ?_) | (with_reducible refine Below.manyDrew ?_ _) | ((with_reducible refine Below.alloc ?_ ?_ _); rotate_left; (focus (first | omega | (dsimp only; omega) | (simp; done) | (simp; omega)))) | ((with_reducible refine Below.setCell ?_ ?_ _); rotate_left; (focus (first | omega | (dsimp only; omega) | (simp; done) | (simp; omega)))) | ((with_reducible refine Below.step ?_ (by assumption) ?_); rotate_left; (focus (first | omega | (dsimp only; omega) | (simp; done) | (simp; omega)))))))).mono ?_
  unfold E.val
  rintro e w1 ⟨rfl, hb1⟩; obtain ⟨hc1, hf1⟩ := bcell hb1; have hz1 := hb1.size; (try simp only [World.size_alloc] at hz1); (try simp only [World.size_setCell] at hz1)
  have hB1 := hB0.belowS hb1
  have hl1 : w.heap.size < w1.heap.size := by omega
  have g0 := hB1.frozen 0
  have g1 := hB1.frozen 1
  have g2 := hB1.frozen 2
  have g3 := hB1.frozen 3
  have g4 := hB1.frozen 4
  have d0 := hB1.cell 0
  have d1 := hB1.cell 1
  have d2 := hB1.cell 2
  have d3 := hB1.cell 3
  have d4 := hB1.cell 4
  have HB1 := hid hB1
  clear hB0 hB1 HR
  go_wp2_with fail
  refine bodyPost_ret (v := .tuple #[E.val ⟨c0, c1, c2, c3, c4⟩, errV e0]) ?_ rfl ⟨rfl, by (repeat (first | with_reducible exact Below.refl _ _ | with_reducible assumption | (with_reducible refine Below.drew ?_) | (with_reducible refine Below.manyDrew ?_ _) | ((with_reducible refine Below.alloc ?_ ?_ _); rotate_left; (focus (first | omega | (dsimp only; omega) | (simp; done) | (simp; omega)))) | ((with_reducible refine Below.setCell ?_ ?_ _); rotate_left; (focus (first | omega | (dsimp only; omega) | (simp; done) | (simp; omega)))) | ((with_reducible refine Below.step ?_ (by assumption) ?_); rotate_left; (focus (first | omega | (dsimp only; omega) | (simp; done) | (simp; omega))))))⟩
  exact results_box Tryz.results13 rfl (HB1.out.put5 _ _ _ _ _) Tryz.underlying34 rfl (by kernel_rfl)
end Go.Proofs.YtljkclebcoanaaaGreatDoor
