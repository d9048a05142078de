/-
  WHAT A LOG IS in memory; THE CONTRACTS of package log's small functions: New, step, Fail, Sync, Bytes, Safe, Seq, Read. CONDITIONS: none.
-/
import Derived.Test.YtljkclebcoanaaaDoorLogRedo
import Derived.Deep.DeepCutAuto
import Derived.Deep.CutBlock
import Derived.BigQuiet
namespace Go.Proofs.YtljkclebcoanaaaDoor
open Go.RowKit
open Go.ChangeShapes Go.WideShapes Go.ChangeAt

theorem Fr.own1 {w X : World} {l : Nat} (h : Fr (fun i => i = l) w X) (o : Nat) (v : Value) : Fr (fun i => i = l) w (X.setCell ⟨l, o, none⟩ v) := h.setCell (p := ⟨l, o, none⟩) (.inl (show l = l from rfl)) v
/-- the cells of a log -/
def LG.cells (G : LG) (s : Nat) : Array Value := #[.pointer (some ⟨s, 0, none⟩), .string (mkB G.bs), .int .i64 G.safe, .int .i64 G.left, .bool G.stopped]
/-- the blocks of a log -/
def FL (l s : Nat) (vs : List Value) (i : Nat) : Prop := i = l ∨ FS s vs i
/-- the log at l: its store at s has the deeds D -/
structure LogP (base : Nat) (w : World) (l s : Nat) (vs : List Value) (G : LG) (D : List E) : Prop where
  blk : Blk w l 35 (G.cells s)
  st : StoreO base w s vs (lsOf D) D.length
  stp : StP (lsOf D) D.length
  ne : ¬ FS s vs l
  base : base ≤ l
section
variable {base l s : Nat} {w w' : World} {vs : List Value} {G : LG} {D : List E}
theorem LogP.fr {S : Nat → Prop} (h : LogP base w l s vs G D) (hf : Fr S w w') (hS : ∀ i, FL l s vs i → ¬ S i) : LogP base w' l s vs G D :=
  ⟨h.blk.fr hf (hS l (.inl rfl)), h.st.fr hf (hS s (.inr (.inl rfl))) (fun k hk g hg => hS g (.inr (.inr ⟨k, hk, hg.symm⟩))), h.stp, h.ne, h.base⟩
theorem LogP.belowS (h : LogP base w l s vs G D) (hb : Below w.heap.size w w') : LogP base w' l s vs G D := h.fr (S := fun _ => False) (Fr.ofB hb) (fun _ _ h => h)
theorem LogP.lt (h : LogP base w l s vs G D) {i : Nat} (hi : FL l s vs i) : base ≤ i ∧ i < w.heap.size := by
  rcases hi with rfl | hi
  · exact ⟨h.base, h.blk.lt⟩
  · exact h.st.fsr hi
end
/-- what a call leaves of a log -/
def LRes (base l s : Nat) (vs : List Value) (w : World) (G : LG) (w' : World) : Prop :=
  ∃ s' vs', LogP base w' l s' vs' G G.D ∧ Fr (FL l s vs) w w' ∧ ∀ i, FL l s' vs' i → FL l s vs i ∨ w.heap.size ≤ i
theorem LRes.same {base l s : Nat} {vs : List Value} {w w' : World} {G : LG} (h : LogP base w l s vs G G.D) (hb : Below w.heap.size w w') : LRes base l s vs w G w' :=
  ⟨s, vs, h.belowS hb, Fr.ofB hb, fun _ h => .inl h⟩

set_option maxRecDepth 100000 in
theorem lnew_any (w : World) : Calls Tryd.prog 4 #[] w fun e w' => ∃ l s vs, e = .returned (.pointer (some ⟨l, 0, none⟩)) ∧ LogP w.heap.size w' l s vs LG.new LG.new.D ∧ Below w.heap.size w w' := by
  go_enter Tryd.func4, Tryd.ntmps4
  go_wp2_with fail
  refine (snew_any w).mono ?_
  rintro e w1 ⟨rfl, hO1, hb1⟩
  have hz1 := hb1.size
  have hl1 := hO1.lt
  have Hf := hid (show LogP w.heap.size (w1.alloc (.cells (LG.new.cells w.heap.size) 35)) w1.heap.size w.heap.size (List.replicate 8 nilS) LG.new LG.new.D ∧ Below w.heap.size w (w1.alloc (.cells (LG.new.cells w.heap.size) 35)) from
    ⟨⟨Blk.new _ _ _, by show StoreO _ _ _ _ (lsOf []) _; rw [lsOf_nil]; exact hO1.belowS ((Below.refl _ _).alloc (Nat.le_refl _) _), by show StP (lsOf []) _; rw [lsOf_nil]; exact StP.new, fun h => by
      have := (hO1.fsr h).2
      omega, hz1⟩, hb1.alloc hz1 _⟩)
  clear hO1 hb1
  go_wp2_with fail
  go_ret
  exact ⟨w1.heap.size, w.heap.size, _, rfl, Hf.out⟩

/-- a log's block with the fields of a step -/
theorem LG.cells_step (G : LG) (s : Nat) : ((G.cells s).setIfInBounds 4 (.bool (decide (G.left = 0)))).setIfInBounds 3 (.int .i64 (max (-1) (G.left - 1))) = G.step.cells s := rfl

set_option maxHeartbeats 2000000 in
set_option maxRecDepth 100000 in
theorem step_any (l s : Nat) (G : LG) (hG : -1 ≤ G.left ∧ G.left ≤ 9223372036854775807) (w : World) (hB : Blk w l 35 (G.cells s)) :
    Calls Tryd.prog 20 #[.pointer (some ⟨l, 0, none⟩)] w fun e w' => e = .returned (.bool (decide (G.left = 0))) ∧ Blk w' l 35 (G.step.cells s) ∧ Fr (fun i => i = l) w w' := by
  have c3 : w.cell? ⟨l, 3, none⟩ = some (.int .i64 G.left) := hB.cell 3
  have c4 : w.cell? ⟨l, 4, none⟩ = some (.bool G.stopped) := hB.cell 4
  have f3 := hB.frozen 3
  have f4 := hB.frozen 4
  have hlt := hB.lt
  have H1 := hB.put 4 (.bool (decide (G.left = 0)))
  have H2 := H1.put 3 (.int .i64 (max (-1) (G.left - 1)))
  rw [LG.cells_step] at H2
  have hF : Fr (fun i => i = l) w ((w.setCell ⟨l, 4, none⟩ (.bool (decide (G.left = 0)))).setCell ⟨l, 3, none⟩ (.int .i64 (max (-1) (G.left - 1)))) := ((Fr.refl _ _).own1 _ _).own1 _ _
  have HF := hid (And.intro H2 hF)
  have Hz := hid hG
  clear H1 H2 hF hB
  generalize G.step.cells s = cs at *
  obtain ⟨G0, Gb, Gs, Gl, Gst⟩ := G
  simp only at c3 c4 HF Hz ⊢
  have hw : wrap64 (Gl - 1) = Gl - 1 := by have := Hz.out; unfold wrap64; omega
  go_enter Tryd.func20, Tryd.ntmps20
  go_wp2_with fail
  go_ret
  exact ⟨rfl, HF.out⟩

set_option maxRecDepth 100000 in
theorem lbytes_any {base l s : Nat} {vs : List Value} {G : LG} {D : List E} (w : World) (h : LogP base w l s vs G D) (_hb : G.bs.length ≤ 57000) : Calls Tryd.prog 6 #[.pointer (some ⟨l, 0, none⟩)] w fun e w' => e = .returned (.int .i64 (G.bs.length : Nat)) ∧ w = w' := by
  have c1 : w.cell? ⟨l, 1, none⟩ = some (.string (mkB G.bs)) := h.blk.cell 1
  have hl := h.blk.lt
  have hz := mkB_size G.bs
  clear h
  generalize mkB G.bs = B at *
  go_enter Tryd.func6, Tryd.ntmps6
  go_wp2_with fail
  go_ret
  exact ⟨rfl, rfl⟩
set_option maxRecDepth 100000 in
theorem lseq_any {base l s : Nat} {vs : List Value} {G : LG} {D : List E} (w : World) (h : LogP base w l s vs G D) : Calls Tryd.prog 8 #[.pointer (some ⟨l, 0, none⟩)] w fun e w' => e = .returned (.int .i64 (D.length : Nat)) ∧ w = w' := by
  have c0 : w.cell? ⟨l, 0, none⟩ = some (.pointer (some ⟨s, 0, none⟩)) := h.blk.cell 0
  have hl := h.blk.lt
  have HS := hid (sseq_any base s vs (lsOf D) D.length w h.st)
  clear h
  go_enter Tryd.func8, Tryd.ntmps8
  go_wp2_with fail
  refine HS.out.mono ?_
  rintro e w1 ⟨rfl, rfl⟩
  go_wp2_with fail
  go_ret
  exact ⟨rfl, rfl⟩
theorem LogP.step {base l s : Nat} {vs : List Value} {G : LG} {D : List E} {w w' : World} (h : LogP base w l s vs G D) {G' : LG} (hB : Blk w' l 35 (G'.cells s)) (hF : Fr (fun i => i = l) w w') : LogP base w' l s vs G' D :=
  ⟨hB, h.st.fr hF (fun e => h.ne (e ▸ .inl rfl)) (fun k hk _ hg e => h.ne (e ▸ .inr ⟨k, hk, hg.symm⟩)), h.stp, h.ne, h.base⟩
theorem LRes.of {base l s : Nat} {vs : List Value} {G G' : LG} {w w' : World} (h : LogP base w l s vs G G.D) (hB : Blk w' l 35 (G'.cells s)) (hF : Fr (fun i => i = l) w w') (hD : G'.D = G.D) : LRes base l s vs w G' w' :=
  ⟨s, vs, by rw [hD]; exact h.step hB hF, hF.mono (fun i _ hi => .inl hi), fun _ h => .inl h⟩

end Go.Proofs.YtljkclebcoanaaaDoor
