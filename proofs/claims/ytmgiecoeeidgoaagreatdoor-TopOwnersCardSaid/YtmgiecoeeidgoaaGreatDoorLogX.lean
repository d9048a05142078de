/-
  WHAT A LOG IS in memory; THE CONTRACTS of package log's small functions: New, step, Fail, Sync, Bytes, Safe, Seq, Read. CONDITIONS: none.
  THE CONTRACTS of log's keep, Put, Delete, Crash. CONDITIONS: the library's tables read as they are laid (Tv).
  THE CONTRACT of log's Crash. CONDITIONS: the library's tables read as they are laid (TvB).
  A LOG BEHIND A NAME: its store's blocks left open; THE CONTRACTS of package log over it. CONDITIONS: the library's tables read as they are laid (TvB).
-/
import Derived.Test.YtmgiecoeeidgoaaGreatDoorLogDo
import Derived.Deep.DeepCutAuto
import Derived.Deep.CutBlock
import Derived.BigQuiet
namespace Go.Proofs.YtmgiecoeeidgoaaGreatDoor
open Go.RowKit
open Go.ChangeShapes Go.WideShapes Go.ChangeAt

theorem Fr.own1 {w X : World} {l : Nat} (h : Fr (fun i => i = l) w X) (o : Nat) (v : Value) : Fr (fun i => i = l) w (X.setCell ⟨l, o, none⟩ v) := h.setCell (p := ⟨l, o, none⟩) (.inl (show l = l from rfl)) v
/-- the cells of a log -/
def LG.cells (G : LG) (s : Nat) : Array Value := #[.pointer (some ⟨s, 0, none⟩), .string (mkB G.bs), .int .i64 G.safe, .int .i64 G.left, .bool G.stopped]
/-- the blocks of a log -/
def FL (l s : Nat) (vs : List Value) (i : Nat) : Prop := i = l ∨ FS s vs i
/-- the log at l: its store at s has the deeds D -/
structure LogP (base : Nat) (w : World) (l s : Nat) (vs : List Value) (G : LG) (D : List E) : Prop where
  blk : Blk w l 73 (G.cells s)
  st : StoreO base w s vs (lsOf D) D.length
  stp : StP (lsOf D) D.length
  ne : ¬ FS s vs l
  base : base ≤ l
section
variable {base l s : Nat} {w w' : World} {vs : List Value} {G : LG} {D : List E}
theorem LogP.fr {S : Nat → Prop} (h : LogP base w l s vs G D) (hf : Fr S w w') (hS : ∀ i, FL l s vs i → ¬ S i) : LogP base w' l s vs G D :=
  ⟨h.blk.fr hf (hS l (.inl rfl)), h.st.fr hf (hS s (.inr (.inl rfl))) (fun k hk g hg => hS g (.inr (.inr ⟨k, hk, hg.symm⟩))), h.stp, h.ne, h.base⟩
theorem LogP.belowS (h : LogP base w l s vs G D) (hb : Below w.heap.size w w') : LogP base w' l s vs G D := h.fr (S := fun _ => False) (Fr.ofB hb) (fun _ _ h => h)
theorem LogP.lt (h : LogP base w l s vs G D) {i : Nat} (hi : FL l s vs i) : base ≤ i ∧ i < w.heap.size := by
  rcases hi with rfl | hi
  · exact ⟨h.base, h.blk.lt⟩
  · exact h.st.fsr hi
end
/-- what a call leaves of a log -/
def LRes (base l s : Nat) (vs : List Value) (w : World) (G : LG) (w' : World) : Prop :=
  ∃ s' vs', LogP base w' l s' vs' G G.D ∧ Fr (FL l s vs) w w' ∧ ∀ i, FL l s' vs' i → FL l s vs i ∨ w.heap.size ≤ i
theorem LRes.same {base l s : Nat} {vs : List Value} {w w' : World} {G : LG} (h : LogP base w l s vs G G.D) (hb : Below w.heap.size w w') : LRes base l s vs w G w' :=
  ⟨s, vs, h.belowS hb, Fr.ofB hb, fun _ h => .inl h⟩

set_option maxRecDepth 100000 in
theorem lnew_any (w : World) : Calls Tryz.prog 7 #[] w fun e w' => ∃ l s vs, e = .returned (.pointer (some ⟨l, 0, none⟩)) ∧ LogP w.heap.size w' l s vs LG.new LG.new.D ∧ Below w.heap.size w w' := by
  go_enter Tryz.func7, Tryz.ntmps7
  go_wp2_with fail
  refine (snew_any w).mono ?_
  rintro e w1 ⟨rfl, hO1, hb1⟩
  have hz1 := hb1.size
  have hl1 := hO1.lt
  have Hf := hid (show LogP w.heap.size (w1.alloc (.cells (LG.new.cells w.heap.size) 73)) w1.heap.size w.heap.size (List.replicate 8 nilS) LG.new LG.new.D ∧ Below w.heap.size w (w1.alloc (.cells (LG.new.cells w.heap.size) 73)) from
    ⟨⟨Blk.new _ _ _, by show StoreO _ _ _ _ (lsOf []) _; rw [lsOf_nil]; exact hO1.belowS ((Below.refl _ _).alloc (Nat.le_refl _) _), by show StP (lsOf []) _; rw [lsOf_nil]; exact StP.new, fun h => by
      have := (hO1.fsr h).2
      omega, hz1⟩, hb1.alloc hz1 _⟩)
  clear hO1 hb1
  go_wp2_with fail
  go_ret
  exact ⟨w1.heap.size, w.heap.size, _, rfl, Hf.out⟩

/-- a log's block with the fields of a step -/
theorem LG.cells_step (G : LG) (s : Nat) : ((G.cells s).setIfInBounds 4 (.bool (decide (G.left = 0)))).setIfInBounds 3 (.int .i64 (max (-1) (G.left - 1))) = G.step.cells s := rfl

set_option maxHeartbeats 2000000 in
set_option maxRecDepth 100000 in
theorem step_any (l s : Nat) (G : LG) (hG : -1 ≤ G.left ∧ G.left ≤ 9223372036854775807) (w : World) (hB : Blk w l 73 (G.cells s)) :
    Calls Tryz.prog 34 #[.pointer (some ⟨l, 0, none⟩)] w fun e w' => e = .returned (.bool (decide (G.left = 0))) ∧ Blk w' l 73 (G.step.cells s) ∧ Fr (fun i => i = l) w w' := by
  have c3 : w.cell? ⟨l, 3, none⟩ = some (.int .i64 G.left) := hB.cell 3
  have c4 : w.cell? ⟨l, 4, none⟩ = some (.bool G.stopped) := hB.cell 4
  have f3 := hB.frozen 3
  have f4 := hB.frozen 4
  have hlt := hB.lt
  have H1 := hB.put 4 (.bool (decide (G.left = 0)))
  have H2 := H1.put 3 (.int .i64 (max (-1) (G.left - 1)))
  rw [LG.cells_step] at H2
  have hF : Fr (fun i => i = l) w ((w.setCell ⟨l, 4, none⟩ (.bool (decide (G.left = 0)))).setCell ⟨l, 3, none⟩ (.int .i64 (max (-1) (G.left - 1)))) := ((Fr.refl _ _).own1 _ _).own1 _ _
  have HF := hid (And.intro H2 hF)
  have Hz := hid hG
  clear H1 H2 hF hB
  generalize G.step.cells s = cs at *
  obtain ⟨G0, Gb, Gs, Gle, Gst⟩ := G
  simp only at c3 c4 HF Hz ⊢
  have hw : wrap64 (Gle - 1) = Gle - 1 := by have := Hz.out; unfold wrap64; omega
  go_enter Tryz.func34, Tryz.ntmps34
  go_wp2_with fail
  go_ret
  exact ⟨rfl, HF.out⟩

theorem LogP.step {base l s : Nat} {vs : List Value} {G : LG} {D : List E} {w w' : World} (h : LogP base w l s vs G D) {G' : LG} (hB : Blk w' l 73 (G'.cells s)) (hF : Fr (fun i => i = l) w w') : LogP base w' l s vs G' D :=
  ⟨hB, h.st.fr hF (fun e => h.ne (e ▸ .inl rfl)) (fun k hk _ hg e => h.ne (e ▸ .inr ⟨k, hk, hg.symm⟩)), h.stp, h.ne, h.base⟩
theorem LRes.of {base l s : Nat} {vs : List Value} {G G' : LG} {w w' : World} (h : LogP base w l s vs G G.D) (hB : Blk w' l 73 (G'.cells s)) (hF : Fr (fun i => i = l) w w') (hD : G'.D = G.D) : LRes base l s vs w G' w' :=
  ⟨s, vs, by rw [hD]; exact h.step hB hF, hF.mono (fun i _ hi => .inl hi), fun _ h => .inl h⟩

set_option maxHeartbeats 2000000 in
set_option maxRecDepth 100000 in
theorem lsync_any {base l s : Nat} {vs : List Value} {G : LG} (hG : G.ok) (w : World) (h : LogP base w l s vs G G.D) : Calls Tryz.prog 9 #[.pointer (some ⟨l, 0, none⟩)] w fun e w' => e = .returned (errV G.sync.1) ∧ LRes base l s vs w G.sync.2 w' := by
  have c4 : w.cell? ⟨l, 4, none⟩ = some (.bool G.stopped) := h.blk.cell 4
  have hl := h.blk.lt
  have hlen := hG.len
  rcases hst : G.stopped with _ | _
  · have HS := hid (step_any l s G hG.left w h.blk)
    rw [hst] at c4
    by_cases h0 : G.left = 0
    · have e1 : G.sync = (6, G.step) := by unfold LG.sync; rw [hst, if_neg (by decide), if_pos h0]
      rw [show decide (G.left = 0) = true from decide_eq_true h0] at HS
      have Hf := hid (fun w' (hB : Blk w' l 73 (G.step.cells s)) (hF : Fr (fun i => i = l) w w') => LRes.of h hB hF rfl)
      rw [e1, errV_ne (show (6 : Int) ≠ 0 by decide)]
      clear hst e1 h h0 hG
      generalize G.step = G' at *
      go_enter Tryz.func9, Tryz.ntmps9
      go_wp2_with fail
      refine HS.out.mono ?_
      rintro e w1 ⟨rfl, hB1, hF1⟩
      have Hf1 := hid (Hf.out w1 hB1 hF1)
      clear hB1 hF1
      go_wp2_with fail
      go_ret
      exact ⟨rfl, Hf1.out⟩
    · have e1 : G.sync = (0, { G.step with safe := G.bs.length }) := by unfold LG.sync; rw [hst, if_neg (by decide), if_neg h0]
      rw [show decide (G.left = 0) = false from decide_eq_false h0] at HS
      have Hf := hid (fun w1 (hB : Blk w1 l 73 (G.step.cells s)) (hF : Fr (fun i => i = l) w w1) => (show LRes base l s vs w { G.step with safe := G.bs.length } (w1.setCell ⟨l, 2, none⟩ (.int .i64 (G.bs.length : Nat))) from
        LRes.of h (hB.put 2 (.int .i64 (G.bs.length : Nat))) (hF.own1 _ _) rfl))
      have Hc := hid (fun w1 (hB : Blk w1 l 73 (G.step.cells s)) => (show w1.cell? ⟨l, 1, none⟩ = some (.string (mkB G.bs)) ∧ w1.cell? ⟨l, 2, none⟩ = some (.int .i64 G.safe) ∧ w1.frozen? ⟨l, 2, none⟩ = false ∧ l < w1.heap.size from ⟨hB.cell 1, hB.cell 2, hB.frozen 2, hB.lt⟩))
      have hz := mkB_size G.bs
      rw [e1, errV_zero]
      clear hst e1 h h0 hG
      generalize G.step.cells s = cs at *
      generalize mkB G.bs = B at *
      go_enter Tryz.func9, Tryz.ntmps9
      go_wp2_with fail
      refine HS.out.mono ?_
      rintro e w1 ⟨rfl, hB1, hF1⟩
      obtain ⟨k1, k2, k3, k4⟩ := Hc.out w1 hB1
      have Hf1 := hid (Hf.out w1 hB1 hF1)
      clear hB1 hF1
      go_wp2_with fail
      go_ret
      exact ⟨rfl, Hf1.out⟩
  · have e1 : G.sync = (6, G) := by unfold LG.sync; rw [hst, if_pos rfl]
    rw [hst] at c4
    have Hf := hid (LRes.same (vs := vs) h (Below.refl _ _))
    rw [e1, errV_ne (show (6 : Int) ≠ 0 by decide)]
    clear hst e1 h hG
    go_enter Tryz.func9, Tryz.ntmps9
    go_wp2_with fail
    go_ret
    exact ⟨rfl, Hf.out⟩

set_option maxHeartbeats 4000000 in
set_option maxRecDepth 100000 in
theorem lread_any {base l s : Nat} {vs : List Value} {G : LG} {D : List E} (key : Int) (w : World) (h : LogP base w l s vs G D) :
    Calls Tryz.prog 11 #[.pointer (some ⟨l, 0, none⟩), .int .i64 key] w fun e w' => e = .returned (.tuple #[(ratS D key D.length).1.val, errV (ratS D key D.length).2]) ∧ Below w.heap.size w w' := by
  have c0 : w.cell? ⟨l, 0, none⟩ = some (.pointer (some ⟨s, 0, none⟩)) := h.blk.cell 0
  have hl := h.blk.lt
  have hB0 : Blk (w.alloc (.cells #[.int .i64 0, .int .i64 0, .int .i64 0, .bool false, .string ⟨#[]⟩] 38)) w.heap.size 38 #[.int .i64 0, .int .i64 0, .int .i64 0, .bool false, .string ⟨#[]⟩] := Blk.new w _ _
  have HR := hid (fun W (hW : Below w.heap.size w W) => sread_any base s key vs (lsOf D) D.length W (h.st.belowS hW) h.stp)
  rw [atS_r] at HR
  generalize ratS D key D.length = c at *
  obtain ⟨⟨c0, c1, c2, c3, c4⟩, e0⟩ := c
  clear h
  go_enter Tryz.func11, Tryz.ntmps11
  go_wp2_with fail
  refine (HR.out _ (by (repeat (first | with_reducible exact Below.refl _ _ | with_reducible assumption | (with_reducible refine Below.drew ?_) | (with_reducible refine Below.manyDrew ?_ _) | ((with_reducible refine Below.alloc ?_ ?_ _); rotate_left; (focus (first | omega | (dsimp only; omega) | (simp; done) | (simp; omega)))) | ((with_reducible refine Below.setCell ?_ ?_ _); rotate_left; (focus (first | omega | (dsimp only; omega) | (simp; done) | (simp; omega)))) | ((with_reducible refine Below.step ?_ (by assumption) ?_); rotate_left; (focus (first | omega | (dsimp only; omega) | (simp; done) | (simp; omega)))))))).mono ?_
  unfold E.val
  rintro e w1 ⟨rfl, hb1⟩; obtain ⟨hc1, hf1⟩ := bcell hb1; have hz1 := hb1.size; (try simp only [World.size_alloc] at hz1); (try simp only [World.size_setCell] at hz1)
  have hB1 := hB0.belowS hb1
  have hl1 : w.heap.size < w1.heap.size := by omega
  have g0 := hB1.frozen 0
  have g1 := hB1.frozen 1
  have g2 := hB1.frozen 2
  have g3 := hB1.frozen 3
  have g4 := hB1.frozen 4
  have d0 := hB1.cell 0
  have d1 := hB1.cell 1
  have d2 := hB1.cell 2
  have d3 := hB1.cell 3
  have d4 := hB1.cell 4
  have HB1 := hid hB1
  clear hB0 hB1 HR
  go_wp2_with fail
  refine bodyPost_ret (v := .tuple #[E.val ⟨c0, c1, c2, c3, c4⟩, errV e0]) ?_ rfl ⟨rfl, by (repeat (first | with_reducible exact Below.refl _ _ | with_reducible assumption | (with_reducible refine Below.drew ?_) | (with_reducible refine Below.manyDrew ?_ _) | ((with_reducible refine Below.alloc ?_ ?_ _); rotate_left; (focus (first | omega | (dsimp only; omega) | (simp; done) | (simp; omega)))) | ((with_reducible refine Below.setCell ?_ ?_ _); rotate_left; (focus (first | omega | (dsimp only; omega) | (simp; done) | (simp; omega)))) | ((with_reducible refine Below.step ?_ (by assumption) ?_); rotate_left; (focus (first | omega | (dsimp only; omega) | (simp; done) | (simp; omega))))))⟩
  exact results_box Tryz.results11 rfl (HB1.out.put5 _ _ _ _ _) Tryz.underlying38 rfl (by kernel_rfl)
end Go.Proofs.YtmgiecoeeidgoaaGreatDoor
namespace Go.Proofs.YtmgiecoeeidgoaaGreatDoor
open Go.RowKit
open Go.ChangeShapes Go.WideShapes Go.ChangeAt

theorem Tv.belowS {w w' : World} (h : Tv w) (hb : Below w.heap.size w w') : Tv w' := ⟨h.tb.belowS hb, h.ta.belowS hb⟩
/-- what the row's variables hold stands, whatever is done from base on -/
def TvB (base : Nat) (w : World) : Prop := ∀ W, Below base w W → Tv W
theorem Tv.base {w : World} (h : Tv w) : TvB w.heap.size w := fun _ hW => h.belowS hW
theorem TvB.step {base : Nat} {w W : World} (h : TvB base w) (hb : Below base w W) : TvB base W := fun _ hV => h _ (hb.trans hV)
theorem TvB.now {base : Nat} {w : World} (h : TvB base w) : Tv w := h w (Below.refl _ _)
theorem mkB_app (a b : List UInt8) : mkB a ++ mkB b = mkB (a ++ b) := by
  apply ByteArray.ext
  simp [mkB]
theorem run_add_mk {P : Program} (W : World) (a b : List UInt8) (h : a.length + b.length ≤ 1000000) : (Op.stringOp .add (mkB a) (mkB b)).run P W = .ok (.string (mkB (a ++ b))) W := by
  rw [run_string_add_sum W _ _ (by rw [mkB_size, mkB_size]; omega), mkB_app]

set_option maxHeartbeats 4000000 in
set_option maxRecDepth 100000 in
theorem keep_on {base l s : Nat} {vs : List Value} {G : LG} (hG : G.ok) (h0 : ¬ G.left = 0) (D' : List E) (n : Int) (k : Nat) (hk : k < 8) (g : Bool) (t : ByteArray) (ht : t.size ≤ 12) (w : World) (h : LogP base w l s vs G D') (hT : Tb w) :
    Calls Tryz.prog 33 #[.pointer (some ⟨l, 0, none⟩), .int .i64 n, .int .i64 k, .bool g, .string t] w fun e w' => e = .returned (.tuple #[.int .i64 n, .nilIface]) ∧ LRes base l s vs w { G.step with D := D', bs := G.bs ++ recL k g t } w' := by
  have HR := hid (record_any k hk g t ht w hT)
  have hlen := hG.len
  have hrl := recL_le k g t (by omega) ht
  have hl := h.blk.lt
  have HS := hid (fun W (hW : Below w.heap.size w W) => step_any l s G hG.left W (h.belowS hW).blk)
  rw [show decide (G.left = 0) = false from decide_eq_false h0] at HS
  have hq : ∀ W, (Op.stringOp .add (mkB G.bs) (mkB (recL k g t))).run Tryz.prog W = .ok (.string (mkB (G.bs ++ recL k g t))) W := fun W => run_add_mk W _ _ (by omega)
  have Hf := hid (fun w1 w2 (hb : Below w.heap.size w w1) (hB : Blk w2 l 73 (G.step.cells s)) (hF : Fr (fun i => i = l) w1 w2) =>
    (show LRes base l s vs w { G.step with D := D', bs := G.bs ++ recL k g t } (w2.setCell ⟨l, 1, none⟩ (.string (mkB (G.bs ++ recL k g t)))) from
      ⟨s, vs, (h.belowS hb).step (G' := { G.step with D := D', bs := G.bs ++ recL k g t }) (hB.put 1 (.string (mkB (G.bs ++ recL k g t)))) (hF.own1 _ _),
        (Fr.ofB hb).step ((hF.own1 1 (.string (mkB (G.bs ++ recL k g t)))).mono (fun i _ hi => .inl hi)), fun _ h => .inl h⟩))
  have Hc := hid (fun w1 (hB : Blk w1 l 73 (G.step.cells s)) => (show w1.cell? ⟨l, 1, none⟩ = some (.string (mkB G.bs)) ∧ w1.frozen? ⟨l, 1, none⟩ = false ∧ l < w1.heap.size from ⟨hB.cell 1, hB.frozen 1, hB.lt⟩))
  clear h hT hG h0 hlen hrl
  generalize mkB (G.bs ++ recL k g t) = B2 at *
  generalize mkB G.bs = B1 at *
  generalize mkB (recL k g t) = R at *
  generalize { G.step with D := D', bs := G.bs ++ recL k g t } = G' at *
  generalize G.step.cells s = cs at *
  go_enter Tryz.func33, Tryz.ntmps33
  go_wp2_with fail
  refine HR.out.mono ?_
  rintro e w1 ⟨rfl, hb1⟩
  have HS1 := hid (HS.out w1 hb1)
  have Hf1 := hid (fun w2 => Hf.out w1 w2 hb1)
  clear hb1 HS Hf HR
  go_wp2_with fail
  refine HS1.out.mono ?_
  rintro e w2 ⟨rfl, hB2, hF2⟩
  obtain ⟨k1, k2, k3⟩ := Hc.out w2 hB2
  have Hf2 := hid (Hf1.out w2 hB2 hF2)
  clear hB2 hF2 Hf1 HS1
  go_wp2_with fail
  go_ret2
  exact ⟨rfl, Hf2.out⟩

set_option maxHeartbeats 4000000 in
set_option maxRecDepth 100000 in
theorem keep_stop {base l s : Nat} {vs : List Value} {G : LG} (hG : G.ok) (hst : G.stopped = false) (h0 : G.left = 0) (D' : List E) (n : Int) (k : Nat) (hk : k < 8) (g : Bool) (t : ByteArray) (ht : t.size ≤ 12) (w : World) (h : LogP base w l s vs G D') (hT : TvB base w) :
    Calls Tryz.prog 33 #[.pointer (some ⟨l, 0, none⟩), .int .i64 n, .int .i64 k, .bool g, .string t] w fun e w' => e = .returned (.tuple #[.int .i64 0, errV 6]) ∧ LRes base l s vs w { G.step with bs := G.bs ++ halfL (recL k g t) } w' := by
  have HR := hid (record_any k hk g t ht w hT.now.tb)
  have hlen := hG.len
  have hrl := recL_le k g t (by omega) ht
  have hl := h.blk.lt
  have HS := hid (fun W (hW : Below w.heap.size w W) => step_any l s G hG.left W (h.belowS hW).blk)
  rw [show decide (G.left = 0) = true from decide_eq_true h0] at HS
  have hbs : G.bs = bytesL G.D := by
    obtain ⟨p, hp, _, _, hp0⟩ := hG.bs
    rw [hp, hp0 hst, List.append_nil]
  have HRd := hid (fun W (hW : Ta W) => redo_any G.D hG.val hG.many W hW)
  rw [← hbs] at HRd
  have HT := hid (fun W (hW : Below base w W) => (hT W hW).ta)
  have Hne := hid (show (∀ i, FL l s vs i → base ≤ i ∧ i < w.heap.size) ∧ base ≤ l from ⟨fun i hi => h.lt hi, h.base⟩)
  have hq : ∀ W, (Op.stringOp .add (mkB G.bs) (mkB (halfL (recL k g t)))).run Tryz.prog W = .ok (.string (mkB (G.bs ++ halfL (recL k g t)))) W := fun W => run_add_mk W _ _ (by have := halfL_le (recL k g t); omega)
  have hx : (mkB (recL k g t)).extract 0 ((recL k g t).length / 2) = mkB (halfL (recL k g t)) := extract_take _ _
  have hrz := mkB_size (recL k g t)
  have Hl := hid (fun (w1 w2 w3 : World) (s' : Nat) (vs' : List Value) (hb : Below w.heap.size w w1) (hB : Blk w2 l 73 (G.step.cells s)) (hF : Fr (fun i => i = l) w1 w2) (hO : StoreO w2.heap.size w3 s' vs' (lsOf G.D) G.D.length) (hP : StP (lsOf G.D) G.D.length) (hb3 : Below w2.heap.size w2 w3) =>
    (show LRes base l s vs w { G.step with bs := G.bs ++ halfL (recL k g t) } ((w3.setCell ⟨l, 0, none⟩ (.pointer (some ⟨s', 0, none⟩))).setCell ⟨l, 1, none⟩ (.string (mkB (G.bs ++ halfL (recL k g t)))) ).drew ∧ (w3.cell? ⟨l, 0, none⟩ = some (.pointer (some ⟨s, 0, none⟩)) ∧ w3.cell? ⟨l, 1, none⟩ = some (.string (mkB G.bs)) ∧ w3.frozen? ⟨l, 0, none⟩ = false ∧ w3.frozen? ⟨l, 1, none⟩ = false ∧ l < w3.heap.size) from by
      have hz1 := hb.size
      have hz2 := hF.size
      have hz3 := hb3.size
      have hB3 := hB.belowS hb3
      have hlt := hB.lt
      have hfs : ∀ i, FS s' vs' i → w2.heap.size ≤ i := fun i hi => (hO.fsr hi).1
      have hne : ¬ FS s' vs' l := fun h => by have := hfs l h; omega
      have hF4 : Fr (fun i => i = l) w3 ((w3.setCell ⟨l, 0, none⟩ (.pointer (some ⟨s', 0, none⟩))).setCell ⟨l, 1, none⟩ (.string (mkB (G.bs ++ halfL (recL k g t))))).drew := (((Fr.refl _ _).own1 _ _).own1 _ _).drew
      refine ⟨⟨s', vs', ⟨((hB3.put 0 (.pointer (some ⟨s', 0, none⟩))).put 1 (.string (mkB (G.bs ++ halfL (recL k g t))))).drew, (hO.mono (by have := Hne.out.2; omega)).fr hF4 (fun e => hne (e ▸ .inl rfl)) (fun k hk _ hg e => hne (e ▸ .inr ⟨k, hk, hg.symm⟩)), hP, hne, Hne.out.2⟩, ?_, fun i hi => ?_⟩, hB3.cell 0, hB3.cell 1, hB3.frozen 0, hB3.frozen 1, hB3.lt⟩
      · exact ((Fr.ofB hb).step ((hF.stepB hb3).mono (fun i _ hi => .inl hi))).step (hF4.mono (fun i _ hi => .inl hi))
      · rcases hi with hi | hi
        · exact .inl (.inl hi)
        · exact .inr (by have := hfs i hi; omega)))
  have hr56 : (recL k g t).length ≤ 56 := hrl
  rw [errV_ne (show (6 : Int) ≠ 0 by decide)]
  have HcB := hid (fun w2 (hB : Blk w2 l 73 (G.step.cells s)) => (show w2.cell? ⟨l, 1, none⟩ = some (.string (mkB G.bs)) from hB.cell 1))
  clear h hT hG h0 hlen hst hrl hbs
  generalize (recL k g t).length = n0 at *
  generalize mkB (G.bs ++ halfL (recL k g t)) = B2 at *
  generalize mkB (halfL (recL k g t)) = RH at *
  generalize mkB (recL k g t) = R at *
  generalize mkB G.bs = B1 at *
  generalize { G.step with bs := G.bs ++ halfL (recL k g t) } = G' at *
  generalize G.step.cells s = cs at *
  go_enter Tryz.func33, Tryz.ntmps33
  go_wp2_with fail
  refine HR.out.mono ?_
  rintro e w1 ⟨rfl, hb1⟩
  have HS1 := hid (HS.out w1 hb1)
  have Hb1 := hid hb1
  clear hb1 HS HR
  go_wp2_with fail
  refine HS1.out.mono ?_
  rintro e w2 ⟨rfl, hB2, hF2⟩
  have hz1 := Hb1.out.size
  have hlb := Hne.out.2
  have hbb : Below base w w2 := (Hb1.out.mono (by omega)).trans (hF2.below0 (by omega) (fun i hi => by have e : i = l := hi; omega))
  have HRd2 := hid (HRd.out w2 (HT.out w2 hbb))
  have Hl2 := hid (fun w3 s' vs' => Hl.out w1 w2 w3 s' vs' Hb1.out hB2 hF2)
  have k1 : w2.cell? ⟨l, 1, none⟩ = some (.string B1) := HcB.out w2 hB2
  have hl2 := hB2.lt
  clear HT HRd hB2 hF2 hbb HS1 Hl HcB
  go_wp2_with fail
  refine HRd2.out.mono ?_
  rintro e w3 ⟨s', vs', rfl, hO3, hP3, hb3⟩
  obtain ⟨Hres, k0, k1', f0, f1, hl3⟩ := Hl2.out w3 s' vs' hO3 hP3 hb3
  have Hres := hid Hres
  clear hO3 hP3 hb3 HRd2 Hl2 k1 hl2
  go_wp2_with fail
  go_region
  go_wp2_with fail
  go_ret2
  exact ⟨rfl, Hres.out⟩
theorem LRes.from {base l s : Nat} {vs vs1 : List Value} {w w1 w' : World} {G : LG} (h : LRes base l s vs1 w1 G w') (hF : Fr (FS s vs) w w1) (hf : ∀ i, FS s vs1 i → FS s vs i ∨ w.heap.size ≤ i) : LRes base l s vs w G w' := by
  obtain ⟨s', vs', a, b, c⟩ := h
  have hz := hF.size
  have hs : ∀ i, FL l s vs1 i → FL l s vs i ∨ w.heap.size ≤ i := fun i hi => by
    rcases hi with hi | hi
    · exact .inl (.inl hi)
    · exact (hf i hi).imp (fun h => .inr h) (fun h => h)
  exact ⟨s', vs', a, (hF.mono (S' := FL l s vs) (fun i _ hi => .inr hi)).trans b hs, fun i hi => (c i hi).elim (hs i) (fun h => .inr (by omega))⟩

set_option maxHeartbeats 4000000 in
set_option maxRecDepth 100000 in
theorem lput_any {base l s : Nat} {vs : List Value} {G : LG} (hG : G.ok) (key : Int) (t : ByteArray) (htm : t.size ≤ maxLen) (w : World) (h : LogP base w l s vs G G.D) (hT : TvB base w) :
    Calls Tryz.prog 8 #[.pointer (some ⟨l, 0, none⟩), .int .i64 key, .string t] w fun e w' => e = .returned (.tuple #[.int .i64 (G.put key t).1.1, errV (G.put key t).1.2]) ∧ LRes base l s vs w (G.put key t).2 w' := by
  have c4 : w.cell? ⟨l, 4, none⟩ = some (.bool G.stopped) := h.blk.cell 4
  have c0 : w.cell? ⟨l, 0, none⟩ = some (.pointer (some ⟨s, 0, none⟩)) := h.blk.cell 0
  have hl := h.blk.lt
  rcases hst : G.stopped with _ | _
  · rw [hst] at c4
    have HS := hid (sput_any base s key t htm vs (lsOf G.D) G.D.length w h.st h.stp)
    rw [sput_r] at HS
    have HFs := hid (fun w1 vs1 D1 (hO : StoreO base w1 s vs1 (lsOf D1) D1.length) (hP : StP (lsOf D1) D1.length) (hF : Fr (FS s vs) w w1) (hf : ∀ i, FS s vs1 i → FS s vs i ∨ w.heap.size ≤ i) =>
      (show LogP base w1 l s vs1 G D1 from ⟨h.blk.fr hF h.ne, hO, hP, fun hi => by
        rcases hf l hi with hi | hi
        · exact h.ne hi
        · omega, h.base⟩))
    have Hbb := hid (fun w1 (hF : Fr (FS s vs) w w1) => (show Below base w w1 from hF.below0 (by have := h.base; omega) (fun i hi => (h.st.fsr hi).1)))
    by_cases hr : (rput G.D key t).1.2 = 0
    · obtain ⟨hkey, ht, -, -⟩ := rput_ok hr
      have hst2 := hst
      have hcl : G.put key t = if G.left = 0 then ((0, 6), { G.step with bs := G.bs ++ halfL (recL key.toNat false t) }) else ((rput G.D key t).1, { G.step with D := (rput G.D key t).2, bs := G.bs ++ recL key.toNat false t }) := by
        unfold LG.put LG.deed
        rw [hst, if_neg (by decide), if_neg (by rw [hr]; decide)]
      rw [hcl]
      obtain ⟨k, rfl⟩ := Int.eq_ofNat_of_zero_le hkey.1
      rw [Int.toNat_natCast]
      have hk8 : k < 8 := by omega
      have HK := hid (fun w1 vs1 (hP : LogP base w1 l s vs1 G (rput G.D k t).2) (hB : Below base w w1) => And.intro
        (fun h0 : G.left = 0 => keep_stop hG hst h0 (rput G.D k t).2 (rput G.D k t).1.1 k hk8 false t ht w1 hP (hT.step hB))
        (fun h0 : ¬ G.left = 0 => keep_on hG h0 (rput G.D k t).2 (rput G.D k t).1.1 k hk8 false t ht w1 hP (hT.step hB).now.tb))
      generalize rput G.D k t = R at *
      obtain ⟨⟨r0, r1⟩, D1⟩ := R
      simp only at hr HK HS
      subst hr
      by_cases h0 : G.left = 0
      · rw [if_pos h0]
        have HK' := hid (fun w1 vs1 hP hB => (HK.out w1 vs1 hP hB).1 h0)
        generalize { G.step with bs := G.bs ++ halfL (recL k false t) } = G' at *
        simp only
        clear HK h hT hG h0 hst hst2 hcl hkey
        go_enter Tryz.func8, Tryz.ntmps8
        go_wp2_with fail
        refine HS.out.mono ?_
        rintro e w1 ⟨vs1, rfl, hO, hP, hF, hf⟩
        have HK1 := hid (HK'.out w1 vs1 (HFs.out w1 vs1 D1 hO hP hF hf) (Hbb.out w1 hF))
        have Hfrom := hid (fun w2 (h2 : LRes base l s vs1 w1 G' w2) => h2.from hF hf)
        clear hO hP hF hf HK' HS
        simp only [errV_zero]
        go_wp2_with fail
        refine HK1.out.mono ?_
        rintro e w2 ⟨rfl, h2⟩
        have Hr := hid (Hfrom.out w2 h2)
        clear h2
        go_wp2_with fail
        go_ret2
        exact ⟨rfl, Hr.out⟩
      · rw [if_neg h0]
        have HK' := hid (fun w1 vs1 hP hB => (HK.out w1 vs1 hP hB).2 h0)
        generalize { G.step with D := D1, bs := G.bs ++ recL k false t } = G' at *
        simp only [errV_zero]
        clear HK h hT hG h0 hst hst2 hcl hkey
        go_enter Tryz.func8, Tryz.ntmps8
        go_wp2_with fail
        refine HS.out.mono ?_
        rintro e w1 ⟨vs1, rfl, hO, hP, hF, hf⟩
        have HK1 := hid (HK'.out w1 vs1 (HFs.out w1 vs1 D1 hO hP hF hf) (Hbb.out w1 hF))
        have Hfrom := hid (fun w2 (h2 : LRes base l s vs1 w1 G' w2) => h2.from hF hf)
        clear hO hP hF hf HK' HS
        simp only [errV_zero]
        go_wp2_with fail
        refine HK1.out.mono ?_
        rintro e w2 ⟨rfl, h2⟩
        have Hr := hid (Hfrom.out w2 h2)
        clear h2
        go_wp2_with fail
        go_ret2
        exact ⟨rfl, Hr.out⟩
    · have hcl : G.put key t = ((0, (rput G.D key t).1.2), G) := by
        unfold LG.put LG.deed
        rw [hst, if_neg (by decide), if_pos hr]
      have hbad := rput_bad hr
      rw [hcl]
      have hne := errV_ne hr
      generalize rput G.D key t = R at *
      obtain ⟨⟨r0, r1⟩, D1⟩ := R
      simp only at hbad HS hr hne
      obtain ⟨rfl, rfl⟩ := hbad
      simp only
      rw [hne]
      have Hne := hid hne
      have Hfin := hid (fun w1 vs1 (hO : StoreO base w1 s vs1 (lsOf G.D) G.D.length) (hP : StP (lsOf G.D) G.D.length) (hF : Fr (FS s vs) w w1) (hf : ∀ i, FS s vs1 i → FS s vs i ∨ w.heap.size ≤ i) =>
        (show LRes base l s vs w G w1 from ⟨s, vs1, HFs.out w1 vs1 G.D hO hP hF hf, hF.mono (fun i _ hi => .inr hi), fun i hi => by
          rcases hi with hi | hi
          · exact .inl (.inl hi)
          · exact (hf i hi).imp (fun h => .inr h) (fun h => h)⟩))
      clear h hT hG hst hcl hr hne HFs Hbb
      go_enter Tryz.func8, Tryz.ntmps8
      go_wp2_with fail
      refine HS.out.mono ?_
      rintro e w1 ⟨vs1, rfl, hO, hP, hF, hf⟩
      have Hr := hid (Hfin.out w1 vs1 hO hP hF hf)
      clear hO hP hF hf HS Hfin
      simp only [Hne.out]
      go_wp2_with fail
      go_ret2
      exact ⟨rfl, Hr.out⟩
  · rw [hst] at c4
    have hcl : G.put key t = ((0, 6), G) := by
      unfold LG.put LG.deed
      rw [hst, if_pos rfl]
    have Hr := hid (LRes.same (vs := vs) h (Below.refl _ _))
    rw [hcl, errV_ne (show (6 : Int) ≠ 0 by decide)]
    clear h hT hG hst hcl
    go_enter Tryz.func8, Tryz.ntmps8
    go_wp2_with fail
    go_ret2
    exact ⟨rfl, Hr.out⟩

end Go.Proofs.YtmgiecoeeidgoaaGreatDoor
namespace Go.Proofs.YtmgiecoeeidgoaaGreatDoor
open Go.RowKit
open Go.ChangeShapes Go.WideShapes Go.ChangeAt

set_option maxHeartbeats 4000000 in
set_option maxRecDepth 100000 in
theorem lcrash_any {base l s : Nat} {vs : List Value} {G : LG} (hG : G.ok) (keep : Int) (hk : -9223372036854775808 ≤ keep ∧ keep ≤ 9223372036854775807) (w : World) (h : LogP base w l s vs G G.D) (hT : TvB base w) :
    Calls Tryz.prog 10 #[.pointer (some ⟨l, 0, none⟩), .int .i64 keep] w fun e w' => (∃ v, e = .returned v) ∧ LRes base l s vs w (G.crash keep) w' := by
  have c1 : w.cell? ⟨l, 1, none⟩ = some (.string (mkB G.bs)) := h.blk.cell 1
  have c2 : w.cell? ⟨l, 2, none⟩ = some (.int .i64 G.safe) := h.blk.cell 2
  have hl := h.blk.lt
  have hlen := hG.len
  have hsafe := hG.safe
  have hz := mkB_size G.bs
  obtain ⟨M, hM⟩ : ∃ M : Nat, max 0 (min keep ((G.bs.length : Int) - (G.safe : Int))) = (M : Int) := ⟨(max 0 (min keep ((G.bs.length : Int) - (G.safe : Int)))).toNat, by omega⟩
  have hhi : G.high keep = G.safe + M := by unfold LG.high; rw [hM, Int.toNat_natCast]
  have hMle : G.safe + M ≤ G.bs.length := by rw [← hhi]; exact LG.high_le hG keep
  have w1 : wrap64 ((G.bs.length : Int) - (G.safe : Int)) = (G.bs.length : Int) - (G.safe : Int) := by unfold wrap64; omega
  have w2 : wrap64 ((G.safe : Int) + (M : Int)) = ((G.safe + M : Nat) : Int) := by unfold wrap64; omega
  have hx1 : (mkB G.bs).extract 0 (G.safe + M) = mkB (G.bs.take (G.high keep)) := by rw [hhi]; exact extract_take _ _
  obtain ⟨q, hq, -, hli⟩ := LG.cut hG keep
  have hx2 : (mkB (G.bs.take (G.high keep))).extract 0 (G.crash keep).bs.length = mkB (G.crash keep).bs := by
    rw [extract_take, hq, List.take_left']
    rfl
  have hle : (G.crash keep).bs.length ≤ (G.bs.take (G.high keep)).length := by rw [hq, List.length_append]; omega
  have hzh := mkB_size (G.bs.take (G.high keep))
  have hz2 := mkB_size (G.crash keep).bs
  have hle2 : (G.bs.take (G.high keep)).length ≤ 57000 := Nat.le_trans (List.length_take_le' _ _) hlen
  have hok := LG.crash_ok hG keep
  have HRd := hid (fun W (hW : Ta W) => redo_any (G.crash keep).D hok.val hok.many W hW)
  rw [show bytesL (G.crash keep).D = (G.crash keep).bs from rfl] at HRd
  obtain ⟨li, hLI⟩ : ∃ li, Lib.lastIndexByte (mkB (G.bs.take (G.high keep))) 10 = li := ⟨_, rfl⟩
  have hli' : li + 1 = ((G.crash keep).bs.length : Int) := by rw [← hLI]; exact hli
  have hs62 : (mkB (G.bs.take (G.high keep))).size < 4611686018427387904 := by omega
  have hone : (⟨#[10]⟩ : ByteArray).size = 1 := rfl
  have HLi : Hid (∀ W, Calls Tryz.prog 35 #[.string (mkB (G.bs.take (G.high keep))), .string ⟨#[10]⟩] W fun e w' => e = .returned (.int .i64 li) ∧ w' = W) := hid (fun W => by
    rw [← hLI]
    exact Tryz.strings_LastIndex_one (mkB (G.bs.take (G.high keep))) ⟨#[10]⟩ hone hs62 W)
  have HT := hid (fun W (hW : Below base w W) => (hT W hW).ta)
  have Hb := hid (show base ≤ l from h.base)
  have Hl := hid (fun (w2 w3 : World) (s' : Nat) (vs' : List Value) (hb : Below w.heap.size w w2) (hO : StoreO w2.heap.size w3 s' vs' (lsOf (G.crash keep).D) (G.crash keep).D.length) (hP : StP (lsOf (G.crash keep).D) (G.crash keep).D.length) (hb3 : Below w2.heap.size w2 w3) =>
    (show LRes base l s vs w (G.crash keep) (((((w3.setCell ⟨l, 0, none⟩ (.pointer (some ⟨s', 0, none⟩))).setCell ⟨l, 1, none⟩ (.string (mkB (G.crash keep).bs))).setCell ⟨l, 2, none⟩ (.int .i64 ((G.crash keep).bs.length : Nat))).setCell ⟨l, 3, none⟩ (.int .i64 (-1))).setCell ⟨l, 4, none⟩ (.bool false)) ∧
      Blk w3 l 73 (G.cells s) from by
      have hz1 := hb.size
      have hz3 := hb3.size
      have hbb := hb.trans (hb3.mono hz1)
      have hB3 := h.blk.belowS hbb
      have hfs : ∀ i, FS s' vs' i → w2.heap.size ≤ i := fun i hi => (hO.fsr hi).1
      have hne : ¬ FS s' vs' l := fun h => by have := hfs l h; omega
      have hF4 : Fr (fun i => i = l) w3 (((((w3.setCell ⟨l, 0, none⟩ (.pointer (some ⟨s', 0, none⟩))).setCell ⟨l, 1, none⟩ (.string (mkB (G.crash keep).bs))).setCell ⟨l, 2, none⟩ (.int .i64 ((G.crash keep).bs.length : Nat))).setCell ⟨l, 3, none⟩ (.int .i64 (-1))).setCell ⟨l, 4, none⟩ (.bool false)) := (((((Fr.refl _ _).own1 _ _).own1 _ _).own1 _ _).own1 _ _).own1 _ _
      refine ⟨⟨s', vs', ⟨hB3.put5 _ _ _ _ _, (hO.mono (by have := Hb.out; omega)).fr hF4 (fun e => hne (e ▸ .inl rfl)) (fun k hk _ hg e => hne (e ▸ .inr ⟨k, hk, hg.symm⟩)), hP, hne, Hb.out⟩, ?_, fun i hi => ?_⟩, hB3⟩
      · exact (Fr.ofB hbb).step (hF4.mono (fun i _ hi => .inl hi))
      · rcases hi with hi | hi
        · exact .inl (.inl hi)
        · exact .inr (by have := hfs i hi; omega)))
  have hw3 : wrap64 (li + 1) = ((G.crash keep).bs.length : Int) := by rw [hli']; unfold wrap64; omega
  clear h hT hok hq hhi hli hLI hli' hlen hs62 hone hG
  generalize G.crash keep = C at *
  generalize (G.bs.take (G.high keep)).length = nh at *
  generalize mkB (G.bs.take (G.high keep)) = BH at *
  generalize hBC : mkB C.bs = BC at *
  have hcl : ((C.bs.length : Nat) : Int) ≤ (nh : Int) := by omega
  generalize C.bs.length = nc at *
  generalize hB1 : mkB G.bs = B1 at *
  clear hBC hB1
  go_enter Tryz.func10, Tryz.ntmps10
  go_wp2_with fail
  go_quiet (fail)
  rw [hx1]
  have hbq : Below w.heap.size w (w.drewN nq) := Below.manyDrew (Below.refl _ _) nq
  have hz2' := hbq.size
  generalize w.drewN nq = wA at *
  clear c1 c2 hM w1 w2
  go_wp2_with fail
  refine (HLi.out wA).mono ?_
  rintro e w2 ⟨rfl, rfl⟩
  go_wp2_with fail
  have hlb := Hb.out
  refine (HRd.out w2 (HT.out w2 (hbq.mono (by omega)))).mono ?_
  rintro e w3 ⟨s', vs', rfl, hO3, hP3, hb3⟩
  obtain ⟨Hres, hB3⟩ := Hl.out w2 w3 s' vs' hbq hO3 hP3 hb3
  have Hres := hid Hres
  have k0 := hB3.cell 0
  have k1 := hB3.cell 1
  have k2 := hB3.cell 2
  have k3 := hB3.cell 3
  have k4 := hB3.cell 4
  have f0 := hB3.frozen 0
  have f1 := hB3.frozen 1
  have f2 := hB3.frozen 2
  have f3 := hB3.frozen 3
  have f4 := hB3.frozen 4
  have hl3 := hB3.lt
  change w3.cell? _ = some (.pointer (some ⟨s, 0, none⟩)) at k0
  change w3.cell? _ = some (.string (mkB G.bs)) at k1
  change w3.cell? _ = some (.int .i64 G.safe) at k2
  change w3.cell? _ = some (.int .i64 G.left) at k3
  change w3.cell? _ = some (.bool G.stopped) at k4
  clear hO3 hP3 hb3 Hl HRd HLi HT hB3
  go_wp2_with fail
  go_end0
  exact ⟨⟨_, rfl⟩, Hres.out⟩
end Go.Proofs.YtmgiecoeeidgoaaGreatDoor
namespace Go.Proofs.YtmgiecoeeidgoaaGreatDoor
open Go.RowKit
open Go.ChangeShapes Go.WideShapes Go.ChangeAt

/-- a log at l that is right -/
def LogX (base : Nat) (w : World) (l : Nat) (G : LG) : Prop := G.ok ∧ ∃ s vs, LogP base w l s vs G G.D
section
variable {base l : Nat} {w w' : World} {G : LG}
theorem LogX.belowS (h : LogX base w l G) (hb : Below w.heap.size w w') : LogX base w' l G := by
  obtain ⟨h0, s, vs, h1⟩ := h
  exact ⟨h0, s, vs, h1.belowS hb⟩
theorem LogX.lt (h : LogX base w l G) : base ≤ l ∧ l < w.heap.size := by
  obtain ⟨_, s, vs, h1⟩ := h
  exact ⟨h1.base, h1.blk.lt⟩
theorem LRes.x {s : Nat} {vs : List Value} {G0 : LG} {D : List E} (h : LogP base w l s vs G0 D) (hG : G.ok) (hr : LRes base l s vs w G w') : LogX base w' l G ∧ Below base w w' := by
  obtain ⟨s', vs', h1, h2, _⟩ := hr
  exact ⟨⟨hG, s', vs', h1⟩, h2.below0 (by have := h.lt (.inl rfl); omega) (fun i hi => (h.lt hi).1)⟩
theorem xnew (w : World) : Calls Tryz.prog 7 #[] w fun e w' => ∃ l, e = .returned (.pointer (some ⟨l, 0, none⟩)) ∧ LogX w.heap.size w' l LG.new ∧ Below w.heap.size w w' := by
  refine (lnew_any w).mono ?_
  rintro e w' ⟨l, s, vs, rfl, h1, h2⟩
  exact ⟨l, rfl, ⟨LG.new_ok, s, vs, h1⟩, h2⟩
theorem xput (h : LogX base w l G) (hT : TvB base w) (key : Int) (t : ByteArray) (ht : t.size ≤ maxLen) :
    Calls Tryz.prog 8 #[.pointer (some ⟨l, 0, none⟩), .int .i64 key, .string t] w fun e w' => e = .returned (.tuple #[.int .i64 (G.put key t).1.1, errV (G.put key t).1.2]) ∧ LogX base w' l (G.put key t).2 ∧ Below base w w' := by
  obtain ⟨h0, s, vs, h1⟩ := h
  refine (lput_any h0 key t ht w h1 hT).mono ?_
  rintro e w' ⟨rfl, h2⟩
  exact ⟨rfl, h2.x h1 (LG.put_ok h0 key t)⟩
theorem xsync (h : LogX base w l G) : Calls Tryz.prog 9 #[.pointer (some ⟨l, 0, none⟩)] w fun e w' => e = .returned (errV G.sync.1) ∧ LogX base w' l G.sync.2 ∧ Below base w w' := by
  obtain ⟨h0, s, vs, h1⟩ := h
  refine (lsync_any h0 w h1).mono ?_
  rintro e w' ⟨rfl, h2⟩
  exact ⟨rfl, h2.x h1 (LG.sync_ok h0)⟩
theorem xcrash (h : LogX base w l G) (hT : TvB base w) (n : Int) (hn : -9223372036854775808 ≤ n ∧ n ≤ 9223372036854775807) : Calls Tryz.prog 10 #[.pointer (some ⟨l, 0, none⟩), .int .i64 n] w fun e w' => (∃ v, e = .returned v) ∧ LogX base w' l (G.crash n) ∧ Below base w w' := by
  obtain ⟨h0, s, vs, h1⟩ := h
  refine (lcrash_any h0 n hn w h1 hT).mono ?_
  rintro e w' ⟨he, h2⟩
  exact ⟨he, h2.x h1 (LG.crash_ok h0 n)⟩
theorem xread (h : LogX base w l G) (key : Int) : Calls Tryz.prog 11 #[.pointer (some ⟨l, 0, none⟩), .int .i64 key] w fun e w' => e = .returned (.tuple #[(ratS G.D key G.D.length).1.val, errV (ratS G.D key G.D.length).2]) ∧ Below w.heap.size w w' := by
  obtain ⟨h0, s, vs, h1⟩ := h
  exact lread_any key w h1
end
end Go.Proofs.YtmgiecoeeidgoaaGreatDoor
