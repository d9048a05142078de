/-
  CONTRACT of cache.Added. CONDITIONS: none.
-/
import Derived.Test.YtdocdmpfokdjkaaEIns
import Derived.Test.YtdocdmpfokdjkaaEClone
import Derived.Test.YtdocdmpfokdjkaaCAddP
namespace Go.Proofs.Ytdocdmpfokdjkaa
open Go.RowKit
open Go.ChangeShapes Go.WideShapes Go.ChangeAt

/-- what a call that hands out a cache does -/
def CRes (w : World) (l' : List E) (en : Int) (e : Ending) (w' : World) : Prop :=
  ∃ v, e = .returned (.tuple #[v, errV en]) ∧ Ow E.cells 5 w.heap.size 47 w' v l' ∧ Below w.heap.size w w'

theorem CRes.alloc {w : World} {l' : List E} {en : Int} {e : Ending} {X : World} (h : CRes w l' en e X) (o : Obj) : CRes w l' en e (X.alloc o) := by
  obtain ⟨v, he, hO, hb⟩ := h
  exact ⟨v, he, hO.alloc o, hb.alloc hb.size o⟩
/-- an entry of the call's own cache is written anew: what the call hands out -/
theorem added_fin {w w2 WB : World} {g off c p : Nat} {l : List E} {r0 r1 r2 : Int} {r3 : Bool} {r4 : ByteArray} (hOw : Ow E.cells 5 (w.heap.size + 1) 47 w2 (.slice (some ⟨g, off, none⟩) l.length c) l) (hpl : p < l.length) (hF : Fr (fun k => w2.heap.size ≤ k) w2 WB) (hb : Below w.heap.size w WB) :
    CRes w (l.set p ⟨r0, r1, r2, r3, r4⟩) 0 (.returned (.tuple #[.slice (some ⟨g, off, none⟩) l.length c, .nilIface]))
      (((((WB.setCell ⟨g, off + p * 5, none⟩ (.int .i64 r0)).setCell ⟨g, off + p * 5 + 1, none⟩ (.int .i64 r1)).setCell ⟨g, off + p * 5 + 2, none⟩ (.int .i64 r2)).setCell ⟨g, off + p * 5 + 3, none⟩ (.bool r3)).setCell ⟨g, off + p * 5 + 4, none⟩ (.string r4)) := by
  obtain ⟨A', c', hv, hlc, _, hform⟩ := hOw.form
  cases hv
  obtain ⟨g1, off1, hA1, hbg, hgl, hfo, _⟩ := hform (by omega)
  cases hA1
  have h1 := (hOw.fr hF (fun g' hg' h => by rw [hfo] at hg'; cases hg'; omega)).set E.cells_length hpl (⟨r0, r1, r2, r3, r4⟩ : E)
  have hg : w.heap.size ≤ g := by omega
  exact ⟨_, rfl, h1.mono (by omega), ((((hb.setCell (p := ⟨g, _, none⟩) hg _).setCell (p := ⟨g, _, none⟩) hg _).setCell (p := ⟨g, _, none⟩) hg _).setCell (p := ⟨g, _, none⟩) hg _).setCell (p := ⟨g, _, none⟩) hg _⟩

set_option maxHeartbeats 16000000 in
set_option maxRecDepth 100000 in
theorem added_new (s : SlV E) (x0 x1 x2 : Int) (x3 : Bool) (x4 : ByteArray) (w : World) (hx : (⟨x0, x1, x2, x3, x4⟩ : E).good) (hk : 0 ≤ x0 ∧ x0 < 8) (hs : EsAt w s) (hS : SortedK s.xs) (hK : KeysIn s.xs) (hn : s.xs.length ≤ 8) (hh : hasK x0 s.xs = false) :
    Calls Try.prog 46 #[.slice s.A s.xs.length s.c, .agg #[.int .i64 x0, .int .i64 x1, .int .i64 x2, .bool x3, .string x4]] w (CRes w (addC s.xs ⟨x0, x1, x2, x3, x4⟩).1 (addC s.xs ⟨x0, x1, x2, x3, x4⟩).2) := by
  have HP := hid (fun (r : SlV E) (hrx : r.xs = s.xs) W (hr : EsAt W r) => show Calls Try.prog 39 #[.slice r.A r.xs.length r.c, .int .i64 x0] W (fun e w' => e = .returned (.tuple #[.int .i64 (plc x0 s.xs), .bool (hasK x0 s.xs)]) ∧ Below W.heap.size W w') from by
    have := place_any x0 r W hr.entries (by rw [hrx]; exact hS) (by rw [hrx]; exact hK) hk (by rw [hrx]; exact hn)
    rw [hrx] at this ⊢
    exact this)
  have hple := plc_le x0 s.xs
  have Hs := hid hs
  have Hgood := hid hs.each
  have hX0 : Blk (w.alloc (.cells #[.int .i64 x0, .int .i64 x1, .int .i64 x2, .bool x3, .string x4] 47)) w.heap.size 47 #[.int .i64 x0, .int .i64 x1, .int .i64 x2, .bool x3, .string x4] := Blk.new _ _ _
  have HX0 := hid hX0
  clear hS hK hs hX0 hk
  rw [addC, if_neg (show ¬ hasK (⟨x0, x1, x2, x3, x4⟩ : E).key s.xs = true by rw [hh]; decide)]
  show Calls _ _ _ _ (CRes w (s.xs.take (plc x0 s.xs) ++ ⟨x0, x1, x2, x3, x4⟩ :: s.xs.drop (plc x0 s.xs)) 0)
  generalize hp : plc x0 s.xs = p at *
  have Hh := hid hh
  clear hh hp
  go_enter Try.func46, Try.ntmps46
  go_wp2_with fail
  refine (eclone_any s _ (Hs.out.stays (by (repeat (first | with_reducible exact Below.refl _ _ | with_reducible assumption | (with_reducible refine Below.drew ?_) | (with_reducible refine Below.manyDrew ?_ _) | ((with_reducible refine Below.alloc ?_ ?_ _); rotate_left; (focus (first | omega | (dsimp only; omega) | (simp; done) | (simp; omega)))) | ((with_reducible refine Below.setCell ?_ ?_ _); rotate_left; (focus (first | omega | (dsimp only; omega) | (simp; done) | (simp; omega)))) | ((with_reducible refine Below.step ?_ (by assumption) ?_); rotate_left; (focus (first | omega | (dsimp only; omega) | (simp; done) | (simp; omega)))))))) (by omega)).mono ?_
  rintro e w1 ⟨v, rfl, hOw1, hb1⟩
  have hz1 := hb1.size
  rw [World.size_alloc] at hz1 hOw1
  have hb1' : Below w.heap.size w w1 := (show Below w.heap.size w _ by (repeat (first | with_reducible exact Below.refl _ _ | with_reducible assumption | (with_reducible refine Below.drew ?_) | (with_reducible refine Below.manyDrew ?_ _) | ((with_reducible refine Below.alloc ?_ ?_ _); rotate_left; (focus (first | omega | (dsimp only; omega) | (simp; done) | (simp; omega)))) | ((with_reducible refine Below.setCell ?_ ?_ _); rotate_left; (focus (first | omega | (dsimp only; omega) | (simp; done) | (simp; omega)))) | ((with_reducible refine Below.step ?_ (by assumption) ?_); rotate_left; (focus (first | omega | (dsimp only; omega) | (simp; done) | (simp; omega))))))).trans (hb1.mono (by simp))
  obtain ⟨r, hv, hrx, hrA, _, _⟩ := EsAt.of_ow hOw1 Hgood.out
  have HOw1 := hid hOw1
  have Hb1 := hid hb1'
  have hX1 := HX0.out.belowS hb1
  have Hv := hid hv
  have Hrx := hid hrx
  have HX1 := hid hX1
  rw [hv]
  have k0 : w1.cell? ⟨w.heap.size, 0, none⟩ = some (.int .i64 x0) := hX1.cell 0
  clear hOw1 hb1' hX1 hb1 hv hrx
  go_wp2_with fail
  refine (HP.out r Hrx.out w1 hrA).mono ?_
  rw [Hh.out]
  rintro e w2 ⟨rfl, hb2⟩
  have hX2 := HX1.out.belowS hb2
  have d0 : w2.cell? ⟨w.heap.size, 0, none⟩ = some (.int .i64 x0) := hX2.cell 0
  have d1 : w2.cell? ⟨w.heap.size, 1, none⟩ = some (.int .i64 x1) := hX2.cell 1
  have d2 : w2.cell? ⟨w.heap.size, 2, none⟩ = some (.int .i64 x2) := hX2.cell 2
  have d3 : w2.cell? ⟨w.heap.size, 3, none⟩ = some (.bool x3) := hX2.cell 3
  have d4 : w2.cell? ⟨w.heap.size, 4, none⟩ = some (.string x4) := hX2.cell 4
  have HOw2 := hid (HOw1.out.belowS hb2)
  have Hb2 := hid (Below.step Hb1.out hb2 (by omega))
  have hz2 := hb2.size
  clear hX2 hb2 k0
  go_wp2_with fail
  refine (Eins_any (w.heap.size + 1) (.slice r.A r.xs.length r.c) s.xs x0 x1 x2 x3 x4 hx w2.heap.size p _ ?_ (Blk.new w2 _ _) ?_ (by omega) (by omega) (by simp; omega)).mono ?_
  · rw [← Hv.out]; exact HOw2.out.alloc _
  · intro h; rw [← Hv.out] at h; have := (HOw2.out.lt h).2; omega
  rintro e w3 ⟨v3, rfl, hOw3, _, hF3⟩
  have hb3 : Below w.heap.size w w3 := (Hb2.out.alloc (by omega) _).trans (hF3.below0 (by simp; omega) (fun i hi => by rw [← Hv.out] at hi; have := HOw2.out.ge i hi; omega))
  have HOw3 := hid (hOw3.mono (base' := w.heap.size) (by omega))
  have Hb3 := hid hb3
  clear hOw3 hF3 hb3
  go_wp2_with fail
  go_ret2
  exact ⟨_, rfl, HOw3.out, Hb3.out⟩
end Go.Proofs.Ytdocdmpfokdjkaa
