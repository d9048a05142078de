/-
  THE REFERENCE's Line: the names of errors, numbers as text, a line cut into words, what stays where its mesh is written to. CONDITIONS: none.
-/
import Derived.Test.YtemhdfodghfkfaaGreatDoorRefCut
import Derived.Test.YtemhdfodghfkfaaGreatDoorRunBeg
import Derived.Test.YtemhdfodghfkfaaGreatDoorRMesh
import Derived.Test.YtemhdfodghfkfaaGreatDoorRtOwn
import Derived.Test.YtemhdfodghfkfaaGreatDoorRtPts
import Derived.Deep.RegionHeld3
import Derived.BigQuiet
namespace Go.Proofs.YtemhdfodghfkfaaGreatDoor
open Go.RowKit
open Go.ChangeShapes Go.WideShapes Go.ChangeAt

set_option maxHeartbeats 4000000 in
theorem rname_any (e : Int) (h0 : 0 ≤ e) (h8 : e ≤ 8) (w : World) :
    Calls Tryz.prog 18 #[.int .i64 e] w fun r w' => r = .returned (.string (mkB (nameE e))) ∧ Below w.heap.size w w' := by
  have h : e = 0 ∨ e = 1 ∨ e = 2 ∨ e = 3 ∨ e = 4 ∨ e = 5 ∨ e = 6 ∨ e = 7 ∨ e = 8 := by omega
  rcases h with rfl | rfl | rfl | rfl | rfl | rfl | rfl | rfl | rfl
  all_goals
    go_enter Tryz.func18, Tryz.ntmps18
    go_wp2_with fail
    go_ret
    exact ⟨rfl, (Below.refl _ _).alloc (Nat.le_refl _) _⟩
/-- a small number as text -/
theorem rdig_any (n : Nat) (h : n < 10000) (w : World) :
    Calls Tryz.prog 9 #[.int .i64 (n : Int)] w fun r w' => r = .returned (.string (mkB (digN n))) ∧ Below w.heap.size w w' :=
  (digits_any n w (by omega) (by omega)).mono (fun e w' hh => ⟨by rw [hh.1, digN_eq h]; rfl, hh.2⟩)

/-- what a line of the reference's leaves -/
def RLn (base m : Nat) (A : Nat → Prop) (w : World) (S : RSt) (w' : World) : Prop := RMeshW base w' m S.D S.C (AOr A w w') ∧ Fr (RTouch base A) w w'
def RLineR (base m : Nat) (A : Nat → Prop) (w : World) (r : Tx × RSt) (e : Ending) (w' : World) : Prop := e = .returned (.string (mkB r.1)) ∧ RLn base m A w r.2 w'
section
variable {base m : Nat} {A : Nat → Prop} {w w1 w2 w3 : World} {S : RSt}
theorem RLn.none (h : RMeshW base w m S.D S.C A) (hb : Below w.heap.size w w1) : RLn base m A w S w1 := ⟨(h.belowS hb).more (fun _ hi => .inl hi), Fr.ofB hb⟩
theorem RLn.of {D : List E} {C : List (List E)} (hb1 : Below w.heap.size w w1) (hR : RMeshW base w2 m D C (AOr A w1 w2)) (hF : Fr (RTouch base A) w1 w2) : RLn base m A w ⟨D, C⟩ w2 :=
  ⟨hR.more (fun _ hi => hi.imp (fun h => h) (fun h => ⟨Nat.le_trans hb1.size h.1, h.2⟩)), (Fr.ofB hb1).trans hF (fun _ hi => .inl hi)⟩
theorem RLn.stepB (h : RLn base m A w S w2) (hb : Below w2.heap.size w2 w3) : RLn base m A w S w3 :=
  ⟨(h.1.belowS hb).more (fun _ hi => hi.imp (fun h => h) (fun h => ⟨h.1, Nat.lt_of_lt_of_le h.2 hb.size⟩)), h.2.stepB hb⟩
/-- what is not the mesh's, and made since the line began, stays -/
def KN (B0 : Nat) (w W : World) : Prop := w.heap.size ≤ W.heap.size ∧ ∀ i, B0 ≤ i → i < w.heap.size → W.heap[i]? = w.heap[i]?
theorem KN.refl (B0 : Nat) (w : World) : KN B0 w w := ⟨Nat.le_refl _, fun _ _ _ => rfl⟩
theorem KN.drew {B0 : Nat} {W : World} (h : KN B0 w W) : KN B0 w W.drew := h
theorem KN.alloc {B0 : Nat} {W : World} (h : KN B0 w W) (o : Obj) : KN B0 w (W.alloc o) :=
  ⟨by rw [World.size_alloc]; exact Nat.le_succ_of_le h.1, fun i hi hl => (Below.heap_alloc W o i (Nat.lt_of_lt_of_le hl h.1)).trans (h.2 i hi hl)⟩
theorem KN.setCell {B0 : Nat} {W : World} (h : KN B0 w W) {p : Addr} (hp : w.heap.size ≤ p.block) (u : Value) : KN B0 w (W.setCell p u) :=
  ⟨by rw [World.size_setCell]; exact h.1, fun i hi hl => (Below.heap_setCell W p u i (by omega)).trans (h.2 i hi hl)⟩
theorem KN.below {B0 : Nat} {W X : World} (h : KN B0 w W) (hb : Below W.heap.size W X) : KN B0 w X :=
  ⟨Nat.le_trans h.1 hb.size, fun i hi hl => (hb.block i (Nat.lt_of_lt_of_le hl h.1)).trans (h.2 i hi hl)⟩
theorem KN.fr {B0 : Nat} {W X : World} (h : KN B0 w W) (hF : Fr (RTouch base A) W X) (hA : ∀ i, A i → i < B0) : KN B0 w X :=
  ⟨Nat.le_trans h.1 hF.size, fun i hi hl => (hF.block i (Nat.lt_of_lt_of_le hl h.1) (fun hs => by have := hA i hs.1; omega)).trans (h.2 i hi hl)⟩
theorem KN.cell {B0 : Nat} {W : World} (h : KN B0 w W) {p : Addr} {v : Value} (hp : B0 ≤ p.block) (c : w.cell? p = some v) : W.cell? p = some v :=
  (World.cell?_of_block (w := w) (h.2 _ hp (cell_lt c))).trans c
theorem keepN2 {B0 : Nat} {W : World} {p0 p1 : Addr} {v0 v1 : Value} (t0 : B0 ≤ p0.block) (t1 : B0 ≤ p1.block) (c0 : w.cell? p0 = some v0) (c1 : w.cell? p1 = some v1) (h : KN B0 w W) : KN B0 w W ∧ W.cell? p0 = some v0 ∧ W.cell? p1 = some v1 :=
  ⟨h, h.cell t0 c0, h.cell t1 c1⟩
theorem keepN3 {B0 : Nat} {W : World} {p0 p1 p2 : Addr} {v0 v1 v2 : Value} (t0 : B0 ≤ p0.block) (t1 : B0 ≤ p1.block) (t2 : B0 ≤ p2.block) (c0 : w.cell? p0 = some v0) (c1 : w.cell? p1 = some v1) (c2 : w.cell? p2 = some v2) (h : KN B0 w W) : KN B0 w W ∧ W.cell? p0 = some v0 ∧ W.cell? p1 = some v1 ∧ W.cell? p2 = some v2 :=
  ⟨h, h.cell t0 c0, h.cell t1 c1, h.cell t2 c2⟩
end
/-- a line cut into words -/
def FrontR (W : Tx) (tl : List Tx) (w : World) (e : Ending) (w' : World) : Prop := ∃ b off c : Nat, e = .returned (.slice (some ⟨b, off, none⟩) (tl.length + 1) c) ∧ w'.cell? ⟨b, off, none⟩ = some (.string (mkB W)) ∧
  (∀ i (hi : i < tl.length), w'.cell? ⟨b, off + (i + 1), none⟩ = some (.string (mkB tl[i]))) ∧ tl.length + 1 ≤ c ∧ b < w'.heap.size ∧ Below w.heap.size w w'
theorem front_cut (l : Tx) (hl : l.length ≤ 3000) (W : Tx) (tl : List Tx) (hcs : cutC 32 l = W :: tl) (w : World) :
    Calls Tryz.prog 7 #[.string (mkB l), .int .u8 32] w (FrontR W tl w) := by
  refine Calls.mono (rcut_any l (by omega) 32 w) ?_
  rintro e w' ⟨⟨A, c, xs⟩, rfl, hx, hs, hc, hb⟩
  rw [hcs] at hx
  obtain rfl : xs = (W :: tl).map mkB := hx
  have hlen : ((W :: tl).map mkB).length = tl.length + 1 := by rw [List.length_map, List.length_cons]
  obtain ⟨b, off, hA, hbl, hcells⟩ := hs.row (by show 0 < ((W :: tl).map mkB).length; omega)
  obtain rfl : A = some ⟨b, off, none⟩ := hA
  refine ⟨b, off, c, by show Ending.returned (.slice _ ((W :: tl).map mkB).length c) = _; rw [hlen], ?_, fun i hi => ?_, by rw [← hlen]; exact hc, hbl, hb⟩
  · exact hcells 0 (by show 0 < ((W :: tl).map mkB).length; omega)
  · have h1 : i + 1 < ((W :: tl).map mkB).length := by omega
    have h2 := hcells (i + 1) h1
    have h3 : ((W :: tl).map mkB)[i + 1]'h1 = mkB tl[i] := by
      rw [List.getElem_map]
      rfl
    exact h2.trans (by rw [← h3])
/-- a word told from another -/
theorem word_is {x : Tx} {l : List UInt8} (b : Bool) (h : (x == l) = b) : ((mkB x).toList == l) = b := by
  rw [ByteArray.toList_eq]
  exact h
/-! ### plain: the words of a line -/
theorem RMeshW.deeds {base m : Nat} {w : World} {D : List E} {C : List (List E)} {A : Nat → Prop} (h : RMeshW base w m D C A) : Deeds D := by
  obtain ⟨b, g, v, q, h1, -, -⟩ := h
  exact h1.deeds
theorem RMeshW.cac {base m : Nat} {w : World} {D : List E} {C : List (List E)} {A : Nat → Prop} (h : RMeshW base w m D C A) : ∀ c ∈ C, CacheD D c := by
  obtain ⟨b, g, v, q, h1, rfl, -⟩ := h
  intro c hc
  obtain ⟨x, hx, rfl⟩ := List.mem_map.1 hc
  exact h1.cac x hx
theorem words_eq {l hd : Tx} {tl : List Tx} (hcs : cutC 32 l = hd :: tl) : wordsL l = if wantL hd = some tl.length then
      (if hd = putW then (if (hd :: tl).getD 3 [] = [] then none else (numsL (((hd :: tl).take 3).drop 1)).map fun n => (hd, n, (hd :: tl).getD 3 [])) else (numsL tl).map fun n => (hd, n, []))
    else none := by
  unfold wordsL
  rw [hcs]
  rfl
theorem words_short {S : RSt} {l hd : Tx} {tl : List Tx} (hcs : cutC 32 l = hd :: tl) (h : wantL hd ≠ some tl.length) : S.line l = (badT, S) := by
  unfold RSt.line
  rw [words_eq hcs, if_neg h]
theorem words_put0 {S : RSt} {l : Tx} {x y : Tx} (hcs : cutC 32 l = putW :: [x, y, []]) : S.line l = (badT, S) := by
  unfold RSt.line
  rw [words_eq hcs]
  rfl
/-- the answer, by the numbers -/
def ByNums (S : RSt) (hd : Tx) (ws : List Tx) (t : Tx) (R : Tx × RSt) : Prop := (numsL ws = none → R = (badT, S)) ∧ ∀ ns, numsL ws = some ns → R = S.act hd ns t
theorem words_put1 {S : RSt} {l : Tx} {x y z : Tx} (hcs : cutC 32 l = putW :: [x, y, z]) (hz : ¬ z = []) : ByNums S putW [x, y] z (S.line l) := by
  have h : wordsL l = (numsL [x, y]).map fun n => (putW, n, z) := by
    rw [words_eq hcs, if_pos (by rfl), if_pos rfl]
    show (if z = [] then none else _) = _
    rw [if_neg hz]
    rfl
  unfold RSt.line
  rw [h]
  exact ⟨fun hn => by rw [hn]; rfl, fun ns hn => by rw [hn]; rfl⟩
theorem words_other {S : RSt} {l hd : Tx} {tl : List Tx} (hcs : cutC 32 l = hd :: tl) (hp : hd ≠ putW) (hw : wantL hd = some tl.length) : ByNums S hd tl [] (S.line l) := by
  have h : wordsL l = (numsL tl).map fun n => (hd, n, []) := by rw [words_eq hcs, if_pos hw, if_neg hp]
  unfold RSt.line
  rw [h]
  exact ⟨fun hn => by rw [hn]; rfl, fun ns hn => by rw [hn]; rfl⟩
theorem words_split {ws : List Tx} {k : Nat} {x : Tx} (hk : k < ws.length) (hx : ws.getD k [] = x) : ws = ws.take k ++ x :: ws.drop (k + 1) ∧ ws.take (k + 1) = ws.take k ++ [x] := by
  have he : ws[k] = x := by
    rw [← hx, List.getD_eq_getElem?_getD, List.getElem?_eq_getElem hk]
    rfl
  constructor
  · rw [← he, ← List.drop_eq_getElem_cons hk, List.take_append_drop]
  · rw [List.take_succ_eq_append_getElem hk, he]
theorem mkB_back (s : ByteArray) : mkB s.data.toList = s := by
  apply ByteArray.ext
  show s.data.toList.toArray = s.data
  simp
section
variable {S : RSt} {l : Tx} {tl : List Tx}
theorem by_put {x y z : Tx} (hcs : cutC 32 l = putW :: [x, y, z]) (hz : ¬ z = []) : (numsL [x, y] = none → S.line l = (badT, S)) ∧ ∀ a b, numsL [x, y] = some [a, b] → S.line l = S.deed (a : Int) (b : Int) (rput S.D b (mkB z)) :=
  ⟨(words_put1 hcs hz).1, fun a b h => ((words_put1 hcs hz).2 _ h).trans (by unfold RSt.act; rw [if_pos rfl]; rfl)⟩
theorem by_delete (hcs : cutC 32 l = deleteW :: tl) (hk : tl.length = 2) : (numsL tl = none → S.line l = (badT, S)) ∧ ∀ a b, numsL tl = some [a, b] → S.line l = S.deed (a : Int) (b : Int) (rdel S.D b) :=
  have h := words_other (S := S) hcs (by decide) (by rw [hk]; decide)
  ⟨h.1, fun a b e => (h.2 _ e).trans (by unfold RSt.act; rw [if_neg (by decide), if_pos rfl]; rfl)⟩
theorem by_swap (hcs : cutC 32 l = swapW :: tl) (hk : tl.length = 2) : (numsL tl = none → S.line l = (badT, S)) ∧ ∀ a b, numsL tl = some [a, b] → S.line l = (if (mswapR S.C (a : Int) (b : Int)).1 = 0 then okT else nameE (mswapR S.C (a : Int) (b : Int)).1, ⟨S.D, (mswapR S.C (a : Int) (b : Int)).2⟩) :=
  have h := words_other (S := S) hcs (by decide) (by rw [hk]; decide)
  ⟨h.1, fun a b e => (h.2 _ e).trans (by unfold RSt.act; rw [if_neg (by decide), if_neg (by decide), if_neg (by decide), if_pos rfl]; rfl)⟩
theorem by_get (hcs : cutC 32 l = getW :: tl) (hk : tl.length = 3) : (numsL tl = none → S.line l = (badT, S)) ∧ ∀ a b c, numsL tl = some [a, b, c] → S.line l = (if (mgetR S.D S.C (a : Int) (b : Int) (c : Int)).1.2.2 = 0 then entT (mgetR S.D S.C (a : Int) (b : Int) (c : Int)).1.1 ++ (if (mgetR S.D S.C (a : Int) (b : Int) (c : Int)).1.2.1 = true then cachedT else []) else nameE (mgetR S.D S.C (a : Int) (b : Int) (c : Int)).1.2.2, ⟨S.D, (mgetR S.D S.C (a : Int) (b : Int) (c : Int)).2⟩) :=
  have h := words_other (S := S) hcs (by decide) (by rw [hk]; decide)
  ⟨h.1, fun a b c e => (h.2 _ e).trans (by unfold RSt.act; rw [if_neg (by decide), if_neg (by decide), if_pos rfl]; rfl)⟩
theorem by_seq (hcs : cutC 32 l = seqW :: tl) (hk : tl.length = 0) : (numsL tl = none → S.line l = (badT, S)) ∧ (numsL tl = some [] → S.line l = (digN S.D.length, S)) :=
  have h := words_other (S := S) hcs (by decide) (by rw [hk]; decide)
  ⟨h.1, fun e => (h.2 _ e).trans (by unfold RSt.act; rw [if_neg (by decide), if_neg (by decide), if_neg (by decide), if_neg (by decide), if_neg (by decide), if_neg (by decide)])⟩
theorem by_cache (hcs : cutC 32 l = cacheW :: tl) (hk : tl.length = 1) : (numsL tl = none → S.line l = (badT, S)) ∧ ∀ a : Nat, numsL tl = some [a] → S.line l = (if inM S.C.length (a : Int) = true then cacheT (S.C.getD a []) else nameE 1, S) :=
  have h := words_other (S := S) hcs (by decide) (by rw [hk]; decide)
  ⟨h.1, fun a e => (h.2 _ e).trans (by unfold RSt.act; rw [if_neg (by decide), if_neg (by decide), if_neg (by decide), if_neg (by decide), if_pos rfl]; rfl)⟩
theorem by_owner (hcs : cutC 32 l = ownerW :: tl) (hk : tl.length = 1) : (numsL tl = none → S.line l = (badT, S)) ∧ ∀ a : Nat, numsL tl = some [a] → S.line l = (if keyB (a : Int) = true then digN (ringO (a : Int)).toNat else nameE 1, S) :=
  have h := words_other (S := S) hcs (by decide) (by rw [hk]; decide)
  ⟨h.1, fun a e => (h.2 _ e).trans (by unfold RSt.act; rw [if_neg (by decide), if_neg (by decide), if_neg (by decide), if_neg (by decide), if_neg (by decide), if_pos rfl]; rfl)⟩
end
/-! ### an entry in a box -/
def BoxN (base m : Nat) (A : Nat → Prop) (w : World) (D : List E) (C : List (List E)) (cs : Array Value) (a : Value) (wx : World) : Prop := ∃ g9, a = .pointer (some ⟨g9, 0, none⟩) ∧ Blk wx g9 59 cs ∧ RLn base m A w ⟨D, C⟩ wx
section
variable {base m : Nat} {A : Nat → Prop} {w wr W X : World} {D : List E} {C : List (List E)}
theorem BoxN.mk1 {g : Nat} {cs : Array Value} (hw : Below w.heap.size w wr) (hW : Below wr.heap.size wr W) (hM : RMeshW base X m D C (AOr A W X)) (hF : Fr (RTouch base A) W X) (hg : g = X.heap.size) :
    BoxN base m A w D C cs (.pointer (some ⟨g, 0, none⟩)) (X.alloc (.cells cs 59)) :=
  ⟨_, rfl, by rw [hg]; exact Blk.new _ _ _, (RLn.of (hw.trans (hW.mono hw.size)) hM hF).stepB ((Below.refl _ _).alloc (Nat.le_refl _) _)⟩
theorem BoxN.mk2 {a b c d e x0 x1 x2 x3 x4 : Value} (hw : Below w.heap.size w wr) (hA : ∀ i, A i → i < wr.heap.size) (hM : RMeshW base X m D C (AOr A (wr.alloc (.cells #[a, b, c, d, e] 59)).drew X)) (hF : Fr (RTouch base A) (wr.alloc (.cells #[a, b, c, d, e] 59)).drew X) :
    BoxN base m A w D C #[x0, x1, x2, x3, x4] (.pointer (some ⟨wr.heap.size, 0, none⟩)) (((((X.setCell ⟨wr.heap.size, 0, none⟩ x0).setCell ⟨wr.heap.size, 1, none⟩ x1).setCell ⟨wr.heap.size, 2, none⟩ x2).setCell ⟨wr.heap.size, 3, none⟩ x3).setCell ⟨wr.heap.size, 4, none⟩ x4) := by
  have hno : ¬ A wr.heap.size := fun h => Nat.lt_irrefl _ (hA _ h)
  have hX : Blk X wr.heap.size 59 #[a, b, c, d, e] := (show Blk (wr.alloc (.cells #[a, b, c, d, e] 59)).drew wr.heap.size 59 #[a, b, c, d, e] from Blk.new wr _ _).fr hF (fun hs => hno hs.1)
  have h5 := Fr.five X wr.heap.size x0 x1 x2 x3 x4
  have hz : (wr.alloc (.cells #[a, b, c, d, e] 59)).drew.heap.size = wr.heap.size + 1 := World.size_alloc _ _
  have hzX := hF.size
  rw [hz] at hzX
  have hL : RLn base m A w ⟨D, C⟩ X := RLn.of (hw.trans (((Below.refl wr.heap.size wr).alloc (Nat.le_refl _) (.cells #[a, b, c, d, e] 59)).drew.mono hw.size)) hM hF
  have hM5 : RMeshW base (((((X.setCell ⟨wr.heap.size, 0, none⟩ x0).setCell ⟨wr.heap.size, 1, none⟩ x1).setCell ⟨wr.heap.size, 2, none⟩ x2).setCell ⟨wr.heap.size, 3, none⟩ x3).setCell ⟨wr.heap.size, 4, none⟩ x4) m D C (AOr A (wr.alloc (.cells #[a, b, c, d, e] 59)).drew X) := hM.fr h5 (fun i hi hs => by
    subst hi
    rcases hs with hs | hs
    · exact hno hs
    · have := hs.1
      rw [hz] at this
      omega)
  refine ⟨_, rfl, hX.put5 _ _ _ _ _, hM5.more (fun _ hi => hi.imp (fun h => h) (fun h => ⟨?_, ?_⟩)), hL.2.trans h5 (fun _ hi => .inr ?_)⟩
  · have := h.1
    rw [hz] at this
    have := hw.size
    omega
  · exact Nat.lt_of_lt_of_le h.2 h5.size
  · subst hi
    exact hw.size
theorem bcellN {W0 : World} (hF : Fr (RTouch base A) W0 X) {g : Nat} (hg : g < W0.heap.size) (hno : ¬ A g) : (∀ k : Nat, X.cell? ⟨g, k, none⟩ = W0.cell? ⟨g, k, none⟩) ∧ (∀ k : Nat, X.frozen? ⟨g, k, none⟩ = W0.frozen? ⟨g, k, none⟩) :=
  ⟨fun o => hF.cell (p := ⟨g, o, none⟩) hg (fun hs => hno hs.1), fun o => hF.frozen (p := ⟨g, o, none⟩) hg (fun hs => hno hs.1)⟩
theorem bcellNA {o : Obj} (hA : ∀ i, A i → i < wr.heap.size) (hF : Fr (RTouch base A) (wr.alloc o).drew X) : (∀ k : Nat, X.cell? ⟨wr.heap.size, k, none⟩ = (wr.alloc o).drew.cell? ⟨wr.heap.size, k, none⟩) ∧ (∀ k : Nat, X.frozen? ⟨wr.heap.size, k, none⟩ = (wr.alloc o).drew.frozen? ⟨wr.heap.size, k, none⟩) :=
  bcellN hF (by show _ < (wr.alloc o).heap.size; rw [World.size_alloc]; exact Nat.lt_succ_self _) (fun h => Nat.lt_irrefl _ (hA _ h))
theorem bcellND {o : Obj} (hA : ∀ i, A i → i < wr.heap.size) (hF : Fr (RTouch base A) (wr.drew.alloc o) X) : (∀ k : Nat, X.cell? ⟨wr.heap.size, k, none⟩ = (wr.drew.alloc o).cell? ⟨wr.heap.size, k, none⟩) ∧ (∀ k : Nat, X.frozen? ⟨wr.heap.size, k, none⟩ = (wr.drew.alloc o).frozen? ⟨wr.heap.size, k, none⟩) :=
  bcellN hF (by rw [World.size_alloc]; exact Nat.lt_succ_self _) (fun h => Nat.lt_irrefl _ (hA _ h))
/-- where a row of the reference's mesh stands -/
theorem RMeshW.cC (h : RMeshW base w m D C A) : ∃ g : Nat, w.cell? ⟨m, 1, none⟩ = some (.slice (some ⟨g, 0, none⟩) C.length C.length) := by
  obtain ⟨b, g, v, q, h1, rfl, h3⟩ := h
  exact ⟨g, by rw [List.length_map]; exact h1.c1⟩
end
/-- a digit as text: nothing is made -/
theorem rdigq_any (n : Nat) (h : n < 10) (W : World) :
    Calls Tryz.prog 9 #[.int .i64 (n : Int)] W fun r w' => r = .returned (.string (mkB (digN n))) ∧ w' = W := by
  have hd : mkB (digN n) = digs.extract n (n + 1) := by rw [digs_mk h, digN, if_pos h]; rfl
  rw [hd]
  go_enter Tryz.func9, Tryz.ntmps9
  go_wp2_with fail
  go_ret
  exact ⟨rfl, rfl⟩
theorem keysT_snoc : ∀ (l : List E) (x : E), l ≠ [] → keysT (l ++ [x]) = keysT l ++ (32 :: digN x.key.toNat)
  | [], x, h => absurd rfl h
  | [e], x, _ => rfl
  | e :: f :: r, x, _ => by
    have := keysT_snoc (f :: r) x (by simp)
    show digN e.key.toNat ++ 32 :: keysT ((f :: r) ++ [x]) = (digN e.key.toNat ++ 32 :: keysT (f :: r)) ++ _
    rw [this, List.append_assoc]
    rfl
theorem keysT_ne : ∀ {l : List E}, l ≠ [] → keysT l ≠ []
  | [e], _ => fun h => by
    have := (digN_len e.key.toNat).1
    rw [show digN e.key.toNat = [] from h] at this
    exact absurd this (by decide)
  | e :: f :: r, _ => fun h => by
    have h2 : digN e.key.toNat ++ 32 :: keysT (f :: r) = [] := h
    have := congrArg List.length h2
    rw [List.length_append, List.length_cons] at this
    simp at this
theorem keep1_below {w0 W : World} {p : Addr} {v : Value} (l : p.block < w0.heap.size) (c : w0.cell? p = some v) (h : Below w0.heap.size w0 W) : Below w0.heap.size w0 W ∧ W.cell? p = some v := ⟨h, (h.cell l).trans c⟩
/-! ### whose a key is -/
theorem ints3 {W : World} {N : Nat} (h : Blk W N 3 #[.int .i64 0, .int .i64 1, .int .i64 2]) : IntsAt W ⟨some ⟨N, 0, none⟩, 3, [0, 1, 2]⟩ := by
  refine ⟨fun _ => ⟨N, 0, rfl, h.lt, fun i hi => ?_⟩, show (3 : Nat) ≤ maxLen by unfold maxLen; decide⟩
  have hi3 : i < 3 := hi
  rcases (show i = 0 ∨ i = 1 ∨ i = 2 by omega) with rfl | rfl | rfl
  · exact h.cell 0
  · exact h.cell 1
  · exact h.cell 2
theorem ring3_len : 0 < (ptsC [0, 1, 2] 4).length ∧ (ptsC [0, 1, 2] 4).length ≤ 48 := rightP_len ptsC3_right
/-- the first owner, in its place -/
def OwnedO (w : World) (o : Int) (v : Value) (wx : World) : Prop := ∃ (g og l c : Nat), v = .slice (some ⟨g, og, none⟩) l c ∧ 0 < l ∧ wx.cell? ⟨g, og, none⟩ = some (.int .i64 o) ∧ Below w.heap.size w wx
/-- the points of a session's ring -/
def Pts3 (w : World) (v : Value) (wx : World) : Prop := ∃ r : SlV Pt, v = .slice r.A r.xs.length r.c ∧ Hid (r.xs = ptsC [0, 1, 2] 4) ∧ PtsAt wx r ∧ Below w.heap.size w wx
theorem rpoints3 (W : World) (N : Nat) (h : Blk W N 3 #[.int .i64 0, .int .i64 1, .int .i64 2]) :
    Calls Tryz.prog 22 #[.slice (some ⟨N, 0, none⟩) 3 3, .int .i64 4] W fun e X => ∃ v, e = .returned v ∧ Pts3 W v X := by
  refine Calls.mono (pointsR_any ⟨some ⟨N, 0, none⟩, 3, [0, 1, 2]⟩ 4 W (ints3 h) (by decide)) ?_
  rintro e X ⟨v, rfl, ho, hb⟩
  have hp : refP [0, 1, 2] 4 256 = ptsC [0, 1, 2] 4 := refP_ptsC (fun n hn => by
    simp at hn
    rcases hn with rfl | rfl | rfl <;> decide)
  have ho2 : Ow Pt.cells 2 W.heap.size 92 X v (ptsC [0, 1, 2] 4) := by rw [← hp]; exact ho
  obtain ⟨r, rfl, hrx, hrA, -, -⟩ := PtsAt.of_ow ho2 ptsC3_good
  exact ⟨_, rfl, r, rfl, hid hrx, hrA, hb⟩
theorem rowner3 (k : Nat) (hk : k < 8) (r : SlV Pt) (hr : r.xs = ptsC [0, 1, 2] 4) (W : World) (hP : PtsAt W r) :
    Calls Tryz.prog 21 #[.slice r.A r.xs.length r.c, .int .i64 k] W fun e X => ∃ v, e = .returned v ∧ OwnedO W (ringO (k : Int)) v X := by
  have h3 := ring3_len
  rw [← hr] at h3
  refine Calls.mono (ownersR_any r k W hP hk h3.1 h3.2) ?_
  rintro e X ⟨v, rfl, ho, hb⟩
  have hf := firstP_lt (l := r.xs) (k : Int) h3.1
  have hrl := rotP_length r.xs (Nat.le_of_lt hf)
  have h0 := rotP_getD (l := r.xs) (i := 0) hf h3.1
  rw [Nat.add_zero, Nat.mod_eq_of_lt hf] at h0
  obtain ⟨x, q, hxq⟩ : ∃ x q, rotP r.xs (firstP r.xs (k : Int)) = x :: q := by
    cases hh : rotP r.xs (firstP r.xs (k : Int)) with
    | nil => rw [hh] at hrl; simp at hrl; omega
    | cons x q => exact ⟨x, q, rfl⟩
  rw [hxq] at h0 ho
  obtain ⟨t, ht⟩ := ownA_head x q
  rw [ht] at ho
  have hx : x.node = ringO (k : Int) := by
    have : x = r.xs.getD (firstP r.xs (k : Int)) Pt.zero := h0
    rw [this, hr]
    rfl
  rw [hx] at ho
  obtain ⟨g, og, cap, rfl, -, -, -, -, -, hc, -⟩ := ho.get (by simp)
  have h1 := hc 0 (by simp) 0 (by decide)
  rw [Nat.mul_one, Nat.add_zero] at h1
  exact ⟨_, rfl, g, og, _, cap, rfl, by simp, h1, hb⟩
end Go.Proofs.YtemhdfodghfkfaaGreatDoor
