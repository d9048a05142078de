/-
  THE DESK of a session: its mesh apart from all that is no mesh's by type; CONTRACTS of run.text, told, desk.get, desk.cache. CONDITIONS: the library's variables read as they are laid (Tr).
-/
import Derived.Test.YtemhdfodghfkfaaGreatDoorRunStr
import Derived.Test.YtemhdfodghfkfaaGreatDoorMeshW
import Derived.Test.YtemhdfodghfkfaaGreatDoorIKit
import Derived.Deep.RegionHeld3
import Derived.StillTailTactics
namespace Go.Proofs.YtemhdfodghfkfaaGreatDoor
open Go.RowKit
open Go.ChangeShapes Go.WideShapes Go.ChangeAt

/-! ### a mesh's blocks, by their types -/
def MTy (T : TypeId) : Prop := T = 97 ∨ T = 134 ∨ T = 209 ∨ T = 27 ∨ T = 59
variable {Z : Nat → Prop}
/-- a block that is no mesh's -/
def TyN (w : World) (i : Nat) : Prop := ¬ ∃ T cur, Blk w i T cur ∧ MTy T
def TyA (Z : Nat → Prop) (w : World) (i : Nat) : Prop := i < w.heap.size ∧ (TyN w i ∨ Z i)
theorem tyA_of {w : World} {i : Nat} {T : TypeId} {cur : Array Value} (h : Blk w i T cur) (hT : ¬ MTy T) : TyA Z w i := ⟨h.lt, .inl (fun ⟨_, _, hb, hy⟩ => hT ((h.eq_ hb).2 ▸ hy))⟩
theorem MeshO.typed {base m s g : Nat} {w : World} {vs : List Value} {D : List E} {q : List (SlV E)} (h : MeshO base w m s g vs D q) {i : Nat} (hi : MPart m s g vs q i) : ∃ T cur, Blk w i T cur ∧ MTy T := by
  rcases hi with rfl | rfl | rfl | ⟨k, hk, hf⟩ | ⟨c, hc, hf⟩
  · exact ⟨_, _, h.blk, .inl rfl⟩
  · exact ⟨_, _, h.st.blk, .inr (.inl rfl)⟩
  · exact ⟨_, _, h.row, .inr (.inr (.inr (.inl rfl)))⟩
  · obtain ⟨cur, hb⟩ := (h.st.own k hk).typ hf
    exact ⟨_, _, hb, .inr (.inr (.inl rfl))⟩
  · obtain ⟨cur, hb⟩ := (h.own c hc).1.typ hf
    exact ⟨_, _, hb, .inr (.inr (.inr (.inr rfl)))⟩
/-- a mesh apart from the blocks of Z -/
def MZ (Z : Nat → Prop) (base : Nat) (w : World) (m : Nat) (D : List E) (C : List (List E)) : Prop := MeshW base w m D C Z ∧ ∀ i, Z i → i < w.heap.size
theorem MZ.free {base m : Nat} {w : World} {D : List E} {C : List (List E)} (h : MZ Z base w m D C) : MeshW base w m D C (TyA Z w) := by
  obtain ⟨⟨s, g, vs, q, h1, h2, h3⟩, -⟩ := h
  refine ⟨s, g, vs, q, h1, h2, fun i hi ha => ?_⟩
  rcases ha.2 with hn | hz
  · exact hn (h1.typed hi)
  · exact h3 i hi hz
theorem MZ.belowS {base m : Nat} {w w' : World} {D : List E} {C : List (List E)} (h : MZ Z base w m D C) (hb : Below w.heap.size w w') : MZ Z base w' m D C := ⟨h.1.belowS hb, fun i hi => Nat.lt_of_lt_of_le (h.2 i hi) hb.size⟩
theorem MZ.deeds {base m : Nat} {w : World} {D : List E} {C : List (List E)} (h : MZ Z base w m D C) : Deeds D := h.1.deeds
theorem MZ.cac {base m : Nat} {w : World} {D : List E} {C : List (List E)} (h : MZ Z base w m D C) : ∀ c ∈ C, CacheD D c := h.1.cac
theorem MZ.of {base m : Nat} {w X : World} {D D' : List E} {C C' : List (List E)} {A : Nat → Prop} (h : MZ Z base w m D C) (hz : w.heap.size ≤ X.heap.size) (hM : MeshW base X m D' C' A) (hA : ∀ i, TyA Z w i → A i) : MZ Z base X m D' C' :=
  ⟨hM.less (fun i hi => hA i ⟨h.2 i hi, .inr hi⟩), fun i hi => Nat.lt_of_lt_of_le (h.2 i hi) hz⟩
/-- what an operation of the mesh may touch -/
def TouchD (Z : Nat → Prop) (base : Nat) (w : World) : Nat → Prop := MTouch base (TyA Z w)
theorem Blk.keepD {base : Nat} {w w' : World} {i : Nat} {T : TypeId} {cs : Array Value} (h : Blk w i T cs) (hF : Fr (TouchD Z base w) w w') (hT : ¬ MTy T) : Blk w' i T cs := h.fr hF (fun hs => hs.2 (tyA_of h hT))
theorem Ow.keepD {α : Type} {cells : α → List Value} {n base base2 : Nat} {T : TypeId} {w w' : World} {v : Value} {l : List α} (h : Ow cells n base2 T w v l) (hF : Fr (TouchD Z base w) w w') (hT : ¬ MTy T) : Ow cells n base2 T w' v l := h.fr hF (fun g hg hs => by
  obtain ⟨cur, hb⟩ := h.typ hg
  exact hs.2 (tyA_of hb hT))
theorem tyDesk : ¬ MTy 72 := by unfold MTy; decide
theorem tyPnt : ¬ MTy 92 := by unfold MTy; decide
/-- the points of a session, and where the desk lies -/
def PtZ (Z : Nat → Prop) (w : World) (d : Nat) (v : Value) : Prop := Ow Pt.cells 2 0 92 w v (ptsC [0, 1, 2] 4) ∧ (∀ g, foot v = some g → ¬ Z g) ∧ ¬ Z d
/-- the desk of a session -/
def DeskW (Z : Nat → Prop) (base : Nat) (w : World) (d : Nat) (S : RSt) : Prop :=
  ∃ m v, Blk w d 72 #[.pointer (some ⟨m, 0, none⟩), v] ∧ MZ Z base w m S.D S.C ∧ PtZ Z w d v ∧ base ≤ w.heap.size ∧ S.C.length = 3
theorem DeskW.belowS {base d : Nat} {w w' : World} {S : RSt} (h : DeskW Z base w d S) (hb : Below w.heap.size w w') : DeskW Z base w' d S := by
  obtain ⟨m, v, h1, h2, h3, h4, h5⟩ := h
  exact ⟨m, v, h1.belowS hb, h2.belowS hb, ⟨h3.1.belowS hb, h3.2⟩, Nat.le_trans h4 hb.size, h5⟩
/-- .. in a world where what is no part of it has turned -/
theorem DeskW.fr {base d : Nat} {w w' : World} {S : RSt} {F : Nat → Prop} (h : DeskW Z base w d S) (hF : Fr F w w') (hZ : ∀ i, F i → Z i) : DeskW Z base w' d S := by
  obtain ⟨m, v, h1, h2, h3, h4, h5⟩ := h
  exact ⟨m, v, h1.fr hF (fun h => h3.2.2 (hZ _ h)), ⟨h2.1.fr hF hZ, fun i hi => Nat.lt_of_lt_of_le (h2.2 i hi) hF.size⟩, ⟨h3.1.fr hF (fun g hg h => h3.2.1 g hg (hZ _ h)), h3.2⟩, Nat.le_trans h4 hF.size, h5⟩
/-- the library's variables, whatever is made from base on -/
def TrB (base : Nat) (w : World) : Prop := ∀ W, Below base w W → Tr W
theorem TrB.now {base : Nat} {w : World} (h : TrB base w) : Tr w := h w (Below.refl _ _)
theorem TrB.step {base : Nat} {w W : World} (h : TrB base w) (hb : Below base w W) : TrB base W := fun _ hV => h _ (hb.trans hV)

/-! ### texts of numbers -/
theorem mkB_append (a b : Tx) : mkB a ++ mkB b = mkB (a ++ b) := by
  apply ByteArray.ext
  rw [ByteArray.data_append]
  show a.toArray ++ b.toArray = (a ++ b).toArray
  simp
theorem itoaN_any (n : Nat) (hn : n < 10000) (w : World) (hT : Tr w) :
    Calls Tryz.prog 89 #[.int .i64 (n : Int)] w fun e w' => e = .returned (.string (mkB (digN n))) ∧ Below w.heap.size w w' := by
  have := itoa_any (n : Int) (by omega) (by omega) w hT.tb
  rw [show Go.Lib.itoa (n : Int) = digN n from by rw [Go.Lib.itoa, if_neg (by omega), Int.toNat_natCast, digN_eq hn]] at this
  exact this
/-- run.told -/
theorem rtold_any (n : Nat) (hn : n < 10000) (ev : Value) (w : World) (hT : Tr w) :
    Calls Tryz.prog 74 #[.int .i64 (n : Int), ev] w fun e w' => e = .returned (.tuple #[.string (mkB (digN n)), ev]) ∧ Below w.heap.size w w' := by
  have HI := hid (fun W (hW : Below w.heap.size w W) => itoaN_any n hn W (hT.belowS hW))
  clear hT
  go_enter Tryz.func74, Tryz.ntmps74
  go_wp2_with fail
  refine (HI.out _ (Below.refl _ _)).mono ?_
  rintro e w1 ⟨rfl, hb1⟩
  have Hb1 := hid hb1
  clear hb1
  go_wp2_with fail
  go_ret2
  exact ⟨rfl, Hb1.out⟩
set_option maxHeartbeats 4000000 in
set_option maxRecDepth 100000 in
/-- run.text -/
theorem rtext_any (k : Int) (v a : Nat) (g : Bool) (t : ByteArray) (hv : v < 10000) (ha : a < 10000) (ht : t.size ≤ 3000) (w : World) (hT : Tr w) :
    Calls Tryz.prog 112 #[.agg #[.int .i64 k, .int .i64 (v : Int), .int .i64 (a : Int), .bool g, .string t]] w fun e w' => e = .returned (.string (mkB (digN v ++ [45] ++ (digN a ++ ([32] ++ (if g = true then goneT else t.data.toList)))))) ∧ Below w.heap.size w w' := by
  have HV := hid (fun W (hW : Below w.heap.size w W) => itoaN_any v hv W (hT.belowS hW))
  have HA := hid (fun W (hW : Below w.heap.size w W) => itoaN_any a ha W (hT.belowS hW))
  obtain ⟨u, hu⟩ : ∃ u : Tx, u = if g = true then goneT else t.data.toList := ⟨_, rfl⟩
  rw [← hu]
  have Hu := hid hu
  have hul : u.length ≤ 3000 := by
    rw [hu]
    have := Lib.size_eq t
    split
    · decide
    · omega
  have hvl := (digN_len v).2
  have hal := (digN_len a).2
  generalize digN v = V at *
  generalize digN a = A at *
  obtain ⟨w1, hw1⟩ : ∃ W : World, W = w.alloc (.cells #[.int .i64 k, .int .i64 (v : Int), .int .i64 (a : Int), .bool g, .string t] 59) := ⟨_, rfl⟩
  have hb1 : Below w.heap.size w w1 := by rw [hw1]; exact (Below.refl _ _).alloc (Nat.le_refl _) _
  have hB1 : Blk w1 w.heap.size 59 #[.int .i64 k, .int .i64 (v : Int), .int .i64 (a : Int), .bool g, .string t] := by rw [hw1]; exact Blk.new _ _ _
  have hl1 := hB1.lt
  have c1 : w1.cell? ⟨w.heap.size, 1, none⟩ = some (.int .i64 (v : Int)) := hB1.cell 1
  have c2 : w1.cell? ⟨w.heap.size, 2, none⟩ = some (.int .i64 (a : Int)) := hB1.cell 2
  have c3 : w1.cell? ⟨w.heap.size, 3, none⟩ = some (.bool g) := hB1.cell 3
  have c4 : w1.cell? ⟨w.heap.size, 4, none⟩ = some (.string t) := hB1.cell 4
  have Hb1 := hid hb1
  have Hw1 := hid hw1
  clear hT hu hb1 hB1 hw1
  go_enter Tryz.func112, Tryz.ntmps112
  go_upto_region 1 with fail
  rw [← Hw1.out]
  go_upto_if 7 with fail
  go_cut [3] (fun x wx => x = .string (mkB u) ∧ wx = w1)
  case first =>
    rcases g with _ | _
    · obtain rfl : u = t.data.toList := Hu.out
      go_wp2_with fail
      go_meet
      exact ⟨rfl, rfl⟩
    · obtain rfl : u = goneT := Hu.out
      go_wp2_with fail
      go_meet
      exact ⟨rfl, rfl⟩
  case rest =>
  obtain ⟨rfl, hwc⟩ := hcut
  obtain rfl : w1 = wc := hwc.symm
  have hus := mkB_size u
  have hvs := mkB_size V
  have has := mkB_size A
  have HS : mkB V ++ ⟨#[45]⟩ ++ mkB A ++ ⟨#[32]⟩ ++ mkB u = mkB (V ++ [45] ++ (A ++ ([32] ++ u))) := by
    rw [show (⟨#[45]⟩ : ByteArray) = mkB [45] from rfl, show (⟨#[32]⟩ : ByteArray) = mkB [32] from rfl, mkB_append, mkB_append, mkB_append, mkB_append, List.append_assoc, List.append_assoc, List.append_assoc]
  have q1 : ¬ 9223372036854775807 < V.length + 1 := by omega
  have q2 : ¬ 9223372036854775807 < V.length + 1 + A.length := by omega
  have q3 : ¬ 9223372036854775807 < V.length + 1 + A.length + 1 := by omega
  have q4 : ¬ 9223372036854775807 < V.length + 1 + A.length + 1 + u.length := by omega
  go_upto_region 4 with fail
  have HV1 := hid (fun W (hW : Below w1.heap.size w1 W) => HV.out W (Hb1.out.trans (hW.mono Hb1.out.size)))
  have HA1 := hid (fun W (hW : Below w1.heap.size w1 W) => HA.out W (Hb1.out.trans (hW.mono Hb1.out.size)))
  go_region_held3 (fun W => Below w1.heap.size w1 W ∧ W.cell? ⟨w.heap.size, 1, none⟩ = some (.int .i64 (v : Int)) ∧ W.cell? ⟨w.heap.size, 2, none⟩ = some (.int .i64 (a : Int))) (first | with_reducible exact keep2_below hl1 hl1 c1 c2 (Below.refl _ _).drew | (go_split_ands; with_reducible exact keep2_below hl1 hl1 c1 c2 (by assumption)) | (go_split_ands; exact keep2_below hl1 hl1 c1 c2 (by (repeat (first | with_reducible exact Below.refl _ _ | with_reducible assumption | (with_reducible refine Below.drew ?_) | (with_reducible refine Below.manyDrew ?_ _) | ((with_reducible refine Below.alloc ?_ ?_ _); rotate_left; (focus (first | omega | (dsimp only; omega) | (simp; done) | (simp; omega)))) | ((with_reducible refine Below.setCell ?_ ?_ _); rotate_left; (focus (first | omega | (dsimp only; omega) | (simp; done) | (simp; omega)))) | ((with_reducible refine Below.step ?_ (by assumption) ?_); rotate_left; (focus (first | omega | (dsimp only; omega) | (simp; done) | (simp; omega))))))))) (first | (go_at_call 89; go_split_ands; (first | refine (HV1.out _ ?_).mono ?_ | refine (HA1.out _ ?_).mono ?_); (first | assumption | (exact (Below.refl _ _).drew)); rintro e wj ⟨rfl, hbj⟩; have hb2j := bstep ‹Below w1.heap.size w1 _› hbj))
  all_goals
    go_wp2_with fail
    go_ret
    clear HS
    refine ⟨?_, ?_⟩
    · show Ending.returned (.string (mkB (V ++ 45 :: (A ++ 32 :: u)))) = _
      rw [List.append_assoc]
      rfl
    · exact Hb1.out.trans (Below.mono (by assumption) Hb1.out.size)
/-! ### the keys of a cache -/
def keysB (l : List E) : List ByteArray := l.map fun e => mkB (digN e.key.toNat)
theorem keysB_len (l : List E) : (keysB l).length = l.length := List.length_map ..
theorem keysB_take (l : List E) {j : Nat} (hj : j < l.length) : keysB (l.take (j + 1)) = keysB (l.take j) ++ [mkB (digN (l.getD j E.zero).key.toNat)] := by
  rw [List.take_succ_eq_append_getElem hj]
  unfold keysB
  rw [List.map_append, List.getD_eq_getElem?_getD, List.getElem?_eq_getElem hj]
  rfl
theorem keysB_lists (l : List E) : (keysB l).map (·.data.toList) = l.map fun e => digN e.key.toNat := by
  unfold keysB
  rw [List.map_map]
  apply List.map_congr_left
  intro n _
  simp [mkB]
theorem keysT_join : ∀ l : List E, Go.Lib.join (l.map fun e => digN e.key.toNat) [32] = keysT l
  | [] => rfl
  | [e] => by
    rw [List.map_cons, List.map_nil, Go.Lib.join_cons, keysT]
    simp [Go.Lib.joinTail]
  | e :: f :: r => by
    have := keysT_join (f :: r)
    rw [List.map_cons, Go.Lib.join_cons] at this
    rw [List.map_cons, List.map_cons, Go.Lib.join_cons, keysT, ← this]
    simp [Go.Lib.joinTail]
    simp
theorem keysT_len : ∀ l : List E, (keysT l).length ≤ 5 * l.length
  | [] => Nat.zero_le _
  | [e] => by
    have := (digN_len e.key.toNat).2
    rw [keysT, List.length_singleton]; omega
  | e :: f :: r => by
    have h1 := keysT_len (f :: r)
    have h2 := (digN_len e.key.toNat).2
    show (digN e.key.toNat ++ 32 :: keysT (f :: r)).length ≤ _
    simp only [List.length_append, List.length_cons] at h1 ⊢
    omega
set_option maxHeartbeats 4000000 in
set_option maxRecDepth 100000 in
/-- desk.cache -/
theorem dcache_any (base d : Nat) (node : Int) (S : RSt) (w : World) (h : DeskW Z base w d S) (hT : Tr w) :
    Calls Tryz.prog 79 #[.pointer (some ⟨d, 0, none⟩), .int .i64 node] w fun e w' => e = .returned (.tuple #[.string (mkB (cacheT (if inM S.C.length node = true then S.C.getD node.toNat [] else []))), errV (if inM S.C.length node = true then 0 else 1)]) ∧ Below w.heap.size w w' := by
  obtain ⟨m, v, h1, h2, h3, h4, h5⟩ := h
  have c0 := h1.cell 0
  have hdl := h1.lt
  have hcd : chkC (if inM S.C.length node = true then S.C.getD node.toNat [] else []) = 0 := by
    split
    · rename_i hi
      obtain ⟨i0, i1⟩ := inM_true.1 hi
      exact (h2.cac _ (by rw [getD_get _ (show node.toNat < S.C.length by omega)]; exact List.getElem_mem _)).1
    · decide +kernel
  have HM := hid (mcacheW node w h2.1)
  clear h1 h2 h3 h4
  generalize (if inM S.C.length node = true then S.C.getD node.toNat [] else []) = L at *
  generalize (if inM S.C.length node = true then (0 : Int) else 1) = er at *
  obtain ⟨hl8, hkeys, -, -⟩ := chkC_ok hcd
  have HK := hid hkeys
  have HT := hid hT
  clear hcd hkeys hT
  go_enter Tryz.func79, Tryz.ntmps79
  go_wp2_with fail
  refine HM.out.mono ?_
  rintro e w1 ⟨⟨y, rfl, hyx, hyo⟩, hb1⟩
  have hz1 := hb1.size
  obtain ⟨A, c, xs⟩ := y
  obtain rfl : xs = L := hyx
  have HE := hid hyo.es
  have HI := hid (fun n (hn : n < 10000) W (hW : Below w.heap.size w W) => itoaN_any n hn W (HT.out.belowS hW))
  have Hb1 := hid hb1
  clear hyo hb1
  go_wp2_with fail
  go_loopw [8, 22] (fun v i wr => ∃ j : Nat, j ≤ xs.length ∧ i = .int .i64 j ∧ Ow cellB 1 w1.heap.size 9 wr v (keysB (xs.take j)) ∧ Below w1.heap.size w1 wr) (fun _ i _ => xs.length - (intOf i).toNat)
  case atStart => exact ⟨0, Nat.zero_le _, rfl, Ow.nil _ _ _ _ _, Below.refl _ _⟩
  case round =>
    obtain ⟨j, hj, rfl, hO, hbr⟩ := hrel
    have hz0 := hbr.size
    have HO := hid hO
    have Hbr := hid hbr
    clear hO
    by_cases hlt : j < xs.length
    · obtain ⟨g, off, hA, hg, hcells⟩ := HE.out.entries.get (show 0 < xs.length by omega)
      obtain ⟨k0, k1, k2, k3, k4⟩ := (hcells j hlt).stays hbr hg
      have hst := keysB_take xs hlt
      have hky := chk_key (HK.out _ (getD_mem hlt))
      have hlL : (keysB (xs.take j)).length ≤ 8 := by rw [keysB_len, List.length_take]; omega
      obtain ⟨n, hn⟩ : ∃ n : Nat, n = (xs.getD j E.zero).key.toNat := ⟨_, rfl⟩
      rw [← hn] at hst
      rw [show (xs.getD j E.zero).key = (n : Int) by omega] at k0
      have hn8 : n < 10000 := by omega
      generalize xs.getD j E.zero = x at *
      generalize keysB (xs.take j) = B at *
      have Hst := hid hst
      have HJ := hid (HI.out n hn8)
      clear hst hbr hcells hn hky
      simp only at hA
      rw [hA]
      clear hA
      go_wp2_with fail
      refine (HJ.out _ ((Hb1.out.trans (Hbr.out.mono Hb1.out.size)).alloc (Hb1.out.trans (Hbr.out.mono Hb1.out.size)).size _)).mono ?_
      rintro e w2 ⟨rfl, hb2⟩
      have hz2 := hb2.size
      rw [World.size_alloc] at hz2
      have Hb2 := hid (show Below w1.heap.size w1 w2 from (Hbr.out.alloc hz0 _).trans (hb2.mono (by rw [World.size_alloc]; omega)))
      have HO1 := hid (show Ow cellB 1 w1.heap.size 9 w2 _ B from (HO.out.alloc _).belowS hb2)
      clear hb2
      go_wp2_with (at_builtin; refine appB _ w1.heap.size _ B _ HO1.out rfl _ _ rfl rfl rfl ?_ ?_ ?_ ?_)
      any_goals (first | (with_reducible rfl) | omega | exact World.size_alloc _ _ | (show _ ≤ _; rw [World.size_alloc]; omega))
      intro v8 w8 h8 f8 o8
      have hb8 : Below w1.heap.size w1 w8 := Hb2.out.trans (f8.below0 (by omega) (fun i hi => HO1.out.ge _ hi))
      go_wp2_with fail
      go_roundw
      case rel => exact ⟨j + 1, by omega, by go_num, by rw [Hst.out]; exact h8, hb8⟩
      case measure => simp [intOf]; omega
    · obtain rfl : j = xs.length := by omega
      rw [List.take_length] at HO
      obtain ⟨B, hB⟩ : ∃ B : List ByteArray, B = keysB xs := ⟨_, rfl⟩
      rw [← hB] at HO
      have hBl : B.length = xs.length := by rw [hB, keysB_len]
      rcases Nat.eq_zero_or_pos xs.length with h0 | h0
      · obtain rfl : xs = [] := List.length_eq_zero_iff.1 h0
        obtain ⟨A', c', rfl, _⟩ := HO.out.form
        have hB0 : B.length = 0 := hBl
        rw [hB0]
        clear HO hB hBl hB0 hbr
        go_wp2_with fail
        go_ret2
        exact ⟨rfl, Hb1.out.trans (Hbr.out.mono Hb1.out.size)⟩
      · have hne : 0 < B.length := by rw [hBl]; exact h0
        have hct : cacheT xs = Go.Lib.join (B.map (·.data.toList)) [32] := by
          rw [cacheT, if_neg (fun e => by rw [e] at h0; cases h0), hB, keysB_lists, keysT_join]
        obtain ⟨g, og, cap, rfl, hc1, hc2, hg1, hg2, hg3, _, _⟩ := HO.out.get hne
        have HJ := hid (show Calls Tryz.prog 90 #[.slice (some ⟨g, og, none⟩) B.length cap, .string ⟨#[32]⟩] wr (fun e w' => e = .returned (.string (mkB (cacheT xs))) ∧ Below wr.heap.size wr w') from by
          rw [hct]
          exact Tryz.strings_Join g og cap B ⟨#[32]⟩ wr (Ow.strCells HO.out hne) hg2 (by omega) hc1 (by rw [hB, keysB_lists]; show (Go.Lib.join (xs.map _) [32]).length ≤ _; rw [keysT_join]; have := keysT_len xs; omega))
        have hB1 : ¬ (xs.length : Int) = 0 := by omega
        rw [hBl] at HJ
        rw [hBl]
        clear hc1 hc2 hg1 hg2 hg3 HO hbr hct hB hBl hne
        go_wp2_with fail
        refine HJ.out.mono ?_
        rintro e w2 ⟨rfl, hb2⟩
        go_wp2_with fail
        go_ret2
        exact ⟨rfl, (Hb1.out.trans (Hbr.out.mono Hb1.out.size)).trans (hb2.mono (Hb1.out.trans (Hbr.out.mono Hb1.out.size)).size)⟩

/-! ### desk.get -/
/-- the blocks that stay where an operation of the mesh runs in a world behind w -/
def TyB (Z : Nat → Prop) (w W : World) (i : Nat) : Prop := TyA Z w i ∨ (w.heap.size ≤ i ∧ i < W.heap.size)
def GetW (Z : Nat → Prop) (base : Nat) (w W : World) (m : Nat) (D : List E) (r : (E × Bool × Int) × List (List E)) (e : Ending) (w' : World) : Prop :=
  e = .returned (.tuple #[r.1.1.val, .bool r.1.2.1, errV r.1.2.2]) ∧ MeshW base w' m D r.2 (TyB Z w W) ∧ Fr (MTouch base (TyB Z w W)) W w'
theorem dget_mesh (base m : Nat) (D : List E) (C : List (List E)) (node key fl : Int) (w : World) (h : MZ Z base w m D C) (hB : base ≤ w.heap.size) (W : World) (hW : Below w.heap.size w W) :
    Calls Tryz.prog 111 #[.pointer (some ⟨m, 0, none⟩), .int .i64 node, .int .i64 key, .int .i64 fl] W (GetW Z base w W m D (mgetR D C node key fl)) := by
  have h1 : MeshW base W m D C (TyB Z w W) := h.free.avoid hW
  exact mgetW node key fl W h1 (fun i hi => hi.elim (fun h => Nat.lt_of_lt_of_le h.1 hW.size) (fun h => h.2)) (Nat.le_trans hB hW.size)
/-- an entry in a box, the mesh beside it -/
def BoxG (Z : Nat → Prop) (base : Nat) (w : World) (m : Nat) (D : List E) (C : List (List E)) (cs : Array Value) (a : Value) (wx : World) : Prop := ∃ g9, a = .pointer (some ⟨g9, 0, none⟩) ∧ Blk wx g9 59 cs ∧ MZ Z base wx m D C ∧ Fr (TouchD Z base w) w wx
theorem touchB {base : Nat} {w W X : World} (hW : Below w.heap.size w W) (hF : Fr (MTouch base (TyB Z w W)) W X) : Fr (TouchD Z base w) w X :=
  (Fr.ofB hW).trans hF (fun _ hi => .inl ⟨hi.1, fun h => hi.2 (.inl h)⟩)
theorem BoxG.mk1 {base m g : Nat} {w W X : World} {D D0 : List E} {C C0 : List (List E)} {cs : Array Value} (h0 : MZ Z base w m D0 C0) (hW : Below w.heap.size w W) (hM : MeshW base X m D C (TyB Z w W)) (hF : Fr (MTouch base (TyB Z w W)) W X) (hg : g = X.heap.size) :
    BoxG Z base w m D C cs (.pointer (some ⟨g, 0, none⟩)) (X.alloc (.cells cs 59)) :=
  ⟨_, rfl, by rw [hg]; exact Blk.new _ _ _, (h0.of (Nat.le_trans hW.size hF.size) hM (fun _ h => .inl h)).belowS ((Below.refl _ _).alloc (Nat.le_refl _) _), (touchB hW hF).alloc _⟩
theorem BoxG.mk2 {base m g : Nat} {w W X : World} {D D0 : List E} {C C0 : List (List E)} {a b c d e x0 x1 x2 x3 x4 : Value} (h0 : MZ Z base w m D0 C0) (hW : Below w.heap.size w W) (hB : Blk W g 59 #[a, b, c, d, e]) (hg : w.heap.size ≤ g) (hM : MeshW base X m D C (TyB Z w W)) (hF : Fr (MTouch base (TyB Z w W)) W X) :
    BoxG Z base w m D C #[x0, x1, x2, x3, x4] (.pointer (some ⟨g, 0, none⟩)) (((((X.setCell ⟨g, 0, none⟩ x0).setCell ⟨g, 1, none⟩ x1).setCell ⟨g, 2, none⟩ x2).setCell ⟨g, 3, none⟩ x3).setCell ⟨g, 4, none⟩ x4) := by
  have hX : Blk X g 59 #[a, b, c, d, e] := hB.fr hF (fun hs => hs.2 (.inr ⟨hg, hB.lt⟩))
  have h5 : Fr (fun i => i = g) X (((((X.setCell ⟨g, 0, none⟩ x0).setCell ⟨g, 1, none⟩ x1).setCell ⟨g, 2, none⟩ x2).setCell ⟨g, 3, none⟩ x3).setCell ⟨g, 4, none⟩ x4) :=
    ((((((Fr.refl (fun i => i = g) X).setCell (p := ⟨g, 0, none⟩) (.inl rfl) x0).setCell (p := ⟨g, 1, none⟩) (.inl rfl) x1).setCell (p := ⟨g, 2, none⟩) (.inl rfl) x2).setCell (p := ⟨g, 3, none⟩) (.inl rfl) x3).setCell (p := ⟨g, 4, none⟩) (.inl rfl) x4)
  refine ⟨_, rfl, hX.put5 _ _ _ _ _, h0.of (Nat.le_trans hW.size (Nat.le_trans hF.size h5.size)) (hM.fr h5 (fun i hi => ?_)) (fun _ h => .inl h), (touchB hW hF).trans h5 (fun i hi => ?_)⟩
  · subst hi
    exact .inr ⟨hg, hB.lt⟩
  · subst hi
    exact .inr hg
theorem bcellG {base : Nat} {w W X : World} (hF : Fr (MTouch base (TyB Z w W)) W X) (hl : w.heap.size < W.heap.size) : (∀ o : Nat, X.cell? ⟨w.heap.size, o, none⟩ = W.cell? ⟨w.heap.size, o, none⟩) ∧ (∀ o : Nat, X.frozen? ⟨w.heap.size, o, none⟩ = W.frozen? ⟨w.heap.size, o, none⟩) :=
  ⟨fun o => hF.cell (p := ⟨w.heap.size, o, none⟩) hl (fun hs => hs.2 (.inr ⟨Nat.le_refl _, hl⟩)), fun o => hF.frozen (p := ⟨w.heap.size, o, none⟩) hl (fun hs => hs.2 (.inr ⟨Nat.le_refl _, hl⟩))⟩
theorem bcellA {base : Nat} {w X : World} {o : Obj} (hF : Fr (MTouch base (TyB Z w (w.alloc o).drew)) (w.alloc o).drew X) : (∀ k : Nat, X.cell? ⟨w.heap.size, k, none⟩ = (w.alloc o).drew.cell? ⟨w.heap.size, k, none⟩) ∧ (∀ k : Nat, X.frozen? ⟨w.heap.size, k, none⟩ = (w.alloc o).drew.frozen? ⟨w.heap.size, k, none⟩) :=
  bcellG hF (by show _ < (w.alloc o).heap.size; rw [World.size_alloc]; exact Nat.lt_succ_self _)
theorem bcellD {base : Nat} {w X : World} {o : Obj} (hF : Fr (MTouch base (TyB Z w (w.drew.alloc o))) (w.drew.alloc o) X) : (∀ k : Nat, X.cell? ⟨w.heap.size, k, none⟩ = (w.drew.alloc o).cell? ⟨w.heap.size, k, none⟩) ∧ (∀ k : Nat, X.frozen? ⟨w.heap.size, k, none⟩ = (w.drew.alloc o).frozen? ⟨w.heap.size, k, none⟩) :=
  bcellG hF (by rw [World.size_alloc]; exact Nat.lt_succ_self _)
theorem BoxG.mk2D {base m : Nat} {w X : World} {D D0 : List E} {C C0 : List (List E)} {a b c d e x0 x1 x2 x3 x4 : Value} (h0 : MZ Z base w m D0 C0) (hM : MeshW base X m D C (TyB Z w (w.alloc (.cells #[a, b, c, d, e] 59)).drew)) (hF : Fr (MTouch base (TyB Z w (w.alloc (.cells #[a, b, c, d, e] 59)).drew)) (w.alloc (.cells #[a, b, c, d, e] 59)).drew X) :
    BoxG Z base w m D C #[x0, x1, x2, x3, x4] (.pointer (some ⟨w.heap.size, 0, none⟩)) (((((X.setCell ⟨w.heap.size, 0, none⟩ x0).setCell ⟨w.heap.size, 1, none⟩ x1).setCell ⟨w.heap.size, 2, none⟩ x2).setCell ⟨w.heap.size, 3, none⟩ x3).setCell ⟨w.heap.size, 4, none⟩ x4) :=
  BoxG.mk2 h0 ((Below.refl _ _).alloc (Nat.le_refl _) _).drew (Blk.new w _ _) (Nat.le_refl _) hM hF
/-- what is no mesh's stays -/
def KeepP (Z : Nat → Prop) (w W : World) : Prop := w.heap.size ≤ W.heap.size ∧ ∀ i, TyA Z w i → W.heap[i]? = w.heap[i]?
theorem KeepP.refl (w : World) : KeepP Z w w := ⟨Nat.le_refl _, fun _ _ => rfl⟩
theorem KeepP.below {w W : World} (h : Below w.heap.size w W) : KeepP Z w W := ⟨h.size, fun i hi => h.block i hi.1⟩
theorem KeepP.drew {w W : World} (h : KeepP Z w W) : KeepP Z w W.drew := h
theorem KeepP.alloc {w W : World} (h : KeepP Z w W) (o : Obj) : KeepP Z w (W.alloc o) :=
  ⟨by rw [World.size_alloc]; exact Nat.le_succ_of_le h.1, fun i hi => (Below.heap_alloc W o i (Nat.lt_of_lt_of_le hi.1 h.1)).trans (h.2 i hi)⟩
theorem KeepP.setCell {w W : World} (h : KeepP Z w W) {p : Addr} (hp : w.heap.size ≤ p.block) (u : Value) : KeepP Z w (W.setCell p u) :=
  ⟨by rw [World.size_setCell]; exact h.1, fun i hi => (Below.heap_setCell W p u i (by have := hi.1; omega)).trans (h.2 i hi)⟩
theorem KeepP.fr {base : Nat} {w W X : World} (h : KeepP Z w W) (hF : Fr (MTouch base (TyB Z w W)) W X) : KeepP Z w X :=
  ⟨Nat.le_trans h.1 hF.size, fun i hi => (hF.block i (Nat.lt_of_lt_of_le hi.1 h.1) (fun hs => hs.2 (.inl hi))).trans (h.2 i hi)⟩
theorem keep4 {w W : World} {p0 p1 p2 p3 : Addr} {v0 v1 v2 v3 : Value} (t0 : TyA Z w p0.block) (t1 : TyA Z w p1.block) (t2 : TyA Z w p2.block) (t3 : TyA Z w p3.block) (c0 : w.cell? p0 = some v0) (c1 : w.cell? p1 = some v1) (c2 : w.cell? p2 = some v2) (c3 : w.cell? p3 = some v3) (h : KeepP Z w W) :
    KeepP Z w W ∧ W.cell? p0 = some v0 ∧ W.cell? p1 = some v1 ∧ W.cell? p2 = some v2 ∧ W.cell? p3 = some v3 :=
  ⟨h, (World.cell?_of_block (w := w) (h.2 _ t0)).trans c0, (World.cell?_of_block (w := w) (h.2 _ t1)).trans c1, (World.cell?_of_block (w := w) (h.2 _ t2)).trans c2, (World.cell?_of_block (w := w) (h.2 _ t3)).trans c3⟩
def entT2 (r : E × Bool × Int) : Tx := entT r.1 ++ (if r.2.1 = true then cachedT else [])
/-- an entry that a text is made of -/
def EntOk (e : E) : Prop := 0 ≤ e.ver ∧ e.ver < 10000 ∧ 0 ≤ e.asof ∧ e.asof < 10000 ∧ e.text.size ≤ 3000
theorem rtext_ent (x : E) (hx : EntOk x) (w : World) (hT : Tr w) : Calls Tryz.prog 112 #[x.val] w fun e w' => e = .returned (.string (mkB (entT x))) ∧ Below w.heap.size w w' := by
  obtain ⟨k, v, a, g, t⟩ := x
  obtain ⟨h1, h2, h3, h4, h5⟩ := hx
  simp only at h1 h2 h3 h4 h5
  obtain ⟨v, rfl⟩ := Int.eq_ofNat_of_zero_le h1
  obtain ⟨a, rfl⟩ := Int.eq_ofNat_of_zero_le h3
  exact rtext_any k v a g t (by omega) (by omega) h5 w hT
set_option maxHeartbeats 4000000 in
set_option maxRecDepth 100000 in
theorem dget_any (base d b off cap : Nat) (n0 n1 n2 : Int) (S : RSt) (w : World) (h : DeskW Z base w d S) (hT : TrB base w) (hb : TyA Z w b) (i0 : w.cell? ⟨b, off, none⟩ = some (.int .i64 n0)) (i1 : w.cell? ⟨b, off + 1, none⟩ = some (.int .i64 n1)) (i2 : w.cell? ⟨b, off + 2, none⟩ = some (.int .i64 n2)) (hok : EntOk (mgetR S.D S.C n0 n1 n2).1.1) :
    Calls Tryz.prog 77 #[.pointer (some ⟨d, 0, none⟩), .slice (some ⟨b, off, none⟩) 3 cap] w fun e w' => e = .returned (.tuple #[.string (mkB (entT2 (mgetR S.D S.C n0 n1 n2).1)), errV (mgetR S.D S.C n0 n1 n2).1.2.2]) ∧ (∃ m, w.cell? ⟨d, 0, none⟩ = some (.pointer (some ⟨m, 0, none⟩)) ∧ MZ Z base w' m S.D (mgetR S.D S.C n0 n1 n2).2) ∧ Fr (TouchD Z base w) w w' := by
  obtain ⟨m, v, h1, h2, h3, h4, h5⟩ := h
  have c0 : w.cell? ⟨d, 0, none⟩ = some (.pointer (some ⟨m, 0, none⟩)) := h1.cell 0
  have hd : TyA Z w d := tyA_of h1 tyDesk
  have HG := hid (dget_mesh base m S.D S.C n0 n1 n2 w h2 h4)
  have H2 := hid h2
  have Hc0 := hid c0
  clear h1 h2 h3 h5
  generalize mgetR S.D S.C n0 n1 n2 = r at *
  obtain ⟨⟨⟨xk, xv, xa, xg, xt⟩, g, er⟩, C'⟩ := r
  replace HG := hid (show ∀ W, Below w.heap.size w W → Calls Tryz.prog 111 #[.pointer (some ⟨m, 0, none⟩), .int .i64 n0, .int .i64 n1, .int .i64 n2] W (fun e w' => e = .returned (.tuple #[.agg #[.int .i64 xk, .int .i64 xv, .int .i64 xa, .bool xg, .string xt], .bool g, errV er]) ∧ MeshW base w' m S.D C' (TyB Z w W) ∧ Fr (MTouch base (TyB Z w W)) W w' ∧ KeepP Z w w') from fun W hW => (HG.out W hW).mono (fun e w' h => ⟨h.1, h.2.1, h.2.2, (KeepP.below hW).fr h.2.2⟩))
  go_enter Tryz.func77, Tryz.ntmps77
  go_upto_region 1 with fail
  go_cut [6, 7, 8] (fun x6 x7 x8 wx => BoxG Z base w m S.D C' #[.int .i64 xk, .int .i64 xv, .int .i64 xa, .bool xg, .string xt] x6 wx ∧ x7 = .bool g ∧ x8 = errV er)
  case first =>
    go_region_held3 (fun W => KeepP Z w W ∧ W.cell? ⟨d, 0, none⟩ = some (.pointer (some ⟨m, 0, none⟩)) ∧ W.cell? ⟨b, off, none⟩ = some (.int .i64 n0) ∧ W.cell? ⟨b, off + 1, none⟩ = some (.int .i64 n1) ∧ W.cell? ⟨b, off + 2, none⟩ = some (.int .i64 n2)) (first | with_reducible exact keep4 hd hb hb hb c0 i0 i1 i2 (KeepP.refl w).drew | (go_split_ands; exact keep4 hd hb hb hb c0 i0 i1 i2 (by (repeat (first | with_reducible assumption | with_reducible exact KeepP.refl _ | with_reducible refine KeepP.drew ?_ | with_reducible refine KeepP.alloc ?_ _ | ((with_reducible refine KeepP.setCell ?_ ?_ _); rotate_left; (first | exact Nat.le_refl _ | exact KeepP.1 (by assumption)))))))) (first | (go_at_call 111; go_split_ands; refine (HG.out _ (by (repeat (first | with_reducible exact Below.refl _ _ | with_reducible assumption | (with_reducible refine Below.drew ?_) | (with_reducible refine Below.manyDrew ?_ _) | ((with_reducible refine Below.alloc ?_ ?_ _); rotate_left; (focus (first | omega | (dsimp only; omega) | (simp; done) | (simp; omega)))) | ((with_reducible refine Below.setCell ?_ ?_ _); rotate_left; (focus (first | omega | (dsimp only; omega) | (simp; done) | (simp; omega)))) | ((with_reducible refine Below.step ?_ (by assumption) ?_); rotate_left; (focus (first | omega | (dsimp only; omega) | (simp; done) | (simp; omega)))))))).mono ?_; rintro e wn ⟨rfl, hMn, hFn, hKn⟩; (first | (obtain ⟨hbc, hbf⟩ := bcellD hFn) | (obtain ⟨hbc, hbf⟩ := bcellA hFn) | skip)))
    all_goals
      go_wp2_with fail
      go_meet
      refine ⟨?_, rfl, rfl⟩
      first
        | with_reducible exact BoxG.mk1 H2.out (Below.refl _ _).drew hMn hFn rfl
        | with_reducible exact BoxG.mk2D H2.out hMn hFn
  case rest =>
  obtain ⟨⟨g9, rfl, hB, hM, hF⟩, rfl, rfl⟩ := hcut
  obtain ⟨w2, rfl⟩ : ∃ w2 : World, w2 = wc := ⟨_, rfl⟩
  have k0 : w2.cell? ⟨g9, 0, none⟩ = some (.int .i64 xk) := hB.cell 0
  have k1 : w2.cell? ⟨g9, 1, none⟩ = some (.int .i64 xv) := hB.cell 1
  have k2 : w2.cell? ⟨g9, 2, none⟩ = some (.int .i64 xa) := hB.cell 2
  have k3 : w2.cell? ⟨g9, 3, none⟩ = some (.bool xg) := hB.cell 3
  have k4 : w2.cell? ⟨g9, 4, none⟩ = some (.string xt) := hB.cell 4
  have HM := hid hM
  have HF := hid hF
  have HX := hid (show Calls Tryz.prog 112 #[.agg #[.int .i64 xk, .int .i64 xv, .int .i64 xa, .bool xg, .string xt]] w2 (fun e w' => e = .returned (.string (mkB (entT ⟨xk, xv, xa, xg, xt⟩))) ∧ Below w2.heap.size w2 w') from rtext_ent ⟨xk, xv, xa, xg, xt⟩ hok w2 (hT _ (hF.below0 h4 (fun i hi => hi.1))))
  have hlen : (entT ⟨xk, xv, xa, xg, xt⟩).length ≤ 4000 := by
    have h1 := (digN_len xv.toNat).2
    have h2 := (digN_len xa.toNat).2
    have h3 := hok.2.2.2.2
    have h5 := Lib.size_eq xt
    unfold entT
    simp only [List.length_append, List.length_cons, List.length_nil] at h3 ⊢
    split
    · show _ + 1 + (_ + (0 + 1 + 4)) ≤ _
      omega
    · omega
  have hsz := mkB_size (entT ⟨xk, xv, xa, xg, xt⟩)
  have HE := hid (show entT2 (⟨xk, xv, xa, xg, xt⟩, g, er) = entT ⟨xk, xv, xa, xg, xt⟩ ++ (if g = true then cachedT else []) from rfl)
  generalize entT ⟨xk, xv, xa, xg, xt⟩ = T at *
  clear hB hM hF hT hok hb i0 i1 i2 c0 hd h4
  go_wp2_with fail
  refine HX.out.mono ?_
  rintro e w3 ⟨rfl, hb3⟩
  have HM3 := hid (HM.out.belowS hb3)
  have HF3 := hid (HF.out.stepB hb3)
  clear hb3
  rcases g with _ | _
  · have HE1 := hid (HE.out.trans (show T ++ (if false = true then cachedT else []) = T from List.append_nil T))
    clear HE
    go_wp2_with fail
    go_ret2
    exact ⟨by rw [HE1.out]; rfl, ⟨m, Hc0.out, HM3.out⟩, HF3.out⟩
  · have q1 : ¬ 9223372036854775807 < T.length + 7 := by omega
    have HE1 := hid (show mkB (entT2 (⟨xk, xv, xa, xg, xt⟩, true, er)) = mkB T ++ mkB cachedT from by rw [HE.out, mkB_append]; rfl)
    clear HE
    go_wp2_with fail
    go_ret2
    exact ⟨by rw [HE1.out]; rfl, ⟨m, Hc0.out, HM3.out⟩, HF3.out⟩
end Go.Proofs.YtemhdfodghfkfaaGreatDoor
