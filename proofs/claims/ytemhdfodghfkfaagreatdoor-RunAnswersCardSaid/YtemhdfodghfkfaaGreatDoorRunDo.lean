/-
  run.desk's do: what each word tells and leaves. CONDITIONS: the library's variables read as they are laid (Tr).
-/
import Derived.Test.YtemhdfodghfkfaaGreatDoorRunDesk
import Derived.Test.YtemhdfodghfkfaaGreatDoorRing6
namespace Go.Proofs.YtemhdfodghfkfaaGreatDoor
open Go.RowKit
open Go.ChangeShapes Go.WideShapes Go.ChangeAt
variable {Z : Nat → Prop}

/-! ### plain: the deeds of a session -/
theorem rput_facts {D : List E} (h : Deeds D) (key : Int) (t : ByteArray) : (0 ≤ (rput D key t).1.1 ∧ (rput D key t).1.1 ≤ 1000) ∧ 0 ≤ (rput D key t).1.2 ∧ (rput D key t).1.2 ≤ 8 := by
  have := h.len
  unfold rput rdone
  repeat' split
  all_goals (simp only; omega)
theorem rdel_facts {D : List E} (h : Deeds D) (key : Int) : (0 ≤ (rdel D key).1.1 ∧ (rdel D key).1.1 ≤ 1000) ∧ 0 ≤ (rdel D key).1.2 ∧ (rdel D key).1.2 ≤ 8 := by
  have := h.len
  unfold rdel rdone
  repeat' split
  all_goals (simp only; omega)
theorem mdoR_facts {len : Nat} {D : List E} {node : Int} {r : (Int × Int) × List E} (h : (0 ≤ r.1.1 ∧ r.1.1 ≤ 1000) ∧ 0 ≤ r.1.2 ∧ r.1.2 ≤ 8) : (0 ≤ (mdoR len D node r).1.1 ∧ (mdoR len D node r).1.1 ≤ 1000) ∧ 0 ≤ (mdoR len D node r).1.2 ∧ (mdoR len D node r).1.2 ≤ 8 := by
  unfold mdoR
  split
  · exact h
  · simp only; omega
theorem learnC_len (C : List (List E)) (k : Nat) (key : Int) (D : List E) : (learnC C k key D).length = C.length := by
  unfold learnC
  rw [List.length_set]
theorem deed_len (S : RSt) (node key : Int) (r : (Int × Int) × List E) : (S.deed node key r).2.C.length = S.C.length := by
  unfold RSt.deed
  show List.length (if _ then _ else _) = _
  split
  · exact learnC_len _ _ _ _
  · rfl
theorem mgetR_len (D : List E) (C : List (List E)) (node key fl : Int) : (mgetR D C node key fl).2.length = C.length := by
  unfold mgetR
  repeat' split
  all_goals first | rfl | exact learnC_len _ _ _ _
theorem mswapR_facts (C : List (List E)) (a b : Int) : (mswapR C a b).2.length = C.length ∧ 0 ≤ (mswapR C a b).1 ∧ (mswapR C a b).1 ≤ 8 := by
  unfold mswapR
  repeat' split
  all_goals (refine ⟨?_, ?_⟩; (first | rfl | (simp only [List.length_set])); (simp only; omega))
theorem DeskW.next {base d m : Nat} {w w' : World} {S S' : RSt} (h : DeskW Z base w d S) (hc : w.cell? ⟨d, 0, none⟩ = some (.pointer (some ⟨m, 0, none⟩))) (hM : MZ Z base w' m S'.D S'.C) (hF : Fr (TouchD Z base w) w w') (hl : S'.C.length = 3) : DeskW Z base w' d S' := by
  obtain ⟨m', v, h1, h2, h3, h4, h5⟩ := h
  have hm : m' = m := by
    have c0 : w.cell? ⟨d, 0, none⟩ = some (.pointer (some ⟨m', 0, none⟩)) := h1.cell 0
    rw [c0] at hc
    injection hc with hc
    injection hc with hc
    injection hc with hc
    injection hc
  subst hm
  exact ⟨m', v, h1.keepD hF tyDesk, hM, ⟨h3.1.keepD hF tyPnt, h3.2⟩, Nat.le_trans h4 hF.size, hl⟩
/-- what desk.do tells -/
def DoR (Z : Nat → Prop) (base d : Nat) (w : World) (a : Tx) (S' : RSt) (e : Ending) (w' : World) : Prop :=
  (∃ (t : Tx) (n : Int), e = .returned (.tuple #[.string (mkB t), errV n]) ∧ 0 ≤ n ∧ n ≤ 8 ∧ a = (if n = 0 then t else nameE n)) ∧ DeskW Z base w' d S' ∧ Fr (TouchD Z base w) w w'
/-- what an operation of the mesh tells -/
def OpP (Z : Nat → Prop) (base m : Nat) (w : World) (D : List E) (C : List (List E)) (v : Value) (e : Ending) (X : World) : Prop := e = .returned v ∧ MZ Z base X m D C ∧ Fr (TouchD Z base w) w X ∧ KeepP Z w X
theorem op_of {base m : Nat} {w W : World} {D D' : List E} {C C' : List (List E)} {v : Value} {e : Ending} {X : World} (h0 : MZ Z base w m D C) (hW : Below w.heap.size w W) (h : e = .returned v ∧ MeshW base X m D' C' (TyB Z w W) ∧ Fr (MTouch base (TyB Z w W)) W X) : OpP Z base m w D' C' v e X :=
  ⟨h.1, h0.of (Nat.le_trans hW.size h.2.2.size) h.2.1 (fun _ h => .inl h), touchB hW h.2.2, (KeepP.below hW).fr h.2.2⟩
theorem tyB_lt {w W : World} (hW : Below w.heap.size w W) (i : Nat) (hi : TyB Z w W i) : i < W.heap.size := hi.elim (fun h => Nat.lt_of_lt_of_le h.1 hW.size) (fun h => h.2)
theorem KeepP.trB {w W X : World} (h : KeepP Z w W) (hb : Below W.heap.size W X) : KeepP Z w X :=
  ⟨Nat.le_trans h.1 hb.size, fun i hi => (hb.block i (Nat.lt_of_lt_of_le hi.1 h.1)).trans (h.2 i hi)⟩
section
variable {base d m : Nat} {S : RSt} {w : World}
theorem op_put (node key : Int) (t : ByteArray) (ht : t.size ≤ maxLen) (h : MZ Z base w m S.D S.C) (hB : base ≤ w.heap.size) (W : World) (hW : Below w.heap.size w W) :
    Calls Tryz.prog 75 #[.pointer (some ⟨m, 0, none⟩), .int .i64 node, .int .i64 key, .string t] W (OpP Z base m w (S.deed node key (rput S.D key t)).2.D (S.deed node key (rput S.D key t)).2.C (.tuple #[.int .i64 (mdoR S.C.length S.D node (rput S.D key t)).1.1, errV (mdoR S.C.length S.D node (rput S.D key t)).1.2])) :=
  (mputW node key t ht W (h.free.avoid hW) (tyB_lt hW) (Nat.le_trans hB hW.size)).mono (fun _ _ hh => op_of h hW hh)
theorem op_del (node key : Int) (h : MZ Z base w m S.D S.C) (hB : base ≤ w.heap.size) (W : World) (hW : Below w.heap.size w W) :
    Calls Tryz.prog 76 #[.pointer (some ⟨m, 0, none⟩), .int .i64 node, .int .i64 key] W (OpP Z base m w (S.deed node key (rdel S.D key)).2.D (S.deed node key (rdel S.D key)).2.C (.tuple #[.int .i64 (mdoR S.C.length S.D node (rdel S.D key)).1.1, errV (mdoR S.C.length S.D node (rdel S.D key)).1.2])) :=
  (mdelW node key W (h.free.avoid hW) (tyB_lt hW) (Nat.le_trans hB hW.size)).mono (fun _ _ hh => op_of h hW hh)
theorem op_swap (a b : Int) (h : MZ Z base w m S.D S.C) (hB : base ≤ w.heap.size) (hT : TrB base w) (W : World) (hW : Below w.heap.size w W) :
    Calls Tryz.prog 78 #[.pointer (some ⟨m, 0, none⟩), .int .i64 a, .int .i64 b] W (OpP Z base m w S.D (mswapR S.C a b).2 (errV (mswapR S.C a b).1)) :=
  (mswapW a b W (h.free.avoid hW) (tyB_lt hW) (Nat.le_trans hB hW.size) (hT W (hW.mono hB)).tb).mono (fun _ _ hh => op_of h hW hh)
theorem told_of (n : Nat) (hn : n < 10000) (ev : Value) (hB : base ≤ w.heap.size) (hT : TrB base w) (X : World) (hX : Fr (TouchD Z base w) w X) :
    Calls Tryz.prog 74 #[.int .i64 (n : Int), ev] X fun e w' => e = .returned (.tuple #[.string (mkB (digN n)), ev]) ∧ Below X.heap.size X w' :=
  rtold_any n hn ev X (hT X (hX.below0 hB (fun _ hi => hi.1)))
end
theorem keep3P {w W : World} {p0 p1 p2 : Addr} {v0 v1 v2 : Value} (t0 : TyA Z w p0.block) (t1 : TyA Z w p1.block) (t2 : TyA Z w p2.block) (c0 : w.cell? p0 = some v0) (c1 : w.cell? p1 = some v1) (c2 : w.cell? p2 = some v2) (h : KeepP Z w W) :
    KeepP Z w W ∧ W.cell? p0 = some v0 ∧ W.cell? p1 = some v1 ∧ W.cell? p2 = some v2 :=
  ⟨h, (World.cell?_of_block (w := w) (h.2 _ t0)).trans c0, (World.cell?_of_block (w := w) (h.2 _ t1)).trans c1, (World.cell?_of_block (w := w) (h.2 _ t2)).trans c2⟩
set_option maxHeartbeats 4000000 in
set_option maxRecDepth 100000 in
theorem do_put (base d b off cap : Nat) (n0 n1 : Int) (t : ByteArray) (ht : t.size ≤ maxLen) (S : RSt) (w : World) (h : DeskW Z base w d S) (hT : TrB base w) (hb : TyA Z w b) (i0 : w.cell? ⟨b, off, none⟩ = some (.int .i64 n0)) (i1 : w.cell? ⟨b, off + 1, none⟩ = some (.int .i64 n1)) :
    Calls Tryz.prog 51 #[.pointer (some ⟨d, 0, none⟩), .string ⟨#[112, 117, 116]⟩, .slice (some ⟨b, off, none⟩) 2 cap, .string t] w (DoR Z base d w (S.deed n0 n1 (rput S.D n1 t)).1 (S.deed n0 n1 (rput S.D n1 t)).2) := by
  have Hd := hid h
  obtain ⟨m, v, h1, h2, h3, h4, h5⟩ := h
  have c0 : w.cell? ⟨d, 0, none⟩ = some (.pointer (some ⟨m, 0, none⟩)) := h1.cell 0
  have Hc0 := hid c0
  have hd : TyA Z w d := tyA_of h1 tyDesk
  have HP := hid (op_put n0 n1 t ht h2 h4)
  have Hlen := hid (show (S.deed n0 n1 (rput S.D n1 t)).2.C.length = 3 from (deed_len S n0 n1 _).trans h5)
  obtain ⟨⟨g0, g1⟩, g2, g3⟩ := mdoR_facts (len := S.C.length) (D := S.D) (node := n0) (rput_facts h2.deeds n1 t)
  have Ha : (S.deed n0 n1 (rput S.D n1 t)).1 = toldT (mdoR S.C.length S.D n0 (rput S.D n1 t)).1 := rfl
  rw [Ha]
  generalize S.deed n0 n1 (rput S.D n1 t) = q at *
  generalize (mdoR S.C.length S.D n0 (rput S.D n1 t)).1 = r at *
  obtain ⟨k, er⟩ := r
  simp only at g0 g1 g2 g3 HP
  obtain ⟨k, rfl⟩ := Int.eq_ofNat_of_zero_le g0
  have HT := hid (told_of (Z := Z) k (by omega) (errV er) h4 hT)
  have HG := hid (show 0 ≤ er ∧ er ≤ 8 from ⟨g2, g3⟩)
  clear h1 h2 h3 h5 hT g0 g1 g2 g3 Ha
  replace HP := hid (show ∀ W, Below w.heap.size w W → Calls Tryz.prog 75 #[.pointer (some ⟨m, 0, none⟩), .int .i64 n0, .int .i64 n1, .string t] W (fun e X => e = .returned (.tuple #[.int .i64 (k : Int), errV er]) ∧ MZ Z base X m q.2.D q.2.C ∧ Fr (TouchD Z base w) w X ∧ KeepP Z w X) from HP.out)
  go_enter Tryz.func51, Tryz.ntmps51
  go_upto_region 3 with fail
  go_region_held3 (fun W => KeepP Z w W ∧ W.cell? ⟨d, 0, none⟩ = some (.pointer (some ⟨m, 0, none⟩)) ∧ W.cell? ⟨b, off, none⟩ = some (.int .i64 n0) ∧ W.cell? ⟨b, off + 1, none⟩ = some (.int .i64 n1)) (first | with_reducible exact keep3P hd hb hb c0 i0 i1 (KeepP.refl w).drew | (go_split_ands; exact keep3P hd hb hb c0 i0 i1 (by (repeat (first | with_reducible assumption | with_reducible exact KeepP.refl _ | with_reducible refine KeepP.drew ?_))))) (first | (go_at_call 75; go_split_ands; refine (HP.out _ (by (repeat (first | with_reducible exact Below.refl _ _ | with_reducible assumption | (with_reducible refine Below.drew ?_) | (with_reducible refine Below.manyDrew ?_ _) | ((with_reducible refine Below.alloc ?_ ?_ _); rotate_left; (focus (first | omega | (dsimp only; omega) | (simp; done) | (simp; omega)))) | ((with_reducible refine Below.setCell ?_ ?_ _); rotate_left; (focus (first | omega | (dsimp only; omega) | (simp; done) | (simp; omega)))) | ((with_reducible refine Below.step ?_ (by assumption) ?_); rotate_left; (focus (first | omega | (dsimp only; omega) | (simp; done) | (simp; omega)))))))).mono ?_; rintro e wn ⟨rfl, hMn, hFn, hKn⟩) | (go_at_call 74; go_split_ands; refine (HT.out _ (by assumption)).mono ?_; rintro e wt ⟨rfl, hbt⟩; have hKt := KeepP.trB (w := w) (by assumption) hbt))
  all_goals
    have HM3 := hid (hMn.belowS hbt)
    have HF3 := hid (hFn.stepB hbt)
    go_wp2_with fail
    go_ret2
    exact ⟨⟨digN k, er, rfl, HG.out.1, HG.out.2, by rw [toldT, Int.toNat_natCast]⟩, Hd.out.next Hc0.out HM3.out HF3.out Hlen.out, HF3.out⟩
set_option maxHeartbeats 4000000 in
set_option maxRecDepth 100000 in
theorem do_del (base d b off cap : Nat) (n0 n1 : Int) (t : ByteArray) (S : RSt) (w : World) (h : DeskW Z base w d S) (hT : TrB base w) (hb : TyA Z w b) (i0 : w.cell? ⟨b, off, none⟩ = some (.int .i64 n0)) (i1 : w.cell? ⟨b, off + 1, none⟩ = some (.int .i64 n1)) :
    Calls Tryz.prog 51 #[.pointer (some ⟨d, 0, none⟩), .string ⟨#[100, 101, 108, 101, 116, 101]⟩, .slice (some ⟨b, off, none⟩) 2 cap, .string t] w (DoR Z base d w (S.deed n0 n1 (rdel S.D n1)).1 (S.deed n0 n1 (rdel S.D n1)).2) := by
  have Hd := hid h
  obtain ⟨m, v, h1, h2, h3, h4, h5⟩ := h
  have c0 : w.cell? ⟨d, 0, none⟩ = some (.pointer (some ⟨m, 0, none⟩)) := h1.cell 0
  have Hc0 := hid c0
  have hd : TyA Z w d := tyA_of h1 tyDesk
  have HP := hid (op_del n0 n1 h2 h4)
  have Hlen := hid (show (S.deed n0 n1 (rdel S.D n1)).2.C.length = 3 from (deed_len S n0 n1 _).trans h5)
  obtain ⟨⟨g0, g1⟩, g2, g3⟩ := mdoR_facts (len := S.C.length) (D := S.D) (node := n0) (rdel_facts h2.deeds n1)
  have Ha : (S.deed n0 n1 (rdel S.D n1)).1 = toldT (mdoR S.C.length S.D n0 (rdel S.D n1)).1 := rfl
  rw [Ha]
  generalize S.deed n0 n1 (rdel S.D n1) = q at *
  generalize (mdoR S.C.length S.D n0 (rdel S.D n1)).1 = r at *
  obtain ⟨k, er⟩ := r
  simp only at g0 g1 g2 g3 HP
  obtain ⟨k, rfl⟩ := Int.eq_ofNat_of_zero_le g0
  have HT := hid (told_of (Z := Z) k (by omega) (errV er) h4 hT)
  have HG := hid (show 0 ≤ er ∧ er ≤ 8 from ⟨g2, g3⟩)
  clear h1 h2 h3 h5 hT g0 g1 g2 g3 Ha
  replace HP := hid (show ∀ W, Below w.heap.size w W → Calls Tryz.prog 76 #[.pointer (some ⟨m, 0, none⟩), .int .i64 n0, .int .i64 n1] W (fun e X => e = .returned (.tuple #[.int .i64 (k : Int), errV er]) ∧ MZ Z base X m q.2.D q.2.C ∧ Fr (TouchD Z base w) w X ∧ KeepP Z w X) from HP.out)
  go_enter Tryz.func51, Tryz.ntmps51
  go_upto_region 5 with fail
  go_region_held3 (fun W => KeepP Z w W ∧ W.cell? ⟨d, 0, none⟩ = some (.pointer (some ⟨m, 0, none⟩)) ∧ W.cell? ⟨b, off, none⟩ = some (.int .i64 n0) ∧ W.cell? ⟨b, off + 1, none⟩ = some (.int .i64 n1)) (first | with_reducible exact keep3P hd hb hb c0 i0 i1 (KeepP.refl w).drew | (go_split_ands; exact keep3P hd hb hb c0 i0 i1 (by (repeat (first | with_reducible assumption | with_reducible exact KeepP.refl _ | with_reducible refine KeepP.drew ?_))))) (first | (go_at_call 76; go_split_ands; refine (HP.out _ (by (repeat (first | with_reducible exact Below.refl _ _ | with_reducible assumption | (with_reducible refine Below.drew ?_) | (with_reducible refine Below.manyDrew ?_ _) | ((with_reducible refine Below.alloc ?_ ?_ _); rotate_left; (focus (first | omega | (dsimp only; omega) | (simp; done) | (simp; omega)))) | ((with_reducible refine Below.setCell ?_ ?_ _); rotate_left; (focus (first | omega | (dsimp only; omega) | (simp; done) | (simp; omega)))) | ((with_reducible refine Below.step ?_ (by assumption) ?_); rotate_left; (focus (first | omega | (dsimp only; omega) | (simp; done) | (simp; omega)))))))).mono ?_; rintro e wn ⟨rfl, hMn, hFn, hKn⟩) | (go_at_call 74; go_split_ands; refine (HT.out _ (by assumption)).mono ?_; rintro e wt ⟨rfl, hbt⟩; have hKt := KeepP.trB (w := w) (by assumption) hbt))
  all_goals
    have HM3 := hid (hMn.belowS hbt)
    have HF3 := hid (hFn.stepB hbt)
    go_wp2_with fail
    go_ret2
    exact ⟨⟨digN k, er, rfl, HG.out.1, HG.out.2, by rw [toldT, Int.toNat_natCast]⟩, Hd.out.next Hc0.out HM3.out HF3.out Hlen.out, HF3.out⟩
theorem keep2P {w W : World} {p0 p1 : Addr} {v0 v1 : Value} (t0 : TyA Z w p0.block) (t1 : TyA Z w p1.block) (c0 : w.cell? p0 = some v0) (c1 : w.cell? p1 = some v1) (h : KeepP Z w W) :
    KeepP Z w W ∧ W.cell? p0 = some v0 ∧ W.cell? p1 = some v1 :=
  ⟨h, (World.cell?_of_block (w := w) (h.2 _ t0)).trans c0, (World.cell?_of_block (w := w) (h.2 _ t1)).trans c1⟩
theorem keep1P {w W : World} {p0 : Addr} {v0 : Value} (t0 : TyA Z w p0.block) (c0 : w.cell? p0 = some v0) (h : KeepP Z w W) :
    KeepP Z w W ∧ W.cell? p0 = some v0 :=
  ⟨h, (World.cell?_of_block (w := w) (h.2 _ t0)).trans c0⟩
set_option maxHeartbeats 4000000 in
set_option maxRecDepth 100000 in
theorem do_swap (base d b off cap : Nat) (n0 n1 : Int) (t : ByteArray) (S : RSt) (w : World) (h : DeskW Z base w d S) (hT : TrB base w) (hb : TyA Z w b) (i0 : w.cell? ⟨b, off, none⟩ = some (.int .i64 n0)) (i1 : w.cell? ⟨b, off + 1, none⟩ = some (.int .i64 n1)) :
    Calls Tryz.prog 51 #[.pointer (some ⟨d, 0, none⟩), .string ⟨#[115, 119, 97, 112]⟩, .slice (some ⟨b, off, none⟩) 2 cap, .string t] w (DoR Z base d w (if (mswapR S.C n0 n1).1 = 0 then okT else nameE (mswapR S.C n0 n1).1) ⟨S.D, (mswapR S.C n0 n1).2⟩) := by
  have Hd := hid h
  obtain ⟨m, v, h1, h2, h3, h4, h5⟩ := h
  have c0 : w.cell? ⟨d, 0, none⟩ = some (.pointer (some ⟨m, 0, none⟩)) := h1.cell 0
  have Hc0 := hid c0
  have hd : TyA Z w d := tyA_of h1 tyDesk
  have HP := hid (op_swap n0 n1 h2 h4 hT)
  obtain ⟨f1, f2, f3⟩ := mswapR_facts S.C n0 n1
  have Hlen := hid (f1.trans h5)
  have HG := hid (And.intro f2 f3)
  clear h1 h2 h3 h4 h5 hT f1 f2 f3
  generalize mswapR S.C n0 n1 = r at *
  obtain ⟨er, C'⟩ := r
  obtain ⟨ans, hans⟩ : ∃ ans, ans = (if er = 0 then okT else nameE er) := ⟨_, rfl⟩
  rw [show (if (er, C').1 = 0 then okT else nameE (er, C').1) = ans from hans.symm]
  have HA := hid hans
  clear hans
  replace HP := hid (show ∀ W, Below w.heap.size w W → Calls Tryz.prog 78 #[.pointer (some ⟨m, 0, none⟩), .int .i64 n0, .int .i64 n1] W (fun e X => e = .returned (errV er) ∧ MZ Z base X m S.D C' ∧ Fr (TouchD Z base w) w X ∧ KeepP Z w X) from HP.out)
  go_enter Tryz.func51, Tryz.ntmps51
  go_upto_region 9 with fail
  go_region_held3 (fun W => KeepP Z w W ∧ W.cell? ⟨d, 0, none⟩ = some (.pointer (some ⟨m, 0, none⟩)) ∧ W.cell? ⟨b, off, none⟩ = some (.int .i64 n0) ∧ W.cell? ⟨b, off + 1, none⟩ = some (.int .i64 n1)) (first | with_reducible exact keep3P hd hb hb c0 i0 i1 (KeepP.refl w).drew | (go_split_ands; exact keep3P hd hb hb c0 i0 i1 (by (repeat (first | with_reducible assumption | with_reducible exact KeepP.refl _ | with_reducible refine KeepP.drew ?_))))) (first | (go_at_call 78; go_split_ands; refine (HP.out _ (by (repeat (first | with_reducible exact Below.refl _ _ | with_reducible assumption | (with_reducible refine Below.drew ?_) | (with_reducible refine Below.manyDrew ?_ _) | ((with_reducible refine Below.alloc ?_ ?_ _); rotate_left; (focus (first | omega | (dsimp only; omega) | (simp; done) | (simp; omega)))) | ((with_reducible refine Below.setCell ?_ ?_ _); rotate_left; (focus (first | omega | (dsimp only; omega) | (simp; done) | (simp; omega)))) | ((with_reducible refine Below.step ?_ (by assumption) ?_); rotate_left; (focus (first | omega | (dsimp only; omega) | (simp; done) | (simp; omega)))))))).mono ?_; rintro e wn ⟨rfl, hMn, hFn, hKn⟩))
  all_goals
    have HM3 := hid hMn
    have HF3 := hid hFn
    go_wp2_with fail
    go_ret2
    exact ⟨⟨okT, er, rfl, HG.out.1, HG.out.2, HA.out⟩, Hd.out.next Hc0.out HM3.out HF3.out Hlen.out, HF3.out⟩
set_option maxHeartbeats 4000000 in
set_option maxRecDepth 100000 in
theorem do_seq (base d : Nat) (nv : Value) (t : ByteArray) (S : RSt) (w : World) (h : DeskW Z base w d S) (hT : TrB base w) :
    Calls Tryz.prog 51 #[.pointer (some ⟨d, 0, none⟩), .string ⟨#[115, 101, 113]⟩, nv, .string t] w (DoR Z base d w (digN S.D.length) S) := by
  have Hd := hid h
  obtain ⟨m, v, h1, h2, h3, h4, h5⟩ := h
  have c0 : w.cell? ⟨d, 0, none⟩ = some (.pointer (some ⟨m, 0, none⟩)) := h1.cell 0
  have Hc0 := hid c0
  have hd : TyA Z w d := tyA_of h1 tyDesk
  have HP := hid (mseqW w h2.1)
  have hlen := h2.deeds.len
  have HT := hid (told_of (Z := Z) S.D.length (by omega) .nilIface h4 hT w (Fr.refl _ _))
  clear h1 h2 h3 h4 h5 hT hd Hc0
  go_enter Tryz.func51, Tryz.ntmps51
  go_upto_region 14 with fail
  go_wp2_with fail
  refine HP.out.mono ?_
  rintro e w1 ⟨rfl, rfl⟩
  go_wp2_with fail
  refine HT.out.mono ?_
  rintro e w2 ⟨rfl, hb2⟩
  have Hb2 := hid hb2
  clear hb2
  go_wp2_with fail
  go_ret2
  exact ⟨⟨digN S.D.length, 0, rfl, by decide, by decide, rfl⟩, Hd.out.belowS Hb2.out, Fr.ofB Hb2.out⟩

/-! ### the ring of a session -/
theorem ptsC3_good : ∀ x ∈ ptsC [0, 1, 2] 4, x.good := ptsC_good (fun n hn => by
  simp only [List.mem_cons, List.not_mem_nil, or_false] at hn
  rcases hn with rfl | rfl | rfl <;> decide)
theorem ptsC3_right : rightP (ptsC [0, 1, 2] 4) = true := ptsC_right (fun n hn => by
  simp only [List.mem_cons, List.not_mem_nil, or_false] at hn
  rcases hn with rfl | rfl | rfl <;> decide) (by decide) (by decide) (by decide) (by decide)
theorem ringO_in (k : Int) : 0 ≤ ringO k ∧ ringO k ≤ 2 := by
  have h := owner_in (l := [0, 1, 2]) (each := 4) (by decide) (by decide) k
  simp only [List.mem_cons, List.not_mem_nil, or_false] at h
  unfold ringO
  omega
theorem rgE3 (k : Int) : rgE (ptsC [0, 1, 2] 4) k = if keyB k = true then 0 else 1 := by rw [rgE, if_pos ptsC3_right]
set_option maxHeartbeats 4000000 in
set_option maxRecDepth 100000 in
theorem do_owner (base d b off cap : Nat) (n0 : Int) (t : ByteArray) (S : RSt) (w : World) (h : DeskW Z base w d S) (hT : TrB base w) (hb : TyA Z w b) (i0 : w.cell? ⟨b, off, none⟩ = some (.int .i64 n0)) :
    Calls Tryz.prog 51 #[.pointer (some ⟨d, 0, none⟩), .string ⟨#[111, 119, 110, 101, 114]⟩, .slice (some ⟨b, off, none⟩) 1 cap, .string t] w (DoR Z base d w (if keyB n0 = true then digN (ringO n0).toNat else nameE 1) S) := by
  have Hd := hid h
  obtain ⟨m, v, h1, h2, h3, h4, h5⟩ := h
  have hd : TyA Z w d := tyA_of h1 tyDesk
  obtain ⟨r, rfl, hrx, hrA, -, -⟩ := PtsAt.of_ow h3.1 ptsC3_good
  have c1 : w.cell? ⟨d, 1, none⟩ = some (.slice r.A r.xs.length r.c) := h1.cell 1
  have hE : rgE r.xs n0 = if keyB n0 = true then 0 else 1 := by rw [hrx, rgE3]
  have hO : ownerP r.xs n0 = ringO n0 := by rw [hrx]; rfl
  have HB := hid h4
  have HTB := hid hT
  have HP := hid (fun W (hW : Below w.heap.size w W) => (rowner_any r n0 W (hrA.stays hW) (hT W (hW.mono h4)).tb).mono (fun e X h => (show e = .returned (.tuple #[.int .i64 (if rgE r.xs n0 = 0 then ownerP r.xs n0 else 0), errV (rgE r.xs n0)]) ∧ Below w.heap.size w X from ⟨h.1, Below.step hW h.2 hW.size⟩)))
  rw [hE, hO] at HP
  obtain ⟨n, hn, hn4⟩ : ∃ n : Nat, (if (if keyB n0 = true then (0 : Int) else 1) = 0 then ringO n0 else 0) = (n : Int) ∧ n ≤ 2 := by
    have := ringO_in n0
    split
    · exact ⟨(ringO n0).toNat, by omega, by omega⟩
    · exact ⟨0, rfl, by omega⟩
  rw [hn] at HP
  have HA := hid (show (if keyB n0 = true then digN (ringO n0).toNat else nameE 1) = (if (if keyB n0 = true then (0 : Int) else 1) = 0 then digN n else nameE (if keyB n0 = true then (0 : Int) else 1)) from by
    rcases hk : keyB n0 with _ | _
    · rfl
    · rw [hk, if_pos rfl, if_pos rfl] at hn
      rw [if_pos rfl, if_pos rfl, if_pos rfl, hn, Int.toNat_natCast])
  have HG := hid (show 0 ≤ (if keyB n0 = true then (0 : Int) else 1) ∧ (if keyB n0 = true then (0 : Int) else 1) ≤ 8 from by split <;> omega)
  generalize (if keyB n0 = true then digN (ringO n0).toNat else nameE 1) = ans at *
  generalize (if keyB n0 = true then (0 : Int) else 1) = er at *
  have HT := hid (fun X (hX : Below w.heap.size w X) => told_of (Z := Z) n (by omega) (errV er) HB.out HTB.out X (Fr.ofB hX))
  clear h1 h2 h3 h4 h5 hT hrx hrA hE hO hn HB HTB
  go_enter Tryz.func51, Tryz.ntmps51
  go_upto_region 13 with fail
  go_region_held3 (fun W => Below w.heap.size w W ∧ W.cell? ⟨d, 1, none⟩ = some (.slice r.A r.xs.length r.c) ∧ W.cell? ⟨b, off, none⟩ = some (.int .i64 n0)) (first | with_reducible exact keep2_below hd.1 hb.1 c1 i0 (Below.refl _ _).drew | (go_split_ands; with_reducible exact keep2_below hd.1 hb.1 c1 i0 (by assumption)) | (go_split_ands; exact keep2_below hd.1 hb.1 c1 i0 (by (repeat (first | with_reducible exact Below.refl _ _ | with_reducible assumption | (with_reducible refine Below.drew ?_) | (with_reducible refine Below.manyDrew ?_ _) | ((with_reducible refine Below.alloc ?_ ?_ _); rotate_left; (focus (first | omega | (dsimp only; omega) | (simp; done) | (simp; omega)))) | ((with_reducible refine Below.setCell ?_ ?_ _); rotate_left; (focus (first | omega | (dsimp only; omega) | (simp; done) | (simp; omega)))) | ((with_reducible refine Below.step ?_ (by assumption) ?_); rotate_left; (focus (first | omega | (dsimp only; omega) | (simp; done) | (simp; omega))))))))) (first | (go_at_call 80; go_split_ands; refine (HP.out _ (by (repeat (first | with_reducible exact Below.refl _ _ | with_reducible assumption | (with_reducible refine Below.drew ?_) | (with_reducible refine Below.manyDrew ?_ _) | ((with_reducible refine Below.alloc ?_ ?_ _); rotate_left; (focus (first | omega | (dsimp only; omega) | (simp; done) | (simp; omega)))) | ((with_reducible refine Below.setCell ?_ ?_ _); rotate_left; (focus (first | omega | (dsimp only; omega) | (simp; done) | (simp; omega)))) | ((with_reducible refine Below.step ?_ (by assumption) ?_); rotate_left; (focus (first | omega | (dsimp only; omega) | (simp; done) | (simp; omega)))))))).mono ?_; rintro e wn ⟨rfl, hbn⟩) | (go_at_call 74; go_split_ands; refine (HT.out _ (by assumption)).mono ?_; rintro e wt ⟨rfl, hbt⟩; have hKt := bstep ‹Below w.heap.size w _› hbt))
  all_goals
    have Hb3 := hid (Below.step hbn hbt hbn.size)
    go_wp2_with fail
    go_ret2
    exact ⟨⟨digN n, er, rfl, HG.out.1, HG.out.2, HA.out⟩, Hd.out.belowS Hb3.out, Fr.ofB Hb3.out⟩

theorem entOk_chk {e : E} (h : chk e = 0) : EntOk e := by
  obtain ⟨-, h2, h3, h4, h5, -⟩ := chk_zero.1 h
  obtain ⟨a1, a2⟩ := seqB_true.1 h2
  obtain ⟨b1, b2⟩ := seqB_true.1 h3
  exact ⟨a1, by omega, b1, by omega, by omega⟩
theorem entOk_get {D : List E} {C : List (List E)} (hD : Deeds D) (hC : ∀ c ∈ C, CacheD D c) (node key fl : Int) : EntOk (mgetR D C node key fl).1.1 ∧ 0 ≤ (mgetR D C node key fl).1.2.2 ∧ (mgetR D C node key fl).1.2.2 ≤ 8 := by
  unfold mgetR
  split
  · rename_i ha
    obtain ⟨hn, hk, -, -⟩ := askB_true.1 ha
    obtain ⟨i0, i1⟩ := inM_true.1 hn
    have hnow : EntOk (entC key D.length (refC D key)) := entOk_chk ((TrueD.now hk).chk hD)
    split
    · rename_i x hx
      split
      · have hm := (lk_some hx).1
        have hc := hC _ (show C.getD node.toNat [] ∈ C from by rw [getD_get _ (show node.toNat < C.length by omega)]; exact List.getElem_mem _)
        exact ⟨entOk_chk ((chkC_ok hc.1).2.1 _ hm), by simp only; omega, by simp only; omega⟩
      · exact ⟨hnow, by simp only; omega, by simp only; omega⟩
    · exact ⟨hnow, by simp only; omega, by simp only; omega⟩
  · exact ⟨(show EntOk E.zero from by unfold EntOk; decide), by simp only; omega, by simp only; omega⟩
set_option maxHeartbeats 4000000 in
set_option maxRecDepth 100000 in
theorem do_get (base d b off cap : Nat) (n0 n1 n2 : Int) (t : ByteArray) (S : RSt) (w : World) (h : DeskW Z base w d S) (hT : TrB base w) (hb : TyA Z w b) (i0 : w.cell? ⟨b, off, none⟩ = some (.int .i64 n0)) (i1 : w.cell? ⟨b, off + 1, none⟩ = some (.int .i64 n1)) (i2 : w.cell? ⟨b, off + 2, none⟩ = some (.int .i64 n2)) :
    Calls Tryz.prog 51 #[.pointer (some ⟨d, 0, none⟩), .string ⟨#[103, 101, 116]⟩, .slice (some ⟨b, off, none⟩) 3 cap, .string t] w (DoR Z base d w (if (mgetR S.D S.C n0 n1 n2).1.2.2 = 0 then entT2 (mgetR S.D S.C n0 n1 n2).1 else nameE (mgetR S.D S.C n0 n1 n2).1.2.2) ⟨S.D, (mgetR S.D S.C n0 n1 n2).2⟩) := by
  have Hd := hid h
  have hlen := (mgetR_len S.D S.C n0 n1 n2)
  obtain ⟨f1, f2, f3⟩ : EntOk (mgetR S.D S.C n0 n1 n2).1.1 ∧ 0 ≤ (mgetR S.D S.C n0 n1 n2).1.2.2 ∧ (mgetR S.D S.C n0 n1 n2).1.2.2 ≤ 8 := by
    obtain ⟨m, v, h1, h2, h3, h4, h5⟩ := h
    exact entOk_get h2.deeds h2.cac n0 n1 n2
  have Hlen := hid (hlen.trans (show S.C.length = 3 from by obtain ⟨m, v, h1, h2, h3, h4, h5⟩ := h; exact h5))
  have HP := hid (dget_any base d b off cap n0 n1 n2 S w h hT hb i0 i1 i2 f1)
  have HG := hid (And.intro f2 f3)
  clear h hT hb i0 i1 i2 f1 f2 f3 hlen
  generalize mgetR S.D S.C n0 n1 n2 = r at *
  obtain ⟨⟨x, g, er⟩, C'⟩ := r
  obtain ⟨T, hTe⟩ : ∃ T, T = entT2 (x, g, er) := ⟨_, rfl⟩
  have HA := hid (show (if ((x, g, er), C').1.2.2 = 0 then entT2 ((x, g, er), C').1 else nameE ((x, g, er), C').1.2.2) = (if er = 0 then T else nameE er) from by rw [hTe])
  generalize (if ((x, g, er), C').1.2.2 = 0 then entT2 ((x, g, er), C').1 else nameE ((x, g, er), C').1.2.2) = ans at *
  replace HP := hid (show Calls Tryz.prog 77 #[.pointer (some ⟨d, 0, none⟩), .slice (some ⟨b, off, none⟩) 3 cap] w (fun e w' => e = .returned (.tuple #[.string (mkB T), errV er]) ∧ (∃ m, w.cell? ⟨d, 0, none⟩ = some (.pointer (some ⟨m, 0, none⟩)) ∧ MZ Z base w' m S.D C') ∧ Fr (TouchD Z base w) w w') from by rw [hTe]; exact HP.out)
  clear hTe
  go_enter Tryz.func51, Tryz.ntmps51
  go_upto_region 7 with fail
  go_wp2_with fail
  refine HP.out.mono ?_
  rintro e w1 ⟨rfl, ⟨m, hc0, hM⟩, hF⟩
  have HX := hid (Hd.out.next (S' := ⟨S.D, C'⟩) hc0 hM hF Hlen.out)
  have HF := hid hF
  clear hc0 hM hF
  go_wp2_with fail
  go_ret2
  exact ⟨⟨T, er, rfl, HG.out.1, HG.out.2, HA.out⟩, HX.out, HF.out⟩
set_option maxHeartbeats 4000000 in
set_option maxRecDepth 100000 in
theorem do_cache (base d b off cap : Nat) (n0 : Int) (t : ByteArray) (S : RSt) (w : World) (h : DeskW Z base w d S) (hT : Tr w) (i0 : w.cell? ⟨b, off, none⟩ = some (.int .i64 n0)) :
    Calls Tryz.prog 51 #[.pointer (some ⟨d, 0, none⟩), .string ⟨#[99, 97, 99, 104, 101]⟩, .slice (some ⟨b, off, none⟩) 1 cap, .string t] w (DoR Z base d w (if inM S.C.length n0 = true then cacheT (S.C.getD n0.toNat []) else nameE 1) S) := by
  have Hd := hid h
  have HP := hid (dcache_any base d n0 S w h hT)
  obtain ⟨T, hTe⟩ : ∃ T, T = cacheT (if inM S.C.length n0 = true then S.C.getD n0.toNat [] else []) := ⟨_, rfl⟩
  have HA := hid (show (if inM S.C.length n0 = true then cacheT (S.C.getD n0.toNat []) else nameE 1) = (if (if inM S.C.length n0 = true then (0 : Int) else 1) = 0 then T else nameE (if inM S.C.length n0 = true then (0 : Int) else 1)) from by
    rcases hi : inM S.C.length n0 with _ | _
    · rfl
    · rw [hi] at hTe
      exact hTe.symm)
  have HG := hid (show 0 ≤ (if inM S.C.length n0 = true then (0 : Int) else 1) ∧ (if inM S.C.length n0 = true then (0 : Int) else 1) ≤ 8 from by split <;> omega)
  rw [← hTe] at HP
  generalize (if inM S.C.length n0 = true then cacheT (S.C.getD n0.toNat []) else nameE 1) = ans at *
  generalize (if inM S.C.length n0 = true then (0 : Int) else 1) = er at *
  clear hTe h hT
  go_enter Tryz.func51, Tryz.ntmps51
  go_upto_region 11 with fail
  go_wp2_with fail
  refine HP.out.mono ?_
  rintro e w1 ⟨rfl, hb1⟩
  have Hb1 := hid hb1
  clear hb1
  go_wp2_with fail
  go_ret2
  exact ⟨⟨T, er, rfl, HG.out.1, HG.out.2, HA.out⟩, Hd.out.belowS Hb1.out, Fr.ofB Hb1.out⟩
end Go.Proofs.YtemhdfodghfkfaaGreatDoor
