/-
  CONTRACT of mesh.Swap: two caches that are true go together without a clash. CONDITIONS: the library's table of the powers of ten reads as it is laid (Tb).
-/
import Derived.Test.YtemhdfodghfkfaaGreatDoorMeshW
import Derived.Test.YtemhdfodghfkfaaGreatDoorSwap
import Derived.Deep.RegionHeld3
namespace Go.Proofs.YtemhdfodghfkfaaGreatDoor
open Go.RowKit
open Go.ChangeShapes Go.WideShapes Go.ChangeAt

theorem pairR_true {D a b : List E} (hD : Deeds D) (ha : CacheD D a) (hb : CacheD D b) : (pairR a b).2.2 = 0 ∧ CacheD D (pairR a b).1 ∧ CacheD D (pairR a b).2.1 := by
  obtain ⟨x0, x1⟩ := CacheD.all hD ha (m := someL b (partT a b 1).1) (fun e he => hb.2 e (List.mem_filter.1 he).1)
  obtain ⟨y0, y1⟩ := CacheD.all hD hb (m := someL a (partT a b 1).1) (fun e he => ha.2 e (List.mem_filter.1 he).1)
  rw [pairR, if_pos (by rw [diffR, if_pos ha.1, if_pos hb.1]), if_pos x0, if_pos y0]
  exact ⟨rfl, x1, y1⟩
/-- what a swap of two nodes tells, and the caches behind it -/
def mswapR (C : List (List E)) (a b : Int) : Int × List (List E) :=
  if inM C.length a = true ∧ inM C.length b = true then
    (if a = b then (3, C) else (0, (C.set a.toNat (pairR (C.getD a.toNat []) (C.getD b.toNat [])).1).set b.toNat (pairR (C.getD a.toNat []) (C.getD b.toNat [])).2.1))
  else (1, C)
section
variable {base m s g : Nat} {vs : List Value} {D : List E} {q : List (SlV E)}
theorem mswap_bad (a b : Int) (w : World) (h : MeshO base w m s g vs D q) (hn : ¬ (inM q.length a = true ∧ inM q.length b = true)) :
    Calls Tryz.prog 78 #[.pointer (some ⟨m, 0, none⟩), .int .i64 a, .int .i64 b] w fun e w' => e = .returned (.iface 78 (.int .i64 1)) ∧ Below w.heap.size w w' := by
  have HN := hid (fun k W (hW : Below w.heap.size w W) => mnode_any k W (h.belowS hW))
  clear h
  rcases ha : inM q.length a with _ | _
  · have HA := hid (HN.out a)
    rw [ha] at HA
    clear hn ha
    go_enter Tryz.func78, Tryz.ntmps78
    go_wp2_with fail
    refine (HA.out _ (by (repeat (first | with_reducible exact Below.refl _ _ | with_reducible assumption | (with_reducible refine Below.drew ?_) | (with_reducible refine Below.manyDrew ?_ _) | ((with_reducible refine Below.alloc ?_ ?_ _); rotate_left; (focus (first | omega | (dsimp only; omega) | (simp; done) | (simp; omega)))) | ((with_reducible refine Below.setCell ?_ ?_ _); rotate_left; (focus (first | omega | (dsimp only; omega) | (simp; done) | (simp; omega)))) | ((with_reducible refine Below.step ?_ (by assumption) ?_); rotate_left; (focus (first | omega | (dsimp only; omega) | (simp; done) | (simp; omega)))))))).mono ?_
    rintro e w1 ⟨rfl, rfl⟩
    go_wp2_with fail
    go_ret
    exact ⟨rfl, by (repeat (first | with_reducible exact Below.refl _ _ | with_reducible assumption | (with_reducible refine Below.drew ?_) | (with_reducible refine Below.manyDrew ?_ _) | ((with_reducible refine Below.alloc ?_ ?_ _); rotate_left; (focus (first | omega | (dsimp only; omega) | (simp; done) | (simp; omega)))) | ((with_reducible refine Below.setCell ?_ ?_ _); rotate_left; (focus (first | omega | (dsimp only; omega) | (simp; done) | (simp; omega)))) | ((with_reducible refine Below.step ?_ (by assumption) ?_); rotate_left; (focus (first | omega | (dsimp only; omega) | (simp; done) | (simp; omega))))))⟩
  · have hb : inM q.length b = false := by
      rw [← Bool.not_eq_true]
      exact fun h => hn ⟨ha, h⟩
    have HA := hid (HN.out a)
    have HB := hid (HN.out b)
    rw [ha] at HA
    rw [hb] at HB
    clear hn ha hb
    go_enter Tryz.func78, Tryz.ntmps78
    go_wp2_with fail
    refine (HA.out _ (by (repeat (first | with_reducible exact Below.refl _ _ | with_reducible assumption | (with_reducible refine Below.drew ?_) | (with_reducible refine Below.manyDrew ?_ _) | ((with_reducible refine Below.alloc ?_ ?_ _); rotate_left; (focus (first | omega | (dsimp only; omega) | (simp; done) | (simp; omega)))) | ((with_reducible refine Below.setCell ?_ ?_ _); rotate_left; (focus (first | omega | (dsimp only; omega) | (simp; done) | (simp; omega)))) | ((with_reducible refine Below.step ?_ (by assumption) ?_); rotate_left; (focus (first | omega | (dsimp only; omega) | (simp; done) | (simp; omega)))))))).mono ?_
    rintro e w1 ⟨rfl, rfl⟩
    go_wp2_with fail
    refine (HB.out _ (by (repeat (first | with_reducible exact Below.refl _ _ | with_reducible assumption | (with_reducible refine Below.drew ?_) | (with_reducible refine Below.manyDrew ?_ _) | ((with_reducible refine Below.alloc ?_ ?_ _); rotate_left; (focus (first | omega | (dsimp only; omega) | (simp; done) | (simp; omega)))) | ((with_reducible refine Below.setCell ?_ ?_ _); rotate_left; (focus (first | omega | (dsimp only; omega) | (simp; done) | (simp; omega)))) | ((with_reducible refine Below.step ?_ (by assumption) ?_); rotate_left; (focus (first | omega | (dsimp only; omega) | (simp; done) | (simp; omega)))))))).mono ?_
    rintro e w2 ⟨rfl, rfl⟩
    go_wp2_with fail
    go_ret
    exact ⟨rfl, by (repeat (first | with_reducible exact Below.refl _ _ | with_reducible assumption | (with_reducible refine Below.drew ?_) | (with_reducible refine Below.manyDrew ?_ _) | ((with_reducible refine Below.alloc ?_ ?_ _); rotate_left; (focus (first | omega | (dsimp only; omega) | (simp; done) | (simp; omega)))) | ((with_reducible refine Below.setCell ?_ ?_ _); rotate_left; (focus (first | omega | (dsimp only; omega) | (simp; done) | (simp; omega)))) | ((with_reducible refine Below.step ?_ (by assumption) ?_); rotate_left; (focus (first | omega | (dsimp only; omega) | (simp; done) | (simp; omega))))))⟩
theorem mswap_same (a : Int) (w : World) (h : MeshO base w m s g vs D q) (ha : inM q.length a = true) :
    Calls Tryz.prog 78 #[.pointer (some ⟨m, 0, none⟩), .int .i64 a, .int .i64 a] w fun e w' => e = .returned (.iface 78 (.int .i64 3)) ∧ Below w.heap.size w w' := by
  have HA := hid (fun W (hW : Below w.heap.size w W) => mnode_any a W (h.belowS hW))
  rw [ha] at HA
  clear h ha
  go_enter Tryz.func78, Tryz.ntmps78
  go_wp2_with fail
  refine (HA.out _ (by (repeat (first | with_reducible exact Below.refl _ _ | with_reducible assumption | (with_reducible refine Below.drew ?_) | (with_reducible refine Below.manyDrew ?_ _) | ((with_reducible refine Below.alloc ?_ ?_ _); rotate_left; (focus (first | omega | (dsimp only; omega) | (simp; done) | (simp; omega)))) | ((with_reducible refine Below.setCell ?_ ?_ _); rotate_left; (focus (first | omega | (dsimp only; omega) | (simp; done) | (simp; omega)))) | ((with_reducible refine Below.step ?_ (by assumption) ?_); rotate_left; (focus (first | omega | (dsimp only; omega) | (simp; done) | (simp; omega)))))))).mono ?_
  rintro e w1 ⟨rfl, rfl⟩
  go_wp2_with fail
  refine (HA.out _ (by (repeat (first | with_reducible exact Below.refl _ _ | with_reducible assumption | (with_reducible refine Below.drew ?_) | (with_reducible refine Below.manyDrew ?_ _) | ((with_reducible refine Below.alloc ?_ ?_ _); rotate_left; (focus (first | omega | (dsimp only; omega) | (simp; done) | (simp; omega)))) | ((with_reducible refine Below.setCell ?_ ?_ _); rotate_left; (focus (first | omega | (dsimp only; omega) | (simp; done) | (simp; omega)))) | ((with_reducible refine Below.step ?_ (by assumption) ?_); rotate_left; (focus (first | omega | (dsimp only; omega) | (simp; done) | (simp; omega)))))))).mono ?_
  rintro e w2 ⟨rfl, rfl⟩
  go_wp2_with fail
  go_ret
  exact ⟨rfl, by (repeat (first | with_reducible exact Below.refl _ _ | with_reducible assumption | (with_reducible refine Below.drew ?_) | (with_reducible refine Below.manyDrew ?_ _) | ((with_reducible refine Below.alloc ?_ ?_ _); rotate_left; (focus (first | omega | (dsimp only; omega) | (simp; done) | (simp; omega)))) | ((with_reducible refine Below.setCell ?_ ?_ _); rotate_left; (focus (first | omega | (dsimp only; omega) | (simp; done) | (simp; omega)))) | ((with_reducible refine Below.step ?_ (by assumption) ?_); rotate_left; (focus (first | omega | (dsimp only; omega) | (simp; done) | (simp; omega))))))⟩
theorem OwnV.up {w W w' : World} {v : Value} {l : List E} (h : OwnV W w' v l) (hz : w.heap.size ≤ W.heap.size) : OwnV w w' v l := by
  obtain ⟨y, h1, h2, h3⟩ := h
  exact ⟨y, h1, h2, h3.1.mono hz, h3.2⟩
/-- what a swap of two leaves -/
def MSwap (base m s g : Nat) (vs : List Value) (D : List E) (q : List (SlV E)) (a b : Nat) (w : World) (e : Ending) (w' : World) : Prop :=
  ∃ x y : SlV E, e = .returned .nilIface ∧ x.xs = (pairR (q.getD a SlV.nil).xs (q.getD b SlV.nil).xs).1 ∧ y.xs = (pairR (q.getD a SlV.nil).xs (q.getD b SlV.nil).xs).2.1 ∧
    MeshO base w' m s g vs D ((q.set a x).set b y) ∧ Fr (fun i => i = g) w w' ∧ (∀ i, foot x.val = some i → w.heap.size ≤ i) ∧ ∀ i, foot y.val = some i → w.heap.size ≤ i
set_option maxHeartbeats 4000000 in
theorem mswap_good (a b : Nat) (w : World) (h : MeshO base w m s g vs D q) (ha : a < q.length) (hb : b < q.length) (hab : a ≠ b) (hB : base ≤ w.heap.size) (htb : Tb w) :
    Calls Tryz.prog 78 #[.pointer (some ⟨m, 0, none⟩), .int .i64 a, .int .i64 b] w (MSwap base m s g vs D q a b w) := by
  have HA := hid (fun W (hW : Below w.heap.size w W) => mnode_any a W (h.belowS hW))
  have HB := hid (fun W (hW : Below w.heap.size w W) => mnode_any b W (h.belowS hW))
  rw [show inM q.length (a : Int) = true from inM_true.2 ⟨by omega, by omega⟩] at HA
  rw [show inM q.length (b : Int) = true from inM_true.2 ⟨by omega, by omega⟩] at HB
  have h6 := h.six
  have hca := h.cac _ (List.getElem_mem ha)
  have hcb := h.cac _ (List.getElem_mem hb)
  obtain ⟨p0, p1, p2⟩ := pairR_true h.deeds hca hcb
  have hoa := h.own _ (List.getElem_mem ha)
  have hob := h.own _ (List.getElem_mem hb)
  have HP := hid (fun W (hW : Below w.heap.size w W) => show Calls Tryz.prog 114 #[.slice q[a].A q[a].xs.length q[a].c, .slice q[b].A q[b].xs.length q[b].c] W fun e w' => ∃ v u, e = .returned (.tuple #[v, u, .nilIface]) ∧ OwnV w w' v (pairR q[a].xs q[b].xs).1 ∧ OwnV w w' u (pairR q[a].xs q[b].xs).2.1 ∧ Below W.heap.size W w' from
    (pair_swap q[a] q[b] W (hoa.belowS hW).es (hob.belowS hW).es (htb.belowS hW)).mono fun e w' ⟨v, u, he, hx, hy, hb⟩ => ⟨v, u, by rw [he, p0, errV_zero], hx.up hW.size, hy.up hW.size, hb⟩)
  have HM := hid (fun W (hW : Below w.heap.size w W) => h.belowS hW)
  have hc1 := h.c1
  have hka := h.at ha
  have hkb := h.at hb
  have hl := h.lt
  have hg := h.row.lt
  have Hxa := hid (getD_get SlV.nil ha)
  have Hxb := hid (getD_get SlV.nil hb)
  have P1 := hid p1
  have P2 := hid p2
  unfold MSwap
  rw [Hxa.out, Hxb.out]
  generalize q[a] = xa at *
  generalize q[b] = xb at *
  have hne : ((a : Int) == (b : Int)) = false := by rw [beq_eq_false_iff_ne]; omega
  have hal : (a : Int) < (q.length : Int) := by omega
  have hbl : (b : Int) < (q.length : Int) := by omega
  clear hca hcb hoa hob h p0 p1 p2
  go_enter Tryz.func78, Tryz.ntmps78
  go_wp2_with fail
  refine (HA.out _ (by (repeat (first | with_reducible exact Below.refl _ _ | with_reducible assumption | (with_reducible refine Below.drew ?_) | (with_reducible refine Below.manyDrew ?_ _) | ((with_reducible refine Below.alloc ?_ ?_ _); rotate_left; (focus (first | omega | (dsimp only; omega) | (simp; done) | (simp; omega)))) | ((with_reducible refine Below.setCell ?_ ?_ _); rotate_left; (focus (first | omega | (dsimp only; omega) | (simp; done) | (simp; omega)))) | ((with_reducible refine Below.step ?_ (by assumption) ?_); rotate_left; (focus (first | omega | (dsimp only; omega) | (simp; done) | (simp; omega)))))))).mono ?_
  rintro e w1 ⟨rfl, rfl⟩
  go_wp2_with fail
  refine (HB.out _ (by (repeat (first | with_reducible exact Below.refl _ _ | with_reducible assumption | (with_reducible refine Below.drew ?_) | (with_reducible refine Below.manyDrew ?_ _) | ((with_reducible refine Below.alloc ?_ ?_ _); rotate_left; (focus (first | omega | (dsimp only; omega) | (simp; done) | (simp; omega)))) | ((with_reducible refine Below.setCell ?_ ?_ _); rotate_left; (focus (first | omega | (dsimp only; omega) | (simp; done) | (simp; omega)))) | ((with_reducible refine Below.step ?_ (by assumption) ?_); rotate_left; (focus (first | omega | (dsimp only; omega) | (simp; done) | (simp; omega)))))))).mono ?_
  rintro e w2 ⟨rfl, rfl⟩
  go_wp2_with fail
  go_upto_region 5 with fail
  go_cut [7, 8, 9] (fun p r e wx => e = .nilIface ∧ OwnV w wx p (pairR xa.xs xb.xs).1 ∧ OwnV w wx r (pairR xa.xs xb.xs).2.1 ∧ Below w.heap.size w wx)
  case first =>
    have j1 := hc1
    have j2 := hka
    have j3 := hkb
    have hgr := hl
    have hgg := hg
    go_region_held3 (fun W => Below w.heap.size w W ∧ W.cell? ⟨m, 1, none⟩ = some (.slice (some ⟨g, 0, none⟩) q.length q.length) ∧ W.cell? ⟨g, a, none⟩ = some (.slice xa.A xa.xs.length xa.c) ∧ W.cell? ⟨g, b, none⟩ = some (.slice xb.A xb.xs.length xb.c)) (first | with_reducible exact keep3_below hgr hgg hgg j1 j2 j3 (Below.refl _ _).drew | (go_split_ands; with_reducible exact keep3_below hgr hgg hgg j1 j2 j3 (by assumption)) | (go_split_ands; exact keep3_below hgr hgg hgg j1 j2 j3 (by (repeat (first | with_reducible exact Below.refl _ _ | with_reducible assumption | (with_reducible refine Below.drew ?_) | (with_reducible refine Below.manyDrew ?_ _) | ((with_reducible refine Below.alloc ?_ ?_ _); rotate_left; (focus (first | omega | (dsimp only; omega) | (simp; done) | (simp; omega)))) | ((with_reducible refine Below.setCell ?_ ?_ _); rotate_left; (focus (first | omega | (dsimp only; omega) | (simp; done) | (simp; omega)))) | ((with_reducible refine Below.step ?_ (by assumption) ?_); rotate_left; (focus (first | omega | (dsimp only; omega) | (simp; done) | (simp; omega))))))))) (first | (go_at_call 114; go_split_ands; refine (HP.out _ ?_).mono ?_; (assumption); rintro e wj ⟨v, u, rfl, hx, hy, hbj⟩; have HX := hid hx; have HY := hid hy; clear hx hy; have hb2j := bstep ‹Below w.heap.size w _› hbj))
    all_goals
      go_wp2_with fail
      go_meet
      exact ⟨rfl, HX.out, HY.out, by assumption⟩
  case rest =>
  obtain ⟨rfl, ⟨x, rfl, hx, hox⟩, ⟨y, rfl, hy, hoy⟩, hb3⟩ := hcut
  obtain ⟨w3, rfl⟩ : ∃ w3 : World, w3 = wc := ⟨_, rfl⟩
  have hM3 := HM.out w3 hb3
  have hox' : OwnC base w3 x := ⟨hox.1.mono hB, hox.2⟩
  have hoy' : OwnC base w3 y := ⟨hoy.1.mono hB, hoy.2⟩
  have hfx : ∀ i, foot x.val = some i → w.heap.size ≤ i := fun i hi => (hox.1.lt hi).1
  have hfy : ∀ i, foot y.val = some i → w.heap.size ≤ i := fun i hi => (hoy.1.lt hi).1
  have hcx : CacheD D x.xs := by rw [hx]; exact P1.out
  have hcy : CacheD D y.xs := by rw [hy]; exact P2.out
  have hFg : ∀ (k : Nat) (v : Value), Fr (fun i => i = g) w3 (w3.setCell ⟨g, k, none⟩ v) := fun k v => (Fr.refl (fun i => i = g) w3).setCell (p := ⟨g, k, none⟩) (.inl rfl) _
  have hM4 : MeshO base ((w3.setCell ⟨g, a, none⟩ x.val).setCell ⟨g, b, none⟩ y.val) m s g vs D ((q.set a x).set b y) :=
    (hM3.put (k := a) hox' hcx).put (k := b) ⟨hoy'.1.fr (hFg a _) (fun i hi => hoy'.1.apartB hM3.row tyR1 hi), hoy'.2⟩ hcy
  have d1 := hM3.c1
  have d2 := hM3.row.frozen a
  have d3 := hM3.row.frozen b
  have hmg := hM3.mg
  have hz3 := hb3.size
  have hl3 := hM3.lt
  have hg3 := hM3.row.lt
  have HM4 := hid hM4
  have Hx := hid hx
  have Hy := hid hy
  have Hfx := hid hfx
  have Hfy := hid hfy
  have Hb3 := hid hb3
  have hka := hM3.at ha
  have hkb := hM3.at hb
  clear hM3 hox hoy hox' hoy' hcx hcy hFg hM4 hx hy hfx hfy hb3 hc1
  go_wp2_with fail
  go_upto_region 8 with fail
  go_cut [] (fun wx => MeshO base wx m s g vs D ((q.set a x).set b y) ∧ Fr (fun i => i = g) w wx)
  case first =>
    go_region_law (fail)
    all_goals
      go_wp2_with fail
      go_meet
      exact ⟨HM4.out.belowS (Below.refl _ _).drew, (((show Fr (fun i => i = g) w w3 from Fr.ofB Hb3.out).setCell (p := ⟨g, a, none⟩) (.inl rfl) _).setCell (p := ⟨g, b, none⟩) (.inl rfl) _).drew⟩
  case rest =>
  obtain ⟨hM6, hF6⟩ := hcut
  have HM6 := hid hM6
  have HF6 := hid hF6
  clear hM6 hF6 d1 d2 d3 hka hkb
  go_wp2_with fail
  go_ret
  exact ⟨x, y, rfl, Hx.out, Hy.out, HM6.out, HF6.out, Hfx.out, Hfy.out⟩
end
theorem mswapW {base m : Nat} {D : List E} {C : List (List E)} {A : Nat → Prop} (a b : Int) (w : World) (h : MeshW base w m D C A) (hA : ∀ i, A i → i < w.heap.size) (hB : base ≤ w.heap.size) (htb : Tb w) :
    Calls Tryz.prog 78 #[.pointer (some ⟨m, 0, none⟩), .int .i64 a, .int .i64 b] w fun e w' =>
      e = .returned (errV (mswapR C a b).1) ∧ MeshW base w' m D (mswapR C a b).2 A ∧ Fr (MTouch base A) w w' := by
  obtain ⟨s, g, vs, q, h1, h2, h3⟩ := h
  have hl : C.length = q.length := by rw [← h2, List.length_map]
  by_cases hn : inM C.length a = true ∧ inM C.length b = true
  · rw [mswapR, if_pos hn]
    rw [hl] at hn
    by_cases hab : a = b
    · subst hab
      rw [if_pos rfl]
      refine (mswap_same a w h1 hn.1).mono ?_
      rintro e w' ⟨rfl, hb⟩
      exact ⟨by rw [show ((3, C) : Int × List (List E)).1 = 3 from rfl, errV_ne (show (3 : Int) ≠ 0 by decide)], ⟨s, g, vs, q, h1.belowS hb, h2, h3⟩, Fr.ofB hb⟩
    · rw [if_neg hab]
      obtain ⟨⟨a0, a1⟩, ⟨b0, b1⟩⟩ := (⟨inM_true.1 hn.1, inM_true.1 hn.2⟩ : _ ∧ _)
      obtain ⟨a, rfl⟩ := Int.eq_ofNat_of_zero_le a0
      obtain ⟨b, rfl⟩ := Int.eq_ofNat_of_zero_le b0
      simp only [Int.toNat_natCast]
      refine (mswap_good a b w h1 (by omega) (by omega) (by omega) hB htb).mono ?_
      rintro e w' ⟨x, y, rfl, hx, hy, hM, hF, hfx, hfy⟩
      refine ⟨by rw [errV_zero], ⟨s, g, vs, _, hM, ?_, fun i hi ha => ?_⟩, hF.mono (fun i _ hi => by rw [hi]; exact ⟨h1.bg, h3 g (.inr (.inr (.inl rfl)))⟩)⟩
      · rw [List.map_set, List.map_set, hx, hy, h2, ← h2, map_getD, map_getD]
      · rcases hi.set with hi | hi
        · rcases hi.set with hi | hi
          · exact h3 i hi ha
          · have := hfx i hi; have := hA i ha; omega
        · have := hfy i hi; have := hA i ha; omega
  · rw [mswapR, if_neg hn]
    rw [hl] at hn
    refine (mswap_bad a b w h1 hn).mono ?_
    rintro e w' ⟨rfl, hb⟩
    exact ⟨by rw [show ((1, C) : Int × List (List E)).1 = 1 from rfl, errV_ne (show (1 : Int) ≠ 0 by decide)], ⟨s, g, vs, q, h1.belowS hb, h2, h3⟩, Fr.ofB hb⟩
end Go.Proofs.YtemhdfodghfkfaaGreatDoor
