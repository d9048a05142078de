/-
  CONTRACT of fresh.Touch (with slices.Delete at entries). CONDITIONS: none.
-/
import Derived.Test.YthjbebngedajiaaDoorCBoth
import Derived.Test.YthjbebngedajiaaDoorStale
import Derived.Test.YthjbebngedajiaaDoorKitR
import Derived.Test.YthjbebngedajiaaDoorLacks
namespace Go.Proofs.YthjbebngedajiaaDoor
open Go.RowKit
open Go.ChangeShapes Go.WideShapes Go.ChangeAt

def E.out (L : List E) (i : Nat) : List E := L.take i ++ L.drop (i + 1)
theorem E.out_length {L : List E} {i : Nat} (hi : i < L.length) : (E.out L i).length + 1 = L.length := by unfold E.out; simp; omega
set_option maxHeartbeats 8000000 in
set_option maxRecDepth 100000 in
theorem Edel_any (base g off c i k : Nat) (L : List E) (w : World) (hown : Ow E.cells 5 base 26 w (.slice (some ⟨g, off, none⟩) L.length c) L) (hi : i < L.length) (hk : k + 1 = L.length) (hL : L.length ≤ 1000) (hgood : ∀ y ∈ L, y.good) :
    Calls Tryd.prog 53 #[.slice (some ⟨g, off, none⟩) L.length c, .int .i64 i, .int .i64 ((i : Int) + 1)] w fun e w' =>
      e = .returned (.slice (some ⟨g, off, none⟩) k c) ∧ Ow E.cells 5 base 26 w' (.slice (some ⟨g, off, none⟩) k c) (E.out L i) ∧ Fr (fun j => j = g) w w' := by
  obtain ⟨A', c', hv, hlc, hcm, hform⟩ := hown.form
  cases hv
  unfold maxLen at hcm
  have hc0 : 0 < c := by omega
  obtain ⟨g1, off1, hA1, hbg, hgl, hfo, hown1⟩ := hform hc0
  cases hA1
  obtain ⟨r, hre, hrx, hrA, _, _⟩ := EsAt.of_ow hown hgood
  have htk := hown.take (k := i) (by omega)
  have hdr := hown.drop (k := i + 1) (by omega)
  have hlt : (L.take i).length = i := by rw [List.length_take]; omega
  have hld : (L.drop (i + 1)).length = L.length - (i + 1) := by rw [List.length_drop]
  have hsrc : Src Tryd.prog 5 22 (.slice (some ⟨g, off + (i + 1) * 5, none⟩) (L.length - (i + 1)) (c - (i + 1))) (L.drop (i + 1)).length ((L.drop (i + 1)).flatMap E.cells) w.drew := by
    obtain ⟨r2, hre2, hrx2, hrA2, _, _⟩ := EsAt.of_ow hdr.drew (fun y hy => hgood y (List.mem_of_mem_drop hy))
    have := hrA2.src (P := Tryd.prog) Tryd.underlying22
    rw [hre2, ← hrx2]
    exact this
  have hsrc0 : L.length = i + 1 → Src Tryd.prog 5 22 (.slice (some ⟨g, off, none⟩) 0 0) (L.drop (i + 1)).length ((L.drop (i + 1)).flatMap E.cells) w.drew := fun h => by
    have h0 : L.drop (i + 1) = [] := List.drop_eq_nil_of_le (by omega)
    rw [h0]
    exact Src.ofSlice w.drew Tryd.underlying22 ⟨g, off, none⟩ 0 0 [] rfl (fun j u hj => by simp at hj) (fun u hu => by simp at hu)
  have Hown := hid hown
  have Htk := hid htk
  have Hsrc := hid hsrc
  have Hsrc0 := hid hsrc0
  have Hlt := hid hlt
  have Hk2 := hid (show (L.take i).length + (L.drop (i + 1)).length = k by rw [hlt, hld]; omega)
  have hroom : (L.take i).length + (L.drop (i + 1)).length ≤ c := by omega
  have hni : ((i : Int) == (i : Int) + 1) = false := by rw [beq_eq_false_iff_ne]; omega
  have hil : (i : Int) + 1 ≤ (L.length : Int) := by omega
  have hi0 : (0 : Int) ≤ (i : Int) + 1 := by omega
  have hkl : k < L.length := by omega
  have hkl2 : L.length ≤ k + 1 := by omega
  have hlc2 : (L.length : Int) ≤ (c : Int) := by omega
  have hci : ¬ c = i := by omega
  have hic : i ≤ c := by omega
  have hic2 : (i : Int) ≤ (c : Int) := by omega
  have hil2 : i + 1 ≤ L.length := by omega
  have hit : ((i : Int) + 1).toNat = i + 1 := by omega
  have hck : ¬ c = k := by omega
  clear hown htk hdr hsrc hsrc0 hlt hld hrA hrx hre hk hform hown1 hfo
  obtain ⟨zs, hzs⟩ : ∃ zs, (Builtin.zeroCells E.zero.val.cells (L.length - k)).toList = zs := ⟨_, rfl⟩
  have hzl : zs.length = (L.length - k) * 5 := by rw [← hzs, Array.length_toList, size_zeroCells]; rfl
  have hz1 : ∀ u ∈ zs, u.oneCell' = true := by
    rw [← hzs]
    exact zeros_one (z := E.zero.val.cells) (by intro k hk; match k, hk with | 0, _ | 1, _ | 2, _ | 3, _ | 4, _ => rfl) (L.length - k)
  have Hzs := hid hzs
  have Hzl := hid hzl
  have Hz1 := hid hz1
  have hkL : (k : Int) ≤ (L.length : Int) := by omega
  have hkc : k ≤ c := by omega
  clear hzs hzl hz1
  have hii : (i : Int) ≤ (i : Int) + 1 := by omega
  rcases Decidable.em (c = i + 1) with hc1 | hc1
  · subst hc1
    have Hs0 := hid (Hsrc0.out (by omega))
    clear Hsrc0 Hsrc
    go_enter Tryd.func53, Tryd.ntmps53
    go_wp2_with fail
    go_region_law ((refine app_room_step E.cells 5 48 E.cells_length _ 22 22 E.zero.val Tryd.underlying22 infoE rfl _ _ rfl _ base g off i k (i + 1) (.slice (some ⟨g, off, none⟩) 0 0) (L.take i) (L.drop (i + 1)) (by simp [Act.eval, Act.put]) Hlt.out Hk2.out (by simp [Act.eval, Act.put]) Hs0.out Htk.out.drew hroom hc0 ?_; intro w8 h8 f8))
    obtain ⟨cur, hB, hcur⟩ := h8.blk (by omega)
    have HB := hid hB
    have H8 := hid h8
    have F8 := hid f8
    have hcur2 : off + k * 5 + (L.length - k) * 5 ≤ cur.size := by omega
    clear hB h8 f8 hcur
    go_wp2_with ((with_reducible refine wpList_clear _ g (off + k * 5) (L.length - k) ((i + 1) - k) 5 48 cur 26 22 E.zero.val zs Hzs.out HB.out hcur2 Tryd.underlying22 infoE rfl Hz1.out rfl _ rfl rfl ?_))
    go_wp2_with fail
    go_ret
    refine ⟨rfl, H8.out.far ?_ ?_, Fr.setCells g _ _ _ (⟨F8.out.os, F8.out.tape, F8.out.output, F8.out.size, F8.out.block⟩ : Fr (fun j => j = g) w w8) (.inl rfl)⟩
    · rw [List.length_append, Hk2.out]; exact Nat.le_refl _
    · rw [Hzl.out]; omega
  · have Hs1 := hid Hsrc.out
    clear Hsrc0 Hsrc
    go_enter Tryd.func53, Tryd.ntmps53
    go_wp2_with fail
    go_region_law ((refine app_room_step E.cells 5 48 E.cells_length _ 22 22 E.zero.val Tryd.underlying22 infoE rfl _ _ rfl _ base g off i k c (.slice (some ⟨g, off + (i + 1) * 5, none⟩) (L.length - (i + 1)) (c - (i + 1))) (L.take i) (L.drop (i + 1)) (by simp [Act.eval, Act.put]) Hlt.out Hk2.out (by simp [Act.eval, Act.put]) Hs1.out Htk.out.drew hroom hc0 ?_; intro w8 h8 f8))
    obtain ⟨cur, hB, hcur⟩ := h8.blk (by omega)
    have HB := hid hB
    have H8 := hid h8
    have F8 := hid f8
    have hcur2 : off + k * 5 + (L.length - k) * 5 ≤ cur.size := by omega
    clear hB h8 f8 hcur
    go_wp2_with ((with_reducible refine wpList_clear _ g (off + k * 5) (L.length - k) (c - k) 5 48 cur 26 22 E.zero.val zs Hzs.out HB.out hcur2 Tryd.underlying22 infoE rfl Hz1.out rfl _ rfl rfl ?_))
    go_wp2_with fail
    go_ret
    refine ⟨rfl, H8.out.far ?_ ?_, Fr.setCells g _ _ _ (⟨F8.out.os, F8.out.tape, F8.out.output, F8.out.size, F8.out.block⟩ : Fr (fun j => j = g) w w8) (.inl rfl)⟩
    · rw [List.length_append, Hk2.out]; exact Nat.le_refl _
    · rw [Hzl.out]; omega

/-- what Touch leaves, and the fault -/
def touchR (l : List E) (k v q : Int) : List E × Int :=
  if (getR l k).2 = 0 then
    (if seqB q = true ∧ 0 ≤ v ∧ v ≤ q then
      (if v < (getR l k).1.ver ∨ ((getR l k).1.ver < v ∧ v ≤ (getR l k).1.asof) then ([], 7)
       else if (getR l k).1.ver < v then (E.out l (plc k l), 0)
       else (l.set (plc k l) ⟨(getR l k).1.key, (getR l k).1.ver, max (getR l k).1.asof q, (getR l k).1.gone, (getR l k).1.text⟩, 0))
     else ([], 1))
  else ([], (getR l k).2)
/-- of an element of a slice of the call's own the third cell is written anew -/
theorem Ow.asof {base g off cap len : Nat} {T : TypeId} {w : World} {l : List E} (h : Ow E.cells 5 base T w (.slice (some ⟨g, off, none⟩) len cap) l) {i : Nat} (hi : i < l.length) {x0 x1 x2 : Int} {x3 : Bool} {x4 : ByteArray} (hx : l[i] = ⟨x0, x1, x2, x3, x4⟩) (q : Int) :
    Ow E.cells 5 base T (w.setCell ⟨g, off + i * 5 + 2, none⟩ (.int .i64 q)) (.slice (some ⟨g, off, none⟩) len cap) (l.set i ⟨x0, x1, q, x3, x4⟩) := by
  obtain ⟨A, cap', hv, h1, h2, h3⟩ := h
  cases hv
  rcases h3 with rfl | ⟨g', off', cur, hA, hb', hB, h3, h4⟩
  · omega
  · cases hA
    refine ⟨_, cap, by rw [List.length_set], by rw [List.length_set]; exact h1, h2, .inr ⟨g, off, _, rfl, hb', hB.put _ _, by simpa using h3, fun j hj f hf => ?_⟩⟩
    rw [List.length_set] at hj
    rw [Array.getElem?_setIfInBounds]
    by_cases hij : i = j
    · subst hij
      have h5 := h4 i hi f hf
      rw [hx] at h5
      rw [List.getElem_set, if_pos rfl]
      by_cases hf2 : f = 2
      · subst hf2
        rw [if_pos rfl, if_pos (by omega)]
        rfl
      · rw [if_neg (by omega), h5]
        match f, hf, hf2 with
        | 0, _, _ => rfl
        | 1, _, _ => rfl
        | 2, _, h => exact absurd rfl h
        | 3, _, _ => rfl
        | 4, _, _ => rfl
    · rw [List.getElem_set, if_neg hij, if_neg (by omega), h4 j hj f hf]

set_option maxHeartbeats 4000000 in
set_option maxRecDepth 100000 in
theorem touch_any (s : SlV E) (k v q : Int) (w : World) (hs : EsAt w s) :
    Calls Tryd.prog 19 #[.slice s.A s.xs.length s.c, .int .i64 k, .int .i64 v, .int .i64 q] w (CRes w (touchR s.xs k v q).1 (touchR s.xs k v q).2) := by
  have HS := hid (fun W (hW : Below w.heap.size w W) => hs.stays hW)
  have hgt := get_any s k w hs.entries
  generalize hR : touchR s.xs k v q = R
  unfold touchR at hR
  obtain ⟨G, hG⟩ : ∃ G, getR s.xs k = G := ⟨_, rfl⟩
  rw [hG] at hgt hR
  obtain ⟨⟨g0, g1, g2, g3, g4⟩, ge⟩ := G
  unfold E.val at hgt
  simp only at hgt hR
  by_cases h0 : ge = 0
  · subst h0
    rw [if_pos rfl] at hR
    obtain ⟨hc, hk, hh, hx⟩ := getR_ok hG
    obtain ⟨hS, hK, hn⟩ := val_facts hc
    have hgd := val_good hc
    have hp : plc k s.xs < s.xs.length := by
      unfold hasK at hh
      simp at hh
      exact hh.1
    rw [getD_get _ hp] at hx
    have HP := hid (fun W (hW : Below w.heap.size w W) => place_any k s W (hs.stays hW).entries hS hK (keyB_true.1 hk) hn)
    rw [hh] at HP
    have HGt := hid hgt
    have Hgd := hid hgd
    have Hx := hid hx
    rw [errV_zero] at HGt
    clear hgt hs hG hc hk hh hS hK hx hgd
    by_cases hq : seqB q = true ∧ 0 ≤ v ∧ v ≤ q
    · rw [if_pos hq] at hR
      obtain ⟨hq0, hv0, hvq⟩ := hq
      have Hq := hid hq0
      clear hq0
      by_cases hcl : v < g1 ∨ (g1 < v ∧ v ≤ g2)
      · rw [if_pos hcl] at hR
        subst hR
        rcases hcl with hcl | ⟨hcl, hcl2⟩
        all_goals
          go_enter Tryd.func19, Tryd.ntmps19
          go_wp2_with fail
          refine HGt.out.mono ?_
          rintro e w1 ⟨rfl, hb1⟩
          have hz1 := hb1.size
          go_wp2_with ((go_at_call 49; refine (seq_any _ _).mono ?_; rintro e w' ⟨rfl, rfl⟩); rw [Hq.out])
          go_ret2
          exact ⟨_, rfl, Ow.nil _ _ _ _ _, by (repeat (first | with_reducible exact Below.refl _ _ | with_reducible assumption | (with_reducible refine Below.drew ?_) | (with_reducible refine Below.manyDrew ?_ _) | ((with_reducible refine Below.alloc ?_ ?_ _); rotate_left; (focus (first | omega | (dsimp only; omega) | (simp; done) | (simp; omega)))) | ((with_reducible refine Below.setCell ?_ ?_ _); rotate_left; (focus (first | omega | (dsimp only; omega) | (simp; done) | (simp; omega)))) | ((with_reducible refine Below.step ?_ (by assumption) ?_); rotate_left; (focus (first | omega | (dsimp only; omega) | (simp; done) | (simp; omega))))))⟩
      · rw [if_neg hcl] at hR
        by_cases hlt : g1 < v
        · rw [if_pos hlt] at hR
          subst hR
          have h2v : ¬ v ≤ g2 := fun h => hcl (.inr ⟨hlt, h⟩)
          have h1v : ¬ v < g1 := by omega
          clear hcl
          go_enter Tryd.func19, Tryd.ntmps19
          go_wp2_with fail
          refine HGt.out.mono ?_
          rintro e w1 ⟨rfl, hb1⟩
          have hz1 := hb1.size
          go_wp2_with ((go_at_call 49; refine (seq_any _ _).mono ?_; rintro e w' ⟨rfl, rfl⟩); rw [Hq.out])
          refine (HP.out _ (by (repeat (first | with_reducible exact Below.refl _ _ | with_reducible assumption | (with_reducible refine Below.drew ?_) | (with_reducible refine Below.manyDrew ?_ _) | ((with_reducible refine Below.alloc ?_ ?_ _); rotate_left; (focus (first | omega | (dsimp only; omega) | (simp; done) | (simp; omega)))) | ((with_reducible refine Below.setCell ?_ ?_ _); rotate_left; (focus (first | omega | (dsimp only; omega) | (simp; done) | (simp; omega)))) | ((with_reducible refine Below.step ?_ (by assumption) ?_); rotate_left; (focus (first | omega | (dsimp only; omega) | (simp; done) | (simp; omega)))))))).mono ?_
          rintro e w2 ⟨rfl, hb2⟩
          have hX2 := (Blk.new w1 26 #[.int .i64 g0, .int .i64 g1, .int .i64 g2, .bool g3, .string g4]).belowS hb2
          have Hb2 := hid (Below.step (show Below w.heap.size w (w1.alloc (.cells #[.int .i64 g0, .int .i64 g1, .int .i64 g2, .bool g3, .string g4] 26)) by (repeat (first | with_reducible exact Below.refl _ _ | with_reducible assumption | (with_reducible refine Below.drew ?_) | (with_reducible refine Below.manyDrew ?_ _) | ((with_reducible refine Below.alloc ?_ ?_ _); rotate_left; (focus (first | omega | (dsimp only; omega) | (simp; done) | (simp; omega)))) | ((with_reducible refine Below.setCell ?_ ?_ _); rotate_left; (focus (first | omega | (dsimp only; omega) | (simp; done) | (simp; omega)))) | ((with_reducible refine Below.step ?_ (by assumption) ?_); rotate_left; (focus (first | omega | (dsimp only; omega) | (simp; done) | (simp; omega))))))) hb2 (by simp; omega))
          have hz2 := Hb2.out.size
          have HX2 := hid hX2
          clear hb2 hX2 HP
          generalize plc k s.xs = p at *
          go_wp2_with fail
          refine (eclone_any s _ (HS.out _ Hb2.out) (by omega)).mono ?_
          rintro e w3 ⟨v3, rfl, hOw, hb3⟩
          have hX3 := HX2.out.belowS hb3
          have Hb3 := hid (Below.step Hb2.out hb3 hz2)
          have hz3 := Hb3.out.size
          obtain ⟨g, off, c, rfl, hlc, hcm, hbg, hgl, hfo, hcells, hfz⟩ := hOw.get (by omega)
          have HOw := hid (hOw.mono (base' := w.heap.size) hz2)
          have d1 : w3.cell? ⟨w1.heap.size, 1, none⟩ = some (.int .i64 g1) := hX3.cell 1
          have d2 : w3.cell? ⟨w1.heap.size, 2, none⟩ = some (.int .i64 g2) := hX3.cell 2
          have hl3 := hX3.lt
          have hgw : w.heap.size ≤ g := by omega
          obtain ⟨kk, hkk⟩ : ∃ kk, kk + 1 = s.xs.length := ⟨s.xs.length - 1, by omega⟩
          have HD := hid (Edel_any w.heap.size g off c p kk s.xs w3 HOw.out hp hkk (by omega) Hgd.out)
          clear hb3 hX3 hOw hcells hfz hfo hkk
          go_wp2_with fail
          refine HD.out.mono ?_
          rintro e w4 ⟨rfl, h4, f4⟩
          have Hb4 := hid (Hb3.out.trans (f4.below0 hz3 (fun i hi => by omega)))
          have H4 := hid h4
          clear h4 f4
          go_wp2_with fail
          refine bodyPost_ret (v := .tuple #[.slice (some ⟨g, off, none⟩) kk c, .nilIface]) ?_ rfl ⟨_, rfl, H4.out, Hb4.out⟩
          simp [results, Tryd.results19, go_sem]
        · rw [if_neg hlt] at hR
          subst hR
          obtain rfl : v = g1 := by omega
          clear hcl hlt
          go_enter Tryd.func19, Tryd.ntmps19
          go_wp2_with fail
          refine HGt.out.mono ?_
          rintro e w1 ⟨rfl, hb1⟩
          have hz1 := hb1.size
          go_wp2_with ((go_at_call 49; refine (seq_any _ _).mono ?_; rintro e w' ⟨rfl, rfl⟩); rw [Hq.out])
          refine (HP.out _ (by (repeat (first | with_reducible exact Below.refl _ _ | with_reducible assumption | (with_reducible refine Below.drew ?_) | (with_reducible refine Below.manyDrew ?_ _) | ((with_reducible refine Below.alloc ?_ ?_ _); rotate_left; (focus (first | omega | (dsimp only; omega) | (simp; done) | (simp; omega)))) | ((with_reducible refine Below.setCell ?_ ?_ _); rotate_left; (focus (first | omega | (dsimp only; omega) | (simp; done) | (simp; omega)))) | ((with_reducible refine Below.step ?_ (by assumption) ?_); rotate_left; (focus (first | omega | (dsimp only; omega) | (simp; done) | (simp; omega)))))))).mono ?_
          rintro e w2 ⟨rfl, hb2⟩
          have hX2 := (Blk.new w1 26 #[.int .i64 g0, .int .i64 v, .int .i64 g2, .bool g3, .string g4]).belowS hb2
          have Hb2 := hid (Below.step (show Below w.heap.size w (w1.alloc (.cells #[.int .i64 g0, .int .i64 v, .int .i64 g2, .bool g3, .string g4] 26)) by (repeat (first | with_reducible exact Below.refl _ _ | with_reducible assumption | (with_reducible refine Below.drew ?_) | (with_reducible refine Below.manyDrew ?_ _) | ((with_reducible refine Below.alloc ?_ ?_ _); rotate_left; (focus (first | omega | (dsimp only; omega) | (simp; done) | (simp; omega)))) | ((with_reducible refine Below.setCell ?_ ?_ _); rotate_left; (focus (first | omega | (dsimp only; omega) | (simp; done) | (simp; omega)))) | ((with_reducible refine Below.step ?_ (by assumption) ?_); rotate_left; (focus (first | omega | (dsimp only; omega) | (simp; done) | (simp; omega))))))) hb2 (by simp; omega))
          have hz2 := Hb2.out.size
          have HX2 := hid hX2
          clear hb2 hX2 HP
          generalize plc k s.xs = p at *
          go_wp2_with fail
          refine (eclone_any s _ (HS.out _ Hb2.out) (by omega)).mono ?_
          rintro e w3 ⟨v3, rfl, hOw, hb3⟩
          have hX3 := HX2.out.belowS hb3
          have Hb3 := hid (Below.step Hb2.out hb3 hz2)
          have hz3 := Hb3.out.size
          obtain ⟨g, off, c, rfl, hlc, hcm, hbg, hgl, hfo, hcells, hfz⟩ := hOw.get (by omega)
          have HOw := hid (hOw.mono (base' := w.heap.size) hz2)
          have d1 : w3.cell? ⟨w1.heap.size, 1, none⟩ = some (.int .i64 v) := hX3.cell 1
          have d2 : w3.cell? ⟨w1.heap.size, 2, none⟩ = some (.int .i64 g2) := hX3.cell 2
          have hl3 := hX3.lt
          have hgw : w.heap.size ≤ g := by omega
          have j2 : w3.cell? ⟨g, off + p * 5 + 2, none⟩ = some (.int .i64 g2) := (hcells p hp 2 (by decide)).trans (by rw [Hx.out]; rfl)
          have z2 : w3.frozen? ⟨g, off + p * 5 + 2, none⟩ = false := hfz _
          have HA := hid (HOw.out.asof hp Hx.out (max g2 q))
          clear hb3 hX3 hOw hcells hfz hfo
          go_wp2_with fail
          all_goals
            first
              | rw [show max g2 q = g2 by omega] at HA ⊢
              | rw [show max g2 q = q by omega] at HA ⊢
            refine bodyPost_ret (v := .tuple #[.slice (some ⟨g, off, none⟩) s.xs.length c, .nilIface]) ?_ rfl ⟨_, rfl, ?_, ?_⟩
            · simp [results, Tryd.results19, go_sem]
            · with_reducible exact HA.out
            · have hb3 := Hb3.out
              (repeat (first | with_reducible exact Below.refl _ _ | with_reducible assumption | (with_reducible refine Below.drew ?_) | (with_reducible refine Below.manyDrew ?_ _) | ((with_reducible refine Below.alloc ?_ ?_ _); rotate_left; (focus (first | omega | (dsimp only; omega) | (simp; done) | (simp; omega)))) | ((with_reducible refine Below.setCell ?_ ?_ _); rotate_left; (focus (first | omega | (dsimp only; omega) | (simp; done) | (simp; omega)))) | ((with_reducible refine Below.step ?_ (by assumption) ?_); rotate_left; (focus (first | omega | (dsimp only; omega) | (simp; done) | (simp; omega))))))
    · rw [if_neg hq] at hR
      subst hR
      rcases (show seqB q = false ∨ (seqB q = true ∧ v < 0) ∨ (seqB q = true ∧ 0 ≤ v ∧ q < v) by
        rcases hs : seqB q with _ | _
        · exact .inl rfl
        · by_cases h : v < 0
          · exact .inr (.inl ⟨rfl, h⟩)
          · exact .inr (.inr ⟨rfl, by omega, by
              by_cases h2 : v ≤ q
              · exact absurd ⟨hs, by omega, h2⟩ hq
              · omega⟩)) with hq | ⟨hq, hv⟩ | ⟨hq, hv, hv2⟩
      all_goals
        have Hq := hid hq
        clear hq
        go_enter Tryd.func19, Tryd.ntmps19
        go_wp2_with fail
        refine HGt.out.mono ?_
        rintro e w1 ⟨rfl, hb1⟩
        have hz1 := hb1.size
        go_wp2_with ((go_at_call 49; refine (seq_any _ _).mono ?_; rintro e w' ⟨rfl, rfl⟩); rw [Hq.out])
        go_ret2
        exact ⟨_, rfl, Ow.nil _ _ _ _ _, by (repeat (first | with_reducible exact Below.refl _ _ | with_reducible assumption | (with_reducible refine Below.drew ?_) | (with_reducible refine Below.manyDrew ?_ _) | ((with_reducible refine Below.alloc ?_ ?_ _); rotate_left; (focus (first | omega | (dsimp only; omega) | (simp; done) | (simp; omega)))) | ((with_reducible refine Below.setCell ?_ ?_ _); rotate_left; (focus (first | omega | (dsimp only; omega) | (simp; done) | (simp; omega)))) | ((with_reducible refine Below.step ?_ (by assumption) ?_); rotate_left; (focus (first | omega | (dsimp only; omega) | (simp; done) | (simp; omega))))))⟩
  · rw [if_neg h0] at hR
    subst hR
    have Hen := hid (errV_ne h0)
    have HGt := hid hgt
    clear h0 hG hgt hs
    go_enter Tryd.func19, Tryd.ntmps19
    go_wp2_with fail
    refine HGt.out.mono ?_
    rw [Hen.out]
    rintro e w1 ⟨rfl, hb1⟩
    have hz1 := hb1.size
    go_wp2_with fail
    refine bodyPost_ret (v := .tuple #[.slice none 0 0, .iface 87 (.int .i64 ge)]) ?_ rfl ⟨_, by rw [Hen.out], Ow.nil _ _ _ _ _, by (repeat (first | with_reducible exact Below.refl _ _ | with_reducible assumption | (with_reducible refine Below.drew ?_) | (with_reducible refine Below.manyDrew ?_ _) | ((with_reducible refine Below.alloc ?_ ?_ _); rotate_left; (focus (first | omega | (dsimp only; omega) | (simp; done) | (simp; omega)))) | ((with_reducible refine Below.setCell ?_ ?_ _); rotate_left; (focus (first | omega | (dsimp only; omega) | (simp; done) | (simp; omega)))) | ((with_reducible refine Below.step ?_ (by assumption) ?_); rotate_left; (focus (first | omega | (dsimp only; omega) | (simp; done) | (simp; omega))))))⟩
    simp [results, Tryd.results19, go_sem]
end Go.Proofs.YthjbebngedajiaaDoor
