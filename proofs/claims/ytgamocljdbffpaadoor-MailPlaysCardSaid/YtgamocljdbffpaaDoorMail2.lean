/-
  CONTRACTS of slices.Delete at api.Letter (one of them), mail.Give, Lose, Twice. CONDITIONS: none.
-/
import Derived.Test.YtgamocljdbffpaaDoorMail
import Derived.Test.YtgamocljdbffpaaDoorKitR
namespace Go.Proofs.YtgamocljdbffpaaDoor
open Go.RowKit
open Go.ChangeShapes Go.WideShapes Go.ChangeAt

def Lt.out (L : List Lt) (i : Nat) : List Lt := L.take i ++ L.drop (i + 1)
theorem Lt.out_length {L : List Lt} {i : Nat} (hi : i < L.length) : (Lt.out L i).length + 1 = L.length := by unfold Lt.out; simp; omega
set_option maxHeartbeats 8000000 in
set_option maxRecDepth 100000 in
theorem ldel_any (base g off c i k : Nat) (L : List Lt) (w : World) (hown : Ow Lt.cells 7 base 37 w (.slice (some ⟨g, off, none⟩) L.length c) L) (hi : i < L.length) (hk : k + 1 = L.length) (hL : L.length ≤ 1000) (hgood : ∀ y ∈ L, y.good) :
    Calls Tryd.prog 39 #[.slice (some ⟨g, off, none⟩) L.length c, .int .i64 i, .int .i64 ((i : Int) + 1)] w fun e w' =>
      e = .returned (.slice (some ⟨g, off, none⟩) k c) ∧ Ow Lt.cells 7 base 37 w' (.slice (some ⟨g, off, none⟩) k c) (Lt.out L i) ∧ Fr (fun j => j = g) w w' := by
  obtain ⟨A', c', hv, hlc, hcm, hform⟩ := hown.form
  cases hv
  unfold maxLen at hcm
  have hc0 : 0 < c := by omega
  obtain ⟨g1, off1, hA1, hbg, hgl, hfo, hown1⟩ := hform hc0
  cases hA1
  obtain ⟨r, hre, hrx, hrA, _, _⟩ := LtsAt.of_ow hown hgood
  have htk := hown.take (k := i) (by omega)
  have hdr := hown.drop (k := i + 1) (by omega)
  have hlt : (L.take i).length = i := by rw [List.length_take]; omega
  have hld : (L.drop (i + 1)).length = L.length - (i + 1) := by rw [List.length_drop]
  have hsrc : Src Tryd.prog 7 27 (.slice (some ⟨g, off + (i + 1) * 7, none⟩) (L.length - (i + 1)) (c - (i + 1))) (L.drop (i + 1)).length ((L.drop (i + 1)).flatMap Lt.cells) w.drew := by
    obtain ⟨r2, hre2, hrx2, hrA2, _, _⟩ := LtsAt.of_ow hdr.drew (fun y hy => hgood y (List.mem_of_mem_drop hy))
    have := hrA2.src (P := Tryd.prog) Tryd.underlying27
    rw [hre2, ← hrx2]
    exact this
  have hsrc0 : L.length = i + 1 → Src Tryd.prog 7 27 (.slice (some ⟨g, off, none⟩) 0 0) (L.drop (i + 1)).length ((L.drop (i + 1)).flatMap Lt.cells) w.drew := fun h => by
    have h0 : L.drop (i + 1) = [] := List.drop_eq_nil_of_le (by omega)
    rw [h0]
    exact Src.ofSlice w.drew Tryd.underlying27 ⟨g, off, none⟩ 0 0 [] rfl (fun j u hj => by simp at hj) (fun u hu => by simp at hu)
  have Hown := hid hown
  have Htk := hid htk
  have Hsrc := hid hsrc
  have Hsrc0 := hid hsrc0
  have Hlt := hid hlt
  have Hk2 := hid (show (L.take i).length + (L.drop (i + 1)).length = k by rw [hlt, hld]; omega)
  have hroom : (L.take i).length + (L.drop (i + 1)).length ≤ c := by omega
  have hni : ((i : Int) == (i : Int) + 1) = false := by rw [beq_eq_false_iff_ne]; omega
  have hil : (i : Int) + 1 ≤ (L.length : Int) := by omega
  have hi0 : (0 : Int) ≤ (i : Int) + 1 := by omega
  have hkl : k < L.length := by omega
  have hkl2 : L.length ≤ k + 1 := by omega
  have hlc2 : (L.length : Int) ≤ (c : Int) := by omega
  have hci : ¬ c = i := by omega
  have hic : i ≤ c := by omega
  have hic2 : (i : Int) ≤ (c : Int) := by omega
  have hil2 : i + 1 ≤ L.length := by omega
  have hit : ((i : Int) + 1).toNat = i + 1 := by omega
  have hck : ¬ c = k := by omega
  clear hown htk hdr hsrc hsrc0 hlt hld hrA hrx hre hk hform hown1 hfo
  obtain ⟨zs, hzs⟩ : ∃ zs, (Builtin.zeroCells Lt.zero.val.cells (L.length - k)).toList = zs := ⟨_, rfl⟩
  have hzl : zs.length = (L.length - k) * 7 := by rw [← hzs, Array.length_toList, size_zeroCells]; rfl
  have hz1 : ∀ u ∈ zs, u.oneCell' = true := by
    rw [← hzs]
    exact zeros_one (z := Lt.zero.val.cells) (by intro k hk; match k, hk with | 0, _ | 1, _ | 2, _ | 3, _ | 4, _ | 5, _ | 6, _ => rfl) (L.length - k)
  have Hzs := hid hzs
  have Hzl := hid hzl
  have Hz1 := hid hz1
  have hkL : (k : Int) ≤ (L.length : Int) := by omega
  have hkc : k ≤ c := by omega
  clear hzs hzl hz1
  have hii : (i : Int) ≤ (i : Int) + 1 := by omega
  rcases Decidable.em (c = i + 1) with hc1 | hc1
  · subst hc1
    have Hs0 := hid (Hsrc0.out (by omega))
    clear Hsrc0 Hsrc
    go_enter Tryd.func39, Tryd.ntmps39
    go_wp2_with fail
    go_region_law ((refine app_room_step Lt.cells 7 64 Lt.cells_length _ 27 27 Lt.zero.val Tryd.underlying27 infoLt rfl _ _ rfl _ base g off i k (i + 1) (.slice (some ⟨g, off, none⟩) 0 0) (L.take i) (L.drop (i + 1)) (by simp [Act.eval, Act.put]) Hlt.out Hk2.out (by simp [Act.eval, Act.put]) Hs0.out Htk.out.drew hroom hc0 ?_; intro w8 h8 f8))
    obtain ⟨cur, hB, hcur⟩ := h8.blk (by omega)
    have HB := hid hB
    have H8 := hid h8
    have F8 := hid f8
    have hcur2 : off + k * 7 + (L.length - k) * 7 ≤ cur.size := by omega
    clear hB h8 f8 hcur
    go_wp2_with ((with_reducible refine wpList_clear _ g (off + k * 7) (L.length - k) ((i + 1) - k) 7 64 cur 37 27 Lt.zero.val zs Hzs.out HB.out hcur2 Tryd.underlying27 infoLt rfl Hz1.out rfl _ rfl rfl ?_))
    go_wp2_with fail
    go_ret
    refine ⟨rfl, H8.out.far ?_ ?_, Fr.setCells g _ _ _ (⟨F8.out.os, F8.out.tape, F8.out.output, F8.out.size, F8.out.block⟩ : Fr (fun j => j = g) w w8) (.inl rfl)⟩
    · rw [List.length_append, Hk2.out]; exact Nat.le_refl _
    · rw [Hzl.out]; omega
  · have Hs1 := hid Hsrc.out
    clear Hsrc0 Hsrc
    go_enter Tryd.func39, Tryd.ntmps39
    go_wp2_with fail
    go_region_law ((refine app_room_step Lt.cells 7 64 Lt.cells_length _ 27 27 Lt.zero.val Tryd.underlying27 infoLt rfl _ _ rfl _ base g off i k c (.slice (some ⟨g, off + (i + 1) * 7, none⟩) (L.length - (i + 1)) (c - (i + 1))) (L.take i) (L.drop (i + 1)) (by simp [Act.eval, Act.put]) Hlt.out Hk2.out (by simp [Act.eval, Act.put]) Hs1.out Htk.out.drew hroom hc0 ?_; intro w8 h8 f8))
    obtain ⟨cur, hB, hcur⟩ := h8.blk (by omega)
    have HB := hid hB
    have H8 := hid h8
    have F8 := hid f8
    have hcur2 : off + k * 7 + (L.length - k) * 7 ≤ cur.size := by omega
    clear hB h8 f8 hcur
    go_wp2_with ((with_reducible refine wpList_clear _ g (off + k * 7) (L.length - k) (c - k) 7 64 cur 37 27 Lt.zero.val zs Hzs.out HB.out hcur2 Tryd.underlying27 infoLt rfl Hz1.out rfl _ rfl rfl ?_))
    go_wp2_with fail
    go_ret
    refine ⟨rfl, H8.out.far ?_ ?_, Fr.setCells g _ _ _ (⟨F8.out.os, F8.out.tape, F8.out.output, F8.out.size, F8.out.block⟩ : Fr (fun j => j = g) w w8) (.inl rfl)⟩
    · rw [List.length_append, Hk2.out]; exact Nat.le_refl _
    · rw [Hzl.out]; omega

set_option maxHeartbeats 4000000 in
theorem Blk.put7 {w : World} {g : Nat} {t : TypeId} {a b c d e f k : Value} (h : Blk w g t #[a, b, c, d, e, f, k]) (x0 x1 x2 x3 x4 x5 x6 : Value) :
    Blk (((((((w.setCell ⟨g, 0, none⟩ x0).setCell ⟨g, 1, none⟩ x1).setCell ⟨g, 2, none⟩ x2).setCell ⟨g, 3, none⟩ x3).setCell ⟨g, 4, none⟩ x4).setCell ⟨g, 5, none⟩ x5).setCell ⟨g, 6, none⟩ x6) g t #[x0, x1, x2, x3, x4, x5, x6] :=
  ((((((h.put 0 x0).put 1 x1).put 2 x2).put 3 x3).put 4 x4).put 5 x5).put 6 x6
theorem Fr.put7 {S : Nat → Prop} {w w0 : World} (g : Nat) (h : Fr S w0 w) (hg : S g ∨ w0.heap.size ≤ g) (x0 x1 x2 x3 x4 x5 x6 : Value) :
    Fr S w0 (((((((w.setCell ⟨g, 0, none⟩ x0).setCell ⟨g, 1, none⟩ x1).setCell ⟨g, 2, none⟩ x2).setCell ⟨g, 3, none⟩ x3).setCell ⟨g, 4, none⟩ x4).setCell ⟨g, 5, none⟩ x5).setCell ⟨g, 6, none⟩ x6) :=
  ((((((h.setCell (p := ⟨g, 0, none⟩) hg x0).setCell (p := ⟨g, 1, none⟩) hg x1).setCell (p := ⟨g, 2, none⟩) hg x2).setCell (p := ⟨g, 3, none⟩) hg x3).setCell (p := ⟨g, 4, none⟩) hg x4).setCell (p := ⟨g, 5, none⟩) hg x5).setCell (p := ⟨g, 6, none⟩) hg x6
def giveE (L : List Lt) (i : Int) : Int := if inB i L.length = true then 0 else 1
def giveL (L : List Lt) (i : Int) : List Lt := if inB i L.length = true then Lt.out L i.toNat else L
def giveY (L : List Lt) (i : Int) : Lt := if inB i L.length = true then L.getD i.toNat Lt.zero else Lt.zero
theorem give_new {base s bm nc n : Nat} {w X w8 : World} {v v8 : Value} {L : List Lt} {C : Int → Int → Bool} (hO : MailO base w s bm v L nc C) (hX : Below w.heap.size w X) (h8 : Ow Lt.cells 7 base 37 w8 v8 (Lt.out L n))
    (hn : n < L.length) (f8 : Fr (fun k => some k = foot v) X w8) (o8 : foot v8 = foot v) : MailO base (w8.setCell ⟨s, 0, none⟩ v8) s bm v8 (Lt.out L n) nc C ∧ Fr (FM s bm v) w (w8.setCell ⟨s, 0, none⟩ v8) := by
  have hF : Fr (fun k => k = s) w8 (w8.setCell ⟨s, 0, none⟩ v8) := (Fr.refl (fun k => k = s) _).setCell (p := ⟨s, 0, none⟩) (.inl rfl) _
  have hlo := Lt.out_length hn
  have hls := hO.lens
  refine ⟨⟨((hO.blk.belowS hX).fr f8 (fun e => hO.off e.symm)).put 0 v8, h8.fr hF (fun g hg e => hO.off (by rw [← o8, hg, e])), by rw [o8]; exact hO.off, ((hO.cut.belowS hX).fr f8 (fun e => hO.offm e.symm)).fr hF hO.ne.symm, fun z hz => ?_, by omega, hO.lbs, hO.lbb⟩, ?_⟩
  · rcases List.mem_append.1 hz with hz | hz
    · exact hO.good z (List.mem_of_mem_take hz)
    · exact hO.good z (List.mem_of_mem_drop hz)
  · exact (((Fr.ofB hX).step (f8.mono (fun i _ h => .inr (.inr h)))).step (hF.mono (fun i _ h => .inl h)))
theorem MRes.more {base s bm nc : Nat} {v v8 : Value} {w w5 w6 : World} {L' : List Lt} {C : Int → Int → Bool} {ret : Value} (hM : MailO base w5 s bm v8 L' nc C) (hF : Fr (FM s bm v) w w5) (o8 : foot v8 = foot v ∨ ∃ g, foot v8 = some g ∧ w.heap.size ≤ g) {g : Nat} (hF6 : Fr (fun k => k = g) w5 w6) (hg : w.heap.size ≤ g) (hng : ¬ FM s bm v8 g) :
    MRes base s bm v w ret L' nc C (.returned ret) w6 :=
  ⟨v8, rfl, hM.fr hF6 (fun i hi e => hng (by rw [← e]; exact hi)), hF.trans hF6 (fun i hi => .inr (by rw [hi]; exact hg)), o8⟩
end Go.Proofs.YtgamocljdbffpaaDoor
