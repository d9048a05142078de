/-
  CONTRACTS of slices.Delete at api.Letter (one of them), mail.Give, Lose, Twice. CONDITIONS: none.
  CONTRACT of mail.Give. CONDITIONS: none.
  CONTRACT of mail.Lose and mail.Twice. CONDITIONS: none.
-/
import Derived.Test.YtlcbdhblaamekaaMail
import Derived.Test.YtlcbdhblaamekaaKit
namespace Go.Proofs.Ytlcbdhblaamekaa
open Go.RowKit
open Go.ChangeShapes Go.WideShapes Go.ChangeAt

def Lt.out (L : List Lt) (i : Nat) : List Lt := L.take i ++ L.drop (i + 1)
theorem Lt.out_length {L : List Lt} {i : Nat} (hi : i < L.length) : (Lt.out L i).length + 1 = L.length := by unfold Lt.out; simp; omega
set_option maxHeartbeats 8000000 in
set_option maxRecDepth 100000 in
theorem ldel_any (base g off c i k : Nat) (L : List Lt) (w : World) (hown : Ow Lt.cells 7 base 42 w (.slice (some ⟨g, off, none⟩) L.length c) L) (hi : i < L.length) (hk : k + 1 = L.length) (hL : L.length ≤ 1000) (hgood : ∀ y ∈ L, y.good) :
    Calls Try.prog 30 #[.slice (some ⟨g, off, none⟩) L.length c, .int .i64 i, .int .i64 ((i : Int) + 1)] w fun e w' =>
      e = .returned (.slice (some ⟨g, off, none⟩) k c) ∧ Ow Lt.cells 7 base 42 w' (.slice (some ⟨g, off, none⟩) k c) (Lt.out L i) ∧ Fr (fun j => j = g) w w' := by
  obtain ⟨A', c', hv, hlc, hcm, hform⟩ := hown.form
  cases hv
  unfold maxLen at hcm
  have hc0 : 0 < c := by omega
  obtain ⟨g1, off1, hA1, hbg, hgl, hfo, hown1⟩ := hform hc0
  cases hA1
  obtain ⟨r, hre, hrx, hrA, _, _⟩ := LtsAt.of_ow hown hgood
  have htk := hown.take (k := i) (by omega)
  have hdr := hown.drop (k := i + 1) (by omega)
  have hlt : (L.take i).length = i := by rw [List.length_take]; omega
  have hld : (L.drop (i + 1)).length = L.length - (i + 1) := by rw [List.length_drop]
  have hsrc : Src Try.prog 7 60 (.slice (some ⟨g, off + (i + 1) * 7, none⟩) (L.length - (i + 1)) (c - (i + 1))) (L.drop (i + 1)).length ((L.drop (i + 1)).flatMap Lt.cells) w.drew := by
    obtain ⟨r2, hre2, hrx2, hrA2, _, _⟩ := LtsAt.of_ow hdr.drew (fun y hy => hgood y (List.mem_of_mem_drop hy))
    have := hrA2.src (P := Try.prog) Try.underlying60
    rw [hre2, ← hrx2]
    exact this
  have hsrc0 : L.length = i + 1 → Src Try.prog 7 60 (.slice (some ⟨g, off, none⟩) 0 0) (L.drop (i + 1)).length ((L.drop (i + 1)).flatMap Lt.cells) w.drew := fun h => by
    have h0 : L.drop (i + 1) = [] := List.drop_eq_nil_of_le (by omega)
    rw [h0]
    exact Src.ofSlice w.drew Try.underlying60 ⟨g, off, none⟩ 0 0 [] rfl (fun j u hj => by simp at hj) (fun u hu => by simp at hu)
  have Hown := hid hown
  have Htk := hid htk
  have Hsrc := hid hsrc
  have Hsrc0 := hid hsrc0
  have Hlt := hid hlt
  have Hk2 := hid (show (L.take i).length + (L.drop (i + 1)).length = k by rw [hlt, hld]; omega)
  have hroom : (L.take i).length + (L.drop (i + 1)).length ≤ c := by omega
  have hni : ((i : Int) == (i : Int) + 1) = false := by rw [beq_eq_false_iff_ne]; omega
  have hil : (i : Int) + 1 ≤ (L.length : Int) := by omega
  have hi0 : (0 : Int) ≤ (i : Int) + 1 := by omega
  have hkl : k < L.length := by omega
  have hkl2 : L.length ≤ k + 1 := by omega
  have hlc2 : (L.length : Int) ≤ (c : Int) := by omega
  have hci : ¬ c = i := by omega
  have hic : i ≤ c := by omega
  have hic2 : (i : Int) ≤ (c : Int) := by omega
  have hil2 : i + 1 ≤ L.length := by omega
  have hit : ((i : Int) + 1).toNat = i + 1 := by omega
  have hck : ¬ c = k := by omega
  clear hown htk hdr hsrc hsrc0 hlt hld hrA hrx hre hk hform hown1 hfo
  obtain ⟨zs, hzs⟩ : ∃ zs, (Builtin.zeroCells Lt.zero.val.cells (L.length - k)).toList = zs := ⟨_, rfl⟩
  have hzl : zs.length = (L.length - k) * 7 := by rw [← hzs, Array.length_toList, size_zeroCells]; rfl
  have hz1 : ∀ u ∈ zs, u.oneCell' = true := by
    rw [← hzs]
    exact zeros_one (z := Lt.zero.val.cells) (by intro k hk; match k, hk with | 0, _ | 1, _ | 2, _ | 3, _ | 4, _ | 5, _ | 6, _ => rfl) (L.length - k)
  have Hzs := hid hzs
  have Hzl := hid hzl
  have Hz1 := hid hz1
  have hkL : (k : Int) ≤ (L.length : Int) := by omega
  have hkc : k ≤ c := by omega
  clear hzs hzl hz1
  have hii : (i : Int) ≤ (i : Int) + 1 := by omega
  rcases Decidable.em (c = i + 1) with hc1 | hc1
  · subst hc1
    have Hs0 := hid (Hsrc0.out (by omega))
    clear Hsrc0 Hsrc
    go_enter Try.func30, Try.ntmps30
    go_wp2_with fail
    go_region_law ((refine app_room_step Lt.cells 7 64 Lt.cells_length _ 60 60 Lt.zero.val Try.underlying60 infoLt rfl _ _ rfl _ base g off i k (i + 1) (.slice (some ⟨g, off, none⟩) 0 0) (L.take i) (L.drop (i + 1)) (by simp [Act.eval, Act.put]) Hlt.out Hk2.out (by simp [Act.eval, Act.put]) Hs0.out Htk.out.drew hroom hc0 ?_; intro w8 h8 f8))
    obtain ⟨cur, hB, hcur⟩ := h8.blk (by omega)
    have HB := hid hB
    have H8 := hid h8
    have F8 := hid f8
    have hcur2 : off + k * 7 + (L.length - k) * 7 ≤ cur.size := by omega
    clear hB h8 f8 hcur
    go_wp2_with ((with_reducible refine wpList_clear _ g (off + k * 7) (L.length - k) ((i + 1) - k) 7 64 cur 42 60 Lt.zero.val zs Hzs.out HB.out hcur2 Try.underlying60 infoLt rfl Hz1.out rfl _ rfl rfl ?_))
    go_wp2_with fail
    go_ret
    refine ⟨rfl, H8.out.far ?_ ?_, Fr.setCells g _ _ _ (⟨F8.out.os, F8.out.tape, F8.out.output, F8.out.size, F8.out.block⟩ : Fr (fun j => j = g) w w8) (.inl rfl)⟩
    · rw [List.length_append, Hk2.out]; exact Nat.le_refl _
    · rw [Hzl.out]; omega
  · have Hs1 := hid Hsrc.out
    clear Hsrc0 Hsrc
    go_enter Try.func30, Try.ntmps30
    go_wp2_with fail
    go_region_law ((refine app_room_step Lt.cells 7 64 Lt.cells_length _ 60 60 Lt.zero.val Try.underlying60 infoLt rfl _ _ rfl _ base g off i k c (.slice (some ⟨g, off + (i + 1) * 7, none⟩) (L.length - (i + 1)) (c - (i + 1))) (L.take i) (L.drop (i + 1)) (by simp [Act.eval, Act.put]) Hlt.out Hk2.out (by simp [Act.eval, Act.put]) Hs1.out Htk.out.drew hroom hc0 ?_; intro w8 h8 f8))
    obtain ⟨cur, hB, hcur⟩ := h8.blk (by omega)
    have HB := hid hB
    have H8 := hid h8
    have F8 := hid f8
    have hcur2 : off + k * 7 + (L.length - k) * 7 ≤ cur.size := by omega
    clear hB h8 f8 hcur
    go_wp2_with ((with_reducible refine wpList_clear _ g (off + k * 7) (L.length - k) (c - k) 7 64 cur 42 60 Lt.zero.val zs Hzs.out HB.out hcur2 Try.underlying60 infoLt rfl Hz1.out rfl _ rfl rfl ?_))
    go_wp2_with fail
    go_ret
    refine ⟨rfl, H8.out.far ?_ ?_, Fr.setCells g _ _ _ (⟨F8.out.os, F8.out.tape, F8.out.output, F8.out.size, F8.out.block⟩ : Fr (fun j => j = g) w w8) (.inl rfl)⟩
    · rw [List.length_append, Hk2.out]; exact Nat.le_refl _
    · rw [Hzl.out]; omega

set_option maxHeartbeats 4000000 in
theorem Blk.put7 {w : World} {g : Nat} {t : TypeId} {a b c d e f k : Value} (h : Blk w g t #[a, b, c, d, e, f, k]) (x0 x1 x2 x3 x4 x5 x6 : Value) :
    Blk (((((((w.setCell ⟨g, 0, none⟩ x0).setCell ⟨g, 1, none⟩ x1).setCell ⟨g, 2, none⟩ x2).setCell ⟨g, 3, none⟩ x3).setCell ⟨g, 4, none⟩ x4).setCell ⟨g, 5, none⟩ x5).setCell ⟨g, 6, none⟩ x6) g t #[x0, x1, x2, x3, x4, x5, x6] :=
  ((((((h.put 0 x0).put 1 x1).put 2 x2).put 3 x3).put 4 x4).put 5 x5).put 6 x6
theorem Fr.put7 {S : Nat → Prop} {w w0 : World} (g : Nat) (h : Fr S w0 w) (hg : S g ∨ w0.heap.size ≤ g) (x0 x1 x2 x3 x4 x5 x6 : Value) :
    Fr S w0 (((((((w.setCell ⟨g, 0, none⟩ x0).setCell ⟨g, 1, none⟩ x1).setCell ⟨g, 2, none⟩ x2).setCell ⟨g, 3, none⟩ x3).setCell ⟨g, 4, none⟩ x4).setCell ⟨g, 5, none⟩ x5).setCell ⟨g, 6, none⟩ x6) :=
  ((((((h.setCell (p := ⟨g, 0, none⟩) hg x0).setCell (p := ⟨g, 1, none⟩) hg x1).setCell (p := ⟨g, 2, none⟩) hg x2).setCell (p := ⟨g, 3, none⟩) hg x3).setCell (p := ⟨g, 4, none⟩) hg x4).setCell (p := ⟨g, 5, none⟩) hg x5).setCell (p := ⟨g, 6, none⟩) hg x6
def giveE (L : List Lt) (i : Int) : Int := if inB i L.length = true then 0 else 1
def giveL (L : List Lt) (i : Int) : List Lt := if inB i L.length = true then Lt.out L i.toNat else L
def giveY (L : List Lt) (i : Int) : Lt := if inB i L.length = true then L.getD i.toNat Lt.zero else Lt.zero
theorem give_new {base s bm nc n : Nat} {w X w8 : World} {v v8 : Value} {L : List Lt} {C : Int → Int → Bool} (hO : MailO base w s bm v L nc C) (hX : Below w.heap.size w X) (h8 : Ow Lt.cells 7 base 42 w8 v8 (Lt.out L n))
    (hn : n < L.length) (f8 : Fr (fun k => some k = foot v) X w8) (o8 : foot v8 = foot v) : MailO base (w8.setCell ⟨s, 0, none⟩ v8) s bm v8 (Lt.out L n) nc C ∧ Fr (FM s bm v) w (w8.setCell ⟨s, 0, none⟩ v8) := by
  have hF : Fr (fun k => k = s) w8 (w8.setCell ⟨s, 0, none⟩ v8) := (Fr.refl (fun k => k = s) _).setCell (p := ⟨s, 0, none⟩) (.inl rfl) _
  have hlo := Lt.out_length hn
  have hls := hO.lens
  refine ⟨⟨((hO.blk.belowS hX).fr f8 (fun e => hO.off e.symm)).put 0 v8, h8.fr hF (fun g hg e => hO.off (by rw [← o8, hg, e])), by rw [o8]; exact hO.off, ((hO.cut.belowS hX).fr f8 (fun e => hO.offm e.symm)).fr hF hO.ne.symm, fun z hz => ?_, by omega, hO.lbs, hO.lbb⟩, ?_⟩
  · rcases List.mem_append.1 hz with hz | hz
    · exact hO.good z (List.mem_of_mem_take hz)
    · exact hO.good z (List.mem_of_mem_drop hz)
  · exact (((Fr.ofB hX).step (f8.mono (fun i _ h => .inr (.inr h)))).step (hF.mono (fun i _ h => .inl h)))
theorem MRes.more {base s bm nc : Nat} {v v8 : Value} {w w5 w6 : World} {L' : List Lt} {C : Int → Int → Bool} {ret : Value} (hM : MailO base w5 s bm v8 L' nc C) (hF : Fr (FM s bm v) w w5) (o8 : foot v8 = foot v ∨ ∃ g, foot v8 = some g ∧ w.heap.size ≤ g) {g : Nat} (hF6 : Fr (fun k => k = g) w5 w6) (hg : w.heap.size ≤ g) (hng : ¬ FM s bm v8 g) :
    MRes base s bm v w ret L' nc C (.returned ret) w6 :=
  ⟨v8, rfl, hM.fr hF6 (fun i hi e => hng (by rw [← e]; exact hi)), hF.trans hF6 (fun i hi => .inr (by rw [hi]; exact hg)), o8⟩
end Go.Proofs.Ytlcbdhblaamekaa
namespace Go.Proofs.Ytlcbdhblaamekaa
open Go.RowKit
open Go.ChangeShapes Go.WideShapes Go.ChangeAt

set_option maxHeartbeats 1000000 in
set_option maxRecDepth 100000 in
theorem mgive_any (base s bm nc : Nat) (i : Int) (v : Value) (L : List Lt) (C : Int → Int → Bool) (w : World) (hO : MailO base w s bm v L nc C) :
    Calls Try.prog 13 #[.pointer (some ⟨s, 0, none⟩), .int .i64 i] w (MRes base s bm v w (.tuple #[(giveY L i).val, errV (giveE L i)]) (giveL L i) nc C) := by
  have hs := hO.blk.lt
  have hIs := hid (fun W (hW : Below w.heap.size w W) => mis_any base s bm nc i v L C W (hO.belowS hW))
  have HO := hid hO
  rcases hk : inB i L.length with _ | _
  · rw [giveY, giveE, giveL, if_neg (by rw [hk]; decide), if_neg (by rw [hk]; decide), if_neg (by rw [hk]; decide), errV_ne (show (1 : Int) ≠ 0 by decide)]
    show Calls _ _ _ _ (MRes base s bm v w (.tuple #[.agg #[.int .i64 0, .int .i64 0, .int .i64 0, .int .i64 0, .int .i64 0, .bool false, .string ⟨#[]⟩], .iface 53 (.int .i64 1)]) L nc C)
    have Hk := hid hk
    have hB0 := hid (Blk.new w 42 #[.int .i64 0, .int .i64 0, .int .i64 0, .int .i64 0, .int .i64 0, .bool false, .string ⟨#[]⟩])
    clear hk hO
    go_enter Try.func13, Try.ntmps13
    go_wp2_with fail
    refine (hIs.out _ (by (repeat (first | with_reducible exact Below.refl _ _ | with_reducible assumption | (with_reducible refine Below.drew ?_) | (with_reducible refine Below.manyDrew ?_ _) | ((with_reducible refine Below.alloc ?_ ?_ _); rotate_left; (focus (first | omega | (dsimp only; omega) | (simp; done) | (simp; omega)))) | ((with_reducible refine Below.setCell ?_ ?_ _); rotate_left; (focus (first | omega | (dsimp only; omega) | (simp; done) | (simp; omega)))) | ((with_reducible refine Below.step ?_ (by assumption) ?_); rotate_left; (focus (first | omega | (dsimp only; omega) | (simp; done) | (simp; omega)))))))).mono ?_
    rw [Hk.out]
    rintro e w' ⟨rfl, rfl⟩
    have z0 := hB0.out.frozen 0
    have z1 := hB0.out.frozen 1
    have z2 := hB0.out.frozen 2
    have z3 := hB0.out.frozen 3
    have z4 := hB0.out.frozen 4
    have z5 := hB0.out.frozen 5
    have z6 := hB0.out.frozen 6
    go_wp2_with fail
    refine bodyPost_ret (v := .tuple #[.agg #[.int .i64 0, .int .i64 0, .int .i64 0, .int .i64 0, .int .i64 0, .bool false, .string ⟨#[]⟩], .iface 53 (.int .i64 1)]) ?_ rfl ?_
    · exact results_box Try.results13 rfl hB0.out Try.underlying42 rfl (by kernel_rfl)
    · exact MRes.no HO.out (by (repeat (first | with_reducible exact Below.refl _ _ | with_reducible assumption | (with_reducible refine Below.drew ?_) | (with_reducible refine Below.manyDrew ?_ _) | ((with_reducible refine Below.alloc ?_ ?_ _); rotate_left; (focus (first | omega | (dsimp only; omega) | (simp; done) | (simp; omega)))) | ((with_reducible refine Below.setCell ?_ ?_ _); rotate_left; (focus (first | omega | (dsimp only; omega) | (simp; done) | (simp; omega)))) | ((with_reducible refine Below.step ?_ (by assumption) ?_); rotate_left; (focus (first | omega | (dsimp only; omega) | (simp; done) | (simp; omega)))))))
  · rw [giveY, giveE, giveL, if_pos hk, if_pos hk, if_pos hk, errV_zero]
    have Hk := hid hk
    obtain ⟨k0, k1⟩ := inB_true.1 hk
    obtain ⟨n, rfl⟩ := Int.eq_ofNat_of_zero_le k0
    have hn : n < L.length := by omega
    rw [Int.toNat_natCast]
    obtain ⟨g, off, c, hv, hlc, hcm, hbg, hgl, hfo, hcells, _⟩ := hO.own.get (by omega)
    have hway := hO.way
    rw [hv] at hway
    have hls := hO.lens
    have hf0 := hO.blk.frozen 0
    have x0' : w.cell? ⟨g, off + n * 7, none⟩ = some (.int .i64 L[n].frm) := hcells n hn 0 (by decide)
    have x1' : w.cell? ⟨g, off + n * 7 + 1, none⟩ = some (.int .i64 L[n].dst) := hcells n hn 1 (by decide)
    have x2' : w.cell? ⟨g, off + n * 7 + 2, none⟩ = some (.int .i64 L[n].key) := hcells n hn 2 (by decide)
    have x3' : w.cell? ⟨g, off + n * 7 + 3, none⟩ = some (.int .i64 L[n].ver) := hcells n hn 3 (by decide)
    have x4' : w.cell? ⟨g, off + n * 7 + 4, none⟩ = some (.int .i64 L[n].asof) := hcells n hn 4 (by decide)
    have x5' : w.cell? ⟨g, off + n * 7 + 5, none⟩ = some (.bool L[n].gone) := hcells n hn 5 (by decide)
    have x6' : w.cell? ⟨g, off + n * 7 + 6, none⟩ = some (.string L[n].text) := hcells n hn 6 (by decide)
    rw [getD_get _ hn]
    generalize hy : L[n] = y at *
    obtain ⟨y0, y1, y2, y3, y4, y5, y6⟩ := y
    simp only at x0' x1' x2' x3' x4' x5' x6'
    show Calls _ _ _ _ (MRes base s bm v w (.tuple #[.agg #[.int .i64 y0, .int .i64 y1, .int .i64 y2, .int .i64 y3, .int .i64 y4, .bool y5, .string y6], .nilIface]) (Lt.out L n) nc C)
    obtain ⟨k, hkk⟩ : ∃ k, k + 1 = L.length := ⟨L.length - 1, by omega⟩
    have hOs : Hid (Ow Lt.cells 7 base 42 w (.slice (some ⟨g, off, none⟩) L.length c) L) := hid (by rw [← hv]; exact hO.own)
    have HDel := hid (fun W (hW : Below w.heap.size w W) => (ldel_any base g off c n k L W (hOs.out.belowS hW) hn hkk (by omega) hO.good).mono fun e w' h => (⟨h.1, h.2.1, h.2.2, hW⟩ : e = _ ∧ _ ∧ _ ∧ Below w.heap.size w W))
    have Hv := hid hv
    have Hfo := hid hfo
    have Hgs := hid (show g ≠ s from fun e => hO.off (by rw [hfo, e]))
    have hnl : (n : Int) < (L.length : Int) := by omega
    have hn0 : (0 : Int) ≤ (n : Int) := by omega
    have hmx : c ≤ 9223372036854775807 := hcm
    clear hk hO hkk hv hfo hcells hy k0 k1 hcm
    go_enter Try.func13, Try.ntmps13
    go_wp2_with fail
    refine (hIs.out _ (by (repeat (first | with_reducible exact Below.refl _ _ | with_reducible assumption | (with_reducible refine Below.drew ?_) | (with_reducible refine Below.manyDrew ?_ _) | ((with_reducible refine Below.alloc ?_ ?_ _); rotate_left; (focus (first | omega | (dsimp only; omega) | (simp; done) | (simp; omega)))) | ((with_reducible refine Below.setCell ?_ ?_ _); rotate_left; (focus (first | omega | (dsimp only; omega) | (simp; done) | (simp; omega)))) | ((with_reducible refine Below.step ?_ (by assumption) ?_); rotate_left; (focus (first | omega | (dsimp only; omega) | (simp; done) | (simp; omega)))))))).mono ?_
    rw [Hk.out]
    rintro e w' ⟨rfl, rfl⟩
    have e0 : (w.alloc (.cells #[.int .i64 0, .int .i64 0, .int .i64 0, .int .i64 0, .int .i64 0, .bool false, .string ⟨#[]⟩] 42)).cell? ⟨s, 0, none⟩ = some (.slice (some ⟨g, off, none⟩) L.length c) := (World.cell?_alloc_lt w _ ⟨s, 0, none⟩ hs).trans hway
    go_wp2_with fail
    refine (HDel.out _ (by (repeat (first | with_reducible exact Below.refl _ _ | with_reducible assumption | (with_reducible refine Below.drew ?_) | (with_reducible refine Below.manyDrew ?_ _) | ((with_reducible refine Below.alloc ?_ ?_ _); rotate_left; (focus (first | omega | (dsimp only; omega) | (simp; done) | (simp; omega)))) | ((with_reducible refine Below.setCell ?_ ?_ _); rotate_left; (focus (first | omega | (dsimp only; omega) | (simp; done) | (simp; omega)))) | ((with_reducible refine Below.step ?_ (by assumption) ?_); rotate_left; (focus (first | omega | (dsimp only; omega) | (simp; done) | (simp; omega)))))))).mono ?_
    rintro e w4 ⟨rfl, h4, f4, hX3⟩
    have hz3 := hX3.size
    have hgs := Hgs.out
    have hs3 := Nat.lt_of_lt_of_le hs hz3
    have a4 : w4.cell? ⟨s, 0, none⟩ = some (.slice (some ⟨g, off, none⟩) L.length c) := (f4.cell (p := ⟨s, 0, none⟩) hs3 (fun e => hgs e.symm)).trans ((hX3.cell (p := ⟨s, 0, none⟩) hs).trans hway)
    have b4 : w4.frozen? ⟨s, 0, none⟩ = false := (f4.frozen (p := ⟨s, 0, none⟩) hs3 (fun e => hgs e.symm)).trans ((hX3.frozen (p := ⟨s, 0, none⟩) hs).trans hf0)
    have hB1' : Blk w4 (w.heap.size + 1) 42 #[.int .i64 y0, .int .i64 y1, .int .i64 y2, .int .i64 y3, .int .i64 y4, .bool y5, .string y6] := (Blk.new_at (by simp)).fr f4 (by omega)
    have hB0' : Blk w4 w.heap.size 42 #[.int .i64 0, .int .i64 0, .int .i64 0, .int .i64 0, .int .i64 0, .bool false, .string ⟨#[]⟩] := ((Blk.new w _ _).alloc _).fr f4 (by omega)
    have hfin := give_new HO.out hX3 (n := n) h4 hn (f4.mono (fun i _ h => by show some i = _; rw [h]; exact Hfo.out.symm)) (by rw [Hv.out]; exact foot_slice _ _ _ _)
    have Hfin := hid hfin
    have d0 := hB1'.cell 0
    have d1 := hB1'.cell 1
    have d2 := hB1'.cell 2
    have d3 := hB1'.cell 3
    have d4 := hB1'.cell 4
    have d5 := hB1'.cell 5
    have d6 := hB1'.cell 6
    have c0 := hB0'.cell 0
    have c1 := hB0'.cell 1
    have c2 := hB0'.cell 2
    have c3 := hB0'.cell 3
    have c4 := hB0'.cell 4
    have c5 := hB0'.cell 5
    have c6 := hB0'.cell 6
    have z0 := hB0'.frozen 0
    have z1 := hB0'.frozen 1
    have z2 := hB0'.frozen 2
    have z3 := hB0'.frozen 3
    have z4 := hB0'.frozen 4
    have z5 := hB0'.frozen 5
    have z6 := hB0'.frozen 6
    simp at d0 d1 d2 d3 d4 d5 d6 c0 c1 c2 c3 c4 c5 c6
    have HB0' := hid hB0'
    clear h4 f4 hX3 hB0' hB1' hfin e0 hway hf0
    have hs0 : s ≠ w.heap.size := by omega
    have hs1 : s ≠ w.heap.size + 1 := by omega
    go_wp2_with fail
    refine bodyPost_ret (v := .tuple #[.agg #[.int .i64 y0, .int .i64 y1, .int .i64 y2, .int .i64 y3, .int .i64 y4, .bool y5, .string y6], .nilIface]) ?_ rfl ?_
    · exact results_box Try.results13 rfl ((HB0'.out.far (p := ⟨s, 0, none⟩) (fun e => hs0 e.symm) _).put7 _ _ _ _ _ _ _) Try.underlying42 rfl (by kernel_rfl)
    · exact MRes.more (g := w.heap.size) Hfin.out.1 Hfin.out.2 (.inl (by rw [Hv.out]; exact foot_slice _ _ _ _)) (Fr.put7 w.heap.size (Fr.refl (fun k => k = w.heap.size) _) (.inl rfl) _ _ _ _ _ _ _) (Nat.le_refl _) (fun h => by have h1 := HO.out.fml (i := w.heap.size) (by rcases h with h | h | h; exact .inl h; exact .inr (.inl h); exact .inr (.inr (by rw [h, Hv.out]; exact foot_slice _ _ _ _))); omega)
end Go.Proofs.Ytlcbdhblaamekaa
namespace Go.Proofs.Ytlcbdhblaamekaa
open Go.RowKit
open Go.ChangeShapes Go.WideShapes Go.ChangeAt

set_option maxHeartbeats 1000000 in
set_option maxRecDepth 100000 in
theorem mlose_any (base s bm nc : Nat) (i : Int) (v : Value) (L : List Lt) (C : Int → Int → Bool) (w : World) (hO : MailO base w s bm v L nc C) :
    Calls Try.prog 11 #[.pointer (some ⟨s, 0, none⟩), .int .i64 i] w (MRes base s bm v w (errV (giveE L i)) (giveL L i) nc C) := by
  have HG := hid (mgive_any base s bm nc i v L C w hO)
  have hfm := fun i (h : FM s bm v i) => hO.fml h
  have Hfm := hid hfm
  generalize giveY L i = y at *
  generalize errV (giveE L i) = er at *
  generalize giveL L i = L' at *
  obtain ⟨y0, y1, y2, y3, y4, y5, y6⟩ := y
  clear hO hfm
  go_enter Try.func11, Try.ntmps11
  go_wp2_with fail
  refine HG.out.mono ?_
  unfold Lt.val
  rintro e w1 ⟨v1, rfl, hM, hF, o1⟩
  have hz1 := hF.size
  have HM := hid hM
  have HF := hid hF
  have hlt1 := hM.blk.lt
  clear hM hF
  go_wp2_with fail
  go_ret
  exact MRes.more (g := w1.heap.size) HM.out HF.out o1 ((Fr.refl (fun k => k = w1.heap.size) w1).alloc _) hz1 (fun h => by have := (HM.out.fml h).2; omega)
def twiceE (L : List Lt) (i : Int) : Int := if inB i L.length = true then putE L else 1
def twiceL (L : List Lt) (i : Int) : List Lt := if inB i L.length = true then putL L (L.getD i.toNat Lt.zero) else L
set_option maxHeartbeats 1000000 in
set_option maxRecDepth 100000 in
theorem mtwice_any (base s bm nc : Nat) (i : Int) (v : Value) (L : List Lt) (C : Int → Int → Bool) (w : World) (hO : MailO base w s bm v L nc C) :
    Calls Try.prog 12 #[.pointer (some ⟨s, 0, none⟩), .int .i64 i] w (MRes base s bm v w (errV (twiceE L i)) (twiceL L i) nc C) := by
  have hIs := hid (mis_any base s bm nc i v L C w hO)
  have HO := hid hO
  rcases hk : inB i L.length with _ | _
  · rw [twiceE, twiceL, if_neg (by rw [hk]; decide), if_neg (by rw [hk]; decide), errV_ne (show (1 : Int) ≠ 0 by decide)]
    have Hk := hid hk
    clear hk hO
    go_enter Try.func12, Try.ntmps12
    go_wp2_with fail
    refine hIs.out.mono ?_
    rw [Hk.out]
    rintro e w' ⟨rfl, rfl⟩
    go_wp2_with fail
    go_ret
    exact MRes.no HO.out (Below.refl _ _)
  · rw [twiceE, twiceL, if_pos hk, if_pos hk]
    have Hk := hid hk
    obtain ⟨k0, k1⟩ := inB_true.1 hk
    obtain ⟨n, rfl⟩ := Int.eq_ofNat_of_zero_le k0
    have hn : n < L.length := by omega
    rw [Int.toNat_natCast]
    obtain ⟨g, off, c, hv, hlc, hcm, hbg, hgl, hfo, hcells, _⟩ := hO.own.get (by omega)
    have hway := hO.way
    rw [hv] at hway
    have hls := hO.lens
    have x0' : w.cell? ⟨g, off + n * 7, none⟩ = some (.int .i64 L[n].frm) := hcells n hn 0 (by decide)
    have x1' : w.cell? ⟨g, off + n * 7 + 1, none⟩ = some (.int .i64 L[n].dst) := hcells n hn 1 (by decide)
    have x2' : w.cell? ⟨g, off + n * 7 + 2, none⟩ = some (.int .i64 L[n].key) := hcells n hn 2 (by decide)
    have x3' : w.cell? ⟨g, off + n * 7 + 3, none⟩ = some (.int .i64 L[n].ver) := hcells n hn 3 (by decide)
    have x4' : w.cell? ⟨g, off + n * 7 + 4, none⟩ = some (.int .i64 L[n].asof) := hcells n hn 4 (by decide)
    have x5' : w.cell? ⟨g, off + n * 7 + 5, none⟩ = some (.bool L[n].gone) := hcells n hn 5 (by decide)
    have x6' : w.cell? ⟨g, off + n * 7 + 6, none⟩ = some (.string L[n].text) := hcells n hn 6 (by decide)
    have hyg := hO.good _ (List.getElem_mem hn)
    rw [getD_get _ hn]
    generalize L[n] = y at *
    obtain ⟨y0, y1, y2, y3, y4, y5, y6⟩ := y
    simp only at x0' x1' x2' x3' x4' x5' x6'
    have HP := hid (mput_any base s bm nc y0 y1 y2 y3 y4 y5 y6 hyg v L C w hO)
    generalize errV (putE L) = er at *
    generalize putL L _ = L' at *
    have hnl : (n : Int) < (L.length : Int) := by omega
    have hn0 : (0 : Int) ≤ (n : Int) := by omega
    clear hk hO hv hfo hcells k0 k1 hyg
    go_enter Try.func12, Try.ntmps12
    go_wp2_with fail
    refine hIs.out.mono ?_
    rw [Hk.out]
    rintro e w' ⟨rfl, rfl⟩
    go_wp2_with fail
    refine HP.out.mono ?_
    rintro e w1 ⟨v1, rfl, h1⟩
    have H1 := hid h1
    clear h1
    go_wp2_with fail
    go_ret
    exact ⟨v1, rfl, H1.out⟩
end Go.Proofs.Ytlcbdhblaamekaa
