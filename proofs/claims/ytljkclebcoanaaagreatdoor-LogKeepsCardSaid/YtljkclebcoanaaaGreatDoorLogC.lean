/-
  THE CONTRACT of log's Crash. CONDITIONS: the library's tables read as they are laid (TvB).
-/
import Derived.Test.YtljkclebcoanaaaGreatDoorLogB
namespace Go.Proofs.YtljkclebcoanaaaGreatDoor
open Go.RowKit
open Go.ChangeShapes Go.WideShapes Go.ChangeAt

set_option maxHeartbeats 4000000 in
set_option maxRecDepth 100000 in
theorem lcrash_any {base l s : Nat} {vs : List Value} {G : LG} (hG : G.ok) (keep : Int) (hk : -9223372036854775808 ≤ keep ∧ keep ≤ 9223372036854775807) (w : World) (h : LogP base w l s vs G G.D) (hT : TvB base w) :
    Calls Tryz.prog 11 #[.pointer (some ⟨l, 0, none⟩), .int .i64 keep] w fun e w' => (∃ v, e = .returned v) ∧ LRes base l s vs w (G.crash keep) w' := by
  have c1 : w.cell? ⟨l, 1, none⟩ = some (.string (mkB G.bs)) := h.blk.cell 1
  have c2 : w.cell? ⟨l, 2, none⟩ = some (.int .i64 G.safe) := h.blk.cell 2
  have hl := h.blk.lt
  have hlen := hG.len
  have hsafe := hG.safe
  have hz := mkB_size G.bs
  obtain ⟨M, hM⟩ : ∃ M : Nat, max 0 (min keep ((G.bs.length : Int) - (G.safe : Int))) = (M : Int) := ⟨(max 0 (min keep ((G.bs.length : Int) - (G.safe : Int)))).toNat, by omega⟩
  have hhi : G.high keep = G.safe + M := by unfold LG.high; rw [hM, Int.toNat_natCast]
  have hMle : G.safe + M ≤ G.bs.length := by rw [← hhi]; exact LG.high_le hG keep
  have w1 : wrap64 ((G.bs.length : Int) - (G.safe : Int)) = (G.bs.length : Int) - (G.safe : Int) := by unfold wrap64; omega
  have w2 : wrap64 ((G.safe : Int) + (M : Int)) = ((G.safe + M : Nat) : Int) := by unfold wrap64; omega
  have hx1 : (mkB G.bs).extract 0 (G.safe + M) = mkB (G.bs.take (G.high keep)) := by rw [hhi]; exact extract_take _ _
  obtain ⟨q, hq, -, hli⟩ := LG.cut hG keep
  have hx2 : (mkB (G.bs.take (G.high keep))).extract 0 (G.crash keep).bs.length = mkB (G.crash keep).bs := by
    rw [extract_take, hq, List.take_left']
    rfl
  have hle : (G.crash keep).bs.length ≤ (G.bs.take (G.high keep)).length := by rw [hq, List.length_append]; omega
  have hzh := mkB_size (G.bs.take (G.high keep))
  have hz2 := mkB_size (G.crash keep).bs
  have hle2 : (G.bs.take (G.high keep)).length ≤ 57000 := Nat.le_trans (List.length_take_le' _ _) hlen
  have hok := LG.crash_ok hG keep
  have HRd := hid (fun W (hW : Ta W) => redo_any (G.crash keep).D hok.val hok.many W hW)
  rw [show bytesL (G.crash keep).D = (G.crash keep).bs from rfl] at HRd
  obtain ⟨li, hLI⟩ : ∃ li, Lib.lastIndexByte (mkB (G.bs.take (G.high keep))) 10 = li := ⟨_, rfl⟩
  have hli' : li + 1 = ((G.crash keep).bs.length : Int) := by rw [← hLI]; exact hli
  have hs62 : (mkB (G.bs.take (G.high keep))).size < 4611686018427387904 := by omega
  have hone : (⟨#[10]⟩ : ByteArray).size = 1 := rfl
  have HLi : Hid (∀ W, Calls Tryz.prog 26 #[.string (mkB (G.bs.take (G.high keep))), .string ⟨#[10]⟩] W fun e w' => e = .returned (.int .i64 li) ∧ w' = W) := hid (fun W => by
    rw [← hLI]
    exact Tryz.strings_LastIndex_one (mkB (G.bs.take (G.high keep))) ⟨#[10]⟩ hone hs62 W)
  have HT := hid (fun W (hW : Below base w W) => (hT W hW).ta)
  have Hb := hid (show base ≤ l from h.base)
  have Hl := hid (fun (w2 w3 : World) (s' : Nat) (vs' : List Value) (hb : Below w.heap.size w w2) (hO : StoreO w2.heap.size w3 s' vs' (lsOf (G.crash keep).D) (G.crash keep).D.length) (hP : StP (lsOf (G.crash keep).D) (G.crash keep).D.length) (hb3 : Below w2.heap.size w2 w3) =>
    (show LRes base l s vs w (G.crash keep) (((((w3.setCell ⟨l, 0, none⟩ (.pointer (some ⟨s', 0, none⟩))).setCell ⟨l, 1, none⟩ (.string (mkB (G.crash keep).bs))).setCell ⟨l, 2, none⟩ (.int .i64 ((G.crash keep).bs.length : Nat))).setCell ⟨l, 3, none⟩ (.int .i64 (-1))).setCell ⟨l, 4, none⟩ (.bool false)) ∧
      Blk w3 l 54 (G.cells s) from by
      have hz1 := hb.size
      have hz3 := hb3.size
      have hbb := hb.trans (hb3.mono hz1)
      have hB3 := h.blk.belowS hbb
      have hfs : ∀ i, FS s' vs' i → w2.heap.size ≤ i := fun i hi => (hO.fsr hi).1
      have hne : ¬ FS s' vs' l := fun h => by have := hfs l h; omega
      have hF4 : Fr (fun i => i = l) w3 (((((w3.setCell ⟨l, 0, none⟩ (.pointer (some ⟨s', 0, none⟩))).setCell ⟨l, 1, none⟩ (.string (mkB (G.crash keep).bs))).setCell ⟨l, 2, none⟩ (.int .i64 ((G.crash keep).bs.length : Nat))).setCell ⟨l, 3, none⟩ (.int .i64 (-1))).setCell ⟨l, 4, none⟩ (.bool false)) := (((((Fr.refl _ _).own1 _ _).own1 _ _).own1 _ _).own1 _ _).own1 _ _
      refine ⟨⟨s', vs', ⟨hB3.put5 _ _ _ _ _, (hO.mono (by have := Hb.out; omega)).fr hF4 (fun e => hne (e ▸ .inl rfl)) (fun k hk _ hg e => hne (e ▸ .inr ⟨k, hk, hg.symm⟩)), hP, hne, Hb.out⟩, ?_, fun i hi => ?_⟩, hB3⟩
      · exact (Fr.ofB hbb).step (hF4.mono (fun i _ hi => .inl hi))
      · rcases hi with hi | hi
        · exact .inl (.inl hi)
        · exact .inr (by have := hfs i hi; omega)))
  have hw3 : wrap64 (li + 1) = ((G.crash keep).bs.length : Int) := by rw [hli']; unfold wrap64; omega
  clear h hT hok hq hhi hli hLI hli' hlen hs62 hone hG
  generalize G.crash keep = C at *
  generalize (G.bs.take (G.high keep)).length = nh at *
  generalize mkB (G.bs.take (G.high keep)) = BH at *
  generalize hBC : mkB C.bs = BC at *
  have hcl : ((C.bs.length : Nat) : Int) ≤ (nh : Int) := by omega
  generalize C.bs.length = nc at *
  generalize hB1 : mkB G.bs = B1 at *
  clear hBC hB1
  go_enter Tryz.func11, Tryz.ntmps11
  go_wp2_with fail
  go_quiet (fail)
  rw [hx1]
  have hbq : Below w.heap.size w (w.drewN nq) := Below.manyDrew (Below.refl _ _) nq
  have hz2' := hbq.size
  generalize w.drewN nq = wA at *
  clear c1 c2 hM w1 w2
  go_wp2_with fail
  refine (HLi.out wA).mono ?_
  rintro e w2 ⟨rfl, rfl⟩
  go_wp2_with fail
  have hlb := Hb.out
  refine (HRd.out w2 (HT.out w2 (hbq.mono (by omega)))).mono ?_
  rintro e w3 ⟨s', vs', rfl, hO3, hP3, hb3⟩
  obtain ⟨Hres, hB3⟩ := Hl.out w2 w3 s' vs' hbq hO3 hP3 hb3
  have Hres := hid Hres
  have k0 := hB3.cell 0
  have k1 := hB3.cell 1
  have k2 := hB3.cell 2
  have k3 := hB3.cell 3
  have k4 := hB3.cell 4
  have f0 := hB3.frozen 0
  have f1 := hB3.frozen 1
  have f2 := hB3.frozen 2
  have f3 := hB3.frozen 3
  have f4 := hB3.frozen 4
  have hl3 := hB3.lt
  change w3.cell? _ = some (.pointer (some ⟨s, 0, none⟩)) at k0
  change w3.cell? _ = some (.string (mkB G.bs)) at k1
  change w3.cell? _ = some (.int .i64 G.safe) at k2
  change w3.cell? _ = some (.int .i64 G.left) at k3
  change w3.cell? _ = some (.bool G.stopped) at k4
  clear hO3 hP3 hb3 Hl HRd HLi HT hB3
  go_wp2_with fail
  go_end0
  exact ⟨⟨_, rfl⟩, Hres.out⟩
end Go.Proofs.YtljkclebcoanaaaGreatDoor
