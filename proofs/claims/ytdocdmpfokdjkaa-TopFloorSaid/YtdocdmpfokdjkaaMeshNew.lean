/-
  CONTRACT of mesh.New. CONDITIONS: none.
-/
import Derived.Test.YtdocdmpfokdjkaaMesh
import Derived.Laws.MakeOwn
namespace Go.Proofs.Ytdocdmpfokdjkaa
open Go.RowKit
open Go.ChangeShapes Go.WideShapes Go.ChangeAt

/-- caches that know nothing -/
def noneC (N : Nat) : List (SlV E) := List.replicate N ⟨none, 0, []⟩
theorem noneC_len (N : Nat) : (noneC N).length = N := List.length_replicate
theorem OwnC.none (base : Nat) (w : World) : OwnC base w ⟨none, 0, []⟩ := ⟨Ow.nil _ _ _ _ _, fun y hy => by cases hy⟩
theorem MeshO.mk0 {base : Nat} {X : World} {s g m N : Nat} (hN : N ≤ 6) (hst : StoreO base X s (List.replicate 8 nilS) (List.replicate 8 []) 0) (hrow : Blk X g 52 ((noneC N).map SlV.val).toArray) (hg : base ≤ g) (hm : m = X.heap.size) (hb : base ≤ X.heap.size) :
    MeshO base (X.alloc (.cells #[.pointer (some ⟨s, 0, none⟩), .slice (some ⟨g, 0, none⟩) N N] 75)) m s g (List.replicate 8 nilS) [] (noneC N) := by
  subst hm
  have hl := noneC_len N
  refine ⟨?_, hst.belowS ((Below.refl _ _).alloc (Nat.le_refl _) _), StP.new, hrow.alloc _, fun c hc => ?_, fun c hc => ?_, Deeds.nil, by rw [hl]; exact hN, hb, hg⟩
  · rw [hl]; exact Blk.new _ _ _
  · rw [(List.mem_replicate.1 hc).2]; exact OwnC.none _ _
  · rw [(List.mem_replicate.1 hc).2]; exact CacheD.nil _
/-- a mesh just made -/
def MNewR (w : World) (N : Nat) (v : Value) (w' : World) : Prop := ∃ m s g, v = .pointer (some ⟨m, 0, none⟩) ∧ MeshO w.heap.size w' m s g (List.replicate 8 nilS) [] (noneC N) ∧ Below w.heap.size w w'
theorem MNewR.one {w : World} {N s : Nat} {wj X : World} (hN : N ≤ 6) (hX : Below w.heap.size w X) (hO : StoreO X.heap.size wj s (List.replicate 8 nilS) (List.replicate 8 []) 0) (hb : Below X.heap.size X wj) {g m : Nat} (hg : g = wj.heap.size) (hm : m = wj.heap.size + 1) (cs : Array Value) (hcs : cs = ((noneC N).map SlV.val).toArray) :
    MNewR w N (.pointer (some ⟨m, 0, none⟩)) ((wj.alloc (.cells cs 52)).alloc (.cells #[.pointer (some ⟨s, 0, none⟩), .slice (some ⟨g, 0, none⟩) N N] 75)) := by
  subst hcs hg hm
  have hb2 := Below.step hX hb hX.size
  have hz := hb2.size
  exact ⟨_, s, _, rfl, MeshO.mk0 hN ((hO.monoB hX.size).belowS ((Below.refl _ _).alloc (Nat.le_refl _) _)) (Blk.new _ _ _) hz (by simp) (by simp; omega), (hb2.alloc hz _).alloc (by simp; omega) _⟩
theorem MNewR.two {w : World} {N s g : Nat} {wj X : World} {cs : Array Value} (hN : N ≤ 6) (hX : Below w.heap.size w X) (hcs : cs = ((noneC N).map SlV.val).toArray) (hrow : Blk X g 52 cs) {s0 : Nat} (hO : StoreO X.heap.size wj s0 (List.replicate 8 nilS) (List.replicate 8 []) 0) (hs0 : s = s0) (hb : Below X.heap.size X wj) (hgw : w.heap.size ≤ g) {m : Nat} (hm : m = wj.heap.size) :
    MNewR w N (.pointer (some ⟨m, 0, none⟩)) (wj.alloc (.cells #[.pointer (some ⟨s, 0, none⟩), .slice (some ⟨g, 0, none⟩) N N] 75)) := by
  subst hcs hm hs0
  have hb2 := Below.step hX hb hX.size
  have hz := hb2.size
  exact ⟨_, s, g, rfl, MeshO.mk0 hN (hO.monoB hX.size) (hrow.belowS hb) hgw rfl hz, hb2.alloc hz _⟩

theorem made_none {N : Nat} (h6 : N ≤ 6) : madeCells #[.slice none 0 0] N = ((noneC N).map SlV.val).toArray := by
  rcases (show N = 0 ∨ N = 1 ∨ N = 2 ∨ N = 3 ∨ N = 4 ∨ N = 5 ∨ N = 6 by omega) with rfl | rfl | rfl | rfl | rfl | rfl | rfl <;> kernel_rfl
set_option maxHeartbeats 4000000 in
theorem mnew_ok (N : Nat) (w : World) (h1 : 1 ≤ N) (h6 : N ≤ 6) :
    Calls Try.prog 10 #[.int .i64 N] w fun e w' => ∃ v, e = .returned (.tuple #[v, .nilIface]) ∧ MNewR w N v w' := by
  obtain ⟨i0, hi0, hz0, hzs, hzb⟩ := info_parts infoSE
  have hmk : ∀ W : World, (Instr.makeSlice 57 (.int .i64 (N : Int)) (.int .i64 (N : Int))).run Try.prog W = .ok (.slice (some ⟨W.heap.size, 0, none⟩) N N) (W.alloc (.cells (madeCells #[.slice none 0 0] N) 52)) := fun W => by
    have := run_make (P := Try.prog) W 57 52 i0 (.slice none 0 0) Try.underlying57 hi0 hz0 .i64 .i64 (N : Int) (N : Int) (by omega) (by omega) (by rw [hzb]; omega) (by omega)
    rw [Int.toNat_natCast, hzs, Nat.mul_one] at this
    exact this
  have hn1 : ¬ (N : Int) < 1 := by omega
  have hn6 : ¬ (6 : Int) < (N : Int) := by omega
  have H6 := hid h6
  have Hcs := hid (made_none h6)
  clear hi0 hz0 hzs hzb h1 h6
  go_enter Try.func10, Try.ntmps10
  go_upto_region 3 with fail
  go_cut [2, 3] (fun v er wx => er = .nilIface ∧ MNewR w N v wx)
  case first =>
    go_region_law (first | (go_simp; go_at_call 31; refine (snew_any _).mono ?_; rintro e wj ⟨rfl, hOj, hbj⟩; have hzj := hbj.size))
    · go_wp2_with fail
      go_meet
      exact ⟨rfl, MNewR.one (X := w.drew) H6.out ((Below.refl _ _).drew) hOj hbj rfl rfl _ Hcs.out⟩
    · go_wp2_with fail
      go_meet
      exact ⟨rfl, MNewR.two (X := (w.alloc (.cells (madeCells #[.slice none 0 0] N) 52)).drew) H6.out (((Below.refl _ _).alloc (Nat.le_refl _) _).drew) Hcs.out ((Blk.new w _ _).drew) hOj (by show _ = (w.alloc _).heap.size; simp) hbj (Nat.le_refl _) rfl⟩
  case rest =>
  obtain ⟨rfl, hM⟩ := hcut
  go_wp2_with fail
  go_ret2
  exact ⟨_, rfl, hM⟩
theorem mnew_bad (n : Int) (w : World) (h : n < 1 ∨ 6 < n) :
    Calls Try.prog 10 #[.int .i64 n] w fun e w' => e = .returned (.tuple #[.pointer none, .iface 69 (.int .i64 1)]) ∧ Below w.heap.size w w' := by
  rcases (show n < 1 ∨ (¬ n < 1 ∧ 6 < n) by omega) with h | ⟨h1, h⟩
  all_goals
    go_enter Try.func10, Try.ntmps10
    go_wp2_with fail
    go_ret2
    exact ⟨rfl, Below.refl _ _⟩
end Go.Proofs.Ytdocdmpfokdjkaa
