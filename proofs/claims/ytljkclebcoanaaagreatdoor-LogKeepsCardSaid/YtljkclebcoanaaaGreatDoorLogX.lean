/-
  A LOG BEHIND A NAME: its store's blocks left open; THE CONTRACTS of package log over it. CONDITIONS: the library's tables read as they are laid (TvB).
-/
import Derived.Test.YtljkclebcoanaaaGreatDoorLogC
namespace Go.Proofs.YtljkclebcoanaaaGreatDoor
open Go.RowKit
open Go.ChangeShapes Go.WideShapes Go.ChangeAt

/-- a log at l that is right -/
def LogX (base : Nat) (w : World) (l : Nat) (G : LG) : Prop := G.ok ∧ ∃ s vs, LogP base w l s vs G G.D
section
variable {base l : Nat} {w w' : World} {G : LG}
theorem LogX.belowS (h : LogX base w l G) (hb : Below w.heap.size w w') : LogX base w' l G := by
  obtain ⟨h0, s, vs, h1⟩ := h
  exact ⟨h0, s, vs, h1.belowS hb⟩
theorem LogX.lt (h : LogX base w l G) : base ≤ l ∧ l < w.heap.size := by
  obtain ⟨_, s, vs, h1⟩ := h
  exact ⟨h1.base, h1.blk.lt⟩
theorem LRes.x {s : Nat} {vs : List Value} {G0 : LG} {D : List E} (h : LogP base w l s vs G0 D) (hG : G.ok) (hr : LRes base l s vs w G w') : LogX base w' l G ∧ Below base w w' := by
  obtain ⟨s', vs', h1, h2, _⟩ := hr
  exact ⟨⟨hG, s', vs', h1⟩, h2.below0 (by have := h.lt (.inl rfl); omega) (fun i hi => (h.lt hi).1)⟩
theorem xnew (w : World) : Calls Tryz.prog 5 #[] w fun e w' => ∃ l, e = .returned (.pointer (some ⟨l, 0, none⟩)) ∧ LogX w.heap.size w' l LG.new ∧ Below w.heap.size w w' := by
  refine (lnew_any w).mono ?_
  rintro e w' ⟨l, s, vs, rfl, h1, h2⟩
  exact ⟨l, rfl, ⟨LG.new_ok, s, vs, h1⟩, h2⟩
theorem xput (h : LogX base w l G) (hT : TvB base w) (key : Int) (t : ByteArray) (ht : t.size ≤ maxLen) :
    Calls Tryz.prog 7 #[.pointer (some ⟨l, 0, none⟩), .int .i64 key, .string t] w fun e w' => e = .returned (.tuple #[.int .i64 (G.put key t).1.1, errV (G.put key t).1.2]) ∧ LogX base w' l (G.put key t).2 ∧ Below base w w' := by
  obtain ⟨h0, s, vs, h1⟩ := h
  refine (lput_any h0 key t ht w h1 hT).mono ?_
  rintro e w' ⟨rfl, h2⟩
  exact ⟨rfl, h2.x h1 (LG.put_ok h0 key t)⟩
theorem xdel (h : LogX base w l G) (hT : TvB base w) (key : Int) :
    Calls Tryz.prog 10 #[.pointer (some ⟨l, 0, none⟩), .int .i64 key] w fun e w' => e = .returned (.tuple #[.int .i64 (G.del key).1.1, errV (G.del key).1.2]) ∧ LogX base w' l (G.del key).2 ∧ Below base w w' := by
  obtain ⟨h0, s, vs, h1⟩ := h
  refine (ldel_any h0 key w h1 hT).mono ?_
  rintro e w' ⟨rfl, h2⟩
  exact ⟨rfl, h2.x h1 (LG.del_ok h0 key)⟩
theorem xsync (h : LogX base w l G) : Calls Tryz.prog 9 #[.pointer (some ⟨l, 0, none⟩)] w fun e w' => e = .returned (errV G.sync.1) ∧ LogX base w' l G.sync.2 ∧ Below base w w' := by
  obtain ⟨h0, s, vs, h1⟩ := h
  refine (lsync_any h0 w h1).mono ?_
  rintro e w' ⟨rfl, h2⟩
  exact ⟨rfl, h2.x h1 (LG.sync_ok h0)⟩
theorem xfail (h : LogX base w l G) (n : Int) (hn : n ≤ 9223372036854775807) : Calls Tryz.prog 6 #[.pointer (some ⟨l, 0, none⟩), .int .i64 n] w fun e w' => (∃ v, e = .returned v) ∧ LogX base w' l (G.fail n) ∧ Below base w w' := by
  obtain ⟨h0, s, vs, h1⟩ := h
  refine (lfail_any n w h1).mono ?_
  rintro e w' ⟨he, h2, hF⟩
  exact ⟨he, ⟨LG.fail_ok h0 hn, s, vs, h2⟩, hF.below0 (by have := h1.lt (.inl rfl); omega) (fun i hi => by have e : i = l := hi; have := h1.base; omega)⟩
theorem xcrash (h : LogX base w l G) (hT : TvB base w) (n : Int) (hn : -9223372036854775808 ≤ n ∧ n ≤ 9223372036854775807) : Calls Tryz.prog 11 #[.pointer (some ⟨l, 0, none⟩), .int .i64 n] w fun e w' => (∃ v, e = .returned v) ∧ LogX base w' l (G.crash n) ∧ Below base w w' := by
  obtain ⟨h0, s, vs, h1⟩ := h
  refine (lcrash_any h0 n hn w h1 hT).mono ?_
  rintro e w' ⟨he, h2⟩
  exact ⟨he, h2.x h1 (LG.crash_ok h0 n)⟩
theorem xread (h : LogX base w l G) (key : Int) : Calls Tryz.prog 13 #[.pointer (some ⟨l, 0, none⟩), .int .i64 key] w fun e w' => e = .returned (.tuple #[(ratS G.D key G.D.length).1.val, errV (ratS G.D key G.D.length).2]) ∧ Below w.heap.size w w' := by
  obtain ⟨h0, s, vs, h1⟩ := h
  exact lread_any key w h1
theorem xseq (h : LogX base w l G) : Calls Tryz.prog 12 #[.pointer (some ⟨l, 0, none⟩)] w fun e w' => e = .returned (.int .i64 (G.D.length : Nat)) ∧ w = w' := by
  obtain ⟨h0, s, vs, h1⟩ := h
  exact lseq_any w h1
theorem xbytes (h : LogX base w l G) : Calls Tryz.prog 15 #[.pointer (some ⟨l, 0, none⟩)] w fun e w' => e = .returned (.int .i64 (G.bs.length : Nat)) ∧ w = w' := by
  obtain ⟨h0, s, vs, h1⟩ := h
  exact lbytes_any w h1 h0.len
theorem xsafe (h : LogX base w l G) : Calls Tryz.prog 14 #[.pointer (some ⟨l, 0, none⟩)] w fun e w' => e = .returned (.int .i64 (G.safe : Nat)) ∧ w = w' := by
  obtain ⟨h0, s, vs, h1⟩ := h
  exact lsafe_any w h1
end
end Go.Proofs.YtljkclebcoanaaaGreatDoor
