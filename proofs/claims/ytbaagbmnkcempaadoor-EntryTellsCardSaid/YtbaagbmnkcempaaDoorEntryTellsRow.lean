/-
  PROVED HERE: merelaw1.EntryTells returns true for every two entries and every number. CONDITIONS: errors.errorType as the program's text lays it (tied by the card).
-/
import Derived.Test.YtbaagbmnkcempaaDoorEntryTells
namespace Go.Proofs.YtbaagbmnkcempaaDoor
open Go.RowKit
open Go.ChangeShapes Go.WideShapes Go.ChangeAt

theorem entryTells_any (k v a : Int) (g : Bool) (t : ByteArray) (k' v' a' : Int) (g' : Bool) (t' : ByteArray) (n : Int) (ht : t.size ≤ maxLen) (ht' : t'.size ≤ maxLen) (w : World) (hgl : Gl w) :
    Calls Tryd.prog 5 #[.agg #[.int .i64 k, .int .i64 v, .int .i64 a, .bool g, .string t], .agg #[.int .i64 k', .int .i64 v', .int .i64 a', .bool g', .string t'], .int .i64 n] w fun e w' => e = .returned (.bool true) ∧ Below w.heap.size w w' := by
  by_cases hc : chk ⟨k, v, a, g, t⟩ = 0
  · have hn : (∃ y, trueR ⟨k, v, a, g, t⟩ n = (false, y) ∧ y = 1 ∧ (n < 0 ∨ 0 ≤ n ∧ 1000 < n)) ∨ (trueR ⟨k, v, a, g, t⟩ n = (decide (v ≤ n) && decide (n ≤ a), 0) ∧ 0 ≤ n ∧ n ≤ 1000) := by
      rcases hs : seqB n with _ | _
      · refine .inl ⟨1, by rw [trueR, if_pos hc, if_neg (by simp [hs])], rfl, ?_⟩
        have := seqB_false.1 hs
        omega
      · exact .inr ⟨by rw [trueR, if_pos hc, if_pos hs], seqB_true.1 hs⟩
    by_cases hb : chk ⟨k', v', a', g', t'⟩ = 0
    · have h2 : chk2 ⟨k, v, a, g, t⟩ ⟨k', v', a', g', t'⟩ = 0 := chk2_zero.2 ⟨hc, hb⟩
      by_cases hk : k = k'
      · subst hk
        exact entryTells_join k v a g t v' a' g' t' n ht ht' w hgl _ hc hn (hid (by rw [joinR, if_pos h2, if_pos rfl])) (hid (joined_rjoin (a := ⟨k, v, a, g, t⟩) (b := ⟨k, v', a', g', t'⟩) rfl).symm) hb
      · exact entryTells_refused k v a g t k' v' a' g' t' n ht ht' w hgl 3 hc hn (hid (by rw [joinR, if_pos h2, if_neg hk])) (.inr ⟨hb, by simpa using hk, rfl⟩)
    · have h2 : chk2 ⟨k, v, a, g, t⟩ ⟨k', v', a', g', t'⟩ = chk ⟨k', v', a', g', t'⟩ := if_pos hc
      exact entryTells_refused k v a g t k' v' a' g' t' n ht ht' w hgl _ hc hn (hid (by rw [joinR, h2, if_neg hb])) (.inl ⟨by simpa using hb, rfl⟩)
  · exact entryTells_bad k v a g t k' v' a' g' t' n ht ht' w hgl hc

set_option maxRecDepth 100000 in
theorem entryTells_walk : LawWalk Tryd.prog 5 Tryd.f5 Gl := by
  intro W base args H enc ds p hval hA hgl
  rw [Tryd.params5] at hA hval
  obtain ⟨v0, v1, v2, d0, d1, d2, p0, p1, p2, rfl, rfl, rfl, h0, h1, h2⟩ := trodAll_three hA
  obtain ⟨⟨k, v, a, g, t⟩, rfl, hg⟩ := arg_struct Tryd.underlying40 codecEntry (hval 0 40 v0 rfl rfl) h0
  obtain ⟨⟨k', v', a', g', t'⟩, rfl, hg'⟩ := arg_struct Tryd.underlying40 codecEntry (hval 1 40 v1 rfl rfl) h1
  obtain ⟨n, rfl, _⟩ := arg_int Tryd.underlying3 (hval 2 3 v2 rfl rfl) h2
  exact entryTells_any k v a g t k' v' a' g' t' n hg.2.2.2 hg'.2.2.2 W hgl

set_option maxRecDepth 100000 in
theorem entryTells_lifted (os : Os) (started : os.Started) (H : Type) (enc : TypeId × Value → H) :
    ReturnsInHanded {} Tryd.checked os 5 .any (fun w args => (Rows.entryTellsSpec.pre enc Tryd.checked.prog Tryd.f5 [] false w args ∧ laidMetH Tryd.prog theLaid w) ∧ sizedMet enc Tryd.checked.prog Tryd.f5 (OpenSpec.ofChange Rows.entryTellsSpec) false w args) (Rows.entryTellsSpec.post enc Tryd.checked.prog Tryd.f5 false true false false) :=
  laid_lifted (C := Tryd.checked) theLaid (fun _ h => handle_of_laid h) [] Tryd.own started (by kernel_rfl) Tryd.func5 Tryd.laidOut (by kernel_rfl) rfl Tryd.underlying4 rfl (fun ds h => by match ds, h with | [_, _, _], _ => rfl)
    (ChangeSpec.witness_at (enc := enc) (C := Tryd.checked) (os := os) (X := fun w _ => laidMetH Tryd.prog theLaid w) false (laidWorld os) #[.agg #[.int .i64 0, .int .i64 0, .int .i64 0, .bool false, .string ⟨#[]⟩], .agg #[.int .i64 0, .int .i64 0, .int .i64 0, .bool false, .string ⟨#[]⟩], .int .i64 0] 8 rfl (by kernel_rfl) (by kernel_rfl) (by kernel_rfl) (by kernel_rfl) (by kernel_rfl) (laidWorld_met os _)) entryTells_walk

theorem entryTells_row : Rows.EntryTellsSaid :=
  OpenClaim.holds_of_wide 5 Tryd.f5 rfl rfl rfl rfl rfl rfl rfl ⟨rfl, rfl, rfl, rfl, rfl⟩ rfl rfl rfl rfl rfl (by kernel_rfl) Tryd.func5 (by kernel_rfl)
    (of_decide_eq_true (by kernel_rfl)) (by unfold Func.isWrapper; rw [if_neg (of_decide_eq_false (by kernel_rfl))]; exact ⟨rfl, rfl⟩)
    (fun os started H enc _ => entryTells_lifted os started H enc)

theorem entryTells_holds : Rows.EntryTellsCardSaid :=
  Claim7.holds_tied_plain_at .later [] [.handle] true _ true
    entryTells_row (fun _ h => by cases h) (by kernel_rfl) (fun _ h => by cases h) entryTells_row_tie rfl ⟨rfl, rfl⟩ (by kernel_rfl) rfl
    (fun f fn hf hfn => by
      obtain rfl : f = 5 := Option.some.inj ((show Tryd.prog.funcNamed "beaconmere/merelaw1.EntryTells" = some 5 by kernel_rfl).symm.trans hf) |>.symm
      obtain rfl : fn = Tryd.f5 := (Option.some.inj (Tryd.func5.symm.trans hfn)).symm
      refine ⟨by kernel_rfl, fun j t ht => ?_⟩
      have hall : Tryd.f5.params.toList.all (fun t => !Tryd.prog.wantsStandIn t) = true := by kernel_rfl
      have hm : t ∈ Tryd.f5.params.toList := by
        obtain ⟨hj, hje⟩ := Array.getElem?_eq_some_iff.1 ht
        rw [← hje]
        exact Array.mem_toList_iff.2 (Array.getElem_mem hj)
      have := List.all_eq_true.1 hall t hm
      exact (show Tryd.prog.wantsStandIn t = false by simpa using this))
    (by kernel_rfl)

end Go.Proofs.YtbaagbmnkcempaaDoor
