/-
  PROVED HERE: merelaw4.EntrySelf returns true for every entry: joined with itself it is itself, true at its version and at its time. CONDITIONS: none.
-/
import Derived.Test.YtbaagbmnkcempaaEntryLaw
namespace Go.Proofs.Ytbaagbmnkcempaa
open Go.RowKit
open Go.ChangeShapes Go.WideShapes Go.ChangeAt

set_option maxHeartbeats 2000000 in
theorem entrySelf_any (k v a : Int) (g : Bool) (t : ByteArray) (ht : t.size ≤ maxLen) (w : World) :
    Calls Try.prog 7 #[.agg #[.int .i64 k, .int .i64 v, .int .i64 a, .bool g, .string t]] w fun e w' => e = .returned (.bool true) ∧ Below w.heap.size w w' := by
  by_cases h0 : chk ⟨k, v, a, g, t⟩ = 0
  · have hj := joinR_self h0
    have hv := trueR_ver h0
    have ha := trueR_asof h0
    simp only at hv ha
    have Hj := hid hj
    have Hv := hid hv
    have Ha := hid ha
    clear hj hv ha h0
    go_enter Try.func7, Try.ntmps7
    go_wp2_with fail
    refine (join_any k v a g t k v a g t ht ht _).mono ?_
    rw [Hj.out, errV_zero]
    unfold E.val
    rintro e w1 ⟨rfl, hb1⟩; obtain ⟨hc1, hf1⟩ := bcell hb1; have hz1 := hb1.size; (try simp only [World.size_alloc] at hz1)
    have hl1 : w.heap.size < w1.heap.size := by omega
    go_wp2_with fail
    refine (true_any k v a g t v ht _).mono ?_
    rw [Hv.out, errV_zero]
    rintro e w2 ⟨rfl, hb2⟩; obtain ⟨hc2, hf2⟩ := bcell hb2; have hz2 := hb2.size; (try simp only [World.size_alloc] at hz2)
    have hl2 : w1.heap.size < w2.heap.size := by omega
    have hl3 : w.heap.size < w2.heap.size := by omega
    go_wp2_with fail
    refine (true_any k v a g t a ht _).mono ?_
    rw [Ha.out, errV_zero]
    rintro e w3 ⟨rfl, hb3⟩; obtain ⟨hc3, hf3⟩ := bcell hb3; have hz3 := hb3.size; (try simp only [World.size_alloc] at hz3)
    have hl4 : w.heap.size < w3.heap.size := by omega
    have hl5 : w1.heap.size < w3.heap.size := by omega
    go_wp2_with fail
    go_ret
    exact ⟨rfl, by (repeat (first | with_reducible exact Below.refl _ _ | with_reducible assumption | (with_reducible refine Below.drew ?_) | ((with_reducible refine Below.alloc ?_ ?_ _); rotate_left; (focus (first | omega | (simp; done) | (simp; omega)))) | ((with_reducible refine Below.setCell ?_ ?_ _); rotate_left; (focus (first | omega | (simp; done) | (simp; omega)))) | ((with_reducible refine Below.step ?_ (by assumption) ?_); rotate_left; (focus (first | omega | (simp; done) | (simp; omega))))))⟩
  · have hj := joinR_bad h0
    have hn := errV_ne h0
    have Hj := hid hj
    have Hn := hid hn
    clear hj hn h0
    go_enter Try.func7, Try.ntmps7
    go_wp2_with fail
    refine (join_any k v a g t k v a g t ht ht _).mono ?_
    rw [Hj.out, Hn.out]
    unfold E.val E.zero
    rintro e w1 ⟨rfl, hb1⟩; obtain ⟨hc1, hf1⟩ := bcell hb1; have hz1 := hb1.size; (try simp only [World.size_alloc] at hz1)
    have hl1 : w.heap.size < w1.heap.size := by omega
    go_wp2_with fail
    refine (check_any k v a g t _ ht).mono ?_
    rw [Hn.out]
    rintro e w2 ⟨rfl, hb2⟩; obtain ⟨hc2, hf2⟩ := bcell hb2; have hz2 := hb2.size; (try simp only [World.size_alloc] at hz2)
    go_wp2_with fail
    go_ret
    exact ⟨rfl, by (repeat (first | with_reducible exact Below.refl _ _ | with_reducible assumption | (with_reducible refine Below.drew ?_) | ((with_reducible refine Below.alloc ?_ ?_ _); rotate_left; (focus (first | omega | (simp; done) | (simp; omega)))) | ((with_reducible refine Below.setCell ?_ ?_ _); rotate_left; (focus (first | omega | (simp; done) | (simp; omega)))) | ((with_reducible refine Below.step ?_ (by assumption) ?_); rotate_left; (focus (first | omega | (simp; done) | (simp; omega))))))⟩

theorem entrySelf_walk : LawWalk Try.prog 7 Try.f7 (fun _ => True) := by
  intro W base args H enc ds p hval hA _
  rw [Try.params7] at hA hval
  obtain ⟨v0, d0, rfl, rfl, h0⟩ := trodAll_one hA
  obtain ⟨⟨k, v, a, g, t⟩, rfl, hg⟩ := arg_struct Try.underlying28 codecEntry (hval 0 _ v0 rfl rfl) h0
  exact entrySelf_any k v a g t hg.2.2.2 W

set_option maxRecDepth 100000 in
theorem entrySelf_lifted (os : Os) (started : os.Started) (H : Type) (enc : TypeId × Value → H) :
    ReturnsInHanded {} Try.checked os 7 .any (Rows.entrySelfSpec.pre6 enc Try.prog Try.f7 Rows.entrySelfRow.domain false) (Rows.entrySelfSpec.post enc Try.prog Try.f7 false true false false) :=
  law_lifted (C := Try.checked) Rows.entrySelfRow.domain Try.own started (by kernel_rfl) Try.func7 Try.laidOut (by kernel_rfl) rfl Try.underlying4 rfl (fun ds h => by match ds, h with | [_], _ => rfl)
    (ChangeSpec.witness6 (enc := enc) (C := Try.checked) false ⟨#[], #[.agg #[.int .i64 0, .int .i64 0, .int .i64 0, .bool false, .string ⟨#[]⟩]], []⟩ 8 (by kernel_rfl) (by kernel_rfl) (by kernel_rfl) (by kernel_rfl)) entrySelf_walk

theorem entrySelf_holds : Rows.EntrySelfSaid :=
  OpenClaim.holds_of_wide 7 Try.f7 rfl rfl rfl rfl rfl rfl rfl ⟨rfl, rfl, rfl, rfl, rfl⟩ rfl rfl rfl rfl rfl (by kernel_rfl) Try.func7 (by kernel_rfl)
    (of_decide_eq_true (by kernel_rfl)) (by unfold Func.isWrapper; rw [if_neg (of_decide_eq_false (by kernel_rfl))]; exact ⟨rfl, rfl⟩)
    (fun os started H enc _ => entrySelf_lifted os started H enc)

end Go.Proofs.Ytbaagbmnkcempaa
