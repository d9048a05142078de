/-
  PROVED HERE: merelaw1.EntryJoins returns true for every three entries: joining goes either way round, as often as one likes, in any order. CONDITIONS: none.
-/
import Derived.Test.YtbaagbmnkcempaaEntryJoins
namespace Go.Proofs.Ytbaagbmnkcempaa
open Go.RowKit
open Go.ChangeShapes Go.WideShapes Go.ChangeAt

theorem Jn.size {a b x : E} (h : Jn a b x) (ha : a.text.size ≤ maxLen) (hb : b.text.size ≤ maxLen) : x.text.size ≤ maxLen := by
  rcases h with ⟨_, _, _, rfl⟩ | ⟨_, _, rfl⟩ | ⟨_, _, rfl⟩
  · exact hb
  · exact hb
  · exact ha

theorem entryJoins_any (a b c : E) (ht : a.text.size ≤ maxLen) (ht' : b.text.size ≤ maxLen) (ht'' : c.text.size ≤ maxLen) (w : World) :
    Calls Try.prog 6 #[.agg #[.int .i64 a.key, .int .i64 a.ver, .int .i64 a.asof, .bool a.gone, .string a.text], .agg #[.int .i64 b.key, .int .i64 b.ver, .int .i64 b.asof, .bool b.gone, .string b.text], .agg #[.int .i64 c.key, .int .i64 c.ver, .int .i64 c.asof, .bool c.gone, .string c.text]] w fun e w' =>
      e = .returned (.bool true) ∧ Below w.heap.size w w' := by
  rcases hab : joinR a b with ⟨x, ex⟩
  by_cases he : ex = 0
  · subst he
    obtain ⟨ca, cb, kab, j⟩ := joinR_ok.1 hab
    have cx := j.right ca cb
    have kx := j.key kab
    obtain ⟨n1, n2, n3, n4⟩ := j.newer ca cb
    have hba : joinR b a = (x, 0) := joinR_ok.2 ⟨cb, ca, kab.symm, j.comm kab⟩
    have hxa : joinR x a = (x, 0) := joinR_ok.2 ⟨cx, ca, kx.trans kab.symm, j.left kab⟩
    have hxb : joinR x b = (x, 0) := joinR_ok.2 ⟨cx, cb, kx, j.again kab⟩
    rcases hxc : joinR x c with ⟨p, e1⟩
    rcases hbc : joinR b c with ⟨y, e2⟩
    rcases hac : joinR a c with ⟨z, e3⟩
    by_cases h1 : e1 = 0
    · by_cases h2 : e2 = 0
      · subst h1 h2
        obtain ⟨_, cc, kbc, jy⟩ := joinR_ok.1 hbc
        by_cases h3 : e3 = 0
        · subst h3
          obtain ⟨_, _, _, jp⟩ := joinR_ok.1 hxc
          obtain ⟨_, _, _, jz⟩ := joinR_ok.1 hac
          have hay : joinR a y = (p, 0) := joinR_ok.2 ⟨ca, jy.right cb cc, kab.trans (kbc.trans (jy.key kbc).symm), j.assoc jp jy jz ca cb cc kab kbc⟩
          exact entryJoins_all _ _ _ _ _ _ _ _ _ _ _ _ _ _ _ ht ht' ht'' w _ _ _ _ _ (j.size ht ht') _ _ _ _ _ _ _ _ _ _ (jy.size ht' ht'') _ _ _ _ _ _ _ _ (hid hab) (hid hba) (hid hxa) (hid hxb) n1 n2 n3 n4 (hid hxc) (hid hbc) (hid hac) rfl rfl rfl (hid hay)
        · exact entryJoins_part _ _ _ _ _ _ _ _ _ _ _ _ _ _ _ ht ht' ht'' w _ _ _ _ _ (j.size ht ht') _ _ _ _ _ _ _ _ _ _ (jy.size ht' ht'') _ _ _ _ _ _ _ _ (hid hab) (hid hba) (hid hxa) (hid hxb) n1 n2 n3 n4 (hid hxc) (hid hbc) (hid hac) (.inr (.inr ⟨rfl, rfl, h3⟩))
      · subst h1
        have hy : y.text.size ≤ maxLen := by
          have : (joinR b c).2 ≠ 0 := by rw [hbc]; exact h2
          have hz : (joinR b c).1.text.size ≤ maxLen := joinR_size ht' ht''
          rw [hbc] at hz
          exact hz
        exact entryJoins_part _ _ _ _ _ _ _ _ _ _ _ _ _ _ _ ht ht' ht'' w _ _ _ _ _ (j.size ht ht') _ _ _ _ _ _ _ _ _ _ hy _ _ _ _ _ _ _ _ (hid hab) (hid hba) (hid hxa) (hid hxb) n1 n2 n3 n4 (hid hxc) (hid hbc) (hid hac) (.inr (.inl ⟨rfl, h2⟩))
    · have hz : (joinR b c).1.text.size ≤ maxLen := joinR_size ht' ht''
      rw [hbc] at hz
      exact entryJoins_part _ _ _ _ _ _ _ _ _ _ _ _ _ _ _ ht ht' ht'' w _ _ _ _ _ (j.size ht ht') _ _ _ _ _ _ _ _ _ _ hz _ _ _ _ _ _ _ _ (hid hab) (hid hba) (hid hxa) (hid hxb) n1 n2 n3 n4 (hid hxc) (hid hbc) (hid hac) (.inl h1)
  · exact entryJoins_bad _ _ _ _ _ _ _ _ _ _ _ _ _ _ _ ht ht' ht'' w x ex hab he

set_option maxRecDepth 100000 in
theorem entryJoins_walk : LawWalk Try.prog 6 Try.f6 (fun _ => True) := by
  intro W base args H enc ds p hval hA _
  rw [Try.params6] at hA hval
  obtain ⟨v0, v1, v2, d0, d1, d2, p0, p1, p2, rfl, rfl, rfl, h0, h1, h2⟩ := trodAll_three hA
  obtain ⟨a, rfl, hg⟩ := arg_struct Try.underlying28 codecEntry (hval 0 28 v0 rfl rfl) h0
  obtain ⟨b, rfl, hg'⟩ := arg_struct Try.underlying28 codecEntry (hval 1 28 v1 rfl rfl) h1
  obtain ⟨c, rfl, hg''⟩ := arg_struct Try.underlying28 codecEntry (hval 2 28 v2 rfl rfl) h2
  exact entryJoins_any a b c hg.2.2.2 hg'.2.2.2 hg''.2.2.2 W

set_option maxRecDepth 100000 in
theorem entryJoins_lifted (os : Os) (started : os.Started) (H : Type) (enc : TypeId × Value → H) :
    ReturnsInHanded {} Try.checked os 6 .any (Rows.entryJoinsSpec.pre6 enc Try.prog Try.f6 Rows.entryJoinsRow.domain false) (Rows.entryJoinsSpec.post enc Try.prog Try.f6 false true false false) :=
  law_lifted (C := Try.checked) Rows.entryJoinsRow.domain Try.own started (by kernel_rfl) Try.func6 Try.laidOut (by kernel_rfl) rfl Try.underlying4 rfl (fun ds h => by match ds, h with | [_, _, _], _ => rfl)
    (ChangeSpec.witness6 (enc := enc) (C := Try.checked) false ⟨#[], #[.agg #[.int .i64 0, .int .i64 0, .int .i64 0, .bool false, .string ⟨#[]⟩], .agg #[.int .i64 0, .int .i64 0, .int .i64 0, .bool false, .string ⟨#[]⟩], .agg #[.int .i64 0, .int .i64 0, .int .i64 0, .bool false, .string ⟨#[]⟩]], []⟩ 8 (by kernel_rfl) (by kernel_rfl) (by kernel_rfl) (by kernel_rfl)) entryJoins_walk

theorem entryJoins_holds : Rows.EntryJoinsSaid :=
  OpenClaim.holds_of_wide 6 Try.f6 rfl rfl rfl rfl rfl rfl rfl ⟨rfl, rfl, rfl, rfl, rfl⟩ rfl rfl rfl rfl rfl (by kernel_rfl) Try.func6 (by kernel_rfl)
    (of_decide_eq_true (by kernel_rfl)) (by unfold Func.isWrapper; rw [if_neg (of_decide_eq_false (by kernel_rfl))]; exact ⟨rfl, rfl⟩)
    (fun os started H enc _ => entryJoins_lifted os started H enc)

end Go.Proofs.Ytbaagbmnkcempaa
