/-
  PLAIN LAWS of both of two views, of three, and of what is answered. CONDITIONS: none.
-/
import Derived.Test.YtgamocljdbffpaaDoorView5
namespace Go.Proofs.YtgamocljdbffpaaDoor
open Go.RowKit
open Go.ChangeShapes Go.WideShapes Go.ChangeAt

theorem vlk_mem : ∀ {l : List M} {x : M}, VAsc l → x ∈ l → vlk l x.node = some x
  | y :: r, x, h, hx => by
    obtain ⟨h1, h2⟩ := List.pairwise_cons.1 h
    rw [vlk_cons]
    rcases List.mem_cons.1 hx with rfl | hx
    · rw [if_pos rfl]
    · rw [if_neg (by have := h1 x hx; omega), vlk_mem h2 hx]
theorem jM_lk (l m : List M) (k : Int) : jM (vlk l k) (vlk m k) = jM (vlk m k) (vlk l k) := jM_comm (fun a b h1 h2 => by rw [vlk_node h1, vlk_node h2])
theorem view_laws {l m : List M} (hl : chkV l = 0) (hm : chkV m = 0) : chkV (allV l m) = 0 ∧ allV m l = allV l m ∧ allV (allV l m) l = allV l m := by
  obtain ⟨h1, h2⟩ := allV_key hl hm
  refine ⟨h1, allV_ext hm hl h1 (fun k => ?_), allV_ext h1 hl h1 (fun k => ?_)⟩
  · rw [h2, jM_lk]
  · rw [h2, jM_self]
theorem view_three {l m n : List M} (hl : chkV l = 0) (hm : chkV m = 0) (hn : chkV n = 0) : allV l (allV m n) = allV (allV l m) n := by
  obtain ⟨h1, h2⟩ := allV_key hl hm
  obtain ⟨h3, h4⟩ := allV_key hm hn
  obtain ⟨h5, h6⟩ := allV_key h1 hn
  refine allV_ext hl h3 h5 (fun k => ?_)
  rw [h4, h6, h2, jM_assoc]
theorem view_in {l p : List M} (hl : chkV l = 0) (hp : chkV p = 0) (k : Int) : jM (vlk l k) (vlk (allV l p) k) = vlk (allV l p) k := by
  obtain ⟨h1, h2⟩ := allV_key hl hp
  rw [jM_lk, h2, jM_self]
theorem answer_laws {l a : List M} {n : Int} (hl : chkV l = 0) (ha : chkV a = 0) (hab : ∀ k, jM (vlk l k) (vlk a k) = vlk a k) (h : (answerR a n).2 = 0) :
    chkV (answerR a n).1 = 0 ∧ allV l (answerR a n).1 = (answerR a n).1 ∧ (∀ e ∈ (answerR a n).1, e.node = n → e.state = 0) ∧ ∃ e ∈ (answerR a n).1, e.node = n := by
  obtain ⟨has, har⟩ := vval_iff.1 ha
  unfold answerR at h ⊢
  rw [if_pos ha] at h ⊢
  by_cases hb : nodeB n = true
  · rw [if_pos hb] at h ⊢
    by_cases hv : vhas n a = true
    · rw [if_pos hv] at h ⊢
      have hlk := at_vlk (k := n) has
      rw [if_pos hv] at hlk
      have hset := vput_set a (⟨n, (a.getD (vplc n a) M.zero).life + 1, 0⟩ : M) hv
      generalize hy : a.getD (vplc n a) M.zero = y at *
      obtain ⟨hym, hyn⟩ := vlk_some hlk
      have huni : ∀ e ∈ a, e.node = n → e = y := fun e he hen => by
        have := vlk_mem has he
        rw [hen, hlk] at this
        exact (Option.some.inj this).symm
      by_cases h0 : y.state = 0
      · rw [if_pos h0] at h ⊢
        refine ⟨ha, allV_ext hl ha ha hab, fun e he hen => by rw [huni e he hen]; exact h0, y, hym, hyn⟩
      · rw [if_neg h0] at h ⊢
        by_cases h1 : y.life = 100
        · rw [if_pos h1] at h
          cases h
        · rw [if_neg h1]
          have hry := rightB_true.1 (har y hym)
          have hrc : rightB ⟨n, y.life + 1, 0⟩ = true := rightB_true.2 ⟨nodeB_true.1 hb, ⟨by simp only; omega, by simp only; omega⟩, by simp, by simp⟩
          simp only at hset ⊢
          rw [hset]
          have hc : chkV (vput a ⟨n, y.life + 1, 0⟩) = 0 := vval_iff.2 ⟨vput_asc _ has, fun x hx => by
            rcases mem_vput hx with rfl | hx
            · exact hrc
            · exact har x hx⟩
          have hcl : vlk (vput a ⟨n, y.life + 1, 0⟩) n = some ⟨n, y.life + 1, 0⟩ := by rw [vlk_vput _ n has, if_pos rfl]
          refine ⟨hc, allV_ext hl hc hc (fun k => ?_), fun e he hen => ?_, _, (vlk_some hcl).1, rfl⟩
          · rw [vlk_vput _ k has]
            simp only
            by_cases hk : n = k
            · rw [if_pos hk]
              subst hk
              have hh := hab n
              rw [hlk] at hh
              rcases hx : vlk l n with _ | x
              · rfl
              · rw [hx] at hh
                simp only [jM] at hh ⊢
                have hlt : aboveB ⟨n, y.life + 1, 0⟩ x = true := by
                  refine aboveB_true.2 (.inl ?_)
                  simp only
                  by_cases hyx : aboveB y x = true
                  · have := aboveB_true.1 hyx
                    omega
                  · rw [if_neg hyx] at hh
                    have := Option.some.inj hh
                    rw [this]
                    omega
                rw [if_pos hlt]
            · rw [if_neg hk]
              exact hab k
          · have := vlk_mem (vval_iff.1 hc).1 he
            rw [hen, hcl] at this
            rw [← Option.some.inj this]
    · rw [if_neg hv] at h
      cases h
  · rw [if_neg hb] at h
    cases h
theorem answer_good {l a : List M} {n : Int} (hl : chkV l = 0) (ha : chkV a = 0) (hab : ∀ k, jM (vlk l k) (vlk a k) = vlk a k) (h : (answerR a n).2 = 0) : ∀ e ∈ (answerR a n).1, e.good := vval_good (answer_laws hl ha hab h).1
theorem bothV_zero {l m : List M} (h : (bothV l m).2 = 0) : chkV l = 0 ∧ chkV m = 0 ∧ bothV l m = (allV l m, 0) := by
  unfold bothV at h ⊢
  split at h
  · rename_i h1
    split at h
    · rename_i h2
      exact ⟨h1, h2, by rw [if_pos h1, if_pos h2]⟩
    · rename_i h2
      exact absurd h h2
  · rename_i h1
    exact absurd h h1
theorem bothV_val {l m : List M} (hl : chkV l = 0) (hm : chkV m = 0) : bothV l m = (allV l m, 0) := by rw [bothV, if_pos hl, if_pos hm]
theorem bothV_bad {l m : List M} (hl : chkV l = 0) (hm : chkV m ≠ 0) : bothV l m = ([], chkV m) := by rw [bothV, if_pos hl, if_neg hm]
/-- a row of members that stands in a slot -/
def MRow (w : World) (v : Value) (l : List M) : Prop := ∃ r : SlV M, v = .slice r.A r.xs.length r.c ∧ r.xs = l ∧ MsAt w r
theorem MRow.of_ow {w : World} {base : Nat} {T : TypeId} {v : Value} {l : List M} (h : Ow M.cells 3 base T w v l) (hg : ∀ x ∈ l, x.good) : MRow w v l := by
  obtain ⟨r, h1, h2, h3, _, _⟩ := MsAt.of_ow h hg
  exact ⟨r, h1, h2, h3⟩
end Go.Proofs.YtgamocljdbffpaaDoor
