/-
  PLAIN LAWS of what fresh.Touch leaves. CONDITIONS: none.
-/
import Derived.Test.YthjbebngedajiaaDoorTouch
import Derived.Test.YthjbebngedajiaaDoorRowV
import Derived.Test.YthjbebngedajiaaDoorInts
import Derived.Test.YthjbebngedajiaaDoorIn
import Derived.Test.YthjbebngedajiaaDoorRAll
namespace Go.Proofs.YthjbebngedajiaaDoor
open Go.RowKit
open Go.ChangeShapes Go.WideShapes Go.ChangeAt

theorem getR_rget {l : List E} {k : Int} (hl : chkC l = 0) (hk : keyB k = true) : getR l k = if (rget l k).2 = true then ((rget l k).1, 0) else (E.zero, 5) := by
  rw [getR_lk hl hk]
  unfold rget
  cases lk l k <;> rfl
/-- what the reference leaves -/
def leftT (k v q : Int) : List E → List E
  | [] => []
  | z :: r => if z.key = k then (if z.ver < v then leftT k v q r else ⟨z.key, z.ver, (if z.asof < q then q else z.asof), z.gone, z.text⟩ :: leftT k v q r) else z :: leftT k v q r
theorem leftT_id {k v q : Int} : ∀ {l : List E}, (∀ z ∈ l, z.key ≠ k) → leftT k v q l = l
  | [], _ => rfl
  | z :: r, h => by rw [leftT, if_neg (h z (by simp)), leftT_id (fun y hy => h y (by simp [hy]))]
theorem leftT_at {k v q : Int} : ∀ {l : List E}, Asc l → hasK k l = true → ∀ x, l.getD (plc k l) E.zero = x →
    (x.ver < v → leftT k v q l = E.out l (plc k l)) ∧ (¬ x.ver < v → leftT k v q l = l.set (plc k l) ⟨x.key, x.ver, max x.asof q, x.gone, x.text⟩)
  | [], _, h, _, _ => by simp [hasK] at h
  | e :: r, ha, h, x, hx => by
    obtain ⟨h1, h2⟩ := List.pairwise_cons.1 ha
    by_cases hlt : e.key < k
    · have hp : plc k (e :: r) = plc k r + 1 := by rw [plc, if_pos hlt]
      rw [hp] at hx ⊢
      have hh : hasK k r = true := by unfold hasK at h ⊢; rw [hp] at h; simpa using h
      obtain ⟨i1, i2⟩ := leftT_at (v := v) (q := q) h2 hh x (by simpa using hx)
      rw [leftT, if_neg (by omega)]
      refine ⟨fun hv => ?_, fun hv => ?_⟩
      · rw [i1 hv]; rfl
      · rw [i2 hv]; rfl
    · have hp : plc k (e :: r) = 0 := by rw [plc, if_neg hlt]
      rw [hp] at hx ⊢
      have hek : e.key = k := by unfold hasK at h; rw [hp] at h; simpa using h
      have hxe : e = x := by simpa using hx
      subst hxe
      have hid : leftT k v q r = r := leftT_id (fun z hz => by have := h1 z hz; omega)
      rw [leftT, if_pos hek, hid]
      refine ⟨fun hv => ?_, fun hv => ?_⟩
      · rw [if_pos hv]; rfl
      · rw [if_neg hv]
        by_cases hq : e.asof < q
        · rw [if_pos hq, show max e.asof q = q by omega]; rfl
        · rw [if_neg hq, show max e.asof q = e.asof by omega]; rfl
theorem touchR_left {l : List E} {k v q : Int} (h : (touchR l k v q).2 = 0) : (touchR l k v q).1 = leftT k v q l := by
  unfold touchR at h ⊢
  split
  · rename_i h0
    rw [if_pos h0] at h
    split
    · rename_i h1
      rw [if_pos h1] at h
      split
      · rename_i h2
        rw [if_pos h2] at h
        cases h
      · obtain ⟨x, hx⟩ : ∃ x, getR l k = (x, 0) := ⟨_, by rw [← h0]⟩
        obtain ⟨hc, _, hh, hg⟩ := getR_ok hx
        obtain ⟨i1, i2⟩ := leftT_at (v := v) (q := q) (val_iff.1 hc).1 hh x hg
        rw [hx]
        split
        · rename_i h3
          exact (i1 h3).symm
        · rename_i h3
          exact (i2 h3).symm
    · rename_i h1
      rw [if_neg h1] at h
      cases h
  · rename_i h0
    rw [if_neg h0] at h
    exact absurd h h0
theorem touchR_nil {l : List E} {k v q : Int} (h : (touchR l k v q).2 ≠ 0) : (touchR l k v q).1 = [] := by
  unfold touchR at h ⊢
  split
  · rename_i h0
    rw [if_pos h0] at h
    split
    · rename_i h1
      rw [if_pos h1] at h
      split
      · rfl
      · rename_i h2
        rw [if_neg h2] at h
        split at h <;> exact absurd rfl h
    · rfl
  · rfl
theorem leftT_good {k v q : Int} (hq : -9223372036854775808 ≤ q ∧ q ≤ 9223372036854775807) : ∀ {l : List E}, (∀ z ∈ l, z.good) → ∀ z ∈ leftT k v q l, z.good
  | [], _, z, h => by cases h
  | e :: r, hg, z, h => by
    have hr := leftT_good (k := k) (v := v) hq (l := r) (fun y hy => hg y (by simp [hy]))
    have he := hg e (by simp)
    rw [leftT] at h
    split at h
    · split at h
      · exact hr z h
      · rcases List.mem_cons.1 h with rfl | h
        · obtain ⟨g1, g2, g3, g4⟩ := he
          refine ⟨g1, g2, ?_, g4⟩
          simp only
          split <;> assumption
        · exact hr z h
    · rcases List.mem_cons.1 h with rfl | h
      · exact he
      · exact hr z h
theorem touchR_good {l : List E} {k v q : Int} (hq : -9223372036854775808 ≤ q ∧ q ≤ 9223372036854775807) (hg : ∀ z ∈ l, z.good) : ∀ z ∈ (touchR l k v q).1, z.good := by
  by_cases h : (touchR l k v q).2 = 0
  · rw [touchR_left h]; exact leftT_good hq hg
  · rw [touchR_nil h]; simp

theorem touch_lk_mem : ∀ {l : List E} {x : E}, Asc l → x ∈ l → lk l x.key = some x
  | y :: r, x, h, hx => by
    obtain ⟨h1, h2⟩ := List.pairwise_cons.1 h
    rw [lk_cons]
    rcases List.mem_cons.1 hx with rfl | hx
    · rw [if_pos rfl]
    · rw [if_neg (by have := h1 x hx; omega), touch_lk_mem h2 hx]
theorem stale_mem {l : List E} {k f : Int} {e : E} (ha : Asc l) (he : lk l k = some e) : inL k (staleL f l) = decide (e.asof < f) := by
  rw [Bool.eq_iff_iff, inL_true, decide_eq_true_eq]
  unfold staleL
  constructor
  · intro h
    obtain ⟨x, hx, rfl⟩ := List.mem_map.1 h
    obtain ⟨hm, hp⟩ := List.mem_filter.1 hx
    have := touch_lk_mem ha hm
    rw [he] at this
    cases this
    simpa using hp
  · intro h
    obtain ⟨hm, hk⟩ := lk_some he
    exact List.mem_map.2 ⟨e, List.mem_filter.2 ⟨hm, by simpa using h⟩, hk⟩
theorem getR_lk_some {l : List E} {k : Int} {e : E} (h : getR l k = (e, 0)) : chkC l = 0 ∧ keyB k = true ∧ lk l k = some e := by
  obtain ⟨hc, hk, hh, hx⟩ := getR_ok h
  exact ⟨hc, hk, by rw [at_lk (val_iff.1 hc).1, if_pos hh, hx]⟩
/-- who says that nothing came between makes it as new -/
theorem touch_same {l : List E} {k q : Int} {e : E} (h : getR l k = (e, 0)) : ((touchR l k e.ver q).2 = 0 ∧ seqB q = true ∧ (∀ y ∈ (touchR l k e.ver q).1, y.good) ∧ getR (touchR l k e.ver q).1 k = (⟨e.key, e.ver, max e.asof q, e.gone, e.text⟩, 0)) ∨ (touchR l k e.ver q).2 ≠ 0 := by
  obtain ⟨hc, hk, hl⟩ := getR_lk_some h
  obtain ⟨_, _, hh, hx⟩ := getR_ok h
  obtain ⟨ha, hch⟩ := val_iff.1 hc
  obtain ⟨hm, hek⟩ := lk_some hl
  have hce := hch e hm
  unfold touchR
  rw [h, if_pos rfl]
  by_cases hq : seqB q = true ∧ 0 ≤ e.ver ∧ e.ver ≤ q
  · left
    rw [if_pos hq, if_neg (by simp only; omega), if_neg (by simp only; omega)]
    have hq2 := seqB_true.1 hq.1
    obtain ⟨_, _, g2, g3, _⟩ := chk_zero.1 hce
    have g2' := seqB_true.1 g2
    have hn : chk ⟨e.key, e.ver, max e.asof q, e.gone, e.text⟩ = 0 := chk_asof hce (by omega) (by omega)
    have hput : l.set (plc k l) ⟨e.key, e.ver, max e.asof q, e.gone, e.text⟩ = put l ⟨e.key, e.ver, max e.asof q, e.gone, e.text⟩ := by
      rw [← put_set l _ (by simp only; rw [hek]; exact hh)]
      simp only
      rw [hek]
    have hv : chkC (put l ⟨e.key, e.ver, max e.asof q, e.gone, e.text⟩) = 0 := val_iff.2 ⟨put_asc _ ha, fun y hy => by
      rcases mem_put hy with rfl | hy
      · exact hn
      · exact hch y hy⟩
    refine ⟨rfl, hq.1, ?_, ?_⟩
    · simp only
      rw [hput]
      exact val_good hv
    · simp only
      rw [hput, getR_lk hv hk, lk_put _ k ha, if_pos (by simp only; exact hek)]
  · right
    rw [if_neg hq]
    decide
theorem leftT_none {k v q : Int} : ∀ {l : List E}, (∀ x ∈ l, x.key = k → x.ver < v) → (leftT k v q l).Sublist l ∧ ∀ z ∈ leftT k v q l, z.key ≠ k
  | [], _ => ⟨List.Sublist.refl _, fun z hz => by cases hz⟩
  | x :: r, h => by
    obtain ⟨i1, i2⟩ := leftT_none (v := v) (q := q) (l := r) (fun y hy => h y (by simp [hy]))
    rw [leftT]
    by_cases hk : x.key = k
    · rw [if_pos hk, if_pos (h x (by simp) hk)]
      exact ⟨i1.cons _, i2⟩
    · rw [if_neg hk]
      refine ⟨i1.cons_cons _, fun z hz => ?_⟩
      rcases List.mem_cons.1 hz with rfl | hz
      · exact hk
      · exact i2 z hz
/-- who says that something came takes it away -/
theorem touch_later {l : List E} {k q : Int} {e : E} (h : getR l k = (e, 0)) : ((touchR l k (e.asof + 1) q).2 = 0 ∧ (∀ y ∈ (touchR l k (e.asof + 1) q).1, y.good) ∧ getR (touchR l k (e.asof + 1) q).1 k = (E.zero, 5) ∧ (touchR l k (e.asof + 1) q).1.length + 1 = l.length) ∨ (touchR l k (e.asof + 1) q).2 ≠ 0 := by
  obtain ⟨hc, hk, hl⟩ := getR_lk_some h
  obtain ⟨_, _, hh, hx⟩ := getR_ok h
  obtain ⟨ha, hch⟩ := val_iff.1 hc
  obtain ⟨hm, hek⟩ := lk_some hl
  obtain ⟨_, _, g2, g3, _⟩ := chk_zero.1 (hch e hm)
  by_cases h0 : (touchR l k (e.asof + 1) q).2 = 0
  · left
    have hlen : (touchR l k (e.asof + 1) q).1.length + 1 = l.length := by
      have hp : plc k l < l.length := by
        unfold hasK at hh
        simp at hh
        exact hh.1
      unfold touchR at h0 ⊢
      rw [h, if_pos rfl] at h0 ⊢
      split
      · rename_i h1
        rw [if_pos h1] at h0
        rw [if_neg (by simp only; omega), if_pos (by simp only; omega)]
        exact E.out_length hp
      · rename_i h1
        rw [if_neg h1] at h0
        cases h0
    refine ⟨h0, ?_⟩
    rw [touchR_left h0] at hlen ⊢
    obtain ⟨i1, i2⟩ := leftT_none (k := k) (v := e.asof + 1) (q := q) (l := l) (fun x hx hxk => by
      have := touch_lk_mem ha hx
      rw [hxk, hl] at this
      cases this
      omega)
    have hv : chkC (leftT k (e.asof + 1) q l) = 0 := val_iff.2 ⟨List.Pairwise.sublist i1 ha, fun y hy => hch y (i1.subset hy)⟩
    exact ⟨val_good hv, by rw [getR_lk hv hk, lk_none i2], hlen⟩
  · exact .inr h0
theorem staleR_zero {l : List E} {f : Int} (h : (staleR l f).2 = 0) : seqB f = true ∧ chkC l = 0 ∧ (staleR l f).1 = staleL f l := by
  unfold staleR at h ⊢
  split at h
  · rename_i h1
    split at h
    · rename_i h2
      rw [if_pos h1, if_pos h2]
      exact ⟨h1, h2, rfl⟩
    · rename_i h2
      exact absurd h h2
  · cases h
end Go.Proofs.YthjbebngedajiaaDoor
