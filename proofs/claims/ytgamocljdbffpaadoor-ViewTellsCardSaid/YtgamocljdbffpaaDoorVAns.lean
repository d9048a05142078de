/-
  PLAIN LAW of what any answers, as the reference reckons it: member by member. It proves no statement by itself. CONDITIONS: none.
-/
import Derived.Test.YtgamocljdbffpaaDoorView4
namespace Go.Proofs.YtgamocljdbffpaaDoor

/-- One member, as the reference leaves it; the fault behind it. -/
def updM (n : Int) (y : M) : M := if y.node = n then (if y.state = 0 then y else if y.life = 100 then y else ⟨y.node, y.life + 1, 0⟩) else y
def effA (n e : Int) (y : M) : Int := if y.node = n then (if y.state = 0 then 0 else if y.life = 100 then 4 else 0) else e
theorem upd_id {n : Int} : ∀ {l : List M}, (∀ z ∈ l, z.node ≠ n) → l.map (updM n) = l ∧ ∀ e, l.foldl (effA n) e = e
  | [], _ => ⟨rfl, fun _ => rfl⟩
  | z :: r, h => by
    obtain ⟨h1, h2⟩ := upd_id (l := r) (n := n) (fun y hy => h y (by simp [hy]))
    have hz := h z (by simp)
    refine ⟨?_, fun e => ?_⟩
    · rw [List.map_cons, h1, updM, if_neg hz]
    · rw [List.foldl_cons, h2, effA, if_neg hz]
theorem vhas_none {n : Int} {l : List M} (hl : VAsc l) (h : vhas n l = false) : ∀ z ∈ l, z.node ≠ n := by
  have hk := at_vlk (k := n) hl
  rw [h, if_neg (by decide)] at hk
  intro z hz he
  unfold vlk at hk
  have := List.find?_eq_none.1 hk z hz
  simp [he] at this
theorem upd_at {n : Int} : ∀ {l : List M}, VAsc l → vhas n l = true → ∀ x, l.getD (vplc n l) M.zero = x → x.node = n ∧ l.map (updM n) = l.set (vplc n l) (updM n x) ∧ ∀ e, l.foldl (effA n) e = effA n e x
  | [], _, h, _, _ => by simp [vhas] at h
  | e :: r, ha, h, x, hx => by
    obtain ⟨h1, h2⟩ := List.pairwise_cons.1 ha
    by_cases hlt : e.node < n
    · have hp : vplc n (e :: r) = vplc n r + 1 := by rw [vplc, if_pos hlt]
      rw [hp] at hx ⊢
      have hh : vhas n r = true := by unfold vhas at h ⊢; rw [hp] at h; simpa using h
      obtain ⟨i1, i2, i3⟩ := upd_at h2 hh x (by simpa using hx)
      have hne : ¬ e.node = n := by omega
      refine ⟨i1, ?_, fun f => ?_⟩
      · rw [List.map_cons, i2, updM, if_neg hne]; rfl
      · rw [List.foldl_cons, i3, effA, effA, effA, if_neg hne]
    · have hp : vplc n (e :: r) = 0 := by rw [vplc, if_neg hlt]
      rw [hp] at hx ⊢
      have hek : e.node = n := by unfold vhas at h; rw [hp] at h; simpa using h
      have hxe : e = x := by simpa using hx
      subst hxe
      obtain ⟨u1, u2⟩ := upd_id (l := r) (n := n) (fun z hz => by have := h1 z hz; omega)
      refine ⟨hek, ?_, fun f => ?_⟩
      · rw [List.map_cons, u1]; rfl
      · rw [List.foldl_cons, u2]
/-- The reference's fault and row. -/
def refE (l : List M) (n : Int) : Int := l.foldl (effA n) 5
def refL (l : List M) (n : Int) : List M := if refE l n = 0 then l.map (updM n) else []
theorem ans_ref {l : List M} {n : Int} (hl : chkV l = 0) (hn : nodeB n = true) : answerR l n = (refL l n, refE l n) := by
  have ha := (vval_iff.1 hl).1
  rw [answerR, if_pos hl, if_pos hn]
  unfold refL refE
  rcases hv : vhas n l with _ | _
  · obtain ⟨u1, u2⟩ := upd_id (vhas_none ha hv)
    rw [if_neg (by decide), u2, if_neg (by decide)]
  · obtain ⟨i1, i2, i3⟩ := upd_at ha hv _ rfl
    have hp : vplc n l < l.length := by unfold vhas at hv; simp at hv; exact hv.1
    have hset : l.set (vplc n l) (l.getD (vplc n l) M.zero) = l := by rw [getD_get _ hp]; exact List.set_getElem_self hp
    rw [if_pos rfl, i3, i2]
    generalize l.getD (vplc n l) M.zero = x at *
    unfold effA updM
    rw [if_pos i1]
    by_cases h0 : x.state = 0
    · rw [if_pos h0, if_pos h0, if_pos rfl, if_pos i1, if_pos h0]
      rw [hset]
    · rw [if_neg h0, if_neg h0]
      by_cases h1 : x.life = 100
      · rw [if_pos h1, if_pos h1, if_neg (by decide)]
      · rw [if_neg h1, if_neg h1, if_pos rfl, if_pos i1, if_neg h0, if_neg h1, i1]
theorem ans_bad {l : List M} {n : Int} (hl : chkV l = 0) (hn : nodeB n = false) : answerR l n = ([], 1) := by
  rw [answerR, if_pos hl, if_neg (by rw [hn]; decide)]
theorem ans_no {l : List M} {n : Int} (hl : ¬ chkV l = 0) : answerR l n = ([], chkV l) := by rw [answerR, if_neg hl]
end Go.Proofs.YtgamocljdbffpaaDoor
