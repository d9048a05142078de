/-
  PLAIN LAWS of views: members in the order of their nodes; what is added; both of two; by what is at each node. CONDITIONS: none.
-/
import Derived.Test.YtgamocljdbffpaaMem
namespace Go.Proofs.Ytgamocljdbffpaa
open Go.RowKit
open Go.ChangeShapes Go.WideShapes Go.ChangeAt

def nodeB (n : Int) : Bool := decide (0 ≤ n) && decide (n ≤ 5)
theorem nodeB_true {n : Int} : nodeB n = true ↔ 0 ≤ n ∧ n ≤ 5 := by simp [nodeB]
def rightB (m : M) : Bool := nodeB m.node && decide (0 ≤ m.life) && decide (m.life ≤ 100) && decide (0 ≤ m.state) && decide (m.state ≤ 2)
theorem rightB_true {m : M} : rightB m = true ↔ (0 ≤ m.node ∧ m.node ≤ 5) ∧ (0 ≤ m.life ∧ m.life ≤ 100) ∧ 0 ≤ m.state ∧ m.state ≤ 2 := by
  simp [rightB, nodeB, and_assoc]
def aboveB (a b : M) : Bool := decide (b.life < a.life) || (decide (a.life = b.life) && decide (b.state < a.state))
theorem aboveB_true {a b : M} : aboveB a b = true ↔ b.life < a.life ∨ (a.life = b.life ∧ b.state < a.state) := by simp [aboveB]

/-- keys ascend -/
def VSorted (l : List M) : Prop := ∀ a b, a < b → b < l.length → (l.getD a M.zero).node < (l.getD b M.zero).node
/-- keys in range -/
def VIn (l : List M) : Prop := ∀ a, a < l.length → 0 ≤ (l.getD a M.zero).node ∧ (l.getD a M.zero).node < 6
/-- how many are ahead of a key -/
def vplc (k : Int) : List M → Nat
  | [] => 0
  | e :: r => if e.node < k then vplc k r + 1 else 0
theorem vplc_eq {k : Int} : ∀ (l : List M) (i : Nat), i ≤ l.length → (∀ t, t < i → (l.getD t M.zero).node < k) → (i < l.length → k ≤ (l.getD i M.zero).node) → vplc k l = i
  | [], i, hi, _, _ => by simp at hi; simp [hi, vplc]
  | e :: r, 0, _, _, h2 => by
    have := h2 (by simp)
    simp at this
    rw [vplc, if_neg (by omega)]
  | e :: r, i + 1, hi, h1, h2 => by
    have h0 := h1 0 (by omega)
    simp at h0
    rw [vplc, if_pos h0, vplc_eq r i (by simpa using hi) (fun t ht => by simpa using h1 (t + 1) (by omega)) (fun ht => by simpa using h2 (by simpa using ht))]
def vhas (k : Int) (l : List M) : Bool := decide (vplc k l < l.length) && decide ((l.getD (vplc k l) M.zero).node = k)

theorem vplc_le (k : Int) : ∀ l : List M, vplc k l ≤ l.length
  | [] => Nat.le_refl _
  | e :: r => by
    have := vplc_le k r
    rw [vplc]
    split <;> simp <;> omega
abbrev VAsc (l : List M) : Prop := l.Pairwise (fun a b => a.node < b.node)
theorem vasc_sorted {l : List M} : VAsc l ↔ VSorted l := by
  unfold VAsc VSorted
  rw [List.pairwise_iff_getElem]
  constructor
  · intro h a b hab hb
    rw [getD_get _ (by omega), getD_get _ hb]
    exact h a b (by omega) hb hab
  · intro h a b ha hb hab
    have := h a b hab hb
    rw [getD_get _ ha, getD_get _ hb] at this
    exact this
/-- what is at a key -/
def vlk (l : List M) (k : Int) : Option M := l.find? (fun e => decide (e.node = k))
theorem vlk_nil (k : Int) : vlk [] k = none := rfl
theorem vlk_cons (e : M) (r : List M) (k : Int) : vlk (e :: r) k = if e.node = k then some e else vlk r k := by
  unfold vlk
  rw [List.find?_cons]
  by_cases h : e.node = k
  · simp [h]
  · simp [h]
theorem vlk_none {l : List M} {k : Int} (h : ∀ e ∈ l, e.node ≠ k) : vlk l k = none := by
  unfold vlk
  rw [List.find?_eq_none]
  intro e he
  simpa using h e he
theorem vlk_some {l : List M} {k : Int} {e : M} (h : vlk l k = some e) : e ∈ l ∧ e.node = k := by
  unfold vlk at h
  exact ⟨List.mem_of_find?_eq_some h, by simpa using List.find?_some h⟩
/-- an entry set at its key -/
def vput (l : List M) (e : M) : List M :=
  match l with
  | [] => [e]
  | x :: r => if x.node < e.node then x :: vput r e else if x.node = e.node then e :: r else e :: x :: r
theorem at_vlk : ∀ {l : List M} {k : Int}, VAsc l → vlk l k = if vhas k l = true then some (l.getD (vplc k l) M.zero) else none
  | [], k, _ => by simp [vhas, vlk]
  | e :: r, k, h => by
    obtain ⟨h1, h2⟩ := List.pairwise_cons.1 h
    rw [vlk_cons]
    by_cases hlt : e.node < k
    · have hp : vplc k (e :: r) = vplc k r + 1 := by rw [vplc, if_pos hlt]
      rw [if_neg (by omega), at_vlk h2]
      unfold vhas
      rw [hp]
      simp
    · have hp : vplc k (e :: r) = 0 := by rw [vplc, if_neg hlt]
      unfold vhas
      rw [hp]
      by_cases he : e.node = k
      · simp [he]
      · rw [if_neg he, vlk_none (fun x hx => by have := h1 x hx; omega)]
        simp [he]
theorem vput_ins : ∀ (l : List M) (e : M), vhas e.node l = false → l.take (vplc e.node l) ++ e :: l.drop (vplc e.node l) = vput l e
  | [], e, _ => rfl
  | x :: r, e, h => by
    by_cases hlt : x.node < e.node
    · have hp : vplc e.node (x :: r) = vplc e.node r + 1 := by rw [vplc, if_pos hlt]
      rw [hp, vput, if_pos hlt]
      simp only [List.take_succ_cons, List.drop_succ_cons, List.cons_append]
      rw [vput_ins r e (by unfold vhas at h ⊢; rw [hp] at h; simpa using h)]
    · have hp : vplc e.node (x :: r) = 0 := by rw [vplc, if_neg hlt]
      rw [hp, vput, if_neg hlt, if_neg (by unfold vhas at h; rw [hp] at h; simpa using h)]
      rfl
theorem vput_set : ∀ (l : List M) (e : M), vhas e.node l = true → l.set (vplc e.node l) e = vput l e
  | [], e, h => by simp [vhas] at h
  | x :: r, e, h => by
    by_cases hlt : x.node < e.node
    · have hp : vplc e.node (x :: r) = vplc e.node r + 1 := by rw [vplc, if_pos hlt]
      rw [hp, vput, if_pos hlt, List.set_cons_succ, vput_set r e (by unfold vhas at h ⊢; rw [hp] at h; simpa using h)]
    · have hp : vplc e.node (x :: r) = 0 := by rw [vplc, if_neg hlt]
      rw [hp, vput, if_neg hlt, if_pos (by unfold vhas at h; rw [hp] at h; simpa using h)]
      rfl
theorem mem_vput : ∀ {l : List M} {e x : M}, x ∈ vput l e → x = e ∨ x ∈ l
  | [], e, x, h => by simp [vput] at h; exact .inl h
  | y :: r, e, x, h => by
    rw [vput] at h
    split at h
    · rcases List.mem_cons.1 h with h | h
      · exact .inr (by simp [h])
      · exact (mem_vput h).imp (fun h => h) (fun h => by simp [h])
    · split at h
      · rcases List.mem_cons.1 h with h | h
        · exact .inl h
        · exact .inr (by simp [h])
      · rcases List.mem_cons.1 h with h | h
        · exact .inl h
        · exact .inr h
theorem vput_asc : ∀ {l : List M} (e : M), VAsc l → VAsc (vput l e)
  | [], e, _ => by simp [vput, VAsc]
  | x :: r, e, h => by
    obtain ⟨h1, h2⟩ := List.pairwise_cons.1 h
    rw [vput]
    split
    · rename_i hlt
      refine List.pairwise_cons.2 ⟨fun y hy => ?_, vput_asc e h2⟩
      rcases mem_vput hy with rfl | hy
      · exact hlt
      · exact h1 y hy
    · split
      · rename_i he
        exact List.pairwise_cons.2 ⟨fun y hy => by have := h1 y hy; omega, h2⟩
      · refine List.pairwise_cons.2 ⟨fun y hy => ?_, h⟩
        rcases List.mem_cons.1 hy with rfl | hy
        · omega
        · have := h1 y hy; omega
theorem vlk_vput : ∀ {l : List M} (e : M) (k : Int), VAsc l → vlk (vput l e) k = if e.node = k then some e else vlk l k
  | [], e, k, _ => by rw [vput, vlk_cons]
  | x :: r, e, k, h => by
    obtain ⟨h1, h2⟩ := List.pairwise_cons.1 h
    rw [vput]
    split
    · rename_i hlt
      rw [vlk_cons, vlk_vput e k h2, vlk_cons]
      by_cases h3 : x.node = k
      · rw [if_pos h3, if_pos h3, if_neg (by omega)]
      · rw [if_neg h3, if_neg h3]
    · split
      · rename_i he
        rw [vlk_cons, vlk_cons, he]
        by_cases h3 : e.node = k
        · rw [if_pos h3, if_pos h3]
        · rw [if_neg h3, if_neg h3, if_neg h3]
      · rw [vlk_cons]
theorem vasc_ext : ∀ {l m : List M}, VAsc l → VAsc m → (∀ k, vlk l k = vlk m k) → l = m
  | [], [], _, _, _ => rfl
  | [], f :: s, _, _, h => by have := h f.node; rw [vlk_cons, if_pos rfl, vlk_nil] at this; cases this
  | e :: r, [], _, _, h => by have := h e.node; rw [vlk_cons, if_pos rfl, vlk_nil] at this; cases this
  | e :: r, f :: s, hl, hm, h => by
    obtain ⟨h1, h2⟩ := List.pairwise_cons.1 hl
    obtain ⟨g1, g2⟩ := List.pairwise_cons.1 hm
    have hk : e.node = f.node := by
      rcases Int.lt_trichotomy e.node f.node with hlt | heq | hgt
      · have := h e.node
        rw [vlk_cons, if_pos rfl, vlk_none (fun x hx => by rcases List.mem_cons.1 hx with rfl | hx; omega; have := g1 x hx; omega)] at this
        cases this
      · exact heq
      · have := h f.node
        rw [vlk_cons f, if_pos rfl, vlk_none (l := e :: r) (fun x hx => by rcases List.mem_cons.1 hx with rfl | hx; omega; have := h1 x hx; omega)] at this
        cases this
    have hef : e = f := by
      have := h e.node
      rw [vlk_cons, if_pos rfl, vlk_cons, if_pos hk.symm] at this
      exact Option.some.inj this
    subst hef
    rw [vasc_ext h2 g2 (fun k => by
      have := h k
      rw [vlk_cons, vlk_cons] at this
      by_cases hk : e.node = k
      · rw [vlk_none (fun x hx => by have := h1 x hx; omega), vlk_none (fun x hx => by have := g1 x hx; omega)]
      · rw [if_neg hk, if_neg hk] at this; exact this)]
theorem vasc_len : ∀ {l : List M} {a b : Int}, VAsc l → (∀ e ∈ l, a ≤ e.node ∧ e.node < b) → (l.length : Int) ≤ max 0 (b - a)
  | [], a, b, _, _ => by simp; omega
  | e :: r, a, b, h, hk => by
    obtain ⟨h1, h2⟩ := List.pairwise_cons.1 h
    have := vasc_len (a := e.node + 1) (b := b) h2 (fun x hx => ⟨by have := h1 x hx; omega, (hk x (by simp [hx])).2⟩)
    have he := hk e (by simp)
    rw [List.length_cons]
    omega
/-! ### what is wrong with a view -/
def vlow (p : Option Int) (k : Int) : Bool := match p with | some q => decide (k ≤ q) | none => false
def chkVs : Option Int → List M → Int
  | _, [] => 0
  | p, e :: r => if rightB e = true then (if vlow p e.node = true then 3 else chkVs (some e.node) r) else 1
def chkV (l : List M) : Int := if 6 < l.length then 4 else chkVs none l
theorem chkVs_ok : ∀ (l : List M) (p : Option Int), chkVs p l = 0 → (∀ e ∈ l, rightB e = true) ∧ (∀ q, p = some q → ∀ e ∈ l, q < e.node) ∧ VAsc l
  | [], p, _ => ⟨by simp, by simp, by simp [VAsc]⟩
  | e :: r, p, h => by
    rw [chkVs] at h
    split at h
    · rename_i he
      split at h
      · cases h
      · rename_i hl
        obtain ⟨h1, h2, h3⟩ := chkVs_ok r _ h
        have hk := h2 _ rfl
        refine ⟨by simpa [he] using h1, fun q hq x hx => ?_, List.pairwise_cons.2 ⟨hk, h3⟩⟩
        subst hq
        simp [vlow] at hl
        rcases List.mem_cons.1 hx with rfl | hx
        · exact hl
        · have := hk x hx; omega
    · cases h
theorem chkVs_mk : ∀ {l : List M} {p : Option Int}, VAsc l → (∀ e ∈ l, rightB e = true) → (∀ q, p = some q → ∀ e ∈ l, q < e.node) → chkVs p l = 0
  | [], _, _, _, _ => rfl
  | e :: r, p, h, hc, hq => by
    obtain ⟨h1, h2⟩ := List.pairwise_cons.1 h
    rw [chkVs, if_pos (hc e (by simp)), if_neg, chkVs_mk h2 (fun x hx => hc x (by simp [hx])) (fun q hq x hx => by cases hq; exact h1 x hx)]
    cases p with
    | none => simp [vlow]
    | some q => have := hq q rfl e (by simp); simp [vlow]; omega
theorem vval_iff {l : List M} : chkV l = 0 ↔ VAsc l ∧ ∀ e ∈ l, rightB e = true := by
  constructor
  · intro h
    unfold chkV at h
    split at h
    · cases h
    · obtain ⟨h1, _, h3⟩ := chkVs_ok l none h
      exact ⟨h3, h1⟩
  · rintro ⟨h1, h2⟩
    have hl := vasc_len (a := 0) (b := 6) h1 (fun e he => by have := rightB_true.1 (h2 e he); omega)
    unfold chkV
    rw [if_neg (by omega)]
    exact chkVs_mk h1 h2 (fun q hq => by cases hq)
theorem vval_facts {l : List M} (h : chkV l = 0) : VSorted l ∧ VIn l ∧ l.length ≤ 6 := by
  obtain ⟨h1, h2⟩ := vval_iff.1 h
  have hl := vasc_len (a := 0) (b := 6) h1 (fun e he => by have := rightB_true.1 (h2 e he); omega)
  exact ⟨vasc_sorted.1 h1, fun a ha => by have := rightB_true.1 (h2 _ (getD_memD M.zero ha)); omega, by omega⟩
theorem right_good {m : M} (h : rightB m = true) : m.good := by
  have := rightB_true.1 h
  exact ⟨by omega, by omega, by omega⟩
theorem vval_good {l : List M} (h : chkV l = 0) : ∀ e ∈ l, e.good := fun e he => right_good ((vval_iff.1 h).2 e he)

/-! ### a member added -/
def addV (l : List M) (m : M) : List M × Bool :=
  if vhas m.node l = true then (if aboveB m (l.getD (vplc m.node l) M.zero) = true then (l.set (vplc m.node l) m, true) else (l, false))
  else (l.take (vplc m.node l) ++ m :: l.drop (vplc m.node l), true)
/-- both of what is at a node -/
def jM : Option M → Option M → Option M
  | none, y => y
  | some a, none => some a
  | some a, some b => if aboveB b a = true then some b else some a
theorem addV_key {l : List M} {m : M} (hl : chkV l = 0) (hm : rightB m = true) : chkV (addV l m).1 = 0 ∧ ∀ k, vlk (addV l m).1 k = if m.node = k then jM (vlk l k) (some m) else vlk l k := by
  obtain ⟨ha, hc⟩ := vval_iff.1 hl
  have hat := at_vlk (k := m.node) ha
  have hp : chkV (vput l m) = 0 := vval_iff.2 ⟨vput_asc m ha, fun x hx => by
    rcases mem_vput hx with rfl | hx
    · exact hm
    · exact hc x hx⟩
  unfold addV
  rcases hh : vhas m.node l with _ | _
  · rw [hh, if_neg (by decide)] at hat
    rw [if_neg (by decide), vput_ins l m hh]
    refine ⟨hp, fun k => ?_⟩
    simp only
    rw [vlk_vput m k ha]
    split
    · rename_i hk
      rw [← hk, hat]; rfl
    · rfl
  · rw [hh, if_pos rfl] at hat
    rw [if_pos rfl, vput_set l m hh]
    generalize l.getD (vplc m.node l) M.zero = x at *
    by_cases hab : aboveB m x = true
    · rw [if_pos hab]
      refine ⟨hp, fun k => ?_⟩
      simp only
      rw [vlk_vput m k ha]
      split
      · rename_i hk
        rw [← hk, hat, jM, if_pos hab]
      · rfl
    · rw [if_neg hab]
      refine ⟨hl, fun k => ?_⟩
      simp only
      split
      · rename_i hk
        rw [← hk, hat, jM, if_neg hab]
      · rfl
def allV : List M → List M → List M
  | l, [] => l
  | l, e :: r => allV (addV l e).1 r
theorem allV_key : ∀ {m l : List M}, chkV l = 0 → chkV m = 0 → chkV (allV l m) = 0 ∧ ∀ k, vlk (allV l m) k = jM (vlk l k) (vlk m k)
  | [], l, hl, _ => ⟨hl, fun k => by
    rw [vlk_nil]
    show vlk l k = _
    cases vlk l k <;> rfl⟩
  | e :: r, l, hl, hm => by
    obtain ⟨ha, hc⟩ := vval_iff.1 hm
    obtain ⟨h1, h2⟩ := List.pairwise_cons.1 ha
    have he := hc e (by simp)
    have hr : chkV r = 0 := vval_iff.2 ⟨h2, fun x hx => hc x (by simp [hx])⟩
    have hre : vlk r e.node = none := vlk_none (fun x hx => by have := h1 x hx; omega)
    obtain ⟨b1, b2⟩ := addV_key hl he
    obtain ⟨j1, j2⟩ := allV_key (m := r) b1 hr
    refine ⟨j1, fun k => ?_⟩
    show vlk (allV (addV l e).1 r) k = _
    rw [j2, b2, vlk_cons]
    by_cases hk : e.node = k
    · rw [if_pos hk, if_pos hk, ← hk, hre]
      cases jM (vlk l e.node) (some e) <;> rfl
    · rw [if_neg hk, if_neg hk]
theorem allV_ext {p q x : List M} (hp : chkV p = 0) (hq : chkV q = 0) (hx : chkV x = 0) (h : ∀ k, jM (vlk p k) (vlk q k) = vlk x k) : allV p q = x := by
  obtain ⟨k1, k2⟩ := allV_key hp hq
  exact vasc_ext (vval_iff.1 k1).1 (vval_iff.1 hx).1 (fun k => by rw [k2, h])
theorem jM_comm {x y : Option M} (h : ∀ a b, x = some a → y = some b → a.node = b.node) : jM x y = jM y x := by
  rcases x with _ | a
  · rcases y with _ | b <;> rfl
  · rcases y with _ | b
    · rfl
    · have hn := h a b rfl rfl
      obtain ⟨a0, a1, a2⟩ := a
      obtain ⟨b0, b1, b2⟩ := b
      simp only at hn
      subst hn
      simp only [jM]
      by_cases h1 : aboveB ⟨a0, b1, b2⟩ ⟨a0, a1, a2⟩ = true
      · have h3 := aboveB_true.1 h1
        have h2 : ¬ aboveB ⟨a0, a1, a2⟩ ⟨a0, b1, b2⟩ = true := fun h => by
          have h4 := aboveB_true.1 h
          simp only at h3 h4
          omega
        rw [if_pos h1, if_neg h2]
      · by_cases h2 : aboveB ⟨a0, a1, a2⟩ ⟨a0, b1, b2⟩ = true
        · rw [if_neg h1, if_pos h2]
        · rw [if_neg h1, if_neg h2]
          have h3 : ¬ (a1 < b1 ∨ (b1 = a1 ∧ a2 < b2)) := fun h => h1 (aboveB_true.2 h)
          have h4 : ¬ (b1 < a1 ∨ (a1 = b1 ∧ b2 < a2)) := fun h => h2 (aboveB_true.2 h)
          obtain rfl : a1 = b1 := by omega
          obtain rfl : a2 = b2 := by omega
          rfl
theorem jM_assoc {x y z : Option M} : jM (jM x y) z = jM x (jM y z) := by
  rcases x with _ | a
  · rfl
  · rcases y with _ | b
    · rfl
    · rcases z with _ | c
      · by_cases h1 : aboveB b a = true
        · simp [jM, h1]
        · simp [jM, h1]
      · have tr : ∀ p q r : M, aboveB p q = true → aboveB q r = true → aboveB p r = true := fun p q r h1 h2 => by
          have h1 := aboveB_true.1 h1
          have h2 := aboveB_true.1 h2
          exact aboveB_true.2 (by omega)
        have tr2 : ∀ p q r : M, ¬ aboveB p q = true → ¬ aboveB q r = true → ¬ aboveB p r = true := fun p q r h1 h2 h => by
          have h := aboveB_true.1 h
          exact h1 (aboveB_true.2 (by
            have h2' : ¬ (r.life < q.life ∨ (q.life = r.life ∧ r.state < q.state)) := fun h => h2 (aboveB_true.2 h)
            omega))
        simp only [jM]
        by_cases h1 : aboveB b a = true
        · rw [if_pos h1]
          by_cases h2 : aboveB c b = true
          · rw [if_pos h2]
            simp only
            rw [if_pos h2, if_pos (tr c b a h2 h1)]
          · rw [if_neg h2]
            simp only
            rw [if_neg h2, if_pos h1]
        · rw [if_neg h1]
          by_cases h2 : aboveB c b = true
          · rw [if_pos h2]
          · rw [if_neg h2]
            simp only
            rw [if_neg h1, if_neg (tr2 c b a h2 h1)]
theorem jM_self {x y : Option M} : jM (jM x y) x = jM x y := by
  have irr : ∀ p : M, ¬ aboveB p p = true := fun p h => by have := aboveB_true.1 h; omega
  rcases x with _ | a
  · rcases y with _ | b <;> rfl
  · rcases y with _ | b
    · simp only [jM]
      rw [if_neg (irr a)]
    · simp only [jM]
      by_cases h1 : aboveB b a = true
      · rw [if_pos h1]
        simp only
        rw [if_neg (fun h => by
          have h1 := aboveB_true.1 h1
          have h := aboveB_true.1 h
          omega)]
      · rw [if_neg h1]
        simp only
        rw [if_neg (irr a)]
theorem vlk_node {l : List M} {k : Int} {a : M} (h : vlk l k = some a) : a.node = k := (vlk_some h).2
def bothV (l m : List M) : List M × Int := if chkV l = 0 then (if chkV m = 0 then (allV l m, 0) else ([], chkV m)) else ([], chkV l)
end Go.Proofs.Ytgamocljdbffpaa
