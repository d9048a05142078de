/-
  PLAIN LAWS of caches: what is added, and both of two, by what is at each key. CONDITIONS: none.
-/
import Derived.Test.YtemhdfodghfkfaaGreatDoorCCheck
import Derived.Test.YtemhdfodghfkfaaGreatDoorKit
import Derived.Test.YtemhdfodghfkfaaGreatDoorJoin
namespace Go.Proofs.YtemhdfodghfkfaaGreatDoor
open Go.RowKit
open Go.ChangeShapes Go.WideShapes Go.ChangeAt

abbrev Asc (l : List E) : Prop := l.Pairwise (fun a b => a.key < b.key)
theorem asc_sorted {l : List E} : Asc l ↔ SortedK l := by
  unfold Asc SortedK
  rw [List.pairwise_iff_getElem]
  constructor
  · intro h a b hab hb
    rw [getD_get _ (by omega), getD_get _ hb]
    exact h a b (by omega) hb hab
  · intro h a b ha hb hab
    have := h a b hab hb
    rw [getD_get _ ha, getD_get _ hb] at this
    exact this
/-- what is at a key -/
def lk (l : List E) (k : Int) : Option E := l.find? (fun e => decide (e.key = k))
theorem lk_nil (k : Int) : lk [] k = none := rfl
theorem lk_cons (e : E) (r : List E) (k : Int) : lk (e :: r) k = if e.key = k then some e else lk r k := by
  unfold lk
  rw [List.find?_cons]
  by_cases h : e.key = k
  · simp [h]
  · simp [h]
theorem lk_none {l : List E} {k : Int} (h : ∀ e ∈ l, e.key ≠ k) : lk l k = none := by
  unfold lk
  rw [List.find?_eq_none]
  intro e he
  simpa using h e he
theorem lk_some {l : List E} {k : Int} {e : E} (h : lk l k = some e) : e ∈ l ∧ e.key = k := by
  unfold lk at h
  exact ⟨List.mem_of_find?_eq_some h, by simpa using List.find?_some h⟩
/-- an entry set at its key -/
def put (l : List E) (e : E) : List E :=
  match l with
  | [] => [e]
  | x :: r => if x.key < e.key then x :: put r e else if x.key = e.key then e :: r else e :: x :: r
theorem at_lk : ∀ {l : List E} {k : Int}, Asc l → lk l k = if hasK k l = true then some (l.getD (plc k l) E.zero) else none
  | [], k, _ => by simp [hasK, lk]
  | e :: r, k, h => by
    obtain ⟨h1, h2⟩ := List.pairwise_cons.1 h
    rw [lk_cons]
    by_cases hlt : e.key < k
    · have hp : plc k (e :: r) = plc k r + 1 := by rw [plc, if_pos hlt]
      rw [if_neg (by omega), at_lk h2]
      unfold hasK
      rw [hp]
      simp
    · have hp : plc k (e :: r) = 0 := by rw [plc, if_neg hlt]
      unfold hasK
      rw [hp]
      by_cases he : e.key = k
      · simp [he]
      · rw [if_neg he, lk_none (fun x hx => by have := h1 x hx; omega)]
        simp [he]
theorem put_ins : ∀ (l : List E) (e : E), hasK e.key l = false → l.take (plc e.key l) ++ e :: l.drop (plc e.key l) = put l e
  | [], e, _ => rfl
  | x :: r, e, h => by
    by_cases hlt : x.key < e.key
    · have hp : plc e.key (x :: r) = plc e.key r + 1 := by rw [plc, if_pos hlt]
      rw [hp, put, if_pos hlt]
      simp only [List.take_succ_cons, List.drop_succ_cons, List.cons_append]
      rw [put_ins r e (by unfold hasK at h ⊢; rw [hp] at h; simpa using h)]
    · have hp : plc e.key (x :: r) = 0 := by rw [plc, if_neg hlt]
      rw [hp, put, if_neg hlt, if_neg (by unfold hasK at h; rw [hp] at h; simpa using h)]
      rfl
theorem put_set : ∀ (l : List E) (e : E), hasK e.key l = true → l.set (plc e.key l) e = put l e
  | [], e, h => by simp [hasK] at h
  | x :: r, e, h => by
    by_cases hlt : x.key < e.key
    · have hp : plc e.key (x :: r) = plc e.key r + 1 := by rw [plc, if_pos hlt]
      rw [hp, put, if_pos hlt, List.set_cons_succ, put_set r e (by unfold hasK at h ⊢; rw [hp] at h; simpa using h)]
    · have hp : plc e.key (x :: r) = 0 := by rw [plc, if_neg hlt]
      rw [hp, put, if_neg hlt, if_pos (by unfold hasK at h; rw [hp] at h; simpa using h)]
      rfl
theorem mem_put : ∀ {l : List E} {e x : E}, x ∈ put l e → x = e ∨ x ∈ l
  | [], e, x, h => by simp [put] at h; exact .inl h
  | y :: r, e, x, h => by
    rw [put] at h
    split at h
    · rcases List.mem_cons.1 h with h | h
      · exact .inr (by simp [h])
      · exact (mem_put h).imp (fun h => h) (fun h => by simp [h])
    · split at h
      · rcases List.mem_cons.1 h with h | h
        · exact .inl h
        · exact .inr (by simp [h])
      · rcases List.mem_cons.1 h with h | h
        · exact .inl h
        · exact .inr h
theorem put_asc : ∀ {l : List E} (e : E), Asc l → Asc (put l e)
  | [], e, _ => by simp [put, Asc]
  | x :: r, e, h => by
    obtain ⟨h1, h2⟩ := List.pairwise_cons.1 h
    rw [put]
    split
    · rename_i hlt
      refine List.pairwise_cons.2 ⟨fun y hy => ?_, put_asc e h2⟩
      rcases mem_put hy with rfl | hy
      · exact hlt
      · exact h1 y hy
    · split
      · rename_i he
        exact List.pairwise_cons.2 ⟨fun y hy => by have := h1 y hy; omega, h2⟩
      · refine List.pairwise_cons.2 ⟨fun y hy => ?_, h⟩
        rcases List.mem_cons.1 hy with rfl | hy
        · omega
        · have := h1 y hy; omega
theorem lk_put : ∀ {l : List E} (e : E) (k : Int), Asc l → lk (put l e) k = if e.key = k then some e else lk l k
  | [], e, k, _ => by rw [put, lk_cons]
  | x :: r, e, k, h => by
    obtain ⟨h1, h2⟩ := List.pairwise_cons.1 h
    rw [put]
    split
    · rename_i hlt
      rw [lk_cons, lk_put e k h2, lk_cons]
      by_cases h3 : x.key = k
      · rw [if_pos h3, if_pos h3, if_neg (by omega)]
      · rw [if_neg h3, if_neg h3]
    · split
      · rename_i he
        rw [lk_cons, lk_cons, he]
        by_cases h3 : e.key = k
        · rw [if_pos h3, if_pos h3]
        · rw [if_neg h3, if_neg h3, if_neg h3]
      · rw [lk_cons]
theorem asc_ext : ∀ {l m : List E}, Asc l → Asc m → (∀ k, lk l k = lk m k) → l = m
  | [], [], _, _, _ => rfl
  | [], f :: s, _, _, h => by have := h f.key; rw [lk_cons, if_pos rfl, lk_nil] at this; cases this
  | e :: r, [], _, _, h => by have := h e.key; rw [lk_cons, if_pos rfl, lk_nil] at this; cases this
  | e :: r, f :: s, hl, hm, h => by
    obtain ⟨h1, h2⟩ := List.pairwise_cons.1 hl
    obtain ⟨g1, g2⟩ := List.pairwise_cons.1 hm
    have hk : e.key = f.key := by
      rcases Int.lt_trichotomy e.key f.key with hlt | heq | hgt
      · have := h e.key
        rw [lk_cons, if_pos rfl, lk_none (fun x hx => by rcases List.mem_cons.1 hx with rfl | hx; omega; have := g1 x hx; omega)] at this
        cases this
      · exact heq
      · have := h f.key
        rw [lk_cons f, if_pos rfl, lk_none (l := e :: r) (fun x hx => by rcases List.mem_cons.1 hx with rfl | hx; omega; have := h1 x hx; omega)] at this
        cases this
    have hef : e = f := by
      have := h e.key
      rw [lk_cons, if_pos rfl, lk_cons, if_pos hk.symm] at this
      exact Option.some.inj this
    subst hef
    rw [asc_ext h2 g2 (fun k => by
      have := h k
      rw [lk_cons, lk_cons] at this
      by_cases hk : e.key = k
      · rw [lk_none (fun x hx => by have := h1 x hx; omega), lk_none (fun x hx => by have := g1 x hx; omega)]
      · rw [if_neg hk, if_neg hk] at this; exact this)]
theorem asc_len : ∀ {l : List E} {a b : Int}, Asc l → (∀ e ∈ l, a ≤ e.key ∧ e.key < b) → (l.length : Int) ≤ max 0 (b - a)
  | [], a, b, _, _ => by simp; omega
  | e :: r, a, b, h, hk => by
    obtain ⟨h1, h2⟩ := List.pairwise_cons.1 h
    have := asc_len (a := e.key + 1) (b := b) h2 (fun x hx => ⟨by have := h1 x hx; omega, (hk x (by simp [hx])).2⟩)
    have he := hk e (by simp)
    rw [List.length_cons]
    omega
theorem chkCs_mk : ∀ {l : List E} {p : Option Int}, Asc l → (∀ e ∈ l, chk e = 0) → (∀ q, p = some q → ∀ e ∈ l, q < e.key) → chkCs p l = 0
  | [], _, _, _, _ => rfl
  | e :: r, p, h, hc, hq => by
    obtain ⟨h1, h2⟩ := List.pairwise_cons.1 h
    rw [chkCs, if_pos (hc e (by simp)), if_neg, chkCs_mk h2 (fun x hx => hc x (by simp [hx])) (fun q hq x hx => by cases hq; exact h1 x hx)]
    cases p with
    | none => simp [lowB]
    | some q => have := hq q rfl e (by simp); simp [lowB]; omega
/-- a cache that is right -/
theorem val_iff {l : List E} : chkC l = 0 ↔ Asc l ∧ ∀ e ∈ l, chk e = 0 := by
  constructor
  · intro h
    obtain ⟨_, h2, h3, _⟩ := chkC_ok h
    exact ⟨asc_sorted.2 h3, h2⟩
  · rintro ⟨h1, h2⟩
    have hl := asc_len (a := 0) (b := 8) h1 (fun e he => chk_key (h2 e he))
    unfold chkC
    rw [if_neg (by omega)]
    exact chkCs_mk h1 h2 (fun q hq => by cases hq)
/-- both of what is at a key -/
def jO : Option E → Option E → Option E
  | none, y => y
  | some a, none => some a
  | some a, some b => some (joined a b).1
def jOk (x y : Option E) : Prop := ∀ a b, x = some a → y = some b → (joined a b).2 = 0
theorem joined_jn {a b : E} (hk : a.key = b.key) (h : (joined a b).2 = 0) : Jn a b (joined a b).1 := (joined_ok hk).1 (by rw [← h])
theorem jn_joined {a b x : E} (hk : a.key = b.key) (h : Jn a b x) : joined a b = (x, 0) := (joined_ok hk).2 h
theorem addC_key {l : List E} {e : E} (hl : chkC l = 0) (he : chk e = 0) : ((addC l e).2 = 0 ↔ jOk (lk l e.key) (some e)) ∧
    ((addC l e).2 = 0 → chkC (addC l e).1 = 0 ∧ ∀ k, lk (addC l e).1 k = if e.key = k then jO (lk l k) (some e) else lk l k) := by
  obtain ⟨ha, hc⟩ := val_iff.1 hl
  have hat := at_lk (k := e.key) ha
  rcases hh : hasK e.key l with _ | _
  · rw [hh, if_neg (by decide)] at hat
    rw [addC, if_neg (by rw [hh]; decide), put_ins l e hh]
    refine ⟨⟨fun _ a b h => (by rw [hat] at h; cases h), fun _ => rfl⟩, fun _ => ⟨val_iff.2 ⟨put_asc e ha, fun x hx => ?_⟩, fun k => ?_⟩⟩
    · rcases mem_put hx with rfl | hx
      · exact he
      · exact hc x hx
    · rw [lk_put e k ha]
      split
      · rename_i hk
        rw [← hk, hat]; rfl
      · rfl
  · rw [hh, if_pos rfl] at hat
    rw [addC, if_pos hh]
    generalize l.getD (plc e.key l) E.zero = x at *
    obtain ⟨hxm, hxk⟩ := lk_some hat
    constructor
    · constructor
      · intro h a b h1 h2
        rw [hat] at h1
        cases h1; cases h2
        split at h
        · assumption
        · exact absurd h (by assumption)
      · intro h
        rw [if_pos (h x e hat rfl)]
    · intro h
      have h0 : (joined x e).2 = 0 := by
        split at h
        · assumption
        · exact absurd h (by assumption)
      rw [if_pos h0]
      have hj := joined_jn hxk h0
      have hjk : (joined x e).1.key = e.key := hj.key hxk
      have hjc : chk (joined x e).1 = 0 := hj.right (hc x hxm) he
      rw [show plc e.key l = plc (joined x e).1.key l by rw [hjk], put_set l _ (by rw [hjk]; exact hh)]
      refine ⟨val_iff.2 ⟨put_asc _ ha, fun y hy => ?_⟩, fun k => ?_⟩
      · rcases mem_put hy with rfl | hy
        · exact hjc
        · exact hc y hy
      · rw [lk_put _ k ha, hjk]
        split
        · rename_i hk
          rw [← hk, hat]; rfl
        · rfl
/-- all added -/
def allC : List E → List E → List E × Int
  | l, [] => (l, 0)
  | l, e :: r => if (addC l e).2 = 0 then allC (addC l e).1 r else ([], (addC l e).2)
theorem allC_key : ∀ {m l : List E}, chkC l = 0 → chkC m = 0 → ((allC l m).2 = 0 ↔ ∀ k, jOk (lk l k) (lk m k)) ∧
    ((allC l m).2 = 0 → chkC (allC l m).1 = 0 ∧ ∀ k, lk (allC l m).1 k = jO (lk l k) (lk m k))
  | [], l, hl, _ => by
    refine ⟨⟨fun _ k a b _ h => (by rw [lk_nil] at h; cases h), fun _ => rfl⟩, fun _ => ⟨hl, fun k => ?_⟩⟩
    rw [lk_nil]
    show lk l k = _
    cases lk l k <;> rfl
  | e :: r, l, hl, hm => by
    obtain ⟨ha, hc⟩ := val_iff.1 hm
    obtain ⟨h1, h2⟩ := List.pairwise_cons.1 ha
    have he := hc e (by simp)
    have hr : chkC r = 0 := val_iff.2 ⟨h2, fun x hx => hc x (by simp [hx])⟩
    have hre : lk r e.key = none := lk_none (fun x hx => by have := h1 x hx; omega)
    obtain ⟨a1, a2⟩ := addC_key hl he
    by_cases h0 : (addC l e).2 = 0
    · obtain ⟨b1, b2⟩ := a2 h0
      obtain ⟨i1, i2⟩ := allC_key (m := r) b1 hr
      rw [allC, if_pos h0]
      constructor
      · rw [i1]
        constructor
        · intro h k x y hx hy
          rw [lk_cons] at hy
          split at hy
          · rename_i hk
            cases hy
            exact a1.1 h0 x e (by rw [hk]; exact hx) rfl
          · rename_i hk
            exact h k x y (by rw [b2, if_neg hk]; exact hx) hy
        · intro h k x y hx hy
          by_cases hk : e.key = k
          · rw [← hk, hre] at hy; cases hy
          · rw [b2, if_neg hk] at hx
            exact h k x y hx (by rw [lk_cons, if_neg hk]; exact hy)
      · intro h
        obtain ⟨j1, j2⟩ := i2 h
        refine ⟨j1, fun k => ?_⟩
        rw [j2, b2, lk_cons]
        by_cases hk : e.key = k
        · rw [if_pos hk, if_pos hk, ← hk, hre]
          cases lk l e.key <;> rfl
        · rw [if_neg hk, if_neg hk]
    · rw [allC, if_neg h0]
      refine ⟨⟨fun h => absurd h h0, fun h => absurd (a1.2 (fun a b ha hb => ?_)) h0⟩, fun h => absurd h h0⟩
      cases hb
      exact h e.key a e ha (by rw [lk_cons, if_pos rfl])
def bothR (l m : List E) : List E × Int := if chkC l = 0 then (if chkC m = 0 then allC l m else ([], chkC m)) else ([], chkC l)
theorem bothR_zero {l m : List E} (h : (bothR l m).2 = 0) : chkC l = 0 ∧ chkC m = 0 ∧ bothR l m = allC l m := by
  unfold bothR at h ⊢
  split at h
  · rename_i h1
    split at h
    · rename_i h2
      exact ⟨h1, h2, by rw [if_pos h1, if_pos h2]⟩
    · exact absurd h (by assumption)
  · exact absurd h (by assumption)
theorem bothR_val {l m : List E} (hl : chkC l = 0) (hm : chkC m = 0) : bothR l m = allC l m := by rw [bothR, if_pos hl, if_pos hm]
/-- of two caches both are the same either way round; with one of both again they are the same -/
theorem both_laws {l m x : List E} (h : bothR l m = (x, 0)) : chkC x = 0 ∧ bothR m l = (x, 0) ∧ bothR x l = (x, 0) ∧ bothR m x = (x, 0) ∧ ∀ k, lk x k = jO (lk l k) (lk m k) := by
  obtain ⟨hl, hm, hb⟩ := bothR_zero (l := l) (m := m) (by rw [h])
  rw [hb] at h
  obtain ⟨i1, i2⟩ := allC_key hl hm
  have h0 : (allC l m).2 = 0 := by rw [h]
  obtain ⟨j1, j2⟩ := i2 h0
  have hok := i1.1 h0
  rw [h] at j1 j2
  simp only at j1 j2
  have hax := (val_iff.1 j1).1
  have key : ∀ (p q : List E), chkC p = 0 → chkC q = 0 → (∀ k, jOk (lk p k) (lk q k)) → (∀ k, jO (lk p k) (lk q k) = lk x k) → bothR p q = (x, 0) := fun p q hp hq h1 h2 => by
    rw [bothR_val hp hq]
    obtain ⟨k1, k2⟩ := allC_key hp hq
    have hz := k1.2 h1
    obtain ⟨k3, k4⟩ := k2 hz
    have : (allC p q).1 = x := asc_ext (val_iff.1 k3).1 hax (fun k => by rw [k4, h2])
    rw [← this, ← hz]
  have jn : ∀ k a b, lk l k = some a → lk m k = some b → Jn a b (joined a b).1 ∧ a.key = b.key := fun k a b h1 h2 => by
    have hk : a.key = b.key := by rw [(lk_some h1).2, (lk_some h2).2]
    exact ⟨joined_jn hk (hok k a b h1 h2), hk⟩
  refine ⟨j1, key m l hm hl (fun k b a hb ha => ?_) (fun k => ?_), key x l j1 hl (fun k y a hy ha => ?_) (fun k => ?_), key m x hm j1 (fun k b y hb hy => ?_) (fun k => ?_), j2⟩
  · obtain ⟨j, hk⟩ := jn k a b ha hb
    rw [jn_joined hk.symm (j.comm hk)]
  · rw [j2]
    rcases hla : lk l k with _ | a
    · rcases hmb : lk m k with _ | b <;> rfl
    · rcases hmb : lk m k with _ | b
      · rfl
      · obtain ⟨j, hk⟩ := jn k a b hla hmb
        simp only [jO]
        rw [jn_joined hk.symm (j.comm hk)]
  · rw [j2, ha] at hy
    rcases hmb : lk m k with _ | b
    · rw [hmb] at hy
      cases hy
      rw [joined_self]
    · rw [hmb] at hy
      cases hy
      obtain ⟨j, hk⟩ := jn k a b ha hmb
      rw [jn_joined (by rw [j.key hk, hk]) (j.left hk)]
  · rw [j2]
    rcases hla : lk l k with _ | a
    · rcases hmb : lk m k with _ | b <;> rfl
    · rcases hmb : lk m k with _ | b
      · simp only [jO]
        rw [joined_self]
      · obtain ⟨j, hk⟩ := jn k a b hla hmb
        simp only [jO]
        rw [jn_joined (by rw [j.key hk, hk]) (j.left hk)]
  · rw [j2, hb] at hy
    rcases hla : lk l k with _ | a
    · rw [hla] at hy
      cases hy
      rw [joined_self]
    · rw [hla] at hy
      cases hy
      obtain ⟨j, hk⟩ := jn k a b hla hb
      rw [jn_joined (by rw [j.key hk]) ((j.again hk).comm (j.key hk))]
  · rw [j2]
    rcases hmb : lk m k with _ | b
    · rcases hla : lk l k with _ | a <;> rfl
    · rcases hla : lk l k with _ | a
      · simp only [jO]
        rw [joined_self]
      · obtain ⟨j, hk⟩ := jn k a b hla hmb
        simp only [jO]
        rw [jn_joined (by rw [j.key hk]) ((j.again hk).comm (j.key hk))]
end Go.Proofs.YtemhdfodghfkfaaGreatDoor
