/-
  PLAIN LAW OF MESHES: what a cache knows is what the store told at its time; such entries always go together. CONDITIONS: none.
-/
import Derived.Test.YtemhdfodghfkfaaGreatDoorStore2
import Derived.Test.YtemhdfodghfkfaaGreatDoorRepLaw
import Derived.Test.YtemhdfodghfkfaaGreatDoorCAll
namespace Go.Proofs.YtemhdfodghfkfaaGreatDoor
open Go.RowKit
open Go.ChangeShapes Go.WideShapes Go.ChangeAt

/-- deeds that the store takes -/
structure Deeds (D : List E) : Prop where
  key : ∀ e ∈ D, keyB e.key = true
  text : ∀ e ∈ D, e.text.size ≤ 12
  gone : ∀ e ∈ D, e.gone = true → e.text.toList = []
  len : D.length ≤ 1000
theorem Deeds.nil : Deeds [] := ⟨(fun e h => by cases h), (fun e h => by cases h), (fun e h => by cases h), by simp⟩
theorem Deeds.take {D : List E} (h : Deeds D) (q : Nat) : Deeds (D.take q) := ⟨fun e he => h.key e (List.mem_of_mem_take he), fun e he => h.text e (List.mem_of_mem_take he), fun e he => h.gone e (List.mem_of_mem_take he), by have := h.len; rw [List.length_take]; omega⟩
/-- what the last change of a key is -/
theorem refC_facts (k : Int) {D : List E} (h : Deeds D) : 0 ≤ (refC D k).seq ∧ (refC D k).seq ≤ (D.length : Int) ∧ (refC D k).text.size ≤ 12 ∧ ((refC D k).gone = true → (refC D k).text.toList = []) := by
  refine snoc_ind (P := fun D => Deeds D → 0 ≤ (refC D k).seq ∧ (refC D k).seq ≤ (D.length : Int) ∧ (refC D k).text.size ≤ 12 ∧ ((refC D k).gone = true → (refC D k).text.toList = [])) D (fun _ => ?_) (fun D e ih h => ?_) h
  · rw [show refC [] k = Ch.none from rfl]
    exact ⟨by decide, by decide, by decide, fun _ => by decide +kernel⟩
  · have hD : Deeds D := ⟨fun x hx => h.key x (List.mem_append_left _ hx), fun x hx => h.text x (List.mem_append_left _ hx), fun x hx => h.gone x (List.mem_append_left _ hx), by have := h.len; rw [List.length_append] at this; omega⟩
    have he := List.mem_append_right D (List.mem_singleton.2 (rfl : e = e))
    obtain ⟨i1, i2, i3, i4⟩ := ih hD
    rw [refC_snoc, List.length_append, List.length_singleton]
    split
    · exact ⟨by simp only; omega, by simp only; omega, h.text e he, h.gone e he⟩
    · exact ⟨i1, by omega, i3, i4⟩
/-- of a later time: the same, or later than that -/
theorem refC_mono (D : List E) (k : Int) (q : Nat) : ∀ m : Nat, q + m ≤ D.length → refC (D.take (q + m)) k = refC (D.take q) k ∨ (q : Int) < (refC (D.take (q + m)) k).seq
  | 0, _ => .inl rfl
  | m + 1, h => by
    have hlt : q + m < D.length := by omega
    rw [show q + (m + 1) = (q + m) + 1 by omega, List.take_succ_eq_append_getElem hlt, refC_snoc]
    split
    · right
      rw [List.length_take]
      simp only
      omega
    · exact refC_mono D k q m (by omega)
theorem chsOf_le (D : List E) (q : Nat) (k : Int) (hq : q ≤ D.length) : (refC (D.take q) k).seq ≤ (q : Int) := by
  have h := lastC_mem (chsOf (D.take q) k) ((D.take q).length : Int)
  have hl : ((D.take q).length : Int) = q := by rw [List.length_take]; omega
  rw [hl] at h
  unfold refC
  rw [hl]
  rcases h with h | h
  · rw [h]; show (0 : Int) ≤ _; omega
  · exact h.2
/-- what the store told at some time -/
def TrueD (D : List E) (e : E) : Prop := keyB e.key = true ∧ ∃ q : Nat, q ≤ D.length ∧ e = entC e.key q (refC (D.take q) e.key)
theorem TrueD.more {D D' : List E} {e : E} (h : TrueD D e) (hD : ∃ r, D' = D ++ r) : TrueD D' e := by
  obtain ⟨hk, q, hq, he⟩ := h
  obtain ⟨r, rfl⟩ := hD
  exact ⟨hk, q, by rw [List.length_append]; omega, by rw [List.take_append_of_le_length hq]; exact he⟩
theorem TrueD.chk {D : List E} {e : E} (hD : Deeds D) (h : TrueD D e) : chk e = 0 := by
  obtain ⟨hk, q, hq, he⟩ := h
  obtain ⟨i1, i2, i3, i4⟩ := refC_facts e.key (hD.take q)
  have hl := hD.len
  rw [List.length_take] at i2
  rw [he]
  exact chk_zero.2 ⟨hk, seqB_true.2 ⟨i1, by show (refC _ _).seq ≤ 1000; omega⟩, seqB_true.2 ⟨by show (0 : Int) ≤ (q : Int); omega, by show (q : Int) ≤ 1000; omega⟩, by show (refC _ _).seq ≤ (q : Int); omega, i3, i4⟩
theorem TrueD.asof {D : List E} {e : E} (h : TrueD D e) : 0 ≤ e.asof ∧ e.asof ≤ (D.length : Int) := by
  obtain ⟨_, q, hq, he⟩ := h
  rw [he]
  exact ⟨by show (0 : Int) ≤ (q : Int); omega, by show (q : Int) ≤ _; omega⟩
theorem TrueD.now {D : List E} {k : Int} (hk : keyB k = true) : TrueD D (entC k D.length (refC D k)) := ⟨hk, D.length, Nat.le_refl _, by rw [List.take_length]; rfl⟩
/-- of two the later one is newer -/
theorem TrueD.le {D : List E} {a b : E} (ha : TrueD D a) (hb : TrueD D b) (hk : a.key = b.key) (h : a.asof ≤ b.asof) : Jn a b b := by
  obtain ⟨_, q, hq, he⟩ := ha
  obtain ⟨_, p, hp, hf⟩ := hb
  have e1 : a.asof = q := by rw [he]; rfl
  have f1 : b.asof = p := by rw [hf]; rfl
  have e0 : a.ver = (refC (D.take q) a.key).seq := by rw [he]; rfl
  have f0 : b.ver = (refC (D.take p) b.key).seq := by rw [hf]; rfl
  have e2 : a.gone = (refC (D.take q) a.key).gone := by rw [he]; rfl
  have f2 : b.gone = (refC (D.take p) b.key).gone := by rw [hf]; rfl
  have e3 : a.text = (refC (D.take q) a.key).text := by rw [he]; rfl
  have f3 : b.text = (refC (D.take p) b.key).text := by rw [hf]; rfl
  have hm := refC_mono D a.key q (p - q) (by omega)
  rw [show q + (p - q) = p by omega] at hm
  rw [Jn.top]
  rcases hm with hm | hm
  · exact .inl ⟨by rw [e0, f0, ← hk, hm], by rw [e2, f2, ← hk, hm], by rw [e3, f3, ← hk, hm], h⟩
  · rw [hk, ← f0] at hm
    have hv : a.ver ≤ (q : Int) := by
      have hs := chsOf_le D q a.key hq
      omega
    exact .inr ⟨by omega, by omega⟩
/-- both of what is true is true, and never clashes -/
theorem TrueD.join {D : List E} {a b : E} (ha : TrueD D a) (hb : TrueD D b) (hk : a.key = b.key) : (joined a b).2 = 0 ∧ TrueD D (joined a b).1 := by
  rcases Int.le_total a.asof b.asof with h | h
  · rw [jn_joined hk (ha.le hb hk h)]
    exact ⟨rfl, hb⟩
  · have hj : Jn a b a := (hb.le ha hk.symm h).comm hk.symm
    rw [jn_joined hk hj]
    exact ⟨rfl, ha⟩
/-- a right cache of what was so -/
def CacheD (D : List E) (l : List E) : Prop := chkC l = 0 ∧ ∀ e ∈ l, TrueD D e
theorem CacheD.nil (D : List E) : CacheD D [] := ⟨by decide +kernel, fun e he => by cases he⟩
theorem CacheD.more {D D' l : List E} (h : CacheD D l) (hD : ∃ r, D' = D ++ r) : CacheD D' l := ⟨h.1, fun e he => (h.2 e he).more hD⟩
theorem lk_mem0 : ∀ {l : List E} {x : E}, Asc l → x ∈ l → lk l x.key = some x
  | y :: r, x, h, hx => by
    obtain ⟨h1, h2⟩ := List.pairwise_cons.1 h
    rw [lk_cons]
    rcases List.mem_cons.1 hx with rfl | hx
    · rw [if_pos rfl]
    · rw [if_neg (by have := h1 x hx; omega), lk_mem0 h2 hx]
theorem lk_mem {l : List E} {e : E} (hl : chkC l = 0) (he : e ∈ l) : lk l e.key = some e := lk_mem0 (val_iff.1 hl).1 he
theorem CacheD.add {D l : List E} {e : E} (hD : Deeds D) (h : CacheD D l) (he : TrueD D e) : (addC l e).2 = 0 ∧ CacheD D (addC l e).1 ∧ ∀ k, lk (addC l e).1 k = if e.key = k then jO (lk l k) (some e) else lk l k := by
  obtain ⟨i1, i2⟩ := addC_key h.1 (he.chk hD)
  have h0 : (addC l e).2 = 0 := i1.2 (fun a b ha hb => by
    cases hb
    obtain ⟨hm, hk⟩ := lk_some ha
    exact ((h.2 a hm).join he hk).1)
  obtain ⟨i3, i4⟩ := i2 h0
  refine ⟨h0, ⟨i3, fun x hx => ?_⟩, i4⟩
  have := lk_mem i3 hx
  rw [i4 x.key] at this
  split at this
  · rename_i hk
    rcases ha : lk l x.key with _ | a
    · rw [ha] at this
      injection this with this
      rw [← this]; exact he
    · rw [ha] at this
      injection this with this
      obtain ⟨hm, hka⟩ := lk_some ha
      rw [← this]
      exact ((h.2 a hm).join he (hka.trans hk.symm)).2
  · exact h.2 x (lk_some this).1
theorem CacheD.all {D : List E} (hD : Deeds D) : ∀ {m l : List E}, CacheD D l → (∀ e ∈ m, TrueD D e) → (allC l m).2 = 0 ∧ CacheD D (allC l m).1
  | [], _, h, _ => ⟨rfl, h⟩
  | e :: m, l, h, hm => by
    obtain ⟨h0, h1, _⟩ := h.add hD (hm e (List.mem_cons_self ..))
    rw [allC, if_pos h0]
    exact CacheD.all hD h1 (fun x hx => hm x (List.mem_cons_of_mem _ hx))
/-- what was just learnt is the newest -/
theorem CacheD.learn {D l : List E} {k : Int} (hD : Deeds D) (h : CacheD D l) (hk : keyB k = true) : lk (addC l (entC k D.length (refC D k))).1 k = some (entC k D.length (refC D k)) := by
  obtain ⟨_, _, h2⟩ := h.add hD (TrueD.now hk)
  rw [h2 k, if_pos (show (entC k (D.length : Int) (refC D k)).key = k from rfl)]
  rcases ha : lk l k with _ | a
  · rfl
  · obtain ⟨hm, hka⟩ := lk_some ha
    have ht := h.2 a hm
    show some (joined a _).1 = _
    rw [jn_joined hka (ht.le (TrueD.now hk) hka (by show a.asof ≤ (D.length : Int); exact ht.asof.2))]
end Go.Proofs.YtemhdfodghfkfaaGreatDoor
