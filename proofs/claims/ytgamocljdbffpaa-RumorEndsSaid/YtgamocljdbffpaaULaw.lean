/-
  PLAIN LAWS of rumors: what is wrong with some, one added, in which order they are told, and what is left. CONDITIONS: none.
-/
import Derived.Test.YtgamocljdbffpaaRum
import Derived.Test.YtgamocljdbffpaaVLaw
import Derived.Test.YtgamocljdbffpaaSortK
namespace Go.Proofs.Ytgamocljdbffpaa
open Go.RowKit
open Go.ChangeShapes Go.WideShapes Go.ChangeAt
open Go.Sort (insertionSort SWO)

def U.mem (u : U) : M := ⟨u.node, u.life, u.state⟩
def U.of (m : M) : U := ⟨m.node, m.life, m.state, 0⟩
instance : Inhabited U := ⟨U.zero⟩
def um (l : List U) : List M := l.map U.mem
theorem um_length (l : List U) : (um l).length = l.length := by simp [um]
theorem um_getD (l : List U) (i : Nat) : (um l).getD i M.zero = (l.getD i U.zero).mem := by
  unfold um
  rw [List.getD, List.getElem?_map, List.getD]
  cases l[i]? <;> rfl
theorem mem_um {l : List U} {u : U} (h : u ∈ l) : u.mem ∈ um l := List.mem_map_of_mem h
def turnB (t : Int) : Bool := decide (0 ≤ t) && decide (t ≤ 60)
theorem turnB_true {t : Int} : turnB t = true ↔ 0 ≤ t ∧ t ≤ 60 := by simp [turnB]
def okU (u : U) : Bool := rightB u.mem && turnB u.told
theorem okU_true {u : U} : okU u = true ↔ rightB u.mem = true ∧ 0 ≤ u.told ∧ u.told ≤ 60 := by
  rw [okU, Bool.and_eq_true, turnB_true]
theorem eqbU_iff {y x : U} : eqbU y x = true ↔ y = x := by
  constructor
  · intro h
    obtain ⟨y0, y1, y2, y3⟩ := y
    obtain ⟨x0, x1, x2, x3⟩ := x
    simp only [eqbU, decide_eq_true_eq] at h
    obtain ⟨rfl, rfl, rfl, rfl⟩ := h
    rfl
  · rintro rfl; exact eqbU_refl _
/-- what is wrong with some -/
def chkUs : Option Int → List U → Int
  | _, [] => 0
  | p, e :: r => if okU e = true then (if vlow p e.node = true then 3 else chkUs (some e.node) r) else 1
def chkU (l : List U) : Int := if 6 < l.length then 4 else chkUs none l
theorem chkUs_ok : ∀ (l : List U) (p : Option Int), chkUs p l = 0 → (∀ e ∈ l, okU e = true) ∧ chkVs p (um l) = 0
  | [], p, _ => ⟨by simp, rfl⟩
  | e :: r, p, h => by
    rw [chkUs] at h
    split at h
    · rename_i he
      split at h
      · cases h
      · rename_i hl
        obtain ⟨h1, h2⟩ := chkUs_ok r _ h
        refine ⟨by simpa [he] using h1, ?_⟩
        show chkVs p (e.mem :: um r) = 0
        rw [chkVs, if_pos (okU_true.1 he).1]
        exact (if_neg hl).trans h2
    · cases h
theorem chkUs_mk : ∀ (l : List U) (p : Option Int), chkVs p (um l) = 0 → (∀ e ∈ l, okU e = true) → chkUs p l = 0
  | [], _, _, _ => rfl
  | e :: r, p, h, hc => by
    have h : chkVs p (e.mem :: um r) = 0 := h
    rw [chkVs, if_pos (okU_true.1 (hc e (by simp))).1] at h
    rw [chkUs, if_pos (hc e (by simp))]
    split at h
    · cases h
    · rename_i hl
      have hl' : ¬ vlow p e.node = true := hl
      rw [if_neg hl']
      exact chkUs_mk r _ h (fun x hx => hc x (by simp [hx]))
theorem uval_iff {l : List U} : chkU l = 0 ↔ chkV (um l) = 0 ∧ ∀ e ∈ l, okU e = true := by
  unfold chkU chkV
  rw [um_length]
  by_cases h : 6 < l.length
  · rw [if_pos h, if_pos h]
    exact ⟨fun h => absurd h (by decide), fun h => absurd h.1 (by decide)⟩
  · rw [if_neg h, if_neg h]
    exact ⟨fun h => (chkUs_ok l none h).symm, fun h => chkUs_mk l none h.1 h.2⟩
theorem ok_good {u : U} (h : okU u = true) : u.good := by
  have := okU_true.1 h
  have h2 := right_good this.1
  exact ⟨h2.1, h2.2.1, h2.2.2, by omega⟩
theorem uval_good {l : List U} (h : chkU l = 0) : ∀ e ∈ l, e.good := fun e he => ok_good ((uval_iff.1 h).2 e he)

/-! ### one added -/
def addU (l : List U) (m : M) : List U × Bool :=
  if vhas m.node (um l) = true then (if aboveB m (l.getD (vplc m.node (um l)) U.zero).mem = true then (l.set (vplc m.node (um l)) (U.of m), true) else (l, false))
  else (l.take (vplc m.node (um l)) ++ U.of m :: l.drop (vplc m.node (um l)), true)
theorem um_addU (l : List U) (m : M) : um (addU l m).1 = (addV (um l) m).1 ∧ (addU l m).2 = (addV (um l) m).2 := by
  unfold addU addV
  rw [um_getD]
  split
  · split
    · exact ⟨by simp only [um, List.map_set]; rfl, rfl⟩
    · exact ⟨rfl, rfl⟩
  · refine ⟨?_, rfl⟩
    simp only [um, List.map_append, List.map_take, List.map_cons, List.map_drop]
    rfl
theorem addU_mem {l : List U} {m : M} {u : U} (h : u ∈ (addU l m).1) : u = U.of m ∨ u ∈ l := by
  unfold addU at h
  split at h
  · split at h
    · exact (List.mem_or_eq_of_mem_set h).symm
    · exact .inr h
  · simp only at h
    rcases List.mem_append.1 h with h | h
    · exact .inr (List.mem_of_mem_take h)
    · rcases List.mem_cons.1 h with h | h
      · exact .inl h
      · exact .inr (List.mem_of_mem_drop h)
theorem of_ok {m : M} (h : rightB m = true) : okU (U.of m) = true := okU_true.2 ⟨h, by show (0 : Int) ≤ 0; omega, by show (0 : Int) ≤ 60; omega⟩
theorem addU_ok {l : List U} {m : M} (hl : chkU l = 0) (hm : rightB m = true) : chkU (addU l m).1 = 0 := by
  obtain ⟨h1, h2⟩ := uval_iff.1 hl
  refine uval_iff.2 ⟨?_, fun e he => ?_⟩
  · rw [(um_addU l m).1]; exact (addV_key h1 hm).1
  · rcases addU_mem he with rfl | he
    · exact of_ok hm
    · exact h2 e he
def addUR (l : List U) (m : M) : (List U × Bool) × Int := if chkU l = 0 then (if rightB m = true then (addU l m, 0) else (([], false), 1)) else (([], false), chkU l)
theorem addUR_good (l : List U) (m : M) : ∀ y ∈ (addUR l m).1.1, y.good := by
  unfold addUR
  split
  · rename_i h1
    split
    · rename_i h2
      exact uval_good (addU_ok h1 h2)
    · simp
  · simp

/-! ### in which order they are told -/
def ltU (x y : U) : Bool := decide (x.told < y.told)
def ltN (x y : U) : Bool := decide (x.told < y.told ∨ (x.told = y.told ∧ x.node < y.node))
theorem ltN_true {x y : U} : ltN x y = true ↔ x.told < y.told ∨ (x.told = y.told ∧ x.node < y.node) := by simp [ltN]
theorem ltN_false {x y : U} : ltN x y = false ↔ ¬ (x.told < y.told ∨ (x.told = y.told ∧ x.node < y.node)) := by rw [← Bool.not_eq_true, ltN_true]
theorem swo_ltN : SWO ltN where
  irrefl x := ltN_false.2 (by omega)
  trans x y z h1 h2 := by rw [ltN_true] at *; omega
  ntrans x y z h1 h2 := by rw [ltN_false] at *; omega
def ordU (l : List U) : List U := (insertionSort ltU l.toArray 0 l.length).toList
abbrev UAsc (l : List U) : Prop := l.Pairwise (fun a b => a.node < b.node)
theorem uasc_um {l : List U} : VAsc (um l) ↔ UAsc l := by
  unfold VAsc UAsc um
  rw [List.pairwise_map]
  rfl
theorem uasc_of {l : List U} (h : chkU l = 0) : UAsc l := uasc_um.1 (vval_iff.1 (uval_iff.1 h).1).1
theorem uasc_inj {l : List U} (h : UAsc l) : ∀ {x y : U}, x ∈ l → y ∈ l → x.node = y.node → x = y := fun {x y} hx hy he => by
  obtain ⟨i, hi, rfl⟩ := List.getElem_of_mem hx
  obtain ⟨j, hj, rfl⟩ := List.getElem_of_mem hy
  have hp := List.pairwise_iff_getElem.1 h
  rcases Nat.lt_trichotomy i j with hlt | rfl | hgt
  · have := hp i j hi hj hlt; omega
  · rfl
  · have := hp j i hj hi hgt; omega
theorem ordU_perm {l : List U} (h : UAsc l) : (ordU l).Perm l :=
  (Go.Proofs.Ytgamocljdbffpaa.insertionSort_two ltU ltN (fun x y => x.node < y.node) (fun x y hxy => by
    unfold ltU ltN
    rw [Bool.eq_iff_iff]
    simp
    omega) swo_ltN l h).1
theorem ordU_asc {l : List U} (h : UAsc l) : (ordU l).Pairwise (fun x y => ltN x y = true) := by
  have h2 := (Go.Proofs.Ytgamocljdbffpaa.insertionSort_two ltU ltN (fun x y => x.node < y.node) (fun x y hxy => by
    unfold ltU ltN
    rw [Bool.eq_iff_iff]
    simp
    omega) swo_ltN l h).2
  have hp := ordU_perm h
  have hnd : (ordU l).Pairwise (fun x y => x.node ≠ y.node) := by
    refine (hp.pairwise_iff (fun {x y} hxy => fun e => hxy e.symm)).2 ?_
    exact h.imp (fun {a b} hab => by omega)
  have h3 := h2.and hnd
  exact h3.imp (fun {a b} hab => by
    have h4 := ltN_false.1 hab.1
    have h5 := hab.2
    exact ltN_true.2 (by omega))
theorem ordU_length {l : List U} (h : UAsc l) : (ordU l).length = l.length := (ordU_perm h).length_eq
/-- which are told -/
def selU (l : List U) (k : Nat) (u : U) : Bool := ((ordU l).take k).any (fun y => eqbU y u)
theorem selU_iff {l : List U} {k : Nat} {u : U} : selU l k u = true ↔ u ∈ (ordU l).take k := by
  unfold selU
  rw [List.any_eq_true]
  constructor
  · rintro ⟨y, hy, he⟩
    rw [← eqbU_iff.1 he]; exact hy
  · exact fun h => ⟨u, h, eqbU_refl _⟩
/-- who is told stands ahead of who is not -/
theorem selU_lt {l : List U} (h : UAsc l) {k : Nat} {x y : U} (hx : selU l k x = true) (hy : selU l k y = false) (hyl : y ∈ l) : ltN x y = true := by
  have hx' := selU_iff.1 hx
  have hy' : y ∈ (ordU l).drop k := by
    have : y ∈ ordU l := (ordU_perm h).mem_iff.2 hyl
    rw [← List.take_append_drop k (ordU l)] at this
    rcases List.mem_append.1 this with h1 | h1
    · rw [selU_iff.2 h1] at hy; cases hy
    · exact h1
  have hp := ordU_asc h
  rw [← List.take_append_drop k (ordU l)] at hp
  exact (List.pairwise_append.1 hp).2.2 x hx' y hy'
/-- how many are told -/
theorem selU_count {l : List U} (h : UAsc l) (k : Nat) : (l.filter (selU l k)).length = min k l.length := by
  have hnd : (ordU l).Nodup := (ordU_asc h).imp (fun {a b} hab he => by
    subst he
    have := ltN_true.1 hab
    omega)
  have h1 : (l.filter (selU l k)).length = ((ordU l).filter (selU l k)).length := ((ordU_perm h).filter _).length_eq.symm
  have h2 : (ordU l).filter (selU l k) = (ordU l).take k := by
    conv => lhs; arg 2; rw [← List.take_append_drop k (ordU l)]
    rw [List.filter_append, List.filter_eq_self.2 (fun a ha => selU_iff.2 ha), List.filter_eq_nil_iff.2 (fun a ha hs => ?_), List.append_nil]
    rw [← List.take_append_drop k (ordU l)] at hnd
    exact (List.nodup_append.1 hnd).2.2 a (selU_iff.1 hs) a ha rfl
  rw [h1, h2, List.length_take, ordU_length h]

/-! ### what is told, and what is left -/
def leftU (l : List U) (k : Nat) (limit : Int) (u : U) : List U := if selU l k u = true then (if u.told + 1 < limit then [⟨u.node, u.life, u.state, u.told + 1⟩] else []) else [u]
def toldU (l : List U) (k : Nat) (u : U) : List M := if selU l k u = true then [u.mem] else []
def pickU (l : List U) (k : Nat) (limit : Int) : List M × List U := (l.flatMap (toldU l k), l.flatMap (leftU l k limit))
theorem toldU_filter (l : List U) (k : Nat) (m : List U) : m.flatMap (toldU l k) = (m.filter (selU l k)).map U.mem := by
  induction m with
  | nil => rfl
  | cons a r ih =>
    rw [List.flatMap_cons, ih, toldU]
    split
    · rename_i h
      rw [List.filter_cons_of_pos h]; rfl
    · rename_i h
      rw [List.filter_cons_of_neg h]; rfl
theorem leftU_mem {l : List U} {k : Nat} {limit : Int} {u x : U} (h : x ∈ leftU l k limit u) : x.node = u.node ∧ x.mem = u.mem ∧ ((selU l k u = true ∧ u.told + 1 < limit ∧ x.told = u.told + 1) ∨ (selU l k u = false ∧ x = u)) := by
  unfold leftU at h
  split at h
  · rename_i h1
    split at h
    · rename_i h2
      rw [List.mem_singleton] at h
      subst h
      exact ⟨rfl, rfl, .inl ⟨h1, h2, rfl⟩⟩
    · cases h
  · rename_i h1
    rw [List.mem_singleton] at h
    subst h
    exact ⟨rfl, rfl, .inr ⟨by simpa using h1, rfl⟩⟩
theorem leftU_len (l : List U) (k : Nat) (limit : Int) (u : U) : (leftU l k limit u).length ≤ 1 := by
  unfold leftU
  split
  · split <;> simp
  · simp
theorem flat_le {α β : Type} (f : α → List β) (hf : ∀ a, (f a).length ≤ 1) (l : List α) : (l.flatMap f).length ≤ l.length := by
  induction l with
  | nil => simp
  | cons a r ih =>
    rw [List.flatMap_cons, List.length_append, List.length_cons]
    have := hf a
    omega
theorem left_asc {l : List U} {k : Nat} {limit : Int} : ∀ {m : List U}, UAsc m → UAsc (m.flatMap (leftU l k limit))
  | [], _ => List.Pairwise.nil
  | a :: r, h => by
    obtain ⟨h1, h2⟩ := List.pairwise_cons.1 h
    rw [List.flatMap_cons]
    refine List.pairwise_append.2 ⟨?_, left_asc h2, fun x hx y hy => ?_⟩
    · have := leftU_len l k limit a
      generalize leftU l k limit a = q at this
      match q, this with
      | [], _ => exact List.Pairwise.nil
      | [b], _ => exact List.pairwise_singleton _ _
    · obtain ⟨z, hz, hy⟩ := List.mem_flatMap.1 hy
      rw [(leftU_mem hx).1, (leftU_mem hy).1]
      exact h1 z hz
theorem left_ok {l : List U} {k : Nat} {limit : Int} (h : chkU l = 0) (hl : limit ≤ 60) : chkU (l.flatMap (leftU l k limit)) = 0 := by
  obtain ⟨h1, h2⟩ := uval_iff.1 h
  have hok : ∀ e ∈ l.flatMap (leftU l k limit), okU e = true := fun e he => by
    obtain ⟨z, hz, he⟩ := List.mem_flatMap.1 he
    obtain ⟨-, g2, g3⟩ := leftU_mem he
    have hzk := okU_true.1 (h2 z hz)
    refine okU_true.2 ⟨by rw [g2]; exact hzk.1, ?_⟩
    rcases g3 with ⟨-, g4, g5⟩ | ⟨-, rfl⟩
    · omega
    · omega
  refine uval_iff.2 ⟨vval_iff.2 ⟨uasc_um.2 (left_asc (uasc_of h)), fun e he => ?_⟩, hok⟩
  obtain ⟨z, hz, rfl⟩ := List.mem_map.1 he
  exact (okU_true.1 (hok z hz)).1
def pickUR (l : List U) (many limit : Int) : (List M × List U) × Int :=
  if chkU l = 0 then (if 0 ≤ many ∧ many ≤ 6 ∧ 1 ≤ limit ∧ limit ≤ 60 then (pickU l many.toNat limit, 0) else (([], []), 1)) else (([], []), chkU l)
end Go.Proofs.Ytgamocljdbffpaa
