/-
  CONTRACTS of package tomb: Caches, Key. CONDITIONS: none.
  CONTRACT of repair.Read. CONDITIONS: none.
  PLAIN LAW OF REPAIRS: behind a repair each cache has what was read. CONDITIONS: none.
-/
import Derived.Test.YtemhdfodghfkfaaGreatDoorCCheck
import Derived.Test.YtemhdfodghfkfaaGreatDoorCLaw
namespace Go.Proofs.YtemhdfodghfkfaaGreatDoor
open Go.RowKit
open Go.ChangeShapes Go.WideShapes Go.ChangeAt

/-- caches as they came in -/
structure CachesAt (w : World) (s : SlV (SlV E)) : Prop where
  row : 0 < s.xs.length → ∃ b off, s.A = some ⟨b, off, none⟩ ∧ b < w.heap.size ∧ ∀ i (hi : i < s.xs.length), w.cell? ⟨b, off + i, none⟩ = some (.slice s.xs[i].A s.xs[i].xs.length s.xs[i].c)
  each : ∀ i (hi : i < s.xs.length), EntriesAt w s.xs[i]
  len : s.xs.length ≤ maxLen
theorem CachesAt.stays {w w' : World} {s : SlV (SlV E)} (h : CachesAt w s) (hb : Below w.heap.size w w') : CachesAt w' s := ⟨fun h0 => by
    obtain ⟨b', off', h1, h2, h3⟩ := h.row h0
    exact ⟨b', off', h1, Nat.lt_of_lt_of_le h2 hb.size, fun i hi => (hb.cell (p := ⟨b', _, none⟩) h2).trans (h3 i hi)⟩, fun i hi => (h.each i hi).stays hb, h.len⟩

def chkTs : List (SlV E) → Int
  | [] => 0
  | c :: r => if chkC c.xs = 0 then chkTs r else chkC c.xs
def chkT (l : List (SlV E)) : Int := if l.length = 0 then 5 else if 6 < l.length then 4 else chkTs l
def chkTK (l : List (SlV E)) (k : Int) : Int := if chkT l = 0 then (if keyB k = true then 0 else 1) else chkT l

end Go.Proofs.YtemhdfodghfkfaaGreatDoor
namespace Go.Proofs.YtemhdfodghfkfaaGreatDoor
open Go.RowKit
open Go.ChangeShapes Go.WideShapes Go.ChangeAt

/-- what is read: what was found so far, and the caches left -/
def readG (k : Int) : Bool → E → List (SlV E) → E × Int
  | f, o, [] => if f = true then (o, 0) else (E.zero, 5)
  | f, o, c :: r =>
    if hasK k c.xs = true then
      (if f = true then (if (joined o (c.xs.getD (plc k c.xs) E.zero)).2 = 0 then readG k true (joined o (c.xs.getD (plc k c.xs) E.zero)).1 r else (E.zero, (joined o (c.xs.getD (plc k c.xs) E.zero)).2))
       else readG k true (c.xs.getD (plc k c.xs) E.zero) r)
    else readG k f o r
def readR (l : List (SlV E)) (k : Int) : E × Int := if chkTK l k = 0 then readG k false E.zero l else (E.zero, chkTK l k)
theorem chkTs_ok : ∀ {l : List (SlV E)}, chkTs l = 0 → ∀ c ∈ l, chkC c.xs = 0
  | [], _ => by simp
  | c :: r, h => by
    rw [chkTs] at h
    split at h
    · rename_i h1
      intro x hx
      rcases List.mem_cons.1 hx with rfl | hx
      · exact h1
      · exact chkTs_ok h x hx
    · rename_i h1
      exact absurd h h1
theorem chkTK_ok {l : List (SlV E)} {k : Int} (h : chkTK l k = 0) : (1 ≤ l.length ∧ l.length ≤ 6) ∧ (∀ c ∈ l, chkC c.xs = 0) ∧ keyB k = true := by
  unfold chkTK at h
  split at h
  · rename_i h1
    split at h
    · rename_i h2
      unfold chkT at h1
      split at h1
      · cases h1
      · split at h1
        · cases h1
        · exact ⟨by omega, chkTs_ok h1, h2⟩
    · cases h
  · rename_i h1
    exact absurd h h1

end Go.Proofs.YtemhdfodghfkfaaGreatDoor
namespace Go.Proofs.YtemhdfodghfkfaaGreatDoor
open Go.RowKit
open Go.ChangeShapes Go.WideShapes Go.ChangeAt

theorem Jn.top {y x : E} : Jn y x x ↔ (y.ver = x.ver ∧ y.gone = x.gone ∧ y.text = x.text ∧ y.asof ≤ x.asof) ∨ (y.ver < x.ver ∧ y.asof < x.ver) := by
  constructor
  · rintro (⟨h1, h2, h3, h4⟩ | ⟨h1, h2, _⟩ | ⟨h1, _, h3⟩)
    · have h5 : x.asof = max y.asof x.asof := congrArg E.asof h4
      exact .inl ⟨h1, h2, h3, by omega⟩
    · exact .inr ⟨h1, h2⟩
    · rw [h3] at h1; omega
  · rintro (⟨h1, h2, h3, h4⟩ | ⟨h1, h2⟩)
    · refine Or.inl ⟨h1, h2, h3, ?_⟩
      rw [show max y.asof x.asof = x.asof by omega]
    · exact Or.inr (.inl ⟨h1, h2, rfl⟩)
theorem Jn.refl (a : E) : Jn a a a := Jn.top.2 (.inl ⟨rfl, rfl, rfl, Int.le_refl _⟩)
/-- what both come to stays the newest of both -/
theorem Jn.up {a b o x : E} (h1 : Jn a b o) (h2 : Jn o x x) (ha : chk a = 0) (hb : chk b = 0) : Jn a x x ∧ Jn b x x := by
  have fa := chk_facts ha
  have fb := chk_facts hb
  clear ha hb
  rw [Jn.top] at h2 ⊢
  rw [Jn.top]
  rcases h1 with ⟨e1, e2, e3, rfl⟩ | ⟨e1, e2, rfl⟩ | ⟨e1, e2, rfl⟩ <;>
  rcases h2 with ⟨j1, j2, j3, j4⟩ | ⟨j1, j2⟩ <;> (try simp only at j1 j2)
  · simp only at j3 j4
    exact ⟨.inl ⟨by omega, e2.trans j2, e3.trans j3, by omega⟩, .inl ⟨by omega, j2, j3, by omega⟩⟩
  · exact ⟨.inr ⟨by omega, by omega⟩, .inr ⟨by omega, by omega⟩⟩
  · exact ⟨.inr ⟨by omega, by omega⟩, .inl ⟨j1, j2, j3, j4⟩⟩
  · exact ⟨.inr ⟨by omega, by omega⟩, .inr ⟨by omega, by omega⟩⟩
  · exact ⟨.inl ⟨j1, j2, j3, j4⟩, .inr ⟨by omega, by omega⟩⟩
  · exact ⟨.inr ⟨by omega, by omega⟩, .inr ⟨by omega, by omega⟩⟩

theorem readG_cons (k : Int) (f : Bool) (o : E) (c : SlV E) (r : List (SlV E)) (hc : chkC c.xs = 0) :
    readG k f o (c :: r) = match lk c.xs k with
      | some e => if f = true then (if (joined o e).2 = 0 then readG k true (joined o e).1 r else (E.zero, (joined o e).2)) else readG k true e r
      | none => readG k f o r := by
  rw [readG, at_lk (val_iff.1 hc).1]
  rcases hasK k c.xs with _ | _
  · rw [if_neg (by decide), if_neg (by decide)]
  · rw [if_pos rfl, if_pos rfl]
/-- what is read is the newest of all -/
theorem readG_spec (k : Int) : ∀ (l : List (SlV E)) (f : Bool) (o x : E), (∀ c ∈ l, chkC c.xs = 0) → (f = true → chk o = 0 ∧ o.key = k) → readG k f o l = (x, 0) →
    chk x = 0 ∧ x.key = k ∧ (f = true → Jn o x x) ∧ ∀ c ∈ l, ∀ y, lk c.xs k = some y → Jn y x x
  | [], f, o, x, _, hf, h => by
    rw [readG] at h
    split at h
    · rename_i hft
      injection h with h1 _
      subst h1
      exact ⟨(hf hft).1, (hf hft).2, fun _ => Jn.refl o, fun c hc => by cases hc⟩
    · injection h with _ h2
      cases h2
  | c :: r, f, o, x, hc, hf, h => by
    have hcc := hc c (List.mem_cons_self ..)
    have hr := fun d hd => hc d (List.mem_cons_of_mem _ hd)
    rw [readG_cons k f o c r hcc] at h
    rcases hl : lk c.xs k with _ | e
    · rw [hl] at h
      obtain ⟨h1, h2, h3, h4⟩ := readG_spec k r f o x hr hf h
      refine ⟨h1, h2, h3, fun d hd y hy => ?_⟩
      rcases List.mem_cons.1 hd with rfl | hd
      · rw [hl] at hy; cases hy
      · exact h4 d hd y hy
    · rw [hl] at h
      simp only at h
      obtain ⟨hem, hek⟩ := lk_some hl
      have hce := (val_iff.1 hcc).2 e hem
      rcases f with _ | _
      · rw [if_neg (by decide)] at h
        obtain ⟨h1, h2, h3, h4⟩ := readG_spec k r true e x hr (fun _ => ⟨hce, hek⟩) h
        refine ⟨h1, h2, fun hf => (by cases hf), fun d hd y hy => ?_⟩
        rcases List.mem_cons.1 hd with rfl | hd
        · rw [hl] at hy; cases hy; exact h3 rfl
        · exact h4 d hd y hy
      · obtain ⟨hco, hok⟩ := hf rfl
        rw [if_pos rfl] at h
        split at h
        · rename_i h0
          have hj := joined_jn (hok.trans hek.symm) h0
          have hjk := hj.key (hok.trans hek.symm)
          obtain ⟨h1, h2, h3, h4⟩ := readG_spec k r true _ x hr (fun _ => ⟨hj.right hco hce, hjk.trans hek⟩) h
          obtain ⟨u1, u2⟩ := hj.up (h3 rfl) hco hce
          refine ⟨h1, h2, fun _ => u1, fun d hd y hy => ?_⟩
          rcases List.mem_cons.1 hd with rfl | hd
          · rw [hl] at hy; cases hy; exact u2
          · exact h4 d hd y hy
        · rename_i h0
          injection h with _ h2
          exact absurd h2 h0
theorem readR_zero {l : List (SlV E)} {k : Int} {x : E} (h : readR l k = (x, 0)) : chkTK l k = 0 ∧ readG k false E.zero l = (x, 0) := by
  unfold readR at h
  split at h
  · exact ⟨by assumption, h⟩
  · injection h with _ h2
    exact absurd h2 (by assumption)
/-- what is read, added to each -/
theorem repair_add {l : List (SlV E)} {k : Int} {x : E} (h : readR l k = (x, 0)) : chk x = 0 ∧ x.key = k ∧ ∀ c ∈ l, (addC c.xs x).2 = 0 ∧ chkC (addC c.xs x).1 = 0 ∧ lk (addC c.xs x).1 k = some x := by
  obtain ⟨hc, hg⟩ := readR_zero h
  obtain ⟨_, hch, hk⟩ := chkTK_ok hc
  obtain ⟨h1, h2, _, h4⟩ := readG_spec k l false E.zero x hch (fun h => by cases h) hg
  refine ⟨h1, h2, fun c hcm => ?_⟩
  obtain ⟨i1, i2⟩ := addC_key (hch c hcm) h1
  have h0 : (addC c.xs x).2 = 0 := i1.2 (fun a b ha hb => by
    cases hb
    rw [h2] at ha
    have hj := h4 c hcm a ha
    rw [jn_joined ((lk_some ha).2.trans h2.symm) hj])
  obtain ⟨i3, i4⟩ := i2 h0
  refine ⟨h0, i3, ?_⟩
  rw [i4 k, if_pos h2]
  rcases ha : lk c.xs k with _ | a
  · rfl
  · show some (joined a x).1 = some x
    rw [jn_joined ((lk_some ha).2.trans h2.symm) (h4 c hcm a ha)]
/-- of caches that all have it, it is read again -/
theorem read_again {k : Int} {x : E} : ∀ {m : List (SlV E)}, (∀ c ∈ m, chkC c.xs = 0 ∧ lk c.xs k = some x) → readG k true x m = (x, 0)
  | [], _ => by rw [readG, if_pos rfl]
  | c :: r, h => by
    obtain ⟨h1, h2⟩ := h c (List.mem_cons_self ..)
    rw [readG_cons k true x c r h1, h2]
    simp only
    rw [if_pos trivial, jn_joined rfl (Jn.refl x), if_pos rfl]
    exact read_again (fun d hd => h d (List.mem_cons_of_mem _ hd))
theorem chkTs_mk : ∀ {m : List (SlV E)}, (∀ c ∈ m, chkC c.xs = 0) → chkTs m = 0
  | [], _ => rfl
  | c :: r, h => by
    rw [chkTs, if_pos (h c (List.mem_cons_self ..))]
    exact chkTs_mk (fun d hd => h d (List.mem_cons_of_mem _ hd))
theorem chkTK_mk {m : List (SlV E)} {k : Int} (h1 : 1 ≤ m.length) (h6 : m.length ≤ 6) (h : ∀ c ∈ m, chkC c.xs = 0) (hk : keyB k = true) : chkTK m k = 0 := by
  have hT : chkT m = 0 := by
    rw [chkT, if_neg (by omega), if_neg (by omega)]
    exact chkTs_mk h
  rw [chkTK, if_pos hT, if_pos hk]
theorem read_all {m : List (SlV E)} {k : Int} {x : E} (h1 : 1 ≤ m.length) (h6 : m.length ≤ 6) (h : ∀ c ∈ m, chkC c.xs = 0 ∧ lk c.xs k = some x) (hk : keyB k = true) : readR m k = (x, 0) := by
  rw [readR, if_pos (chkTK_mk h1 h6 (fun c hc => (h c hc).1) hk)]
  match m, h1, h with
  | c :: r, _, h =>
    obtain ⟨h1, h2⟩ := h c (List.mem_cons_self ..)
    rw [readG_cons k false E.zero c r h1, h2]
    simp only
    rw [if_neg (by decide)]
    exact read_again (fun d hd => h d (List.mem_cons_of_mem _ hd))
/-- which lack it -/
def lacksB (k v : Int) (c : SlV E) : Bool := match lk c.xs k with | some e => decide (e.ver < v) | none => true
def lacksF (k v : Int) : Nat → List (SlV E) → List Int
  | _, [] => []
  | n, c :: r => if lacksB k v c = true then (n : Int) :: lacksF k v (n + 1) r else lacksF k v (n + 1) r
def lacksR (l : List (SlV E)) (k : Int) : List Int × Int := if (readR l k).2 = 0 then (lacksF k (readR l k).1.ver 0 l, 0) else ([], (readR l k).2)
theorem lacksF_none {k : Int} {x : E} : ∀ {m : List (SlV E)} (n : Nat), (∀ c ∈ m, lk c.xs k = some x) → lacksF k x.ver n m = []
  | [], _, _ => rfl
  | c :: r, n, h => by
    rw [lacksF, lacksB, h c (List.mem_cons_self ..)]
    simp only
    rw [if_neg (by simp)]
    exact lacksF_none (n + 1) (fun d hd => h d (List.mem_cons_of_mem _ hd))
theorem lacksF_snoc (k v : Int) : ∀ (l : List (SlV E)) (n : Nat) (c : SlV E), lacksF k v n (l ++ [c]) = if lacksB k v c = true then lacksF k v n l ++ [((n + l.length : Nat) : Int)] else lacksF k v n l
  | [], n, c => by
    rw [List.nil_append, lacksF, lacksF]
    split <;> simp [lacksF]
  | d :: l, n, c => by
    rw [List.cons_append, lacksF, lacksF, lacksF_snoc k v l (n + 1) c, List.length_cons, show n + 1 + l.length = n + (l.length + 1) by omega]
    split <;> split <;> rfl
end Go.Proofs.YtemhdfodghfkfaaGreatDoor
