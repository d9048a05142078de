/-
  PLAIN LAWS of what tomb.Mark and tomb.Safe tell, beside what the reference tells; arguments that are caches. CONDITIONS: none.
-/
import Derived.Test.YthjbebngedajiaaDoorMark
import Derived.Test.YthjbebngedajiaaDoorRowV
import Derived.Test.YthjbebngedajiaaDoorInts
namespace Go.Proofs.YthjbebngedajiaaDoor
open Go.RowKit
open Go.ChangeShapes Go.WideShapes Go.ChangeAt

theorem cachesAt_of {w : World} {s : SlV (SlV E)} (h : codecEntriess.good w s) : CachesAt w s where
  row hn := by
    obtain ⟨b, off, hA, hb, hc⟩ := h.1 hn
    refine ⟨b, off, hA, hb, fun i hi => ?_⟩
    have := hc i hi 0 (by rw [Tryd.cellsEntries]; decide)
    rw [Tryd.cellsEntries, Nat.mul_one, Nat.add_zero] at this
    rw [this]
    rfl
  each i hi := entriesAt_of (h.2.1 _ (List.getElem_mem hi))
  len := Nat.le_trans h.2.2.1 h.2.2.2

theorem rget_has {l : List E} (ha : Asc l) (k : Int) : rget l k = if hasK k l = true then (l.getD (plc k l) E.zero, true) else (E.zero, false) := by
  unfold rget
  rw [at_lk ha]
  by_cases h : hasK k l = true
  · rw [if_pos h, if_pos h]
  · rw [if_neg h, if_neg h]
/-- the reference's mark -/
def refM (k : Int) : Int → List (SlV E) → Int
  | o, [] => o
  | o, c :: r => if (rget c.xs k).2 = true then refM k (if (rget c.xs k).1.asof < o then (rget c.xs k).1.asof else o) r else refM k 0 r
theorem hasK_lt {l : List E} {k : Int} (h : hasK k l = true) : plc k l < l.length := by
  unfold hasK at h
  simp at h
  exact h.1
theorem val_asof {l : List E} (h : chkC l = 0) : ∀ e ∈ l, 0 ≤ e.asof := fun e he => (seqB_true.1 (chk_zero.1 ((val_iff.1 h).2 e he)).2.2.1).1
theorem refM_zero {k : Int} : ∀ {l : List (SlV E)}, (∀ c ∈ l, chkC c.xs = 0) → refM k 0 l = 0
  | [], _ => rfl
  | c :: r, h => by
    have hc := h c (by simp)
    have ih := refM_zero (k := k) (l := r) (fun x hx => h x (by simp [hx]))
    rw [refM, rget_has (val_iff.1 hc).1]
    by_cases hh : hasK k c.xs = true
    · have := val_asof hc _ (getD_memD E.zero (hasK_lt hh))
      rw [if_pos hh, if_pos rfl, if_neg (by simp only; omega), ih]
    · rw [if_neg hh, if_neg (by decide), ih]
theorem refM_mark {k : Int} : ∀ {l : List (SlV E)} {o : Int}, 0 ≤ o → (∀ c ∈ l, chkC c.xs = 0) → refM k o l = markG k o l
  | [], _, _, _ => rfl
  | c :: r, o, ho, h => by
    have hc := h c (by simp)
    have hr : ∀ x ∈ r, chkC x.xs = 0 := fun x hx => h x (by simp [hx])
    rw [refM, markG, rget_has (val_iff.1 hc).1]
    by_cases hh : hasK k c.xs = true
    · have h0 := val_asof hc _ (getD_memD E.zero (hasK_lt hh))
      rw [if_pos hh, if_pos hh, if_pos rfl]
      simp only
      split
      · rw [refM_mark (by omega) hr]
        congr 1
        omega
      · rw [refM_mark (by omega) hr]
        congr 1
        omega
    · rw [if_neg hh, if_neg hh, if_neg (by decide), refM_zero hr]

/-! ### keys that are safe -/
def qK (k v : Int) (c : SlV E) : Bool := (rget c.xs k).2 && (rget c.xs k).1.gone && decide ((rget c.xs k).1.ver = v)
def goodK (l : List (SlV E)) (k : Int) : Bool := ((rget (headC l) k).2 && (rget (headC l) k).1.gone) && (l.drop 1).all (qK k (rget (headC l) k).1.ver)
def rng (n : Nat) : List Int := (List.range n).map Int.ofNat
theorem rng_succ (n : Nat) : rng (n + 1) = rng n ++ [(n : Int)] := by
  unfold rng
  rw [List.range_succ, List.map_append]
  rfl
def refS (l : List (SlV E)) (n : Nat) : List Int := (rng n).filter (goodK l)
theorem refS_succ (l : List (SlV E)) (n : Nat) : refS l (n + 1) = if goodK l n = true then refS l n ++ [(n : Int)] else refS l n := by
  unfold refS
  rw [rng_succ, List.filter_append]
  by_cases h : goodK l n = true <;> simp [h]
theorem refS_len (l : List (SlV E)) (n : Nat) : (refS l n).length ≤ n := by
  have := List.length_filter_le (goodK l) (rng n)
  unfold rng at this
  rw [List.length_map, List.length_range] at this
  exact this
theorem pick_step (p : E → Bool) (n : Int) : ∀ {c : List E}, Asc c →
    (c.filter fun e => decide (e.key < n + 1) && p e).map (·.key) = (c.filter fun e => decide (e.key < n) && p e).map (·.key) ++ (if (match lk c n with | some e => p e | none => false) = true then [n] else [])
  | [], _ => by simp [lk_nil]
  | x :: r, h => by
    obtain ⟨h1, h2⟩ := List.pairwise_cons.1 h
    rcases Int.lt_trichotomy x.key n with hlt | heq | hgt
    · have e1 : decide (x.key < n + 1) = true := by simp; omega
      have e2 : decide (x.key < n) = true := by simpa using hlt
      have ih := pick_step p n h2
      have hl : lk (x :: r) n = lk r n := by rw [lk_cons, if_neg (by omega)]
      rw [hl]
      by_cases hp : p x = true
      · rw [List.filter_cons_of_pos (by rw [e1, hp]; rfl), List.filter_cons_of_pos (by rw [e2, hp]; rfl), List.map_cons, List.map_cons, ih]
        rfl
      · rw [List.filter_cons_of_neg (by simp [hp]), List.filter_cons_of_neg (by simp [hp]), ih]
    · have e1 : decide (x.key < n + 1) = true := by simp; omega
      have hr1 : (r.filter fun e => decide (e.key < n + 1) && p e) = [] := by
        rw [List.filter_eq_nil_iff]
        intro y hy
        have := h1 y hy
        simp
        intro h3
        omega
      have hr2 : ((x :: r).filter fun e => decide (e.key < n) && p e) = [] := by
        rw [List.filter_eq_nil_iff]
        intro y hy
        rcases List.mem_cons.1 hy with rfl | hy
        · simp
          intro h3
          omega
        · have := h1 y hy
          simp
          intro h3
          omega
      have hl : lk (x :: r) n = some x := by rw [lk_cons, if_pos heq]
      rw [hr2, hl]
      by_cases hp : p x = true
      · rw [List.filter_cons_of_pos (by rw [e1, hp]; rfl), hr1]
        simp [hp, heq]
      · rw [List.filter_cons_of_neg (by simp [hp]), hr1]
        simp [hp]
    · have hr : ∀ m : Int, m ≤ n + 1 → ((x :: r).filter fun e => decide (e.key < m) && p e) = [] := fun m hm => by
        rw [List.filter_eq_nil_iff]
        intro y hy
        rcases List.mem_cons.1 hy with rfl | hy
        · simp
          intro h3
          omega
        · have := h1 y hy
          simp
          intro h3
          omega
      rw [hr _ (by omega), hr _ (by omega), lk_none (fun y hy => by
        rcases List.mem_cons.1 hy with rfl | hy
        · omega
        · have := h1 y hy; omega)]
      rfl
theorem pick_rng (p : E → Bool) {c : List E} (h : Asc c) (h0 : ∀ e ∈ c, 0 ≤ e.key) : ∀ n : Nat,
    (c.filter fun e => decide (e.key < (n : Int)) && p e).map (·.key) = (rng n).filter fun k => match lk c k with | some e => p e | none => false
  | 0 => by
    have : (c.filter fun e => decide (e.key < ((0 : Nat) : Int)) && p e) = [] := by
      rw [List.filter_eq_nil_iff]
      intro y hy
      have := h0 y hy
      simp
      intro h3
      omega
    rw [this]
    rfl
  | n + 1 => by
    rw [rng_succ, List.filter_append, ← pick_rng p h h0 n]
    have := pick_step p (n : Int) h
    rw [show ((n + 1 : Nat) : Int) = (n : Int) + 1 by omega, this]
    congr 1
    rw [List.filter_cons]
    simp
theorem alikeB_q {e : E} {c : SlV E} (hc : chkC c.xs = 0) : alikeB e c.xs = qK e.key e.ver c := by
  unfold alikeB qK
  rw [rget_has (val_iff.1 hc).1]
  by_cases hh : hasK e.key c.xs = true
  · rw [if_pos hh, hh]
  · rw [if_neg hh]
    simp [hh]
theorem allAlike_q {e : E} : ∀ {l : List (SlV E)}, (∀ c ∈ l, chkC c.xs = 0) → allAlike e l = l.all (qK e.key e.ver)
  | [], _ => rfl
  | c :: r, h => by
    have ih := allAlike_q (e := e) (l := r) (fun x hx => h x (by simp [hx]))
    unfold allAlike at ih ⊢
    rw [List.all_cons, List.all_cons, ih, alikeB_q (h c (by simp))]
theorem safe_ref : ∀ {l : List (SlV E)}, (∀ c ∈ l, chkC c.xs = 0) → safeL l (headC l) = refS l 8
  | [], _ => by
    unfold safeL refS headC
    rw [List.filter_nil]
    symm
    rw [List.map_nil, List.filter_eq_nil_iff]
    intro k _
    simp [goodK, headC, rget_nil]
  | c :: r, h => by
    have hc := h c (by simp)
    obtain ⟨ha, hch⟩ := val_iff.1 hc
    have hk : ∀ e ∈ c.xs, 0 ≤ e.key ∧ e.key < 8 := fun e he => chk_key (hch e he)
    have hp := pick_rng (fun e => e.gone && allAlike e (c :: r)) ha (fun e he => (hk e he).1) 8
    unfold safeL refS
    show (c.xs.filter _).map _ = _
    rw [show (c.xs.filter fun e => e.gone && allAlike e (c :: r)) = c.xs.filter fun e => decide (e.key < ((8 : Nat) : Int)) && (e.gone && allAlike e (c :: r)) from
      List.filter_congr (fun e he => by rw [show decide (e.key < ((8 : Nat) : Int)) = true by have := (hk e he).2; simpa using this, Bool.true_and]), hp]
    refine List.filter_congr (fun k _ => ?_)
    unfold goodK
    show _ = (((rget c.xs k).2 && (rget c.xs k).1.gone) && r.all (qK k (rget c.xs k).1.ver))
    unfold rget
    rcases hl : lk c.xs k with _ | e
    · rfl
    · obtain ⟨_, hek⟩ := lk_some hl
      subst hek
      simp only
      rw [allAlike_q h, List.all_cons, show qK e.key e.ver c = e.gone by simp [qK, rget, hl]]
      simp only [Bool.true_and]
      rw [← Bool.and_assoc, Bool.and_self]
/-- two slices of the call's own, of unlike elements -/
theorem Ow.typ {α : Type} {cells : α → List Value} {n base : Nat} {T : TypeId} {w : World} {v : Value} {l : List α} (h : Ow cells n base T w v l) {g : Nat} (hg : foot v = some g) : ∃ cur, Blk w g T cur := by
  obtain ⟨A, cap, rfl, _, _, rfl | ⟨g', off, cur, rfl, hb, hB, _⟩⟩ := h
  · cases A <;> cases hg
  · cases cap with
    | zero => cases hg
    | succ c => cases hg; exact ⟨cur, hB⟩
theorem Ow.keep {α β : Type} {cells : α → List Value} {cells2 : β → List Value} {n n2 base base2 : Nat} {T T2 : TypeId} {w w' : World} {v v2 : Value} {l : List α} {l2 : List β} (h : Ow cells n base T w v l) (h2 : Ow cells2 n2 base2 T2 w v2 l2) (hT : T ≠ T2) (hf : Fr (fun k => some k = foot v) w w') : Ow cells2 n2 base2 T2 w' v2 l2 :=
  h2.fr hf (fun g hg hs => by
    obtain ⟨c1, h1⟩ := h.typ hs.symm
    obtain ⟨c2, h2⟩ := h2.typ hg
    exact hT (h1.eq_ h2).2)
end Go.Proofs.YthjbebngedajiaaDoor
