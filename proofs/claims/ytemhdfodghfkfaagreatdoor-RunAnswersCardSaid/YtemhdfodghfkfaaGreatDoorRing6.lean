/-
  CONTRACTS: slices.Grow of nothing and slices.Concat at points; ring.Owner and ring.Owners. CONDITIONS: the library's table of the powers of ten reads as it is laid (Tb).
  CONTRACT of ring.Owners. CONDITIONS: the library's table of the powers of ten reads as it is laid (Tb).
  PLAIN LAW OF RINGS: points are right; who comes takes only for himself; owners are unlike, and the first is the owner. CONDITIONS: none.
  WHAT ring.Points AND ring.Owners HAND ON, as slices to be read. CONDITIONS: as ring.Points'.
-/
import Derived.Test.YtemhdfodghfkfaaGreatDoorRing3
import Derived.Test.YtemhdfodghfkfaaGreatDoorRowE
import Derived.Deep.RegionHeld3
namespace Go.Proofs.YtemhdfodghfkfaaGreatDoor
open Go.RowKit
open Go.ChangeShapes Go.WideShapes Go.ChangeAt

def ownerP (l : List Pt) (key : Int) : Int := (l.getD (firstP l key) Pt.zero).node
theorem rightP_len {l : List Pt} (h : rightP l = true) : 0 < l.length ∧ l.length ≤ 48 := by
  unfold rightP at h
  rw [Bool.and_eq_true, Bool.and_eq_true, decide_eq_true_eq, decide_eq_true_eq] at h
  exact ⟨h.1.2, h.2⟩
theorem rgE_zero {l : List Pt} {key : Int} (h : rgE l key = 0) : rightP l = true ∧ keyB key = true := by
  unfold rgE at h
  split at h
  · rename_i h1
    split at h
    · rename_i h2
      exact ⟨h1, h2⟩
    · cases h
  · cases h
set_option maxHeartbeats 2000000 in
theorem rowner_any (s : SlV Pt) (key : Int) (w : World) (hs : PtsAt w s) (htb : Tb w) :
    Calls Tryz.prog 80 #[.slice s.A s.xs.length s.c, .int .i64 key] w fun e w' => e = .returned (.tuple #[.int .i64 (if rgE s.xs key = 0 then ownerP s.xs key else 0), errV (rgE s.xs key)]) ∧ Below w.heap.size w w' := by
  have HC := hid (rgcheck_any s key w hs)
  by_cases h0 : rgE s.xs key = 0
  · rw [if_pos h0]
    rw [h0, errV_zero] at HC
    obtain ⟨hr, hk⟩ := rgE_zero h0
    have hlt := firstP_lt key (rightP_len hr).1
    have HF := hid (fun W (hW : Below w.heap.size w W) => first_any s key W (hs.stays hW) hk (htb.belowS hW))
    have HS := hid (fun W (hW : Below w.heap.size w W) => hs.stays hW)
    rw [h0, errV_zero]
    unfold ownerP
    generalize firstP s.xs key = f at *
    have hfl : (f : Int) < (s.xs.length : Int) := by omega
    clear hs htb h0 hr hk
    go_enter Tryz.func80, Tryz.ntmps80
    go_wp2_with fail
    refine HC.out.mono ?_
    rintro e w1 ⟨rfl, hb1⟩
    have HF1 := hid (HF.out w1 hb1)
    have Hb1 := hid hb1
    clear hb1
    go_wp2_with fail
    refine HF1.out.mono ?_
    rintro e w2 ⟨rfl, hb2⟩
    have hb12 := Below.step Hb1.out hb2 Hb1.out.size
    obtain ⟨b, off, hA, hb, hcells⟩ := (HS.out w2 hb12).row (by omega)
    obtain ⟨-, c1⟩ := hcells f hlt
    obtain ⟨x, hx⟩ : ∃ x, s.xs.getD f Pt.zero = x := ⟨_, rfl⟩
    rw [hx] at c1
    obtain ⟨x0, x1⟩ := x
    simp only at c1
    rw [hA]
    have Hb12 := hid hb12
    have Hx := hid hx
    clear hx
    clear hb2 hA hcells hb12
    go_wp2_with fail
    go_ret2
    exact ⟨by rw [Hx.out]; rfl, Hb12.out⟩
  · rw [if_neg h0]
    rw [errV_ne h0] at HC
    have Hen := hid (errV_ne h0)
    generalize rgE s.xs key = en at *
    clear h0 hs htb
    go_enter Tryz.func80, Tryz.ntmps80
    go_wp2_with fail
    refine HC.out.mono ?_
    rintro e w1 ⟨rfl, hb1⟩
    go_wp2_with fail
    go_ret2
    exact ⟨by rw [Hen.out]; rfl, hb1⟩
end Go.Proofs.YtemhdfodghfkfaaGreatDoor
namespace Go.Proofs.YtemhdfodghfkfaaGreatDoor
open Go.RowKit
open Go.ChangeShapes Go.WideShapes Go.ChangeAt

theorem PtsAt.preP {w : World} {s : SlV Pt} (h : PtsAt w s) (j : Nat) (hj : j ≤ s.xs.length) : PtsAt w ⟨s.A, s.c, s.xs.take j⟩ where
  row h0 := by
    have hl : (s.xs.take j).length = j := by rw [List.length_take]; omega
    have h0' : 0 < (s.xs.take j).length := h0
    obtain ⟨b, off, h1, h2, h3⟩ := h.row (by omega)
    refine ⟨b, off, h1, h2, fun i hi => ?_⟩
    have hi' : i < (s.xs.take j).length := hi
    have := h3 i (by omega)
    show PtAt w b (off + i * 2) ((s.xs.take j).getD i Pt.zero)
    rw [List.getD_eq_getElem?_getD, List.getElem?_take_of_lt (by omega), ← List.getD_eq_getElem?_getD]
    exact this
  each x hx := h.each x (List.mem_of_mem_take hx)
  len := by
    have h1 : (s.xs.take j).length ≤ s.xs.length := by rw [List.length_take]; omega
    exact Nat.le_trans h1 h.len
theorem PtsAt.dropP {w : World} {s : SlV Pt} {b off : Nat} (h : PtsAt w s) (hA : s.A = some ⟨b, off, none⟩) (j : Nat) (_hj : j ≤ s.xs.length) : PtsAt w ⟨some ⟨b, off + j * 2, none⟩, s.c - j, s.xs.drop j⟩ where
  row h0 := by
    have hl : (s.xs.drop j).length = s.xs.length - j := List.length_drop
    have h0' : 0 < (s.xs.drop j).length := h0
    obtain ⟨b', off', h1, h2, h3⟩ := h.row (by omega)
    rw [hA] at h1
    cases h1
    refine ⟨b, off + j * 2, rfl, h2, fun i hi => ?_⟩
    have hi' : i < (s.xs.drop j).length := hi
    have := h3 (j + i) (by omega)
    show PtAt w b (off + j * 2 + i * 2) ((s.xs.drop j).getD i Pt.zero)
    rw [List.getD_eq_getElem?_getD, List.getElem?_drop, ← List.getD_eq_getElem?_getD, show off + j * 2 + i * 2 = off + (j + i) * 2 by omega]
    exact this
  each x hx := h.each x (List.mem_of_mem_drop hx)
  len := by
    have h1 : (s.xs.drop j).length ≤ s.xs.length := by rw [List.length_drop]; omega
    exact Nat.le_trans h1 h.len
/-- from a place on, and round -/
def rotP (l : List Pt) (f : Nat) : List Pt := l.drop f ++ l.take f
def ownS (many : Int) (out : List Int) (p : Pt) : List Int := if (out.length : Int) < many ∧ ¬ p.node ∈ out then out ++ [p.node] else out
def ownL (many : Int) (l : List Pt) : List Int := l.foldl (ownS many) []
theorem ownL_snoc (many : Int) (l : List Pt) (p : Pt) : ownL many (l ++ [p]) = ownS many (ownL many l) p := by unfold ownL; rw [List.foldl_append]; rfl
theorem ownL_len (many : Int) (l : List Pt) : (ownL many l).length ≤ l.length := by
  refine snoc_indP (P := fun l => (ownL many l).length ≤ l.length) l (Nat.le_refl _) (fun l p ih => ?_)
  rw [ownL_snoc, ownS, List.length_append, List.length_singleton]
  split
  · rw [List.length_append, List.length_singleton]; omega
  · omega
def ownsE (l : List Pt) (key many : Int) : Int :=
  if rgE l key = 0 then (if many < 1 ∨ 6 < many then 1 else if ((ownL many (rotP l (firstP l key))).length : Int) < many then 5 else 0) else rgE l key
def ROwns (w : World) (l : List Pt) (key many : Int) (e : Ending) (w' : World) : Prop :=
  ∃ r : SlV Int, e = .returned (.tuple #[.slice r.A r.xs.length r.c, errV (ownsE l key many)]) ∧ r.xs = (if ownsE l key many = 0 then ownL many (rotP l (firstP l key)) else []) ∧ r.ok ∧ IntsAt w' r ∧ Below w.heap.size w w'
theorem ROwns.no {w w' : World} {l : List Pt} {key many en : Int} (he : ownsE l key many = en) (h0 : en ≠ 0) (hb : Below w.heap.size w w') : ROwns w l key many (.returned (.tuple #[.slice none 0 0, .iface 78 (.int .i64 en)])) w' :=
  ⟨⟨none, 0, []⟩, by rw [he, errV_ne h0]; rfl, by rw [he, if_neg h0], ⟨Nat.le_refl _, Nat.zero_le _⟩, IntsAt.bare _ _ _, hb⟩
end Go.Proofs.YtemhdfodghfkfaaGreatDoor
namespace Go.Proofs.YtemhdfodghfkfaaGreatDoor

theorem ptsRaw_mem {l : List Int} {each : Nat} {x : Pt} : x ∈ ptsRaw l each ↔ ∃ n, n ∈ l ∧ ∃ i, i < each ∧ x = ⟨(hashP n i : Int), n⟩ := by
  unfold ptsRaw ptsOf
  simp only [List.mem_flatMap, List.mem_map, List.mem_range]
  constructor
  · rintro ⟨n, hn, i, hi, rfl⟩
    exact ⟨n, hn, i, hi, rfl⟩
  · rintro ⟨n, hn, i, hi, rfl⟩
    exact ⟨n, hn, i, hi, rfl⟩
theorem ptsC_mem {l : List Int} {each : Nat} {x : Pt} : x ∈ ptsC l each ↔ ∃ n, n ∈ l ∧ ∃ i, i < each ∧ x = ⟨(hashP n i : Int), n⟩ := by
  rw [ptsC, compP_mem, sortP_mem, ptsRaw_mem]
theorem compP_length (l : List Pt) : (compP l).length ≤ l.length := by
  refine snoc_indP (P := fun l => (compP l).length ≤ l.length) l (Nat.le_refl _) (fun l x ih => ?_)
  rw [compP_snoc, compS, List.length_append, List.length_singleton]
  split
  · omega
  · rw [List.length_append, List.length_singleton]; omega
theorem compP_lt (l : List Pt) : l.Pairwise (fun x y => ltP y x = false) → (compP l).Pairwise (fun x y => ltP x y = true) := by
  refine snoc_indP (P := fun l => l.Pairwise (fun x y => ltP y x = false) → (compP l).Pairwise (fun x y => ltP x y = true)) l (fun _ => List.Pairwise.nil) (fun l x ih h => ?_)
  obtain ⟨h1, -, h3⟩ := List.pairwise_append.1 h
  have hp := ih h1
  rw [compP_snoc, compS]
  split
  · exact hp
  · rename_i hl
    refine List.pairwise_append.2 ⟨hp, List.pairwise_singleton _ _, fun y hy z hz => ?_⟩
    rw [List.mem_singleton.1 hz]
    have hyx := h3 y (compP_mem.1 hy) x (List.mem_singleton.2 rfl)
    rcases hlt : ltP y x with _ | _
    · exfalso
      have he := ltP_tot hlt hyx
      subst he
      obtain ⟨p, z', hpz⟩ : ∃ p z', compP l = p ++ [z'] := by
        rcases List.eq_nil_or_concat (compP l) with hn | ⟨p, z', hc⟩
        · rw [hn] at hy; cases hy
        · exact ⟨p, z', by simpa using hc⟩
      rw [hpz] at hy hl hp
      rw [List.getLast?_concat] at hl
      rcases List.mem_append.1 hy with hy | hy
      · have hlt2 := (List.pairwise_append.1 hp).2.2 y hy z' (List.mem_singleton.2 rfl)
        have := h3 z' (compP_mem.1 (by rw [hpz]; simp)) y (List.mem_singleton.2 rfl)
        rw [hlt2] at this
        cases this
      · rw [List.mem_singleton.1 hy] at hl
        exact hl rfl
    · rfl
theorem ptsC_lt (l : List Int) (each : Nat) : (ptsC l each).Pairwise (fun x y => ltP x y = true) := compP_lt _ (sortP_sorted _)
theorem ptsC_length (l : List Int) (each : Nat) : (ptsC l each).length ≤ l.length * each := by
  have h1 := compP_length (sortP (ptsRaw l each))
  rw [sortP_length, ptsRaw_length] at h1
  exact h1
theorem ptsC_pos {l : List Int} {each : Nat} (hl : 0 < l.length) (he : 0 < each) : 0 < (ptsC l each).length := by
  cases l with
  | nil => cases hl
  | cons n r => exact List.length_pos_of_mem (ptsC_mem.2 ⟨n, List.mem_cons_self .., 0, he, rfl⟩)
theorem rightF_ok : ∀ (l : List Pt) (p : Option Pt), (∀ x ∈ l, boundP x = true) → l.Pairwise (fun x y => ltP x y = true) → (∀ y, p = some y → ∀ x ∈ l, ltP y x = true) → rightF p l = true
  | [], _, _, _, _ => rfl
  | x :: r, p, hb, hp, hy => by
    obtain ⟨h1, h2⟩ := List.pairwise_cons.1 hp
    rw [rightF_cons, hb x (List.mem_cons_self ..), Bool.true_and, rightF_ok r (some x) (fun z hz => hb z (List.mem_cons_of_mem _ hz)) h2 (fun y hy2 z hz => by cases hy2; exact h1 z hz), Bool.and_true]
    cases p with
    | none => rfl
    | some y => exact hy y rfl x (List.mem_cons_self ..)
theorem hashP_lt (n i : Int) : hashP n i < 256 := by unfold hashP; omega
/-- points of nodes are right -/
theorem ptsC_right {l : List Int} {each : Nat} (hn : ∀ n ∈ l, nodeB n = true) (hl : 0 < l.length) (hl6 : l.length ≤ 6) (he : 0 < each) (he8 : each ≤ 8) : rightP (ptsC l each) = true := by
  have h1 := ptsC_pos hl he
  have h2 := ptsC_length l each
  have h3 : l.length * each ≤ 6 * 8 := Nat.mul_le_mul hl6 he8
  unfold rightP
  rw [rightF_ok _ none (fun x hx => ?_) (ptsC_lt l each) (fun y hy => by cases hy), decide_eq_true h1, decide_eq_true (by omega)]
  · rfl
  · obtain ⟨n, hm, i, hi, rfl⟩ := ptsC_mem.1 hx
    have := hashP_lt n i
    simp only [boundP, hn n hm, Bool.and_true]
    simp
    omega
theorem ptsE_ok {l : List Int} {each : Int} (h : ptsE l each = 0) : (0 < l.length ∧ l.length ≤ 6 ∧ ∀ n ∈ l, nodeB n = true) ∧ 1 ≤ each ∧ each ≤ 8 := by
  unfold ptsE at h
  split at h
  · rename_i h1
    split at h
    · cases h
    · exact ⟨rnodesE_ok h1, by omega, by omega⟩
  · exact absurd h (by assumption)
theorem ptsE_right {l : List Int} {each : Int} (h : ptsE l each = 0) : rightP (ptsC l each.toNat) = true := by
  obtain ⟨⟨h1, h2, h3⟩, h4, h5⟩ := ptsE_ok h
  exact ptsC_right h3 h1 h2 (by omega) (by omega)
/-- the point that owns a place -/
def isOwn (L : List Pt) (v : Int) (x : Pt) : Prop :=
  x ∈ L ∧ ((v ≤ x.pos ∧ ∀ y ∈ L, v ≤ y.pos → y = x ∨ ltP x y = true) ∨ ((∀ y ∈ L, ¬ v ≤ y.pos) ∧ ∀ y ∈ L, y = x ∨ ltP x y = true))
theorem idxP_spec (v : Int) : ∀ (l : List Pt) (k : Nat), (idxP v l k = -1 ∧ ∀ y ∈ l, ¬ v ≤ y.pos) ∨ ∃ p x r, l = p ++ x :: r ∧ idxP v l k = ((k + p.length : Nat) : Int) ∧ v ≤ x.pos ∧ ∀ y ∈ p, ¬ v ≤ y.pos
  | [], k => .inl ⟨rfl, fun y hy => by cases hy⟩
  | x :: r, k => by
    rw [idxP_cons]
    by_cases h : v ≤ x.pos
    · rw [if_pos h]
      exact .inr ⟨[], x, r, rfl, rfl, h, fun y hy => by cases hy⟩
    · rw [if_neg h]
      rcases idxP_spec v r (k + 1) with ⟨h1, h2⟩ | ⟨p, x', r', rfl, h2, h3, h4⟩
      · refine .inl ⟨h1, fun y hy => ?_⟩
        rcases List.mem_cons.1 hy with rfl | hy
        · exact h
        · exact h2 y hy
      · refine .inr ⟨x :: p, x', r', rfl, by rw [h2, List.length_cons]; congr 1; omega, h3, fun y hy => ?_⟩
        rcases List.mem_cons.1 hy with rfl | hy
        · exact h
        · exact h4 y hy
theorem own_is {L : List Pt} (hs : L.Pairwise (fun x y => ltP x y = true)) (h0 : 0 < L.length) (key : Int) : isOwn L (hashP key key : Int) (L.getD (firstP L key) Pt.zero) := by
  unfold firstP
  rcases idxP_spec (hashP key key : Int) L 0 with ⟨h1, h2⟩ | ⟨p, x, r, hl, h2, h3, h4⟩
  · rw [h1]
    show isOwn L _ (L.getD 0 Pt.zero)
    cases L with
    | nil => cases h0
    | cons x r =>
      obtain ⟨g1, g2⟩ := List.pairwise_cons.1 hs
      refine ⟨List.mem_cons_self .., .inr ⟨h2, fun y hy => ?_⟩⟩
      rcases List.mem_cons.1 hy with rfl | hy
      · exact .inl rfl
      · exact .inr (g1 y hy)
  · rw [h2, Nat.zero_add, Int.toNat_natCast]
    have hg : L.getD p.length Pt.zero = x := by rw [hl, List.getD_eq_getElem?_getD, List.getElem?_append_right (Nat.le_refl _), Nat.sub_self]; rfl
    rw [hg]
    rw [hl] at hs ⊢
    obtain ⟨g1, g2, g3⟩ := List.pairwise_append.1 hs
    obtain ⟨g4, g5⟩ := List.pairwise_cons.1 g2
    refine ⟨by simp, .inl ⟨h3, fun y hy hv => ?_⟩⟩
    rcases List.mem_append.1 hy with hy | hy
    · exact absurd hv (h4 y hy)
    · rcases List.mem_cons.1 hy with rfl | hy
      · exact .inl rfl
      · exact .inr (g4 y hy)
theorem own_few {P Q : List Pt} {v : Int} {x y : Pt} (hx : isOwn P v x) (hy : isOwn Q v y) (hsub : ∀ z ∈ P, z ∈ Q) (hyP : y ∈ P) : y = x := by
  obtain ⟨x1, x2⟩ := hx
  obtain ⟨y1, y2⟩ := hy
  have hanti : ∀ a b : Pt, (b = a ∨ ltP a b = true) → (a = b ∨ ltP b a = true) → a = b := fun a b h1 h2 => by
    rcases h1 with h1 | h1
    · exact h1.symm
    · rcases h2 with h2 | h2
      · exact h2
      · have := ltP_trans h1 h2
        rw [ltP_irrefl] at this
        cases this
  rcases x2 with ⟨xv, xm⟩ | ⟨xn, xm⟩
  · rcases y2 with ⟨yv, ym⟩ | ⟨yn, ym⟩
    · exact (hanti x y (xm y hyP yv) (ym x (hsub x x1) xv)).symm
    · exact absurd xv (yn x (hsub x x1))
  · rcases y2 with ⟨yv, ym⟩ | ⟨yn, ym⟩
    · exact absurd yv (xn y hyP)
    · exact (hanti x y (xm y hyP) (ym x (hsub x x1))).symm
/-- who comes takes only for himself -/
theorem ring_few {l : List Int} {each : Nat} {more : Int} (hl : 0 < l.length) (he : 0 < each) (key : Int) : ownerP (ptsC (l ++ [more]) each) key = ownerP (ptsC l each) key ∨ ownerP (ptsC (l ++ [more]) each) key = more := by
  have hx := own_is (ptsC_lt l each) (ptsC_pos hl he) key
  have hy := own_is (ptsC_lt (l ++ [more]) each) (ptsC_pos (l := l ++ [more]) (by simp) he) key
  unfold ownerP
  obtain ⟨n, hn, i, hi, hyn⟩ := ptsC_mem.1 hy.1
  rcases List.mem_append.1 hn with hn | hn
  · left
    have hyP : (ptsC (l ++ [more]) each).getD (firstP (ptsC (l ++ [more]) each) key) Pt.zero ∈ ptsC l each := by
      rw [hyn]
      exact ptsC_mem.2 ⟨n, hn, i, hi, rfl⟩
    rw [own_few hx hy (fun z hz => by
      obtain ⟨m, hm, j, hj, rfl⟩ := ptsC_mem.1 hz
      exact ptsC_mem.2 ⟨m, List.mem_append_left _ hm, j, hj, rfl⟩) hyP]
  · right
    rw [hyn]
    exact List.mem_singleton.1 hn
theorem owner_in {l : List Int} {each : Nat} (hl : 0 < l.length) (he : 0 < each) (key : Int) : ownerP (ptsC l each) key ∈ l := by
  obtain ⟨h1, _⟩ := own_is (ptsC_lt l each) (ptsC_pos hl he) key
  obtain ⟨n, hn, i, hi, hx⟩ := ptsC_mem.1 h1
  unfold ownerP
  rw [hx]
  exact hn
theorem ownL_facts (many : Int) (l : List Pt) : (ownL many l).Nodup ∧ (∀ n ∈ ownL many l, ∃ p ∈ l, p.node = n) ∧ (0 ≤ many → ((ownL many l).length : Int) ≤ many) := by
  refine snoc_indP (P := fun l => (ownL many l).Nodup ∧ (∀ n ∈ ownL many l, ∃ p ∈ l, p.node = n) ∧ (0 ≤ many → ((ownL many l).length : Int) ≤ many)) l ⟨by simp [ownL], fun n hn => by simp [ownL] at hn, fun h => by simpa [ownL] using h⟩ (fun l p ih => ?_)
  obtain ⟨h1, h2, h3⟩ := ih
  rw [ownL_snoc, ownS]
  split
  · rename_i hc
    refine ⟨?_, fun n hn => ?_, fun h => ?_⟩
    · refine List.nodup_append.2 ⟨h1, by simp, fun a ha b hb => ?_⟩
      rw [List.mem_singleton.1 hb]
      exact fun e => hc.2 (e ▸ ha)
    · rcases List.mem_append.1 hn with hn | hn
      · obtain ⟨q, hq, hqn⟩ := h2 n hn
        exact ⟨q, List.mem_append_left _ hq, hqn⟩
      · exact ⟨p, by simp, (List.mem_singleton.1 hn).symm⟩
    · rw [List.length_append, List.length_singleton]; omega
  · refine ⟨h1, fun n hn => ?_, h3⟩
    obtain ⟨q, hq, hqn⟩ := h2 n hn
    exact ⟨q, List.mem_append_left _ hq, hqn⟩
theorem ownL_head (many : Int) (h1 : 1 ≤ many) (x : Pt) (r : List Pt) : ∃ t, ownL many (x :: r) = x.node :: t := by
  refine snoc_indP (P := fun r => ∃ t, ownL many (x :: r) = x.node :: t) r ⟨[], ?_⟩ (fun l p ih => ?_)
  · show ownS many [] x = _
    rw [ownS, if_pos ⟨by show (0 : Int) < many; omega, by simp⟩]
    rfl
  · obtain ⟨t, ht⟩ := ih
    rw [← List.cons_append, ownL_snoc, ht, ownS]
    split
    · exact ⟨t ++ [p.node], rfl⟩
    · exact ⟨t, rfl⟩
theorem rotP_head {l : List Pt} {f : Nat} (h : f < l.length) : ∃ r, rotP l f = l.getD f Pt.zero :: r := ⟨l.drop (f + 1) ++ l.take f, by rw [rotP, drop_consD Pt.zero h]; rfl⟩
theorem rotP_mem {l : List Pt} {f : Nat} {x : Pt} (h : x ∈ rotP l f) : x ∈ l := by
  rcases List.mem_append.1 h with h | h
  · exact List.mem_of_mem_drop h
  · exact List.mem_of_mem_take h
theorem ownsE_zero {l : List Pt} {key many : Int} (h : ownsE l key many = 0) : rgE l key = 0 ∧ 1 ≤ many ∧ many ≤ 6 ∧ ((ownL many (rotP l (firstP l key))).length : Int) = many := by
  unfold ownsE at h
  split at h
  · rename_i h0
    split at h
    · cases h
    · rename_i hm
      split at h
      · cases h
      · rename_i hl
        have := (ownL_facts many (rotP l (firstP l key))).2.2 (by omega)
        exact ⟨h0, by omega, by omega, by omega⟩
  · exact absurd h (by assumption)
/-- of one node alone -/
theorem lone_nodes {node : Int} {each : Nat} : ∀ x ∈ ptsC [node] each, x.node = node := fun x hx => by
  obtain ⟨n, hn, i, hi, rfl⟩ := ptsC_mem.1 hx
  exact List.mem_singleton.1 hn
theorem lone_owns {node : Int} {each : Nat} (he : 0 < each) (key : Int) : (ownL 2 (rotP (ptsC [node] each) (firstP (ptsC [node] each) key))).length = 1 := by
  have hp := ptsC_pos (l := [node]) (by simp) he
  obtain ⟨r, hr⟩ := rotP_head (firstP_lt key hp)
  obtain ⟨t, ht⟩ := ownL_head 2 (by decide) ((ptsC [node] each).getD (firstP (ptsC [node] each) key) Pt.zero) r
  obtain ⟨f1, f2, -⟩ := ownL_facts 2 (rotP (ptsC [node] each) (firstP (ptsC [node] each) key))
  rw [hr, ht] at f1 f2 ⊢
  cases t with
  | nil => rfl
  | cons a t =>
    exfalso
    have hall : ∀ n ∈ ((ptsC [node] each).getD (firstP (ptsC [node] each) key) Pt.zero).node :: a :: t, n = node := fun n hn => by
      obtain ⟨p, hp, hpn⟩ := f2 n hn
      rw [← hr] at hp
      rw [← hpn]
      exact lone_nodes p (rotP_mem hp)
    have h1 := hall _ (List.mem_cons_self ..)
    have h2 := hall a (by simp)
    have := (List.nodup_cons.1 f1).1
    rw [h1, h2] at this
    simp at this
end Go.Proofs.YtemhdfodghfkfaaGreatDoor
namespace Go.Proofs.YtemhdfodghfkfaaGreatDoor
open Go.RowKit
open Go.ChangeShapes Go.WideShapes Go.ChangeAt

theorem ptsC_good {l : List Int} {each : Nat} (hn : ∀ n ∈ l, nodeB n = true) : ∀ x ∈ ptsC l each, x.good := fun x hx => by
  obtain ⟨n, hm, i, hi, rfl⟩ := ptsC_mem.1 hx
  have h1 := hashP_lt n i
  have h2 := nodeB_true.1 (hn n hm)
  unfold Pt.good
  simp only
  omega
/-- what ring.Points gives -/
def GPts (w : World) (l : List Int) (each : Int) (e : Ending) (w' : World) : Prop :=
  ∃ r : SlV Pt, e = .returned (.tuple #[.slice r.A r.xs.length r.c, errV (ptsE l each)]) ∧ r.xs = (if ptsE l each = 0 then ptsC l each.toNat else []) ∧ PtsAt w' r ∧ r.ok ∧ Below w.heap.size w w'
theorem gpoints_any (s : SlV Int) (each : Int) (w : World) (hs : IntsAt w s) (hok : s.ok) (htb : Tb w) :
    Calls Tryz.prog 24 #[.slice s.A s.xs.length s.c, .int .i64 each] w (GPts w s.xs each) := by
  refine (rpoints_any s each w hs hok htb).mono ?_
  rintro e w' ⟨v, rfl, hO, hb⟩
  obtain ⟨r, rfl, hrx, hrA, hro, -⟩ := PtsAt.of_ow hO (fun x hx => by
    split at hx
    · rename_i h
      exact ptsC_good (ptsE_ok h).1.2.2 x hx
    · cases hx)
  exact ⟨r, rfl, hrx, hrA, hro, hb⟩
theorem ptsE_one {node each : Int} (h : ptsE [node] each ≠ 0) : node < 0 ∨ 5 < node ∨ each < 1 ∨ 8 < each := by
  have h2 : ptsE [node] each = if rnodesE [node] = 0 then (if each < 1 ∨ 8 < each then 1 else 0) else rnodesE [node] := rfl
  have h3 : rnodesE [node] = if nodeB node = true then 0 else 1 := by
    show (if ([node] : List Int).length = 0 then (5 : Int) else if 6 < ([node] : List Int).length then 4 else rnodesF [] [node]) = _
    rw [if_neg (by simp), if_neg (by simp)]
    show (if nodeB node = true then (if inL node [] = true then (7 : Int) else rnodesF ([] ++ [node]) []) else 1) = _
    rfl
  rcases hb : nodeB node with _ | _
  · have := nodeB_false.1 hb; omega
  · rw [hb, if_pos rfl] at h3
    rw [h2, h3, if_pos rfl] at h
    split at h
    · omega
    · exact absurd rfl h
end Go.Proofs.YtemhdfodghfkfaaGreatDoor
