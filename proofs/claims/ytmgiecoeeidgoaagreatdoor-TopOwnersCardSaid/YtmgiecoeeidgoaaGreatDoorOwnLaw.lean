/-
  PLAIN LAW OF OWNERS: six caches, of which the owners' hold one entry and the others nothing: what repair.Read, repair.Lacks and tomb.Mark tell of them.
-/
import Derived.Test.YtmgiecoeeidgoaaGreatDoorRepLaw
import Derived.Test.YtmgiecoeeidgoaaGreatDoorMarkA
import Derived.Test.YtmgiecoeeidgoaaGreatDoorLogLaw
import Derived.Test.YtmgiecoeeidgoaaGreatDoorCAll
import Derived.Test.YtmgiecoeeidgoaaGreatDoorRgOwn
namespace Go.Proofs.YtmgiecoeeidgoaaGreatDoor
open Go Go.RowKit

/-- one entry or nothing -/
def OneE (x : E) (c : SlV E) : Prop := c.xs = [] ∨ c.xs = [x]
section
variable {x : E} {k : Int}
theorem hasK_none (k : Int) : hasK k ([] : List E) = false := rfl
theorem hasK_me (hk : x.key = k) : hasK k [x] = true ∧ plc k [x] = 0 := by
  subst hk
  have hp : plc x.key [x] = 0 := by rw [plc, if_neg (by omega)]
  exact ⟨by unfold hasK; rw [hp]; simp, hp⟩
theorem chkC_one (hx : chk x = 0) : chkC [x] = 0 := by
  unfold chkC
  rw [if_neg (by show ¬ 8 < 1; decide), chkCs, if_pos hx]
  rfl
theorem OneE.chk (hx : Go.Proofs.YtmgiecoeeidgoaaGreatDoor.chk x = 0) {c : SlV E} (h : OneE x c) : chkC c.xs = 0 := by
  rcases h with h | h
  · rw [h]; rfl
  · rw [h]; exact chkC_one hx
theorem readG_one (hk : x.key = k) : ∀ (r : List (SlV E)) (f : Bool) (o : E), (∀ c ∈ r, OneE x c) → (f = true → o = x) → (f = true ∨ ∃ c ∈ r, c.xs = [x]) → readG k f o r = (x, 0)
  | [], f, o, _, h2, h3 => by
    rcases h3 with h3 | ⟨c, hc, _⟩
    · rw [readG, if_pos h3, h2 h3]
    · cases hc
  | c :: r, f, o, h1, h2, h3 => by
    have hr : ∀ c ∈ r, OneE x c := fun d hd => h1 d (List.mem_cons_of_mem _ hd)
    rcases h1 c (List.mem_cons_self ..) with hc | hc
    · rw [readG, hc, hasK_none, if_neg Bool.false_ne_true]
      refine readG_one hk r f o hr h2 (h3.imp (fun h => h) ?_)
      rintro ⟨d, hd, hdx⟩
      rcases List.mem_cons.1 hd with rfl | hd
      · rw [hc] at hdx; cases hdx
      · exact ⟨d, hd, hdx⟩
    · obtain ⟨e1, e2⟩ := hasK_me hk
      rw [readG, hc, e1, if_pos rfl, e2]
      show (if f = true then (if (joined o x).2 = 0 then readG k true (joined o x).1 r else (E.zero, (joined o x).2)) else readG k true x r) = (x, 0)
      have hrec := readG_one hk r true x hr (fun _ => rfl) (.inl rfl)
      by_cases hf : f = true
      · rw [if_pos hf, h2 hf, joined_self, if_pos rfl]
        exact hrec
      · rw [if_neg hf]
        exact hrec
theorem readR_one (hx : chk x = 0) (hk : x.key = k) (hkb : keyB k = true) {r : List (SlV E)} (h1 : 1 ≤ r.length) (h6 : r.length ≤ 6) (h : ∀ c ∈ r, OneE x c) (he : ∃ c ∈ r, c.xs = [x]) : readR r k = (x, 0) := by
  rw [readR, if_pos (chkTK_mk h1 h6 (fun c hc => (h c hc).chk hx) hkb)]
  exact readG_one hk r false E.zero h (fun hf => by cases hf) (.inr he)
/-- what is lacking -/
theorem lacksF_own (hk : x.key = k) (o : List Int) : ∀ (r : List (SlV E)) (n : Nat), (∀ j (hj : j < r.length), r[j].xs = if ((n + j : Nat) : Int) ∈ o then [x] else []) → lacksF k x.ver n r = ((List.range' n r.length).filter (fun j => decide (¬ ((j : Nat) : Int) ∈ o))).map (fun j => ((j : Nat) : Int))
  | [], n, _ => rfl
  | c :: r, n, h => by
    have ih := lacksF_own hk o r (n + 1) (fun j hj => by
      have := h (j + 1) (by simpa using hj)
      rw [show n + (j + 1) = n + 1 + j by omega] at this
      exact this)
    have h0 : c.xs = if ((n : Nat) : Int) ∈ o then [x] else [] := h 0 (by simp)
    rw [List.length_cons, List.range'_succ, List.filter_cons]
    by_cases hm : ((n : Nat) : Int) ∈ o
    · rw [if_pos hm] at h0
      rw [if_neg (by simp [hm]), ← ih, lacksF]
      rw [if_neg (by
        unfold lacksB
        rw [h0, lk_cons, if_pos hk]
        simp)]
    · rw [if_neg hm] at h0
      rw [if_pos (by simp [hm]), List.map_cons, ← ih, lacksF]
      rw [if_pos (by
        unfold lacksB
        rw [h0, lk_nil])]
theorem own_len : ∀ (o : List Int), o.Nodup → (∀ n ∈ o, 0 ≤ n ∧ n < 6) → o.length = (decide ((0 : Int) ∈ o)).toNat + (decide ((1 : Int) ∈ o)).toNat + (decide ((2 : Int) ∈ o)).toNat + (decide ((3 : Int) ∈ o)).toNat + (decide ((4 : Int) ∈ o)).toNat + (decide ((5 : Int) ∈ o)).toNat
  | [], _, _ => by decide
  | a :: o, hn, hb => by
    have ih := own_len o (List.nodup_cons.1 hn).2 (fun n h => hb n (List.mem_cons_of_mem _ h))
    have ha := (List.nodup_cons.1 hn).1
    obtain ⟨b0, b1⟩ := hb a (List.mem_cons_self ..)
    have hd : ∀ j : Int, decide (j ∈ a :: o) = (decide (j = a) || decide (j ∈ o)) := fun j => by
      by_cases h1 : j = a
      · simp [h1]
      · simp [h1]
    rw [List.length_cons, hd, hd, hd, hd, hd, hd]
    have hc : a = 0 ∨ a = 1 ∨ a = 2 ∨ a = 3 ∨ a = 4 ∨ a = 5 := by omega
    rcases hc with rfl | rfl | rfl | rfl | rfl | rfl
    all_goals
      rw [decide_eq_false ha] at ih ⊢
      simp at ih ⊢
      omega
theorem one_not (p : Prop) [Decidable p] : (if decide (¬ p) = true then 1 else 0) = 1 - (decide p).toNat := by
  by_cases h : p <;> simp [h]
/-- how many lack it, and which -/
theorem lacks_own (hk : x.key = k) {o : List Int} (hn : o.Nodup) (hb : ∀ n ∈ o, 0 ≤ n ∧ n < 6) {r : List (SlV E)} (h6 : r.length = 6) (h : ∀ j (hj : j < r.length), r[j].xs = if ((j : Nat) : Int) ∈ o then [x] else []) :
    (lacksF k x.ver 0 r).length + o.length = 6 ∧ ∀ n ∈ lacksF k x.ver 0 r, ¬ n ∈ o := by
  have he := lacksF_own hk o r 0 (fun j hj => by rw [Nat.zero_add]; exact h j hj)
  rw [h6] at he
  rw [he]
  refine ⟨?_, fun n hm => ?_⟩
  · have hl := own_len o hn hb
    rw [List.length_map, ← List.countP_eq_length_filter]
    simp only [List.range'_succ, List.range'_zero, List.countP_cons, List.countP_nil, one_not]
    have hb : ∀ b : Bool, b.toNat ≤ 1 := fun b => by cases b <;> simp
    have i0 := hb (decide ((0 : Int) ∈ o))
    have i1 := hb (decide ((1 : Int) ∈ o))
    have i2 := hb (decide ((2 : Int) ∈ o))
    have i3 := hb (decide ((3 : Int) ∈ o))
    have i4 := hb (decide ((4 : Int) ∈ o))
    have i5 := hb (decide ((5 : Int) ∈ o))
    show 0 + (1 - (decide ((5 : Int) ∈ o)).toNat) + (1 - (decide ((4 : Int) ∈ o)).toNat) + (1 - (decide ((3 : Int) ∈ o)).toNat) + (1 - (decide ((2 : Int) ∈ o)).toNat) + (1 - (decide ((1 : Int) ∈ o)).toNat) + (1 - (decide ((0 : Int) ∈ o)).toNat) + o.length = 6
    omega
  · obtain ⟨j, hj, rfl⟩ := List.mem_map.1 hm
    have := (List.mem_filter.1 hj).2
    simpa using this
/-- the mark -/
theorem markG_all (hk : x.key = k) : ∀ (r : List (SlV E)) (n : Int), (∀ c ∈ r, c.xs = [x]) → markG k n r = if r = [] then n else min n x.asof
  | [], n, _ => rfl
  | c :: r, n, h => by
    obtain ⟨e1, e2⟩ := hasK_me hk
    rw [markG, h c (List.mem_cons_self ..), e1, if_pos rfl, e2, markG_all hk r _ (fun d hd => h d (List.mem_cons_of_mem _ hd)), if_neg (List.cons_ne_nil c r)]
    show (if r = [] then min n x.asof else min (min n x.asof) x.asof) = min n x.asof
    split <;> omega
theorem markG_some : ∀ (r : List (SlV E)) (n : Int), (∃ c ∈ r, c.xs = []) → markG k n r = 0
  | [], n, h => by obtain ⟨c, hc, _⟩ := h; cases hc
  | c :: r, n, h => by
    rw [markG]
    split
    · rename_i hh
      refine markG_some r _ ?_
      obtain ⟨d, hd, hdx⟩ := h
      rcases List.mem_cons.1 hd with rfl | hd
      · rw [hdx] at hh; cases hh
      · exact ⟨d, hd, hdx⟩
    · rfl
/-- what repair.Lacks and tomb.Mark tell of such caches -/
theorem own_tells (hx : chk x = 0) (hk : x.key = k) (hkb : keyB k = true) (hs : x.asof = 1) {o : List Int} (hn : o.Nodup) (hb : ∀ n ∈ o, 0 ≤ n ∧ n < 6) (h1 : 1 ≤ o.length) {r : List (SlV E)} (h6 : r.length = 6) (h : ∀ j (hj : j < r.length), r[j].xs = if ((j : Nat) : Int) ∈ o then [x] else []) :
    (lacksR r k).2 = 0 ∧ (lacksR r k).1.length + o.length = 6 ∧ (∀ n ∈ (lacksR r k).1, ¬ n ∈ o) ∧ (markR r k).2 = 0 ∧ (o.length = 6 → (markR r k).1 = 1) ∧ (o.length < 6 → (markR r k).1 = 0) := by
  have hone : ∀ c ∈ r, OneE x c := fun c hc => by
    obtain ⟨j, hj, rfl⟩ := List.getElem_of_mem hc
    rw [OneE, h j hj]
    split
    · exact .inr rfl
    · exact .inl rfl
  have hck := chkTK_mk (m := r) (k := k) (by omega) (by omega) (fun c hc => (hone c hc).chk hx) hkb
  have hex : ∃ c ∈ r, c.xs = [x] := by
    match o, h1, hb, h with
    | a :: o, _, hb, h =>
      obtain ⟨b0, b1⟩ := hb a (List.mem_cons_self ..)
      have hj : a.toNat < r.length := by omega
      refine ⟨r[a.toNat], List.getElem_mem hj, ?_⟩
      rw [h _ hj, if_pos (by rw [Int.toNat_of_nonneg b0]; exact List.mem_cons_self ..)]
  have hrd := readR_one hx hk hkb (r := r) (by omega) (by omega) hone hex
  obtain ⟨l1, l2⟩ := lacks_own hk hn hb h6 h
  have hL : lacksR r k = (lacksF k x.ver 0 r, 0) := by rw [lacksR, hrd, if_pos rfl]
  rw [hL, markR, if_pos hck]
  refine ⟨rfl, l1, l2, rfl, fun ho => ?_, fun ho => ?_⟩
  · have hall : ∀ c ∈ r, c.xs = [x] := fun c hc => by
      obtain ⟨j, hj, rfl⟩ := List.getElem_of_mem hc
      rw [h j hj, if_pos]
      refine Classical.byContradiction fun hm => ?_
      have := own_len ((j : Int) :: o) (List.nodup_cons.2 ⟨hm, hn⟩) (fun n hn' => by
        rcases List.mem_cons.1 hn' with rfl | hn'
        · omega
        · exact hb n hn')
      have hb2 : ∀ b : Bool, b.toNat ≤ 1 := fun b => by cases b <;> simp
      have i0 := hb2 (decide ((0 : Int) ∈ (j : Int) :: o))
      have i1 := hb2 (decide ((1 : Int) ∈ (j : Int) :: o))
      have i2 := hb2 (decide ((2 : Int) ∈ (j : Int) :: o))
      have i3 := hb2 (decide ((3 : Int) ∈ (j : Int) :: o))
      have i4 := hb2 (decide ((4 : Int) ∈ (j : Int) :: o))
      have i5 := hb2 (decide ((5 : Int) ∈ (j : Int) :: o))
      rw [List.length_cons] at this
      omega
    show markG k 1000 r = 1
    rw [markG_all hk r 1000 hall, if_neg (by intro e; rw [e] at h6; cases h6), hs]
    rfl
  · refine markG_some r 1000 ?_
    refine Classical.byContradiction fun hno => ?_
    have hin : ∀ j, j < 6 → ((j : Nat) : Int) ∈ o := fun j hj => Classical.byContradiction fun hm => hno ⟨r[j], List.getElem_mem (by omega), by rw [h j (by omega), if_neg hm]⟩
    have := own_len o hn hb
    rw [decide_eq_true (show (0 : Int) ∈ o from hin 0 (by omega)), decide_eq_true (show (1 : Int) ∈ o from hin 1 (by omega)), decide_eq_true (show (2 : Int) ∈ o from hin 2 (by omega)), decide_eq_true (show (3 : Int) ∈ o from hin 3 (by omega)), decide_eq_true (show (4 : Int) ∈ o from hin 4 (by omega)), decide_eq_true (show (5 : Int) ∈ o from hin 5 (by omega))] at this
    have e : true.toNat = 1 := rfl
    omega
end
theorem own_add {e : E} (h : chk e = 0) : ∃ b, addR [] e = ([e], b, 0) := by
  have h1 : addC [] e = ([e], 0) := rfl
  exact ⟨_, by rw [addR, if_pos (show chkC [] = 0 from rfl), if_pos h, h1, if_pos rfl]⟩
/-! ### the log -/
theorem own_rput {k : Int} {t : ByteArray} (h : keyB k = true) (ht : t.size ≤ 12) : rput [] k t = ((1, 0), [⟨k, 0, 0, false, t⟩]) := by
  unfold rput
  rw [if_pos h, if_neg (by omega)]
  rfl
theorem own_big {k : Int} {t : ByteArray} (h : keyB k = true) (ht : 12 < t.size) : (LG.new.put k t).1 = (0, 4) := by
  have hr : rput ([] : List E) k t = ((0, 4), []) := by
    unfold rput
    rw [if_pos h, if_pos (by omega)]
  show (LG.new.deed (rput [] k t) _).1 = _
  rw [hr]
  rfl
theorem own_log {k : Int} {t : ByteArray} (h : keyB k = true) (ht : t.size ≤ 12) : ∃ A B, LG.new.put k t = ((1, 0), A) ∧ A.sync = (0, B) ∧ ratS (B.crash 0).D k (B.crash 0).D.length = (⟨k, 1, 1, false, t⟩, 0) := by
  obtain ⟨h0, h8⟩ := keyB_true.1 h
  obtain ⟨A, hA⟩ : ∃ A : LG, A = { LG.new.step with D := [⟨k, 0, 0, false, t⟩], bs := [] ++ recL k.toNat false t } := ⟨_, rfl⟩
  have e1 : LG.new.put k t = ((1, 0), A) := by
    rw [hA]
    show LG.new.deed (rput [] k t) _ = _
    rw [own_rput h ht]
    rfl
  have hs : A.stopped = false := by rw [hA]; rfl
  have hl : A.left = -1 := by rw [hA]; rfl
  have hD : A.D = [⟨k, 0, 0, false, t⟩] := by rw [hA]
  have hbs : A.bs = recE ⟨k, 0, 0, false, t⟩ := by rw [hA]; rfl
  clear hA
  refine ⟨A, { A.step with safe := A.bs.length }, e1, ?_, ?_⟩
  · unfold LG.sync
    rw [hs, if_neg (by decide), hl, if_neg (by decide)]
  · obtain ⟨B, hB⟩ : ∃ B : LG, B = { A.step with safe := A.bs.length } := ⟨_, rfl⟩
    rw [← hB]
    have b1 : B.D = [⟨k, 0, 0, false, t⟩] := by rw [hB]; exact hD
    have b2 : B.high 0 = (recE ⟨k, 0, 0, false, t⟩).length := by
      unfold LG.high
      rw [show B.bs = recE ⟨k, 0, 0, false, t⟩ by rw [hB]; exact hbs, show B.safe = (recE ⟨k, 0, 0, false, t⟩).length by rw [hB, ← hbs]]
      omega
    have hw : wholeN B.D (B.high 0) = 1 := by
      rw [b1, b2, wholeN, if_pos (Nat.le_refl _)]
      rfl
    have hc : (B.crash 0).D = [⟨k, 0, 0, false, t⟩] := by
      show B.D.take (wholeN B.D (B.high 0)) = _
      rw [hw, b1]
      rfl
    rw [hc]
    unfold ratS
    have hl1 : ([(⟨k, 0, 0, false, t⟩ : E)].length : Int) = 1 := rfl
    rw [if_pos ⟨h, by omega, by omega⟩, hl1, show ((1 : Int)).toNat = 1 from rfl, show ([(⟨k, 0, 0, false, t⟩ : E)]).take 1 = [] ++ [⟨k, 0, 0, false, t⟩] from rfl, refC_snoc, if_pos rfl]
    rfl
/-! ### the owners -/
theorem own_facts {l : List Int} {each key many : Int} (h0 : ptsE l each = 0) (ho : ownsE (ptsC l each.toNat) key many = 0) {o : List Int} (hx : o = ownL many (rotP (ptsC l each.toNat) (firstP (ptsC l each.toNat) key))) :
    keyB key = true ∧ 1 ≤ o.length ∧ o.length ≤ 6 ∧ o.Nodup ∧ ∀ n ∈ o, 0 ≤ n ∧ n < 6 := by
  obtain ⟨⟨h1, h2, h3⟩, h4, h5⟩ := ptsE_ok h0
  obtain ⟨hg, o1, o2, o3⟩ := ownsE_zero ho
  obtain ⟨f1, f2, -⟩ := ownL_facts many (rotP (ptsC l each.toNat) (firstP (ptsC l each.toNat) key))
  subst hx
  refine ⟨(rgE_zero hg).2, by omega, by omega, f1, fun n hn => ?_⟩
  obtain ⟨p, hp1, rfl⟩ := f2 n hn
  obtain ⟨n', hn', i, hi, rfl⟩ := ptsC_mem.1 (rotP_mem hp1)
  have := nodeB_true.1 (h3 n' hn')
  show 0 ≤ n' ∧ n' < 6
  omega
end Go.Proofs.YtmgiecoeeidgoaaGreatDoor
