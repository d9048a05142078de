/-
  PLAIN LAW of rumors told one after the other: none is told again ahead of one that was told less; each as often as the limit says. CONDITIONS: none.
-/
import Derived.Test.YtgamocljdbffpaaULaw
namespace Go.Proofs.Ytgamocljdbffpaa
open Go.RowKit
open Go.ChangeShapes Go.WideShapes Go.ChangeAt

/-- times of a node -/
def tmsN (ts : List Int) (n : Int) : Int := ts.getD n.toNat 0
/-- one more -/
def incr (ts : List Int) (m : M) : List Int := ts.set m.node.toNat (tmsN ts m.node + 1)
theorem incr_length (ts : List Int) (m : M) : (incr ts m).length = ts.length := by simp [incr]
theorem incr_at {ts : List Int} {m : M} (hl : ts.length = 6) (hm : 0 ≤ m.node ∧ m.node ≤ 5) {n : Int} (hn : 0 ≤ n ∧ n ≤ 5) : tmsN (incr ts m) n = if n = m.node then tmsN ts n + 1 else tmsN ts n := by
  unfold tmsN incr
  rw [List.getD, List.getElem?_set]
  by_cases h : n = m.node
  · rw [if_pos h, if_pos (by omega), if_pos (by omega), h]; rfl
  · rw [if_neg h, if_neg (by omega)]; rfl
theorem incr_sum {ts : List Int} {m : M} (hl : ts.length = 6) (hm : 0 ≤ m.node ∧ m.node ≤ 5) : (incr ts m).sum = ts.sum + 1 := by
  match ts, hl with
  | [a, b, c, d, e, f], _ =>
    unfold incr tmsN
    rcases (show m.node = 0 ∨ m.node = 1 ∨ m.node = 2 ∨ m.node = 3 ∨ m.node = 4 ∨ m.node = 5 by omega) with h | h | h | h | h | h
    all_goals
      rw [h]
      simp
      omega
/-- so many nodes of some -/
def isIn (l : List M) (n : Int) : Bool := l.any fun m => decide (m.node = n)
theorem foldl_incr : ∀ {l : List M} {ts : List Int}, ts.length = 6 → (∀ m ∈ l, 0 ≤ m.node ∧ m.node ≤ 5) → l.Pairwise (fun a b => a.node ≠ b.node) →
    (l.foldl incr ts).length = 6 ∧ (l.foldl incr ts).sum = ts.sum + l.length ∧ ∀ n, 0 ≤ n ∧ n ≤ 5 → tmsN (l.foldl incr ts) n = tmsN ts n + if isIn l n = true then 1 else 0
  | [], ts, hl, _, _ => ⟨hl, by simp, fun n _ => by simp [isIn]⟩
  | m :: r, ts, hl, hm, hp => by
    obtain ⟨p1, p2⟩ := List.pairwise_cons.1 hp
    have hm0 := hm m (by simp)
    obtain ⟨h1, h2, h3⟩ := foldl_incr (l := r) (ts := incr ts m) (by rw [incr_length]; exact hl) (fun x hx => hm x (by simp [hx])) p2
    refine ⟨h1, ?_, fun n hn => ?_⟩
    · rw [List.foldl_cons, h2, incr_sum hl hm0, List.length_cons]
      omega
    · rw [List.foldl_cons, h3 n hn, incr_at hl hm0 hn]
      by_cases h : n = m.node
      · have hr : isIn r n = false := by
          rw [← Bool.not_eq_true]
          intro hi
          obtain ⟨x, hx, he⟩ := List.any_eq_true.1 hi
          exact p1 x hx (by rw [← h]; exact (of_decide_eq_true he).symm)
        have hmr : isIn (m :: r) n = true := by
          unfold isIn
          rw [List.any_cons, decide_eq_true h.symm]; rfl
        rw [if_pos h, hr, hmr]
        simp
      · have hmr : isIn (m :: r) n = isIn r n := by
          unfold isIn
          rw [List.any_cons, decide_eq_false (fun e => h e.symm), Bool.false_or]
        rw [if_neg h, hmr]

/-- what holds ahead of each turn: xs0 were there at first -/
structure Turns (xs0 : List U) (limit : Int) (cur : List U) (ts : List Int) : Prop where
  chk : chkU cur = 0
  len : ts.length = 6
  low : ∀ u ∈ cur, u.told < limit ∧ tmsN ts u.node = u.told
  all : ∀ v ∈ xs0, (∃ u ∈ cur, u.node = v.node) ∨ tmsN ts v.node = limit
  near : ∀ v ∈ xs0, ∀ v' ∈ xs0, tmsN ts v.node ≤ tmsN ts v'.node + 1
  from0 : ∀ u ∈ cur, ∃ v ∈ xs0, v.node = u.node
  bound : ∀ n : Int, 0 ≤ n ∧ n ≤ 5 → 0 ≤ tmsN ts n ∧ tmsN ts n ≤ 10
theorem uNode {l : List U} (h : chkU l = 0) {u : U} (hu : u ∈ l) : 0 ≤ u.node ∧ u.node ≤ 5 := (rightB_true.1 (okU_true.1 ((uval_iff.1 h).2 u hu)).1).1
theorem Turns.start {xs0 : List U} {limit : Int} (hc : chkU xs0 = 0) (h0 : ∀ u ∈ xs0, u.told = 0) (hl : 1 ≤ limit) : Turns xs0 limit xs0 [0, 0, 0, 0, 0, 0] where
  chk := hc
  len := rfl
  low u hu := by
    have hz : ∀ n : Int, tmsN [0, 0, 0, 0, 0, 0] n = 0 := fun n => by
      unfold tmsN
      generalize n.toNat = k
      match k with
      | 0 | 1 | 2 | 3 | 4 | 5 => rfl
      | k + 6 => rfl
    rw [hz, h0 u hu]
    exact ⟨by omega, rfl⟩
  all v hv := .inl ⟨v, hv, rfl⟩
  near v hv v' hv' := by
    have hz : ∀ n : Int, tmsN [0, 0, 0, 0, 0, 0] n = 0 := fun n => by
      unfold tmsN
      generalize n.toNat = k
      match k with
      | 0 | 1 | 2 | 3 | 4 | 5 => rfl
      | k + 6 => rfl
    rw [hz, hz]; omega
  from0 u hu := ⟨u, hu, rfl⟩
  bound n _ := by
    have hz : ∀ n : Int, tmsN [0, 0, 0, 0, 0, 0] n = 0 := fun n => by
      unfold tmsN
      generalize n.toNat = k
      match k with
      | 0 | 1 | 2 | 3 | 4 | 5 => rfl
      | k + 6 => rfl
    rw [hz]; omega
theorem Turns.sum {xs0 cur : List U} {limit : Int} {ts : List Int} (h : Turns xs0 limit cur ts) : ts.sum ≤ 60 := by
  have hb := h.bound
  match ts, h.len with
  | [a, b, c, d, e, f], _ =>
    have h0 := (hb 0 (by omega)).2
    have h1 := (hb 1 (by omega)).2
    have h2 := (hb 2 (by omega)).2
    have h3 := (hb 3 (by omega)).2
    have h4 := (hb 4 (by omega)).2
    have h5 := (hb 5 (by omega)).2
    simp [tmsN] at h0 h1 h2 h3 h4 h5
    simp
    omega
theorem told_nodes {cur : List U} (hc : chkU cur = 0) (k : Nat) : (∀ m ∈ (pickU cur k 0).1, 0 ≤ m.node ∧ m.node ≤ 5) ∧ (pickU cur k 0).1.Pairwise (fun a b => a.node ≠ b.node) ∧ (pickU cur k 0).1.length = min k cur.length ∧
    ∀ n, isIn (pickU cur k 0).1 n = true ↔ ∃ u ∈ cur, selU cur k u = true ∧ u.node = n := by
  have ha := uasc_of hc
  show (∀ m ∈ cur.flatMap (toldU cur k), _) ∧ (cur.flatMap (toldU cur k)).Pairwise _ ∧ (cur.flatMap (toldU cur k)).length = _ ∧ ∀ n, isIn (cur.flatMap (toldU cur k)) n = true ↔ _
  rw [toldU_filter]
  refine ⟨fun m hm => ?_, ?_, by rw [List.length_map, selU_count ha], fun n => ?_⟩
  · obtain ⟨u, hu, rfl⟩ := List.mem_map.1 hm
    exact uNode hc (List.mem_filter.1 hu).1
  · rw [List.pairwise_map]
    exact (ha.filter _).imp (fun {a b} h => by show a.node ≠ b.node; omega)
  · unfold isIn
    rw [List.any_eq_true]
    constructor
    · rintro ⟨m, hm, he⟩
      obtain ⟨u, hu, rfl⟩ := List.mem_map.1 hm
      exact ⟨u, (List.mem_filter.1 hu).1, (List.mem_filter.1 hu).2, of_decide_eq_true he⟩
    · rintro ⟨u, hu, hs, hn⟩
      exact ⟨u.mem, List.mem_map_of_mem (List.mem_filter.2 ⟨hu, hs⟩), decide_eq_true hn⟩
theorem Turns.step {xs0 cur : List U} {limit : Int} {ts : List Int} (h : Turns xs0 limit cur ts) (h0 : chkU xs0 = 0) (hl1 : 1 ≤ limit) (hl : limit ≤ 10) {k : Nat} :
    Turns xs0 limit (pickU cur k limit).2 ((pickU cur k limit).1.foldl incr ts) ∧ ((pickU cur k limit).1.foldl incr ts).sum = ts.sum + ((min k cur.length : Nat) : Int) := by
  have ha := uasc_of h.chk
  obtain ⟨t1, t2, t3, t4⟩ := told_nodes h.chk k
  have hp0 : (pickU cur k 0).1 = (pickU cur k limit).1 := rfl
  rw [hp0] at t1 t2 t3 t4
  obtain ⟨f1, f2, f3⟩ := foldl_incr h.len t1 t2
  have hselU : ∀ u ∈ cur, isIn (pickU cur k limit).1 u.node = selU cur k u := fun u hu => by
    rw [Bool.eq_iff_iff, t4]
    constructor
    · rintro ⟨u', hu', hs, hn⟩
      rw [← uasc_inj ha hu' hu hn]; exact hs
    · exact fun hs => ⟨u, hu, hs, rfl⟩
  have hno : ∀ n, (∀ u ∈ cur, u.node ≠ n) → isIn (pickU cur k limit).1 n = false := fun n hn => by
    rw [← Bool.not_eq_true, t4]
    rintro ⟨u, hu, _, he⟩
    exact hn u hu he
  have hv0 : ∀ v ∈ xs0, 0 ≤ v.node ∧ v.node ≤ 5 := fun v hv => uNode h0 hv
  refine ⟨⟨left_ok h.chk (by omega), f1, fun x hx => ?_, fun v hv => ?_, fun v hv v' hv' => ?_, fun x hx => ?_, fun n hn => ?_⟩, by rw [f2, t3]⟩
  · obtain ⟨u, hu, hx⟩ := List.mem_flatMap.1 hx
    obtain ⟨g1, -, g3⟩ := leftU_mem hx
    have hlo := h.low u hu
    rw [g1, f3 _ (uNode h.chk hu), hselU u hu]
    rcases g3 with ⟨hs, hlt, ht⟩ | ⟨hs, rfl⟩
    · rw [hs, if_pos rfl, ht]
      exact ⟨hlt, by omega⟩
    · rw [hs, if_neg (by decide)]
      exact ⟨hlo.1, by omega⟩
  · rw [f3 _ (hv0 v hv)]
    rcases h.all v hv with ⟨u, hu, hn⟩ | hlim
    · have hlo := h.low u hu
      rw [← hn, hselU u hu]
      by_cases hs : selU cur k u = true
      · by_cases hlt : u.told + 1 < limit
        · exact .inl ⟨⟨u.node, u.life, u.state, u.told + 1⟩, List.mem_flatMap.2 ⟨u, hu, by rw [leftU, if_pos hs, if_pos hlt]; simp⟩, rfl⟩
        · rw [if_pos hs]
          exact .inr (by omega)
      · exact .inl ⟨u, List.mem_flatMap.2 ⟨u, hu, by rw [leftU, if_neg hs]; simp⟩, rfl⟩
    · by_cases hu : ∃ u ∈ cur, u.node = v.node
      · obtain ⟨u, hu, hn⟩ := hu
        have hlo := h.low u hu
        rw [hn] at hlo
        omega
      · rw [hno v.node (fun u hu' he => hu ⟨u, hu', he⟩), if_neg (by decide)]
        exact .inr (by omega)
  · rw [f3 _ (hv0 v hv), f3 _ (hv0 v' hv')]
    have hne := h.near v hv v' hv'
    by_cases hi : isIn (pickU cur k limit).1 v.node = true
    · obtain ⟨u, hu, hs, hn⟩ := (t4 _).1 hi
      have hlo := h.low u hu
      rw [hn] at hlo
      rw [if_pos hi]
      by_cases hi' : isIn (pickU cur k limit).1 v'.node = true
      · rw [if_pos hi']; omega
      · rw [if_neg hi']
        rcases h.all v' hv' with ⟨u', hu', hn'⟩ | hlim
        · have hlo' := h.low u' hu'
          have hs' : selU cur k u' = false := by
            rw [← hselU u' hu', hn']; simpa using hi'
          have := ltN_true.1 (selU_lt ha hs hs' hu')
          rw [hn'] at hlo'
          omega
        · omega
    · rw [if_neg hi]
      split <;> omega
  · obtain ⟨u, hu, hx⟩ := List.mem_flatMap.1 hx
    rw [(leftU_mem hx).1]
    exact h.from0 u hu
  · rw [f3 n hn]
    have hb := h.bound n hn
    by_cases hi : isIn (pickU cur k limit).1 n = true
    · obtain ⟨u, hu, hs, he⟩ := (t4 _).1 hi
      have hlo := h.low u hu
      rw [he] at hlo
      rw [if_pos hi]
      omega
    · rw [if_neg hi]; omega
theorem Turns.done {xs0 : List U} {limit : Int} {ts : List Int} (h : Turns xs0 limit [] ts) : ∀ v ∈ xs0, tmsN ts v.node = limit := fun v hv => by
  rcases h.all v hv with ⟨u, hu, _⟩ | h
  · cases hu
  · exact h
end Go.Proofs.Ytgamocljdbffpaa
