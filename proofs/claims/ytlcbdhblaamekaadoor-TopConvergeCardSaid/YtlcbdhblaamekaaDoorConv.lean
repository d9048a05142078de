/-
  PLAIN LAW OF CONVERGENCE: nodes that swap by calls by which all know all have of each key the newest. CONDITIONS: none.
-/
import Derived.Test.YtlcbdhblaamekaaDoorMeshSwap
import Derived.Test.YtlcbdhblaamekaaDoorMeshAt
import Derived.Test.YtlcbdhblaamekaaDoorCBoth
import Derived.Test.YtlcbdhblaamekaaDoorGPlan
namespace Go.Proofs.YtlcbdhblaamekaaDoor

def verO : Option E → Int
  | some e => e.ver
  | none => 0
/-- how new a key is to a cache -/
def verK (l : List E) (k : Int) : Int := verO (lk l k)
def PosC (l : List E) : Prop := ∀ e ∈ l, 1 ≤ e.ver
theorem CacheD.pos_ver {D l : List E} (hD : Deeds D) (h : CacheD D l) (k : Int) : 0 ≤ verK l k := by
  unfold verK
  cases hk : lk l k with
  | none => exact Int.le_refl _
  | some e => exact (seqB_true.1 (chk_zero.1 ((h.2 e (lk_some hk).1).chk hD)).2.1).1
theorem PosC.none {l : List E} (h : PosC l) {k : Int} (hv : verK l k = 0) : lk l k = .none := by
  unfold verK at hv
  cases hk : lk l k with
  | none => rfl
  | some e =>
    rw [hk] at hv
    have := h e (lk_some hk).1
    simp only [verO] at hv
    omega
/-- of one version there is one -/
theorem TrueD.one {D : List E} {a b : E} (ha : TrueD D a) (hb : TrueD D b) (hk : a.key = b.key) (hv : a.ver = b.ver) : a.gone = b.gone ∧ a.text = b.text := by
  obtain ⟨_, q, hq, he⟩ := ha
  obtain ⟨_, p, hp, hf⟩ := hb
  have e0 : a.ver = (refC (D.take q) a.key).seq := by rw [he]; rfl
  have f0 : b.ver = (refC (D.take p) b.key).seq := by rw [hf]; rfl
  have e2 : a.gone = (refC (D.take q) a.key).gone := by rw [he]; rfl
  have f2 : b.gone = (refC (D.take p) b.key).gone := by rw [hf]; rfl
  have e3 : a.text = (refC (D.take q) a.key).text := by rw [he]; rfl
  have f3 : b.text = (refC (D.take p) b.key).text := by rw [hf]; rfl
  have hq2 := chsOf_le D q a.key hq
  have hp2 := chsOf_le D p b.key hp
  rcases Nat.le_total q p with h | h
  · have hm := refC_mono D a.key q (p - q) (by omega)
    rw [show q + (p - q) = p by omega] at hm
    rcases hm with hm | hm
    · exact ⟨by rw [e2, f2, ← hk, hm], by rw [e3, f3, ← hk, hm]⟩
    · rw [hk] at hm hq2 e0
      omega
  · have hm := refC_mono D a.key p (q - p) (by omega)
    rw [show p + (q - p) = q by omega] at hm
    rcases hm with hm | hm
    · exact ⟨by rw [e2, f2, ← hk, hm], by rw [e3, f3, ← hk, hm]⟩
    · rw [hk] at hm e0
      omega
theorem jn_ver {a b u : E} (h : Jn a b u) : u.ver = max a.ver b.ver := by
  rcases h with ⟨h1, _, _, rfl⟩ | ⟨h1, _, rfl⟩ | ⟨h1, _, rfl⟩
  · show b.ver = _; omega
  · omega
  · omega
theorem jO_ver {x y : Option E} (hk : ∀ a b, x = some a → y = some b → a.key = b.key) (hok : jOk x y) (hx : 0 ≤ verO x) (hy : 0 ≤ verO y) : verO (jO x y) = max (verO x) (verO y) := by
  cases x with
  | none => show verO y = max 0 (verO y); omega
  | some a =>
    cases y with
    | none => show verO (some a) = max (verO (some a)) 0; omega
    | some b => exact jn_ver (joined_jn (hk a b rfl rfl) (hok a b rfl rfl))
theorem jO_pos {x y : Option E} (hk : ∀ a b, x = some a → y = some b → a.key = b.key) (hok : jOk x y) (hx : ∀ a, x = some a → 1 ≤ a.ver) (hy : ∀ b, y = some b → 1 ≤ b.ver) : ∀ u, jO x y = some u → 1 ≤ u.ver := by
  intro u hu
  cases x with
  | none => exact hy u hu
  | some a =>
    cases y with
    | none => exact hx u hu
    | some b =>
      injection hu with hu
      have := jn_ver (joined_jn (hk a b rfl rfl) (hok a b rfl rfl))
      have := hx a rfl
      rw [← hu]
      omega
/-- more added: of each key the newer -/
theorem all_ver {D a m : List E} (hD : Deeds D) (ha : CacheD D a) (hm : CacheD D m) (pa : PosC a) (pm : PosC m) : PosC (allC a m).1 ∧ ∀ k, verK (allC a m).1 k = max (verK a k) (verK m k) := by
  obtain ⟨h0, h1⟩ := CacheD.all hD ha hm.2
  obtain ⟨i1, i2⟩ := allC_key ha.1 hm.1
  obtain ⟨_, i3⟩ := i2 h0
  have hok := i1.1 h0
  have hkk : ∀ k x y, lk a k = some x → lk m k = some y → x.key = y.key := fun k x y hx hy => by rw [(lk_some hx).2, (lk_some hy).2]
  refine ⟨fun e he => ?_, fun k => ?_⟩
  · have hl := lk_mem h1.1 he
    rw [i3] at hl
    exact jO_pos (hkk _) (hok _) (fun x hx => pa x (lk_some hx).1) (fun y hy => pm y (lk_some hy).1) e hl
  · have := ha.pos_ver hD k
    have := hm.pos_ver hD k
    unfold verK at *
    rw [i3]
    exact jO_ver (hkk k) (hok k) (by assumption) (by assumption)
theorem someL_true {D a : List E} (ha : CacheD D a) (K : List Int) : CacheD D (someL a K) := ⟨some_val ha.1 K, fun e he => ha.2 e (List.mem_filter.1 he).1⟩
theorem someL_ver (a : List E) (K : List Int) (k : Int) : verK (someL a K) k = if k ∈ K then verK a k else 0 := by
  unfold verK
  rw [lk_filter]
  split <;> rfl
/-- behind a swap both have of each key the newer of both -/
theorem swap_ver {D a b : List E} (hD : Deeds D) (ha : CacheD D a) (hb : CacheD D b) (pa : PosC a) (pb : PosC b) (hno : ∀ k : Nat, k < 8 → ¬ (k : Int) ∈ (partT a b 1).1 → verK a k = verK b k) :
    PosC (pairR a b).1 ∧ PosC (pairR a b).2.1 ∧ ∀ k : Nat, k < 8 → verK (pairR a b).1 k = max (verK a k) (verK b k) ∧ verK (pairR a b).2.1 k = max (verK a k) (verK b k) := by
  obtain ⟨x0, _⟩ := CacheD.all hD ha (m := someL b (partT a b 1).1) (fun e he => hb.2 e (List.mem_filter.1 he).1)
  obtain ⟨y0, _⟩ := CacheD.all hD hb (m := someL a (partT a b 1).1) (fun e he => ha.2 e (List.mem_filter.1 he).1)
  rw [pairR, if_pos (by rw [diffR, if_pos ha.1, if_pos hb.1]), if_pos x0, if_pos y0]
  obtain ⟨x1, x2⟩ := all_ver hD ha (someL_true hb (partT a b 1).1) pa (fun e he => pb e (List.mem_filter.1 he).1)
  obtain ⟨y1, y2⟩ := all_ver hD hb (someL_true ha (partT a b 1).1) pb (fun e he => pa e (List.mem_filter.1 he).1)
  refine ⟨x1, y1, fun k hk => ?_⟩
  simp only
  rw [x2, y2, someL_ver, someL_ver]
  have := ha.pos_ver hD (k : Int)
  have := hb.pos_ver hD (k : Int)
  by_cases hin : (k : Int) ∈ (partT a b 1).1
  · rw [if_pos hin, if_pos hin]
    exact ⟨rfl, by omega⟩
  · rw [if_neg hin, if_neg hin]
    have := hno k hk hin
    omega
/-- caches of the same versions do not part -/
theorem like_part {D a b : List E} (ha : CacheD D a) (hb : CacheD D b) (pa : PosC a) (pb : PosC b) (h : ∀ k : Nat, k < 8 → verK a k = verK b k) : (partT a b 1).1 = [] := by
  obtain ⟨_, p2, p3, _⟩ := part_facts a b
  rcases hp : (partT a b 1).1 with _ | ⟨k, r⟩
  · rfl
  · exfalso
    rw [hp] at p2 p3
    obtain ⟨k0, k8⟩ := p2 k (List.mem_cons_self ..)
    refine p3 k (List.mem_cons_self ..) ?_
    obtain ⟨n, rfl⟩ := Int.eq_ofNat_of_zero_le k0
    rw [Int.toNat_natCast]
    have hv := h n (by omega)
    unfold leafN
    cases hx : lk a (n : Int) with
    | none =>
      have hb0 : verK b n = 0 := by rw [← hv]; unfold verK; rw [hx]; rfl
      rw [pb.none hb0]
    | some x =>
      cases hy : lk b (n : Int) with
      | none =>
        have ha0 : verK a n = 0 := by rw [hv]; unfold verK; rw [hy]; rfl
        rw [pa.none ha0] at hx
        cases hx
      | some y =>
        unfold verK at hv
        rw [hx, hy] at hv
        obtain ⟨m1, k1⟩ := lk_some hx
        obtain ⟨m2, k2⟩ := lk_some hy
        have hkk : x.key = y.key := k1.trans k2.symm
        have hvv : x.ver = y.ver := hv
        obtain ⟨g1, g2⟩ := (ha.2 x m1).one (hb.2 y m2) hkk hvv
        simp only
        rw [hkk, hvv, g1, g2]

/-- who knows whose, and how new each cache is -/
structure ConvS (n : Nat) (V0 : Nat → Nat → Int) (know : List Nat) (C : List (List E)) : Prop where
  len : C.length = n
  klen : know.length = n
  up : ∀ c, c < n → ∀ j, j < n → (know.getD c 0).testBit j = true → ∀ k, k < 8 → V0 j k ≤ verK (C.getD c []) (k : Nat)
  is : ∀ c, c < n → ∀ k, k < 8 → ∃ j, j < n ∧ (know.getD c 0).testBit j = true ∧ verK (C.getD c []) (k : Nat) = V0 j k
theorem initN_get {n c : Nat} (h : c < n) : (initN n).getD c 0 = 2 ^ c := by
  unfold initN
  rw [List.getD_eq_getElem?_getD, List.getElem?_map, List.getElem?_range h]
  rfl
theorem ConvS.start {n : Nat} {C : List (List E)} (h : C.length = n) : ConvS n (fun j k => verK (C.getD j []) (k : Nat)) (initN n) C where
  len := h
  klen := initN_length n
  up c hc j hj hb k hk := by
    rw [initN_get hc, Nat.testBit_two_pow] at hb
    have : c = j := of_decide_eq_true hb
    rw [this]
    exact Int.le_refl _
  is c hc k hk := ⟨c, hc, by rw [initN_get hc, Nat.testBit_two_pow]; simp, rfl⟩
theorem setD {C : List (List E)} {a b c : Nat} {x y : List E} (ha : a < C.length) (hb : b < C.length) : ((C.set a x).set b y).getD c [] = if c = b then y else if c = a then x else C.getD c [] := by
  by_cases h1 : c = b
  · rw [if_pos h1, h1, List.getD_eq_getElem?_getD, List.getElem?_set_self (by simpa using hb)]
    rfl
  · rw [if_neg h1, List.getD_eq_getElem?_getD, List.getElem?_set_ne (fun h => h1 h.symm)]
    by_cases h2 : c = a
    · rw [if_pos h2, h2, List.getElem?_set_self ha]
      rfl
    · rw [if_neg h2, List.getElem?_set_ne (fun h => h2 h.symm), List.getD_eq_getElem?_getD]
theorem ConvS.step {n : Nat} {V0 : Nat → Nat → Int} {know : List Nat} {C : List (List E)} (h : ConvS n V0 know C) {a b : Nat} (ha : a < n) (hb : b < n) {x y : List E}
    (hv : ∀ k : Nat, k < 8 → verK x k = max (verK (C.getD a []) k) (verK (C.getD b []) k) ∧ verK y k = max (verK (C.getD a []) k) (verK (C.getD b []) k)) :
    ConvS n V0 (gStep know a b) ((C.set a x).set b y) := by
  have hCa : a < C.length := by rw [h.len]; exact ha
  have hCb : b < C.length := by rw [h.len]; exact hb
  have hka : a < know.length := by rw [h.klen]; exact ha
  have hkb : b < know.length := by rw [h.klen]; exact hb
  have hget : ∀ c k : Nat, k < 8 → verK (((C.set a x).set b y).getD c []) (k : Nat) = if c = a ∨ c = b then max (verK (C.getD a []) k) (verK (C.getD b []) k) else verK (C.getD c []) k := fun c k hk => by
    rw [setD hCa hCb]
    by_cases h1 : c = b
    · rw [if_pos h1, if_pos (.inr h1), (hv k hk).2]
    · rw [if_neg h1]
      by_cases h2 : c = a
      · rw [if_pos h2, if_pos (.inl h2), (hv k hk).1]
      · rw [if_neg h2, if_neg (by omega)]
  refine ⟨by simpa using h.len, by rw [gStep_length]; exact h.klen, fun c hc j hj hbit k hk => ?_, fun c hc k hk => ?_⟩
  · rw [hget c k hk]
    rw [gStep_get hka hkb] at hbit
    by_cases h1 : c = a ∨ c = b
    · rw [if_pos h1] at hbit ⊢
      rw [Nat.testBit_or, Bool.or_eq_true] at hbit
      rcases hbit with hbit | hbit
      · have := h.up a ha j hj hbit k hk; omega
      · have := h.up b hb j hj hbit k hk; omega
    · rw [if_neg h1] at hbit ⊢
      exact h.up c hc j hj hbit k hk
  · rw [hget c k hk, gStep_get hka hkb]
    by_cases h1 : c = a ∨ c = b
    · rw [if_pos h1, if_pos h1]
      obtain ⟨i, hi, bi, vi⟩ := h.is a ha k hk
      obtain ⟨j, hj, bj, vj⟩ := h.is b hb k hk
      rcases Int.le_total (verK (C.getD a []) k) (verK (C.getD b []) k) with hle | hle
      · exact ⟨j, hj, by rw [Nat.testBit_or, bj, Bool.or_true], by omega⟩
      · exact ⟨i, hi, by rw [Nat.testBit_or, bi, Bool.true_or], by omega⟩
    · rw [if_neg h1, if_neg h1]
      exact h.is c hc k hk
/-- the newest of each key -/
def NewR (n : Nat) (V0 : Nat → Nat → Int) (c : Nat) (nw : Nat → Int) : Prop := ∀ k, k < 8 → 0 ≤ nw k ∧ (∀ j, j < c → V0 j k ≤ nw k) ∧ (nw k = 0 ∨ ∃ j, j < n ∧ nw k = V0 j k)
theorem ConvS.full {n : Nat} {V0 : Nat → Nat → Int} {know : List Nat} {C : List (List E)} (h : ConvS n V0 know C) (hf : ∀ c, c < n → ∀ j, j < n → (know.getD c 0).testBit j = true) {nw : Nat → Int} (hn : NewR n V0 n nw) (hV : ∀ j k, 0 ≤ V0 j k) {c k : Nat} (hc : c < n) (hk : k < 8) : verK (C.getD c []) (k : Nat) = nw k := by
  obtain ⟨n0, n1, n2⟩ := hn k hk
  obtain ⟨j, hj, _, vj⟩ := h.is c hc k hk
  have := n1 j hj
  rcases n2 with n2 | ⟨i, hi, vi⟩
  · have := hV j k; omega
  · have := h.up c hc i hi (hf c hc i hi) k hk
    omega
/-- by calls by which all know all -/
theorem done_bits {n : Nat} {cs : List (SlV Int)} (hd : doneB n cs = true) (h0 : chkG n cs = 0) : ∀ a, a < n → ∀ b, b < n → ((gPlay (initN n) cs).getD a 0).testBit b = true := by
  obtain ⟨⟨h1, h6⟩, _, hc⟩ := chkG_ok h0
  have hlen : (gPlay (initN n) cs).length = n := by rw [gPlay_length, initN_length]
  unfold doneB at hd
  rw [h0, playR, if_pos h0, Int.toNat_natCast, playL_nat (by omega) hc] at hd
  simp only [decide_true, Bool.true_and, Bool.not_eq_true', List.any_eq_false] at hd
  intro a ha b hb
  have hmem : (((gPlay (initN n) cs).getD a 0 : Nat) : Int) ∈ castL (gPlay (initN n) cs) := by
    unfold castL
    exact List.mem_map.2 ⟨_, getD_memD 0 (by omega), rfl⟩
  have := hd _ hmem
  simp only [ne_eq, decide_not, Bool.not_eq_true, Bool.not_eq_false', decide_eq_true_eq] at this
  rw [fullI_val (by omega)] at this
  have e : (gPlay (initN n) cs).getD a 0 = 2 ^ n - 1 := by omega
  rw [e, Nat.testBit_two_pow_sub_one]
  simpa using hb
/-- the newest so far: of the caches ahead of c, and of the first j entries of L -/
def NewS (n : Nat) (V0 : Nat → Nat → Int) (c : Nat) (L : List E) (j : Nat) (nw : List Int) : Prop :=
  nw.length = 8 ∧ NewR n V0 c (fun k => nw.getD k 0) ∧ ∀ e ∈ L.take j, e.ver ≤ nw.getD e.key.toNat 0
theorem NewS.start {n : Nat} {V0 : Nat → Nat → Int} {c : Nat} {nw : List Int} (hl : nw.length = 8) (h : NewR n V0 c (fun k => nw.getD k 0)) (L : List E) : NewS n V0 c L 0 nw := ⟨hl, h, fun e he => by simp at he⟩
theorem NewS.skip {n : Nat} {V0 : Nat → Nat → Int} {c j : Nat} {L : List E} {nw : List Int} (h : NewS n V0 c L j nw) (hj : j < L.length) (hv : (L.getD j E.zero).ver ≤ nw.getD (L.getD j E.zero).key.toNat 0) : NewS n V0 c L (j + 1) nw :=
  ⟨h.1, h.2.1, fun e he => by
    rw [take_snocD E.zero hj, List.mem_append, List.mem_singleton] at he
    rcases he with he | rfl
    · exact h.2.2 e he
    · exact hv⟩
theorem getD_set_int {l : List Int} {i k : Nat} {v : Int} (hi : i < l.length) : (l.set i v).getD k 0 = if k = i then v else l.getD k 0 := by
  rw [List.getD_eq_getElem?_getD, List.getElem?_set]
  by_cases h : k = i
  · rw [if_pos h.symm, if_pos hi, if_pos h]; rfl
  · rw [if_neg (fun e => h e.symm), if_neg h, List.getD_eq_getElem?_getD]
theorem NewS.put {n : Nat} {V0 : Nat → Nat → Int} {c j : Nat} {L : List E} {nw : List Int} (h : NewS n V0 c L j nw) (hj : j < L.length) (hc : c < n) (hL : chkC L = 0) (h0 : ∀ k : Nat, k < 8 → V0 c k = verK L k)
    (hk : 0 ≤ (L.getD j E.zero).key ∧ (L.getD j E.zero).key < 8) (hv : nw.getD (L.getD j E.zero).key.toNat 0 < (L.getD j E.zero).ver) :
    NewS n V0 c L (j + 1) (nw.set (L.getD j E.zero).key.toNat (L.getD j E.zero).ver) := by
  obtain ⟨g1, g2, g3⟩ := h
  have hm := getD_memD E.zero hj
  have hi : (L.getD j E.zero).key.toNat < nw.length := by omega
  have hlk := lk_mem hL hm
  refine ⟨by simpa using g1, fun k hk8 => ?_, fun e he => ?_⟩
  · obtain ⟨a1, a2, a3⟩ := g2 k hk8
    simp only at a1 a2 a3 ⊢
    rw [getD_set_int hi]
    by_cases he : k = (L.getD j E.zero).key.toNat
    · rw [if_pos he]
      subst he
      refine ⟨Int.le_of_lt (Int.lt_of_le_of_lt a1 hv), fun i hi => Int.le_of_lt (Int.lt_of_le_of_lt (a2 i hi) hv), .inr ⟨c, hc, ?_⟩⟩
      rw [h0 _ hk8]
      unfold verK
      rw [Int.toNat_of_nonneg hk.1, hlk]
      rfl
    · rw [if_neg he]
      exact ⟨a1, a2, a3⟩
  · rw [getD_set_int hi]
    rw [take_snocD E.zero hj, List.mem_append, List.mem_singleton] at he
    rcases he with he | rfl
    · have := g3 e he
      split
      · rename_i hh
        rw [hh] at this
        omega
      · exact this
    · rw [if_pos rfl]
      exact Int.le_refl _
theorem NewS.done {n : Nat} {V0 : Nat → Nat → Int} {c : Nat} {L : List E} {nw : List Int} (h : NewS n V0 c L L.length nw) (h0 : ∀ k : Nat, k < 8 → V0 c k = verK L k) : NewR n V0 (c + 1) (fun k => nw.getD k 0) := by
  obtain ⟨g1, g2, g3⟩ := h
  intro k hk
  obtain ⟨a1, a2, a3⟩ := g2 k hk
  refine ⟨a1, fun j hj => ?_, a3⟩
  by_cases hjc : j < c
  · exact a2 j hjc
  · obtain rfl : j = c := by omega
    rw [h0 k hk]
    unfold verK
    cases hl : lk L (k : Int) with
    | none => exact a1
    | some e =>
      obtain ⟨m1, k1⟩ := lk_some hl
      have := g3 e (by rw [List.take_length]; exact m1)
      rw [k1, Int.toNat_natCast] at this
      exact this
theorem add_pos {D l : List E} {e : E} (hD : Deeds D) (h : CacheD D l) (he : TrueD D e) (hp : PosC l) (hv : 1 ≤ e.ver) : PosC (addC l e).1 := by
  obtain ⟨a0, a1, a2⟩ := h.add hD he
  intro x hx
  have hl := lk_mem a1.1 hx
  rw [a2] at hl
  split at hl
  · rename_i hk
    rcases hlk : lk l x.key with _ | y
    · rw [hlk] at hl
      injection hl with hl
      rw [← hl]; exact hv
    · rw [hlk] at hl
      injection hl with hl
      obtain ⟨m1, k1⟩ := lk_some hlk
      have hj := jn_ver (joined_jn (k1.trans hk.symm) ((h.2 y m1).join he (k1.trans hk.symm)).1)
      have := hp y m1
      rw [← hl]
      omega
  · exact hp x (lk_some hl).1
theorem PosC.set {C : List (List E)} (h : ∀ c ∈ C, PosC c) {k : Nat} {l : List E} (hl : PosC l) : ∀ c ∈ C.set k l, PosC c := fun c hc => by
  rcases List.mem_or_eq_of_mem_set hc with hc | rfl
  · exact h c hc
  · exact hl
/-- behind a put none is of no version -/
theorem put_pos {D : List E} {C : List (List E)} (hD : Deeds D) (hC : ∀ c ∈ C, CacheD D c) (hp : ∀ c ∈ C, PosC c) {node key : Int} {t : ByteArray} :
    ∀ c ∈ (if (mdoR C.length D node (rput D key t)).1.2 = 0 then learnC C node.toNat key (mdoR C.length D node (rput D key t)).2 else C), PosC c := by
  split
  · rename_i h0
    obtain ⟨⟨n0, n1⟩, hkb, hput, _⟩ := put_told hD hC h0
    have hk' : node.toNat < C.length := by omega
    have hDD : Deeds (mdoR C.length D node (rput D key t)).2 := by
      rcases rput_deed hD key t with ⟨h, _⟩ | ⟨_, _, _, h⟩
      · rw [mdoR, if_pos (inM_true.2 ⟨n0, n1⟩)] at h0
        exact absurd h0 h
      · rw [mdoR, if_pos (inM_true.2 ⟨n0, n1⟩)]
        exact h
    rw [hput] at hDD ⊢
    refine PosC.set hp ?_
    have hmem : C.getD node.toNat [] ∈ C := getD_memD [] hk'
    refine add_pos hDD ((hC _ hmem).more ⟨_, rfl⟩) (TrueD.now hkb) (hp _ hmem) ?_
    show 1 ≤ (refC _ key).seq
    rw [refC_snoc, if_pos rfl]
    show (1 : Int) ≤ (D.length : Int) + 1
    omega
  · exact hp
theorem getR_ver {l : List E} (hl : chkC l = 0) {k : Nat} (hk : k < 8) : (getR l k).1.ver = verK l k := by
  rw [getR_lk hl (keyB_true.2 ⟨by omega, by omega⟩)]
  unfold verK
  cases lk l (k : Int) <;> rfl
/-- two that are of one version in a key are told alike -/
theorem get_like {D a b : List E} (ha : CacheD D a) (hb : CacheD D b) (pa : PosC a) (pb : PosC b) {k : Nat} (hk : k < 8) (hv : verK a k = verK b k) :
    (getR a k).1.ver = (getR b k).1.ver ∧ (getR a k).1.gone = (getR b k).1.gone ∧ (getR a k).1.text = (getR b k).1.text ∧ (getR a k).2 = (getR b k).2 := by
  have hkb : keyB (k : Int) = true := keyB_true.2 ⟨by omega, by omega⟩
  rw [getR_lk ha.1 hkb, getR_lk hb.1 hkb]
  cases hx : lk a (k : Int) with
  | none =>
    have hb0 : verK b k = 0 := by rw [← hv]; unfold verK; rw [hx]; rfl
    rw [pb.none hb0]
    exact ⟨rfl, rfl, rfl, rfl⟩
  | some x =>
    cases hy : lk b (k : Int) with
    | none =>
      have ha0 : verK a k = 0 := by rw [hv]; unfold verK; rw [hy]; rfl
      rw [pa.none ha0] at hx
      cases hx
    | some y =>
      unfold verK at hv
      rw [hx, hy] at hv
      obtain ⟨m1, k1⟩ := lk_some hx
      obtain ⟨m2, k2⟩ := lk_some hy
      have hvv : x.ver = y.ver := hv
      obtain ⟨g1, g2⟩ := (ha.2 x m1).one (hb.2 y m2) (k1.trans k2.symm) hvv
      exact ⟨hvv, g1, g2, rfl⟩
theorem getR_zero {l : List E} (hl : chkC l = 0) {k : Nat} (hk : k < 8) (h : 0 < verK l k) : (getR l k).2 = 0 := by
  rw [getR_lk hl (keyB_true.2 ⟨by omega, by omega⟩)]
  unfold verK at h
  cases hx : lk l (k : Int) with
  | none => rw [hx] at h; simp [verO] at h
  | some x => rfl
theorem getR_err {l : List E} (hl : chkC l = 0) {k : Nat} (hk : k < 8) : (getR l k).2 = 0 ∨ (getR l k).2 = 5 := by
  rw [getR_lk hl (keyB_true.2 ⟨by omega, by omega⟩)]
  cases lk l (k : Int)
  · exact .inr rfl
  · exact .inl rfl
end Go.Proofs.YtlcbdhblaamekaaDoor
