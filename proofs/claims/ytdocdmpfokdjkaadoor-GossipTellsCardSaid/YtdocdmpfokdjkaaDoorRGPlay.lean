/-
  CONTRACT of the reference's gossip.Play: who knows whose, behind right calls. CONDITIONS: none.
-/
import Derived.Test.YtdocdmpfokdjkaaDoorRGossip
import Derived.Deep.DeepCutAuto
namespace Go.Proofs.YtdocdmpfokdjkaaDoor
open Go.RowKit
open Go.ChangeShapes Go.WideShapes Go.ChangeAt

/-- who knows whose, in a block -/
def KO (w : World) (g : Nat) (K : Nat → Nat → Bool) : Prop := ∃ cs : Array Value, Blk w g 26 cs ∧ cs.size = 36 ∧ ∀ a b : Nat, a < 6 → b < 6 → cs[a * 6 + b]? = some (.bool (K a b))
theorem KO.new (w : World) : KO (w.alloc (.cells #[.bool false, .bool false, .bool false, .bool false, .bool false, .bool false, .bool false, .bool false, .bool false, .bool false, .bool false, .bool false, .bool false, .bool false, .bool false, .bool false, .bool false, .bool false, .bool false, .bool false, .bool false, .bool false, .bool false, .bool false, .bool false, .bool false, .bool false, .bool false, .bool false, .bool false, .bool false, .bool false, .bool false, .bool false, .bool false, .bool false] 26)) w.heap.size (fun _ _ => false) := by
  refine ⟨_, Blk.new _ _ _, rfl, fun a b ha hb => ?_⟩
  rcases (show a = 0 ∨ a = 1 ∨ a = 2 ∨ a = 3 ∨ a = 4 ∨ a = 5 by omega) with rfl | rfl | rfl | rfl | rfl | rfl
  all_goals
    rcases (show b = 0 ∨ b = 1 ∨ b = 2 ∨ b = 3 ∨ b = 4 ∨ b = 5 by omega) with rfl | rfl | rfl | rfl | rfl | rfl
    all_goals rfl
section
variable {w w' : World} {g : Nat} {K : Nat → Nat → Bool}
theorem KO.lt (h : KO w g K) : g < w.heap.size := by obtain ⟨cs, hb, _⟩ := h; exact hb.lt
theorem KO.cell (h : KO w g K) {a b : Nat} (ha : a < 6) (hb : b < 6) : w.cell? ⟨g, a * 6 + b, none⟩ = some (.bool (K a b)) := by
  obtain ⟨cs, hB, _, hc⟩ := h
  exact (hB.cell _).trans (hc a b ha hb)
theorem KO.fz (h : KO w g K) (o : Nat) : w.frozen? ⟨g, o, none⟩ = false := by
  obtain ⟨cs, hB, _⟩ := h
  exact hB.frozen o
theorem KO.put (h : KO w g K) {a b : Nat} (ha : a < 6) (hb : b < 6) (c : Bool) : KO (w.setCell ⟨g, a * 6 + b, none⟩ (.bool c)) g (fun a' b' => if a' = a ∧ b' = b then c else K a' b') := by
  obtain ⟨cs, hB, h1, hc⟩ := h
  refine ⟨_, hB.put _ (.bool c), by simpa using h1, fun a' b' ha' hb' => ?_⟩
  rw [Array.getElem?_setIfInBounds]
  show _ = some (Value.bool (if a' = a ∧ b' = b then c else K a' b'))
  by_cases he : a * 6 + b = a' * 6 + b'
  · have h2 : a' = a ∧ b' = b := by omega
    rw [if_pos he, if_pos (by omega), if_pos h2]
  · rw [if_neg he, hc a' b' ha' hb', if_neg (fun h => he (by rw [h.1, h.2]))]
end
/-- the bits of what each knows -/
def bitK (L : List Nat) (a b : Nat) : Bool := (L.getD a 0).testBit b
theorem bitK_init {N a b : Nat} (ha : a < N) : bitK (initN N) a b = decide (a = b) := by
  unfold bitK initN
  rw [List.getD_eq_getElem?_getD, List.getElem?_map, List.getElem?_range ha]
  exact Nat.testBit_two_pow
theorem bitK_step {L : List Nat} {p q a b : Nat} (hp : p < L.length) (hq : q < L.length) : bitK (gStep L p q) a b = if a = p ∨ a = q then (bitK L p b || bitK L q b) else bitK L a b := by
  unfold bitK
  rw [gStep_get hp hq]
  split
  · exact Nat.testBit_or _ _ _
  · rfl
/-- in the middle of a call: up to j -/
def midK (L : List Nat) (p q j a b : Nat) : Bool := if (a = p ∨ a = q) ∧ b < j then (bitK L p b || bitK L q b) else bitK L a b
theorem midK_zero (L : List Nat) (p q a b : Nat) : midK L p q 0 a b = bitK L a b := by rw [midK, if_neg (by omega)]
theorem midK_end {L : List Nat} {p q a b j : Nat} (hp : p < L.length) (hq : q < L.length) (hb : b < j) : midK L p q j a b = bitK (gStep L p q) a b := by
  rw [bitK_step hp hq, midK]
  by_cases h : a = p ∨ a = q
  · rw [if_pos ⟨h, hb⟩, if_pos h]
  · rw [if_neg (fun e => h e.1), if_neg h]
theorem midK_step (L : List Nat) (p q j a b : Nat) : midK L p q (j + 1) a b = if a = q ∧ b = j then (bitK L p j || bitK L q j) else if a = p ∧ b = j then (bitK L p j || bitK L q j) else midK L p q j a b := by
  unfold midK
  by_cases hb : b = j
  · subst hb
    by_cases h1 : a = q
    · rw [if_pos ⟨.inr h1, by omega⟩, if_pos ⟨h1, rfl⟩]
    · by_cases h2 : a = p
      · rw [if_pos ⟨.inl h2, by omega⟩, if_neg (fun e => h1 e.1), if_pos ⟨h2, rfl⟩]
      · rw [if_neg (by omega), if_neg (by omega), if_neg (by omega), if_neg (by omega)]
  · by_cases h : (a = p ∨ a = q) ∧ b < j
    · rw [if_pos (by omega), if_neg (by omega), if_neg (by omega), if_pos h]
    · rw [if_neg (by omega), if_neg (by omega), if_neg (by omega), if_neg h]

section
variable {ops : Array Oper} {rest : List Oper} {o : Oper} {a : Act} {w : World} {Q : Exit → Act → World → Prop}
theorem at_loadK {x : Operand} (_ho : o.op = .load 26 x) (h : wpList Tryd.prog ops Q (o :: rest) a w) : wpList Tryd.prog ops Q (o :: rest) a w := h
theorem at_storeK {x y : Operand} (_ho : o.op = .store 26 x y) (h : wpList Tryd.prog ops Q (o :: rest) a w) : wpList Tryd.prog ops Q (o :: rest) a w := h
theorem ldK (hgd : o.guard = none) (x : Operand) (ho : o.op = .load 26 x) (b : Nat) (hx : a.eval x = .pointer (some ⟨b, 0, none⟩)) (cs : Array Value) (hB : Blk w b 26 cs) (hs : cs.size = 36)
    (h : wpList Tryd.prog ops Q rest (a.put o.dst (.agg cs)) w) : wpList Tryd.prog ops Q (o :: rest) a w :=
  wpList_load_mid hgd 26 x ho b 0 hx cs.toList _ (fun j v hv => by rw [Nat.zero_add, hB.cell j, ← hv, Array.getElem?_toList]) Tryd.underlying26 rfl (by rw [Array.length_toList, hs]; kernel_rfl) h
theorem stK (hgd : o.guard = none) (x y : Operand) (ho : o.op = .store 26 x y) (b : Nat) (hx : a.eval x = .pointer (some ⟨b, 0, none⟩)) (cs zs : Array Value) (hy : a.eval y = .agg cs) (hs : cs.size = 36) (h1 : ∀ v ∈ cs.toList, v.oneCell' = true) (hB : Blk w b 26 zs) (hz : zs.size = 36)
    (h : wpList Tryd.prog ops Q rest (a.put o.dst undef) (w.setCells b 0 cs.toList)) : wpList Tryd.prog ops Q (o :: rest) a w :=
  wpList_store_mid hgd 26 x y ho b 0 cs hx hy (fun j hj => ⟨by rw [Nat.zero_add, hB.cell j, Array.getElem?_eq_getElem (by omega)]; rfl, hB.frozen _⟩) (by rw [hs]; kernel_rfl)
    (by rw [Array.all_eq_true_iff_forall_mem]; exact fun v hv => h1 v (Array.mem_toList_iff.2 hv)) h
end
theorem KO.one {K : Nat → Nat → Bool} {cs : Array Value} (hs : cs.size = 36) (hc : ∀ a b : Nat, a < 6 → b < 6 → cs[a * 6 + b]? = some (.bool (K a b))) : ∀ v ∈ cs.toList, v.oneCell' = true := by
  intro v hv
  obtain ⟨j, hj, rfl⟩ := List.mem_iff_getElem.1 hv
  rw [Array.length_toList, hs] at hj
  have := hc (j / 6) (j % 6) (by omega) (by omega)
  rw [show j / 6 * 6 + j % 6 = j by omega, Array.getElem?_eq_getElem (by omega)] at this
  injection this with this
  rw [Array.getElem_toList, this]
  rfl

theorem results_boxK {P : Program} {fn : Func} {p : Tmp} {ty t : TypeId} {tmps : Array Value} {w : World} {g : Nat} {cs : Array Value} {d : TypeDesc} (h : fn.results = #[.cell p ty])
    (hp : tmps.getD p undef = .pointer (some ⟨g, 0, none⟩)) (hg : Blk w g t cs) (hu : P.underlying ty = some d) (hd : (match d with | .struct _ | .array _ _ => true | _ => false) = true) (hi : (P.info? ty).map (·.size) = some cs.size) :
    (results fn tmps).run P w = .ok (.agg cs) w := by
  have hp' : tmps[p]?.getD undef = .pointer (some ⟨g, 0, none⟩) := by simpa using hp
  simp [results, h, hp', asAddr, run_loadVar_row w g t ty cs (0, 0) d hg hu hd hi]

/-- what Play hands back -/
def RPlayR (N : Nat) (L : List Nat) (w : World) (e : Ending) (w' : World) : Prop :=
  ∃ cs : Array Value, e = .returned (.agg cs) ∧ cs.size = 36 ∧ (∀ a b : Nat, a < N → b < N → cs[a * 6 + b]? = some (.bool (bitK L a b))) ∧ (∀ v ∈ cs.toList, v.oneCell' = true) ∧ Below w.heap.size w w'

set_option maxHeartbeats 8000000 in
set_option maxRecDepth 100000 in
theorem rplay_any (N : Nat) (s : SlV (SlV Int)) (w : World) (hs : IntssAt w s) (h0 : chkG N s.xs = 0) :
    Calls Tryd.prog 7 #[.int .i64 N, .slice s.A s.xs.length s.c] w (RPlayR N (gPlay (initN N) s.xs) w) := by
  obtain ⟨⟨h1, h6⟩, h40, hok⟩ := chkG_ok h0
  have Hs := hid hs
  have Hok := hid hok
  have hN : N ≤ 6 := by omega
  have hN6 : (N : Int) ≤ 6 := by omega
  have hR0 : Blk ((w.alloc (.cells #[.bool false, .bool false, .bool false, .bool false, .bool false, .bool false, .bool false, .bool false, .bool false, .bool false, .bool false, .bool false, .bool false, .bool false, .bool false, .bool false, .bool false, .bool false, .bool false, .bool false, .bool false, .bool false, .bool false, .bool false, .bool false, .bool false, .bool false, .bool false, .bool false, .bool false, .bool false, .bool false, .bool false, .bool false, .bool false, .bool false] 26)).alloc (.cells #[.bool false, .bool false, .bool false, .bool false, .bool false, .bool false, .bool false, .bool false, .bool false, .bool false, .bool false, .bool false, .bool false, .bool false, .bool false, .bool false, .bool false, .bool false, .bool false, .bool false, .bool false, .bool false, .bool false, .bool false, .bool false, .bool false, .bool false, .bool false, .bool false, .bool false, .bool false, .bool false, .bool false, .bool false, .bool false, .bool false] 26)) w.heap.size 26 #[.bool false, .bool false, .bool false, .bool false, .bool false, .bool false, .bool false, .bool false, .bool false, .bool false, .bool false, .bool false, .bool false, .bool false, .bool false, .bool false, .bool false, .bool false, .bool false, .bool false, .bool false, .bool false, .bool false, .bool false, .bool false, .bool false, .bool false, .bool false, .bool false, .bool false, .bool false, .bool false, .bool false, .bool false, .bool false, .bool false] := (Blk.new _ _ _).alloc _
  have hK0 : KO ((w.alloc (.cells #[.bool false, .bool false, .bool false, .bool false, .bool false, .bool false, .bool false, .bool false, .bool false, .bool false, .bool false, .bool false, .bool false, .bool false, .bool false, .bool false, .bool false, .bool false, .bool false, .bool false, .bool false, .bool false, .bool false, .bool false, .bool false, .bool false, .bool false, .bool false, .bool false, .bool false, .bool false, .bool false, .bool false, .bool false, .bool false, .bool false] 26)).alloc (.cells #[.bool false, .bool false, .bool false, .bool false, .bool false, .bool false, .bool false, .bool false, .bool false, .bool false, .bool false, .bool false, .bool false, .bool false, .bool false, .bool false, .bool false, .bool false, .bool false, .bool false, .bool false, .bool false, .bool false, .bool false, .bool false, .bool false, .bool false, .bool false, .bool false, .bool false, .bool false, .bool false, .bool false, .bool false, .bool false, .bool false] 26)) (w.heap.size + 1) (fun _ _ => false) := by
    have := KO.new (w.alloc (.cells #[.bool false, .bool false, .bool false, .bool false, .bool false, .bool false, .bool false, .bool false, .bool false, .bool false, .bool false, .bool false, .bool false, .bool false, .bool false, .bool false, .bool false, .bool false, .bool false, .bool false, .bool false, .bool false, .bool false, .bool false, .bool false, .bool false, .bool false, .bool false, .bool false, .bool false, .bool false, .bool false, .bool false, .bool false, .bool false, .bool false] 26))
    rw [World.size_alloc] at this
    exact this
  have hB0 : Below w.heap.size w ((w.alloc (.cells #[.bool false, .bool false, .bool false, .bool false, .bool false, .bool false, .bool false, .bool false, .bool false, .bool false, .bool false, .bool false, .bool false, .bool false, .bool false, .bool false, .bool false, .bool false, .bool false, .bool false, .bool false, .bool false, .bool false, .bool false, .bool false, .bool false, .bool false, .bool false, .bool false, .bool false, .bool false, .bool false, .bool false, .bool false, .bool false, .bool false] 26)).alloc (.cells #[.bool false, .bool false, .bool false, .bool false, .bool false, .bool false, .bool false, .bool false, .bool false, .bool false, .bool false, .bool false, .bool false, .bool false, .bool false, .bool false, .bool false, .bool false, .bool false, .bool false, .bool false, .bool false, .bool false, .bool false, .bool false, .bool false, .bool false, .bool false, .bool false, .bool false, .bool false, .bool false, .bool false, .bool false, .bool false, .bool false] 26)) := ((Below.refl _ _).alloc (Nat.le_refl _) _).alloc (by simp) _
  have hz0 : ((w.alloc (.cells #[.bool false, .bool false, .bool false, .bool false, .bool false, .bool false, .bool false, .bool false, .bool false, .bool false, .bool false, .bool false, .bool false, .bool false, .bool false, .bool false, .bool false, .bool false, .bool false, .bool false, .bool false, .bool false, .bool false, .bool false, .bool false, .bool false, .bool false, .bool false, .bool false, .bool false, .bool false, .bool false, .bool false, .bool false, .bool false, .bool false] 26)).alloc (.cells #[.bool false, .bool false, .bool false, .bool false, .bool false, .bool false, .bool false, .bool false, .bool false, .bool false, .bool false, .bool false, .bool false, .bool false, .bool false, .bool false, .bool false, .bool false, .bool false, .bool false, .bool false, .bool false, .bool false, .bool false, .bool false, .bool false, .bool false, .bool false, .bool false, .bool false, .bool false, .bool false, .bool false, .bool false, .bool false, .bool false] 26)).heap.size = w.heap.size + 2 := by simp
  obtain ⟨w2, hw2⟩ : ∃ W : World, W = (w.alloc (.cells #[.bool false, .bool false, .bool false, .bool false, .bool false, .bool false, .bool false, .bool false, .bool false, .bool false, .bool false, .bool false, .bool false, .bool false, .bool false, .bool false, .bool false, .bool false, .bool false, .bool false, .bool false, .bool false, .bool false, .bool false, .bool false, .bool false, .bool false, .bool false, .bool false, .bool false, .bool false, .bool false, .bool false, .bool false, .bool false, .bool false] 26)).alloc (.cells #[.bool false, .bool false, .bool false, .bool false, .bool false, .bool false, .bool false, .bool false, .bool false, .bool false, .bool false, .bool false, .bool false, .bool false, .bool false, .bool false, .bool false, .bool false, .bool false, .bool false, .bool false, .bool false, .bool false, .bool false, .bool false, .bool false, .bool false, .bool false, .bool false, .bool false, .bool false, .bool false, .bool false, .bool false, .bool false, .bool false] 26) := ⟨_, rfl⟩
  rw [← hw2] at hR0 hK0 hB0 hz0
  have HR0 := hid hR0
  have HK0 := hid hK0
  have HB0 := hid hB0
  have Hz0 := hid hz0
  have Hw2 := hid hw2
  clear hs h0 hok hR0 hK0 hB0 hz0 hw2
  go_enter Tryd.func7, Tryd.ntmps7
  go_upto_region 2 with fail
  rw [← Hw2.out]
  go_wp2_with fail
  go_loopw [6] (fun i wr => ∃ (k : Nat) (K : Nat → Nat → Bool), k ≤ N ∧ i = .int .i64 k ∧ KO wr (w.heap.size + 1) K ∧ (∀ a b, a < N → b < N → K a b = decide (a = b ∧ a < k)) ∧ Fr (fun b => b = w.heap.size + 1) w2 wr) (fun i _ => N - (intOf i).toNat)
  case atStart => exact ⟨0, _, Nat.zero_le _, rfl, HK0.out, (fun a b _ _ => by simp), Fr.refl _ _⟩
  case round =>
    obtain ⟨k, K, hk, rfl, hK, hKe, hF⟩ := hrel
    have HK := hid hK
    have HKe := hid hKe
    have HF := hid hF
    have hlK := hK.lt
    clear hK hKe hF
    by_cases hlt : k < N
    · have hk6 : (k : Int) < 6 := by omega
      have hkN : (k : Int) < (N : Int) := by omega
      have hk0 : (0 : Int) ≤ (k : Int) := by omega
      have hc := HK.out.cell (a := k) (b := k) (by omega) (by omega)
      have hz := HK.out.fz (k * 6 + k)
      have HP := hid (HK.out.put (a := k) (b := k) (by omega) (by omega) true)
      have HF2 := hid (HF.out.setCell (p := ⟨w.heap.size + 1, k * 6 + k, none⟩) (.inl rfl) (.bool true))
      go_wp2_with fail
      go_roundw
      case rel =>
        refine ⟨k + 1, _, by omega, by go_num, HP.out, fun a b ha hb => ?_, HF2.out⟩
        rw [HKe.out a b ha hb]
        by_cases h : a = k ∧ b = k
        · rw [if_pos h]; symm; rw [decide_eq_true_eq]; omega
        · rw [if_neg h, Bool.eq_iff_iff, decide_eq_true_eq, decide_eq_true_eq]; omega
      case measure => simp [intOf]; omega
    · obtain rfl : k = N := by omega
      have HKi := hid (show ∀ a b, a < k → b < k → K a b = bitK (gPlay (initN k) (s.xs.take 0)) a b from fun a b ha hb => by
        rw [HKe.out a b ha hb, List.take_zero]
        show _ = bitK (initN k) a b
        rw [bitK_init ha, Bool.eq_iff_iff, decide_eq_true_eq, decide_eq_true_eq]
        omega)
      go_wp2_with fail
      go_loopw [7] (fun i wr => ∃ (j : Nat) (K : Nat → Nat → Bool), j ≤ s.xs.length ∧ i = .int .i64 j ∧ KO wr (w.heap.size + 1) K ∧ (∀ a b, a < k → b < k → K a b = bitK (gPlay (initN k) (s.xs.take j)) a b) ∧ Fr (fun b => b = w.heap.size + 1) w2 wr) (fun i _ => s.xs.length - (intOf i).toNat)
      case atStart => exact ⟨0, K, Nat.zero_le _, rfl, HK.out, HKi.out, HF.out⟩
      case round =>
        obtain ⟨j, K, hj, rfl, hK, hKe, hF⟩ := hrel
        have HKj := hid hK
        have HKje := hid hKe
        have HFj := hid hF
        have hlK2 := hK.lt
        have hb2 : Below w.heap.size w wr := HB0.out.trans (hF.below0 HB0.out.size (fun i hi => by omega))
        by_cases hlt2 : j < s.xs.length
        · have hsr := Hs.out.stays hb2
          obtain ⟨b, off, hA, hbl, hcells⟩ := hsr.row (by omega)
          have hcell := hcells j hlt2
          have hin := hsr.each j hlt2
          have hokc := Hok.out _ (List.getElem_mem hlt2)
          have htk : gPlay (initN k) (s.xs.take (j + 1)) = gStep (gPlay (initN k) (s.xs.take j)) (pairOf s.xs[j]).1 (pairOf s.xs[j]).2 := by
            rw [List.take_succ_eq_append_getElem hlt2, gPlay_more]
          obtain ⟨hp1, hp2, -⟩ := callOk_pair hokc
          obtain ⟨hc2, ⟨hp0, hp1'⟩, ⟨hq0, hq1'⟩, hpq⟩ := hokc
          unfold pairOf at htk hp1 hp2
          have hLl : (gPlay (initN k) (s.xs.take j)).length = k := by rw [gPlay_length, initN_length]
          generalize s.xs[j] = c at *
          obtain ⟨b2, off2, hA2, hbl2, hcells2⟩ := hin.row (by omega)
          have hc0 := hcells2 0 (by omega)
          have hc1 := hcells2 1 (by omega)
          rw [Nat.add_zero] at hc0
          generalize c.xs.getD 0 0 = x0 at *
          generalize c.xs.getD 1 0 = x1 at *
          obtain ⟨p, rfl⟩ := Int.eq_ofNat_of_zero_le hp0
          obtain ⟨q, rfl⟩ := Int.eq_ofNat_of_zero_le hq0
          simp only [Int.toNat_natCast] at htk hp1 hp2
          generalize gPlay (initN k) (s.xs.take j) = L at *
          have Htk := hid htk
          have hcl0 : (0 : Int) < (c.xs.length : Int) := by omega
          have hcl1 : (1 : Int) < (c.xs.length : Int) := by omega
          have hp6 : (p : Int) < 6 := by omega
          have hq6 : (q : Int) < 6 := by omega
          have hp00 : (0 : Int) ≤ (p : Int) := by omega
          have hq00 : (0 : Int) ≤ (q : Int) := by omega
          have Hpq := hid (show ¬ p = q by omega)
          rw [hA2] at hcell
          rw [hA]
          clear hA hA2 hcells hcells2 hin hsr htk hc2 hp0 hq0 hpq hK hKe hF hb2
          go_wp2_with fail
          go_loopw [10] (fun i wk => ∃ (m : Nat) (K : Nat → Nat → Bool), m ≤ k ∧ i = .int .i64 m ∧ KO wk (w.heap.size + 1) K ∧ (∀ a b, a < k → b < k → K a b = midK L p q m a b) ∧ Fr (fun b => b = w.heap.size + 1) w2 wk) (fun i _ => k - (intOf i).toNat)
          case atStart => exact ⟨0, K, Nat.zero_le _, rfl, HKj.out, (fun a b ha hb => by rw [midK_zero]; exact HKje.out a b ha hb), HFj.out⟩
          case round =>
            obtain ⟨m, K, hm, rfl, hK, hKe, hF⟩ := hrel
            have HKm := hid hK
            have HKme := hid hKe
            have HFm := hid hF
            have hlK3 := hK.lt
            clear hK hKe hF
            by_cases hlt3 : m < k
            · have hm6 : (m : Int) < 6 := by omega
              have hmk : (m : Int) < (k : Int) := by omega
              have hm0 : (0 : Int) ≤ (m : Int) := by omega
              have d0 := HKm.out.cell (a := p) (b := m) (by omega) (by omega)
              have d1 := HKm.out.cell (a := q) (b := m) (by omega) (by omega)
              have z0 := HKm.out.fz (p * 6 + m)
              have z1 := HKm.out.fz (q * 6 + m)
              have e0 : K p m = bitK L p m := by rw [HKme.out p m hp1 hlt3, midK, if_neg (by omega)]
              have e1 : K q m = bitK L q m := by rw [HKme.out q m hp2 hlt3, midK, if_neg (by omega)]
              rw [e0] at d0
              rw [e1] at d1
              have HST := hid (midK_step L p q m)
              have hn1 : ¬ q * 6 + m = p * 6 + m := by have := Hpq.out; omega
              have hn2 : ¬ p * 6 + m = q * 6 + m := by have := Hpq.out; omega
              have HP := hid ((HKm.out.put (a := p) (b := m) (by omega) (by omega) (bitK L p m || bitK L q m)).put (a := q) (b := m) (by omega) (by omega) (bitK L p m || bitK L q m))
              have HF2 := hid ((HFm.out.setCell (p := ⟨w.heap.size + 1, p * 6 + m, none⟩) (.inl rfl) (.bool (bitK L p m || bitK L q m))).setCell (p := ⟨w.heap.size + 1, q * 6 + m, none⟩) (.inl rfl) (.bool (bitK L p m || bitK L q m)))
              generalize bitK L p m = u0 at *
              generalize bitK L q m = u1 at *
              clear e0 e1
              rcases u0 with _ | _
              all_goals
                go_wp2_with fail
                go_roundw
                case rel =>
                  refine ⟨m + 1, _, by omega, by go_num, HP.out, fun a b ha hb => ?_, HF2.out⟩
                  rw [HST.out a b, HKme.out a b ha hb]
                case measure => simp [intOf]; omega
            · obtain rfl : m = k := by omega
              go_wp2_with fail
              go_roundw
              case rel => exact ⟨j + 1, K, by omega, by go_num, HKm.out, fun a b ha hb => by rw [HKme.out a b ha hb, Htk.out, midK_end (by omega) (by omega) hb], HFm.out⟩
              case measure => simp [intOf]; omega
        · obtain rfl : j = s.xs.length := by omega
          rw [List.take_length] at HKje
          obtain ⟨cs, hB, hs36, hcs⟩ := HKj.out
          have hone := KO.one hs36 hcs
          have hR := HR0.out.fr HFj.out (show ¬ w.heap.size = w.heap.size + 1 by omega)
          obtain ⟨cs', hR', hs', he', -⟩ := Blk.setCells cs.toList 0 wr _ hR (by rw [Array.length_toList, hs36]; decide)
          have hbw : Below w.heap.size w (wr.setCells w.heap.size 0 cs.toList) := (hb2).trans ((Fr.setCells w.heap.size cs.toList 0 wr (Fr.refl (fun k => k = w.heap.size) _) (.inl rfl)).below0 hb2.size (fun i hi => by omega))
          have hs2 : cs'.size = 36 := by rw [hs']; rfl
          have hce : ∀ i, i < 36 → cs'[i]? = cs[i]? := fun i hi => by
            have := he' i (by rw [Array.length_toList, hs36]; exact hi)
            rw [Nat.zero_add, Array.getElem?_toList] at this
            exact this
          have hfin : RPlayR k (gPlay (initN k) s.xs) w (.returned (.agg cs')) (wr.setCells w.heap.size 0 cs.toList) := by
            refine ⟨cs', rfl, hs2, fun a b ha hb => ?_, KO.one (K := K) hs2 (fun a b ha hb => ?_), hbw⟩
            · rw [hce _ (by omega), hcs a b (by omega) (by omega), HKje.out a b ha hb]
            · rw [hce _ (by omega), hcs a b ha hb]
          have HB := hid hB
          have HR := hid hR
          have HR2 := hid hR'
          have HF := hid hfin
          clear hB hR hR' hfin hcs hce hbw he' hs' hb2 hK hKe hF
          go_wp2_with (first
            | (refine at_loadK rfl ?_; refine ldK rfl _ rfl _ rfl cs HB.out hs36 ?_)
            | (refine at_storeK rfl ?_; refine stK rfl _ _ rfl _ rfl cs _ rfl hs36 hone HR.out rfl ?_))
          refine bodyPost_ret (v := .agg cs') ?_ rfl HF.out
          exact results_boxK Tryd.results7 rfl HR2.out Tryd.underlying26 rfl (by rw [hs2]; kernel_rfl)
end Go.Proofs.YtdocdmpfokdjkaaDoor
