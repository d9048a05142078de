/-
  CONTRACTS of package cache: Place (with slices.BinarySearchFunc). CONDITIONS: none.
-/
import Derived.Test.YtlcbdhblaamekaaDoorEntry
import Derived.Test.YtlcbdhblaamekaaDoorJoin
import Derived.BigQuiet
import Derived.Deep.QuietTactic
namespace Go.Proofs.YtlcbdhblaamekaaDoor
open Go.RowKit
open Go.ChangeShapes Go.WideShapes Go.ChangeAt

/-- an entry's cells at a place -/
structure EAt (w : World) (b o : Nat) (e : E) : Prop where
  c0 : w.cell? ⟨b, o, none⟩ = some (.int .i64 e.key)
  c1 : w.cell? ⟨b, o + 1, none⟩ = some (.int .i64 e.ver)
  c2 : w.cell? ⟨b, o + 2, none⟩ = some (.int .i64 e.asof)
  c3 : w.cell? ⟨b, o + 3, none⟩ = some (.bool e.gone)
  c4 : w.cell? ⟨b, o + 4, none⟩ = some (.string e.text)
theorem EAt.stays {w w' : World} {b o : Nat} {e : E} (h : EAt w b o e) (hb : Below w.heap.size w w') (hl : b < w.heap.size) : EAt w' b o e :=
  ⟨(hb.cell (p := ⟨b, _, none⟩) hl).trans h.c0, (hb.cell (p := ⟨b, _, none⟩) hl).trans h.c1, (hb.cell (p := ⟨b, _, none⟩) hl).trans h.c2, (hb.cell (p := ⟨b, _, none⟩) hl).trans h.c3, (hb.cell (p := ⟨b, _, none⟩) hl).trans h.c4⟩
theorem EntriesAt.get {w : World} {s : SlV E} (h : EntriesAt w s) (h0 : 0 < s.xs.length) : ∃ b off, s.A = some ⟨b, off, none⟩ ∧ b < w.heap.size ∧ ∀ i, i < s.xs.length → EAt w b (off + i * 5) (s.xs.getD i E.zero) := by
  obtain ⟨b, off, hA, hb, hc⟩ := h.row h0
  refine ⟨b, off, hA, hb, fun i hi => ?_⟩
  have e : s.xs.getD i E.zero = s.xs[i] := by simp [List.getD, List.getElem?_eq_getElem hi]
  rw [e]
  exact ⟨hc i hi 0 (by decide), hc i hi 1 (by decide), hc i hi 2 (by decide), hc i hi 3 (by decide), hc i hi 4 (by decide)⟩
theorem EntriesAt.stays {w w' : World} {s : SlV E} (h : EntriesAt w s) (hb : Below w.heap.size w w') : EntriesAt w' s := ⟨fun h0 => by
    obtain ⟨b', off', h1, h2, h3⟩ := h.row h0
    exact ⟨b', off', h1, Nat.lt_of_lt_of_le h2 hb.size, fun i hi f hf => (hb.cell (p := ⟨b', _, none⟩) h2).trans (h3 i hi f hf)⟩, h.each, h.len⟩
theorem EntriesAt.empty (w : World) : EntriesAt w ⟨none, 0, []⟩ := ⟨(fun h => by cases h), (fun x hx => by cases hx), Nat.zero_le _⟩

/-- keys ascend -/
def SortedK (l : List E) : Prop := ∀ a b, a < b → b < l.length → (l.getD a E.zero).key < (l.getD b E.zero).key
/-- keys in range -/
def KeysIn (l : List E) : Prop := ∀ a, a < l.length → 0 ≤ (l.getD a E.zero).key ∧ (l.getD a E.zero).key < 8
/-- how many are ahead of a key -/
def plc (k : Int) : List E → Nat
  | [] => 0
  | e :: r => if e.key < k then plc k r + 1 else 0
theorem plc_eq {k : Int} : ∀ (l : List E) (i : Nat), i ≤ l.length → (∀ t, t < i → (l.getD t E.zero).key < k) → (i < l.length → k ≤ (l.getD i E.zero).key) → plc k l = i
  | [], i, hi, _, _ => by simp at hi; simp [hi, plc]
  | e :: r, 0, _, _, h2 => by
    have := h2 (by simp)
    simp at this
    rw [plc, if_neg (by omega)]
  | e :: r, i + 1, hi, h1, h2 => by
    have h0 := h1 0 (by omega)
    simp at h0
    rw [plc, if_pos h0, plc_eq r i (by simpa using hi) (fun t ht => by simpa using h1 (t + 1) (by omega)) (fun ht => by simpa using h2 (by simpa using ht))]
def hasK (k : Int) (l : List E) : Bool := decide (plc k l < l.length) && decide ((l.getD (plc k l) E.zero).key = k)

theorem place1_any (k v a : Int) (g : Bool) (t : ByteArray) (x : Int) (w : World) (h0 : 0 ≤ k ∧ k < 8) (h1 : 0 ≤ x ∧ x < 8) :
    Calls Tryd.prog 48 #[.agg #[.int .i64 k, .int .i64 v, .int .i64 a, .bool g, .string t], .int .i64 x] w fun e w' => e = .returned (.int .i64 (k - x)) ∧ Below w.heap.size w w' := by
  obtain ⟨h0a, h0b⟩ := h0
  obtain ⟨h1a, h1b⟩ := h1
  go_enter Tryd.func48, Tryd.ntmps48
  go_wp2_with fail
  go_ret
  refine ⟨ret_i ?_, by (repeat (first | with_reducible exact Below.refl _ _ | with_reducible assumption | (with_reducible refine Below.drew ?_) | (with_reducible refine Below.manyDrew ?_ _) | ((with_reducible refine Below.alloc ?_ ?_ _); rotate_left; (focus (first | omega | (dsimp only; omega) | (simp; done) | (simp; omega)))) | ((with_reducible refine Below.setCell ?_ ?_ _); rotate_left; (focus (first | omega | (dsimp only; omega) | (simp; done) | (simp; omega)))) | ((with_reducible refine Below.step ?_ (by assumption) ?_); rotate_left; (focus (first | omega | (dsimp only; omega) | (simp; done) | (simp; omega))))))⟩
  first | rfl | (unfold wrap64; omega)

set_option maxHeartbeats 2000000 in
theorem bsf_any (k : Int) (s : SlV E) (w : World) (hs : EntriesAt w s) (hS : SortedK s.xs) (hK : KeysIn s.xs) (hk : 0 ≤ k ∧ k < 8) (hn : s.xs.length ≤ 8) :
    Calls Tryd.prog 47 #[.slice s.A s.xs.length s.c, .int .i64 k, .func (.func 48) #[] #[]] w fun e w' => e = .returned (.tuple #[.int .i64 (plc k s.xs), .bool (hasK k s.xs)]) ∧ Below w.heap.size w w' := by
  go_enter Tryd.func47, Tryd.ntmps47
  go_wp2_with fail
  go_loopw [9, 10] (fun i j wr => ∃ a b : Nat, a ≤ b ∧ b ≤ s.xs.length ∧ i = .int .i64 a ∧ j = .int .i64 b ∧ (∀ t, t < a → (s.xs.getD t E.zero).key < k) ∧ (∀ t, b ≤ t → t < s.xs.length → k ≤ (s.xs.getD t E.zero).key) ∧ Below w.heap.size w wr) (fun i j _ => (intOf j).toNat - (intOf i).toNat)
  case atStart => exact ⟨0, s.xs.length, by omega, by omega, rfl, rfl, by omega, by omega, Below.refl _ _⟩
  case round =>
    obtain ⟨a, b, hab, hbl, rfl, rfl, hlo, hhi, hbr⟩ := hrel
    by_cases hlt : a < b
    · obtain ⟨g, off, hA, hg, hcells⟩ := hs.get (by omega)
      obtain ⟨k0, k1, k2, k3, k4⟩ := (hcells ((a + b) / 2) (by omega)).stays hbr hg
      have hkk := hK ((a + b) / 2) (by omega)
      have hlo2 : ∀ t, t < (a + b) / 2 + 1 → (s.xs.getD ((a + b) / 2) E.zero).key < k → (s.xs.getD t E.zero).key < k := fun t ht hx => by
        by_cases htm : t = (a + b) / 2
        · rw [htm]; exact hx
        · have := hS t ((a + b) / 2) (by omega) (by omega)
          omega
      have hhi2 : ∀ t, (a + b) / 2 ≤ t → t < s.xs.length → k ≤ (s.xs.getD ((a + b) / 2) E.zero).key → k ≤ (s.xs.getD t E.zero).key := fun t ht htl hx => by
        by_cases htm : t = (a + b) / 2
        · rw [htm]; exact hx
        · have := hS ((a + b) / 2) t (by omega) (by omega)
          omega
      have Hlo2 := hid hlo2
      have Hhi2 := hid hhi2
      have Hlo := hid hlo
      have Hhi := hid hhi
      clear hlo2 hhi2 hlo hhi hcells hS hK
      generalize s.xs.getD ((a + b) / 2) E.zero = x at *
      obtain ⟨xk, xv, xa, xg, xt⟩ := x
      simp only at k0 k1 k2 k3 k4 hkk Hlo2 Hhi2
      rw [hA]
      clear hA
      obtain ⟨hk0, hk8⟩ := hk
      have hz0 := hbr.size
      go_wp2_with fail
      refine (place1_any xk xv xa xg xt k _ hkk ⟨hk0, hk8⟩).mono ?_; rintro e w1 ⟨rfl, hb1⟩; obtain ⟨hc1, hf1⟩ := bcell hb1; have hz1 := hb1.size; (try simp only [World.size_alloc] at hz1); (try simp only [World.size_setCell] at hz1)
      by_cases hx : xk - k < 0
      · go_wp2_with fail
        go_roundw
        case rel => exact ⟨(a + b) / 2 + 1, b, by omega, hbl, by go_num, rfl, fun t ht => Hlo2.out t ht (by omega), Hhi.out, by (repeat (first | with_reducible exact Below.refl _ _ | with_reducible assumption | (with_reducible refine Below.drew ?_) | (with_reducible refine Below.manyDrew ?_ _) | ((with_reducible refine Below.alloc ?_ ?_ _); rotate_left; (focus (first | omega | (dsimp only; omega) | (simp; done) | (simp; omega)))) | ((with_reducible refine Below.setCell ?_ ?_ _); rotate_left; (focus (first | omega | (dsimp only; omega) | (simp; done) | (simp; omega)))) | ((with_reducible refine Below.step ?_ (by assumption) ?_); rotate_left; (focus (first | omega | (dsimp only; omega) | (simp; done) | (simp; omega))))))⟩
        case measure => simp [intOf]; omega
      · go_wp2_with fail
        go_roundw
        case rel => exact ⟨a, (a + b) / 2, by omega, by omega, rfl, by go_num, Hlo.out, fun t ht htl => Hhi2.out t ht htl (by omega), by (repeat (first | with_reducible exact Below.refl _ _ | with_reducible assumption | (with_reducible refine Below.drew ?_) | (with_reducible refine Below.manyDrew ?_ _) | ((with_reducible refine Below.alloc ?_ ?_ _); rotate_left; (focus (first | omega | (dsimp only; omega) | (simp; done) | (simp; omega)))) | ((with_reducible refine Below.setCell ?_ ?_ _); rotate_left; (focus (first | omega | (dsimp only; omega) | (simp; done) | (simp; omega)))) | ((with_reducible refine Below.step ?_ (by assumption) ?_); rotate_left; (focus (first | omega | (dsimp only; omega) | (simp; done) | (simp; omega))))))⟩
        case measure => simp [intOf]; omega
    · obtain rfl : a = b := by omega
      have hp : plc k s.xs = a := plc_eq s.xs a hbl hlo (fun h => hhi a (Nat.le_refl _) h)
      have hz0 := hbr.size
      obtain ⟨r, hr⟩ : ∃ r, hasK k s.xs = r := ⟨_, rfl⟩
      have Hr0 := hid hr
      have Hp := hid hp
      by_cases hin : a < s.xs.length
      · rw [hasK, hp, decide_eq_true hin, Bool.true_and] at hr
        obtain ⟨g, off, hA, hg, hcells⟩ := hs.get (by omega)
        obtain ⟨k0, k1, k2, k3, k4⟩ := (hcells a (by omega)).stays hbr hg
        have hkk := hK a (by omega)
        have Hr := hid hr
        clear hcells hS hK hlo hhi hr hp
        generalize s.xs.getD a E.zero = x at *
        obtain ⟨xk, xv, xa, xg, xt⟩ := x
        simp only at k0 k1 k2 k3 k4 hkk Hr
        rw [hA]
        clear hA
        obtain ⟨hk0, hk8⟩ := hk
        go_wp2_with fail
        refine (place1_any xk xv xa xg xt k _ hkk ⟨hk0, hk8⟩).mono ?_; rintro e w1 ⟨rfl, hb1⟩; obtain ⟨hc1, hf1⟩ := bcell hb1; have hz1 := hb1.size; (try simp only [World.size_alloc] at hz1); (try simp only [World.size_setCell] at hz1)
        go_wp2_with fail
        refine bodyPost_ret (v := .tuple #[.int .i64 a, .bool r]) ?_ rfl ⟨by rw [Hp.out, Hr0.out], by (repeat (first | with_reducible exact Below.refl _ _ | with_reducible assumption | (with_reducible refine Below.drew ?_) | (with_reducible refine Below.manyDrew ?_ _) | ((with_reducible refine Below.alloc ?_ ?_ _); rotate_left; (focus (first | omega | (dsimp only; omega) | (simp; done) | (simp; omega)))) | ((with_reducible refine Below.setCell ?_ ?_ _); rotate_left; (focus (first | omega | (dsimp only; omega) | (simp; done) | (simp; omega)))) | ((with_reducible refine Below.step ?_ (by assumption) ?_); rotate_left; (focus (first | omega | (dsimp only; omega) | (simp; done) | (simp; omega))))))⟩
        rw [← Hr.out]
        have hq : (xk - k == 0) = decide (xk = k) := by
          rw [Bool.eq_iff_iff]
          simp
          omega
        simp [results, Tryd.results47, go_sem, hq]
      · rw [hasK, hp, decide_eq_false hin, Bool.false_and] at hr
        subst hr
        clear hS hK hlo hhi hp
        go_wp2_with fail
        refine bodyPost_ret (v := .tuple #[.int .i64 a, .bool false]) ?_ rfl ⟨by rw [Hp.out, Hr0.out], by (repeat (first | with_reducible exact Below.refl _ _ | with_reducible assumption | (with_reducible refine Below.drew ?_) | (with_reducible refine Below.manyDrew ?_ _) | ((with_reducible refine Below.alloc ?_ ?_ _); rotate_left; (focus (first | omega | (dsimp only; omega) | (simp; done) | (simp; omega)))) | ((with_reducible refine Below.setCell ?_ ?_ _); rotate_left; (focus (first | omega | (dsimp only; omega) | (simp; done) | (simp; omega)))) | ((with_reducible refine Below.step ?_ (by assumption) ?_); rotate_left; (focus (first | omega | (dsimp only; omega) | (simp; done) | (simp; omega))))))⟩
        simp [results, Tryd.results47, go_sem]

set_option maxHeartbeats 2000000 in
theorem place_any (k : Int) (s : SlV E) (w : World) (hs : EntriesAt w s) (hS : SortedK s.xs) (hK : KeysIn s.xs) (hk : 0 ≤ k ∧ k < 8) (hn : s.xs.length ≤ 8) :
    Calls Tryd.prog 34 #[.slice s.A s.xs.length s.c, .int .i64 k] w fun e w' => e = .returned (.tuple #[.int .i64 (plc k s.xs), .bool (hasK k s.xs)]) ∧ Below w.heap.size w w' := by
  go_enter Tryd.func34, Tryd.ntmps34
  go_wp2_with fail
  refine (bsf_any k s _ hs hS hK hk hn).mono ?_; rintro e w1 ⟨rfl, hb1⟩; obtain ⟨hc1, hf1⟩ := bcell hb1; have hz1 := hb1.size; (try simp only [World.size_alloc] at hz1); (try simp only [World.size_setCell] at hz1)
  go_wp2_with fail
  refine bodyPost_ret (v := .tuple #[.int .i64 (plc k s.xs), .bool (hasK k s.xs)]) ?_ rfl ⟨rfl, by (repeat (first | with_reducible exact Below.refl _ _ | with_reducible assumption | (with_reducible refine Below.drew ?_) | (with_reducible refine Below.manyDrew ?_ _) | ((with_reducible refine Below.alloc ?_ ?_ _); rotate_left; (focus (first | omega | (dsimp only; omega) | (simp; done) | (simp; omega)))) | ((with_reducible refine Below.setCell ?_ ?_ _); rotate_left; (focus (first | omega | (dsimp only; omega) | (simp; done) | (simp; omega)))) | ((with_reducible refine Below.step ?_ (by assumption) ?_); rotate_left; (focus (first | omega | (dsimp only; omega) | (simp; done) | (simp; omega))))))⟩
  simp [results, Tryd.results34, go_sem]
end Go.Proofs.YtlcbdhblaamekaaDoor
