/-
  CONTRACTS of package cache: Place (with slices.BinarySearchFunc). CONDITIONS: none.
  CONTRACTS of package cache: Check, Get. CONDITIONS: none.
  WHAT cache.Added DOES, in plain. CONDITIONS: none.
  CONTRACTS: cache.Get, fresh.Stale, fresh.Get. CONDITIONS: none.
-/
import Derived.Test.YtneilklimpdeoaaGreatDoorEntry
import Derived.Test.YtneilklimpdeoaaGreatDoorJoin
import Derived.BigQuiet
import Derived.Deep.QuietTactic
import Derived.Deep.AppendLies
import Derived.Maps.AppendAt
namespace Go.Proofs.YtneilklimpdeoaaGreatDoor
open Go.RowKit
open Go.ChangeShapes Go.WideShapes Go.ChangeAt

/-- an entry's cells at a place -/
structure EAt (w : World) (b o : Nat) (e : E) : Prop where
  c0 : w.cell? ⟨b, o, none⟩ = some (.int .i64 e.key)
  c1 : w.cell? ⟨b, o + 1, none⟩ = some (.int .i64 e.ver)
  c2 : w.cell? ⟨b, o + 2, none⟩ = some (.int .i64 e.asof)
  c3 : w.cell? ⟨b, o + 3, none⟩ = some (.bool e.gone)
  c4 : w.cell? ⟨b, o + 4, none⟩ = some (.string e.text)
theorem EAt.stays {w w' : World} {b o : Nat} {e : E} (h : EAt w b o e) (hb : Below w.heap.size w w') (hl : b < w.heap.size) : EAt w' b o e :=
  ⟨(hb.cell (p := ⟨b, _, none⟩) hl).trans h.c0, (hb.cell (p := ⟨b, _, none⟩) hl).trans h.c1, (hb.cell (p := ⟨b, _, none⟩) hl).trans h.c2, (hb.cell (p := ⟨b, _, none⟩) hl).trans h.c3, (hb.cell (p := ⟨b, _, none⟩) hl).trans h.c4⟩
theorem EntriesAt.get {w : World} {s : SlV E} (h : EntriesAt w s) (h0 : 0 < s.xs.length) : ∃ b off, s.A = some ⟨b, off, none⟩ ∧ b < w.heap.size ∧ ∀ i, i < s.xs.length → EAt w b (off + i * 5) (s.xs.getD i E.zero) := by
  obtain ⟨b, off, hA, hb, hc⟩ := h.row h0
  refine ⟨b, off, hA, hb, fun i hi => ?_⟩
  have e : s.xs.getD i E.zero = s.xs[i] := by simp [List.getD, List.getElem?_eq_getElem hi]
  rw [e]
  exact ⟨hc i hi 0 (by decide), hc i hi 1 (by decide), hc i hi 2 (by decide), hc i hi 3 (by decide), hc i hi 4 (by decide)⟩
theorem EntriesAt.stays {w w' : World} {s : SlV E} (h : EntriesAt w s) (hb : Below w.heap.size w w') : EntriesAt w' s := ⟨fun h0 => by
    obtain ⟨b', off', h1, h2, h3⟩ := h.row h0
    exact ⟨b', off', h1, Nat.lt_of_lt_of_le h2 hb.size, fun i hi f hf => (hb.cell (p := ⟨b', _, none⟩) h2).trans (h3 i hi f hf)⟩, h.each, h.len⟩
theorem EntriesAt.empty (w : World) : EntriesAt w ⟨none, 0, []⟩ := ⟨(fun h => by cases h), (fun x hx => by cases hx), Nat.zero_le _⟩

/-- keys ascend -/
def SortedK (l : List E) : Prop := ∀ a b, a < b → b < l.length → (l.getD a E.zero).key < (l.getD b E.zero).key
/-- keys in range -/
def KeysIn (l : List E) : Prop := ∀ a, a < l.length → 0 ≤ (l.getD a E.zero).key ∧ (l.getD a E.zero).key < 8
/-- how many are ahead of a key -/
def plc (k : Int) : List E → Nat
  | [] => 0
  | e :: r => if e.key < k then plc k r + 1 else 0
theorem plc_eq {k : Int} : ∀ (l : List E) (i : Nat), i ≤ l.length → (∀ t, t < i → (l.getD t E.zero).key < k) → (i < l.length → k ≤ (l.getD i E.zero).key) → plc k l = i
  | [], i, hi, _, _ => by simp at hi; simp [hi, plc]
  | e :: r, 0, _, _, h2 => by
    have := h2 (by simp)
    simp at this
    rw [plc, if_neg (by omega)]
  | e :: r, i + 1, hi, h1, h2 => by
    have h0 := h1 0 (by omega)
    simp at h0
    rw [plc, if_pos h0, plc_eq r i (by simpa using hi) (fun t ht => by simpa using h1 (t + 1) (by omega)) (fun ht => by simpa using h2 (by simpa using ht))]
def hasK (k : Int) (l : List E) : Bool := decide (plc k l < l.length) && decide ((l.getD (plc k l) E.zero).key = k)

theorem place1_any (k v a : Int) (g : Bool) (t : ByteArray) (x : Int) (w : World) (h0 : 0 ≤ k ∧ k < 8) (h1 : 0 ≤ x ∧ x < 8) :
    Calls Tryz.prog 42 #[.agg #[.int .i64 k, .int .i64 v, .int .i64 a, .bool g, .string t], .int .i64 x] w fun e w' => e = .returned (.int .i64 (k - x)) ∧ Below w.heap.size w w' := by
  obtain ⟨h0a, h0b⟩ := h0
  obtain ⟨h1a, h1b⟩ := h1
  go_enter Tryz.func42, Tryz.ntmps42
  go_wp2_with fail
  go_ret
  refine ⟨ret_i ?_, by (repeat (first | with_reducible exact Below.refl _ _ | with_reducible assumption | (with_reducible refine Below.drew ?_) | (with_reducible refine Below.manyDrew ?_ _) | ((with_reducible refine Below.alloc ?_ ?_ _); rotate_left; (focus (first | omega | (dsimp only; omega) | (simp; done) | (simp; omega)))) | ((with_reducible refine Below.setCell ?_ ?_ _); rotate_left; (focus (first | omega | (dsimp only; omega) | (simp; done) | (simp; omega)))) | ((with_reducible refine Below.step ?_ (by assumption) ?_); rotate_left; (focus (first | omega | (dsimp only; omega) | (simp; done) | (simp; omega))))))⟩
  first | rfl | (unfold wrap64; omega)

set_option maxHeartbeats 2000000 in
theorem bsf_any (k : Int) (s : SlV E) (w : World) (hs : EntriesAt w s) (hS : SortedK s.xs) (hK : KeysIn s.xs) (hk : 0 ≤ k ∧ k < 8) (hn : s.xs.length ≤ 8) :
    Calls Tryz.prog 41 #[.slice s.A s.xs.length s.c, .int .i64 k, .func (.func 42) #[] #[]] w fun e w' => e = .returned (.tuple #[.int .i64 (plc k s.xs), .bool (hasK k s.xs)]) ∧ Below w.heap.size w w' := by
  go_enter Tryz.func41, Tryz.ntmps41
  go_wp2_with fail
  go_loopw [9, 10] (fun i j wr => ∃ a b : Nat, a ≤ b ∧ b ≤ s.xs.length ∧ i = .int .i64 a ∧ j = .int .i64 b ∧ (∀ t, t < a → (s.xs.getD t E.zero).key < k) ∧ (∀ t, b ≤ t → t < s.xs.length → k ≤ (s.xs.getD t E.zero).key) ∧ Below w.heap.size w wr) (fun i j _ => (intOf j).toNat - (intOf i).toNat)
  case atStart => exact ⟨0, s.xs.length, by omega, by omega, rfl, rfl, by omega, by omega, Below.refl _ _⟩
  case round =>
    obtain ⟨a, b, hab, hbl, rfl, rfl, hlo, hhi, hbr⟩ := hrel
    by_cases hlt : a < b
    · obtain ⟨g, off, hA, hg, hcells⟩ := hs.get (by omega)
      obtain ⟨k0, k1, k2, k3, k4⟩ := (hcells ((a + b) / 2) (by omega)).stays hbr hg
      have hkk := hK ((a + b) / 2) (by omega)
      have hlo2 : ∀ t, t < (a + b) / 2 + 1 → (s.xs.getD ((a + b) / 2) E.zero).key < k → (s.xs.getD t E.zero).key < k := fun t ht hx => by
        by_cases htm : t = (a + b) / 2
        · rw [htm]; exact hx
        · have := hS t ((a + b) / 2) (by omega) (by omega)
          omega
      have hhi2 : ∀ t, (a + b) / 2 ≤ t → t < s.xs.length → k ≤ (s.xs.getD ((a + b) / 2) E.zero).key → k ≤ (s.xs.getD t E.zero).key := fun t ht htl hx => by
        by_cases htm : t = (a + b) / 2
        · rw [htm]; exact hx
        · have := hS ((a + b) / 2) t (by omega) (by omega)
          omega
      have Hlo2 := hid hlo2
      have Hhi2 := hid hhi2
      have Hlo := hid hlo
      have Hhi := hid hhi
      clear hlo2 hhi2 hlo hhi hcells hS hK
      generalize s.xs.getD ((a + b) / 2) E.zero = x at *
      obtain ⟨xk, xv, xa, xg, xt⟩ := x
      simp only at k0 k1 k2 k3 k4 hkk Hlo2 Hhi2
      rw [hA]
      clear hA
      obtain ⟨hk0, hk8⟩ := hk
      have hz0 := hbr.size
      go_wp2_with fail
      refine (place1_any xk xv xa xg xt k _ hkk ⟨hk0, hk8⟩).mono ?_; rintro e w1 ⟨rfl, hb1⟩; obtain ⟨hc1, hf1⟩ := bcell hb1; have hz1 := hb1.size; (try simp only [World.size_alloc] at hz1); (try simp only [World.size_setCell] at hz1)
      by_cases hx : xk - k < 0
      · go_wp2_with fail
        go_roundw
        case rel => exact ⟨(a + b) / 2 + 1, b, by omega, hbl, by go_num, rfl, fun t ht => Hlo2.out t ht (by omega), Hhi.out, by (repeat (first | with_reducible exact Below.refl _ _ | with_reducible assumption | (with_reducible refine Below.drew ?_) | (with_reducible refine Below.manyDrew ?_ _) | ((with_reducible refine Below.alloc ?_ ?_ _); rotate_left; (focus (first | omega | (dsimp only; omega) | (simp; done) | (simp; omega)))) | ((with_reducible refine Below.setCell ?_ ?_ _); rotate_left; (focus (first | omega | (dsimp only; omega) | (simp; done) | (simp; omega)))) | ((with_reducible refine Below.step ?_ (by assumption) ?_); rotate_left; (focus (first | omega | (dsimp only; omega) | (simp; done) | (simp; omega))))))⟩
        case measure => simp [intOf]; omega
      · go_wp2_with fail
        go_roundw
        case rel => exact ⟨a, (a + b) / 2, by omega, by omega, rfl, by go_num, Hlo.out, fun t ht htl => Hhi2.out t ht htl (by omega), by (repeat (first | with_reducible exact Below.refl _ _ | with_reducible assumption | (with_reducible refine Below.drew ?_) | (with_reducible refine Below.manyDrew ?_ _) | ((with_reducible refine Below.alloc ?_ ?_ _); rotate_left; (focus (first | omega | (dsimp only; omega) | (simp; done) | (simp; omega)))) | ((with_reducible refine Below.setCell ?_ ?_ _); rotate_left; (focus (first | omega | (dsimp only; omega) | (simp; done) | (simp; omega)))) | ((with_reducible refine Below.step ?_ (by assumption) ?_); rotate_left; (focus (first | omega | (dsimp only; omega) | (simp; done) | (simp; omega))))))⟩
        case measure => simp [intOf]; omega
    · obtain rfl : a = b := by omega
      have hp : plc k s.xs = a := plc_eq s.xs a hbl hlo (fun h => hhi a (Nat.le_refl _) h)
      have hz0 := hbr.size
      obtain ⟨r, hr⟩ : ∃ r, hasK k s.xs = r := ⟨_, rfl⟩
      have Hr0 := hid hr
      have Hp := hid hp
      by_cases hin : a < s.xs.length
      · rw [hasK, hp, decide_eq_true hin, Bool.true_and] at hr
        obtain ⟨g, off, hA, hg, hcells⟩ := hs.get (by omega)
        obtain ⟨k0, k1, k2, k3, k4⟩ := (hcells a (by omega)).stays hbr hg
        have hkk := hK a (by omega)
        have Hr := hid hr
        clear hcells hS hK hlo hhi hr hp
        generalize s.xs.getD a E.zero = x at *
        obtain ⟨xk, xv, xa, xg, xt⟩ := x
        simp only at k0 k1 k2 k3 k4 hkk Hr
        rw [hA]
        clear hA
        obtain ⟨hk0, hk8⟩ := hk
        go_wp2_with fail
        refine (place1_any xk xv xa xg xt k _ hkk ⟨hk0, hk8⟩).mono ?_; rintro e w1 ⟨rfl, hb1⟩; obtain ⟨hc1, hf1⟩ := bcell hb1; have hz1 := hb1.size; (try simp only [World.size_alloc] at hz1); (try simp only [World.size_setCell] at hz1)
        go_wp2_with fail
        refine bodyPost_ret (v := .tuple #[.int .i64 a, .bool r]) ?_ rfl ⟨by rw [Hp.out, Hr0.out], by (repeat (first | with_reducible exact Below.refl _ _ | with_reducible assumption | (with_reducible refine Below.drew ?_) | (with_reducible refine Below.manyDrew ?_ _) | ((with_reducible refine Below.alloc ?_ ?_ _); rotate_left; (focus (first | omega | (dsimp only; omega) | (simp; done) | (simp; omega)))) | ((with_reducible refine Below.setCell ?_ ?_ _); rotate_left; (focus (first | omega | (dsimp only; omega) | (simp; done) | (simp; omega)))) | ((with_reducible refine Below.step ?_ (by assumption) ?_); rotate_left; (focus (first | omega | (dsimp only; omega) | (simp; done) | (simp; omega))))))⟩
        rw [← Hr.out]
        have hq : (xk - k == 0) = decide (xk = k) := by
          rw [Bool.eq_iff_iff]
          simp
          omega
        simp [results, Tryz.results41, go_sem, hq]
      · rw [hasK, hp, decide_eq_false hin, Bool.false_and] at hr
        subst hr
        clear hS hK hlo hhi hp
        go_wp2_with fail
        refine bodyPost_ret (v := .tuple #[.int .i64 a, .bool false]) ?_ rfl ⟨by rw [Hp.out, Hr0.out], by (repeat (first | with_reducible exact Below.refl _ _ | with_reducible assumption | (with_reducible refine Below.drew ?_) | (with_reducible refine Below.manyDrew ?_ _) | ((with_reducible refine Below.alloc ?_ ?_ _); rotate_left; (focus (first | omega | (dsimp only; omega) | (simp; done) | (simp; omega)))) | ((with_reducible refine Below.setCell ?_ ?_ _); rotate_left; (focus (first | omega | (dsimp only; omega) | (simp; done) | (simp; omega)))) | ((with_reducible refine Below.step ?_ (by assumption) ?_); rotate_left; (focus (first | omega | (dsimp only; omega) | (simp; done) | (simp; omega))))))⟩
        simp [results, Tryz.results41, go_sem]

set_option maxHeartbeats 2000000 in
theorem place_any (k : Int) (s : SlV E) (w : World) (hs : EntriesAt w s) (hS : SortedK s.xs) (hK : KeysIn s.xs) (hk : 0 ≤ k ∧ k < 8) (hn : s.xs.length ≤ 8) :
    Calls Tryz.prog 31 #[.slice s.A s.xs.length s.c, .int .i64 k] w fun e w' => e = .returned (.tuple #[.int .i64 (plc k s.xs), .bool (hasK k s.xs)]) ∧ Below w.heap.size w w' := by
  go_enter Tryz.func31, Tryz.ntmps31
  go_wp2_with fail
  refine (bsf_any k s _ hs hS hK hk hn).mono ?_; rintro e w1 ⟨rfl, hb1⟩; obtain ⟨hc1, hf1⟩ := bcell hb1; have hz1 := hb1.size; (try simp only [World.size_alloc] at hz1); (try simp only [World.size_setCell] at hz1)
  go_wp2_with fail
  refine bodyPost_ret (v := .tuple #[.int .i64 (plc k s.xs), .bool (hasK k s.xs)]) ?_ rfl ⟨rfl, by (repeat (first | with_reducible exact Below.refl _ _ | with_reducible assumption | (with_reducible refine Below.drew ?_) | (with_reducible refine Below.manyDrew ?_ _) | ((with_reducible refine Below.alloc ?_ ?_ _); rotate_left; (focus (first | omega | (dsimp only; omega) | (simp; done) | (simp; omega)))) | ((with_reducible refine Below.setCell ?_ ?_ _); rotate_left; (focus (first | omega | (dsimp only; omega) | (simp; done) | (simp; omega)))) | ((with_reducible refine Below.step ?_ (by assumption) ?_); rotate_left; (focus (first | omega | (dsimp only; omega) | (simp; done) | (simp; omega))))))⟩
  simp [results, Tryz.results31, go_sem]
end Go.Proofs.YtneilklimpdeoaaGreatDoor
namespace Go.Proofs.YtneilklimpdeoaaGreatDoor
open Go.RowKit
open Go.ChangeShapes Go.WideShapes Go.ChangeAt

def lowB (p : Option Int) (k : Int) : Bool := match p with | some q => decide (k ≤ q) | none => false
def chkCs : Option Int → List E → Int
  | _, [] => 0
  | p, e :: r => if chk e = 0 then (if lowB p e.key = true then 3 else chkCs (some e.key) r) else chk e
def chkC (l : List E) : Int := if 8 < l.length then 4 else chkCs none l

theorem chk_key {e : E} (h : chk e = 0) : 0 ≤ e.key ∧ e.key < 8 := by
  unfold chk at h
  split at h
  · cases h
  · rename_i h1
    simp only [Bool.or_eq_true, not_or, Bool.not_eq_true, Bool.not_eq_false'] at h1
    exact keyB_true.1 h1.1.1.1
theorem chkCs_ok : ∀ (l : List E) (p : Option Int), chkCs p l = 0 → (∀ e ∈ l, chk e = 0) ∧ (∀ q, p = some q → ∀ e ∈ l, q < e.key) ∧ SortedK l
  | [], p, _ => ⟨by simp, by simp, fun a b _ h => by simp at h⟩
  | e :: r, p, h => by
    rw [chkCs] at h
    split at h
    · rename_i he
      split at h
      · cases h
      · rename_i hl
        obtain ⟨h1, h2, h3⟩ := chkCs_ok r _ h
        have hk := h2 _ rfl
        refine ⟨by simpa [he] using h1, fun q hq x hx => ?_, fun a b hab hb => ?_⟩
        · subst hq
          simp [lowB] at hl
          rcases List.mem_cons.1 hx with rfl | hx
          · exact hl
          · have := hk x hx; omega
        · match a, b, hab with
          | 0, b + 1, _ =>
            have hb' : b < r.length := by simpa using hb
            have : r.getD b E.zero ∈ r := by rw [List.getD, List.getElem?_eq_getElem hb', Option.getD_some]; exact List.getElem_mem hb'
            simpa using hk _ this
          | a + 1, b + 1, hab => simpa using h3 a b (by omega) (by simpa using hb)
    · rename_i he
      exact absurd h he
theorem getD_mem {l : List E} {a : Nat} (h : a < l.length) : l.getD a E.zero ∈ l := by
  rw [List.getD, List.getElem?_eq_getElem h, Option.getD_some]
  exact List.getElem_mem h
theorem chkC_ok {l : List E} (h : chkC l = 0) : l.length ≤ 8 ∧ (∀ e ∈ l, chk e = 0) ∧ SortedK l ∧ KeysIn l := by
  unfold chkC at h
  split at h
  · cases h
  · obtain ⟨h1, _, h3⟩ := chkCs_ok l none h
    exact ⟨by omega, h1, h3, fun a ha => chk_key (h1 _ (getD_mem ha))⟩

set_option maxHeartbeats 2000000 in
theorem ccheck_any (s : SlV E) (w : World) (hs : EntriesAt w s) :
    Calls Tryz.prog 72 #[.slice s.A s.xs.length s.c] w fun e w' => e = .returned (errV (chkC s.xs)) ∧ Below w.heap.size w w' := by
  have hlen := hs.len
  unfold maxLen at hlen
  by_cases h8 : 8 < s.xs.length
  · have h8' : (8 : Int) < (s.xs.length : Int) := by omega
    rw [chkC, if_pos h8]
    go_enter Tryz.func72, Tryz.ntmps72
    go_wp2_with fail
    go_ret
    exact ⟨rfl, by (repeat (first | with_reducible exact Below.refl _ _ | with_reducible assumption | (with_reducible refine Below.drew ?_) | (with_reducible refine Below.manyDrew ?_ _) | ((with_reducible refine Below.alloc ?_ ?_ _); rotate_left; (focus (first | omega | (dsimp only; omega) | (simp; done) | (simp; omega)))) | ((with_reducible refine Below.setCell ?_ ?_ _); rotate_left; (focus (first | omega | (dsimp only; omega) | (simp; done) | (simp; omega)))) | ((with_reducible refine Below.step ?_ (by assumption) ?_); rotate_left; (focus (first | omega | (dsimp only; omega) | (simp; done) | (simp; omega))))))⟩
  · have h8' : ¬ (8 : Int) < (s.xs.length : Int) := by omega
    generalize hr : chkC s.xs = r
    rw [chkC, if_neg h8] at hr
    have Hr := hid hr
    clear hr
    go_enter Tryz.func72, Tryz.ntmps72
    go_wp2_with fail
    go_loopw [12] (fun i wr => ∃ k : Nat, k ≤ s.xs.length ∧ i = .int .i64 k ∧ chkCs (if k = 0 then none else some (s.xs.getD (k - 1) E.zero).key) (s.xs.drop k) = r ∧ Below w.heap.size w wr) (fun i _ => s.xs.length - (intOf i).toNat)
    case atStart => exact ⟨0, Nat.zero_le _, rfl, Hr.out, Below.refl _ _⟩
    case round =>
      obtain ⟨k, hk, rfl, hkr, hbr⟩ := hrel
      have hz0 := hbr.size
      by_cases hlt : k < s.xs.length
      · obtain ⟨g, off, hA, hg, hcells⟩ := hs.get (by omega)
        obtain ⟨k0, k1, k2, k3, k4⟩ := (hcells k hlt).stays hbr hg
        have hd : s.xs.drop k = s.xs.getD k E.zero :: s.xs.drop (k + 1) := by
          rw [List.drop_eq_getElem_cons hlt, List.getD, List.getElem?_eq_getElem hlt, Option.getD_some]
        rw [hd, chkCs] at hkr
        have hm := hs.each _ (getD_mem hlt)
        rcases k with _ | j
        · rw [if_pos rfl] at hkr
          rw [Nat.zero_mul, Nat.add_zero] at k0 k1 k2 k3 k4
          rw [Nat.zero_add] at hd hkr
          obtain ⟨x, hx⟩ : ∃ x, s.xs.getD 0 E.zero = x := ⟨_, rfl⟩
          rw [hx] at hkr k0 k1 k2 k3 k4 hm
          have Hx := hid hx
          clear hx
          obtain ⟨xk, xv, xa, xg, xt⟩ := x
          simp only at k0 k1 k2 k3 k4
          have Hkr := hid hkr
          rw [hA]
          clear hA hkr hcells hd
          go_wp2_with fail
          refine (check_any xk xv xa xg xt _ hm.2.2.2).mono ?_; rintro e w1 ⟨rfl, hb1⟩; obtain ⟨hc1, hf1⟩ := bcell hb1; have hz1 := hb1.size; (try simp only [World.size_alloc] at hz1); (try simp only [World.size_setCell] at hz1)
          have hl1 : wr.heap.size < w1.heap.size := by omega
          by_cases hc : chk ⟨xk, xv, xa, xg, xt⟩ = 0
          · rw [hc, show errV 0 = .nilIface from rfl]
            have e0 : w1.cell? ⟨wr.heap.size, 0, none⟩ = some (.int .i64 xk) := by rw [hc1 _ _ (by simp)]; simp [go_sem]
            have Hkr2 := hid ((if_pos hc).symm.trans Hkr.out)
            clear Hkr
            go_wp2_with fail
            go_quiet (fail)
            go_wp2_with fail
            go_roundw
            case rel => exact ⟨1, by omega, by go_num, by show chkCs (some (s.xs.getD 0 E.zero).key) _ = _; rw [Hx.out]; exact Hkr2.out, by (repeat (first | with_reducible exact Below.refl _ _ | with_reducible assumption | (with_reducible refine Below.drew ?_) | (with_reducible refine Below.manyDrew ?_ _) | ((with_reducible refine Below.alloc ?_ ?_ _); rotate_left; (focus (first | omega | (dsimp only; omega) | (simp; done) | (simp; omega)))) | ((with_reducible refine Below.setCell ?_ ?_ _); rotate_left; (focus (first | omega | (dsimp only; omega) | (simp; done) | (simp; omega)))) | ((with_reducible refine Below.step ?_ (by assumption) ?_); rotate_left; (focus (first | omega | (dsimp only; omega) | (simp; done) | (simp; omega))))))⟩
            case measure => simp [intOf]; omega
          · have hcr : chk ⟨xk, xv, xa, xg, xt⟩ = r := by rw [← Hkr.out, if_neg hc]
            subst hcr
            clear Hkr
            rw [errV_ne hc]
            have Hc : Hid (chk ⟨xk, xv, xa, xg, xt⟩ ≠ 0) := hc
            clear hc
            go_wp2_with fail
            go_ret
            exact ⟨by rw [errV_ne Hc.out]; rfl, by (repeat (first | with_reducible exact Below.refl _ _ | with_reducible assumption | (with_reducible refine Below.drew ?_) | (with_reducible refine Below.manyDrew ?_ _) | ((with_reducible refine Below.alloc ?_ ?_ _); rotate_left; (focus (first | omega | (dsimp only; omega) | (simp; done) | (simp; omega)))) | ((with_reducible refine Below.setCell ?_ ?_ _); rotate_left; (focus (first | omega | (dsimp only; omega) | (simp; done) | (simp; omega)))) | ((with_reducible refine Below.step ?_ (by assumption) ?_); rotate_left; (focus (first | omega | (dsimp only; omega) | (simp; done) | (simp; omega))))))⟩
        · have hq := ((hcells j (by omega)).stays hbr hg).c0
          rw [if_neg (Nat.succ_ne_zero j), Nat.add_sub_cancel] at hkr
          generalize s.xs.getD j E.zero = y at *
          obtain ⟨x, hx⟩ : ∃ x, s.xs.getD (j + 1) E.zero = x := ⟨_, rfl⟩
          rw [hx] at hkr k0 k1 k2 k3 k4 hm
          have Hx := hid hx
          clear hx
          obtain ⟨xk, xv, xa, xg, xt⟩ := x
          simp only at k0 k1 k2 k3 k4
          have Hkr := hid hkr
          rw [hA]
          clear hA hkr hcells hd
          go_wp2_with fail
          refine (check_any xk xv xa xg xt _ hm.2.2.2).mono ?_; rintro e w1 ⟨rfl, hb1⟩; obtain ⟨hc1, hf1⟩ := bcell hb1; have hz1 := hb1.size; (try simp only [World.size_alloc] at hz1); (try simp only [World.size_setCell] at hz1)
          have hl1 : wr.heap.size < w1.heap.size := by omega
          by_cases hc : chk ⟨xk, xv, xa, xg, xt⟩ = 0
          · rw [hc, show errV 0 = .nilIface from rfl]
            have e0 : w1.cell? ⟨wr.heap.size, 0, none⟩ = some (.int .i64 xk) := by rw [hc1 _ _ (by simp)]; simp [go_sem]
            replace hq := (hb1.cell (p := ⟨g, _, none⟩) (by simp; omega)).trans ((((Below.refl wr.heap.size wr).alloc (Nat.le_refl _) _).cell (p := ⟨g, _, none⟩) (by dsimp only; omega)).trans hq)
            have Hkr2 := hid ((if_pos hc).symm.trans Hkr.out)
            clear Hkr
            by_cases hle : xk ≤ y.key
            · have hr3 : (3 : Int) = r := by rw [← Hkr2.out, lowB]; simp [hle]
              subst hr3
              clear Hkr2
              go_wp2_with fail
              go_quiet (fail)
              go_wp2_with fail
              go_ret
              exact ⟨rfl, by (repeat (first | with_reducible exact Below.refl _ _ | with_reducible assumption | (with_reducible refine Below.drew ?_) | (with_reducible refine Below.manyDrew ?_ _) | ((with_reducible refine Below.alloc ?_ ?_ _); rotate_left; (focus (first | omega | (dsimp only; omega) | (simp; done) | (simp; omega)))) | ((with_reducible refine Below.setCell ?_ ?_ _); rotate_left; (focus (first | omega | (dsimp only; omega) | (simp; done) | (simp; omega)))) | ((with_reducible refine Below.step ?_ (by assumption) ?_); rotate_left; (focus (first | omega | (dsimp only; omega) | (simp; done) | (simp; omega))))))⟩
            · have Hkr3 := hid ((if_neg (show ¬ lowB (some y.key) xk = true by simp [lowB]; omega)).symm.trans Hkr2.out)
              clear Hkr2
              go_wp2_with fail
              go_quiet (fail)
              go_wp2_with fail
              go_roundw
              case rel => exact ⟨j + 1 + 1, by omega, by go_num, by show chkCs (some (s.xs.getD (j + 1) E.zero).key) _ = _; rw [Hx.out]; exact Hkr3.out, by (repeat (first | with_reducible exact Below.refl _ _ | with_reducible assumption | (with_reducible refine Below.drew ?_) | (with_reducible refine Below.manyDrew ?_ _) | ((with_reducible refine Below.alloc ?_ ?_ _); rotate_left; (focus (first | omega | (dsimp only; omega) | (simp; done) | (simp; omega)))) | ((with_reducible refine Below.setCell ?_ ?_ _); rotate_left; (focus (first | omega | (dsimp only; omega) | (simp; done) | (simp; omega)))) | ((with_reducible refine Below.step ?_ (by assumption) ?_); rotate_left; (focus (first | omega | (dsimp only; omega) | (simp; done) | (simp; omega))))))⟩
              case measure => simp [intOf]; omega
          · have hcr : chk ⟨xk, xv, xa, xg, xt⟩ = r := by rw [← Hkr.out, if_neg hc]
            subst hcr
            clear Hkr
            rw [errV_ne hc]
            have Hc : Hid (chk ⟨xk, xv, xa, xg, xt⟩ ≠ 0) := hc
            clear hc
            go_wp2_with fail
            go_ret
            exact ⟨by rw [errV_ne Hc.out]; rfl, by (repeat (first | with_reducible exact Below.refl _ _ | with_reducible assumption | (with_reducible refine Below.drew ?_) | (with_reducible refine Below.manyDrew ?_ _) | ((with_reducible refine Below.alloc ?_ ?_ _); rotate_left; (focus (first | omega | (dsimp only; omega) | (simp; done) | (simp; omega)))) | ((with_reducible refine Below.setCell ?_ ?_ _); rotate_left; (focus (first | omega | (dsimp only; omega) | (simp; done) | (simp; omega)))) | ((with_reducible refine Below.step ?_ (by assumption) ?_); rotate_left; (focus (first | omega | (dsimp only; omega) | (simp; done) | (simp; omega))))))⟩
      · obtain rfl : k = s.xs.length := by omega
        have hr0 : (0 : Int) = r := by
          rw [List.drop_length] at hkr
          exact hkr
        subst hr0
        clear hkr
        go_wp2_with fail
        go_ret
        exact ⟨rfl, by (repeat (first | with_reducible exact Below.refl _ _ | with_reducible assumption | (with_reducible refine Below.drew ?_) | (with_reducible refine Below.manyDrew ?_ _) | ((with_reducible refine Below.alloc ?_ ?_ _); rotate_left; (focus (first | omega | (dsimp only; omega) | (simp; done) | (simp; omega)))) | ((with_reducible refine Below.setCell ?_ ?_ _); rotate_left; (focus (first | omega | (dsimp only; omega) | (simp; done) | (simp; omega)))) | ((with_reducible refine Below.step ?_ (by assumption) ?_); rotate_left; (focus (first | omega | (dsimp only; omega) | (simp; done) | (simp; omega))))))⟩
end Go.Proofs.YtneilklimpdeoaaGreatDoor
namespace Go.Proofs.YtneilklimpdeoaaGreatDoor
open Go.RowKit
open Go.ChangeShapes Go.WideShapes Go.ChangeAt

/-- an entry added to a cache: what is there, and the fault -/
def addC (l : List E) (e : E) : List E × Int :=
  if hasK e.key l = true then (if (joined (l.getD (plc e.key l) E.zero) e).2 = 0 then (l.set (plc e.key l) (joined (l.getD (plc e.key l) E.zero) e).1, 0) else ([], (joined (l.getD (plc e.key l) E.zero) e).2))
  else (l.take (plc e.key l) ++ e :: l.drop (plc e.key l), 0)
theorem plc_le (k : Int) : ∀ l : List E, plc k l ≤ l.length
  | [] => Nat.le_refl _
  | e :: r => by
    have := plc_le k r
    rw [plc]
    split <;> simp <;> omega
end Go.Proofs.YtneilklimpdeoaaGreatDoor
namespace Go.Proofs.YtneilklimpdeoaaGreatDoor
open Go.RowKit
open Go.ChangeShapes Go.WideShapes Go.ChangeAt

def getR (l : List E) (k : Int) : E × Int :=
  if chkC l = 0 then (if keyB k = true then (if hasK k l = true then (l.getD (plc k l) E.zero, 0) else (E.zero, 5)) else (E.zero, 1)) else (E.zero, chkC l)

end Go.Proofs.YtneilklimpdeoaaGreatDoor
