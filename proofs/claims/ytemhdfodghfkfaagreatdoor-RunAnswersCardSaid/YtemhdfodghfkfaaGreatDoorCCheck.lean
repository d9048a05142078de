/-
  CONTRACTS of package cache: Place (with slices.BinarySearchFunc). CONDITIONS: none.
  CONTRACTS of package cache: Check, Get. CONDITIONS: none.
  WHAT cache.Added DOES, in plain. CONDITIONS: none.
  CONTRACTS: cache.Get, fresh.Stale, fresh.Get. CONDITIONS: none.
  THE KIT of []api.Entry over slices of the call's own. CONDITIONS: none.
  CONTRACTS of slices.Equal at api.Entry and of meresame.Cache. CONDITIONS: none.
  A WHOLE ENTRY, loaded and boxed by ONE law each (in a great frame the walk's own steps, cell by cell, are too dear for the kernel). CONDITIONS: none.
  A ROW OF ENTRIES that stands in a slot, however it came there. CONDITIONS: none.
-/
import Derived.Test.YtemhdfodghfkfaaGreatDoorKit
import Derived.Test.YtemhdfodghfkfaaGreatDoorJoin
import Derived.BigQuiet
import Derived.Deep.QuietTactic
import Derived.Deep.AppendLies
import Derived.Maps.AppendAt
import Derived.Laws.StructEq
import Derived.Deep.MidRow
import Derived.Great.BuildSlice
namespace Go.Proofs.YtemhdfodghfkfaaGreatDoor
open Go.RowKit
open Go.ChangeShapes Go.WideShapes Go.ChangeAt

/-- an entry's cells at a place -/
structure EAt (w : World) (b o : Nat) (e : E) : Prop where
  c0 : w.cell? ⟨b, o, none⟩ = some (.int .i64 e.key)
  c1 : w.cell? ⟨b, o + 1, none⟩ = some (.int .i64 e.ver)
  c2 : w.cell? ⟨b, o + 2, none⟩ = some (.int .i64 e.asof)
  c3 : w.cell? ⟨b, o + 3, none⟩ = some (.bool e.gone)
  c4 : w.cell? ⟨b, o + 4, none⟩ = some (.string e.text)
theorem EAt.stays {w w' : World} {b o : Nat} {e : E} (h : EAt w b o e) (hb : Below w.heap.size w w') (hl : b < w.heap.size) : EAt w' b o e :=
  ⟨(hb.cell (p := ⟨b, _, none⟩) hl).trans h.c0, (hb.cell (p := ⟨b, _, none⟩) hl).trans h.c1, (hb.cell (p := ⟨b, _, none⟩) hl).trans h.c2, (hb.cell (p := ⟨b, _, none⟩) hl).trans h.c3, (hb.cell (p := ⟨b, _, none⟩) hl).trans h.c4⟩
theorem EntriesAt.get {w : World} {s : SlV E} (h : EntriesAt w s) (h0 : 0 < s.xs.length) : ∃ b off, s.A = some ⟨b, off, none⟩ ∧ b < w.heap.size ∧ ∀ i, i < s.xs.length → EAt w b (off + i * 5) (s.xs.getD i E.zero) := by
  obtain ⟨b, off, hA, hb, hc⟩ := h.row h0
  refine ⟨b, off, hA, hb, fun i hi => ?_⟩
  have e : s.xs.getD i E.zero = s.xs[i] := by simp [List.getD, List.getElem?_eq_getElem hi]
  rw [e]
  exact ⟨hc i hi 0 (by decide), hc i hi 1 (by decide), hc i hi 2 (by decide), hc i hi 3 (by decide), hc i hi 4 (by decide)⟩
theorem EntriesAt.stays {w w' : World} {s : SlV E} (h : EntriesAt w s) (hb : Below w.heap.size w w') : EntriesAt w' s := ⟨fun h0 => by
    obtain ⟨b', off', h1, h2, h3⟩ := h.row h0
    exact ⟨b', off', h1, Nat.lt_of_lt_of_le h2 hb.size, fun i hi f hf => (hb.cell (p := ⟨b', _, none⟩) h2).trans (h3 i hi f hf)⟩, h.each, h.len⟩
theorem EntriesAt.empty (w : World) : EntriesAt w ⟨none, 0, []⟩ := ⟨(fun h => by cases h), (fun x hx => by cases hx), Nat.zero_le _⟩

/-- keys ascend -/
def SortedK (l : List E) : Prop := ∀ a b, a < b → b < l.length → (l.getD a E.zero).key < (l.getD b E.zero).key
/-- keys in range -/
def KeysIn (l : List E) : Prop := ∀ a, a < l.length → 0 ≤ (l.getD a E.zero).key ∧ (l.getD a E.zero).key < 8
/-- how many are ahead of a key -/
def plc (k : Int) : List E → Nat
  | [] => 0
  | e :: r => if e.key < k then plc k r + 1 else 0
theorem plc_eq {k : Int} : ∀ (l : List E) (i : Nat), i ≤ l.length → (∀ t, t < i → (l.getD t E.zero).key < k) → (i < l.length → k ≤ (l.getD i E.zero).key) → plc k l = i
  | [], i, hi, _, _ => by simp at hi; simp [hi, plc]
  | e :: r, 0, _, _, h2 => by
    have := h2 (by simp)
    simp at this
    rw [plc, if_neg (by omega)]
  | e :: r, i + 1, hi, h1, h2 => by
    have h0 := h1 0 (by omega)
    simp at h0
    rw [plc, if_pos h0, plc_eq r i (by simpa using hi) (fun t ht => by simpa using h1 (t + 1) (by omega)) (fun ht => by simpa using h2 (by simpa using ht))]
def hasK (k : Int) (l : List E) : Bool := decide (plc k l < l.length) && decide ((l.getD (plc k l) E.zero).key = k)

theorem place1_any (k v a : Int) (g : Bool) (t : ByteArray) (x : Int) (w : World) (h0 : 0 ≤ k ∧ k < 8) (h1 : 0 ≤ x ∧ x < 8) :
    Calls Tryz.prog 160 #[.agg #[.int .i64 k, .int .i64 v, .int .i64 a, .bool g, .string t], .int .i64 x] w fun e w' => e = .returned (.int .i64 (k - x)) ∧ Below w.heap.size w w' := by
  obtain ⟨h0a, h0b⟩ := h0
  obtain ⟨h1a, h1b⟩ := h1
  go_enter Tryz.func160, Tryz.ntmps160
  go_wp2_with fail
  go_ret
  refine ⟨ret_i ?_, by (repeat (first | with_reducible exact Below.refl _ _ | with_reducible assumption | (with_reducible refine Below.drew ?_) | (with_reducible refine Below.manyDrew ?_ _) | ((with_reducible refine Below.alloc ?_ ?_ _); rotate_left; (focus (first | omega | (dsimp only; omega) | (simp; done) | (simp; omega)))) | ((with_reducible refine Below.setCell ?_ ?_ _); rotate_left; (focus (first | omega | (dsimp only; omega) | (simp; done) | (simp; omega)))) | ((with_reducible refine Below.step ?_ (by assumption) ?_); rotate_left; (focus (first | omega | (dsimp only; omega) | (simp; done) | (simp; omega))))))⟩
  first | rfl | (unfold wrap64; omega)

set_option maxHeartbeats 2000000 in
theorem bsf_any (k : Int) (s : SlV E) (w : World) (hs : EntriesAt w s) (hS : SortedK s.xs) (hK : KeysIn s.xs) (hk : 0 ≤ k ∧ k < 8) (hn : s.xs.length ≤ 8) :
    Calls Tryz.prog 159 #[.slice s.A s.xs.length s.c, .int .i64 k, .func (.func 160) #[] #[]] w fun e w' => e = .returned (.tuple #[.int .i64 (plc k s.xs), .bool (hasK k s.xs)]) ∧ Below w.heap.size w w' := by
  go_enter Tryz.func159, Tryz.ntmps159
  go_wp2_with fail
  go_loopw [9, 10] (fun i j wr => ∃ a b : Nat, a ≤ b ∧ b ≤ s.xs.length ∧ i = .int .i64 a ∧ j = .int .i64 b ∧ (∀ t, t < a → (s.xs.getD t E.zero).key < k) ∧ (∀ t, b ≤ t → t < s.xs.length → k ≤ (s.xs.getD t E.zero).key) ∧ Below w.heap.size w wr) (fun i j _ => (intOf j).toNat - (intOf i).toNat)
  case atStart => exact ⟨0, s.xs.length, by omega, by omega, rfl, rfl, by omega, by omega, Below.refl _ _⟩
  case round =>
    obtain ⟨a, b, hab, hbl, rfl, rfl, hlo, hhi, hbr⟩ := hrel
    by_cases hlt : a < b
    · obtain ⟨g, off, hA, hg, hcells⟩ := hs.get (by omega)
      obtain ⟨k0, k1, k2, k3, k4⟩ := (hcells ((a + b) / 2) (by omega)).stays hbr hg
      have hkk := hK ((a + b) / 2) (by omega)
      have hlo2 : ∀ t, t < (a + b) / 2 + 1 → (s.xs.getD ((a + b) / 2) E.zero).key < k → (s.xs.getD t E.zero).key < k := fun t ht hx => by
        by_cases htm : t = (a + b) / 2
        · rw [htm]; exact hx
        · have := hS t ((a + b) / 2) (by omega) (by omega)
          omega
      have hhi2 : ∀ t, (a + b) / 2 ≤ t → t < s.xs.length → k ≤ (s.xs.getD ((a + b) / 2) E.zero).key → k ≤ (s.xs.getD t E.zero).key := fun t ht htl hx => by
        by_cases htm : t = (a + b) / 2
        · rw [htm]; exact hx
        · have := hS ((a + b) / 2) t (by omega) (by omega)
          omega
      have Hlo2 := hid hlo2
      have Hhi2 := hid hhi2
      have Hlo := hid hlo
      have Hhi := hid hhi
      clear hlo2 hhi2 hlo hhi hcells hS hK
      generalize s.xs.getD ((a + b) / 2) E.zero = x at *
      obtain ⟨xk, xv, xa, xg, xt⟩ := x
      simp only at k0 k1 k2 k3 k4 hkk Hlo2 Hhi2
      rw [hA]
      clear hA
      obtain ⟨hk0, hk8⟩ := hk
      have hz0 := hbr.size
      go_wp2_with fail
      refine (place1_any xk xv xa xg xt k _ hkk ⟨hk0, hk8⟩).mono ?_; rintro e w1 ⟨rfl, hb1⟩; obtain ⟨hc1, hf1⟩ := bcell hb1; have hz1 := hb1.size; (try simp only [World.size_alloc] at hz1); (try simp only [World.size_setCell] at hz1)
      by_cases hx : xk - k < 0
      · go_wp2_with fail
        go_roundw
        case rel => exact ⟨(a + b) / 2 + 1, b, by omega, hbl, by go_num, rfl, fun t ht => Hlo2.out t ht (by omega), Hhi.out, by (repeat (first | with_reducible exact Below.refl _ _ | with_reducible assumption | (with_reducible refine Below.drew ?_) | (with_reducible refine Below.manyDrew ?_ _) | ((with_reducible refine Below.alloc ?_ ?_ _); rotate_left; (focus (first | omega | (dsimp only; omega) | (simp; done) | (simp; omega)))) | ((with_reducible refine Below.setCell ?_ ?_ _); rotate_left; (focus (first | omega | (dsimp only; omega) | (simp; done) | (simp; omega)))) | ((with_reducible refine Below.step ?_ (by assumption) ?_); rotate_left; (focus (first | omega | (dsimp only; omega) | (simp; done) | (simp; omega))))))⟩
        case measure => simp [intOf]; omega
      · go_wp2_with fail
        go_roundw
        case rel => exact ⟨a, (a + b) / 2, by omega, by omega, rfl, by go_num, Hlo.out, fun t ht htl => Hhi2.out t ht htl (by omega), by (repeat (first | with_reducible exact Below.refl _ _ | with_reducible assumption | (with_reducible refine Below.drew ?_) | (with_reducible refine Below.manyDrew ?_ _) | ((with_reducible refine Below.alloc ?_ ?_ _); rotate_left; (focus (first | omega | (dsimp only; omega) | (simp; done) | (simp; omega)))) | ((with_reducible refine Below.setCell ?_ ?_ _); rotate_left; (focus (first | omega | (dsimp only; omega) | (simp; done) | (simp; omega)))) | ((with_reducible refine Below.step ?_ (by assumption) ?_); rotate_left; (focus (first | omega | (dsimp only; omega) | (simp; done) | (simp; omega))))))⟩
        case measure => simp [intOf]; omega
    · obtain rfl : a = b := by omega
      have hp : plc k s.xs = a := plc_eq s.xs a hbl hlo (fun h => hhi a (Nat.le_refl _) h)
      have hz0 := hbr.size
      obtain ⟨r, hr⟩ : ∃ r, hasK k s.xs = r := ⟨_, rfl⟩
      have Hr0 := hid hr
      have Hp := hid hp
      by_cases hin : a < s.xs.length
      · rw [hasK, hp, decide_eq_true hin, Bool.true_and] at hr
        obtain ⟨g, off, hA, hg, hcells⟩ := hs.get (by omega)
        obtain ⟨k0, k1, k2, k3, k4⟩ := (hcells a (by omega)).stays hbr hg
        have hkk := hK a (by omega)
        have Hr := hid hr
        clear hcells hS hK hlo hhi hr hp
        generalize s.xs.getD a E.zero = x at *
        obtain ⟨xk, xv, xa, xg, xt⟩ := x
        simp only at k0 k1 k2 k3 k4 hkk Hr
        rw [hA]
        clear hA
        obtain ⟨hk0, hk8⟩ := hk
        go_wp2_with fail
        refine (place1_any xk xv xa xg xt k _ hkk ⟨hk0, hk8⟩).mono ?_; rintro e w1 ⟨rfl, hb1⟩; obtain ⟨hc1, hf1⟩ := bcell hb1; have hz1 := hb1.size; (try simp only [World.size_alloc] at hz1); (try simp only [World.size_setCell] at hz1)
        go_wp2_with fail
        refine bodyPost_ret (v := .tuple #[.int .i64 a, .bool r]) ?_ rfl ⟨by rw [Hp.out, Hr0.out], by (repeat (first | with_reducible exact Below.refl _ _ | with_reducible assumption | (with_reducible refine Below.drew ?_) | (with_reducible refine Below.manyDrew ?_ _) | ((with_reducible refine Below.alloc ?_ ?_ _); rotate_left; (focus (first | omega | (dsimp only; omega) | (simp; done) | (simp; omega)))) | ((with_reducible refine Below.setCell ?_ ?_ _); rotate_left; (focus (first | omega | (dsimp only; omega) | (simp; done) | (simp; omega)))) | ((with_reducible refine Below.step ?_ (by assumption) ?_); rotate_left; (focus (first | omega | (dsimp only; omega) | (simp; done) | (simp; omega))))))⟩
        rw [← Hr.out]
        have hq : (xk - k == 0) = decide (xk = k) := by
          rw [Bool.eq_iff_iff]
          simp
          omega
        simp [results, Tryz.results159, go_sem, hq]
      · rw [hasK, hp, decide_eq_false hin, Bool.false_and] at hr
        subst hr
        clear hS hK hlo hhi hp
        go_wp2_with fail
        refine bodyPost_ret (v := .tuple #[.int .i64 a, .bool false]) ?_ rfl ⟨by rw [Hp.out, Hr0.out], by (repeat (first | with_reducible exact Below.refl _ _ | with_reducible assumption | (with_reducible refine Below.drew ?_) | (with_reducible refine Below.manyDrew ?_ _) | ((with_reducible refine Below.alloc ?_ ?_ _); rotate_left; (focus (first | omega | (dsimp only; omega) | (simp; done) | (simp; omega)))) | ((with_reducible refine Below.setCell ?_ ?_ _); rotate_left; (focus (first | omega | (dsimp only; omega) | (simp; done) | (simp; omega)))) | ((with_reducible refine Below.step ?_ (by assumption) ?_); rotate_left; (focus (first | omega | (dsimp only; omega) | (simp; done) | (simp; omega))))))⟩
        simp [results, Tryz.results159, go_sem]

set_option maxHeartbeats 2000000 in
theorem place_any (k : Int) (s : SlV E) (w : World) (hs : EntriesAt w s) (hS : SortedK s.xs) (hK : KeysIn s.xs) (hk : 0 ≤ k ∧ k < 8) (hn : s.xs.length ≤ 8) :
    Calls Tryz.prog 137 #[.slice s.A s.xs.length s.c, .int .i64 k] w fun e w' => e = .returned (.tuple #[.int .i64 (plc k s.xs), .bool (hasK k s.xs)]) ∧ Below w.heap.size w w' := by
  go_enter Tryz.func137, Tryz.ntmps137
  go_wp2_with fail
  refine (bsf_any k s _ hs hS hK hk hn).mono ?_; rintro e w1 ⟨rfl, hb1⟩; obtain ⟨hc1, hf1⟩ := bcell hb1; have hz1 := hb1.size; (try simp only [World.size_alloc] at hz1); (try simp only [World.size_setCell] at hz1)
  go_wp2_with fail
  refine bodyPost_ret (v := .tuple #[.int .i64 (plc k s.xs), .bool (hasK k s.xs)]) ?_ rfl ⟨rfl, by (repeat (first | with_reducible exact Below.refl _ _ | with_reducible assumption | (with_reducible refine Below.drew ?_) | (with_reducible refine Below.manyDrew ?_ _) | ((with_reducible refine Below.alloc ?_ ?_ _); rotate_left; (focus (first | omega | (dsimp only; omega) | (simp; done) | (simp; omega)))) | ((with_reducible refine Below.setCell ?_ ?_ _); rotate_left; (focus (first | omega | (dsimp only; omega) | (simp; done) | (simp; omega)))) | ((with_reducible refine Below.step ?_ (by assumption) ?_); rotate_left; (focus (first | omega | (dsimp only; omega) | (simp; done) | (simp; omega))))))⟩
  simp [results, Tryz.results137, go_sem]
end Go.Proofs.YtemhdfodghfkfaaGreatDoor
namespace Go.Proofs.YtemhdfodghfkfaaGreatDoor
open Go.RowKit
open Go.ChangeShapes Go.WideShapes Go.ChangeAt

def lowB (p : Option Int) (k : Int) : Bool := match p with | some q => decide (k ≤ q) | none => false
def chkCs : Option Int → List E → Int
  | _, [] => 0
  | p, e :: r => if chk e = 0 then (if lowB p e.key = true then 3 else chkCs (some e.key) r) else chk e
def chkC (l : List E) : Int := if 8 < l.length then 4 else chkCs none l

theorem chk_key {e : E} (h : chk e = 0) : 0 ≤ e.key ∧ e.key < 8 := by
  unfold chk at h
  split at h
  · cases h
  · rename_i h1
    simp only [Bool.or_eq_true, not_or, Bool.not_eq_true, Bool.not_eq_false'] at h1
    exact keyB_true.1 h1.1.1.1
theorem chkCs_ok : ∀ (l : List E) (p : Option Int), chkCs p l = 0 → (∀ e ∈ l, chk e = 0) ∧ (∀ q, p = some q → ∀ e ∈ l, q < e.key) ∧ SortedK l
  | [], p, _ => ⟨by simp, by simp, fun a b _ h => by simp at h⟩
  | e :: r, p, h => by
    rw [chkCs] at h
    split at h
    · rename_i he
      split at h
      · cases h
      · rename_i hl
        obtain ⟨h1, h2, h3⟩ := chkCs_ok r _ h
        have hk := h2 _ rfl
        refine ⟨by simpa [he] using h1, fun q hq x hx => ?_, fun a b hab hb => ?_⟩
        · subst hq
          simp [lowB] at hl
          rcases List.mem_cons.1 hx with rfl | hx
          · exact hl
          · have := hk x hx; omega
        · match a, b, hab with
          | 0, b + 1, _ =>
            have hb' : b < r.length := by simpa using hb
            have : r.getD b E.zero ∈ r := by rw [List.getD, List.getElem?_eq_getElem hb', Option.getD_some]; exact List.getElem_mem hb'
            simpa using hk _ this
          | a + 1, b + 1, hab => simpa using h3 a b (by omega) (by simpa using hb)
    · rename_i he
      exact absurd h he
theorem getD_mem {l : List E} {a : Nat} (h : a < l.length) : l.getD a E.zero ∈ l := by
  rw [List.getD, List.getElem?_eq_getElem h, Option.getD_some]
  exact List.getElem_mem h
theorem chkC_ok {l : List E} (h : chkC l = 0) : l.length ≤ 8 ∧ (∀ e ∈ l, chk e = 0) ∧ SortedK l ∧ KeysIn l := by
  unfold chkC at h
  split at h
  · cases h
  · obtain ⟨h1, _, h3⟩ := chkCs_ok l none h
    exact ⟨by omega, h1, h3, fun a ha => chk_key (h1 _ (getD_mem ha))⟩

set_option maxHeartbeats 2000000 in
theorem ccheck_any (s : SlV E) (w : World) (hs : EntriesAt w s) :
    Calls Tryz.prog 174 #[.slice s.A s.xs.length s.c] w fun e w' => e = .returned (errV (chkC s.xs)) ∧ Below w.heap.size w w' := by
  have hlen := hs.len
  unfold maxLen at hlen
  by_cases h8 : 8 < s.xs.length
  · have h8' : (8 : Int) < (s.xs.length : Int) := by omega
    rw [chkC, if_pos h8]
    go_enter Tryz.func174, Tryz.ntmps174
    go_wp2_with fail
    go_ret
    exact ⟨rfl, by (repeat (first | with_reducible exact Below.refl _ _ | with_reducible assumption | (with_reducible refine Below.drew ?_) | (with_reducible refine Below.manyDrew ?_ _) | ((with_reducible refine Below.alloc ?_ ?_ _); rotate_left; (focus (first | omega | (dsimp only; omega) | (simp; done) | (simp; omega)))) | ((with_reducible refine Below.setCell ?_ ?_ _); rotate_left; (focus (first | omega | (dsimp only; omega) | (simp; done) | (simp; omega)))) | ((with_reducible refine Below.step ?_ (by assumption) ?_); rotate_left; (focus (first | omega | (dsimp only; omega) | (simp; done) | (simp; omega))))))⟩
  · have h8' : ¬ (8 : Int) < (s.xs.length : Int) := by omega
    generalize hr : chkC s.xs = r
    rw [chkC, if_neg h8] at hr
    have Hr := hid hr
    clear hr
    go_enter Tryz.func174, Tryz.ntmps174
    go_wp2_with fail
    go_loopw [12] (fun i wr => ∃ k : Nat, k ≤ s.xs.length ∧ i = .int .i64 k ∧ chkCs (if k = 0 then none else some (s.xs.getD (k - 1) E.zero).key) (s.xs.drop k) = r ∧ Below w.heap.size w wr) (fun i _ => s.xs.length - (intOf i).toNat)
    case atStart => exact ⟨0, Nat.zero_le _, rfl, Hr.out, Below.refl _ _⟩
    case round =>
      obtain ⟨k, hk, rfl, hkr, hbr⟩ := hrel
      have hz0 := hbr.size
      by_cases hlt : k < s.xs.length
      · obtain ⟨g, off, hA, hg, hcells⟩ := hs.get (by omega)
        obtain ⟨k0, k1, k2, k3, k4⟩ := (hcells k hlt).stays hbr hg
        have hd : s.xs.drop k = s.xs.getD k E.zero :: s.xs.drop (k + 1) := by
          rw [List.drop_eq_getElem_cons hlt, List.getD, List.getElem?_eq_getElem hlt, Option.getD_some]
        rw [hd, chkCs] at hkr
        have hm := hs.each _ (getD_mem hlt)
        rcases k with _ | j
        · rw [if_pos rfl] at hkr
          rw [Nat.zero_mul, Nat.add_zero] at k0 k1 k2 k3 k4
          rw [Nat.zero_add] at hd hkr
          obtain ⟨x, hx⟩ : ∃ x, s.xs.getD 0 E.zero = x := ⟨_, rfl⟩
          rw [hx] at hkr k0 k1 k2 k3 k4 hm
          have Hx := hid hx
          clear hx
          obtain ⟨xk, xv, xa, xg, xt⟩ := x
          simp only at k0 k1 k2 k3 k4
          have Hkr := hid hkr
          rw [hA]
          clear hA hkr hcells hd
          go_wp2_with fail
          refine (check_any xk xv xa xg xt _ hm.2.2.2).mono ?_; rintro e w1 ⟨rfl, hb1⟩; obtain ⟨hc1, hf1⟩ := bcell hb1; have hz1 := hb1.size; (try simp only [World.size_alloc] at hz1); (try simp only [World.size_setCell] at hz1)
          have hl1 : wr.heap.size < w1.heap.size := by omega
          by_cases hc : chk ⟨xk, xv, xa, xg, xt⟩ = 0
          · rw [hc, show errV 0 = .nilIface from rfl]
            have e0 : w1.cell? ⟨wr.heap.size, 0, none⟩ = some (.int .i64 xk) := by rw [hc1 _ _ (by simp)]; simp [go_sem]
            have Hkr2 := hid ((if_pos hc).symm.trans Hkr.out)
            clear Hkr
            go_wp2_with fail
            go_quiet (fail)
            go_wp2_with fail
            go_roundw
            case rel => exact ⟨1, by omega, by go_num, by show chkCs (some (s.xs.getD 0 E.zero).key) _ = _; rw [Hx.out]; exact Hkr2.out, by (repeat (first | with_reducible exact Below.refl _ _ | with_reducible assumption | (with_reducible refine Below.drew ?_) | (with_reducible refine Below.manyDrew ?_ _) | ((with_reducible refine Below.alloc ?_ ?_ _); rotate_left; (focus (first | omega | (dsimp only; omega) | (simp; done) | (simp; omega)))) | ((with_reducible refine Below.setCell ?_ ?_ _); rotate_left; (focus (first | omega | (dsimp only; omega) | (simp; done) | (simp; omega)))) | ((with_reducible refine Below.step ?_ (by assumption) ?_); rotate_left; (focus (first | omega | (dsimp only; omega) | (simp; done) | (simp; omega))))))⟩
            case measure => simp [intOf]; omega
          · have hcr : chk ⟨xk, xv, xa, xg, xt⟩ = r := by rw [← Hkr.out, if_neg hc]
            subst hcr
            clear Hkr
            rw [errV_ne hc]
            have Hc : Hid (chk ⟨xk, xv, xa, xg, xt⟩ ≠ 0) := hc
            clear hc
            go_wp2_with fail
            go_ret
            exact ⟨by rw [errV_ne Hc.out]; rfl, by (repeat (first | with_reducible exact Below.refl _ _ | with_reducible assumption | (with_reducible refine Below.drew ?_) | (with_reducible refine Below.manyDrew ?_ _) | ((with_reducible refine Below.alloc ?_ ?_ _); rotate_left; (focus (first | omega | (dsimp only; omega) | (simp; done) | (simp; omega)))) | ((with_reducible refine Below.setCell ?_ ?_ _); rotate_left; (focus (first | omega | (dsimp only; omega) | (simp; done) | (simp; omega)))) | ((with_reducible refine Below.step ?_ (by assumption) ?_); rotate_left; (focus (first | omega | (dsimp only; omega) | (simp; done) | (simp; omega))))))⟩
        · have hq := ((hcells j (by omega)).stays hbr hg).c0
          rw [if_neg (Nat.succ_ne_zero j), Nat.add_sub_cancel] at hkr
          generalize s.xs.getD j E.zero = y at *
          obtain ⟨x, hx⟩ : ∃ x, s.xs.getD (j + 1) E.zero = x := ⟨_, rfl⟩
          rw [hx] at hkr k0 k1 k2 k3 k4 hm
          have Hx := hid hx
          clear hx
          obtain ⟨xk, xv, xa, xg, xt⟩ := x
          simp only at k0 k1 k2 k3 k4
          have Hkr := hid hkr
          rw [hA]
          clear hA hkr hcells hd
          go_wp2_with fail
          refine (check_any xk xv xa xg xt _ hm.2.2.2).mono ?_; rintro e w1 ⟨rfl, hb1⟩; obtain ⟨hc1, hf1⟩ := bcell hb1; have hz1 := hb1.size; (try simp only [World.size_alloc] at hz1); (try simp only [World.size_setCell] at hz1)
          have hl1 : wr.heap.size < w1.heap.size := by omega
          by_cases hc : chk ⟨xk, xv, xa, xg, xt⟩ = 0
          · rw [hc, show errV 0 = .nilIface from rfl]
            have e0 : w1.cell? ⟨wr.heap.size, 0, none⟩ = some (.int .i64 xk) := by rw [hc1 _ _ (by simp)]; simp [go_sem]
            replace hq := (hb1.cell (p := ⟨g, _, none⟩) (by simp; omega)).trans ((((Below.refl wr.heap.size wr).alloc (Nat.le_refl _) _).cell (p := ⟨g, _, none⟩) (by dsimp only; omega)).trans hq)
            have Hkr2 := hid ((if_pos hc).symm.trans Hkr.out)
            clear Hkr
            by_cases hle : xk ≤ y.key
            · have hr3 : (3 : Int) = r := by rw [← Hkr2.out, lowB]; simp [hle]
              subst hr3
              clear Hkr2
              go_wp2_with fail
              go_quiet (fail)
              go_wp2_with fail
              go_ret
              exact ⟨rfl, by (repeat (first | with_reducible exact Below.refl _ _ | with_reducible assumption | (with_reducible refine Below.drew ?_) | (with_reducible refine Below.manyDrew ?_ _) | ((with_reducible refine Below.alloc ?_ ?_ _); rotate_left; (focus (first | omega | (dsimp only; omega) | (simp; done) | (simp; omega)))) | ((with_reducible refine Below.setCell ?_ ?_ _); rotate_left; (focus (first | omega | (dsimp only; omega) | (simp; done) | (simp; omega)))) | ((with_reducible refine Below.step ?_ (by assumption) ?_); rotate_left; (focus (first | omega | (dsimp only; omega) | (simp; done) | (simp; omega))))))⟩
            · have Hkr3 := hid ((if_neg (show ¬ lowB (some y.key) xk = true by simp [lowB]; omega)).symm.trans Hkr2.out)
              clear Hkr2
              go_wp2_with fail
              go_quiet (fail)
              go_wp2_with fail
              go_roundw
              case rel => exact ⟨j + 1 + 1, by omega, by go_num, by show chkCs (some (s.xs.getD (j + 1) E.zero).key) _ = _; rw [Hx.out]; exact Hkr3.out, by (repeat (first | with_reducible exact Below.refl _ _ | with_reducible assumption | (with_reducible refine Below.drew ?_) | (with_reducible refine Below.manyDrew ?_ _) | ((with_reducible refine Below.alloc ?_ ?_ _); rotate_left; (focus (first | omega | (dsimp only; omega) | (simp; done) | (simp; omega)))) | ((with_reducible refine Below.setCell ?_ ?_ _); rotate_left; (focus (first | omega | (dsimp only; omega) | (simp; done) | (simp; omega)))) | ((with_reducible refine Below.step ?_ (by assumption) ?_); rotate_left; (focus (first | omega | (dsimp only; omega) | (simp; done) | (simp; omega))))))⟩
              case measure => simp [intOf]; omega
          · have hcr : chk ⟨xk, xv, xa, xg, xt⟩ = r := by rw [← Hkr.out, if_neg hc]
            subst hcr
            clear Hkr
            rw [errV_ne hc]
            have Hc : Hid (chk ⟨xk, xv, xa, xg, xt⟩ ≠ 0) := hc
            clear hc
            go_wp2_with fail
            go_ret
            exact ⟨by rw [errV_ne Hc.out]; rfl, by (repeat (first | with_reducible exact Below.refl _ _ | with_reducible assumption | (with_reducible refine Below.drew ?_) | (with_reducible refine Below.manyDrew ?_ _) | ((with_reducible refine Below.alloc ?_ ?_ _); rotate_left; (focus (first | omega | (dsimp only; omega) | (simp; done) | (simp; omega)))) | ((with_reducible refine Below.setCell ?_ ?_ _); rotate_left; (focus (first | omega | (dsimp only; omega) | (simp; done) | (simp; omega)))) | ((with_reducible refine Below.step ?_ (by assumption) ?_); rotate_left; (focus (first | omega | (dsimp only; omega) | (simp; done) | (simp; omega))))))⟩
      · obtain rfl : k = s.xs.length := by omega
        have hr0 : (0 : Int) = r := by
          rw [List.drop_length] at hkr
          exact hkr
        subst hr0
        clear hkr
        go_wp2_with fail
        go_ret
        exact ⟨rfl, by (repeat (first | with_reducible exact Below.refl _ _ | with_reducible assumption | (with_reducible refine Below.drew ?_) | (with_reducible refine Below.manyDrew ?_ _) | ((with_reducible refine Below.alloc ?_ ?_ _); rotate_left; (focus (first | omega | (dsimp only; omega) | (simp; done) | (simp; omega)))) | ((with_reducible refine Below.setCell ?_ ?_ _); rotate_left; (focus (first | omega | (dsimp only; omega) | (simp; done) | (simp; omega)))) | ((with_reducible refine Below.step ?_ (by assumption) ?_); rotate_left; (focus (first | omega | (dsimp only; omega) | (simp; done) | (simp; omega))))))⟩
end Go.Proofs.YtemhdfodghfkfaaGreatDoor
namespace Go.Proofs.YtemhdfodghfkfaaGreatDoor
open Go.RowKit
open Go.ChangeShapes Go.WideShapes Go.ChangeAt

/-- an entry added to a cache: what is there, and the fault -/
def addC (l : List E) (e : E) : List E × Int :=
  if hasK e.key l = true then (if (joined (l.getD (plc e.key l) E.zero) e).2 = 0 then (l.set (plc e.key l) (joined (l.getD (plc e.key l) E.zero) e).1, 0) else ([], (joined (l.getD (plc e.key l) E.zero) e).2))
  else (l.take (plc e.key l) ++ e :: l.drop (plc e.key l), 0)
theorem plc_le (k : Int) : ∀ l : List E, plc k l ≤ l.length
  | [] => Nat.le_refl _
  | e :: r => by
    have := plc_le k r
    rw [plc]
    split <;> simp <;> omega
end Go.Proofs.YtemhdfodghfkfaaGreatDoor
namespace Go.Proofs.YtemhdfodghfkfaaGreatDoor
open Go.RowKit
open Go.ChangeShapes Go.WideShapes Go.ChangeAt

def getR (l : List E) (k : Int) : E × Int :=
  if chkC l = 0 then (if keyB k = true then (if hasK k l = true then (l.getD (plc k l) E.zero, 0) else (E.zero, 5)) else (E.zero, 1)) else (E.zero, chkC l)

end Go.Proofs.YtemhdfodghfkfaaGreatDoor
namespace Go.Proofs.YtemhdfodghfkfaaGreatDoor
open Go.RowKit
open Go.ChangeShapes Go.WideShapes Go.ChangeAt

theorem E.cells_length (e : E) : e.cells.length = 5 := rfl
theorem E.one (e : E) : ∀ u ∈ e.cells, u.oneCell' = true := by intro u hu; simp [E.cells] at hu; rcases hu with rfl | rfl | rfl | rfl | rfl <;> rfl
theorem EAt.fr {S : Nat → Prop} {w w' : World} {b o : Nat} {e : E} (h : EAt w b o e) (hb : Fr S w w') (hl : b < w.heap.size) (hn : ¬ S b) : EAt w' b o e :=
  ⟨(hb.cell (p := ⟨b, _, none⟩) hl hn).trans h.c0, (hb.cell (p := ⟨b, _, none⟩) hl hn).trans h.c1, (hb.cell (p := ⟨b, _, none⟩) hl hn).trans h.c2, (hb.cell (p := ⟨b, _, none⟩) hl hn).trans h.c3, (hb.cell (p := ⟨b, _, none⟩) hl hn).trans h.c4⟩
theorem EAt.of_blk {w : World} {g : Nat} {t : TypeId} {e : E} (h : Blk w g t #[.int .i64 e.key, .int .i64 e.ver, .int .i64 e.asof, .bool e.gone, .string e.text]) : EAt w g 0 e :=
  ⟨h.cell 0, h.cell 1, h.cell 2, h.cell 3, h.cell 4⟩
/-- a row of them, as it came in or as a call handed it back -/
structure EsAt (w : World) (s : SlV E) : Prop where
  row : 0 < s.xs.length → ∃ b off, s.A = some ⟨b, off, none⟩ ∧ b < w.heap.size ∧ ∀ i, i < s.xs.length → EAt w b (off + i * 5) (s.xs.getD i E.zero)
  each : ∀ x ∈ s.xs, x.good
  len : s.xs.length ≤ maxLen
theorem EsAt.stays {w w' : World} {s : SlV E} (h : EsAt w s) (hb : Below w.heap.size w w') : EsAt w' s := ⟨fun h0 => by
    obtain ⟨b, off, h1, h2, h3⟩ := h.row h0
    exact ⟨b, off, h1, Nat.lt_of_lt_of_le h2 hb.size, fun i hi => (h3 i hi).stays hb h2⟩, h.each, h.len⟩
theorem EsAt.fr {S : Nat → Prop} {w w' : World} {s : SlV E} (h : EsAt w s) (hb : Fr S w w') (hn : 0 < s.xs.length → ∀ b off, s.A = some ⟨b, off, none⟩ → ¬ S b) : EsAt w' s := ⟨fun h0 => by
    obtain ⟨b, off, h1, h2, h3⟩ := h.row h0
    exact ⟨b, off, h1, Nat.lt_of_lt_of_le h2 hb.size, fun i hi => (h3 i hi).fr hb h2 (hn h0 _ _ h1)⟩, h.each, h.len⟩
theorem EAt.drewN {w : World} {b o : Nat} {e : E} (h : EAt w b o e) (n : Nat) : EAt (w.drewN n) b o e := ⟨h.c0, h.c1, h.c2, h.c3, h.c4⟩
theorem EsAt.drewN {w : World} {s : SlV E} (h : EsAt w s) (n : Nat) : EsAt (w.drewN n) s := ⟨fun h0 => by
    obtain ⟨b, off, h1, h2, h3⟩ := h.row h0
    exact ⟨b, off, h1, h2, fun i hi => (h3 i hi).drewN n⟩, h.each, h.len⟩
theorem EsAt.empty (w : World) (A : Option Addr) (c : Nat) : EsAt w ⟨A, c, []⟩ := ⟨(fun h => by cases h), (fun x hx => by cases hx), Nat.zero_le _⟩
/-- a slice of the call's own, as a caller reads it -/
theorem EsAt.of_ow {w : World} {base : Nat} {T : TypeId} {v : Value} {l : List E} (h : Ow E.cells 5 base T w v l) (hg : ∀ x ∈ l, x.good) :
    ∃ r : SlV E, v = .slice r.A r.xs.length r.c ∧ r.xs = l ∧ EsAt w r ∧ r.ok ∧ (0 < r.xs.length → ∀ b off, r.A = some ⟨b, off, none⟩ → foot v = some b ∧ base ≤ b) := by
  by_cases h0 : 0 < l.length
  · obtain ⟨g, off, cap, rfl, h1, h2, hb, hlt, hfo, hc, _⟩ := h.get h0
    refine ⟨⟨some ⟨g, off, none⟩, cap, l⟩, rfl, rfl, ⟨fun _ => ⟨g, off, rfl, hlt, fun i hi => ?_⟩, hg, by show l.length ≤ maxLen; omega⟩, ⟨h1, h2⟩, fun _ b off hA => by cases hA; exact ⟨hfo, hb⟩⟩
    have hi' : i < l.length := hi
    have hx : l.getD i E.zero = l[i] := getD_get _ hi'
    simp only []
    rw [hx]
    exact ⟨hc i hi' 0 (by decide), hc i hi' 1 (by decide), hc i hi' 2 (by decide), hc i hi' 3 (by decide), hc i hi' 4 (by decide)⟩
  · have hl0 : l = [] := by cases l with | nil => rfl | cons a r => simp at h0
    subst hl0
    obtain ⟨A, cap, rfl, h1, h2, _⟩ := h
    exact ⟨⟨A, cap, []⟩, rfl, rfl, EsAt.empty _ _ _, ⟨h1, h2⟩, fun h => by simp at h⟩
theorem EsAt.src {P : Program} {TS T : TypeId} (hk : P.underlying TS = some (.slice T)) {w : World} {s : SlV E} (h : EsAt w s) : Src P 5 TS (.slice s.A s.xs.length s.c) s.xs.length (s.xs.flatMap E.cells) w := by
  obtain ⟨A, c, xs⟩ := s
  by_cases h0 : 0 < xs.length
  · obtain ⟨b, off, hA, hlt, hc⟩ := h.row h0
    simp only at hA hc ⊢
    subst hA
    refine Src.ofSlice w hk ⟨b, off, none⟩ xs.length c _ (flat_length _ _ E.cells_length _) (fun j u hj => ?_) (fun u hu => ?_)
    · have hjl : j < xs.length * 5 := by rw [← flat_length _ _ E.cells_length xs]; exact (List.getElem?_eq_some_iff.1 hj).1
      have hq : j / 5 < xs.length := by omega
      have hm : j % 5 < 5 := Nat.mod_lt _ (by decide)
      have hg := flat_get _ _ E.cells_length xs _ _ hq hm
      rw [show j / 5 * 5 + j % 5 = j by omega, hj, ← getD_get E.zero hq] at hg
      have hx := hc _ hq
      rw [Addr_add, show off + j = off + j / 5 * 5 + j % 5 by omega]
      generalize xs.getD (j / 5) E.zero = y at hg hx
      generalize j % 5 = f at hg hm ⊢
      rw [hg]
      match f, hm with
      | 0, _ => exact hx.c0
      | 1, _ => exact hx.c1
      | 2, _ => exact hx.c2
      | 3, _ => exact hx.c3
      | 4, _ => exact hx.c4
    · obtain ⟨x, _, hx⟩ := List.mem_flatMap.1 hu
      exact x.one u hx
  · have hl0 : xs = [] := by cases xs with | nil => rfl | cons a r => simp at h0
    subst hl0
    cases A with
    | none => exact Src.ofNil w hk c
    | some a => exact Src.ofSlice w hk a 0 c [] rfl (fun j u hj => by simp at hj) (fun u hu => by simp at hu)
theorem infoE : (Tryz.prog.info? 59).map (fun i => (i.zero, i.size, i.bytes)) = some (some E.zero.val, 5, 48) := by kernel_rfl
theorem appE {ops : Array Oper} {rest : List Oper} {o : Oper} {a : Act} {Q : Exit → Act → World → Prop} (X : World) (base : Nat) (v : Value) (l : List E) (x0 : Int) (x1 : Int) (x2 : Int) (x3 : Bool) (x4 : ByteArray) (hown : Ow E.cells 5 base 59 X v l)
    (hgd : o.guard = none) (p q : Operand) (ho : o.op = .call { callee := .builtin .append, args := #[p, q], argTypes := #[27, 27] }) (hp : a.eval p = v) {N : Nat} (hq : a.eval q = .slice (some ⟨N, 0, none⟩) 1 1) (hN : X.heap.size = N) (hl : l.length ≤ 100000000) (hb : base ≤ X.heap.size)
    (h : ∀ v' w', Ow E.cells 5 base 59 w' v' (l ++ [⟨x0, x1, x2, x3, x4⟩]) → Fr (fun k => some k = foot v) X w' → (foot v' = foot v ∨ foot v' = some (X.heap.size + 1)) → wpList Tryz.prog ops Q rest (a.put o.dst v') w') :
    wpList Tryz.prog ops Q (o :: rest) a (X.alloc (.cells #[.int .i64 x0, .int .i64 x1, .int .i64 x2, .bool x3, .string x4] 59)) := by
  subst hN
  exact app_src E.cells 5 48 E.cells_length (by decide) (by decide) _ _ 27 E.zero.val rfl Tryz.underlying27 infoE hgd p q ho _ base v _ l [⟨x0, x1, x2, x3, x4⟩] hp hq
    (Src.ofSlice _ Tryz.underlying27 ⟨X.heap.size, 0, none⟩ 1 1 _ rfl (fun j u hj => by rw [Addr_add, Nat.zero_add, (Blk.new X 59 _).cell j]; simpa [E.cells] using hj) (fun u hu => by simp at hu; exact E.one _ u hu)) (hown.alloc _) (by simp; omega) (by simp; omega) (fun v' w' h1 h2 h3 => h v' w' h1 (((Fr.refl _ _).alloc _).step h2) (by simpa using h3))
theorem appEat {ops : Array Oper} {o : Oper} {a : Act} {K : Act → World → Prop} {Q : Exit → Act → World → Prop} {EE : Prop} (X : World) (base : Nat) (v : Value) (l : List E) (x0 : Int) (x1 : Int) (x2 : Int) (x3 : Bool) (x4 : ByteArray) (g' : Nat) (hbox : EAt X g' 0 ⟨x0, x1, x2, x3, x4⟩) (hown : Ow E.cells 5 base 59 X v l)
    (hgd : o.guard = none) (p q : Operand) (ho : o.op = .call { callee := .builtin .append, args := #[p, q], argTypes := #[27, 27] }) (hp : a.eval p = v) (hq : a.eval q = .slice (some ⟨g', 0, none⟩) 1 1) (hl : l.length ≤ 100000000) (hb : base ≤ X.heap.size)
    (h : ∀ v' w', Ow E.cells 5 base 59 w' v' (l ++ [⟨x0, x1, x2, x3, x4⟩]) → Fr (fun k => some k = foot v) X w' → (foot v' = foot v ∨ foot v' = some X.heap.size) → K (a.put o.dst v') w') :
    if Region.wanted o (yielded ops a.tmps) = true then Oper.wp Tryz.prog o a X K Q else EE :=
  app_step E.cells 5 48 E.cells_length (by decide) (by decide) _ _ 27 E.zero.val rfl Tryz.underlying27 infoE hgd p q ho _ base v _ l [⟨x0, x1, x2, x3, x4⟩] hp hq
    (Src.ofSlice _ Tryz.underlying27 ⟨g', 0, none⟩ 1 1 _ rfl (fun j u hj => by
      rw [Addr_add]
      have hj' : (([⟨x0, x1, x2, x3, x4⟩] : List E).flatMap E.cells)[j]? = some u := hj
      match j, hj' with
      | 0, hj' => simp [E.cells] at hj'; subst hj'; first | exact hbox.c0 | (rw [Nat.zero_add]; exact hbox.c0)
      | 1, hj' => simp [E.cells] at hj'; subst hj'; first | exact hbox.c1 | (rw [Nat.zero_add]; exact hbox.c1)
      | 2, hj' => simp [E.cells] at hj'; subst hj'; first | exact hbox.c2 | (rw [Nat.zero_add]; exact hbox.c2)
      | 3, hj' => simp [E.cells] at hj'; subst hj'; first | exact hbox.c3 | (rw [Nat.zero_add]; exact hbox.c3)
      | 4, hj' => simp [E.cells] at hj'; subst hj'; first | exact hbox.c4 | (rw [Nat.zero_add]; exact hbox.c4)
      | j + 5, hj' => simp [E.cells] at hj') (fun u hu => by simp at hu; exact E.one _ u hu)) hown (by simp; omega) hb h
theorem appEs {ops : Array Oper} {rest : List Oper} {o : Oper} {a : Act} {Q : Exit → Act → World → Prop} (X : World) (base : Nat) (v : Value) (l : List E) (r : SlV E) (hr : EsAt X r) (hown : Ow E.cells 5 base 59 X v l)
    (hgd : o.guard = none) (p q : Operand) (ho : o.op = .call { callee := .builtin .append, args := #[p, q], argTypes := #[27, 27] }) (hp : a.eval p = v) (hq : a.eval q = .slice r.A r.xs.length r.c) (hl : l.length + r.xs.length ≤ 1000000000) (hb : base ≤ X.heap.size)
    (h : ∀ v' w', Ow E.cells 5 base 59 w' v' (l ++ r.xs) → Fr (fun k => some k = foot v) X w' → (foot v' = foot v ∨ foot v' = some X.heap.size) → wpList Tryz.prog ops Q rest (a.put o.dst v') w') :
    wpList Tryz.prog ops Q (o :: rest) a X :=
  app_src E.cells 5 48 E.cells_length (by decide) (by decide) _ _ 27 E.zero.val rfl Tryz.underlying27 infoE hgd p q ho _ base v _ l r.xs hp hq (hr.src Tryz.underlying27) hown hl hb h
theorem appEss {ops : Array Oper} {o : Oper} {a : Act} {K : Act → World → Prop} {Q : Exit → Act → World → Prop} {EE : Prop} (X : World) (base : Nat) (v : Value) (l : List E) (r : SlV E) (hr : EsAt X r) (hown : Ow E.cells 5 base 59 X v l)
    (hgd : o.guard = none) (p q : Operand) (ho : o.op = .call { callee := .builtin .append, args := #[p, q], argTypes := #[27, 27] }) (hp : a.eval p = v) (hq : a.eval q = .slice r.A r.xs.length r.c) (hl : l.length + r.xs.length ≤ 1000000000) (hb : base ≤ X.heap.size)
    (h : ∀ v' w', Ow E.cells 5 base 59 w' v' (l ++ r.xs) → Fr (fun k => some k = foot v) X w' → (foot v' = foot v ∨ foot v' = some X.heap.size) → K (a.put o.dst v') w') :
    if Region.wanted o (yielded ops a.tmps) = true then Oper.wp Tryz.prog o a X K Q else EE :=
  app_step E.cells 5 48 E.cells_length (by decide) (by decide) _ _ 27 E.zero.val rfl Tryz.underlying27 infoE hgd p q ho _ base v _ l r.xs hp hq (hr.src Tryz.underlying27) hown hl hb h
/-- the two readings of a row of entries -/
theorem EsAt.entries {w : World} {s : SlV E} (h : EsAt w s) : EntriesAt w s := ⟨fun h0 => by
    obtain ⟨b, off, h1, h2, h3⟩ := h.row h0
    refine ⟨b, off, h1, h2, fun i hi f hf => ?_⟩
    have hx := h3 i hi
    rw [getD_get _ hi] at hx
    match f, hf with
    | 0, _ => exact hx.c0
    | 1, _ => exact hx.c1
    | 2, _ => exact hx.c2
    | 3, _ => exact hx.c3
    | 4, _ => exact hx.c4, h.each, h.len⟩
theorem EntriesAt.es {w : World} {s : SlV E} (h : EntriesAt w s) : EsAt w s := ⟨fun h0 => h.get h0, h.each, h.len⟩
end Go.Proofs.YtemhdfodghfkfaaGreatDoor
namespace Go.Proofs.YtemhdfodghfkfaaGreatDoor
open Go.RowKit
open Go.ChangeShapes Go.WideShapes Go.ChangeAt

def eqbE (y x : E) : Bool := decide (y.key = x.key ∧ y.ver = x.ver ∧ y.asof = x.asof ∧ y.gone = x.gone ∧ y.text.toList = x.text.toList)
theorem eqbE_refl (x : E) : eqbE x x = true := by simp [eqbE]
set_option maxHeartbeats 2000000 in
theorem eqRunE (y0 : Int) (y1 : Int) (y2 : Int) (y3 : Bool) (y4 : ByteArray) (x0 : Int) (x1 : Int) (x2 : Int) (x3 : Bool) (x4 : ByteArray) (w : World) : (Op.equalIn 10000 59 (.agg #[.int .i64 y0, .int .i64 y1, .int .i64 y2, .bool y3, .string y4]) (.agg #[.int .i64 x0, .int .i64 x1, .int .i64 x2, .bool x3, .string x4])).run Tryz.prog w = .ok (eqbE ⟨y0, y1, y2, y3, y4⟩ ⟨x0, x1, x2, x3, x4⟩) w := by
  have hS : Tryz.prog.underlying 59 = some (.struct (Tryz.prog.fieldsOf 59)) := by kernel_rfl
  have hp : Tryz.prog.stoodInHeld 59 = false := by kernel_rfl
  rw [show (10000 : Nat) = 9999 + 1 from rfl, run_equalIn_agg w 9999 59 _ _ hS hp]
  simp only [Program.fieldsOf, Tryz.underlying59]
  go_simp
  unfold eqbE
  simp only []
  repeat' split
  all_goals simp_all
def eqsE (l m : List E) : Bool := decide (l.length = m.length) && (List.range l.length).all fun i => eqbE (l.getD i E.zero) (m.getD i E.zero)
theorem eqsE_len {l m : List E} (h : l.length ≠ m.length) : eqsE l m = false := by simp [eqsE, h]
theorem eqsE_at {l m : List E} {i : Nat} (hi : i < l.length) (h : eqbE (l.getD i E.zero) (m.getD i E.zero) = false) : eqsE l m = false := by
  rw [← Bool.not_eq_true]
  intro ha
  unfold eqsE at ha
  rw [Bool.and_eq_true, List.all_eq_true] at ha
  have := ha.2 i (List.mem_range.2 hi)
  simp only [h] at this
  cases this
theorem eqsE_all {l m : List E} (hl : l.length = m.length) (h : ∀ i, i < l.length → eqbE (l.getD i E.zero) (m.getD i E.zero) = true) : eqsE l m = true := by
  unfold eqsE
  rw [Bool.and_eq_true, List.all_eq_true]
  exact ⟨by simp [hl], fun i hi => h i (List.mem_range.1 hi)⟩
theorem eqsE_refl (l : List E) : eqsE l l = true := eqsE_all rfl (fun _ _ => eqbE_refl _)
end Go.Proofs.YtemhdfodghfkfaaGreatDoor
namespace Go.Proofs.YtemhdfodghfkfaaGreatDoor
open Go.RowKit
open Go.ChangeShapes Go.WideShapes Go.ChangeAt

theorem range5 {w : World} {b o : Nat} {c0 c1 c2 c3 c4 : Value} (h0 : w.cell? ⟨b, o, none⟩ = some c0) (h1 : w.cell? ⟨b, o + 1, none⟩ = some c1) (h2 : w.cell? ⟨b, o + 2, none⟩ = some c2) (h3 : w.cell? ⟨b, o + 3, none⟩ = some c3) (h4 : w.cell? ⟨b, o + 4, none⟩ = some c4) : w.rangeAt b o [c0, c1, c2, c3, c4] := by
  intro j v hj
  match j, hj with
  | 0, hj => cases hj; exact h0
  | 1, hj => cases hj; exact h1
  | 2, hj => cases hj; exact h2
  | 3, hj => cases hj; exact h3
  | 4, hj => cases hj; exact h4
  | n + 5, hj => simp at hj
theorem Blk.range5 {w : World} {g : Nat} {t : TypeId} {c0 c1 c2 c3 c4 : Value} (h : Blk w g t #[c0, c1, c2, c3, c4]) : w.rangeAt g 0 [c0, c1, c2, c3, c4] :=
  Go.Proofs.YtemhdfodghfkfaaGreatDoor.range5 (h.cell 0) (h.cell 1) (h.cell 2) (h.cell 3) (h.cell 4)
section
variable {ops : Array Oper} {rest : List Oper} {o : Oper} {a : Act} {w : World} {Q : Exit → Act → World → Prop}
/-- guards: the law behind is tried at such an operation alone -/
theorem at_loadE {x : Operand} (_ho : o.op = .load 59 x) (h : wpList Tryz.prog ops Q (o :: rest) a w) : wpList Tryz.prog ops Q (o :: rest) a w := h
theorem at_buildE {n : Nat} {ps : Array (Nat × Operand)} (_ho : o.op = .buildSlice 27 n ps) (h : wpList Tryz.prog ops Q (o :: rest) a w) : wpList Tryz.prog ops Q (o :: rest) a w := h
theorem ldE (hgd : o.guard = none) (x : Operand) (ho : o.op = .load 59 x) (b f : Nat) (hx : a.eval x = .pointer (some ⟨b, f, none⟩)) (c0 c1 c2 c3 c4 : Value) (hc : w.rangeAt b f [c0, c1, c2, c3, c4])
    (h : wpList Tryz.prog ops Q rest (a.put o.dst (.agg #[c0, c1, c2, c3, c4])) w) : wpList Tryz.prog ops Q (o :: rest) a w :=
  wpList_load_mid hgd 59 x ho b f hx [c0, c1, c2, c3, c4] _ hc Tryz.underlying59 rfl (by kernel_rfl) h
theorem fillE (x0 x1 x2 x3 x4 : Value) : Instr.fill (fun i => some (i * 5, 5)) ((Array.range (1 * 5)).map (E.zero.val.cells[· % E.zero.val.cells.size]!)) [(0, .agg #[x0, x1, x2, x3, x4])] = some #[x0, x1, x2, x3, x4] := by kernel_rfl
theorem bdE (hgd : o.guard = none) (x : Operand) (ho : o.op = .buildSlice 27 1 #[(0, x)]) (c0 c1 c2 c3 c4 : Value) (hx : a.eval x = .agg #[c0, c1, c2, c3, c4])
    (h : wpList Tryz.prog ops Q rest (a.put o.dst (.slice (some ⟨w.heap.size, 0, none⟩) 1 1)) (w.alloc (.cells #[c0, c1, c2, c3, c4] 59))) : wpList Tryz.prog ops Q (o :: rest) a w := by
  have hi := infoE
  cases hq : Tryz.prog.info? 59 with
  | none => rw [hq] at hi; cases hi
  | some ie =>
    rw [hq] at hi
    injection hi with hi
    injection hi with hz hi
    injection hi with hs _
    refine wpList_buildSlice hgd 27 59 1 #[(0, x)] ho #[c0, c1, c2, c3, c4] ie E.zero.val Tryz.underlying27 hq hz (by rw [hs]; decide) (by rw [hs]; decide) ?_ h
    rw [hs, Array.toList_map]
    show Instr.fill _ _ [(0, a.eval x)] = _
    rw [hx]
    exact fillE _ _ _ _ _
end
end Go.Proofs.YtemhdfodghfkfaaGreatDoor
namespace Go.Proofs.YtemhdfodghfkfaaGreatDoor
open Go.RowKit
open Go.ChangeShapes Go.WideShapes Go.ChangeAt

/-- a row of entries that stands in a slot -/
def RowV (w : World) (v : Value) (l : List E) : Prop := ∃ r : SlV E, v = .slice r.A r.xs.length r.c ∧ r.xs = l ∧ EsAt w r
theorem RowV.nil (w : World) : RowV w (.slice none 0 0) [] := ⟨⟨none, 0, []⟩, rfl, rfl, EsAt.empty _ _ _⟩
theorem RowV.of_ow {w : World} {base : Nat} {T : TypeId} {v : Value} {l : List E} (h : Ow E.cells 5 base T w v l) (hg : ∀ x ∈ l, x.good) : RowV w v l := by
  obtain ⟨r, h1, h2, h3, _, _⟩ := EsAt.of_ow h hg
  exact ⟨r, h1, h2, h3⟩
theorem RowV.stays {w w' : World} {v : Value} {l : List E} (h : RowV w v l) (hb : Below w.heap.size w w') : RowV w' v l := by
  obtain ⟨r, h1, h2, h3⟩ := h
  exact ⟨r, h1, h2, h3.stays hb⟩

end Go.Proofs.YtemhdfodghfkfaaGreatDoor
