/-
  CONTRACTS of package hint: New, Lost, All and the closures of Add; slices.IndexFunc, ContainsFunc at them. CONDITIONS: none.
-/
import Derived.Test.YtjhphagcmiggdaaHintTy
namespace Go.Proofs.Ytjhphagcmiggdaa
open Go.RowKit
open Go.ChangeShapes Go.WideShapes Go.ChangeAt

def nodeB (k : Int) : Bool := decide (0 ≤ k) && decide (k < 6)
theorem nodeB_true {k : Int} : nodeB k = true ↔ 0 ≤ k ∧ k < 6 := by simp [nodeB]
theorem nodeB_false {k : Int} : nodeB k = false ↔ k < 0 ∨ 6 ≤ k := by
  rw [← Bool.not_eq_true, nodeB_true]; omega
theorem node_any (k : Int) (w : World) : Calls Try.prog 9 #[.int .i64 k] w fun e w' => e = .returned (.bool (nodeB k)) ∧ w = w' := by
  go_enter Try.func9, Try.ntmps9
  go_wp2
  all_goals
    go_ret
    refine ⟨ret_b ?_, rfl⟩
    first | (simp [nodeB, *]; done) | (simp [nodeB]; omega)

/-- the hints at h: what they are, how many were lost -/
def HintsO (base : Nat) (w : World) (h : Nat) (v : Value) (l : List H) (lost : Int) : Prop :=
  Blk w h 38 #[v, .int .i64 lost] ∧ Ow H.cells 3 base 29 w v l ∧ foot v ≠ some h ∧ base ≤ h
theorem HintsO.fr {S : Nat → Prop} {base : Nat} {w w' : World} {h : Nat} {v : Value} {l : List H} {lost : Int} (ho : HintsO base w h v l lost) (hf : Fr S w w') (h1 : ¬ S h) (h2 : ∀ g, foot v = some g → ¬ S g) : HintsO base w' h v l lost :=
  ⟨ho.1.fr hf h1, ho.2.1.fr hf h2, ho.2.2⟩
theorem HintsO.belowS {base : Nat} {w w' : World} {h : Nat} {v : Value} {l : List H} {lost : Int} (ho : HintsO base w h v l lost) (hb : Below w.heap.size w w') : HintsO base w' h v l lost :=
  ho.fr (S := fun _ => False) (Fr.ofB hb) (fun h => h) (fun _ _ h => h)

theorem hnew_any (w : World) : Calls Try.prog 4 #[] w fun e w' => e = .returned (.pointer (some ⟨w.heap.size, 0, none⟩)) ∧ HintsO w.heap.size w' w.heap.size (.slice none 0 0) [] 0 ∧ Below w.heap.size w w' := by
  go_enter Try.func4, Try.ntmps4
  go_wp2
  go_ret
  exact ⟨rfl, ⟨Blk.new _ _ _, Ow.nil _ _ _ _ _, (fun h => by cases h), Nat.le_refl _⟩, by (repeat (first | with_reducible exact Below.refl _ _ | with_reducible assumption | (with_reducible refine Below.drew ?_) | (with_reducible refine Below.manyDrew ?_ _) | ((with_reducible refine Below.alloc ?_ ?_ _); rotate_left; (focus (first | omega | (dsimp only; omega) | (simp; done) | (simp; omega)))) | ((with_reducible refine Below.setCell ?_ ?_ _); rotate_left; (focus (first | omega | (dsimp only; omega) | (simp; done) | (simp; omega)))) | ((with_reducible refine Below.step ?_ (by assumption) ?_); rotate_left; (focus (first | omega | (dsimp only; omega) | (simp; done) | (simp; omega))))))⟩
theorem hlost_any (base : Nat) (h : Nat) (v : Value) (l : List H) (lost : Int) (w : World) (ho : HintsO base w h v l lost) : Calls Try.prog 7 #[.pointer (some ⟨h, 0, none⟩)] w fun e w' => e = .returned (.int .i64 lost) ∧ w = w' := by
  obtain ⟨hB, _⟩ := ho
  have hc : w.cell? ⟨h, 1, none⟩ = some (.int .i64 lost) := hB.cell 1
  clear hB
  go_enter Try.func7, Try.ntmps7
  go_wp2
  go_ret
  exact ⟨rfl, rfl⟩

/-! ### the closures of Add -/
def alikeH (x y : H) : Bool := decide (y.node = x.node) && decide (y.key = x.key)
def newerH (x y : H) : Bool := alikeH x y && decide (x.ver < y.ver)
set_option maxHeartbeats 400000 in
theorem alikeH_any (x0 x1 x2 y0 y1 y2 : Int) (bx : Nat) (w : World) (hl : bx < w.heap.size) (h0 : w.cell? ⟨bx, 0, none⟩ = some (.int .i64 x0)) (h1 : w.cell? ⟨bx, 1, none⟩ = some (.int .i64 x1)) :
    Calls Try.prog 11 #[.agg #[.int .i64 y0, .int .i64 y1, .int .i64 y2], .pointer (some ⟨bx, 0, none⟩)] w fun e w' => e = .returned (.bool (alikeH ⟨x0, x1, x2⟩ ⟨y0, y1, y2⟩)) ∧ Below w.heap.size w w' := by
  go_enter Try.func11, Try.ntmps11
  go_wp2_with fail
  all_goals
    go_ret
    refine ⟨ret_b ?_, by (repeat (first | with_reducible exact Below.refl _ _ | with_reducible assumption | (with_reducible refine Below.drew ?_) | (with_reducible refine Below.manyDrew ?_ _) | ((with_reducible refine Below.alloc ?_ ?_ _); rotate_left; (focus (first | omega | (dsimp only; omega) | (simp; done) | (simp; omega)))) | ((with_reducible refine Below.setCell ?_ ?_ _); rotate_left; (focus (first | omega | (dsimp only; omega) | (simp; done) | (simp; omega)))) | ((with_reducible refine Below.step ?_ (by assumption) ?_); rotate_left; (focus (first | omega | (dsimp only; omega) | (simp; done) | (simp; omega))))))⟩
    try simp only [beq_iff_eq, beq_eq_false_iff_ne, ne_eq] at *
    simp [alikeH, *]
    all_goals (first | rfl | (rw [Bool.eq_iff_iff]; simp))
set_option maxHeartbeats 400000 in
theorem newerH_any (x0 x1 x2 y0 y1 y2 : Int) (b1 bx : Nat) (w : World) (hl : bx < w.heap.size) (hl1 : b1 < w.heap.size) (h0 : w.cell? ⟨bx, 0, none⟩ = some (.int .i64 x0)) (h1 : w.cell? ⟨bx, 1, none⟩ = some (.int .i64 x1)) (h2 : w.cell? ⟨bx, 2, none⟩ = some (.int .i64 x2))
    (hf : w.cell? ⟨b1, 0, none⟩ = some (.func (.func 11) #[] #[.pointer (some ⟨bx, 0, none⟩)])) :
    Calls Try.prog 13 #[.agg #[.int .i64 y0, .int .i64 y1, .int .i64 y2], .pointer (some ⟨b1, 0, none⟩), .pointer (some ⟨bx, 0, none⟩)] w fun e w' => e = .returned (.bool (newerH ⟨x0, x1, x2⟩ ⟨y0, y1, y2⟩)) ∧ Below w.heap.size w w' := by
  rcases hal : alikeH ⟨x0, x1, x2⟩ ⟨y0, y1, y2⟩ with _ | _
  · have Hal := hid hal
    rw [show newerH ⟨x0, x1, x2⟩ ⟨y0, y1, y2⟩ = false by simp [newerH, hal]]
    clear hal
    go_enter Try.func13, Try.ntmps13
    go_wp2_with fail
    refine (alikeH_any x0 x1 x2 y0 y1 y2 bx _ (by simp; omega) (by go_simp) (by go_simp)).mono ?_
    rw [Hal.out]
    rintro e w1 ⟨rfl, hb1⟩; obtain ⟨hc1, hf1⟩ := bcell hb1; have hz1 := hb1.size; (try simp only [World.size_alloc] at hz1); (try simp only [World.size_setCell] at hz1)
    go_wp2_with fail
    go_ret
    exact ⟨rfl, by (repeat (first | with_reducible exact Below.refl _ _ | with_reducible assumption | (with_reducible refine Below.drew ?_) | (with_reducible refine Below.manyDrew ?_ _) | ((with_reducible refine Below.alloc ?_ ?_ _); rotate_left; (focus (first | omega | (dsimp only; omega) | (simp; done) | (simp; omega)))) | ((with_reducible refine Below.setCell ?_ ?_ _); rotate_left; (focus (first | omega | (dsimp only; omega) | (simp; done) | (simp; omega)))) | ((with_reducible refine Below.step ?_ (by assumption) ?_); rotate_left; (focus (first | omega | (dsimp only; omega) | (simp; done) | (simp; omega))))))⟩
  · have Hal := hid hal
    rw [show newerH ⟨x0, x1, x2⟩ ⟨y0, y1, y2⟩ = decide (x2 < y2) by simp [newerH, hal]]
    clear hal
    go_enter Try.func13, Try.ntmps13
    go_wp2_with fail
    refine (alikeH_any x0 x1 x2 y0 y1 y2 bx _ (by simp; omega) (by go_simp) (by go_simp)).mono ?_
    rw [Hal.out]
    rintro e w1 ⟨rfl, hb1⟩; obtain ⟨hc1, hf1⟩ := bcell hb1; have hz1 := hb1.size; (try simp only [World.size_alloc] at hz1); (try simp only [World.size_setCell] at hz1)
    have hl2 : w.heap.size < w1.heap.size := by omega
    go_wp2_with fail
    go_ret
    exact ⟨rfl, by (repeat (first | with_reducible exact Below.refl _ _ | with_reducible assumption | (with_reducible refine Below.drew ?_) | (with_reducible refine Below.manyDrew ?_ _) | ((with_reducible refine Below.alloc ?_ ?_ _); rotate_left; (focus (first | omega | (dsimp only; omega) | (simp; done) | (simp; omega)))) | ((with_reducible refine Below.setCell ?_ ?_ _); rotate_left; (focus (first | omega | (dsimp only; omega) | (simp; done) | (simp; omega)))) | ((with_reducible refine Below.step ?_ (by assumption) ?_); rotate_left; (focus (first | omega | (dsimp only; omega) | (simp; done) | (simp; omega))))))⟩

/-! ### slices.IndexFunc, ContainsFunc at a closure -/
def idxA {α : Type} (p : α → Bool) : List α → Nat → Int
  | [], _ => -1
  | a :: r, k => if p a = true then (k : Int) else idxA p r (k + 1)
theorem idxA_any {α : Type} (p : α → Bool) (l : List α) : ∀ k : Nat, decide (0 ≤ idxA p l k) = l.any p := by
  induction l with
  | nil => intro k; rfl
  | cons a r ih =>
    intro k
    rw [idxA, List.any_cons]
    by_cases h : p a = true
    · rw [if_pos h, h]; simp
    · rw [if_neg h, ih]; simp [h]
set_option maxHeartbeats 1000000 in
theorem hidx1 (p : H → Bool) (bx : Nat) (s : SlV H) (w : World) (hs : HsAt w s)
    (hp : ∀ W y0 y1 y2, Below w.heap.size w W → Calls Try.prog 11 #[.agg #[.int .i64 y0, .int .i64 y1, .int .i64 y2], .pointer (some ⟨bx, 0, none⟩)] W fun e W' => e = .returned (.bool (p ⟨y0, y1, y2⟩)) ∧ Below W.heap.size W W') :
    Calls Try.prog 16 #[.slice s.A s.xs.length s.c, .func (.func 11) #[] #[.pointer (some ⟨bx, 0, none⟩)]] w fun e w' => e = .returned (.int .i64 (idxA p s.xs 0)) ∧ Below w.heap.size w w' := by
  have hlen := hs.len
  unfold maxLen at hlen
  generalize hr : idxA p s.xs 0 = r
  have Hr := hid hr
  have Hp := hid hp
  clear hr hp
  go_enter Try.func16, Try.ntmps16
  go_wp2_with fail
  go_loopw [5, 8] (fun _ i wr => ∃ k : Nat, k ≤ s.xs.length ∧ i = .int .i64 k ∧ idxA p (s.xs.drop k) k = r ∧ Below w.heap.size w wr) (fun _ i _ => s.xs.length - (intOf i).toNat)
  case atStart => exact ⟨0, Nat.zero_le _, rfl, by rw [List.drop_zero]; exact Hr.out, Below.refl _ _⟩
  case round =>
    obtain ⟨k, hk, rfl, hix, hbr⟩ := hrel
    have hz0 := hbr.size
    by_cases hlt : k < s.xs.length
    · obtain ⟨g, off, hA, hg, hcells⟩ := hs.row (by omega)
      obtain ⟨k0, k1, k2⟩ := (hcells k hlt).stays hbr hg
      rw [drop_consD H.zero hlt, idxA] at hix
      have Hix := hid hix
      clear hcells hix
      generalize s.xs.getD k H.zero = y at *
      obtain ⟨y0, y1, y2⟩ := y
      simp only at k0 k1 k2
      rw [hA]
      clear hA
      go_wp2_with fail
      refine (Hp.out _ y0 y1 y2 hbr).mono ?_
      rcases hpy : p ⟨y0, y1, y2⟩ with _ | _
      · have Hpy := hid hpy
        clear hpy
        rintro e w1 ⟨rfl, hb1⟩; obtain ⟨hc1, hf1⟩ := bcell hb1; have hz1 := hb1.size; (try simp only [World.size_alloc] at hz1); (try simp only [World.size_setCell] at hz1)
        go_wp2_with fail
        go_roundw
        case rel => exact ⟨k + 1, by omega, by go_num, by have := Hix.out; rw [if_neg (by rw [Hpy.out]; decide)] at this; exact this, by (repeat (first | with_reducible exact Below.refl _ _ | with_reducible assumption | (with_reducible refine Below.drew ?_) | (with_reducible refine Below.manyDrew ?_ _) | ((with_reducible refine Below.alloc ?_ ?_ _); rotate_left; (focus (first | omega | (dsimp only; omega) | (simp; done) | (simp; omega)))) | ((with_reducible refine Below.setCell ?_ ?_ _); rotate_left; (focus (first | omega | (dsimp only; omega) | (simp; done) | (simp; omega)))) | ((with_reducible refine Below.step ?_ (by assumption) ?_); rotate_left; (focus (first | omega | (dsimp only; omega) | (simp; done) | (simp; omega))))))⟩
        case measure => simp [intOf]; omega
      · have Hpy := hid hpy
        clear hpy
        rintro e w1 ⟨rfl, hb1⟩; obtain ⟨hc1, hf1⟩ := bcell hb1; have hz1 := hb1.size; (try simp only [World.size_alloc] at hz1); (try simp only [World.size_setCell] at hz1)
        go_wp2_with fail
        go_ret
        exact ⟨ret_i (by have := Hix.out; rw [if_pos Hpy.out] at this; exact this), by (repeat (first | with_reducible exact Below.refl _ _ | with_reducible assumption | (with_reducible refine Below.drew ?_) | (with_reducible refine Below.manyDrew ?_ _) | ((with_reducible refine Below.alloc ?_ ?_ _); rotate_left; (focus (first | omega | (dsimp only; omega) | (simp; done) | (simp; omega)))) | ((with_reducible refine Below.setCell ?_ ?_ _); rotate_left; (focus (first | omega | (dsimp only; omega) | (simp; done) | (simp; omega)))) | ((with_reducible refine Below.step ?_ (by assumption) ?_); rotate_left; (focus (first | omega | (dsimp only; omega) | (simp; done) | (simp; omega))))))⟩
    · obtain rfl : k = s.xs.length := by omega
      rw [List.drop_length, idxA] at hix
      have Hix := hid hix
      clear hix
      go_wp2_with fail
      go_ret
      exact ⟨ret_i Hix.out, hbr⟩
set_option maxHeartbeats 1000000 in
theorem hidx2 (p : H → Bool) (b1 bx : Nat) (s : SlV H) (w : World) (hs : HsAt w s)
    (hp : ∀ W y0 y1 y2, Below w.heap.size w W → Calls Try.prog 13 #[.agg #[.int .i64 y0, .int .i64 y1, .int .i64 y2], .pointer (some ⟨b1, 0, none⟩), .pointer (some ⟨bx, 0, none⟩)] W fun e W' => e = .returned (.bool (p ⟨y0, y1, y2⟩)) ∧ Below W.heap.size W W') :
    Calls Try.prog 16 #[.slice s.A s.xs.length s.c, .func (.func 13) #[] #[.pointer (some ⟨b1, 0, none⟩), .pointer (some ⟨bx, 0, none⟩)]] w fun e w' => e = .returned (.int .i64 (idxA p s.xs 0)) ∧ Below w.heap.size w w' := by
  have hlen := hs.len
  unfold maxLen at hlen
  generalize hr : idxA p s.xs 0 = r
  have Hr := hid hr
  have Hp := hid hp
  clear hr hp
  go_enter Try.func16, Try.ntmps16
  go_wp2_with fail
  go_loopw [5, 8] (fun _ i wr => ∃ k : Nat, k ≤ s.xs.length ∧ i = .int .i64 k ∧ idxA p (s.xs.drop k) k = r ∧ Below w.heap.size w wr) (fun _ i _ => s.xs.length - (intOf i).toNat)
  case atStart => exact ⟨0, Nat.zero_le _, rfl, by rw [List.drop_zero]; exact Hr.out, Below.refl _ _⟩
  case round =>
    obtain ⟨k, hk, rfl, hix, hbr⟩ := hrel
    have hz0 := hbr.size
    by_cases hlt : k < s.xs.length
    · obtain ⟨g, off, hA, hg, hcells⟩ := hs.row (by omega)
      obtain ⟨k0, k1, k2⟩ := (hcells k hlt).stays hbr hg
      rw [drop_consD H.zero hlt, idxA] at hix
      have Hix := hid hix
      clear hcells hix
      generalize s.xs.getD k H.zero = y at *
      obtain ⟨y0, y1, y2⟩ := y
      simp only at k0 k1 k2
      rw [hA]
      clear hA
      go_wp2_with fail
      refine (Hp.out _ y0 y1 y2 hbr).mono ?_
      rcases hpy : p ⟨y0, y1, y2⟩ with _ | _
      · have Hpy := hid hpy
        clear hpy
        rintro e w1 ⟨rfl, hb1⟩; obtain ⟨hc1, hf1⟩ := bcell hb1; have hz1 := hb1.size; (try simp only [World.size_alloc] at hz1); (try simp only [World.size_setCell] at hz1)
        go_wp2_with fail
        go_roundw
        case rel => exact ⟨k + 1, by omega, by go_num, by have := Hix.out; rw [if_neg (by rw [Hpy.out]; decide)] at this; exact this, by (repeat (first | with_reducible exact Below.refl _ _ | with_reducible assumption | (with_reducible refine Below.drew ?_) | (with_reducible refine Below.manyDrew ?_ _) | ((with_reducible refine Below.alloc ?_ ?_ _); rotate_left; (focus (first | omega | (dsimp only; omega) | (simp; done) | (simp; omega)))) | ((with_reducible refine Below.setCell ?_ ?_ _); rotate_left; (focus (first | omega | (dsimp only; omega) | (simp; done) | (simp; omega)))) | ((with_reducible refine Below.step ?_ (by assumption) ?_); rotate_left; (focus (first | omega | (dsimp only; omega) | (simp; done) | (simp; omega))))))⟩
        case measure => simp [intOf]; omega
      · have Hpy := hid hpy
        clear hpy
        rintro e w1 ⟨rfl, hb1⟩; obtain ⟨hc1, hf1⟩ := bcell hb1; have hz1 := hb1.size; (try simp only [World.size_alloc] at hz1); (try simp only [World.size_setCell] at hz1)
        go_wp2_with fail
        go_ret
        exact ⟨ret_i (by have := Hix.out; rw [if_pos Hpy.out] at this; exact this), by (repeat (first | with_reducible exact Below.refl _ _ | with_reducible assumption | (with_reducible refine Below.drew ?_) | (with_reducible refine Below.manyDrew ?_ _) | ((with_reducible refine Below.alloc ?_ ?_ _); rotate_left; (focus (first | omega | (dsimp only; omega) | (simp; done) | (simp; omega)))) | ((with_reducible refine Below.setCell ?_ ?_ _); rotate_left; (focus (first | omega | (dsimp only; omega) | (simp; done) | (simp; omega)))) | ((with_reducible refine Below.step ?_ (by assumption) ?_); rotate_left; (focus (first | omega | (dsimp only; omega) | (simp; done) | (simp; omega))))))⟩
    · obtain rfl : k = s.xs.length := by omega
      rw [List.drop_length, idxA] at hix
      have Hix := hid hix
      clear hix
      go_wp2_with fail
      go_ret
      exact ⟨ret_i Hix.out, hbr⟩
set_option maxHeartbeats 1000000 in
theorem hcontains2 (p : H → Bool) (b1 bx : Nat) (s : SlV H) (w : World) (hs : HsAt w s)
    (hp : ∀ W y0 y1 y2, Below w.heap.size w W → Calls Try.prog 13 #[.agg #[.int .i64 y0, .int .i64 y1, .int .i64 y2], .pointer (some ⟨b1, 0, none⟩), .pointer (some ⟨bx, 0, none⟩)] W fun e W' => e = .returned (.bool (p ⟨y0, y1, y2⟩)) ∧ Below W.heap.size W W') :
    Calls Try.prog 12 #[.slice s.A s.xs.length s.c, .func (.func 13) #[] #[.pointer (some ⟨b1, 0, none⟩), .pointer (some ⟨bx, 0, none⟩)]] w fun e w' => e = .returned (.bool (s.xs.any p)) ∧ Below w.heap.size w w' := by
  have Hd := hid (idxA_any p s.xs 0)
  have Hp := hid hp
  clear hp
  go_enter Try.func12, Try.ntmps12
  go_wp2_with fail
  refine (hidx2 p b1 bx s _ hs Hp.out).mono ?_; rintro e w1 ⟨rfl, hb1⟩; obtain ⟨hc1, hf1⟩ := bcell hb1; have hz1 := hb1.size; (try simp only [World.size_alloc] at hz1); (try simp only [World.size_setCell] at hz1)
  go_wp2_with fail
  go_ret
  exact ⟨ret_b Hd.out, by (repeat (first | with_reducible exact Below.refl _ _ | with_reducible assumption | (with_reducible refine Below.drew ?_) | (with_reducible refine Below.manyDrew ?_ _) | ((with_reducible refine Below.alloc ?_ ?_ _); rotate_left; (focus (first | omega | (dsimp only; omega) | (simp; done) | (simp; omega)))) | ((with_reducible refine Below.setCell ?_ ?_ _); rotate_left; (focus (first | omega | (dsimp only; omega) | (simp; done) | (simp; omega)))) | ((with_reducible refine Below.step ?_ (by assumption) ?_); rotate_left; (focus (first | omega | (dsimp only; omega) | (simp; done) | (simp; omega))))))⟩
end Go.Proofs.Ytjhphagcmiggdaa
