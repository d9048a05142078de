/-
  CONTRACTS of package gossip: check, Play, Done, and of slices.ContainsFunc at []int. CONDITIONS: none.
-/
import Derived.Test.YtlcbdhblaamekaaDoorEntry
import Derived.BigQuiet
import Derived.Deep.QuietTactic
namespace Go.Proofs.YtlcbdhblaamekaaDoor
open Go.RowKit
open Go.ChangeShapes Go.WideShapes Go.ChangeAt

/-- the first place at which p holds, or -1 -/
def idxOf (p : Int → Bool) : List Int → Nat → Int
  | [], _ => -1
  | x :: r, k => if p x = true then (k : Int) else idxOf p r (k + 1)
theorem idxOf_any (p : Int → Bool) (l : List Int) : ∀ k : Nat, decide (0 ≤ idxOf p l k) = l.any p := by
  induction l with
  | nil => intro k; rfl
  | cons x r ih =>
    intro k
    by_cases h : p x = true
    · rw [idxOf, if_pos h, List.any_cons, h, Bool.true_or]
      exact decide_eq_true (Int.natCast_nonneg k)
    · rw [idxOf, if_neg h, ih, List.any_cons, Bool.eq_false_iff.2 h, Bool.false_or]

section
variable (G bx : Nat) (n : Int) (p : Int → Bool)
/-- what is asked of the closure handed on: in whatever world holds n in its box it answers by p, and turns nothing -/
def Answers (f : FuncId) : Prop := ∀ (W : World) (x : Int), W.cell? ⟨bx, 0, none⟩ = some (.int .i64 n) → Calls Tryd.prog f #[.int .i64 x, .pointer (some ⟨bx, 0, none⟩)] W fun e w' => e = .returned (.bool (p x)) ∧ W = w'

set_option maxHeartbeats 1000000 in
theorem indexFunc_check (hp : Answers bx n p 55) (s : SlV Int) (w : World) (hs : IntsAt w s) (hbx : w.cell? ⟨bx, 0, none⟩ = some (.int .i64 n)) :
    Calls Tryd.prog 44 #[.slice s.A s.xs.length s.c, .func (.func 55) #[] #[.pointer (some ⟨bx, 0, none⟩)]] w fun e w' => e = .returned (.int .i64 (idxOf p s.xs 0)) ∧ w = w' := by
  have hlen := hs.len
  unfold maxLen at hlen
  generalize hr : idxOf p s.xs 0 = r
  have Hr := hid hr
  clear hr
  have Hp : Hid (Answers bx n p 55) := hp
  clear hp
  go_enter Tryd.func44, Tryd.ntmps44
  go_wp2
  go_loop [8] (fun i => ∃ k : Nat, k ≤ s.xs.length ∧ i = .int .i64 k ∧ idxOf p (s.xs.drop k) k = r) (fun i => s.xs.length - (intOf i).toNat)
  case atStart => exact ⟨0, Nat.zero_le _, rfl, Hr.out⟩
  case round =>
    obtain ⟨k, hk, rfl, hkr⟩ := hrel
    by_cases hlt : k < s.xs.length
    · obtain ⟨b, off, hA, hb, hcells⟩ := hs.row (by omega)
      have hcell := hcells k hlt
      have hd : s.xs.drop k = s.xs.getD k 0 :: s.xs.drop (k + 1) := by
        rw [List.drop_eq_getElem_cons hlt]
        simp [List.getD, List.getElem?_eq_getElem hlt]
      rw [hd, idxOf] at hkr
      generalize s.xs.getD k 0 = x at *
      have Hkr := hid hkr
      rw [hA]
      clear hA hcells hd hkr
      go_wp2_with fail
      refine (Hp.out _ x hbx).mono ?_
      rintro e w' ⟨rfl, rfl⟩
      rcases hpx : p x with _ | _
      · have hkr : idxOf p (s.xs.drop (k + 1)) (k + 1) = r := by
          have := Hkr.out
          rw [hpx, if_neg (by simp)] at this
          exact this
        have Hkr2 := hid hkr
        clear hkr hpx
        go_wp2_with fail
        go_round
        case rel => exact ⟨k + 1, by omega, by go_num, Hkr2.out⟩
        case measure => simp [intOf]; omega
      · have hkr : (k : Int) = r := by
          have := Hkr.out
          rw [hpx, if_pos rfl] at this
          exact this
        have Hkr2 := hid hkr
        clear hkr hpx
        go_wp2_with fail
        go_ret
        exact ⟨ret_i Hkr2.out, rfl⟩
    · obtain rfl : k = s.xs.length := by omega
      have Hkr := hid hkr
      clear hkr
      go_wp2_with fail
      go_ret
      refine ⟨?_, rfl⟩
      rw [← Hkr.out, List.drop_length]
      rfl
theorem containsFunc_check (hp : Answers bx n p 55) (s : SlV Int) (w : World) (hs : IntsAt w s) (hbx : w.cell? ⟨bx, 0, none⟩ = some (.int .i64 n)) :
    Calls Tryd.prog 28 #[.slice s.A s.xs.length s.c, .func (.func 55) #[] #[.pointer (some ⟨bx, 0, none⟩)]] w fun e w' => e = .returned (.bool (s.xs.any p)) ∧ w = w' := by
  have h := idxOf_any p s.xs 0
  generalize hr : s.xs.any p = r at *
  have H := hid h
  clear h hr
  go_enter Tryd.func28, Tryd.ntmps28
  go_wp2_with fail
  refine (indexFunc_check bx n p hp s w hs hbx).mono ?_
  rintro e w' ⟨rfl, rfl⟩
  generalize idxOf p s.xs 0 = i at *
  go_wp2_with fail
  go_ret
  exact ⟨ret_b H.out, rfl⟩
set_option maxHeartbeats 1000000 in
theorem indexFunc_done (hp : Answers bx n p 29) (s : SlV Int) (w : World) (hs : IntsAt w s) (hbx : w.cell? ⟨bx, 0, none⟩ = some (.int .i64 n)) :
    Calls Tryd.prog 44 #[.slice s.A s.xs.length s.c, .func (.func 29) #[] #[.pointer (some ⟨bx, 0, none⟩)]] w fun e w' => e = .returned (.int .i64 (idxOf p s.xs 0)) ∧ w = w' := by
  have hlen := hs.len
  unfold maxLen at hlen
  generalize hr : idxOf p s.xs 0 = r
  have Hr := hid hr
  clear hr
  have Hp : Hid (Answers bx n p 29) := hp
  clear hp
  go_enter Tryd.func44, Tryd.ntmps44
  go_wp2
  go_loop [8] (fun i => ∃ k : Nat, k ≤ s.xs.length ∧ i = .int .i64 k ∧ idxOf p (s.xs.drop k) k = r) (fun i => s.xs.length - (intOf i).toNat)
  case atStart => exact ⟨0, Nat.zero_le _, rfl, Hr.out⟩
  case round =>
    obtain ⟨k, hk, rfl, hkr⟩ := hrel
    by_cases hlt : k < s.xs.length
    · obtain ⟨b, off, hA, hb, hcells⟩ := hs.row (by omega)
      have hcell := hcells k hlt
      have hd : s.xs.drop k = s.xs.getD k 0 :: s.xs.drop (k + 1) := by
        rw [List.drop_eq_getElem_cons hlt]
        simp [List.getD, List.getElem?_eq_getElem hlt]
      rw [hd, idxOf] at hkr
      generalize s.xs.getD k 0 = x at *
      have Hkr := hid hkr
      rw [hA]
      clear hA hcells hd hkr
      go_wp2_with fail
      refine (Hp.out _ x hbx).mono ?_
      rintro e w' ⟨rfl, rfl⟩
      rcases hpx : p x with _ | _
      · have hkr : idxOf p (s.xs.drop (k + 1)) (k + 1) = r := by
          have := Hkr.out
          rw [hpx, if_neg (by simp)] at this
          exact this
        have Hkr2 := hid hkr
        clear hkr hpx
        go_wp2_with fail
        go_round
        case rel => exact ⟨k + 1, by omega, by go_num, Hkr2.out⟩
        case measure => simp [intOf]; omega
      · have hkr : (k : Int) = r := by
          have := Hkr.out
          rw [hpx, if_pos rfl] at this
          exact this
        have Hkr2 := hid hkr
        clear hkr hpx
        go_wp2_with fail
        go_ret
        exact ⟨ret_i Hkr2.out, rfl⟩
    · obtain rfl : k = s.xs.length := by omega
      have Hkr := hid hkr
      clear hkr
      go_wp2_with fail
      go_ret
      refine ⟨?_, rfl⟩
      rw [← Hkr.out, List.drop_length]
      rfl
theorem containsFunc_done (hp : Answers bx n p 29) (s : SlV Int) (w : World) (hs : IntsAt w s) (hbx : w.cell? ⟨bx, 0, none⟩ = some (.int .i64 n)) :
    Calls Tryd.prog 28 #[.slice s.A s.xs.length s.c, .func (.func 29) #[] #[.pointer (some ⟨bx, 0, none⟩)]] w fun e w' => e = .returned (.bool (s.xs.any p)) ∧ w = w' := by
  have h := idxOf_any p s.xs 0
  generalize hr : s.xs.any p = r at *
  have H := hid h
  clear h hr
  go_enter Tryd.func28, Tryd.ntmps28
  go_wp2_with fail
  refine (indexFunc_done bx n p hp s w hs hbx).mono ?_
  rintro e w' ⟨rfl, rfl⟩
  generalize idxOf p s.xs 0 = i at *
  go_wp2_with fail
  go_ret
  exact ⟨ret_b H.out, rfl⟩
end

def nodesB (n : Int) : Bool := decide (1 ≤ n) && decide (n ≤ 6)
theorem nodesB_true {n : Int} : nodesB n = true ↔ 1 ≤ n ∧ n ≤ 6 := by simp [nodesB]
theorem nodesB_false {n : Int} : nodesB n = false ↔ n < 1 ∨ 6 < n := by
  rw [← Bool.not_eq_true, nodesB_true]; omega
theorem gnodes_any (n : Int) (w : World) : Calls Tryd.prog 30 #[.int .i64 n] w fun e w' => e = .returned (.bool (nodesB n)) ∧ w = w' := by
  rcases hn : nodesB n with _ | _
  · rw [nodesB_false] at hn
    by_cases h0 : 1 ≤ n
    · have h6 : ¬ n ≤ 6 := by omega
      clear hn
      go_enter Tryd.func30, Tryd.ntmps30
      go_wp2
      go_ret
      exact ⟨rfl, rfl⟩
    · clear hn
      go_enter Tryd.func30, Tryd.ntmps30
      go_wp2
      go_ret
      exact ⟨rfl, rfl⟩
  · rw [nodesB_true] at hn
    obtain ⟨h0, h6⟩ := hn
    go_enter Tryd.func30, Tryd.ntmps30
    go_wp2
    go_ret
    exact ⟨rfl, rfl⟩

/-- a number out of 0 .. n-1 -/
def outB (n x : Int) : Bool := decide (x < 0) || decide (n ≤ x)
theorem answers_check (bx : Nat) (n : Int) : Answers bx n (outB n) 55 := by
  intro W x hc
  generalize hr : outB n x = r
  have Hr := hid hr
  clear hr
  by_cases h0 : x < 0
  · go_enter Tryd.func55, Tryd.ntmps55
    go_wp2
    go_ret
    exact ⟨ret_b (by rw [← Hr.out]; simp [outB, h0]), rfl⟩
  · by_cases h1 : n ≤ x
    · go_enter Tryd.func55, Tryd.ntmps55
      go_wp2
      go_ret
      exact ⟨ret_b (by rw [← Hr.out]; simp [outB, h1]), rfl⟩
    · go_enter Tryd.func55, Tryd.ntmps55
      go_wp2
      go_ret
      exact ⟨ret_b (by rw [← Hr.out]; simp [outB]; omega), rfl⟩

def chkCall (n : Int) (c : List Int) : Int :=
  if c.length = 2 then (if c.any (outB n) = true then 1 else if c.getD 0 0 = c.getD 1 0 then 3 else 0) else 3
def chkCalls (n : Int) : List (SlV Int) → Int
  | [] => 0
  | c :: r => if chkCall n c.xs = 0 then chkCalls n r else chkCall n c.xs
def chkG (n : Int) (cs : List (SlV Int)) : Int := if nodesB n = true then (if 40 < cs.length then 4 else chkCalls n cs) else 1

set_option maxHeartbeats 2000000 in
theorem gcheck_any (n : Int) (s : SlV (SlV Int)) (w : World) (hs : IntssAt w s) :
    Calls Tryd.prog 43 #[.int .i64 n, .slice s.A s.xs.length s.c] w fun e w' => e = .returned (errV (chkG n s.xs)) ∧ Below w.heap.size w w' := by
  have hlen := hs.len
  unfold maxLen at hlen
  rcases hn : nodesB n with _ | _
  · have hr : chkG n s.xs = 1 := by rw [chkG, if_neg (by simp [hn])]
    rw [hr]
    go_enter Tryd.func43, Tryd.ntmps43
    go_wp2_with (go_at_call 30; refine (gnodes_any _ _).mono ?_; rintro e w' ⟨rfl, rfl⟩)
    go_ret
    exact ⟨rfl, by (repeat (first | with_reducible exact Below.refl _ _ | with_reducible assumption | (with_reducible refine Below.drew ?_) | (with_reducible refine Below.manyDrew ?_ _) | ((with_reducible refine Below.alloc ?_ ?_ _); rotate_left; (focus (first | omega | (dsimp only; omega) | (simp; done) | (simp; omega)))) | ((with_reducible refine Below.setCell ?_ ?_ _); rotate_left; (focus (first | omega | (dsimp only; omega) | (simp; done) | (simp; omega)))) | ((with_reducible refine Below.step ?_ (by assumption) ?_); rotate_left; (focus (first | omega | (dsimp only; omega) | (simp; done) | (simp; omega))))))⟩
  · by_cases h40 : 40 < s.xs.length
    · have hr : chkG n s.xs = 4 := by rw [chkG, if_pos hn, if_pos h40]
      rw [hr]
      clear hr
      have h40' : (40 : Int) < (s.xs.length : Int) := by omega
      go_enter Tryd.func43, Tryd.ntmps43
      go_wp2_with (go_at_call 30; refine (gnodes_any _ _).mono ?_; rintro e w' ⟨rfl, rfl⟩)
      go_ret
      exact ⟨rfl, by (repeat (first | with_reducible exact Below.refl _ _ | with_reducible assumption | (with_reducible refine Below.drew ?_) | (with_reducible refine Below.manyDrew ?_ _) | ((with_reducible refine Below.alloc ?_ ?_ _); rotate_left; (focus (first | omega | (dsimp only; omega) | (simp; done) | (simp; omega)))) | ((with_reducible refine Below.setCell ?_ ?_ _); rotate_left; (focus (first | omega | (dsimp only; omega) | (simp; done) | (simp; omega)))) | ((with_reducible refine Below.step ?_ (by assumption) ?_); rotate_left; (focus (first | omega | (dsimp only; omega) | (simp; done) | (simp; omega))))))⟩
    · generalize hr : chkG n s.xs = r
      rw [chkG, if_pos hn, if_neg h40] at hr
      have h40' : ¬ (40 : Int) < (s.xs.length : Int) := by omega
      have Hr := hid hr
      clear hr h40
      have hbel : Below w.heap.size w (w.alloc (.cells #[.int .i64 n] 3)) := (Below.refl _ _).alloc (Nat.le_refl _) _
      have hbox : (w.alloc (.cells #[.int .i64 n] 3)).cell? ⟨w.heap.size, 0, none⟩ = some (.int .i64 n) := by simp
      go_enter Tryd.func43, Tryd.ntmps43
      go_wp2_with (go_at_call 30; refine (gnodes_any _ _).mono ?_; rintro e w' ⟨rfl, rfl⟩)
      go_loopw [19] (fun i wr => ∃ k : Nat, k ≤ s.xs.length ∧ i = .int .i64 k ∧ chkCalls n (s.xs.drop k) = r ∧ wr.cell? ⟨w.heap.size, 0, none⟩ = some (.int .i64 n) ∧ Below w.heap.size w wr) (fun i _ => s.xs.length - (intOf i).toNat)
      case atStart => exact ⟨0, Nat.zero_le _, rfl, Hr.out, hbox, hbel⟩
      case round =>
        obtain ⟨k, hk, rfl, hkr, hbx, hbr⟩ := hrel
        clear hbel hbox
        by_cases hlt : k < s.xs.length
        · obtain ⟨b, off, hA, hb, hcells⟩ := hs.row (by omega)
          have hcell := hcells k hlt
          have hin := hs.each k hlt
          rw [← hbr.cell (p := ⟨b, off + k, none⟩) hb] at hcell
          have hd : s.xs.drop k = s.xs[k] :: s.xs.drop (k + 1) := List.drop_eq_getElem_cons hlt
          rw [hd, chkCalls] at hkr
          generalize s.xs[k] = c at *
          have HA := hid hA
          have Hkr := hid hkr
          have hinr : IntsAt wr c := ⟨fun h => by
            obtain ⟨b', off', h1, h2, h3⟩ := hin.row h
            exact ⟨b', off', h1, Nat.lt_of_lt_of_le h2 hbr.size, fun i hi => (hbr.cell (p := ⟨b', _, none⟩) h2).trans (h3 i hi)⟩, hin.len⟩
          have hclen := hin.len
          unfold maxLen at hclen
          rw [hA]
          clear hA hcells hd hkr hin
          by_cases h2 : c.xs.length = 2
          · obtain ⟨b2, off2, hA2, hb2, hcells2⟩ := hinr.row (by omega)
            have hc0 := hcells2 0 (by omega)
            have hc1 := hcells2 1 (by omega)
            rw [Nat.add_zero] at hc0
            rcases ho : c.xs.any (outB n) with _ | _
            · have hcc : chkCall n c.xs = if c.xs.getD 0 0 = c.xs.getD 1 0 then 3 else 0 := by rw [chkCall, if_pos h2, if_neg (by simp [ho])]
              have Ho := hid ho
              have H2 := hid h2
              have Hcc := hid hcc
              have h2' : (c.xs.length : Int) = 2 := by omega
              generalize hx0 : c.xs.getD 0 0 = x0 at *
              generalize hx1 : c.xs.getD 1 0 = x1 at *
              clear ho h2 hcc hx0 hx1 hcells2
              have hct := containsFunc_check w.heap.size n _ (answers_check _ _) c wr hinr hbx
              rw [hA2, Ho.out] at hct
              rw [hA2] at hcell
              have Hct := hide hct
              clear hct hA2
              go_wp2_with fail
              refine Hct.out.mono ?_
              rintro e w' ⟨rfl, rfl⟩
              by_cases hx : x0 = x1
              · have hr3 : (3 : Int) = r := by
                  rw [← Hkr.out, Hcc.out, if_pos hx, if_neg (by decide)]
                subst hx
                have hxx : (x0 == x0) = true := beq_self_eq_true x0
                subst hr3
                go_wp2_with fail
                go_quiet (fail)
                go_wp2_with fail
                go_ret
                exact ⟨rfl, Below.manyDrew hbr _⟩
              · have hrr : chkCalls n (s.xs.drop (k + 1)) = r := by
                  rw [← Hkr.out, Hcc.out, if_neg hx, if_pos rfl]
                have Hrr := hid hrr
                have hxx : (x0 == x1) = false := by simpa using hx
                clear hrr hx
                go_wp2_with fail
                go_quiet (fail)
                go_wp2_with fail
                go_roundw
                case rel => exact ⟨k + 1, by omega, by go_num, Hrr.out, hbx, Below.manyDrew hbr _⟩
                case measure => simp [intOf]; omega
            · have hcc : chkCall n c.xs = 1 := by rw [chkCall, if_pos h2, if_pos ho]
              have hr1 : (1 : Int) = r := by rw [← Hkr.out, hcc, if_neg (by decide)]
              subst hr1
              have h2' : (c.xs.length : Int) = 2 := by omega
              have hct := containsFunc_check w.heap.size n _ (answers_check _ _) c wr hinr hbx
              rw [hA2, ho] at hct
              rw [hA2] at hcell
              have Hct := hide hct
              clear hct hA2 ho h2 hcc hcells2 hc0 hc1
              go_wp2_with fail
              refine Hct.out.mono ?_
              rintro e w' ⟨rfl, rfl⟩
              go_wp2_with fail
              go_ret
              exact ⟨rfl, hbr⟩
          · have hcc : chkCall n c.xs = 3 := by rw [chkCall, if_neg h2]
            have hr3 : (3 : Int) = r := by rw [← Hkr.out, hcc, if_neg (by decide)]
            subst hr3
            have h2' : ((c.xs.length : Int) == 2) = false := by
              rw [beq_eq_false_iff_ne]
              omega
            clear hcc h2
            go_wp2_with fail
            go_ret
            exact ⟨rfl, hbr⟩
        · obtain rfl : k = s.xs.length := by omega
          have hr0 : (0 : Int) = r := by
            rw [List.drop_length] at hkr
            exact hkr
          subst hr0
          clear hkr
          go_wp2_with fail
          go_ret
          exact ⟨rfl, hbr⟩
end Go.Proofs.YtlcbdhblaamekaaDoor
