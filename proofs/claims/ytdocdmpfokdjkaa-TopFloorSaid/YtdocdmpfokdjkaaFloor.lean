/-
  CONTRACTS of package floor: New, Raise, Of, All, May. CONDITIONS: none.
-/
import Derived.Test.YtdocdmpfokdjkaaEntryLaw
import Derived.BigQuiet
import Derived.Deep.QuietTactic
namespace Go.Proofs.Ytdocdmpfokdjkaa
open Go.RowKit
open Go.ChangeShapes Go.WideShapes Go.ChangeAt

def okB (k s : Int) : Bool := keyB k && seqB s
def raiseL (fs : List Int) (k s : Int) : List Int := if okB k s = true then fs.set k.toNat (max (fs.getD k.toNat 0) s) else fs
def raiseB (fs : List Int) (k s : Int) : Bool := okB k s && (max (fs.getD k.toNat 0) s != fs.getD k.toNat 0)
def raiseE (k s : Int) : Int := if okB k s = true then 0 else 1
theorem raiseL_length (fs : List Int) (k s : Int) : (raiseL fs k s).length = fs.length := by
  unfold raiseL
  split <;> simp

theorem new_floor (w : World) : Calls Try.prog 11 #[] w fun e w' => e = .returned (.pointer (some ⟨w.heap.size, 0, none⟩)) ∧ Blk w' w.heap.size 78 (ints (List.replicate 8 0)) ∧ Below w.heap.size w w' := by
  go_enter Try.func11, Try.ntmps11
  go_wp2
  go_ret
  exact ⟨rfl, Blk.new _ _ _, by (repeat (first | with_reducible exact Below.refl _ _ | with_reducible assumption | (with_reducible refine Below.drew ?_) | (with_reducible refine Below.manyDrew ?_ _) | ((with_reducible refine Below.alloc ?_ ?_ _); rotate_left; (focus (first | omega | (dsimp only; omega) | (simp; done) | (simp; omega)))) | ((with_reducible refine Below.setCell ?_ ?_ _); rotate_left; (focus (first | omega | (dsimp only; omega) | (simp; done) | (simp; omega)))) | ((with_reducible refine Below.step ?_ (by assumption) ?_); rotate_left; (focus (first | omega | (dsimp only; omega) | (simp; done) | (simp; omega))))))⟩

set_option maxHeartbeats 1000000 in
theorem raise_any (F : Nat) (fs : List Int) (hl : fs.length = 8) (k s : Int) (w : World) (hB : Blk w F 78 (ints fs)) :
    Calls Try.prog 12 #[.pointer (some ⟨F, 0, none⟩), .int .i64 k, .int .i64 s] w fun e w' =>
      e = .returned (.tuple #[.bool (raiseB fs k s), errV (raiseE k s)]) ∧ Blk w' F 78 (ints (raiseL fs k s)) ∧ Fr (· = F) w w' := by
  rcases hk : keyB k with _ | _
  · have e1 : raiseB fs k s = false := by simp [raiseB, okB, hk]
    have e2 : raiseE k s = 1 := by simp [raiseE, okB, hk]
    have e3 : raiseL fs k s = fs := by simp [raiseL, okB, hk]
    rw [e1, e2, e3]
    clear e1 e2 e3
    go_enter Try.func12, Try.ntmps12
    go_wp2_with (first | (go_at_call 32; refine (key_any _ _).mono ?_; rintro e w' ⟨rfl, rfl⟩) | (go_at_call 33; refine (seq_any _ _).mono ?_; rintro e w' ⟨rfl, rfl⟩))
    go_ret2
    exact ⟨rfl, hB, Fr.refl _ _⟩
  · rcases hs : seqB s with _ | _
    · have e1 : raiseB fs k s = false := by simp [raiseB, okB, hs]
      have e2 : raiseE k s = 1 := by simp [raiseE, okB, hs]
      have e3 : raiseL fs k s = fs := by simp [raiseL, okB, hs]
      rw [e1, e2, e3]
      clear e1 e2 e3
      go_enter Try.func12, Try.ntmps12
      go_wp2_with (first | (go_at_call 32; refine (key_any _ _).mono ?_; rintro e w' ⟨rfl, rfl⟩) | (go_at_call 33; refine (seq_any _ _).mono ?_; rintro e w' ⟨rfl, rfl⟩))
      go_ret2
      exact ⟨rfl, hB, Fr.refl _ _⟩
    · have ho : okB k s = true := by simp [okB, hk, hs]
      have hk' := keyB_true.1 hk
      obtain ⟨j, rfl⟩ := Int.eq_ofNat_of_zero_le hk'.1
      have hj : j < 8 := by omega
      have hc : w.cell? ⟨F, j, none⟩ = some (.int .i64 (fs.getD j 0)) := (hB.cell j).trans (ints_get fs j (by omega))
      have hf : w.frozen? ⟨F, j, none⟩ = false := hB.frozen j
      have e2 : errV (raiseE (j : Int) s) = .nilIface := by rw [raiseE, if_pos ho]; rfl
      generalize hr : raiseB fs j s = r
      generalize hq : raiseL fs j s = q
      rw [raiseB, ho, Bool.true_and, Int.toNat_natCast] at hr
      rw [raiseL, if_pos ho, Int.toNat_natCast] at hq
      rw [e2]
      generalize hx : fs.getD j 0 = x at *
      have Hr := hid hr
      have Hq := hid hq
      clear hr hq hx hk' ho e2
      go_enter Try.func12, Try.ntmps12
      go_wp2_with (first | (go_at_call 32; refine (key_any _ _).mono ?_; rintro e w' ⟨rfl, rfl⟩) | (go_at_call 33; refine (seq_any _ _).mono ?_; rintro e w' ⟨rfl, rfl⟩))
      case inl =>
        have hm : max x s = s := by omega
        go_ret2
        rw [← Hr.out, ← Hq.out, hm]
        have hp := hB.put j (.int .i64 s)
        rw [ints_set] at hp
        exact ⟨rfl, hp, Fr.setCell (S := fun x => x = F) (Fr.refl _ _) (.inl rfl) _⟩
      case inr =>
        have hm : max x s = x := by omega
        go_ret2
        rw [← Hr.out, ← Hq.out, hm, bne_self_eq_false]
        have hp := hB.put j (.int .i64 x)
        rw [ints_set] at hp
        exact ⟨rfl, hp, Fr.setCell (S := fun x => x = F) (Fr.refl _ _) (.inl rfl) _⟩

theorem of_any (F : Nat) (fs : List Int) (hl : fs.length = 8) (k : Int) (w : World) (hB : Blk w F 78 (ints fs)) :
    Calls Try.prog 15 #[.pointer (some ⟨F, 0, none⟩), .int .i64 k] w fun e w' =>
      e = .returned (.tuple #[.int .i64 (if keyB k = true then fs.getD k.toNat 0 else 0), errV (if keyB k = true then 0 else 1)]) ∧ w = w' := by
  rcases hk : keyB k with _ | _
  · rw [if_neg (by simp), if_neg (by simp)]
    go_enter Try.func15, Try.ntmps15
    go_wp2_with (go_at_call 32; refine (key_any _ _).mono ?_; rintro e w' ⟨rfl, rfl⟩)
    go_ret2
    exact ⟨rfl, rfl⟩
  · rw [if_pos rfl, if_pos rfl]
    have hk' := keyB_true.1 hk
    obtain ⟨j, rfl⟩ := Int.eq_ofNat_of_zero_le hk'.1
    have hj : j < 8 := by omega
    have hc : w.cell? ⟨F, j, none⟩ = some (.int .i64 (fs.getD j 0)) := (hB.cell j).trans (ints_get fs j (by omega))
    rw [Int.toNat_natCast]
    generalize hx : fs.getD j 0 = x at *
    clear hx hk'
    go_enter Try.func15, Try.ntmps15
    go_wp2_with (go_at_call 32; refine (key_any _ _).mono ?_; rintro e w' ⟨rfl, rfl⟩)
    go_ret2
    exact ⟨rfl, rfl⟩

/-- all raised -/
def allL (fs : List Int) (s : Int) : Nat → List Int
  | 0 => fs
  | n + 1 => raiseL (allL fs s n) (n : Int) s
theorem allL_length (fs : List Int) (s : Int) (n : Nat) : (allL fs s n).length = fs.length := by
  induction n with
  | zero => rfl
  | succ n ih => rw [allL, raiseL_length, ih]

set_option maxHeartbeats 1000000 in
theorem all_any (F : Nat) (fs : List Int) (hl : fs.length = 8) (s : Int) (w : World) (hB : Blk w F 78 (ints fs)) :
    Calls Try.prog 18 #[.pointer (some ⟨F, 0, none⟩), .int .i64 s] w fun e w' =>
      e = .returned (errV (if seqB s = true then 0 else 1)) ∧ Blk w' F 78 (ints (if seqB s = true then allL fs s 8 else fs)) ∧ Fr (· = F) w w' := by
  rcases hs : seqB s with _ | _
  · rw [if_neg (by simp), if_neg (by simp)]
    have e1 : raiseB fs 0 s = false := by simp [raiseB, okB, hs]
    have e2 : errV (raiseE 0 s) = .iface 69 (.int .i64 1) := by simp [raiseE, okB, hs, errV]
    have e3 : raiseL fs 0 s = fs := by simp [raiseL, okB, hs]
    have H1 := hid e1
    have H2 := hid e2
    have H3 := hid e3
    clear e1 e2 e3 hs
    go_enter Try.func18, Try.ntmps18
    go_wp2
    refine wp_loop_rounds 1 ?_
    rw [rounds_succ]
    go_wp2_with fail
    refine (raise_any F fs hl 0 s _ hB).mono ?_
    rw [H1.out, H2.out, H3.out]
    rintro e w1 ⟨rfl, hB1, hF1⟩
    go_wp2_with fail
    go_ret
    exact ⟨rfl, hB1, hF1⟩
  · rw [if_pos rfl, if_pos rfl]
    have Hs := hid hs
    clear hs
    go_enter Try.func18, Try.ntmps18
    go_wp2
    go_loopw [8] (fun i wr => ∃ k : Nat, k ≤ 8 ∧ i = .int .i64 k ∧ Blk wr F 78 (ints (allL fs s k)) ∧ Fr (· = F) w wr) (fun i _ => 8 - (intOf i).toNat)
    case atStart => exact ⟨0, by omega, rfl, hB, Fr.refl _ _⟩
    case round =>
      obtain ⟨k, hk, rfl, hBk, hFk⟩ := hrel
      by_cases h8 : k < 8
      · have h2 : errV (raiseE (k : Int) s) = .nilIface := by
          have : keyB (k : Int) = true := keyB_true.2 (by omega)
          simp [raiseE, okB, this, Hs.out, errV]
        have H2 := hid h2
        clear h2
        go_wp2_with fail
        refine (raise_any F (allL fs s k) (by rw [allL_length]; exact hl) k s _ hBk).mono ?_
        rw [H2.out]
        rintro e w1 ⟨rfl, hB1, hF1⟩
        go_wp2_with fail
        go_roundw
        case rel => exact ⟨k + 1, by omega, by go_num, hB1, hFk.trans hF1 (fun _ h => .inl h)⟩
        case measure => simp [intOf]; omega
      · obtain rfl : k = 8 := by omega
        go_wp2_with fail
        go_ret
        exact ⟨rfl, hBk, hFk⟩

set_option maxHeartbeats 1000000 in
theorem may_any (F : Nat) (fs : List Int) (hl : fs.length = 8) (k v a : Int) (g : Bool) (t : ByteArray) (ht : t.size ≤ maxLen) (w : World) (hB : Blk w F 78 (ints fs)) :
    Calls Try.prog 17 #[.pointer (some ⟨F, 0, none⟩), .agg #[.int .i64 k, .int .i64 v, .int .i64 a, .bool g, .string t]] w fun e w' =>
      e = .returned (.tuple #[.bool (if chk ⟨k, v, a, g, t⟩ = 0 then decide (fs.getD k.toNat 0 ≤ a) else false), errV (chk ⟨k, v, a, g, t⟩)]) ∧ Below w.heap.size w w' := by
  have hlt := hB.lt
  by_cases hc : chk ⟨k, v, a, g, t⟩ = 0
  · rw [if_pos hc]
    have hkb := (chk_zero.1 hc).1
    simp only at hkb
    have hk' := keyB_true.1 hkb
    obtain ⟨j, rfl⟩ := Int.eq_ofNat_of_zero_le hk'.1
    have hj : j < 8 := by omega
    have he : errV (chk ⟨j, v, a, g, t⟩) = .nilIface := by rw [hc]; rfl
    rw [Int.toNat_natCast, he]
    have hcell : w.cell? ⟨F, j, none⟩ = some (.int .i64 (fs.getD j 0)) := (hB.cell j).trans (ints_get fs j (by omega))
    generalize hx : fs.getD j 0 = x at *
    have He := hid he
    clear hx hk' hkb hc he
    go_enter Try.func17, Try.ntmps17
    go_wp2_with fail
    refine (check_any j v a g t _ ht).mono ?_
    rw [He.out]
    rintro e w1 ⟨rfl, hb1⟩; obtain ⟨hc1, hf1⟩ := bcell hb1; have hz1 := hb1.size; (try simp only [World.size_alloc] at hz1); (try simp only [World.size_setCell] at hz1)
    have hl1 : w.heap.size < w1.heap.size := by omega
    have hl2 : F < w1.heap.size := by omega
    go_wp2_with fail
    go_quiet (fail)
    go_wp2
    go_ret2
    exact ⟨rfl, by (repeat (first | with_reducible exact Below.refl _ _ | with_reducible assumption | (with_reducible refine Below.drew ?_) | (with_reducible refine Below.manyDrew ?_ _) | ((with_reducible refine Below.alloc ?_ ?_ _); rotate_left; (focus (first | omega | (dsimp only; omega) | (simp; done) | (simp; omega)))) | ((with_reducible refine Below.setCell ?_ ?_ _); rotate_left; (focus (first | omega | (dsimp only; omega) | (simp; done) | (simp; omega)))) | ((with_reducible refine Below.step ?_ (by assumption) ?_); rotate_left; (focus (first | omega | (dsimp only; omega) | (simp; done) | (simp; omega))))))⟩
  · rw [if_neg hc]
    have he := errV_ne hc
    have He := hid he
    rw [he]
    clear he hc
    go_enter Try.func17, Try.ntmps17
    go_wp2_with fail
    refine (check_any k v a g t _ ht).mono ?_
    rw [He.out]
    rintro e w1 ⟨rfl, hb1⟩; obtain ⟨hc1, hf1⟩ := bcell hb1; have hz1 := hb1.size; (try simp only [World.size_alloc] at hz1); (try simp only [World.size_setCell] at hz1)
    go_wp2_with fail
    go_ret2
    exact ⟨rfl, by (repeat (first | with_reducible exact Below.refl _ _ | with_reducible assumption | (with_reducible refine Below.drew ?_) | (with_reducible refine Below.manyDrew ?_ _) | ((with_reducible refine Below.alloc ?_ ?_ _); rotate_left; (focus (first | omega | (dsimp only; omega) | (simp; done) | (simp; omega)))) | ((with_reducible refine Below.setCell ?_ ?_ _); rotate_left; (focus (first | omega | (dsimp only; omega) | (simp; done) | (simp; omega)))) | ((with_reducible refine Below.step ?_ (by assumption) ?_); rotate_left; (focus (first | omega | (dsimp only; omega) | (simp; done) | (simp; omega))))))⟩
end Go.Proofs.Ytdocdmpfokdjkaa
