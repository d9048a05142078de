/-
  PLAIN: a log that stops at the step that was told. CONDITIONS: none. No program in this text.
-/
import Derived.Test.YtljkclebcoanaaaDoorLogMod
namespace Go.Proofs.YtljkclebcoanaaaDoor
open Go Go.RowKit

/-- i steps were taken; it stops at the step a -/
structure StopI (a i : Nat) (G : LG) : Prop where
  on : i ≤ a → G.stopped = false ∧ G.left = (a : Int) - (i : Int)
  off : a < i → G.stopped = true
  few : G.D.length ≤ i
theorem StopI.start (a : Nat) : StopI a 0 (LG.new.fail a) := ⟨fun _ => ⟨rfl, by show max (-1) (a : Int) = _; omega⟩, fun h => by omega, Nat.zero_le _⟩
theorem rput_range {D : List E} {k : Int} {t : ByteArray} (h : keyB k = false) : rput D k t = ((0, 1), D) := by
  unfold rput; rw [h]; rfl
theorem rput_short {D : List E} {k : Int} {t : ByteArray} (h : keyB k = true) (ht : t.size ≤ 12) (hD : D.length < 1000) : rput D k t = (((D.length : Int) + 1, 0), D ++ [⟨k, 0, 0, false, t⟩]) := by
  unfold rput
  rw [if_pos h, if_neg (by omega)]
  unfold rdone
  rw [if_neg (by omega)]
theorem LG.put_off {G : LG} (h : G.stopped = true) (k : Int) (t : ByteArray) : G.put k t = ((0, 6), G) := by unfold LG.put LG.deed; rw [if_pos h]
theorem LG.del_off {G : LG} (h : G.stopped = true) (k : Int) : G.del k = ((0, 6), G) := by unfold LG.del LG.deed; rw [if_pos h]
theorem LG.sync_off {G : LG} (h : G.stopped = true) : G.sync = (6, G) := by unfold LG.sync; rw [if_pos h]
theorem StopI.put8 {a i : Nat} {G : LG} (h : StopI a i G) (t : ByteArray) : G.put 8 t = ((0, if a < i then 6 else 1), G) := by
  by_cases hi : a < i
  · rw [if_pos hi, LG.put_off (h.off hi)]
  · rw [if_neg hi]
    unfold LG.put LG.deed
    rw [(h.on (by omega)).1, if_neg (by decide), rput_range (by decide), if_pos (by simp)]
theorem StopI.put1 {a i : Nat} {G : LG} (h : StopI a i G) (hi40 : i ≤ 40) (t : ByteArray) (ht : t.size ≤ 12) : (G.put 1 t).1.2 = (if i < a then 0 else 6) ∧ StopI a (i + 1) (G.put 1 t).2 := by
  have hf := h.few
  by_cases hi : a < i
  · rw [if_neg (by omega), LG.put_off (h.off hi)]
    exact ⟨rfl, fun _ => by omega, fun _ => h.off hi, Nat.le_succ_of_le hf⟩
  · obtain ⟨h1, h2⟩ := h.on (by omega)
    by_cases h0 : i = a
    · subst h0
      have e : G.put 1 t = ((0, 6), { G.step with bs := G.bs ++ halfL (recL (1 : Int).toNat false t) }) := by
        unfold LG.put LG.deed
        rw [h1, if_neg (by decide), rput_short (by decide) ht (by omega), if_neg (by simp), if_pos (by omega)]
      rw [if_neg (by omega), e]
      exact ⟨rfl, fun _ => by omega, fun _ => by show decide (G.left = 0) = true; exact decide_eq_true (by omega), by show G.D.length ≤ _; omega⟩
    · have e : G.put 1 t = (((G.D.length : Int) + 1, 0), { G.step with D := G.D ++ [⟨1, 0, 0, false, t⟩], bs := G.bs ++ recL (1 : Int).toNat false t }) := by
        unfold LG.put LG.deed
        rw [h1, if_neg (by decide), rput_short (by decide) ht (by omega), if_neg (by simp), if_neg (by omega)]
      rw [if_pos (by omega), e]
      refine ⟨rfl, fun _ => ⟨by show decide (G.left = 0) = false; exact decide_eq_false (by omega), by show max (-1) (G.left - 1) = _; omega⟩, fun _ => by omega, ?_⟩
      show (G.D ++ [_]).length ≤ _
      rw [List.length_append, List.length_singleton]
      omega
theorem StopI.sync {a i : Nat} {G : LG} (h : StopI a i G) (hi : i ≤ a) : G.sync.1 = (if i = a then 6 else 0) ∧ StopI a (i + 1) G.sync.2 := by
  obtain ⟨h1, h2⟩ := h.on hi
  have hf := h.few
  by_cases h0 : i = a
  · subst h0
    have e : G.sync = (6, G.step) := by unfold LG.sync; rw [h1, if_neg (by decide), if_pos (by omega)]
    rw [if_pos rfl, e]
    exact ⟨rfl, fun _ => by omega, fun _ => by show decide (G.left = 0) = true; exact decide_eq_true (by omega), by show G.D.length ≤ _; omega⟩
  · have e : G.sync = (0, { G.step with safe := G.bs.length }) := by unfold LG.sync; rw [h1, if_neg (by decide), if_neg (by omega)]
    rw [if_neg h0, e]
    exact ⟨rfl, fun _ => ⟨by show decide (G.left = 0) = false; exact decide_eq_false (by omega), by show max (-1) (G.left - 1) = _; omega⟩, fun _ => by omega, by show G.D.length ≤ _; omega⟩
/-- behind a crash all goes on -/
theorem after_crash {G : LG} (hD : G.D.length ≤ 100) (keep : Int) (t : ByteArray) (ht : t.size ≤ 12) :
    ∃ D, (G.crash keep).D = D ∧ ∃ C, (G.crash keep).put 5 t = (((D.length : Int) + 1, 0), C) ∧ C.D = D ++ [⟨5, 0, 0, false, t⟩] ∧ C.sync.1 = 0 ∧ C.sync.2.D = C.D ∧ C.sync.2.safe = C.sync.2.bs.length := by
  refine ⟨_, rfl, { (G.crash keep).step with D := (G.crash keep).D ++ [⟨5, 0, 0, false, t⟩], bs := (G.crash keep).bs ++ recL (5 : Int).toNat false t }, ?_, rfl, ?_⟩
  · have hl : (G.crash keep).D.length ≤ 100 := Nat.le_trans (by show (G.D.take _).length ≤ _; rw [List.length_take]; omega) hD
    unfold LG.put LG.deed
    rw [if_neg (show ¬ (G.crash keep).stopped = true by simp [LG.crash]), rput_short (by decide) ht (by omega), if_neg (by simp), if_neg (show ¬ (G.crash keep).left = 0 by simp [LG.crash])]
  · unfold LG.sync
    rw [if_neg (by show ¬ decide ((G.crash keep).left = 0) = true; simp [LG.crash]), if_neg (by show ¬ max (-1) ((-1 : Int) - 1) = 0; decide)]
    exact ⟨rfl, rfl, rfl⟩
theorem read_snoc (D : List E) (k : Nat) (hk : k < 8) (t : ByteArray) : ratS (D ++ [(⟨k, 0, 0, false, t⟩ : E)]) k ((D ++ [(⟨k, 0, 0, false, t⟩ : E)]).length : Nat) = ((⟨k, (D.length : Int) + 1, ((D ++ [(⟨k, 0, 0, false, t⟩ : E)]).length : Nat), false, t⟩ : E), 0) := by
  unfold ratS
  rw [if_pos ⟨keyB_true.2 ⟨by omega, by omega⟩, by omega, by omega⟩, Int.toNat_natCast, List.take_length, refC_snoc, if_pos rfl]
  rfl
end Go.Proofs.YtljkclebcoanaaaDoor
