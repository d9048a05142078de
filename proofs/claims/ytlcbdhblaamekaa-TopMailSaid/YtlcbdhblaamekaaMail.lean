/-
  CONTRACTS of ring.Node and of package mail: New, Count, is, ends, put, Send, Cut. CONDITIONS: none.
-/
import Derived.Test.YtlcbdhblaamekaaMailTy
import Derived.Laws.EntriesVeiled
import Derived.Deep.DeepCutAuto
import Derived.Deep.RegionLaw
import Derived.Deep.QuietTactic
import Derived.BigQuiet
namespace Go.Proofs.Ytlcbdhblaamekaa
open Go.RowKit
open Go.ChangeShapes Go.WideShapes Go.ChangeAt

def nodeB (n : Int) : Bool := decide (0 ≤ n) && decide (n < 6)
theorem nodeB_true {k : Int} : nodeB k = true ↔ 0 ≤ k ∧ k < 6 := by simp [nodeB]
theorem nodeB_false {k : Int} : nodeB k = false ↔ k < 0 ∨ 6 ≤ k := by
  rw [← Bool.not_eq_true, nodeB_true]; omega
theorem node_any (k : Int) (w : World) : Calls Try.prog 38 #[.int .i64 k] w fun e w' => e = .returned (.bool (nodeB k)) ∧ w = w' := by
  rcases hk : nodeB k with _ | _
  · rw [nodeB_false] at hk
    by_cases h0 : 0 ≤ k
    · have h8 : ¬ k < 6 := by omega
      clear hk
      go_enter Try.func38, Try.ntmps38
      go_wp2
      go_ret
      exact ⟨rfl, rfl⟩
    · clear hk
      go_enter Try.func38, Try.ntmps38
      go_wp2
      go_ret
      exact ⟨rfl, rfl⟩
  · rw [nodeB_true] at hk
    obtain ⟨h0, h8⟩ := hk
    go_enter Try.func38, Try.ntmps38
    go_wp2
    go_ret
    exact ⟨rfl, rfl⟩
def endsE (f t : Int) : Int := if nodeB f = true then (if nodeB t = true then (if f = t then 3 else 0) else 1) else 1
theorem endsE_zero {f t : Int} (h : endsE f t = 0) : nodeB f = true ∧ nodeB t = true ∧ f ≠ t := by
  unfold endsE at h
  split at h
  · rename_i h1
    split at h
    · rename_i h2
      split at h
      · cases h
      · exact ⟨h1, h2, by assumption⟩
    · cases h
  · cases h
theorem wfI_node {f : Int} (h : nodeB f = true) : wfI f := by
  have := nodeB_true.1 h
  exact ⟨by omega, by omega⟩

set_option maxHeartbeats 1000000 in
theorem ends_any (f t : Int) (w : World) : Calls Try.prog 26 #[.int .i64 f, .int .i64 t] w fun e w' => e = .returned (errV (endsE f t)) ∧ w = w' := by
  rcases hf : nodeB f with _ | _
  · rw [endsE, hf, if_neg (by decide), errV_ne (show (1 : Int) ≠ 0 by decide)]
    have Hf := hid hf
    clear hf
    go_enter Try.func26, Try.ntmps26
    go_wp2_with ((go_at_call 38; refine (node_any _ _).mono ?_; rintro e w' ⟨rfl, rfl⟩); rw [Hf.out])
    go_ret
    exact ⟨rfl, rfl⟩
  · rcases ht : nodeB t with _ | _
    · rw [endsE, hf, if_pos rfl, ht, if_neg (by decide), errV_ne (show (1 : Int) ≠ 0 by decide)]
      have Hf := hid hf
      have Ht := hid ht
      clear hf ht
      go_enter Try.func26, Try.ntmps26
      go_wp2_with ((go_at_call 38; refine (node_any _ _).mono ?_; rintro e w' ⟨rfl, rfl⟩); (first | rw [Hf.out] | rw [Ht.out]))
      go_ret
      exact ⟨rfl, rfl⟩
    · rw [endsE, hf, if_pos rfl, ht, if_pos rfl]
      have Hf := hid hf
      have Ht := hid ht
      clear hf ht
      by_cases hft : f = t
      · rw [if_pos hft, errV_ne (show (3 : Int) ≠ 0 by decide)]
        subst hft
        go_enter Try.func26, Try.ntmps26
        go_wp2_with ((go_at_call 38; refine (node_any _ _).mono ?_; rintro e w' ⟨rfl, rfl⟩); (first | rw [Hf.out] | rw [Ht.out]))
        go_ret
        exact ⟨rfl, rfl⟩
      · rw [if_neg hft, errV_zero]
        have hft2 : (f == t) = false := by rw [beq_eq_false_iff_ne]; exact hft
        clear hft
        go_enter Try.func26, Try.ntmps26
        go_wp2_with ((go_at_call 38; refine (node_any _ _).mono ?_; rintro e w' ⟨rfl, rfl⟩); (first | rw [Hf.out] | rw [Ht.out]))
        go_ret
        exact ⟨rfl, rfl⟩

theorem mnew_any (w : World) : Calls Try.prog 6 #[] w fun e w' => e = .returned (.pointer (some ⟨w.heap.size + 1, 0, none⟩)) ∧ MailO w.heap.size w' (w.heap.size + 1) w.heap.size (.slice none 0 0) [] 0 (fun _ _ => false) ∧ Below w.heap.size w w' := by
  have hmm := @run_makeMap Try.prog
  go_enter Try.func6, Try.ntmps6
  go_wp2
  go_ret
  refine ⟨?_, ⟨Blk.new_at (by simp), Ow.nil _ _ _ _ _, (fun h => by cases h), ((CutO.new w).belowS (by (repeat (first | with_reducible exact Below.refl _ _ | with_reducible assumption | (with_reducible refine Below.drew ?_) | (with_reducible refine Below.manyDrew ?_ _) | ((with_reducible refine Below.alloc ?_ ?_ _); rotate_left; (focus (first | omega | (dsimp only; omega) | (simp; done) | (simp; omega)))) | ((with_reducible refine Below.setCell ?_ ?_ _); rotate_left; (focus (first | omega | (dsimp only; omega) | (simp; done) | (simp; omega)))) | ((with_reducible refine Below.step ?_ (by assumption) ?_); rotate_left; (focus (first | omega | (dsimp only; omega) | (simp; done) | (simp; omega)))))))), (fun y hy => by cases hy), by simp, by omega, by omega⟩, by (repeat (first | with_reducible exact Below.refl _ _ | with_reducible assumption | (with_reducible refine Below.drew ?_) | (with_reducible refine Below.manyDrew ?_ _) | ((with_reducible refine Below.alloc ?_ ?_ _); rotate_left; (focus (first | omega | (dsimp only; omega) | (simp; done) | (simp; omega)))) | ((with_reducible refine Below.setCell ?_ ?_ _); rotate_left; (focus (first | omega | (dsimp only; omega) | (simp; done) | (simp; omega)))) | ((with_reducible refine Below.step ?_ (by assumption) ?_); rotate_left; (focus (first | omega | (dsimp only; omega) | (simp; done) | (simp; omega))))))⟩
  first | rfl | simp

section
variable {base s bm nc : Nat} {v : Value} {L : List Lt} {C : Int → Int → Bool} {w : World}
theorem MailO.way (h : MailO base w s bm v L nc C) : w.cell? ⟨s, 0, none⟩ = some v := h.blk.cell 0
theorem MailO.ways (h : MailO base w s bm v L nc C) : w.cell? ⟨s, 1, none⟩ = some (.map (some bm)) := h.blk.cell 1
end
def inB (i : Int) (n : Nat) : Bool := decide (0 ≤ i) && decide (i < (n : Int))
theorem inB_true {i : Int} {n : Nat} : inB i n = true ↔ 0 ≤ i ∧ i < (n : Int) := by simp [inB]
theorem inB_false {i : Int} {n : Nat} : inB i n = false ↔ i < 0 ∨ (n : Int) ≤ i := by
  rw [← Bool.not_eq_true, inB_true]; omega
theorem mis_any (base s bm nc : Nat) (i : Int) (v : Value) (L : List Lt) (C : Int → Int → Bool) (w : World) (hO : MailO base w s bm v L nc C) :
    Calls Try.prog 29 #[.pointer (some ⟨s, 0, none⟩), .int .i64 i] w fun e w' => e = .returned (.bool (inB i L.length)) ∧ w = w' := by
  have c0 := hO.way
  obtain ⟨A, c, hv, -, -, -⟩ := hO.own.form
  subst hv
  clear hO
  rcases hk : inB i L.length with _ | _
  · rw [inB_false] at hk
    by_cases h0 : 0 ≤ i
    · have h8 : ¬ i < (L.length : Int) := by omega
      clear hk
      go_enter Try.func29, Try.ntmps29
      go_wp2
      go_ret
      exact ⟨rfl, rfl⟩
    · clear hk
      go_enter Try.func29, Try.ntmps29
      go_wp2
      go_ret
      exact ⟨rfl, rfl⟩
  · rw [inB_true] at hk
    obtain ⟨h0, h8⟩ := hk
    go_enter Try.func29, Try.ntmps29
    go_wp2
    go_ret
    exact ⟨rfl, rfl⟩

/-- a letter is put behind all, and the mail keeps it -/
theorem put_new {base s bm nc : Nat} {w X w8 : World} {v v8 : Value} {L : List Lt} {C : Int → Int → Bool} {y : Lt} (hO : MailO base w s bm v L nc C) (hy : y.good) (hl : L.length < 40) (hX : Below w.heap.size w X) (h8 : Ow Lt.cells 7 base 42 w8 v8 (L ++ [y]))
    (f8 : Fr (fun k => some k = foot v) X w8) (o8 : foot v8 = foot v ∨ ∃ g, foot v8 = some g ∧ w.heap.size ≤ g) (ret : Value) : MRes base s bm v w ret (L ++ [y]) nc C (.returned ret) (w8.setCell ⟨s, 0, none⟩ v8) := by
  have hs := hO.blk.lt
  have hm := hO.cut.lt
  have hsX : s < X.heap.size := Nat.lt_of_lt_of_le hs hX.size
  have h8s : foot v8 ≠ some s := fun e => by
    rcases o8 with o | ⟨g, o, hg⟩
    · exact hO.off (by rw [← o, e])
    · rw [e] at o; cases o; omega
  have hF : Fr (fun k => k = s) w8 (w8.setCell ⟨s, 0, none⟩ v8) := (Fr.refl (fun k => k = s) _).setCell (p := ⟨s, 0, none⟩) (.inl rfl) _
  refine ⟨v8, rfl, ⟨?_, h8.fr hF (fun g hg e => h8s (by rw [hg, e])), h8s, ((hO.cut.belowS hX).fr f8 (fun e => hO.offm e.symm)).fr hF hO.ne.symm, fun z hz => ?_, by simp; omega, hO.lbs, hO.lbb⟩, ?_, o8⟩
  · exact ((hO.blk.belowS hX).fr f8 (fun e => hO.off e.symm)).put 0 v8
  · rcases List.mem_append.1 hz with hz | hz
    · exact hO.good z hz
    · rw [List.mem_singleton.1 hz]; exact hy
  · exact (((Fr.ofB hX).step (f8.mono (fun i _ h => .inr (.inr h)))).step (hF.mono (fun i _ h => .inl h)))

def putE (L : List Lt) : Int := if L.length = 40 then 4 else 0
def putL (L : List Lt) (y : Lt) : List Lt := if L.length = 40 then L else L ++ [y]
set_option maxHeartbeats 8000000 in
set_option maxRecDepth 100000 in
theorem mput_any (base s bm nc : Nat) (x0 x1 x2 x3 x4 : Int) (x5 : Bool) (x6 : ByteArray) (hx : (⟨x0, x1, x2, x3, x4, x5, x6⟩ : Lt).good) (v : Value) (L : List Lt) (C : Int → Int → Bool) (w : World) (hO : MailO base w s bm v L nc C) :
    Calls Try.prog 28 #[.pointer (some ⟨s, 0, none⟩), .agg #[.int .i64 x0, .int .i64 x1, .int .i64 x2, .int .i64 x3, .int .i64 x4, .bool x5, .string x6]] w
      (MRes base s bm v w (errV (putE L)) (putL L ⟨x0, x1, x2, x3, x4, x5, x6⟩) nc C) := by
  have c0 := hO.way
  have z0 := hO.blk.frozen 0
  have hs := hO.blk.lt
  have hbs := hO.lbs
  have hlens := hO.lens
  obtain ⟨A, c, hv, hlc, hcm, -⟩ := hO.own.form
  rw [hv] at c0
  have HO := hid hO
  have Hv := hid hv
  clear hO hv
  by_cases h40 : L.length = 40
  · have hq : ((L.length : Int) == 40) = true := by rw [h40]; rfl
    rw [putE, if_pos h40, putL, if_pos h40, errV_ne (show (4 : Int) ≠ 0 by decide)]
    clear h40
    go_enter Try.func28, Try.ntmps28
    go_wp2_with fail
    go_ret
    exact MRes.no HO.out (by (repeat (first | with_reducible exact Below.refl _ _ | with_reducible assumption | (with_reducible refine Below.drew ?_) | (with_reducible refine Below.manyDrew ?_ _) | ((with_reducible refine Below.alloc ?_ ?_ _); rotate_left; (focus (first | omega | (dsimp only; omega) | (simp; done) | (simp; omega)))) | ((with_reducible refine Below.setCell ?_ ?_ _); rotate_left; (focus (first | omega | (dsimp only; omega) | (simp; done) | (simp; omega)))) | ((with_reducible refine Below.step ?_ (by assumption) ?_); rotate_left; (focus (first | omega | (dsimp only; omega) | (simp; done) | (simp; omega)))))))
  · have hq : ((L.length : Int) == 40) = false := by rw [beq_eq_false_iff_ne]; omega
    have hl40 : L.length < 40 := by omega
    rw [putE, if_neg h40, putL, if_neg h40, errV_zero]
    clear h40
    have Hown := hid (show Ow Lt.cells 7 base 42 w (.slice A L.length c) L from by rw [← Hv.out]; exact HO.out.own)
    have hfs : ¬ some s = foot (.slice A L.length c) := fun e => HO.out.off (by rw [Hv.out]; exact e.symm)
    have hXb : Blk (w.alloc (.cells #[.int .i64 x0, .int .i64 x1, .int .i64 x2, .int .i64 x3, .int .i64 x4, .bool x5, .string x6] 42)) w.heap.size 42 #[.int .i64 x0, .int .i64 x1, .int .i64 x2, .int .i64 x3, .int .i64 x4, .bool x5, .string x6] := Blk.new _ _ _
    have HXb := hid hXb
    clear hXb
    go_enter Try.func28, Try.ntmps28
    go_wp2_with fail
    obtain ⟨w1, hw1⟩ : ∃ w1 : World, w1 = w.alloc (.cells #[.int .i64 x0, .int .i64 x1, .int .i64 x2, .int .i64 x3, .int .i64 x4, .bool x5, .string x6] 42) := ⟨_, rfl⟩
    rw [← hw1]
    have hB1 : Blk w1 w.heap.size 42 #[.int .i64 x0, .int .i64 x1, .int .i64 x2, .int .i64 x3, .int .i64 x4, .bool x5, .string x6] := by rw [hw1]; exact HXb.out
    have hb1 : Below w.heap.size w w1 := by rw [hw1]; (repeat (first | with_reducible exact Below.refl _ _ | with_reducible assumption | (with_reducible refine Below.drew ?_) | (with_reducible refine Below.manyDrew ?_ _) | ((with_reducible refine Below.alloc ?_ ?_ _); rotate_left; (focus (first | omega | (dsimp only; omega) | (simp; done) | (simp; omega)))) | ((with_reducible refine Below.setCell ?_ ?_ _); rotate_left; (focus (first | omega | (dsimp only; omega) | (simp; done) | (simp; omega)))) | ((with_reducible refine Below.step ?_ (by assumption) ?_); rotate_left; (focus (first | omega | (dsimp only; omega) | (simp; done) | (simp; omega))))))
    have hz1 : w1.heap.size = w.heap.size + 1 := by rw [hw1]; simp
    have d0 := hB1.cell 0
    have d1 := hB1.cell 1
    have d2 := hB1.cell 2
    have d3 := hB1.cell 3
    have d4 := hB1.cell 4
    have d5 := hB1.cell 5
    have d6 := hB1.cell 6
    have hs1 : s < w1.heap.size := by omega
    have e0 : w1.cell? ⟨s, 0, none⟩ = some (.slice A L.length c) := (hb1.cell (p := ⟨s, 0, none⟩) hs).trans c0
    have g0 : w1.frozen? ⟨s, 0, none⟩ = false := (hb1.frozen (p := ⟨s, 0, none⟩) hs).trans z0
    have Hown1 := hid (Hown.out.belowS hb1)
    have HB1 := hid hB1
    have Hb1 := hid hb1
    have Hz1 := hid hz1
    have hbw1 : base ≤ w1.heap.size := by omega
    have hwf : w.heap.size < w1.heap.size := by omega
    clear hw1 hB1 hb1 c0 z0 hz1
    simp at d0 d1 d2 d3 d4 d5 d6
    go_region_law (first | (refine appLtat _ base (.slice A L.length c) L x0 x1 x2 x3 x4 x5 x6 w1.heap.size ?_ (Hown1.out.alloc _).drew rfl _ _ rfl rfl rfl ?_ ?_ ?_; (focus exact LtAt.of_blk (Blk.new w1 _ _).drew); (focus omega); (focus (first | omega | (simp; omega))); intro v8 w8 h8 f8 o8; obtain ⟨A8, c8, hv8, p8, q8, _⟩ := h8.form; rw [List.length_append, List.length_singleton] at hv8; subst hv8; have hz8 : w8.frozen? ⟨s, 0, none⟩ = false := (f8.frozen (p := ⟨s, 0, none⟩) (by simp; omega) hfs).trans ((((Below.refl w1.heap.size w1).alloc (Nat.le_refl _) _).frozen (p := ⟨s, 0, none⟩) hs1).trans g0); have hc8 : w8.cell? ⟨s, 0, none⟩ = some (.slice A L.length c) := (f8.cell (p := ⟨s, 0, none⟩) (by simp; omega) hfs).trans ((World.cell?_alloc_lt w1 _ ⟨s, 0, none⟩ hs1).trans e0)))
    all_goals
      have hfin := fun ret => put_new HO.out hx hl40 (X := (w1.alloc (.cells #[.int .i64 x0, .int .i64 x1, .int .i64 x2, .int .i64 x3, .int .i64 x4, .bool x5, .string x6] 42)).drew) ((Hb1.out.alloc (by omega) _).drew) h8 (by rw [Hv.out]; exact f8) (by rw [Hv.out]; exact o8.imp (fun o => o) (fun o => ⟨_, o, by simp; omega⟩)) ret
      have Hfin := hid hfin
      clear hfin h8 f8 o8 hz8 hc8
      go_wp2_with fail
      go_ret
      exact Hfin.out _

/-- what Send tells, and leaves -/
def chkL (y : Lt) : Int := chk ⟨y.key, y.ver, y.asof, y.gone, y.text⟩
def sendE (L : List Lt) (y : Lt) : Int := if endsE y.frm y.dst = 0 then (if chkL y = 0 then putE L else chkL y) else endsE y.frm y.dst
def sendL (C : Int → Int → Bool) (L : List Lt) (y : Lt) : List Lt := if endsE y.frm y.dst = 0 then (if chkL y = 0 then (if C y.frm y.dst = true then L else putL L y) else L) else L
theorem putE_lt {L : List Lt} (h : L.length < 40) : putE L = 0 := by rw [putE, if_neg (by omega)]
theorem MRes.trans {base s bm nc : Nat} {v : Value} {W w : World} {ret : Value} {L' : List Lt} {C' : Int → Int → Bool} {e : Ending} {w' : World} (h : MRes base s bm v w ret L' nc C' e w') (hb : Below W.heap.size W w) : MRes base s bm v W ret L' nc C' e w' := by
  obtain ⟨v', h1, h2, h3, h4⟩ := h
  exact ⟨v', h1, h2, (Fr.ofB hb).step h3, h4.imp (fun h => h) (fun ⟨g, h, hg⟩ => ⟨g, h, Nat.le_trans hb.size hg⟩)⟩
set_option maxHeartbeats 8000000 in
set_option maxRecDepth 100000 in
theorem msend_any (base s bm nc : Nat) (x0 x1 x2 x3 x4 : Int) (x5 : Bool) (x6 : ByteArray) (hx : (⟨x0, x1, x2, x3, x4, x5, x6⟩ : Lt).good) (v : Value) (L : List Lt) (C : Int → Int → Bool) (w : World) (hO : MailO base w s bm v L nc C) :
    Calls Try.prog 10 #[.pointer (some ⟨s, 0, none⟩), .agg #[.int .i64 x0, .int .i64 x1, .int .i64 x2, .int .i64 x3, .int .i64 x4, .bool x5, .string x6]] w
      (MRes base s bm v w (errV (sendE L ⟨x0, x1, x2, x3, x4, x5, x6⟩)) (sendL C L ⟨x0, x1, x2, x3, x4, x5, x6⟩) nc C) := by
  have htx : x6.size ≤ maxLen := hx.2.2.2.2.2.2
  by_cases he : endsE x0 x1 = 0
  · by_cases hc : chk ⟨x2, x3, x4, x5, x6⟩ = 0
    · obtain ⟨hn0, hn1, -⟩ := endsE_zero he
      have hlook := hO.cut
      obtain ⟨A, c, hv, hlc, hcm, -⟩ := hO.own.form
      have hlens := hO.lens
      have hs := hO.blk.lt
      have HO := hid hO
      have Hv := hid hv
      have hCk := hid (fun W => show Calls Try.prog 27 #[.agg #[.int .i64 x2, .int .i64 x3, .int .i64 x4, .bool x5, .string x6]] W (fun e w' => e = .returned .nilIface ∧ Below W.heap.size W w') from by
        have := check_any x2 x3 x4 x5 x6 W htx
        rw [hc, errV_zero] at this
        exact this)
      have hEn := hid (fun W => show Calls Try.prog 26 #[.int .i64 x0, .int .i64 x1] W (fun e w' => e = .returned .nilIface ∧ W = w') from by
        have := ends_any x0 x1 W
        rw [he, errV_zero] at this
        exact this)
      rw [sendE, if_pos (show endsE x0 x1 = 0 from he), if_pos (show chkL ⟨x0, x1, x2, x3, x4, x5, x6⟩ = 0 from hc)]
      have HT := hid (show C x0 x1 = true → sendL C L ⟨x0, x1, x2, x3, x4, x5, x6⟩ = L from fun h => by rw [sendL, if_pos (show endsE x0 x1 = 0 from he), if_pos (show chkL ⟨x0, x1, x2, x3, x4, x5, x6⟩ = 0 from hc), if_pos (show C x0 x1 = true from h)])
      have HF := hid (show C x0 x1 = false → sendL C L ⟨x0, x1, x2, x3, x4, x5, x6⟩ = putL L ⟨x0, x1, x2, x3, x4, x5, x6⟩ from fun h => by rw [sendL, if_pos (show endsE x0 x1 = 0 from he), if_pos (show chkL ⟨x0, x1, x2, x3, x4, x5, x6⟩ = 0 from hc), if_neg (show ¬ C x0 x1 = true by rw [h]; decide)])
      have Hlook := hid (show ∀ W, Below w.heap.size w W → ∀ n, (Instr.lookup 59 (.map (some bm)) (.agg #[.int .i64 x0, .int .i64 x1]) false).run Try.prog (W.drewN n) = .ok (.bool (C x0 x1)) (W.drewN n) from fun W hW n => (hlook.belowS hW).look (wfI_node hn0) (wfI_node hn1) n)
      clear he hc hv hO hlook hn0 hn1
      have hXb : Blk (w.alloc (.cells #[.int .i64 x0, .int .i64 x1, .int .i64 x2, .int .i64 x3, .int .i64 x4, .bool x5, .string x6] 42)) w.heap.size 42 #[.int .i64 x0, .int .i64 x1, .int .i64 x2, .int .i64 x3, .int .i64 x4, .bool x5, .string x6] := Blk.new _ _ _
      have HXb := hid hXb
      clear hXb
      go_enter Try.func10, Try.ntmps10
      go_wp2_with fail
      refine (hEn.out _).mono ?_
      rintro e w' ⟨rfl, rfl⟩
      go_wp2_with fail
      refine (hCk.out _).mono ?_
      rintro e w2 ⟨rfl, hb2⟩
      have hb2' : Below w.heap.size w w2 := (show Below w.heap.size w _ by (repeat (first | with_reducible exact Below.refl _ _ | with_reducible assumption | (with_reducible refine Below.drew ?_) | (with_reducible refine Below.manyDrew ?_ _) | ((with_reducible refine Below.alloc ?_ ?_ _); rotate_left; (focus (first | omega | (dsimp only; omega) | (simp; done) | (simp; omega)))) | ((with_reducible refine Below.setCell ?_ ?_ _); rotate_left; (focus (first | omega | (dsimp only; omega) | (simp; done) | (simp; omega)))) | ((with_reducible refine Below.step ?_ (by assumption) ?_); rotate_left; (focus (first | omega | (dsimp only; omega) | (simp; done) | (simp; omega))))))).trans (hb2.mono (by simp))
      have hB2 := HXb.out.belowS hb2
      have e0 : w2.cell? ⟨s, 0, none⟩ = some v := (hb2'.cell (p := ⟨s, 0, none⟩) hs).trans HO.out.way
      have e1 : w2.cell? ⟨s, 1, none⟩ = some (.map (some bm)) := (hb2'.cell (p := ⟨s, 1, none⟩) hs).trans HO.out.ways
      rw [Hv.out] at e0
      have d0 : w2.cell? ⟨w.heap.size, 0, none⟩ = some (.int .i64 x0) := hB2.cell 0
      have d1 : w2.cell? ⟨w.heap.size, 1, none⟩ = some (.int .i64 x1) := hB2.cell 1
      have d2 : w2.cell? ⟨w.heap.size, 2, none⟩ = some (.int .i64 x2) := hB2.cell 2
      have d3 : w2.cell? ⟨w.heap.size, 3, none⟩ = some (.int .i64 x3) := hB2.cell 3
      have d4 : w2.cell? ⟨w.heap.size, 4, none⟩ = some (.int .i64 x4) := hB2.cell 4
      have d5 : w2.cell? ⟨w.heap.size, 5, none⟩ = some (.bool x5) := hB2.cell 5
      have d6 : w2.cell? ⟨w.heap.size, 6, none⟩ = some (.string x6) := hB2.cell 6
      have hlk := Hlook.out w2 hb2'
      have Hb2 := hid hb2'
      clear hb2 hb2' hB2
      rcases hC : C x0 x1 with _ | _
      · rw [hC] at hlk
        have HC := hid hC
        clear hC
        go_wp2_with fail
        go_quiet (fail)
        have hP := mput_any base s bm nc x0 x1 x2 x3 x4 x5 x6 hx v L C (w2.drewN nq) (HO.out.belowS (Below.manyDrew Hb2.out nq))
        have HP := hid hP
        clear hP hlk
        go_wp2_with fail
        refine HP.out.mono ?_
        intro e w3 h3
        have h3' := h3.trans (Below.manyDrew Hb2.out nq)
        obtain ⟨v', rfl, h4⟩ := h3'
        have H4 := hid h4
        clear h3 h4
        go_wp2_with fail
        go_ret
        rw [HF.out HC.out]
        exact ⟨v', rfl, H4.out⟩
      · rw [hC] at hlk
        have HC := hid hC
        clear hC
        by_cases h40 : L.length < 40
        · have h40' : (L.length : Int) < 40 := by omega
          go_wp2_with fail
          go_quiet (fail)
          clear hlk
          go_wp2_with fail
          go_ret
          rw [putE_lt h40, errV_zero, HT.out HC.out]
          exact MRes.no HO.out (Below.manyDrew Hb2.out nq)
        · have h40' : ¬ (L.length : Int) < 40 := by omega
          have hl4 : L.length = 40 := by omega
          have Hl4 := hid hl4
          clear hl4
          go_wp2_with fail
          go_quiet (fail)
          have hP := mput_any base s bm nc x0 x1 x2 x3 x4 x5 x6 hx v L C (w2.drewN nq) (HO.out.belowS (Below.manyDrew Hb2.out nq))
          rw [putL, if_pos Hl4.out] at hP
          have HP := hid hP
          clear hP hlk
          go_wp2_with fail
          refine HP.out.mono ?_
          intro e w3 h3
          have h3' := h3.trans (Below.manyDrew Hb2.out nq)
          obtain ⟨v', rfl, h4⟩ := h3'
          have H4 := hid h4
          clear h3 h4
          go_wp2_with fail
          go_ret
          rw [HT.out HC.out]
          exact ⟨v', rfl, H4.out⟩
    · rw [sendE, if_pos (show endsE x0 x1 = 0 from he), if_neg (show ¬ chkL ⟨x0, x1, x2, x3, x4, x5, x6⟩ = 0 from hc), sendL, if_pos (show endsE x0 x1 = 0 from he), if_neg (show ¬ chkL ⟨x0, x1, x2, x3, x4, x5, x6⟩ = 0 from hc)]
      have hEn := hid (fun W => show Calls Try.prog 26 #[.int .i64 x0, .int .i64 x1] W (fun e w' => e = .returned .nilIface ∧ W = w') from by
        have := ends_any x0 x1 W
        rw [he, errV_zero] at this
        exact this)
      have hCk := hid (fun W => show Calls Try.prog 27 #[.agg #[.int .i64 x2, .int .i64 x3, .int .i64 x4, .bool x5, .string x6]] W (fun e w' => e = .returned (.iface 53 (.int .i64 (chk ⟨x2, x3, x4, x5, x6⟩))) ∧ Below W.heap.size W w') from by
        have := check_any x2 x3 x4 x5 x6 W htx
        rw [errV_ne hc] at this
        exact this)
      rw [chkL, errV_ne (show chk ⟨x2, x3, x4, x5, x6⟩ ≠ 0 from hc)]
      have HO := hid hO
      generalize hce : chk ⟨x2, x3, x4, x5, x6⟩ = ce at *
      clear hO he hc hce
      go_enter Try.func10, Try.ntmps10
      go_wp2_with fail
      refine (hEn.out _).mono ?_
      rintro e w' ⟨rfl, rfl⟩
      go_wp2_with fail
      refine (hCk.out _).mono ?_
      rintro e w2 ⟨rfl, hb2⟩
      have hb2' : Below w.heap.size w w2 := (show Below w.heap.size w _ by (repeat (first | with_reducible exact Below.refl _ _ | with_reducible assumption | (with_reducible refine Below.drew ?_) | (with_reducible refine Below.manyDrew ?_ _) | ((with_reducible refine Below.alloc ?_ ?_ _); rotate_left; (focus (first | omega | (dsimp only; omega) | (simp; done) | (simp; omega)))) | ((with_reducible refine Below.setCell ?_ ?_ _); rotate_left; (focus (first | omega | (dsimp only; omega) | (simp; done) | (simp; omega)))) | ((with_reducible refine Below.step ?_ (by assumption) ?_); rotate_left; (focus (first | omega | (dsimp only; omega) | (simp; done) | (simp; omega))))))).trans (hb2.mono (by simp))
      have Hb2 := hid hb2'
      clear hb2 hb2'
      go_wp2_with fail
      go_ret
      exact MRes.no HO.out Hb2.out
  · rw [sendE, if_neg (show ¬ endsE x0 x1 = 0 from he), sendL, if_neg (show ¬ endsE x0 x1 = 0 from he)]
    have hEn := hid (fun W => show Calls Try.prog 26 #[.int .i64 x0, .int .i64 x1] W (fun e w' => e = .returned (.iface 53 (.int .i64 (endsE x0 x1))) ∧ W = w') from by
      have := ends_any x0 x1 W
      rw [errV_ne he] at this
      exact this)
    show Calls _ _ _ _ (MRes base s bm v w (errV (endsE x0 x1)) _ nc C)
    rw [errV_ne he]
    have HO := hid hO
    generalize hce : endsE x0 x1 = ce at *
    clear hO he hce
    go_enter Try.func10, Try.ntmps10
    go_wp2_with fail
    refine (hEn.out _).mono ?_
    rintro e w' ⟨rfl, rfl⟩
    go_wp2_with fail
    go_ret
    exact MRes.no HO.out (by (repeat (first | with_reducible exact Below.refl _ _ | with_reducible assumption | (with_reducible refine Below.drew ?_) | (with_reducible refine Below.manyDrew ?_ _) | ((with_reducible refine Below.alloc ?_ ?_ _); rotate_left; (focus (first | omega | (dsimp only; omega) | (simp; done) | (simp; omega)))) | ((with_reducible refine Below.setCell ?_ ?_ _); rotate_left; (focus (first | omega | (dsimp only; omega) | (simp; done) | (simp; omega)))) | ((with_reducible refine Below.step ?_ (by assumption) ?_); rotate_left; (focus (first | omega | (dsimp only; omega) | (simp; done) | (simp; omega)))))))

end Go.Proofs.Ytlcbdhblaamekaa
