/-
  CONTRACT of gossip.Play. CONDITIONS: none.
  CONTRACTS of gossip.Play (whatever comes) and gossip.Done. CONDITIONS: none.
-/
import Derived.Test.YtlcbdhblaamekaaDoorGossip
import Derived.Deep.AppendLies
import Derived.Maps.AppendAt
namespace Go.Proofs.YtlcbdhblaamekaaDoor
open Go.RowKit
open Go.ChangeShapes Go.WideShapes Go.ChangeAt

def pows (n : Nat) : List Int := (List.range n).map fun i => wrap64 ((2 : Int) ^ i)
theorem pows_succ (n : Nat) : pows (n + 1) = pows n ++ [wrap64 ((2 : Int) ^ n)] := by simp [pows, List.range_succ]
theorem pows_length (n : Nat) : (pows n).length = n := by simp [pows]

/-- a row of ints in a block of the call's own -/
def OwnI (w : World) (g : Nat) (T : TypeId) (l : List Int) : Prop := ∃ cur : Array Value, Blk w g T cur ∧ ∀ i, i < l.length → cur[i]? = some (.int .i64 (l.getD i 0))
theorem OwnI.cell {w : World} {g : Nat} {T : TypeId} {l : List Int} (h : OwnI w g T l) {i : Nat} (hi : i < l.length) : w.cell? ⟨g, i, none⟩ = some (.int .i64 (l.getD i 0)) := by
  obtain ⟨cur, hB, hc⟩ := h
  rw [hB.cell i, hc i hi]
theorem OwnI.frozen {w : World} {g : Nat} {T : TypeId} {l : List Int} (h : OwnI w g T l) (i : Nat) : w.frozen? ⟨g, i, none⟩ = false := by
  obtain ⟨cur, hB, _⟩ := h
  exact hB.frozen i
theorem OwnI.lt {w : World} {g : Nat} {T : TypeId} {l : List Int} (h : OwnI w g T l) : g < w.heap.size := by
  obtain ⟨cur, hB, _⟩ := h
  exact hB.lt
theorem OwnI.drewN {w : World} {g : Nat} {T : TypeId} {l : List Int} (h : OwnI w g T l) (n : Nat) : OwnI (w.drewN n) g T l := h
theorem OwnI.drew {w : World} {g : Nat} {T : TypeId} {l : List Int} (h : OwnI w g T l) : OwnI w.drew g T l := h
theorem OwnI.put {w : World} {g : Nat} {T : TypeId} {l : List Int} (h : OwnI w g T l) {i : Nat} (hi : i < l.length) (u : Int) : OwnI (w.setCell ⟨g, i, none⟩ (.int .i64 u)) g T (l.set i u) := by
  obtain ⟨cur, hB, hc⟩ := h
  have hsz : i < cur.size := (Array.getElem?_eq_some_iff.1 (hc i hi)).1
  refine ⟨_, hB.put i _, fun j hj => ?_⟩
  rw [List.length_set] at hj
  rw [Array.getElem?_setIfInBounds]
  simp only [List.getD, List.getElem?_set]
  by_cases hij : i = j
  · subst hij
    rw [if_pos rfl, if_pos rfl, if_pos hsz, if_pos hi]
    rfl
  · rw [if_neg hij, if_neg hij]
    have := hc j hj
    simpa [List.getD] using this
theorem OwnI.of_own {w : World} {base : Nat} {T : TypeId} {v : Value} {l : List Int} (h : w.ownsRow base T 1 v l.length (l.map (Value.int .i64))) (h0 : 0 < l.length) :
    ∃ g cap, v = .slice (some ⟨g, 0, none⟩) l.length cap ∧ base ≤ g ∧ OwnI w g T l := by
  rcases h.2 with ⟨_, h2⟩ | ⟨g, cap, cur, rfl, hg, hh, _, _, _, ht⟩
  · omega
  · refine ⟨g, cap, rfl, hg, cur, hh, fun i hi => ?_⟩
    have h1 : (cur.toList.take (l.length * 1))[i]? = (l.map (Value.int .i64))[i]? := by rw [ht]
    rw [List.getElem?_take, if_pos (by omega)] at h1
    simp only [List.getElem?_map, List.getElem?_eq_getElem hi, Option.map_some] at h1
    rw [← Array.getElem?_toList, h1]
    simp [List.getD, List.getElem?_eq_getElem hi]

def orI (a b : Int) : Int := bits .or .i64 a b
def stepG (out : List Int) (c : List Int) : List Int :=
  (out.set (c.getD 0 0).toNat (orI (out.getD (c.getD 0 0).toNat 0) (out.getD (c.getD 1 0).toNat 0))).set (c.getD 1 0).toNat (orI (out.getD (c.getD 0 0).toNat 0) (out.getD (c.getD 1 0).toNat 0))
def playFrom (out : List Int) : List (SlV Int) → List Int
  | [] => out
  | c :: r => playFrom (stepG out c.xs) r
def playL (m : Nat) (cs : List (SlV Int)) : List Int := playFrom (pows m) cs
theorem stepG_length (out c : List Int) : (stepG out c).length = out.length := by simp [stepG]
theorem playFrom_length (cs : List (SlV Int)) : ∀ out, (playFrom out cs).length = out.length := by
  induction cs with
  | nil => intro out; rfl
  | cons c r ih => intro out; rw [playFrom, ih, stepG_length]
theorem playL_length (m : Nat) (cs : List (SlV Int)) : (playL m cs).length = m := by rw [playL, playFrom_length, pows_length]

/-- calls that are right -/
def CallOk (n : Int) (c : List Int) : Prop := c.length = 2 ∧ (0 ≤ c.getD 0 0 ∧ c.getD 0 0 < n) ∧ (0 ≤ c.getD 1 0 ∧ c.getD 1 0 < n) ∧ c.getD 0 0 ≠ c.getD 1 0
theorem chkCall_ok {n : Int} {c : List Int} : chkCall n c = 0 ↔ CallOk n c := by
  unfold chkCall CallOk
  by_cases h2 : c.length = 2
  · rw [if_pos h2]
    match c, h2 with
    | [x, y], _ =>
      have e0 : [x, y].getD 0 0 = x := rfl
      have e1 : [x, y].getD 1 0 = y := rfl
      have e2 : [x, y].any (outB n) = (decide (x < 0) || decide (n ≤ x) || (decide (y < 0) || decide (n ≤ y))) := by simp [outB]
      rw [e0, e1, e2]
      by_cases h : (x < 0 ∨ n ≤ x) ∨ (y < 0 ∨ n ≤ y)
      · rw [if_pos (by simpa using h)]
        constructor
        · intro h; cases h
        · rintro ⟨_, h1, h2, _⟩
          omega
      · rw [if_neg (by simpa using h)]
        by_cases hxy : x = y
        · rw [if_pos hxy]
          constructor
          · intro h; cases h
          · rintro ⟨_, _, _, h1⟩
            exact absurd hxy h1
        · rw [if_neg hxy]
          exact ⟨fun _ => ⟨rfl, by omega, by omega, hxy⟩, fun _ => rfl⟩
  · rw [if_neg h2]
    constructor
    · intro h; cases h
    · intro h; exact absurd h.1 h2
theorem chkCalls_ok {n : Int} {cs : List (SlV Int)} : chkCalls n cs = 0 ↔ ∀ c ∈ cs, CallOk n c.xs := by
  induction cs with
  | nil => simp [chkCalls]
  | cons c r ih =>
    rw [chkCalls]
    by_cases h : chkCall n c.xs = 0
    · rw [if_pos h, ih]
      simp [chkCall_ok.1 h]
    · rw [if_neg h]
      constructor
      · intro h2; exact absurd h2 h
      · intro h2; exact absurd (chkCall_ok.2 (h2 c (List.mem_cons_self ..))) h
theorem chkG_ok {n : Int} {cs : List (SlV Int)} (h : chkG n cs = 0) : (1 ≤ n ∧ n ≤ 6) ∧ cs.length ≤ 40 ∧ ∀ c ∈ cs, CallOk n c.xs := by
  unfold chkG at h
  split at h
  · rename_i hn
    split at h
    · cases h
    · exact ⟨nodesB_true.1 hn, by omega, chkCalls_ok.1 h⟩
  · cases h

set_option maxHeartbeats 2000000 in
theorem play_any (n : Int) (s : SlV (SlV Int)) (w : World) (hs : IntssAt w s) (h0 : chkG n s.xs = 0) :
    Calls Tryd.prog 27 #[.int .i64 n, .slice s.A s.xs.length s.c] w fun e w' => ∃ r : SlV Int, e = .returned (.tuple #[.slice r.A r.xs.length r.c, .nilIface]) ∧ r.xs = playL n.toNat s.xs ∧ IntsAt w' r ∧ Below w.heap.size w w' := by
  obtain ⟨hn', hcl, hcok⟩ := chkG_ok h0
  obtain ⟨m, rfl⟩ := Int.eq_ofNat_of_zero_le (show 0 ≤ n by omega)
  have he : errV (chkG (m : Int) s.xs) = .nilIface := by rw [h0]; rfl
  have He := hid he
  obtain ⟨i0, hi, iz0, iz1, iz2⟩ := info_parts (show (Tryd.prog.info? 3).map (fun i => (i.zero, i.size, i.bytes)) = some (some (.int .i64 0), 1, 8) by kernel_rfl)
  clear h0 he
  rw [Int.toNat_natCast]
  generalize hfin : playL m s.xs = fin
  have Hfin := hid hfin
  clear hfin
  go_enter Tryd.func27, Tryd.ntmps27
  go_wp2_with fail
  refine (gcheck_any m s _ hs).mono ?_; rintro e w1 ⟨rfl, hb1⟩; obtain ⟨hc1, hf1⟩ := bcell hb1; have hz1 := hb1.size; (try simp only [World.size_alloc] at hz1); (try simp only [World.size_setCell] at hz1)
  rw [He.out]
  go_wp2_with fail
  go_loopw [7, 19] (fun v i wr => ∃ k : Nat, k ≤ m ∧ i = .int .i64 k ∧ wr.ownsRow w.heap.size 3 1 v k ((pows k).map (Value.int .i64)) ∧ Below w.heap.size w wr) (fun _ i _ => m - (intOf i).toNat)
  case atStart => exact ⟨0, by omega, rfl, ⟨rfl, .inl ⟨rfl, rfl⟩⟩, hb1⟩
  case round =>
    obtain ⟨k, hk, rfl, hown, hbr⟩ := hrel
    by_cases hlt : k < m
    · have hz := hbr.size
      go_wp2_with (at_builtin; refine wpList_append_own _ rfl _ _ 30 rfl w.heap.size 3 i0 (.int .i64 0) 1 8 Tryd.underlying30 hi iz0 iz1 iz2 rfl (by decide) _ _ _ rfl (hown.alloc _) ⟨wr.heap.size, 0, none⟩ 1 1 [.int .i64 (wrap64 (2 ^ k))] rfl rfl ?c1 ?c2 ?c3 ?c4 ?c5 ?_)
      case c1 => exact cell_one_new _ _ _
      case c2 => intro u hu; simp at hu; subst hu; rfl
      case c3 => unfold maxLen; omega
      case c4 => omega
      case c5 => simp; omega
      intro v' w2 hown2 hgrow _
      have hb2 : Below w.heap.size w w2 := (hbr.alloc (by omega) _).grown hgrow (by simp; omega) (fun j hj => (hown.lt j hj).1)
      have hown3 : w2.ownsRow w.heap.size 3 1 v' (k + 1) ((pows (k + 1)).map (Value.int .i64)) := by
        rw [pows_succ, List.map_append]
        exact hown2
      clear hown2 hgrow
      go_wp2_with fail
      go_roundw
      case rel => exact ⟨k + 1, by omega, by go_num, hown3, hb2⟩
      case measure => simp [intOf]; omega
    · obtain rfl : k = m := by omega
      have hown' : wr.ownsRow w.heap.size 3 1 u7 (pows k).length ((pows k).map (Value.int .i64)) := by rw [pows_length]; exact hown
      obtain ⟨g, cap, hv, hg, hO⟩ := OwnI.of_own hown' (by rw [pows_length]; omega)
      rw [pows_length] at hv
      subst hv
      clear hown hown'
      have hlen := hs.len
      unfold maxLen at hlen
      obtain ⟨wo, rfl⟩ : ∃ wo : World, wo = wr := ⟨_, rfl⟩
      go_wp2_with fail
      go_loopw [30] (fun i wr => ∃ (j : Nat) (out : List Int), j ≤ s.xs.length ∧ i = .int .i64 j ∧ out.length = k ∧ OwnI wr g 3 out ∧ playFrom out (s.xs.drop j) = fin ∧ Below w.heap.size w wr) (fun i _ => s.xs.length - (intOf i).toNat)
      case atStart => exact ⟨0, pows k, Nat.zero_le _, rfl, pows_length k, hO, Hfin.out, hbr⟩
      case round =>
        obtain ⟨j, out, hj, rfl, hol, hOr, hpf, hbr'⟩ := hrel
        clear hO hbr
        by_cases hlt2 : j < s.xs.length
        · obtain ⟨b, off, hA, hb, hcells⟩ := hs.row (by omega)
          have hcell := hcells j hlt2
          have hin := hs.each j hlt2
          rw [← hbr'.cell (p := ⟨b, off + j, none⟩) hb] at hcell
          have hd : s.xs.drop j = s.xs[j] :: s.xs.drop (j + 1) := List.drop_eq_getElem_cons hlt2
          rw [hd, playFrom] at hpf
          have hok := hcok _ (List.getElem_mem hlt2)
          generalize s.xs[j] = c at *
          obtain ⟨c2, ⟨ca0, ca1⟩, ⟨cb0, cb1⟩, cne⟩ := hok
          obtain ⟨b2, off2, hA2, hb2, hcells2⟩ := hin.row (by omega)
          have hc0 := hcells2 0 (by omega)
          have hc1 := hcells2 1 (by omega)
          rw [Nat.add_zero] at hc0
          rw [← hbr'.cell (p := ⟨b2, _, none⟩) hb2] at hc0 hc1
          rw [hA2, c2] at hcell
          rw [stepG] at hpf
          generalize c.xs.getD 0 0 = x at *
          generalize c.xs.getD 1 0 = y at *
          obtain ⟨x, rfl⟩ := Int.eq_ofNat_of_zero_le ca0
          obtain ⟨y, rfl⟩ := Int.eq_ofNat_of_zero_le cb0
          have hxk : x < k := by omega
          have hyk : y < k := by omega
          have hox := hOr.cell (i := x) (by omega)
          have hoy := hOr.cell (i := y) (by omega)
          have hfx := hOr.frozen x
          have hfy := hOr.frozen y
          have Hpf := hid hpf
          rw [Int.toNat_natCast, Int.toNat_natCast] at hpf
          generalize out.getD x 0 = ox at *
          generalize out.getD y 0 = oy at *
          have hne : x ≠ y := by omega
          have Hpf := hid hpf
          rw [hA]
          clear hcells hA hcells2 hA2 hd hpf ca0 cb0 c2
          go_wp2_with fail
          go_quiet (fail)
          go_wp2_with fail
          go_region
          go_wp2_with fail
          go_roundw
          case rel =>
            refine ⟨j + 1, _, by omega, by go_num, ?_, (((hOr.drewN _).put (i := x) (by omega) (orI ox oy)).put (i := y) (by rw [List.length_set]; omega) (orI ox oy)), Hpf.out, ?_⟩
            · rw [List.length_set, List.length_set]; exact hol
            · exact ((Below.manyDrew hbr' _).setCell hg _).setCell hg _
          case measure => simp [intOf]; omega
        · obtain rfl : j = s.xs.length := by omega
          rw [List.drop_length, playFrom] at hpf
          go_wp2_with fail
          refine bodyPost_ret (v := .tuple #[.slice (some ⟨g, 0, none⟩) k cap, .nilIface]) ?_ rfl ⟨⟨some ⟨g, 0, none⟩, cap, out⟩, by simp only []; rw [hol], hpf, ?_, hbr'⟩
          · simp [results, Tryd.results27, go_sem]
          · exact ⟨fun _ => ⟨g, 0, rfl, hOr.lt, fun i hi => by rw [Nat.zero_add]; exact hOr.cell hi⟩, by simp only []; rw [hol]; unfold maxLen; omega⟩
end Go.Proofs.YtlcbdhblaamekaaDoor
namespace Go.Proofs.YtlcbdhblaamekaaDoor
open Go.RowKit
open Go.ChangeShapes Go.WideShapes Go.ChangeAt

theorem IntsAt.stays {w w' : World} {s : SlV Int} (h : IntsAt w s) (hb : Below w.heap.size w w') : IntsAt w' s := ⟨fun h0 => by
    obtain ⟨b', off', h1, h2, h3⟩ := h.row h0
    exact ⟨b', off', h1, Nat.lt_of_lt_of_le h2 hb.size, fun i hi => (hb.cell (p := ⟨b', _, none⟩) h2).trans (h3 i hi)⟩, h.len⟩
theorem IntssAt.stays {w w' : World} {s : SlV (SlV Int)} (h : IntssAt w s) (hb : Below w.heap.size w w') : IntssAt w' s := ⟨fun h0 => by
    obtain ⟨b', off', h1, h2, h3⟩ := h.row h0
    exact ⟨b', off', h1, Nat.lt_of_lt_of_le h2 hb.size, fun i hi => (hb.cell (p := ⟨b', _, none⟩) h2).trans (h3 i hi)⟩, fun i hi => (h.each i hi).stays hb, h.len⟩
theorem IntsAt.empty (w : World) : IntsAt w ⟨none, 0, []⟩ := ⟨(fun h => by cases h), Nat.zero_le _⟩
theorem IntssAt.empty (w : World) : IntssAt w ⟨none, 0, []⟩ := ⟨(fun h => by cases h), (fun i hi => by cases hi), Nat.zero_le _⟩

/-- what Play tells -/
def playR (n : Int) (cs : List (SlV Int)) : List Int := if chkG n cs = 0 then playL n.toNat cs else []
theorem playR_length (n : Int) (cs : List (SlV Int)) : (playR n cs).length ≤ 6 := by
  unfold playR
  split
  · rename_i h
    have := (chkG_ok h).1
    rw [playL_length]
    omega
  · exact Nat.zero_le _

set_option maxHeartbeats 2000000 in
theorem playR_any (n : Int) (s : SlV (SlV Int)) (w : World) (hs : IntssAt w s) :
    Calls Tryd.prog 27 #[.int .i64 n, .slice s.A s.xs.length s.c] w fun e w' => ∃ r : SlV Int, e = .returned (.tuple #[.slice r.A r.xs.length r.c, errV (chkG n s.xs)]) ∧ r.xs = playR n s.xs ∧ IntsAt w' r ∧ Below w.heap.size w w' := by
  by_cases h0 : chkG n s.xs = 0
  · rw [playR, if_pos h0, h0]
    exact play_any n s w hs h0
  · rw [playR, if_neg h0]
    have he := errV_ne h0
    have He := hid he
    clear he h0
    go_enter Tryd.func27, Tryd.ntmps27
    go_wp2_with fail
    refine (gcheck_any n s _ hs).mono ?_; rintro e w1 ⟨rfl, hb1⟩; obtain ⟨hc1, hf1⟩ := bcell hb1; have hz1 := hb1.size; (try simp only [World.size_alloc] at hz1); (try simp only [World.size_setCell] at hz1)
    rw [He.out]
    go_wp2_with fail
    refine bodyPost_ret (v := .tuple #[.slice none 0 0, _]) ?_ rfl ⟨⟨none, 0, []⟩, by rw [He.out]; rfl, rfl, IntsAt.empty _, hb1⟩
    simp [results, Tryd.results27, go_sem]

def fullI (n : Int) : Int := wrap64 (wrap64 ((2 : Int) ^ n.toNat) - 1)
theorem answers_done (bx : Nat) (n : Int) (h0 : 0 ≤ n) (h6 : n ≤ 6) : Answers bx n (fun k => decide (k ≠ fullI n)) 29 := by
  intro W x hc
  unfold fullI
  obtain ⟨n, rfl⟩ := Int.eq_ofNat_of_zero_le h0
  rw [Int.toNat_natCast]
  generalize hr : wrap64 (wrap64 ((2 : Int) ^ n) - 1) = r
  have Hr := hid hr
  by_cases h : x = wrap64 (wrap64 ((2 : Int) ^ n) - 1)
  · go_enter Tryd.func29, Tryd.ntmps29
    go_wp2
    go_ret
    exact ⟨ret_b (by rw [← Hr.out]; simp [h]), rfl⟩
  · go_enter Tryd.func29, Tryd.ntmps29
    go_wp2
    go_ret
    exact ⟨ret_b (by rw [← Hr.out]; simp [h]), rfl⟩

def doneB (n : Int) (cs : List (SlV Int)) : Bool := decide (chkG n cs = 0) && !((playR n cs).any fun k => decide (k ≠ fullI n))

set_option maxHeartbeats 2000000 in
theorem gdone_any (n : Int) (s : SlV (SlV Int)) (w : World) (hs : IntssAt w s) :
    Calls Tryd.prog 9 #[.int .i64 n, .slice s.A s.xs.length s.c] w fun e w' => e = .returned (.tuple #[.bool (doneB n s.xs), errV (chkG n s.xs)]) ∧ Below w.heap.size w w' := by
  by_cases h0 : chkG n s.xs = 0
  · rw [doneB, decide_eq_true h0, Bool.true_and]
    have hn := (chkG_ok h0).1
    generalize hd : (!((playR n s.xs).any fun k => decide (k ≠ fullI n))) = d
    have Hd := hid hd
    have H0 := hid h0
    clear h0 hd
    go_enter Tryd.func9, Tryd.ntmps9
    go_wp2_with fail
    refine (playR_any n s _ (hs.stays (by (repeat (first | with_reducible exact Below.refl _ _ | with_reducible assumption | (with_reducible refine Below.drew ?_) | (with_reducible refine Below.manyDrew ?_ _) | ((with_reducible refine Below.alloc ?_ ?_ _); rotate_left; (focus (first | omega | (dsimp only; omega) | (simp; done) | (simp; omega)))) | ((with_reducible refine Below.setCell ?_ ?_ _); rotate_left; (focus (first | omega | (dsimp only; omega) | (simp; done) | (simp; omega)))) | ((with_reducible refine Below.step ?_ (by assumption) ?_); rotate_left; (focus (first | omega | (dsimp only; omega) | (simp; done) | (simp; omega))))))))).mono ?_
    rintro e w1 ⟨⟨rA, rc, rx⟩, rfl, hr, hr1, hb1⟩
    simp only at hr
    have Hr := hid hr
    clear hr
    obtain ⟨hc1, hf1⟩ := bcell hb1
    have hz1 := hb1.size
    simp only [World.size_alloc] at hz1
    have hl1 : w.heap.size < w1.heap.size := by omega
    rw [H0.out, show errV 0 = .nilIface from rfl]
    go_wp2_with fail
    refine (containsFunc_done w.heap.size n _ (answers_done _ n (by omega) hn.2) ⟨rA, rc, rx⟩ _ hr1 (by rw [hc1 _ _ (by simp)]; simp [go_sem])).mono ?_
    rintro e w' ⟨rfl, rfl⟩
    have hd2 : (!(rx.any fun k => decide (k ≠ fullI n))) = d := by rw [Hr.out]; exact Hd.out
    have Hd2 := hid hd2
    clear hd2
    simp only []
    generalize (rx.any fun k => decide (k ≠ fullI n)) = q at *
    go_wp2_with fail
    refine bodyPost_ret (v := .tuple #[.bool d, .nilIface]) ?_ rfl ⟨by rw [H0.out]; rfl, by (repeat (first | with_reducible exact Below.refl _ _ | with_reducible assumption | (with_reducible refine Below.drew ?_) | (with_reducible refine Below.manyDrew ?_ _) | ((with_reducible refine Below.alloc ?_ ?_ _); rotate_left; (focus (first | omega | (dsimp only; omega) | (simp; done) | (simp; omega)))) | ((with_reducible refine Below.setCell ?_ ?_ _); rotate_left; (focus (first | omega | (dsimp only; omega) | (simp; done) | (simp; omega)))) | ((with_reducible refine Below.step ?_ (by assumption) ?_); rotate_left; (focus (first | omega | (dsimp only; omega) | (simp; done) | (simp; omega))))))⟩
    rw [← Hd2.out]
    simp [results, Tryd.results9, go_sem]
  · rw [doneB, decide_eq_false h0, Bool.false_and]
    have he := errV_ne h0
    have He := hid he
    clear he h0
    go_enter Tryd.func9, Tryd.ntmps9
    go_wp2_with fail
    refine (playR_any n s _ (hs.stays (by (repeat (first | with_reducible exact Below.refl _ _ | with_reducible assumption | (with_reducible refine Below.drew ?_) | (with_reducible refine Below.manyDrew ?_ _) | ((with_reducible refine Below.alloc ?_ ?_ _); rotate_left; (focus (first | omega | (dsimp only; omega) | (simp; done) | (simp; omega)))) | ((with_reducible refine Below.setCell ?_ ?_ _); rotate_left; (focus (first | omega | (dsimp only; omega) | (simp; done) | (simp; omega)))) | ((with_reducible refine Below.step ?_ (by assumption) ?_); rotate_left; (focus (first | omega | (dsimp only; omega) | (simp; done) | (simp; omega))))))))).mono ?_
    rintro e w1 ⟨⟨rA, rc, rx⟩, rfl, hr, hr1, hb1⟩
    simp only at hr
    have Hr := hid hr
    clear hr
    rw [He.out]
    go_wp2_with fail
    refine bodyPost_ret (v := .tuple #[.bool false, _]) ?_ rfl ⟨by rw [He.out], by (repeat (first | with_reducible exact Below.refl _ _ | with_reducible assumption | (with_reducible refine Below.drew ?_) | (with_reducible refine Below.manyDrew ?_ _) | ((with_reducible refine Below.alloc ?_ ?_ _); rotate_left; (focus (first | omega | (dsimp only; omega) | (simp; done) | (simp; omega)))) | ((with_reducible refine Below.setCell ?_ ?_ _); rotate_left; (focus (first | omega | (dsimp only; omega) | (simp; done) | (simp; omega)))) | ((with_reducible refine Below.step ?_ (by assumption) ?_); rotate_left; (focus (first | omega | (dsimp only; omega) | (simp; done) | (simp; omega))))))⟩
    simp [results, Tryd.results9, go_sem]
end Go.Proofs.YtlcbdhblaamekaaDoor
