/-
  CONTRACT of gossip.Plan, and that by the plan all know all. CONDITIONS: none.
-/
import Derived.Test.YtlcbdhblaamekaaDoorGossipBr
import Derived.Test.YtlcbdhblaamekaaDoorIKit
import Derived.Test.YtlcbdhblaamekaaDoorRowS
namespace Go.Proofs.YtlcbdhblaamekaaDoor
open Go.RowKit
open Go.ChangeShapes Go.WideShapes Go.ChangeAt

theorem Blk.newAt (w : World) (T : TypeId) (cs : Array Value) {g : Nat} (h : w.heap.size = g) : Blk (w.alloc (.cells cs T)) g T cs := by subst h; exact Blk.new w T cs
/-- a literal of rows of ints: the rows one after the other, then the row of these -/
def litS (g : Nat) : List (List Int) → List (SlV Int)
  | [] => []
  | r :: rs => ⟨some ⟨g, 0, none⟩, r.length, r⟩ :: litS (g + 1) rs
def litW (w : World) : List (List Int) → World
  | [] => w
  | r :: rs => litW (w.alloc (.cells (ints r) 3)) rs
def litR (w : World) (rs : List (List Int)) : World := (litW w rs).alloc (.cells ((litS w.heap.size rs).map SlV.val).toArray 30)
theorem litS_length : ∀ (rs : List (List Int)) (g : Nat), (litS g rs).length = rs.length
  | [], _ => rfl
  | _ :: rs, g => by rw [litS, List.length_cons, List.length_cons, litS_length rs]
theorem litS_xs : ∀ (rs : List (List Int)) (g : Nat), (litS g rs).map SlV.xs = rs
  | [], _ => rfl
  | _ :: rs, g => by rw [litS, List.map_cons, litS_xs rs]
theorem litW_size : ∀ (rs : List (List Int)) (w : World), (litW w rs).heap.size = w.heap.size + rs.length
  | [], _ => rfl
  | _ :: rs, w => by rw [litW, litW_size rs, World.size_alloc, List.length_cons]; omega
theorem litW_below : ∀ (rs : List (List Int)) (w w0 : World), Below w0.heap.size w0 w → Below w0.heap.size w0 (litW w rs)
  | [], _, _, h => h
  | _ :: rs, _, w0, h => litW_below rs _ w0 (h.alloc h.size _)
theorem litS_at : ∀ (rs : List (List Int)) (w : World), (∀ r ∈ rs, r.length ≤ maxLen) → ∀ x ∈ litS w.heap.size rs, IntsAt (litW w rs) x
  | [], _, _ => fun x hx => by cases hx
  | r :: rs, w, hl => fun x hx => by
    rw [litS] at hx
    rcases List.mem_cons.1 hx with rfl | hx
    · exact (IntsAt.of_blk (Blk.new w 3 (ints r)) r.length (hl _ (List.mem_cons_self ..))).stays0 (litW_below rs _ _ (Below.refl _ _))
    · rw [← World.size_alloc w (.cells (ints r) 3)] at hx
      exact litS_at rs _ (fun r hr => hl r (List.mem_cons_of_mem _ hr)) x hx
theorem litR_below (rs : List (List Int)) (w : World) : Below w.heap.size w (litR w rs) :=
  (litW_below rs w w (Below.refl _ _)).alloc (by rw [litW_size]; omega) _
theorem litR_at (rs : List (List Int)) (w : World) (c : Nat) (hl : ∀ r ∈ rs, r.length ≤ maxLen) (hn : rs.length ≤ maxLen) : IntssAt (litR w rs) ⟨some ⟨w.heap.size + rs.length, 0, none⟩, c, litS w.heap.size rs⟩ :=
  (SsAt.of_blk (Blk.newAt _ _ _ (litW_size rs w)) c (by rw [litS_length]; exact hn)).ints (fun x hx => (litS_at rs w hl x hx).stays0 ((Below.refl _ _).alloc (Nat.le_refl _) _))

/-- the plan -/
def endsL (k : Nat) : List (List Int) := (List.range k).map fun i => [((4 + i : Nat) : Int), 0]
theorem endsL_succ (k : Nat) : endsL (k + 1) = endsL k ++ [[((4 + k : Nat) : Int), 0]] := by simp [endsL, List.range_succ]
theorem endsL_length (k : Nat) : (endsL k).length = k := by simp [endsL]
def fourL : List (List Int) := [[0, 1], [2, 3], [0, 2], [1, 3]]
def planL : Nat → List (List Int)
  | 1 => []
  | 2 => [[0, 1]]
  | 3 => [[0, 1], [0, 2], [0, 1]]
  | n => endsL (n - 4) ++ fourL ++ endsL (n - 4)
theorem chkCalls_xs (n : Int) : ∀ l l' : List (SlV Int), l.map SlV.xs = l'.map SlV.xs → chkCalls n l = chkCalls n l'
  | [], [], _ => rfl
  | [], _ :: _, h => by simp at h
  | _ :: _, [], h => by simp at h
  | x :: l, y :: l', h => by
    simp only [List.map_cons, List.cons.injEq] at h
    rw [chkCalls, chkCalls, h.1, chkCalls_xs n l l' h.2]
theorem chkG_xs (n : Int) {l l' : List (SlV Int)} (h : l.map SlV.xs = l'.map SlV.xs) : chkG n l = chkG n l' := by
  have hl := congrArg List.length h
  rw [List.length_map, List.length_map] at hl
  rw [chkG, chkG, hl, chkCalls_xs n l l' h]
theorem playFrom_xs : ∀ (l l' : List (SlV Int)) (out : List Int), l.map SlV.xs = l'.map SlV.xs → playFrom out l = playFrom out l'
  | [], [], _, _ => rfl
  | [], _ :: _, _, h => by simp at h
  | _ :: _, [], _, h => by simp at h
  | x :: l, y :: l', out, h => by
    simp only [List.map_cons, List.cons.injEq] at h
    rw [playFrom, playFrom, h.1, playFrom_xs l l' _ h.2]
theorem playR_xs (n : Int) {l l' : List (SlV Int)} (h : l.map SlV.xs = l'.map SlV.xs) : playR n l = playR n l' := by
  rw [playR, playR, chkG_xs n h, playL, playL, playFrom_xs l l' _ h]
theorem doneB_xs (n : Int) {l l' : List (SlV Int)} (h : l.map SlV.xs = l'.map SlV.xs) : doneB n l = doneB n l' := by
  rw [doneB, doneB, chkG_xs n h, playR_xs n h]
theorem plan_good {n : Nat} (h1 : 1 ≤ n) (h6 : n ≤ 6) {l : List (SlV Int)} (h : l.map SlV.xs = planL n) : chkG n l = 0 ∧ doneB n l = true ∧ l.length = needN n ∧ (4 ≤ n → (l.length : Int) = 2 * (n : Int) - 4) := by
  have hl := congrArg List.length h
  rw [List.length_map] at hl
  have h' : l.map SlV.xs = (litS 0 (planL n)).map SlV.xs := by rw [litS_xs]; exact h
  rw [chkG_xs n h', doneB_xs n h', hl]
  rcases (show n = 1 ∨ n = 2 ∨ n = 3 ∨ n = 4 ∨ n = 5 ∨ n = 6 by omega) with rfl | rfl | rfl | rfl | rfl | rfl
  all_goals exact ⟨by decide, by decide +kernel, by decide, by decide⟩

/-- the calls ahead of the four and behind them -/
def EndsI (w wr : World) (v : Value) (l : List (SlV Int)) (k : Nat) : Prop :=
  Ow cellS 1 w.heap.size 30 wr v l ∧ l.map SlV.xs = endsL k ∧ (∀ x ∈ l, IntsAt wr x ∧ ∃ b, x.A = some ⟨b, 0, none⟩ ∧ foot v ≠ some b ∧ b < wr.heap.size ∧ w.heap.size ≤ b) ∧ Below w.heap.size w wr
theorem EndsI.start (w : World) : EndsI w w (.slice none 0 0) [] 0 := ⟨Ow.nil _ _ _ _ _, rfl, (fun x hx => by cases hx), Below.refl _ _⟩
theorem EndsI.step {w wr w8 : World} {v v8 : Value} {l : List (SlV Int)} {k : Nat} (h : EndsI w wr v l k) {x : Int} (hx : x = ((4 + k : Nat) : Int)) (h8 : Ow cellS 1 w.heap.size 30 w8 v8 (l ++ [⟨some ⟨wr.heap.size, 0, none⟩, 2, [x, 0]⟩]))
    (f8 : Fr (fun k => some k = foot v) (wr.alloc (.cells (ints [x, 0]) 3)) w8) (o8 : foot v8 = foot v ∨ foot v8 = some (wr.heap.size + 1 + 1)) :
    EndsI w w8 v8 (l ++ [⟨some ⟨wr.heap.size, 0, none⟩, 2, [x, 0]⟩]) (k + 1) := by
  obtain ⟨hO, hm, hI, hb⟩ := h
  have hz := f8.size
  have hbz := hb.size
  rw [World.size_alloc] at hz
  have hnew : foot v ≠ some wr.heap.size := fun e => by have := (hO.lt e).2; omega
  have hF : ∀ b, b < wr.heap.size + 1 → foot v ≠ some b → foot v8 ≠ some b := fun b hb hn e => by
    rcases o8 with o | o
    · exact hn (o.symm.trans e)
    · rw [o] at e; cases e; omega
  refine ⟨h8, by rw [List.map_append, hm, endsL_succ, hx]; rfl, fun y hy => ?_, (hb.alloc hb.size _).trans (f8.below0 (by rw [World.size_alloc]; omega) (fun i hi => hO.ge i hi))⟩
  rcases List.mem_append.1 hy with hy | hy
  · obtain ⟨hA, b, hyA, hn, hbl, hbn⟩ := hI y hy
    refine ⟨(hA.stays0 ((Below.refl _ _).alloc (Nat.le_refl _) _)).fr f8 (fun _ b' off' hA' e => ?_), b, hyA, hF b (by omega) hn, by omega, hbn⟩
    rw [hyA] at hA'
    cases hA'
    exact hn e.symm
  · rw [List.mem_singleton.1 hy]
    refine ⟨(IntsAt.of_blk (Blk.new wr 3 (ints [x, 0])) 2 (by show (2 : Nat) ≤ maxLen; unfold maxLen; omega)).fr f8 (fun _ b' off' hA' e => ?_), wr.heap.size, rfl, hF _ (by omega) hnew, by omega, hbz⟩
    cases hA'
    exact hnew e.symm

theorem litS_new : ∀ (rs : List (List Int)) (g : Nat), ∀ x ∈ litS g rs, ∀ b off, x.A = some ⟨b, off, none⟩ → g ≤ b
  | [], _ => fun x hx => by cases hx
  | r :: rs, g => fun x hx b off hA => by
    rw [litS] at hx
    rcases List.mem_cons.1 hx with rfl | hx
    · cases hA; exact Nat.le_refl _
    · have := litS_new rs (g + 1) x hx b off hA; omega
/-- made anew: no block of it is older -/
def NewI (B : Nat) (s : SlV (SlV Int)) : Prop := (0 < s.xs.length → ∀ b off, s.A = some ⟨b, off, none⟩ → B ≤ b) ∧ ∀ x ∈ s.xs, ∀ b off, x.A = some ⟨b, off, none⟩ → B ≤ b
theorem IntssAt.fr {S : Nat → Prop} {w w' : World} {s : SlV (SlV Int)} (h : IntssAt w s) (hb : Fr S w w') (hn : 0 < s.xs.length → ∀ b off, s.A = some ⟨b, off, none⟩ → ¬ S b) (hx : ∀ x ∈ s.xs, ∀ b off, x.A = some ⟨b, off, none⟩ → ¬ S b) : IntssAt w' s := ⟨fun h0 => by
    obtain ⟨b, off, h1, h2, h3⟩ := h.row h0
    exact ⟨b, off, h1, Nat.lt_of_lt_of_le h2 hb.size, fun i hi => (hb.cell (p := ⟨b, _, none⟩) h2 (hn h0 _ _ h1)).trans (h3 i hi)⟩, fun i hi => (h.each i hi).fr hb (fun _ b off hA => hx _ (List.getElem_mem hi) b off hA), h.len⟩
/-- what Plan leaves -/
def GPR (w : World) (L : List (List Int)) (e : Ending) (w' : World) : Prop := ∃ s : SlV (SlV Int), e = .returned (.tuple #[.slice s.A s.xs.length s.c, .nilIface]) ∧ IntssAt w' s ∧ s.xs.map SlV.xs = L ∧ Below w.heap.size w w' ∧ NewI w.heap.size s
theorem gpr_lit (w : World) (L : List (List Int)) (hl : ∀ r ∈ L, r.length ≤ maxLen) (hn : L.length ≤ maxLen) : GPR w L (.returned (.tuple #[.slice (some ⟨w.heap.size + L.length, 0, none⟩) L.length L.length, .nilIface])) (litR w L) :=
  ⟨⟨some ⟨w.heap.size + L.length, 0, none⟩, L.length, litS w.heap.size L⟩, by rw [litS_length], litR_at L w _ hl hn, litS_xs _ _, litR_below L w, fun _ b off hA => by cases hA; exact Nat.le_add_right _ _, litS_new L _⟩
theorem plan_bad (n : Int) (hn : nodesB n = false) (w : World) : Calls Tryd.prog 10 #[.int .i64 n] w fun e w' => e = .returned (.tuple #[.slice none 0 0, errV 1]) ∧ Below w.heap.size w w' := by
  have HN := hid (gnodes_any n w)
  rw [hn] at HN
  rw [errV_ne (show (1 : Int) ≠ 0 by decide)]
  clear hn
  go_enter Tryd.func10, Tryd.ntmps10
  go_wp2_with fail
  refine HN.out.mono ?_
  rintro e w' ⟨rfl, rfl⟩
  go_wp2_with fail
  go_ret2
  exact ⟨rfl, Below.refl _ _⟩

theorem plan_few (n : Nat) (h1 : 1 ≤ n) (h3 : n ≤ 3) (w : World) : Calls Tryd.prog 10 #[.int .i64 n] w (GPR w (planL n)) := by
  have HN := hid (gnodes_any n w)
  rw [nodesB_true.2 (by omega)] at HN
  rcases (show n = 1 ∨ n = 2 ∨ n = 3 by omega) with rfl | rfl | rfl
  · go_enter Tryd.func10, Tryd.ntmps10
    go_wp2_with fail
    refine HN.out.mono ?_
    rintro e w' ⟨rfl, rfl⟩
    go_wp2_with fail
    go_ret2
    exact ⟨⟨none, 0, []⟩, rfl, ⟨(fun h => by cases h), (fun i hi => by cases hi), by unfold maxLen; decide⟩, rfl, Below.refl _ _, (fun h => by cases h), (fun x hx => by cases hx)⟩
  · have HL := hid (gpr_lit w [[0, 1]] (by unfold maxLen; decide) (by unfold maxLen; decide))
    go_enter Tryd.func10, Tryd.ntmps10
    go_wp2_with fail
    refine HN.out.mono ?_
    rintro e w' ⟨rfl, rfl⟩
    go_wp2_with fail
    go_ret2
    exact HL.out
  · have HL := hid (gpr_lit w [[0, 1], [0, 2], [0, 1]] (by unfold maxLen; decide) (by unfold maxLen; decide))
    go_enter Tryd.func10, Tryd.ntmps10
    go_wp2_with fail
    refine HN.out.mono ?_
    rintro e w' ⟨rfl, rfl⟩
    go_wp2_with fail
    go_ret2
    exact HL.out

set_option maxHeartbeats 4000000 in
theorem plan_many (n : Nat) (h4 : 4 ≤ n) (h6 : n ≤ 6) (w : World) : Calls Tryd.prog 10 #[.int .i64 n] w (GPR w (planL n)) := by
  have HN := hid (gnodes_any n w)
  rw [nodesB_true.2 (by omega)] at HN
  have HP := hid (show planL n = endsL (n - 4) ++ fourL ++ endsL (n - 4) from by
    rcases (show n = 4 ∨ n = 5 ∨ n = 6 by omega) with rfl | rfl | rfl <;> rfl)
  have b1 : ((n : Int) == 1) = false := by rw [beq_eq_false_iff_ne]; omega
  have b2 : ((n : Int) == 2) = false := by rw [beq_eq_false_iff_ne]; omega
  have b3 : ((n : Int) == 3) = false := by rw [beq_eq_false_iff_ne]; omega
  go_enter Tryd.func10, Tryd.ntmps10
  go_wp2_with fail
  refine HN.out.mono ?_
  rintro e w' ⟨rfl, rfl⟩
  clear HN
  go_wp2_with fail
  go_loopw [4, 5] (fun v i wr => ∃ (k : Nat) (l : List (SlV Int)), k ≤ n - 4 ∧ i = .int .i64 ((4 + k : Nat) : Int) ∧ EndsI w wr v l k) (fun _ i _ => n - (intOf i).toNat)
  case atStart => exact ⟨0, [], Nat.zero_le _, rfl, EndsI.start w⟩
  case round =>
    obtain ⟨k, l, hk, rfl, hE⟩ := hrel
    have HE := hid hE
    have hO := hE.1
    have hb := hE.2.2.2
    have hz := hb.size
    have hll : l.length = k := by
      have := congrArg List.length hE.2.1
      rw [List.length_map, endsL_length] at this
      exact this
    have HO := hid hO
    have Hb := hid hb
    clear hE hO hb
    by_cases hlt : k < n - 4
    · have HA := hid (HO.out.alloc (.cells (ints [((4 + k : Nat) : Int), 0]) 3))
      go_wp2_with (at_builtin; refine appS _ w.heap.size _ l ⟨some ⟨wr.heap.size, 0, none⟩, 2, [((4 + k : Nat) : Int), 0]⟩ HA.out rfl _ _ rfl rfl rfl ?_ ?_ ?_ ?_)
      any_goals (first | (with_reducible rfl) | omega | exact World.size_alloc _ _ | (show _ ≤ _; rw [World.size_alloc]; omega))
      intro v8 w8 h8 f8 o8
      have hE8 := HE.out.step rfl h8 f8 o8
      go_wp2_with fail
      go_roundw
      case rel => exact ⟨k + 1, _, by omega, by go_num, hE8⟩
      case measure => simp [intOf]; omega
    · obtain rfl : k = n - 4 := by omega
      obtain ⟨-, hm, hI, -⟩ := HE.out
      obtain ⟨sE, rfl, hsx, hsE, -, -⟩ := SsAt.of_ow HO.out
      have hsl : sE.xs.length = n - 4 := by rw [hsx]; exact hll
      have hbR := litR_below fourL wr
      have hzR : (litR wr fourL).heap.size = wr.heap.size + 5 := by rw [litR, World.size_alloc, litW_size]; rfl
      have hL := litR_at fourL wr 4 (by unfold maxLen; decide) (by unfold maxLen; decide)
      have hbC : Below wr.heap.size wr ((litR wr fourL).alloc (.cells (#[sE.val, .slice (some ⟨wr.heap.size + 4, 0, none⟩) 4 4, sE.val]) 22)) := hbR.alloc hbR.size _
      have hq : SsAt ((litR wr fourL).alloc (.cells (#[sE.val, .slice (some ⟨wr.heap.size + 4, 0, none⟩) 4 4, sE.val]) 22)) (⟨some ⟨wr.heap.size + 5, 0, none⟩, 3, [sE, ⟨some ⟨wr.heap.size + 4, 0, none⟩, 4, litS wr.heap.size fourL⟩, sE]⟩ : SlV (SlV (SlV Int))) :=
        SsAt.of_blk (l := [sE, ⟨some ⟨wr.heap.size + 4, 0, none⟩, 4, litS wr.heap.size fourL⟩, sE]) (Blk.newAt _ _ _ hzR) 3 (by unfold maxLen; simp)
      have HC := hid (ssconcat_any _ _ hq (fun s hs => by
        simp only [List.mem_cons, List.not_mem_nil, or_false] at hs
        rcases hs with rfl | rfl | rfl
        · exact hsE.stays hbC
        · exact hL.ss.stays ((Below.refl _ _).alloc (Nat.le_refl _) _)
        · exact hsE.stays hbC) (by simp) (by simp [litS_length, fourL, hsl]; omega))
      have HI := hid hI
      have HbC := hid hbC
      have hLI := hid (fun x hx => litS_at fourL wr (by unfold maxLen; decide) x hx)
      have Hsx := hid hsx
      have Hm := hid hm
      clear hq hsE hI hbC hL hbR hsx hm HE HO hsl hll
      go_wp2_with fail
      refine HC.out.mono ?_
      rintro e w9 ⟨v9, rfl, hO9, hb9⟩
      obtain ⟨r, rfl, hrx, hr, -, hrf⟩ := SsAt.of_ow hO9
      have hb9' : Below wr.heap.size wr w9 := Below.step HbC.out hb9 HbC.out.size
      have hfin : GPR w (planL n) (.returned (.tuple #[.slice r.A r.xs.length r.c, .nilIface])) w9 := by
        refine ⟨r, rfl, hr.ints (fun x hx => ?_), ?_, Below.step Hb.out hb9' Hb.out.size, fun h0 b off hA => ?_, fun x hx b off hA => ?_⟩
        · rw [hrx] at hx
          simp only [List.flatMap_cons, List.flatMap_nil, List.append_nil, List.mem_append] at hx
          rcases hx with hx | hx | hx
          · rw [Hsx.out] at hx; exact (HI.out x hx).1.stays0 hb9'
          · exact (hLI.out x hx).stays0 (Below.trans (((Below.refl _ _).alloc (Nat.le_refl _) _).alloc (by first | (simp; done) | (simp; omega)) _) (hb9.mono (by first | (simp [litR]; done) | (simp [litR]; omega))))
          · rw [Hsx.out] at hx; exact (HI.out x hx).1.stays0 hb9'
        · rw [hrx]
          simp only [List.flatMap_cons, List.flatMap_nil, List.append_nil, List.map_append]
          rw [Hsx.out, Hm.out, litS_xs, HP.out, List.append_assoc]
        · have h1 := (hrf h0 b off hA).2
          have h2 := HbC.out.size
          have h3 := Hb.out.size
          omega
        · have h3 := Hb.out.size
          rw [hrx] at hx
          simp only [List.flatMap_cons, List.flatMap_nil, List.append_nil, List.mem_append] at hx
          rcases hx with hx | hx | hx
          · rw [Hsx.out] at hx
            obtain ⟨-, b', hA', -, -, hb'⟩ := HI.out x hx
            rw [hA] at hA'
            cases hA'
            exact hb'
          · have := litS_new fourL _ x hx b off hA
            omega
          · rw [Hsx.out] at hx
            obtain ⟨-, b', hA', -, -, hb'⟩ := HI.out x hx
            rw [hA] at hA'
            cases hA'
            exact hb'
      have HF := hid hfin
      clear hfin hrx hr hO9 hb9 hb9'
      go_wp2_with fail
      go_ret2
      exact HF.out
theorem plan_any (n : Nat) (h1 : 1 ≤ n) (h6 : n ≤ 6) (w : World) : Calls Tryd.prog 10 #[.int .i64 n] w (GPR w (planL n)) := by
  by_cases h : n ≤ 3
  · exact plan_few n h1 h w
  · exact plan_many n (by omega) h6 w
end Go.Proofs.YtlcbdhblaamekaaDoor
