/-
  PROVED HERE: merelaw1.TombSafe returns true: of caches swept up to where all know a key, if it was gone for all, none has it; nor have all of them together. CONDITIONS: errors.errorType as the program's text lays it (tied by the card).
-/
import Derived.Test.YtgfbpabffnabaaaDoorTombLaw
import Derived.Test.YtgfbpabffnabaaaDoorCBoth
import Derived.Test.YtgfbpabffnabaaaDoorIn
import Derived.Test.YtgfbpabffnabaaaDoorDoor
import Derived.Deep.DeepCutAuto
import Derived.Deep.CutBlock
namespace Go.Proofs.YtgfbpabffnabaaaDoor
open Go.RowKit
open Go.ChangeShapes Go.WideShapes Go.ChangeAt

theorem joined_fault (a b : E) : (joined a b).2 = 0 ∨ (joined a b).2 = 7 := by
  unfold joined joinIn
  split <;> (split <;> (split <;> simp))
theorem addC_fault (l : List E) (e : E) : (addC l e).2 = 0 ∨ (addC l e).2 = 7 := by
  unfold addC
  split
  · split
    · exact .inl rfl
    · exact joined_fault _ _
  · exact .inl rfl
theorem allC_fault : ∀ (m l : List E), (allC l m).2 = 0 ∨ (allC l m).2 = 7
  | [], _ => .inl rfl
  | e :: r, l => by
    rw [allC]
    split
    · exact allC_fault r _
    · exact addC_fault l e
theorem left_val {l : List E} (m : Int) (h : chkC l = 0) : chkC (leftL m l) = 0 := by
  obtain ⟨ha, hc⟩ := val_iff.1 h
  exact val_iff.2 ⟨List.Pairwise.filter _ ha, fun e he => hc e (List.mem_filter.1 he).1⟩
theorem lk_mem : ∀ {l : List E} {x : E}, Asc l → x ∈ l → lk l x.key = some x
  | y :: r, x, h, hx => by
    obtain ⟨h1, h2⟩ := List.pairwise_cons.1 h
    rw [lk_cons]
    rcases List.mem_cons.1 hx with rfl | hx
    · rw [if_pos rfl]
    · rw [if_neg (by have := h1 x hx; omega), lk_mem h2 hx]
theorem lk_left {l : List E} {m k : Int} (h : chkC l = 0) {e : E} (he : lk l k = some e) (hs : sweptB m e = true) : lk (leftL m l) k = none := by
  obtain ⟨ha, _⟩ := val_iff.1 h
  refine lk_none (fun x hx hk => ?_)
  obtain ⟨hm, hn⟩ := List.mem_filter.1 hx
  have := lk_mem ha hm
  rw [hk, he] at this
  cases this
  rw [hs] at hn
  cases hn
theorem markG_le {k : Int} : ∀ {l : List (SlV E)} {o : Int}, (∀ c ∈ l, chkC c.xs = 0) → 0 ≤ o → 0 ≤ markG k o l ∧ markG k o l ≤ o
  | [], o, _, h => ⟨h, Int.le_refl _⟩
  | c :: r, o, hv, h => by
    have hr : ∀ x ∈ r, chkC x.xs = 0 := fun x hx => hv x (by simp [hx])
    rw [markG]
    split
    · rename_i hh
      have h0 := val_asof (hv c (by simp)) _ (getD_memD E.zero (hasK_lt hh))
      have := markG_le (k := k) (o := min o (c.xs.getD (plc k c.xs) E.zero).asof) hr (by omega)
      omega
    · omega
theorem markG_ge {k v : Int} : ∀ {l : List (SlV E)} {o : Int}, (∀ c ∈ l, chkC c.xs = 0) → (∀ c ∈ l, ∃ e, lk c.xs k = some e ∧ v ≤ e.asof) → v ≤ o → v ≤ markG k o l
  | [], _, _, _, h => h
  | c :: r, o, hv, he, h => by
    have hr : ∀ x ∈ r, chkC x.xs = 0 := fun x hx => hv x (by simp [hx])
    have her : ∀ x ∈ r, ∃ e, lk x.xs k = some e ∧ v ≤ e.asof := fun x hx => he x (by simp [hx])
    obtain ⟨e, h1, h2⟩ := he c (by simp)
    rw [at_lk (val_iff.1 (hv c (by simp))).1] at h1
    rw [markG]
    split at h1
    · rename_i hh
      rw [if_pos hh]
      cases h1
      exact markG_ge hr her (by omega)
    · cases h1
theorem headC_mem {l : List (SlV E)} (h : 1 ≤ l.length) : ∃ c ∈ l, headC l = c.xs := by
  cases l with
  | nil => simp at h
  | cons c r => exact ⟨c, by simp, rfl⟩
/-- what is safe is swept from all -/
theorem safe_swept {l : List (SlV E)} {k : Int} (hv : ∀ c ∈ l, chkC c.xs = 0) (h1 : 1 ≤ l.length) (hk : k ∈ safeL l (headC l)) : ∀ c ∈ l, ∃ e, lk c.xs k = some e ∧ sweptB (markG k 1000 l) e = true := by
  obtain ⟨c0, hc0, hh⟩ := headC_mem h1
  unfold safeL at hk
  obtain ⟨e0, he0, rfl⟩ := List.mem_map.1 hk
  obtain ⟨hm, hp⟩ := List.mem_filter.1 he0
  rw [allAlike_q hv, Bool.and_eq_true, List.all_eq_true] at hp
  obtain ⟨_, hall⟩ := hp
  have key : ∀ c ∈ l, ∃ e, lk c.xs e0.key = some e ∧ e.gone = true ∧ e.ver = e0.ver ∧ e.ver ≤ e.asof ∧ e.ver ≤ 1000 := fun c hc => by
    have := hall c hc
    unfold qK rget at this
    rcases hl : lk c.xs e0.key with _ | e
    · rw [hl] at this
      simp at this
    · rw [hl] at this
      simp at this
      obtain ⟨hem, _⟩ := lk_some hl
      obtain ⟨_, g2, _, g3, _⟩ := chk_zero.1 ((val_iff.1 (hv c hc)).2 e hem)
      exact ⟨e, rfl, this.1, this.2, g3, (seqB_true.1 g2).2⟩
  have h0 : e0.ver ≤ 1000 := by
    obtain ⟨e, _, _, h3, _, h5⟩ := key c0 hc0
    omega
  have hmk : e0.ver ≤ markG e0.key 1000 l := markG_ge hv (fun c hc => by
    obtain ⟨e, h2, _, h3, h4, _⟩ := key c hc
    exact ⟨e, h2, by omega⟩) h0
  intro c hc
  obtain ⟨e, h2, h3, h4, _⟩ := key c hc
  refine ⟨e, h2, ?_⟩
  unfold sweptB
  rw [h3, Bool.true_and, decide_eq_true_eq]
  omega
def fG : E := ⟨4, 3, 9, true, ⟨#[]⟩⟩
theorem fG_chk : chk fG = 0 := chk_zero.2 ⟨rfl, by decide, by decide, by decide, (show (0 : Nat) ≤ 12 by decide), fun _ => by show (⟨#[]⟩ : ByteArray).toList = []; rw [ByteArray.toList_eq]⟩
theorem fG_val : chkC [fG] = 0 := val_iff.2 ⟨by simp [Asc], fun x hx => by rw [List.mem_singleton.1 hx]; exact fG_chk⟩
theorem fG_mark (A : Option Addr) : markR [⟨A, 1, [fG]⟩, ⟨A, 1, [fG]⟩] 4 = (9, 0) := by
  have h : chkTK [⟨A, 1, [fG]⟩, ⟨A, 1, [fG]⟩] 4 = 0 := by
    simp [chkTK, chkT, chkTs, fG_val, keyB]
  rw [markR, if_pos h]
  rfl
theorem fG_sweep : sweepR [fG] 9 = (([], [4]), 0) := by
  rw [sweepR, if_pos fG_val, if_pos (by decide)]
  rfl

set_option maxHeartbeats 16000000 in
set_option maxRecDepth 100000 in
theorem tombSafe_any (s : SlV (SlV E)) (k : Int) (w : World) (hs : CachesAt w s) (hgl : Gl w) :
    Calls Tryd.prog 8 #[.slice s.A s.xs.length s.c, .int .i64 k] w fun e w' => e = .returned (.bool true) ∧ Below w.heap.size w w' := by
  have HS := hid (fun W (hW : Below w.heap.size w W) => hs.stays hW)
  have HG := hid (fun W (hW : Below w.heap.size w W) => hgl.belowS hW)
  have hls := hs.len
  unfold maxLen at hls
  clear hs hgl
  go_enter Tryd.func8, Tryd.ntmps8
  go_wp2_with fail
  obtain ⟨w1, hw1⟩ : ∃ w1 : World, w1 = w.alloc (.cells #[.int .i64 4, .int .i64 3, .int .i64 9, .bool true, .string ⟨#[]⟩] 26) := ⟨_, rfl⟩
  have HF1 := hid (show EsAt w1 ⟨some ⟨w.heap.size, 0, none⟩, 1, [fG]⟩ by
    rw [hw1]
    exact ⟨fun _ => ⟨w.heap.size, 0, rfl, by simp, fun i hi => by
      obtain rfl : i = 0 := by simpa using hi
      exact EAt.of_blk (Blk.new w _ _)⟩, fun y hy => by rw [List.mem_singleton.1 hy]; exact chk_goodE fG_chk, by unfold maxLen; simp⟩)
  have Hb1 := hid (show Below w.heap.size w w1 by rw [hw1]; (repeat (first | with_reducible exact Below.refl _ _ | with_reducible assumption | (with_reducible refine Below.drew ?_) | (with_reducible refine Below.manyDrew ?_ _) | ((with_reducible refine Below.alloc ?_ ?_ _); rotate_left; (focus (first | omega | (dsimp only; omega) | (simp; done) | (simp; omega)))) | ((with_reducible refine Below.setCell ?_ ?_ _); rotate_left; (focus (first | omega | (dsimp only; omega) | (simp; done) | (simp; omega)))) | ((with_reducible refine Below.step ?_ (by assumption) ?_); rotate_left; (focus (first | omega | (dsimp only; omega) | (simp; done) | (simp; omega)))))))
  have hz1 : w1.heap.size = w.heap.size + 1 := by rw [hw1]; simp
  obtain ⟨w2, hw2⟩ : ∃ w2 : World, w2 = w1.alloc (.cells #[.slice (some ⟨w.heap.size, 0, none⟩) 1 1, .slice (some ⟨w.heap.size, 0, none⟩) 1 1] 22) := ⟨_, rfl⟩
  rw [← hw1, ← hw2]
  have HF2 := hid (show EsAt w2 ⟨some ⟨w.heap.size, 0, none⟩, 1, [fG]⟩ by rw [hw2]; exact HF1.out.stays (by (repeat (first | with_reducible exact Below.refl _ _ | with_reducible assumption | (with_reducible refine Below.drew ?_) | (with_reducible refine Below.manyDrew ?_ _) | ((with_reducible refine Below.alloc ?_ ?_ _); rotate_left; (focus (first | omega | (dsimp only; omega) | (simp; done) | (simp; omega)))) | ((with_reducible refine Below.setCell ?_ ?_ _); rotate_left; (focus (first | omega | (dsimp only; omega) | (simp; done) | (simp; omega)))) | ((with_reducible refine Below.step ?_ (by assumption) ?_); rotate_left; (focus (first | omega | (dsimp only; omega) | (simp; done) | (simp; omega))))))))
  have HC2 := hid (show CachesAt w2 ⟨some ⟨w.heap.size + 1, 0, none⟩, 2, [⟨some ⟨w.heap.size, 0, none⟩, 1, [fG]⟩, ⟨some ⟨w.heap.size, 0, none⟩, 1, [fG]⟩]⟩ from by
    have hB : Blk w2 (w.heap.size + 1) 22 #[.slice (some ⟨w.heap.size, 0, none⟩) 1 1, .slice (some ⟨w.heap.size, 0, none⟩) 1 1] := by rw [hw2]; exact Blk.new_at hz1.symm
    refine ⟨fun _ => ⟨w.heap.size + 1, 0, rfl, hB.lt, fun i hi => ?_⟩, fun i hi => ?_, by unfold maxLen; simp⟩
    · rw [Nat.zero_add, hB.cell i]
      match i, hi with
      | 0, _ => rfl
      | 1, _ => rfl
    · match i, hi with
      | 0, _ => exact HF2.out.entries
      | 1, _ => exact HF2.out.entries)
  have Hb2 := hid (show Below w.heap.size w w2 by rw [hw2]; have hb1 := Hb1.out; exact hb1.alloc (by omega) _)
  have hz2 := Hb2.out.size
  clear hw1 hw2 HF1 Hb1 hz1
  have HMk := hid (mark_any _ 4 w2 HC2.out)
  simp only [fG_mark, errV_zero] at HMk
  refine HMk.out.mono ?_
  rintro e w3 ⟨rfl, hb3⟩
  have HF3 := hid (HF2.out.stays hb3)
  have Hb3 := hid (Below.step Hb2.out hb3 hz2)
  have hz3 := Hb3.out.size
  clear hb3
  have HSw := hid (sweep_any _ 9 w3 HF3.out.entries)
  simp only [fG_sweep] at HSw
  go_wp2_with fail
  refine HSw.out.mono ?_
  rintro e w4 ⟨lv, gv, rfl, hOl, hOg, hb4⟩
  obtain ⟨z, rfl, hzx, hzA, _, _⟩ := IntsAt.of_ow hOg
  obtain ⟨x, rfl, hxx, hxA⟩ := RowV.of_ow hOl (by simp)
  have Hb4 := hid (Below.step Hb3.out hb4 hz3)
  have hz4 := Hb4.out.size
  obtain ⟨b, off, hzb, hbl, hzc⟩ := hzA.row (by rw [hzx]; simp)
  have c0 := hzc 0 (by rw [hzx]; simp)
  rw [hzx, Nat.add_zero] at c0
  rw [hzx, hzb, hxx]
  simp only [errV_zero, List.length_cons, List.length_nil, Nat.zero_add]
  have c0' : w4.cell? ⟨b, off, none⟩ = some (.int .i64 4) := c0
  clear hOl hOg hb4 hzx hzA hzc c0 hxx hxA HMk HSw HF2 HF3 HC2 Hb2 Hb3
  go_wp2_with fail
  have HSf := hid (safe_any s w4 (HS.out _ Hb4.out))
  by_cases hT : chkT s.xs = 0
  · have hSe : (safeR s.xs).2 = 0 := by rw [safeR, if_pos hT]
    obtain ⟨⟨h1, h6⟩, hch⟩ : (1 ≤ s.xs.length ∧ s.xs.length ≤ 6) ∧ ∀ c ∈ s.xs, chkC c.xs = 0 := by
      have := hT
      unfold chkT at this
      split at this
      · cases this
      · split at this
        · cases this
        · exact ⟨by omega, chkTs_ok this⟩
    have HS1 := hid (show (safeR s.xs).1 = safeL s.xs (headC s.xs) by rw [safeR, if_pos hT])
    unfold IRes at HSf
    rw [hSe, errV_zero] at HSf
    have HT := hid hT
    have Hch := hid hch
    clear hT hSe hch
    refine HSf.out.mono ?_
    rintro e w5 ⟨v5, rfl, hOs, hb5⟩
    obtain ⟨sf, rfl, hsx, hsA, _, _⟩ := IntsAt.of_ow hOs
    have Hb5 := hid (Below.step Hb4.out hb5 hz4)
    have hz5 := Hb5.out.size
    have Hsx := hid (hsx.trans HS1.out)
    have HsA := hid hsA
    clear hOs hb5 hsx hsA c0' HS1 HSf
    go_wp2_with fail
    have HMk := hid (mark_any s k w5 (HS.out _ Hb5.out))
    rcases (show keyB k = false ∨ keyB k = true by cases keyB k <;> simp) with hk | hk
    · have hM : markR s.xs k = (0, 1) := by
        have h : chkTK s.xs k = 1 := by rw [chkTK, if_pos HT.out, hk, if_neg (by decide)]
        rw [markR, h, if_neg (by decide)]
      rw [hM, errV_ne (by decide)] at HMk
      clear hM hk
      refine HMk.out.mono ?_
      rintro e w6 ⟨rfl, hb6⟩
      have Hb6 := hid (Below.step Hb5.out hb6 hz5)
      clear hb6
      go_wp2_with fail
      go_ret
      exact ⟨rfl, Hb6.out⟩
    · have hM : markR s.xs k = (markG k 1000 s.xs, 0) := by
        have h : chkTK s.xs k = 0 := by rw [chkTK, if_pos HT.out, if_pos hk]
        rw [markR, if_pos h]
      rw [hM, errV_zero] at HMk
      obtain ⟨hm0, hm1⟩ := markG_le (k := k) (o := 1000) Hch.out (by decide)
      have Hsw := hid (safe_swept (k := k) Hch.out h1)
      have Hk := hid hk
      clear hM hk
      generalize markG k 1000 s.xs = mk at *
      refine HMk.out.mono ?_
      rintro e w6 ⟨rfl, hb6⟩
      have Hb6 := hid (Below.step Hb5.out hb6 hz5)
      have hz6 := Hb6.out.size
      have HsA6 := hid (HsA.out.stays0 hb6)
      clear hb6 HMk
      go_wp2_with fail
      refine (in_any sf k w6 HsA6.out).mono ?_
      rintro e w6' ⟨rfl, rfl⟩
      rcases hin : inL k sf.xs with _ | _
      · go_wp2_with fail
        go_ret
        refine ⟨?_, Hb6.out⟩
        first | rfl | (exact ret_b (by simpa using hm0))
      · have hks : k ∈ safeL s.xs (headC s.xs) := by
          rw [← Hsx.out]
          exact inL_true.1 hin
        have Hall := hid (Hsw.out hks)
        have hmq : seqB mk = true := seqB_true.2 ⟨hm0, hm1⟩
        have Hmq := hid hmq
        clear hin hks hmq Hsw
        go_wp2_with fail
        go_loopw [15, 16] (fun o i wr => ∃ (j : Nat) (L : List E), j ≤ s.xs.length ∧ i = .int .i64 j ∧ RowV wr o L ∧ chkC L = 0 ∧ lk L k = none ∧ Below w.heap.size w wr) (fun _ i _ => s.xs.length - (intOf i).toNat)
        case atStart => exact ⟨0, [], Nat.zero_le _, rfl, RowV.nil _, rfl, rfl, Hb6.out⟩
        case round =>
          obtain ⟨j, L, hj, rfl, ⟨r, rfl, hrx, hrA⟩, hvL, hkL, hbr⟩ := hrel
          have hz0 := hbr.size
          have Hbr := hid hbr
          have Hrx := hid hrx
          have HrA := hid hrA
          have HvL := hid hvL
          have HkL := hid hkL
          clear hrx hrA hvL hkL
          by_cases hlt : j < s.xs.length
          · have hsr := HS.out wr Hbr.out
            obtain ⟨b, off, hA, hb, hcells⟩ := hsr.row (by omega)
            have hcell := hcells j hlt
            have hin := hsr.each j hlt
            have hcv := Hch.out _ (List.getElem_mem hlt)
            obtain ⟨e0, he0, hsw⟩ := Hall.out _ (List.getElem_mem hlt)
            generalize s.xs[j] = c at *
            have HSw := hid (sweep_any c mk wr hin)
            have hR : sweepR c.xs mk = ((leftL mk c.xs, goneL mk c.xs), 0) := by rw [sweepR, if_pos hcv, if_pos Hmq.out]
            rw [hR] at HSw
            have hlv := left_val mk hcv
            have hll := lk_left hcv he0 hsw
            have HG5 := hid (fun (q : SlV E) W (hx : q.xs = leftL mk c.xs) (hq : EsAt W q) => show Calls Tryd.prog 18 #[.slice q.A q.xs.length q.c, .int .i64 k] W (fun e w' => e = .returned (.tuple #[E.zero.val, errV 5]) ∧ Below W.heap.size W w') from by
              have := get_any q k W hq.entries
              rw [hx] at this ⊢
              rw [getR_lk hlv Hk.out, hll] at this
              exact this)
            have HB := hid (fun (q : SlV E) W (hx : q.xs = leftL mk c.xs) (hr : EsAt W r) (hq : EsAt W q) => both_any r q W hr hq)
            have Hbv := hid (fun h => (allC_key HvL.out hlv).2 h)
            have Hbf := hid (allC_fault (leftL mk c.xs) L)
            have hbb := bothR_val HvL.out hlv
            have Hbb := hid hbb
            have Hlv := hid hlv
            have Hll := hid hll
            rw [hA]
            clear hA hcells hsr hR hlv hll hbb hcv he0 hsw
            generalize leftL mk c.xs = LL at *
            go_wp2_with fail
            refine HSw.out.mono ?_
            rintro e w7 ⟨lv, gv, rfl, hOl, _, hb7⟩
            obtain ⟨x, rfl, hxx, hxA⟩ := RowV.of_ow hOl (val_good Hlv.out)
            have Hxx := hid hxx
            have HxA := hid hxA
            have Hb7 := hid (Below.step Hbr.out hb7 hz0)
            have hz7 := Hb7.out.size
            have HrA7 := hid (HrA.out.stays hb7)
            clear hOl hb7 hxx hxA
            simp only [errV_zero]
            go_wp2_with fail
            refine (HG5.out x w7 Hxx.out HxA.out).mono ?_
            rintro e w8 ⟨rfl, hb8⟩
            have Hb8 := hid (Below.step Hb7.out hb8 hz7)
            have hz8 := Hb8.out.size
            have HrA8 := hid (HrA7.out.stays hb8)
            have HxA8 := hid (HxA.out.stays hb8)
            clear hb8
            go_wp2_with fail
            refine (error_any 5 5 w8 (HG.out _ Hb8.out)).mono ?_
            rw [beq_self_eq_true]
            rintro e w9 ⟨rfl, hb9⟩
            have Hb9 := hid (Below.step Hb8.out hb9 hz8)
            have hz9 := Hb9.out.size
            have HrA9 := hid (HrA8.out.stays hb9)
            have HxA9 := hid (HxA8.out.stays hb9)
            clear hb9
            have HB9 := hid (HB.out x w9 Hxx.out HrA9.out HxA9.out)
            rw [Hxx.out, Hrx.out, Hbb.out] at HB9
            rw [Hxx.out, Hrx.out]
            go_wp2_with fail
            by_cases hf : (allC L LL).2 = 0
            · obtain ⟨hv2, hk2⟩ := Hbv.out hf
              have hkk := hk2 k
              rw [HkL.out, Hll.out] at hkk
              rw [hf] at HB9
              have Hv2 := hid hv2
              have Hkk := hid hkk
              clear hf hv2 hk2 hkk
              refine HB9.out.mono ?_
              rintro e w10 ⟨v10, rfl, hO10, hb10⟩
              have HRv := hid (RowV.of_ow hO10 (val_good Hv2.out))
              have Hb10 := hid (Below.step Hb9.out hb10 hz9)
              clear hO10 hb10
              simp only [errV_zero]
              go_wp2_with fail
              go_roundw
              case rel => exact ⟨j + 1, _, by omega, by go_num, HRv.out, Hv2.out, Hkk.out, Hb10.out⟩
              case measure => simp [intOf]; omega
            · have hf7 : (allC L LL).2 = 7 := Hbf.out.resolve_left hf
              rw [hf7] at HB9
              clear hf hf7
              refine HB9.out.mono ?_
              rintro e w10 ⟨v10, rfl, hO10, hb10⟩
              have Hb10 := hid (Below.step Hb9.out hb10 hz9)
              have hz10 := Hb10.out.size
              clear hO10 hb10
              have h7 := errV_ne (show (7 : Int) ≠ 0 by decide)
              have HE7 := hid (error_any 7 7 w10 (HG.out _ Hb10.out))
              rw [h7] at HE7
              rw [h7]
              clear h7
              go_wp2_with fail
              refine HE7.out.mono ?_
              rw [beq_self_eq_true]
              rintro e w11 ⟨rfl, hb11⟩
              have Hb11 := hid (Below.step Hb10.out hb11 hz10)
              clear hb11
              go_wp2_with fail
              go_ret
              exact ⟨rfl, Hb11.out⟩
          · obtain rfl : j = s.xs.length := by omega
            have HG5 := hid (get_any r k wr HrA.out.entries)
            rw [Hrx.out, getR_lk HvL.out Hk.out, HkL.out] at HG5
            unfold E.val E.zero at HG5
            rw [Hrx.out]
            go_wp2_with fail
            refine HG5.out.mono ?_
            rintro e w7 ⟨rfl, hb7⟩
            have Hb7 := hid (Below.step Hbr.out hb7 hz0)
            have hz7 := Hb7.out.size
            clear hb7
            go_wp2_with fail
            refine (error_any 5 5 _ (HG.out _ (Hb7.out.alloc hz7 _))).mono ?_
            rw [beq_self_eq_true]
            rintro e w8 ⟨rfl, hb8⟩
            have Hb8 := hid (Below.step (Hb7.out.alloc hz7 _) hb8 (by simp; omega))
            clear hb8
            go_wp2_with fail
            go_ret
            exact ⟨rfl, Hb8.out⟩
  · have hSe : (safeR s.xs).2 = chkT s.xs := by rw [safeR, if_neg hT]
    have Hen := hid (errV_ne hT)
    unfold IRes at HSf
    rw [hSe, Hen.out] at HSf
    clear hSe hT
    generalize chkT s.xs = en at *
    refine HSf.out.mono ?_
    rintro e w5 ⟨v5, rfl, _, hb5⟩
    have Hb5 := hid (Below.step Hb4.out hb5 hz4)
    clear hb5 c0'
    go_wp2_with fail
    go_ret
    exact ⟨rfl, Hb5.out⟩

set_option maxRecDepth 100000 in
theorem tombSafe_walk : LawWalk Tryd.prog 8 Tryd.f8 Gl := by
  intro W base args H enc ds p hval hA hgl
  rw [Tryd.params8] at hA hval
  obtain ⟨v0, v1, d0, d1, p0, p1, rfl, rfl, rfl, h0, h1⟩ := trodAll_two hA
  obtain ⟨s, rfl, hs⟩ := arg_slice Tryd.underlying45 codecEntries (pos_of_eq Tryd.cellsEntries (by decide)) (hval 0 45 v0 rfl rfl) h0
  obtain ⟨k, rfl, _⟩ := arg_int Tryd.underlying3 (hval 1 3 v1 rfl rfl) h1
  exact tombSafe_any s k W (cachesAt_of hs) hgl

set_option maxRecDepth 100000 in
theorem tombSafe_lifted (os : Os) (started : os.Started) (H : Type) (enc : TypeId × Value → H) :
    ReturnsInHanded {} Tryd.checked os 8 .any (fun w args => (Rows.tombSafeSpec.pre enc Tryd.checked.prog Tryd.f8 [] false w args ∧ laidMetH Tryd.prog theLaid w) ∧ sizedMet enc Tryd.checked.prog Tryd.f8 (OpenSpec.ofChange Rows.tombSafeSpec) false w args) (Rows.tombSafeSpec.post enc Tryd.checked.prog Tryd.f8 false true false false) :=
  laid_lifted (C := Tryd.checked) theLaid (fun _ h => handle_of_laid h) [] Tryd.own started (by kernel_rfl) Tryd.func8 Tryd.laidOut (by kernel_rfl) rfl Tryd.underlying4 rfl (fun ds h => by match ds, h with | [_, _], _ => rfl)
    (ChangeSpec.witness_at (enc := enc) (C := Tryd.checked) (os := os) (X := fun w _ => laidMetH Tryd.prog theLaid w) false (laidWorld os) #[.slice none 0 0, .int .i64 0] 8 rfl (by kernel_rfl) (by kernel_rfl) (by kernel_rfl) (by kernel_rfl) (by kernel_rfl) (laidWorld_met os _)) tombSafe_walk

theorem tombSafe_row : Rows.TombSafeSaid :=
  OpenClaim.holds_of_wide 8 Tryd.f8 rfl rfl rfl rfl rfl rfl rfl ⟨rfl, rfl, rfl, rfl, rfl⟩ rfl rfl rfl rfl rfl (by kernel_rfl) Tryd.func8 (by kernel_rfl)
    (of_decide_eq_true (by kernel_rfl)) (by unfold Func.isWrapper; rw [if_neg (of_decide_eq_false (by kernel_rfl))]; exact ⟨rfl, rfl⟩)
    (fun os started H enc _ => tombSafe_lifted os started H enc)

theorem tombSafe_holds : Rows.TombSafeCardSaid :=
  Claim7.holds_tied_plain_at .later [] [.handle] true _ true
    tombSafe_row (fun _ h => by cases h) (by kernel_rfl) (fun _ h => by cases h) tombSafe_row_tie rfl ⟨rfl, rfl⟩ (by kernel_rfl) rfl
    (fun f fn hf hfn => by
      obtain rfl : f = 8 := Option.some.inj ((show Tryd.prog.funcNamed "beaconmere/merelaw1.TombSafe" = some 8 by kernel_rfl).symm.trans hf) |>.symm
      obtain rfl : fn = Tryd.f8 := (Option.some.inj (Tryd.func8.symm.trans hfn)).symm
      refine ⟨by kernel_rfl, fun j t ht => ?_⟩
      have hall : Tryd.f8.params.toList.all (fun t => !Tryd.prog.wantsStandIn t) = true := by kernel_rfl
      have hm : t ∈ Tryd.f8.params.toList := by
        obtain ⟨hj, hje⟩ := Array.getElem?_eq_some_iff.1 ht
        rw [← hje]
        exact Array.mem_toList_iff.2 (Array.getElem_mem hj)
      have := List.all_eq_true.1 hall t hm
      exact (show Tryd.prog.wantsStandIn t = false by simpa using this))
    (by kernel_rfl)

end Go.Proofs.YtgfbpabffnabaaaDoor
