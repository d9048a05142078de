/-
  THE CONTRACT of strings.Lines: a loop over its value goes through the lines of a text, in order. CONDITIONS: the text has at most 2^40 bytes.
-/
import Derived.Test.YtljkclebcoanaaaGreatDoorRangeBox
import Derived.Test.YtljkclebcoanaaaGreatDoorLogRec
import Derived.Test.YtljkclebcoanaaaGreatDoorShelf
namespace Go.Proofs.YtljkclebcoanaaaGreatDoor
open Go.RowKit Go.Shelf

attribute [local go_sem] Oper.semAt_some

/-! ### plain -/
def linesGo : List UInt8 → List UInt8 → List (List UInt8)
  | cur, [] => if cur.isEmpty then [] else [cur]
  | cur, b :: l => if b = 10 then (cur ++ [b]) :: linesGo [] l else linesGo (cur ++ [b]) l
/-- the lines of a text, each with its newline (the last one perhaps without) -/
def linesL (l : List UInt8) : List (List UInt8) := linesGo [] l
theorem linesGo_one : ∀ (p cur m : List UInt8), (10 : UInt8) ∉ p → linesGo cur (p ++ 10 :: m) = (cur ++ p ++ [10]) :: linesGo [] m
  | [], cur, m, _ => by simp [linesGo]
  | b :: p, cur, m, h => by
    have hb : b ≠ 10 := fun e => h (by simp [e])
    rw [List.cons_append, linesGo, if_neg hb, linesGo_one p _ m (fun hm => h (by simp [hm]))]
    simp
theorem linesGo_none : ∀ (p cur : List UInt8), (10 : UInt8) ∉ p → cur ++ p ≠ [] → linesGo cur p = [cur ++ p]
  | [], cur, _, hn => by
    rw [List.append_nil] at hn ⊢
    unfold linesGo
    cases cur with
    | nil => exact absurd rfl hn
    | cons _ _ => rfl
  | b :: p, cur, h, hn => by
    have hb : b ≠ 10 := fun e => h (by simp [e])
    rw [linesGo, if_neg hb, linesGo_none p _ (fun hm => h (by simp [hm])) (by simp)]
    simp
theorem idx_spec : ∀ (l : List UInt8), (Lib.indexByte l 10 = -1 ∧ (10 : UInt8) ∉ l) ∨ ∃ p m, l = p ++ 10 :: m ∧ (10 : UInt8) ∉ p ∧ Lib.indexByte l 10 = (p.length : Int)
  | [] => .inl ⟨rfl, by simp⟩
  | b :: l => by
    unfold Lib.indexByte
    by_cases hb : b = 10
    · subst hb
      exact .inr ⟨[], l, rfl, by simp, by simp⟩
    · have hb' : (b == 10) = false := beq_eq_false_iff_ne.2 hb
      rcases idx_spec l with ⟨h, hn⟩ | ⟨p, m, rfl, hn, h⟩
      · refine .inl ⟨by rw [hb', h]; rfl, ?_⟩
        intro hm
        rcases List.mem_cons.1 hm with e | hm
        · exact hb e.symm
        · exact hn hm
      · refine .inr ⟨b :: p, m, rfl, ?_, ?_⟩
        · intro hm
          rcases List.mem_cons.1 hm with e | hm
          · exact hb e.symm
          · exact hn hm
        · have hne : ((p.length : Int) == -1) = false := beq_eq_false_iff_ne.2 (by omega)
          rw [hb', h, hne, List.length_cons]
          simp
theorem linesL_nil : linesL [] = [] := rfl
/-- the size of the text in a box -/
def boxLen (B : Nat) (w : World) : Nat := match w.cell? ⟨B, 0, none⟩ with | some (.string s) => s.size | _ => 0
theorem boxLen_of {B : Nat} {w : World} {t : TypeId} {s : ByteArray} (h : Blk w B t #[.string s]) : boxLen B w = s.size := by
  unfold boxLen
  rw [show w.cell? ⟨B, 0, none⟩ = some (.string s) from h.cell 0]
theorem extract_take (l : List UInt8) (k : Nat) : (mkB l).extract 0 k = mkB (l.take k) := by
  apply ByteArray.ext
  rw [ByteArray.data_extract]
  show (l.toArray).extract 0 k = (l.take k).toArray
  simp
theorem extract_drop (l : List UInt8) (k : Nat) : (mkB l).extract k (mkB l).size = mkB (l.drop k) := by
  apply ByteArray.ext
  rw [ByteArray.data_extract, mkB_size]
  show (l.toArray).extract k l.length = (l.drop k).toArray
  apply Array.toList_inj.1
  simp only [Array.toList_extract, List.extract]
  rw [List.take_of_length_le (by rw [List.length_drop]; omega)]

/-! ### the walk -/
set_option maxRecDepth 100000 in
set_option maxHeartbeats 2000000 in
theorem lines_in (F : Fence) (n : Nat) (h5 : F.fn 39) (hro : F.round = none) (s : ByteArray) (w : World) :
    CallsIn F n Tryz.prog 39 #[.string s] w fun e w' => e = .returned (.func (.func 50) #[] #[.pointer (some ⟨w.heap.size, 0, none⟩)]) ∧ w' = w.alloc (.cells #[.string s] 9) := by
  refine callsIn_of_wp Tryz.func39 rfl h5 ?_ hro
  simp only [Tryz.ntmps39, List.size_toArray, List.length_cons, List.length_nil, Nat.reduceAdd, Nat.reduceSub, Array.replicate_succ, Array.replicate_zero, List.push_toArray, List.append_toArray, List.nil_append, List.cons_append]
  gi_wp2
  go_ret
  exact ⟨rfl, rfl⟩

set_option maxRecDepth 100000 in
set_option maxHeartbeats 4000000 in
theorem lines_seq (F : Fence) (n : Nat) (h6 : F.fn 50) (hFw : F = Fence.wide) (hn : 1 ≤ n) (B : Nat) (s : ByteArray) (hs : s.size ≤ 1099511627776) (w : World) (hB : Blk w B 9 #[.string s]) :
    BoxSeq F n Tryz.prog 50 B (fun x : List UInt8 => Value.string (mkB x)) (linesL s.data.toList) w := by
  subst hFw
  intro l J hJ W hW hY h0
  have hB0 : Blk W B 9 #[.string s] := hW.trans hB
  refine callsIn_of_wp Tryz.func50 rfl h6 ?_ rfl
  simp only [Tryz.ntmps50, List.size_toArray, List.length_cons, List.length_nil, Nat.reduceAdd, Nat.reduceSub, Array.replicate_succ, Array.replicate_zero, List.push_toArray, List.append_toArray, List.nil_append, List.cons_append]
  gi_wp2
  gi_loopw [3] (fun _ wr => ∃ (pre : List (List UInt8)) (r : List UInt8), linesL s.data.toList = pre ++ linesL r ∧ r.length ≤ 1099511627776 ∧ Blk wr B 9 #[.string (mkB r)] ∧ J pre wr)
    (fun _ wr => boxLen B wr)
  case atStart =>
    exact ⟨[], s.data.toList, rfl, hs, hB0, h0⟩
  case round =>
    obtain ⟨pre, r, hx, hr, hb, hJs⟩ := hrel
    have hc : wr.cell? ⟨B, 0, none⟩ = some (.string (mkB r)) := hb.cell 0
    have hfz : wr.frozen? ⟨B, 0, none⟩ = false := hb.frozen 0
    have hsz := mkB_size r
    have hml := mkB_list r
    cases r with
    | nil =>
      rw [linesL_nil, List.append_nil] at hx
      subst hx
      gi_wp2
      go_end0
      exact ⟨⟨_, rfl⟩, hJs⟩
    | cons b0 r0 =>
      generalize hr0 : b0 :: r0 = r at *
      have hpos : 0 < r.length := by rw [← hr0]; simp
      have hI : Calls Tryz.prog 51 #[.string (mkB r), .int .u8 10] wr fun e w' => e = .returned (.int .i64 (Lib.indexByte r 10)) ∧ w' = wr := Tryz.strings_IndexByte (mkB r) 10 wr
      rcases idx_spec r with ⟨h, hno⟩ | ⟨p, m, hr1, hno, h⟩
      · rw [h] at hI
        have hl1 : linesL r = [r] := by
          have := linesGo_none r [] hno (by rw [← hr0]; simp)
          rw [List.nil_append] at this
          exact this
        rw [hl1] at hx
        have hW2 : Fr (fun i => i = B) wr (wr.setCell ⟨B, 0, none⟩ (.string ⟨#[]⟩)) := (Fr.refl _ _).setCell (.inl (show (fun i => i = B) B from rfl)) _
        have hb2 : Blk (wr.setCell ⟨B, 0, none⟩ (.string ⟨#[]⟩)) B 9 #[.string (mkB [])] := hb.put 0 _
        obtain ⟨fn, tmps, assign, body, hy, hR⟩ := hY pre r [] _ hx (hJ pre wr _ hJs hW2)
        gi_wp2_with (refine ⟨trivial, ?_⟩; gi_at_call 51; refine (callsIn_wide.2 hI).mono ?_; rintro e wx ⟨rfl, rfl⟩)
        refine hR.mono ?_
        rintro e W3 ⟨rfl, hJ3, hk3⟩
        have hb3 : Blk W3 B 9 #[.string (mkB [])] := hk3.trans hb2
        gi_wp2
        go_roundw
        case rel => exact ⟨pre ++ [r], [], by rw [hx, linesL_nil, List.append_nil], Nat.zero_le _, hb3, hJ3⟩
        case measure => rw [boxLen_of hb3, boxLen_of hb, mkB_size, mkB_size]; exact hpos
      · rw [h] at hI
        have hl1 : linesL r = (p ++ [10]) :: linesL m := by
          have := linesGo_one p [] m hno
          rw [List.nil_append, ← hr1] at this
          exact this
        rw [hl1] at hx
        have hlen : r.length = p.length + 1 + m.length := by rw [hr1]; simp; omega
        have hx1 : (mkB r).extract 0 (p.length + 1) = mkB (p ++ [10]) := by
          rw [extract_take, hr1]
          congr 1
          rw [List.take_append, List.take_of_length_le (by omega)]
          simp
        have hx2 : (mkB r).extract (p.length + 1) (mkB r).size = mkB m := by
          rw [extract_drop, hr1]
          congr 1
          rw [List.drop_append]
          simp
        have hb2 : Blk (wr.setCell ⟨B, 0, none⟩ (.string (mkB m))) B 9 #[.string (mkB m)] := hb.put 0 _
        have hmx : Tryz.prog.follows .mixedOrders = true := by kernel_rfl
        have hk1 : p.length + 1 ≤ r.length := by omega
        have hml2 : m.length < r.length := by omega
        clear hr1 hr0 hlen hl1 h hml
        have Hx := hid hx
        clear hx
        gi_wp2_with (refine ⟨trivial, ?_⟩; gi_at_call 51; refine (callsIn_wide.2 hI).mono ?_; rintro e wx ⟨rfl, rfl⟩)
        have hwp : wrap64 ((p.length : Int) + 1) = ((p.length + 1 : Nat) : Int) := by unfold wrap64; omega
        gi_region
        rw [hsz] at hx2
        rw [hx2]
        have hW2 : Fr (fun i => i = B) wx (wx.setCell ⟨B, 0, none⟩ (.string (mkB m))).drew := ((Fr.refl _ _).setCell (.inl (show (fun i => i = B) B from rfl)) _).drew
        obtain ⟨fn, tmps, assign, body, hy, hR⟩ := hY pre (p ++ [10]) (linesL m) _ Hx.out (hJ pre wx _ hJs hW2)
        gi_wp2
        refine hR.mono ?_
        rintro e W3 ⟨rfl, hJ3, hk3⟩
        have hb3 : Blk W3 B 9 #[.string (mkB m)] := hk3.trans hb2
        gi_wp2
        go_roundw
        case rel => exact ⟨pre ++ [p ++ [10]], m, by rw [Hx.out]; simp, by omega, hb3, hJ3⟩
        case measure => rw [boxLen_of hb3, boxLen_of hb, mkB_size, mkB_size]; exact hml2
end Go.Proofs.YtljkclebcoanaaaGreatDoor
