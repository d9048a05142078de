/-
  THE KIT of []uint8, and THE CONTRACT of log.do at a record of a deed that can be done. CONDITIONS: the library's table of white space reads as it is laid (Ta).
  THE CONTRACT of log.redo: the store of the deeds whose records a text holds. CONDITIONS: the deeds can be done one after the other; the library's table of white space reads as it is laid (Ta).
-/
import Derived.Test.YtmgiecoeeidgoaaGreatDoorLogRec
import Derived.Test.YtmgiecoeeidgoaaGreatDoorDoorL
import Derived.Test.YtmgiecoeeidgoaaGreatDoorStore2
import Derived.Laws.IdiomStrings
import Derived.Laws.BytesArg
import Derived.Test.YtmgiecoeeidgoaaGreatDoorLines
namespace Go.Proofs.YtmgiecoeeidgoaaGreatDoor
open Go.RowKit
open Go.ChangeShapes Go.WideShapes Go.ChangeAt

def cellU (x : UInt8) : List Value := [.int .u8 (x.toNat : Int)]
theorem cellU_length (x : UInt8) : (cellU x).length = 1 := rfl
theorem cellU_one (x : UInt8) : ∀ u ∈ cellU x, u.oneCell' = true := by intro u hu; simp [cellU] at hu; subst hu; rfl
theorem infoU : (Tryz.prog.info? 5).map (fun i => (i.zero, i.size, i.bytes)) = some (some (.int .u8 0), 1, 1) := by kernel_rfl
theorem appU {ops : Array Oper} {rest : List Oper} {o : Oper} {a : Act} {Q : Exit → Act → World → Prop} (X : World) (base : Nat) (v : Value) (l : List UInt8) (x0 : UInt8) (hown : Ow cellU 1 base 5 X v l)
    (hgd : o.guard = none) (p q : Operand) (ho : o.op = .call { callee := .builtin .append, args := #[p, q], argTypes := #[121, 121] }) (hp : a.eval p = v) {N : Nat} (hq : a.eval q = .slice (some ⟨N, 0, none⟩) 1 1) (hN : X.heap.size = N) (hl : l.length ≤ 100000000) (hb : base ≤ X.heap.size)
    (h : ∀ v' w', Ow cellU 1 base 5 w' v' (l ++ [x0]) → Fr (fun k => some k = foot v) X w' → (foot v' = foot v ∨ foot v' = some (X.heap.size + 1)) → wpList Tryz.prog ops Q rest (a.put o.dst v') w') :
    wpList Tryz.prog ops Q (o :: rest) a (X.alloc (.cells #[.int .u8 (x0.toNat : Int)] 5)) := by
  subst hN
  exact app_src cellU 1 1 cellU_length (by decide) (by decide) _ _ 121 (.int .u8 0) rfl Tryz.underlying121 infoU hgd p q ho _ base v _ l [x0] hp hq
    (Src.ofSlice _ Tryz.underlying121 ⟨X.heap.size, 0, none⟩ 1 1 _ rfl (fun j u hj => by rw [Addr_add, Nat.zero_add, (Blk.new X 5 _).cell j]; simpa [cellU] using hj) (fun u hu => by simp at hu; exact cellU_one _ u hu)) (hown.alloc _) (by simp; omega) (by simp; omega) (fun v' w' h1 h2 h3 => h v' w' h1 (((Fr.refl _ _).alloc _).step h2) (by simpa using h3))
/-- a row of bytes as a text -/
theorem Ow.text {w : World} {base : Nat} {v : Value} {l : List UInt8} (h : Ow cellU 1 base 5 w v l) : (convert 121 9 v).run Tryz.prog w = .ok (.string (mkB l)) w := by
  by_cases h0 : 0 < l.length
  · obtain ⟨g, off, cap, rfl, _, _, _, _, _, hc, _⟩ := h.get h0
    refine run_convert_bytes_back w 121 9 5 ⟨g, off, none⟩ cap l Tryz.underlying121 Tryz.underlying5 Tryz.underlying9 (fun j hj => ?_)
    have := hc j hj 0 (by decide)
    rw [Nat.mul_one, Nat.add_zero] at this
    rw [Addr_add, this]
    rfl
  · have hl0 : l = [] := by cases l with | nil => rfl | cons a r => simp at h0
    subst hl0
    obtain ⟨A, cap, rfl, _, _, _⟩ := h
    cases A with
    | none => exact run_convert_bytes_nil w 121 5 Tryz.underlying121 Tryz.underlying5 0 cap 9 Tryz.underlying9
    | some a => exact run_convert_bytes_back w 121 9 5 a cap [] Tryz.underlying121 Tryz.underlying5 Tryz.underlying9 (fun j hj => by cases hj)
theorem atoi_any (u : Nat) (hu : u < 1000) (w : World) : Calls Tryz.prog 92 #[.string (mkB (Lib.itoa (u : Int)))] w fun e w' => e = .returned (.tuple #[.int .i64 (u : Int), .nilIface]) ∧ Below w.heap.size w w' := by
  refine (Tryz.strconv_Atoi (mkB (Lib.itoa (u : Int))) u (by rw [mkB_size]; have := itoa_len u hu; omega) (atoi_itoa u) w).mono ?_
  rintro e w' ⟨rfl, t, rfl⟩
  exact ⟨rfl, bytesWorld_below _ _ _⟩
/-- what the words of a record are called in the row that strings.Fields makes -/
theorem recW_get (k : Nat) (t : ByteArray) (i : Nat) (hi : i < t.size) : (recW k false t)[i + 1]? = some (Lib.itoa ((t.data.toList.getD i 0).toNat : Int)) := by
  have hl : i < t.data.toList.length := hi
  unfold recW
  rw [if_neg (by decide), List.nil_append, List.getElem?_cons_succ, List.getElem?_map, List.getElem?_eq_getElem hl, getD_get _ hl]
  rfl
theorem recW_len (k : Nat) (t : ByteArray) : (recW k false t).length = t.size + 1 := by
  unfold recW
  rw [if_neg (by decide), List.nil_append, List.length_cons, List.length_map]
  rfl
theorem itoa_minus (u : Nat) : ((mkB (Lib.itoa (u : Int))).toList == [45]) = false := by
  rw [ByteArray.toList_eq, mkB_list]
  apply beq_eq_false_iff_ne.2
  intro h'
  have := itoa_dig u 45 (by rw [h']; simp)
  exact absurd this.1 (by decide)

/-- what doing a record leaves -/
def DoR (base s : Nat) (vs : List Value) (w : World) (D : List E) (e : Ending) (w' : World) : Prop :=
  ∃ vs', e = .returned .nilIface ∧ StoreO base w' s vs' (lsOf D) D.length ∧ StP (lsOf D) D.length ∧ Fr (FS s vs) w w' ∧ ∀ i, FS s vs' i → FS s vs i ∨ w.heap.size ≤ i

set_option maxHeartbeats 4000000 in
set_option maxRecDepth 100000 in
theorem do_del (base s k : Nat) (hk : k < 8) (D : List E) (hr : rdel D k = (((D.length : Int) + 1, 0), D ++ [⟨k, 0, 0, true, ⟨#[]⟩⟩])) (vs : List Value) (w : World) (hO : StoreO base w s vs (lsOf D) D.length) (hP : StP (lsOf D) D.length) (hT : Ta w) :
    Calls Tryz.prog 68 #[.pointer (some ⟨s, 0, none⟩), .string (mkB (recL k true ⟨#[]⟩))] w (DoR base s vs w (D ++ [⟨k, 0, 0, true, ⟨#[]⟩⟩])) := by
  have hrl := recB_len k true ⟨#[]⟩ (by omega)
  have hrl2 : (recL k true ⟨#[]⟩).length ≤ 1000 := by rw [recL_eq, List.length_append, List.length_singleton]; have : (⟨#[]⟩ : ByteArray).size = 0 := rfl; omega
  have HF := hid (Tryz.strings_Fields_laid (mkB (recL k true ⟨#[]⟩)) w (by rw [mkB_size]; omega) (fun j b hb => recL_ascii k true ⟨#[]⟩ b (List.mem_of_getElem? hb)) hT)
  rw [mkB_list, fields_rec] at HF
  have hw2 : recW k true ⟨#[]⟩ = [Lib.itoa (k : Int), [45]] := rfl
  rw [hw2] at HF
  have HD := hid (fun W (hW : StoreO base W s vs (lsOf D) D.length) => sdel_any base s k vs (lsOf D) D.length W hW hP)
  rw [sdel_r, hr] at HD
  generalize D ++ [⟨k, 0, 0, true, ⟨#[]⟩⟩] = D' at *
  generalize mkB (recL k true ⟨#[]⟩) = R at *
  have HO := hid hO
  clear hw2 hrl hrl2 hT hr hO hP
  go_enter Tryz.func68, Tryz.ntmps68
  go_wp2_with fail
  refine HF.out.mono ?_
  rintro e w1 ⟨rfl, hw1⟩
  have hB1 : Blk w1 w.heap.size 9 #[.string (mkB (Lib.itoa (k : Int))), .string ⟨#[45]⟩] := by rw [hw1]; exact Blk.new _ _ _
  have Hb1 := hid (show Below w.heap.size w w1 by rw [hw1]; exact (Below.refl _ _).alloc (Nat.le_refl _) _)
  have HA := hid (atoi_any k (by omega) w1)
  have hc0 : w1.cell? ⟨w.heap.size, 0, none⟩ = some (.string (mkB (Lib.itoa (k : Int)))) := hB1.cell 0
  have hc1 : w1.cell? ⟨w.heap.size, 1, none⟩ = some (.string ⟨#[45]⟩) := hB1.cell 1
  have hl1 := hB1.lt
  clear hw1 hB1 HF
  simp only [List.length_cons, List.length_nil]
  go_wp2_with fail
  refine HA.out.mono ?_
  rintro e w2 ⟨rfl, hb2⟩
  have hc1' := (hb2.cell (p := ⟨w.heap.size, 1, none⟩) hl1).trans hc1
  have hz2 := hb2.size
  have hl2 : w.heap.size < w2.heap.size := by omega
  have Hb2 := hid (Below.step Hb1.out hb2 (by omega))
  have HD2 := hid (HD.out w2 (HO.out.belowS Hb2.out))
  clear hb2 HA HD hc0 hc1
  go_wp2_with fail
  refine HD2.out.mono ?_
  rintro e w3 h3
  obtain ⟨vs', rfl, hO3, hP3, hF3, hf3⟩ := h3
  have Hf := hid (show DoR base s vs w D' (.returned .nilIface) w3 from ⟨vs', rfl, hO3, hP3, (Fr.ofB Hb2.out).step hF3, fun i hi => (hf3 i hi).imp (fun h => h) (fun h => by omega)⟩)
  clear hO3 hP3 hF3 hf3
  simp only [errV_zero]
  go_wp2_with fail
  go_ret
  exact Hf.out

set_option maxHeartbeats 8000000 in
set_option maxRecDepth 100000 in
theorem do_put1 (base s k : Nat) (hk : k < 8) (t : ByteArray) (ht : t.size ≤ 12) (hne : ¬ t.size = 0) (D : List E) (hr : rput D k t = (((D.length : Int) + 1, 0), D ++ [⟨k, 0, 0, false, t⟩])) (vs : List Value) (w : World) (hO : StoreO base w s vs (lsOf D) D.length) (hP : StP (lsOf D) D.length) (hT : Ta w) :
    Calls Tryz.prog 68 #[.pointer (some ⟨s, 0, none⟩), .string (mkB (recL k false t))] w (DoR base s vs w (D ++ [⟨k, 0, 0, false, t⟩])) := by
  have hrl := recB_len k false t (by omega)
  have hrl2 : (recL k false t).length ≤ 1000 := by rw [recL_eq, List.length_append, List.length_singleton]; omega
  have HF := hid (Tryz.strings_Fields_laid (mkB (recL k false t)) w (by rw [mkB_size]; omega) (fun j b hb => recL_ascii k false t b (List.mem_of_getElem? hb)) hT)
  rw [mkB_list, fields_rec, recW_len] at HF
  have HD := hid (fun W (hW : StoreO base W s vs (lsOf D) D.length) => sput_any base s k t (by unfold maxLen; omega) vs (lsOf D) D.length W hW hP)
  rw [sput_r, hr] at HD
  generalize D ++ [⟨k, 0, 0, false, t⟩] = D' at *
  generalize mkB (recL k false t) = R at *
  have HO := hid hO
  have HtB := hid (mkB_of t)
  clear hrl hrl2 hT hr hO hP
  go_enter Tryz.func68, Tryz.ntmps68
  go_wp2_with fail
  refine HF.out.mono ?_
  rintro e w1 ⟨rfl, hw1⟩
  have hB1 : Blk w1 w.heap.size 9 ((recW k false t).map fun l => Value.string ⟨l.toArray⟩).toArray := by rw [hw1]; exact Blk.new _ _ _
  have Hb1 := hid (show Below w.heap.size w w1 by rw [hw1]; exact (Below.refl _ _).alloc (Nat.le_refl _) _)
  have HA := hid (atoi_any k (by omega) w1)
  have hc0 : w1.cell? ⟨w.heap.size, 0, none⟩ = some (.string (mkB (Lib.itoa (k : Int)))) := hB1.cell 0
  have Hci := hid (fun i (hi : i < t.size) => show w1.cell? ⟨w.heap.size, i + 1, none⟩ = some (.string (mkB (Lib.itoa ((t.data.toList.getD i 0).toNat : Int)))) from by
    rw [hB1.cell (i + 1), List.getElem?_toArray, List.getElem?_map, recW_get k t i hi]
    rfl)
  have hl1 := hB1.lt
  clear hw1 hB1 HF
  go_wp2_with fail
  refine HA.out.mono ?_
  rintro e w2 ⟨rfl, hb2⟩
  have hz2 := hb2.size
  have hl2 : w.heap.size < w2.heap.size := by omega
  have Hb2 := hid (Below.step Hb1.out hb2 (by omega))
  have Hci2 := hid (fun i (hi : i < t.size) => (hb2.cell (p := ⟨w.heap.size, i + 1, none⟩) hl1).trans (Hci.out i hi))
  clear hb2 HA hc0 Hci
  go_upto_region 5 with fail
  go_cut [35] (fun v wx => v = .bool false ∧ wx = w2)
  case first =>
    by_cases h1 : t.size = 1
    · have hc1 := Hci2.out 0 (by omega)
      have hne := itoa_minus (t.data.toList.getD 0 0).toNat
      generalize mkB (Lib.itoa ((t.data.toList.getD 0 0).toNat : Int)) = b0 at *
      have h2 : ((t.size : Int) + 1 == 2) = true := by simp [h1]
      go_wp2_with fail
      go_meet
      exact ⟨rfl, rfl⟩
    · have h2 : ((t.size : Int) + 1 == 2) = false := beq_eq_false_iff_ne.2 (by omega)
      go_wp2_with fail
      go_meet
      exact ⟨rfl, rfl⟩
  case rest =>
  obtain ⟨rfl, hwc⟩ := hcut
  obtain rfl : w2 = wc := hwc.symm
  go_upto_region 9 with fail
  go_cut [44, 45, 46] (fun v n i wx => ∃ o : Nat, v = .slice (some ⟨w.heap.size, o, none⟩) t.size t.size ∧ n = .int .i64 t.size ∧ i = .int .i64 0 ∧ o = 1 ∧ wx = w2)
  case first =>
    go_wp2_with fail
    go_meet
    exact ⟨_, rfl, rfl, rfl, rfl, rfl⟩
  case rest =>
  obtain ⟨o, rfl, rfl, rfl, ho, hwc⟩ := hcut
  obtain rfl : w2 = wc := hwc.symm
  have Ho := hid ho
  clear ho
  go_wp2_with fail
  go_loopw [10, 12, 13, 14, 46] (fun v _ _ _ i wr => ∃ j : Nat, j ≤ t.size ∧ i = .int .i64 j ∧ Ow cellU 1 w2.heap.size 5 wr v (t.data.toList.take j) ∧ Below w2.heap.size w2 wr) (fun _ _ _ _ i _ => t.size - (intOf i).toNat)
  case atStart => exact ⟨0, Nat.zero_le _, rfl, Ow.nil _ _ _ _ _, Below.refl _ _⟩
  case round =>
    obtain ⟨j, hj, rfl, hO, hbr⟩ := hrel
    have hzr := hbr.size
    have HOr := hid hO
    have Hbr := hid hbr
    clear hO
    by_cases hlt : j < t.size
    · have hcell := (hbr.cell (p := ⟨w.heap.size, j + 1, none⟩) hl2).trans (Hci2.out j hlt)
      rw [show j + 1 = o + j by rw [Ho.out, Nat.add_comm]] at hcell
      have hjl : j < t.data.toList.length := hlt
      have hst : t.data.toList.take (j + 1) = t.data.toList.take j ++ [t.data.toList.getD j 0] := take_snocD 0 hjl
      have hlL : (t.data.toList.take j).length ≤ 12 := by rw [List.length_take]; omega
      generalize t.data.toList.getD j 0 = c at *
      generalize t.data.toList.take j = L at *
      have hc256 := c.toNat_lt
      have Hst := hid hst
      generalize hmk : mkB (Lib.itoa (c.toNat : Int)) = mc at *
      have HA := hid (atoi_any c.toNat (by omega) wr)
      rw [hmk] at HA
      clear hst hjl hbr hmk
      go_wp2_with fail
      refine HA.out.mono ?_
      rintro e w5 ⟨rfl, hb5⟩
      have hz5 := hb5.size
      have Hb5 := hid (Below.step Hbr.out hb5 hzr)
      have HO5 := hid (HOr.out.belowS hb5)
      clear hb5 HA
      go_wp2_with (at_builtin; refine appU _ w2.heap.size _ L c HO5.out rfl _ _ rfl rfl rfl ?_ ?_ ?_ ?_)
      any_goals (first | (with_reducible rfl) | omega | exact World.size_alloc _ _ | (show _ ≤ _; rw [World.size_alloc]; omega))
      intro v8 w8 h8 f8 o8
      have hb8 : Below w2.heap.size w2 w8 := Hb5.out.trans (f8.below0 (by omega) (fun i hi => HO5.out.ge _ hi))
      go_wp2_with fail
      go_roundw
      case rel => exact ⟨j + 1, by omega, by go_num, by rw [Hst.out]; exact h8, hb8⟩
      case measure => simp [intOf]; omega
    · obtain rfl : j = t.size := by omega
      rw [show t.data.toList.take t.size = t.data.toList from List.take_length] at HOr
      have hcv := HOr.out.text
      rw [HtB.out] at hcv
      have Hbw := hid (Below.step Hb2.out hbr (by omega))
      have HD2 := hid (HD.out wr (HO.out.belowS Hbw.out))
      clear hbr HOr HD
      go_wp2_with fail
      refine HD2.out.mono ?_
      rintro e w3 h3
      obtain ⟨vs', rfl, hO3, hP3, hF3, hf3⟩ := h3
      have Hf := hid (show DoR base s vs w D' (.returned .nilIface) w3 from ⟨vs', rfl, hO3, hP3, (Fr.ofB Hbw.out).step hF3, fun i hi => (hf3 i hi).imp (fun h => h) (fun h => by omega)⟩)
      clear hO3 hP3 hF3 hf3
      simp only [errV_zero]
      go_wp2_with fail
      go_ret
      exact Hf.out

set_option maxHeartbeats 8000000 in
set_option maxRecDepth 100000 in
theorem do_put0 (base s k : Nat) (hk : k < 8) (D : List E) (hr : rput D k ⟨#[]⟩ = (((D.length : Int) + 1, 0), D ++ [⟨k, 0, 0, false, ⟨#[]⟩⟩])) (vs : List Value) (w : World) (hO : StoreO base w s vs (lsOf D) D.length) (hP : StP (lsOf D) D.length) (hT : Ta w) :
    Calls Tryz.prog 68 #[.pointer (some ⟨s, 0, none⟩), .string (mkB (recL k false ⟨#[]⟩))] w (DoR base s vs w (D ++ [⟨k, 0, 0, false, ⟨#[]⟩⟩])) := by
  have hrl := recB_len k false ⟨#[]⟩ (by omega)
  have hrl2 : (recL k false ⟨#[]⟩).length ≤ 1000 := by rw [recL_eq, List.length_append, List.length_singleton]; have : (⟨#[]⟩ : ByteArray).size = 0 := rfl; omega
  have HF := hid (Tryz.strings_Fields_laid (mkB (recL k false ⟨#[]⟩)) w (by rw [mkB_size]; omega) (fun j b hb => recL_ascii k false ⟨#[]⟩ b (List.mem_of_getElem? hb)) hT)
  rw [mkB_list, fields_rec] at HF
  have hw2 : recW k false ⟨#[]⟩ = [Lib.itoa (k : Int)] := rfl
  rw [hw2] at HF
  have HD := hid (fun W (hW : StoreO base W s vs (lsOf D) D.length) => sput_any base s k ⟨#[]⟩ (by decide) vs (lsOf D) D.length W hW hP)
  rw [sput_r, hr] at HD
  generalize D ++ [⟨k, 0, 0, false, ⟨#[]⟩⟩] = D' at *
  generalize mkB (recL k false ⟨#[]⟩) = R at *
  have HO := hid hO
  clear hw2 hrl hrl2 hT hr hO hP
  go_enter Tryz.func68, Tryz.ntmps68
  go_wp2_with fail
  refine HF.out.mono ?_
  rintro e w1 ⟨rfl, hw1⟩
  have hB1 : Blk w1 w.heap.size 9 #[.string (mkB (Lib.itoa (k : Int)))] := by rw [hw1]; exact Blk.new _ _ _
  have Hb1 := hid (show Below w.heap.size w w1 by rw [hw1]; exact (Below.refl _ _).alloc (Nat.le_refl _) _)
  have HA := hid (atoi_any k (by omega) w1)
  have hc0 : w1.cell? ⟨w.heap.size, 0, none⟩ = some (.string (mkB (Lib.itoa (k : Int)))) := hB1.cell 0
  have hl1 := hB1.lt
  clear hw1 hB1 HF
  simp only [List.length_cons, List.length_nil]
  go_wp2_with fail
  refine HA.out.mono ?_
  rintro e w2 ⟨rfl, hb2⟩
  have hz2 := hb2.size
  have Hb2 := hid (Below.step Hb1.out hb2 (by omega))
  have hcv : (convert 121 9 (.slice none 0 0)).run Tryz.prog w2 = .ok (.string ⟨#[]⟩) w2 := (Ow.nil cellU 1 w2.heap.size 5 w2).text
  have HD2 := hid (HD.out w2 (HO.out.belowS Hb2.out))
  clear hb2 HA HD hc0
  go_wp2_with fail
  go_loopw [10, 12, 13, 14, 46] (fun v _ _ _ i wr => v = .slice none 0 0 ∧ i = .int .i64 0 ∧ wr = w2) (fun _ _ _ _ _ _ => 0)
  case atStart => exact ⟨rfl, rfl, rfl⟩
  case round =>
    obtain ⟨rfl, rfl, rfl⟩ := hrel
    go_wp2_with fail
    refine HD2.out.mono ?_
    rintro e w3 h3
    obtain ⟨vs', rfl, hO3, hP3, hF3, hf3⟩ := h3
    have Hf := hid (show DoR base s vs w D' (.returned .nilIface) w3 from ⟨vs', rfl, hO3, hP3, (Fr.ofB Hb2.out).step hF3, fun i hi => (hf3 i hi).imp (fun h => h) (fun h => by omega)⟩)
    clear hO3 hP3 hF3 hf3
    simp only [errV_zero]
    go_wp2_with fail
    go_ret
    exact Hf.out

theorem do_any (base s : Nat) (D : List E) (e : E) (he : DeedE e) (hr : redoE D e = (((D.length : Int) + 1, 0), D ++ [e])) (vs : List Value) (w : World) (hO : StoreO base w s vs (lsOf D) D.length) (hP : StP (lsOf D) D.length) (hT : Ta w) :
    Calls Tryz.prog 68 #[.pointer (some ⟨s, 0, none⟩), .string (mkB (recE e))] w (DoR base s vs w (D ++ [e])) := by
  obtain ⟨k, v, a, g, t⟩ := e
  obtain ⟨⟨h0, h8⟩, ht, ⟨hv, ha⟩, hg⟩ := he
  simp only at h0 h8 ht hv ha hg
  subst hv ha
  obtain ⟨n, rfl⟩ := Int.eq_ofNat_of_zero_le h0
  have hn : n < 8 := by omega
  unfold redoE at hr
  show Calls _ _ #[_, .string (mkB (recL ((n : Int)).toNat g t))] w _
  rw [Int.toNat_natCast]
  cases g with
  | true =>
    obtain rfl := hg rfl
    exact do_del base s n hn D hr vs w hO hP hT
  | false =>
    simp only [Bool.false_eq_true, if_false] at hr
    by_cases hz : t.size = 0
    · obtain rfl : t = ⟨#[]⟩ := by
        obtain ⟨l⟩ := t
        obtain rfl : l = #[] := Array.eq_empty_of_size_eq_zero hz
        rfl
      exact do_put0 base s n hn D hr vs w hO hP hT
    · exact do_put1 base s n hn t ht hz D hr vs w hO hP hT
end Go.Proofs.YtmgiecoeeidgoaaGreatDoor
namespace Go.Proofs.YtmgiecoeeidgoaaGreatDoor
open Go.RowKit Go.Shelf

attribute [local go_sem] Oper.semAt_some

theorem StoreO.fsr {base s : Nat} {w : World} {vs : List Value} {ls : List (List Ch)} {n : Int} (hO : StoreO base w s vs ls n) {i : Nat} (h : FS s vs i) : base ≤ i ∧ i < w.heap.size := by
  rcases h with rfl | ⟨j, hj, h⟩
  · exact ⟨hO.base, hO.lt⟩
  · exact hO.footlt hj h.symm
theorem StoreO.mono {base base' s : Nat} {w : World} {vs : List Value} {ls : List (List Ch)} {n : Int} (h : StoreO base w s vs ls n) (hb : base' ≤ base) : StoreO base' w s vs ls n :=
  ⟨h.blk, h.len, fun k hk => (h.own k hk).mono hb, h.apart, h.off, Nat.le_trans hb h.base⟩
theorem lines_rec : ∀ (D : List E), linesL (bytesL D) = D.map recE
  | [] => rfl
  | e :: D => by
    rw [bytesL_cons, List.map_cons, ← lines_rec D]
    show linesGo [] (recL _ _ _ ++ bytesL D) = recL _ _ _ :: linesGo [] (bytesL D)
    rw [recL_eq, List.append_assoc, List.singleton_append, linesGo_one _ _ _ (recB_no _ _ _), List.nil_append]

set_option maxRecDepth 100000 in
set_option maxHeartbeats 4000000 in
theorem redo_any (D : List E) (hv : ValD D) (hD : D.length ≤ 1000) (w : World) (hT : Ta w) :
    Calls Tryz.prog 36 #[.string (mkB (bytesL D))] w fun e w' => ∃ s vs, e = .returned (.tuple #[.pointer (some ⟨s, 0, none⟩), .nilIface]) ∧ StoreO w.heap.size w' s vs (lsOf D) D.length ∧ StP (lsOf D) D.length ∧ Below w.heap.size w w' := by
  refine (callsIn_wide (n := 6)).1 ?_
  refine callsIn_of_wp_marks Tryz.func36 rfl trivial ?_ rfl
  simp only [Tryz.ntmps36, List.size_toArray, List.length_cons, List.length_nil, Nat.reduceAdd, Nat.reduceSub, Array.replicate_succ, Array.replicate_zero, List.push_toArray, List.append_toArray, List.nil_append, List.cons_append]
  gi_wp2_with (first | (refine ⟨trivial, ?_⟩; gi_at_call 31; refine (callsIn_wide.2 (snew_any _)).mono ?_; rintro e w1 ⟨rfl, hO1, hb1⟩) | (refine ⟨trivial, ?_⟩; gi_at_call 67; refine (lines_in Fence.wide _ trivial rfl _ _).mono ?_; rintro e w2 ⟨rfl, hw2⟩))
  have hs1 : ((w.alloc (Obj.cells #[Value.pointer none] 70)).alloc (Obj.cells #[Value.nilIface] 26)).heap.size = w.heap.size + 2 := by simp
  have hB0 : Blk ((w.alloc (Obj.cells #[Value.pointer none] 70)).alloc (Obj.cells #[Value.nilIface] 26)) w.heap.size 70 #[.pointer none] := (Blk.new _ _ _).alloc _
  have hB1 : Blk ((w.alloc (Obj.cells #[Value.pointer none] 70)).alloc (Obj.cells #[Value.nilIface] 26)) (w.heap.size + 1) 26 #[.nilIface] := Blk.new_at (by simp)
  have hbw : Below w.heap.size w ((w.alloc (Obj.cells #[Value.pointer none] 70)).alloc (Obj.cells #[Value.nilIface] 26)) := ((Below.refl _ _).alloc (Nat.le_refl _) _).alloc (by simp) _
  have HB0 := hB0.belowS hb1
  have HB1 := hB1.belowS hb1
  have hbw1 := Below.step hbw hb1 (by rw [hs1]; omega)
  have hz1 := hb1.size
  rw [hs1] at hO1 hz1
  clear hB0 hB1 hbw hb1 hs1
  have hsz : ((w1.alloc (Obj.cells #[Value.pointer (some { block := w.heap.size + 1 + 1, off := 0 })] 70)).alloc (Obj.cells #[Value.string (mkB (bytesL D))] 9)).heap.size = w1.heap.size + 2 := by simp
  have hBs : Blk ((w1.alloc (Obj.cells #[Value.pointer (some { block := w.heap.size + 1 + 1, off := 0 })] 70)).alloc (Obj.cells #[Value.string (mkB (bytesL D))] 9)) (w1.heap.size + 1) 9 #[.string (mkB (bytesL D))] := Blk.new_at (by simp)
  have hBp : Blk ((w1.alloc (Obj.cells #[Value.pointer (some { block := w.heap.size + 1 + 1, off := 0 })] 70)).alloc (Obj.cells #[Value.string (mkB (bytesL D))] 9)) w1.heap.size 70 #[.pointer (some ⟨w.heap.size + 1 + 1, 0, none⟩)] := (Blk.new _ _ _).alloc _
  have hb12 : Below w1.heap.size w1 ((w1.alloc (Obj.cells #[Value.pointer (some { block := w.heap.size + 1 + 1, off := 0 })] 70)).alloc (Obj.cells #[Value.string (mkB (bytesL D))] 9)) := ((Below.refl _ _).alloc (Nat.le_refl _) _).alloc (by simp) _
  generalize hwL : (w1.alloc (Obj.cells #[Value.pointer (some { block := w.heap.size + 1 + 1, off := 0 })] 70)).alloc (Obj.cells #[Value.string (mkB (bytesL D))] 9) = wL at *
  have HB0' := HB0.belowS hb12
  have HB1' := HB1.belowS hb12
  have hO2 := hO1.belowS hb12
  have hbwL := Below.step hbw1 hb12 (by omega)
  obtain ⟨s, hs⟩ : ∃ s, s = w.heap.size + 2 := ⟨_, rfl⟩
  have hs' : w.heap.size + 1 + 1 = s := by omega
  rw [hs'] at hBp
  rw [← hs] at hO2
  rw [hs']
  obtain ⟨Is, hIs⟩ : ∃ Is : List (List UInt8) → World → Prop, Is = fun pre W => ∃ vs, StoreO s W s vs (lsOf (D.take pre.length)) (D.take pre.length).length ∧ StP (lsOf (D.take pre.length)) (D.take pre.length).length ∧
    (∀ i, FS s vs i → i ≠ w1.heap.size ∧ ¬ Three (w1.heap.size + 1) (w1.heap.size + 2) i) ∧ Blk W w.heap.size 70 #[.pointer none] ∧ Blk W (w.heap.size + 1) 26 #[.nilIface] ∧ Blk W w1.heap.size 70 #[.pointer (some ⟨s, 0, none⟩)] ∧ Below w.heap.size w W := ⟨_, rfl⟩
  refine range_box rfl (by decide) (gf := 89) (B := w1.heap.size + 1) rfl trivial (enters_of Tryz.func89 (by kernel_rfl) rfl) (fun x : List UInt8 => Value.string (mkB x)) (D.map recE) (by rw [hsz]; omega) rfl
    (by rw [← lines_rec D]; exact lines_seq Fence.wide _ trivial rfl (by decide) (w1.heap.size + 1) (mkB (bytesL D)) (by rw [mkB_size]; have := bytesL_len D hv.each; omega) wL hBs)
    Is ?inv ?start
    (fun x => { tmps := #[Value.string (mkB (bytesL D)), undef, Value.pointer (some { block := w.heap.size, off := 0 }), Value.pointer (some { block := w.heap.size + 1, off := 0 }), Value.pointer (some { block := w1.heap.size, off := 0 }), .string (mkB x), undef,
          Value.pointer (some { block := s, off := 0 }), Value.string (mkB (bytesL D)), Value.func (Fn.func 89) #[] #[Value.pointer (some { block := w1.heap.size + 1, off := 0 })], .string (mkB x), undef,
          undef, undef, undef, undef, undef, undef], defers := [] }) ?assign ?body ?done
  case inv =>
    rintro pre W W' hi hf
    rw [hIs] at hi ⊢
    rw [hsz] at hf
    obtain ⟨vs, h1, h2, h3, h4, h5, h6, h7⟩ := hi
    have n4 : ¬ Three (w1.heap.size + 1) (w1.heap.size + 2) w.heap.size := fun h => by unfold Three at h; omega
    have n5 : ¬ Three (w1.heap.size + 1) (w1.heap.size + 2) (w.heap.size + 1) := fun h => by unfold Three at h; omega
    have n6 : ¬ Three (w1.heap.size + 1) (w1.heap.size + 2) w1.heap.size := fun h => by unfold Three at h; omega
    exact ⟨vs, h1.fr hf (h3 s (.inl rfl)).2 (fun k hk g hg hs => (h3 g (.inr ⟨k, hk, hg.symm⟩)).2 hs), h2, h3, h4.fr hf n4, h5.fr hf n5, h6.fr hf n6, h7.trans (hf.below0 h7.size (fun i hi => by unfold Three at hi; omega))⟩
  case start =>
    have hsl := hO1.lt
    rw [hIs]
    refine ⟨_, by rw [List.length_nil, List.take_zero, lsOf_nil]; exact hO2, by rw [List.length_nil, List.take_zero, lsOf_nil]; exact StP.new, fun i hi => ?_, HB0', HB1', hBp, hbwL⟩
    have e1 : ∀ k, (List.replicate 8 nilS).getD k nilS = nilS := fun k => by simp only [List.getD, List.getElem?_replicate]; split <;> rfl
    rcases hi with hi | ⟨k, hk, hg⟩
    · exact ⟨by omega, fun h => by unfold Three at h; omega⟩
    · rw [e1] at hg; cases hg
  case assign =>
    intro l x W K hK
    simp only [List.zip_toArray, List.zip_cons_cons, List.zip_nil_right, List.foldl_toArray', List.size_toArray, List.length_cons, List.length_nil, List.foldl_cons, List.foldl_nil, List.setIfInBounds_toArray, List.set_cons_succ, List.set_cons_zero]
    gi_wp2
    exact hK
  case body =>
    intro l pre x rest W hx hi hlt
    rw [hsz] at hlt
    obtain ⟨A, Bq, hAB, hA, hBq⟩ := List.map_eq_append_iff.1 hx
    obtain ⟨e, B, rfl, he, hB⟩ := List.map_eq_cons_iff.1 hBq
    subst he hA hB
    obtain ⟨hde, hre⟩ := hv A e B hAB
    rw [hIs] at hi
    obtain ⟨vs, h1, h2, h3, h4, h5, h6, h7⟩ := hi
    have hAl : D.take (A.map recE).length = A := by rw [List.length_map, hAB, List.take_left']; rfl
    have hAl2 : D.take (A.map recE ++ [recE e]).length = A ++ [e] := by
      rw [List.length_append, List.length_map, List.length_singleton, hAB, show A ++ e :: B = (A ++ [e]) ++ B by simp, List.take_left' (by simp)]
    rw [hAl] at h1 h2
    have HDo := hid (do_any s s A e hde hre vs W h1 h2 (hT.belowS h7))
    have hcp : W.cell? ⟨w1.heap.size, 0, none⟩ = some (.pointer (some ⟨s, 0, none⟩)) := h6.cell 0
    have Hpost := hid (fun (w3 : World) (h : DoR s s vs W (A ++ [e]) (.returned .nilIface) w3) => show boxPost (w1.heap.size + 1) wL.heap.size Is (A.map recE ++ [recE e]) W .normal ⟨#[], []⟩ w3 from by
      obtain ⟨vs', _, g1, g2, g3, g4⟩ := h
      have nf : ∀ i, i < W.heap.size → ¬ FS s vs i → w3.heap[i]? = W.heap[i]? := fun i hi hn => g3.block i hi hn
      refine ⟨?_, fun i hi => ?_⟩
      · rw [hIs]
        show ∃ vs, StoreO s w3 s vs (lsOf (D.take (A.map recE ++ [recE e]).length)) (D.take (A.map recE ++ [recE e]).length).length ∧ _
        rw [hAl2]
        refine ⟨vs', g1, g2, fun i hi => ?_, h4.fr g3 (fun h => ?_), h5.fr g3 (fun h => ?_), h6.fr g3 (fun h => (h3 _ h).1 rfl), h7.trans (g3.below0 h7.size (fun i hi => by have := (h1.fsr hi).1; omega))⟩
        · rcases g4 i hi with h | h
          · exact h3 i h
          · exact ⟨by omega, fun h' => by unfold Three at h'; omega⟩
        · have := (h1.fsr h).1; omega
        · have := (h1.fsr h).1; omega
      · rw [hsz] at hi
        refine nf i (by unfold Three at hi; omega) (fun h => (h3 i h).2 hi))
    clear h1 h2 h3 h4 h5 h6 h7 hv hre hde hAB hx hBq hAl hAl2 hIs hs hs' hwL hw2 hsz hO1 hO2 HB0 HB1 hbw1 hz1 hBs hBp hb12 HB0' HB1' hbwL hlt
    gi_wp2_with (refine ⟨trivial, ?_⟩; gi_at_call 68; refine (CallsIn.inRound l (callsIn_wide.2 HDo.out)).mono ?_; rintro e w3 hdo; have Hdo := hid hdo; obtain ⟨vs', rfl, -, -, -, -⟩ := hdo)
    exact Hpost.out w3 Hdo.out
  case done =>
    intro W hi hW
    rw [hIs] at hi
    obtain ⟨vs, h1, h2, h3, h4, h5, h6, h7⟩ := hi
    have c6 : W.cell? ⟨w1.heap.size, 0, none⟩ = some (.pointer (some ⟨s, 0, none⟩)) := h6.cell 0
    have c4 : W.cell? ⟨w.heap.size, 0, none⟩ = some (.pointer none) := h4.cell 0
    have c5 : W.cell? ⟨w.heap.size + 1, 0, none⟩ = some .nilIface := h5.cell 0
    have f4 := h4.frozen 0
    have f5 := h5.frozen 0
    have Hfin := hid (And.intro h1 (And.intro h2 (And.intro h3 (And.intro h7 (And.intro h4 h5)))))
    have Hs := hid hs
    have Hsz := hid (show w.heap.size + 2 ≤ w1.heap.size ∧ wL.heap.size = w1.heap.size + 2 from ⟨hz1, hsz⟩)
    have hlt1 : w.heap.size + 1 < W.heap.size := h5.lt
    clear h1 h2 h3 h4 h5 h6 h7 hv hIs hs hs' hwL hw2 hsz hO1 hO2 HB0 HB1 hbw1 hz1 hBs hBp hb12 HB0' HB1' hbwL
    have hne0 : wL.heap.size ≠ w.heap.size := by have := Hsz.out; omega
    have hne1 : wL.heap.size ≠ w.heap.size + 1 := by have := Hsz.out; omega
    gi_wp2
    have hK4 : ((W.setCell ⟨w.heap.size, 0, none⟩ (.pointer (some ⟨s, 0, none⟩))).setCell ⟨w.heap.size + 1, 0, none⟩ .nilIface).heap[wL.heap.size]? = some (.deferred (some [])) :=
      (Below.heap_setCell _ ⟨w.heap.size + 1, 0, none⟩ _ _ hne1).trans ((Below.heap_setCell W ⟨w.heap.size, 0, none⟩ _ _ hne0).trans hW)
    refine ⟨by simp, .inl ⟨_, _, rfl, run_takeDeferred hK4, ?_⟩⟩
    obtain ⟨h1, h2, h3, h7, h4, h5⟩ := Hfin.out
    have hD0 : D.take (D.map recE).length = D := by rw [List.length_map, List.take_length]
    rw [hD0] at h1 h2
    have hFr : Fr (fun i => i = w.heap.size ∨ i = w.heap.size + 1 ∨ i = wL.heap.size) W (((W.setCell ⟨w.heap.size, 0, none⟩ (.pointer (some ⟨s, 0, none⟩))).setCell ⟨w.heap.size + 1, 0, none⟩ .nilIface).putObj wL.heap.size (.deferred none)) :=
      (((Fr.refl _ _).setCell (.inl (.inl rfl)) _).setCell (.inl (.inr (.inl rfl))) _).grown (grownBy_putObj' _ wL.heap.size _) (fun k e => by cases e; exact .inl (.inr (.inr rfl)))
    have g4 : Blk (((W.setCell ⟨w.heap.size, 0, none⟩ (.pointer (some ⟨s, 0, none⟩))).setCell ⟨w.heap.size + 1, 0, none⟩ .nilIface).putObj wL.heap.size (.deferred none)) w.heap.size 70 #[.pointer (some ⟨s, 0, none⟩)] :=
      (World.putObj_heap_other (Ne.symm hne0)).trans ((h4.put 0 (.pointer (some ⟨s, 0, none⟩))).far (p := ⟨w.heap.size + 1, 0, none⟩) (by show w.heap.size ≠ w.heap.size + 1; omega) .nilIface)
    have g5 : Blk (((W.setCell ⟨w.heap.size, 0, none⟩ (.pointer (some ⟨s, 0, none⟩))).setCell ⟨w.heap.size + 1, 0, none⟩ .nilIface).putObj wL.heap.size (.deferred none)) (w.heap.size + 1) 26 #[.nilIface] :=
      (World.putObj_heap_other (Ne.symm hne1)).trans ((h5.far (p := ⟨w.heap.size, 0, none⟩) (by show w.heap.size + 1 ≠ w.heap.size; omega) (.pointer (some ⟨s, 0, none⟩))).put 0 .nilIface)
    generalize (((W.setCell ⟨w.heap.size, 0, none⟩ (.pointer (some ⟨s, 0, none⟩))).setCell ⟨w.heap.size + 1, 0, none⟩ .nilIface).putObj wL.heap.size (.deferred none)) = W9 at *
    have k4 : W9.cell? ⟨w.heap.size, 0, none⟩ = some (.pointer (some ⟨s, 0, none⟩)) := g4.cell 0
    have k5 : W9.cell? ⟨w.heap.size + 1, 0, none⟩ = some .nilIface := g5.cell 0
    have hs9 := Hs.out
    have hz9 := Hsz.out
    refine ⟨.tuple #[.pointer (some ⟨s, 0, none⟩), .nilIface], by simp [results, Tryz.f36, go_sem, k4, k5], s, vs, rfl, ?_, h2, ?_⟩
    · have h9 : StoreO s W9 s vs (lsOf D) D.length := h1.fr hFr (fun h => by omega) (fun k hk g hg h => by
        have a1 := (h1.fsr (.inr ⟨k, hk, hg.symm⟩)).1
        have a2 := (h3 g (.inr ⟨k, hk, hg.symm⟩)).2
        rcases h with h | h | h
        · omega
        · omega
        · exact a2 (.inr (.inl (by omega))))
      exact h9.mono (by omega)
    · exact h7.trans (hFr.below0 h7.size (fun i hi => by omega))
end Go.Proofs.YtmgiecoeeidgoaaGreatDoor
