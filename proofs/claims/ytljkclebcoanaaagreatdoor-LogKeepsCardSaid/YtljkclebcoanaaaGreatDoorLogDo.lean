/-
  THE KIT of []uint8, and THE CONTRACT of log.do at a record of a deed that can be done. CONDITIONS: the library's table of white space reads as it is laid (Ta).
-/
import Derived.Test.YtljkclebcoanaaaGreatDoorLogRec
import Derived.Test.YtljkclebcoanaaaGreatDoorDoorL
import Derived.Test.YtljkclebcoanaaaGreatDoorStore2
import Derived.Laws.IdiomStrings
import Derived.Laws.BytesArg
namespace Go.Proofs.YtljkclebcoanaaaGreatDoor
open Go.RowKit
open Go.ChangeShapes Go.WideShapes Go.ChangeAt

def cellU (x : UInt8) : List Value := [.int .u8 (x.toNat : Int)]
theorem cellU_length (x : UInt8) : (cellU x).length = 1 := rfl
theorem cellU_one (x : UInt8) : ∀ u ∈ cellU x, u.oneCell' = true := by intro u hu; simp [cellU] at hu; subst hu; rfl
theorem infoU : (Tryz.prog.info? 5).map (fun i => (i.zero, i.size, i.bytes)) = some (some (.int .u8 0), 1, 1) := by kernel_rfl
theorem appU {ops : Array Oper} {rest : List Oper} {o : Oper} {a : Act} {Q : Exit → Act → World → Prop} (X : World) (base : Nat) (v : Value) (l : List UInt8) (x0 : UInt8) (hown : Ow cellU 1 base 5 X v l)
    (hgd : o.guard = none) (p q : Operand) (ho : o.op = .call { callee := .builtin .append, args := #[p, q], argTypes := #[83, 83] }) (hp : a.eval p = v) {N : Nat} (hq : a.eval q = .slice (some ⟨N, 0, none⟩) 1 1) (hN : X.heap.size = N) (hl : l.length ≤ 100000000) (hb : base ≤ X.heap.size)
    (h : ∀ v' w', Ow cellU 1 base 5 w' v' (l ++ [x0]) → Fr (fun k => some k = foot v) X w' → (foot v' = foot v ∨ foot v' = some (X.heap.size + 1)) → wpList Tryz.prog ops Q rest (a.put o.dst v') w') :
    wpList Tryz.prog ops Q (o :: rest) a (X.alloc (.cells #[.int .u8 (x0.toNat : Int)] 5)) := by
  subst hN
  exact app_src cellU 1 1 cellU_length (by decide) (by decide) _ _ 83 (.int .u8 0) rfl Tryz.underlying83 infoU hgd p q ho _ base v _ l [x0] hp hq
    (Src.ofSlice _ Tryz.underlying83 ⟨X.heap.size, 0, none⟩ 1 1 _ rfl (fun j u hj => by rw [Addr_add, Nat.zero_add, (Blk.new X 5 _).cell j]; simpa [cellU] using hj) (fun u hu => by simp at hu; exact cellU_one _ u hu)) (hown.alloc _) (by simp; omega) (by simp; omega) (fun v' w' h1 h2 h3 => h v' w' h1 (((Fr.refl _ _).alloc _).step h2) (by simpa using h3))
/-- a row of bytes as a text -/
theorem Ow.text {w : World} {base : Nat} {v : Value} {l : List UInt8} (h : Ow cellU 1 base 5 w v l) : (convert 83 9 v).run Tryz.prog w = .ok (.string (mkB l)) w := by
  by_cases h0 : 0 < l.length
  · obtain ⟨g, off, cap, rfl, _, _, _, _, _, hc, _⟩ := h.get h0
    refine run_convert_bytes_back w 83 9 5 ⟨g, off, none⟩ cap l Tryz.underlying83 Tryz.underlying5 Tryz.underlying9 (fun j hj => ?_)
    have := hc j hj 0 (by decide)
    rw [Nat.mul_one, Nat.add_zero] at this
    rw [Addr_add, this]
    rfl
  · have hl0 : l = [] := by cases l with | nil => rfl | cons a r => simp at h0
    subst hl0
    obtain ⟨A, cap, rfl, _, _, _⟩ := h
    cases A with
    | none => exact run_convert_bytes_nil w 83 5 Tryz.underlying83 Tryz.underlying5 0 cap 9 Tryz.underlying9
    | some a => exact run_convert_bytes_back w 83 9 5 a cap [] Tryz.underlying83 Tryz.underlying5 Tryz.underlying9 (fun j hj => by cases hj)
theorem atoi_any (u : Nat) (hu : u < 1000) (w : World) : Calls Tryz.prog 53 #[.string (mkB (Lib.itoa (u : Int)))] w fun e w' => e = .returned (.tuple #[.int .i64 (u : Int), .nilIface]) ∧ Below w.heap.size w w' := by
  refine (Tryz.strconv_Atoi (mkB (Lib.itoa (u : Int))) u (by rw [mkB_size]; have := itoa_len u hu; omega) (atoi_itoa u) w).mono ?_
  rintro e w' ⟨rfl, t, rfl⟩
  exact ⟨rfl, bytesWorld_below _ _ _⟩
/-- what the words of a record are called in the row that strings.Fields makes -/
theorem recW_get (k : Nat) (t : ByteArray) (i : Nat) (hi : i < t.size) : (recW k false t)[i + 1]? = some (Lib.itoa ((t.data.toList.getD i 0).toNat : Int)) := by
  have hl : i < t.data.toList.length := hi
  unfold recW
  rw [if_neg (by decide), List.nil_append, List.getElem?_cons_succ, List.getElem?_map, List.getElem?_eq_getElem hl, getD_get _ hl]
  rfl
theorem recW_len (k : Nat) (t : ByteArray) : (recW k false t).length = t.size + 1 := by
  unfold recW
  rw [if_neg (by decide), List.nil_append, List.length_cons, List.length_map]
  rfl
theorem itoa_minus (u : Nat) : ((mkB (Lib.itoa (u : Int))).toList == [45]) = false := by
  rw [ByteArray.toList_eq, mkB_list]
  apply beq_eq_false_iff_ne.2
  intro h'
  have := itoa_dig u 45 (by rw [h']; simp)
  exact absurd this.1 (by decide)

/-- what doing a record leaves -/
def DoR (base s : Nat) (vs : List Value) (w : World) (D : List E) (e : Ending) (w' : World) : Prop :=
  ∃ vs', e = .returned .nilIface ∧ StoreO base w' s vs' (lsOf D) D.length ∧ StP (lsOf D) D.length ∧ Fr (FS s vs) w w' ∧ ∀ i, FS s vs' i → FS s vs i ∨ w.heap.size ≤ i

set_option maxHeartbeats 4000000 in
set_option maxRecDepth 100000 in
theorem do_del (base s k : Nat) (hk : k < 8) (D : List E) (hr : rdel D k = (((D.length : Int) + 1, 0), D ++ [⟨k, 0, 0, true, ⟨#[]⟩⟩])) (vs : List Value) (w : World) (hO : StoreO base w s vs (lsOf D) D.length) (hP : StP (lsOf D) D.length) (hT : Ta w) :
    Calls Tryz.prog 40 #[.pointer (some ⟨s, 0, none⟩), .string (mkB (recL k true ⟨#[]⟩))] w (DoR base s vs w (D ++ [⟨k, 0, 0, true, ⟨#[]⟩⟩])) := by
  have hrl := recB_len k true ⟨#[]⟩ (by omega)
  have hrl2 : (recL k true ⟨#[]⟩).length ≤ 1000 := by rw [recL_eq, List.length_append, List.length_singleton]; have : (⟨#[]⟩ : ByteArray).size = 0 := rfl; omega
  have HF := hid (Tryz.strings_Fields_laid (mkB (recL k true ⟨#[]⟩)) w (by rw [mkB_size]; omega) (fun j b hb => recL_ascii k true ⟨#[]⟩ b (List.mem_of_getElem? hb)) hT)
  rw [mkB_list, fields_rec] at HF
  have hw2 : recW k true ⟨#[]⟩ = [Lib.itoa (k : Int), [45]] := rfl
  rw [hw2] at HF
  have HD := hid (fun W (hW : StoreO base W s vs (lsOf D) D.length) => sdel_any base s k vs (lsOf D) D.length W hW hP)
  rw [sdel_r, hr] at HD
  generalize D ++ [⟨k, 0, 0, true, ⟨#[]⟩⟩] = D' at *
  generalize mkB (recL k true ⟨#[]⟩) = R at *
  have HO := hid hO
  clear hw2 hrl hrl2 hT hr hO hP
  go_enter Tryz.func40, Tryz.ntmps40
  go_wp2_with fail
  refine HF.out.mono ?_
  rintro e w1 ⟨rfl, hw1⟩
  have hB1 : Blk w1 w.heap.size 9 #[.string (mkB (Lib.itoa (k : Int))), .string ⟨#[45]⟩] := by rw [hw1]; exact Blk.new _ _ _
  have Hb1 := hid (show Below w.heap.size w w1 by rw [hw1]; exact (Below.refl _ _).alloc (Nat.le_refl _) _)
  have HA := hid (atoi_any k (by omega) w1)
  have hc0 : w1.cell? ⟨w.heap.size, 0, none⟩ = some (.string (mkB (Lib.itoa (k : Int)))) := hB1.cell 0
  have hc1 : w1.cell? ⟨w.heap.size, 1, none⟩ = some (.string ⟨#[45]⟩) := hB1.cell 1
  have hl1 := hB1.lt
  clear hw1 hB1 HF
  simp only [List.length_cons, List.length_nil]
  go_wp2_with fail
  refine HA.out.mono ?_
  rintro e w2 ⟨rfl, hb2⟩
  have hc1' := (hb2.cell (p := ⟨w.heap.size, 1, none⟩) hl1).trans hc1
  have hz2 := hb2.size
  have hl2 : w.heap.size < w2.heap.size := by omega
  have Hb2 := hid (Below.step Hb1.out hb2 (by omega))
  have HD2 := hid (HD.out w2 (HO.out.belowS Hb2.out))
  clear hb2 HA HD hc0 hc1
  go_wp2_with fail
  refine HD2.out.mono ?_
  rintro e w3 h3
  obtain ⟨vs', rfl, hO3, hP3, hF3, hf3⟩ := h3
  have Hf := hid (show DoR base s vs w D' (.returned .nilIface) w3 from ⟨vs', rfl, hO3, hP3, (Fr.ofB Hb2.out).step hF3, fun i hi => (hf3 i hi).imp (fun h => h) (fun h => by omega)⟩)
  clear hO3 hP3 hF3 hf3
  simp only [errV_zero]
  go_wp2_with fail
  go_ret
  exact Hf.out

set_option maxHeartbeats 8000000 in
set_option maxRecDepth 100000 in
theorem do_put1 (base s k : Nat) (hk : k < 8) (t : ByteArray) (ht : t.size ≤ 12) (hne : ¬ t.size = 0) (D : List E) (hr : rput D k t = (((D.length : Int) + 1, 0), D ++ [⟨k, 0, 0, false, t⟩])) (vs : List Value) (w : World) (hO : StoreO base w s vs (lsOf D) D.length) (hP : StP (lsOf D) D.length) (hT : Ta w) :
    Calls Tryz.prog 40 #[.pointer (some ⟨s, 0, none⟩), .string (mkB (recL k false t))] w (DoR base s vs w (D ++ [⟨k, 0, 0, false, t⟩])) := by
  have hrl := recB_len k false t (by omega)
  have hrl2 : (recL k false t).length ≤ 1000 := by rw [recL_eq, List.length_append, List.length_singleton]; omega
  have HF := hid (Tryz.strings_Fields_laid (mkB (recL k false t)) w (by rw [mkB_size]; omega) (fun j b hb => recL_ascii k false t b (List.mem_of_getElem? hb)) hT)
  rw [mkB_list, fields_rec, recW_len] at HF
  have HD := hid (fun W (hW : StoreO base W s vs (lsOf D) D.length) => sput_any base s k t (by unfold maxLen; omega) vs (lsOf D) D.length W hW hP)
  rw [sput_r, hr] at HD
  generalize D ++ [⟨k, 0, 0, false, t⟩] = D' at *
  generalize mkB (recL k false t) = R at *
  have HO := hid hO
  have HtB := hid (mkB_of t)
  clear hrl hrl2 hT hr hO hP
  go_enter Tryz.func40, Tryz.ntmps40
  go_wp2_with fail
  refine HF.out.mono ?_
  rintro e w1 ⟨rfl, hw1⟩
  have hB1 : Blk w1 w.heap.size 9 ((recW k false t).map fun l => Value.string ⟨l.toArray⟩).toArray := by rw [hw1]; exact Blk.new _ _ _
  have Hb1 := hid (show Below w.heap.size w w1 by rw [hw1]; exact (Below.refl _ _).alloc (Nat.le_refl _) _)
  have HA := hid (atoi_any k (by omega) w1)
  have hc0 : w1.cell? ⟨w.heap.size, 0, none⟩ = some (.string (mkB (Lib.itoa (k : Int)))) := hB1.cell 0
  have Hci := hid (fun i (hi : i < t.size) => show w1.cell? ⟨w.heap.size, i + 1, none⟩ = some (.string (mkB (Lib.itoa ((t.data.toList.getD i 0).toNat : Int)))) from by
    rw [hB1.cell (i + 1), List.getElem?_toArray, List.getElem?_map, recW_get k t i hi]
    rfl)
  have hl1 := hB1.lt
  clear hw1 hB1 HF
  go_wp2_with fail
  refine HA.out.mono ?_
  rintro e w2 ⟨rfl, hb2⟩
  have hz2 := hb2.size
  have hl2 : w.heap.size < w2.heap.size := by omega
  have Hb2 := hid (Below.step Hb1.out hb2 (by omega))
  have Hci2 := hid (fun i (hi : i < t.size) => (hb2.cell (p := ⟨w.heap.size, i + 1, none⟩) hl1).trans (Hci.out i hi))
  clear hb2 HA hc0 Hci
  go_upto_region 5 with fail
  go_cut [35] (fun v wx => v = .bool false ∧ wx = w2)
  case first =>
    by_cases h1 : t.size = 1
    · have hc1 := Hci2.out 0 (by omega)
      have hne := itoa_minus (t.data.toList.getD 0 0).toNat
      generalize mkB (Lib.itoa ((t.data.toList.getD 0 0).toNat : Int)) = b0 at *
      have h2 : ((t.size : Int) + 1 == 2) = true := by simp [h1]
      go_wp2_with fail
      go_meet
      exact ⟨rfl, rfl⟩
    · have h2 : ((t.size : Int) + 1 == 2) = false := beq_eq_false_iff_ne.2 (by omega)
      go_wp2_with fail
      go_meet
      exact ⟨rfl, rfl⟩
  case rest =>
  obtain ⟨rfl, hwc⟩ := hcut
  obtain rfl : w2 = wc := hwc.symm
  go_upto_region 9 with fail
  go_cut [44, 45, 46] (fun v n i wx => ∃ o : Nat, v = .slice (some ⟨w.heap.size, o, none⟩) t.size t.size ∧ n = .int .i64 t.size ∧ i = .int .i64 0 ∧ o = 1 ∧ wx = w2)
  case first =>
    go_wp2_with fail
    go_meet
    exact ⟨_, rfl, rfl, rfl, rfl, rfl⟩
  case rest =>
  obtain ⟨o, rfl, rfl, rfl, ho, hwc⟩ := hcut
  obtain rfl : w2 = wc := hwc.symm
  have Ho := hid ho
  clear ho
  go_wp2_with fail
  go_loopw [10, 12, 13, 14, 46] (fun v _ _ _ i wr => ∃ j : Nat, j ≤ t.size ∧ i = .int .i64 j ∧ Ow cellU 1 w2.heap.size 5 wr v (t.data.toList.take j) ∧ Below w2.heap.size w2 wr) (fun _ _ _ _ i _ => t.size - (intOf i).toNat)
  case atStart => exact ⟨0, Nat.zero_le _, rfl, Ow.nil _ _ _ _ _, Below.refl _ _⟩
  case round =>
    obtain ⟨j, hj, rfl, hO, hbr⟩ := hrel
    have hzr := hbr.size
    have HOr := hid hO
    have Hbr := hid hbr
    clear hO
    by_cases hlt : j < t.size
    · have hcell := (hbr.cell (p := ⟨w.heap.size, j + 1, none⟩) hl2).trans (Hci2.out j hlt)
      rw [show j + 1 = o + j by rw [Ho.out, Nat.add_comm]] at hcell
      have hjl : j < t.data.toList.length := hlt
      have hst : t.data.toList.take (j + 1) = t.data.toList.take j ++ [t.data.toList.getD j 0] := take_snocD 0 hjl
      have hlL : (t.data.toList.take j).length ≤ 12 := by rw [List.length_take]; omega
      generalize t.data.toList.getD j 0 = c at *
      generalize t.data.toList.take j = L at *
      have hc256 := c.toNat_lt
      have Hst := hid hst
      generalize hmk : mkB (Lib.itoa (c.toNat : Int)) = mc at *
      have HA := hid (atoi_any c.toNat (by omega) wr)
      rw [hmk] at HA
      clear hst hjl hbr hmk
      go_wp2_with fail
      refine HA.out.mono ?_
      rintro e w5 ⟨rfl, hb5⟩
      have hz5 := hb5.size
      have Hb5 := hid (Below.step Hbr.out hb5 hzr)
      have HO5 := hid (HOr.out.belowS hb5)
      clear hb5 HA
      go_wp2_with (at_builtin; refine appU _ w2.heap.size _ L c HO5.out rfl _ _ rfl rfl rfl ?_ ?_ ?_ ?_)
      any_goals (first | (with_reducible rfl) | omega | exact World.size_alloc _ _ | (show _ ≤ _; rw [World.size_alloc]; omega))
      intro v8 w8 h8 f8 o8
      have hb8 : Below w2.heap.size w2 w8 := Hb5.out.trans (f8.below0 (by omega) (fun i hi => HO5.out.ge _ hi))
      go_wp2_with fail
      go_roundw
      case rel => exact ⟨j + 1, by omega, by go_num, by rw [Hst.out]; exact h8, hb8⟩
      case measure => simp [intOf]; omega
    · obtain rfl : j = t.size := by omega
      rw [show t.data.toList.take t.size = t.data.toList from List.take_length] at HOr
      have hcv := HOr.out.text
      rw [HtB.out] at hcv
      have Hbw := hid (Below.step Hb2.out hbr (by omega))
      have HD2 := hid (HD.out wr (HO.out.belowS Hbw.out))
      clear hbr HOr HD
      go_wp2_with fail
      refine HD2.out.mono ?_
      rintro e w3 h3
      obtain ⟨vs', rfl, hO3, hP3, hF3, hf3⟩ := h3
      have Hf := hid (show DoR base s vs w D' (.returned .nilIface) w3 from ⟨vs', rfl, hO3, hP3, (Fr.ofB Hbw.out).step hF3, fun i hi => (hf3 i hi).imp (fun h => h) (fun h => by omega)⟩)
      clear hO3 hP3 hF3 hf3
      simp only [errV_zero]
      go_wp2_with fail
      go_ret
      exact Hf.out

set_option maxHeartbeats 8000000 in
set_option maxRecDepth 100000 in
theorem do_put0 (base s k : Nat) (hk : k < 8) (D : List E) (hr : rput D k ⟨#[]⟩ = (((D.length : Int) + 1, 0), D ++ [⟨k, 0, 0, false, ⟨#[]⟩⟩])) (vs : List Value) (w : World) (hO : StoreO base w s vs (lsOf D) D.length) (hP : StP (lsOf D) D.length) (hT : Ta w) :
    Calls Tryz.prog 40 #[.pointer (some ⟨s, 0, none⟩), .string (mkB (recL k false ⟨#[]⟩))] w (DoR base s vs w (D ++ [⟨k, 0, 0, false, ⟨#[]⟩⟩])) := by
  have hrl := recB_len k false ⟨#[]⟩ (by omega)
  have hrl2 : (recL k false ⟨#[]⟩).length ≤ 1000 := by rw [recL_eq, List.length_append, List.length_singleton]; have : (⟨#[]⟩ : ByteArray).size = 0 := rfl; omega
  have HF := hid (Tryz.strings_Fields_laid (mkB (recL k false ⟨#[]⟩)) w (by rw [mkB_size]; omega) (fun j b hb => recL_ascii k false ⟨#[]⟩ b (List.mem_of_getElem? hb)) hT)
  rw [mkB_list, fields_rec] at HF
  have hw2 : recW k false ⟨#[]⟩ = [Lib.itoa (k : Int)] := rfl
  rw [hw2] at HF
  have HD := hid (fun W (hW : StoreO base W s vs (lsOf D) D.length) => sput_any base s k ⟨#[]⟩ (by decide) vs (lsOf D) D.length W hW hP)
  rw [sput_r, hr] at HD
  generalize D ++ [⟨k, 0, 0, false, ⟨#[]⟩⟩] = D' at *
  generalize mkB (recL k false ⟨#[]⟩) = R at *
  have HO := hid hO
  clear hw2 hrl hrl2 hT hr hO hP
  go_enter Tryz.func40, Tryz.ntmps40
  go_wp2_with fail
  refine HF.out.mono ?_
  rintro e w1 ⟨rfl, hw1⟩
  have hB1 : Blk w1 w.heap.size 9 #[.string (mkB (Lib.itoa (k : Int)))] := by rw [hw1]; exact Blk.new _ _ _
  have Hb1 := hid (show Below w.heap.size w w1 by rw [hw1]; exact (Below.refl _ _).alloc (Nat.le_refl _) _)
  have HA := hid (atoi_any k (by omega) w1)
  have hc0 : w1.cell? ⟨w.heap.size, 0, none⟩ = some (.string (mkB (Lib.itoa (k : Int)))) := hB1.cell 0
  have hl1 := hB1.lt
  clear hw1 hB1 HF
  simp only [List.length_cons, List.length_nil]
  go_wp2_with fail
  refine HA.out.mono ?_
  rintro e w2 ⟨rfl, hb2⟩
  have hz2 := hb2.size
  have Hb2 := hid (Below.step Hb1.out hb2 (by omega))
  have hcv : (convert 83 9 (.slice none 0 0)).run Tryz.prog w2 = .ok (.string ⟨#[]⟩) w2 := (Ow.nil cellU 1 w2.heap.size 5 w2).text
  have HD2 := hid (HD.out w2 (HO.out.belowS Hb2.out))
  clear hb2 HA HD hc0
  go_wp2_with fail
  go_loopw [10, 12, 13, 14, 46] (fun v _ _ _ i wr => v = .slice none 0 0 ∧ i = .int .i64 0 ∧ wr = w2) (fun _ _ _ _ _ _ => 0)
  case atStart => exact ⟨rfl, rfl, rfl⟩
  case round =>
    obtain ⟨rfl, rfl, rfl⟩ := hrel
    go_wp2_with fail
    refine HD2.out.mono ?_
    rintro e w3 h3
    obtain ⟨vs', rfl, hO3, hP3, hF3, hf3⟩ := h3
    have Hf := hid (show DoR base s vs w D' (.returned .nilIface) w3 from ⟨vs', rfl, hO3, hP3, (Fr.ofB Hb2.out).step hF3, fun i hi => (hf3 i hi).imp (fun h => h) (fun h => by omega)⟩)
    clear hO3 hP3 hF3 hf3
    simp only [errV_zero]
    go_wp2_with fail
    go_ret
    exact Hf.out

theorem do_any (base s : Nat) (D : List E) (e : E) (he : DeedE e) (hr : redoE D e = (((D.length : Int) + 1, 0), D ++ [e])) (vs : List Value) (w : World) (hO : StoreO base w s vs (lsOf D) D.length) (hP : StP (lsOf D) D.length) (hT : Ta w) :
    Calls Tryz.prog 40 #[.pointer (some ⟨s, 0, none⟩), .string (mkB (recE e))] w (DoR base s vs w (D ++ [e])) := by
  obtain ⟨k, v, a, g, t⟩ := e
  obtain ⟨⟨h0, h8⟩, ht, ⟨hv, ha⟩, hg⟩ := he
  simp only at h0 h8 ht hv ha hg
  subst hv ha
  obtain ⟨n, rfl⟩ := Int.eq_ofNat_of_zero_le h0
  have hn : n < 8 := by omega
  unfold redoE at hr
  show Calls _ _ #[_, .string (mkB (recL ((n : Int)).toNat g t))] w _
  rw [Int.toNat_natCast]
  cases g with
  | true =>
    obtain rfl := hg rfl
    exact do_del base s n hn D hr vs w hO hP hT
  | false =>
    simp only [Bool.false_eq_true, if_false] at hr
    by_cases hz : t.size = 0
    · obtain rfl : t = ⟨#[]⟩ := by
        obtain ⟨l⟩ := t
        obtain rfl : l = #[] := Array.eq_empty_of_size_eq_zero hz
        rfl
      exact do_put0 base s n hn D hr vs w hO hP hT
    · exact do_put1 base s n hn t ht hz D hr vs w hO hP hT
end Go.Proofs.YtljkclebcoanaaaGreatDoor
