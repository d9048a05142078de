/-
  PROVED HERE: merelaw1.HashGoes returns true: one byte more is one step more, unlike bytes unlike numbers, and when an entry was known does not count. CONDITIONS: the library's tables as the program's text lays them (tied by the card).
-/
import Derived.Test.YtlcdipodjjoflaaDoorHEnt
import Derived.SizedLaws
import Derived.ChangeVars
import Derived.JoinedOf
import Derived.Stop.Joined
namespace Go.Proofs.YtlcdipodjjoflaaDoor
open Go.RowKit
open Go.ChangeShapes Go.WideShapes Go.ChangeAt

theorem size_cat (x y : ByteArray) : (x ++ y).size = x.size + y.size := by rw [← bytesOf_len, bytesOf_append, List.length_append, bytesOf_len, bytesOf_len]
theorem hash_none : hashL [] = 2166136261 := rfl
theorem hash_a : hashL [97] = 3826002220 := by decide +kernel
theorem textN_none : textN ⟨#[]⟩ = 2166136261 := by
  rw [textN, if_pos (by decide), show bytesOf ⟨#[]⟩ = [] from rfl, hash_none]; rfl
theorem textN_a : textN ⟨#[97]⟩ = 3826002220 := by
  rw [textN, if_pos (by decide), show bytesOf ⟨#[97]⟩ = [97] from rfl, hash_a]; rfl
theorem conv_one (W : World) (g : Nat) (c : UInt8) (h : W.cell? ⟨g, 0, none⟩ = some (.int .u8 (c.toNat : Int))) :
    (convert 30 9 (.slice (some ⟨g, 0, none⟩) 1 1)).run Tryd.prog W = .ok (.string ⟨#[c]⟩) W :=
  run_convert_bytes_back W 30 9 5 ⟨g, 0, none⟩ 1 [c] Tryd.underlying30 Tryd.underlying5 Tryd.underlying9 (fun j hj => by
    have : j = 0 := by simpa using hj
    subst this
    exact h)

set_option maxHeartbeats 8000000 in
set_option maxRecDepth 100000 in
theorem hashGoes_any (s : ByteArray) (c d : UInt8) (k v a : Int) (g : Bool) (t : ByteArray) (w : World) (hs : s.size ≤ 1000000000000000) (ht : t.size ≤ maxLen) (htb : Tb w) :
    Calls Tryd.prog 4 #[.string s, .int .u8 (c.toNat : Int), .int .u8 (d.toNat : Int), .agg #[.int .i64 k, .int .i64 v, .int .i64 a, .bool g, .string t]] w fun e w' => e = .returned (.bool true) ∧ Below w.heap.size w w' := by
  have HT := hid (fun W (hW : Below w.heap.size w W) => htb.belowS hW)
  have Ht := hid ht
  clear htb ht
  obtain ⟨wA, hwA⟩ : ∃ wA : World, wA = w.alloc (.cells #[.int .i64 k, .int .i64 v, .int .i64 a, .bool g, .string t] 29) := ⟨_, rfl⟩
  have hX : Blk wA w.heap.size 29 #[.int .i64 k, .int .i64 v, .int .i64 a, .bool g, .string t] := by rw [hwA]; exact Blk.new _ _ _
  have hbA : Below w.heap.size w wA := by rw [hwA]; (repeat (first | with_reducible exact Below.refl _ _ | with_reducible assumption | (with_reducible refine Below.drew ?_) | (with_reducible refine Below.manyDrew ?_ _) | ((with_reducible refine Below.alloc ?_ ?_ _); rotate_left; (focus (first | omega | (dsimp only; omega) | (simp; done) | (simp; omega)))) | ((with_reducible refine Below.setCell ?_ ?_ _); rotate_left; (focus (first | omega | (dsimp only; omega) | (simp; done) | (simp; omega)))) | ((with_reducible refine Below.step ?_ (by assumption) ?_); rotate_left; (focus (first | omega | (dsimp only; omega) | (simp; done) | (simp; omega))))))
  have hzA := hbA.size
  have HX := hid hX
  have HbA := hid hbA
  have HwA := hid hwA
  clear hX hbA hwA
  obtain ⟨S1, hS1⟩ : ∃ S1 : ByteArray, S1 = s ++ ⟨#[c]⟩ := ⟨_, rfl⟩
  obtain ⟨S2, hS2⟩ : ∃ S2 : ByteArray, S2 = s ++ ⟨#[d]⟩ := ⟨_, rfl⟩
  have hz1 : S1.size = s.size + 1 := by rw [hS1, size_cat]; rfl
  have hz2 : S2.size = s.size + 1 := by rw [hS2, size_cat]; rfl
  have hb1 : bytesOf S1 = bytesOf s ++ [c] := by rw [hS1, bytesOf_append]; rfl
  have hb2 : bytesOf S2 = bytesOf s ++ [d] := by rw [hS2, bytesOf_append]; rfl
  have q1 : ∀ W, (Op.stringOp .add s ⟨#[c]⟩).run Tryd.prog W = .ok (.string S1) W := fun W => by rw [run_string_add_sum W s _ (by show s.size + 1 ≤ _; omega), hS1]
  have q2 : ∀ W, (Op.stringOp .add s ⟨#[d]⟩).run Tryd.prog W = .ok (.string S2) W := fun W => by rw [run_string_add_sum W s _ (by show s.size + 1 ≤ _; omega), hS2]
  have H1 := hid (fun W => text_any S1 W (by unfold maxLen; omega))
  have H2 := hid (fun W => text_any S2 W (by unfold maxLen; omega))
  have H3 := hid (fun W => text_any s W (by unfold maxLen; omega))
  have H0 := hid (fun W => text_any ⟨#[]⟩ W (by decide))
  have Ha := hid (fun W => text_any ⟨#[97]⟩ W (by decide))
  rw [textN_none, show errV (textE ⟨#[]⟩) = .nilIface from rfl] at H0
  rw [textN_a, show errV (textE ⟨#[97]⟩) = .nilIface from rfl] at Ha
  -- what is asked of the three numbers, decided ahead
  obtain ⟨cd, hcd⟩ : ∃ cd, ((c.toNat : Int) == (d.toNat : Int)) = cd := ⟨_, rfl⟩
  have hway : (textE S1 = 4) ∨ (textE S1 = 0 ∧ textE S2 = 0 ∧ textE s = 0 ∧ (textN S1 == textN S2) = cd ∧ (0 ≤ textN s ∧ textN s ≤ 4294967295) ∧ (0 ≤ textN S1 ∧ textN S1 ≤ 4294967295) ∧ (0 ≤ textN S2 ∧ textN S2 ≤ 4294967295)) := by
    by_cases h59 : s.size ≤ 59
    · right
      have t1 : textN S1 = (hstep (hashL (bytesOf s)) c : Nat) := by rw [textN, if_pos (by omega), hb1, hash_snoc]
      have t2 : textN S2 = (hstep (hashL (bytesOf s)) d : Nat) := by rw [textN, if_pos (by omega), hb2, hash_snoc]
      have t3 : textN s = (hashL (bytesOf s) : Nat) := by rw [textN, if_pos (by omega)]
      have l1 := hstep_lt (hashL (bytesOf s)) c
      have l2 := hstep_lt (hashL (bytesOf s)) d
      have l3 := hash_lt (bytesOf s)
      refine ⟨if_pos (by omega), if_pos (by omega), if_pos (by omega), ?_, by rw [t3]; omega, by rw [t1]; omega, by rw [t2]; omega⟩
      rw [t1, t2, ← hcd]
      by_cases he : c = d
      · subst he; rw [beq_self_eq_true, beq_self_eq_true]
      · have h1 : ¬ ((hstep (hashL (bytesOf s)) c : Nat) : Int) = (hstep (hashL (bytesOf s)) d : Nat) := fun h => he (hstep_inj l3 (by omega))
        have h2 : ¬ (c.toNat : Int) = (d.toNat : Int) := fun h => he (UInt8.toNat_inj.1 (by omega))
        rw [beq_eq_false_iff_ne.2 h1, beq_eq_false_iff_ne.2 h2]
    · left
      exact if_neg (by omega)
  have Hway := hid hway
  have Hcd := hid hcd
  clear hS1 hS2 hz1 hz2 hb1 hb2 hway hcd
  generalize textN S1 = n1 at *
  generalize textN S2 = n2 at *
  generalize textN s = n3 at *
  generalize textE S1 = e1 at *
  generalize textE S2 = e2 at *
  generalize textE s = e3 at *
  go_enter Tryd.func4, Tryd.ntmps4
  go_upto_region 1 with fail
  rw [← HwA.out]
  go_wp2_with fail
  refine (H0.out wA).mono ?_
  rintro e w1 ⟨rfl, hb1⟩
  have hx1 := HX.out.belowS hb1
  have Hb1 := hid (Below.step HbA.out hb1 hzA)
  have hz1 := Hb1.out.size
  clear hb1
  go_wp2_with fail
  refine (Ha.out w1).mono ?_
  rintro e w2 ⟨rfl, hb2⟩
  have hx2 := hx1.belowS hb2
  have Hb2 := hid (Below.step Hb1.out hb2 hz1)
  have hz2 := Hb2.out.size
  clear hb2 hx1
  obtain ⟨w2a, hw2a⟩ : ∃ W : World, W = w2.alloc (.cells #[.int .u8 (c.toNat : Int)] 5) := ⟨_, rfl⟩
  have hc2 : w2a.cell? ⟨w2.heap.size, 0, none⟩ = some (.int .u8 (c.toNat : Int)) := by rw [hw2a]; exact (Blk.new w2 _ _).cell 0
  have hv2 := conv_one w2a w2.heap.size c hc2
  have hx2a : Blk w2a w.heap.size 29 #[.int .i64 k, .int .i64 v, .int .i64 a, .bool g, .string t] := by rw [hw2a]; exact hx2.alloc _
  have Hb2a := hid (show Below w.heap.size w w2a by rw [hw2a]; exact Below.alloc Hb2.out (by omega) _)
  have hz2a := Hb2a.out.size
  rw [hw2a] at hv2
  go_wp2_with fail
  rw [← hw2a]
  refine (H1.out w2a).mono ?_
  rintro e w3 ⟨rfl, hb3⟩
  have hx3 := hx2a.belowS hb3
  have Hb3 := hid (Below.step Hb2a.out hb3 hz2a)
  have hz3 := Hb3.out.size
  clear hb3 hx2a hx2 hv2 hc2 hw2a
  obtain ⟨w3a, hw3a⟩ : ∃ W : World, W = w3.alloc (.cells #[.int .u8 (d.toNat : Int)] 5) := ⟨_, rfl⟩
  have hc3 : w3a.cell? ⟨w3.heap.size, 0, none⟩ = some (.int .u8 (d.toNat : Int)) := by rw [hw3a]; exact (Blk.new w3 _ _).cell 0
  have hv3 := conv_one w3a w3.heap.size d hc3
  have hx3a : Blk w3a w.heap.size 29 #[.int .i64 k, .int .i64 v, .int .i64 a, .bool g, .string t] := by rw [hw3a]; exact hx3.alloc _
  have Hb3a := hid (show Below w.heap.size w w3a by rw [hw3a]; exact Below.alloc Hb3.out (by omega) _)
  have hz3a := Hb3a.out.size
  rw [hw3a] at hv3
  go_wp2_with fail
  rw [← hw3a]
  refine (H2.out w3a).mono ?_
  rintro e w4 ⟨rfl, hb4⟩
  have hx4 := hx3a.belowS hb4
  have Hb4 := hid (Below.step Hb3a.out hb4 hz3a)
  have hz4 := Hb4.out.size
  clear hb4 hx3a hx3 hv3 hc3 hw3a
  go_wp2_with fail
  refine (H3.out w4).mono ?_
  rintro e w5 ⟨rfl, hb5⟩
  have hx5 := hx4.belowS hb5
  have Hb5 := hid (Below.step Hb4.out hb5 hz4)
  have hz5 := Hb5.out.size
  have HX5 := hid hx5
  clear hb5 hx4 hx5
  go_upto_region 8 with fail
  go_cut [77] (fun q wx => (q = .bool false ∨ (q = .bool true ∧ e1 = 0)) ∧ wx = w5)
  case first =>
    rcases Hway.out with h | ⟨h1, h2, h3, _⟩
    · subst h
      rw [show errV 4 = .iface 38 (.int .i64 4) from rfl]
      go_wp2_with fail
      go_meet
      exact ⟨.inl rfl, rfl⟩
    · subst h1 h2 h3
      rw [errV_zero]
      go_wp2_with fail
      go_meet
      first | exact ⟨.inr ⟨rfl, rfl⟩, rfl⟩ | exact ⟨.inr rfl, rfl⟩ | simp
  case rest =>
  obtain ⟨hq, hwc⟩ := hcut
  obtain rfl : w5 = wc := hwc.symm
  go_upto_if 77 with fail
  go_cut [] (fun wx => wx = w5)
  case first =>
    rcases hq with rfl | ⟨rfl, he1⟩
    · go_wp2_with fail
      go_meet
      rfl
    · rcases Hway.out with h | ⟨h1, h2, h3, hn, ⟨ha0, ha1⟩, ⟨hb0, hb1⟩, ⟨hc0, hc1⟩⟩
      · rw [he1] at h; cases h
      · have hcd := Hcd.out
        clear h1 h2 h3 he1
        go_wp2_with fail
        all_goals first | omega | (go_meet; first | rfl | simp)
  case rest =>
  obtain rfl : w5 = wc := hcut.symm
  have c0 : w5.cell? ⟨w.heap.size, 0, none⟩ = some (.int .i64 k) := HX5.out.cell 0
  have c1 : w5.cell? ⟨w.heap.size, 1, none⟩ = some (.int .i64 v) := HX5.out.cell 1
  have c2 : w5.cell? ⟨w.heap.size, 2, none⟩ = some (.int .i64 a) := HX5.out.cell 2
  have c3 : w5.cell? ⟨w.heap.size, 3, none⟩ = some (.bool g) := HX5.out.cell 3
  have c4 : w5.cell? ⟨w.heap.size, 4, none⟩ = some (.string t) := HX5.out.cell 4
  have HE := hid (hentry_any k v a g t Ht.out w5 (HT.out _ Hb5.out))
  by_cases hc : chk ⟨k, v, a, g, t⟩ = 0
  · have hn1 : entN ⟨k, v, a, g, t⟩ = (hashL (oneT k v g t) : Nat) := if_pos hc
    rw [hn1, show errV (chk ⟨k, v, a, g, t⟩) = .nilIface by rw [hc]; rfl] at HE
    obtain ⟨h1, h2, h3, h4, h5, h6⟩ := chk_zero.1 hc
    have k2 := seqB_true.1 h2
    have k3 := seqB_true.1 h3
    simp only at k2 k3 h4
    by_cases ha : a < 1000
    · have hc' : chk ⟨k, v, a + 1, g, t⟩ = 0 := chk_zero.2 ⟨h1, h2, seqB_true.2 (by simp only; omega), by simp only; omega, h5, h6⟩
      have HE2 := hid (fun W hW => hentry_any k v (a + 1) g t Ht.out W hW)
      rw [show entN ⟨k, v, a + 1, g, t⟩ = (hashL (oneT k v g t) : Nat) from if_pos hc', show errV (chk ⟨k, v, a + 1, g, t⟩) = .nilIface by rw [hc']; rfl] at HE2
      clear hc hc' hn1 h1 h2 h3 h5 h6
      generalize hashL (oneT k v g t) = h at *
      go_wp2_with fail
      refine HE.out.mono ?_
      rintro e w6 ⟨rfl, hb6⟩
      have hx6 := HX5.out.belowS hb6
      have d2 : w6.cell? ⟨w.heap.size, 2, none⟩ = some (.int .i64 a) := hx6.cell 2
      have f2 : w6.frozen? ⟨w.heap.size, 2, none⟩ = false := hx6.frozen 2
      have Hb6 := hid (Below.step Hb5.out hb6 hz5)
      have hz6 := Hb6.out.size
      clear hb6 c0 c1 c2 c3 c4
      obtain ⟨w7, hw7⟩ : ∃ W : World, W = w6.setCell ⟨w.heap.size, 2, none⟩ (.int .i64 (a + 1)) := ⟨_, rfl⟩
      have hx7 : Blk w7 w.heap.size 29 #[.int .i64 k, .int .i64 v, .int .i64 (a + 1), .bool g, .string t] := by rw [hw7]; exact hx6.put 2 _
      have g0 : w7.cell? ⟨w.heap.size, 0, none⟩ = some (.int .i64 k) := hx7.cell 0
      have g1 : w7.cell? ⟨w.heap.size, 1, none⟩ = some (.int .i64 v) := hx7.cell 1
      have g2 : w7.cell? ⟨w.heap.size, 2, none⟩ = some (.int .i64 (a + 1)) := hx7.cell 2
      have g3 : w7.cell? ⟨w.heap.size, 3, none⟩ = some (.bool g) := hx7.cell 3
      have g4 : w7.cell? ⟨w.heap.size, 4, none⟩ = some (.string t) := hx7.cell 4
      have Hb7 := hid (show Below w.heap.size w w7 by rw [hw7]; exact Below.setCell Hb6.out (by simp) _)
      have hz7 := Hb7.out.size
      have Hw7 := hid hw7
      clear hx6 hx7 hw7
      go_upto_region 17 with fail
      rw [← Hw7.out]
      go_wp2_with fail
      refine (HE2.out w7 (HT.out _ Hb7.out)).mono ?_
      rintro e w8 ⟨rfl, hb8⟩
      have Hb8 := hid (Below.step Hb7.out hb8 hz7)
      clear hb8
      go_wp2_with fail
      go_ret
      exact ⟨rfl, Hb8.out⟩
    · have ha' : 1000 ≤ a := by omega
      clear hc hn1 h1 h2 h3 h5 h6
      go_wp2_with fail
      refine HE.out.mono ?_
      rintro e w6 ⟨rfl, hb6⟩
      have hx6 := HX5.out.belowS hb6
      have d2 : w6.cell? ⟨w.heap.size, 2, none⟩ = some (.int .i64 a) := hx6.cell 2
      have Hb6 := hid (Below.step Hb5.out hb6 hz5)
      clear hb6 c0 c1 c2 c3 c4
      go_wp2_with fail
      go_ret
      exact ⟨rfl, Hb6.out⟩
  · have hcn := errV_ne hc
    rw [hcn] at HE
    clear hc hcn
    generalize chk ⟨k, v, a, g, t⟩ = ce at *
    go_wp2_with fail
    refine HE.out.mono ?_
    rintro e w6 ⟨rfl, hb6⟩
    have Hb6 := hid (Below.step Hb5.out hb6 hz5)
    clear hb6 c0 c1 c2 c3 c4
    go_wp2_with fail
    go_ret
    exact ⟨rfl, Hb6.out⟩

/-- A law's walk where the first argument is a string of a length that the row's reach allows. -/
def LawWalkS (P : Program) (F : FuncId) (fn : Func) (X : World → Prop) : Prop :=
  ∀ (W : World) (base : Nat) (args : Array Value) (H : Type) (enc : TypeId × Value → H) (ds : List (DataW H)) (p : List MemPlace),
    (∀ (j : Nat) t v, fn.params[j]? = some t → args[j]? = some v → Value.okWide P W .any base t v) → DataW.TrodAll enc P W 0 (fun _ => true) true fn.params.toList args.toList ds p → X W →
    (∀ (j : Nat) (t : TypeId) (bytes : List UInt8), fn.params.toList[j]? = some t → ds[j]? = some (.lit (.string bytes)) → bytes.length ≤ reachBytes) →
    Calls P F args W fun e W' => e = .returned (.bool true) ∧ Below W.heap.size W W'

theorem laid_lifted_s {C : Checked} {F : FuncId} {fn : Func} {s : ChangeSpec} {os : Os} {H : Type} {enc : TypeId × Value → H} {tb : TypeId} {X : World → Prop} (laid : ∀ {H : Type}, List (String × DataW H)) (hX : ∀ W, laidMetH C.prog laid W → X W) (conds : List PathCond)
    (own : ownKnob C.prog.godebug = none) (started : os.Started) (noInit : C.prog.inits.idxOf? F = none) (hfn : C.prog.funcs[F]? = some fn)
    (hl : laidOutB C.prog = true) (hts : fn.params.toList.all (fun t => C.prog.readableRec t && decide (t < C.prog.types.size)) = true) (hres : fn.resultTypes = #[tb]) (htb : C.prog.underlying tb = some .bool) (hvars : s.vars = [])
    (hspec : ∀ ds : List (DataW H), ds.length = fn.params.size → s.fn H ds = { results := [.lit (.bool true)], args := ds, vars := [] })
    (witness : ∃ (w : World) (tape : Tape) (i : Input), w.os = os ∧ (w.forCall tape i).Shaped C.prog ∧ i.vars = [] ∧ Input.okWide C.prog (w.forCall tape i) .any w.heap.size F i ∧
      ((s.pre enc C.prog fn conds false (w.forCall tape i).memory i.args ∧ laidMetH C.prog laid (w.forCall tape i).memory) ∧ sizedMet enc C.prog fn (OpenSpec.ofChange s) false (w.forCall tape i).memory i.args) ∧ ({} : Assume).holds C.prog (lone (Frame.enter C.prog F i.args .normal) [] (w.forCall tape i)))
    (walk : LawWalkS C.prog F fn X) :
    ReturnsInHanded {} C os F .any (fun w args => (s.pre enc C.prog fn conds false w args ∧ laidMetH C.prog laid w) ∧ sizedMet enc C.prog fn (OpenSpec.ofChange s) false w args) (s.post enc C.prog fn false true false false) := by
  refine returnsInHanded_of_change_and (C := C) (X := fun w _ => laidMetH C.prog laid w) (fun _ _ _ hh h => h.of_heap hh) own started noInit hfn witness ?_
  intro W base args ds gs before hval hW _ hsz hL _
  have hW' := hW
  obtain ⟨p, q, hA, hV, hpq, _, _⟩ := hW
  rw [hvars] at hV
  obtain ⟨rfl, rfl⟩ := trodVars_none hV
  have hlen : ds.length = fn.params.size := trodAll_length hA
  refine (walk W base args H enc ds p hval hA (hX W hL) (fun j t bytes ht hd => sized_string hsz (j := j) (t := t) ?_ ?_)).mono fun e W' ⟨he, hb⟩ => ?_
  · have hj : j < fn.params.toList.length := (List.getElem?_eq_some_iff.1 ht).1
    rw [List.getElem?_append_left hj]; exact ht
  · rw [List.append_nil]; exact hd
  · exact ⟨_, he, law_post hl hts hres htb hvars hW' (by rw [List.append_nil]; exact hspec ds hlen) hA hpq hb⟩

theorem byte_of {n : Int} (h : 0 ≤ n ∧ n ≤ 255) : ∃ c : UInt8, n = (c.toNat : Int) :=
  ⟨UInt8.ofNat n.toNat, by rw [show (UInt8.ofNat n.toNat).toNat = n.toNat % 256 from rfl]; omega⟩

set_option maxRecDepth 100000 in
theorem hashGoes_walk : LawWalkS Tryd.prog 4 Tryd.f4 Tb := by
  intro W base args H enc ds p hval hA ht hsz
  rw [Tryd.params4] at hA hval hsz
  obtain ⟨v0, v1, v2, v3, d0, d1, d2, d3, p0, p1, p2, p3, rfl, rfl, rfl, h0, h1, h2, h3⟩ := trodAll_four hA
  obtain ⟨s, rfl, hsl⟩ : ∃ s, v0 = .string s ∧ s.size ≤ reachBytes := by
    obtain ⟨s, rfl, _⟩ := arg_str Tryd.underlying9 (hval 0 9 v0 rfl rfl) h0
    refine ⟨s, rfl, ?_⟩
    obtain ⟨fuel, hn⟩ := h0
    obtain ⟨s', hs', hd', _⟩ := DataW.trod_string Tryd.underlying9 hn
    obtain rfl : s = s' := by simpa [Value.cells] using hs'
    have hd2 : d0 = .lit (.string s.data.toList) := by simpa using congrArg Prod.fst hd'
    have := hsz 0 _ s.data.toList rfl (by rw [hd2]; rfl)
    simpa using this
  obtain ⟨c, rfl, hc⟩ := arg_byte Tryd.underlying5 (hval 1 5 v1 rfl rfl) h1
  obtain ⟨d, rfl, hd⟩ := arg_byte Tryd.underlying5 (hval 2 5 v2 rfl rfl) h2
  obtain ⟨⟨k, v, a, g, t⟩, rfl, he⟩ := arg_struct Tryd.underlying29 codecEntry (hval 3 29 v3 rfl rfl) h3
  obtain ⟨c, rfl⟩ := byte_of hc
  obtain ⟨d, rfl⟩ := byte_of hd
  exact hashGoes_any s c d k v a g t W (by have : reachBytes = 140737488351232 := rfl; omega) he.2.2.2 ht

set_option maxRecDepth 100000 in
theorem hashGoes_lifted (os : Os) (started : os.Started) (H : Type) (enc : TypeId × Value → H) :
    ReturnsInHanded {} Tryd.checked os 4 .any (fun w args => (Rows.hashGoesSpec.pre enc Tryd.checked.prog Tryd.f4 [] false w args ∧ laidMetH Tryd.prog laid3 w) ∧ sizedMet enc Tryd.checked.prog Tryd.f4 (OpenSpec.ofChange Rows.hashGoesSpec) false w args) (Rows.hashGoesSpec.post enc Tryd.checked.prog Tryd.f4 false true false false) :=
  laid_lifted_s (C := Tryd.checked) laid3 (fun _ h => tb_of_laid3 h) [] Tryd.own started (by kernel_rfl) Tryd.func4 Tryd.laidOut (by kernel_rfl) rfl Tryd.underlying4 rfl (fun ds h => by match ds, h with | [_, _, _, _], _ => rfl)
    (ChangeSpec.witness_shaped (enc := enc) (C := Tryd.checked) (os := os) (X := fun w _ => laidMetH Tryd.prog laid3 w) false (World.doorLaid Tryd.prog 4000 os) #[.string ⟨#[]⟩, .int .u8 0, .int .u8 0, .agg #[.int .i64 0, .int .i64 0, .int .i64 0, .bool false, .string ⟨#[]⟩]] 8 rfl (World.shaped_of_RefB (by kernel_rfl) (by kernel_rfl)) (by kernel_rfl) (by kernel_rfl) (by kernel_rfl) (door_met3 os _)) hashGoes_walk

theorem hashGoes_row : Rows.HashGoesSaid :=
  OpenClaim.holds_of_wide 4 Tryd.f4 rfl rfl rfl rfl rfl rfl rfl ⟨rfl, rfl, rfl, rfl, rfl⟩ rfl rfl rfl rfl rfl (by kernel_rfl) Tryd.func4 (by kernel_rfl)
    (of_decide_eq_true (by kernel_rfl)) (by unfold Func.isWrapper; rw [if_neg (of_decide_eq_false (by kernel_rfl))]; exact ⟨rfl, rfl⟩)
    (fun os started H enc _ => hashGoes_lifted os started H enc)

theorem hashGoes_holds : Rows.HashGoesCardSaid :=
  Claim7.holds_tied_plain_at .later [] [.data, .data, .data] true _ true
    hashGoes_row (fun _ h => by cases h) (by kernel_rfl) (fun _ h => by cases h) hashGoes_row_tie rfl ⟨rfl, rfl⟩ (by kernel_rfl) rfl
    (fun f fn hf hfn => by
      obtain rfl : f = 4 := Option.some.inj ((show Tryd.prog.funcNamed "beaconmere/merelaw1.HashGoes" = some 4 by kernel_rfl).symm.trans hf) |>.symm
      obtain rfl : fn = Tryd.f4 := (Option.some.inj (Tryd.func4.symm.trans hfn)).symm
      refine ⟨by kernel_rfl, fun j t ht => ?_⟩
      have hall : Tryd.f4.params.toList.all (fun t => !Tryd.prog.wantsStandIn t) = true := by kernel_rfl
      have hm : t ∈ Tryd.f4.params.toList := by
        obtain ⟨hj, hje⟩ := Array.getElem?_eq_some_iff.1 ht
        rw [← hje]
        exact Array.mem_toList_iff.2 (Array.getElem_mem hj)
      have := List.all_eq_true.1 hall t hm
      exact (show Tryd.prog.wantsStandIn t = false by simpa using this))
    (by kernel_rfl)

end Go.Proofs.YtlcdipodjjoflaaDoor
