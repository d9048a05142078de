/-
  THE FRAME OF A LAW's ROW AND CARD where the row lists nine variables (three tables of numbers, two of the text's forms, errors.errorType, two sentinels, run.unread). CONDITIONS: none.
-/
import Derived.Test.YtemhdfodghfkfaaGreatDoorDoor
import Derived.Test.YtemhdfodghfkfaaGreatDoorShelf
import Derived.Lay
import Derived.Look8
namespace Go.Proofs.YtemhdfodghfkfaaGreatDoor
open Go.ChangeShapes Go.WideShapes Go.RowKit

/-- what the row's variables hold -/
structure Tr (W : World) : Prop where
  tb : Tb W
  gl : Gl W
  ml : ∃ m : Int, W.cell? ⟨2, 0, none⟩ = some (.int .i64 m)
  es : ∃ te pe, W.cell? ⟨5, 0, none⟩ = some (.iface te pe)
  er : ∃ te pe, W.cell? ⟨6, 0, none⟩ = some (.iface te pe)
  un : W.cell? ⟨0, 0, none⟩ = some (.iface 78 (.int .i64 2))
theorem cell_keep {w w' : World} {p : Addr} {v : Value} (h : w.cell? p = some v) (hb : Below w.heap.size w w') : w'.cell? p = some v := (hb.cell (p := p) (cell_lt h)).trans h
theorem Tr.belowS {w w' : World} (h : Tr w) (hb : Below w.heap.size w w') : Tr w' := by
  obtain ⟨m, hm⟩ := h.ml
  obtain ⟨a, b, hs⟩ := h.es
  obtain ⟨c, d, hr⟩ := h.er
  exact ⟨h.tb.belowS hb, h.gl.belowS hb, ⟨m, cell_keep hm hb⟩, ⟨a, b, cell_keep hs hb⟩, ⟨c, d, cell_keep hr hb⟩, cell_keep h.un hb⟩

abbrev laid8p : List (String × DataW Unit) := [("math/bits.deBruijn32tab", Rows.laid_math_bits_deBruijn32tab), ("math/bits.deBruijn64tab", Rows.laid_math_bits_deBruijn64tab), ("internal/strconv.uint64pow10", Rows.laid_internal_strconv_uint64pow10), ("unicode/utf8.acceptRanges", Rows.laid_unicode_utf8_acceptRanges), ("strconv.ErrRange", Rows.laid_strconv_ErrRange), ("strconv.ErrSyntax", Rows.laid_strconv_ErrSyntax), ("beaconmere/run.unread", Rows.laid_beaconmere_run_unread), ("unicode/utf8.first", Rows.laid_unicode_utf8_first)]
abbrev laid9 : List (String × DataW Unit) := [("math/bits.deBruijn32tab", Rows.laid_math_bits_deBruijn32tab), ("math/bits.deBruijn64tab", Rows.laid_math_bits_deBruijn64tab), ("internal/strconv.uint64pow10", Rows.laid_internal_strconv_uint64pow10), ("unicode/utf8.acceptRanges", Rows.laid_unicode_utf8_acceptRanges), ("errors.errorType", Rows.laid_errors_errorType), ("strconv.ErrRange", Rows.laid_strconv_ErrRange), ("strconv.ErrSyntax", Rows.laid_strconv_ErrSyntax), ("beaconmere/run.unread", Rows.laid_beaconmere_run_unread), ("unicode/utf8.first", Rows.laid_unicode_utf8_first)]

/-- an interface's value, read: its type's name, and its own reading -/
theorem trod_iface_inv {P : Program} {W : World} {t : TypeId} {ms : Array (String × TypeId)} {sp : Nat → Bool} {f : Nat} {l : List Value} {name : String} {d : DataW Unit} {p : List MemPlace}
    (hu : P.underlying t = some (.interface ms)) (hd : DataW.trod (fun _ => ()) P W 0 sp false f t l = some (.iface name d, p)) :
    ∃ u v m q, l = [.iface u v] ∧ P.typeName? 3 u = some name ∧ DataW.trod (fun _ => ()) P W 0 sp false m u v.cells.toList = some (d, q) := by
  cases f with
  | zero => simp [DataW.trod] at hd
  | succ f =>
    match l with
    | [] => simp [DataW.trod, hu] at hd
    | x :: y :: r => simp [DataW.trod, hu] at hd
    | [x] =>
      cases x with
      | iface u v =>
        simp only [DataW.trod, hu] at hd
        cases hn : P.typeName? 3 u with
        | none => simp [hn] at hd
        | some nm =>
          simp only [hn, Option.map_eq_some_iff] at hd
          obtain ⟨x, hx, hxe⟩ := hd
          simp only [Prod.mk.injEq, DataW.iface.injEq] at hxe
          obtain ⟨⟨rfl, rfl⟩, rfl⟩ := hxe
          exact ⟨u, v, f, _, rfl, hn, hx⟩
      | _ => simp [DataW.trod, hu] at hd
theorem typeName_lt {P : Program} {u : TypeId} {name : String} (hstar : ("*".toList.isPrefixOf name.toList) = false) (hu : P.typeName? 3 u = some name) : u < P.types.size := by
  by_cases hlt : u < P.types.size
  · exact hlt
  · exfalso
    unfold Program.typeName? at hu
    cases hi : P.info? u with
    | none => simp [hi] at hu
    | some i =>
      have hb := Tables.info?_beyond hlt hi
      simp only [hi] at hu
      cases hd : i.desc <;> simp only [hd, TypeDesc.tableOnly] at hu hb <;> try cases hb
      all_goals try cases hu
      rename_i e
      simp only [Option.map_eq_some_iff] at hu
      obtain ⟨n', _, hs⟩ := hu
      rw [← hs, String.toList_append] at hstar
      simp at hstar
theorem Tryz.errnoName : Tryz.prog.typeNamed8 "beaconmere/api.Errno" = some 78 := by kernel_rfl
theorem Tryz.gRange : Tryz.prog.globalNamed "strconv.ErrRange" = some 6 ∧ (Tryz.prog.globals[6]?).map (·.type) = some 39 := ⟨by kernel_rfl, by kernel_rfl⟩
theorem Tryz.gSyntax : Tryz.prog.globalNamed "strconv.ErrSyntax" = some 5 ∧ (Tryz.prog.globals[5]?).map (·.type) = some 39 := ⟨by kernel_rfl, by kernel_rfl⟩
theorem Tryz.gUnread : Tryz.prog.globalNamed "beaconmere/run.unread" = some 0 ∧ (Tryz.prog.globals[0]?).map (·.type) = some 77 := ⟨by kernel_rfl, by kernel_rfl⟩
theorem Tryz.cellsErr : Tryz.prog.cellsOf 39 = 1 := by kernel_rfl
theorem Tryz.cellsBad : Tryz.prog.cellsOf 77 = 1 := by kernel_rfl

/-- what the listed variables say -/
structure Ld (W : World) : Prop where
  tb : Tb W
  es : ∃ te pe, W.cell? ⟨5, 0, none⟩ = some (.iface te pe)
  er : ∃ te pe, W.cell? ⟨6, 0, none⟩ = some (.iface te pe)
  un : W.cell? ⟨0, 0, none⟩ = some (.iface 78 (.int .i64 2))
set_option maxRecDepth 100000 in
theorem ld_of_met {W : World} (h : laidMet Tryz.prog laid8p W) : Ld W := by
  obtain ⟨ps, ⟨g0, t0, cs0, f0, p0, q0, hg0, ht0, hv0, hd0, ⟨g1, t1, cs1, f1, p1, q1, hg1, ht1, hv1, hd1, ⟨g2, t2, cs2, f2, p2, q2, hg2, ht2, hv2, hd2, ⟨g3, t3, cs3, f3, p3, q3, hg3, ht3, hv3, hd3, ⟨g4, t4, cs4, f4, p4, q4, hg4, ht4, hv4, hd4, ⟨g5, t5, cs5, f5, p5, q5, hg5, ht5, hv5, hd5, ⟨g6, t6, cs6, f6, p6, q6, hg6, ht6, hv6, hd6, -, e6⟩, e5⟩, e4⟩, e3⟩, e2⟩, e1⟩, e0⟩, -, hfit⟩ := h
  refine ⟨?_, ?_, ?_, ?_⟩
  · obtain ⟨g, t, e, hg, hty, ht, he, hce, hct⟩ := Tryz.tabG
    obtain rfl := Option.some.inj (hg.symm.trans hg2)
    obtain rfl := Option.some.inj (hty.symm.trans ht2)
    have hdat : (Rows.laid_internal_strconv_uint64pow10 : DataW Unit) = Lib.tabData .u64 Lib.pow10Tab := by kernel_rfl
    unfold Tb Lib.TabIs
    rw [hv2]
    rw [hdat] at hd2
    rw [← Lib.cells_of_tab ht he hce hct hd2]
  · obtain rfl := Option.some.inj (Tryz.gSyntax.1.symm.trans hg5)
    obtain rfl := Option.some.inj (Tryz.gSyntax.2.symm.trans ht5)
    obtain ⟨u, v, m, q, hl, -, -⟩ := trod_iface_inv Tryz.underlying39 hd5
    refine ⟨u, v, (World.var?_cell hg5 hv5 0).trans ?_⟩
    rw [← Array.getElem?_toList, hl]
    rfl
  · obtain rfl := Option.some.inj (Tryz.gRange.1.symm.trans hg4)
    obtain rfl := Option.some.inj (Tryz.gRange.2.symm.trans ht4)
    obtain ⟨u, v, m, q, hl, -, -⟩ := trod_iface_inv Tryz.underlying39 hd4
    refine ⟨u, v, (World.var?_cell hg4 hv4 0).trans ?_⟩
    rw [← Array.getElem?_toList, hl]
    rfl
  · obtain rfl := Option.some.inj (Tryz.gUnread.1.symm.trans hg6)
    obtain rfl := Option.some.inj (Tryz.gUnread.2.symm.trans ht6)
    obtain ⟨y0, n, hy, hlen, hy0⟩ := trod_struct1 Tryz.underlying77 hd6
    rw [Tryz.cellsBad] at hlen
    have hy1 : y0.1 = .iface "beaconmere/api.Errno" (.lit (.int .i64 2)) := by
      have := congrArg Prod.fst hy
      have h2 : (DataW.agg [DataW.iface "beaconmere/api.Errno" (.lit (.int .i64 2))] : DataW Unit) = .agg [y0.1] := this
      injection h2 with h2
      injection h2 with h2
      exact h2.symm
    obtain ⟨y01, y02⟩ := y0
    subst hy1
    obtain ⟨u, v, m, q, hl, hn, hv⟩ := trod_iface_inv (ms := _) Tryz.underlying39 hy0
    obtain rfl : u = 78 := Program.typeNamed8_inj Tryz.errnoName (typeName_lt (by decide +kernel) hn) hn
    have hcs : cs6.toList = [.iface 78 v] := by
      match hc : cs6.toList, hlen with
      | [z], _ =>
        rw [hc, show Tryz.prog.cellsOf _ = 1 from Tryz.cellsErr] at hl
        simpa using hl
    have hcell : W.cell? ⟨0, 0, none⟩ = some (.iface 78 v) := (World.var?_cell hg6 hv6 0).trans (by rw [← Array.getElem?_toList, hcs]; rfl)
    have hmem : MemPlace.cell 0 0 ∈ ps := by
      have hsz : cs6.size = 1 := by rw [← Array.length_toList]; exact hlen
      have h6 : MemPlace.cell 0 0 ∈ MemPlace.row ⟨0, 0, none⟩ cs6.size := MemPlace.mem_row.2 ⟨0, by omega, rfl⟩
      rw [e0, e1, e2, e3, e4, e5, e6]
      simp only [List.mem_append]
      exact .inr (.inr (.inr (.inr (.inr (.inr (.inl (.inl h6)))))))
    have hok := (hfit _ _ hmem).2 _ _ hcell
    obtain ⟨z, rfl⟩ := okWide_int Tryz.underlying78 hok
    obtain ⟨z', hz1, hz2, -⟩ := DataW.trod_int Tryz.underlying78 hv
    have h1 : z = z' := by
      have : ([Value.int .i64 z] : List Value) = [.int .i64 z'] := hz1
      injection this with this
      injection this
    have h2 : (2 : Int) = z' := by
      have := congrArg Prod.fst hz2
      have h3 : (DataW.lit (.int .i64 2) : DataW Unit) = .lit (.int .i64 z') := this
      injection h3 with h3
      injection h3
    rw [hcell, h1, ← h2]
theorem tr_of_laid9 {W : World} (hs : W.ShapedOpen Tryz.prog) (h : laidMetH Tryz.prog laid9 W) : Tr W := by
  have h' : laidMet Tryz.prog laid8p W ∧ handlesMet Tryz.prog theLaid W := h
  have hl := ld_of_met h'.1
  exact ⟨hl.tb, handle_of_laid (W := W) ⟨laidMet_nil _ _, h'.2⟩, Tryz.laysM146.s1_3 W hs, hl.es, hl.er, hl.un⟩

/-! ### A start that fits -/
noncomputable def laidWorld9 (os : Os) : World := (laidWorld os).layVars Tryz.prog laid8p
theorem laidWorld9_os (os : Os) : (laidWorld9 os).os = os := World.layVars_os _ _ _
set_option maxRecDepth 100000 in
theorem laidWorld9_plain (os : Os) : laidMet Tryz.prog laid8p (laidWorld9 os) := by
  have e1 : (laid8p.filter fun x => (laid8p.map (·.1)).contains x.1) = laid8p := List.filter_eq_self.2 fun x hx => List.contains_iff_mem.2 (List.mem_map.2 ⟨x, hx, rfl⟩)
  have e2 : (laid8p.filter fun x => !(laid8p.map (·.1)).contains x.1) = [] := List.filter_eq_nil_iff.2 fun x hx => by rw [List.contains_iff_mem.2 (List.mem_map.2 ⟨x, hx, rfl⟩)]; simp
  exact laidMet_layVars (w0 := laidWorld os) (laid8p.map (·.1)) [] (by rw [e1]; rfl) (by rw [e1]; kernel_rfl) (by rw [e1]; kernel_rfl) (by rw [e2]; exact LaidIn.none)
set_option maxRecDepth 100000 in
theorem door_met9 (os : Os) (args : Array Value) : laidMetH Tryz.prog laid9 ((laidWorld9 os).forCall (fun _ _ => 0) ⟨#[], args, []⟩).memory :=
  laidMetH_of_parts3 (fuel := 8) (show laidMet Tryz.prog laid8p _ from (laidWorld9_plain os).of_heap (by simp [World.memory, World.forCall, Input.heap])) (by kernel_rfl) (by kernel_rfl)

theorem laid_lifted9 {C : Checked} {F : FuncId} {fn : Func} {s : ChangeSpec} {os : Os} {H : Type} {enc : TypeId × Value → H} {tb : TypeId} {X : World → Prop} (laid : List (String × DataW Unit)) (hX : ∀ W : World, W.ShapedOpen C.prog → laidMetH C.prog laid W → X W) (conds : List PathCond)
    (own : ownKnob C.prog.godebug = none) (started : os.Started) (noInit : C.prog.inits.idxOf? F = none) (hfn : C.prog.funcs[F]? = some fn)
    (hl : laidOutB C.prog = true) (hts : fn.params.toList.all (fun t => C.prog.readableRec t && decide (t < C.prog.types.size)) = true) (hres : fn.resultTypes = #[tb]) (htb : C.prog.underlying tb = some .bool) (hvars : s.vars = [])
    (hspec : ∀ ds : List (DataW H), ds.length = fn.params.size → s.fn H ds = { results := [.lit (.bool true)], args := ds, vars := [] })
    (witness : ∃ (w : World) (tape : Tape) (i : Input), w.os = os ∧ (w.forCall tape i).Shaped C.prog ∧ i.vars = [] ∧ Input.okWide C.prog (w.forCall tape i) .any w.heap.size F i ∧
      ((s.pre enc C.prog fn conds false (w.forCall tape i).memory i.args ∧ laidMetH C.prog laid (w.forCall tape i).memory) ∧ sizedMet enc C.prog fn (OpenSpec.ofChange s) false (w.forCall tape i).memory i.args) ∧ ({} : Assume).holds C.prog (lone (Frame.enter C.prog F i.args .normal) [] (w.forCall tape i)))
    (walk : LawWalk C.prog F fn X) :
    ReturnsInHanded {} C os F .any (fun w args => (s.pre enc C.prog fn conds false w args ∧ laidMetH C.prog laid w) ∧ sizedMet enc C.prog fn (OpenSpec.ofChange s) false w args) (s.post enc C.prog fn false true false false) := by
  refine returnsInHanded_of_calls (C := C) own started noInit witness ?_
  intro w tape i _ hsh _ hok hpre _
  obtain ⟨_, _, _, fn', hfn', _, _, _, _, hval⟩ := hok
  have e : fn' = fn := Option.some.inj (hfn'.symm.trans hfn)
  subst e
  obtain ⟨⟨⟨ds, gs, before, hw, hc⟩, hx⟩, hz⟩ := hpre
  have hw' := DataW.Whole.of_heap (w' := w.forCall tape i) (by rfl) hw
  have hx' : laidMetH C.prog laid (w.forCall tape i) := hx.of_heap (by rfl)
  have hW' := hw'
  obtain ⟨p, q, hA, hV, hpq, _, _⟩ := hw'
  rw [hvars] at hV
  obtain ⟨rfl, rfl⟩ := trodVars_none hV
  have hlen : ds.length = fn'.params.size := trodAll_length hA
  refine (walk (w.forCall tape i) w.heap.size i.args H enc ds p hval hA (hX _ hsh hx')).mono fun e W' ⟨he, hb⟩ => ?_
  subst he
  exact ChangeSpec.post_blind (law_post hl hts hres htb hvars hW' (by rw [List.append_nil]; exact hspec ds hlen) hA hpq hb)
end Go.Proofs.YtemhdfodghfkfaaGreatDoor
