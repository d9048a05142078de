/-
  PROVED HERE: merelaw3.RunBegins returns true: the answers to a beginning of a session are a beginning of its answers. CONDITIONS: the library's variables as the program's text lays them (tied by the card).
-/
import Derived.Test.YtemhdfodghfkfaaGreatDoorRunBegW
import Derived.Test.YtemhdfodghfkfaaGreatDoorDoorR
namespace Go.Proofs.YtemhdfodghfkfaaGreatDoor
open Go.RowKit
open Go.ChangeShapes Go.WideShapes Go.ChangeAt

/-- a text is the text of its bytes -/
theorem mkB_self (s : ByteArray) : mkB s.data.toList = s := by
  apply ByteArray.ext
  show s.data.toList.toArray = s.data
  simp
theorem arg_text {P : Program} {H : Type} {enc : TypeId × Value → H} {W : World} {base b0 : Nat} {held : Bool} {t : TypeId} {v : Value} {d : DataW H} {p : List MemPlace} {r : Reach} (ht : P.underlying t = some .string) (hv : Value.okWide P W r base t v) (h : DataW.Trod enc P W b0 (fun _ => true) held t v d p) : ∃ l : Tx, v = .string (mkB l) ∧ l.length ≤ maxLen := by
  obtain ⟨s, rfl, _⟩ := arg_str ht hv h
  obtain ⟨fuel, hn⟩ := h
  obtain ⟨s', hs', -, hl⟩ := DataW.trod_string ht hn
  obtain rfl : s = s' := by simpa [Value.cells] using hs'
  exact ⟨s.data.toList, by rw [mkB_self], by rw [← Lib.size_eq]; exact hl⟩
set_option maxRecDepth 100000 in
theorem runBegins_walk : LawWalk Tryz.prog 4 Tryz.f4 Tr := by
  intro W base args H enc ds p hval hA hT
  rw [Tryz.params4] at hA hval
  obtain ⟨v0, v1, d0, d1, p0, p1, rfl, rfl, rfl, h0, h1⟩ := trodAll_two hA
  obtain ⟨l, rfl, hl⟩ := arg_text Tryz.underlying9 (hval 0 9 v0 rfl rfl) h0
  obtain ⟨k, rfl, _⟩ := arg_int Tryz.underlying3 (hval 1 3 v1 rfl rfl) h1
  exact begins_any l hl k W hT

set_option maxRecDepth 100000 in
theorem runBegins_lifted (os : Os) (started : os.Started) (H : Type) (enc : TypeId × Value → H) :
    ReturnsInHanded {} Tryz.checked os 4 .any (fun w args => (Rows.runBeginsSpec.pre enc Tryz.checked.prog Tryz.f4 [] false w args ∧ laidMetH Tryz.prog laid9 w) ∧ sizedMet enc Tryz.checked.prog Tryz.f4 (OpenSpec.ofChange Rows.runBeginsSpec) false w args) (Rows.runBeginsSpec.post enc Tryz.checked.prog Tryz.f4 false true false false) :=
  laid_lifted9 (C := Tryz.checked) laid9 (fun _ hs h => tr_of_laid9 hs h) [] Tryz.own started (by kernel_rfl) Tryz.func4 Tryz.laidOut (by kernel_rfl) rfl Tryz.underlying4 rfl (fun ds h => by match ds, h with | [_, _], _ => rfl)
    (ChangeSpec.witness_shaped (enc := enc) (C := Tryz.checked) (os := os) (X := fun w _ => laidMetH Tryz.prog laid9 w) false (laidWorld9 os) #[.string ⟨#[]⟩, .int .i64 0] 8 (laidWorld9_os os) (World.shaped_of_RefB (by kernel_rfl) (by kernel_rfl)) (by kernel_rfl) (by kernel_rfl) (by kernel_rfl) (door_met9 os _)) runBegins_walk

theorem runBegins_row : Rows.RunBeginsSaid :=
  OpenClaim.holds_of_wide 4 Tryz.f4 rfl rfl rfl rfl rfl rfl rfl ⟨rfl, rfl, rfl, rfl, rfl⟩ rfl rfl rfl rfl rfl (by kernel_rfl) Tryz.func4 (by kernel_rfl)
    (of_decide_eq_true (by kernel_rfl)) (by unfold Func.isWrapper; rw [if_neg (of_decide_eq_false (by kernel_rfl))]; exact ⟨rfl, rfl⟩)
    (fun os started H enc _ => runBegins_lifted os started H enc)

theorem runBegins_holds : Rows.RunBeginsCardSaid :=
  Claim7.holds_tied_plain_at .later [] [.data, .data, .data, .data, .handle, .sentinel, .sentinel, .wider, .pinned] true _ true
    runBegins_row (fun _ h => by cases h) (by kernel_rfl) (fun _ h => by cases h) runBegins_row_tie rfl ⟨rfl, rfl⟩ (by kernel_rfl) rfl
    (fun f fn hf hfn => by
      obtain rfl : f = 4 := Option.some.inj ((show Tryz.prog.funcNamed "beaconmere/merelaw3.RunBegins" = some 4 by kernel_rfl).symm.trans hf) |>.symm
      obtain rfl : fn = Tryz.f4 := (Option.some.inj (Tryz.func4.symm.trans hfn)).symm
      refine ⟨by kernel_rfl, fun j t ht => ?_⟩
      have hall : Tryz.f4.params.toList.all (fun t => !Tryz.prog.wantsStandIn t) = true := by kernel_rfl
      have hm : t ∈ Tryz.f4.params.toList := by
        obtain ⟨hj, hje⟩ := Array.getElem?_eq_some_iff.1 ht
        rw [← hje]
        exact Array.mem_toList_iff.2 (Array.getElem_mem hj)
      have := List.all_eq_true.1 hall t hm
      exact (show Tryz.prog.wantsStandIn t = false by simpa using this))
    (by kernel_rfl)

end Go.Proofs.YtemhdfodghfkfaaGreatDoor
