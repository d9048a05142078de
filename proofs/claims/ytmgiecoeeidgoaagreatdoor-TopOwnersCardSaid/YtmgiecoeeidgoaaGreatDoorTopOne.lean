/-
  CONTRACT of the closed fact of the laws over all: what was put is told. CONDITIONS: none.
-/
import Derived.Test.YtmgiecoeeidgoaaGreatDoorMeshW
namespace Go.Proofs.YtmgiecoeeidgoaaGreatDoor
open Go.RowKit
open Go.ChangeShapes Go.WideShapes Go.ChangeAt

/-- what is told is right, and not older than asked -/
theorem mget_good {base m : Nat} {w : World} {D : List E} {C : List (List E)} {A : Nat → Prop} (h : MeshW base w m D C A) {node key fl : Int} (h0 : (mgetR D C node key fl).1.2.2 = 0) :
    chk (mgetR D C node key fl).1.1 = 0 ∧ (mgetR D C node key fl).1.1.key = key ∧ fl ≤ (mgetR D C node key fl).1.1.asof ∧ keyB key = true ∧ TrueD D (mgetR D C node key fl).1.1 := by
  rcases ha : askB C.length D.length node key fl with _ | _
  · rw [mgetR, ha, if_neg (by decide)] at h0
    cases h0
  · obtain ⟨i1, i2, i3, i4⟩ := askB_true.1 ha
    obtain ⟨n0, n1⟩ := inM_true.1 i1
    have hmem : C.getD node.toNat [] ∈ C := getD_memD [] (by omega)
    have hc := h.cac _ hmem
    have hnow := TrueD.now (D := D) i2
    rw [mgetR, ha, if_pos rfl]
    cases hlk : lk (C.getD node.toNat []) key with
    | none => exact ⟨hnow.chk h.deeds, rfl, i4, i2, hnow⟩
    | some x =>
      simp only
      obtain ⟨hm, hk⟩ := lk_some hlk
      by_cases hf : fl ≤ x.asof
      · rw [if_pos hf]
        exact ⟨(hc.2 x hm).chk h.deeds, hk, hf, i2, hc.2 x hm⟩
      · rw [if_neg hf]
        exact ⟨hnow.chk h.deeds, rfl, i4, i2, hnow⟩
def oneD : List E := [⟨2, 0, 0, false, ⟨#[121]⟩⟩]
def oneE : E := ⟨2, 1, 1, false, ⟨#[121]⟩⟩
theorem one_put : mdoR 1 [] 0 (rput [] 2 ⟨#[121]⟩) = ((1, 0), oneD) := by kernel_rfl
theorem one_learn : learnC [[]] 0 2 oneD = [[oneE]] := by kernel_rfl
theorem one_get : mgetR oneD [[oneE]] 0 2 1 = ((oneE, true, 0), [[oneE]]) := by kernel_rfl
set_option maxHeartbeats 2000000 in
theorem topone_any (w : World) : Calls Tryz.prog 4 #[] w fun e w' => e = .returned (.bool true) ∧ Below w.heap.size w w' := by
  have HN := hid (mnew_ok 1 w (by omega) (by omega))
  go_enter Tryz.func4, Tryz.ntmps4
  go_wp2_with fail
  refine HN.out.mono ?_
  rintro e w1 ⟨v, rfl, hN⟩
  obtain ⟨m, rfl, hM, hb1⟩ := hN.meshW
  have hz1 := hb1.size
  have HP := hid (mputW 0 2 ⟨#[121]⟩ (by unfold maxLen; decide) w1 hM (fun i hi => by omega) hz1)
  simp only [List.length_replicate, one_put, if_true] at HP
  have Hb1 := hid hb1
  clear hM hb1 hN HN
  go_wp2_with fail
  refine HP.out.mono ?_
  rintro e w2 ⟨rfl, hM2, hF2⟩
  rw [show learnC (List.replicate 1 []) (0 : Int).toNat 2 oneD = [[oneE]] from one_learn] at hM2
  have hb2 : Below w.heap.size w w2 := Hb1.out.trans (hF2.below0 hz1 (fun i hi => hi.1))
  have hz2 := hb2.size
  have HG := hid (mgetW 0 2 1 w2 hM2 (fun i hi => by omega) hz2)
  rw [one_get] at HG
  have Hb2 := hid hb2
  rw [show errV 0 = .nilIface from rfl]
  clear hM2 hF2 hb2 HP
  go_wp2_with fail
  refine HG.out.mono ?_
  rintro e w3 ⟨rfl, hM3, hF3⟩
  have Hb3 := hid (Hb2.out.trans (hF3.below0 hz2 (fun i hi => hi.1)))
  have hz3 := Hb3.out.size
  rw [show oneE.val = .agg #[.int .i64 2, .int .i64 1, .int .i64 1, .bool false, .string ⟨#[121]⟩] from rfl]
  simp only
  rw [show errV 0 = .nilIface from rfl]
  clear hM3 hF3 HG
  go_wp2_with fail
  go_ret
  exact ⟨rfl, Hb3.out.alloc hz3 _⟩
theorem trodAll_fourT {H : Type} {enc : TypeId × Value → H} {P : Program} {w : World} {base : Nat} {sp : Nat → Bool} {held : Bool} {t t' t'' t3 : TypeId} {args : Array Value} {ds : List (DataW H)} {ps : List MemPlace} (h : DataW.TrodAll enc P w base sp held [t, t', t'', t3] args.toList ds ps) :
    ∃ v v' v'' v3 d d' d'' d3 p p' p'' p3, args = #[v, v', v'', v3] ∧ ds = [d, d', d'', d3] ∧ ps = p ++ (p' ++ (p'' ++ (p3 ++ []))) ∧ DataW.Trod enc P w base sp held t v d p ∧ DataW.Trod enc P w base sp held t' v' d' p' ∧ DataW.Trod enc P w base sp held t'' v'' d'' p'' ∧ DataW.Trod enc P w base sp held t3 v3 d3 p3 := by
  obtain ⟨v, vs, d, ds', p, q, e1, rfl, rfl, h1, h⟩ := trodAll_cons h
  obtain ⟨v', vs', d', ds'', p', q', rfl, rfl, rfl, h2, h⟩ := trodAll_cons h
  obtain ⟨v'', vs'', d'', ds3, p'', q'', rfl, rfl, rfl, h3, h⟩ := trodAll_cons h
  obtain ⟨v3, vs3, d3, ds4, p3, q3, rfl, rfl, rfl, h4, h⟩ := trodAll_cons h
  obtain ⟨rfl, rfl, rfl⟩ := trodAll_nil h
  refine ⟨v, v', v'', v3, d, d', d'', d3, p, p', p'', p3, ?_, rfl, rfl, h1, h2, h3, h4⟩
  exact Array.toList_inj.1 (by simpa using e1)
end Go.Proofs.YtmgiecoeeidgoaaGreatDoor
