/-
  CONTRACT of mesh.At, of mesh.Get where the cache has it, and what a put leaves. CONDITIONS: none.
-/
import Derived.Test.YtlcbdhblaamekaaDoorTopOne
namespace Go.Proofs.YtlcbdhblaamekaaDoor
open Go.RowKit
open Go.ChangeShapes Go.WideShapes Go.ChangeAt

set_option maxHeartbeats 2000000 in
theorem matW {base m : Nat} {D : List E} {C : List (List E)} {A : Nat → Prop} (key q : Int) (w : World) (h : MeshW base w m D C A) :
    Calls Tryd.prog 20 #[.pointer (some ⟨m, 0, none⟩), .int .i64 key, .int .i64 q] w fun e w' => e = .returned (.tuple #[(ratS D key q).1.val, errV (ratS D key q).2]) ∧ Below w.heap.size w w' := by
  obtain ⟨s, g, vs, qs, h1, h2, h3⟩ := h
  have HA := hid (fun W (hW : Below w.heap.size w W) => sAt_any base s key q vs (lsOf D) D.length W (h1.belowS hW).st h1.stp)
  rw [atS_r] at HA
  have c0 := h1.c0
  have hl := h1.lt
  generalize ratS D key q = R at *
  obtain ⟨⟨x0, x1, x2, x3, x4⟩, en⟩ := R
  simp only [E.val] at HA ⊢
  obtain ⟨ev, hev⟩ : ∃ ev, errV en = ev := ⟨_, rfl⟩
  rw [hev] at HA ⊢
  have HB := hid (Blk.new w 38 #[.int .i64 0, .int .i64 0, .int .i64 0, .bool false, .string ⟨#[]⟩])
  clear h1 h2 h3 hev
  go_enter Tryd.func20, Tryd.ntmps20
  go_wp2_with fail
  refine (HA.out _ (by (repeat (first | with_reducible exact Below.refl _ _ | with_reducible assumption | (with_reducible refine Below.drew ?_) | (with_reducible refine Below.manyDrew ?_ _) | ((with_reducible refine Below.alloc ?_ ?_ _); rotate_left; (focus (first | omega | (dsimp only; omega) | (simp; done) | (simp; omega)))) | ((with_reducible refine Below.setCell ?_ ?_ _); rotate_left; (focus (first | omega | (dsimp only; omega) | (simp; done) | (simp; omega)))) | ((with_reducible refine Below.step ?_ (by assumption) ?_); rotate_left; (focus (first | omega | (dsimp only; omega) | (simp; done) | (simp; omega)))))))).mono ?_
  rintro e w1 ⟨rfl, hb1⟩
  have hB1 := HB.out.belowS hb1
  have HB1 := hid hB1
  have y0 : w1.cell? ⟨w.heap.size, 0, none⟩ = some (.int .i64 0) := hB1.cell 0
  have y1 : w1.cell? ⟨w.heap.size, 1, none⟩ = some (.int .i64 0) := hB1.cell 1
  have y2 : w1.cell? ⟨w.heap.size, 2, none⟩ = some (.int .i64 0) := hB1.cell 2
  have y3 : w1.cell? ⟨w.heap.size, 3, none⟩ = some (.bool false) := hB1.cell 3
  have y4 : w1.cell? ⟨w.heap.size, 4, none⟩ = some (.string ⟨#[]⟩) := hB1.cell 4
  have f0 := hB1.frozen 0
  have f1 := hB1.frozen 1
  have f2 := hB1.frozen 2
  have f3 := hB1.frozen 3
  have f4 := hB1.frozen 4
  have hl1 := hB1.lt
  have hb1' : Below w.heap.size w w1 := by (repeat (first | with_reducible exact Below.refl _ _ | with_reducible assumption | (with_reducible refine Below.drew ?_) | (with_reducible refine Below.manyDrew ?_ _) | ((with_reducible refine Below.alloc ?_ ?_ _); rotate_left; (focus (first | omega | (dsimp only; omega) | (simp; done) | (simp; omega)))) | ((with_reducible refine Below.setCell ?_ ?_ _); rotate_left; (focus (first | omega | (dsimp only; omega) | (simp; done) | (simp; omega)))) | ((with_reducible refine Below.step ?_ (by assumption) ?_); rotate_left; (focus (first | omega | (dsimp only; omega) | (simp; done) | (simp; omega))))))
  clear hB1 hb1
  go_wp2_with fail
  refine bodyPost_ret (v := .tuple #[.agg #[.int .i64 x0, .int .i64 x1, .int .i64 x2, .bool x3, .string x4], ev]) ?_ rfl ⟨rfl, by (repeat (first | with_reducible exact Below.refl _ _ | with_reducible assumption | (with_reducible refine Below.drew ?_) | (with_reducible refine Below.manyDrew ?_ _) | ((with_reducible refine Below.alloc ?_ ?_ _); rotate_left; (focus (first | omega | (dsimp only; omega) | (simp; done) | (simp; omega)))) | ((with_reducible refine Below.setCell ?_ ?_ _); rotate_left; (focus (first | omega | (dsimp only; omega) | (simp; done) | (simp; omega)))) | ((with_reducible refine Below.step ?_ (by assumption) ?_); rotate_left; (focus (first | omega | (dsimp only; omega) | (simp; done) | (simp; omega))))))⟩
  exact results_box Tryd.results20 rfl (Blk.put5 HB1.out _ _ _ _ _) Tryd.underlying38 rfl (by kernel_rfl)
theorem TrueD.at_ {D : List E} {e : E} (h : TrueD D e) : ratS D e.key e.asof = (e, 0) := by
  obtain ⟨hk, q, hq, he⟩ := h
  have ha : e.asof = (q : Int) := by rw [he]; rfl
  rw [ratS, if_pos ⟨hk, by omega, by omega⟩, ha, Int.toNat_natCast, ← he]

/-- what was just put is told to who put it -/
theorem put_told {D : List E} {C : List (List E)} (hD : Deeds D) (hC : ∀ c ∈ C, CacheD D c) {node key : Int} {t : ByteArray} (h0 : (mdoR C.length D node (rput D key t)).1.2 = 0) :
    (0 ≤ node ∧ node < C.length) ∧ keyB key = true ∧ (mdoR C.length D node (rput D key t)).2 = D ++ [(⟨key, 0, 0, false, t⟩ : E)] ∧
    mgetR (D ++ [(⟨key, 0, 0, false, t⟩ : E)]) (learnC C node.toNat key (D ++ [(⟨key, 0, 0, false, t⟩ : E)])) node key (D ++ [(⟨key, 0, 0, false, t⟩ : E)]).length = ((⟨key, (D.length : Int) + 1, (D.length : Int) + 1, false, t⟩, true, 0), learnC C node.toNat key (D ++ [(⟨key, 0, 0, false, t⟩ : E)])) := by
  have hin : inM C.length node = true := by
    rcases hi : inM C.length node with _ | _
    · rw [mdoR, hi, if_neg (by decide)] at h0
      cases h0
    · rfl
  rw [mdoR, if_pos hin] at h0 ⊢
  obtain ⟨n0, n1⟩ := inM_true.1 hin
  have hkb : keyB key = true := by
    rcases hk : keyB key with _ | _
    · rw [rput, hk, if_neg (by decide)] at h0
      cases h0
    · rfl
  have hDD := rput_deed hD key t
  have hput : (rput D key t).2 = D ++ [(⟨key, 0, 0, false, t⟩ : E)] := by
    unfold rput at h0 ⊢
    rw [if_pos hkb] at h0 ⊢
    split at h0
    · cases h0
    · rename_i h12
      rw [if_neg h12]
      unfold rdone at h0 ⊢
      split at h0
      · cases h0
      · rename_i h1000
        rw [if_neg h1000]
  have hD' : Deeds (D ++ [(⟨key, 0, 0, false, t⟩ : E)]) := by
    rcases hDD with ⟨h, _⟩ | ⟨_, _, _, h⟩
    · exact absurd h0 h
    · rw [hput] at h; exact h
  refine ⟨⟨n0, n1⟩, hkb, hput, ?_⟩
  have hE : entC key ((D ++ [(⟨key, 0, 0, false, t⟩ : E)]).length : Int) (refC (D ++ [(⟨key, 0, 0, false, t⟩ : E)]) key) = ⟨key, (D.length : Int) + 1, (D.length : Int) + 1, false, t⟩ := by
    rw [refC_snoc, if_pos rfl, List.length_append, List.length_singleton]
    rfl
  have hk' : node.toNat < C.length := by omega
  have hcd : CacheD (D ++ [(⟨key, 0, 0, false, t⟩ : E)]) (C.getD node.toNat []) := (hC _ (getD_memD [] hk')).more ⟨_, rfl⟩
  have hl := hcd.learn hD' hkb
  have hlk : lk ((learnC C node.toNat key (D ++ [(⟨key, 0, 0, false, t⟩ : E)])).getD node.toNat []) key = some ⟨key, (D.length : Int) + 1, (D.length : Int) + 1, false, t⟩ := by
    unfold learnC
    rw [List.getD_eq_getElem?_getD, List.getElem?_set_self hk', Option.getD_some, hl, hE]
  have hask : askB (learnC C node.toNat key (D ++ [(⟨key, 0, 0, false, t⟩ : E)])).length (D ++ [(⟨key, 0, 0, false, t⟩ : E)]).length node key ((D ++ [(⟨key, 0, 0, false, t⟩ : E)]).length : Int) = true := by
    rw [askB_true]
    refine ⟨?_, hkb, by omega, Int.le_refl _⟩
    unfold learnC
    rw [List.length_set]
    exact hin
  rw [mgetR, if_pos hask, hlk]
  simp only
  rw [if_pos (by rw [List.length_append, List.length_singleton]; show _ ≤ _; omega)]
/-- a put's number -/
theorem put_num {D : List E} {C : List (List E)} {node key : Int} {t : ByteArray} (h0 : (mdoR C.length D node (rput D key t)).1.2 = 0) : (mdoR C.length D node (rput D key t)).1.1 = (D.length : Int) + 1 := by
  unfold mdoR at h0 ⊢
  split at h0
  · rename_i h1
    rw [if_pos h1]
    unfold rput at h0 ⊢
    split at h0
    · rename_i h2
      rw [if_pos h2]
      split at h0
      · cases h0
      · rename_i h3
        rw [if_neg h3]
        unfold rdone at h0 ⊢
        split at h0
        · cases h0
        · rename_i h4
          rw [if_neg h4]
    · cases h0
  · cases h0
/-- Get of what the node's own cache has only reads -/
theorem mgetB {base m : Nat} {D : List E} {C : List (List E)} {A : Nat → Prop} (node key fl : Int) (e : E) (W : World) (h : MeshW base W m D C A) (hg : mgetR D C node key fl = ((e, true, 0), C)) :
    Calls Tryd.prog 15 #[.pointer (some ⟨m, 0, none⟩), .int .i64 node, .int .i64 key, .int .i64 fl] W fun r w' =>
      r = .returned (.tuple #[.agg #[.int .i64 e.key, .int .i64 e.ver, .int .i64 e.asof, .bool e.gone, .string e.text], .bool true, .nilIface]) ∧ Below W.heap.size W w' := by
  obtain ⟨s, g, vs, q, h1, h2, h3⟩ := h
  have hl : C.length = q.length := by rw [← h2, List.length_map]
  rcases ha : askB C.length D.length node key fl with _ | _
  · rw [mgetR, ha, if_neg (by decide)] at hg
    simp at hg
  · rw [mgetR, ha, if_pos rfl] at hg
    obtain ⟨i1, i2, i3, i4⟩ := askB_true.1 ha
    obtain ⟨n0, n1⟩ := inM_true.1 i1
    obtain ⟨n, rfl⟩ := Int.eq_ofNat_of_zero_le n0
    rw [Int.toNat_natCast] at hg
    have hn : n < q.length := by omega
    have hc : C.getD n [] = q[n].xs := by rw [← h2, map_getD, getD_get _ hn]
    rw [hc] at hg
    cases hlk : lk q[n].xs key with
    | none => rw [hlk] at hg; simp at hg
    | some x =>
      rw [hlk] at hg
      simp only at hg
      by_cases hf : fl ≤ x.asof
      · rw [if_pos hf] at hg
        injection hg with hg _
        injection hg with hg _
        subst hg
        exact (mget_hit n key fl x W h1 hn i2 i3 i4 hlk hf).mono (fun e w' h => h)
      · rw [if_neg hf] at hg
        simp at hg
theorem rowTwo {w0 : World} {st : SlV (SlV Int)} {n b off : Nat} (hst : IntssAt w0 st) (hA : st.A = some ⟨b, off, none⟩) (hn : n < st.xs.length) (h2 : st.xs[n].xs.length = 2) :
    ∃ b2 off2 c x0 x1, b < w0.heap.size ∧ b2 < w0.heap.size ∧ ∀ W, Below w0.heap.size w0 W → W.cell? ⟨b, off + n, none⟩ = some (.slice (some ⟨b2, off2, none⟩) 2 c) ∧ W.cell? ⟨b2, off2, none⟩ = some (.int .i64 x0) ∧ W.cell? ⟨b2, off2 + 1, none⟩ = some (.int .i64 x1) := by
  obtain ⟨b', off', hA', hb, hc⟩ := hst.row (by omega)
  rw [hA] at hA'
  injection hA' with hA'
  injection hA' with e1 e2
  subst e1 e2
  obtain ⟨b2, off2, hA2, hb2, hc2⟩ := (hst.each n hn).row (by omega)
  refine ⟨b2, off2, st.xs[n].c, _, _, hb, hb2, fun W hW => ⟨?_, (hW.cell (p := ⟨b2, off2, none⟩) hb2).trans (hc2 0 (by omega)), (hW.cell (p := ⟨b2, off2 + 1, none⟩) hb2).trans (hc2 1 (by omega))⟩⟩
  rw [hW.cell (p := ⟨b, off + n, none⟩) hb, hc n hn, hA2, h2]
theorem rowNot {w0 : World} {st : SlV (SlV Int)} {n b off : Nat} (hst : IntssAt w0 st) (hA : st.A = some ⟨b, off, none⟩) (hn : n < st.xs.length) (h2 : ¬ st.xs[n].xs.length = 2) :
    ∃ (A : Option Addr) (k c : Nat), ¬ (k : Int) = 2 ∧ ∀ W, Below w0.heap.size w0 W → W.cell? ⟨b, off + n, none⟩ = some (.slice A k c) := by
  obtain ⟨b', off', hA', hb, hc⟩ := hst.row (by omega)
  rw [hA] at hA'
  injection hA' with hA'
  injection hA' with e1 e2
  subst e1 e2
  refine ⟨st.xs[n].A, st.xs[n].xs.length, st.xs[n].c, by omega, fun W hW => ?_⟩
  rw [hW.cell (p := ⟨b, off + n, none⟩) hb, hc n hn]
/-- from its version on, up to its time, it is told the same -/
theorem TrueD.at_range {D : List E} {e : E} (hD : Deeds D) (h : TrueD D e) {q : Int} (h1 : e.ver ≤ q) (h2 : q ≤ e.asof) : ∃ y, ratS D e.key q = (y, 0) ∧ y.ver = e.ver ∧ y.text = e.text ∧ y.gone = e.gone := by
  obtain ⟨hk, p, hp, he⟩ := h
  have ha : e.asof = (p : Int) := by rw [he]; rfl
  have hv : e.ver = (refC (D.take p) e.key).seq := by rw [he]; rfl
  have h0 := (refC_facts e.key (hD.take p)).1
  obtain ⟨n, rfl⟩ := Int.eq_ofNat_of_zero_le (show 0 ≤ q by omega)
  have hm := refC_mono D e.key n (p - n) (by omega)
  rw [show n + (p - n) = p by omega] at hm
  rcases hm with hm | hm
  · refine ⟨_, by rw [ratS, if_pos ⟨hk, by omega, by omega⟩, Int.toNat_natCast], ?_, ?_, ?_⟩
    · rw [hv, hm]; rfl
    · rw [he, hm]; rfl
    · rw [he, hm]; rfl
  · omega
end Go.Proofs.YtlcbdhblaamekaaDoor
