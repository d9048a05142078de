/-
  A MESH AND A MAIL BESIDE IT, and CONTRACT of mesh.At. CONDITIONS: none.
  A MESH, A MAIL, AND A LIST OF ENTRIES THAT CAME: how each deed leaves them. CONDITIONS: none.
-/
import Derived.Test.YtlcbdhblaamekaaTopOne
import Derived.Test.YtlcbdhblaamekaaMeshAt
import Derived.Test.YtlcbdhblaamekaaMail2
import Derived.Test.YtlcbdhblaamekaaCAll
import Derived.Test.YtlcbdhblaamekaaRowE
namespace Go.Proofs.Ytlcbdhblaamekaa
open Go.RowKit
open Go.ChangeShapes Go.WideShapes Go.ChangeAt

/-- a letter's entry -/
def ltE (y : Lt) : E := ⟨y.key, y.ver, y.asof, y.gone, y.text⟩
def C0 : Int → Int → Bool := fun _ _ => false
/-- a mesh, and a mail whose letters are all true -/
def TM (b1 b2 m : Nat) (D : List E) (C : List (List E)) (L : List Lt) (w : World) : Prop :=
  ∃ v, MailO b2 w (b2 + 1) b2 v L 0 C0 ∧ MeshW b1 w m D C (fun i => i < b1 ∨ FM (b2 + 1) b2 v i) ∧ ∀ y ∈ L, TrueD D (ltE y)
section
variable {b1 b2 m : Nat} {D : List E} {C : List (List E)} {L : List Lt} {w w' : World}
theorem TM.belowS (h : TM b1 b2 m D C L w) (hb : Below w.heap.size w w') : TM b1 b2 m D C L w' := by
  obtain ⟨v, h1, h2, h3⟩ := h
  exact ⟨v, h1.belowS hb, h2.belowS hb, h3⟩
theorem TM.mesh {v : Value} {D' : List E} {C' : List (List E)} (hO : MailO b2 w (b2 + 1) b2 v L 0 C0) (hL : ∀ y ∈ L, TrueD D (ltE y)) (hM : MeshW b1 w' m D' C' (fun i => i < b1 ∨ FM (b2 + 1) b2 v i)) (hF : Fr (MTouch b1 (fun i => i < b1 ∨ FM (b2 + 1) b2 v i)) w w') (hD : ∃ x, D' = D ++ x) : TM b1 b2 m D' C' L w' :=
  ⟨v, hO.fr hF (fun _ hi hs => hs.2 (.inr hi)), hM, fun y hy => (hL y hy).more hD⟩
theorem TM.mail {v : Value} {L' : List Lt} {ret : Value} {e : Ending} (hM : MeshW b1 w m D C (fun i => i < b1 ∨ FM (b2 + 1) b2 v i)) (hr : MRes b2 (b2 + 1) b2 v w ret L' 0 C0 e w') (hL : ∀ y ∈ L', TrueD D (ltE y)) : e = .returned ret ∧ TM b1 b2 m D C L' w' ∧ Fr (FM (b2 + 1) b2 v) w w' := by
  obtain ⟨v', rfl, hO, hF, ho⟩ := hr
  refine ⟨rfl, ⟨v', hO, ?_, hL⟩, hF⟩
  obtain ⟨s, g, vs, q, h1, h2, h3⟩ := hM
  refine ⟨s, g, vs, q, h1.fr hF (fun i hi hs => h3 i hi (.inr hs)), h2, fun i hi ha => ?_⟩
  rcases ha with ha | ha | ha | ha
  · exact h3 i hi (.inl ha)
  · exact h3 i hi (.inr (.inl ha))
  · exact h3 i hi (.inr (.inr (.inl ha)))
  · rcases ho with ho | ⟨k, ho, hk⟩
    · exact h3 i hi (.inr (.inr (.inr (by rw [ha, ho]))))
    · rw [ho] at ha
      injection ha with ha
      have := (h1.part hi).2
      omega
theorem TM.deeds (h : TM b1 b2 m D C L w) : Deeds D := by
  obtain ⟨v, h1, h2, h3⟩ := h
  exact h2.deeds
theorem putL_mem {L : List Lt} {y z : Lt} (h : z ∈ putL L y) : z ∈ L ∨ z = y := by
  unfold putL at h
  split at h
  · exact .inl h
  · rcases List.mem_append.1 h with h | h
    · exact .inl h
    · exact .inr (List.mem_singleton.1 h)
theorem sendL_mem {L : List Lt} {y z : Lt} (h : z ∈ sendL C0 L y) : z ∈ L ∨ z = y := by
  unfold sendL at h
  split at h
  · split at h
    · split at h
      · exact .inl h
      · exact putL_mem h
    · exact .inl h
  · exact .inl h
theorem giveL_mem {L : List Lt} {i : Int} {z : Lt} (h : z ∈ giveL L i) : z ∈ L := by
  unfold giveL at h
  split at h
  · unfold Lt.out at h
    rcases List.mem_append.1 h with h | h
    · exact List.mem_of_mem_take h
    · exact List.mem_of_mem_drop h
  · exact h
theorem twiceL_mem {L : List Lt} {i : Int} {z : Lt} (h : z ∈ twiceL L i) : z ∈ L := by
  unfold twiceL at h
  split at h
  · rename_i hi
    obtain ⟨i0, i1⟩ := inB_true.1 hi
    rcases putL_mem h with h | h
    · exact h
    · rw [h]; exact getD_memD _ (by omega)
  · exact h
end
theorem mdo_more {len : Nat} {D : List E} {node key : Int} {r : (Int × Int) × List E} (h : DeedR D key r) : ∃ x, (mdoR len D node r).2 = D ++ x := by
  unfold mdoR
  split
  · rcases h with ⟨_, _, h⟩ | ⟨_, _, h, _⟩
    · exact ⟨[], by rw [h]; simp⟩
    · exact h
  · exact ⟨[], by simp⟩
end Go.Proofs.Ytlcbdhblaamekaa
namespace Go.Proofs.Ytlcbdhblaamekaa
open Go.RowKit
open Go.ChangeShapes Go.WideShapes Go.ChangeAt

/-- the mesh, the mail, and the list -/
def TL (b1 b2 m : Nat) (D : List E) (C : List (List E)) (L : List Lt) (x : SlV E) (w : World) : Prop :=
  ∃ v b3, MailO b2 w (b2 + 1) b2 v L 0 C0 ∧ MeshW b1 w m D C (fun i => i < b1 ∨ FM (b2 + 1) b2 v i) ∧ (∀ y ∈ L, TrueD D (ltE y)) ∧ OwnC b3 w x ∧ CacheD D x.xs ∧ ∀ i, FM (b2 + 1) b2 v i → foot x.val ≠ some i
theorem TM.tl {b1 b2 m : Nat} {D : List E} {C : List (List E)} {L : List Lt} {w : World} (h : TM b1 b2 m D C L w) : TL b1 b2 m D C L ⟨none, 0, []⟩ w := by
  obtain ⟨v, h1, h2, h3⟩ := h
  exact ⟨v, 0, h1, h2, h3, ⟨Ow.nil _ _ _ _ _, fun y hy => by cases hy⟩, CacheD.nil D, fun i _ h => by cases h⟩
section
variable {b1 b2 m : Nat} {D : List E} {C : List (List E)} {L : List Lt} {x : SlV E} {w w' : World}
theorem TL.belowS (h : TL b1 b2 m D C L x w) (hb : Below w.heap.size w w') : TL b1 b2 m D C L x w' := by
  obtain ⟨v, b3, h1, h2, h3, h4, h5, h6⟩ := h
  exact ⟨v, b3, h1.belowS hb, h2.belowS hb, h3, h4.belowS hb, h5, h6⟩
theorem TL.es (h : TL b1 b2 m D C L x w) : EsAt w x := by
  obtain ⟨v, b3, h1, h2, h3, h4, h5, h6⟩ := h
  exact h4.es
theorem TL.cac (h : TL b1 b2 m D C L x w) : CacheD D x.xs := by
  obtain ⟨v, b3, h1, h2, h3, h4, h5, h6⟩ := h
  exact h5
theorem TL.deeds (h : TL b1 b2 m D C L x w) : Deeds D := by
  obtain ⟨v, b3, h1, h2, h3, h4, h5, h6⟩ := h
  exact h2.deeds
theorem TL.meshW (h : TL b1 b2 m D C L x w) : ∃ A, MeshW b1 w m D C A := by
  obtain ⟨v, b3, h1, h2, h3, h4, h5, h6⟩ := h
  exact ⟨_, h2⟩
/-- a deed on the mail leaves the list, and adds none that is not true -/
theorem TL.mail {v : Value} {b3 : Nat} {L' : List Lt} {ret : Value} {e : Ending} (h1 : MailO b2 w (b2 + 1) b2 v L 0 C0) (hM : MeshW b1 w m D C (fun i => i < b1 ∨ FM (b2 + 1) b2 v i)) (h4 : OwnC b3 w x) (h5 : CacheD D x.xs) (h6 : ∀ i, FM (b2 + 1) b2 v i → foot x.val ≠ some i) (hr : MRes b2 (b2 + 1) b2 v w ret L' 0 C0 e w') (hL : ∀ y ∈ L', TrueD D (ltE y)) :
    e = .returned ret ∧ TL b1 b2 m D C L' x w' ∧ ∀ w0 : World, w0.heap.size ≤ b2 → Below w0.heap.size w0 w → Below w0.heap.size w0 w' := by
  obtain ⟨v', rfl, hO, hF, ho⟩ := hr
  have hlt : ∀ i, foot x.val = some i → i < w.heap.size := fun i hi => (h4.1.lt hi).2
  refine ⟨rfl, ⟨v', b3, hO, ?_, hL, ⟨h4.1.fr hF (fun g hg hs => h6 g hs hg), h4.2⟩, h5, fun i hi hx => ?_⟩, fun w0 h0 hb => hb.trans (hF.below0 hb.size (fun i hi => Nat.le_trans h0 (h1.fml hi).1))⟩
  · obtain ⟨s, g, vs, q, k1, k2, k3⟩ := hM
    refine ⟨s, g, vs, q, k1.fr hF (fun i hi hs => k3 i hi (.inr hs)), k2, fun i hi ha => ?_⟩
    rcases ha with ha | ha | ha | ha
    · exact k3 i hi (.inl ha)
    · exact k3 i hi (.inr (.inl ha))
    · exact k3 i hi (.inr (.inr (.inl ha)))
    · rcases ho with ho | ⟨k, ho, hk⟩
      · exact k3 i hi (.inr (.inr (.inr (by rw [ha, ho]))))
      · rw [ho] at ha
        injection ha with ha
        have := (k1.part hi).2
        omega
  · rcases hi with hi | hi | hi
    · exact h6 i (.inl hi) hx
    · exact h6 i (.inr (.inl hi)) hx
    · rcases ho with ho | ⟨k, ho, hk⟩
      · exact h6 i (.inr (.inr (by rw [hi, ho]))) hx
      · rw [ho] at hi
        injection hi with hi
        have := hlt i hx
        omega
theorem rowTwo {w0 : World} {st : SlV (SlV Int)} {n b off : Nat} (hst : IntssAt w0 st) (hA : st.A = some ⟨b, off, none⟩) (hn : n < st.xs.length) (h2 : st.xs[n].xs.length = 2) :
    ∃ b2 off2 c x0 x1, b < w0.heap.size ∧ b2 < w0.heap.size ∧ ∀ W, Below w0.heap.size w0 W → W.cell? ⟨b, off + n, none⟩ = some (.slice (some ⟨b2, off2, none⟩) 2 c) ∧ W.cell? ⟨b2, off2, none⟩ = some (.int .i64 x0) ∧ W.cell? ⟨b2, off2 + 1, none⟩ = some (.int .i64 x1) := by
  obtain ⟨b', off', hA', hb, hc⟩ := hst.row (by omega)
  rw [hA] at hA'
  injection hA' with hA'
  injection hA' with e1 e2
  subst e1 e2
  obtain ⟨b2, off2, hA2, hb2, hc2⟩ := (hst.each n hn).row (by omega)
  refine ⟨b2, off2, st.xs[n].c, _, _, hb, hb2, fun W hW => ⟨?_, (hW.cell (p := ⟨b2, off2, none⟩) hb2).trans (hc2 0 (by omega)), (hW.cell (p := ⟨b2, off2 + 1, none⟩) hb2).trans (hc2 1 (by omega))⟩⟩
  rw [hW.cell (p := ⟨b, off + n, none⟩) hb, hc n hn, hA2, h2]
theorem rowNot {w0 : World} {st : SlV (SlV Int)} {n b off : Nat} (hst : IntssAt w0 st) (hA : st.A = some ⟨b, off, none⟩) (hn : n < st.xs.length) (h2 : ¬ st.xs[n].xs.length = 2) :
    ∃ (A : Option Addr) (k c : Nat), ¬ (k : Int) = 2 ∧ ∀ W, Below w0.heap.size w0 W → W.cell? ⟨b, off + n, none⟩ = some (.slice A k c) := by
  obtain ⟨b', off', hA', hb, hc⟩ := hst.row (by omega)
  rw [hA] at hA'
  injection hA' with hA'
  injection hA' with e1 e2
  subst e1 e2
  refine ⟨st.xs[n].A, st.xs[n].xs.length, st.xs[n].c, by omega, fun W hW => ?_⟩
  rw [hW.cell (p := ⟨b, off + n, none⟩) hb, hc n hn]
/-- a true entry is added without a clash -/
theorem tadd_any (e : E) (h : TL b1 b2 m D C L x w) (he : TrueD D e) :
    Calls Try.prog 14 #[.slice x.A x.xs.length x.c, .agg #[.int .i64 e.key, .int .i64 e.ver, .int .i64 e.asof, .bool e.gone, .string e.text]] w fun r w' =>
      ∃ (x' : SlV E) (u : Bool), r = .returned (.tuple #[.slice x'.A x'.xs.length x'.c, .bool u, .nilIface]) ∧ TL b1 b2 m D C L x' w' ∧ Below w.heap.size w w' := by
  obtain ⟨v, b3, h1, h2, h3, h4, h5, h6⟩ := h
  have hD := h2.deeds
  have hk := he.chk hD
  obtain ⟨a0, a1, _⟩ := h5.add hD he
  refine (cadd_any x e.key e.ver e.asof e.gone e.text w (chk_goodE hk).2.2.2 h4.es).mono ?_
  rintro r w' ⟨vv, rfl, hO, hb⟩
  rw [addR, if_pos h5.1, if_pos (show chk ⟨e.key, e.ver, e.asof, e.gone, e.text⟩ = 0 from hk), if_pos (show (addC x.xs ⟨e.key, e.ver, e.asof, e.gone, e.text⟩).2 = 0 from a0)] at hO ⊢
  obtain ⟨x', rfl, hx', hOw⟩ := OwnC.of_ow hO (fun y hy => chk_goodE ((a1.2 y hy).chk hD))
  refine ⟨x', _, by rw [errV_zero], ⟨v, w.heap.size, h1.belowS hb, h2.belowS hb, h3, hOw, by rw [hx']; exact a1, fun i hi hx => ?_⟩, hb⟩
  have hi1 := (h1.fml hi).2
  have hi2 := (hOw.1.lt hx).1
  omega
theorem tsend_any (x0 y : Int) (h0 : 0 ≤ x0 ∧ x0 < 6) (hy : 0 ≤ y ∧ y < 6) (e : E) (h : TM b1 b2 m D C L w) (he : TrueD D e) :
    Calls Try.prog 10 #[.pointer (some ⟨b2 + 1, 0, none⟩), .agg #[.int .i64 x0, .int .i64 y, .int .i64 e.key, .int .i64 e.ver, .int .i64 e.asof, .bool e.gone, .string e.text]] w fun r w' =>
      (∃ z, r = .returned z) ∧ (∃ L', TM b1 b2 m D C L' w') ∧ w.heap.size ≤ w'.heap.size ∧ ∀ w0 : World, w0.heap.size ≤ b2 → Below w0.heap.size w0 w → Below w0.heap.size w0 w' := by
  obtain ⟨v, h1, h2, h3⟩ := h
  obtain ⟨g1, g2, g3, g4⟩ := chk_goodE (he.chk h2.deeds)
  refine (msend_any b2 (b2 + 1) b2 0 x0 y e.key e.ver e.asof e.gone e.text ⟨by constructor <;> (simp only; omega), by constructor <;> (simp only; omega), g1, g2, g3, trivial, g4⟩ v L C0 w h1).mono ?_
  intro r w' hr
  obtain ⟨rfl, hT, hF⟩ := TM.mail h2 hr (fun z hz => by
    rcases sendL_mem hz with hz | hz
    · exact h3 z hz
    · rw [hz]; exact he)
  exact ⟨⟨_, rfl⟩, ⟨_, hT⟩, hF.size, fun w0 h0 hb => hb.trans (hF.below0 hb.size (fun i hi => Nat.le_trans h0 (h1.fml hi).1))⟩
theorem tlose_any (i : Int) (h : TL b1 b2 m D C L x w) :
    Calls Try.prog 11 #[.pointer (some ⟨b2 + 1, 0, none⟩), .int .i64 i] w fun r w' =>
      (∃ z, r = .returned z) ∧ (∃ L', TL b1 b2 m D C L' x w') ∧ ∀ w0 : World, w0.heap.size ≤ b2 → Below w0.heap.size w0 w → Below w0.heap.size w0 w' := by
  obtain ⟨v, b3, h1, h2, h3, h4, h5, h6⟩ := h
  refine (mlose_any b2 (b2 + 1) b2 0 i v L C0 w h1).mono ?_
  intro r w' hr
  obtain ⟨rfl, hT, hB⟩ := TL.mail h1 h2 h4 h5 h6 hr (fun z hz => h3 z (giveL_mem hz))
  exact ⟨⟨_, rfl⟩, ⟨_, hT⟩, hB⟩
theorem ttwice_any (i : Int) (h : TL b1 b2 m D C L x w) :
    Calls Try.prog 12 #[.pointer (some ⟨b2 + 1, 0, none⟩), .int .i64 i] w fun r w' =>
      (∃ z, r = .returned z) ∧ (∃ L', TL b1 b2 m D C L' x w') ∧ ∀ w0 : World, w0.heap.size ≤ b2 → Below w0.heap.size w0 w → Below w0.heap.size w0 w' := by
  obtain ⟨v, b3, h1, h2, h3, h4, h5, h6⟩ := h
  refine (mtwice_any b2 (b2 + 1) b2 0 i v L C0 w h1).mono ?_
  intro r w' hr
  obtain ⟨rfl, hT, hB⟩ := TL.mail h1 h2 h4 h5 h6 hr (fun z hz => h3 z (twiceL_mem hz))
  exact ⟨⟨_, rfl⟩, ⟨_, hT⟩, hB⟩
theorem tgive_any (i : Int) (h : TL b1 b2 m D C L x w) :
    Calls Try.prog 13 #[.pointer (some ⟨b2 + 1, 0, none⟩), .int .i64 i] w fun r w' =>
      (∃ (y0 y1 y2 y3 y4 : Int) (y5 : Bool) (y6 : ByteArray) (en : Int), r = .returned (.tuple #[.agg #[.int .i64 y0, .int .i64 y1, .int .i64 y2, .int .i64 y3, .int .i64 y4, .bool y5, .string y6], errV en]) ∧ (en = 0 → TrueD D ⟨y2, y3, y4, y5, y6⟩)) ∧
      (∃ L', TL b1 b2 m D C L' x w') ∧ ∀ w0 : World, w0.heap.size ≤ b2 → Below w0.heap.size w0 w → Below w0.heap.size w0 w' := by
  obtain ⟨v, b3, h1, h2, h3, h4, h5, h6⟩ := h
  refine (mgive_any b2 (b2 + 1) b2 0 i v L C0 w h1).mono ?_
  intro r w' hr
  obtain ⟨rfl, hT, hB⟩ := TL.mail h1 h2 h4 h5 h6 hr (fun z hz => h3 z (giveL_mem hz))
  refine ⟨⟨_, _, _, _, _, _, _, _, rfl, fun h0 => ?_⟩, ⟨_, hT⟩, hB⟩
  unfold giveE at h0
  split at h0
  · rename_i hi
    obtain ⟨i0, i1⟩ := inB_true.1 hi
    have hm := h3 _ (getD_memD (l := L) (a := i.toNat) Lt.zero (by omega))
    unfold giveY
    rw [if_pos hi]
    exact hm
  · cases h0
end
end Go.Proofs.Ytlcbdhblaamekaa
