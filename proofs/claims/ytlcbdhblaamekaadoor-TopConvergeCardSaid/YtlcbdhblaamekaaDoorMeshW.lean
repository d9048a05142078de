/-
  THE MESH by what it holds (its inner addresses left open), and the contracts of its operations in that form. CONDITIONS: none.
-/
import Derived.Test.YtlcbdhblaamekaaDoorMeshPut
import Derived.Test.YtlcbdhblaamekaaDoorMeshGet
namespace Go.Proofs.YtlcbdhblaamekaaDoor
open Go.RowKit
open Go.ChangeShapes Go.WideShapes Go.ChangeAt

/-- a mesh at m with these deeds and caches, that lies apart from A -/
def MeshW (base : Nat) (w : World) (m : Nat) (D : List E) (C : List (List E)) (A : Nat → Prop) : Prop :=
  ∃ s g vs q, MeshO base w m s g vs D q ∧ q.map SlV.xs = C ∧ ∀ i, MPart m s g vs q i → ¬ A i
section
variable {base m : Nat} {w w' : World} {D : List E} {C : List (List E)} {A : Nat → Prop}
theorem MeshW.belowS (h : MeshW base w m D C A) (hb : Below w.heap.size w w') : MeshW base w' m D C A := by
  obtain ⟨s, g, vs, q, h1, h2, h3⟩ := h
  exact ⟨s, g, vs, q, h1.belowS hb, h2, h3⟩
theorem MeshW.fr {S : Nat → Prop} (h : MeshW base w m D C A) (hF : Fr S w w') (hS : ∀ i, S i → A i) : MeshW base w' m D C A := by
  obtain ⟨s, g, vs, q, h1, h2, h3⟩ := h
  exact ⟨s, g, vs, q, h1.fr hF (fun i hi hs => h3 i hi (hS i hs)), h2, h3⟩
/-- what was made since then lies apart, too -/
theorem MeshW.avoid (h : MeshW base w m D C A) (hb : Below w.heap.size w w') : MeshW base w' m D C (fun i => A i ∨ (w.heap.size ≤ i ∧ i < w'.heap.size)) := by
  obtain ⟨s, g, vs, q, h1, h2, h3⟩ := h
  refine ⟨s, g, vs, q, h1.belowS hb, h2, fun i hi hA => ?_⟩
  rcases hA with hA | hA
  · exact h3 i hi hA
  · have := (h1.part hi).2; omega
theorem MeshW.less {A' : Nat → Prop} (h : MeshW base w m D C A) (hA : ∀ i, A' i → A i) : MeshW base w m D C A' := by
  obtain ⟨s, g, vs, q, h1, h2, h3⟩ := h
  exact ⟨s, g, vs, q, h1, h2, fun i hi ha => h3 i hi (hA i ha)⟩
theorem MeshW.deeds (h : MeshW base w m D C A) : Deeds D := by
  obtain ⟨s, g, vs, q, h1, h2, h3⟩ := h
  exact h1.deeds
theorem MeshW.six (h : MeshW base w m D C A) : C.length ≤ 6 := by
  obtain ⟨s, g, vs, q, h1, h2, h3⟩ := h
  rw [← h2, List.length_map]
  exact h1.six
theorem MeshW.cac (h : MeshW base w m D C A) : ∀ c ∈ C, CacheD D c := by
  obtain ⟨s, g, vs, q, h1, h2, h3⟩ := h
  intro c hc
  rw [← h2] at hc
  obtain ⟨x, hx, rfl⟩ := List.mem_map.1 hc
  exact h1.cac x hx
theorem MeshW.lt (h : MeshW base w m D C A) : base ≤ m ∧ m < w.heap.size ∧ ¬ A m := by
  obtain ⟨s, g, vs, q, h1, h2, h3⟩ := h
  exact ⟨h1.bm, h1.lt, h3 m (.inl rfl)⟩
end
/-- what an operation may touch -/
def MTouch (base : Nat) (A : Nat → Prop) (i : Nat) : Prop := base ≤ i ∧ ¬ A i
theorem MNewR.meshW {w w' : World} {N : Nat} {v : Value} (h : MNewR w N v w') : ∃ m, v = .pointer (some ⟨m, 0, none⟩) ∧ MeshW w.heap.size w' m [] (List.replicate N []) (fun i => i < w.heap.size) ∧ Below w.heap.size w w' := by
  obtain ⟨m, s, g, rfl, hM, hb⟩ := h
  refine ⟨m, rfl, ⟨s, g, _, _, hM, ?_, fun i hi ha => ?_⟩, hb⟩
  · unfold noneC
    rw [List.map_replicate]
  · have := (hM.part hi).1
    omega
section
variable {base m : Nat} {D : List E} {C : List (List E)} {A : Nat → Prop}
theorem mputW (node key : Int) (t : ByteArray) (ht : t.size ≤ maxLen) (w : World) (h : MeshW base w m D C A) (hA : ∀ i, A i → i < w.heap.size) (hB : base ≤ w.heap.size) :
    Calls Tryd.prog 7 #[.pointer (some ⟨m, 0, none⟩), .int .i64 node, .int .i64 key, .string t] w fun e w' =>
      e = .returned (.tuple #[.int .i64 (mdoR C.length D node (rput D key t)).1.1, errV (mdoR C.length D node (rput D key t)).1.2]) ∧
      MeshW base w' m (mdoR C.length D node (rput D key t)).2 (if (mdoR C.length D node (rput D key t)).1.2 = 0 then learnC C node.toNat key (mdoR C.length D node (rput D key t)).2 else C) A ∧ Fr (MTouch base A) w w' := by
  obtain ⟨s, g, vs, q, h1, h2, h3⟩ := h
  have hl : C.length = q.length := by rw [← h2, List.length_map]
  rw [hl]
  refine (meshput_any node key t ht w hB h1).mono ?_
  rintro e w' ⟨vs', q', rfl, j1, j2, j3, j4⟩
  refine ⟨rfl, ⟨s, g, vs', q', j1, by rw [j4, h2], fun i hi ha => ?_⟩, j2.mono (fun i _ hi => ⟨(h1.part hi).1, h3 i hi⟩)⟩
  rcases j3 i hi with hi | hi
  · exact h3 i hi ha
  · have := hA i ha; omega
/-- what Get tells, and the caches behind it -/
def mgetR (D : List E) (C : List (List E)) (node key fl : Int) : (E × Bool × Int) × List (List E) :=
  if askB C.length D.length node key fl = true then
    match lk (C.getD node.toNat []) key with
    | some x => if fl ≤ x.asof then ((x, true, 0), C) else ((entC key D.length (refC D key), false, 0), learnC C node.toNat key D)
    | none => ((entC key D.length (refC D key), false, 0), learnC C node.toNat key D)
  else ((E.zero, false, 1), C)
theorem mgetW (node key fl : Int) (w : World) (h : MeshW base w m D C A) (hA : ∀ i, A i → i < w.heap.size) (hB : base ≤ w.heap.size) :
    Calls Tryd.prog 15 #[.pointer (some ⟨m, 0, none⟩), .int .i64 node, .int .i64 key, .int .i64 fl] w fun e w' =>
      e = .returned (.tuple #[(mgetR D C node key fl).1.1.val, .bool (mgetR D C node key fl).1.2.1, errV (mgetR D C node key fl).1.2.2]) ∧
      MeshW base w' m D (mgetR D C node key fl).2 A ∧ Fr (MTouch base A) w w' := by
  obtain ⟨s, g, vs, q, h1, h2, h3⟩ := h
  have hl : C.length = q.length := by rw [← h2, List.length_map]
  rcases ha : askB C.length D.length node key fl with _ | _
  · rw [mgetR, ha, if_neg (by decide)]
    rw [hl] at ha
    refine (mget_bad node key fl w h1 ha).mono ?_
    rintro e w' ⟨rfl, hb⟩
    exact ⟨by simp only; rw [errV_ne (by decide)]; rfl, ⟨s, g, vs, q, h1.belowS hb, h2, h3⟩, Fr.ofB hb⟩
  · rw [mgetR, ha, if_pos rfl]
    obtain ⟨i1, i2, i3, i4⟩ := askB_true.1 ha
    obtain ⟨n0, n1⟩ := inM_true.1 i1
    obtain ⟨n, rfl⟩ := Int.eq_ofNat_of_zero_le n0
    rw [Int.toNat_natCast]
    have hn : n < q.length := by omega
    have hc : C.getD n [] = q[n].xs := by rw [← h2, map_getD, getD_get _ hn]
    have hmiss : (∀ x, lk q[n].xs key = some x → x.asof < fl) → Calls Tryd.prog 15 #[.pointer (some ⟨m, 0, none⟩), .int .i64 n, .int .i64 key, .int .i64 fl] w fun e w' =>
        e = .returned (.tuple #[(entC key D.length (refC D key)).val, .bool false, .nilIface]) ∧ MeshW base w' m D (learnC C n key D) A ∧ Fr (MTouch base A) w w' := fun hx => by
      refine (mget_miss n key fl w hB h1 hn i2 i3 i4 hx).mono ?_
      rintro e w' ⟨y, rfl, hyx, hM, hF, hyb⟩
      refine ⟨rfl, ⟨s, g, vs, _, hM, ?_, fun i hi ha => ?_⟩, hF.mono (fun i _ hi => by rw [hi]; exact ⟨h1.bg, h3 g (.inr (.inr (.inl rfl)))⟩)⟩
      · rw [learnC, List.map_set, h2, ← h2, map_getD, ← hyx]
      · rcases hi.set with hi | hi
        · exact h3 i hi ha
        · have := hyb i hi
          have := hA i ha
          omega
    rw [hc]
    cases hlk : lk q[n].xs key with
    | none => exact hmiss (fun x hx => by rw [hlk] at hx; cases hx)
    | some x =>
      simp only
      by_cases hf : fl ≤ x.asof
      · rw [if_pos hf]
        refine (mget_hit n key fl x w h1 hn i2 i3 i4 hlk hf).mono ?_
        rintro e w' ⟨rfl, hb⟩
        exact ⟨rfl, ⟨s, g, vs, q, h1.belowS hb, h2, h3⟩, Fr.ofB hb⟩
      · rw [if_neg hf]
        exact hmiss (fun y hy => by rw [hlk] at hy; cases hy; omega)
theorem mcacheW (node : Int) (w : World) (h : MeshW base w m D C A) :
    Calls Tryd.prog 8 #[.pointer (some ⟨m, 0, none⟩), .int .i64 node] w fun e w' =>
      (∃ y : SlV E, e = .returned (.tuple #[.slice y.A y.xs.length y.c, errV (if inM C.length node = true then 0 else 1)]) ∧ y.xs = (if inM C.length node = true then C.getD node.toNat [] else []) ∧ OwnC w.heap.size w' y) ∧ Below w.heap.size w w' := by
  obtain ⟨s, g, vs, q, h1, h2, h3⟩ := h
  have hl : C.length = q.length := by rw [← h2, List.length_map]
  refine (mcache_any node w h1).mono ?_
  rintro e w' (⟨i1, rfl, hb⟩ | ⟨i1, y, rfl, hy, ho, hb⟩)
  · rw [hl, i1]
    exact ⟨⟨⟨none, 0, []⟩, by rw [if_neg (by decide), errV_ne (by decide)]; rfl, by rw [if_neg (by decide)], OwnC.none _ _⟩, hb⟩
  · rw [hl, i1]
    exact ⟨⟨y, by rw [if_pos rfl, errV_zero], by rw [if_pos rfl, hy, ← h2, map_getD], ho⟩, hb⟩
end
end Go.Proofs.YtlcbdhblaamekaaDoor
