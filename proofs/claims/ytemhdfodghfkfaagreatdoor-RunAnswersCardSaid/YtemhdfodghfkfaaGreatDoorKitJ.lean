/-
  LAWS of this seat's own, over whatever program: rows copied into slices of the call's own; append of zeros; an element set in between. They prove no statement by themselves. CONDITIONS: none.
  LAWS of this seat's own, over whatever program, for slices.Insert at structs. They prove no statement by themselves. CONDITIONS: none.
-/
import Derived.Test.YtemhdfodghfkfaaGreatDoorKit
import Derived.Lib.AppendZerosOnto
namespace Go.Proofs.YtemhdfodghfkfaaGreatDoor
open Go.RowKit
open Go.ChangeShapes Go.WideShapes Go.ChangeAt

theorem zeroCells_flat {α : Type} (cells : α → List Value) (n : Nat) (hlen : ∀ a, (cells a).length = n) (z : Value) (zx : α) (hz : z.cells = (cells zx).toArray) (k : Nat) : (Builtin.zeroCells z.cells k).toList = (List.replicate k zx).flatMap cells := by
  have hzs : z.cells.size = n := by rw [hz]; simp [hlen]
  apply List.ext_getElem?
  intro j
  by_cases hj : j < k * n
  · have hn : 0 < n := by
      rcases Nat.eq_zero_or_pos n with h | h
      · subst h; omega
      · exact h
    have hdm := Nat.div_add_mod' j n
    have hq : j / n < k := by rw [Nat.div_lt_iff_lt_mul hn]; exact hj
    have hm := Nat.mod_lt j hn
    have hg := flat_get cells n hlen (List.replicate k zx) (j / n) (j % n) (by simpa using hq) hm
    rw [hdm, List.getElem_replicate] at hg
    have hlz := hlen zx
    rw [hg]
    simp [Builtin.zeroCells, hj, hz, hlz, hm]
  · rw [List.getElem?_eq_none (by rw [Array.length_toList, size_zeroCells, hzs]; omega), List.getElem?_eq_none (by rw [flat_length cells n hlen, List.length_replicate]; omega)]
section
variable {α : Type} {cells : α → List Value} {n base : Nat} {T : TypeId} {w w' : World} {v : Value} {l : List α}
/-- some elements are written anew, one behind the other -/
theorem Ow.splice (hlen : ∀ a, (cells a).length = n) {g off cap len : Nat} (h : Ow cells n base T w (.slice (some ⟨g, off, none⟩) len cap) l) {i : Nat} (m : List α) (hi : i + m.length ≤ l.length) :
    Ow cells n base T (w.setCells g (off + i * n) (m.flatMap cells)) (.slice (some ⟨g, off, none⟩) len cap) (l.take i ++ m ++ l.drop (i + m.length)) := by
  obtain ⟨A, cap', hv, h1, h2, h3⟩ := h
  cases hv
  have hfl := flat_length cells n hlen m
  have hll : (l.take i ++ m ++ l.drop (i + m.length)).length = l.length := by simp; omega
  rcases h3 with rfl | ⟨g', off', cur, hA, hb', hB, h3, h4⟩
  · exact ⟨_, 0, by rw [hll], by rw [hll]; exact h1, h2, .inl rfl⟩
  · cases hA
    have hin : i * n + m.length * n ≤ cap * n := by rw [← Nat.add_mul]; exact Nat.mul_le_mul_right _ (by omega)
    obtain ⟨cur', k1, k2, k3, k4⟩ := Blk.setCells (m.flatMap cells) (off + i * n) w cur hB (by omega)
    refine ⟨_, cap, by rw [hll], by rw [hll]; exact h1, h2, .inr ⟨g, off, cur', rfl, hb', k1, by rw [k2]; exact h3, fun j hj f hf => ?_⟩⟩
    have hj' := hj
    rw [hll] at hj'
    by_cases hj1 : j < i
    · have := mul_in (n := n) hj1 (Nat.le_refl i)
      have he : (l.take i ++ m ++ l.drop (i + m.length))[j] = l[j] := by
        rw [List.getElem_append_left (by simp; omega), List.getElem_append_left (by simp; omega), List.getElem_take]
      rw [k4 _ (.inl (by omega)), h4 j hj' f hf, he]
    · by_cases hj2 : j < i + m.length
      · have hjm : j - i < m.length := by omega
        have hq := mul_in (n := n) hjm (Nat.le_refl _)
        have he : (l.take i ++ m ++ l.drop (i + m.length))[j] = m[j - i] := by
          rw [List.getElem_append_left (by simp; omega), List.getElem_append_right (by simp; omega)]
          congr 1
          simp; omega
        have hs : off + j * n + f = off + i * n + ((j - i) * n + f) := by
          have : j * n = i * n + (j - i) * n := by rw [← Nat.add_mul]; congr 1; omega
          omega
        rw [he, hs, k3 _ (by omega), flat_get cells n hlen m _ f hjm hf]
      · have hs : (i + m.length) * n ≤ j * n := Nat.mul_le_mul_right _ (by omega)
        rw [Nat.add_mul] at hs
        have he : (l.take i ++ m ++ l.drop (i + m.length))[j] = l[j] := by
          rw [List.getElem_append_right (by simp; omega), List.getElem_drop]
          congr 1
          simp; omega
        rw [k4 _ (.inr (by omega)), h4 j hj' f hf, he]
/-- one set in between, in place: what stands behind is moved up, then it is written -/
theorem Ow.ins (hlen : ∀ a, (cells a).length = n) {g off cap len : Nat} (h : Ow cells n base T w (.slice (some ⟨g, off, none⟩) len cap) l) {i : Nat} (hi : i ≤ l.length) (hroom : l.length + 1 ≤ cap) (x : α) :
    Ow cells n base T ((w.setCells g (off + (i + 1) * n) ((l.drop i).flatMap cells)).setCells g (off + i * n) (cells x)) (.slice (some ⟨g, off, none⟩) (len + 1) cap) (l.take i ++ x :: l.drop i) := by
  obtain ⟨A, cap', hv, h1, h2, h3⟩ := h
  cases hv
  have hfl := flat_length cells n hlen (l.drop i)
  rw [List.length_drop] at hfl
  have hll : (l.take i ++ x :: l.drop i).length = l.length + 1 := by simp; omega
  rcases h3 with rfl | ⟨g', off', cur, hA, hb', hB, h3, h4⟩
  · omega
  · cases hA
    have hin : (i + 1) * n + (l.length - i) * n ≤ cap * n := by rw [← Nat.add_mul]; exact Nat.mul_le_mul_right _ (by omega)
    have hii : (i + 1) * n = i * n + n := Nat.succ_mul i n
    obtain ⟨c1, p1, p2, p3, p4⟩ := Blk.setCells ((l.drop i).flatMap cells) (off + (i + 1) * n) w cur hB (by omega)
    obtain ⟨c2, q1, q2, q3, q4⟩ := Blk.setCells (cells x) (off + i * n) _ c1 p1 (by rw [hlen]; omega)
    refine ⟨_, cap, by rw [hll], by rw [hll]; exact hroom, h2, .inr ⟨g, off, c2, rfl, hb', q1, by rw [q2, p2]; exact h3, fun j hj f hf => ?_⟩⟩
    have hj' := hj
    rw [hll] at hj'
    by_cases hj1 : j < i
    · have := mul_in (n := n) hj1 (Nat.le_refl i)
      have he : (l.take i ++ x :: l.drop i)[j] = l[j] := by
        rw [List.getElem_append_left (by simp; omega), List.getElem_take]
      rw [q4 _ (.inl (by omega)), p4 _ (.inl (by omega)), h4 j (by omega) f hf, he]
    · by_cases hj2 : j = i
      · subst hj2
        have he : (l.take j ++ x :: l.drop j)[j] = x := by
          rw [List.getElem_append_right (by simp; omega)]
          simp [show j - min j l.length = 0 by omega]
        rw [q3 f (by rw [hlen]; exact hf), he]
      · have hjm : j - (i + 1) < (l.drop i).length := by rw [List.length_drop]; omega
        have hq := mul_in (n := n) hjm (Nat.le_refl _)
        rw [List.length_drop] at hq
        have hs : off + j * n + f = off + (i + 1) * n + ((j - (i + 1)) * n + f) := by
          have : j * n = (i + 1) * n + (j - (i + 1)) * n := by rw [← Nat.add_mul]; congr 1; omega
          omega
        have he : (l.take i ++ x :: l.drop i)[j] = (l.drop i)[j - (i + 1)] := by
          rw [List.getElem_append_right (by simp; omega)]
          simp only [List.length_take]
          rw [List.getElem_cons, dif_neg (by omega)]
          congr 1
          omega
        rw [q4 _ (.inr (by rw [hlen]; omega)), hs, p3 _ (by omega), flat_get cells n hlen _ _ f hjm hf, he]
/-- a new row: some elements, zeros behind them -/
theorem Ow.row_zeros (hlen : ∀ a, (cells a).length = n) (w : World) (z : Value) (zx : α) (hz : z.cells = (cells zx).toArray) (l : List α) (k G : Nat) (T : TypeId) (hG : l.length + k ≤ G) (hG2 : G ≤ maxLen) :
    Ow cells n w.heap.size T (w.alloc (.cells ((l.flatMap cells).toArray ++ Builtin.zeroCells z.cells k ++ Builtin.zeroCells z.cells (G - (l.length + k))) T)) (.slice (some ⟨w.heap.size, 0, none⟩) (l.length + k) G) (l ++ List.replicate k zx) := by
  have hzs : z.cells.size = n := by rw [hz]; simp [hlen]
  have hll : (l ++ List.replicate k zx).length = l.length + k := by simp
  have hfa : (l.flatMap cells).toArray ++ Builtin.zeroCells z.cells k = ((l ++ List.replicate k zx).flatMap cells).toArray := by
    apply Array.toList_inj.1
    rw [Array.toList_append, zeroCells_flat cells n hlen z zx hz, List.flatMap_append]
  have hfl := flat_length cells n hlen (l ++ List.replicate k zx)
  refine ⟨_, G, by rw [hll], by rw [hll]; exact hG, hG2, .inr ⟨w.heap.size, 0, _, rfl, Nat.le_refl _, Blk.new _ _ _, ?_, fun i hi f hf => ?_⟩⟩
  · rw [hfa]
    simp only [Array.size_append, List.size_toArray, size_zeroCells, hzs, hfl, hll, ← Nat.add_mul]
    rw [Nat.zero_add]
    exact Nat.mul_le_mul_right _ (by omega)
  · rw [hfa, Nat.zero_add]
    have hin := mul_in (n := n) hi (Nat.le_refl _)
    rw [Array.getElem?_append_left (by rw [List.size_toArray, hfl]; omega), List.getElem?_toArray, flat_get cells n hlen _ i f hi hf]
end

/-- copy(dst, src) into a block of the call's own, as an equation of its run -/
theorem run_copy_row {P : Program} (X : World) (g off dLen dCap sLen sCap k sz bytes : Nat) (A : Addr) (cur : Array Value) (T DT ST ty : TypeId) (z : Value) (news : List Value) (hB : Blk X g T cur) (hin : off + k * sz ≤ cur.size) (hk : k = Nat.min sLen dLen)
    (hu : P.underlying DT = some (.slice T)) (hinfo : (P.info? T).map (fun i => (i.zero, i.size, i.bytes)) = some (some z, sz, bytes)) (hnl : news.length = k * sz) (hnews : ∀ j u, news[j]? = some u → X.cell? (A.add j) = some u) (h1 : ∀ u ∈ news, u.oneCell' = true) :
    (Builtin.copy_ #[DT, ST] ty #[.slice (some ⟨g, off, none⟩) dLen dCap, .slice (some A) sLen sCap]).run P X = .ok (.int .i64 k) (X.setCells g off news) := by
  obtain ⟨i0, hi, hz0, hz1, hz2⟩ := info_parts hinfo
  subst hz1
  have hst := run_storeCells_cells (P := P) g off news 0 X (fun j hj => by rw [hB.cell, Array.getElem?_eq_getElem (by omega)]; rfl) (fun j hj => hB.frozen _) h1
  simp only [Nat.add_zero] at hst
  have hf := run_firstCells_some (P := P) X i0.size k A sLen sCap news hnl hnews
  simp [Builtin.copy_, run_underlying hu, sizeOf, typeInfo, hi, Builtin.lenOf, ← hk, hf, hst, goInt]
theorem wp_copy_row {P : Program} (w : World) {o : Oper} {a : Act} {K : Act → World → Prop} {Q : Exit → Act → World → Prop} (d s : Operand) (t t' : TypeId)
    (ho : o.op = .call { callee := .builtin .copy, args := #[d, s], argTypes := #[t, t'] }) (v u : Value) (hd : a.eval d = v) (hs : a.eval s = u) {v' : Value} {w' : World}
    (hr : (Builtin.copy_ #[t, t'] o.type #[v, u]).run P w = .ok v' w') (h : K (a.put o.dst v') w') : o.wp P a w K Q := by
  unfold Oper.wp execOp
  simp only [ho, resolve, invoke, builtin, Sem.run_bind, Sem.run_pure, Result.andThen_ok, List.map_toArray, List.map_cons, List.map_nil, hd, hs, hr]
  exact h
theorem wpList_copy_row {P : Program} (w : World) {ops : Array Oper} {rest : List Oper} {o : Oper} {a : Act} {Q : Exit → Act → World → Prop} (hgd : o.guard = none) (d s : Operand) (t t' : TypeId)
    (ho : o.op = .call { callee := .builtin .copy, args := #[d, s], argTypes := #[t, t'] }) (v u : Value) (hd : a.eval d = v) (hs : a.eval s = u) {v' : Value} {w' : World}
    (hr : (Builtin.copy_ #[t, t'] o.type #[v, u]).run P w = .ok v' w') (h : wpList P ops Q rest (a.put o.dst v') w') : wpList P ops Q (o :: rest) a w :=
  wpList_plain hgd fun _ hK => wp_copy_row w d s t t' ho v u hd hs hr (hK _ _ h)
theorem step_copy_row {P : Program} {ops : Array Oper} {o : Oper} {a : Act} {w : World} {K : Act → World → Prop} {Q : Exit → Act → World → Prop} {E : Prop}
    (hg : o.guard = none) (d x : Operand) (dT sT : TypeId) (hop : o.op = Op.call { callee := Callee.builtin Builtin.copy, args := #[d, x], argTypes := #[dT, sT] })
    (v u : Value) (hd : a.eval d = v) (hx : a.eval x = u) {v' : Value} {w' : World} (hr : (Builtin.copy_ #[dT, sT] o.type #[v, u]).run P w = .ok v' w') (hK : K (a.put o.dst v') w') :
    if Region.wanted o (yielded ops a.tmps) = true then Oper.wp P o a w K Q else E := by
  rw [if_pos (by simp [Region.wanted, hg])]
  exact wp_copy_row w d x dT sT hop v u hd hx hr hK
end Go.Proofs.YtemhdfodghfkfaaGreatDoor
namespace Go.Proofs.YtemhdfodghfkfaaGreatDoor
open Go.RowKit
open Go.ChangeShapes Go.WideShapes Go.ChangeAt

section
variable {α : Type} {cells : α → List Value} {n base : Nat} {T : TypeId} {w w' : World} {v : Value} {l : List α}
theorem Ow.heapEq (h : Ow cells n base T w v l) (hh : w'.heap = w.heap) : Ow cells n base T w' v l := by
  obtain ⟨A, cap, rfl, h1, h2, h3⟩ := h
  refine ⟨A, cap, rfl, h1, h2, h3.imp (fun h => h) ?_⟩
  rintro ⟨g, off, cur, hA, hb, hB, h4, h5⟩
  exact ⟨g, off, cur, hA, hb, by unfold Blk at hB ⊢; rw [hh]; exact hB, h4, h5⟩
/-- the cells of a slice of the call's own, one behind the other -/
theorem Ow.cellsAt (hlen : ∀ a, (cells a).length = n) (hpos : 0 < n) {g off len cap : Nat} (h : Ow cells n base T w (.slice (some ⟨g, off, none⟩) len cap) l) : ∀ j u, (l.flatMap cells)[j]? = some u → w.cell? ⟨g, off + j, none⟩ = some u := fun j u hj => by
  have hjl : j < l.length * n := by rw [← flat_length cells n hlen l]; exact (List.getElem?_eq_some_iff.1 hj).1
  have hl0 : 0 < l.length := by
    rcases Nat.eq_zero_or_pos l.length with h0 | h0
    · rw [h0] at hjl; omega
    · exact h0
  obtain ⟨g', off', cap', hv, _, _, _, _, _, hc, _⟩ := h.get hl0
  injection hv with e1 _ _
  injection e1 with e1
  injection e1 with e1 e2 _
  subst e1 e2
  have hdm := Nat.div_add_mod' j n
  have hq : j / n < l.length := by rw [Nat.div_lt_iff_lt_mul hpos]; exact hjl
  have hmod := Nat.mod_lt j hpos
  have := hc _ hq _ hmod
  rw [show off + j / n * n + j % n = off + j by omega] at this
  rw [this, ← hj, ← flat_get cells n hlen l _ _ hq hmod, hdm]
theorem Ow.firstCells {P : Program} (hlen : ∀ a, (cells a).length = n) (hpos : 0 < n) {g off k cap : Nat} (h : Ow cells n base T w (.slice (some ⟨g, off, none⟩) k cap) l) (hk : l.length = k) :
    (Builtin.firstCells n k (.slice (some ⟨g, off, none⟩) k cap)).run P w = .ok (l.flatMap cells).toArray w :=
  run_firstCells_some w n k _ _ _ _ (by rw [flat_length cells n hlen l, hk]) (fun j x hj => by rw [Addr_add]; exact h.cellsAt hlen hpos j x hj)
/-- some set in between, in place: what stands behind is moved up, then they are written -/
theorem Ow.insm (hlen : ∀ a, (cells a).length = n) {g off cap len : Nat} (h : Ow cells n base T w (.slice (some ⟨g, off, none⟩) len cap) l) {i : Nat} (hi : i ≤ l.length) (ys : List α) (hroom : l.length + ys.length ≤ cap) (hc0 : 0 < cap) :
    Ow cells n base T ((w.setCells g (off + (i + ys.length) * n) ((l.drop i).flatMap cells)).setCells g (off + i * n) (ys.flatMap cells)) (.slice (some ⟨g, off, none⟩) (len + ys.length) cap) (l.take i ++ ys ++ l.drop i) := by
  obtain ⟨A, cap', hv, h1, h2, h3⟩ := h
  cases hv
  have hfl := flat_length cells n hlen (l.drop i)
  have hfy := flat_length cells n hlen ys
  rw [List.length_drop] at hfl
  have hll : (l.take i ++ ys ++ l.drop i).length = l.length + ys.length := by simp; omega
  rcases h3 with rfl | ⟨g', off', cur, hA, hb', hB, h3, h4⟩
  · omega
  · cases hA
    have hin : (i + ys.length) * n + (l.length - i) * n ≤ cap * n := by rw [← Nat.add_mul]; exact Nat.mul_le_mul_right _ (by omega)
    have hii : (i + ys.length) * n = i * n + ys.length * n := Nat.add_mul _ _ _
    obtain ⟨c1, p1, p2, p3, p4⟩ := Blk.setCells ((l.drop i).flatMap cells) (off + (i + ys.length) * n) w cur hB (by omega)
    obtain ⟨c2, q1, q2, q3, q4⟩ := Blk.setCells (ys.flatMap cells) (off + i * n) _ c1 p1 (by omega)
    refine ⟨_, cap, by rw [hll], by rw [hll]; exact hroom, h2, .inr ⟨g, off, c2, rfl, hb', q1, by rw [q2, p2]; exact h3, fun j hj f hf => ?_⟩⟩
    have hj' := hj
    rw [hll] at hj'
    by_cases hj1 : j < i
    · have := mul_in (n := n) hj1 (Nat.le_refl i)
      have he : (l.take i ++ ys ++ l.drop i)[j] = l[j] := by
        rw [List.getElem_append_left (by simp; omega), List.getElem_append_left (by simp; omega), List.getElem_take]
      rw [q4 _ (.inl (by omega)), p4 _ (.inl (by omega)), h4 j (by omega) f hf, he]
    · by_cases hj2 : j < i + ys.length
      · have hjm : j - i < ys.length := by omega
        have hq := mul_in (n := n) hjm (Nat.le_refl _)
        have he : (l.take i ++ ys ++ l.drop i)[j] = ys[j - i] := by
          rw [List.getElem_append_left (by simp; omega), List.getElem_append_right (by simp; omega)]
          congr 1
          simp; omega
        have hs : off + j * n + f = off + i * n + ((j - i) * n + f) := by
          have : j * n = i * n + (j - i) * n := by rw [← Nat.add_mul]; congr 1; omega
          omega
        rw [hs, q3 _ (by omega), flat_get cells n hlen ys _ f hjm hf, he]
      · have hjm : j - (i + ys.length) < (l.drop i).length := by rw [List.length_drop]; omega
        have hq := mul_in (n := n) hjm (Nat.le_refl _)
        rw [List.length_drop] at hq
        have hs : off + j * n + f = off + (i + ys.length) * n + ((j - (i + ys.length)) * n + f) := by
          have : j * n = (i + ys.length) * n + (j - (i + ys.length)) * n := by rw [← Nat.add_mul]; congr 1; omega
          omega
        have he : (l.take i ++ ys ++ l.drop i)[j] = (l.drop i)[j - (i + ys.length)] := by
          rw [List.getElem_append_right (by simp; omega)]
          congr 1
          simp; omega
        rw [q4 _ (.inr (by omega)), hs, p3 _ (by omega), flat_get cells n hlen _ _ f hjm hf, he]
end
theorem setCells_drew (b : Nat) : ∀ (vs : List Value) (o : Nat) (w : World), (w.setCells b o vs).drew = w.drew.setCells b o vs
  | [], _, _ => rfl
  | v :: r, o, w => by rw [World.setCells, World.setCells, setCells_drew b r]; rfl
theorem cell_heap {W W' : World} (h : W.heap = W'.heap) (p : Addr) : W.cell? p = W'.cell? p := by unfold World.cell?; rw [h]
theorem ins_list {α : Type} (l ys R : List α) (i : Nat) (hi : i ≤ l.length) (hR : R.length = l.length + ys.length - i) :
    (((l.take i ++ R).take i ++ ys ++ (l.take i ++ R).drop (i + ys.length)).take (i + ys.length) ++ l.drop i ++ ((l.take i ++ R).take i ++ ys ++ (l.take i ++ R).drop (i + ys.length)).drop (i + ys.length + (l.drop i).length)) = l.take i ++ ys ++ l.drop i := by
  have h1 : (l.take i ++ R).take i = l.take i := by
    rw [List.take_append_of_le_length (by simp; omega), List.take_take]
    simp
  rw [h1]
  have h2 : (l.take i ++ ys ++ (l.take i ++ R).drop (i + ys.length)).take (i + ys.length) = l.take i ++ ys := by
    rw [List.take_append_of_le_length (by simp; omega)]
    exact List.take_of_length_le (by simp; omega)
  rw [h2]
  have h3 : (l.take i ++ ys ++ (l.take i ++ R).drop (i + ys.length)).drop (i + ys.length + (l.drop i).length) = [] := List.drop_eq_nil_of_le (by simp; omega)
  rw [h3, List.append_nil]
end Go.Proofs.YtemhdfodghfkfaaGreatDoor
