/-
  A LIBRARY OF THIS SEAT's OWN, over whatever program: slices of the call's own ('Ow'), wherever they begin in their block. It proves no statement by itself. CONDITIONS: none.
  A LAW of this seat's own on copy. CONDITIONS: none.
  TWO SLICES OF THE CALL's OWN, of unlike elements, do not share a block. It proves no statement by itself. CONDITIONS: none.
  A LAW of this seat's own on append where there is room: in place. CONDITIONS: none.
  A REGION of a code, by its number. CONDITIONS: none.
-/
import Derived.Test.YtmgiecoeeidgoaaGreatDoorFrame
import Derived.Laws.OwnMore
import Derived.Deep.AppendLies
import Derived.Deep.AppendSrc
import Derived.Deep.MidRow
import Derived.Maps.AppendAt
namespace Go.Proofs.YtmgiecoeeidgoaaGreatDoor
open Go.RowKit
open Go.ChangeShapes Go.WideShapes Go.ChangeAt

/-! ### lists -/
theorem flat_length {α : Type} (cells : α → List Value) (n : Nat) (hlen : ∀ a, (cells a).length = n) (l : List α) : (l.flatMap cells).length = l.length * n := by
  induction l with
  | nil => simp
  | cons a r ih => rw [List.flatMap_cons, List.length_append, ih, hlen, List.length_cons, Nat.succ_mul, Nat.add_comm]
theorem flat_get {α : Type} (cells : α → List Value) (n : Nat) (hlen : ∀ a, (cells a).length = n) : ∀ (l : List α) (i f : Nat) (hi : i < l.length), f < n → (l.flatMap cells)[i * n + f]? = (cells l[i])[f]?
  | a :: r, 0, f, _, hf => by
    rw [List.flatMap_cons, Nat.zero_mul, Nat.zero_add, List.getElem?_append_left (by rw [hlen]; exact hf)]
    rfl
  | a :: r, i + 1, f, hi, hf => by
    rw [List.flatMap_cons, List.getElem?_append_right (by rw [hlen, Nat.succ_mul]; omega), hlen, show (i + 1) * n + f - n = i * n + f by rw [Nat.succ_mul]; omega, flat_get cells n hlen r i f (by simpa using hi) hf]
    rfl
theorem take_snocD {α : Type} {l : List α} {k : Nat} (z : α) (h : k < l.length) : l.take (k + 1) = l.take k ++ [l.getD k z] := by
  rw [List.take_add_one, List.getD, List.getElem?_eq_getElem h]
  rfl
theorem getD_memD {α : Type} {l : List α} {a : Nat} (z : α) (h : a < l.length) : l.getD a z ∈ l := by
  rw [List.getD, List.getElem?_eq_getElem h, Option.getD_some]
  exact List.getElem_mem h
theorem getD_get {α : Type} {l : List α} {a : Nat} (z : α) (h : a < l.length) : l.getD a z = l[a] := by
  rw [List.getD, List.getElem?_eq_getElem h, Option.getD_some]
theorem drop_consD {α : Type} {l : List α} {k : Nat} (z : α) (h : k < l.length) : l.drop k = l.getD k z :: l.drop (k + 1) := by
  rw [getD_get z h]; exact List.drop_eq_getElem_cons h
theorem mul_in {i m n c : Nat} (hi : i < m) (hm : m ≤ c) : i * n + n ≤ c * n := by
  have := Nat.mul_le_mul_right n (show i + 1 ≤ c by omega)
  rw [Nat.succ_mul] at this
  exact this

/-! ### frames -/
theorem Fr.below0 {S : Nat → Prop} {a b : World} {B : Nat} (h : Fr S a b) (hB : B ≤ a.heap.size) (hS : ∀ i, S i → B ≤ i) : Below B a b :=
  h.below hB (fun _ hi hs => absurd (hS _ hs) (by omega))
theorem Fr.step {S : Nat → Prop} {a b c : World} (h : Fr S a b) (k : Fr S b c) : Fr S a c := h.trans k (fun _ hi => .inl hi)
theorem Fr.stepB {S : Nat → Prop} {a b c : World} (h : Fr S a b) (k : Below b.heap.size b c) : Fr S a c :=
  h.trans (S' := fun _ => False) (Fr.ofB k) (fun _ h => h.elim)
theorem Fr.gone {S : Nat → Prop} {a b : World} (h : Fr S a b) (hS : ∀ i, i < a.heap.size → ¬ S i) : Below a.heap.size a b := h.below (Nat.le_refl _) hS
theorem Fr.setCells {S : Nat → Prop} {a : World} (b : Nat) : ∀ (vs : List Value) (o : Nat) (w : World), Fr S a w → (S b ∨ a.heap.size ≤ b) → Fr S a (w.setCells b o vs)
  | [], _, _, h, _ => h
  | v :: r, o, w, h, hb => Fr.setCells b r (o + 1) (w.setCell ⟨b, o, none⟩ v) (h.setCell hb v) hb
theorem Blk.setCells {g : Nat} {T : TypeId} : ∀ (vs : List Value) (o : Nat) (w : World) (cur : Array Value), Blk w g T cur → o + vs.length ≤ cur.size →
    ∃ cur', Blk (w.setCells g o vs) g T cur' ∧ cur'.size = cur.size ∧ (∀ j, j < vs.length → cur'[o + j]? = vs[j]?) ∧ ∀ k, k < o ∨ o + vs.length ≤ k → cur'[k]? = cur[k]?
  | [], o, w, cur, h, _ => ⟨cur, h, rfl, (fun j hj => by simp at hj), fun _ _ => rfl⟩
  | v :: r, o, w, cur, h, hl => by
    simp only [List.length_cons] at hl
    obtain ⟨cur', h1, h2, h3, h4⟩ := Blk.setCells r (o + 1) (w.setCell ⟨g, o, none⟩ v) _ (h.put o v) (by simp; omega)
    refine ⟨cur', h1, by rw [h2]; simp, fun j hj => ?_, fun k hk => ?_⟩
    · cases j with
      | zero =>
        rw [h4 _ (.inl (by omega)), Array.getElem?_setIfInBounds, if_pos (by omega), if_pos (by omega)]
        rfl
      | succ j =>
        have := h3 j (by simpa using hj)
        rw [show o + (j + 1) = o + 1 + j by omega, this]
        rfl
    · simp only [List.length_cons] at hk
      rw [h4 k (by omega), Array.getElem?_setIfInBounds, if_neg (by omega)]
theorem Blk.other {w w' : World} {g : Nat} {T : TypeId} {cs : Array Value} {b o : Nat} {vs : List Value} (h : Blk w g T cs) (hn : g ≠ b) (hw : w' = w.setCells b o vs) : Blk w' g T cs := by
  subst hw
  exact h.fr (S := fun k => k = b) (Fr.setCells b vs o w (Fr.refl _ _) (.inl rfl)) hn

/-- a slice's length and capacity -/
def SlV.ok {α : Type} (s : SlV α) : Prop := s.xs.length ≤ s.c ∧ s.c ≤ maxLen
/-! ### slices of the call's own -/
/-- the block that a slice may be written to by -/
def foot : Value → Option Nat
  | .slice (some a) _ (_ + 1) => some a.block
  | _ => none
/-- a slice of the call's own, of the elements l: its cells, and those behind it up to its capacity, lie in a block from base on, not frozen -/
def Ow {α : Type} (cells : α → List Value) (n : Nat) (base : Nat) (T : TypeId) (w : World) (v : Value) (l : List α) : Prop :=
  ∃ A cap, v = .slice A l.length cap ∧ l.length ≤ cap ∧ cap ≤ maxLen ∧ (cap = 0 ∨ ∃ g off cur, A = some ⟨g, off, none⟩ ∧ base ≤ g ∧ Blk w g T cur ∧ off + cap * n ≤ cur.size ∧ ∀ i (hi : i < l.length) f, f < n → cur[off + i * n + f]? = (cells l[i])[f]?)
section
variable {α : Type} {cells : α → List Value} {n base : Nat} {T : TypeId} {w w' : World} {v : Value} {l : List α}
theorem Ow.nil (cells : α → List Value) (n base : Nat) (T : TypeId) (w : World) : Ow cells n base T w (.slice none 0 0) [] := ⟨none, 0, rfl, Nat.le_refl _, Nat.zero_le _, .inl rfl⟩
theorem Ow.bare (cells : α → List Value) (n base : Nat) (T : TypeId) (w : World) (A : Option Addr) : Ow cells n base T w (.slice A 0 0) [] := ⟨A, 0, rfl, Nat.le_refl _, Nat.zero_le _, .inl rfl⟩
theorem Ow.lt (h : Ow cells n base T w v l) {g : Nat} (hg : foot v = some g) : base ≤ g ∧ g < w.heap.size := by
  obtain ⟨A, cap, rfl, _, _, rfl | ⟨g', off, cur, rfl, hb, hB, _⟩⟩ := h
  · cases A <;> cases hg
  · cases cap with
    | zero => cases hg
    | succ c => cases hg; exact ⟨hb, hB.lt⟩
theorem Ow.ge (h : Ow cells n base T w v l) : ∀ i, some i = foot v → base ≤ i := fun _ hi => (h.lt hi.symm).1
theorem Ow.fr {S : Nat → Prop} (h : Ow cells n base T w v l) (hf : Fr S w w') (hS : ∀ g, foot v = some g → ¬ S g) : Ow cells n base T w' v l := by
  obtain ⟨A, cap, rfl, h1, h2, rfl | ⟨g', off, cur, rfl, hb, hB, h3, h4⟩⟩ := h
  · exact ⟨A, 0, rfl, h1, h2, .inl rfl⟩
  · refine ⟨_, cap, rfl, h1, h2, ?_⟩
    cases cap with
    | zero => exact .inl rfl
    | succ c => exact .inr ⟨g', off, cur, rfl, hb, hB.fr hf (hS _ rfl), h3, h4⟩
theorem Ow.belowS (h : Ow cells n base T w v l) (hb : Below w.heap.size w w') : Ow cells n base T w' v l := h.fr (S := fun _ => False) (Fr.ofB hb) (fun _ _ h => h)
theorem Ow.alloc (h : Ow cells n base T w v l) (o : Obj) : Ow cells n base T (w.alloc o) v l := h.fr (S := fun _ => False) ((Fr.refl _ _).alloc o) (fun _ _ h => h)
theorem Ow.drewN (h : Ow cells n base T w v l) (k : Nat) : Ow cells n base T (w.drewN k) v l := h.fr (S := fun _ => False) ((Fr.refl _ _).drewN k) (fun _ _ h => h)
theorem Ow.drew (h : Ow cells n base T w v l) : Ow cells n base T w.drew v l := h.fr (S := fun _ => False) (Fr.refl _ _).drew (fun _ _ h => h)
theorem Ow.mono (h : Ow cells n base T w v l) {base' : Nat} (hb : base' ≤ base) : Ow cells n base' T w v l := by
  obtain ⟨A, cap, rfl, h1, h2, rfl | ⟨g', off, cur, rfl, hb', hB, h3, h4⟩⟩ := h
  · exact ⟨A, 0, rfl, h1, h2, .inl rfl⟩
  · exact ⟨_, cap, rfl, h1, h2, .inr ⟨g', off, cur, rfl, Nat.le_trans hb hb', hB, h3, h4⟩⟩
theorem Ow.form (h : Ow cells n base T w v l) : ∃ A cap, v = .slice A l.length cap ∧ l.length ≤ cap ∧ cap ≤ maxLen ∧ (0 < cap → ∃ g off, A = some ⟨g, off, none⟩ ∧ base ≤ g ∧ g < w.heap.size ∧ foot v = some g ∧ Ow cells n g T w v l) := by
  have h0 := h
  obtain ⟨A, cap, rfl, h1, h2, rfl | ⟨g', off, cur, rfl, hb', hB, h3, h4⟩⟩ := h
  · exact ⟨A, 0, rfl, h1, h2, fun h => by omega⟩
  · refine ⟨_, cap, rfl, h1, h2, fun h => ⟨g', off, rfl, hb', hB.lt, ?_, ⟨_, cap, rfl, h1, h2, .inr ⟨g', off, cur, rfl, Nat.le_refl _, hB, h3, h4⟩⟩⟩⟩
    cases cap with
    | zero => omega
    | succ c => rfl
/-- its elements, read -/
theorem Ow.get (h : Ow cells n base T w v l) (h0 : 0 < l.length) : ∃ g off cap, v = .slice (some ⟨g, off, none⟩) l.length cap ∧ l.length ≤ cap ∧ cap ≤ maxLen ∧ base ≤ g ∧ g < w.heap.size ∧ foot v = some g ∧
    (∀ i (hi : i < l.length) f, f < n → w.cell? ⟨g, off + i * n + f, none⟩ = (cells l[i])[f]?) ∧ (∀ o, w.frozen? ⟨g, o, none⟩ = false) := by
  obtain ⟨A, cap, rfl, h1, h2, rfl | ⟨g', off, cur, rfl, hb', hB, h3, h4⟩⟩ := h
  · omega
  · refine ⟨g', off, cap, rfl, h1, h2, hb', hB.lt, ?_, fun i hi f hf => (hB.cell _).trans (h4 i hi f hf), fun o => hB.frozen o⟩
    cases cap with
    | zero => omega
    | succ c => rfl
/-- an element is written anew -/
theorem Ow.set (hlen : ∀ a, (cells a).length = n) {g off cap len : Nat} (h : Ow cells n base T w (.slice (some ⟨g, off, none⟩) len cap) l) {i : Nat} (hi : i < l.length) (x : α) : Ow cells n base T (w.setCells g (off + i * n) (cells x)) (.slice (some ⟨g, off, none⟩) len cap) (l.set i x) := by
  obtain ⟨A, cap', hv, h1, h2, h3⟩ := h
  cases hv
  rcases h3 with rfl | ⟨g', off', cur, hA, hb', hB, h3, h4⟩
  · omega
  · cases hA
    have hin := mul_in (n := n) hi h1
    obtain ⟨cur', k1, k2, k3, k4⟩ := Blk.setCells (cells x) (off + i * n) w cur hB (by rw [hlen]; omega)
    refine ⟨_, cap, by rw [List.length_set], by rw [List.length_set]; exact h1, h2, .inr ⟨g, off, cur', rfl, hb', k1, by rw [k2]; exact h3, fun j hj f hf => ?_⟩⟩
    rw [List.length_set] at hj
    by_cases hij : i = j
    · subst hij
      rw [k3 f (by rw [hlen]; exact hf), List.getElem_set, if_pos rfl]
    · rw [List.getElem_set, if_neg hij, k4, h4 j hj f hf]
      rw [hlen]
      rcases Nat.lt_or_gt_of_ne hij with hlt | hgt
      · right
        have := mul_in (n := n) hlt (Nat.le_refl j)
        omega
      · left
        have := mul_in (n := n) hgt (Nat.le_refl i)
        omega
/-- its first k elements -/
theorem Ow.take {A : Option Addr} {len cap : Nat} (h : Ow cells n base T w (.slice A len cap) l) {k : Nat} (hk : k ≤ l.length) : Ow cells n base T w (.slice A k cap) (l.take k) := by
  have hlk : (l.take k).length = k := by rw [List.length_take]; omega
  obtain ⟨A', cap', hv, h1, h2, h3⟩ := h
  cases hv
  refine ⟨A, cap, by rw [hlk], by omega, h2, ?_⟩
  rcases h3 with rfl | ⟨g', off', cur, rfl, hb', hB, h3, h4⟩
  · exact .inl rfl
  · exact .inr ⟨g', off', cur, rfl, hb', hB, h3, fun i hi f hf => by rw [h4 i (by omega) f hf, List.getElem_take]⟩
/-- its elements from k on -/
theorem Ow.drop {g off len cap : Nat} (h : Ow cells n base T w (.slice (some ⟨g, off, none⟩) len cap) l) {k : Nat} (hk : k ≤ l.length) : Ow cells n base T w (.slice (some ⟨g, off + k * n, none⟩) (len - k) (cap - k)) (l.drop k) := by
  obtain ⟨A', cap', hv, h1, h2, h3⟩ := h
  cases hv
  refine ⟨_, cap - k, by rw [List.length_drop], by rw [List.length_drop]; omega, by omega, ?_⟩
  rcases h3 with rfl | ⟨g', off', cur, hA, hb', hB, h3, h4⟩
  · exact .inl (by omega)
  · cases hA
    refine .inr ⟨g, off + k * n, cur, rfl, hb', hB, ?_, fun i hi f hf => ?_⟩
    · have : k * n + (cap - k) * n = cap * n := by rw [← Nat.add_mul]; congr 1; omega
      omega
    · rw [List.length_drop] at hi
      have := h4 (k + i) (by omega) f hf
      rw [List.getElem_drop, ← this, Nat.add_mul]
      congr 1
      omega
theorem Ow.of_own (hlen : ∀ a, (cells a).length = n) (h : w.ownsRow base T n v l.length (l.flatMap cells)) : Ow cells n base T w v l := by
  rcases h.2 with ⟨rfl, h0⟩ | ⟨g, cap, cur, rfl, hb, hh, h1, h2, h3, h4⟩
  · cases l with
    | nil => exact Ow.nil _ _ _ _ _
    | cons a r => simp at h0
  · refine ⟨_, cap, rfl, h1, h2, .inr ⟨g, 0, cur, rfl, hb, hh, by omega, fun i hi f hf => ?_⟩⟩
    have hin := mul_in (n := n) hi (Nat.le_refl _)
    have e : (cur.toList.take (l.length * n))[i * n + f]? = (cells l[i])[f]? := by rw [h4]; exact flat_get cells n hlen l i f hi hf
    rw [List.getElem?_take, if_pos (by omega)] at e
    rw [Nat.zero_add, ← Array.getElem?_toList]
    exact e

theorem foot_slice (A : Option Addr) (k cap k' : Nat) : foot (.slice A k cap) = foot (.slice A k' cap) := by
  cases A <;> cases cap <;> rfl
theorem foot_some {a : Addr} {k cap : Nat} (h : 0 < cap) : foot (.slice (some a) k cap) = some a.block := by
  cases cap with
  | zero => omega
  | succ c => rfl
end

/-- append, from whatever source: what the walk goes on with -/
theorem app_wp {P : Program} {o : Oper} {a : Act} {K : Act → World → Prop} {Q : Exit → Act → World → Prop} {α : Type} (cells : α → List Value) (n bytes : Nat) (hlen : ∀ x, (cells x).length = n) (hpos : 0 < n) (hbytes : bytes ≤ 4096)
    (T TS TX : TypeId) (z : Value) (hz : z.cells.size = n) (hu : P.underlying TS = some (.slice T)) (hinfo : (P.info? T).map (fun i => (i.zero, i.size, i.bytes)) = some (some z, n, bytes))
    (s y : Operand) (ho : o.op = .call { callee := .builtin .append, args := #[s, y], argTypes := #[TS, TX] })
    (X : World) (base : Nat) (v u : Value) (l m : List α) (hs : a.eval s = v) (hy : a.eval y = u) (hsrc : Src P n TX u m.length (m.flatMap cells) X)
    (hown : Ow cells n base T X v l) (hl : l.length + m.length ≤ 1000000000) (hb : base ≤ X.heap.size)
    (h : ∀ v' w', Ow cells n base T w' v' (l ++ m) → Fr (fun k => some k = foot v) X w' → (foot v' = foot v ∨ foot v' = some X.heap.size) → K (a.put o.dst v') w') :
    o.wp P a X K Q := by
  obtain ⟨i0, hi, hz0, hz1, hz2⟩ := info_parts hinfo
  subst hz1
  obtain ⟨A, cap, rfl, h1, h2, h3⟩ := hown
  unfold Oper.wp execOp
  by_cases hroom : l.length + m.length ≤ cap
  · rcases h3 with rfl | ⟨g, off, cur, rfl, hbg, hB, h3, h4⟩
    · -- nothing to hold, nothing is added
      have hl0 : l = [] := List.eq_nil_of_length_eq_zero (by omega)
      have hm0 : m = [] := List.eq_nil_of_length_eq_zero (by omega)
      subst hl0 hm0
      have hr : (Builtin.append_ #[TS, TX] o.type #[.slice A 0 0, u]).run P X = .ok (.slice A 0 0) X := by
        rcases hsrc.kind with ⟨e', hk⟩ | hk <;> cases A <;> simp [Builtin.append_, run_underlying hu, run_underlying hk, sizeOf, typeInfo, hi, hsrc.len, storeCells, show (Builtin.firstCells i0.size 0 u).run P X = .ok #[] X from by simpa using hsrc.cells]
      simp only [ho, resolve, invoke, builtin, Sem.run_bind, Sem.run_pure, Result.andThen_ok, List.map_toArray, List.map_cons, List.map_nil, hs, hy, List.length_nil, hr]
      exact h _ _ (by simpa using Ow.bare cells i0.size base T X A) (Fr.refl _ _) (.inl rfl)
    · have hin : l.length * i0.size + m.length * i0.size ≤ cap * i0.size := by rw [← Nat.add_mul]; exact Nat.mul_le_mul_right _ hroom
      have hfl := flat_length cells i0.size hlen m
      have hr := run_append_room_src (P := P) X TS TX o.type T i0 hu hi g off l.length cap u m.length _ hsrc hroom
        (fun j hj => by rw [hB.cell, Array.getElem?_eq_getElem (by omega)]; rfl) (fun j hj => hB.frozen _)
      simp only [ho, resolve, invoke, builtin, Sem.run_bind, Sem.run_pure, Result.andThen_ok, List.map_toArray, List.map_cons, List.map_nil, hs, hy, hr]
      obtain ⟨cur', k1, k2, k3, k4⟩ := Blk.setCells (m.flatMap cells) (off + l.length * i0.size) X cur hB (by omega)
      refine h _ _ ⟨_, cap, by rw [List.length_append], by rw [List.length_append]; exact hroom, h2, ?_⟩ ?_ (.inl (foot_slice _ _ _ _))
      · refine .inr ⟨g, off, cur', rfl, hbg, k1, by rw [k2]; exact h3, fun i hil f hf => ?_⟩
        rw [List.length_append] at hil
        by_cases hic : i < l.length
        · have := mul_in (n := i0.size) hic (Nat.le_refl _)
          rw [k4 _ (.inl (by omega)), h4 i hic f hf, List.getElem_append_left hic]
        · have hjm : i - l.length < m.length := by omega
          have := mul_in (n := i0.size) hjm (Nat.le_refl _)
          have he : off + i * i0.size + f = off + l.length * i0.size + ((i - l.length) * i0.size + f) := by
            have : i * i0.size = l.length * i0.size + (i - l.length) * i0.size := by rw [← Nat.add_mul]; congr 1; omega
            omega
          rw [he, k3 _ (by omega), flat_get cells i0.size hlen m _ f hjm hf, List.getElem_append_right (by omega)]
      · by_cases hc0 : 0 < cap
        · exact Fr.setCells g _ _ X (Fr.refl _ _) (.inl (by rw [foot_some hc0]))
        · have hm0 : m = [] := List.eq_nil_of_length_eq_zero (by omega)
          subst hm0
          exact Fr.refl _ _
  · have hold : (Builtin.firstCells i0.size l.length (.slice A l.length cap)).run P X.drew = .ok (l.flatMap cells).toArray X.drew := by
      rcases h3 with rfl | ⟨g, off, cur, rfl, hbg, hB, h3, h4⟩
      · have hl0 : l = [] := List.eq_nil_of_length_eq_zero (by omega)
        subst hl0
        cases A with
        | none => exact run_firstCells_none X.drew i0.size 0 0 0
        | some b => exact run_firstCells_some X.drew i0.size 0 b 0 0 [] (by simp) (by simp)
      · refine run_firstCells_some X.drew i0.size l.length _ _ _ _ (flat_length cells i0.size hlen l) fun j x hj => ?_
        have hjl : j < l.length * i0.size := by rw [← flat_length cells i0.size hlen l]; exact (List.getElem?_eq_some_iff.1 hj).1
        have hdm := Nat.div_add_mod j i0.size
        have hq : j / i0.size < l.length := by
          rw [Nat.div_lt_iff_lt_mul hpos]; exact hjl
        have hmod := Nat.mod_lt j hpos
        rw [Nat.mul_comm] at hdm
        rw [Addr_add]
        show X.cell? _ = _
        rw [hB.cell, show off + j = off + j / i0.size * i0.size + j % i0.size by omega, h4 _ hq _ hmod, ← hj, ← flat_get cells i0.size hlen l _ _ hq hmod, hdm]
    have hbound : (l.length + m.length) * i0.bytes ≤ 140737488355328 := by
      rw [hz2]
      exact Nat.le_trans (Nat.mul_le_mul hl hbytes) (by decide)
    have hr := run_append_grow_src (P := P) X TS TX o.type T i0 z hu hi hz0 A l.length cap _ hold u m.length _ hsrc (by omega) (by omega) (growslice_fits (by omega) hbound)
    have hge := grownCap_ge X (l.length + m.length) cap T
    have hcm : grownCap X (l.length + m.length) cap T ≤ maxLen := grownCap_le_maxLen X (l.length + m.length) cap T (by unfold maxLen; omega)
    simp only [ho, resolve, invoke, builtin, Sem.run_bind, Sem.run_pure, Result.andThen_ok, List.map_toArray, List.map_cons, List.map_nil, hs, hy, hr]
    have hfa : l.flatMap cells ++ m.flatMap cells = (l ++ m).flatMap cells := by simp
    have hfl := flat_length cells i0.size hlen (l ++ m)
    refine h _ _ ⟨_, _, by rw [List.length_append], by rw [List.length_append]; exact hge, hcm, .inr ⟨X.heap.size, 0, _, rfl, hb, heap_alloc_new X.drew _, ?_, fun i hil f hf => ?_⟩⟩ ⟨rfl, rfl, rfl, by simp, fun k hk _ => Below.heap_alloc X.drew _ k hk⟩ ?_
    · rw [hfa]
      simp only [Array.size_append, List.size_toArray, size_zeroCells, hz, hfl, List.length_append, ← Nat.add_mul]
      rw [Nat.zero_add]
      exact Nat.mul_le_mul_right _ (by omega)
    · rw [hfa, Nat.zero_add]
      have hin := mul_in (n := i0.size) hil (Nat.le_refl _)
      rw [Array.getElem?_append_left (by rw [List.size_toArray, hfl]; omega), List.getElem?_toArray, flat_get cells i0.size hlen _ i f hil hf]
    · rw [foot_some (by omega)]
      exact .inr rfl
theorem app_src {P : Program} {ops : Array Oper} {rest : List Oper} {o : Oper} {a : Act} {Q : Exit → Act → World → Prop} {α : Type} (cells : α → List Value) (n bytes : Nat) (hlen : ∀ x, (cells x).length = n) (hpos : 0 < n) (hbytes : bytes ≤ 4096)
    (T TS TX : TypeId) (z : Value) (hz : z.cells.size = n) (hu : P.underlying TS = some (.slice T)) (hinfo : (P.info? T).map (fun i => (i.zero, i.size, i.bytes)) = some (some z, n, bytes))
    (hgd : o.guard = none) (s y : Operand) (ho : o.op = .call { callee := .builtin .append, args := #[s, y], argTypes := #[TS, TX] })
    (X : World) (base : Nat) (v u : Value) (l m : List α) (hs : a.eval s = v) (hy : a.eval y = u) (hsrc : Src P n TX u m.length (m.flatMap cells) X)
    (hown : Ow cells n base T X v l) (hl : l.length + m.length ≤ 1000000000) (hb : base ≤ X.heap.size)
    (h : ∀ v' w', Ow cells n base T w' v' (l ++ m) → Fr (fun k => some k = foot v) X w' → (foot v' = foot v ∨ foot v' = some X.heap.size) → wpList P ops Q rest (a.put o.dst v') w') :
    wpList P ops Q (o :: rest) a X :=
  wpList_plain hgd fun _ hK => app_wp cells n bytes hlen hpos hbytes T TS TX z hz hu hinfo s y ho X base v u l m hs hy hsrc hown hl hb fun v' w' h1 h2 h3 => hK _ _ (h v' w' h1 h2 h3)
theorem app_step {P : Program} {ops : Array Oper} {o : Oper} {a : Act} {K : Act → World → Prop} {Q : Exit → Act → World → Prop} {E : Prop} {α : Type} (cells : α → List Value) (n bytes : Nat) (hlen : ∀ x, (cells x).length = n) (hpos : 0 < n) (hbytes : bytes ≤ 4096)
    (T TS TX : TypeId) (z : Value) (hz : z.cells.size = n) (hu : P.underlying TS = some (.slice T)) (hinfo : (P.info? T).map (fun i => (i.zero, i.size, i.bytes)) = some (some z, n, bytes))
    (hgd : o.guard = none) (s y : Operand) (ho : o.op = .call { callee := .builtin .append, args := #[s, y], argTypes := #[TS, TX] })
    (X : World) (base : Nat) (v u : Value) (l m : List α) (hs : a.eval s = v) (hy : a.eval y = u) (hsrc : Src P n TX u m.length (m.flatMap cells) X)
    (hown : Ow cells n base T X v l) (hl : l.length + m.length ≤ 1000000000) (hb : base ≤ X.heap.size)
    (h : ∀ v' w', Ow cells n base T w' v' (l ++ m) → Fr (fun k => some k = foot v) X w' → (foot v' = foot v ∨ foot v' = some X.heap.size) → K (a.put o.dst v') w') :
    if Region.wanted o (yielded ops a.tmps) = true then Oper.wp P o a X K Q else E := by
  rw [if_pos (by simp [Region.wanted, hgd])]
  exact app_wp cells n bytes hlen hpos hbytes T TS TX z hz hu hinfo s y ho X base v u l m hs hy hsrc hown hl hb h

theorem Ow.blk {α : Type} {cells : α → List Value} {n base : Nat} {T : TypeId} {w : World} {l : List α} {g off len cap : Nat} (h : Ow cells n base T w (.slice (some ⟨g, off, none⟩) len cap) l) (h0 : 0 < cap) : ∃ cur, Blk w g T cur ∧ off + cap * n ≤ cur.size := by
  obtain ⟨A, cap', hv, _, _, h3⟩ := h
  cases hv
  rcases h3 with rfl | ⟨g', off', cur, hA, _, hB, h3, _⟩
  · omega
  · cases hA
    exact ⟨cur, hB, h3⟩
/-- what is written behind a slice's elements leaves them -/
theorem Ow.far {α : Type} {cells : α → List Value} {n base : Nat} {T : TypeId} {w : World} {l : List α} {g off len cap : Nat} (h : Ow cells n base T w (.slice (some ⟨g, off, none⟩) len cap) l) {start : Nat} {vs : List Value} (h1 : off + l.length * n ≤ start) (h2 : start + vs.length ≤ off + cap * n) :
    Ow cells n base T (w.setCells g start vs) (.slice (some ⟨g, off, none⟩) len cap) l := by
  obtain ⟨A, cap', hv, k1, k2, h3⟩ := h
  cases hv
  rcases h3 with rfl | ⟨g', off', cur, hA, hb, hB, h3, h4⟩
  · exact ⟨_, 0, rfl, k1, k2, .inl rfl⟩
  · cases hA
    obtain ⟨cur', q1, q2, _, q4⟩ := Blk.setCells vs start w cur hB (by omega)
    refine ⟨_, cap, rfl, k1, k2, .inr ⟨g, off, cur', rfl, hb, q1, by rw [q2]; exact h3, fun i hi f hf => ?_⟩⟩
    have := mul_in (n := n) hi (Nat.le_refl _)
    rw [q4 _ (.inl (by omega)), h4 i hi f hf]
/-- clear(s) -/
theorem wpList_clear {P : Program} {ops : Array Oper} {rest : List Oper} {o : Oper} {a : Act} {Q : Exit → Act → World → Prop} (X : World) (g off n cap sz bytes : Nat) (cur : Array Value) (T TS : TypeId) (z : Value) (zs : List Value) (hzs : (Builtin.zeroCells z.cells n).toList = zs) (hB : Blk X g T cur) (hin : off + n * sz ≤ cur.size)
    (hu : P.underlying TS = some (.slice T)) (hinfo : (P.info? T).map (fun i => (i.zero, i.size, i.bytes)) = some (some z, sz, bytes)) (hz : z.cells.size = sz) (h1 : ∀ u ∈ zs, u.oneCell' = true)
    (hgd : o.guard = none) (s : Operand) (ho : o.op = .call { callee := .builtin .clear, args := #[s], argTypes := #[TS] }) (hs : a.eval s = .slice (some ⟨g, off, none⟩) n cap)
    (h : wpList P ops Q rest (a.put o.dst (.tuple #[])) (X.setCells g off zs)) : wpList P ops Q (o :: rest) a X := by
  subst hzs
  obtain ⟨i0, hi, hz0, hz1, hz2⟩ := info_parts hinfo
  have hlen : (Builtin.zeroCells z.cells n).toList.length = n * sz := by rw [Array.length_toList, size_zeroCells, hz]
  have hst := run_storeCells_cells (P := P) g off (Builtin.zeroCells z.cells n).toList 0 X (fun j hj => by rw [hB.cell, Array.getElem?_eq_getElem (by omega)]; rfl) (fun j hj => hB.frozen _) h1
  simp only [Nat.add_zero] at hst
  have hr : (Builtin.clear_ #[TS] o.type #[.slice (some ⟨g, off, none⟩) n cap]).run P X = .ok (.tuple #[]) (X.setCells g off (Builtin.zeroCells z.cells n).toList) := by
    cases n with
    | zero =>
      have : (Builtin.zeroCells z.cells 0).toList = [] := List.eq_nil_of_length_eq_zero (by rw [hlen, Nat.zero_mul])
      rw [this]
      simp [Builtin.clear_, run_underlying hu, World.setCells]
    | succ k => simp [Builtin.clear_, run_underlying hu, zeroValue, typeInfo, hi, hz0, hst]
  refine wpList_plain hgd fun K hK => ?_
  unfold Oper.wp execOp
  simp only [ho, resolve, invoke, builtin, Sem.run_bind, Sem.run_pure, Result.andThen_ok, List.map_toArray, List.map_cons, List.map_nil, hs, hr]
  exact hK _ _ h
theorem zeros_one {z : Array Value} (hz : ∀ i (h : i < z.size), (z[i]).oneCell' = true) (n : Nat) : ∀ u ∈ (Builtin.zeroCells z n).toList, u.oneCell' = true := by
  intro u hu
  simp only [Builtin.zeroCells, Array.toList_map, List.mem_map] at hu
  obtain ⟨i, hi, rfl⟩ := hu
  have hlt : i < n * z.size := by simpa using hi
  have h0 : 0 < z.size := by
    rcases Nat.eq_zero_or_pos z.size with h | h
    · rw [h] at hlt; omega
    · exact h
  rw [getElem!_pos z (i % z.size) (Nat.mod_lt _ h0)]
  exact hz _ _
end Go.Proofs.YtmgiecoeeidgoaaGreatDoor
namespace Go.Proofs.YtmgiecoeeidgoaaGreatDoor
open Go.RowKit
open Go.ChangeShapes Go.WideShapes Go.ChangeAt
/-- copy(dst, src) into a block of the call's own: what the walk goes on with; of the source only its first cells are asked -/
theorem copy_wp {P : Program} {o : Oper} {a : Act} {K : Act → World → Prop} {Q : Exit → Act → World → Prop} (X : World) (g off dLen dCap sLen sCap k sz bytes : Nat) (A : Addr) (cur : Array Value) (T DT ST : TypeId) (z : Value) (news : List Value) (hB : Blk X g T cur) (hin : off + k * sz ≤ cur.size) (hk : k = Nat.min sLen dLen)
    (hu : P.underlying DT = some (.slice T)) (hinfo : (P.info? T).map (fun i => (i.zero, i.size, i.bytes)) = some (some z, sz, bytes)) (hnl : news.length = k * sz) (hnews : ∀ j u, news[j]? = some u → X.cell? (A.add j) = some u) (h1 : ∀ u ∈ news, u.oneCell' = true)
    (d s : Operand) (ho : o.op = .call { callee := .builtin .copy, args := #[d, s], argTypes := #[DT, ST] }) (hd : a.eval d = .slice (some ⟨g, off, none⟩) dLen dCap) (hs : a.eval s = .slice (some A) sLen sCap)
    (h : K (a.put o.dst (.int .i64 k)) (X.setCells g off news)) : o.wp P a X K Q := by
  obtain ⟨i0, hi, hz0, hz1, hz2⟩ := info_parts hinfo
  subst hz1
  have hst := run_storeCells_cells (P := P) g off news 0 X (fun j hj => by rw [hB.cell, Array.getElem?_eq_getElem (by omega)]; rfl) (fun j hj => hB.frozen _) h1
  simp only [Nat.add_zero] at hst
  have hf := run_firstCells_some (P := P) X i0.size k A sLen sCap news hnl hnews
  have hr : (Builtin.copy_ #[DT, ST] o.type #[.slice (some ⟨g, off, none⟩) dLen dCap, .slice (some A) sLen sCap]).run P X = .ok (.int .i64 k) (X.setCells g off news) := by
    simp [Builtin.copy_, run_underlying hu, sizeOf, typeInfo, hi, Builtin.lenOf, ← hk, hf, hst, goInt]
  unfold Oper.wp execOp
  simp only [ho, resolve, invoke, builtin, Sem.run_bind, Sem.run_pure, Result.andThen_ok, List.map_toArray, List.map_cons, List.map_nil, hd, hs, hr]
  exact h
end Go.Proofs.YtmgiecoeeidgoaaGreatDoor
namespace Go.Proofs.YtmgiecoeeidgoaaGreatDoor
open Go.RowKit
open Go.ChangeShapes Go.WideShapes Go.ChangeAt

/-- two slices of the call's own, of unlike elements -/
theorem Ow.typ {α : Type} {cells : α → List Value} {n base : Nat} {T : TypeId} {w : World} {v : Value} {l : List α} (h : Ow cells n base T w v l) {g : Nat} (hg : foot v = some g) : ∃ cur, Blk w g T cur := by
  obtain ⟨A, cap, rfl, _, _, rfl | ⟨g', off, cur, rfl, hb, hB, _⟩⟩ := h
  · cases A <;> cases hg
  · cases cap with
    | zero => cases hg
    | succ c => cases hg; exact ⟨cur, hB⟩
theorem Ow.keep {α β : Type} {cells : α → List Value} {cells2 : β → List Value} {n n2 base base2 : Nat} {T T2 : TypeId} {w w' : World} {v v2 : Value} {l : List α} {l2 : List β} (h : Ow cells n base T w v l) (h2 : Ow cells2 n2 base2 T2 w v2 l2) (hT : T ≠ T2) (hf : Fr (fun k => some k = foot v) w w') : Ow cells2 n2 base2 T2 w' v2 l2 :=
  h2.fr hf (fun g hg hs => by
    obtain ⟨c1, h1⟩ := h.typ hs.symm
    obtain ⟨c2, h2⟩ := h2.typ hg
    exact hT (h1.eq_ h2).2)
end Go.Proofs.YtmgiecoeeidgoaaGreatDoor
namespace Go.Proofs.YtmgiecoeeidgoaaGreatDoor
open Go.RowKit
open Go.ChangeShapes Go.WideShapes Go.ChangeAt

theorem app_room_wp {P : Program} {o : Oper} {a : Act} {K : Act → World → Prop} {Q : Exit → Act → World → Prop} {α : Type} (cells : α → List Value) (n bytes : Nat) (hlen : ∀ x, (cells x).length = n)
    (T TS TX : TypeId) (z : Value) (hu : P.underlying TS = some (.slice T)) (hinfo : (P.info? T).map (fun i => (i.zero, i.size, i.bytes)) = some (some z, n, bytes))
    (s y : Operand) (ho : o.op = .call { callee := .builtin .append, args := #[s, y], argTypes := #[TS, TX] })
    (X : World) (base g off k k2 cap : Nat) (u : Value) (l m : List α) (hs : a.eval s = .slice (some ⟨g, off, none⟩) k cap) (hk : l.length = k) (hk2 : l.length + m.length = k2) (hy : a.eval y = u) (hsrc : Src P n TX u m.length (m.flatMap cells) X)
    (hown : Ow cells n base T X (.slice (some ⟨g, off, none⟩) k cap) l) (hroom : l.length + m.length ≤ cap) (hc0 : 0 < cap)
    (h : ∀ w', Ow cells n base T w' (.slice (some ⟨g, off, none⟩) k2 cap) (l ++ m) → Fr (fun i => i = g) X w' → K (a.put o.dst (.slice (some ⟨g, off, none⟩) k2 cap)) w') :
    o.wp P a X K Q := by
  obtain ⟨i0, hi, hz0, hz1, hz2⟩ := info_parts hinfo
  subst hz1 hk hk2
  obtain ⟨A', cap', hv, h1, h2, h3⟩ := hown
  cases hv
  unfold Oper.wp execOp
  rcases h3 with rfl | ⟨g', off', cur, hA, hbg, hB, h3, h4⟩
  · omega
  · cases hA
    have hin : l.length * i0.size + m.length * i0.size ≤ cap * i0.size := by rw [← Nat.add_mul]; exact Nat.mul_le_mul_right _ hroom
    have hfl := flat_length cells i0.size hlen m
    have hr := run_append_room_src (P := P) X TS TX o.type T i0 hu hi g off l.length cap u m.length _ hsrc hroom
      (fun j hj => by rw [hB.cell, Array.getElem?_eq_getElem (by omega)]; rfl) (fun j hj => hB.frozen _)
    simp only [ho, resolve, invoke, builtin, Sem.run_bind, Sem.run_pure, Result.andThen_ok, List.map_toArray, List.map_cons, List.map_nil, hs, hy, hr]
    obtain ⟨cur', k1, k2, k3, k4⟩ := Blk.setCells (m.flatMap cells) (off + l.length * i0.size) X cur hB (by omega)
    refine h _ ⟨_, cap, by rw [List.length_append], by rw [List.length_append]; exact hroom, h2, ?_⟩ ?_
    · refine .inr ⟨g, off, cur', rfl, hbg, k1, by rw [k2]; exact h3, fun i hil f hf => ?_⟩
      rw [List.length_append] at hil
      by_cases hic : i < l.length
      · have := mul_in (n := i0.size) hic (Nat.le_refl _)
        rw [k4 _ (.inl (by omega)), h4 i hic f hf, List.getElem_append_left hic]
      · have hjm : i - l.length < m.length := by omega
        have := mul_in (n := i0.size) hjm (Nat.le_refl _)
        have he : off + i * i0.size + f = off + l.length * i0.size + ((i - l.length) * i0.size + f) := by
          have : i * i0.size = l.length * i0.size + (i - l.length) * i0.size := by rw [← Nat.add_mul]; congr 1; omega
          omega
        rw [he, k3 _ (by omega), flat_get cells i0.size hlen m _ f hjm hf, List.getElem_append_right (by omega)]
    · exact Fr.setCells g _ _ X (Fr.refl _ _) (.inl rfl)
theorem app_room_step {P : Program} {ops : Array Oper} {o : Oper} {a : Act} {K : Act → World → Prop} {Q : Exit → Act → World → Prop} {E : Prop} {α : Type} (cells : α → List Value) (n bytes : Nat) (hlen : ∀ x, (cells x).length = n)
    (T TS TX : TypeId) (z : Value) (hu : P.underlying TS = some (.slice T)) (hinfo : (P.info? T).map (fun i => (i.zero, i.size, i.bytes)) = some (some z, n, bytes))
    (hgd : o.guard = none) (s y : Operand) (ho : o.op = .call { callee := .builtin .append, args := #[s, y], argTypes := #[TS, TX] })
    (X : World) (base g off k k2 cap : Nat) (u : Value) (l m : List α) (hs : a.eval s = .slice (some ⟨g, off, none⟩) k cap) (hk : l.length = k) (hk2 : l.length + m.length = k2) (hy : a.eval y = u) (hsrc : Src P n TX u m.length (m.flatMap cells) X)
    (hown : Ow cells n base T X (.slice (some ⟨g, off, none⟩) k cap) l) (hroom : l.length + m.length ≤ cap) (hc0 : 0 < cap)
    (h : ∀ w', Ow cells n base T w' (.slice (some ⟨g, off, none⟩) k2 cap) (l ++ m) → Fr (fun i => i = g) X w' → K (a.put o.dst (.slice (some ⟨g, off, none⟩) k2 cap)) w') :
    if Region.wanted o (yielded ops a.tmps) = true then Oper.wp P o a X K Q else E := by
  rw [if_pos (by simp [Region.wanted, hgd])]
  exact app_room_wp cells n bytes hlen T TS TX z hu hinfo s y ho X base g off k k2 cap u l m hs hk hk2 hy hsrc hown hroom hc0 h
end Go.Proofs.YtmgiecoeeidgoaaGreatDoor
namespace Go.Proofs.YtmgiecoeeidgoaaGreatDoor

def findReg (n : Nat) : Code → Option Code
  | .region id ops b => if id = n then some (.region id ops b) else none
  | .loop c => findReg n c
  | .seq a b => match findReg n a with
    | some c => some c
    | none => findReg n b
  | .block _ c => findReg n c
  | .scope c => findReg n c
  | .cond _ a b => match findReg n a with
    | some c => some c
    | none => findReg n b
  | _ => none
end Go.Proofs.YtmgiecoeeidgoaaGreatDoor
