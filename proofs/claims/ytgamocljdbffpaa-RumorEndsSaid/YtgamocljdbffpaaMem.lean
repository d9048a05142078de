/-
  THE KIT of api.Member: codec, rows, slices.Insert, whether two are alike. CONDITIONS: none.
-/
import Derived.Test.YtgamocljdbffpaaCodecs
import Derived.Test.YtgamocljdbffpaaKit
import Derived.Test.YtgamocljdbffpaaKitC
import Derived.Test.YtgamocljdbffpaaKitJ
import Derived.Lib.SliceRun
import Derived.Lib.Overlaps
import Derived.Laws.Externs
import Derived.Deep.RegionLaw
import Derived.Laws.StructEq
import Derived.Deep.QuietTactic
import Derived.BigQuiet
namespace Go.Proofs.Ytgamocljdbffpaa
open Go.RowKit
open Go.ChangeShapes Go.WideShapes Go.ChangeAt

structure M where
  node : Int
  life : Int
  state : Int
def M.cells (e : M) : List Value := [.int .i64 e.node, .int .i64 e.life, .int .i64 e.state]
def M.val (e : M) : Value := .agg #[.int .i64 e.node, .int .i64 e.life, .int .i64 e.state]
def M.zero : M := ⟨0, 0, 0⟩
def M.good (e : M) : Prop := (-9223372036854775808 ≤ e.node ∧ e.node ≤ 9223372036854775807) ∧ (-9223372036854775808 ≤ e.life ∧ e.life ≤ 9223372036854775807) ∧ (-9223372036854775808 ≤ e.state ∧ e.state ≤ 9223372036854775807)
theorem M.cells_length (e : M) : e.cells.length = 3 := rfl
theorem M.zero_good : M.zero.good := by unfold M.good M.zero; decide
theorem M.one (e : M) : ∀ u ∈ e.cells, u.oneCell' = true := by intro u hu; simp [M.cells] at hu; rcases hu with rfl | rfl | rfl <;> rfl
/-- the cells of one, at a place -/
structure MAt (w : World) (b o : Nat) (e : M) : Prop where
  c0 : w.cell? ⟨b, o, none⟩ = some (.int .i64 e.node)
  c1 : w.cell? ⟨b, o + 1, none⟩ = some (.int .i64 e.life)
  c2 : w.cell? ⟨b, o + 2, none⟩ = some (.int .i64 e.state)
theorem MAt.stays {w w' : World} {b o : Nat} {e : M} (h : MAt w b o e) (hb : Below w.heap.size w w') (hl : b < w.heap.size) : MAt w' b o e :=
  ⟨(hb.cell (p := ⟨b, _, none⟩) hl).trans h.c0, (hb.cell (p := ⟨b, _, none⟩) hl).trans h.c1, (hb.cell (p := ⟨b, _, none⟩) hl).trans h.c2⟩
theorem MAt.fr {S : Nat → Prop} {w w' : World} {b o : Nat} {e : M} (h : MAt w b o e) (hb : Fr S w w') (hl : b < w.heap.size) (hn : ¬ S b) : MAt w' b o e :=
  ⟨(hb.cell (p := ⟨b, _, none⟩) hl hn).trans h.c0, (hb.cell (p := ⟨b, _, none⟩) hl hn).trans h.c1, (hb.cell (p := ⟨b, _, none⟩) hl hn).trans h.c2⟩
theorem MAt.of_blk {w : World} {g : Nat} {t : TypeId} {e : M} (h : Blk w g t #[.int .i64 e.node, .int .i64 e.life, .int .i64 e.state]) : MAt w g 0 e :=
  ⟨h.cell 0, h.cell 1, h.cell 2⟩
/-- a row of them, as it came in or as a call handed it back -/
structure MsAt (w : World) (s : SlV M) : Prop where
  row : 0 < s.xs.length → ∃ b off, s.A = some ⟨b, off, none⟩ ∧ b < w.heap.size ∧ ∀ i, i < s.xs.length → MAt w b (off + i * 3) (s.xs.getD i M.zero)
  each : ∀ x ∈ s.xs, x.good
  len : s.xs.length ≤ maxLen
theorem MsAt.stays {w w' : World} {s : SlV M} (h : MsAt w s) (hb : Below w.heap.size w w') : MsAt w' s := ⟨fun h0 => by
    obtain ⟨b, off, h1, h2, h3⟩ := h.row h0
    exact ⟨b, off, h1, Nat.lt_of_lt_of_le h2 hb.size, fun i hi => (h3 i hi).stays hb h2⟩, h.each, h.len⟩
theorem MsAt.fr {S : Nat → Prop} {w w' : World} {s : SlV M} (h : MsAt w s) (hb : Fr S w w') (hn : 0 < s.xs.length → ∀ b off, s.A = some ⟨b, off, none⟩ → ¬ S b) : MsAt w' s := ⟨fun h0 => by
    obtain ⟨b, off, h1, h2, h3⟩ := h.row h0
    exact ⟨b, off, h1, Nat.lt_of_lt_of_le h2 hb.size, fun i hi => (h3 i hi).fr hb h2 (hn h0 _ _ h1)⟩, h.each, h.len⟩
theorem MAt.drewN {w : World} {b o : Nat} {e : M} (h : MAt w b o e) (n : Nat) : MAt (w.drewN n) b o e := ⟨h.c0, h.c1, h.c2⟩
theorem MsAt.drewN {w : World} {s : SlV M} (h : MsAt w s) (n : Nat) : MsAt (w.drewN n) s := ⟨fun h0 => by
    obtain ⟨b, off, h1, h2, h3⟩ := h.row h0
    exact ⟨b, off, h1, h2, fun i hi => (h3 i hi).drewN n⟩, h.each, h.len⟩
theorem MsAt.empty (w : World) (A : Option Addr) (c : Nat) : MsAt w ⟨A, c, []⟩ := ⟨(fun h => by cases h), (fun x hx => by cases hx), Nat.zero_le _⟩
/-- a slice of the call's own, as a caller reads it -/
theorem MsAt.of_ow {w : World} {base : Nat} {T : TypeId} {v : Value} {l : List M} (h : Ow M.cells 3 base T w v l) (hg : ∀ x ∈ l, x.good) :
    ∃ r : SlV M, v = .slice r.A r.xs.length r.c ∧ r.xs = l ∧ MsAt w r ∧ r.ok ∧ (0 < r.xs.length → ∀ b off, r.A = some ⟨b, off, none⟩ → foot v = some b ∧ base ≤ b) := by
  by_cases h0 : 0 < l.length
  · obtain ⟨g, off, cap, rfl, h1, h2, hb, hlt, hfo, hc, _⟩ := h.get h0
    refine ⟨⟨some ⟨g, off, none⟩, cap, l⟩, rfl, rfl, ⟨fun _ => ⟨g, off, rfl, hlt, fun i hi => ?_⟩, hg, by show l.length ≤ maxLen; omega⟩, ⟨h1, h2⟩, fun _ b off hA => by cases hA; exact ⟨hfo, hb⟩⟩
    have hi' : i < l.length := hi
    have hx : l.getD i M.zero = l[i] := getD_get _ hi'
    simp only []
    rw [hx]
    exact ⟨hc i hi' 0 (by decide), hc i hi' 1 (by decide), hc i hi' 2 (by decide)⟩
  · have hl0 : l = [] := by cases l with | nil => rfl | cons a r => simp at h0
    subst hl0
    obtain ⟨A, cap, rfl, h1, h2, _⟩ := h
    exact ⟨⟨A, cap, []⟩, rfl, rfl, MsAt.empty _ _ _, ⟨h1, h2⟩, fun h => by simp at h⟩
theorem MsAt.src {P : Program} {TS T : TypeId} (hk : P.underlying TS = some (.slice T)) {w : World} {s : SlV M} (h : MsAt w s) : Src P 3 TS (.slice s.A s.xs.length s.c) s.xs.length (s.xs.flatMap M.cells) w := by
  obtain ⟨A, c, xs⟩ := s
  by_cases h0 : 0 < xs.length
  · obtain ⟨b, off, hA, hlt, hc⟩ := h.row h0
    simp only at hA hc ⊢
    subst hA
    refine Src.ofSlice w hk ⟨b, off, none⟩ xs.length c _ (flat_length _ _ M.cells_length _) (fun j u hj => ?_) (fun u hu => ?_)
    · have hjl : j < xs.length * 3 := by rw [← flat_length _ _ M.cells_length xs]; exact (List.getElem?_eq_some_iff.1 hj).1
      have hq : j / 3 < xs.length := by omega
      have hm : j % 3 < 3 := Nat.mod_lt _ (by decide)
      have hg := flat_get _ _ M.cells_length xs _ _ hq hm
      rw [show j / 3 * 3 + j % 3 = j by omega, hj, ← getD_get M.zero hq] at hg
      have hx := hc _ hq
      rw [Addr_add, show off + j = off + j / 3 * 3 + j % 3 by omega]
      generalize xs.getD (j / 3) M.zero = y at hg hx
      generalize j % 3 = f at hg hm ⊢
      rw [hg]
      match f, hm with
      | 0, _ => exact hx.c0
      | 1, _ => exact hx.c1
      | 2, _ => exact hx.c2
    · obtain ⟨x, _, hx⟩ := List.mem_flatMap.1 hu
      exact x.one u hx
  · have hl0 : xs = [] := by cases xs with | nil => rfl | cons a r => simp at h0
    subst hl0
    cases A with
    | none => exact Src.ofNil w hk c
    | some a => exact Src.ofSlice w hk a 0 c [] rfl (fun j u hj => by simp at hj) (fun u hu => by simp at hu)
theorem infoM : (Try.prog.info? 23).map (fun i => (i.zero, i.size, i.bytes)) = some (some M.zero.val, 3, 24) := by kernel_rfl
theorem appM {ops : Array Oper} {rest : List Oper} {o : Oper} {a : Act} {Q : Exit → Act → World → Prop} (X : World) (base : Nat) (v : Value) (l : List M) (x0 : Int) (x1 : Int) (x2 : Int) (hown : Ow M.cells 3 base 23 X v l)
    (hgd : o.guard = none) (p q : Operand) (ho : o.op = .call { callee := .builtin .append, args := #[p, q], argTypes := #[29, 29] }) (hp : a.eval p = v) {N : Nat} (hq : a.eval q = .slice (some ⟨N, 0, none⟩) 1 1) (hN : X.heap.size = N) (hl : l.length ≤ 100000000) (hb : base ≤ X.heap.size)
    (h : ∀ v' w', Ow M.cells 3 base 23 w' v' (l ++ [⟨x0, x1, x2⟩]) → Fr (fun k => some k = foot v) X w' → (foot v' = foot v ∨ foot v' = some (X.heap.size + 1)) → wpList Try.prog ops Q rest (a.put o.dst v') w') :
    wpList Try.prog ops Q (o :: rest) a (X.alloc (.cells #[.int .i64 x0, .int .i64 x1, .int .i64 x2] 23)) := by
  subst hN
  exact app_src M.cells 3 24 M.cells_length (by decide) (by decide) _ _ 29 M.zero.val rfl Try.underlying29 infoM hgd p q ho _ base v _ l [⟨x0, x1, x2⟩] hp hq
    (Src.ofSlice _ Try.underlying29 ⟨X.heap.size, 0, none⟩ 1 1 _ rfl (fun j u hj => by rw [Addr_add, Nat.zero_add, (Blk.new X 23 _).cell j]; simpa [M.cells] using hj) (fun u hu => by simp at hu; exact M.one _ u hu)) (hown.alloc _) (by simp; omega) (by simp; omega) (fun v' w' h1 h2 h3 => h v' w' h1 (((Fr.refl _ _).alloc _).step h2) (by simpa using h3))
theorem appMat {ops : Array Oper} {o : Oper} {a : Act} {K : Act → World → Prop} {Q : Exit → Act → World → Prop} {EE : Prop} (X : World) (base : Nat) (v : Value) (l : List M) (x0 : Int) (x1 : Int) (x2 : Int) (g' : Nat) (hbox : MAt X g' 0 ⟨x0, x1, x2⟩) (hown : Ow M.cells 3 base 23 X v l)
    (hgd : o.guard = none) (p q : Operand) (ho : o.op = .call { callee := .builtin .append, args := #[p, q], argTypes := #[29, 29] }) (hp : a.eval p = v) (hq : a.eval q = .slice (some ⟨g', 0, none⟩) 1 1) (hl : l.length ≤ 100000000) (hb : base ≤ X.heap.size)
    (h : ∀ v' w', Ow M.cells 3 base 23 w' v' (l ++ [⟨x0, x1, x2⟩]) → Fr (fun k => some k = foot v) X w' → (foot v' = foot v ∨ foot v' = some X.heap.size) → K (a.put o.dst v') w') :
    if Region.wanted o (yielded ops a.tmps) = true then Oper.wp Try.prog o a X K Q else EE :=
  app_step M.cells 3 24 M.cells_length (by decide) (by decide) _ _ 29 M.zero.val rfl Try.underlying29 infoM hgd p q ho _ base v _ l [⟨x0, x1, x2⟩] hp hq
    (Src.ofSlice _ Try.underlying29 ⟨g', 0, none⟩ 1 1 _ rfl (fun j u hj => by
      rw [Addr_add]
      have hj' : (([⟨x0, x1, x2⟩] : List M).flatMap M.cells)[j]? = some u := hj
      match j, hj' with
      | 0, hj' => simp [M.cells] at hj'; subst hj'; first | exact hbox.c0 | (rw [Nat.zero_add]; exact hbox.c0)
      | 1, hj' => simp [M.cells] at hj'; subst hj'; first | exact hbox.c1 | (rw [Nat.zero_add]; exact hbox.c1)
      | 2, hj' => simp [M.cells] at hj'; subst hj'; first | exact hbox.c2 | (rw [Nat.zero_add]; exact hbox.c2)
      | j + 3, hj' => simp [M.cells] at hj') (fun u hu => by simp at hu; exact M.one _ u hu)) hown (by simp; omega) hb h
theorem appMs {ops : Array Oper} {rest : List Oper} {o : Oper} {a : Act} {Q : Exit → Act → World → Prop} (X : World) (base : Nat) (v : Value) (l : List M) (r : SlV M) (hr : MsAt X r) (hown : Ow M.cells 3 base 23 X v l)
    (hgd : o.guard = none) (p q : Operand) (ho : o.op = .call { callee := .builtin .append, args := #[p, q], argTypes := #[29, 29] }) (hp : a.eval p = v) (hq : a.eval q = .slice r.A r.xs.length r.c) (hl : l.length + r.xs.length ≤ 1000000000) (hb : base ≤ X.heap.size)
    (h : ∀ v' w', Ow M.cells 3 base 23 w' v' (l ++ r.xs) → Fr (fun k => some k = foot v) X w' → (foot v' = foot v ∨ foot v' = some X.heap.size) → wpList Try.prog ops Q rest (a.put o.dst v') w') :
    wpList Try.prog ops Q (o :: rest) a X :=
  app_src M.cells 3 24 M.cells_length (by decide) (by decide) _ _ 29 M.zero.val rfl Try.underlying29 infoM hgd p q ho _ base v _ l r.xs hp hq (hr.src Try.underlying29) hown hl hb h
theorem appMss {ops : Array Oper} {o : Oper} {a : Act} {K : Act → World → Prop} {Q : Exit → Act → World → Prop} {EE : Prop} (X : World) (base : Nat) (v : Value) (l : List M) (r : SlV M) (hr : MsAt X r) (hown : Ow M.cells 3 base 23 X v l)
    (hgd : o.guard = none) (p q : Operand) (ho : o.op = .call { callee := .builtin .append, args := #[p, q], argTypes := #[29, 29] }) (hp : a.eval p = v) (hq : a.eval q = .slice r.A r.xs.length r.c) (hl : l.length + r.xs.length ≤ 1000000000) (hb : base ≤ X.heap.size)
    (h : ∀ v' w', Ow M.cells 3 base 23 w' v' (l ++ r.xs) → Fr (fun k => some k = foot v) X w' → (foot v' = foot v ∨ foot v' = some X.heap.size) → K (a.put o.dst v') w') :
    if Region.wanted o (yielded ops a.tmps) = true then Oper.wp Try.prog o a X K Q else EE :=
  app_step M.cells 3 24 M.cells_length (by decide) (by decide) _ _ 29 M.zero.val rfl Try.underlying29 infoM hgd p q ho _ base v _ l r.xs hp hq (hr.src Try.underlying29) hown hl hb h
theorem Try.cellsM : Try.prog.cellsOf 23 = 3 := by kernel_rfl
def codecM : Codec Try.prog 23 M where
  cells e := e.cells
  good _ e := e.good
  opens h := by
    obtain ⟨hlen, n, hf⟩ := trod_fields Try.underlying23 (by kernel_rfl) (by kernel_rfl) h
    obtain ⟨c0, y0, e0, h0⟩ := hf 0 _ rfl
    obtain ⟨c1, y1, e1, h1⟩ := hf 1 _ rfl
    obtain ⟨c2, y2, e2, h2⟩ := hf 2 _ rfl
    obtain ⟨a0, b0, g0⟩ := (Codec.int Try.underlying3).opens h0
    obtain ⟨a1, b1, g1⟩ := (Codec.int Try.underlying3).opens h1
    obtain ⟨a2, b2, g2⟩ := (Codec.int Try.underlying3).opens h2
    simp only [Codec.int, List.cons.injEq, and_true] at b0 b1 b2
    subst b0 b1 b2
    refine ⟨⟨a0, a1, a2⟩, ?_, g0, g1, g2⟩
    apply List.ext_getElem?
    intro i
    match i with
    | 0 => exact e0
    | 1 => exact e1
    | 2 => exact e2
    | i + 3 => rw [List.getElem?_eq_none (by rw [hlen]; exact Nat.le_add_left 3 i), List.getElem?_eq_none (by simp [M.cells])]
  stays h _ := h
def codecMs : Codec Try.prog 29 (SlV M) := Codec.slice Try.underlying29 codecM (pos_of_eq Try.cellsM (by decide))
theorem MsAt_of {w : World} {s : SlV M} (h : codecMs.good w s) : MsAt w s where
  row hn := by
    obtain ⟨b, off, hA, hb, hc⟩ := h.1 hn
    refine ⟨b, off, hA, hb, fun i hi => ?_⟩
    have hcc := fun f (hf : f < 3) => hc i hi f (by rw [Try.cellsM]; exact hf)
    rw [Try.cellsM] at hcc
    rw [getD_get _ hi]
    exact ⟨hcc 0 (by decide), hcc 1 (by decide), hcc 2 (by decide)⟩
  each := h.2.1
  len := Nat.le_trans h.2.2.1 h.2.2.2
def eqbM (y x : M) : Bool := decide (y.node = x.node ∧ y.life = x.life ∧ y.state = x.state)
theorem eqbM_refl (x : M) : eqbM x x = true := by simp [eqbM]
set_option maxHeartbeats 2000000 in
theorem eqRunM (y0 : Int) (y1 : Int) (y2 : Int) (x0 : Int) (x1 : Int) (x2 : Int) (w : World) : (Op.equalIn 10000 23 (.agg #[.int .i64 y0, .int .i64 y1, .int .i64 y2]) (.agg #[.int .i64 x0, .int .i64 x1, .int .i64 x2])).run Try.prog w = .ok (eqbM ⟨y0, y1, y2⟩ ⟨x0, x1, x2⟩) w := by
  have hS : Try.prog.underlying 23 = some (.struct (Try.prog.fieldsOf 23)) := by kernel_rfl
  have hp : Try.prog.stoodInHeld 23 = false := by kernel_rfl
  rw [show (10000 : Nat) = 9999 + 1 from rfl, run_equalIn_agg w 9999 23 _ _ hS hp]
  simp only [Program.fieldsOf, Try.underlying23]
  go_simp
  unfold eqbM
  simp only []
  repeat' split
  all_goals simp_all
def eqsM (l m : List M) : Bool := decide (l.length = m.length) && (List.range l.length).all fun i => eqbM (l.getD i M.zero) (m.getD i M.zero)
theorem eqsM_len {l m : List M} (h : l.length ≠ m.length) : eqsM l m = false := by simp [eqsM, h]
theorem eqsM_at {l m : List M} {i : Nat} (hi : i < l.length) (h : eqbM (l.getD i M.zero) (m.getD i M.zero) = false) : eqsM l m = false := by
  rw [← Bool.not_eq_true]
  intro ha
  unfold eqsM at ha
  rw [Bool.and_eq_true, List.all_eq_true] at ha
  have := ha.2 i (List.mem_range.2 hi)
  simp only [h] at this
  cases this
theorem eqsM_all {l m : List M} (hl : l.length = m.length) (h : ∀ i, i < l.length → eqbM (l.getD i M.zero) (m.getD i M.zero) = true) : eqsM l m = true := by
  unfold eqsM
  rw [Bool.and_eq_true, List.all_eq_true]
  exact ⟨by simp [hl], fun i hi => h i (List.mem_range.1 hi)⟩
theorem eqsM_refl (l : List M) : eqsM l l = true := eqsM_all rfl (fun _ _ => eqbM_refl _)
end Go.Proofs.Ytgamocljdbffpaa
