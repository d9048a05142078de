/-
  THE KIT of api.Point: codec, rows, whether two are alike. CONDITIONS: none.
  PLAIN LAW OF RINGS: the order of points, sorting, and taking each once. CONDITIONS: none.
  A BRIDGE between slices of the call's own and the worlds in which the library's sorts pass (rows of elements of n cells); and what the insertion sort leaves of a list in order. It proves no statement by itself. CONDITIONS: none.
-/
import Derived.Test.YtemhdfodghfkfaaGreatDoorKit
import Derived.Lib.SliceRun
import Derived.Lib.Overlaps
import Derived.Laws.Externs
import Derived.Deep.RegionLaw
import Derived.Laws.StructEq
import Derived.Deep.QuietTactic
import Derived.BigQuiet
import Derived.Sort.LotA
import Derived.Shelf.SlSortCmp.InsertionK
namespace Go.Proofs.YtemhdfodghfkfaaGreatDoor
open Go.RowKit
open Go.ChangeShapes Go.WideShapes Go.ChangeAt

structure Pt where
  pos : Int
  node : Int
def Pt.cells (e : Pt) : List Value := [.int .i64 e.pos, .int .i64 e.node]
def Pt.val (e : Pt) : Value := .agg #[.int .i64 e.pos, .int .i64 e.node]
def Pt.zero : Pt := ⟨0, 0⟩
def Pt.good (e : Pt) : Prop := (-9223372036854775808 ≤ e.pos ∧ e.pos ≤ 9223372036854775807) ∧ (-9223372036854775808 ≤ e.node ∧ e.node ≤ 9223372036854775807)
theorem Pt.cells_length (e : Pt) : e.cells.length = 2 := rfl
theorem Pt.zero_good : Pt.zero.good := by unfold Pt.good Pt.zero; decide
theorem Pt.one (e : Pt) : ∀ u ∈ e.cells, u.oneCell' = true := by intro u hu; simp [Pt.cells] at hu; rcases hu with rfl | rfl <;> rfl
/-- the cells of one, at a place -/
structure PtAt (w : World) (b o : Nat) (e : Pt) : Prop where
  c0 : w.cell? ⟨b, o, none⟩ = some (.int .i64 e.pos)
  c1 : w.cell? ⟨b, o + 1, none⟩ = some (.int .i64 e.node)
theorem PtAt.stays {w w' : World} {b o : Nat} {e : Pt} (h : PtAt w b o e) (hb : Below w.heap.size w w') (hl : b < w.heap.size) : PtAt w' b o e :=
  ⟨(hb.cell (p := ⟨b, _, none⟩) hl).trans h.c0, (hb.cell (p := ⟨b, _, none⟩) hl).trans h.c1⟩
theorem PtAt.fr {S : Nat → Prop} {w w' : World} {b o : Nat} {e : Pt} (h : PtAt w b o e) (hb : Fr S w w') (hl : b < w.heap.size) (hn : ¬ S b) : PtAt w' b o e :=
  ⟨(hb.cell (p := ⟨b, _, none⟩) hl hn).trans h.c0, (hb.cell (p := ⟨b, _, none⟩) hl hn).trans h.c1⟩
theorem PtAt.of_blk {w : World} {g : Nat} {t : TypeId} {e : Pt} (h : Blk w g t #[.int .i64 e.pos, .int .i64 e.node]) : PtAt w g 0 e :=
  ⟨h.cell 0, h.cell 1⟩
/-- a row of them, as it came in or as a call handed it back -/
structure PtsAt (w : World) (s : SlV Pt) : Prop where
  row : 0 < s.xs.length → ∃ b off, s.A = some ⟨b, off, none⟩ ∧ b < w.heap.size ∧ ∀ i, i < s.xs.length → PtAt w b (off + i * 2) (s.xs.getD i Pt.zero)
  each : ∀ x ∈ s.xs, x.good
  len : s.xs.length ≤ maxLen
theorem PtsAt.stays {w w' : World} {s : SlV Pt} (h : PtsAt w s) (hb : Below w.heap.size w w') : PtsAt w' s := ⟨fun h0 => by
    obtain ⟨b, off, h1, h2, h3⟩ := h.row h0
    exact ⟨b, off, h1, Nat.lt_of_lt_of_le h2 hb.size, fun i hi => (h3 i hi).stays hb h2⟩, h.each, h.len⟩
theorem PtsAt.fr {S : Nat → Prop} {w w' : World} {s : SlV Pt} (h : PtsAt w s) (hb : Fr S w w') (hn : 0 < s.xs.length → ∀ b off, s.A = some ⟨b, off, none⟩ → ¬ S b) : PtsAt w' s := ⟨fun h0 => by
    obtain ⟨b, off, h1, h2, h3⟩ := h.row h0
    exact ⟨b, off, h1, Nat.lt_of_lt_of_le h2 hb.size, fun i hi => (h3 i hi).fr hb h2 (hn h0 _ _ h1)⟩, h.each, h.len⟩
theorem PtAt.drewN {w : World} {b o : Nat} {e : Pt} (h : PtAt w b o e) (n : Nat) : PtAt (w.drewN n) b o e := ⟨h.c0, h.c1⟩
theorem PtsAt.drewN {w : World} {s : SlV Pt} (h : PtsAt w s) (n : Nat) : PtsAt (w.drewN n) s := ⟨fun h0 => by
    obtain ⟨b, off, h1, h2, h3⟩ := h.row h0
    exact ⟨b, off, h1, h2, fun i hi => (h3 i hi).drewN n⟩, h.each, h.len⟩
theorem PtsAt.empty (w : World) (A : Option Addr) (c : Nat) : PtsAt w ⟨A, c, []⟩ := ⟨(fun h => by cases h), (fun x hx => by cases hx), Nat.zero_le _⟩
/-- a slice of the call's own, as a caller reads it -/
theorem PtsAt.of_ow {w : World} {base : Nat} {T : TypeId} {v : Value} {l : List Pt} (h : Ow Pt.cells 2 base T w v l) (hg : ∀ x ∈ l, x.good) :
    ∃ r : SlV Pt, v = .slice r.A r.xs.length r.c ∧ r.xs = l ∧ PtsAt w r ∧ r.ok ∧ (0 < r.xs.length → ∀ b off, r.A = some ⟨b, off, none⟩ → foot v = some b ∧ base ≤ b) := by
  by_cases h0 : 0 < l.length
  · obtain ⟨g, off, cap, rfl, h1, h2, hb, hlt, hfo, hc, _⟩ := h.get h0
    refine ⟨⟨some ⟨g, off, none⟩, cap, l⟩, rfl, rfl, ⟨fun _ => ⟨g, off, rfl, hlt, fun i hi => ?_⟩, hg, by show l.length ≤ maxLen; omega⟩, ⟨h1, h2⟩, fun _ b off hA => by cases hA; exact ⟨hfo, hb⟩⟩
    have hi' : i < l.length := hi
    have hx : l.getD i Pt.zero = l[i] := getD_get _ hi'
    simp only []
    rw [hx]
    exact ⟨hc i hi' 0 (by decide), hc i hi' 1 (by decide)⟩
  · have hl0 : l = [] := by cases l with | nil => rfl | cons a r => simp at h0
    subst hl0
    obtain ⟨A, cap, rfl, h1, h2, _⟩ := h
    exact ⟨⟨A, cap, []⟩, rfl, rfl, PtsAt.empty _ _ _, ⟨h1, h2⟩, fun h => by simp at h⟩
theorem PtsAt.src {P : Program} {TS T : TypeId} (hk : P.underlying TS = some (.slice T)) {w : World} {s : SlV Pt} (h : PtsAt w s) : Src P 2 TS (.slice s.A s.xs.length s.c) s.xs.length (s.xs.flatMap Pt.cells) w := by
  obtain ⟨A, c, xs⟩ := s
  by_cases h0 : 0 < xs.length
  · obtain ⟨b, off, hA, hlt, hc⟩ := h.row h0
    simp only at hA hc ⊢
    subst hA
    refine Src.ofSlice w hk ⟨b, off, none⟩ xs.length c _ (flat_length _ _ Pt.cells_length _) (fun j u hj => ?_) (fun u hu => ?_)
    · have hjl : j < xs.length * 2 := by rw [← flat_length _ _ Pt.cells_length xs]; exact (List.getElem?_eq_some_iff.1 hj).1
      have hq : j / 2 < xs.length := by omega
      have hm : j % 2 < 2 := Nat.mod_lt _ (by decide)
      have hg := flat_get _ _ Pt.cells_length xs _ _ hq hm
      rw [show j / 2 * 2 + j % 2 = j by omega, hj, ← getD_get Pt.zero hq] at hg
      have hx := hc _ hq
      rw [Addr_add, show off + j = off + j / 2 * 2 + j % 2 by omega]
      generalize xs.getD (j / 2) Pt.zero = y at hg hx
      generalize j % 2 = f at hg hm ⊢
      rw [hg]
      match f, hm with
      | 0, _ => exact hx.c0
      | 1, _ => exact hx.c1
    · obtain ⟨x, _, hx⟩ := List.mem_flatMap.1 hu
      exact x.one u hx
  · have hl0 : xs = [] := by cases xs with | nil => rfl | cons a r => simp at h0
    subst hl0
    cases A with
    | none => exact Src.ofNil w hk c
    | some a => exact Src.ofSlice w hk a 0 c [] rfl (fun j u hj => by simp at hj) (fun u hu => by simp at hu)
theorem infoPt : (Tryz.prog.info? 92).map (fun i => (i.zero, i.size, i.bytes)) = some (some Pt.zero.val, 2, 16) := by kernel_rfl
theorem appPt {ops : Array Oper} {rest : List Oper} {o : Oper} {a : Act} {Q : Exit → Act → World → Prop} (X : World) (base : Nat) (v : Value) (l : List Pt) (x0 : Int) (x1 : Int) (hown : Ow Pt.cells 2 base 92 X v l)
    (hgd : o.guard = none) (p q : Operand) (ho : o.op = .call { callee := .builtin .append, args := #[p, q], argTypes := #[64, 64] }) (hp : a.eval p = v) {N : Nat} (hq : a.eval q = .slice (some ⟨N, 0, none⟩) 1 1) (hN : X.heap.size = N) (hl : l.length ≤ 100000000) (hb : base ≤ X.heap.size)
    (h : ∀ v' w', Ow Pt.cells 2 base 92 w' v' (l ++ [⟨x0, x1⟩]) → Fr (fun k => some k = foot v) X w' → (foot v' = foot v ∨ foot v' = some (X.heap.size + 1)) → wpList Tryz.prog ops Q rest (a.put o.dst v') w') :
    wpList Tryz.prog ops Q (o :: rest) a (X.alloc (.cells #[.int .i64 x0, .int .i64 x1] 92)) := by
  subst hN
  exact app_src Pt.cells 2 16 Pt.cells_length (by decide) (by decide) _ _ 64 Pt.zero.val rfl Tryz.underlying64 infoPt hgd p q ho _ base v _ l [⟨x0, x1⟩] hp hq
    (Src.ofSlice _ Tryz.underlying64 ⟨X.heap.size, 0, none⟩ 1 1 _ rfl (fun j u hj => by rw [Addr_add, Nat.zero_add, (Blk.new X 92 _).cell j]; simpa [Pt.cells] using hj) (fun u hu => by simp at hu; exact Pt.one _ u hu)) (hown.alloc _) (by simp; omega) (by simp; omega) (fun v' w' h1 h2 h3 => h v' w' h1 (((Fr.refl _ _).alloc _).step h2) (by simpa using h3))
theorem appPtat {ops : Array Oper} {o : Oper} {a : Act} {K : Act → World → Prop} {Q : Exit → Act → World → Prop} {EE : Prop} (X : World) (base : Nat) (v : Value) (l : List Pt) (x0 : Int) (x1 : Int) (g' : Nat) (hbox : PtAt X g' 0 ⟨x0, x1⟩) (hown : Ow Pt.cells 2 base 92 X v l)
    (hgd : o.guard = none) (p q : Operand) (ho : o.op = .call { callee := .builtin .append, args := #[p, q], argTypes := #[64, 64] }) (hp : a.eval p = v) (hq : a.eval q = .slice (some ⟨g', 0, none⟩) 1 1) (hl : l.length ≤ 100000000) (hb : base ≤ X.heap.size)
    (h : ∀ v' w', Ow Pt.cells 2 base 92 w' v' (l ++ [⟨x0, x1⟩]) → Fr (fun k => some k = foot v) X w' → (foot v' = foot v ∨ foot v' = some X.heap.size) → K (a.put o.dst v') w') :
    if Region.wanted o (yielded ops a.tmps) = true then Oper.wp Tryz.prog o a X K Q else EE :=
  app_step Pt.cells 2 16 Pt.cells_length (by decide) (by decide) _ _ 64 Pt.zero.val rfl Tryz.underlying64 infoPt hgd p q ho _ base v _ l [⟨x0, x1⟩] hp hq
    (Src.ofSlice _ Tryz.underlying64 ⟨g', 0, none⟩ 1 1 _ rfl (fun j u hj => by
      rw [Addr_add]
      have hj' : (([⟨x0, x1⟩] : List Pt).flatMap Pt.cells)[j]? = some u := hj
      match j, hj' with
      | 0, hj' => simp [Pt.cells] at hj'; subst hj'; first | exact hbox.c0 | (rw [Nat.zero_add]; exact hbox.c0)
      | 1, hj' => simp [Pt.cells] at hj'; subst hj'; first | exact hbox.c1 | (rw [Nat.zero_add]; exact hbox.c1)
      | j + 2, hj' => simp [Pt.cells] at hj') (fun u hu => by simp at hu; exact Pt.one _ u hu)) hown (by simp; omega) hb h
theorem appPts {ops : Array Oper} {rest : List Oper} {o : Oper} {a : Act} {Q : Exit → Act → World → Prop} (X : World) (base : Nat) (v : Value) (l : List Pt) (r : SlV Pt) (hr : PtsAt X r) (hown : Ow Pt.cells 2 base 92 X v l)
    (hgd : o.guard = none) (p q : Operand) (ho : o.op = .call { callee := .builtin .append, args := #[p, q], argTypes := #[64, 64] }) (hp : a.eval p = v) (hq : a.eval q = .slice r.A r.xs.length r.c) (hl : l.length + r.xs.length ≤ 1000000000) (hb : base ≤ X.heap.size)
    (h : ∀ v' w', Ow Pt.cells 2 base 92 w' v' (l ++ r.xs) → Fr (fun k => some k = foot v) X w' → (foot v' = foot v ∨ foot v' = some X.heap.size) → wpList Tryz.prog ops Q rest (a.put o.dst v') w') :
    wpList Tryz.prog ops Q (o :: rest) a X :=
  app_src Pt.cells 2 16 Pt.cells_length (by decide) (by decide) _ _ 64 Pt.zero.val rfl Tryz.underlying64 infoPt hgd p q ho _ base v _ l r.xs hp hq (hr.src Tryz.underlying64) hown hl hb h
theorem appPtss {ops : Array Oper} {o : Oper} {a : Act} {K : Act → World → Prop} {Q : Exit → Act → World → Prop} {EE : Prop} (X : World) (base : Nat) (v : Value) (l : List Pt) (r : SlV Pt) (hr : PtsAt X r) (hown : Ow Pt.cells 2 base 92 X v l)
    (hgd : o.guard = none) (p q : Operand) (ho : o.op = .call { callee := .builtin .append, args := #[p, q], argTypes := #[64, 64] }) (hp : a.eval p = v) (hq : a.eval q = .slice r.A r.xs.length r.c) (hl : l.length + r.xs.length ≤ 1000000000) (hb : base ≤ X.heap.size)
    (h : ∀ v' w', Ow Pt.cells 2 base 92 w' v' (l ++ r.xs) → Fr (fun k => some k = foot v) X w' → (foot v' = foot v ∨ foot v' = some X.heap.size) → K (a.put o.dst v') w') :
    if Region.wanted o (yielded ops a.tmps) = true then Oper.wp Tryz.prog o a X K Q else EE :=
  app_step Pt.cells 2 16 Pt.cells_length (by decide) (by decide) _ _ 64 Pt.zero.val rfl Tryz.underlying64 infoPt hgd p q ho _ base v _ l r.xs hp hq (hr.src Tryz.underlying64) hown hl hb h
theorem Tryz.cellsPt : Tryz.prog.cellsOf 92 = 2 := by kernel_rfl
def codecPt : Codec Tryz.prog 92 Pt where
  cells e := e.cells
  good _ e := e.good
  opens h := by
    obtain ⟨hlen, n, hf⟩ := trod_fields Tryz.underlying92 (by kernel_rfl) (by kernel_rfl) h
    obtain ⟨c0, y0, e0, h0⟩ := hf 0 _ rfl
    obtain ⟨c1, y1, e1, h1⟩ := hf 1 _ rfl
    obtain ⟨a0, b0, g0⟩ := (Codec.int Tryz.underlying3).opens h0
    obtain ⟨a1, b1, g1⟩ := (Codec.int Tryz.underlying3).opens h1
    simp only [Codec.int, List.cons.injEq, and_true] at b0 b1
    subst b0 b1
    refine ⟨⟨a0, a1⟩, ?_, g0, g1⟩
    apply List.ext_getElem?
    intro i
    match i with
    | 0 => exact e0
    | 1 => exact e1
    | i + 2 => rw [List.getElem?_eq_none (by rw [hlen]; exact Nat.le_add_left 2 i), List.getElem?_eq_none (by simp [Pt.cells])]
  stays h _ := h
def codecPts : Codec Tryz.prog 64 (SlV Pt) := Codec.slice Tryz.underlying64 codecPt (pos_of_eq Tryz.cellsPt (by decide))
theorem PtsAt_of {w : World} {s : SlV Pt} (h : codecPts.good w s) : PtsAt w s where
  row hn := by
    obtain ⟨b, off, hA, hb, hc⟩ := h.1 hn
    refine ⟨b, off, hA, hb, fun i hi => ?_⟩
    have hcc := fun f (hf : f < 2) => hc i hi f (by rw [Tryz.cellsPt]; exact hf)
    rw [Tryz.cellsPt] at hcc
    rw [getD_get _ hi]
    exact ⟨hcc 0 (by decide), hcc 1 (by decide)⟩
  each := h.2.1
  len := Nat.le_trans h.2.2.1 h.2.2.2
def eqbPt (y x : Pt) : Bool := decide (y.pos = x.pos ∧ y.node = x.node)
theorem eqbPt_refl (x : Pt) : eqbPt x x = true := by simp [eqbPt]
set_option maxHeartbeats 2000000 in
theorem eqRunPt (y0 : Int) (y1 : Int) (x0 : Int) (x1 : Int) (w : World) : (Op.equalIn 10000 92 (.agg #[.int .i64 y0, .int .i64 y1]) (.agg #[.int .i64 x0, .int .i64 x1])).run Tryz.prog w = .ok (eqbPt ⟨y0, y1⟩ ⟨x0, x1⟩) w := by
  have hS : Tryz.prog.underlying 92 = some (.struct (Tryz.prog.fieldsOf 92)) := by kernel_rfl
  have hp : Tryz.prog.stoodInHeld 92 = false := by kernel_rfl
  rw [show (10000 : Nat) = 9999 + 1 from rfl, run_equalIn_agg w 9999 92 _ _ hS hp]
  simp only [Program.fieldsOf, Tryz.underlying92]
  go_simp
  unfold eqbPt
  simp only []
  repeat' split
  all_goals simp_all
def eqsPt (l m : List Pt) : Bool := decide (l.length = m.length) && (List.range l.length).all fun i => eqbPt (l.getD i Pt.zero) (m.getD i Pt.zero)
theorem eqsPt_len {l m : List Pt} (h : l.length ≠ m.length) : eqsPt l m = false := by simp [eqsPt, h]
theorem eqsPt_at {l m : List Pt} {i : Nat} (hi : i < l.length) (h : eqbPt (l.getD i Pt.zero) (m.getD i Pt.zero) = false) : eqsPt l m = false := by
  rw [← Bool.not_eq_true]
  intro ha
  unfold eqsPt at ha
  rw [Bool.and_eq_true, List.all_eq_true] at ha
  have := ha.2 i (List.mem_range.2 hi)
  simp only [h] at this
  cases this
theorem eqsPt_all {l m : List Pt} (hl : l.length = m.length) (h : ∀ i, i < l.length → eqbPt (l.getD i Pt.zero) (m.getD i Pt.zero) = true) : eqsPt l m = true := by
  unfold eqsPt
  rw [Bool.and_eq_true, List.all_eq_true]
  exact ⟨by simp [hl], fun i hi => h i (List.mem_range.1 hi)⟩
theorem eqsPt_refl (l : List Pt) : eqsPt l l = true := eqsPt_all rfl (fun _ _ => eqbPt_refl _)
instance : Inhabited Pt := ⟨Pt.zero⟩
theorem Ow.ptAt {base : Nat} {T : TypeId} {w : World} {g off len cap : Nat} {l : List Pt} (h : Ow Pt.cells 2 base T w (.slice (some ⟨g, off, none⟩) len cap) l) {i : Nat} (hi : i < l.length) : PtAt w g (off + i * 2) (l.getD i Pt.zero) := by
  obtain ⟨g', off', cap', he, -, -, -, -, -, hc, -⟩ := h.get (by omega)
  cases he
  rw [getD_get _ hi]
  exact ⟨hc i hi 0 (by decide), hc i hi 1 (by decide)⟩
theorem eqbPt_iff (x y : Pt) : eqbPt x y = true ↔ x = y := by
  unfold eqbPt
  rw [decide_eq_true_eq]
  constructor
  · rintro ⟨h1, h2⟩
    cases x; cases y
    simp only at h1 h2
    rw [h1, h2]
  · rintro rfl
    exact ⟨rfl, rfl⟩
end Go.Proofs.YtemhdfodghfkfaaGreatDoor
namespace Go.Proofs.YtemhdfodghfkfaaGreatDoor

theorem snoc_indP {α : Type} {P : List α → Prop} (l : List α) (h0 : P []) (h : ∀ l x, P l → P (l ++ [x])) : P l := by
  rw [← List.reverse_reverse l]
  induction l.reverse with
  | nil => exact h0
  | cons x r ih => rw [List.reverse_cons]; exact h _ _ ih
def cmpI (a b : Int) : Int := if a < b then -1 else if b < a then 1 else 0
def orI (x y : Int) : Int := if x = 0 then y else x
def ordP (x y : Pt) : Int := orI (cmpI x.pos y.pos) (cmpI x.node y.node)
/-- ahead of -/
def ltP (x y : Pt) : Bool := decide (x.pos < y.pos ∨ (x.pos = y.pos ∧ x.node < y.node))
theorem ltP_true {x y : Pt} : ltP x y = true ↔ x.pos < y.pos ∨ (x.pos = y.pos ∧ x.node < y.node) := by simp [ltP]
theorem ordP_neg (x y : Pt) : ordP x y < 0 ↔ ltP x y = true := by
  rw [ltP_true]
  unfold ordP orI cmpI
  repeat' split
  all_goals omega
theorem ordP_geq (x y : Pt) : 0 ≤ ordP x y ↔ ¬ ltP x y = true := by rw [← ordP_neg]; omega
theorem ltP_irrefl (x : Pt) : ltP x x = false := by rw [← Bool.not_eq_true, ltP_true]; omega
theorem ltP_trans {x y z : Pt} (h1 : ltP x y = true) (h2 : ltP y z = true) : ltP x z = true := by rw [ltP_true] at *; omega
theorem ltP_tot {x y : Pt} (h1 : ltP x y = false) (h2 : ltP y x = false) : x = y := by
  rw [← Bool.not_eq_true, ltP_true] at h1 h2
  cases x; cases y
  simp only at h1 h2
  congr 1 <;> omega
theorem swo_ltP : Go.Sort.SWO ltP where
  irrefl x := ltP_irrefl x
  trans x y z h1 h2 := ltP_trans h1 h2
  ntrans x y z h1 h2 := by rw [← Bool.not_eq_true, ltP_true] at *; omega
def leP (x y : Pt) : Bool := !ltP y x
/-- sorted -/
def sortP (l : List Pt) : List Pt := l.mergeSort leP
theorem sortP_length (l : List Pt) : (sortP l).length = l.length := List.length_mergeSort l
theorem sortP_mem {l : List Pt} {x : Pt} : x ∈ sortP l ↔ x ∈ l := (List.mergeSort_perm l leP).mem_iff
theorem sortP_sorted (l : List Pt) : (sortP l).Pairwise (fun x y => ltP y x = false) := by
  have := List.pairwise_mergeSort (le := leP) (fun a b c h1 h2 => by
    unfold leP at *
    rw [Bool.not_eq_true'] at *
    rw [← Bool.not_eq_true, ltP_true] at *
    omega) (fun a b => by
    unfold leP
    rw [Bool.or_eq_true, Bool.not_eq_true', Bool.not_eq_true']
    rcases h : ltP b a with _ | _
    · exact .inl rfl
    · right
      rw [← Bool.not_eq_true]
      intro h2
      have := ltP_trans h h2
      rw [ltP_irrefl] at this
      cases this) l
  refine this.imp (fun {a b} h => ?_)
  unfold leP at h
  simpa using h
instance : DecidableEq Pt := fun x y => decidable_of_iff _ (eqbPt_iff x y)
/-- each once, of those that follow each other -/
def compS (acc : List Pt) (x : Pt) : List Pt := if acc.getLast? = some x then acc else acc ++ [x]
def compP (l : List Pt) : List Pt := l.foldl compS []
theorem compP_snoc (l : List Pt) (x : Pt) : compP (l ++ [x]) = compS (compP l) x := by unfold compP; rw [List.foldl_append]; rfl
theorem compS_last (acc : List Pt) (x : Pt) : (compS acc x).getLast? = some x := by
  unfold compS
  split
  · assumption
  · simp
theorem compP_last (l : List Pt) (x : Pt) : (compP (l ++ [x])).getLast? = some x := by rw [compP_snoc]; exact compS_last _ _
theorem compP_take_last {l : List Pt} {k : Nat} (hk : k < l.length) : (compP (l.take (k + 1))).getLast? = some (l.getD k Pt.zero) := by
  rw [take_snocD Pt.zero hk]; exact compP_last _ _
theorem compP_take_succ {l : List Pt} {k : Nat} (hk : k + 1 < l.length) : compP (l.take (k + 2)) = if l.getD k Pt.zero = l.getD (k + 1) Pt.zero then compP (l.take (k + 1)) else compP (l.take (k + 1)) ++ [l.getD (k + 1) Pt.zero] := by
  rw [take_snocD Pt.zero hk, compP_snoc, compS, compP_take_last (by omega)]
  by_cases h : l.getD k Pt.zero = l.getD (k + 1) Pt.zero
  · rw [if_pos (by rw [h]), if_pos h]
  · rw [if_neg (fun e => h (Option.some.inj e)), if_neg h]
theorem compP_one {l : List Pt} (h : 0 < l.length) : compP (l.take 1) = l.take 1 := by
  cases l with
  | nil => cases h
  | cons x r => rfl
theorem compP_mem {l : List Pt} {x : Pt} : x ∈ compP l ↔ x ∈ l := by
  refine snoc_indP (P := fun l => x ∈ compP l ↔ x ∈ l) l (by rfl) (fun l y ih => ?_)
  rw [compP_snoc, compS, List.mem_append, List.mem_singleton]
  split
  · rename_i h
    rw [ih]
    refine ⟨.inl, fun h2 => ?_⟩
    rcases h2 with h2 | h2
    · exact h2
    · rw [← ih, h2]
      exact List.mem_of_getLast? h
  · rw [List.mem_append, List.mem_singleton, ih]
end Go.Proofs.YtemhdfodghfkfaaGreatDoor
namespace Go.Proofs.YtemhdfodghfkfaaGreatDoor
open Go.RowKit
open Go.ChangeShapes Go.WideShapes Go.ChangeAt
open Go.Sort (HoldsK Holds flatK grow putRow putRowK mapBlock putCells onCells swp PermIn SortedIn insInner insOuter insertionSort SWO)

section
variable {α : Type} [Inhabited α] {cells : α → List Value} {n base : Nat} {T : TypeId} {w : World} {l : List α} {g off len cap : Nat}
theorem get_bang {β : Type} [Inhabited β] {a : Array β} {i : Nat} {v : β} (h : a[i]? = some v) : a[i]! = v := by
  rw [getElem!_def, h]
theorem list_bang {β : Type} [Inhabited β] {a : List β} {i : Nat} {v : β} (h : a[i]? = some v) : a[i]! = v := by
  rw [getElem!_def, h]
theorem Ow.holdsK (hlen : ∀ a, (cells a).length = n) (hn : 0 < n) (h : Ow cells n base T w (.slice (some ⟨g, off, none⟩) len cap) l) (hl : 0 < l.length) :
    HoldsK cells n w g off l.toArray ∧ g < w.heap.size := by
  obtain ⟨A, cap', hv, h1, h2, h3⟩ := h
  cases hv
  rcases h3 with rfl | ⟨g', off', cur, hA, hb', hB, h3, h4⟩
  · omega
  · cases hA
    refine ⟨fun j hj => ?_, hB.lt⟩
    have hj' : j < l.length * n := by simpa using hj
    have hq : j / n < l.length := Nat.div_lt_of_lt_mul (by rw [Nat.mul_comm]; exact hj')
    have hm : j % n < n := Nat.mod_lt _ hn
    have hdm : off + j / n * n + j % n = off + j := by have := Nat.div_add_mod j n; rw [Nat.mul_comm] at this; omega
    refine ⟨?_, hB.frozen _⟩
    have hc := h4 _ hq _ hm
    rw [hdm] at hc
    rw [hB.cell, hc, Go.Sort.get_flatK _ _ _ _ (by simpa using hj')]
    have e1 : (l.toArray)[j / n]! = l[j / n] := get_bang (by simp [hq])
    rw [e1, List.getElem?_eq_getElem (by rw [hlen]; exact hm), list_bang (List.getElem?_eq_getElem (by rw [hlen]; exact hm))]
    rfl
theorem fr_grow {S : Nat → Prop} (w : World) (os : Array Obj) : Fr S w (grow w os) :=
  ⟨rfl, rfl, rfl, by simp, fun k hk _ => Go.Sort.heap_grow_old w os hk⟩
theorem fr_sortWorldK (m : Nat) (d' : Array α) (os : Array Obj) : Fr (fun k => k = g) w (sortWorldK cells n w g off m d' os) := by
  refine Fr.step (b := putRowK cells n (Go.Sort.ahead w m) g off d') ⟨rfl, rfl, rfl, by simp [Go.Sort.size_putRowK], fun k hk hn => ?_⟩ (fr_grow _ _)
  show (w.heap.modify g _)[k]? = _
  rw [Array.getElem?_modify, if_neg (fun e => hn e.symm)]
theorem Ow.sorted (hlen : ∀ a, (cells a).length = n) (hn : 0 < n) (h : Ow cells n base T w (.slice (some ⟨g, off, none⟩) len cap) l) (hl : 0 < l.length) (m : Nat) (d' : Array α) (os : Array Obj) (hs : d'.size = l.length) :
    Ow cells n base T (sortWorldK cells n w g off m d' os) (.slice (some ⟨g, off, none⟩) len cap) d'.toList := by
  obtain ⟨A, cap', hv, h1, h2, h3⟩ := h
  cases hv
  rcases h3 with rfl | ⟨g', off', cur, hA, hb', hB, h3, h4⟩
  · omega
  · cases hA
    have hin : l.length * n ≤ cap * n := Nat.mul_le_mul_right _ h1
    have hB' : Blk (putRowK cells n (Go.Sort.ahead w m) g off d') g T (putCells id off (flatK cells n d') cur) := by
      show (w.heap.modify g _)[g]? = _
      rw [Array.getElem?_modify, if_pos rfl, show w.heap[g]? = _ from hB]
      rfl
    have hB2 : Blk (sortWorldK cells n w g off m d' os) g T (putCells id off (flatK cells n d') cur) :=
      hB'.fr (S := fun _ => False) (fr_grow _ _) (fun h => h)
    have hdl : d'.toList.length = l.length := by rw [Array.length_toList, hs]
    refine ⟨_, cap, by rw [hdl], by rw [hdl]; exact h1, h2, .inr ⟨g, off, _, rfl, hb', hB2, by simp [putCells]; exact h3, fun i hi f hf => ?_⟩⟩
    have hi' : i < d'.size := by simpa using hi
    have hlt : i * n + f < d'.size * n := by
      have := mul_in (n := n) hi' (Nat.le_refl _)
      omega
    rw [putCells, Array.getElem?_mapIdx, Array.getElem?_eq_getElem (by rw [hs] at hlt; omega), Option.map_some, if_pos ⟨by omega, by rw [Go.Sort.size_flatK]; omega⟩, show off + i * n + f - off = i * n + f by omega, Go.Sort.get_flatK _ _ _ _ hlt]
    have hd : (i * n + f) / n = i := by rw [Nat.mul_comm, Nat.mul_add_div hn, Nat.div_eq_of_lt hf, Nat.add_zero]
    have hm : (i * n + f) % n = f := by rw [Nat.mul_comm, Nat.mul_add_mod, Nat.mod_eq_of_lt hf]
    have e1 : d'[i]! = d'.toList[i] := by rw [get_bang (Array.getElem?_eq_getElem hi')]; simp
    rw [hd, hm, e1, List.getElem?_eq_getElem (by rw [hlen]; exact hf), list_bang (List.getElem?_eq_getElem (by rw [hlen]; exact hf))]
    rfl
end

/-! ### the insertion sort of what lies in an order of its own: that order decides between equals -/
section
variable {α : Type} [Inhabited α] (lt lt' : α → α → Bool) (R : α → α → Prop)
theorem swp_at (d : Array α) {i j : Nat} (hi : i < d.size) (hj : j < d.size) (k : Nat) : (swp d i j)[k]! = if k = j then d[i]! else if k = i then d[j]! else d[k]! := Go.Sort.swp_get d hi hj k
/-- R: what lies ahead; where the later one is asked, both orders say the same -/
theorem insInner_two (hlt : ∀ x y, R x y → lt y x = lt' y x) : ∀ (j : Nat) (d : Array α), j < d.size → (∀ p, p < j → R d[p]! d[j]!) →
    insInner lt 0 j d = insInner lt' 0 j d ∧ (insInner lt 0 j d).size = d.size ∧ (∀ q, j < q → (insInner lt 0 j d)[q]! = d[q]!) ∧ ∀ p, p ≤ j → ∃ p', p' ≤ j ∧ (insInner lt 0 j d)[p]! = d[p']!
  | 0, d, _, _ => ⟨rfl, rfl, fun _ _ => rfl, fun p hp => ⟨p, hp, rfl⟩⟩
  | j + 1, d, hj, hR => by
    have hx := hlt _ _ (hR j (by omega))
    unfold insInner
    rw [hx]
    by_cases hc : (decide (j + 1 > 0) && lt' d[j + 1]! d[j]!) = true
    · rw [if_pos hc, if_pos hc]
      have hsw := fun k => swp_at d hj (show j < d.size by omega) k
      obtain ⟨h1, h2, h3, h4⟩ := insInner_two hlt j (swp d (j + 1) j) (by rw [Go.Sort.swp_size]; omega) (fun p hp => by
        rw [hsw, hsw, if_neg (by omega), if_neg (by omega), if_pos rfl]
        exact hR p (by omega))
      refine ⟨h1, by rw [h2, Go.Sort.swp_size], fun q hq => ?_, fun p hp => ?_⟩
      · rw [h3 q (by omega), hsw, if_neg (by omega), if_neg (by omega)]
      · by_cases hpj : p ≤ j
        · obtain ⟨p', hp', he⟩ := h4 p hpj
          rw [he, hsw]
          by_cases h5 : p' = j
          · rw [if_pos h5]; exact ⟨j + 1, Nat.le_refl _, rfl⟩
          · rw [if_neg h5, if_neg (by omega)]; exact ⟨p', by omega, rfl⟩
        · obtain rfl : p = j + 1 := by omega
          rw [h3 _ (by omega), hsw, if_neg (by omega), if_pos rfl]
          exact ⟨j, by omega, rfl⟩
    · rw [if_neg hc, if_neg hc]
      exact ⟨rfl, rfl, fun _ _ => rfl, fun p hp => ⟨p, hp, rfl⟩⟩
theorem insOuter_two (hlt : ∀ x y, R x y → lt y x = lt' y x) (b : Nat) : ∀ (k i : Nat) (d : Array α), b - i = k → b = d.size → (∀ p q, p < q → i ≤ q → q < b → R d[p]! d[q]!) → insOuter lt 0 b i d = insOuter lt' 0 b i d
  | 0, i, d, hk, hb, hR => by
    unfold insOuter
    rw [if_neg (by omega), if_neg (by omega)]
  | k + 1, i, d, hk, hb, hR => by
    obtain ⟨h1, h2, h3, h4⟩ := insInner_two lt lt' R hlt i d (by omega) (fun p hp => hR p i hp (Nat.le_refl _) (by omega))
    have e1 : ∀ f : α → α → Bool, insOuter f 0 b i d = insOuter f 0 b (i + 1) (insInner f 0 i d) := fun f => by
      rw [insOuter, if_pos (by omega)]
    rw [e1, e1, ← h1]
    refine insOuter_two hlt b k (i + 1) _ (by omega) (by rw [h2]; exact hb) (fun p q hpq hq hqb => ?_)
    rw [h3 q (by omega)]
    by_cases hp : p ≤ i
    · obtain ⟨p', hp', he⟩ := h4 p hp
      rw [he]
      exact hR p' q (by omega) (by omega) hqb
    · rw [h3 p (by omega)]
      exact hR p q hpq (by omega) hqb
/-- the insertion sort of a list whose elements lie in the order R, by lt: it is in order by lt' -/
theorem insertionSort_two (hlt : ∀ x y, R x y → lt y x = lt' y x) (hS : SWO lt') (l : List α) (hR : l.Pairwise R) :
    (insertionSort lt l.toArray 0 l.length).toList.Perm l ∧ (insertionSort lt l.toArray 0 l.length).toList.Pairwise (fun x y => lt' y x = false) := by
  have hat : ∀ p q, p < q → q < l.length → R l.toArray[p]! l.toArray[q]! := fun p q hpq hq => by
    rw [get_bang (show l.toArray[p]? = some l[p] by simp), get_bang (show l.toArray[q]? = some l[q] by simp [hq])]
    exact List.pairwise_iff_getElem.1 hR p q (by omega) hq hpq
  have e : insertionSort lt l.toArray 0 l.length = insertionSort lt' l.toArray 0 l.length :=
    insOuter_two lt lt' R hlt l.length _ 1 l.toArray rfl (by simp) (fun p q hpq _ hq => hat p q hpq hq)
  rw [e]
  clear e
  obtain ⟨h1, h2⟩ := Go.Sort.insertionSort_holds (lt := lt') hS l.toArray 0 l.length (Nat.zero_le _) (by simp)
  obtain ⟨hs, _, hp⟩ := h1
  have hsz : (insertionSort lt' l.toArray 0 l.length).size = l.length := by rw [hs]; simp
  constructor
  · have e1 : ∀ X : Array α, X.size = l.length → X.extract 0 l.length = X := fun X hX => by
      rw [← hX]; exact Array.extract_size
    rw [e1 _ hsz, e1 _ (by simp)] at hp
    simpa using hp
  · rw [List.pairwise_iff_getElem]
    intro i j hi hj hij
    have hj' : j < l.length := by rw [← hsz]; simpa using hj
    have := h2 i j (Nat.zero_le _) hij hj'
    rw [get_bang (Array.getElem?_eq_getElem (show i < _ by simpa using hi)), get_bang (Array.getElem?_eq_getElem (show j < _ by simpa using hj))] at this
    simpa using this
end
end Go.Proofs.YtemhdfodghfkfaaGreatDoor
