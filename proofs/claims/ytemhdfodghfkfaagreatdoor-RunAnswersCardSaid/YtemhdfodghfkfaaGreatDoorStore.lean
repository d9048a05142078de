/-
  THE KIT of store.change, and what a store is. CONDITIONS: none.
  CONTRACTS of package store: New, last, done. CONDITIONS: none.
-/
import Derived.Test.YtemhdfodghfkfaaGreatDoorKit
import Derived.Laws.EntriesVeiled
import Derived.Deep.DeepCutAuto
import Derived.Deep.RegionLaw
import Derived.BigQuiet
namespace Go.Proofs.YtemhdfodghfkfaaGreatDoor
open Go.RowKit
open Go.ChangeShapes Go.WideShapes Go.ChangeAt

structure Ch where
  seq : Int
  gone : Bool
  text : ByteArray
def Ch.cells (e : Ch) : List Value := [.int .i64 e.seq, .bool e.gone, .string e.text]
def Ch.val (e : Ch) : Value := .agg #[.int .i64 e.seq, .bool e.gone, .string e.text]
def Ch.zero : Ch := ⟨0, false, ⟨#[]⟩⟩
def Ch.good (e : Ch) : Prop := (-9223372036854775808 ≤ e.seq ∧ e.seq ≤ 9223372036854775807) ∧ True ∧ e.text.size ≤ maxLen
theorem Ch.cells_length (e : Ch) : e.cells.length = 3 := rfl
theorem Ch.zero_good : Ch.zero.good := by unfold Ch.good Ch.zero; decide
theorem Ch.one (e : Ch) : ∀ u ∈ e.cells, u.oneCell' = true := by intro u hu; simp [Ch.cells] at hu; rcases hu with rfl | rfl | rfl <;> rfl
/-- the cells of one, at a place -/
structure ChAt (w : World) (b o : Nat) (e : Ch) : Prop where
  c0 : w.cell? ⟨b, o, none⟩ = some (.int .i64 e.seq)
  c1 : w.cell? ⟨b, o + 1, none⟩ = some (.bool e.gone)
  c2 : w.cell? ⟨b, o + 2, none⟩ = some (.string e.text)
theorem ChAt.stays {w w' : World} {b o : Nat} {e : Ch} (h : ChAt w b o e) (hb : Below w.heap.size w w') (hl : b < w.heap.size) : ChAt w' b o e :=
  ⟨(hb.cell (p := ⟨b, _, none⟩) hl).trans h.c0, (hb.cell (p := ⟨b, _, none⟩) hl).trans h.c1, (hb.cell (p := ⟨b, _, none⟩) hl).trans h.c2⟩
theorem ChAt.fr {S : Nat → Prop} {w w' : World} {b o : Nat} {e : Ch} (h : ChAt w b o e) (hb : Fr S w w') (hl : b < w.heap.size) (hn : ¬ S b) : ChAt w' b o e :=
  ⟨(hb.cell (p := ⟨b, _, none⟩) hl hn).trans h.c0, (hb.cell (p := ⟨b, _, none⟩) hl hn).trans h.c1, (hb.cell (p := ⟨b, _, none⟩) hl hn).trans h.c2⟩
theorem ChAt.of_blk {w : World} {g : Nat} {t : TypeId} {e : Ch} (h : Blk w g t #[.int .i64 e.seq, .bool e.gone, .string e.text]) : ChAt w g 0 e :=
  ⟨h.cell 0, h.cell 1, h.cell 2⟩
/-- a row of them, as it came in or as a call handed it back -/
structure ChsAt (w : World) (s : SlV Ch) : Prop where
  row : 0 < s.xs.length → ∃ b off, s.A = some ⟨b, off, none⟩ ∧ b < w.heap.size ∧ ∀ i, i < s.xs.length → ChAt w b (off + i * 3) (s.xs.getD i Ch.zero)
  each : ∀ x ∈ s.xs, x.good
  len : s.xs.length ≤ maxLen
theorem ChsAt.stays {w w' : World} {s : SlV Ch} (h : ChsAt w s) (hb : Below w.heap.size w w') : ChsAt w' s := ⟨fun h0 => by
    obtain ⟨b, off, h1, h2, h3⟩ := h.row h0
    exact ⟨b, off, h1, Nat.lt_of_lt_of_le h2 hb.size, fun i hi => (h3 i hi).stays hb h2⟩, h.each, h.len⟩
theorem ChsAt.fr {S : Nat → Prop} {w w' : World} {s : SlV Ch} (h : ChsAt w s) (hb : Fr S w w') (hn : 0 < s.xs.length → ∀ b off, s.A = some ⟨b, off, none⟩ → ¬ S b) : ChsAt w' s := ⟨fun h0 => by
    obtain ⟨b, off, h1, h2, h3⟩ := h.row h0
    exact ⟨b, off, h1, Nat.lt_of_lt_of_le h2 hb.size, fun i hi => (h3 i hi).fr hb h2 (hn h0 _ _ h1)⟩, h.each, h.len⟩
theorem ChAt.drewN {w : World} {b o : Nat} {e : Ch} (h : ChAt w b o e) (n : Nat) : ChAt (w.drewN n) b o e := ⟨h.c0, h.c1, h.c2⟩
theorem ChsAt.drewN {w : World} {s : SlV Ch} (h : ChsAt w s) (n : Nat) : ChsAt (w.drewN n) s := ⟨fun h0 => by
    obtain ⟨b, off, h1, h2, h3⟩ := h.row h0
    exact ⟨b, off, h1, h2, fun i hi => (h3 i hi).drewN n⟩, h.each, h.len⟩
theorem ChsAt.empty (w : World) (A : Option Addr) (c : Nat) : ChsAt w ⟨A, c, []⟩ := ⟨(fun h => by cases h), (fun x hx => by cases hx), Nat.zero_le _⟩
/-- a slice of the call's own, as a caller reads it -/
theorem ChsAt.of_ow {w : World} {base : Nat} {T : TypeId} {v : Value} {l : List Ch} (h : Ow Ch.cells 3 base T w v l) (hg : ∀ x ∈ l, x.good) :
    ∃ r : SlV Ch, v = .slice r.A r.xs.length r.c ∧ r.xs = l ∧ ChsAt w r ∧ r.ok ∧ (0 < r.xs.length → ∀ b off, r.A = some ⟨b, off, none⟩ → foot v = some b ∧ base ≤ b) := by
  by_cases h0 : 0 < l.length
  · obtain ⟨g, off, cap, rfl, h1, h2, hb, hlt, hfo, hc, _⟩ := h.get h0
    refine ⟨⟨some ⟨g, off, none⟩, cap, l⟩, rfl, rfl, ⟨fun _ => ⟨g, off, rfl, hlt, fun i hi => ?_⟩, hg, by show l.length ≤ maxLen; omega⟩, ⟨h1, h2⟩, fun _ b off hA => by cases hA; exact ⟨hfo, hb⟩⟩
    have hi' : i < l.length := hi
    have hx : l.getD i Ch.zero = l[i] := getD_get _ hi'
    simp only []
    rw [hx]
    exact ⟨hc i hi' 0 (by decide), hc i hi' 1 (by decide), hc i hi' 2 (by decide)⟩
  · have hl0 : l = [] := by cases l with | nil => rfl | cons a r => simp at h0
    subst hl0
    obtain ⟨A, cap, rfl, h1, h2, _⟩ := h
    exact ⟨⟨A, cap, []⟩, rfl, rfl, ChsAt.empty _ _ _, ⟨h1, h2⟩, fun h => by simp at h⟩
theorem ChsAt.src {P : Program} {TS T : TypeId} (hk : P.underlying TS = some (.slice T)) {w : World} {s : SlV Ch} (h : ChsAt w s) : Src P 3 TS (.slice s.A s.xs.length s.c) s.xs.length (s.xs.flatMap Ch.cells) w := by
  obtain ⟨A, c, xs⟩ := s
  by_cases h0 : 0 < xs.length
  · obtain ⟨b, off, hA, hlt, hc⟩ := h.row h0
    simp only at hA hc ⊢
    subst hA
    refine Src.ofSlice w hk ⟨b, off, none⟩ xs.length c _ (flat_length _ _ Ch.cells_length _) (fun j u hj => ?_) (fun u hu => ?_)
    · have hjl : j < xs.length * 3 := by rw [← flat_length _ _ Ch.cells_length xs]; exact (List.getElem?_eq_some_iff.1 hj).1
      have hq : j / 3 < xs.length := by omega
      have hm : j % 3 < 3 := Nat.mod_lt _ (by decide)
      have hg := flat_get _ _ Ch.cells_length xs _ _ hq hm
      rw [show j / 3 * 3 + j % 3 = j by omega, hj, ← getD_get Ch.zero hq] at hg
      have hx := hc _ hq
      rw [Addr_add, show off + j = off + j / 3 * 3 + j % 3 by omega]
      generalize xs.getD (j / 3) Ch.zero = y at hg hx
      generalize j % 3 = f at hg hm ⊢
      rw [hg]
      match f, hm with
      | 0, _ => exact hx.c0
      | 1, _ => exact hx.c1
      | 2, _ => exact hx.c2
    · obtain ⟨x, _, hx⟩ := List.mem_flatMap.1 hu
      exact x.one u hx
  · have hl0 : xs = [] := by cases xs with | nil => rfl | cons a r => simp at h0
    subst hl0
    cases A with
    | none => exact Src.ofNil w hk c
    | some a => exact Src.ofSlice w hk a 0 c [] rfl (fun j u hj => by simp at hj) (fun u hu => by simp at hu)
theorem infoCh : (Tryz.prog.info? 209).map (fun i => (i.zero, i.size, i.bytes)) = some (some Ch.zero.val, 3, 32) := by kernel_rfl
theorem appCh {ops : Array Oper} {rest : List Oper} {o : Oper} {a : Act} {Q : Exit → Act → World → Prop} (X : World) (base : Nat) (v : Value) (l : List Ch) (x0 : Int) (x1 : Bool) (x2 : ByteArray) (hown : Ow Ch.cells 3 base 209 X v l)
    (hgd : o.guard = none) (p q : Operand) (ho : o.op = .call { callee := .builtin .append, args := #[p, q], argTypes := #[131, 131] }) (hp : a.eval p = v) {N : Nat} (hq : a.eval q = .slice (some ⟨N, 0, none⟩) 1 1) (hN : X.heap.size = N) (hl : l.length ≤ 100000000) (hb : base ≤ X.heap.size)
    (h : ∀ v' w', Ow Ch.cells 3 base 209 w' v' (l ++ [⟨x0, x1, x2⟩]) → Fr (fun k => some k = foot v) X w' → (foot v' = foot v ∨ foot v' = some (X.heap.size + 1)) → wpList Tryz.prog ops Q rest (a.put o.dst v') w') :
    wpList Tryz.prog ops Q (o :: rest) a (X.alloc (.cells #[.int .i64 x0, .bool x1, .string x2] 209)) := by
  subst hN
  exact app_src Ch.cells 3 32 Ch.cells_length (by decide) (by decide) _ _ 131 Ch.zero.val rfl Tryz.underlying131 infoCh hgd p q ho _ base v _ l [⟨x0, x1, x2⟩] hp hq
    (Src.ofSlice _ Tryz.underlying131 ⟨X.heap.size, 0, none⟩ 1 1 _ rfl (fun j u hj => by rw [Addr_add, Nat.zero_add, (Blk.new X 209 _).cell j]; simpa [Ch.cells] using hj) (fun u hu => by simp at hu; exact Ch.one _ u hu)) (hown.alloc _) (by simp; omega) (by simp; omega) (fun v' w' h1 h2 h3 => h v' w' h1 (((Fr.refl _ _).alloc _).step h2) (by simpa using h3))
theorem appChat {ops : Array Oper} {o : Oper} {a : Act} {K : Act → World → Prop} {Q : Exit → Act → World → Prop} {EE : Prop} (X : World) (base : Nat) (v : Value) (l : List Ch) (x0 : Int) (x1 : Bool) (x2 : ByteArray) (g' : Nat) (hbox : ChAt X g' 0 ⟨x0, x1, x2⟩) (hown : Ow Ch.cells 3 base 209 X v l)
    (hgd : o.guard = none) (p q : Operand) (ho : o.op = .call { callee := .builtin .append, args := #[p, q], argTypes := #[131, 131] }) (hp : a.eval p = v) (hq : a.eval q = .slice (some ⟨g', 0, none⟩) 1 1) (hl : l.length ≤ 100000000) (hb : base ≤ X.heap.size)
    (h : ∀ v' w', Ow Ch.cells 3 base 209 w' v' (l ++ [⟨x0, x1, x2⟩]) → Fr (fun k => some k = foot v) X w' → (foot v' = foot v ∨ foot v' = some X.heap.size) → K (a.put o.dst v') w') :
    if Region.wanted o (yielded ops a.tmps) = true then Oper.wp Tryz.prog o a X K Q else EE :=
  app_step Ch.cells 3 32 Ch.cells_length (by decide) (by decide) _ _ 131 Ch.zero.val rfl Tryz.underlying131 infoCh hgd p q ho _ base v _ l [⟨x0, x1, x2⟩] hp hq
    (Src.ofSlice _ Tryz.underlying131 ⟨g', 0, none⟩ 1 1 _ rfl (fun j u hj => by
      rw [Addr_add]
      have hj' : (([⟨x0, x1, x2⟩] : List Ch).flatMap Ch.cells)[j]? = some u := hj
      match j, hj' with
      | 0, hj' => simp [Ch.cells] at hj'; subst hj'; first | exact hbox.c0 | (rw [Nat.zero_add]; exact hbox.c0)
      | 1, hj' => simp [Ch.cells] at hj'; subst hj'; first | exact hbox.c1 | (rw [Nat.zero_add]; exact hbox.c1)
      | 2, hj' => simp [Ch.cells] at hj'; subst hj'; first | exact hbox.c2 | (rw [Nat.zero_add]; exact hbox.c2)
      | j + 3, hj' => simp [Ch.cells] at hj') (fun u hu => by simp at hu; exact Ch.one _ u hu)) hown (by simp; omega) hb h
theorem appChs {ops : Array Oper} {rest : List Oper} {o : Oper} {a : Act} {Q : Exit → Act → World → Prop} (X : World) (base : Nat) (v : Value) (l : List Ch) (r : SlV Ch) (hr : ChsAt X r) (hown : Ow Ch.cells 3 base 209 X v l)
    (hgd : o.guard = none) (p q : Operand) (ho : o.op = .call { callee := .builtin .append, args := #[p, q], argTypes := #[131, 131] }) (hp : a.eval p = v) (hq : a.eval q = .slice r.A r.xs.length r.c) (hl : l.length + r.xs.length ≤ 1000000000) (hb : base ≤ X.heap.size)
    (h : ∀ v' w', Ow Ch.cells 3 base 209 w' v' (l ++ r.xs) → Fr (fun k => some k = foot v) X w' → (foot v' = foot v ∨ foot v' = some X.heap.size) → wpList Tryz.prog ops Q rest (a.put o.dst v') w') :
    wpList Tryz.prog ops Q (o :: rest) a X :=
  app_src Ch.cells 3 32 Ch.cells_length (by decide) (by decide) _ _ 131 Ch.zero.val rfl Tryz.underlying131 infoCh hgd p q ho _ base v _ l r.xs hp hq (hr.src Tryz.underlying131) hown hl hb h
theorem appChss {ops : Array Oper} {o : Oper} {a : Act} {K : Act → World → Prop} {Q : Exit → Act → World → Prop} {EE : Prop} (X : World) (base : Nat) (v : Value) (l : List Ch) (r : SlV Ch) (hr : ChsAt X r) (hown : Ow Ch.cells 3 base 209 X v l)
    (hgd : o.guard = none) (p q : Operand) (ho : o.op = .call { callee := .builtin .append, args := #[p, q], argTypes := #[131, 131] }) (hp : a.eval p = v) (hq : a.eval q = .slice r.A r.xs.length r.c) (hl : l.length + r.xs.length ≤ 1000000000) (hb : base ≤ X.heap.size)
    (h : ∀ v' w', Ow Ch.cells 3 base 209 w' v' (l ++ r.xs) → Fr (fun k => some k = foot v) X w' → (foot v' = foot v ∨ foot v' = some X.heap.size) → K (a.put o.dst v') w') :
    if Region.wanted o (yielded ops a.tmps) = true then Oper.wp Tryz.prog o a X K Q else EE :=
  app_step Ch.cells 3 32 Ch.cells_length (by decide) (by decide) _ _ 131 Ch.zero.val rfl Tryz.underlying131 infoCh hgd p q ho _ base v _ l r.xs hp hq (hr.src Tryz.underlying131) hown hl hb h
theorem Tryz.cellsCh : Tryz.prog.cellsOf 209 = 3 := by kernel_rfl
def codecCh : Codec Tryz.prog 209 Ch where
  cells e := e.cells
  good _ e := e.good
  opens h := by
    obtain ⟨hlen, n, hf⟩ := trod_fields Tryz.underlying209 (by kernel_rfl) (by kernel_rfl) h
    obtain ⟨c0, y0, e0, h0⟩ := hf 0 _ rfl
    obtain ⟨c1, y1, e1, h1⟩ := hf 1 _ rfl
    obtain ⟨c2, y2, e2, h2⟩ := hf 2 _ rfl
    obtain ⟨a0, b0, g0⟩ := (Codec.int Tryz.underlying3).opens h0
    obtain ⟨a1, b1, g1⟩ := (Codec.bool Tryz.underlying4).opens h1
    obtain ⟨a2, b2, g2⟩ := (Codec.str Tryz.underlying9).opens h2
    simp only [Codec.int, Codec.bool, Codec.str, List.cons.injEq, and_true] at b0 b1 b2
    subst b0 b1 b2
    refine ⟨⟨a0, a1, a2⟩, ?_, g0, g1, g2⟩
    apply List.ext_getElem?
    intro i
    match i with
    | 0 => exact e0
    | 1 => exact e1
    | 2 => exact e2
    | i + 3 => rw [List.getElem?_eq_none (by rw [hlen]; exact Nat.le_add_left 3 i), List.getElem?_eq_none (by simp [Ch.cells])]
  stays h _ := h
def codecChs : Codec Tryz.prog 131 (SlV Ch) := Codec.slice Tryz.underlying131 codecCh (pos_of_eq Tryz.cellsCh (by decide))
theorem ChsAt_of {w : World} {s : SlV Ch} (h : codecChs.good w s) : ChsAt w s where
  row hn := by
    obtain ⟨b, off, hA, hb, hc⟩ := h.1 hn
    refine ⟨b, off, hA, hb, fun i hi => ?_⟩
    have hcc := fun f (hf : f < 3) => hc i hi f (by rw [Tryz.cellsCh]; exact hf)
    rw [Tryz.cellsCh] at hcc
    rw [getD_get _ hi]
    exact ⟨hcc 0 (by decide), hcc 1 (by decide), hcc 2 (by decide)⟩
  each := h.2.1
  len := Nat.le_trans h.2.2.1 h.2.2.2

theorem Blk.put3 {w : World} {g : Nat} {t : TypeId} {a b c : Value} (h : Blk w g t #[a, b, c]) (x0 x1 x2 : Value) :
    Blk (((w.setCell ⟨g, 0, none⟩ x0).setCell ⟨g, 1, none⟩ x1).setCell ⟨g, 2, none⟩ x2) g t #[x0, x1, x2] := ((h.put 0 x0).put 1 x1).put 2 x2
/-- a struct result alone, out of its box -/
theorem results_box1 {P : Program} {fn : Func} {p : Tmp} {ty t : TypeId} {tmps : Array Value} {w : World} {g : Nat} {cs : Array Value} {d : TypeDesc} (h : fn.results = #[.cell p ty])
    (hp : tmps.getD p undef = .pointer (some ⟨g, 0, none⟩)) (hg : Blk w g t cs) (hu : P.underlying ty = some d) (hd : (match d with | .struct _ | .array _ _ => true | _ => false) = true) (hi : (P.info? ty).map (·.size) = some cs.size) :
    (results fn tmps).run P w = .ok (.agg cs) w := by
  have hp' : tmps[p]?.getD undef = .pointer (some ⟨g, 0, none⟩) := by simpa using hp
  simp [results, h, hp', asAddr, run_loadVar_row w g t ty cs (0, 0) d hg hu hd hi]

/-- the last change up to a number -/
def Ch.none : Ch := ⟨0, true, ⟨#[]⟩⟩
def lastC (l : List Ch) (q : Int) : Ch := l.foldl (fun o c => if c.seq ≤ q then c else o) Ch.none
theorem lastC_snoc (l : List Ch) (c : Ch) (q : Int) : lastC (l ++ [c]) q = if c.seq ≤ q then c else lastC l q := by
  unfold lastC; rw [List.foldl_append]; rfl
theorem snoc_ind {α : Type} {P : List α → Prop} (l : List α) (h0 : P []) (h1 : ∀ l a, P l → P (l ++ [a])) : P l := by
  rw [← List.reverse_reverse l]
  induction l.reverse with
  | nil => exact h0
  | cons a r ih => rw [List.reverse_cons]; exact h1 _ a ih
theorem lastC_mem (l : List Ch) (q : Int) : lastC l q = Ch.none ∨ (lastC l q ∈ l ∧ (lastC l q).seq ≤ q) := by
  refine snoc_ind (P := fun l => lastC l q = Ch.none ∨ (lastC l q ∈ l ∧ (lastC l q).seq ≤ q)) l (.inl rfl) fun l c ih => ?_
  · rw [lastC_snoc]
    split
    · exact .inr ⟨by simp, by assumption⟩
    · rcases ih with h | ⟨h1, h2⟩
      · exact .inl h
      · exact .inr ⟨by simp [h1], h2⟩

def nilS : Value := .slice none 0 0
/-- a store's lists, in plain -/
structure StP (ls : List (List Ch)) (n : Int) : Prop where
  len : ls.length = 8
  lo : 0 ≤ n
  hi : n ≤ 1000
  good : ∀ k c, c ∈ ls.getD k [] → c.good
  short : ∀ k, ((ls.getD k []).length : Int) ≤ n
/-- the store at s -/
structure StoreO (base : Nat) (w : World) (s : Nat) (vs : List Value) (ls : List (List Ch)) (n : Int) : Prop where
  blk : Blk w s 134 (.int .i64 n :: vs).toArray
  len : vs.length = 8
  own : ∀ k, k < 8 → Ow Ch.cells 3 base 209 w (vs.getD k nilS) (ls.getD k [])
  apart : ∀ j k, j < 8 → k < 8 → j ≠ k → ∀ g, foot (vs.getD j nilS) = some g → foot (vs.getD k nilS) ≠ some g
  off : ∀ k, k < 8 → foot (vs.getD k nilS) ≠ some s
  base : base ≤ s
section
variable {base s : Nat} {w w' : World} {vs : List Value} {ls : List (List Ch)} {n : Int}
theorem StoreO.fr {S : Nat → Prop} (h : StoreO base w s vs ls n) (hf : Fr S w w') (h1 : ¬ S s) (h2 : ∀ k, k < 8 → ∀ g, foot (vs.getD k nilS) = some g → ¬ S g) : StoreO base w' s vs ls n :=
  ⟨h.blk.fr hf h1, h.len, fun k hk => (h.own k hk).fr hf (h2 k hk), h.apart, h.off, h.base⟩
theorem StoreO.belowS (h : StoreO base w s vs ls n) (hb : Below w.heap.size w w') : StoreO base w' s vs ls n :=
  h.fr (S := fun _ => False) (Fr.ofB hb) (fun h => h) (fun _ _ _ _ h => h)
theorem StoreO.lt (h : StoreO base w s vs ls n) : s < w.heap.size := h.blk.lt
theorem StoreO.footlt (h : StoreO base w s vs ls n) {k : Nat} (hk : k < 8) {g : Nat} (hg : foot (vs.getD k nilS) = some g) : base ≤ g ∧ g < w.heap.size := (h.own k hk).lt hg
theorem StoreO.seq (h : StoreO base w s vs ls n) : w.cell? ⟨s, 0, none⟩ = some (.int .i64 n) := h.blk.cell 0
theorem StoreO.at (h : StoreO base w s vs ls n) {k : Nat} (hk : k < 8) : w.cell? ⟨s, 1 + k, none⟩ = some (vs.getD k nilS) := by
  rw [h.blk.cell (1 + k), List.getElem?_toArray, Nat.add_comm, List.getElem?_cons_succ, List.getD, List.getElem?_eq_getElem (by rw [h.len]; exact hk), Option.getD_some]
end
theorem set_getD {α : Type} (l : List α) (i j : Nat) (x z : α) (hi : i < l.length) : (l.set i x).getD j z = if i = j then x else l.getD j z := by
  simp only [List.getD, List.getElem?_set]
  by_cases h : i = j
  · rw [if_pos h, if_pos h, if_pos hi]; rfl
  · rw [if_neg h, if_neg h]
/-- a change more -/
theorem StP.more {ls : List (List Ch)} {n : Int} (h : StP ls n) (hn : n < 1000) (k : Nat) (g : Bool) (t : ByteArray) (ht : t.size ≤ maxLen) : StP (ls.set k (ls.getD k [] ++ [⟨n + 1, g, t⟩])) (n + 1) := by
  have h0 := h.lo
  refine ⟨by rw [List.length_set, h.len], by omega, by omega, fun j c hc => ?_, fun j => ?_⟩
  · by_cases hk : k < ls.length
    · rw [set_getD _ _ _ _ _ hk] at hc
      split at hc
      · rename_i he
        rcases List.mem_append.1 hc with hc | hc
        · exact h.good _ c hc
        · rw [List.mem_singleton.1 hc]
          refine ⟨?_, trivial, ht⟩
          simp only
          omega
      · exact h.good _ c hc
    · rw [List.set_eq_of_length_le (by omega)] at hc
      exact h.good _ c hc
  · by_cases hk : k < ls.length
    · rw [set_getD _ _ _ _ _ hk]
      split
      · have := h.short k
        rw [List.length_append, List.length_singleton]
        omega
      · have := h.short j
        omega
    · rw [List.set_eq_of_length_le (by omega)]
      have := h.short j
      omega
end Go.Proofs.YtemhdfodghfkfaaGreatDoor
namespace Go.Proofs.YtemhdfodghfkfaaGreatDoor
open Go.RowKit
open Go.ChangeShapes Go.WideShapes Go.ChangeAt

theorem snew_any (w : World) : Calls Tryz.prog 40 #[] w fun e w' => e = .returned (.pointer (some ⟨w.heap.size, 0, none⟩)) ∧ StoreO w.heap.size w' w.heap.size (List.replicate 8 nilS) (List.replicate 8 []) 0 ∧ Below w.heap.size w w' := by
  go_enter Tryz.func40, Tryz.ntmps40
  go_wp2
  go_ret
  refine ⟨rfl, ⟨Blk.new _ _ _, rfl, fun k hk => ?_, fun j k hj hk _ g h => ?_, fun k hk h => ?_, Nat.le_refl _⟩, by (repeat (first | with_reducible exact Below.refl _ _ | with_reducible assumption | (with_reducible refine Below.drew ?_) | (with_reducible refine Below.manyDrew ?_ _) | ((with_reducible refine Below.alloc ?_ ?_ _); rotate_left; (focus (first | omega | (dsimp only; omega) | (simp; done) | (simp; omega)))) | ((with_reducible refine Below.setCell ?_ ?_ _); rotate_left; (focus (first | omega | (dsimp only; omega) | (simp; done) | (simp; omega)))) | ((with_reducible refine Below.step ?_ (by assumption) ?_); rotate_left; (focus (first | omega | (dsimp only; omega) | (simp; done) | (simp; omega))))))⟩
  · have e1 : (List.replicate 8 nilS).getD k nilS = nilS := by simp only [List.getD, List.getElem?_replicate]; split <;> rfl
    have e2 : (List.replicate 8 ([] : List Ch)).getD k [] = [] := by simp only [List.getD, List.getElem?_replicate]; split <;> rfl
    rw [e1, e2]
    exact Ow.nil _ _ _ _ _
  · have e1 : (List.replicate 8 nilS).getD j nilS = nilS := by simp only [List.getD, List.getElem?_replicate]; split <;> rfl
    rw [e1] at h; cases h
  · have e1 : (List.replicate 8 nilS).getD k nilS = nilS := by simp only [List.getD, List.getElem?_replicate]; split <;> rfl
    rw [e1] at h; cases h
theorem StP.new : StP (List.replicate 8 []) 0 := by
  have e2 : ∀ k, (List.replicate 8 ([] : List Ch)).getD k [] = [] := fun k => by simp only [List.getD, List.getElem?_replicate]; split <;> rfl
  refine ⟨rfl, Int.le_refl _, by omega, fun k c hc => ?_, fun k => ?_⟩
  · rw [e2] at hc; cases hc
  · rw [e2]; simp

set_option maxHeartbeats 2000000 in
theorem last_any (base s k : Nat) (q : Int) (vs : List Value) (ls : List (List Ch)) (n : Int) (hk : k < 8) (w : World) (hO : StoreO base w s vs ls n) (hP : StP ls n) :
    Calls Tryz.prog 136 #[.pointer (some ⟨s, 0, none⟩), .int .i64 k, .int .i64 q] w fun e w' => e = .returned (lastC (ls.getD k []) q).val ∧ Below w.heap.size w w' := by
  obtain ⟨r, hv, hrx, hrA, _, _⟩ := ChsAt.of_ow (hO.own k hk) (hP.good k)
  have hat : w.cell? ⟨s, 1 + k, none⟩ = some (.slice r.A r.xs.length r.c) := by rw [← hv]; exact hO.at hk
  have hsl := hO.lt
  have hsh := hP.short k
  have hhi := hP.hi
  rw [← hrx] at hsh ⊢
  have hlen : r.xs.length ≤ 1000 := by omega
  clear hO hP hv hrx hsh hhi
  go_enter Tryz.func136, Tryz.ntmps136
  go_wp2_with fail
  go_loopw [18] (fun i wr => ∃ m : Nat, m ≤ r.xs.length ∧ i = .int .i64 m ∧ Blk wr w.heap.size 209 #[.int .i64 0, .bool false, .string ⟨#[]⟩] ∧ Blk wr (w.heap.size + 1) 209 #[.int .i64 (lastC (r.xs.take m) q).seq, .bool (lastC (r.xs.take m) q).gone, .string (lastC (r.xs.take m) q).text] ∧ Below w.heap.size w wr) (fun i _ => r.xs.length - (intOf i).toNat)
  case atStart =>
    refine ⟨0, Nat.zero_le _, rfl, ?_, ?_, by (repeat (first | with_reducible exact Below.refl _ _ | with_reducible assumption | (with_reducible refine Below.drew ?_) | (with_reducible refine Below.manyDrew ?_ _) | ((with_reducible refine Below.alloc ?_ ?_ _); rotate_left; (focus (first | omega | (dsimp only; omega) | (simp; done) | (simp; omega)))) | ((with_reducible refine Below.setCell ?_ ?_ _); rotate_left; (focus (first | omega | (dsimp only; omega) | (simp; done) | (simp; omega)))) | ((with_reducible refine Below.step ?_ (by assumption) ?_); rotate_left; (focus (first | omega | (dsimp only; omega) | (simp; done) | (simp; omega))))))⟩
    · exact (Blk.new w _ _).alloc _
    · exact Blk.new_at (by simp)
  case round =>
    obtain ⟨m, hm, rfl, hB0, hB1, hbr⟩ := hrel
    have hz0 := hbr.size
    have hz1 := hB1.lt
    have f0 := hB1.frozen 0
    have f1 := hB1.frozen 1
    have f2 := hB1.frozen 2
    have c0 := hB1.cell 0
    have c1 := hB1.cell 1
    have c2 := hB1.cell 2
    have HB0 := hid hB0
    have HB1 := hid hB1
    clear hB0 hB1
    by_cases hlt : m < r.xs.length
    · obtain ⟨g, off, hA, hgl, hcells⟩ := hrA.row (by omega)
      obtain ⟨k0, k1, k2⟩ := (hcells m hlt).stays hbr hgl
      have HT := hid (take_snocD Ch.zero hlt)
      have HS := hid (lastC_snoc (r.xs.take m) (r.xs.getD m Ch.zero) q)
      rw [← HT.out] at HS
      generalize r.xs.getD m Ch.zero = y at *
      obtain ⟨y0, y1, y2⟩ := y
      generalize lastC (r.xs.take m) q = o at *
      obtain ⟨o0, o1, o2⟩ := o
      have hn0 : w.heap.size ≠ wr.heap.size := by omega
      have hn1 : w.heap.size + 1 ≠ wr.heap.size := by omega
      simp only at k0 k1 k2 c0 c1 c2
      rw [hA] at *
      clear hA hcells
      by_cases hq : y0 ≤ q
      · go_wp2_with fail
        go_roundw
        case rel =>
          refine ⟨m + 1, by omega, by go_num, ?_, ?_, by (repeat (first | with_reducible exact Below.refl _ _ | with_reducible assumption | (with_reducible refine Below.drew ?_) | (with_reducible refine Below.manyDrew ?_ _) | ((with_reducible refine Below.alloc ?_ ?_ _); rotate_left; (focus (first | omega | (dsimp only; omega) | (simp; done) | (simp; omega)))) | ((with_reducible refine Below.setCell ?_ ?_ _); rotate_left; (focus (first | omega | (dsimp only; omega) | (simp; done) | (simp; omega)))) | ((with_reducible refine Below.step ?_ (by assumption) ?_); rotate_left; (focus (first | omega | (dsimp only; omega) | (simp; done) | (simp; omega))))))⟩
          · exact (((HB0.out.far (p := ⟨w.heap.size + 1, 0, none⟩) (by simp) _).far (p := ⟨w.heap.size + 1, 1, none⟩) (by simp) _).far (p := ⟨w.heap.size + 1, 2, none⟩) (by simp) _).alloc _
          · rw [HS.out, if_pos hq]
            exact (HB1.out.put3 _ _ _).alloc _
        case measure => simp [intOf]; omega
      · go_wp2_with fail
        go_roundw
        case rel =>
          refine ⟨m + 1, by omega, by go_num, HB0.out.alloc _, ?_, by (repeat (first | with_reducible exact Below.refl _ _ | with_reducible assumption | (with_reducible refine Below.drew ?_) | (with_reducible refine Below.manyDrew ?_ _) | ((with_reducible refine Below.alloc ?_ ?_ _); rotate_left; (focus (first | omega | (dsimp only; omega) | (simp; done) | (simp; omega)))) | ((with_reducible refine Below.setCell ?_ ?_ _); rotate_left; (focus (first | omega | (dsimp only; omega) | (simp; done) | (simp; omega)))) | ((with_reducible refine Below.step ?_ (by assumption) ?_); rotate_left; (focus (first | omega | (dsimp only; omega) | (simp; done) | (simp; omega))))))⟩
          rw [HS.out, if_neg hq]
          exact HB1.out.alloc _
        case measure => simp [intOf]; omega
    · obtain rfl : m = r.xs.length := by omega
      rw [List.take_length] at *
      have g0 := HB0.out.frozen 0
      have g1 := HB0.out.frozen 1
      have g2 := HB0.out.frozen 2
      have d0 := HB0.out.cell 0
      have d1 := HB0.out.cell 1
      have d2 := HB0.out.cell 2
      go_wp2_with fail
      refine bodyPost_ret (v := (lastC r.xs q).val) ?_ rfl ⟨rfl, by (repeat (first | with_reducible exact Below.refl _ _ | with_reducible assumption | (with_reducible refine Below.drew ?_) | (with_reducible refine Below.manyDrew ?_ _) | ((with_reducible refine Below.alloc ?_ ?_ _); rotate_left; (focus (first | omega | (dsimp only; omega) | (simp; done) | (simp; omega)))) | ((with_reducible refine Below.setCell ?_ ?_ _); rotate_left; (focus (first | omega | (dsimp only; omega) | (simp; done) | (simp; omega)))) | ((with_reducible refine Below.step ?_ (by assumption) ?_); rotate_left; (focus (first | omega | (dsimp only; omega) | (simp; done) | (simp; omega))))))⟩
      exact results_box1 Tryz.results136 rfl (HB0.out.put3 _ _ _) Tryz.underlying209 rfl (by kernel_rfl)

set_option maxHeartbeats 4000000 in
theorem done_full (base s k : Nat) (g : Bool) (t : ByteArray) (vs : List Value) (ls : List (List Ch)) (w : World) (hO : StoreO base w s vs ls 1000) :
    Calls Tryz.prog 135 #[.pointer (some ⟨s, 0, none⟩), .int .i64 k, .bool g, .string t] w fun e w' => e = .returned (.tuple #[.int .i64 0, errV 4]) ∧ w = w' := by
  have hs := hO.seq
  go_enter Tryz.func135, Tryz.ntmps135
  go_wp2_with fail
  go_ret2
  exact ⟨rfl, rfl⟩

theorem cons_set (x : Value) (vs : List Value) (k : Nat) (v : Value) : (x :: vs).toArray.setIfInBounds (1 + k) v = (x :: vs.set k v).toArray := by
  rw [Nat.add_comm]; simp
theorem done_new {base s k : Nat} {w w2 X w8 : World} {vs : List Value} {ls : List (List Ch)} {n m : Int} {v8 : Value} {L' : List Ch} (hO : StoreO base w s vs ls n) (hll8 : ls.length = 8) (hk : k < 8) (hF2 : Fr (fun i => i = s) w w2) (hB2 : Blk w2 s 134 (.int .i64 m :: vs).toArray)
    (hX : Below w2.heap.size w2 X) (h8 : Ow Ch.cells 3 base 209 w8 v8 L') (f8 : Fr (fun i => some i = foot (vs.getD k nilS)) X w8) (o8 : foot v8 = foot (vs.getD k nilS) ∨ ∃ g, foot v8 = some g ∧ w2.heap.size ≤ g) :
    StoreO base (w8.setCell ⟨s, 1 + k, none⟩ v8) s (vs.set k v8) (ls.set k L') m ∧ Fr (fun i => i = s ∨ some i = foot (vs.getD k nilS)) w (w8.setCell ⟨s, 1 + k, none⟩ v8) ∧
      ∀ j, j < 8 → foot ((vs.set k v8).getD j nilS) = foot (vs.getD j nilS) ∨ ∃ g, foot ((vs.set k v8).getD j nilS) = some g ∧ w.heap.size ≤ g := by
  have hz2 := hF2.size
  have hsl := hO.lt
  have hoff := hO.off k hk
  have hkv : k < vs.length := by rw [hO.len]; exact hk
  have hf8s : foot v8 ≠ some s := fun e => by
    rcases o8 with o | ⟨g, o, hg⟩
    · exact hoff (by rw [← o, e])
    · rw [e] at o; cases o; omega
  have hB8 : Blk w8 s 134 (.int .i64 m :: vs).toArray := (hB2.belowS hX).fr f8 (fun e => hoff e.symm)
  have hFs : Fr (fun i => i = s) w8 (w8.setCell ⟨s, 1 + k, none⟩ v8) := (Fr.refl (fun i => i = s) w8).setCell (p := ⟨s, 1 + k, none⟩) (.inl rfl) _
  have hfresh : ∀ j, j < 8 → ∀ g, foot (vs.getD j nilS) = some g → g < w2.heap.size := fun j hj g hg => Nat.lt_of_lt_of_le (hO.footlt hj hg).2 hz2
  refine ⟨⟨?_, by rw [List.length_set, hO.len], fun j hj => ?_, fun i j hi hj hij g hg e => ?_, fun j hj e => ?_, hO.base⟩, ?_, fun j hj => ?_⟩
  · have := hB8.put (1 + k) v8
    rw [cons_set] at this
    exact this
  · by_cases hjk : k = j
    · subst hjk
      have hll : k < ls.length := by rw [hll8]; exact hk
      rw [set_getD _ _ _ _ _ hkv, if_pos rfl, set_getD _ _ _ _ _ hll, if_pos rfl]
      exact h8.fr hFs (fun g hg e => hf8s (by rw [hg, e]))
    · rw [set_getD _ _ _ _ _ hkv, if_neg hjk]
      have hlj : (ls.set k L').getD j [] = ls.getD j [] := by
        simp only [List.getD, List.getElem?_set_ne hjk]
      rw [hlj]
      exact ((((hO.own j hj).fr hF2 (fun g hg e => hO.off j hj (by rw [hg, e]))).belowS hX).fr f8 (fun g hg e => hO.apart j k hj hk (fun h => hjk h.symm) g hg e.symm)).fr hFs (fun g hg e => hO.off j hj (by rw [hg, e]))
  · rw [set_getD _ _ _ _ _ hkv] at hg e
    split at hg
    · rename_i hki
      rw [if_neg (fun h => hij (by rw [← hki, h]))] at e
      rcases o8 with o | ⟨g', o, hg'⟩
      · rw [o] at hg
        exact hO.apart k j hk hj (fun h => hij (by rw [← hki, h])) g hg e
      · rw [hg] at o; cases o
        have := hfresh j hj _ e
        omega
    · split at e
      · rename_i hki hkj
        rcases o8 with o | ⟨g', o, hg'⟩
        · rw [o] at e
          exact hO.apart i k hi hk (fun h => hki h.symm) g hg e
        · rw [e] at o; cases o
          have := hfresh i hi _ hg
          omega
      · exact hO.apart i j hi hj hij g hg e
  · rw [set_getD _ _ _ _ _ hkv] at e
    split at e
    · exact hf8s e
    · exact hO.off j hj e
  · exact (((hF2.mono (fun i _ h => .inl h)).stepB hX).step (f8.mono (fun i _ h => .inr h))).setCell (p := ⟨s, 1 + k, none⟩) (.inl (.inl rfl)) _
  · rw [set_getD _ _ _ _ _ hkv]
    split
    · rename_i hkj
      subst hkj
      exact o8.imp (fun o => o) (fun ⟨g, o, hg⟩ => ⟨g, o, by omega⟩)
    · exact .inl rfl
theorem hF2_at {base s : Nat} {w w2 : World} {vs : List Value} {ls : List (List Ch)} {n m : Int} {k : Nat} (hO : StoreO base w s vs ls n) (hk : k < 8) (h : w2 = w.setCell ⟨s, 0, none⟩ (.int .i64 m)) : w2.cell? ⟨s, 1 + k, none⟩ = some (vs.getD k nilS) := by
  rw [h, World.cell?_setCell_other _ _ _ _ (by intro e; injection e; omega)]
  exact hO.at hk
set_option maxHeartbeats 16000000 in
theorem done_any (base s k : Nat) (g : Bool) (t : ByteArray) (vs : List Value) (ls : List (List Ch)) (n : Int) (hk : k < 8) (hn : n < 1000) (w : World) (hO : StoreO base w s vs ls n) (hP : StP ls n) :
    Calls Tryz.prog 135 #[.pointer (some ⟨s, 0, none⟩), .int .i64 k, .bool g, .string t] w fun e w' => ∃ vs', e = .returned (.tuple #[.int .i64 (n + 1), .nilIface]) ∧ StoreO base w' s vs' (ls.set k (ls.getD k [] ++ [⟨n + 1, g, t⟩])) (n + 1) ∧ Fr (fun i => i = s ∨ some i = foot (vs.getD k nilS)) w w' ∧ (∀ j, j < 8 → foot (vs'.getD j nilS) = foot (vs.getD j nilS) ∨ ∃ g, foot (vs'.getD j nilS) = some g ∧ w.heap.size ≤ g) := by
  have hs := hO.seq
  have hsf := hO.blk.frozen 0
  have hkf := hO.blk.frozen (1 + k)
  have hat := hO.at hk
  have hsl := hO.lt
  have hlo := hP.lo
  have hll8 := hP.len
  have hne : (n == 1000) = false := by rw [beq_eq_false_iff_ne]; omega
  have hown := hO.own k hk
  have hoff := hO.off k hk
  have hsh := hP.short k
  obtain ⟨A, c, hv, hlc, hcm, _⟩ := hown.form
  rw [hv] at hat
  have HO := hid hO
  have Hown := hid hown
  have Hoff := hid hoff
  have Hv := hid hv
  have hnk : ¬ (1 + k = 0) := by omega
  clear hO hown hoff hv hP
  go_enter Tryz.func135, Tryz.ntmps135
  go_wp2_with fail
  obtain ⟨w2, hw2⟩ : ∃ w2 : World, w2 = w.setCell ⟨s, 0, none⟩ (.int .i64 (n + 1)) := ⟨_, rfl⟩
  rw [← hw2]
  have hF2 : Fr (fun i => i = s) w w2 := by rw [hw2]; exact (Fr.refl (fun i => i = s) w).setCell (p := ⟨s, 0, none⟩) (.inl rfl) _
  have hB2 : Blk w2 s 134 (.int .i64 (n + 1) :: vs).toArray := by rw [hw2]; exact HO.out.blk.put 0 _
  have hown2 : Ow Ch.cells 3 base 209 w2 (.slice A (ls.getD k []).length c) (ls.getD k []) := by rw [← Hv.out]; exact Hown.out.fr hF2 (fun g hg e => Hoff.out (by rw [hg, e]))
  have hz2 := hF2.size
  have hs2 : w2.cell? ⟨s, 0, none⟩ = some (.int .i64 (n + 1)) := hB2.cell 0
  have hat2 : w2.cell? ⟨s, 1 + k, none⟩ = some (.slice A (ls.getD k []).length c) := (hF2_at HO.out hk hw2).trans (by rw [Hv.out])
  have hkf2 : w2.frozen? ⟨s, 1 + k, none⟩ = false := hB2.frozen _
  have hfs : ¬ some s = foot (.slice A (ls.getD k []).length c) := fun e => Hoff.out (by rw [Hv.out]; exact e.symm)
  have Hown2 := hid hown2
  have HB2 := hid hB2
  have hbs : base ≤ w2.heap.size := Nat.le_trans HO.out.base (by omega)
  have hLl : (ls.getD k []).length ≤ 1000 := by omega
  have hsl2 : s < w2.heap.size := by omega
  have HF2 := hid hF2
  clear hw2 hF2 hB2 hown2 hs hat hsf hkf
  generalize hL : ls.getD k [] = L at *
  have HL := hid hL
  clear hL
  have hki : (k : Int) < 8 := by omega
  have hki0 : (0 : Int) ≤ (k : Int) := by omega
  have hkt : ((k : Int)).toNat = k := Int.toNat_natCast k
  go_region_law (first | (refine appChat _ base (.slice A L.length c) L (n + 1) g t w2.heap.size ?_ (Hown2.out.alloc _).drew rfl _ _ rfl rfl rfl ?_ ?_ ?_; (focus exact ChAt.of_blk (Blk.new w2 _ _).drew); (focus omega); (focus (first | omega | (simp; omega))); intro v8 w8 h8 f8 o8; obtain ⟨A8, c8, hv8, p8, q8, _⟩ := h8.form; rw [List.length_append, List.length_singleton] at hv8; subst hv8; have hB8 : Blk w8 s _ _ := (HB2.out.alloc _).drew.fr f8 hfs; have hz8 : w8.frozen? ⟨s, 1 + k, none⟩ = false := hB8.frozen _; have hc8 : w8.cell? ⟨s, 1 + k, none⟩ = some (.slice A L.length c) := (f8.cell (p := ⟨s, 1 + k, none⟩) (by simp; omega) hfs).trans ((World.cell?_alloc_lt w2 _ ⟨s, 1 + k, none⟩ hsl2).trans hat2); have hs8 : w8.cell? ⟨s, 0, none⟩ = some (.int .i64 (n + 1)) := hB8.cell 0))
  all_goals
    have hfin := done_new HO.out hll8 hk HF2.out HB2.out (X := (w2.alloc (.cells #[.int .i64 (n + 1), .bool g, .string t] 209)).drew) (by (repeat (first | with_reducible exact Below.refl _ _ | with_reducible assumption | (with_reducible refine Below.drew ?_) | (with_reducible refine Below.manyDrew ?_ _) | ((with_reducible refine Below.alloc ?_ ?_ _); rotate_left; (focus (first | omega | (dsimp only; omega) | (simp; done) | (simp; omega)))) | ((with_reducible refine Below.setCell ?_ ?_ _); rotate_left; (focus (first | omega | (dsimp only; omega) | (simp; done) | (simp; omega)))) | ((with_reducible refine Below.step ?_ (by assumption) ?_); rotate_left; (focus (first | omega | (dsimp only; omega) | (simp; done) | (simp; omega))))))) h8 (by rw [Hv.out]; exact f8) (by rw [Hv.out]; exact o8.imp (fun o => o) (fun o => ⟨_, o, by simp⟩))
    have Hfin := hid hfin
    clear hfin h8 f8 o8 hB8
    go_wp2_with fail
    go_ret2
    first
      | exact ⟨_, rfl, by rw [HL.out]; exact Hfin.out.1, Hfin.out.2⟩
      | exact ⟨rfl, _, by rw [HL.out]; exact Hfin.out.1, Hfin.out.2⟩
end Go.Proofs.YtemhdfodghfkfaaGreatDoor
