/-
  THE KIT of []api.Entry over slices of the call's own. CONDITIONS: none.
  CONTRACTS of slices.Equal at api.Entry and of meresame.Cache. CONDITIONS: none.
-/
import Derived.Test.YtneilklimpdeoaaGreatDoorCCheck
import Derived.Test.YtneilklimpdeoaaGreatDoorKit
import Derived.Laws.StructEq
import Derived.Deep.QuietTactic
import Derived.BigQuiet
namespace Go.Proofs.YtneilklimpdeoaaGreatDoor
open Go.RowKit
open Go.ChangeShapes Go.WideShapes Go.ChangeAt

theorem E.cells_length (e : E) : e.cells.length = 5 := rfl
theorem E.one (e : E) : ∀ u ∈ e.cells, u.oneCell' = true := by intro u hu; simp [E.cells] at hu; rcases hu with rfl | rfl | rfl | rfl | rfl <;> rfl
theorem EAt.fr {S : Nat → Prop} {w w' : World} {b o : Nat} {e : E} (h : EAt w b o e) (hb : Fr S w w') (hl : b < w.heap.size) (hn : ¬ S b) : EAt w' b o e :=
  ⟨(hb.cell (p := ⟨b, _, none⟩) hl hn).trans h.c0, (hb.cell (p := ⟨b, _, none⟩) hl hn).trans h.c1, (hb.cell (p := ⟨b, _, none⟩) hl hn).trans h.c2, (hb.cell (p := ⟨b, _, none⟩) hl hn).trans h.c3, (hb.cell (p := ⟨b, _, none⟩) hl hn).trans h.c4⟩
theorem EAt.of_blk {w : World} {g : Nat} {t : TypeId} {e : E} (h : Blk w g t #[.int .i64 e.key, .int .i64 e.ver, .int .i64 e.asof, .bool e.gone, .string e.text]) : EAt w g 0 e :=
  ⟨h.cell 0, h.cell 1, h.cell 2, h.cell 3, h.cell 4⟩
/-- a row of them, as it came in or as a call handed it back -/
structure EsAt (w : World) (s : SlV E) : Prop where
  row : 0 < s.xs.length → ∃ b off, s.A = some ⟨b, off, none⟩ ∧ b < w.heap.size ∧ ∀ i, i < s.xs.length → EAt w b (off + i * 5) (s.xs.getD i E.zero)
  each : ∀ x ∈ s.xs, x.good
  len : s.xs.length ≤ maxLen
theorem EsAt.stays {w w' : World} {s : SlV E} (h : EsAt w s) (hb : Below w.heap.size w w') : EsAt w' s := ⟨fun h0 => by
    obtain ⟨b, off, h1, h2, h3⟩ := h.row h0
    exact ⟨b, off, h1, Nat.lt_of_lt_of_le h2 hb.size, fun i hi => (h3 i hi).stays hb h2⟩, h.each, h.len⟩
theorem EsAt.fr {S : Nat → Prop} {w w' : World} {s : SlV E} (h : EsAt w s) (hb : Fr S w w') (hn : 0 < s.xs.length → ∀ b off, s.A = some ⟨b, off, none⟩ → ¬ S b) : EsAt w' s := ⟨fun h0 => by
    obtain ⟨b, off, h1, h2, h3⟩ := h.row h0
    exact ⟨b, off, h1, Nat.lt_of_lt_of_le h2 hb.size, fun i hi => (h3 i hi).fr hb h2 (hn h0 _ _ h1)⟩, h.each, h.len⟩
theorem EAt.drewN {w : World} {b o : Nat} {e : E} (h : EAt w b o e) (n : Nat) : EAt (w.drewN n) b o e := ⟨h.c0, h.c1, h.c2, h.c3, h.c4⟩
theorem EsAt.drewN {w : World} {s : SlV E} (h : EsAt w s) (n : Nat) : EsAt (w.drewN n) s := ⟨fun h0 => by
    obtain ⟨b, off, h1, h2, h3⟩ := h.row h0
    exact ⟨b, off, h1, h2, fun i hi => (h3 i hi).drewN n⟩, h.each, h.len⟩
theorem EsAt.empty (w : World) (A : Option Addr) (c : Nat) : EsAt w ⟨A, c, []⟩ := ⟨(fun h => by cases h), (fun x hx => by cases hx), Nat.zero_le _⟩
/-- a slice of the call's own, as a caller reads it -/
theorem EsAt.of_ow {w : World} {base : Nat} {T : TypeId} {v : Value} {l : List E} (h : Ow E.cells 5 base T w v l) (hg : ∀ x ∈ l, x.good) :
    ∃ r : SlV E, v = .slice r.A r.xs.length r.c ∧ r.xs = l ∧ EsAt w r ∧ r.ok ∧ (0 < r.xs.length → ∀ b off, r.A = some ⟨b, off, none⟩ → foot v = some b ∧ base ≤ b) := by
  by_cases h0 : 0 < l.length
  · obtain ⟨g, off, cap, rfl, h1, h2, hb, hlt, hfo, hc, _⟩ := h.get h0
    refine ⟨⟨some ⟨g, off, none⟩, cap, l⟩, rfl, rfl, ⟨fun _ => ⟨g, off, rfl, hlt, fun i hi => ?_⟩, hg, by show l.length ≤ maxLen; omega⟩, ⟨h1, h2⟩, fun _ b off hA => by cases hA; exact ⟨hfo, hb⟩⟩
    have hi' : i < l.length := hi
    have hx : l.getD i E.zero = l[i] := getD_get _ hi'
    simp only []
    rw [hx]
    exact ⟨hc i hi' 0 (by decide), hc i hi' 1 (by decide), hc i hi' 2 (by decide), hc i hi' 3 (by decide), hc i hi' 4 (by decide)⟩
  · have hl0 : l = [] := by cases l with | nil => rfl | cons a r => simp at h0
    subst hl0
    obtain ⟨A, cap, rfl, h1, h2, _⟩ := h
    exact ⟨⟨A, cap, []⟩, rfl, rfl, EsAt.empty _ _ _, ⟨h1, h2⟩, fun h => by simp at h⟩
theorem EsAt.src {P : Program} {TS T : TypeId} (hk : P.underlying TS = some (.slice T)) {w : World} {s : SlV E} (h : EsAt w s) : Src P 5 TS (.slice s.A s.xs.length s.c) s.xs.length (s.xs.flatMap E.cells) w := by
  obtain ⟨A, c, xs⟩ := s
  by_cases h0 : 0 < xs.length
  · obtain ⟨b, off, hA, hlt, hc⟩ := h.row h0
    simp only at hA hc ⊢
    subst hA
    refine Src.ofSlice w hk ⟨b, off, none⟩ xs.length c _ (flat_length _ _ E.cells_length _) (fun j u hj => ?_) (fun u hu => ?_)
    · have hjl : j < xs.length * 5 := by rw [← flat_length _ _ E.cells_length xs]; exact (List.getElem?_eq_some_iff.1 hj).1
      have hq : j / 5 < xs.length := by omega
      have hm : j % 5 < 5 := Nat.mod_lt _ (by decide)
      have hg := flat_get _ _ E.cells_length xs _ _ hq hm
      rw [show j / 5 * 5 + j % 5 = j by omega, hj, ← getD_get E.zero hq] at hg
      have hx := hc _ hq
      rw [Addr_add, show off + j = off + j / 5 * 5 + j % 5 by omega]
      generalize xs.getD (j / 5) E.zero = y at hg hx
      generalize j % 5 = f at hg hm ⊢
      rw [hg]
      match f, hm with
      | 0, _ => exact hx.c0
      | 1, _ => exact hx.c1
      | 2, _ => exact hx.c2
      | 3, _ => exact hx.c3
      | 4, _ => exact hx.c4
    · obtain ⟨x, _, hx⟩ := List.mem_flatMap.1 hu
      exact x.one u hx
  · have hl0 : xs = [] := by cases xs with | nil => rfl | cons a r => simp at h0
    subst hl0
    cases A with
    | none => exact Src.ofNil w hk c
    | some a => exact Src.ofSlice w hk a 0 c [] rfl (fun j u hj => by simp at hj) (fun u hu => by simp at hu)
theorem infoE : (Tryz.prog.info? 46).map (fun i => (i.zero, i.size, i.bytes)) = some (some E.zero.val, 5, 48) := by kernel_rfl
theorem appE {ops : Array Oper} {rest : List Oper} {o : Oper} {a : Act} {Q : Exit → Act → World → Prop} (X : World) (base : Nat) (v : Value) (l : List E) (x0 : Int) (x1 : Int) (x2 : Int) (x3 : Bool) (x4 : ByteArray) (hown : Ow E.cells 5 base 46 X v l)
    (hgd : o.guard = none) (p q : Operand) (ho : o.op = .call { callee := .builtin .append, args := #[p, q], argTypes := #[32, 32] }) (hp : a.eval p = v) {N : Nat} (hq : a.eval q = .slice (some ⟨N, 0, none⟩) 1 1) (hN : X.heap.size = N) (hl : l.length ≤ 100000000) (hb : base ≤ X.heap.size)
    (h : ∀ v' w', Ow E.cells 5 base 46 w' v' (l ++ [⟨x0, x1, x2, x3, x4⟩]) → Fr (fun k => some k = foot v) X w' → (foot v' = foot v ∨ foot v' = some (X.heap.size + 1)) → wpList Tryz.prog ops Q rest (a.put o.dst v') w') :
    wpList Tryz.prog ops Q (o :: rest) a (X.alloc (.cells #[.int .i64 x0, .int .i64 x1, .int .i64 x2, .bool x3, .string x4] 46)) := by
  subst hN
  exact app_src E.cells 5 48 E.cells_length (by decide) (by decide) _ _ 32 E.zero.val rfl Tryz.underlying32 infoE hgd p q ho _ base v _ l [⟨x0, x1, x2, x3, x4⟩] hp hq
    (Src.ofSlice _ Tryz.underlying32 ⟨X.heap.size, 0, none⟩ 1 1 _ rfl (fun j u hj => by rw [Addr_add, Nat.zero_add, (Blk.new X 46 _).cell j]; simpa [E.cells] using hj) (fun u hu => by simp at hu; exact E.one _ u hu)) (hown.alloc _) (by simp; omega) (by simp; omega) (fun v' w' h1 h2 h3 => h v' w' h1 (((Fr.refl _ _).alloc _).step h2) (by simpa using h3))
theorem appEat {ops : Array Oper} {o : Oper} {a : Act} {K : Act → World → Prop} {Q : Exit → Act → World → Prop} {EE : Prop} (X : World) (base : Nat) (v : Value) (l : List E) (x0 : Int) (x1 : Int) (x2 : Int) (x3 : Bool) (x4 : ByteArray) (g' : Nat) (hbox : EAt X g' 0 ⟨x0, x1, x2, x3, x4⟩) (hown : Ow E.cells 5 base 46 X v l)
    (hgd : o.guard = none) (p q : Operand) (ho : o.op = .call { callee := .builtin .append, args := #[p, q], argTypes := #[32, 32] }) (hp : a.eval p = v) (hq : a.eval q = .slice (some ⟨g', 0, none⟩) 1 1) (hl : l.length ≤ 100000000) (hb : base ≤ X.heap.size)
    (h : ∀ v' w', Ow E.cells 5 base 46 w' v' (l ++ [⟨x0, x1, x2, x3, x4⟩]) → Fr (fun k => some k = foot v) X w' → (foot v' = foot v ∨ foot v' = some X.heap.size) → K (a.put o.dst v') w') :
    if Region.wanted o (yielded ops a.tmps) = true then Oper.wp Tryz.prog o a X K Q else EE :=
  app_step E.cells 5 48 E.cells_length (by decide) (by decide) _ _ 32 E.zero.val rfl Tryz.underlying32 infoE hgd p q ho _ base v _ l [⟨x0, x1, x2, x3, x4⟩] hp hq
    (Src.ofSlice _ Tryz.underlying32 ⟨g', 0, none⟩ 1 1 _ rfl (fun j u hj => by
      rw [Addr_add]
      have hj' : (([⟨x0, x1, x2, x3, x4⟩] : List E).flatMap E.cells)[j]? = some u := hj
      match j, hj' with
      | 0, hj' => simp [E.cells] at hj'; subst hj'; first | exact hbox.c0 | (rw [Nat.zero_add]; exact hbox.c0)
      | 1, hj' => simp [E.cells] at hj'; subst hj'; first | exact hbox.c1 | (rw [Nat.zero_add]; exact hbox.c1)
      | 2, hj' => simp [E.cells] at hj'; subst hj'; first | exact hbox.c2 | (rw [Nat.zero_add]; exact hbox.c2)
      | 3, hj' => simp [E.cells] at hj'; subst hj'; first | exact hbox.c3 | (rw [Nat.zero_add]; exact hbox.c3)
      | 4, hj' => simp [E.cells] at hj'; subst hj'; first | exact hbox.c4 | (rw [Nat.zero_add]; exact hbox.c4)
      | j + 5, hj' => simp [E.cells] at hj') (fun u hu => by simp at hu; exact E.one _ u hu)) hown (by simp; omega) hb h
theorem appEs {ops : Array Oper} {rest : List Oper} {o : Oper} {a : Act} {Q : Exit → Act → World → Prop} (X : World) (base : Nat) (v : Value) (l : List E) (r : SlV E) (hr : EsAt X r) (hown : Ow E.cells 5 base 46 X v l)
    (hgd : o.guard = none) (p q : Operand) (ho : o.op = .call { callee := .builtin .append, args := #[p, q], argTypes := #[32, 32] }) (hp : a.eval p = v) (hq : a.eval q = .slice r.A r.xs.length r.c) (hl : l.length + r.xs.length ≤ 1000000000) (hb : base ≤ X.heap.size)
    (h : ∀ v' w', Ow E.cells 5 base 46 w' v' (l ++ r.xs) → Fr (fun k => some k = foot v) X w' → (foot v' = foot v ∨ foot v' = some X.heap.size) → wpList Tryz.prog ops Q rest (a.put o.dst v') w') :
    wpList Tryz.prog ops Q (o :: rest) a X :=
  app_src E.cells 5 48 E.cells_length (by decide) (by decide) _ _ 32 E.zero.val rfl Tryz.underlying32 infoE hgd p q ho _ base v _ l r.xs hp hq (hr.src Tryz.underlying32) hown hl hb h
theorem appEss {ops : Array Oper} {o : Oper} {a : Act} {K : Act → World → Prop} {Q : Exit → Act → World → Prop} {EE : Prop} (X : World) (base : Nat) (v : Value) (l : List E) (r : SlV E) (hr : EsAt X r) (hown : Ow E.cells 5 base 46 X v l)
    (hgd : o.guard = none) (p q : Operand) (ho : o.op = .call { callee := .builtin .append, args := #[p, q], argTypes := #[32, 32] }) (hp : a.eval p = v) (hq : a.eval q = .slice r.A r.xs.length r.c) (hl : l.length + r.xs.length ≤ 1000000000) (hb : base ≤ X.heap.size)
    (h : ∀ v' w', Ow E.cells 5 base 46 w' v' (l ++ r.xs) → Fr (fun k => some k = foot v) X w' → (foot v' = foot v ∨ foot v' = some X.heap.size) → K (a.put o.dst v') w') :
    if Region.wanted o (yielded ops a.tmps) = true then Oper.wp Tryz.prog o a X K Q else EE :=
  app_step E.cells 5 48 E.cells_length (by decide) (by decide) _ _ 32 E.zero.val rfl Tryz.underlying32 infoE hgd p q ho _ base v _ l r.xs hp hq (hr.src Tryz.underlying32) hown hl hb h
/-- the two readings of a row of entries -/
theorem EsAt.entries {w : World} {s : SlV E} (h : EsAt w s) : EntriesAt w s := ⟨fun h0 => by
    obtain ⟨b, off, h1, h2, h3⟩ := h.row h0
    refine ⟨b, off, h1, h2, fun i hi f hf => ?_⟩
    have hx := h3 i hi
    rw [getD_get _ hi] at hx
    match f, hf with
    | 0, _ => exact hx.c0
    | 1, _ => exact hx.c1
    | 2, _ => exact hx.c2
    | 3, _ => exact hx.c3
    | 4, _ => exact hx.c4, h.each, h.len⟩
theorem EntriesAt.es {w : World} {s : SlV E} (h : EntriesAt w s) : EsAt w s := ⟨fun h0 => h.get h0, h.each, h.len⟩
end Go.Proofs.YtneilklimpdeoaaGreatDoor
namespace Go.Proofs.YtneilklimpdeoaaGreatDoor
open Go.RowKit
open Go.ChangeShapes Go.WideShapes Go.ChangeAt

def eqbE (y x : E) : Bool := decide (y.key = x.key ∧ y.ver = x.ver ∧ y.asof = x.asof ∧ y.gone = x.gone ∧ y.text.toList = x.text.toList)
theorem eqbE_refl (x : E) : eqbE x x = true := by simp [eqbE]
set_option maxHeartbeats 2000000 in
theorem eqRunE (y0 : Int) (y1 : Int) (y2 : Int) (y3 : Bool) (y4 : ByteArray) (x0 : Int) (x1 : Int) (x2 : Int) (x3 : Bool) (x4 : ByteArray) (w : World) : (Op.equalIn 10000 46 (.agg #[.int .i64 y0, .int .i64 y1, .int .i64 y2, .bool y3, .string y4]) (.agg #[.int .i64 x0, .int .i64 x1, .int .i64 x2, .bool x3, .string x4])).run Tryz.prog w = .ok (eqbE ⟨y0, y1, y2, y3, y4⟩ ⟨x0, x1, x2, x3, x4⟩) w := by
  have hS : Tryz.prog.underlying 46 = some (.struct (Tryz.prog.fieldsOf 46)) := by kernel_rfl
  have hp : Tryz.prog.stoodInHeld 46 = false := by kernel_rfl
  rw [show (10000 : Nat) = 9999 + 1 from rfl, run_equalIn_agg w 9999 46 _ _ hS hp]
  simp only [Program.fieldsOf, Tryz.underlying46]
  go_simp
  unfold eqbE
  simp only []
  repeat' split
  all_goals simp_all
def eqsE (l m : List E) : Bool := decide (l.length = m.length) && (List.range l.length).all fun i => eqbE (l.getD i E.zero) (m.getD i E.zero)
theorem eqsE_len {l m : List E} (h : l.length ≠ m.length) : eqsE l m = false := by simp [eqsE, h]
theorem eqsE_at {l m : List E} {i : Nat} (hi : i < l.length) (h : eqbE (l.getD i E.zero) (m.getD i E.zero) = false) : eqsE l m = false := by
  rw [← Bool.not_eq_true]
  intro ha
  unfold eqsE at ha
  rw [Bool.and_eq_true, List.all_eq_true] at ha
  have := ha.2 i (List.mem_range.2 hi)
  simp only [h] at this
  cases this
theorem eqsE_all {l m : List E} (hl : l.length = m.length) (h : ∀ i, i < l.length → eqbE (l.getD i E.zero) (m.getD i E.zero) = true) : eqsE l m = true := by
  unfold eqsE
  rw [Bool.and_eq_true, List.all_eq_true]
  exact ⟨by simp [hl], fun i hi => h i (List.mem_range.1 hi)⟩
theorem eqsE_refl (l : List E) : eqsE l l = true := eqsE_all rfl (fun _ _ => eqbE_refl _)
set_option maxHeartbeats 2000000 in
theorem ecache_any (s r : SlV E) (w : World) (hs : EsAt w s) (hr : EsAt w r) :
    Calls Tryz.prog 15 #[.slice s.A s.xs.length s.c, .slice r.A r.xs.length r.c] w fun e w' => e = .returned (.bool (eqsE s.xs r.xs)) ∧ Below w.heap.size w w' := by
  obtain ⟨A, c, xs⟩ := s
  obtain ⟨A', c', xs'⟩ := r
  have hlen := hs.len
  have hlen' := hr.len
  unfold maxLen at hlen hlen'
  simp only at hlen hlen' ⊢
  by_cases hl : xs.length = xs'.length
  · have hll : xs'.length ≤ xs.length ∧ xs.length ≤ xs'.length := ⟨by omega, by omega⟩
    obtain ⟨hl1, hl2⟩ := hll
    have hle : ((xs.length : Int) == (xs'.length : Int)) = true := by rw [hl]; simp
    have hle2 : ((xs.length : Int) != (xs'.length : Int)) = false := by rw [hl]; simp
    have Hl := hid hl
    generalize hR : eqsE xs xs' = R
    have HR := hid hR
    clear hl hR
    go_enter Tryz.func15, Tryz.ntmps15
    go_wp2_with fail
    go_loopw [5] (fun i wr => ∃ k : Nat, k ≤ xs.length ∧ i = .int .i64 k ∧ (∀ j, j < k → eqbE (xs.getD j E.zero) (xs'.getD j E.zero) = true) ∧ Below w.heap.size w wr) (fun i _ => xs.length - (intOf i).toNat)
    case atStart => exact ⟨0, Nat.zero_le _, rfl, fun j hj => by omega, Below.refl _ _⟩
    case round =>
      obtain ⟨k, hk, rfl, hall, hbr⟩ := hrel
      have Hall := hid hall
      clear hall
      by_cases hlt : k < xs.length
      · obtain ⟨g, off, hA, hgl, hc⟩ := hs.row (by simp only; omega)
        obtain ⟨g', off', hA', hgl', hc'⟩ := hr.row (by simp only; omega)
        simp only at hA hA' hc hc'
        subst hA hA'
        obtain ⟨k0, k1, k2, k3, k4⟩ := (hc k hlt).stays hbr hgl
        obtain ⟨j0, j1, j2, j3, j4⟩ := (hc' k (by omega)).stays hbr hgl'
        have hk0 : (0 : Int) ≤ (k : Int) := by omega
        have hk1 : (k : Int) < (xs.length : Int) := by omega
        have hk2 : (k : Int) < (xs'.length : Int) := by omega
        generalize hy : xs.getD k E.zero = y at *
        generalize hz : xs'.getD k E.zero = z at *
        have Hy := hid hy
        have Hz := hid hz
        obtain ⟨y0, y1, y2, y3, y4⟩ := y
        obtain ⟨z0, z1, z2, z3, z4⟩ := z
        simp only at k0 k1 k2 k3 k4 j0 j1 j2 j3 j4
        clear hc hc' hy hz
        have heq := fun W => eqRunE y0 y1 y2 y3 y4 z0 z1 z2 z3 z4 W
        have Hbr := hid hbr
        rcases hq : eqbE ⟨y0, y1, y2, y3, y4⟩ ⟨z0, z1, z2, z3, z4⟩ with _ | _
        · have hRf : R = false := by rw [← HR.out]; exact eqsE_at hlt (by rw [Hy.out, Hz.out]; exact hq)
          have HRf := hid hRf
          clear hRf
          rw [hq] at heq
          clear hq
          go_wp2_with fail
          go_quiet (fail)
          go_wp2_with fail
          go_ret
          exact ⟨by rw [HRf.out]; rfl, Below.manyDrew Hbr.out _⟩
        · rw [hq] at heq
          have Hq := hid hq
          clear hq
          go_wp2_with fail
          go_quiet (fail)
          go_wp2_with fail
          go_roundw
          case rel =>
            refine ⟨k + 1, by omega, by go_num, fun j hj => ?_, Below.manyDrew Hbr.out _⟩
            by_cases hjk : j < k
            · exact Hall.out j hjk
            · obtain rfl : j = k := by omega
              rw [Hy.out, Hz.out]; exact Hq.out
          case measure => simp [intOf]; omega
      · obtain rfl : k = xs.length := by omega
        have hRt : R = true := by rw [← HR.out]; exact eqsE_all Hl.out Hall.out
        have HRt := hid hRt
        clear hRt
        go_wp2_with fail
        go_ret
        exact ⟨by rw [HRt.out]; rfl, hbr⟩
  · rw [eqsE_len hl]
    have hle : ((xs.length : Int) == (xs'.length : Int)) = false := by rw [beq_eq_false_iff_ne]; omega
    have hle2 : ((xs.length : Int) != (xs'.length : Int)) = true := by rw [bne_iff_ne]; omega
    clear hl
    go_enter Tryz.func15, Tryz.ntmps15
    go_wp2_with fail
    go_ret
    exact ⟨rfl, Below.refl _ _⟩
end Go.Proofs.YtneilklimpdeoaaGreatDoor
