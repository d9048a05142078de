/-
  THE KIT of rows of slices: a row whose elements are slices (what these hold is asked apart): read, handed on, appended to. CONDITIONS: none.
-/
import Derived.Test.YtlcbdhblaamekaaDoorEntry
import Derived.Test.YtlcbdhblaamekaaDoorKit
import Derived.Test.YtlcbdhblaamekaaDoorKitJ
import Derived.Lib.AppendZerosOnto
namespace Go.Proofs.YtlcbdhblaamekaaDoor
open Go.RowKit
open Go.ChangeShapes Go.WideShapes Go.ChangeAt

def SlV.val {α : Type} (s : SlV α) : Value := .slice s.A s.xs.length s.c
def SlV.nil {α : Type} : SlV α := ⟨none, 0, []⟩
def cellS {α : Type} (s : SlV α) : List Value := [s.val]
theorem cellS_length {α : Type} (s : SlV α) : (cellS s).length = 1 := rfl
theorem cellS_one {α : Type} (s : SlV α) : ∀ u ∈ cellS s, u.oneCell' = true := by intro u hu; simp [cellS] at hu; subst hu; rfl
/-- a row of slices -/
structure SsAt {α : Type} (w : World) (s : SlV (SlV α)) : Prop where
  row : 0 < s.xs.length → ∃ b off, s.A = some ⟨b, off, none⟩ ∧ b < w.heap.size ∧ ∀ i, i < s.xs.length → w.cell? ⟨b, off + i, none⟩ = some (s.xs.getD i SlV.nil).val
  len : s.xs.length ≤ maxLen
section
variable {α : Type}
theorem SsAt.stays {w w' : World} {s : SlV (SlV α)} (h : SsAt w s) (hb : Below w.heap.size w w') : SsAt w' s := ⟨fun h0 => by
    obtain ⟨b, off, h1, h2, h3⟩ := h.row h0
    exact ⟨b, off, h1, Nat.lt_of_lt_of_le h2 hb.size, fun i hi => (hb.cell (p := ⟨b, _, none⟩) h2).trans (h3 i hi)⟩, h.len⟩
theorem SsAt.fr {S : Nat → Prop} {w w' : World} {s : SlV (SlV α)} (h : SsAt w s) (hb : Fr S w w') (hn : 0 < s.xs.length → ∀ b off, s.A = some ⟨b, off, none⟩ → ¬ S b) : SsAt w' s := ⟨fun h0 => by
    obtain ⟨b, off, h1, h2, h3⟩ := h.row h0
    exact ⟨b, off, h1, Nat.lt_of_lt_of_le h2 hb.size, fun i hi => (hb.cell (p := ⟨b, _, none⟩) h2 (hn h0 _ _ h1)).trans (h3 i hi)⟩, h.len⟩
theorem SsAt.drewN {w : World} {s : SlV (SlV α)} (h : SsAt w s) (n : Nat) : SsAt (w.drewN n) s := ⟨h.row, h.len⟩
theorem SsAt.bare (w : World) (A : Option Addr) (c : Nat) : SsAt w (⟨A, c, []⟩ : SlV (SlV α)) := ⟨(fun h => by cases h), Nat.zero_le _⟩
/-- a row just laid -/
theorem SsAt.of_blk {w : World} {g : Nat} {T : TypeId} {l : List (SlV α)} (h : Blk w g T (l.map SlV.val).toArray) (c : Nat) (hl : l.length ≤ maxLen) : SsAt w ⟨some ⟨g, 0, none⟩, c, l⟩ := by
  refine ⟨fun _ => ⟨g, 0, rfl, h.lt, fun i hi => ?_⟩, hl⟩
  have hi' : i < l.length := hi
  rw [Nat.zero_add, h.cell i]
  simp only
  rw [getD_get _ hi']
  simp [hi']
theorem SsAt.of_ow {w : World} {base : Nat} {T : TypeId} {v : Value} {l : List (SlV α)} (h : Ow cellS 1 base T w v l) :
    ∃ r : SlV (SlV α), v = .slice r.A r.xs.length r.c ∧ r.xs = l ∧ SsAt w r ∧ r.ok ∧ (0 < r.xs.length → ∀ b off, r.A = some ⟨b, off, none⟩ → foot v = some b ∧ base ≤ b) := by
  by_cases h0 : 0 < l.length
  · obtain ⟨g, off, cap, rfl, h1, h2, hb, hlt, hfo, hc, _⟩ := h.get h0
    refine ⟨⟨some ⟨g, off, none⟩, cap, l⟩, rfl, rfl, ⟨fun _ => ⟨g, off, rfl, hlt, fun i hi => ?_⟩, by show l.length ≤ maxLen; omega⟩, ⟨h1, h2⟩, fun _ b off hA => by cases hA; exact ⟨hfo, hb⟩⟩
    have hi' : i < l.length := hi
    have := hc i hi' 0 (by decide)
    rw [Nat.mul_one, Nat.add_zero] at this
    rw [this]
    show _ = some ((l.getD i SlV.nil).val)
    rw [getD_get _ hi']
    rfl
  · have hl0 : l = [] := by cases l with | nil => rfl | cons a r => simp at h0
    subst hl0
    obtain ⟨A, cap, rfl, h1, h2, _⟩ := h
    exact ⟨⟨A, cap, []⟩, rfl, rfl, SsAt.bare _ _ _, ⟨h1, h2⟩, fun h => by simp at h⟩
theorem SsAt.src {P : Program} {TS T : TypeId} (hk : P.underlying TS = some (.slice T)) {w : World} {s : SlV (SlV α)} (h : SsAt w s) : Src P 1 TS (.slice s.A s.xs.length s.c) s.xs.length (s.xs.flatMap cellS) w := by
  obtain ⟨A, c, xs⟩ := s
  by_cases h0 : 0 < xs.length
  · obtain ⟨b, off, hA, hlt, hc⟩ := h.row h0
    simp only at hA hc ⊢
    subst hA
    refine Src.ofSlice w hk ⟨b, off, none⟩ xs.length c _ (flat_length _ _ cellS_length _) (fun j u hj => ?_) (fun u hu => ?_)
    · have hq : j < xs.length := by
        have := (List.getElem?_eq_some_iff.1 hj).1
        rw [flat_length _ _ cellS_length xs] at this
        omega
      have hg := flat_get _ _ cellS_length xs j 0 hq (by decide)
      rw [Nat.mul_one, Nat.add_zero, hj] at hg
      rw [Addr_add, hc _ hq, hg, getD_get _ hq]
      rfl
    · obtain ⟨x, _, hx⟩ := List.mem_flatMap.1 hu
      exact cellS_one x u hx
  · have hl0 : xs = [] := by cases xs with | nil => rfl | cons a r => simp at h0
    subst hl0
    cases A with
    | none => exact Src.ofNil w hk c
    | some a => exact Src.ofSlice w hk a 0 c [] rfl (fun j u hj => by simp at hj) (fun u hu => by simp at hu)
end
theorem IntssAt.ss {w : World} {s : SlV (SlV Int)} (h : IntssAt w s) : SsAt w s := ⟨fun h0 => by
    obtain ⟨b, off, h1, h2, h3⟩ := h.row h0
    exact ⟨b, off, h1, h2, fun i hi => by rw [h3 i hi, getD_get _ hi]; rfl⟩, h.len⟩
theorem SsAt.ints {w : World} {s : SlV (SlV Int)} (h : SsAt w s) (he : ∀ x ∈ s.xs, IntsAt w x) : IntssAt w s := ⟨fun h0 => by
    obtain ⟨b, off, h1, h2, h3⟩ := h.row h0
    exact ⟨b, off, h1, h2, fun i hi => by rw [h3 i hi, getD_get _ hi]; rfl⟩, fun i hi => he _ (List.getElem_mem hi), h.len⟩
theorem IntsAt.of_blk {w : World} {g : Nat} {T : TypeId} {l : List Int} (h : Blk w g T (ints l)) (c : Nat) (hl : l.length ≤ maxLen) : IntsAt w ⟨some ⟨g, 0, none⟩, c, l⟩ := by
  refine ⟨fun _ => ⟨g, 0, rfl, h.lt, fun i hi => ?_⟩, hl⟩
  have hi' : i < l.length := hi
  rw [Nat.zero_add, h.cell i, ints_get l i hi']

/- slices of []int -/
theorem infoS : (Tryd.prog.info? 30).map (fun i => (i.zero, i.size, i.bytes)) = some (some (.slice none 0 0), 1, 24) := by kernel_rfl
theorem appS {ops : Array Oper} {rest : List Oper} {o : Oper} {a : Act} {Q : Exit → Act → World → Prop} (X : World) (base : Nat) (v : Value) (l : List (SlV Int)) (x0 : SlV Int) (hown : Ow cellS 1 base 30 X v l)
    (hgd : o.guard = none) (p q : Operand) (ho : o.op = .call { callee := .builtin .append, args := #[p, q], argTypes := #[22, 22] }) (hp : a.eval p = v) {N : Nat} (hq : a.eval q = .slice (some ⟨N, 0, none⟩) 1 1) (hN : X.heap.size = N) (hl : l.length ≤ 100000000) (hb : base ≤ X.heap.size)
    (h : ∀ v' w', Ow cellS 1 base 30 w' v' (l ++ [x0]) → Fr (fun k => some k = foot v) X w' → (foot v' = foot v ∨ foot v' = some (X.heap.size + 1)) → wpList Tryd.prog ops Q rest (a.put o.dst v') w') :
    wpList Tryd.prog ops Q (o :: rest) a (X.alloc (.cells #[.slice x0.A x0.xs.length x0.c] 30)) := by
  subst hN
  exact app_src cellS 1 24 cellS_length (by decide) (by decide) _ _ 22 (.slice none 0 0) rfl Tryd.underlying22 infoS hgd p q ho _ base v _ l [x0] hp hq
    (Src.ofSlice _ Tryd.underlying22 ⟨X.heap.size, 0, none⟩ 1 1 _ rfl (fun j u hj => by rw [Addr_add, Nat.zero_add, (Blk.new X 30 _).cell j]; simpa [cellS, SlV.val] using hj) (fun u hu => by simp at hu; exact cellS_one _ u hu)) (hown.alloc _) (by simp; omega) (by simp; omega) (fun v' w' h1 h2 h3 => h v' w' h1 (((Fr.refl _ _).alloc _).step h2) (by simpa using h3))
theorem appSs {ops : Array Oper} {rest : List Oper} {o : Oper} {a : Act} {Q : Exit → Act → World → Prop} (X : World) (base : Nat) (v : Value) (l : List (SlV Int)) (r : SlV (SlV Int)) (hr : SsAt X r) (hown : Ow cellS 1 base 30 X v l)
    (hgd : o.guard = none) (p q : Operand) (ho : o.op = .call { callee := .builtin .append, args := #[p, q], argTypes := #[22, 22] }) (hp : a.eval p = v) (hq : a.eval q = .slice r.A r.xs.length r.c) (hl : l.length + r.xs.length ≤ 1000000000) (hb : base ≤ X.heap.size)
    (h : ∀ v' w', Ow cellS 1 base 30 w' v' (l ++ r.xs) → Fr (fun k => some k = foot v) X w' → (foot v' = foot v ∨ foot v' = some X.heap.size) → wpList Tryd.prog ops Q rest (a.put o.dst v') w') :
    wpList Tryd.prog ops Q (o :: rest) a X :=
  app_src cellS 1 24 cellS_length (by decide) (by decide) _ _ 22 (.slice none 0 0) rfl Tryd.underlying22 infoS hgd p q ho _ base v _ l r.xs hp hq (hr.src Tryd.underlying22) hown hl hb h

set_option maxHeartbeats 4000000 in
/-- slices.Grow of nothing -/
theorem ssgrow_any (k : Nat) (X : World) (hk : k ≤ 1000) :
    Calls Tryd.prog 45 #[.slice none 0 0, .int .i64 k] X fun e w' => ∃ v', e = .returned v' ∧ Ow (cellS (α := Int)) 1 X.heap.size 30 w' v' [] ∧ Below X.heap.size X w' := by
  by_cases h0 : k = 0
  · subst h0
    go_enter Tryd.func45, Tryd.ntmps45
    go_wp2_with fail
    go_ret
    exact ⟨_, rfl, Ow.nil _ _ _ _ _, Below.refl _ _⟩
  · obtain ⟨i0, hi0, hz0, hzs, hzb⟩ := info_parts infoS
    obtain ⟨G, hG⟩ : ∃ G, G = grownCap X k 0 30 := ⟨_, rfl⟩
    have hGn : k ≤ G := by rw [hG]; exact grownCap_ge X _ _ _
    have hG63 : G ≤ maxLen := by
      rw [hG]; exact grownCap_le_maxLen X k 0 30 (by unfold maxLen; omega)
    have hrz : ∀ ty, (Builtin.append_ #[22, 3] ty #[.slice none 0 0, .int .i64 (k : Int)]).run Tryd.prog X =
        .ok (.slice (some ⟨X.heap.size, 0, none⟩) k G) (X.drew.alloc (.cells (Builtin.zeroCells (Value.slice none 0 0).cells k ++ Builtin.zeroCells (Value.slice none 0 0).cells (G - k)) 30)) := fun ty => by
      have h := Lib.run_append_nil_zeros (P := Tryd.prog) X 22 3 ty 30 i0 (.slice none 0 0) .i64 .i64 Tryd.underlying22 Tryd.underlying3 hi0 hz0 k (by omega) (by omega) (by omega) (by rw [hzb]; omega)
      rw [hG]
      exact h
    have hOw := Ow.row_zeros (cells := cellS (α := Int)) (n := 1) cellS_length X.drew (.slice none 0 0) SlV.nil rfl [] k G 30 (by simp; omega) hG63
    rw [show ((([] : List (SlV Int)).flatMap cellS).toArray ++ Builtin.zeroCells (Value.slice none 0 0).cells k) = Builtin.zeroCells (Value.slice none 0 0).cells k from by simp, List.length_nil, Nat.zero_add, List.nil_append] at hOw
    have hO := hOw.take (k := 0) (Nat.zero_le _)
    rw [List.take_zero] at hO
    generalize Builtin.zeroCells (Value.slice none 0 0).cells k ++ Builtin.zeroCells (Value.slice none 0 0).cells (G - k) = ROW at *
    have hO2 : Ow (cellS (α := Int)) 1 X.heap.size 30 ((X.alloc (.cells ROW 30)).drew) (.slice (some ⟨X.heap.size, 0, none⟩) 0 G) [] := hO
    have Hrz := hid hrz
    have HO := hid hO2
    have hk0 : 0 < k := by omega
    unfold maxLen at hG63
    clear hrz hO hO2 hOw hG hi0 hz0 hzs hzb
    go_enter Tryd.func45, Tryd.ntmps45
    go_wp2_with (at_builtin; refine Lib.wpList_append_run _ rfl _ _ _ _ rfl _ _ rfl rfl _ _ (Hrz.out _) ?_)
    go_ret
    exact ⟨_, rfl, HO.out, ((Below.refl _ _).alloc (Nat.le_refl _) _).drew⟩

set_option maxHeartbeats 4000000 in
/-- slices.Concat -/
theorem ssconcat_any (q : SlV (SlV (SlV Int))) (w : World) (hq : SsAt w q) (he : ∀ s ∈ q.xs, SsAt w s) (hl : q.xs.length ≤ 100) (hn : (q.xs.flatMap SlV.xs).length ≤ 1000) :
    Calls Tryd.prog 31 #[.slice q.A q.xs.length q.c] w fun e w' => ∃ v', e = .returned v' ∧ Ow cellS 1 w.heap.size 30 w' v' (q.xs.flatMap SlV.xs) ∧ Below w.heap.size w w' := by
  have Hq := hid (fun W (hW : Below w.heap.size w W) => hq.stays hW)
  have He := hid he
  have Hn := hid hn
  have Hl := hid (fun k (hk : k < q.xs.length) => show ((q.xs.take (k + 1)).flatMap SlV.xs) = ((q.xs.take k).flatMap SlV.xs) ++ (q.xs.getD k SlV.nil).xs from by
    rw [take_snocD SlV.nil hk, List.flatMap_append]; simp)
  have Hm := hid (fun k => show ((q.xs.take k).flatMap SlV.xs).length ≤ 1000 from by
    have := congrArg (fun l => (l.flatMap SlV.xs).length) (List.take_append_drop k q.xs)
    simp only [List.flatMap_append, List.length_append] at this
    omega)
  clear hq he hn
  go_enter Tryd.func31, Tryd.ntmps31
  go_wp2_with fail
  go_loopw [3, 11] (fun z i wr => ∃ k : Nat, k ≤ q.xs.length ∧ i = .int .i64 k ∧ z = .int .i64 (((q.xs.take k).flatMap SlV.xs).length : Nat) ∧ wr = w) (fun _ i _ => q.xs.length - (intOf i).toNat)
  case atStart => exact ⟨0, Nat.zero_le _, rfl, rfl, rfl⟩
  case round =>
    obtain ⟨k, hk, rfl, rfl, hwr⟩ := hrel
    obtain rfl : w = wr := hwr.symm
    by_cases hlt : k < q.xs.length
    · obtain ⟨b, off, hA, hgl, hcells⟩ := (Hq.out w (Below.refl _ _)).row (by omega)
      have c0 := hcells k hlt
      have hl1 := Hl.out k hlt
      have hm1 := Hm.out (k + 1)
      rw [hl1, List.length_append] at hm1
      generalize (q.xs.take k).flatMap SlV.xs = LN at *
      generalize q.xs.getD k SlV.nil = s at *
      have HL1 := hid hl1
      unfold SlV.val at c0
      rw [hA]
      clear hA hcells hl1
      have hnn : ¬ ((LN.length : Int) + (s.xs.length : Int) < 0) := by omega
      go_wp2_with fail
      go_roundw
      case rel => exact ⟨k + 1, by omega, by go_num, by rw [HL1.out, List.length_append]; go_num, by first | rfl | trivial⟩
      case measure => simp [intOf]; omega
    · obtain rfl : k = q.xs.length := by omega
      have hG := ssgrow_any ((q.xs.take q.xs.length).flatMap SlV.xs).length w (Hm.out _)
      have HG := hid hG
      generalize ((q.xs.take q.xs.length).flatMap SlV.xs).length = N at *
      clear hG
      go_wp2_with fail
      refine HG.out.mono ?_
      rintro e w1 ⟨v, rfl, hO, hb⟩
      have HO := hid hO
      have Hb := hid hb
      clear hO hb HG
      go_wp2_with fail
      go_loopw [6, 27] (fun v i wr => ∃ k : Nat, k ≤ q.xs.length ∧ i = .int .i64 k ∧ Ow cellS 1 w.heap.size 30 wr v ((q.xs.take k).flatMap SlV.xs) ∧ Below w.heap.size w wr) (fun _ i _ => q.xs.length - (intOf i).toNat)
      case atStart => exact ⟨0, Nat.zero_le _, rfl, HO.out, Hb.out⟩
      case round =>
        obtain ⟨k, hk, rfl, hO, hb⟩ := hrel
        have HO := hid hO
        have Hb := hid hb
        by_cases hlt : k < q.xs.length
        · obtain ⟨b, off, hA, hgl, hcells⟩ := (Hq.out _ hb).row (by omega)
          have c0 := hcells k hlt
          have hl1 := Hl.out k hlt
          have hm1 := Hm.out (k + 1)
          have hs := (He.out _ (getD_memD SlV.nil hlt)).stays hb
          have hz := hb.size
          rw [hl1, List.length_append] at hm1
          generalize (q.xs.take k).flatMap SlV.xs = LN at *
          generalize q.xs.getD k SlV.nil = s at *
          have HL1 := hid hl1
          have HS := hid hs
          unfold SlV.val at c0
          rw [hA]
          clear hA hcells hl1 hs hO hb
          go_wp2_with (at_builtin; refine appSs _ w.heap.size _ LN s HS.out HO.out rfl _ _ rfl rfl rfl ?_ ?_ ?_)
          any_goals (first | (with_reducible rfl) | omega)
          intro v8 w8 h8 f8 o8
          have hb8 : Below w.heap.size w w8 := Hb.out.trans (f8.below0 hz (fun i hi => HO.out.ge _ hi))
          go_wp2_with fail
          go_roundw
          case rel => exact ⟨k + 1, by omega, by go_num, by rw [HL1.out]; exact h8, hb8⟩
          case measure => simp [intOf]; omega
        · obtain rfl : k = q.xs.length := by omega
          rw [List.take_length] at HO
          go_wp2_with fail
          go_ret
          exact ⟨_, rfl, HO.out, Hb.out⟩
end Go.Proofs.YtlcbdhblaamekaaDoor
