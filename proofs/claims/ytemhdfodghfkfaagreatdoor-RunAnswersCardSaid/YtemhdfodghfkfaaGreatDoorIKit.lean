/-
  THE KIT of []int: slices of the call's own, read and appended to. CONDITIONS: none.
  THE KIT of []string: slices of the call's own, read and appended to. CONDITIONS: none.
  CONTRACT of mereref1.In. CONDITIONS: none.
  THE CONTRACTS of slices.Index and Contains at []int. CONDITIONS: none.
-/
import Derived.Test.YtemhdfodghfkfaaGreatDoorKit
namespace Go.Proofs.YtemhdfodghfkfaaGreatDoor
open Go.RowKit
open Go.ChangeShapes Go.WideShapes Go.ChangeAt

def cellI (x : Int) : List Value := [.int .i64 x]
theorem cellI_length (x : Int) : (cellI x).length = 1 := rfl
theorem cellI_one (x : Int) : ∀ u ∈ cellI x, u.oneCell' = true := by intro u hu; simp [cellI] at hu; subst hu; rfl
theorem IntsAt.stays0 {w w' : World} {s : SlV Int} (h : IntsAt w s) (hb : Below w.heap.size w w') : IntsAt w' s := ⟨fun h0 => by
    obtain ⟨b, off, h1, h2, h3⟩ := h.row h0
    exact ⟨b, off, h1, Nat.lt_of_lt_of_le h2 hb.size, fun i hi => (hb.cell (p := ⟨b, _, none⟩) h2).trans (h3 i hi)⟩, h.len⟩
theorem IntsAt.fr {S : Nat → Prop} {w w' : World} {s : SlV Int} (h : IntsAt w s) (hb : Fr S w w') (hn : 0 < s.xs.length → ∀ b off, s.A = some ⟨b, off, none⟩ → ¬ S b) : IntsAt w' s := ⟨fun h0 => by
    obtain ⟨b, off, h1, h2, h3⟩ := h.row h0
    exact ⟨b, off, h1, Nat.lt_of_lt_of_le h2 hb.size, fun i hi => (hb.cell (p := ⟨b, _, none⟩) h2 (hn h0 _ _ h1)).trans (h3 i hi)⟩, h.len⟩
theorem IntsAt.drewN {w : World} {s : SlV Int} (h : IntsAt w s) (n : Nat) : IntsAt (w.drewN n) s := ⟨h.row, h.len⟩
theorem IntsAt.bare (w : World) (A : Option Addr) (c : Nat) : IntsAt w ⟨A, c, []⟩ := ⟨(fun h => by cases h), Nat.zero_le _⟩
theorem IntsAt.of_ow {w : World} {base : Nat} {T : TypeId} {v : Value} {l : List Int} (h : Ow cellI 1 base T w v l) :
    ∃ r : SlV Int, v = .slice r.A r.xs.length r.c ∧ r.xs = l ∧ IntsAt w r ∧ r.ok ∧ (0 < r.xs.length → ∀ b off, r.A = some ⟨b, off, none⟩ → foot v = some b ∧ base ≤ b) := by
  by_cases h0 : 0 < l.length
  · obtain ⟨g, off, cap, rfl, h1, h2, hb, hlt, hfo, hc, _⟩ := h.get h0
    refine ⟨⟨some ⟨g, off, none⟩, cap, l⟩, rfl, rfl, ⟨fun _ => ⟨g, off, rfl, hlt, fun i hi => ?_⟩, by show l.length ≤ maxLen; omega⟩, ⟨h1, h2⟩, fun _ b off hA => by cases hA; exact ⟨hfo, hb⟩⟩
    have hi' : i < l.length := hi
    have := hc i hi' 0 (by decide)
    rw [Nat.mul_one, Nat.add_zero] at this
    rw [this]
    show _ = some (Value.int .i64 (l.getD i 0))
    rw [getD_get _ hi']
    rfl
  · have hl0 : l = [] := by cases l with | nil => rfl | cons a r => simp at h0
    subst hl0
    obtain ⟨A, cap, rfl, h1, h2, _⟩ := h
    exact ⟨⟨A, cap, []⟩, rfl, rfl, IntsAt.bare _ _ _, ⟨h1, h2⟩, fun h => by simp at h⟩
theorem IntsAt.src {P : Program} {TS T : TypeId} (hk : P.underlying TS = some (.slice T)) {w : World} {s : SlV Int} (h : IntsAt w s) : Src P 1 TS (.slice s.A s.xs.length s.c) s.xs.length (s.xs.flatMap cellI) w := by
  obtain ⟨A, c, xs⟩ := s
  by_cases h0 : 0 < xs.length
  · obtain ⟨b, off, hA, hlt, hc⟩ := h.row h0
    simp only at hA hc ⊢
    subst hA
    refine Src.ofSlice w hk ⟨b, off, none⟩ xs.length c _ (flat_length _ _ cellI_length _) (fun j u hj => ?_) (fun u hu => ?_)
    · have hq : j < xs.length := by
        have := (List.getElem?_eq_some_iff.1 hj).1
        rw [flat_length _ _ cellI_length xs] at this
        omega
      have hg := flat_get _ _ cellI_length xs j 0 hq (by decide)
      rw [Nat.mul_one, Nat.add_zero, hj] at hg
      rw [Addr_add, hc _ hq, hg, getD_get _ hq]
      rfl
    · obtain ⟨x, _, hx⟩ := List.mem_flatMap.1 hu
      exact cellI_one x u hx
  · have hl0 : xs = [] := by cases xs with | nil => rfl | cons a r => simp at h0
    subst hl0
    cases A with
    | none => exact Src.ofNil w hk c
    | some a => exact Src.ofSlice w hk a 0 c [] rfl (fun j u hj => by simp at hj) (fun u hu => by simp at hu)
theorem infoI : (Tryz.prog.info? 3).map (fun i => (i.zero, i.size, i.bytes)) = some (some (.int .i64 0), 1, 8) := by kernel_rfl
theorem appI {ops : Array Oper} {rest : List Oper} {o : Oper} {a : Act} {Q : Exit → Act → World → Prop} (X : World) (base : Nat) (v : Value) (l : List Int) (x0 : Int) (hown : Ow cellI 1 base 3 X v l)
    (hgd : o.guard = none) (p q : Operand) (ho : o.op = .call { callee := .builtin .append, args := #[p, q], argTypes := #[53, 53] }) (hp : a.eval p = v) {N : Nat} (hq : a.eval q = .slice (some ⟨N, 0, none⟩) 1 1) (hN : X.heap.size = N) (hl : l.length ≤ 100000000) (hb : base ≤ X.heap.size)
    (h : ∀ v' w', Ow cellI 1 base 3 w' v' (l ++ [x0]) → Fr (fun k => some k = foot v) X w' → (foot v' = foot v ∨ foot v' = some (X.heap.size + 1)) → wpList Tryz.prog ops Q rest (a.put o.dst v') w') :
    wpList Tryz.prog ops Q (o :: rest) a (X.alloc (.cells #[.int .i64 x0] 3)) := by
  subst hN
  exact app_src cellI 1 8 cellI_length (by decide) (by decide) _ _ 53 (.int .i64 0) rfl Tryz.underlying53 infoI hgd p q ho _ base v _ l [x0] hp hq
    (Src.ofSlice _ Tryz.underlying53 ⟨X.heap.size, 0, none⟩ 1 1 _ rfl (fun j u hj => by rw [Addr_add, Nat.zero_add, (Blk.new X 3 _).cell j]; simpa [cellI] using hj) (fun u hu => by simp at hu; exact cellI_one _ u hu)) (hown.alloc _) (by simp; omega) (by simp; omega) (fun v' w' h1 h2 h3 => h v' w' h1 (((Fr.refl _ _).alloc _).step h2) (by simpa using h3))
theorem appIs {ops : Array Oper} {rest : List Oper} {o : Oper} {a : Act} {Q : Exit → Act → World → Prop} (X : World) (base : Nat) (v : Value) (l : List Int) (r : SlV Int) (hr : IntsAt X r) (hown : Ow cellI 1 base 3 X v l)
    (hgd : o.guard = none) (p q : Operand) (ho : o.op = .call { callee := .builtin .append, args := #[p, q], argTypes := #[53, 53] }) (hp : a.eval p = v) (hq : a.eval q = .slice r.A r.xs.length r.c) (hl : l.length + r.xs.length ≤ 1000000000) (hb : base ≤ X.heap.size)
    (h : ∀ v' w', Ow cellI 1 base 3 w' v' (l ++ r.xs) → Fr (fun k => some k = foot v) X w' → (foot v' = foot v ∨ foot v' = some X.heap.size) → wpList Tryz.prog ops Q rest (a.put o.dst v') w') :
    wpList Tryz.prog ops Q (o :: rest) a X :=
  app_src cellI 1 8 cellI_length (by decide) (by decide) _ _ 53 (.int .i64 0) rfl Tryz.underlying53 infoI hgd p q ho _ base v _ l r.xs hp hq (hr.src Tryz.underlying53) hown hl hb h
end Go.Proofs.YtemhdfodghfkfaaGreatDoor
namespace Go.Proofs.YtemhdfodghfkfaaGreatDoor
open Go.RowKit
open Go.ChangeShapes Go.WideShapes Go.ChangeAt

def cellB (x : ByteArray) : List Value := [.string x]
theorem cellB_length (x : ByteArray) : (cellB x).length = 1 := rfl
theorem cellB_one (x : ByteArray) : ∀ u ∈ cellB x, u.oneCell' = true := by intro u hu; simp [cellB] at hu; subst hu; rfl
theorem infoB : (Tryz.prog.info? 9).map (fun i => (i.zero, i.size, i.bytes)) = some (some (.string ⟨#[]⟩), 1, 16) := by kernel_rfl
theorem appB {ops : Array Oper} {rest : List Oper} {o : Oper} {a : Act} {Q : Exit → Act → World → Prop} (X : World) (base : Nat) (v : Value) (l : List ByteArray) (x0 : ByteArray) (hown : Ow cellB 1 base 9 X v l)
    (hgd : o.guard = none) (p q : Operand) (ho : o.op = .call { callee := .builtin .append, args := #[p, q], argTypes := #[23, 23] }) (hp : a.eval p = v) {N : Nat} (hq : a.eval q = .slice (some ⟨N, 0, none⟩) 1 1) (hN : X.heap.size = N) (hl : l.length ≤ 100000000) (hb : base ≤ X.heap.size)
    (h : ∀ v' w', Ow cellB 1 base 9 w' v' (l ++ [x0]) → Fr (fun k => some k = foot v) X w' → (foot v' = foot v ∨ foot v' = some (X.heap.size + 1)) → wpList Tryz.prog ops Q rest (a.put o.dst v') w') :
    wpList Tryz.prog ops Q (o :: rest) a (X.alloc (.cells #[.string x0] 9)) := by
  subst hN
  exact app_src cellB 1 16 cellB_length (by decide) (by decide) _ _ 23 (.string ⟨#[]⟩) rfl Tryz.underlying23 infoB hgd p q ho _ base v _ l [x0] hp hq
    (Src.ofSlice _ Tryz.underlying23 ⟨X.heap.size, 0, none⟩ 1 1 _ rfl (fun j u hj => by rw [Addr_add, Nat.zero_add, (Blk.new X 9 _).cell j]; simpa [cellB] using hj) (fun u hu => by simp at hu; exact cellB_one _ u hu)) (hown.alloc _) (by simp; omega) (by simp; omega) (fun v' w' h1 h2 h3 => h v' w' h1 (((Fr.refl _ _).alloc _).step h2) (by simpa using h3))
theorem Ow.strCells {w : World} {base g off len cap : Nat} {T : TypeId} {l : List ByteArray} (h : Ow cellB 1 base T w (.slice (some ⟨g, off, none⟩) len cap) l) (h0 : 0 < l.length) :
    ∀ (j : Nat) x, l[j]? = some x → w.cell? ⟨g, off + j, none⟩ = some (.string x) := by
  obtain ⟨g', off', cap', he, h1, h2, hb, hlt, hfo, hc, _⟩ := h.get h0
  injection he with e1 e2 e3
  injection e1 with e1
  injection e1 with e4 e5
  subst e4 e5
  intro j x hj
  have hi : j < l.length := (List.getElem?_eq_some_iff.1 hj).1
  have := hc j hi 0 (by decide)
  rw [Nat.mul_one, Nat.add_zero] at this
  have hx : l[j] = x := (List.getElem?_eq_some_iff.1 hj).2
  rw [this, hx]
  rfl
end Go.Proofs.YtemhdfodghfkfaaGreatDoor
namespace Go.Proofs.YtemhdfodghfkfaaGreatDoor
open Go.RowKit
open Go.ChangeShapes Go.WideShapes Go.ChangeAt

def inL (n : Int) (l : List Int) : Bool := decide (n ∈ l)
theorem inL_true {n : Int} {l : List Int} : inL n l = true ↔ n ∈ l := by simp [inL]
theorem inL_false {n : Int} {l : List Int} : inL n l = false ↔ n ∉ l := by simp [inL]

set_option maxHeartbeats 400000 in
theorem in_any (s : SlV Int) (n : Int) (w : World) (hs : IntsAt w s) :
    Calls Tryz.prog 39 #[.slice s.A s.xs.length s.c, .int .i64 n] w fun e w' => e = .returned (.bool (inL n s.xs)) ∧ w = w' := by
  have hlen := hs.len
  unfold maxLen at hlen
  go_enter Tryz.func39, Tryz.ntmps39
  go_wp2
  go_loop [5] (fun i => ∃ k : Nat, k ≤ s.xs.length ∧ i = .int .i64 k ∧ n ∉ s.xs.take k) (fun i => s.xs.length - (intOf i).toNat)
  case atStart => exact ⟨0, Nat.zero_le _, rfl, by simp⟩
  case round =>
    obtain ⟨k, hk, rfl, hni⟩ := hrel
    by_cases hlt : k < s.xs.length
    · obtain ⟨b, off, hA, hb, hc⟩ := hs.row (by omega)
      have hx := hc k hlt
      have htk := take_snocD 0 hlt
      have hmem := getD_memD 0 hlt
      have HT := hid htk
      have HM := hid hmem
      have HN := hid hni
      clear htk hmem hni hc
      generalize s.xs.getD k 0 = x at *
      rw [hA]
      clear hA
      by_cases he : x = n
      · subst he
        go_wp2
        go_ret
        exact ⟨ret_b (by rw [inL_true.2 HM.out]), rfl⟩
      · go_wp2
        go_round
        case rel => exact ⟨k + 1, by omega, by go_num, by rw [HT.out]; simp; exact ⟨HN.out, fun h => he h.symm⟩⟩
        case measure => simp [intOf]; omega
    · obtain rfl : k = s.xs.length := by omega
      rw [List.take_length] at hni
      have HN := hid hni
      clear hni
      go_wp2
      go_ret
      exact ⟨ret_b (by rw [inL_false.2 HN.out]), rfl⟩
end Go.Proofs.YtemhdfodghfkfaaGreatDoor
namespace Go.Proofs.YtemhdfodghfkfaaGreatDoor
open Go.RowKit
open Go.ChangeShapes Go.WideShapes Go.ChangeAt

def IdxR (n : Int) (l : List Int) (w : World) (e : Ending) (w' : World) : Prop := ∃ r : Int, e = .returned (.int .i64 r) ∧ decide (0 ≤ r) = inL n l ∧ w = w'
set_option maxHeartbeats 400000 in
theorem sidx_any (s : SlV Int) (n : Int) (w : World) (hs : IntsAt w s) :
    Calls Tryz.prog 88 #[.slice s.A s.xs.length s.c, .int .i64 n] w (IdxR n s.xs w) := by
  have hlen := hs.len
  unfold maxLen at hlen
  go_enter Tryz.func88, Tryz.ntmps88
  go_wp2
  go_loop [8] (fun i => ∃ k : Nat, k ≤ s.xs.length ∧ i = .int .i64 k ∧ n ∉ s.xs.take k) (fun i => s.xs.length - (intOf i).toNat)
  case atStart => exact ⟨0, Nat.zero_le _, rfl, by simp⟩
  case round =>
    obtain ⟨k, hk, rfl, hno⟩ := hrel
    by_cases hlt : k < s.xs.length
    · obtain ⟨b, off, hA, hb, hc⟩ := hs.row (by omega)
      have hcell := hc k hlt
      have htk := take_snocD 0 hlt
      have hm := getD_memD 0 hlt
      have Hno := hid hno
      have Htk := hid htk
      have Hm := hid hm
      obtain ⟨x, hx⟩ : ∃ x, s.xs.getD k 0 = x := ⟨_, rfl⟩
      rw [hx] at hcell Htk Hm
      rw [hA]
      clear hc hA hno htk hm hx
      by_cases he : n = x
      · have hb : (n == x) = true := by rw [he]; simp
        have Hr := hid (show inL n s.xs = true by rw [inL_true, he]; exact Hm.out)
        clear he
        go_wp2
        go_ret
        exact ⟨k, rfl, by rw [Hr.out]; simp, rfl⟩
      · have hb : (n == x) = false := by rw [beq_eq_false_iff_ne]; exact he
        have He := hid he
        clear he
        go_wp2
        go_round
        case rel => exact ⟨k + 1, by omega, by go_num, by rw [Htk.out, List.mem_append, List.mem_singleton, not_or]; exact ⟨Hno.out, He.out⟩⟩
        case measure => simp [intOf]; omega
    · obtain rfl : k = s.xs.length := by omega
      have Hr := hid (show inL n s.xs = false by rw [inL_false]; rw [List.take_length] at hno; exact hno)
      clear hno
      go_wp2
      go_ret
      exact ⟨-1, rfl, by rw [Hr.out]; rfl, rfl⟩
theorem contains_any (s : SlV Int) (n : Int) (w : World) (hs : IntsAt w s) :
    Calls Tryz.prog 64 #[.slice s.A s.xs.length s.c, .int .i64 n] w fun e w' => e = .returned (.bool (inL n s.xs)) ∧ w = w' := by
  have HI := hid (sidx_any s n w hs)
  go_enter Tryz.func64, Tryz.ntmps64
  go_wp2_with fail
  refine HI.out.mono ?_
  rintro e w' ⟨r, rfl, hr, rfl⟩
  have Hr := hid hr
  clear hr
  go_wp2_with fail
  go_ret
  exact ⟨by show Ending.returned (.bool (decide (0 ≤ r))) = _; rw [Hr.out], rfl⟩

end Go.Proofs.YtemhdfodghfkfaaGreatDoor
