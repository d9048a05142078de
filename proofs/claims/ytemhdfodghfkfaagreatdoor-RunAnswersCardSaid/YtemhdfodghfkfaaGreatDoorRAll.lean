/-
  CONTRACTS of the references mereref1.Cache, mereref1.Get: plain functions. CONDITIONS: none.
  WHAT the reference's Add does, in plain: an entry put at its key. CONDITIONS: none.
  CONTRACT of the reference mereref1.Add, where the key is not there. CONDITIONS: none.
  CONTRACT of the reference mereref1.Add, where the key is there. CONDITIONS: none.
  CONTRACTS of the references mereref1.Add, either way, and mereref1.All. CONDITIONS: none.
-/
import Derived.Test.YtemhdfodghfkfaaGreatDoorCLaw
import Derived.Test.YtemhdfodghfkfaaGreatDoorCCheck
import Derived.Test.YtemhdfodghfkfaaGreatDoorJoin
import Derived.Test.YtemhdfodghfkfaaGreatDoorCAll
namespace Go.Proofs.YtemhdfodghfkfaaGreatDoor
open Go.RowKit
open Go.ChangeShapes Go.WideShapes Go.ChangeAt

/-! ### mereref1.Get -/
def rget (l : List E) (k : Int) : E × Bool := match lk l k with | some e => (e, true) | none => (E.zero, false)
theorem rget_nil (k : Int) : rget [] k = (E.zero, false) := rfl
theorem rget_cons (e : E) (r : List E) (k : Int) : rget (e :: r) k = if e.key = k then (e, true) else rget r k := by
  unfold rget
  rw [lk_cons]
  by_cases h : e.key = k
  · rw [if_pos h, if_pos h]
  · rw [if_neg h, if_neg h]

set_option maxHeartbeats 2000000 in
theorem rget_any (s : SlV E) (key : Int) (w : World) (hs : EntriesAt w s) :
    Calls Tryz.prog 36 #[.slice s.A s.xs.length s.c, .int .i64 key] w fun e w' => e = .returned (.tuple #[(rget s.xs key).1.val, .bool (rget s.xs key).2]) ∧ Below w.heap.size w w' := by
  have hlen := hs.len
  unfold maxLen at hlen
  generalize hr : rget s.xs key = r
  have Hr := hid hr
  clear hr
  go_enter Tryz.func36, Tryz.ntmps36
  go_wp2_with fail
  go_loopw [6] (fun i wr => ∃ k : Nat, k ≤ s.xs.length ∧ i = .int .i64 k ∧ rget (s.xs.drop k) key = r ∧ Blk wr w.heap.size 59 #[.int .i64 0, .int .i64 0, .int .i64 0, .bool false, .string ⟨#[]⟩] ∧ Below w.heap.size w wr) (fun i _ => s.xs.length - (intOf i).toNat)
  case atStart =>
    refine ⟨0, Nat.zero_le _, rfl, Hr.out, Blk.new w _ _, by (repeat (first | with_reducible exact Below.refl _ _ | with_reducible assumption | (with_reducible refine Below.drew ?_) | (with_reducible refine Below.manyDrew ?_ _) | ((with_reducible refine Below.alloc ?_ ?_ _); rotate_left; (focus (first | omega | (dsimp only; omega) | (simp; done) | (simp; omega)))) | ((with_reducible refine Below.setCell ?_ ?_ _); rotate_left; (focus (first | omega | (dsimp only; omega) | (simp; done) | (simp; omega)))) | ((with_reducible refine Below.step ?_ (by assumption) ?_); rotate_left; (focus (first | omega | (dsimp only; omega) | (simp; done) | (simp; omega))))))⟩
  case round =>
    obtain ⟨k, hk, rfl, hkr, hB, hbr⟩ := hrel
    have hz0 := hbr.size
    have hz1 := hB.lt
    have HB := hid hB
    have f0 := hB.frozen 0
    have f1 := hB.frozen 1
    have f2 := hB.frozen 2
    have f3 := hB.frozen 3
    have f4 := hB.frozen 4
    have c0 := hB.cell 0
    have c1 := hB.cell 1
    have c2 := hB.cell 2
    have c3 := hB.cell 3
    have c4 := hB.cell 4
    clear hB
    by_cases hlt : k < s.xs.length
    · obtain ⟨g, off, hA, hg, hcells⟩ := hs.get (by omega)
      obtain ⟨k0, k1, k2, k3, k4⟩ := (hcells k hlt).stays hbr hg
      have hgr : g < wr.heap.size := by omega
      have hgn : g ≠ w.heap.size := by omega
      have hd : s.xs.drop k = s.xs.getD k E.zero :: s.xs.drop (k + 1) := by
        rw [List.drop_eq_getElem_cons hlt, List.getD, List.getElem?_eq_getElem hlt, Option.getD_some]
      rw [hd, rget_cons] at hkr
      generalize s.xs.getD k E.zero = x at *
      obtain ⟨xk, xv, xa, xg, xt⟩ := x
      simp only at k0 k1 k2 k3 k4 hkr
      rw [hA]
      clear hA hcells hd
      by_cases hkk : xk = key
      · subst hkk
        rw [if_pos rfl] at hkr
        subst hkr
        go_wp2_with fail
        refine bodyPost_ret (v := .tuple #[E.val ⟨xk, xv, xa, xg, xt⟩, .bool true]) ?_ rfl ⟨rfl, by (repeat (first | with_reducible exact Below.refl _ _ | with_reducible assumption | (with_reducible refine Below.drew ?_) | (with_reducible refine Below.manyDrew ?_ _) | ((with_reducible refine Below.alloc ?_ ?_ _); rotate_left; (focus (first | omega | (dsimp only; omega) | (simp; done) | (simp; omega)))) | ((with_reducible refine Below.setCell ?_ ?_ _); rotate_left; (focus (first | omega | (dsimp only; omega) | (simp; done) | (simp; omega)))) | ((with_reducible refine Below.step ?_ (by assumption) ?_); rotate_left; (focus (first | omega | (dsimp only; omega) | (simp; done) | (simp; omega))))))⟩
        exact results_box Tryz.results36 rfl (HB.out.put5 _ _ _ _ _) Tryz.underlying59 rfl (by kernel_rfl)
      · rw [if_neg hkk] at hkr
        have Hk := hid hkk
        go_wp2_with fail
        go_roundw
        case rel => exact ⟨k + 1, by omega, by go_num, hkr, HB.out, hbr⟩
        case measure => simp [intOf]; omega
    · obtain rfl : k = s.xs.length := by omega
      rw [List.drop_length, rget_nil] at hkr
      subst hkr
      go_wp2_with fail
      refine bodyPost_ret (v := .tuple #[E.zero.val, .bool false]) ?_ rfl ⟨rfl, by (repeat (first | with_reducible exact Below.refl _ _ | with_reducible assumption | (with_reducible refine Below.drew ?_) | (with_reducible refine Below.manyDrew ?_ _) | ((with_reducible refine Below.alloc ?_ ?_ _); rotate_left; (focus (first | omega | (dsimp only; omega) | (simp; done) | (simp; omega)))) | ((with_reducible refine Below.setCell ?_ ?_ _); rotate_left; (focus (first | omega | (dsimp only; omega) | (simp; done) | (simp; omega)))) | ((with_reducible refine Below.step ?_ (by assumption) ?_); rotate_left; (focus (first | omega | (dsimp only; omega) | (simp; done) | (simp; omega))))))⟩
      exact results_box Tryz.results36 rfl (HB.out.put5 _ _ _ _ _) Tryz.underlying59 rfl (by kernel_rfl)
end Go.Proofs.YtemhdfodghfkfaaGreatDoor
namespace Go.Proofs.YtemhdfodghfkfaaGreatDoor
open Go.RowKit
open Go.ChangeShapes Go.WideShapes Go.ChangeAt

/-- the loop of Add behind any entry: put already, or not yet -/
def rgo (e : E) : Bool → List E → List E
  | p, [] => if p = true then [] else [e]
  | p, x :: r => if p = true then (if x.key = e.key then rgo e true r else x :: rgo e true r)
    else if e.key ≤ x.key then (if x.key = e.key then e :: rgo e true r else e :: x :: rgo e true r)
    else x :: rgo e false r
theorem rgo_true : ∀ {l : List E} (e : E), (∀ x ∈ l, x.key ≠ e.key) → rgo e true l = l
  | [], e, _ => by rw [rgo, if_pos rfl]
  | x :: r, e, h => by
    rw [rgo, if_pos rfl, if_neg (h x (by simp)), rgo_true e (fun y hy => h y (by simp [hy]))]
theorem rgo_put : ∀ {l : List E} (e : E), Asc l → rgo e false l = put l e
  | [], e, _ => by rw [rgo, if_neg (by decide), put]
  | x :: r, e, h => by
    obtain ⟨h1, h2⟩ := List.pairwise_cons.1 h
    rw [rgo, if_neg (by decide), put]
    by_cases hle : e.key ≤ x.key
    · have ht : rgo e true r = r := rgo_true e (fun y hy => by have := h1 y hy; omega)
      rw [if_pos hle, if_neg (by omega : ¬ x.key < e.key), ht]
    · rw [if_neg hle, if_pos (by omega : x.key < e.key), rgo_put e h2]
/-- what the reference's Add tells -/
def radd (l : List E) (e : E) : List E × Int :=
  if (rget l e.key).2 = true then (if (rjoin (rget l e.key).1 e).2 = 0 then (rgo (rjoin (rget l e.key).1 e).1 false l, 0) else ([], (rjoin (rget l e.key).1 e).2)) else (rgo e false l, 0)
def RARes (w : World) (r : List E × Int) (e : Ending) (w' : World) : Prop :=
  ∃ v, e = .returned (.tuple #[v, .int .i64 r.2]) ∧ Ow E.cells 5 w.heap.size 59 w' v r.1 ∧ Below w.heap.size w w'
end Go.Proofs.YtemhdfodghfkfaaGreatDoor
namespace Go.Proofs.YtemhdfodghfkfaaGreatDoor
open Go.RowKit
open Go.ChangeShapes Go.WideShapes Go.ChangeAt

set_option maxHeartbeats 8000000 in
set_option maxRecDepth 100000 in
theorem radd_no (s : SlV E) (x0 x1 x2 : Int) (x3 : Bool) (x4 : ByteArray) (w : World) (hs : EsAt w s) (hn8 : s.xs.length ≤ 8) (hno : (rget s.xs x0).2 = false) :
    Calls Tryz.prog 58 #[.slice s.A s.xs.length s.c, .agg #[.int .i64 x0, .int .i64 x1, .int .i64 x2, .bool x3, .string x4]] w (RARes w (rgo ⟨x0, x1, x2, x3, x4⟩ false s.xs, 0)) := by
  have HG := hid (fun W (hW : Below w.heap.size w W) => rget_any s x0 W (hs.stays hW).entries)
  have HB := hid (Blk.new w 59 #[.int .i64 x0, .int .i64 x1, .int .i64 x2, .bool x3, .string x4])
  generalize hg1 : rget s.xs x0 = G at *
  obtain ⟨⟨y0, y1, y2, y3, y4⟩, gb⟩ := G
  simp only at hno
  subst hno
  generalize hR : rgo ⟨x0, x1, x2, x3, x4⟩ false s.xs = R
  have HR := hid hR
  clear hR hg1
  go_enter Tryz.func58, Tryz.ntmps58
  go_wp2_with fail
  refine (HG.out _ (by (repeat (first | with_reducible exact Below.refl _ _ | with_reducible assumption | (with_reducible refine Below.drew ?_) | (with_reducible refine Below.manyDrew ?_ _) | ((with_reducible refine Below.alloc ?_ ?_ _); rotate_left; (focus (first | omega | (dsimp only; omega) | (simp; done) | (simp; omega)))) | ((with_reducible refine Below.setCell ?_ ?_ _); rotate_left; (focus (first | omega | (dsimp only; omega) | (simp; done) | (simp; omega)))) | ((with_reducible refine Below.step ?_ (by assumption) ?_); rotate_left; (focus (first | omega | (dsimp only; omega) | (simp; done) | (simp; omega)))))))).mono ?_
  unfold E.val
  rintro e w1 ⟨rfl, hb1⟩
  have hX1 := HB.out.belowS hb1
  have hz1 := hb1.size
  rw [World.size_alloc] at hz1
  have Hb1 := hid (show Below w.heap.size w w1 by (repeat (first | with_reducible exact Below.refl _ _ | with_reducible assumption | (with_reducible refine Below.drew ?_) | (with_reducible refine Below.manyDrew ?_ _) | ((with_reducible refine Below.alloc ?_ ?_ _); rotate_left; (focus (first | omega | (dsimp only; omega) | (simp; done) | (simp; omega)))) | ((with_reducible refine Below.setCell ?_ ?_ _); rotate_left; (focus (first | omega | (dsimp only; omega) | (simp; done) | (simp; omega)))) | ((with_reducible refine Below.step ?_ (by assumption) ?_); rotate_left; (focus (first | omega | (dsimp only; omega) | (simp; done) | (simp; omega)))))))
  have HX1 := hid hX1
  clear hb1 hX1
  go_wp2_with fail
  go_loopw [9, 10, 11] (fun u pv i wr => ∃ (k : Nat) (l' : List E) (p : Bool), k ≤ s.xs.length ∧ i = .int .i64 k ∧ pv = .bool p ∧ (p = false → l'.length ≤ k) ∧ l'.length ≤ k + 1 ∧ l' ++ rgo ⟨x0, x1, x2, x3, x4⟩ p (s.xs.drop k) = R ∧ Ow E.cells 5 (w.heap.size + 1) 59 wr u l' ∧ Blk wr w.heap.size 59 #[.int .i64 x0, .int .i64 x1, .int .i64 x2, .bool x3, .string x4] ∧ Below w.heap.size w wr) (fun _ _ i _ => s.xs.length - (intOf i).toNat)
  case atStart => exact ⟨0, [], false, Nat.zero_le _, rfl, rfl, by simp, by simp, HR.out, Ow.nil _ _ _ _ _, HX1.out.belowS (by (repeat (first | with_reducible exact Below.refl _ _ | with_reducible assumption | (with_reducible refine Below.drew ?_) | (with_reducible refine Below.manyDrew ?_ _) | ((with_reducible refine Below.alloc ?_ ?_ _); rotate_left; (focus (first | omega | (dsimp only; omega) | (simp; done) | (simp; omega)))) | ((with_reducible refine Below.setCell ?_ ?_ _); rotate_left; (focus (first | omega | (dsimp only; omega) | (simp; done) | (simp; omega)))) | ((with_reducible refine Below.step ?_ (by assumption) ?_); rotate_left; (focus (first | omega | (dsimp only; omega) | (simp; done) | (simp; omega))))))), by have hb1 := Hb1.out; (repeat (first | with_reducible exact Below.refl _ _ | with_reducible assumption | (with_reducible refine Below.drew ?_) | (with_reducible refine Below.manyDrew ?_ _) | ((with_reducible refine Below.alloc ?_ ?_ _); rotate_left; (focus (first | omega | (dsimp only; omega) | (simp; done) | (simp; omega)))) | ((with_reducible refine Below.setCell ?_ ?_ _); rotate_left; (focus (first | omega | (dsimp only; omega) | (simp; done) | (simp; omega)))) | ((with_reducible refine Below.step ?_ (by assumption) ?_); rotate_left; (focus (first | omega | (dsimp only; omega) | (simp; done) | (simp; omega))))))⟩
  case round =>
    obtain ⟨k, l', p, hk, rfl, rfl, hpl, hll, hRk, hOw, hB, hb⟩ := hrel
    have hz0 := hb.size
    have hzB := hB.lt
    have HO := hid hOw
    have HBx := hid hB
    have HGe := hid hOw.ge
    have c0 := hB.cell 0
    have c1 := hB.cell 1
    have c2 := hB.cell 2
    have c3 := hB.cell 3
    have c4 := hB.cell 4
    have Hbb := hid hb
    clear hB hOw
    by_cases hlt : k < s.xs.length
    · obtain ⟨g, off, hA, hgl, hcells⟩ := hs.row (by omega)
      have HKs := hid (fun W (hW : Below w.heap.size w W) => (hcells k hlt).stays hW hgl)
      have hgr : g < wr.heap.size := by omega
      rw [drop_consD E.zero hlt, rgo] at hRk
      generalize s.xs.getD k E.zero = y at *
      obtain ⟨y0, y1, y2, y3, y4⟩ := y
      obtain ⟨k0, k1, k2, k3, k4⟩ := HKs.out wr hb
      simp only at k0 k1 k2 k3 k4 hRk
      rw [hA]
      clear hA hcells
      cases p with
      | true =>
        rw [if_pos rfl] at hRk
        by_cases heq : y0 = x0
        · rw [if_pos heq] at hRk
          have HRk2 := hid hRk
          clear hRk
          go_wp2_with fail
          go_quiet (fail)
          go_wp2_with fail
          go_quiet (fail)
          go_wp2_with fail
          go_roundw
          case rel => exact ⟨k + 1, l', true, by omega, by go_num, rfl, (fun h => by cases h), by omega, HRk2.out, HO.out.belowS (by (repeat (first | with_reducible exact Below.refl _ _ | with_reducible assumption | (with_reducible refine Below.drew ?_) | (with_reducible refine Below.manyDrew ?_ _) | ((with_reducible refine Below.alloc ?_ ?_ _); rotate_left; (focus (first | omega | (dsimp only; omega) | (simp; done) | (simp; omega)))) | ((with_reducible refine Below.setCell ?_ ?_ _); rotate_left; (focus (first | omega | (dsimp only; omega) | (simp; done) | (simp; omega)))) | ((with_reducible refine Below.step ?_ (by assumption) ?_); rotate_left; (focus (first | omega | (dsimp only; omega) | (simp; done) | (simp; omega))))))), HBx.out.belowS (by (repeat (first | with_reducible exact Below.refl _ _ | with_reducible assumption | (with_reducible refine Below.drew ?_) | (with_reducible refine Below.manyDrew ?_ _) | ((with_reducible refine Below.alloc ?_ ?_ _); rotate_left; (focus (first | omega | (dsimp only; omega) | (simp; done) | (simp; omega)))) | ((with_reducible refine Below.setCell ?_ ?_ _); rotate_left; (focus (first | omega | (dsimp only; omega) | (simp; done) | (simp; omega)))) | ((with_reducible refine Below.step ?_ (by assumption) ?_); rotate_left; (focus (first | omega | (dsimp only; omega) | (simp; done) | (simp; omega))))))), by (repeat (first | with_reducible exact Below.refl _ _ | with_reducible assumption | (with_reducible refine Below.drew ?_) | (with_reducible refine Below.manyDrew ?_ _) | ((with_reducible refine Below.alloc ?_ ?_ _); rotate_left; (focus (first | omega | (dsimp only; omega) | (simp; done) | (simp; omega)))) | ((with_reducible refine Below.setCell ?_ ?_ _); rotate_left; (focus (first | omega | (dsimp only; omega) | (simp; done) | (simp; omega)))) | ((with_reducible refine Below.step ?_ (by assumption) ?_); rotate_left; (focus (first | omega | (dsimp only; omega) | (simp; done) | (simp; omega))))))⟩
          case measure => simp [intOf]; omega
        · rw [if_neg heq] at hRk
          have HRk2 := hid hRk
          clear hRk
          go_wp2_with fail
          go_quiet (fail)
          go_wp2_with fail
          go_quiet (fail)
          go_wp2_with (at_builtin; refine appE _ (w.heap.size + 1) _ l' y0 y1 y2 y3 y4 (HO.out.belowS (by (repeat (first | with_reducible exact Below.refl _ _ | with_reducible assumption | (with_reducible refine Below.drew ?_) | (with_reducible refine Below.manyDrew ?_ _) | ((with_reducible refine Below.alloc ?_ ?_ _); rotate_left; (focus (first | omega | (dsimp only; omega) | (simp; done) | (simp; omega)))) | ((with_reducible refine Below.setCell ?_ ?_ _); rotate_left; (focus (first | omega | (dsimp only; omega) | (simp; done) | (simp; omega)))) | ((with_reducible refine Below.step ?_ (by assumption) ?_); rotate_left; (focus (first | omega | (dsimp only; omega) | (simp; done) | (simp; omega)))))))) rfl _ _ rfl rfl rfl ?_ ?_ ?_ ?_)
          all_goals try (first | omega | (simp; done) | (simp; omega))
          intro v8 w8 h8 f8 o8
          have hB8 := (HBx.out.belowS (w' := _) (by (repeat (first | with_reducible exact Below.refl _ _ | with_reducible assumption | (with_reducible refine Below.drew ?_) | (with_reducible refine Below.manyDrew ?_ _) | ((with_reducible refine Below.alloc ?_ ?_ _); rotate_left; (focus (first | omega | (dsimp only; omega) | (simp; done) | (simp; omega)))) | ((with_reducible refine Below.setCell ?_ ?_ _); rotate_left; (focus (first | omega | (dsimp only; omega) | (simp; done) | (simp; omega)))) | ((with_reducible refine Below.step ?_ (by assumption) ?_); rotate_left; (focus (first | omega | (dsimp only; omega) | (simp; done) | (simp; omega)))))))).fr f8 (fun h => by have := HGe.out _ h; omega)
          have hb8 := (show Below w.heap.size w _ by (repeat (first | with_reducible exact Below.refl _ _ | with_reducible assumption | (with_reducible refine Below.drew ?_) | (with_reducible refine Below.manyDrew ?_ _) | ((with_reducible refine Below.alloc ?_ ?_ _); rotate_left; (focus (first | omega | (dsimp only; omega) | (simp; done) | (simp; omega)))) | ((with_reducible refine Below.setCell ?_ ?_ _); rotate_left; (focus (first | omega | (dsimp only; omega) | (simp; done) | (simp; omega)))) | ((with_reducible refine Below.step ?_ (by assumption) ?_); rotate_left; (focus (first | omega | (dsimp only; omega) | (simp; done) | (simp; omega))))))).trans (f8.below0 (B := w.heap.size) (by simp; omega) (fun i hi => by have := HGe.out _ hi; omega))
          go_wp2_with fail
          go_roundw
          case rel => exact ⟨k + 1, l' ++ [⟨y0, y1, y2, y3, y4⟩], true, by omega, by go_num, rfl, (fun h => by cases h), by simp; omega, by rw [List.append_assoc]; exact HRk2.out, h8, hB8, hb8⟩
          case measure => simp [intOf]; omega
      | false =>
        rw [if_neg (by decide)] at hRk
        have hlk := hpl rfl
        by_cases hle : x0 ≤ y0
        · rw [if_pos hle] at hRk
          by_cases heq : y0 = x0
          · rw [if_pos heq] at hRk
            have HRk2 := hid hRk
            clear hRk
            go_wp2_with fail
            go_quiet (fail)
            go_wp2_with (at_builtin; refine appE _ (w.heap.size + 1) _ l' x0 x1 x2 x3 x4 (HO.out.belowS (by (repeat (first | with_reducible exact Below.refl _ _ | with_reducible assumption | (with_reducible refine Below.drew ?_) | (with_reducible refine Below.manyDrew ?_ _) | ((with_reducible refine Below.alloc ?_ ?_ _); rotate_left; (focus (first | omega | (dsimp only; omega) | (simp; done) | (simp; omega)))) | ((with_reducible refine Below.setCell ?_ ?_ _); rotate_left; (focus (first | omega | (dsimp only; omega) | (simp; done) | (simp; omega)))) | ((with_reducible refine Below.step ?_ (by assumption) ?_); rotate_left; (focus (first | omega | (dsimp only; omega) | (simp; done) | (simp; omega)))))))) rfl _ _ rfl rfl rfl ?_ ?_ ?_ ?_)
            all_goals try (first | omega | (simp; done) | (simp; omega))
            intro v8 w8 h8 f8 o8
            have hB8 := (HBx.out.belowS (w' := _) (by (repeat (first | with_reducible exact Below.refl _ _ | with_reducible assumption | (with_reducible refine Below.drew ?_) | (with_reducible refine Below.manyDrew ?_ _) | ((with_reducible refine Below.alloc ?_ ?_ _); rotate_left; (focus (first | omega | (dsimp only; omega) | (simp; done) | (simp; omega)))) | ((with_reducible refine Below.setCell ?_ ?_ _); rotate_left; (focus (first | omega | (dsimp only; omega) | (simp; done) | (simp; omega)))) | ((with_reducible refine Below.step ?_ (by assumption) ?_); rotate_left; (focus (first | omega | (dsimp only; omega) | (simp; done) | (simp; omega)))))))).fr f8 (fun h => by have := HGe.out _ h; omega)
            have hb8 := (show Below w.heap.size w _ by (repeat (first | with_reducible exact Below.refl _ _ | with_reducible assumption | (with_reducible refine Below.drew ?_) | (with_reducible refine Below.manyDrew ?_ _) | ((with_reducible refine Below.alloc ?_ ?_ _); rotate_left; (focus (first | omega | (dsimp only; omega) | (simp; done) | (simp; omega)))) | ((with_reducible refine Below.setCell ?_ ?_ _); rotate_left; (focus (first | omega | (dsimp only; omega) | (simp; done) | (simp; omega)))) | ((with_reducible refine Below.step ?_ (by assumption) ?_); rotate_left; (focus (first | omega | (dsimp only; omega) | (simp; done) | (simp; omega))))))).trans (f8.below0 (B := w.heap.size) (by simp; omega) (fun i hi => by have := HGe.out _ hi; omega))
            have hz8 := hb8.size
            have hl8 := hB8.lt
            obtain ⟨m0, m1, m2, m3, m4⟩ := HKs.out w8 hb8
            have d0 : w8.cell? ⟨w.heap.size, 0, none⟩ = some (.int .i64 x0) := hB8.cell 0
            have H8 := hid h8
            have HB8 := hid hB8
            clear h8 hB8 f8
            go_wp2_with fail
            go_quiet (fail)
            go_wp2_with fail
            go_roundw
            case rel => exact ⟨k + 1, l' ++ [⟨x0, x1, x2, x3, x4⟩], true, by omega, by go_num, rfl, (fun h => by cases h), by simp; omega, by rw [List.append_assoc]; exact HRk2.out, H8.out.belowS (by (repeat (first | with_reducible exact Below.refl _ _ | with_reducible assumption | (with_reducible refine Below.drew ?_) | (with_reducible refine Below.manyDrew ?_ _) | ((with_reducible refine Below.alloc ?_ ?_ _); rotate_left; (focus (first | omega | (dsimp only; omega) | (simp; done) | (simp; omega)))) | ((with_reducible refine Below.setCell ?_ ?_ _); rotate_left; (focus (first | omega | (dsimp only; omega) | (simp; done) | (simp; omega)))) | ((with_reducible refine Below.step ?_ (by assumption) ?_); rotate_left; (focus (first | omega | (dsimp only; omega) | (simp; done) | (simp; omega))))))), HB8.out.belowS (by (repeat (first | with_reducible exact Below.refl _ _ | with_reducible assumption | (with_reducible refine Below.drew ?_) | (with_reducible refine Below.manyDrew ?_ _) | ((with_reducible refine Below.alloc ?_ ?_ _); rotate_left; (focus (first | omega | (dsimp only; omega) | (simp; done) | (simp; omega)))) | ((with_reducible refine Below.setCell ?_ ?_ _); rotate_left; (focus (first | omega | (dsimp only; omega) | (simp; done) | (simp; omega)))) | ((with_reducible refine Below.step ?_ (by assumption) ?_); rotate_left; (focus (first | omega | (dsimp only; omega) | (simp; done) | (simp; omega))))))), by (repeat (first | with_reducible exact Below.refl _ _ | with_reducible assumption | (with_reducible refine Below.drew ?_) | (with_reducible refine Below.manyDrew ?_ _) | ((with_reducible refine Below.alloc ?_ ?_ _); rotate_left; (focus (first | omega | (dsimp only; omega) | (simp; done) | (simp; omega)))) | ((with_reducible refine Below.setCell ?_ ?_ _); rotate_left; (focus (first | omega | (dsimp only; omega) | (simp; done) | (simp; omega)))) | ((with_reducible refine Below.step ?_ (by assumption) ?_); rotate_left; (focus (first | omega | (dsimp only; omega) | (simp; done) | (simp; omega))))))⟩
            case measure => simp [intOf]; omega
          · rw [if_neg heq] at hRk
            have HRk2 := hid hRk
            clear hRk
            go_wp2_with fail
            go_quiet (fail)
            go_wp2_with (at_builtin; refine appE _ (w.heap.size + 1) _ l' x0 x1 x2 x3 x4 (HO.out.belowS (by (repeat (first | with_reducible exact Below.refl _ _ | with_reducible assumption | (with_reducible refine Below.drew ?_) | (with_reducible refine Below.manyDrew ?_ _) | ((with_reducible refine Below.alloc ?_ ?_ _); rotate_left; (focus (first | omega | (dsimp only; omega) | (simp; done) | (simp; omega)))) | ((with_reducible refine Below.setCell ?_ ?_ _); rotate_left; (focus (first | omega | (dsimp only; omega) | (simp; done) | (simp; omega)))) | ((with_reducible refine Below.step ?_ (by assumption) ?_); rotate_left; (focus (first | omega | (dsimp only; omega) | (simp; done) | (simp; omega)))))))) rfl _ _ rfl rfl rfl ?_ ?_ ?_ ?_)
            all_goals try (first | omega | (simp; done) | (simp; omega))
            intro v8 w8 h8 f8 o8
            have hB8 := (HBx.out.belowS (w' := _) (by (repeat (first | with_reducible exact Below.refl _ _ | with_reducible assumption | (with_reducible refine Below.drew ?_) | (with_reducible refine Below.manyDrew ?_ _) | ((with_reducible refine Below.alloc ?_ ?_ _); rotate_left; (focus (first | omega | (dsimp only; omega) | (simp; done) | (simp; omega)))) | ((with_reducible refine Below.setCell ?_ ?_ _); rotate_left; (focus (first | omega | (dsimp only; omega) | (simp; done) | (simp; omega)))) | ((with_reducible refine Below.step ?_ (by assumption) ?_); rotate_left; (focus (first | omega | (dsimp only; omega) | (simp; done) | (simp; omega)))))))).fr f8 (fun h => by have := HGe.out _ h; omega)
            have hb8 := (show Below w.heap.size w _ by (repeat (first | with_reducible exact Below.refl _ _ | with_reducible assumption | (with_reducible refine Below.drew ?_) | (with_reducible refine Below.manyDrew ?_ _) | ((with_reducible refine Below.alloc ?_ ?_ _); rotate_left; (focus (first | omega | (dsimp only; omega) | (simp; done) | (simp; omega)))) | ((with_reducible refine Below.setCell ?_ ?_ _); rotate_left; (focus (first | omega | (dsimp only; omega) | (simp; done) | (simp; omega)))) | ((with_reducible refine Below.step ?_ (by assumption) ?_); rotate_left; (focus (first | omega | (dsimp only; omega) | (simp; done) | (simp; omega))))))).trans (f8.below0 (B := w.heap.size) (by simp; omega) (fun i hi => by have := HGe.out _ hi; omega))
            have hz8 := hb8.size
            have hl8 := hB8.lt
            obtain ⟨m0, m1, m2, m3, m4⟩ := HKs.out w8 hb8
            simp only at m0 m1 m2 m3 m4
            have d0 : w8.cell? ⟨w.heap.size, 0, none⟩ = some (.int .i64 x0) := hB8.cell 0
            have H8 := hid h8
            have HB8 := hid hB8
            have HGe8 := hid h8.ge
            clear h8 hB8 f8
            go_wp2_with fail
            go_quiet (fail)
            go_wp2_with (at_builtin; refine appE _ (w.heap.size + 1) _ (l' ++ [⟨x0, x1, x2, x3, x4⟩]) y0 y1 y2 y3 y4 (H8.out.belowS (by (repeat (first | with_reducible exact Below.refl _ _ | with_reducible assumption | (with_reducible refine Below.drew ?_) | (with_reducible refine Below.manyDrew ?_ _) | ((with_reducible refine Below.alloc ?_ ?_ _); rotate_left; (focus (first | omega | (dsimp only; omega) | (simp; done) | (simp; omega)))) | ((with_reducible refine Below.setCell ?_ ?_ _); rotate_left; (focus (first | omega | (dsimp only; omega) | (simp; done) | (simp; omega)))) | ((with_reducible refine Below.step ?_ (by assumption) ?_); rotate_left; (focus (first | omega | (dsimp only; omega) | (simp; done) | (simp; omega)))))))) rfl _ _ rfl rfl rfl ?_ ?_ ?_ ?_)
            all_goals try (first | omega | (simp; done) | (simp; omega))
            intro v9 w9 h9 f9 o9
            have hB9 := (HB8.out.belowS (w' := _) (by (repeat (first | with_reducible exact Below.refl _ _ | with_reducible assumption | (with_reducible refine Below.drew ?_) | (with_reducible refine Below.manyDrew ?_ _) | ((with_reducible refine Below.alloc ?_ ?_ _); rotate_left; (focus (first | omega | (dsimp only; omega) | (simp; done) | (simp; omega)))) | ((with_reducible refine Below.setCell ?_ ?_ _); rotate_left; (focus (first | omega | (dsimp only; omega) | (simp; done) | (simp; omega)))) | ((with_reducible refine Below.step ?_ (by assumption) ?_); rotate_left; (focus (first | omega | (dsimp only; omega) | (simp; done) | (simp; omega)))))))).fr f9 (fun h => by have := HGe8.out _ h; omega)
            have hb9 := (show Below w.heap.size w _ by (repeat (first | with_reducible exact Below.refl _ _ | with_reducible assumption | (with_reducible refine Below.drew ?_) | (with_reducible refine Below.manyDrew ?_ _) | ((with_reducible refine Below.alloc ?_ ?_ _); rotate_left; (focus (first | omega | (dsimp only; omega) | (simp; done) | (simp; omega)))) | ((with_reducible refine Below.setCell ?_ ?_ _); rotate_left; (focus (first | omega | (dsimp only; omega) | (simp; done) | (simp; omega)))) | ((with_reducible refine Below.step ?_ (by assumption) ?_); rotate_left; (focus (first | omega | (dsimp only; omega) | (simp; done) | (simp; omega))))))).trans (f9.below0 (B := w.heap.size) (by simp; omega) (fun i hi => by have := HGe8.out _ hi; omega))
            go_wp2_with fail
            go_roundw
            case rel => exact ⟨k + 1, l' ++ [⟨x0, x1, x2, x3, x4⟩, ⟨y0, y1, y2, y3, y4⟩], true, by omega, by go_num, rfl, (fun h => by cases h), by simp; omega, by rw [List.append_assoc]; exact HRk2.out, h9, hB9, hb9⟩
            case measure => simp [intOf]; omega
        · rw [if_neg hle] at hRk
          have heq : ¬ y0 = x0 := by omega
          have HRk2 := hid hRk
          clear hRk
          go_wp2_with fail
          go_quiet (fail)
          go_wp2_with fail
          go_quiet (fail)
          go_wp2_with (at_builtin; refine appE _ (w.heap.size + 1) _ l' y0 y1 y2 y3 y4 (HO.out.belowS (by (repeat (first | with_reducible exact Below.refl _ _ | with_reducible assumption | (with_reducible refine Below.drew ?_) | (with_reducible refine Below.manyDrew ?_ _) | ((with_reducible refine Below.alloc ?_ ?_ _); rotate_left; (focus (first | omega | (dsimp only; omega) | (simp; done) | (simp; omega)))) | ((with_reducible refine Below.setCell ?_ ?_ _); rotate_left; (focus (first | omega | (dsimp only; omega) | (simp; done) | (simp; omega)))) | ((with_reducible refine Below.step ?_ (by assumption) ?_); rotate_left; (focus (first | omega | (dsimp only; omega) | (simp; done) | (simp; omega)))))))) rfl _ _ rfl rfl rfl ?_ ?_ ?_ ?_)
          all_goals try (first | omega | (simp; done) | (simp; omega))
          intro v8 w8 h8 f8 o8
          have hB8 := (HBx.out.belowS (w' := _) (by (repeat (first | with_reducible exact Below.refl _ _ | with_reducible assumption | (with_reducible refine Below.drew ?_) | (with_reducible refine Below.manyDrew ?_ _) | ((with_reducible refine Below.alloc ?_ ?_ _); rotate_left; (focus (first | omega | (dsimp only; omega) | (simp; done) | (simp; omega)))) | ((with_reducible refine Below.setCell ?_ ?_ _); rotate_left; (focus (first | omega | (dsimp only; omega) | (simp; done) | (simp; omega)))) | ((with_reducible refine Below.step ?_ (by assumption) ?_); rotate_left; (focus (first | omega | (dsimp only; omega) | (simp; done) | (simp; omega)))))))).fr f8 (fun h => by have := HGe.out _ h; omega)
          have hb8 := (show Below w.heap.size w _ by (repeat (first | with_reducible exact Below.refl _ _ | with_reducible assumption | (with_reducible refine Below.drew ?_) | (with_reducible refine Below.manyDrew ?_ _) | ((with_reducible refine Below.alloc ?_ ?_ _); rotate_left; (focus (first | omega | (dsimp only; omega) | (simp; done) | (simp; omega)))) | ((with_reducible refine Below.setCell ?_ ?_ _); rotate_left; (focus (first | omega | (dsimp only; omega) | (simp; done) | (simp; omega)))) | ((with_reducible refine Below.step ?_ (by assumption) ?_); rotate_left; (focus (first | omega | (dsimp only; omega) | (simp; done) | (simp; omega))))))).trans (f8.below0 (B := w.heap.size) (by simp; omega) (fun i hi => by have := HGe.out _ hi; omega))
          go_wp2_with fail
          go_roundw
          case rel => exact ⟨k + 1, l' ++ [⟨y0, y1, y2, y3, y4⟩], false, by omega, by go_num, rfl, (fun _ => by simp; omega), by simp; omega, by rw [List.append_assoc]; exact HRk2.out, h8, hB8, hb8⟩
          case measure => simp [intOf]; omega
    · obtain rfl : k = s.xs.length := by omega
      rw [List.drop_length, rgo] at hRk
      cases p with
      | true =>
        rw [if_pos rfl, List.append_nil] at hRk
        subst hRk
        go_wp2_with fail
        go_ret2
        exact ⟨_, rfl, HO.out.mono (by omega), Hbb.out⟩
      | false =>
        rw [if_neg (by decide)] at hRk
        subst hRk
        go_wp2_with (at_builtin; refine appE _ (w.heap.size + 1) _ l' x0 x1 x2 x3 x4 HO.out rfl _ _ rfl rfl rfl ?_ ?_ ?_ ?_)
        all_goals try (first | omega | (simp; done) | (simp; omega))
        intro v8 w8 h8 f8 o8
        have hb8 := Hbb.out.trans (f8.below0 (B := w.heap.size) (by omega) (fun i hi => by have := HGe.out _ hi; omega))
        go_wp2_with fail
        go_ret2
        exact ⟨_, rfl, h8.mono (by omega), hb8⟩
end Go.Proofs.YtemhdfodghfkfaaGreatDoor
namespace Go.Proofs.YtemhdfodghfkfaaGreatDoor
open Go.RowKit
open Go.ChangeShapes Go.WideShapes Go.ChangeAt

set_option maxHeartbeats 8000000 in
set_option maxRecDepth 100000 in
theorem radd_yes (s : SlV E) (x0 x1 x2 : Int) (x3 : Bool) (x4 : ByteArray) (w : World) (hs : EsAt w s) (hn8 : s.xs.length ≤ 8) (hno : (rget s.xs x0).2 = true) :
    Calls Tryz.prog 58 #[.slice s.A s.xs.length s.c, .agg #[.int .i64 x0, .int .i64 x1, .int .i64 x2, .bool x3, .string x4]] w
      (RARes w (if (rjoin (rget s.xs x0).1 ⟨x0, x1, x2, x3, x4⟩).2 = 0 then (rgo (rjoin (rget s.xs x0).1 ⟨x0, x1, x2, x3, x4⟩).1 false s.xs, 0) else ([], (rjoin (rget s.xs x0).1 ⟨x0, x1, x2, x3, x4⟩).2))) := by
  have HG := hid (fun W (hW : Below w.heap.size w W) => rget_any s x0 W (hs.stays hW).entries)
  have HB := hid (Blk.new w 59 #[.int .i64 x0, .int .i64 x1, .int .i64 x2, .bool x3, .string x4])
  generalize hg1 : rget s.xs x0 = G at *
  obtain ⟨⟨v0, v1, v2, v3, v4⟩, gb⟩ := G
  simp only at hno
  subst hno
  have HJ := hid (fun W => rjoin_any v0 v1 v2 v3 v4 x0 x1 x2 x3 x4 W)
  simp only
  generalize rjoin ⟨v0, v1, v2, v3, v4⟩ ⟨x0, x1, x2, x3, x4⟩ = J at *
  obtain ⟨⟨z0, z1, z2, z3, z4⟩, jf⟩ := J
  simp only
  generalize hR : (if jf = 0 then (rgo ⟨z0, z1, z2, z3, z4⟩ false s.xs, 0) else (([] : List E), jf)) = RR
  have HRR := hid hR
  clear hR hg1
  go_enter Tryz.func58, Tryz.ntmps58
  go_wp2_with fail
  refine (HG.out _ (by (repeat (first | with_reducible exact Below.refl _ _ | with_reducible assumption | (with_reducible refine Below.drew ?_) | (with_reducible refine Below.manyDrew ?_ _) | ((with_reducible refine Below.alloc ?_ ?_ _); rotate_left; (focus (first | omega | (dsimp only; omega) | (simp; done) | (simp; omega)))) | ((with_reducible refine Below.setCell ?_ ?_ _); rotate_left; (focus (first | omega | (dsimp only; omega) | (simp; done) | (simp; omega)))) | ((with_reducible refine Below.step ?_ (by assumption) ?_); rotate_left; (focus (first | omega | (dsimp only; omega) | (simp; done) | (simp; omega)))))))).mono ?_
  unfold E.val
  rintro e w1 ⟨rfl, hb1⟩
  have hX1 := HB.out.belowS hb1
  have hz1 := hb1.size
  rw [World.size_alloc] at hz1
  have Hb1 := hid (show Below w.heap.size w w1 by (repeat (first | with_reducible exact Below.refl _ _ | with_reducible assumption | (with_reducible refine Below.drew ?_) | (with_reducible refine Below.manyDrew ?_ _) | ((with_reducible refine Below.alloc ?_ ?_ _); rotate_left; (focus (first | omega | (dsimp only; omega) | (simp; done) | (simp; omega)))) | ((with_reducible refine Below.setCell ?_ ?_ _); rotate_left; (focus (first | omega | (dsimp only; omega) | (simp; done) | (simp; omega)))) | ((with_reducible refine Below.step ?_ (by assumption) ?_); rotate_left; (focus (first | omega | (dsimp only; omega) | (simp; done) | (simp; omega)))))))
  have HX1 := hid hX1
  have d0 : w1.cell? ⟨w.heap.size, 0, none⟩ = some (.int .i64 x0) := hX1.cell 0
  have d1 : w1.cell? ⟨w.heap.size, 1, none⟩ = some (.int .i64 x1) := hX1.cell 1
  have d2 : w1.cell? ⟨w.heap.size, 2, none⟩ = some (.int .i64 x2) := hX1.cell 2
  have d3 : w1.cell? ⟨w.heap.size, 3, none⟩ = some (.bool x3) := hX1.cell 3
  have d4 : w1.cell? ⟨w.heap.size, 4, none⟩ = some (.string x4) := hX1.cell 4
  have hl1 := hX1.lt
  have hne : w.heap.size ≠ w1.heap.size := by omega
  clear hb1 hX1
  go_wp2_with fail
  refine (HJ.out _).mono ?_
  unfold E.val
  rintro e w2 ⟨rfl, hb2⟩
  have hX2 := (HX1.out.alloc (.cells #[.int .i64 v0, .int .i64 v1, .int .i64 v2, .bool v3, .string v4] 59)).belowS hb2
  have hz2 := hb2.size
  rw [World.size_alloc] at hz2
  have hb1' := Hb1.out
  have Hb2 := hid (show Below w.heap.size w w2 by (repeat (first | with_reducible exact Below.refl _ _ | with_reducible assumption | (with_reducible refine Below.drew ?_) | (with_reducible refine Below.manyDrew ?_ _) | ((with_reducible refine Below.alloc ?_ ?_ _); rotate_left; (focus (first | omega | (dsimp only; omega) | (simp; done) | (simp; omega)))) | ((with_reducible refine Below.setCell ?_ ?_ _); rotate_left; (focus (first | omega | (dsimp only; omega) | (simp; done) | (simp; omega)))) | ((with_reducible refine Below.step ?_ (by assumption) ?_); rotate_left; (focus (first | omega | (dsimp only; omega) | (simp; done) | (simp; omega)))))))
  have HX2 := hid hX2
  have f0 := hX2.frozen 0
  have f1 := hX2.frozen 1
  have f2 := hX2.frozen 2
  have f3 := hX2.frozen 3
  have f4 := hX2.frozen 4
  have e0 := hX2.cell 0
  have e1 := hX2.cell 1
  have e2 := hX2.cell 2
  have e3 := hX2.cell 3
  have e4 := hX2.cell 4
  clear hb2 hX2 d0 d1 d2 d3 d4 hb1'
  by_cases hj : jf = 0
  case neg =>
    have HE := hid ((if_neg hj).symm.trans HRR.out)
    go_wp2_with fail
    go_ret2
    rw [← HE.out]
    exact ⟨_, rfl, by exact Ow.nil _ _ _ _ _, by have hb2' := Hb2.out; (repeat (first | with_reducible exact Below.refl _ _ | with_reducible assumption | (with_reducible refine Below.drew ?_) | (with_reducible refine Below.manyDrew ?_ _) | ((with_reducible refine Below.alloc ?_ ?_ _); rotate_left; (focus (first | omega | (dsimp only; omega) | (simp; done) | (simp; omega)))) | ((with_reducible refine Below.setCell ?_ ?_ _); rotate_left; (focus (first | omega | (dsimp only; omega) | (simp; done) | (simp; omega)))) | ((with_reducible refine Below.step ?_ (by assumption) ?_); rotate_left; (focus (first | omega | (dsimp only; omega) | (simp; done) | (simp; omega))))))⟩
  subst hj
  obtain ⟨R, hRe⟩ : ∃ R, rgo ⟨z0, z1, z2, z3, z4⟩ false s.xs = R := ⟨_, rfl⟩
  have HE : Hid ((R, (0 : Int)) = RR) := hid (by rw [← hRe]; exact (if_pos rfl).symm.trans HRR.out)
  have HR := hid hRe
  clear hRe
  rw [← HE.out]
  go_wp2_with fail
  go_loopw [9, 10, 11] (fun u pv i wr => ∃ (k : Nat) (l' : List E) (p : Bool), k ≤ s.xs.length ∧ i = .int .i64 k ∧ pv = .bool p ∧ (p = false → l'.length ≤ k) ∧ l'.length ≤ k + 1 ∧ l' ++ rgo ⟨z0, z1, z2, z3, z4⟩ p (s.xs.drop k) = R ∧ Ow E.cells 5 (w.heap.size + 1) 59 wr u l' ∧ Blk wr w.heap.size 59 #[.int .i64 z0, .int .i64 z1, .int .i64 z2, .bool z3, .string z4] ∧ Below w.heap.size w wr) (fun _ _ i _ => s.xs.length - (intOf i).toNat)
  case atStart => exact ⟨0, [], false, Nat.zero_le _, rfl, rfl, by simp, by simp, HR.out, Ow.nil _ _ _ _ _, HX2.out.put5 _ _ _ _ _, by have hb2' := Hb2.out; (repeat (first | with_reducible exact Below.refl _ _ | with_reducible assumption | (with_reducible refine Below.drew ?_) | (with_reducible refine Below.manyDrew ?_ _) | ((with_reducible refine Below.alloc ?_ ?_ _); rotate_left; (focus (first | omega | (dsimp only; omega) | (simp; done) | (simp; omega)))) | ((with_reducible refine Below.setCell ?_ ?_ _); rotate_left; (focus (first | omega | (dsimp only; omega) | (simp; done) | (simp; omega)))) | ((with_reducible refine Below.step ?_ (by assumption) ?_); rotate_left; (focus (first | omega | (dsimp only; omega) | (simp; done) | (simp; omega))))))⟩
  case round =>
    obtain ⟨k, l', p, hk, rfl, rfl, hpl, hll, hRk, hOw, hB, hb⟩ := hrel
    have hz0 := hb.size
    have hzB := hB.lt
    have HO := hid hOw
    have HBx := hid hB
    have HGe := hid hOw.ge
    have c0 := hB.cell 0
    have c1 := hB.cell 1
    have c2 := hB.cell 2
    have c3 := hB.cell 3
    have c4 := hB.cell 4
    have Hbb := hid hb
    clear hB hOw
    by_cases hlt : k < s.xs.length
    · obtain ⟨g, off, hA, hgl, hcells⟩ := hs.row (by omega)
      have HKs := hid (fun W (hW : Below w.heap.size w W) => (hcells k hlt).stays hW hgl)
      have hgr : g < wr.heap.size := by omega
      rw [drop_consD E.zero hlt, rgo] at hRk
      generalize s.xs.getD k E.zero = y at *
      obtain ⟨y0, y1, y2, y3, y4⟩ := y
      obtain ⟨k0, k1, k2, k3, k4⟩ := HKs.out wr hb
      simp only at k0 k1 k2 k3 k4 hRk
      rw [hA]
      clear hA hcells
      cases p with
      | true =>
        rw [if_pos rfl] at hRk
        by_cases heq : y0 = z0
        · rw [if_pos heq] at hRk
          have HRk2 := hid hRk
          clear hRk
          go_wp2_with fail
          go_quiet (fail)
          go_wp2_with fail
          go_quiet (fail)
          go_wp2_with fail
          go_roundw
          case rel => exact ⟨k + 1, l', true, by omega, by go_num, rfl, (fun h => by cases h), by omega, HRk2.out, HO.out.belowS (by (repeat (first | with_reducible exact Below.refl _ _ | with_reducible assumption | (with_reducible refine Below.drew ?_) | (with_reducible refine Below.manyDrew ?_ _) | ((with_reducible refine Below.alloc ?_ ?_ _); rotate_left; (focus (first | omega | (dsimp only; omega) | (simp; done) | (simp; omega)))) | ((with_reducible refine Below.setCell ?_ ?_ _); rotate_left; (focus (first | omega | (dsimp only; omega) | (simp; done) | (simp; omega)))) | ((with_reducible refine Below.step ?_ (by assumption) ?_); rotate_left; (focus (first | omega | (dsimp only; omega) | (simp; done) | (simp; omega))))))), HBx.out.belowS (by (repeat (first | with_reducible exact Below.refl _ _ | with_reducible assumption | (with_reducible refine Below.drew ?_) | (with_reducible refine Below.manyDrew ?_ _) | ((with_reducible refine Below.alloc ?_ ?_ _); rotate_left; (focus (first | omega | (dsimp only; omega) | (simp; done) | (simp; omega)))) | ((with_reducible refine Below.setCell ?_ ?_ _); rotate_left; (focus (first | omega | (dsimp only; omega) | (simp; done) | (simp; omega)))) | ((with_reducible refine Below.step ?_ (by assumption) ?_); rotate_left; (focus (first | omega | (dsimp only; omega) | (simp; done) | (simp; omega))))))), by (repeat (first | with_reducible exact Below.refl _ _ | with_reducible assumption | (with_reducible refine Below.drew ?_) | (with_reducible refine Below.manyDrew ?_ _) | ((with_reducible refine Below.alloc ?_ ?_ _); rotate_left; (focus (first | omega | (dsimp only; omega) | (simp; done) | (simp; omega)))) | ((with_reducible refine Below.setCell ?_ ?_ _); rotate_left; (focus (first | omega | (dsimp only; omega) | (simp; done) | (simp; omega)))) | ((with_reducible refine Below.step ?_ (by assumption) ?_); rotate_left; (focus (first | omega | (dsimp only; omega) | (simp; done) | (simp; omega))))))⟩
          case measure => simp [intOf]; omega
        · rw [if_neg heq] at hRk
          have HRk2 := hid hRk
          clear hRk
          go_wp2_with fail
          go_quiet (fail)
          go_wp2_with fail
          go_quiet (fail)
          go_wp2_with (at_builtin; refine appE _ (w.heap.size + 1) _ l' y0 y1 y2 y3 y4 (HO.out.belowS (by (repeat (first | with_reducible exact Below.refl _ _ | with_reducible assumption | (with_reducible refine Below.drew ?_) | (with_reducible refine Below.manyDrew ?_ _) | ((with_reducible refine Below.alloc ?_ ?_ _); rotate_left; (focus (first | omega | (dsimp only; omega) | (simp; done) | (simp; omega)))) | ((with_reducible refine Below.setCell ?_ ?_ _); rotate_left; (focus (first | omega | (dsimp only; omega) | (simp; done) | (simp; omega)))) | ((with_reducible refine Below.step ?_ (by assumption) ?_); rotate_left; (focus (first | omega | (dsimp only; omega) | (simp; done) | (simp; omega)))))))) rfl _ _ rfl rfl rfl ?_ ?_ ?_ ?_)
          all_goals try (first | omega | (simp; done) | (simp; omega))
          intro v8 w8 h8 f8 o8
          have hB8 := (HBx.out.belowS (w' := _) (by (repeat (first | with_reducible exact Below.refl _ _ | with_reducible assumption | (with_reducible refine Below.drew ?_) | (with_reducible refine Below.manyDrew ?_ _) | ((with_reducible refine Below.alloc ?_ ?_ _); rotate_left; (focus (first | omega | (dsimp only; omega) | (simp; done) | (simp; omega)))) | ((with_reducible refine Below.setCell ?_ ?_ _); rotate_left; (focus (first | omega | (dsimp only; omega) | (simp; done) | (simp; omega)))) | ((with_reducible refine Below.step ?_ (by assumption) ?_); rotate_left; (focus (first | omega | (dsimp only; omega) | (simp; done) | (simp; omega)))))))).fr f8 (fun h => by have := HGe.out _ h; omega)
          have hb8 := (show Below w.heap.size w _ by (repeat (first | with_reducible exact Below.refl _ _ | with_reducible assumption | (with_reducible refine Below.drew ?_) | (with_reducible refine Below.manyDrew ?_ _) | ((with_reducible refine Below.alloc ?_ ?_ _); rotate_left; (focus (first | omega | (dsimp only; omega) | (simp; done) | (simp; omega)))) | ((with_reducible refine Below.setCell ?_ ?_ _); rotate_left; (focus (first | omega | (dsimp only; omega) | (simp; done) | (simp; omega)))) | ((with_reducible refine Below.step ?_ (by assumption) ?_); rotate_left; (focus (first | omega | (dsimp only; omega) | (simp; done) | (simp; omega))))))).trans (f8.below0 (B := w.heap.size) (by simp; omega) (fun i hi => by have := HGe.out _ hi; omega))
          go_wp2_with fail
          go_roundw
          case rel => exact ⟨k + 1, l' ++ [⟨y0, y1, y2, y3, y4⟩], true, by omega, by go_num, rfl, (fun h => by cases h), by simp; omega, by rw [List.append_assoc]; exact HRk2.out, h8, hB8, hb8⟩
          case measure => simp [intOf]; omega
      | false =>
        rw [if_neg (by decide)] at hRk
        have hlk := hpl rfl
        by_cases hle : z0 ≤ y0
        · rw [if_pos hle] at hRk
          by_cases heq : y0 = z0
          · rw [if_pos heq] at hRk
            have HRk2 := hid hRk
            clear hRk
            go_wp2_with fail
            go_quiet (fail)
            go_wp2_with (at_builtin; refine appE _ (w.heap.size + 1) _ l' z0 z1 z2 z3 z4 (HO.out.belowS (by (repeat (first | with_reducible exact Below.refl _ _ | with_reducible assumption | (with_reducible refine Below.drew ?_) | (with_reducible refine Below.manyDrew ?_ _) | ((with_reducible refine Below.alloc ?_ ?_ _); rotate_left; (focus (first | omega | (dsimp only; omega) | (simp; done) | (simp; omega)))) | ((with_reducible refine Below.setCell ?_ ?_ _); rotate_left; (focus (first | omega | (dsimp only; omega) | (simp; done) | (simp; omega)))) | ((with_reducible refine Below.step ?_ (by assumption) ?_); rotate_left; (focus (first | omega | (dsimp only; omega) | (simp; done) | (simp; omega)))))))) rfl _ _ rfl rfl rfl ?_ ?_ ?_ ?_)
            all_goals try (first | omega | (simp; done) | (simp; omega))
            intro v8 w8 h8 f8 o8
            have hB8 := (HBx.out.belowS (w' := _) (by (repeat (first | with_reducible exact Below.refl _ _ | with_reducible assumption | (with_reducible refine Below.drew ?_) | (with_reducible refine Below.manyDrew ?_ _) | ((with_reducible refine Below.alloc ?_ ?_ _); rotate_left; (focus (first | omega | (dsimp only; omega) | (simp; done) | (simp; omega)))) | ((with_reducible refine Below.setCell ?_ ?_ _); rotate_left; (focus (first | omega | (dsimp only; omega) | (simp; done) | (simp; omega)))) | ((with_reducible refine Below.step ?_ (by assumption) ?_); rotate_left; (focus (first | omega | (dsimp only; omega) | (simp; done) | (simp; omega)))))))).fr f8 (fun h => by have := HGe.out _ h; omega)
            have hb8 := (show Below w.heap.size w _ by (repeat (first | with_reducible exact Below.refl _ _ | with_reducible assumption | (with_reducible refine Below.drew ?_) | (with_reducible refine Below.manyDrew ?_ _) | ((with_reducible refine Below.alloc ?_ ?_ _); rotate_left; (focus (first | omega | (dsimp only; omega) | (simp; done) | (simp; omega)))) | ((with_reducible refine Below.setCell ?_ ?_ _); rotate_left; (focus (first | omega | (dsimp only; omega) | (simp; done) | (simp; omega)))) | ((with_reducible refine Below.step ?_ (by assumption) ?_); rotate_left; (focus (first | omega | (dsimp only; omega) | (simp; done) | (simp; omega))))))).trans (f8.below0 (B := w.heap.size) (by simp; omega) (fun i hi => by have := HGe.out _ hi; omega))
            have hz8 := hb8.size
            have hl8 := hB8.lt
            obtain ⟨m0, m1, m2, m3, m4⟩ := HKs.out w8 hb8
            have d0 : w8.cell? ⟨w.heap.size, 0, none⟩ = some (.int .i64 z0) := hB8.cell 0
            have H8 := hid h8
            have HB8 := hid hB8
            clear h8 hB8 f8
            go_wp2_with fail
            go_quiet (fail)
            go_wp2_with fail
            go_roundw
            case rel => exact ⟨k + 1, l' ++ [⟨z0, z1, z2, z3, z4⟩], true, by omega, by go_num, rfl, (fun h => by cases h), by simp; omega, by rw [List.append_assoc]; exact HRk2.out, H8.out.belowS (by (repeat (first | with_reducible exact Below.refl _ _ | with_reducible assumption | (with_reducible refine Below.drew ?_) | (with_reducible refine Below.manyDrew ?_ _) | ((with_reducible refine Below.alloc ?_ ?_ _); rotate_left; (focus (first | omega | (dsimp only; omega) | (simp; done) | (simp; omega)))) | ((with_reducible refine Below.setCell ?_ ?_ _); rotate_left; (focus (first | omega | (dsimp only; omega) | (simp; done) | (simp; omega)))) | ((with_reducible refine Below.step ?_ (by assumption) ?_); rotate_left; (focus (first | omega | (dsimp only; omega) | (simp; done) | (simp; omega))))))), HB8.out.belowS (by (repeat (first | with_reducible exact Below.refl _ _ | with_reducible assumption | (with_reducible refine Below.drew ?_) | (with_reducible refine Below.manyDrew ?_ _) | ((with_reducible refine Below.alloc ?_ ?_ _); rotate_left; (focus (first | omega | (dsimp only; omega) | (simp; done) | (simp; omega)))) | ((with_reducible refine Below.setCell ?_ ?_ _); rotate_left; (focus (first | omega | (dsimp only; omega) | (simp; done) | (simp; omega)))) | ((with_reducible refine Below.step ?_ (by assumption) ?_); rotate_left; (focus (first | omega | (dsimp only; omega) | (simp; done) | (simp; omega))))))), by (repeat (first | with_reducible exact Below.refl _ _ | with_reducible assumption | (with_reducible refine Below.drew ?_) | (with_reducible refine Below.manyDrew ?_ _) | ((with_reducible refine Below.alloc ?_ ?_ _); rotate_left; (focus (first | omega | (dsimp only; omega) | (simp; done) | (simp; omega)))) | ((with_reducible refine Below.setCell ?_ ?_ _); rotate_left; (focus (first | omega | (dsimp only; omega) | (simp; done) | (simp; omega)))) | ((with_reducible refine Below.step ?_ (by assumption) ?_); rotate_left; (focus (first | omega | (dsimp only; omega) | (simp; done) | (simp; omega))))))⟩
            case measure => simp [intOf]; omega
          · rw [if_neg heq] at hRk
            have HRk2 := hid hRk
            clear hRk
            go_wp2_with fail
            go_quiet (fail)
            go_wp2_with (at_builtin; refine appE _ (w.heap.size + 1) _ l' z0 z1 z2 z3 z4 (HO.out.belowS (by (repeat (first | with_reducible exact Below.refl _ _ | with_reducible assumption | (with_reducible refine Below.drew ?_) | (with_reducible refine Below.manyDrew ?_ _) | ((with_reducible refine Below.alloc ?_ ?_ _); rotate_left; (focus (first | omega | (dsimp only; omega) | (simp; done) | (simp; omega)))) | ((with_reducible refine Below.setCell ?_ ?_ _); rotate_left; (focus (first | omega | (dsimp only; omega) | (simp; done) | (simp; omega)))) | ((with_reducible refine Below.step ?_ (by assumption) ?_); rotate_left; (focus (first | omega | (dsimp only; omega) | (simp; done) | (simp; omega)))))))) rfl _ _ rfl rfl rfl ?_ ?_ ?_ ?_)
            all_goals try (first | omega | (simp; done) | (simp; omega))
            intro v8 w8 h8 f8 o8
            have hB8 := (HBx.out.belowS (w' := _) (by (repeat (first | with_reducible exact Below.refl _ _ | with_reducible assumption | (with_reducible refine Below.drew ?_) | (with_reducible refine Below.manyDrew ?_ _) | ((with_reducible refine Below.alloc ?_ ?_ _); rotate_left; (focus (first | omega | (dsimp only; omega) | (simp; done) | (simp; omega)))) | ((with_reducible refine Below.setCell ?_ ?_ _); rotate_left; (focus (first | omega | (dsimp only; omega) | (simp; done) | (simp; omega)))) | ((with_reducible refine Below.step ?_ (by assumption) ?_); rotate_left; (focus (first | omega | (dsimp only; omega) | (simp; done) | (simp; omega)))))))).fr f8 (fun h => by have := HGe.out _ h; omega)
            have hb8 := (show Below w.heap.size w _ by (repeat (first | with_reducible exact Below.refl _ _ | with_reducible assumption | (with_reducible refine Below.drew ?_) | (with_reducible refine Below.manyDrew ?_ _) | ((with_reducible refine Below.alloc ?_ ?_ _); rotate_left; (focus (first | omega | (dsimp only; omega) | (simp; done) | (simp; omega)))) | ((with_reducible refine Below.setCell ?_ ?_ _); rotate_left; (focus (first | omega | (dsimp only; omega) | (simp; done) | (simp; omega)))) | ((with_reducible refine Below.step ?_ (by assumption) ?_); rotate_left; (focus (first | omega | (dsimp only; omega) | (simp; done) | (simp; omega))))))).trans (f8.below0 (B := w.heap.size) (by simp; omega) (fun i hi => by have := HGe.out _ hi; omega))
            have hz8 := hb8.size
            have hl8 := hB8.lt
            obtain ⟨m0, m1, m2, m3, m4⟩ := HKs.out w8 hb8
            simp only at m0 m1 m2 m3 m4
            have d0 : w8.cell? ⟨w.heap.size, 0, none⟩ = some (.int .i64 z0) := hB8.cell 0
            have H8 := hid h8
            have HB8 := hid hB8
            have HGe8 := hid h8.ge
            clear h8 hB8 f8
            go_wp2_with fail
            go_quiet (fail)
            go_wp2_with (at_builtin; refine appE _ (w.heap.size + 1) _ (l' ++ [⟨z0, z1, z2, z3, z4⟩]) y0 y1 y2 y3 y4 (H8.out.belowS (by (repeat (first | with_reducible exact Below.refl _ _ | with_reducible assumption | (with_reducible refine Below.drew ?_) | (with_reducible refine Below.manyDrew ?_ _) | ((with_reducible refine Below.alloc ?_ ?_ _); rotate_left; (focus (first | omega | (dsimp only; omega) | (simp; done) | (simp; omega)))) | ((with_reducible refine Below.setCell ?_ ?_ _); rotate_left; (focus (first | omega | (dsimp only; omega) | (simp; done) | (simp; omega)))) | ((with_reducible refine Below.step ?_ (by assumption) ?_); rotate_left; (focus (first | omega | (dsimp only; omega) | (simp; done) | (simp; omega)))))))) rfl _ _ rfl rfl rfl ?_ ?_ ?_ ?_)
            all_goals try (first | omega | (simp; done) | (simp; omega))
            intro v9 w9 h9 f9 o9
            have hB9 := (HB8.out.belowS (w' := _) (by (repeat (first | with_reducible exact Below.refl _ _ | with_reducible assumption | (with_reducible refine Below.drew ?_) | (with_reducible refine Below.manyDrew ?_ _) | ((with_reducible refine Below.alloc ?_ ?_ _); rotate_left; (focus (first | omega | (dsimp only; omega) | (simp; done) | (simp; omega)))) | ((with_reducible refine Below.setCell ?_ ?_ _); rotate_left; (focus (first | omega | (dsimp only; omega) | (simp; done) | (simp; omega)))) | ((with_reducible refine Below.step ?_ (by assumption) ?_); rotate_left; (focus (first | omega | (dsimp only; omega) | (simp; done) | (simp; omega)))))))).fr f9 (fun h => by have := HGe8.out _ h; omega)
            have hb9 := (show Below w.heap.size w _ by (repeat (first | with_reducible exact Below.refl _ _ | with_reducible assumption | (with_reducible refine Below.drew ?_) | (with_reducible refine Below.manyDrew ?_ _) | ((with_reducible refine Below.alloc ?_ ?_ _); rotate_left; (focus (first | omega | (dsimp only; omega) | (simp; done) | (simp; omega)))) | ((with_reducible refine Below.setCell ?_ ?_ _); rotate_left; (focus (first | omega | (dsimp only; omega) | (simp; done) | (simp; omega)))) | ((with_reducible refine Below.step ?_ (by assumption) ?_); rotate_left; (focus (first | omega | (dsimp only; omega) | (simp; done) | (simp; omega))))))).trans (f9.below0 (B := w.heap.size) (by simp; omega) (fun i hi => by have := HGe8.out _ hi; omega))
            go_wp2_with fail
            go_roundw
            case rel => exact ⟨k + 1, l' ++ [⟨z0, z1, z2, z3, z4⟩, ⟨y0, y1, y2, y3, y4⟩], true, by omega, by go_num, rfl, (fun h => by cases h), by simp; omega, by rw [List.append_assoc]; exact HRk2.out, h9, hB9, hb9⟩
            case measure => simp [intOf]; omega
        · rw [if_neg hle] at hRk
          have heq : ¬ y0 = z0 := by omega
          have HRk2 := hid hRk
          clear hRk
          go_wp2_with fail
          go_quiet (fail)
          go_wp2_with fail
          go_quiet (fail)
          go_wp2_with (at_builtin; refine appE _ (w.heap.size + 1) _ l' y0 y1 y2 y3 y4 (HO.out.belowS (by (repeat (first | with_reducible exact Below.refl _ _ | with_reducible assumption | (with_reducible refine Below.drew ?_) | (with_reducible refine Below.manyDrew ?_ _) | ((with_reducible refine Below.alloc ?_ ?_ _); rotate_left; (focus (first | omega | (dsimp only; omega) | (simp; done) | (simp; omega)))) | ((with_reducible refine Below.setCell ?_ ?_ _); rotate_left; (focus (first | omega | (dsimp only; omega) | (simp; done) | (simp; omega)))) | ((with_reducible refine Below.step ?_ (by assumption) ?_); rotate_left; (focus (first | omega | (dsimp only; omega) | (simp; done) | (simp; omega)))))))) rfl _ _ rfl rfl rfl ?_ ?_ ?_ ?_)
          all_goals try (first | omega | (simp; done) | (simp; omega))
          intro v8 w8 h8 f8 o8
          have hB8 := (HBx.out.belowS (w' := _) (by (repeat (first | with_reducible exact Below.refl _ _ | with_reducible assumption | (with_reducible refine Below.drew ?_) | (with_reducible refine Below.manyDrew ?_ _) | ((with_reducible refine Below.alloc ?_ ?_ _); rotate_left; (focus (first | omega | (dsimp only; omega) | (simp; done) | (simp; omega)))) | ((with_reducible refine Below.setCell ?_ ?_ _); rotate_left; (focus (first | omega | (dsimp only; omega) | (simp; done) | (simp; omega)))) | ((with_reducible refine Below.step ?_ (by assumption) ?_); rotate_left; (focus (first | omega | (dsimp only; omega) | (simp; done) | (simp; omega)))))))).fr f8 (fun h => by have := HGe.out _ h; omega)
          have hb8 := (show Below w.heap.size w _ by (repeat (first | with_reducible exact Below.refl _ _ | with_reducible assumption | (with_reducible refine Below.drew ?_) | (with_reducible refine Below.manyDrew ?_ _) | ((with_reducible refine Below.alloc ?_ ?_ _); rotate_left; (focus (first | omega | (dsimp only; omega) | (simp; done) | (simp; omega)))) | ((with_reducible refine Below.setCell ?_ ?_ _); rotate_left; (focus (first | omega | (dsimp only; omega) | (simp; done) | (simp; omega)))) | ((with_reducible refine Below.step ?_ (by assumption) ?_); rotate_left; (focus (first | omega | (dsimp only; omega) | (simp; done) | (simp; omega))))))).trans (f8.below0 (B := w.heap.size) (by simp; omega) (fun i hi => by have := HGe.out _ hi; omega))
          go_wp2_with fail
          go_roundw
          case rel => exact ⟨k + 1, l' ++ [⟨y0, y1, y2, y3, y4⟩], false, by omega, by go_num, rfl, (fun _ => by simp; omega), by simp; omega, by rw [List.append_assoc]; exact HRk2.out, h8, hB8, hb8⟩
          case measure => simp [intOf]; omega
    · obtain rfl : k = s.xs.length := by omega
      rw [List.drop_length, rgo] at hRk
      cases p with
      | true =>
        rw [if_pos rfl, List.append_nil] at hRk
        subst hRk
        go_wp2_with fail
        go_ret2
        rw [← HE.out]
        exact ⟨_, rfl, HO.out.mono (Nat.le_succ _), Hbb.out⟩
      | false =>
        rw [if_neg (by decide)] at hRk
        subst hRk
        go_wp2_with (at_builtin; refine appE _ (w.heap.size + 1) _ l' z0 z1 z2 z3 z4 HO.out rfl _ _ rfl rfl rfl ?_ ?_ ?_ ?_)
        all_goals try (first | omega | (simp; done) | (simp; omega))
        intro v8 w8 h8 f8 o8
        have hb8 := Hbb.out.trans (f8.below0 (B := w.heap.size) (by omega) (fun i hi => by have := HGe.out _ hi; omega))
        go_wp2_with fail
        go_ret2
        rw [← HE.out]
        exact ⟨_, rfl, h8.mono (Nat.le_succ _), hb8⟩
end Go.Proofs.YtemhdfodghfkfaaGreatDoor
namespace Go.Proofs.YtemhdfodghfkfaaGreatDoor
open Go.RowKit
open Go.ChangeShapes Go.WideShapes Go.ChangeAt

theorem radd_any (s : SlV E) (x0 x1 x2 : Int) (x3 : Bool) (x4 : ByteArray) (w : World) (hs : EsAt w s) (hn8 : s.xs.length ≤ 8) :
    Calls Tryz.prog 58 #[.slice s.A s.xs.length s.c, .agg #[.int .i64 x0, .int .i64 x1, .int .i64 x2, .bool x3, .string x4]] w (RARes w (radd s.xs ⟨x0, x1, x2, x3, x4⟩)) := by
  unfold radd
  by_cases h : (rget s.xs x0).2 = true
  · rw [if_pos h]
    exact radd_yes s x0 x1 x2 x3 x4 w hs hn8 h
  · rw [if_neg h]
    exact radd_no s x0 x1 x2 x3 x4 w hs hn8 (by simpa using h)
/-- the reference's Add does what the program's does -/
theorem radd_addC {l : List E} {e : E} (hl : chkC l = 0) : radd l e = addC l e := by
  obtain ⟨ha, hc⟩ := val_iff.1 hl
  have hat := at_lk (k := e.key) ha
  unfold radd addC rget
  rcases hh : hasK e.key l with _ | _
  · rw [hh, if_neg (by decide)] at hat
    rw [hat, if_neg (by decide), if_neg (by decide), rgo_put e ha, put_ins l e hh]
  · rw [hh, if_pos rfl] at hat
    rw [hat, if_pos rfl, if_pos rfl]
    generalize l.getD (plc e.key l) E.zero = x at *
    obtain ⟨hxm, hxk⟩ := lk_some hat
    rw [← joined_rjoin hxk]
    by_cases h0 : (joined x e).2 = 0
    · have hjk : (joined x e).1.key = e.key := (joined_jn hxk h0).key hxk
      rw [if_pos h0, if_pos h0, rgo_put _ ha, show plc e.key l = plc (joined x e).1.key l by rw [hjk], put_set l _ (by rw [hjk]; exact hh)]
    · rw [if_neg h0, if_neg h0]

theorem addC_nil {l : List E} {e : E} (h : (addC l e).2 ≠ 0) : (addC l e).1 = [] := by
  unfold addC at h ⊢
  split
  · rename_i h1
    rw [if_pos h1] at h
    split
    · rename_i h2
      rw [if_pos h2] at h
      exact absurd rfl h
    · rfl
  · rename_i h1
    rw [if_neg h1] at h
    exact absurd rfl h

/-! ### mereref1.All -/
def RLRes (w : World) (r : List E × Int) (e : Ending) (w' : World) : Prop :=
  ∃ q : SlV E, e = .returned (.tuple #[.slice q.A q.xs.length q.c, .int .i64 r.2]) ∧ q.xs = r.1 ∧ EsAt w' q ∧ Below w.heap.size w w'

set_option maxHeartbeats 4000000 in
set_option maxRecDepth 100000 in
theorem rall_any (s m : SlV E) (w : World) (hs : EsAt w s) (hm : EsAt w m) (hvs : chkC s.xs = 0) (hvm : chkC m.xs = 0) :
    Calls Tryz.prog 60 #[.slice s.A s.xs.length s.c, .slice m.A m.xs.length m.c] w (RLRes w (allC s.xs m.xs)) := by
  obtain ⟨_, _, hm8⟩ := val_facts hvm
  have Hvs := hid hvs
  have Hvm := hid hvm
  have Hs := hid hs
  generalize hR : allC s.xs m.xs = R
  have HR := hid hR
  clear hR hvs hvm hs
  go_enter Tryz.func60, Tryz.ntmps60
  go_wp2_with fail
  go_loopw [0, 6, 7] (fun u fv i wr => ∃ (k : Nat) (r : SlV E) (f : Int), k ≤ m.xs.length ∧ u = .slice r.A r.xs.length r.c ∧ fv = .int .i64 f ∧ i = .int .i64 k ∧ EsAt wr r ∧ (f = 0 → chkC r.xs = 0 ∧ allC r.xs (m.xs.drop k) = R) ∧ (f ≠ 0 → R = (r.xs, f)) ∧ Below w.heap.size w wr) (fun _ _ i _ => m.xs.length - (intOf i).toNat)
  case atStart => exact ⟨0, s, 0, Nat.zero_le _, rfl, rfl, rfl, Hs.out, (fun _ => ⟨Hvs.out, HR.out⟩), (fun h => absurd rfl h), Below.refl _ _⟩
  case round =>
    obtain ⟨k, r, f, hk, rfl, rfl, rfl, hrA, h0, h1, hb⟩ := hrel
    have HrA := hid hrA
    have H0 := hid h0
    have H1 := hid h1
    have Hb := hid hb
    have hzb := hb.size
    clear hrA h0 h1
    by_cases hf : f = 0
    · subst hf
      obtain ⟨hv, hRk⟩ := H0.out rfl
      by_cases hlt : k < m.xs.length
      · obtain ⟨g, off, hA, hgl, hcells⟩ := hm.row (by omega)
        obtain ⟨k0, k1, k2, k3, k4⟩ := (hcells k hlt).stays hb hgl
        have hych := (val_iff.1 Hvm.out).2 _ (getD_memD E.zero hlt)
        rw [drop_consD E.zero hlt, allC] at hRk
        rw [hA]
        generalize m.xs.getD k E.zero = y at *
        obtain ⟨y0, y1, y2, y3, y4⟩ := y
        simp only at k0 k1 k2 k3 k4
        have HAd := hid (radd_any r y0 y1 y2 y3 y4 wr HrA.out (val_facts hv).2.2)
        rw [radd_addC hv] at HAd
        have hkey := (addC_key hv hych).2
        have hnil := addC_nil (l := r.xs) (e := ⟨y0, y1, y2, y3, y4⟩)
        generalize addC r.xs ⟨y0, y1, y2, y3, y4⟩ = A at *
        obtain ⟨l2, f2⟩ := A
        have Hkey := hid hkey
        have HRk := hid hRk
        have Hnil := hid hnil
        clear hcells hA hych hb hv hkey hRk hnil
        go_wp2_with fail
        refine HAd.out.mono ?_
        rintro e w2 ⟨v2, rfl, hOw2, hb2⟩
        have hl2g : ∀ e ∈ l2, e.good := by
          by_cases hf2 : f2 = 0
          · exact val_good (Hkey.out hf2).1
          · rw [show l2 = [] from Hnil.out hf2]
            simp
        obtain ⟨r2, rfl, hr2x, hr2A, _, _⟩ := EsAt.of_ow hOw2 hl2g
        have Hb2 := hid (Below.step Hb.out hb2 hzb)
        have Hr2x := hid hr2x
        have Hr2A := hid hr2A
        clear hr2x hr2A hOw2 hb2
        go_wp2_with fail
        go_roundw
        case rel =>
          refine ⟨k + 1, r2, f2, by omega, rfl, rfl, by go_num, Hr2A.out, (fun hf2 => ?_), (fun hf2 => ?_), Hb2.out⟩
          · rw [Hr2x.out]
            have := HRk.out
            rw [if_pos (show (l2, f2).2 = 0 from hf2)] at this
            exact ⟨(Hkey.out hf2).1, this⟩
          · rw [Hr2x.out]
            have := HRk.out
            rw [if_neg (show ¬ (l2, f2).2 = 0 from hf2)] at this
            rw [show l2 = [] from Hnil.out hf2]
            exact this.symm
        case measure => simp [intOf]; omega
      · obtain rfl : k = m.xs.length := by omega
        rw [List.drop_length] at hRk
        have HRk := hid (show R = (r.xs, 0) from hRk.symm)
        clear hb hv hRk
        go_wp2_with fail
        go_ret2
        rw [HRk.out]
        exact ⟨r, rfl, rfl, HrA.out, Hb.out⟩
    · have hRk := H1.out hf
      have HRk := hid hRk
      have hfb : (f == 0) = false := by simpa using hf
      clear hb hRk hf
      go_wp2_with fail
      all_goals
        go_ret2
        rw [HRk.out]
        exact ⟨r, rfl, rfl, HrA.out, Hb.out⟩
end Go.Proofs.YtemhdfodghfkfaaGreatDoor
