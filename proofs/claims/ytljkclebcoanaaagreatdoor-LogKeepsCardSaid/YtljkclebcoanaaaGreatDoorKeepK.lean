/-
  THE KIT of merelaw3.LogKeeps: what a log's call touches, by the types of its blocks; rows of stores; the stores that were, and where their records end. CONDITIONS: the library's variables read as they are laid (TvB).
-/
import Derived.Test.YtljkclebcoanaaaGreatDoorLogKp
import Derived.Test.YtljkclebcoanaaaGreatDoorKeepLaw
import Derived.Test.YtljkclebcoanaaaGreatDoorIKit
namespace Go.Proofs.YtljkclebcoanaaaGreatDoor
open Go.RowKit
open Go.ChangeShapes Go.WideShapes Go.ChangeAt

/-- a block of one of these types -/
def TyS (w : World) (ts : List TypeId) (i : Nat) : Prop := ∃ t cs, t ∈ ts ∧ Blk w i t cs
theorem TyS.no {w : World} {i : Nat} {t : TypeId} {cs : Array Value} {ts : List TypeId} (h : Blk w i t cs) (hn : t ∉ ts) : ¬ TyS w ts i := by
  rintro ⟨t', cs', ht, hb⟩
  obtain ⟨_, rfl⟩ := h.eq_ hb
  exact hn ht
/-- the types of a log's blocks -/
def logT : List TypeId := [54, 67, 73]
theorem LogP.ty {base l s : Nat} {w : World} {vs : List Value} {G : LG} {D : List E} (h : LogP base w l s vs G D) {i : Nat} (hi : FL l s vs i) : TyS w logT i := by
  rcases hi with rfl | rfl | ⟨k, hk, hg⟩
  · exact ⟨_, _, by simp [logT], h.blk⟩
  · exact ⟨_, _, by simp [logT], h.st.blk⟩
  · obtain ⟨cur, hc⟩ := (h.st.own k hk).typ hg.symm
    exact ⟨_, _, by simp [logT], hc⟩
theorem LogX.frT {base l : Nat} {w w' : World} {G : LG} {S : Nat → Prop} (h : LogX base w l G) (hF : Fr S w w') (hS : ∀ i, S i → ¬ TyS w logT i) : LogX base w' l G := by
  obtain ⟨h0, s, vs, h1⟩ := h
  exact ⟨h0, s, vs, h1.fr hF (fun i hi hs => hS i hs (h1.ty hi))⟩
/-- what a log's call leaves -/
def KRes (base l : Nat) (w : World) (G : LG) (w' : World) : Prop := LogX base w' l G ∧ Below base w w' ∧ Fr (TyS w logT) w w'
theorem LRes.k {base l s : Nat} {vs : List Value} {w w' : World} {G G0 : LG} {D : List E} (h : LogP base w l s vs G0 D) (hG : G.ok) (hr : LRes base l s vs w G w') : KRes base l w G w' := by
  obtain ⟨hx, hb⟩ := hr.x h hG
  obtain ⟨s', vs', _, h2, _⟩ := hr
  exact ⟨hx, hb, h2.mono (fun i _ hi => h.ty hi)⟩
section
variable {base l : Nat} {w w' : World} {G : LG}
theorem kput (h : LogX base w l G) (hT : TvB base w) (key : Int) (t : ByteArray) (ht : t.size ≤ maxLen) :
    Calls Tryz.prog 7 #[.pointer (some ⟨l, 0, none⟩), .int .i64 key, .string t] w fun e w' => e = .returned (.tuple #[.int .i64 (G.put key t).1.1, errV (G.put key t).1.2]) ∧ KRes base l w (G.put key t).2 w' := by
  obtain ⟨h0, s, vs, h1⟩ := h
  refine (lput_any h0 key t ht w h1 hT).mono ?_
  rintro e w' ⟨rfl, h2⟩
  exact ⟨rfl, h2.k h1 (LG.put_ok h0 key t)⟩
theorem kdel (h : LogX base w l G) (hT : TvB base w) (key : Int) :
    Calls Tryz.prog 10 #[.pointer (some ⟨l, 0, none⟩), .int .i64 key] w fun e w' => e = .returned (.tuple #[.int .i64 (G.del key).1.1, errV (G.del key).1.2]) ∧ KRes base l w (G.del key).2 w' := by
  obtain ⟨h0, s, vs, h1⟩ := h
  refine (ldel_any h0 key w h1 hT).mono ?_
  rintro e w' ⟨rfl, h2⟩
  exact ⟨rfl, h2.k h1 (LG.del_ok h0 key)⟩
theorem ksync (h : LogX base w l G) : Calls Tryz.prog 9 #[.pointer (some ⟨l, 0, none⟩)] w fun e w' => e = .returned (errV G.sync.1) ∧ KRes base l w G.sync.2 w' := by
  obtain ⟨h0, s, vs, h1⟩ := h
  refine (lsync_any h0 w h1).mono ?_
  rintro e w' ⟨rfl, h2⟩
  exact ⟨rfl, h2.k h1 (LG.sync_ok h0)⟩
theorem kfail (h : LogX base w l G) (n : Int) (hn : n ≤ 9223372036854775807) : Calls Tryz.prog 6 #[.pointer (some ⟨l, 0, none⟩), .int .i64 n] w fun e w' => (∃ v, e = .returned v) ∧ KRes base l w (G.fail n) w' := by
  obtain ⟨h0, s, vs, h1⟩ := h
  refine (lfail_any n w h1).mono ?_
  rintro e w' ⟨he, h2, hF⟩
  exact ⟨he, ⟨LG.fail_ok h0 hn, s, vs, h2⟩, hF.below0 (by have := h1.lt (.inl rfl); omega) (fun i hi => by have e : i = l := hi; have := h1.base; omega), hF.mono (fun i _ hi => by have e : i = l := hi; exact h1.ty (.inl e))⟩
theorem kcrash (h : LogX base w l G) (hT : TvB base w) (n : Int) (hn : -9223372036854775808 ≤ n ∧ n ≤ 9223372036854775807) : Calls Tryz.prog 11 #[.pointer (some ⟨l, 0, none⟩), .int .i64 n] w fun e w' => (∃ v, e = .returned v) ∧ KRes base l w (G.crash n) w' := by
  obtain ⟨h0, s, vs, h1⟩ := h
  refine (lcrash_any h0 n hn w h1 hT).mono ?_
  rintro e w' ⟨he, h2⟩
  exact ⟨he, h2.k h1 (LG.crash_ok h0 n)⟩
end

/-! ### rows of stores -/
def cellP (x : Nat) : List Value := [.pointer (some ⟨x, 0, none⟩)]
theorem cellP_length (x : Nat) : (cellP x).length = 1 := rfl
theorem cellP_one (x : Nat) : ∀ u ∈ cellP x, u.oneCell' = true := by intro u hu; simp [cellP] at hu; subst hu; rfl
theorem infoP : (Tryz.prog.info? 40).map (fun i => (i.zero, i.size, i.bytes)) = some (some (.pointer none), 1, 8) := by kernel_rfl
theorem appP {ops : Array Oper} {rest : List Oper} {o : Oper} {a : Act} {Q : Exit → Act → World → Prop} (X : World) (base : Nat) (v : Value) (l : List Nat) (x0 : Nat) (hown : Ow cellP 1 base 40 X v l)
    (hgd : o.guard = none) (p q : Operand) (ho : o.op = .call { callee := .builtin .append, args := #[p, q], argTypes := #[44, 44] }) (hp : a.eval p = v) {N : Nat} (hq : a.eval q = .slice (some ⟨N, 0, none⟩) 1 1) (hN : X.heap.size = N) (hl : l.length ≤ 100000000) (hb : base ≤ X.heap.size)
    (h : ∀ v' w', Ow cellP 1 base 40 w' v' (l ++ [x0]) → Fr (fun k => some k = foot v) X w' → (foot v' = foot v ∨ foot v' = some (X.heap.size + 1)) → wpList Tryz.prog ops Q rest (a.put o.dst v') w') :
    wpList Tryz.prog ops Q (o :: rest) a (X.alloc (.cells #[.pointer (some ⟨x0, 0, none⟩)] 40)) := by
  subst hN
  exact app_src cellP 1 8 cellP_length (by decide) (by decide) _ _ 44 (.pointer none) rfl Tryz.underlying44 infoP hgd p q ho _ base v _ l [x0] hp hq
    (Src.ofSlice _ Tryz.underlying44 ⟨X.heap.size, 0, none⟩ 1 1 _ rfl (fun j u hj => by rw [Addr_add, Nat.zero_add, (Blk.new X 40 _).cell j]; simpa [cellP] using hj) (fun u hu => by simp at hu; exact cellP_one _ u hu)) (hown.alloc _) (by simp; omega) (by simp; omega) (fun v' w' h1 h2 h3 => h v' w' h1 (((Fr.refl _ _).alloc _).step h2) (by simpa using h3))
/-- a row of one, just laid -/
theorem Ow.one {α : Type} (cells : α → List Value) (x : α) (u : Value) (hc : cells x = [u]) (w : World) (T : TypeId) : Ow cells 1 w.heap.size T (w.alloc (.cells #[u] T)) (.slice (some ⟨w.heap.size, 0, none⟩) 1 1) [x] :=
  ⟨_, 1, rfl, Nat.le_refl _, by decide, .inr ⟨w.heap.size, 0, #[u], rfl, Nat.le_refl _, Blk.new _ _ _, Nat.le_refl _, fun i hi f hf => by
    have hi' : i < 1 := hi
    obtain rfl : i = 0 := by omega
    obtain rfl : f = 0 := by omega
    show some u = (cells x)[0]?
    rw [hc]
    rfl⟩⟩

/-- the stores that were, and where their records end -/
structure KD (base : Nat) (w : World) (vd vm : Value) (ps : List Nat) (D : List E) : Prop where
  done : Ow cellP 1 base 40 w vd ps
  marks : Ow cellI 1 base 3 w vm (marksOf D)
  refs : ∀ i, i ≤ D.length → ∃ v, RStoreO base w (ps.getD i 0) v (D.take i)
  len : ps.length = D.length + 1
section
variable {base : Nat} {w w' : World} {vd vm : Value} {ps : List Nat} {D : List E}
theorem RStoreO.frT {b : Nat} {v : Value} {S : Nat → Prop} (h : RStoreO base w b v D) (hF : Fr S w w') (hS : ∀ i, S i → ¬ TyS w [43, 34] i) : RStoreO base w' b v D :=
  h.fr hF (fun hs => hS _ hs ⟨_, _, by simp, h.blk⟩) (fun g hg hs => by
    obtain ⟨cur, hc⟩ := h.own.typ hg
    exact hS _ hs ⟨_, _, by simp, hc⟩)
theorem KD.belowS (h : KD base w vd vm ps D) (hb : Below w.heap.size w w') : KD base w' vd vm ps D :=
  ⟨h.done.belowS hb, h.marks.belowS hb, fun i hi => (h.refs i hi).imp fun _ hv => hv.belowS hb, h.len⟩
theorem TyS.swap {ts us : List TypeId} (hd : ∀ t ∈ ts, t ∉ us) {i : Nat} (h : TyS w ts i) : ¬ TyS w us i := by
  obtain ⟨t, cs, ht, hb⟩ := h
  exact TyS.no hb (hd t ht)
theorem RStoreO.log {b : Nat} {v : Value} (h : RStoreO base w b v D) (hF : Fr (TyS w logT) w w') : RStoreO base w' b v D :=
  h.frT hF (fun i hi => TyS.swap (by decide) hi)
theorem KD.log (h : KD base w vd vm ps D) (hF : Fr (TyS w logT) w w') : KD base w' vd vm ps D :=
  ⟨h.done.fr hF (fun g hg => by obtain ⟨cur, hc⟩ := h.done.typ hg; exact TyS.no hc (by decide)), h.marks.fr hF (fun g hg => by obtain ⟨cur, hc⟩ := h.marks.typ hg; exact TyS.no hc (by decide)),
    fun i hi => (h.refs i hi).imp fun _ hv => hv.log hF, h.len⟩
/-- the blocks of a slice of a type are of no other -/
theorem Ow.tyNo {α : Type} {cells : α → List Value} {n : Nat} {T : TypeId} {v : Value} {l : List α} (h : Ow cells n base T w v l) {ts : List TypeId} (hT : T ∉ ts) : ∀ i, some i = foot v → ¬ TyS w ts i := fun i hi => by
  obtain ⟨cur, hc⟩ := h.typ hi.symm
  exact TyS.no hc hT
/-- a store more in the row -/
theorem KD.app1 (h : KD base w vd vm ps D) (hF : Fr (fun k => some k = foot vd) w w') : Ow cellI 1 base 3 w' vm (marksOf D) ∧ (∀ i, i ≤ D.length → ∃ v, RStoreO base w' (ps.getD i 0) v (D.take i)) ∧ ∀ {b : Nat} {v : Value} {D' : List E}, RStoreO base w b v D' → RStoreO base w' b v D' :=
  ⟨h.marks.fr hF (fun g hg hs => h.done.tyNo (ts := [3]) (by decide) g hs (by obtain ⟨cur, hc⟩ := h.marks.typ hg; exact ⟨_, _, by simp, hc⟩)),
    fun i hi => (h.refs i hi).imp fun _ hv => hv.frT hF (h.done.tyNo (by decide)), fun hv => hv.frT hF (h.done.tyNo (by decide))⟩
/-- a mark more -/
theorem KD.app2 {w2 : World} {vd' vm' : Value} {b : Nat} {e : E} (h : KD base w vd vm ps D) (hm : Ow cellI 1 base 3 w' vm (marksOf D)) (hr : ∀ i, i ≤ D.length → ∃ v, RStoreO base w' (ps.getD i 0) v (D.take i)) (hn : ∃ v, RStoreO base w' b v (D ++ [e]))
    (hd : Ow cellP 1 base 40 w' vd' (ps ++ [b])) (hF : Fr (fun k => some k = foot vm) w' w2) (hm2 : Ow cellI 1 base 3 w2 vm' (marksOf D ++ [((bytesL (D ++ [e])).length : Int)])) : KD base w2 vd' vm' (ps ++ [b]) (D ++ [e]) := by
  have hl := h.len
  refine ⟨hd.fr hF (fun g hg hs => hm.tyNo (ts := [40]) (by decide) g hs (by obtain ⟨cur, hc⟩ := hd.typ hg; exact ⟨_, _, by simp, hc⟩)), by rw [marksOf_snoc]; exact hm2, fun i hi => ?_, by rw [List.length_append, List.length_append, hl]; rfl⟩
  rw [List.length_append, List.length_singleton] at hi
  by_cases he : i ≤ D.length
  · have e1 : (ps ++ [b]).getD i 0 = ps.getD i 0 := by
      rw [List.getD_eq_getElem?_getD, List.getD_eq_getElem?_getD, List.getElem?_append_left (by omega)]
    rw [e1, List.take_append_of_le_length he]
    exact (hr i he).imp fun _ hv => hv.frT hF (hm.tyNo (by decide))
  · obtain rfl : i = D.length + 1 := by omega
    have e1 : (ps ++ [b]).getD (D.length + 1) 0 = b := by
      rw [List.getD_eq_getElem?_getD, List.getElem?_append_right (by omega), show D.length + 1 - ps.length = 0 by omega]
      rfl
    rw [e1, List.take_of_length_le (by rw [List.length_append]; exact Nat.le_refl _)]
    exact hn.imp fun _ hv => hv.frT hF (hm.tyNo (by decide))
/-- what is left behind a crash -/
theorem KD.cut {A B : Option Addr} {n m c1 c2 : Nat} (h : KD base w (.slice A n c1) (.slice B m c2) ps D) {i : Nat} (hi : i ≤ D.length) : KD base w (.slice A (i + 1) c1) (.slice B (i + 1) c2) (ps.take (i + 1)) (D.take i) := by
  have hl := h.len
  refine ⟨h.done.take (by omega), ?_, fun j hj => ?_, by rw [List.length_take, List.length_take]; omega⟩
  · rw [← marksOf_take D hi]
    exact h.marks.take (by rw [marksOf_len]; omega)
  · rw [List.length_take] at hj
    have e1 : (ps.take (i + 1)).getD j 0 = ps.getD j 0 := by
      rw [List.getD_eq_getElem?_getD, List.getD_eq_getElem?_getD, List.getElem?_take, if_pos (by omega)]
    rw [e1, List.take_take, show min j i = j by omega]
    exact h.refs j (by omega)
end

/-! ### a part of a code -/
def findBlk (n : Nat) : Code → Option Code
  | .block id c => if id = n then some (.block id c) else findBlk n c
  | .loop c => findBlk n c
  | .seq a b => match findBlk n a with
    | some c => some c
    | none => findBlk n b
  | .scope c => findBlk n c
  | .cond _ a b => match findBlk n a with
    | some c => some c
    | none => findBlk n b
  | _ => none
/-- does it end with that block? -/
def endsBlk (n : Nat) : Code → Bool
  | .block id _ => id == n
  | .seq _ b => endsBlk n b
  | _ => false
/-- what follows a block -/
def tailBlk (n : Nat) : Code → Option Code
  | .block _ c => tailBlk n c
  | .loop c => tailBlk n c
  | .seq a b => if endsBlk n a then some b else match tailBlk n a with
    | some c => some c
    | none => tailBlk n b
  | .scope c => tailBlk n c
  | .cond _ a b => match tailBlk n a with
    | some c => some c
    | none => tailBlk n b
  | _ => none
end Go.Proofs.YtljkclebcoanaaaGreatDoor
