/-
  THE KIT of []string: slices of the call's own, read and appended to. CONDITIONS: none.
-/
import Derived.Test.YtneilklimpdeoaaGreatDoorEntry
import Derived.Test.YtneilklimpdeoaaGreatDoorKit
namespace Go.Proofs.YtneilklimpdeoaaGreatDoor
open Go.RowKit
open Go.ChangeShapes Go.WideShapes Go.ChangeAt

def cellB (x : ByteArray) : List Value := [.string x]
theorem cellB_length (x : ByteArray) : (cellB x).length = 1 := rfl
theorem cellB_one (x : ByteArray) : ∀ u ∈ cellB x, u.oneCell' = true := by intro u hu; simp [cellB] at hu; subst hu; rfl
theorem infoB : (Tryz.prog.info? 9).map (fun i => (i.zero, i.size, i.bytes)) = some (some (.string ⟨#[]⟩), 1, 16) := by kernel_rfl
theorem appB {ops : Array Oper} {rest : List Oper} {o : Oper} {a : Act} {Q : Exit → Act → World → Prop} (X : World) (base : Nat) (v : Value) (l : List ByteArray) (x0 : ByteArray) (hown : Ow cellB 1 base 9 X v l)
    (hgd : o.guard = none) (p q : Operand) (ho : o.op = .call { callee := .builtin .append, args := #[p, q], argTypes := #[23, 23] }) (hp : a.eval p = v) {N : Nat} (hq : a.eval q = .slice (some ⟨N, 0, none⟩) 1 1) (hN : X.heap.size = N) (hl : l.length ≤ 100000000) (hb : base ≤ X.heap.size)
    (h : ∀ v' w', Ow cellB 1 base 9 w' v' (l ++ [x0]) → Fr (fun k => some k = foot v) X w' → (foot v' = foot v ∨ foot v' = some (X.heap.size + 1)) → wpList Tryz.prog ops Q rest (a.put o.dst v') w') :
    wpList Tryz.prog ops Q (o :: rest) a (X.alloc (.cells #[.string x0] 9)) := by
  subst hN
  exact app_src cellB 1 16 cellB_length (by decide) (by decide) _ _ 23 (.string ⟨#[]⟩) rfl Tryz.underlying23 infoB hgd p q ho _ base v _ l [x0] hp hq
    (Src.ofSlice _ Tryz.underlying23 ⟨X.heap.size, 0, none⟩ 1 1 _ rfl (fun j u hj => by rw [Addr_add, Nat.zero_add, (Blk.new X 9 _).cell j]; simpa [cellB] using hj) (fun u hu => by simp at hu; exact cellB_one _ u hu)) (hown.alloc _) (by simp; omega) (by simp; omega) (fun v' w' h1 h2 h3 => h v' w' h1 (((Fr.refl _ _).alloc _).step h2) (by simpa using h3))
theorem Ow.strCells {w : World} {base g off len cap : Nat} {T : TypeId} {l : List ByteArray} (h : Ow cellB 1 base T w (.slice (some ⟨g, off, none⟩) len cap) l) (h0 : 0 < l.length) :
    ∀ (j : Nat) x, l[j]? = some x → w.cell? ⟨g, off + j, none⟩ = some (.string x) := by
  obtain ⟨g', off', cap', he, h1, h2, hb, hlt, hfo, hc, _⟩ := h.get h0
  injection he with e1 e2 e3
  injection e1 with e1
  injection e1 with e4 e5
  subst e4 e5
  intro j x hj
  have hi : j < l.length := (List.getElem?_eq_some_iff.1 hj).1
  have := hc j hi 0 (by decide)
  rw [Nat.mul_one, Nat.add_zero] at this
  have hx : l[j] = x := (List.getElem?_eq_some_iff.1 hj).2
  rw [this, hx]
  rfl
end Go.Proofs.YtneilklimpdeoaaGreatDoor
