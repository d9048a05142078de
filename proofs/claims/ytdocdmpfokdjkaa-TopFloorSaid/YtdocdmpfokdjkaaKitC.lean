/-
  A LAW of this seat's own on copy. CONDITIONS: none.
-/
import Derived.Test.YtdocdmpfokdjkaaKit
namespace Go.Proofs.Ytdocdmpfokdjkaa
open Go.RowKit
open Go.ChangeShapes Go.WideShapes Go.ChangeAt
/-- copy(dst, src) into a block of the call's own: what the walk goes on with; of the source only its first cells are asked -/
theorem copy_wp {P : Program} {o : Oper} {a : Act} {K : Act → World → Prop} {Q : Exit → Act → World → Prop} (X : World) (g off dLen dCap sLen sCap k sz bytes : Nat) (A : Addr) (cur : Array Value) (T DT ST : TypeId) (z : Value) (news : List Value) (hB : Blk X g T cur) (hin : off + k * sz ≤ cur.size) (hk : k = Nat.min sLen dLen)
    (hu : P.underlying DT = some (.slice T)) (hinfo : (P.info? T).map (fun i => (i.zero, i.size, i.bytes)) = some (some z, sz, bytes)) (hnl : news.length = k * sz) (hnews : ∀ j u, news[j]? = some u → X.cell? (A.add j) = some u) (h1 : ∀ u ∈ news, u.oneCell' = true)
    (d s : Operand) (ho : o.op = .call { callee := .builtin .copy, args := #[d, s], argTypes := #[DT, ST] }) (hd : a.eval d = .slice (some ⟨g, off, none⟩) dLen dCap) (hs : a.eval s = .slice (some A) sLen sCap)
    (h : K (a.put o.dst (.int .i64 k)) (X.setCells g off news)) : o.wp P a X K Q := by
  obtain ⟨i0, hi, hz0, hz1, hz2⟩ := info_parts hinfo
  subst hz1
  have hst := run_storeCells_cells (P := P) g off news 0 X (fun j hj => by rw [hB.cell, Array.getElem?_eq_getElem (by omega)]; rfl) (fun j hj => hB.frozen _) h1
  simp only [Nat.add_zero] at hst
  have hf := run_firstCells_some (P := P) X i0.size k A sLen sCap news hnl hnews
  have hr : (Builtin.copy_ #[DT, ST] o.type #[.slice (some ⟨g, off, none⟩) dLen dCap, .slice (some A) sLen sCap]).run P X = .ok (.int .i64 k) (X.setCells g off news) := by
    simp [Builtin.copy_, run_underlying hu, sizeOf, typeInfo, hi, Builtin.lenOf, ← hk, hf, hst, goInt]
  unfold Oper.wp execOp
  simp only [ho, resolve, invoke, builtin, Sem.run_bind, Sem.run_pure, Result.andThen_ok, List.map_toArray, List.map_cons, List.map_nil, hd, hs, hr]
  exact h
end Go.Proofs.Ytdocdmpfokdjkaa
