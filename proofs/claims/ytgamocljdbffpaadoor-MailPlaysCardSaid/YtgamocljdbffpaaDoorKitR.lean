/-
  A LAW of this seat's own on append where there is room: in place. CONDITIONS: none.
-/
import Derived.Test.YtgamocljdbffpaaDoorKit
namespace Go.Proofs.YtgamocljdbffpaaDoor
open Go.RowKit
open Go.ChangeShapes Go.WideShapes Go.ChangeAt

theorem app_room_wp {P : Program} {o : Oper} {a : Act} {K : Act → World → Prop} {Q : Exit → Act → World → Prop} {α : Type} (cells : α → List Value) (n bytes : Nat) (hlen : ∀ x, (cells x).length = n)
    (T TS TX : TypeId) (z : Value) (hu : P.underlying TS = some (.slice T)) (hinfo : (P.info? T).map (fun i => (i.zero, i.size, i.bytes)) = some (some z, n, bytes))
    (s y : Operand) (ho : o.op = .call { callee := .builtin .append, args := #[s, y], argTypes := #[TS, TX] })
    (X : World) (base g off k k2 cap : Nat) (u : Value) (l m : List α) (hs : a.eval s = .slice (some ⟨g, off, none⟩) k cap) (hk : l.length = k) (hk2 : l.length + m.length = k2) (hy : a.eval y = u) (hsrc : Src P n TX u m.length (m.flatMap cells) X)
    (hown : Ow cells n base T X (.slice (some ⟨g, off, none⟩) k cap) l) (hroom : l.length + m.length ≤ cap) (hc0 : 0 < cap)
    (h : ∀ w', Ow cells n base T w' (.slice (some ⟨g, off, none⟩) k2 cap) (l ++ m) → Fr (fun i => i = g) X w' → K (a.put o.dst (.slice (some ⟨g, off, none⟩) k2 cap)) w') :
    o.wp P a X K Q := by
  obtain ⟨i0, hi, hz0, hz1, hz2⟩ := info_parts hinfo
  subst hz1 hk hk2
  obtain ⟨A', cap', hv, h1, h2, h3⟩ := hown
  cases hv
  unfold Oper.wp execOp
  rcases h3 with rfl | ⟨g', off', cur, hA, hbg, hB, h3, h4⟩
  · omega
  · cases hA
    have hin : l.length * i0.size + m.length * i0.size ≤ cap * i0.size := by rw [← Nat.add_mul]; exact Nat.mul_le_mul_right _ hroom
    have hfl := flat_length cells i0.size hlen m
    have hr := run_append_room_src (P := P) X TS TX o.type T i0 hu hi g off l.length cap u m.length _ hsrc hroom
      (fun j hj => by rw [hB.cell, Array.getElem?_eq_getElem (by omega)]; rfl) (fun j hj => hB.frozen _)
    simp only [ho, resolve, invoke, builtin, Sem.run_bind, Sem.run_pure, Result.andThen_ok, List.map_toArray, List.map_cons, List.map_nil, hs, hy, hr]
    obtain ⟨cur', k1, k2, k3, k4⟩ := Blk.setCells (m.flatMap cells) (off + l.length * i0.size) X cur hB (by omega)
    refine h _ ⟨_, cap, by rw [List.length_append], by rw [List.length_append]; exact hroom, h2, ?_⟩ ?_
    · refine .inr ⟨g, off, cur', rfl, hbg, k1, by rw [k2]; exact h3, fun i hil f hf => ?_⟩
      rw [List.length_append] at hil
      by_cases hic : i < l.length
      · have := mul_in (n := i0.size) hic (Nat.le_refl _)
        rw [k4 _ (.inl (by omega)), h4 i hic f hf, List.getElem_append_left hic]
      · have hjm : i - l.length < m.length := by omega
        have := mul_in (n := i0.size) hjm (Nat.le_refl _)
        have he : off + i * i0.size + f = off + l.length * i0.size + ((i - l.length) * i0.size + f) := by
          have : i * i0.size = l.length * i0.size + (i - l.length) * i0.size := by rw [← Nat.add_mul]; congr 1; omega
          omega
        rw [he, k3 _ (by omega), flat_get cells i0.size hlen m _ f hjm hf, List.getElem_append_right (by omega)]
    · exact Fr.setCells g _ _ X (Fr.refl _ _) (.inl rfl)
theorem app_room_step {P : Program} {ops : Array Oper} {o : Oper} {a : Act} {K : Act → World → Prop} {Q : Exit → Act → World → Prop} {E : Prop} {α : Type} (cells : α → List Value) (n bytes : Nat) (hlen : ∀ x, (cells x).length = n)
    (T TS TX : TypeId) (z : Value) (hu : P.underlying TS = some (.slice T)) (hinfo : (P.info? T).map (fun i => (i.zero, i.size, i.bytes)) = some (some z, n, bytes))
    (hgd : o.guard = none) (s y : Operand) (ho : o.op = .call { callee := .builtin .append, args := #[s, y], argTypes := #[TS, TX] })
    (X : World) (base g off k k2 cap : Nat) (u : Value) (l m : List α) (hs : a.eval s = .slice (some ⟨g, off, none⟩) k cap) (hk : l.length = k) (hk2 : l.length + m.length = k2) (hy : a.eval y = u) (hsrc : Src P n TX u m.length (m.flatMap cells) X)
    (hown : Ow cells n base T X (.slice (some ⟨g, off, none⟩) k cap) l) (hroom : l.length + m.length ≤ cap) (hc0 : 0 < cap)
    (h : ∀ w', Ow cells n base T w' (.slice (some ⟨g, off, none⟩) k2 cap) (l ++ m) → Fr (fun i => i = g) X w' → K (a.put o.dst (.slice (some ⟨g, off, none⟩) k2 cap)) w') :
    if Region.wanted o (yielded ops a.tmps) = true then Oper.wp P o a X K Q else E := by
  rw [if_pos (by simp [Region.wanted, hgd])]
  exact app_room_wp cells n bytes hlen T TS TX z hu hinfo s y ho X base g off k k2 cap u l m hs hk hk2 hy hsrc hown hroom hc0 h
end Go.Proofs.YtgamocljdbffpaaDoor
