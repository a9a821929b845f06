/- A slice that the call itself made: one element more by append, in one law; small laws on worlds. No program in sight. -/
import Derived.WalkKit
import Derived.Deep.AppendLies
namespace Go.Proofs.Ythppflfpghhnhaa
open Go.RowKit
namespace Own

theorem own_base {w : World} {base : Nat} {e : TypeId} {size n : Nat} {v : Value} {xs : List Value} (h : w.ownsRow base e size v n xs) (k : Nat) (hk : v.ownBlock = some k) : base ≤ k ∧ k < w.heap.size := h.lt k hk

theorem append_one {P : Program} {ops : Array Oper} {rest : List Oper} {o : Oper} {a : Act} {Q : Exit → Act → World → Prop} {w0 W : World} {base B0 n : Nat} {v : Value} {xs : List Value} {s x : Operand}
    {t e : TypeId} {z : Value} {size bytes : Nat}
    (HO : W.ownsRow base e size v n xs) (HB : Below B0 w0 W)
    (ht : P.underlying t = some (.slice e)) (hinfo : (P.info? e).map (fun i => (i.zero, i.size, i.bytes)) = some (some z, size, bytes)) (hz : z.cells.size = size) (hsz : 0 < size)
    (ys : List Value) (hl : ys.length = size) (h1 : ∀ u ∈ ys, u.oneCell' = true)
    (hB0 : B0 ≤ base) (hbase : base ≤ W.heap.size) (hlen : (n + 1) * bytes ≤ 140737488355328) (hn : n + 1 ≤ 140737488355328)
    (hgd : o.guard = none) (ho : o.op = .call { callee := .builtin .append, args := #[s, x], argTypes := #[t, t] })
    (hs : a.eval s = v) (hx : a.eval x = .slice (some ⟨W.heap.size, 0, none⟩) 1 1)
    (h : ∀ v1 w1, w1.ownsRow base e size v1 (n + 1) (xs ++ ys) → Below B0 w0 w1 → W.grownBy w1 v.ownBlock → (v1.ownBlock = v.ownBlock ∨ v1.ownBlock = some (W.heap.size + 1)) → (v1 = .slice none 0 0 → False) → wpList P ops Q rest (a.put o.dst v1) w1) :
    wpList P ops Q (o :: rest) a (W.alloc (.cells ys.toArray e)) := by
  obtain ⟨i0, hi, hzz⟩ := Option.map_eq_some_iff.1 hinfo
  simp only [Prod.mk.injEq] at hzz
  obtain ⟨hz0, hz1, hz2⟩ := hzz
  refine wpList_append_own_at (W.alloc (.cells ys.toArray e)) hgd s x t ho base e i0 z size bytes ht hi hz0 hz1 hz2 hz hsz v n xs hs (HO.alloc _) ⟨W.heap.size, 0, none⟩ 1 1 ys hx (by omega)
    (World.news_of_block (cs := ys.toArray) (t := e) (fr := (0, 0)) (heap_alloc_new W _)) h1 (by simp only [maxLen]; omega) hlen (by simp; omega) ?_
  intro v1 w1 hown hg hnil hat
  refine h v1 w1 hown ((HB.alloc (Nat.le_trans hB0 hbase) _).grown hg (by simp; omega) (fun k hk => Nat.le_trans hB0 (own_base HO k hk).1)) (World.grownBy.trans (World.grownBy_alloc W _ _) hg) ?_ ?_
  · simpa using hat
  · intro hv
    have := (hnil.1 hv).2
    omega
end Own
end Go.Proofs.Ythppflfpghhnhaa
