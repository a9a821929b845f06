/- What a call turns. No program in sight (but for its name). -/
import Derived.Test.YtjlbamjebidhgaaOwn
namespace Go.Proofs.Ytjlbamjebidhgaa
open Go.RowKit Own
/-- Nothing has turned but (it may be) these blocks; new ones may be there. -/
structure Chg (ks : List Nat) (w w' : World) : Prop where
  os : w'.os = w.os
  tape : w'.tape = w.tape
  output : w'.output = w.output
  size : w.heap.size ≤ w'.heap.size
  block : ∀ k, k < w.heap.size → k ∉ ks → w'.heap[k]? = w.heap[k]?

theorem Chg.refl (ks : List Nat) (w : World) : Chg ks w w := ⟨rfl, rfl, rfl, Nat.le_refl _, fun _ _ _ => rfl⟩
theorem Chg.trans {ks ks' : List Nat} {a b c : World} (h : Chg ks a b) (k : Chg ks' b c) (hk : ∀ x ∈ ks', x < a.heap.size → x ∈ ks) : Chg ks a c :=
  ⟨k.os.trans h.os, k.tape.trans h.tape, k.output.trans h.output, Nat.le_trans h.size k.size, fun i hi hn => (k.block i (Nat.lt_of_lt_of_le hi h.size) (fun hx => hn (hk i hx hi))).trans (h.block i hi hn)⟩
theorem Chg.below {B : Nat} {ks : List Nat} {w w' : World} (h : Chg ks w w') (hB : B ≤ w.heap.size) (hk : ∀ k ∈ ks, B ≤ k) : Below B w w' :=
  ⟨h.os, h.tape, h.output, h.size, fun k hlt => h.block k (Nat.lt_of_lt_of_le hlt hB) (fun hx => by have := hk k hx; omega)⟩
theorem Chg.of_below {ks : List Nat} {w w' : World} (h : Below w.heap.size w w') : Chg ks w w' := ⟨h.os, h.tape, h.output, h.size, fun k hk _ => h.block k hk⟩
theorem Chg.grown {ks : List Nat} {w w' : World} {row : Option Nat} (h : w.grownBy w' row) (hk : ∀ k, row = some k → k ∈ ks) : Chg ks w w' :=
  ⟨h.os, h.tape, h.output, h.size, fun k hlt hn => h.block k hlt (fun e => hn (hk k e.symm))⟩
theorem Chg.setCell {ks : List Nat} {w : World} {a : Addr} (u : Value) (ha : a.block ∈ ks) : Chg ks w (w.setCell a u) :=
  ⟨rfl, rfl, rfl, by simp [World.setCell], fun k _ hn => Below.heap_setCell _ _ _ _ (fun e => hn (e ▸ ha))⟩
theorem Chg.drew {ks : List Nat} {w w' : World} (h : Chg ks w w') : Chg ks w w'.drew := ⟨h.os, h.tape, h.output, h.size, h.block⟩


end Go.Proofs.Ytjlbamjebidhgaa
