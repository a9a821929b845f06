/- A slice that the call itself made: one element more by append, in one law; small laws on worlds. No program in sight. Bytes in memory: a slice of bytes that reads as a list; slices.Clone at bytes. A slice of bytes that came in; and the call's own copy of it. What a call turns; a map as a function of its keys. No program in sight (but for its name). A map's entry that is laid and then stored ('m[k] op= v'). Blocks in which no byte lies. 'append' onto a row of the call's own: no byte lies in its block. No program in sight. 'for k, v := range m': one step, whatever the order. No program in sight (but for its name). -/
import Derived.WalkKit
import Derived.Deep.AppendLies
import Derived.Laws.IdiomCopy
import Derived.Test.YtbbbdhpihcbmmaaRows
import Derived.WalkSpells
import Derived.Lib.Hide
import Derived.ProofKit
import Derived.OpenShut
import Derived.SizedLaws
import Derived.Maps.AppendAt
import Derived.Maps.Own
import Derived.DeepKeys4
import Derived.Maps.RangeRun
namespace Go.Proofs.Ytbbbdhpihcbmmaa
open Go.RowKit
namespace Own

theorem own_base {w : World} {base : Nat} {e : TypeId} {size n : Nat} {v : Value} {xs : List Value} (h : w.ownsRow base e size v n xs) (k : Nat) (hk : v.ownBlock = some k) : base ≤ k ∧ k < w.heap.size := h.lt k hk

theorem append_one {P : Program} {ops : Array Oper} {rest : List Oper} {o : Oper} {a : Act} {Q : Exit → Act → World → Prop} {w0 W : World} {base B0 n : Nat} {v : Value} {xs : List Value} {s x : Operand}
    {t e : TypeId} {z : Value} {size bytes : Nat}
    (HO : W.ownsRow base e size v n xs) (HB : Below B0 w0 W)
    (ht : P.underlying t = some (.slice e)) (hinfo : (P.info? e).map (fun i => (i.zero, i.size, i.bytes)) = some (some z, size, bytes)) (hz : z.cells.size = size) (hsz : 0 < size)
    (ys : List Value) (hl : ys.length = size) (h1 : ∀ u ∈ ys, u.oneCell' = true)
    (hB0 : B0 ≤ base) (hbase : base ≤ W.heap.size) (hlen : (n + 1) * bytes ≤ 140737488355328) (hn : n + 1 ≤ 140737488355328)
    (hgd : o.guard = none) (ho : o.op = .call { callee := .builtin .append, args := #[s, x], argTypes := #[t, t] })
    (hs : a.eval s = v) (hx : a.eval x = .slice (some ⟨W.heap.size, 0, none⟩) 1 1)
    (h : ∀ v1 w1, w1.ownsRow base e size v1 (n + 1) (xs ++ ys) → Below B0 w0 w1 → W.grownBy w1 v.ownBlock → (v1.ownBlock = v.ownBlock ∨ v1.ownBlock = some (W.heap.size + 1)) → (v1 = .slice none 0 0 → False) → wpList P ops Q rest (a.put o.dst v1) w1) :
    wpList P ops Q (o :: rest) a (W.alloc (.cells ys.toArray e)) := by
  obtain ⟨i0, hi, hzz⟩ := Option.map_eq_some_iff.1 hinfo
  simp only [Prod.mk.injEq] at hzz
  obtain ⟨hz0, hz1, hz2⟩ := hzz
  refine wpList_append_own_at (W.alloc (.cells ys.toArray e)) hgd s x t ho base e i0 z size bytes ht hi hz0 hz1 hz2 hz hsz v n xs hs (HO.alloc _) ⟨W.heap.size, 0, none⟩ 1 1 ys hx (by omega)
    (World.news_of_block (cs := ys.toArray) (t := e) (fr := (0, 0)) (heap_alloc_new W _)) h1 (by simp only [maxLen]; omega) hlen (by simp; omega) ?_
  intro v1 w1 hown hg hnil hat
  refine h v1 w1 hown ((HB.alloc (Nat.le_trans hB0 hbase) _).grown hg (by simp; omega) (fun k hk => Nat.le_trans hB0 (own_base HO k hk).1)) (World.grownBy.trans (World.grownBy_alloc W _ _) hg) ?_ ?_
  · simpa using hat
  · intro hv
    have := (hnil.1 hv).2
    omega
/-- what owns something says which block, and of which type it is -/
theorem own_type {w : World} {base : Nat} {e : TypeId} {size n : Nat} {v : Value} {xs : List Value} (h : w.ownsRow base e size v n xs) {g : Nat} (hg : v.ownBlock = some g) : ∃ cur, w.heap[g]? = some (.cells cur e (0, 0)) := by
  rcases h.2 with ⟨rfl, _⟩ | ⟨g', cap, cur, rfl, _, hh, _⟩
  · cases hg
  · cases hg; exact ⟨cur, hh⟩
theorem own_ne {w : World} {base : Nat} {e : TypeId} {size n : Nat} {v : Value} {xs : List Value} (h : w.ownsRow base e size v n xs) {k : Nat} (hk : ∀ cur, w.heap[k]? ≠ some (.cells cur e (0, 0))) : v.ownBlock ≠ some k := fun hg => by
  obtain ⟨cur, hc⟩ := own_type h hg
  exact hk cur hc
theorem own_mono {w : World} {base base' : Nat} {e : TypeId} {size n : Nat} {v : Value} {xs : List Value} (h : w.ownsRow base e size v n xs) (hb : base' ≤ base) : w.ownsRow base' e size v n xs := by
  refine ⟨h.1, ?_⟩
  rcases h.2 with h2 | ⟨g, cap, cur, hv, hg, r⟩
  · exact .inl h2
  · exact .inr ⟨g, cap, cur, hv, Nat.le_trans hb hg, r⟩
/-- it lives on where its own block is as it was -/
theorem own_same {w w' : World} {base : Nat} {e : TypeId} {size n : Nat} {v : Value} {xs : List Value} (h : w.ownsRow base e size v n xs) (hs : ∀ g, v.ownBlock = some g → w'.heap[g]? = w.heap[g]?) : w'.ownsRow base e size v n xs := by
  refine ⟨h.1, ?_⟩
  rcases h.2 with h2 | ⟨g, cap, cur, rfl, hg, hh, r⟩
  · exact .inl h2
  · exact .inr ⟨g, cap, cur, rfl, hg, (hs g rfl).trans hh, r⟩
theorem heap_setCell_same {w : World} {b : Nat} {cs : Array Value} {t : TypeId} {fr : Nat × Nat} (h : w.heap[b]? = some (.cells cs t fr)) (o : Nat) (u : Value) : (w.setCell ⟨b, o, none⟩ u).heap[b]? = some (.cells (cs.setIfInBounds o u) t fr) := by
  simp [World.setCell, Array.getElem?_modify, h]
theorem frozen_of_block {w : World} {b : Nat} {cs : Array Value} {t : TypeId} (h : w.heap[b]? = some (.cells cs t (0, 0))) (o : Nat) : w.frozen? ⟨b, o, none⟩ = false := by simp [World.frozen?, h]
theorem own_below {w w1 : World} {base : Nat} {e : TypeId} {size n : Nat} {v : Value} {xs : List Value} (h : w.ownsRow base e size v n xs) (hb : Below w.heap.size w w1) : w1.ownsRow base e size v n xs :=
  own_same h fun g hg => hb.block g (h.lt g hg).2
theorem own_slice {w : World} {base n : Nat} {e : TypeId} {size : Nat} {v : Value} {xs : List Value} (h : w.ownsRow base e size v n xs) : ∃ A c, v = .slice A n c := by
  rcases h.2 with ⟨rfl, rfl⟩ | ⟨g, cap, cur, rfl, _⟩
  · exact ⟨none, 0, rfl⟩
  · exact ⟨_, cap, rfl⟩

theorem own_reads {w : World} {base n : Nat} {e : TypeId} {v : Value} {xs : List Value} (h : w.ownsRow base e 1 v n xs) (hn : 0 < n) :
    ∃ g cap, v = .slice (some ⟨g, 0, none⟩) n cap ∧ base ≤ g ∧ g < w.heap.size ∧ n ≤ cap ∧ (∀ j, j < n → w.cell? ⟨g, j, none⟩ = xs[j]?) ∧ (∀ j, w.frozen? ⟨g, j, none⟩ = false) ∧ ∃ cur, w.heap[g]? = some (.cells cur e (0, 0)) := by
  rcases h.2 with ⟨_, h0⟩ | ⟨g, cap, cur, rfl, hg, hh, hc, _, hs, hx⟩
  · omega
  · refine ⟨g, cap, rfl, hg, (Array.getElem?_eq_some_iff.1 hh).1, hc, fun j hj => ?_, fun j => frozen_of_block hh j, cur, hh⟩
    rw [cell_of_row w g j cur e (0, 0) hh, ← hx, List.getElem?_take, if_pos (by omega), Array.getElem?_toList]

theorem own_set {w : World} {base n g cap j : Nat} {e : TypeId} {xs : List Value} (h : w.ownsRow base e 1 (.slice (some ⟨g, 0, none⟩) n cap) n xs) (u : Value) :
    (w.setCell ⟨g, j, none⟩ u).ownsRow base e 1 (.slice (some ⟨g, 0, none⟩) n cap) n (xs.set j u) := by
  refine ⟨by rw [List.length_set]; exact h.1, ?_⟩
  rcases h.2 with ⟨h0, _⟩ | ⟨g', cap', cur, hv, hg, hh, hc, hm, hs, hx⟩
  · cases h0
  · cases hv
    refine .inr ⟨g, cap, cur.setIfInBounds j u, rfl, hg, Own.heap_setCell_same hh j u, hc, hm, by simpa using hs, ?_⟩
    rw [Array.toList_setIfInBounds, List.take_set, hx]

/-! ### cells that are written in a row -/
def setL : Array Value → Nat → List Value → Array Value
  | cs, _, [] => cs
  | cs, o, v :: r => setL (cs.setIfInBounds o v) (o + 1) r
theorem setL_size : ∀ (vs : List Value) (cs : Array Value) (o : Nat), (setL cs o vs).size = cs.size
  | [], _, _ => rfl
  | v :: r, cs, o => by simp only [setL]; rw [setL_size r]; simp
theorem setL_list : ∀ (vs : List Value) (cs : Array Value) (o : Nat), o + vs.length ≤ cs.size → (setL cs o vs).toList = cs.toList.take o ++ vs ++ cs.toList.drop (o + vs.length)
  | [], cs, o, _ => by simp [setL]
  | v :: r, cs, o, h => by
    simp only [List.length_cons] at h
    simp only [setL]
    rw [setL_list r _ _ (by simp; omega)]
    simp only [Array.toList_setIfInBounds, List.length_cons]
    rw [List.take_set, List.drop_set, if_pos (by omega), show o + 1 + r.length = o + (r.length + 1) by omega]
    have hl : o < cs.toList.length := by simp; omega
    rw [List.take_succ_eq_append_getElem hl]
    have : (cs.toList.take o ++ [cs.toList[o]]).set o v = cs.toList.take o ++ [v] := by
      rw [List.set_append]
      simp [Nat.min_eq_left (show o ≤ cs.size by omega)]
    rw [this]
    simp
theorem heap_setCells {b : Nat} {t : TypeId} {fr : Nat × Nat} : ∀ (vs : List Value) (o : Nat) (w : World) (cs : Array Value), w.heap[b]? = some (.cells cs t fr) →
    (w.setCells b o vs).heap[b]? = some (.cells (setL cs o vs) t fr)
  | [], _, _w, _cs, h => h
  | v :: r, o, _w, _cs, h => heap_setCells r (o + 1) _ _ (heap_setCell_same h o v)
theorem heap_setCells_other {b : Nat} : ∀ (vs : List Value) (o : Nat) (w : World) (k : Nat), k ≠ b → (w.setCells b o vs).heap[k]? = w.heap[k]?
  | [], _, _, _, _ => rfl
  | v :: r, o, w, k, h => by
    show ((w.setCell ⟨b, o, none⟩ v).setCells b (o + 1) r).heap[k]? = _
    rw [heap_setCells_other r (o + 1) _ k h]
    exact Below.heap_setCell _ _ _ _ h
theorem setCells_rest {b : Nat} : ∀ (vs : List Value) (o : Nat) (w : World), (w.setCells b o vs).os = w.os ∧ (w.setCells b o vs).tape = w.tape ∧ (w.setCells b o vs).output = w.output ∧ (w.setCells b o vs).heap.size = w.heap.size
  | [], _, _ => ⟨rfl, rfl, rfl, rfl⟩
  | v :: r, o, w => by
    have h := setCells_rest (b := b) r (o + 1) (w.setCell ⟨b, o, none⟩ v)
    exact ⟨h.1, h.2.1, h.2.2.1, h.2.2.2.trans (by simp [World.setCell])⟩

/-- The same in a region that draws its order. -/
theorem step_append_one {P : Program} {ops : Array Oper} {o : Oper} {a : Act} {K : Act → World → Prop} {Q : Exit → Act → World → Prop} {E : Prop} {w0 W : World} {base B0 n : Nat} {v : Value} {xs : List Value} {s x : Operand}
    {t e : TypeId} {z : Value} {size bytes : Nat}
    (HO : W.ownsRow base e size v n xs) (HB : Below B0 w0 W)
    (ht : P.underlying t = some (.slice e)) (hinfo : (P.info? e).map (fun i => (i.zero, i.size, i.bytes)) = some (some z, size, bytes)) (hz : z.cells.size = size) (hsz : 0 < size)
    (ys : List Value) (hl : ys.length = size) (h1 : ∀ u ∈ ys, u.oneCell' = true)
    (hB0 : B0 ≤ base) (hbase : base ≤ W.heap.size) (hlen : (n + 1) * bytes ≤ 140737488355328) (hn : n + 1 ≤ 140737488355328)
    (hgd : o.guard = none) (ho : o.op = .call { callee := .builtin .append, args := #[s, x], argTypes := #[t, t] })
    (hs : a.eval s = v) (hx : a.eval x = .slice (some ⟨W.heap.size, 0, none⟩) 1 1)
    (h : ∀ v1 w1, w1.ownsRow base e size v1 (n + 1) (xs ++ ys) → Below B0 w0 w1 → W.grownBy w1 v.ownBlock → (v1.ownBlock = v.ownBlock ∨ v1.ownBlock = some (W.heap.size + 1)) → (∃ A c, v1 = .slice (some A) (n + 1) c) → K (a.put o.dst v1) w1) :
    if Region.wanted o (yielded ops a.tmps) = true then Oper.wp P o a (W.alloc (.cells ys.toArray e)) K Q else E := by
  have hw : Region.wanted o (yielded ops a.tmps) = true := by simp [Region.wanted, hgd]
  rw [if_pos hw]
  obtain ⟨i0, hi, hzz⟩ := Option.map_eq_some_iff.1 hinfo
  simp only [Prod.mk.injEq] at hzz
  obtain ⟨hz0, hz1, hz2⟩ := hzz
  obtain ⟨v1, w1, hr, hown, hg, hnil, hat⟩ := run_append_own_at (P := P) (W.alloc (.cells ys.toArray e)) base t o.type e i0 z size bytes ht hi hz0 hz1 hz2 hz hsz v n xs (HO.alloc _) ⟨W.heap.size, 0, none⟩ 1 1 ys (by omega)
    (World.news_of_block (cs := ys.toArray) (t := e) (fr := (0, 0)) (heap_alloc_new W _)) h1 (by simp only [maxLen]; omega) hlen (by simp; omega)
  unfold Oper.wp execOp
  simp only [ho, resolve, invoke, builtin, Sem.run_bind, Sem.run_pure, Result.andThen_ok, List.map_toArray, List.map_cons, List.map_nil, hs, hx, hr]
  refine h v1 w1 hown ((HB.alloc (Nat.le_trans hB0 hbase) _).grown hg (by simp; omega) (fun k hk => Nat.le_trans hB0 (own_base HO k hk).1)) (World.grownBy.trans (World.grownBy_alloc W _ _) hg) (by simpa using hat) ?_
  rcases hown.2 with ⟨_, h0⟩ | ⟨g, cap, cur, hv, _⟩
  · omega
  · exact ⟨_, _, hv⟩
end Own
end Go.Proofs.Ytbbbdhpihcbmmaa
namespace Go.Proofs.Ytbbbdhpihcbmmaa
open Go.RowKit

/-- bytes as cells -/
def u8s (l : List UInt8) : List Value := l.map fun b => .int .u8 (b.toNat : Int)
theorem u8s_length (l : List UInt8) : (u8s l).length = l.length := by simp [u8s]
theorem u8s_one (l : List UInt8) : ∀ u ∈ u8s l, u.oneCell' = true := fun u hu => by
  obtain ⟨b, _, rfl⟩ := List.mem_map.1 hu
  rfl

/-- a slice of bytes that reads as a list -/
def ReadsB (w : World) (v : Value) (l : List UInt8) : Prop :=
  (v = .slice none 0 0 ∧ l = []) ∨ ∃ a c, v = .slice (some a) l.length c ∧ ∀ j u, (u8s l)[j]? = some u → w.cell? (a.add j) = some u
theorem ReadsB.below {w w1 : World} {v : Value} {l : List UInt8} (h : ReadsB w v l) (hb : Below w.heap.size w w1) : ReadsB w1 v l := by
  rcases h with h | ⟨a, c, hv, hc⟩
  · exact .inl h
  · refine .inr ⟨a, c, hv, fun j u hu => ?_⟩
    have := hc j u hu
    rw [hb.cell (p := a.add j) (World.block_lt_of_cell? w _ this)]
    exact this
theorem ReadsB.slice {w : World} {v : Value} {l : List UInt8} (h : ReadsB w v l) : ∃ A c, v = .slice A l.length c := by
  rcases h with ⟨rfl, rfl⟩ | ⟨a, c, rfl, _⟩
  · exact ⟨none, 0, rfl⟩
  · exact ⟨some a, c, rfl⟩
theorem ReadsB.own {w : World} {base : Nat} {e : TypeId} {v : Value} {l : List UInt8} (h : w.ownsRow base e 1 v l.length (u8s l)) : ReadsB w v l := by
  rcases h.2 with ⟨rfl, h0⟩ | ⟨g, cap, cur, rfl, _⟩
  · exact .inl ⟨rfl, List.eq_nil_of_length_eq_zero h0⟩
  · exact .inr ⟨⟨g, 0, none⟩, cap, rfl, fun j u hu => h.cells (g := g) rfl j u hu⟩

theorem ReadsB.at_ {w : World} {v : Value} {l : List UInt8} (h : ReadsB w v l) (hl : 0 < l.length) :
    ∃ b off c, v = .slice (some ⟨b, off, none⟩) l.length c ∧ ∀ j (hj : j < l.length), w.cell? ⟨b, off + j, none⟩ = some (.int .u8 ((l[j]'hj).toNat : Int)) := by
  rcases h with ⟨_, rfl⟩ | ⟨a, c, rfl, hc⟩
  · cases hl
  · obtain ⟨b, off, spot⟩ := a
    have h0 := hc 0 (.int .u8 ((l[0]'hl).toNat : Int)) (by simp [u8s, hl])
    have hspot : spot = none := by simpa [Addr.add] using World.cell?_spot h0
    subst hspot
    exact ⟨b, off, c, rfl, fun j hj => by rw [← Go.WideShapes.add_plain]; exact hc j _ (by simp [u8s, hj])⟩

theorem infoByte : (Try.prog.info? 5).map (fun i => (i.zero, i.size, i.bytes)) = some (some (.int .u8 0), 1, 1) := by kernel_rfl

/-- what slices.Clone answers of bytes: nil of nil; else new memory -/
def ClonePost (v : Value) (l : List UInt8) (w : World) (e : Ending) (w' : World) : Prop :=
  ∃ v', e = .returned v' ∧ w'.ownsRow w.heap.size 5 1 v' l.length (u8s l) ∧ Below w.heap.size w w' ∧ (v' = .slice none 0 0 ↔ v = .slice none 0 0)

theorem clone_any (v : Value) (l : List UInt8) (w : World) (h : ReadsB w v l) (hl : l.length ≤ 140737488351232) :
    Calls Try.prog 19 #[v] w (ClonePost v l w) := by
  obtain ⟨i0, hi, hz0, hz1, hz2⟩ := info_parts infoByte
  rcases h with ⟨rfl, rfl⟩ | ⟨a, c, rfl, hc⟩
  · have hnil := fun w => Lib.run_eql_slice_nil (P := Try.prog) w 23 5 none 0 0 0 0 Try.underlying23
    go_enter Try.func19, Try.ntmps19
    go_wp2_with fail
    go_ret
    exact ⟨_, rfl, World.ownsRow_nil _ _ _ _, Below.refl _ _, Iff.rfl⟩
  · have hnil := fun w => Lib.run_eql_slice_nil (P := Try.prog) w 23 5 (some a) l.length c 0 0 Try.underlying23
    have hc2 : Hid (∀ o : Obj, ∀ j u, (u8s l)[j]? = some u → (w.alloc o).cell? (a.add j) = some u) := fun o j u hu => by
      have h1 := hc j u hu
      rw [((Below.refl w.heap.size w).alloc (Nat.le_refl _) o).cell (p := a.add j) (World.block_lt_of_cell? w _ h1)]
      exact h1
    clear hc
    go_enter Try.func19, Try.ntmps19
    go_wp2_with (at_builtin; refine wpList_append_own_at _ rfl _ _ 23 rfl w.heap.size 5 i0 (.int .u8 0) 1 1 Try.underlying23 hi hz0 hz1 hz2 rfl (by decide) _ 0 [] rfl (World.ownsRow_made w #[] 0 (Nat.le_refl _) (by unfold maxLen; omega) rfl) a l.length c (u8s l) rfl (by rw [u8s_length]; omega) (hc2.out _) (u8s_one l) (by unfold maxLen; omega) (by omega) (by simp) ?_; intro v1 w1 hown1 hg1 hnil1 _)
    go_ret
    refine ⟨v1, rfl, by simpa using hown1, ?_, ?_⟩
    · exact ((Below.refl w.heap.size w).alloc (Nat.le_refl _) _).grown hg1 (by simp) (fun k hk => by cases hk; exact Nat.le_refl _)
    · constructor
      · intro h; have := (hnil1.1 h).1; cases this
      · intro h; cases h
#print axioms clone_any
end Go.Proofs.Ytbbbdhpihcbmmaa
namespace Go.Proofs.Ytbbbdhpihcbmmaa
open Go.RowKit Own
open Go.ChangeShapes Go.WideShapes Go.ChangeAt

theorem wf_u8 {n : Int} (h : (Lit.int .u8 n).wf = true) : 0 ≤ n ∧ n < 256 := by
  simp [Lit.wf, IntKind.min, IntKind.max, IntKind.signed, IntKind.bits] at h
  omega
theorem cellsByte : Try.prog.cellsOf 5 = 1 := by kernel_rfl
theorem bytesByte : Try.prog.bytesOf 5 = 1 := by kernel_rfl
theorem toNat_ofNat {z : Int} (h : 0 ≤ z ∧ z < 256) : ((UInt8.ofNat z.toNat).toNat : Int) = z := by
  simp [UInt8.toNat_ofNat']; omega

/-- '[]byte' that came in: its bytes, its datum's length -/
theorem open_bytes1 {H : Type} {enc : TypeId × Value → H} {w : World} {base : Nat} {spare : Nat → Bool} {held : Bool} {fuel : Nat} {v : Value} {x : DataW H × List MemPlace}
    (hf : DataW.trod enc Try.prog w base spare held fuel 23 [v] = some x) :
    ∃ l, ReadsB w v l ∧ (x.1 = .nil ∧ l = [] ∨ ∃ el sp, x.1 = .slice el sp ∧ el.length = l.length) := by
  rcases open_ints Try.underlying23 Try.underlying5 cellsByte hf with ⟨hcs, rfl⟩ | ⟨a, len', cap', zs, hcs, _, hle, hmax, hall, rfl, hcell, hwf⟩
  · simp only [List.cons.injEq, and_true] at hcs
    exact ⟨[], .inl ⟨hcs, rfl⟩, .inl ⟨rfl, rfl⟩⟩
  · simp only [List.cons.injEq, and_true] at hcs
    have hzl : len' ≤ zs.length := by rw [hall]; split <;> omega
    refine ⟨(zs.take len').map fun z => UInt8.ofNat z.toNat, .inr ⟨a, cap', ?_, ?_⟩, .inr ⟨_, _, rfl, ?_⟩⟩
    · simp only [List.length_map, List.length_take, Nat.min_eq_left hzl]
      exact hcs
    · intro j u hu
      simp only [u8s, List.map_map, List.getElem?_map, Option.map_eq_some_iff] at hu
      obtain ⟨z, hz, rfl⟩ := hu
      rw [List.getElem?_take] at hz
      split at hz
      · rw [hcell j (by omega)]
        have hzm : z ∈ zs := List.mem_of_getElem? hz
        have : zs.getD j 0 = z := by simp [List.getD, hz]
        rw [this]
        simp only [Function.comp]
        rw [toNat_ofNat (wf_u8 (hwf z hzm))]
      · cases hz
    · simp [ChangeShapes.lits]
theorem open_bytes {H : Type} {enc : TypeId × Value → H} {w : World} {base : Nat} {spare : Nat → Bool} {held : Bool} {r : Reach} {b0 : Nat} {v : Value} {d : DataW H} {p : List MemPlace}
    (hv : Value.okWide Try.prog w r b0 23 v) (h : DataW.Trod enc Try.prog w base spare held 23 v d p) :
    ∃ l, ReadsB w v l ∧ (d = .nil ∧ l = [] ∨ ∃ el sp, d = .slice el sp ∧ el.length = l.length) := by
  obtain ⟨a0, len, cap, rfl⟩ := okWide_slice Try.underlying23 hv
  obtain ⟨fuel, hf⟩ := h
  exact open_bytes1 hf
theorem sized_bytes {H : Type} {d : DataW H} {l : List UInt8} (h : d = .nil ∧ l = [] ∨ ∃ el sp, d = .slice el sp ∧ el.length = l.length) (hw : ∀ y ∈ d.weights Try.prog 23, y ≤ reachBytes) : l.length ≤ 140737488351232 := by
  rcases h with ⟨_, rfl⟩ | ⟨el, sp, rfl, hel⟩
  · simp
  · have := hw ((el.length + sp.length) * Try.prog.bytesOf 5) (by simp [DataW.weights, Try.underlying23])
    rw [bytesByte] at this
    simp only [reachBytes] at this
    omega

/-- 'string(b)' -/
theorem conv_reads {w : World} {v : Value} {l : List UInt8} (h : ReadsB w v l) : (convert 23 9 v).run Try.prog w = .ok (.string ⟨l.toArray⟩) w := by
  rcases h with ⟨rfl, rfl⟩ | ⟨a, c, rfl, hc⟩
  · exact run_convert_bytes_nil w 23 5 Try.underlying23 Try.underlying5 0 0 9 Try.underlying9
  · exact run_convert_bytes_back w 23 9 5 a c l Try.underlying23 Try.underlying5 Try.underlying9 (fun j hj => hc j _ (by simp [u8s, hj]))

/-- an append whose run is known -/
theorem wpList_append_run {P : Program} {ops : Array Oper} {rest : List Oper} {o : Oper} {a : Act} {Q : Exit → Act → World → Prop} {W W' : World} {s x : Operand} {t : TypeId} {v y v' : Value}
    (hgd : o.guard = none) (ho : o.op = .call { callee := .builtin .append, args := #[s, x], argTypes := #[t, t] }) (hs : a.eval s = v) (hx : a.eval x = y)
    (hr : (Builtin.append_ #[t, t] o.type #[v, y]).run P W = .ok v' W') (h : wpList P ops Q rest (a.put o.dst v') W') : wpList P ops Q (o :: rest) a W := by
  refine wpList_plain hgd fun K' hK' => ?_
  unfold Oper.wp execOp
  simp only [ho, resolve, invoke, builtin, Sem.run_bind, Sem.run_pure, Result.andThen_ok, List.map_toArray, List.map_cons, List.map_nil, hs, hx, hr]
  exact hK' _ _ h

/-- 'append([]byte{}, b...)' -/
theorem own_copy (v : Value) (l : List UInt8) (w : World) (h : ReadsB w v l) (hl : l.length ≤ 140737488351232) :
    ∃ ov wA, (Builtin.append_ #[23, 23] 23 #[.slice (some ⟨w.heap.size, 0, none⟩) 0 0, v]).run Try.prog (w.alloc (.cells #[] 5)) = .ok ov wA ∧
      wA.ownsRow w.heap.size 5 1 ov l.length (u8s l) ∧ Below w.heap.size w wA := by
  obtain ⟨i0, hi, hz0, hz1, hz2⟩ := info_parts infoByte
  have hmade : (w.alloc (.cells #[] 5)).ownsRow w.heap.size 5 1 (.slice (some ⟨w.heap.size, 0, none⟩) 0 0) 0 [] :=
    World.ownsRow_made w #[] 0 (Nat.le_refl _) (by unfold maxLen; omega) rfl
  have hbel : Below w.heap.size w (w.alloc (.cells #[] 5)) := (Below.refl _ _).alloc (Nat.le_refl _) _
  have hsz : w.heap.size ≤ (w.alloc (.cells #[] 5)).heap.size := hbel.size
  rcases h with ⟨rfl, rfl⟩ | ⟨a, c, rfl, hc⟩
  · refine ⟨.slice (some ⟨w.heap.size, 0, none⟩) 0 0, _, ?_, hmade, hbel⟩
    simp [Builtin.append_, run_underlying Try.underlying23, Result.andThen, Builtin.lenOf, Builtin.firstCells, storeCells]
  · have hc2 : ∀ j u, (u8s l)[j]? = some u → (w.alloc (.cells #[] 5)).cell? (a.add j) = some u := fun j u hu => by
      have h1 := hc j u hu
      rw [hbel.cell (p := a.add j) (World.block_lt_of_cell? w _ h1)]
      exact h1
    obtain ⟨v1, w1, hr, hown, hg, _, _⟩ := run_append_own_at (P := Try.prog) (w.alloc (.cells #[] 5)) w.heap.size 23 23 5 i0 (.int .u8 0) 1 1 Try.underlying23 hi hz0 hz1 hz2 rfl (by decide) _ 0 [] hmade a l.length c (u8s l) (by rw [u8s_length]; omega) hc2 (u8s_one l) (by unfold maxLen; omega) (by omega) hsz
    exact ⟨v1, w1, hr, by simpa using hown, hbel.grown hg hsz (fun k hk => (hmade.lt k hk).1)⟩
end Go.Proofs.Ytbbbdhpihcbmmaa
namespace Go.Proofs.Ytbbbdhpihcbmmaa
open Go.RowKit Own
open Go.MapKept (Stamped stamped_push stamped_modify stamped_empty stamped_iff)
open Go.Maps (Keyed)

/-- Nothing has turned but (it may be) these blocks; new ones may be there. -/
structure Chg (ks : List Nat) (w w' : World) : Prop where
  os : w'.os = w.os
  tape : w'.tape = w.tape
  output : w'.output = w.output
  size : w.heap.size ≤ w'.heap.size
  block : ∀ k, k < w.heap.size → k ∉ ks → w'.heap[k]? = w.heap[k]?

theorem Chg.refl (ks : List Nat) (w : World) : Chg ks w w := ⟨rfl, rfl, rfl, Nat.le_refl _, fun _ _ _ => rfl⟩
theorem Chg.trans {ks ks' : List Nat} {a b c : World} (h : Chg ks a b) (k : Chg ks' b c) (hk : ∀ x ∈ ks', x < a.heap.size → x ∈ ks) : Chg ks a c :=
  ⟨k.os.trans h.os, k.tape.trans h.tape, k.output.trans h.output, Nat.le_trans h.size k.size, fun i hi hn => (k.block i (Nat.lt_of_lt_of_le hi h.size) (fun hx => hn (hk i hx hi))).trans (h.block i hi hn)⟩
theorem Chg.below {B : Nat} {ks : List Nat} {w w' : World} (h : Chg ks w w') (hB : B ≤ w.heap.size) (hk : ∀ k ∈ ks, B ≤ k) : Below B w w' :=
  ⟨h.os, h.tape, h.output, h.size, fun k hlt => h.block k (Nat.lt_of_lt_of_le hlt hB) (fun hx => by have := hk k hx; omega)⟩
theorem Chg.of_below {ks : List Nat} {w w' : World} (h : Below w.heap.size w w') : Chg ks w w' := ⟨h.os, h.tape, h.output, h.size, fun k hk _ => h.block k hk⟩
theorem Chg.grown {ks : List Nat} {w w' : World} {row : Option Nat} (h : w.grownBy w' row) (hk : ∀ k, row = some k → k ∈ ks) : Chg ks w w' :=
  ⟨h.os, h.tape, h.output, h.size, fun k hlt hn => h.block k hlt (fun e => hn (hk k e.symm))⟩
theorem Chg.setCell {ks : List Nat} {w : World} {a : Addr} (u : Value) (ha : a.block ∈ ks) : Chg ks w (w.setCell a u) :=
  ⟨rfl, rfl, rfl, by simp [World.setCell], fun k _ hn => Below.heap_setCell _ _ _ _ (fun e => hn (e ▸ ha))⟩
theorem Chg.drew {ks : List Nat} {w w' : World} (h : Chg ks w w') : Chg ks w w'.drew := ⟨h.os, h.tape, h.output, h.size, h.block⟩


/-- Block b is a map of at most n entries; f tells what stands at a key. -/
def MapIs (P : Program) (k : TypeId) (b n : Nat) (f : Value → Option Value) (w : World) : Prop :=
  ∃ es clock, w.heap[b]? = some (.map es clock) ∧ Stamped es clock ∧ es.size ≤ n ∧ (∀ x ∈ es.toList, ∃ l, keyOf P k x.key = some l) ∧ ∀ key v, f key = some v ↔ ∃ x ∈ es.toList, x.key = key ∧ x.val = v
def noKeys : Value → Option Value := fun _ => none
open Classical in
noncomputable def putKey (f : Value → Option Value) (key val : Value) : Value → Option Value := fun x => if x = key then some val else f x
theorem putKey_same (f : Value → Option Value) (key val : Value) : putKey f key val key = some val := by simp [putKey]
theorem putKey_other (f : Value → Option Value) {key x : Value} (val : Value) (h : x ≠ key) : putKey f key val x = f x := by simp [putKey, h]

section
variable {P : Program} {k : TypeId} {b n : Nat} {f : Value → Option Value} {w w' : World}
theorem MapIs.mono (h : MapIs P k b n f w) {m : Nat} (hm : n ≤ m) : MapIs P k b m f w := by
  obtain ⟨es, clock, h1, h2, h3, h4⟩ := h
  exact ⟨es, clock, h1, h2, Nat.le_trans h3 hm, h4⟩
theorem MapIs.lt (h : MapIs P k b n f w) : b < w.heap.size := by
  obtain ⟨es, clock, h1, _⟩ := h
  exact (Array.getElem?_eq_some_iff.1 h1).1
theorem MapIs.same (h : MapIs P k b n f w) (hs : w'.heap[b]? = w.heap[b]?) : MapIs P k b n f w' := by
  obtain ⟨es, clock, h1, h2⟩ := h
  exact ⟨es, clock, hs.trans h1, h2⟩
theorem MapIs.chg (h : MapIs P k b n f w) {ks : List Nat} (hc : Chg ks w w') (hn : b ∉ ks) : MapIs P k b n f w' := h.same (hc.block b h.lt hn)
theorem MapIs.made (w : World) : MapIs P k w.heap.size 0 noKeys (w.alloc (.map #[] 0)) :=
  ⟨#[], 0, heap_alloc_new w _, stamped_empty 0, Nat.le_refl _, by simp, by simp [noKeys]⟩
theorem MapIs.look {t e : TypeId} (h : MapIs P k b n f w) (K : Keyed P k) (ht : P.underlying t = some (.map k e)) {z : Value} (hz : (zeroValue e).run P w = .ok z w) {key : Value} {kl : Lit} (hkey : keyOf P k key = some kl) :
    (Instr.lookup t (.map (some b)) key false).run P w = .ok ((f key).getD z) w := by
  obtain ⟨es, clock, hb, hs, hn, hk, hf⟩ := h
  rcases K.find w hkey es.toList hk with ⟨h1, h2⟩ | ⟨j, e0, h1, h2, h3⟩
  · have hnone : f key = none := by
      cases hv : f key with
      | none => rfl
      | some v =>
        obtain ⟨x, hx, hxk, _⟩ := (hf key v).1 hv
        exact absurd hxk (h2 x hx)
    rw [hnone]
    simp [Instr.lookup, run_underlying ht, MapKept.run_getObj_map hb, K.check w _ hkey, h1, hz, Result.andThen]
  · have hsome : f key = some e0.val := (hf key e0.val).2 ⟨e0, List.mem_of_getElem? h2, h3, rfl⟩
    rw [hsome]
    simp [Instr.lookup, run_underlying ht, MapKept.run_getObj_map hb, K.check w _ hkey, h1, Result.andThen]
theorem chg_setBlock (b : Nat) (o : Obj) (w : World) : Chg [b] w (ChangeMaps.setBlock w b o) :=
  ⟨rfl, rfl, rfl, by simp [ChangeMaps.setBlock], fun k _ hk => by
    simp only [ChangeMaps.setBlock]
    rw [Array.getElem?_setIfInBounds]
    simp at hk
    rw [if_neg (fun e => hk e.symm)]⟩
theorem MapIs.store {t e : TypeId} (h : MapIs P k b n f w) (K : Keyed P k) (ht : P.underlying t = some (.map k e)) {key val : Value} {kl : Lit} (hkey : keyOf P k key = some kl) :
    ∃ w', (Instr.mapUpdate t (.map (some b)) key val).run P w = .ok () w' ∧ MapIs P k b (n + 1) (putKey f key val) w' ∧ Chg [b] w w' := by
  obtain ⟨es, clock, hb, hs, hn, hk, hf⟩ := h
  rcases K.find w hkey es.toList hk with ⟨h1, h2⟩ | ⟨j, e0, h1, h2, h3⟩
  · refine ⟨ChangeMaps.setBlock w b (.map (es.push ⟨key, val, clock⟩) (clock + 1)), ?_, ⟨_, _, ChangeMaps.heap_setBlock_same hb _, stamped_push hs h2, by simp; omega, ?_, ?_⟩, chg_setBlock _ _ _⟩
    · simp [Instr.mapUpdate, run_underlying ht, MapKept.run_getObj_map hb, K.check w false hkey, h1, MapKept.run_setObj_map _ hb, Result.andThen, ChangeMaps.setBlock]
    · intro x hx
      simp only [Array.toList_push, List.mem_append, List.mem_singleton] at hx
      rcases hx with hx | rfl
      · exact hk x hx
      · exact ⟨kl, hkey⟩
    · intro x v
      simp only [Array.toList_push, List.mem_append, List.mem_singleton]
      by_cases hx : x = key
      · subst hx
        rw [putKey_same]
        constructor
        · intro h; cases h; exact ⟨_, .inr rfl, rfl, rfl⟩
        · rintro ⟨y, hy | rfl, hyk, hyv⟩
          · exact absurd hyk (h2 y hy)
          · exact congrArg some hyv
      · rw [putKey_other _ _ hx, hf]
        constructor
        · rintro ⟨y, hy, r⟩; exact ⟨y, .inl hy, r⟩
        · rintro ⟨y, hy | rfl, hyk, hyv⟩
          · exact ⟨y, hy, hyk, hyv⟩
          · exact absurd hyk.symm hx
  · obtain ⟨hj, hje⟩ := List.getElem?_eq_some_iff.1 h2
    have hj' : j < es.size := by simpa using hj
    have hes : es[j]? = some e0 := by rw [← Array.getElem?_toList]; exact h2
    refine ⟨ChangeMaps.setBlock w b (.map (es.modify j fun e => { e with key, val }) clock), ?_, ⟨_, _, ChangeMaps.heap_setBlock_same hb _, stamped_modify hs j _ (fun _ _ => rfl) (fun e _ he => ?_), by simp; omega, ?_, ?_⟩, chg_setBlock _ _ _⟩
    · have hst := K.stays w hkey
      simp [Instr.mapUpdate, run_underlying ht, MapKept.run_getObj_map hb, K.check w false hkey, h1, hes, h3, hst, MapKept.run_setObj_map _ hb, Result.andThen, ChangeMaps.setBlock]
    · rw [hes] at he; cases he; exact h3.symm
    · intro x hx
      rcases MapFrom.mem_modify hx with hx | ⟨e, he, rfl⟩
      · exact hk x hx
      · exact ⟨kl, hkey⟩
    · have hpw := ((stamped_iff es clock).1 hs).2.2
      have hne : ∀ i e, es[i]? = some e → e.key = key → i = j := by
        intro i e hi hk'
        obtain ⟨hi1, hi2⟩ := List.getElem?_eq_some_iff.1 (show es.toList[i]? = some e by rw [Array.getElem?_toList]; exact hi)
        rcases Nat.lt_trichotomy i j with h | h | h
        · exact absurd ((congrArg MapEntry.key hi2).trans (hk'.trans (h3.symm.trans (congrArg MapEntry.key hje.symm)))) (List.pairwise_iff_getElem.1 hpw i j hi1 hj h)
        · exact h
        · exact absurd ((congrArg MapEntry.key hje).trans (h3.trans (hk'.symm.trans (congrArg MapEntry.key hi2.symm)))) (List.pairwise_iff_getElem.1 hpw j i hj hi1 h)
      intro x v
      by_cases hx : x = key
      · subst hx
        rw [putKey_same]
        constructor
        · intro h; cases h
          refine ⟨{ e0 with key := x, val := val }, ?_, rfl, rfl⟩
          refine List.mem_of_getElem? (i := j) ?_
          rw [Array.getElem?_toList, Array.getElem?_modify, if_pos rfl, hes]; rfl
        · rintro ⟨y, hy, hyk, hyv⟩
          obtain ⟨i, hi⟩ := List.mem_iff_getElem?.1 hy
          rw [Array.getElem?_toList, Array.getElem?_modify] at hi
          by_cases hij : j = i
          · rw [if_pos hij, ← hij, hes] at hi
            cases hi
            exact congrArg some hyv
          · rw [if_neg hij] at hi
            exact absurd (hne i y hi hyk).symm hij
      · rw [putKey_other _ _ hx, hf]
        constructor
        · rintro ⟨y, hy, hyk, hyv⟩
          obtain ⟨i, hi⟩ := List.mem_iff_getElem?.1 hy
          rw [Array.getElem?_toList] at hi
          have hij : ¬ j = i := by
            rintro rfl
            rw [hes] at hi; cases hi
            exact hx (hyk.symm.trans h3)
          refine ⟨y, List.mem_of_getElem? (i := i) ?_, hyk, hyv⟩
          rw [Array.getElem?_toList, Array.getElem?_modify, if_neg hij]; exact hi
        · rintro ⟨y, hy, hyk, hyv⟩
          obtain ⟨i, hi⟩ := List.mem_iff_getElem?.1 hy
          rw [Array.getElem?_toList, Array.getElem?_modify] at hi
          by_cases hij : j = i
          · rw [if_pos hij, ← hij, hes] at hi
            cases hi
            exact absurd hyk.symm hx
          · rw [if_neg hij] at hi
            exact ⟨y, List.mem_of_getElem? (i := i) (by rw [Array.getElem?_toList]; exact hi), hyk, hyv⟩
theorem run_clear_map {t e ty : TypeId} (h : MapIs P k b n f w) (ht : P.underlying t = some (.map k e)) :
    ∃ w', (Builtin.clear_ #[t] ty #[.map (some b)]).run P w = .ok (.tuple #[]) w' ∧ MapIs P k b 0 noKeys w' ∧ Chg [b] w w' := by
  obtain ⟨es, clock, hb, hs, hn, hk, hf⟩ := h
  refine ⟨ChangeMaps.setBlock w b (.map #[] clock), ?_, ⟨#[], clock, ChangeMaps.heap_setBlock_same hb _, stamped_empty _, Nat.le_refl _, by simp, by simp [noKeys]⟩, chg_setBlock _ _ _⟩
  simp [Builtin.clear_, run_underlying ht, MapKept.run_getObj_map hb, MapKept.run_setObj_map _ hb, Result.andThen, ChangeMaps.setBlock]
end
end Go.Proofs.Ytbbbdhpihcbmmaa
namespace Go.Proofs.Ytbbbdhpihcbmmaa
open Go.RowKit Own
open Go.MapKept (Stamped stamped_push stamped_modify stamped_empty stamped_iff)
open Go.Maps (Keyed)
section
variable {P : Program} {k : TypeId} {b n : Nat} {f : Value → Option Value} {w w' : World}
/-- the same of entries -/
def EntIs (P : Program) (k : TypeId) (n : Nat) (f : Value → Option Value) (es : Array MapEntry) (clock : Nat) : Prop :=
  Stamped es clock ∧ es.size ≤ n ∧ (∀ x ∈ es.toList, ∃ l, keyOf P k x.key = some l) ∧ ∀ key v, f key = some v ↔ ∃ x ∈ es.toList, x.key = key ∧ x.val = v
theorem EntIs.push {es : Array MapEntry} {clock : Nat} (h : EntIs P k n f es clock) {key val : Value} {kl : Lit} (hkey : keyOf P k key = some kl) (h2 : ∀ e ∈ es.toList, e.key ≠ key) : EntIs P k (n + 1) (putKey f key val) (es.push ⟨key, val, clock⟩) (clock + 1) := by
  obtain ⟨hs, hn, hk, hf⟩ := h
  refine ⟨stamped_push hs h2, by simp; omega, ?_, ?_⟩
  · intro x hx
    simp only [Array.toList_push, List.mem_append, List.mem_singleton] at hx
    rcases hx with hx | rfl
    · exact hk x hx
    · exact ⟨kl, hkey⟩
  · intro x v
    simp only [Array.toList_push, List.mem_append, List.mem_singleton]
    by_cases hx : x = key
    · subst hx
      rw [putKey_same]
      constructor
      · intro h; cases h; exact ⟨_, .inr rfl, rfl, rfl⟩
      · rintro ⟨y, hy | rfl, hyk, hyv⟩
        · exact absurd hyk (h2 y hy)
        · exact congrArg some hyv
    · rw [putKey_other _ _ hx, hf]
      constructor
      · rintro ⟨y, hy, r⟩; exact ⟨y, .inl hy, r⟩
      · rintro ⟨y, hy | rfl, hyk, hyv⟩
        · exact ⟨y, hy, hyk, hyv⟩
        · exact absurd hyk.symm hx
theorem EntIs.modify {es : Array MapEntry} {clock j : Nat} (h : EntIs P k n f es clock) {key val : Value} {kl : Lit} {e0 : MapEntry} (hkey : keyOf P k key = some kl) (hes : es[j]? = some e0) (h3 : e0.key = key) (F : MapEntry → MapEntry)
    (hF : F e0 = { e0 with key := key, val := val }) (hB : ∀ e, (F e).born = e.born) : EntIs P k n (putKey f key val) (es.modify j F) clock := by
  obtain ⟨hs, hn, hk, hf⟩ := h
  have h2 : es.toList[j]? = some e0 := by rw [Array.getElem?_toList]; exact hes
  obtain ⟨hj, hje⟩ := List.getElem?_eq_some_iff.1 h2
  refine ⟨stamped_modify hs j _ (fun e _ => hB e) (fun e _ he => ?_), by simp; omega, ?_, ?_⟩
  · rw [hes] at he; cases he; rw [hF]; exact h3.symm
  · intro x hx
    rcases MapFrom.mem_modify hx with hx | ⟨e, he, rfl⟩
    · exact hk x hx
    · rw [hes] at he; cases he; rw [hF]; exact ⟨kl, hkey⟩
  · have hpw := ((stamped_iff es clock).1 hs).2.2
    have hne : ∀ i e, es[i]? = some e → e.key = key → i = j := by
      intro i e hi hk'
      obtain ⟨hi1, hi2⟩ := List.getElem?_eq_some_iff.1 (show es.toList[i]? = some e by rw [Array.getElem?_toList]; exact hi)
      rcases Nat.lt_trichotomy i j with h | h | h
      · exact absurd ((congrArg MapEntry.key hi2).trans (hk'.trans (h3.symm.trans (congrArg MapEntry.key hje.symm)))) (List.pairwise_iff_getElem.1 hpw i j hi1 hj h)
      · exact h
      · exact absurd ((congrArg MapEntry.key hje).trans (h3.trans (hk'.symm.trans (congrArg MapEntry.key hi2.symm)))) (List.pairwise_iff_getElem.1 hpw j i hj hi1 h)
    intro x v
    by_cases hx : x = key
    · subst hx
      rw [putKey_same]
      constructor
      · intro h; cases h
        refine ⟨F e0, ?_, by rw [hF], by rw [hF]⟩
        refine List.mem_of_getElem? (i := j) ?_
        rw [Array.getElem?_toList, Array.getElem?_modify, if_pos rfl, hes]; rfl
      · rintro ⟨y, hy, hyk, hyv⟩
        obtain ⟨i, hi⟩ := List.mem_iff_getElem?.1 hy
        rw [Array.getElem?_toList, Array.getElem?_modify] at hi
        by_cases hij : j = i
        · rw [if_pos hij, ← hij, hes] at hi
          cases hi
          rw [hF] at hyv; exact congrArg some hyv
        · rw [if_neg hij] at hi
          exact absurd (hne i y hi hyk).symm hij
    · rw [putKey_other _ _ hx, hf]
      constructor
      · rintro ⟨y, hy, hyk, hyv⟩
        obtain ⟨i, hi⟩ := List.mem_iff_getElem?.1 hy
        rw [Array.getElem?_toList] at hi
        have hij : ¬ j = i := by
          rintro rfl
          rw [hes] at hi; cases hi
          exact hx (hyk.symm.trans h3)
        refine ⟨y, List.mem_of_getElem? (i := i) ?_, hyk, hyv⟩
        rw [Array.getElem?_toList, Array.getElem?_modify, if_neg hij]; exact hi
      · rintro ⟨y, hy, hyk, hyv⟩
        obtain ⟨i, hi⟩ := List.mem_iff_getElem?.1 hy
        rw [Array.getElem?_toList, Array.getElem?_modify] at hi
        by_cases hij : j = i
        · rw [if_pos hij, ← hij, hes] at hi
          cases hi
          rw [hF] at hyk; exact absurd hyk.symm hx
        · rw [if_neg hij] at hi
          exact ⟨y, List.mem_of_getElem? (i := i) (by rw [Array.getElem?_toList]; exact hi), hyk, hyv⟩
theorem MapIs.ents (h : MapIs P k b n f w) : ∃ es clock, w.heap[b]? = some (.map es clock) ∧ EntIs P k n f es clock := h
theorem putKey_twice (f : Value → Option Value) (key a c : Value) : putKey (putKey f key a) key c = putKey f key c := by
  funext x
  unfold putKey
  split <;> rfl
theorem find_born {es : Array MapEntry} {clock j : Nat} {e0 : MapEntry} (hs : Stamped es clock) (he : es[j]? = some e0) : es.findIdx? (fun e => (e.born : Int) == (e0.born : Int)) = some j := by
  have hnd := ((stamped_iff es clock).1 hs).2.1
  obtain ⟨hj, hje⟩ := Array.getElem?_eq_some_iff.1 he
  rw [Array.findIdx?_eq_some_iff_getElem]
  refine ⟨hj, by rw [hje]; simp, fun i hij hb => ?_⟩
  have hb' : (es[i]'(by omega)).born = e0.born := by
    have := eq_of_beq hb
    omega
  have h1 := List.pairwise_iff_getElem.1 hnd i j (by simp; omega) (by simp; omega) hij
  simp only [List.getElem_map, Array.getElem_toList] at h1
  exact h1 (hb'.trans (by rw [hje]))
theorem run_entryStore {es : Array MapEntry} {clock j : Nat} {e0 : MapEntry} {t : TypeId} (hb : w.heap[b]? = some (.map es clock)) (hs : Stamped es clock) (hat : es[j]? = some e0) (val : Value) :
    (Instr.entryStore t (.map (some b)) (.int .i64 e0.born) val).run P w = .ok () (ChangeMaps.setBlock w b (.map (es.modify j fun e => { e with val := val }) clock)) := by
  have hfb := find_born hs hat
  simp [Instr.entryStore, MapKept.run_getObj_map hb, asInt, asIntOf, hfb, MapKept.run_setObj_map _ hb, Result.andThen, ChangeMaps.setBlock]
/-- 'm[k] op= v': the entry is laid, then stored -/
theorem MapIs.entry {t e : TypeId} (h : MapIs P k b n f w) (K : Keyed P k) (ht : P.underlying t = some (.map k e)) {z : Value} (hz : ∀ w, (zeroValue e).run P w = .ok z w) {key : Value} {kl : Lit} (hkey : keyOf P k key = some kl) (val : Value) :
    ∃ stamp w1 w2, (Instr.mapEntry t (.map (some b)) key).run P w = .ok (.tuple #[(f key).getD z, stamp]) w1 ∧ MapIs P k b (n + 1) (putKey f key ((f key).getD z)) w1 ∧
      (Instr.entryStore t (.map (some b)) stamp val).run P w1 = .ok () w2 ∧ MapIs P k b (n + 1) (putKey f key val) w2 ∧ Chg [b] w w1 ∧ Chg [b] w w2 := by
  obtain ⟨es, clock, hb, hE⟩ := h.ents
  have hf := hE.2.2.2
  rcases K.find w hkey es.toList hE.2.2.1 with ⟨h1, h2⟩ | ⟨j, e0, h1, h2, h3⟩
  · have hnone : f key = none := by
      cases hv : f key with
      | none => rfl
      | some v =>
        obtain ⟨x, hx, hxk, _⟩ := (hf key v).1 hv
        exact absurd hxk (h2 x hx)
    rw [hnone]
    have hE1 := hE.push (val := z) hkey h2
    have hb1 : (ChangeMaps.setBlock w b (.map (es.push ⟨key, z, clock⟩) (clock + 1))).heap[b]? = _ := ChangeMaps.heap_setBlock_same hb _
    have hat : (es.push (⟨key, z, clock⟩ : MapEntry))[es.size]? = some ⟨key, z, clock⟩ := by simp
    have hE2 := hE1.modify (val := val) hkey hat rfl (fun e => { e with val := val }) rfl (fun _ => rfl)
    rw [putKey_twice] at hE2
    refine ⟨.int .i64 clock, _, ChangeMaps.setBlock (ChangeMaps.setBlock w b (.map (es.push ⟨key, z, clock⟩) (clock + 1))) b (.map ((es.push ⟨key, z, clock⟩).modify es.size fun e => { e with val := val }) (clock + 1)), ?_, ⟨_, _, hb1, hE1⟩, ?_, ⟨_, _, ChangeMaps.heap_setBlock_same hb1 _, hE2⟩, chg_setBlock _ _ _, (chg_setBlock _ _ _).trans (chg_setBlock _ _ _) (fun x hx _ => hx)⟩
    · simp [Instr.mapEntry, run_underlying ht, MapKept.run_getObj_map hb, K.check w false hkey, h1, hz, MapKept.run_setObj_map _ hb, Result.andThen, ChangeMaps.setBlock, goInt]
    · exact run_entryStore hb1 hE1.1 hat val
  · have hes : es[j]? = some e0 := by rw [← Array.getElem?_toList]; exact h2
    have hsome : f key = some e0.val := (hf key e0.val).2 ⟨e0, List.mem_of_getElem? h2, h3, rfl⟩
    rw [hsome]
    have hst := K.stays w hkey
    have hE1 := hE.modify (val := e0.val) hkey hes h3 (fun e => { e with key := key }) rfl (fun _ => rfl)
    have hb1 : (ChangeMaps.setBlock w b (.map (es.modify j fun e => { e with key := key }) clock)).heap[b]? = _ := ChangeMaps.heap_setBlock_same hb _
    have hat : (es.modify j fun e => { e with key := key })[j]? = some { e0 with key := key } := by rw [Array.getElem?_modify, if_pos rfl, hes]; rfl
    have hE2 := hE1.modify (val := val) hkey hat rfl (fun e => { e with val := val }) rfl (fun _ => rfl)
    rw [putKey_twice] at hE2
    refine ⟨.int .i64 e0.born, _, ChangeMaps.setBlock (ChangeMaps.setBlock w b (.map (es.modify j fun e => { e with key := key }) clock)) b (.map ((es.modify j fun e => { e with key := key }).modify j fun e => { e with val := val }) clock), ?_, MapIs.mono ⟨_, _, hb1, hE1⟩ (Nat.le_succ n), ?_, MapIs.mono ⟨_, _, ChangeMaps.heap_setBlock_same hb1 _, hE2⟩ (Nat.le_succ n), chg_setBlock _ _ _, (chg_setBlock _ _ _).trans (chg_setBlock _ _ _) (fun x hx _ => hx)⟩
    · simp [Instr.mapEntry, run_underlying ht, MapKept.run_getObj_map hb, K.check w false hkey, h1, hes, h3, hst, MapKept.run_setObj_map _ hb, Result.andThen, ChangeMaps.setBlock, goInt]
    · exact run_entryStore hb1 hE1.1 hat val
end
end Go.Proofs.Ytbbbdhpihcbmmaa
namespace Go.Proofs.Ytbbbdhpihcbmmaa
open Go.RowKit Own

/-- no byte lies in a block -/
def NoU8 (cs : Array Value) : Prop := ∀ (i : Nat) (y : Int), cs[i]? ≠ some (.int .u8 y)
theorem NoU8.set {cs : Array Value} (h : NoU8 cs) (j : Nat) {u : Value} (hu : ∀ y, u ≠ .int .u8 y) : NoU8 (cs.setIfInBounds j u) := fun i y he => by
  rw [Array.getElem?_setIfInBounds] at he
  split at he
  · split at he
    · exact hu y (by simpa using he)
    · cases he
  · exact h i y he
theorem nou8_far {w : World} {g : Nat} {cs : Array Value} {t : TypeId} {fr : Nat × Nat} (h : w.heap[g]? = some (.cells cs t fr)) (hu : NoU8 cs) {ad : Addr} {y : Int} (hc : w.cell? ad = some (.int .u8 y)) : ad.block ≠ g := by
  obtain ⟨b, o, sp⟩ := ad
  have hsp : sp = none := by simpa using World.cell?_spot hc
  subst hsp
  intro e
  simp only [] at e
  subst e
  rw [cell_of_row _ _ o _ _ _ h] at hc
  exact hu o y hc
end Go.Proofs.Ytbbbdhpihcbmmaa
namespace Go.Proofs.Ytbbbdhpihcbmmaa
open Go.RowKit Own

theorem nou8_zero {z : Array Value} (hz : ∀ (i : Nat) (y : Int), z[i]? ≠ some (.int .u8 y)) (n : Nat) : ∀ y, Value.int .u8 y ∉ (Builtin.zeroCells z n).toList := by
  intro y h
  simp only [Builtin.zeroCells, Array.toList_map, List.mem_map, Array.mem_toList_iff, Array.mem_range] at h
  obtain ⟨i, hi, he⟩ := h
  have h0 : 0 < z.size := by
    rcases Nat.eq_zero_or_pos z.size with h0 | h0
    · rw [h0] at hi; omega
    · exact h0
  have hlt : i % z.size < z.size := Nat.mod_lt _ h0
  rw [getElem!_pos z (i % z.size) hlt] at he
  exact hz (i % z.size) y (by rw [Array.getElem?_eq_getElem hlt, he])
theorem nou8_of {cs : Array Value} (h : ∀ y, Value.int .u8 y ∉ cs.toList) : ∀ (i : Nat) (y : Int), cs[i]? ≠ some (.int .u8 y) := fun i y he => by
  have := List.mem_of_getElem? (show cs.toList[i]? = some (.int .u8 y) by rw [Array.getElem?_toList]; exact he)
  exact h y this
theorem nou8_to {cs : Array Value} (h : ∀ (i : Nat) (y : Int), cs[i]? ≠ some (.int .u8 y)) : ∀ y, Value.int .u8 y ∉ cs.toList := fun y hm => by
  obtain ⟨i, hi⟩ := List.mem_iff_getElem?.1 hm
  exact h i y (by rw [← Array.getElem?_toList]; exact hi)
section
variable {P : Program} (w : World)
theorem run_append_own_u8 (base : Nat) (t ty e : TypeId) (i : TypeInfo) (z : Value) (size bytes : Nat) (ht : P.underlying t = some (.slice e)) (hi : P.info? e = some i) (hz : i.zero = some z)
    (hsize : i.size = size) (hby : i.bytes = bytes) (hzs : z.cells.size = size) (hsz : 0 < size)
    (v : Value) (n : Nat) (xs : List Value) (hown : w.ownsRow base e size v n xs)
    (a : Addr) (m c : Nat) (news : List Value) (hl : news.length = m * size) (hnews : ∀ j u, news[j]? = some u → w.cell? (a.add j) = some u) (h1 : ∀ u ∈ news, u.oneCell' = true)
    (h63 : n + m ≤ maxLen) (hbytes : (n + m) * bytes ≤ 140737488355328) (hbase : base ≤ w.heap.size) (hm : 0 < m)
    (hz8 : ∀ (j : Nat) (y : Int), z.cells[j]? ≠ some (.int .u8 y)) (hn8 : ∀ y, Value.int .u8 y ∉ news)
    (hu : ∀ g cur, v.ownBlock = some g → w.heap[g]? = some (.cells cur e (0, 0)) → ∀ (j : Nat) (y : Int), cur[j]? ≠ some (.int .u8 y)) :
    ∃ v' w', (Builtin.append_ #[t, t] ty #[v, .slice (some a) m c]).run P w = .ok v' w' ∧ w'.ownsRow base e size v' (n + m) (xs ++ news) ∧ w.grownBy w' v.ownBlock ∧ (v'.ownBlock = v.ownBlock ∨ v'.ownBlock = some w.heap.size) ∧
      (∀ g cur, v'.ownBlock = some g → w'.heap[g]? = some (.cells cur e (0, 0)) → ∀ (j : Nat) (y : Int), cur[j]? ≠ some (.int .u8 y)) := by
  subst hsize
  subst hby
  have hsmall : n + m ≤ 9223372036854775807 := by simp only [maxLen] at h63; omega
  obtain ⟨v', w', hr, h2, h3, _, h5⟩ := run_append_own_at (P := P) w base t ty e i z i.size i.bytes ht hi hz rfl rfl hzs hsz v n xs hown a m c news hl hnews h1 h63 hbytes hbase
  refine ⟨v', w', hr, h2, h3, h5, ?_⟩
  have hz9 := fun k => nou8_zero hz8 k
  rcases hown.2 with ⟨rfl, rfl⟩ | ⟨g, cap, cur, rfl, hbg, hg, hnc, hcm, hcs, htake⟩
  · have hr2 := run_append_nil (P := P) w t ty e i z ht hi hz a m c news hl hnews (by omega) (by omega) (by have hb := hbytes; simp only [Nat.zero_add] at hb; omega)
    rw [hr] at hr2
    cases hr2
    intro g cur hgb hg
    cases hgb
    rw [show (w.drew.alloc (.cells (news.toArray ++ Builtin.zeroCells z.cells (grownCap w m 0 e - m)) e)).heap[w.heap.size]? = _ from heap_alloc_new w.drew _] at hg
    cases hg
    refine nou8_of fun y hy => ?_
    rw [Array.toList_append, List.mem_append] at hy
    rcases hy with hy | hy
    · exact hn8 y hy
    · exact hz9 _ y hy
  · by_cases hroom : n + m ≤ cap
    · have hfit : n * i.size + news.length ≤ cur.size := by rw [hl, hcs, ← Nat.add_mul]; exact Nat.mul_le_mul_right _ hroom
      have hr2 := run_append_room (P := P) w t ty e i ht hi g n cap cur hg a m c news hl hnews h1 hroom hfit
      rw [hr] at hr2
      cases hr2
      intro g' cur' hgb hg'
      cases hgb
      rw [setRow_heap w g cur _ e _ hg] at hg'
      cases hg'
      have h0 := nou8_to (hu g cur rfl hg)
      refine nou8_of fun y hy => ?_
      simp only [List.mem_append] at hy
      rcases hy with (hy | hy) | hy
      · exact h0 y (List.mem_of_mem_take hy)
      · exact hn8 y hy
      · exact h0 y (List.mem_of_mem_drop hy)
    · have holds : ∀ j u, xs[j]? = some u → w.cell? ((⟨g, 0, none⟩ : Addr).add j) = some u := hown.cells (g := g) rfl
      have hr2 := run_append_grow (P := P) w t ty e i z ht hi hz ⟨g, 0, none⟩ n cap xs hown.1 holds a m c news hl hnews (by omega) (by omega) (growslice_fits (by omega) hbytes)
      rw [hr] at hr2
      cases hr2
      intro g' cur' hgb hg'
      cases hgb
      rw [show (w.drew.alloc (.cells (xs.toArray ++ news.toArray ++ Builtin.zeroCells z.cells (grownCap w (n + m) cap e - (n + m))) e)).heap[w.heap.size]? = _ from heap_alloc_new w.drew _] at hg'
      cases hg'
      have h0 := nou8_to (hu g cur rfl hg)
      refine nou8_of fun y hy => ?_
      rw [Array.toList_append, Array.toList_append, List.mem_append, List.mem_append] at hy
      rcases hy with (hy | hy) | hy
      · rw [← htake] at hy; exact h0 y (List.mem_of_mem_take hy)
      · exact hn8 y hy
      · exact hz9 _ y hy
end
end Go.Proofs.Ytbbbdhpihcbmmaa
namespace Go.Proofs.Ytbbbdhpihcbmmaa
open Go.RowKit Own
open Go.MapKept (Stamped stamped_iff)
open Go.ChangeMaps (setBlock)

/-- an iterator over a map that stands still -/
structure RI (it mb : Nat) (es : Array MapEntry) (clock : Nat) (seen : Array Nat) (w : World) : Prop where
  it : ∃ c0, clock ≤ c0 ∧ w.heap[it]? = some (.mapIter (some mb) clock seen c0)
  map : w.heap[mb]? = some (.map es clock)
  st : Stamped es clock
theorem RI.same {it mb clock : Nat} {es : Array MapEntry} {seen : Array Nat} {w w' : World} (h : RI it mb es clock seen w) (h1 : w'.heap[it]? = w.heap[it]?) (h2 : w'.heap[mb]? = w.heap[mb]?) : RI it mb es clock seen w' := by
  obtain ⟨c0, hc, hi⟩ := h.it
  exact ⟨⟨c0, hc, h1.trans hi⟩, h2.trans h.map, h.st⟩
theorem RI.lt {it mb clock : Nat} {es : Array MapEntry} {seen : Array Nat} {w : World} (h : RI it mb es clock seen w) : it < w.heap.size ∧ mb < w.heap.size := by
  obtain ⟨c0, hc, hi⟩ := h.it
  exact ⟨(Array.getElem?_eq_some_iff.1 hi).1, (Array.getElem?_eq_some_iff.1 h.map).1⟩
theorem RI.go {it mb clock : Nat} {es : Array MapEntry} {seen : Array Nat} {w w' : World} (h : RI it mb es clock seen w) (hb : Below w.heap.size w w') : RI it mb es clock seen w' := h.same (hb.block _ h.lt.1) (hb.block _ h.lt.2)
theorem RI.start {mb clock : Nat} {es : Array MapEntry} {w : World} (hm : w.heap[mb]? = some (.map es clock)) (hs : Stamped es clock) : RI w.heap.size mb es clock #[] (w.alloc (.mapIter (some mb) clock #[] clock)) :=
  ⟨⟨clock, Nat.le_refl _, heap_alloc_new w _⟩, (((Below.refl _ _).alloc (Nat.le_refl _) _).block mb (Array.getElem?_eq_some_iff.1 hm).1).trans hm, hs⟩

theorem filter_le {α : Type} (p q : α → Bool) (h : ∀ x, q x = true → p x = true) : ∀ l : List α, (l.filter q).length ≤ (l.filter p).length
  | [] => Nat.le_refl _
  | a :: r => by
    have ih := filter_le p q h r
    by_cases hq : q a = true
    · simp [hq, h a hq]; exact ih
    · by_cases hp : p a = true
      · simp [hq, hp]; omega
      · simp [hq, hp]; exact ih
theorem filter_lt {α : Type} (p q : α → Bool) (h : ∀ x, q x = true → p x = true) (e : α) (hp : p e = true) (hq : q e = false) : ∀ l : List α, e ∈ l → (l.filter q).length < (l.filter p).length
  | [], he => by cases he
  | a :: r, he => by
    have hle := filter_le p q h r
    rcases List.mem_cons.1 he with rfl | he
    · simp [hq, hp]; omega
    · have ih := filter_lt p q h e hp hq r he
      by_cases hqa : q a = true
      · simp [hqa, h a hqa]; exact ih
      · by_cases hpa : p a = true
        · simp [hqa, hpa]; omega
        · simp [hqa, hpa]; exact ih
theorem left_push (es : Array MapEntry) (seen : Array Nat) (e : MapEntry) (he : e ∈ (leftOf es seen).toList) : (leftOf es (seen.push e.born)).size < (leftOf es seen).size := by
  have he2 : e ∈ es.toList ∧ (!seen.contains e.born) = true := by
    unfold leftOf at he
    rw [Array.toList_filter] at he
    exact List.mem_filter.1 he
  have key := filter_lt (fun x : MapEntry => !seen.contains x.born) (fun x => !(seen.push e.born).contains x.born) (fun x hx => by
    simp at hx ⊢
    exact hx.1) e he2.2 (by simp) es.toList he2.1
  have h1 : ∀ s : Array Nat, (leftOf es s).size = (es.toList.filter (fun x : MapEntry => !s.contains x.born)).length := fun s => by
    unfold leftOf
    rw [← Array.toList_filter, Array.length_toList]
  rw [h1, h1]
  exact key

/-- one step of the range -/
theorem RI.next {P : Program} {it mb clock : Nat} {es : Array MapEntry} {seen : Array Nat} {w : World} (h : RI it mb es clock seen w) (hne : it ≠ mb) :
    ((leftOf es seen).size = 0 ∧ ∀ ty, (Instr.next (.pointer (some ⟨it, 0, none⟩)) false ty).run P w = .ok (.tuple #[.bool false]) w) ∨
    ∃ e ∈ (leftOf es seen).toList, ∃ w2 : World, (∀ ty, (Instr.next (.pointer (some ⟨it, 0, none⟩)) false ty).run P w = .ok (.tuple #[.bool true, e.key, e.val]) w2) ∧ RI it mb es clock (seen.push e.born) w2 ∧ Chg [it] w w2 ∧
      (Instr.entry (.pointer (some ⟨it, 0, none⟩))).run P w2 = .ok (.tuple #[e.key, e.val]) w2 ∧ e ∈ es.toList := by
  obtain ⟨c0, hc, hi⟩ := h.it
  have hs := (stamped_iff es clock).1 h.st
  -- the type is only handed on: the step is the same for each
  have law := fun ty => run_next_at (P := P) w ty it mb clock c0 seen es clock hi h.map hs.1 hc
  have hty : ∀ ty, (Instr.next (.pointer (some ⟨it, 0, none⟩)) false ty).run P w = (Instr.next (.pointer (some ⟨it, 0, none⟩)) false 0).run P w := fun _ => rfl
  rcases law 0 with ⟨h0, hr⟩ | ⟨e, he, w1, hal, hr⟩
  · exact .inl ⟨h0, fun ty => (hty ty).trans hr⟩
  · right
    have hmem : e ∈ es.toList := by
      unfold leftOf at he
      rw [Array.toList_filter] at he
      exact (List.mem_filter.1 he).1
    have hb1 : Chg [it] w w1 := by
      rcases hal with rfl | rfl
      · exact Chg.refl _ _
      · exact (Chg.refl _ _).drew
    have hi1 : w1.heap[it]? = some (.mapIter (some mb) clock seen c0) := by rcases hal with rfl | rfl <;> exact hi
    have hm1 : w1.heap[mb]? = some (.map es clock) := by rcases hal with rfl | rfl <;> exact h.map
    have hi2 : (setBlock w1 it (.mapIter (some mb) clock (seen.push e.born) clock)).heap[it]? = some (.mapIter (some mb) clock (seen.push e.born) clock) := by
      simp [setBlock, (Array.getElem?_eq_some_iff.1 hi1).1]
    have hc2 := chg_setBlock it (.mapIter (some mb) clock (seen.push e.born) clock) w1
    have hm2 : (setBlock w1 it (.mapIter (some mb) clock (seen.push e.born) clock)).heap[mb]? = some (.map es clock) := (hc2.block mb (Array.getElem?_eq_some_iff.1 hm1).1 (by simpa using fun e => hne e.symm)).trans hm1
    exact ⟨e, he, _, fun ty => (hty ty).trans hr, ⟨⟨clock, Nat.le_refl _, hi2⟩, hm2, h.st⟩, hb1.trans hc2 (fun x hx _ => hx), run_entry_at _ it mb clock seen es clock e hi2 hm2 hmem hs.2.1, hmem⟩
/-- how many rounds are left -/
noncomputable def itLeft (it mb : Nat) (w : World) : Nat := match w.heap[it]?, w.heap[mb]? with
  | some (.mapIter _ _ seen _), some (.map es _) => (leftOf es seen).size
  | _, _ => 0
theorem RI.left {it mb clock : Nat} {es : Array MapEntry} {seen : Array Nat} {w : World} (h : RI it mb es clock seen w) : itLeft it mb w = (leftOf es seen).size := by
  obtain ⟨c0, hc, hi⟩ := h.it
  unfold itLeft
  rw [hi, h.map]
end Go.Proofs.Ytbbbdhpihcbmmaa
