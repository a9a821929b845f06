/- Bytes in memory: a slice of bytes that reads as a list; slices.Clone at bytes. -/
import Derived.Test.YtbbbdhpihcbmmaaRows
import Derived.Test.YtbbbdhpihcbmmaaOwn
import Derived.WalkKit
import Derived.WalkSpells
import Derived.Lib.Hide
namespace Go.Proofs.Ytbbbdhpihcbmmaa
open Go.RowKit

/-- bytes as cells -/
def u8s (l : List UInt8) : List Value := l.map fun b => .int .u8 (b.toNat : Int)
theorem u8s_length (l : List UInt8) : (u8s l).length = l.length := by simp [u8s]
theorem u8s_one (l : List UInt8) : ∀ u ∈ u8s l, u.oneCell' = true := fun u hu => by
  obtain ⟨b, _, rfl⟩ := List.mem_map.1 hu
  rfl

/-- a slice of bytes that reads as a list -/
def ReadsB (w : World) (v : Value) (l : List UInt8) : Prop :=
  (v = .slice none 0 0 ∧ l = []) ∨ ∃ a c, v = .slice (some a) l.length c ∧ ∀ j u, (u8s l)[j]? = some u → w.cell? (a.add j) = some u
theorem ReadsB.below {w w1 : World} {v : Value} {l : List UInt8} (h : ReadsB w v l) (hb : Below w.heap.size w w1) : ReadsB w1 v l := by
  rcases h with h | ⟨a, c, hv, hc⟩
  · exact .inl h
  · refine .inr ⟨a, c, hv, fun j u hu => ?_⟩
    have := hc j u hu
    rw [hb.cell (p := a.add j) (World.block_lt_of_cell? w _ this)]
    exact this
theorem ReadsB.slice {w : World} {v : Value} {l : List UInt8} (h : ReadsB w v l) : ∃ A c, v = .slice A l.length c := by
  rcases h with ⟨rfl, rfl⟩ | ⟨a, c, rfl, _⟩
  · exact ⟨none, 0, rfl⟩
  · exact ⟨some a, c, rfl⟩
theorem ReadsB.own {w : World} {base : Nat} {e : TypeId} {v : Value} {l : List UInt8} (h : w.ownsRow base e 1 v l.length (u8s l)) : ReadsB w v l := by
  rcases h.2 with ⟨rfl, h0⟩ | ⟨g, cap, cur, rfl, _⟩
  · exact .inl ⟨rfl, List.eq_nil_of_length_eq_zero h0⟩
  · exact .inr ⟨⟨g, 0, none⟩, cap, rfl, fun j u hu => h.cells (g := g) rfl j u hu⟩

theorem ReadsB.at_ {w : World} {v : Value} {l : List UInt8} (h : ReadsB w v l) (hl : 0 < l.length) :
    ∃ b off c, v = .slice (some ⟨b, off, none⟩) l.length c ∧ ∀ j (hj : j < l.length), w.cell? ⟨b, off + j, none⟩ = some (.int .u8 ((l[j]'hj).toNat : Int)) := by
  rcases h with ⟨_, rfl⟩ | ⟨a, c, rfl, hc⟩
  · cases hl
  · obtain ⟨b, off, spot⟩ := a
    have h0 := hc 0 (.int .u8 ((l[0]'hl).toNat : Int)) (by simp [u8s, hl])
    have hspot : spot = none := by simpa [Addr.add] using World.cell?_spot h0
    subst hspot
    exact ⟨b, off, c, rfl, fun j hj => by rw [← Go.WideShapes.add_plain]; exact hc j _ (by simp [u8s, hj])⟩

theorem infoByte : (Try.prog.info? 5).map (fun i => (i.zero, i.size, i.bytes)) = some (some (.int .u8 0), 1, 1) := by kernel_rfl

/-- what slices.Clone answers of bytes: nil of nil; else new memory -/
def ClonePost (v : Value) (l : List UInt8) (w : World) (e : Ending) (w' : World) : Prop :=
  ∃ v', e = .returned v' ∧ w'.ownsRow w.heap.size 5 1 v' l.length (u8s l) ∧ Below w.heap.size w w' ∧ (v' = .slice none 0 0 ↔ v = .slice none 0 0)

theorem clone_any (v : Value) (l : List UInt8) (w : World) (h : ReadsB w v l) (hl : l.length ≤ 140737488351232) :
    Calls Try.prog 19 #[v] w (ClonePost v l w) := by
  obtain ⟨i0, hi, hz0, hz1, hz2⟩ := info_parts infoByte
  rcases h with ⟨rfl, rfl⟩ | ⟨a, c, rfl, hc⟩
  · have hnil := fun w => Lib.run_eql_slice_nil (P := Try.prog) w 23 5 none 0 0 0 0 Try.underlying23
    go_enter Try.func19, Try.ntmps19
    go_wp2_with fail
    go_ret
    exact ⟨_, rfl, World.ownsRow_nil _ _ _ _, Below.refl _ _, Iff.rfl⟩
  · have hnil := fun w => Lib.run_eql_slice_nil (P := Try.prog) w 23 5 (some a) l.length c 0 0 Try.underlying23
    have hc2 : Hid (∀ o : Obj, ∀ j u, (u8s l)[j]? = some u → (w.alloc o).cell? (a.add j) = some u) := fun o j u hu => by
      have h1 := hc j u hu
      rw [((Below.refl w.heap.size w).alloc (Nat.le_refl _) o).cell (p := a.add j) (World.block_lt_of_cell? w _ h1)]
      exact h1
    clear hc
    go_enter Try.func19, Try.ntmps19
    go_wp2_with (at_builtin; refine wpList_append_own_at _ rfl _ _ 23 rfl w.heap.size 5 i0 (.int .u8 0) 1 1 Try.underlying23 hi hz0 hz1 hz2 rfl (by decide) _ 0 [] rfl (World.ownsRow_made w #[] 0 (Nat.le_refl _) (by unfold maxLen; omega) rfl) a l.length c (u8s l) rfl (by rw [u8s_length]; omega) (hc2.out _) (u8s_one l) (by unfold maxLen; omega) (by omega) (by simp) ?_; intro v1 w1 hown1 hg1 hnil1 _)
    go_ret
    refine ⟨v1, rfl, by simpa using hown1, ?_, ?_⟩
    · exact ((Below.refl w.heap.size w).alloc (Nat.le_refl _) _).grown hg1 (by simp) (fun k hk => by cases hk; exact Nat.le_refl _)
    · constructor
      · intro h; have := (hnil1.1 h).1; cases this
      · intro h; cases h
#print axioms clone_any
end Go.Proofs.Ytbbbdhpihcbmmaa
