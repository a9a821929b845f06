/- The boxes of a reply and of the object behind it. -/
import Derived.Test.YtbbbdhpihcbmmaaGBase
import Derived.Test.YtbbbdhpihcbmmaaPRDo0
namespace Go.Proofs.Ytbbbdhpihcbmmaa
open Go.RowKit Own

theorem dn_cell {w : World} {db : Nat} {ad : Addr} (h : ad.block ≠ db) (j : Nat) (u : Value) : (w.setCell ⟨db, j, none⟩ u).cell? ad = w.cell? ad :=
  World.cell?_of_block (Below.heap_setCell _ _ _ _ h)
theorem reads_box {w : World} {v : Value} {l : List UInt8} {g : Nat} {cs : Array Value} {t : TypeId} {fr : Nat × Nat} (h : w.heap[g]? = some (.cells cs t fr)) (hu : NoU8 cs) (hr : ReadsB w v l) (j : Nat) (u : Value) : ReadsB (w.setCell ⟨g, j, none⟩ u) v l := by
  rcases hr with hr | ⟨a, c, hv, hc⟩
  · exact .inl hr
  · refine .inr ⟨a, c, hv, fun i x hx => ?_⟩
    have h1 := hc i x hx
    have hx2 : ∃ y, x = .int .u8 y := by
      simp only [u8s, List.getElem?_map, Option.map_eq_some_iff] at hx
      obtain ⟨q, _, rfl⟩ := hx
      exact ⟨_, rfl⟩
    obtain ⟨y, rfl⟩ := hx2
    rw [dn_cell (nou8_far h hu h1)]; exact h1
/-- what stands behind the call: the reply's box and the object's -/
def RgBox (w0 : World) (D : DoR) (gp gq : Nat) (dv bv : Value) (w : World) : Prop :=
  w.heap[gp]? = some (.cells #[.int .i64 D.code, .int .i64 D.size, dv] 26 (0, 0)) ∧ w.heap[gq]? = some (.cells #[.bool D.has, bv] 38 (0, 0)) ∧ w0.heap.size ≤ gp ∧ w0.heap.size ≤ gq ∧ ReadsB w dv D.data ∧ ReadsB w bv D.b ∧ Below w0.heap.size w0 w
theorem nou8_rep (A : Option Addr) (n c : Nat) (a b : Int) : NoU8 #[.int .i64 a, .int .i64 b, .slice A n c] := fun i y h => by
  rcases i with _ | _ | _ | i <;> simp at h
theorem nou8_obj (A : Option Addr) (n c : Nat) (x : Bool) : NoU8 #[.bool x, .slice A n c] := fun i y h => by
  rcases i with _ | _ | i <;> simp at h
theorem fin_o {w0 w : World} {D : DoR} {gp gq : Nat} {A A' : Option Addr} {n c n' c' : Nat} (hR : w.heap[gp]? = some (.cells #[.int .i64 D.code, .int .i64 D.size, .slice A n c] 26 (0, 0))) (hO : w.heap[gq]? = some (.cells #[.bool false, .slice none 0 0] 38 (0, 0)))
    (h1 : w0.heap.size ≤ gp) (h2 : w0.heap.size ≤ gq) (hd : ReadsB w (.slice A n c) D.data) (hb : ReadsB w (.slice A' n' c') D.b) (hB : Below w0.heap.size w0 w) : RgBox w0 D gp gq (.slice A n c) (.slice A' n' c') ((w.setCell ⟨gq, 0, none⟩ (.bool D.has)).setCell ⟨gq, 1, none⟩ (.slice A' n' c')) := by
  have ne : gp ≠ gq := by rintro rfl; rw [hR] at hO; cases hO
  have s1 := Own.heap_setCell_same hO 0 (.bool D.has)
  have s2 := Own.heap_setCell_same s1 1 (.slice A' n' c')
  refine ⟨(Below.heap_setCell _ _ _ _ ne).trans ((Below.heap_setCell _ _ _ _ ne).trans hR), s2, h1, h2, ?_, ?_, (hB.setCell h2 _).setCell h2 _⟩
  · exact reads_box s1 ((nou8_obj _ _ _ _).set 0 (by simp)) (reads_box hO (nou8_obj _ _ _ _) hd 0 _) 1 _
  · exact reads_box s1 ((nou8_obj _ _ _ _).set 0 (by simp)) (reads_box hO (nou8_obj _ _ _ _) hb 0 _) 1 _
theorem fin_sets {w0 w : World} {D : DoR} {gp gq : Nat} {A A' : Option Addr} {n c n' c' : Nat} (hR : w.heap[gp]? = some (.cells #[.int .i64 0, .int .i64 0, .slice none 0 0] 26 (0, 0))) (hO : w.heap[gq]? = some (.cells #[.bool false, .slice none 0 0] 38 (0, 0)))
    (h1 : w0.heap.size ≤ gp) (h2 : w0.heap.size ≤ gq) (hd : ReadsB w (.slice A n c) D.data) (hb : ReadsB w (.slice A' n' c') D.b) (hB : Below w0.heap.size w0 w) : RgBox w0 D gp gq (.slice A n c) (.slice A' n' c') (((((w.setCell ⟨gp, 0, none⟩ (.int .i64 D.code)).setCell ⟨gp, 1, none⟩ (.int .i64 D.size)).setCell ⟨gp, 2, none⟩ (.slice A n c)).setCell ⟨gq, 0, none⟩ (.bool D.has)).setCell ⟨gq, 1, none⟩ (.slice A' n' c')) := by
  have ne : gq ≠ gp := by rintro rfl; rw [hR] at hO; cases hO
  have s1 := Own.heap_setCell_same hR 0 (.int .i64 D.code)
  have s2 := Own.heap_setCell_same s1 1 (.int .i64 D.size)
  have s3 := Own.heap_setCell_same s2 2 (.slice A n c)
  have u1 := (nou8_rep none 0 0 0 0).set 0 (u := .int .i64 D.code) (by simp)
  have u2 := u1.set 1 (u := .int .i64 D.size) (by simp)
  have k : ∀ v l, ReadsB w v l → ReadsB (((w.setCell ⟨gp, 0, none⟩ (.int .i64 D.code)).setCell ⟨gp, 1, none⟩ (.int .i64 D.size)).setCell ⟨gp, 2, none⟩ (.slice A n c)) v l := fun v l h => reads_box s2 u2 (reads_box s1 u1 (reads_box hR (nou8_rep _ _ _ _ _) h 0 _) 1 _) 2 _
  exact fin_o s3 ((Below.heap_setCell _ _ _ _ ne).trans ((Below.heap_setCell _ _ _ _ ne).trans ((Below.heap_setCell _ _ _ _ ne).trans hO))) h1 h2 (k _ _ hd) (k _ _ hb) (((hB.setCell h1 _).setCell h1 _).setCell h1 _)
theorem fin_new1 {w0 w : World} {D : DoR} {A A' : Option Addr} {n c n' c' : Nat} (hd : ReadsB w (.slice A n c) D.data) (hb : ReadsB w (.slice A' n' c') D.b) (hB : Below w0.heap.size w0 w) : RgBox w0 D w.heap.size (w.heap.size + 1) (.slice A n c) (.slice A' n' c') ((w.alloc (.cells #[.int .i64 D.code, .int .i64 D.size, .slice A n c] 26)).alloc (.cells #[.bool D.has, .slice A' n' c'] 38)) := by
  have b1 := fun (W : World) o => (Below.refl W.heap.size W).alloc (Nat.le_refl _) o
  have b2 := (b1 w (.cells #[.int .i64 D.code, .int .i64 D.size, .slice A n c] 26)).trans ((b1 (w.alloc (.cells #[.int .i64 D.code, .int .i64 D.size, .slice A n c] 26)) (.cells #[.bool D.has, .slice A' n' c'] 38)).mono (by simp))
  have h := heap_alloc_new (w.alloc (.cells #[.int .i64 D.code, .int .i64 D.size, .slice A n c] 26)) (.cells #[.bool D.has, .slice A' n' c'] 38)
  rw [show (w.alloc (.cells #[.int .i64 D.code, .int .i64 D.size, .slice A n c] 26)).heap.size = w.heap.size + 1 from Array.size_push _] at h
  exact ⟨((b1 _ _).block _ (by simp)).trans (heap_alloc_new w _), h, hB.size, Nat.le_succ_of_le hB.size, hd.below b2, hb.below b2, hB.trans (b2.mono hB.size)⟩
theorem fin_new2 {w0 w : World} {D : DoR} {A A' : Option Addr} {n c n' c' : Nat} (hd : ReadsB w (.slice A n c) D.data) (hb : ReadsB w (.slice A' n' c') D.b) (hB : Below w0.heap.size w0 w) : RgBox w0 D (w.heap.size + 1) w.heap.size (.slice A n c) (.slice A' n' c') ((w.alloc (.cells #[.bool D.has, .slice A' n' c'] 38)).alloc (.cells #[.int .i64 D.code, .int .i64 D.size, .slice A n c] 26)) := by
  have b1 := fun (W : World) o => (Below.refl W.heap.size W).alloc (Nat.le_refl _) o
  have b2 := (b1 w (.cells #[.bool D.has, .slice A' n' c'] 38)).trans ((b1 (w.alloc (.cells #[.bool D.has, .slice A' n' c'] 38)) (.cells #[.int .i64 D.code, .int .i64 D.size, .slice A n c] 26)).mono (by simp))
  have h := heap_alloc_new (w.alloc (.cells #[.bool D.has, .slice A' n' c'] 38)) (.cells #[.int .i64 D.code, .int .i64 D.size, .slice A n c] 26)
  rw [show (w.alloc (.cells #[.bool D.has, .slice A' n' c'] 38)).heap.size = w.heap.size + 1 from Array.size_push _] at h
  exact ⟨h, ((b1 _ _).block _ (by simp)).trans (heap_alloc_new w _), Nat.le_succ_of_le hB.size, hB.size, hd.below b2, hb.below b2, hB.trans (b2.mono hB.size)⟩
theorem cells3R {w : World} {b : Nat} {a0 a1 a2 : Value} {t : TypeId} (h : w.heap[b]? = some (.cells #[a0, a1, a2] t (0, 0))) : w.cell? ⟨b, 0, none⟩ = some a0 ∧ w.cell? ⟨b, 1, none⟩ = some a1 ∧ w.cell? ⟨b, 2, none⟩ = some a2 ∧ ∀ j, w.frozen? ⟨b, j, none⟩ = false :=
  ⟨by rw [cell_of_row _ _ 0 _ _ _ h]; rfl, by rw [cell_of_row _ _ 1 _ _ _ h]; rfl, by rw [cell_of_row _ _ 2 _ _ _ h]; rfl, fun j => frozen_of_block h j⟩
theorem cells2O {w : World} {b : Nat} {a0 a1 : Value} {t : TypeId} (h : w.heap[b]? = some (.cells #[a0, a1] t (0, 0))) : w.cell? ⟨b, 0, none⟩ = some a0 ∧ w.cell? ⟨b, 1, none⟩ = some a1 ∧ ∀ j, w.frozen? ⟨b, j, none⟩ = false :=
  ⟨by rw [cell_of_row _ _ 0 _ _ _ h]; rfl, by rw [cell_of_row _ _ 1 _ _ _ h]; rfl, fun j => frozen_of_block h j⟩
theorem new2 (w : World) (o1 o2 : Obj) : ((w.alloc o1).alloc o2).drew.heap[w.heap.size + 1]? = some o2 := by
  have h := heap_alloc_new (w.alloc o1) o2
  rw [show (w.alloc o1).heap.size = w.heap.size + 1 from Array.size_push _] at h
  exact h
theorem up_alloc {w : World} {b : Nat} {o' : Obj} (o : Obj) (h : w.heap[b]? = some o') : (w.alloc o).heap[b]? = some o' := (((Below.refl _ _).alloc (Nat.le_refl _) o).block b (Array.getElem?_eq_some_iff.1 h).1).trans h
theorem cells3R' {w : World} {b : Nat} {a0 a1 a2 : Value} {t : TypeId} (h : w.heap[b]? = some (.cells #[a0, a1, a2] t (0, 0))) : (∀ o, (w.alloc o).cell? ⟨b, 0, none⟩ = some a0) ∧ (∀ o, (w.alloc o).cell? ⟨b, 1, none⟩ = some a1) ∧ (∀ o, (w.alloc o).cell? ⟨b, 2, none⟩ = some a2) ∧ ∀ o j, (w.alloc o).frozen? ⟨b, j, none⟩ = false :=
  ⟨fun o => (cells3R (up_alloc o h)).1, fun o => (cells3R (up_alloc o h)).2.1, fun o => (cells3R (up_alloc o h)).2.2.1, fun o => (cells3R (up_alloc o h)).2.2.2⟩
theorem cells2O' {w : World} {b : Nat} {a0 a1 : Value} {t : TypeId} (h : w.heap[b]? = some (.cells #[a0, a1] t (0, 0))) : (∀ o, (w.alloc o).cell? ⟨b, 0, none⟩ = some a0) ∧ (∀ o, (w.alloc o).cell? ⟨b, 1, none⟩ = some a1) ∧ ∀ o j, (w.alloc o).frozen? ⟨b, j, none⟩ = false :=
  ⟨fun o => (cells2O (up_alloc o h)).1, fun o => (cells2O (up_alloc o h)).2.1, fun o => (cells2O (up_alloc o h)).2.2⟩

end Go.Proofs.Ytbbbdhpihcbmmaa
