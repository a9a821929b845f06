/- BallotActs: the walk and the row. -/
import Derived.Test.YtaopfgoofhojeaaBAwake
import Derived.Test.YtaopfgoofhojeaaTurn
import Derived.Test.YtaopfgoofhojeaaLaw
import Derived.Lib.SmallJoins
import Derived.Deep.Strs
import Derived.Deep.CondSized
namespace Go.Proofs.Ytaopfgoofhojeaa.ballotActs
open Go.RowKit Own
open Go.ChangeShapes Go.WideShapes Go.ChangeAt

def accC (x : Acc) (b : Value) : Array Value := #[.int .i64 x.p.r, .int .i64 x.p.m, .int .i64 x.a.r, .int .i64 x.a.m, b]
/-- the boxes of the law's variables -/
structure FB (s0 s1 g7 g9 : Nat) (xc bc : Array Value) (c7 c9 : Array Value) (w : World) : Prop where
  x : w.heap[s0]? = some (.cells xc 26 (0, 0))
  b : w.heap[s1]? = some (.cells bc 23 (0, 0))
  p : w.heap[g7]? = some (.cells c7 26 (0, 0))
  q : w.heap[g9]? = some (.cells c9 26 (0, 0))
theorem FB.go {s0 s1 g7 g9 : Nat} {xc bc c7 c9 : Array Value} {w w' : World} (h : FB s0 s1 g7 g9 xc bc c7 c9 w) (hb : Below w.heap.size w w') : FB s0 s1 g7 g9 xc bc c7 c9 w' :=
  ⟨(hb.block _ (Array.getElem?_eq_some_iff.1 h.x).1).trans h.x, (hb.block _ (Array.getElem?_eq_some_iff.1 h.b).1).trans h.b, (hb.block _ (Array.getElem?_eq_some_iff.1 h.p).1).trans h.p, (hb.block _ (Array.getElem?_eq_some_iff.1 h.q).1).trans h.q⟩
theorem setL5 (a0 a1 a2 a3 a4 b0 b1 b2 b3 b4 : Value) : setL #[a0, a1, a2, a3, a4] 0 [b0, b1, b2, b3, b4] = #[b0, b1, b2, b3, b4] := rfl
theorem FB.setP {s0 s1 g7 g9 : Nat} {xc bc c9 : Array Value} {a0 a1 a2 a3 a4 b0 b1 b2 b3 b4 : Value} {w : World} (h : FB s0 s1 g7 g9 xc bc #[a0, a1, a2, a3, a4] c9 w) (h0 : s0 ≠ g7) (h1 : s1 ≠ g7) (h9 : g9 ≠ g7) : FB s0 s1 g7 g9 xc bc #[b0, b1, b2, b3, b4] c9 (w.setCells g7 0 [b0, b1, b2, b3, b4]) :=
  ⟨(heap_setCells_other _ _ _ _ h0).trans h.x, (heap_setCells_other _ _ _ _ h1).trans h.b, by rw [heap_setCells [b0, b1, b2, b3, b4] 0 w _ h.p, setL5], (heap_setCells_other _ _ _ _ h9).trans h.q⟩
theorem FB.setQ {s0 s1 g7 g9 : Nat} {xc bc c7 : Array Value} {a0 a1 a2 a3 a4 b0 b1 b2 b3 b4 : Value} {w : World} (h : FB s0 s1 g7 g9 xc bc c7 #[a0, a1, a2, a3, a4] w) (h0 : s0 ≠ g9) (h1 : s1 ≠ g9) (h9 : g7 ≠ g9) : FB s0 s1 g7 g9 xc bc c7 #[b0, b1, b2, b3, b4] (w.setCells g9 0 [b0, b1, b2, b3, b4]) :=
  ⟨(heap_setCells_other _ _ _ _ h0).trans h.x, (heap_setCells_other _ _ _ _ h1).trans h.b, (heap_setCells_other _ _ _ _ h9).trans h.p, by rw [heap_setCells [b0, b1, b2, b3, b4] 0 w _ h.q, setL5]⟩
theorem reads_other {w : World} {v : Value} {l : List UInt8} {g : Nat} (vs : List Value) (o : Nat) (hr : ReadsB w v l) (hlow : ∀ a n c, v = .slice (some a) n c → 0 < n → a.block ≠ g) : ReadsB (w.setCells g o vs) v l := by
  rcases hr with hr | ⟨a, c, hv, hc⟩
  · exact .inl hr
  · refine .inr ⟨a, c, hv, fun j u hu => ?_⟩
    have hl : 0 < l.length := by have := (List.getElem?_eq_some_iff.1 hu).1; rw [u8s_length] at this; omega
    have hb : (a.add j).block = a.block := by unfold Addr.add; split <;> rfl
    have := heap_setCells_other vs o w (a.add j).block (by rw [hb]; exact hlow a _ c hv hl)
    rw [World.cell?_of_block this]
    exact hc j u hu
theorem not_acc {w : World} {v : Value} {l : List UInt8} {g : Nat} {x0 x1 x2 x3 : Int} {A : Option Addr} {n0 k0 : Nat} {t : TypeId} (h : w.heap[g]? = some (.cells #[.int .i64 x0, .int .i64 x1, .int .i64 x2, .int .i64 x3, .slice A n0 k0] t (0, 0))) (hr : ReadsB w v l) :
    ∀ a n c, v = .slice (some a) n c → 0 < n → a.block ≠ g := fun a n c ha hn e => by
  rcases hr with ⟨h0, _⟩ | ⟨a', c'', hv', hc⟩
  · rw [h0] at ha; cases ha
  · rw [hv'] at ha
    cases ha
    have h1 := hc 0 (.int .u8 ((l[0]'hn).toNat : Int)) (by simp [u8s, hn])
    obtain ⟨bk, off, spot⟩ := a
    have hspot : spot = none := by simpa [Addr.add] using World.cell?_spot h1
    subst hspot
    rw [Addr.add_lit] at h1
    simp only [] at e
    subst e
    rw [cell_of_row _ _ _ _ _ _ h] at h1
    have hlt : off + 0 < 5 := by have := (Array.getElem?_eq_some_iff.1 h1).1; simpa using this
    rcases (by omega : off = 0 ∨ off = 1 ∨ off = 2 ∨ off = 3 ∨ off = 4) with rfl | rfl | rfl | rfl | rfl <;> simp at h1
/-- a row of bytes is turned -/
structure TB (w0 : World) (s0 s1 g7 g9 : Nat) (xc bc c7 c9 : Array Value) (v : Value) (l : List UInt8) (R : Value) (rl : List UInt8) (j : Nat) (w : World) : Prop where
  fb : FB s0 s1 g7 g9 xc bc c7 c9 w
  own : w.ownsRow w0.heap.size 5 1 v l.length (turned l j)
  rest : w.ownsRow w0.heap.size 5 1 R rl.length (u8s rl)
  far : ∀ g, v.ownBlock = some g → R.ownBlock ≠ some g
  below : Below w0.heap.size w0 w
theorem TB.step {w0 w : World} {s0 s1 g7 g9 : Nat} {xc bc c7 c9 : Array Value} {v R : Value} {l rl : List UInt8} {j : Nat} (h : TB w0 s0 s1 g7 g9 xc bc c7 c9 v l R rl j w) (hj : j < l.length) :
    ∃ g cap y, v = .slice (some ⟨g, 0, none⟩) l.length cap ∧ l.length ≤ cap ∧ y = ((l[j]'hj).toNat : Int) ∧ w.cell? ⟨g, j, none⟩ = some (.int .u8 y) ∧ w.frozen? ⟨g, j, none⟩ = false ∧
      TB w0 s0 s1 g7 g9 xc bc c7 c9 v l R rl (j + 1) (w.setCell ⟨g, j, none⟩ (.int .u8 ((y + 1) % 256))) := by
  obtain ⟨g, cap, rfl, hg, hlt, hcap, hcell, hfz, cur, hh⟩ := own_reads h.own (by omega)
  have hs : ∀ (k : Nat) (cs : Array Value) (t : TypeId), w.heap[k]? = some (Obj.cells cs t (0, 0)) → t ≠ 5 → (w.setCell ⟨g, j, none⟩ (.int .u8 ((((l[j]'hj).toNat : Int) + 1) % 256))).heap[k]? = some (Obj.cells cs t (0, 0)) := fun k cs t hk ht =>
    (Below.heap_setCell _ _ _ _ (by rintro rfl; rw [hh] at hk; cases hk; exact ht rfl)).trans hk
  refine ⟨g, cap, _, rfl, hcap, rfl, by rw [hcell j hj, turned_at l j hj], hfz j, ⟨hs _ _ _ h.fb.x (by decide), hs _ _ _ h.fb.b (by decide), hs _ _ _ h.fb.p (by decide), hs _ _ _ h.fb.q (by decide)⟩, ?_, ?_, h.far, h.below.setCell hg _⟩
  · rw [← turned_set l j hj]
    exact own_set h.own _
  · exact own_same h.rest fun k hk => Below.heap_setCell _ _ _ _ (by rintro rfl; exact h.far _ rfl hk)

/-- what the four calls say, in one set of names -/
def Pk (pr pm ar am r m : Int) (A : Option Addr) (l : List UInt8) (c : Nat) (vl : List UInt8) (yr ym zr zm tr tm : Int) (zl : List UInt8) (ok : Bool) : Prop :=
  (∀ w : World, ReadsB w (.slice A l.length c) l → l.length ≤ 140737488351232 → Calls Try.prog 5 #[.agg #[.int .i64 pr, .int .i64 pm, .int .i64 ar, .int .i64 am, .slice A l.length c], .agg #[.int .i64 r, .int .i64 m]] w fun e w' => ∃ A' c', e = .returned (.tuple #[.agg #[.int .i64 yr, .int .i64 ym, .int .i64 ar, .int .i64 am, .slice A' l.length c'], .bool ok]) ∧ w'.ownsRow w.heap.size 5 1 (.slice A' l.length c') l.length (u8s l) ∧ Below w.heap.size w w') ∧
  (∀ w : World, Calls Try.prog 6 #[.agg #[.int .i64 pr, .int .i64 pm, .int .i64 ar, .int .i64 am, .slice A l.length c], .agg #[.int .i64 r, .int .i64 m]] w fun e w' => e = .returned (.tuple #[.agg #[.int .i64 yr, .int .i64 ym, .int .i64 ar, .int .i64 am, .slice A l.length c], .bool ok]) ∧ Below w.heap.size w w') ∧
  (∀ (w : World) (vv : Value), ReadsB w (.slice A l.length c) l → l.length ≤ 140737488351232 → ReadsB w vv vl → vl.length ≤ 140737488351232 → Calls Try.prog 8 #[.agg #[.int .i64 pr, .int .i64 pm, .int .i64 ar, .int .i64 am, .slice A l.length c], .agg #[.int .i64 r, .int .i64 m], vv] w fun e w' => ∃ A' c', e = .returned (.tuple #[.agg #[.int .i64 zr, .int .i64 zm, .int .i64 tr, .int .i64 tm, .slice A' zl.length c'], .bool ok]) ∧ w'.ownsRow w.heap.size 5 1 (.slice A' zl.length c') zl.length (u8s zl) ∧ Below w.heap.size w w') ∧
  (∀ (w : World) (vv : Value), ReadsB w (.slice A l.length c) l → ReadsB w vv vl → vl.length ≤ 140737488351232 → Calls Try.prog 9 #[.agg #[.int .i64 pr, .int .i64 pm, .int .i64 ar, .int .i64 am, .slice A l.length c], .agg #[.int .i64 r, .int .i64 m], vv] w fun e w' => ∃ A' c', e = .returned (.tuple #[.agg #[.int .i64 zr, .int .i64 zm, .int .i64 tr, .int .i64 tm, .slice A' zl.length c'], .bool ok]) ∧ ReadsB w' (.slice A' zl.length c') zl ∧ Below w.heap.size w w')
theorem packs (pr pm ar am r m : Int) (A : Option Addr) (l : List UInt8) (c : Nat) (vl : List UInt8) : ∃ yr ym zr zm tr tm zl ok, Pk pr pm ar am r m A l c vl yr ym zr zm tr tm zl ok := by
  refine ⟨_, _, (accY ⟨⟨pr, pm⟩, ⟨ar, am⟩, l⟩ ⟨r, m⟩ vl).p.r, (accY ⟨⟨pr, pm⟩, ⟨ar, am⟩, l⟩ ⟨r, m⟩ vl).p.m, (accY ⟨⟨pr, pm⟩, ⟨ar, am⟩, l⟩ ⟨r, m⟩ vl).a.r, (accY ⟨⟨pr, pm⟩, ⟨ar, am⟩, l⟩ ⟨r, m⟩ vl).a.m, (accY ⟨⟨pr, pm⟩, ⟨ar, am⟩, l⟩ ⟨r, m⟩ vl).l, prepOk ⟨⟨pr, pm⟩, ⟨ar, am⟩, l⟩ ⟨r, m⟩, ?_, fun w => rprep_any pr pm ar am r m A l c w, fun w vv h hl hv hvl => accept_any pr pm ar am r m A l c vv vl w h hl hv hvl, fun w vv h hv hvl => raccept_any pr pm ar am r m A l c vv vl w h hv hvl⟩
  exact fun w h hl => prep_any pr pm ar am r m A l c w h hl

theorem fb_new {w w1 w2 : World} {O1 O2 : Obj} {xc bc c7 c9 : Array Value} (hO1 : O1 = .cells xc 26 (0, 0)) (hO2 : O2 = .cells bc 23 (0, 0)) (hb1 : Below ((w.alloc O1).alloc O2).heap.size ((w.alloc O1).alloc O2) w1)
    (hb2 : Below (w1.alloc (.cells c7 26 (0, 0))).heap.size (w1.alloc (.cells c7 26 (0, 0))) w2) : FB w.heap.size (w.heap.size + 1) w1.heap.size w2.heap.size xc bc c7 c9 (w2.alloc (.cells c9 26 (0, 0))) ∧ Below w.heap.size w (w2.alloc (.cells c9 26 (0, 0))) ∧ w.heap.size + 2 ≤ w1.heap.size ∧ w1.heap.size < w2.heap.size := by
  obtain ⟨b1, b2⟩ := two_blocks hb1
  have hs1 : w.heap.size + 2 ≤ w1.heap.size := by have := hb1.size; simp at this; omega
  have hs2 : w1.heap.size < w2.heap.size := by have := hb2.size; simp at this; omega
  have hb12 : Below w1.heap.size w1 w2 := ((Below.refl _ _).alloc (Nat.le_refl _) _).trans (hb2.mono (by simp))
  have hbn : Below w2.heap.size w2 (w2.alloc (.cells c9 26 (0, 0))) := (Below.refl _ _).alloc (Nat.le_refl _) _
  have hb1n := hb12.trans (hbn.mono hb12.size)
  refine ⟨⟨(hb1n.block _ (by omega)).trans (b1.trans (by rw [hO1])), (hb1n.block _ (by omega)).trans (b2.trans (by rw [hO2])), (hbn.block _ hs2).trans ((hb2.block _ (by simp)).trans (heap_alloc_new w1 _)), heap_alloc_new w2 _⟩, ?_, hs1, hs2⟩
  have h1 : Below w.heap.size w w1 := (((Below.refl _ _).alloc (Nat.le_refl _) _).alloc (by simp) _).trans (hb1.mono (by simp <;> omega))
  exact h1.trans (hb1n.mono h1.size)

set_option maxHeartbeats 1000000 in
set_option maxRecDepth 100000 in
theorem walk (pr pm ar am r m : Int) (xv vv : Value) (l vl : List UInt8) (w : World) (hx : ReadsB w xv l) (hv : ReadsB w vv vl) (hl : l.length ≤ 140737488351232) (hvl : vl.length ≤ 140737488351232) :
    Calls Try.prog 3 #[.agg #[.int .i64 pr, .int .i64 pm, .int .i64 ar, .int .i64 am, xv], .agg #[.int .i64 r, .int .i64 m], vv] w fun e w' => e = .returned (.bool true) ∧ Below w.heap.size w w' := by
  obtain ⟨A, c, rfl⟩ := hx.slice
  obtain ⟨Av, cv, rfl⟩ := hv.slice
  obtain ⟨yr, ym, zr, zm, tr, tm, zl, ok, hpk⟩ := packs pr pm ar am r m A l c vl
  have HPK := Lib.hid hpk
  have HX := Lib.hid hx
  have HVv := Lib.hid hv
  have HL := Lib.hid hl
  have HVL := Lib.hid hvl
  have hvlm : (vl.length : Int) ≤ 140737488351232 := by omega
  have hokk : (ok != ok) = false := by simp
  have hokq : (ok == ok) = true := by simp
  clear hx hv hl hvl hpk
  go_enter Try.func3, Try.ntmps3
  go_wp2_with fail
  refine (HPK.out.1 _ (HX.out.below (((Below.refl _ _).alloc (Nat.le_refl _) _).alloc (by simp) _)) HL.out).mono ?_
  rintro e w1 ⟨A1, c1, rfl, hown1, hb1⟩
  obtain ⟨b1, b2⟩ := two_blocks hb1
  have hs1 : w.heap.size + 2 ≤ w1.heap.size := by have := hb1.size; simp at this; omega
  have hbel : ∀ o : Obj, Below w1.heap.size w1 (w1.alloc o) := fun o => (Below.refl _ _).alloc (Nat.le_refl _) _
  obtain ⟨k0, k1, k2, k3, k4, _⟩ := cells5 (((hbel (.cells #[Value.int .i64 yr, .int .i64 ym, .int .i64 ar, .int .i64 am, .slice A1 l.length c1] 26)).block _ (by omega)).trans b1)
  obtain ⟨n0, n1, _⟩ := cells2 (((hbel (.cells #[Value.int .i64 yr, .int .i64 ym, .int .i64 ar, .int .i64 am, .slice A1 l.length c1] 26)).block _ (by omega)).trans b2)
  have HB1 := Lib.hid hb1
  have HO1 := Lib.hid hown1
  clear hb1 hown1 b1 b2 hs1 hbel
  go_wp2_with fail
  refine (HPK.out.2.1 _).mono ?_
  rintro e w2 ⟨rfl, hb2⟩
  obtain ⟨hfb, hB2, hs1, hs2⟩ := fb_new (c9 := #[Value.int .i64 yr, .int .i64 ym, .int .i64 ar, .int .i64 am, .slice A l.length c]) rfl rfl HB1.out hb2
  have HNN : Hid (w.heap.size ≠ w1.heap.size ∧ w.heap.size + 1 ≠ w1.heap.size ∧ w2.heap.size ≠ w1.heap.size ∧ w.heap.size ≠ w2.heap.size ∧ w.heap.size + 1 ≠ w2.heap.size ∧ w.heap.size ≤ w1.heap.size ∧ w.heap.size ≤ w2.heap.size) := ⟨by omega, by omega, by omega, by omega, by omega, by omega, by omega⟩
  have HFB := Lib.hid hfb
  have HB2 := Lib.hid hB2
  have HO2 : Hid ((w2.alloc (.cells #[Value.int .i64 yr, .int .i64 ym, .int .i64 ar, .int .i64 am, .slice A l.length c] 26)).ownsRow w.heap.size 5 1 (.slice A1 l.length c1) l.length (u8s l)) := by
    have hb12 : Below w1.heap.size w1 w2 := ((Below.refl _ _).alloc (Nat.le_refl _) _).trans (hb2.mono (by simp))
    exact own_mono (own_below (own_below HO1.out hb12) ((Below.refl _ _).alloc (Nat.le_refl _) _)) (by simp; omega)
  obtain ⟨p0, p1, p2, p3, p4, _⟩ := cells5 hfb.p
  obtain ⟨q0, q1, q2, q3, q4, _⟩ := cells5 hfb.q
  clear hfb hB2 hb2 HO1 k0 k1 k2 k3 k4 n0 n1 hs1 hs2
  go_wp2_with fail
  refine (same_any yr ym ar am A1 A l c1 c _ (ReadsB.own HO2.out) (HX.out.below HB2.out)).mono ?_
  rintro e w3 ⟨rfl, hb3⟩
  have HF3 := Lib.hid (HFB.out.go hb3)
  have HB3 := Lib.hid (HB2.out.trans (hb3.mono HB2.out.size))
  clear hb3 p0 p1 p2 p3 p4 q0 q1 q2 q3 q4
  obtain ⟨ov, wA, hap, hown, hbA⟩ := own_copy (.slice Av vl.length cv) vl w3 (HVv.out.below HB3.out) HVL.out
  have HFA := Lib.hid (HF3.out.go hbA)
  have HBA := Lib.hid (HB3.out.trans (hbA.mono HB3.out.size))
  have HOA := Lib.hid (own_mono hown HB3.out.size)
  obtain ⟨Ao, co, rfl⟩ := own_slice hown
  obtain ⟨k0, k1, k2, k3, k4, _⟩ := cells5 HFA.out.x
  obtain ⟨n0, n1, _⟩ := cells2 HFA.out.b
  clear hown hbA
  go_wp2_with (at_builtin; refine wpList_append_run rfl rfl rfl rfl hap ?_)
  refine (HPK.out.2.2.1 _ _ (HX.out.below HBA.out) HL.out (ReadsB.own HOA.out) HVL.out).mono ?_
  rintro e w4 ⟨A4, c4, rfl, hown4, hb4⟩
  have HF4 := Lib.hid (HFA.out.go hb4)
  have hBA4 := HBA.out.trans (hb4.mono HBA.out.size)
  have HNE : Hid (w.heap.size ≠ w1.heap.size ∧ w.heap.size + 1 ≠ w1.heap.size ∧ w2.heap.size ≠ w1.heap.size ∧ w.heap.size ≠ w2.heap.size ∧ w.heap.size + 1 ≠ w2.heap.size ∧ w.heap.size ≤ w1.heap.size ∧ w.heap.size ≤ w2.heap.size) := HNN.out
  have HFP := Lib.hid (HF4.out.setP (b0 := .int .i64 zr) (b1 := .int .i64 zm) (b2 := .int .i64 tr) (b3 := .int .i64 tm) (b4 := .slice A4 zl.length c4) HNE.out.1 HNE.out.2.1 HNE.out.2.2.1)
  have HT : Hid (TB w w.heap.size (w.heap.size + 1) w1.heap.size w2.heap.size #[.int .i64 pr, .int .i64 pm, .int .i64 ar, .int .i64 am, .slice A l.length c] #[.int .i64 r, .int .i64 m] #[.int .i64 zr, .int .i64 zm, .int .i64 tr, .int .i64 tm, .slice A4 zl.length c4] #[.int .i64 yr, .int .i64 ym, .int .i64 ar, .int .i64 am, .slice A l.length c] (.slice Ao vl.length co) vl (.slice A4 zl.length c4) zl 0 (World.setCells w4 w1.heap.size 0 [.int .i64 zr, .int .i64 zm, .int .i64 tr, .int .i64 tm, .slice A4 zl.length c4])) := by
    have hsame : ∀ {base n v xs}, w4.ownsRow base 5 1 v n xs → (World.setCells w4 w1.heap.size 0 [.int .i64 zr, .int .i64 zm, .int .i64 tr, .int .i64 tm, .slice A4 zl.length c4]).ownsRow base 5 1 v n xs := fun h => own_same h fun k hk => heap_setCells_other _ _ _ _ (by
      rintro rfl
      obtain ⟨cur, hc⟩ := own_type h hk
      have := HF4.out.p
      rw [hc] at this; cases this)
    refine ⟨HFP.out, ?_, hsame (own_mono hown4 HBA.out.size), fun g hg hg2 => ?_, below_cells hBA4 HNE.out.2.2.2.2.2.1 _ _⟩
    · rw [turned_zero]
      exact hsame (own_below HOA.out hb4)
    · have h1 := (HOA.out.lt g hg).2
      have h2 := (hown4.lt g hg2).1
      omega
  obtain ⟨p0, p1, p2, p3, p4, pf⟩ := cells5 HF4.out.p
  clear hb4 hown4 hBA4 k0 k1 k2 k3 k4 n0 n1 hap
  go_wp2_with fail
  obtain ⟨W5, hW5⟩ : ∃ W5, W5 = (((((w4.setCell ⟨w1.heap.size, 0, none⟩ (.int .i64 zr)).setCell ⟨w1.heap.size, 1, none⟩ (.int .i64 zm)).setCell ⟨w1.heap.size, 2, none⟩ (.int .i64 tr)).setCell ⟨w1.heap.size, 3, none⟩ (.int .i64 tm)).setCell ⟨w1.heap.size, 4, none⟩ (.slice A4 zl.length c4)) := ⟨_, rfl⟩
  rw [← hW5]
  have HT : Hid (TB w w.heap.size (w.heap.size + 1) w1.heap.size w2.heap.size #[.int .i64 pr, .int .i64 pm, .int .i64 ar, .int .i64 am, .slice A l.length c] #[.int .i64 r, .int .i64 m] #[.int .i64 zr, .int .i64 zm, .int .i64 tr, .int .i64 tm, .slice A4 zl.length c4] #[.int .i64 yr, .int .i64 ym, .int .i64 ar, .int .i64 am, .slice A l.length c] (.slice Ao vl.length co) vl (.slice A4 zl.length c4) zl 0 W5) := by rw [hW5]; exact HT
  clear hW5 p0 p1 p2 p3 p4 pf HFP HF4 HFA HOA HBA
  go_loopw [12] (fun i wr => ∃ j : Nat, i = .int .i64 j ∧ j ≤ vl.length ∧ Hid (TB w w.heap.size (w.heap.size + 1) w1.heap.size w2.heap.size #[.int .i64 pr, .int .i64 pm, .int .i64 ar, .int .i64 am, .slice A l.length c] #[.int .i64 r, .int .i64 m] #[.int .i64 zr, .int .i64 zm, .int .i64 tr, .int .i64 tm, .slice A4 zl.length c4] #[.int .i64 yr, .int .i64 ym, .int .i64 ar, .int .i64 am, .slice A l.length c] (.slice Ao vl.length co) vl (.slice A4 zl.length c4) zl j wr)) (fun i _ => vl.length - (intOf i).toNat)
  case atStart => exact ⟨0, rfl, Nat.zero_le _, HT⟩
  case round =>
    obtain ⟨j, rfl, hjk, HJ⟩ := hrel
    obtain ⟨wL, rfl⟩ : ∃ wo : World, wo = wr := ⟨_, rfl⟩
    by_cases hj : j < vl.length
    · have hj' : (j : Int) < (vl.length : Int) := by omega
      obtain ⟨g, cap, y, hvv, hcap, hy, hcell, hfz, hnext⟩ := TB.step HJ.out hj
      cases hvv
      have HNx := Lib.hid hnext
      clear hnext hy HJ HT
      go_wp2_with fail
      go_roundw
      case rel => exact ⟨j + 1, by go_num, by omega, HNx⟩
      case measure => simp [intOf]; omega
    · obtain rfl : j = vl.length := by omega
      clear HT
      have HTL := Lib.hid HJ.out
      obtain ⟨k0, k1, k2, k3, k4, _⟩ := cells5 HTL.out.fb.x
      obtain ⟨n0, n1, _⟩ := cells2 HTL.out.fb.b
      clear HJ
      go_wp2_with fail
      refine (HPK.out.2.2.2 _ _ (HX.out.below HTL.out.below) (HVv.out.below HTL.out.below) HVL.out).mono ?_
      rintro e w6 ⟨A6, c6, rfl, hr6, hb6⟩
      have hf6 := HTL.out.fb.go hb6
      obtain ⟨q0, q1, q2, q3, q4, qf⟩ := cells5 hf6.q
      have hfQ := hf6.setQ (b0 := .int .i64 zr) (b1 := .int .i64 zm) (b2 := .int .i64 tr) (b3 := .int .i64 tm) (b4 := .slice A6 zl.length c6) HNE.out.2.2.2.1 HNE.out.2.2.2.2.1 (Ne.symm HNE.out.2.2.1)
      have HR7 : Hid (ReadsB (World.setCells w6 w2.heap.size 0 [.int .i64 zr, .int .i64 zm, .int .i64 tr, .int .i64 tm, .slice A6 zl.length c6]) (.slice A6 zl.length c6) zl) := reads_other _ _ hr6 (not_acc hf6.q hr6)
      have HR7b : Hid (ReadsB (World.setCells w6 w2.heap.size 0 [.int .i64 zr, .int .i64 zm, .int .i64 tr, .int .i64 tm, .slice A6 zl.length c6]) (.slice A4 zl.length c4) zl) := by
        have h4 := ReadsB.own (own_below HTL.out.rest hb6)
        exact reads_other _ _ h4 (not_acc hf6.q h4)
      have HB7 : Hid (Below w.heap.size w (World.setCells w6 w2.heap.size 0 [.int .i64 zr, .int .i64 zm, .int .i64 tr, .int .i64 tm, .slice A6 zl.length c6])) := below_cells (HTL.out.below.trans (hb6.mono HTL.out.below.size)) HNE.out.2.2.2.2.2.2 _ _
      have HFQ := Lib.hid hfQ
      clear hr6 hb6 hf6 hfQ k0 k1 k2 k3 k4 n0 n1 HTL
      go_upto_region 12 with (fail)
      obtain ⟨W7, hW7⟩ : ∃ W7, W7 = (((((w6.setCell ⟨w2.heap.size, 0, none⟩ (.int .i64 zr)).setCell ⟨w2.heap.size, 1, none⟩ (.int .i64 zm)).setCell ⟨w2.heap.size, 2, none⟩ (.int .i64 tr)).setCell ⟨w2.heap.size, 3, none⟩ (.int .i64 tm)).setCell ⟨w2.heap.size, 4, none⟩ (.slice A6 zl.length c6)) := ⟨_, rfl⟩
      rw [← hW7]
      have HR7 : Hid (ReadsB W7 (.slice A6 zl.length c6) zl) := by rw [hW7]; exact HR7
      have HR7b : Hid (ReadsB W7 (.slice A4 zl.length c4) zl) := by rw [hW7]; exact HR7b
      have HB7 : Hid (Below w.heap.size w W7) := by rw [hW7]; exact HB7
      have HFQ : Hid (FB w.heap.size (w.heap.size + 1) w1.heap.size w2.heap.size #[.int .i64 pr, .int .i64 pm, .int .i64 ar, .int .i64 am, .slice A l.length c] #[.int .i64 r, .int .i64 m] #[.int .i64 zr, .int .i64 zm, .int .i64 tr, .int .i64 tm, .slice A4 zl.length c4] #[.int .i64 zr, .int .i64 zm, .int .i64 tr, .int .i64 tm, .slice A6 zl.length c6] W7) := by rw [hW7]; exact HFQ
      clear hW7 q0 q1 q2 q3 q4 qf
      obtain ⟨p0, p1, p2, p3, p4, _⟩ := cells5 HFQ.out.p
      obtain ⟨q0, q1, q2, q3, q4, _⟩ := cells5 HFQ.out.q
      go_wp2_with fail
      refine (same_any zr zm tr tm A4 A6 zl c4 c6 _ HR7b.out HR7.out).mono ?_
      rintro e w8 ⟨rfl, hb8⟩
      have HB8 := Lib.hid (HB7.out.trans (hb8.mono HB7.out.size))
      clear hb8 p0 p1 p2 p3 p4 q0 q1 q2 q3 q4
      go_wp2_with fail
      refine (awake_any _).mono ?_
      rintro e w9 ⟨rfl, hb9⟩
      have HB9 := Lib.hid (HB8.out.trans (hb9.mono HB8.out.size))
      clear hb9
      go_wp2_with fail
      go_ret
      exact ⟨rfl, HB9.out⟩

theorem cellsBal : Try.prog.cellsOf 23 = 2 := by kernel_rfl
theorem cellsAcc : Try.prog.cellsOf 26 = 5 := by kernel_rfl
theorem cellsI : Try.prog.cellsOf 3 = 1 := by kernel_rfl
theorem cellsB : Try.prog.cellsOf 24 = 1 := by kernel_rfl
theorem open_bal {H : Type} {enc : TypeId × Value → H} {w : World} {base : Nat} {spare : Nat → Bool} {held : Bool} {n : Nat} {c0 c1 : Value} {x : DataW H × List MemPlace}
    (h : DataW.trod enc Try.prog w base spare held n 23 [c0, c1] = some x) : ∃ a b : Int, c0 = .int .i64 a ∧ c1 = .int .i64 b := by
  obtain ⟨y0, y1, m, rfl, _, t0, t1⟩ := trod_struct2 Try.underlying23 h
  simp only [cellsI, List.drop_zero, List.drop_succ_cons, List.take_succ_cons, List.take_zero] at t0 t1
  obtain ⟨a0, hc0, _⟩ := DataW.trod_int Try.underlying3 t0
  obtain ⟨a1, hc1, _⟩ := DataW.trod_int Try.underlying3 t1
  exact ⟨a0, a1, by simpa using hc0, by simpa using hc1⟩
theorem open_acc {H : Type} {enc : TypeId × Value → H} {w : World} {base : Nat} {spare : Nat → Bool} {held : Bool} {n : Nat} {c0 c1 c2 c3 c4 : Value} {x : DataW H × List MemPlace}
    (h : DataW.trod enc Try.prog w base spare held n 26 [c0, c1, c2, c3, c4] = some x) (hw : ∀ y ∈ x.1.weights Try.prog 26, y ≤ reachBytes) :
    ∃ (a b c d : Int) (l : List UInt8), c0 = .int .i64 a ∧ c1 = .int .i64 b ∧ c2 = .int .i64 c ∧ c3 = .int .i64 d ∧ ReadsB w c4 l ∧ l.length ≤ 140737488351232 := by
  obtain ⟨y0, y1, y2, m, rfl, _, t0, t1, t2⟩ := Go.Deep.trod_struct3 Try.underlying26 h
  simp only [cellsBal, cellsB, List.drop_zero, List.drop_succ_cons, List.take_succ_cons, List.take_zero] at t0 t1 t2
  obtain ⟨a, b, rfl, rfl⟩ := open_bal t0
  obtain ⟨c, d, rfl, rfl⟩ := open_bal t1
  obtain ⟨l, hl, hd⟩ := open_bytes1 t2
  refine ⟨a, b, c, d, l, rfl, rfl, rfl, rfl, hl, sized_bytes hd fun y hy => hw y ?_⟩
  rw [DataW.weights, Try.underlying26]
  exact DataW.weights_mem_each (j := 2) rfl rfl y hy
theorem open_acc_val {H : Type} {enc : TypeId × Value → H} {w : World} {base : Nat} {spare : Nat → Bool} {held : Bool} {r : Reach} {b0 : Nat} {v : Value} {d : DataW H} {p : List MemPlace}
    (hv : Value.okWide Try.prog w r b0 26 v) (h : DataW.Trod enc Try.prog w base spare held 26 v d p) (hw : ∀ y ∈ d.weights Try.prog 26, y ≤ reachBytes) :
    ∃ (x0 x1 x2 x3 : Int) (c : Value) (l : List UInt8), v = .agg #[.int .i64 x0, .int .i64 x1, .int .i64 x2, .int .i64 x3, c] ∧ ReadsB w c l ∧ l.length ≤ 140737488351232 := by
  obtain ⟨cs, rfl, hsz5⟩ := okWide_struct Try.underlying26 hv
  obtain ⟨l⟩ := cs
  match l, hsz5.trans cellsAcc with
  | [c0, c1, c2, c3, c4], _ =>
    obtain ⟨fuel, hf⟩ := h
    obtain ⟨x0, x1, x2, x3, l, rfl, rfl, rfl, rfl, hl, hll⟩ := open_acc (by simpa [Value.cells] using hf) hw
    exact ⟨x0, x1, x2, x3, c4, l, rfl, hl, hll⟩
theorem open_bal_val {H : Type} {enc : TypeId × Value → H} {w : World} {base : Nat} {spare : Nat → Bool} {held : Bool} {r : Reach} {b0 : Nat} {v : Value} {d : DataW H} {p : List MemPlace}
    (hv : Value.okWide Try.prog w r b0 23 v) (h : DataW.Trod enc Try.prog w base spare held 23 v d p) :
    ∃ x0 x1 : Int, v = .agg #[.int .i64 x0, .int .i64 x1] := by
  obtain ⟨cs, rfl, hsz2⟩ := okWide_struct Try.underlying23 hv
  obtain ⟨l⟩ := cs
  match l, hsz2.trans cellsBal with
  | [c0, c1], _ =>
    obtain ⟨fuel, hf⟩ := h
    obtain ⟨x0, x1, rfl, rfl⟩ := open_bal (by simpa [Value.cells] using hf)
    exact ⟨x0, x1, rfl⟩

set_option maxRecDepth 100000 in
theorem lifted (os : Os) (started : os.Started) (H : Type) (enc : TypeId × Value → H) :
    ReturnsInHanded {} Try.checked os 3 .any (Rows.ballotActsSpec.pre6 enc Try.prog Try.f3 Rows.ballotActsRow.domain false) (Rows.ballotActsSpec.post enc Try.prog Try.f3 false true false false) := by
  refine returnsInHanded_of_change_sized (C := Try.checked) Law.own started (by kernel_rfl) Try.func3
    (ChangeSpec.witness6 (enc := enc) (C := Try.checked) false ⟨#[], #[.agg #[.int .i64 0, .int .i64 0, .int .i64 0, .int .i64 0, .slice none 0 0], .agg #[.int .i64 0, .int .i64 0], .slice none 0 0], []⟩ 8 (by kernel_rfl) (by kernel_rfl) (by kernel_rfl) (by kernel_rfl)) ?_
  intro W base args ds gs before hval0 hW hcnd hsz _
  have hval : ∀ (j : Nat) t v, Try.f3.params[j]? = some t → args[j]? = some v → Value.okWide Try.prog W .any base t v := hval0
  have hW' := hW
  obtain ⟨p, q, hA0, hV, rfl, hfz, hnd⟩ := hW
  have hA : DataW.TrodAll enc Try.prog W 0 (fun _ => true) true Try.f3.params.toList args.toList ds p := hA0
  rw [Try.params3] at hA hval
  obtain ⟨v0, vs0, d0, ds0, p0, q0, hargs, rfl, rfl, h0, r0⟩ := trodAll_cons hA
  obtain ⟨v1, vs1, d1, ds1, p1, q1, rfl, rfl, rfl, h1, r1⟩ := trodAll_cons r0
  obtain ⟨v2, vs2, d2, ds2, p2, q2, rfl, rfl, rfl, h2, r2⟩ := trodAll_cons r1
  obtain ⟨rfl, rfl, rfl⟩ := trodAll_nil r2
  obtain rfl : args = #[v0, v1, v2] := by cases args; simp_all
  obtain ⟨rfl, rfl⟩ := trodVars_none hV
  obtain ⟨x0, x1, x2, x3, c, l, rfl, hl, hll⟩ := open_acc_val (hval 0 26 v0 rfl rfl) h0 (fun y hy => by
    have := List.all_eq_true.1 hsz y (DataW.weights_mem_each (j := 0) rfl rfl y hy)
    simpa using this)
  obtain ⟨y0, y1, rfl⟩ := open_bal_val (hval 1 23 v1 rfl rfl) h1
  obtain ⟨vl, hv, hd⟩ := open_bytes (hval 2 24 v2 rfl rfl) h2
  have hvl := sized_bytes hd (fun y hy => by
    have := List.all_eq_true.1 hsz y (DataW.weights_mem_each (j := 2) rfl rfl y hy)
    simpa using this)
  exact (walk x0 x1 x2 x3 y0 y1 c v2 l vl W hl hv hll hvl).mono fun e W' ⟨he, hb⟩ => ⟨_, he, Law.post hW' (by kernel_rfl) rfl rfl (by kernel_rfl) hb⟩

theorem proved : Rows.BallotActsSaid :=
  OpenClaim.holds_of_wide 3 Try.f3 rfl rfl rfl rfl rfl rfl rfl ⟨rfl, rfl, rfl, rfl, rfl⟩ rfl rfl rfl rfl rfl (by kernel_rfl) Try.func3 (by kernel_rfl)
    (of_decide_eq_true (by kernel_rfl)) (by unfold Func.isWrapper; first | (rw [if_pos (by decide +kernel)]; kernel_rfl) | (rw [if_neg (by decide +kernel)]; exact ⟨rfl, rfl⟩))
    (fun os started H enc _ => lifted os started H enc)
#print axioms proved
end Go.Proofs.Ytaopfgoofhojeaa.ballotActs
