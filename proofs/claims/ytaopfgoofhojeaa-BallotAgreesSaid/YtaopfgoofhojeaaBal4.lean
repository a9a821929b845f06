/- Prepare of both. -/
import Derived.Test.YtaopfgoofhojeaaBal3
import Derived.Deep.Cut
namespace Go.Proofs.Ytaopfgoofhojeaa
open Go.RowKit Own

def AccO (pr pm ar am : Int) (b : Value) : Obj := .cells #[Value.int .i64 pr, .int .i64 pm, .int .i64 ar, .int .i64 am, b] 26
theorem three_blocks {w w1 : World} {O1 O2 O3 : Obj} (hb : Below (((w.alloc O1).alloc O2).alloc O3).heap.size (((w.alloc O1).alloc O2).alloc O3) w1) : w1.heap[w.heap.size]? = some O1 ∧ w1.heap[w.heap.size + 1]? = some O2 ∧ w1.heap[w.heap.size + 2]? = some O3 := by
  have h3 : Below ((w.alloc O1).alloc O2).heap.size ((w.alloc O1).alloc O2) w1 := ((Below.refl _ _).alloc (Nat.le_refl _) _).trans (hb.mono (by simp))
  obtain ⟨h1, h2⟩ := two_blocks h3
  refine ⟨h1, h2, ?_⟩
  rw [hb.block _ (by simp)]
  have := heap_alloc_new ((w.alloc O1).alloc O2) O3
  simpa using this
theorem acc3 {w w' : World} {pr pm ar am r m : Int} {b : Value} (hb : Below (((w.alloc (Obj.cells #[Value.int .i64 pr, .int .i64 pm, .int .i64 ar, .int .i64 am, b] 26)).alloc (Obj.cells #[Value.int .i64 r, .int .i64 m] 23)).alloc (Obj.cells #[Value.int .i64 0, .int .i64 0, .int .i64 0, .int .i64 0, .slice none 0 0] 26)).heap.size (((w.alloc (Obj.cells #[Value.int .i64 pr, .int .i64 pm, .int .i64 ar, .int .i64 am, b] 26)).alloc (Obj.cells #[Value.int .i64 r, .int .i64 m] 23)).alloc (Obj.cells #[Value.int .i64 0, .int .i64 0, .int .i64 0, .int .i64 0, .slice none 0 0] 26)) w') :
    (w'.cell? ⟨w.heap.size, 0, none⟩ = some (.int .i64 pr) ∧ w'.cell? ⟨w.heap.size, 1, none⟩ = some (.int .i64 pm) ∧ w'.cell? ⟨w.heap.size, 2, none⟩ = some (.int .i64 ar) ∧ w'.cell? ⟨w.heap.size, 3, none⟩ = some (.int .i64 am) ∧ w'.cell? ⟨w.heap.size, 4, none⟩ = some b ∧ ∀ j, w'.frozen? ⟨w.heap.size, j, none⟩ = false) ∧
      (w'.cell? ⟨w.heap.size + 1, 0, none⟩ = some (.int .i64 r) ∧ w'.cell? ⟨w.heap.size + 1, 1, none⟩ = some (.int .i64 m)) ∧
      (w'.cell? ⟨w.heap.size + 2, 0, none⟩ = some (.int .i64 0) ∧ w'.cell? ⟨w.heap.size + 2, 1, none⟩ = some (.int .i64 0) ∧ w'.cell? ⟨w.heap.size + 2, 2, none⟩ = some (.int .i64 0) ∧ w'.cell? ⟨w.heap.size + 2, 3, none⟩ = some (.int .i64 0) ∧ w'.cell? ⟨w.heap.size + 2, 4, none⟩ = some (.slice none 0 0) ∧ ∀ j, w'.frozen? ⟨w.heap.size + 2, j, none⟩ = false) ∧
      Below (w.heap.size + 3) w' w' ∧ w.heap.size + 3 ≤ w'.heap.size ∧ Below w.heap.size w w' := by
  obtain ⟨b1, b2, b3⟩ := three_blocks hb
  obtain ⟨n0, n1, _⟩ := cells2 b2
  refine ⟨cells5 b1, ⟨n0, n1⟩, cells5 b3, Below.refl _ _, ?_, ((((Below.refl _ _).alloc (Nat.le_refl _) _).alloc (by simp) _).alloc (by simp <;> omega) _).trans (hb.mono (by simp <;> omega))⟩
  have := hb.size
  simp at this
  omega
/-- a promise -/
def prepOk (x : Acc) (b : Bal) : Bool := mayA x && mayB b && !lessB b x.p
def PrepPost (x : Acc) (b : Bal) (w : World) (e : Ending) (w' : World) : Prop :=
  ∃ A c, e = .returned (.tuple #[.agg #[.int .i64 (if prepOk x b = true then b.r else x.p.r), .int .i64 (if prepOk x b = true then b.m else x.p.m), .int .i64 x.a.r, .int .i64 x.a.m, .slice A x.l.length c], .bool (prepOk x b)]) ∧
    w'.ownsRow w.heap.size 5 1 (.slice A x.l.length c) x.l.length (u8s x.l) ∧ Below w.heap.size w w'
def RPrepPost (x : Acc) (b : Bal) (v : Value) (w : World) (e : Ending) (w' : World) : Prop :=
  e = .returned (.tuple #[.agg #[.int .i64 (if prepOk x b = true then b.r else x.p.r), .int .i64 (if prepOk x b = true then b.m else x.p.m), .int .i64 x.a.r, .int .i64 x.a.m, v], .bool (prepOk x b)]) ∧ Below w.heap.size w w'

theorem prep_cases (x : Acc) (b : Bal) : (mayA x = false ∧ prepOk x b = false) ∨ (mayA x = true ∧ mayB b = false ∧ prepOk x b = false) ∨ (mayA x = true ∧ mayB b = true ∧ lessB b x.p = true ∧ prepOk x b = false) ∨ (mayA x = true ∧ mayB b = true ∧ lessB b x.p = false ∧ prepOk x b = true) := by
  unfold prepOk
  cases mayA x <;> cases mayB b <;> cases lessB b x.p <;> simp

set_option maxHeartbeats 1000000 in
set_option maxRecDepth 100000 in
theorem rprep_any (pr pm ar am r m : Int) (A : Option Addr) (l : List UInt8) (c : Nat) (w : World) :
    Calls Try.prog 6 #[.agg #[.int .i64 pr, .int .i64 pm, .int .i64 ar, .int .i64 am, .slice A l.length c], .agg #[.int .i64 r, .int .i64 m]] w (RPrepPost ⟨⟨pr, pm⟩, ⟨ar, am⟩, l⟩ ⟨r, m⟩ (.slice A l.length c) w) := by
  have HA := Lib.hid (fun w => rmayA_any pr pm ar am A l c w)
  have HM := Lib.hid (fun w => rmay_any r m w)
  have HL := Lib.hid (fun w => rless_any r m pr pm w)
  rcases prep_cases ⟨⟨pr, pm⟩, ⟨ar, am⟩, l⟩ ⟨r, m⟩ with ⟨h1, hv⟩ | ⟨h1, h2, hv⟩ | ⟨h1, h2, h3, hv⟩ | ⟨h1, h2, h3, hv⟩
  all_goals
    (try rw [h1] at HA)
    (try rw [h2] at HM)
    (try simp only [] at h3)
    (try rw [h3] at HL)
    have HV := Lib.hid hv
    clear hv
    (try clear h1)
    (try clear h2)
    (try clear h3)
    go_enter Try.func6, Try.ntmps6
    go_wp2_with (first
      | (go_at_call 18; refine (HA.out _).mono ?_; rintro e wn ⟨rfl, hb⟩; (first | (have q := acc3 hb; have HBL := Lib.hid hb) | (have q := acc3 (HBL.out.trans (hb.mono HBL.out.size)); replace HBL := Lib.hid (HBL.out.trans (hb.mono HBL.out.size)))); obtain ⟨⟨k0, k1, k2, k3, k4, kf⟩, ⟨n0, n1⟩, ⟨z0, z1, z2, z3, z4, zf⟩, _, _, hbn⟩ := q; have HBN := Lib.hid hbn; clear hb hbn)
      | (go_at_call 19; refine (HM.out _).mono ?_; rintro e wn ⟨rfl, hb⟩; (first | (have q := acc3 hb; have HBL := Lib.hid hb) | (have q := acc3 (HBL.out.trans (hb.mono HBL.out.size)); replace HBL := Lib.hid (HBL.out.trans (hb.mono HBL.out.size)))); obtain ⟨⟨k0, k1, k2, k3, k4, kf⟩, ⟨n0, n1⟩, ⟨z0, z1, z2, z3, z4, zf⟩, _, _, hbn⟩ := q; have HBN := Lib.hid hbn; clear hb hbn)
      | (go_at_call 20; refine (HL.out _).mono ?_; rintro e wn ⟨rfl, hb⟩; (first | (have q := acc3 hb; have HBL := Lib.hid hb) | (have q := acc3 (HBL.out.trans (hb.mono HBL.out.size)); replace HBL := Lib.hid (HBL.out.trans (hb.mono HBL.out.size)))); obtain ⟨⟨k0, k1, k2, k3, k4, kf⟩, ⟨n0, n1⟩, ⟨z0, z1, z2, z3, z4, zf⟩, _, _, hbn⟩ := q; have HBN := Lib.hid hbn; clear hb hbn))
  · refine bodyPost_ret (v := .tuple #[.agg #[.int .i64 pr, .int .i64 pm, .int .i64 ar, .int .i64 am, .slice A l.length c], .bool false]) (by simp [results, Try.results6, go_sem, *]) rfl ⟨by rw [HV.out]; simp, ?_⟩
    repeat (refine Below.setCell ?_ (by simp <;> omega) _)
    exact HBN.out
  · refine bodyPost_ret (v := .tuple #[.agg #[.int .i64 pr, .int .i64 pm, .int .i64 ar, .int .i64 am, .slice A l.length c], .bool false]) (by simp [results, Try.results6, go_sem, *]) rfl ⟨by rw [HV.out]; simp, ?_⟩
    repeat (refine Below.setCell ?_ (by simp <;> omega) _)
    exact HBN.out
  · refine bodyPost_ret (v := .tuple #[.agg #[.int .i64 pr, .int .i64 pm, .int .i64 ar, .int .i64 am, .slice A l.length c], .bool false]) (by simp [results, Try.results6, go_sem, *]) rfl ⟨by rw [HV.out]; simp, ?_⟩
    repeat (refine Below.setCell ?_ (by simp <;> omega) _)
    exact HBN.out
  · refine bodyPost_ret (v := .tuple #[.agg #[.int .i64 r, .int .i64 m, .int .i64 ar, .int .i64 am, .slice A l.length c], .bool true]) (by simp [results, Try.results6, go_sem, *]) rfl ⟨by rw [HV.out]; simp, ?_⟩
    repeat (refine Below.setCell ?_ (by simp <;> omega) _)
    exact HBN.out

/-- a box is written anew; two others are as they were -/
def Kept3 (k n z : Nat) (w w' : World) (cs : Array Value) : Prop := w'.heap[k]? = some (.cells cs 26 (0, 0)) ∧ w'.heap[n]? = w.heap[n]? ∧ w'.heap[z]? = w.heap[z]?
theorem kept3 {k n z : Nat} {w : World} {c0 c1 c2 c3 c4 : Value} (h : w.heap[k]? = some (.cells #[c0, c1, c2, c3, c4] 26 (0, 0))) (hn : n ≠ k) (hz : z ≠ k) {vs : List Value} {cs : Array Value} (hv : setL #[c0, c1, c2, c3, c4] 0 vs = cs) : Kept3 k n z w (w.setCells k 0 vs) cs :=
  ⟨hv ▸ heap_setCells vs 0 w _ h, heap_setCells_other vs 0 w n hn, heap_setCells_other vs 0 w z hz⟩
theorem below_cells {B b : Nat} {w w' : World} (h : Below B w w') (hb : B ≤ b) (vs : List Value) (o : Nat) : Below B w (w'.setCells b o vs) := by
  have hr := setCells_rest (b := b) vs o w'
  exact ⟨hr.1.trans h.os, hr.2.1.trans h.tape, hr.2.2.1.trans h.output, by rw [hr.2.2.2]; exact h.size, fun k hk => (heap_setCells_other vs o w' k (by omega)).trans (h.block k hk)⟩
theorem own_lows {w : World} {base : Nat} {e : TypeId} {size n : Nat} {v : Value} {xs : List Value} (h : w.ownsRow base e size v n xs) {k : Nat} (hk : k < base) (j : Nat) (vs : List Value) : (w.setCells k j vs).ownsRow base e size v n xs :=
  own_same h fun g hg => heap_setCells_other vs j w g (by have := (h.lt g hg).1; omega)
set_option maxHeartbeats 400000 in
set_option maxRecDepth 100000 in
theorem prep_c1 (pr pm ar am r m : Int) (A : Option Addr) (l : List UInt8) (c : Nat) (w : World) (h : ReadsB w (.slice A l.length c) l) (hl : l.length ≤ 140737488351232) (h1 : mayA ⟨⟨pr, pm⟩, ⟨ar, am⟩, l⟩ = false) (hv : prepOk ⟨⟨pr, pm⟩, ⟨ar, am⟩, l⟩ ⟨r, m⟩ = false) :
    Calls Try.prog 5 #[.agg #[.int .i64 pr, .int .i64 pm, .int .i64 ar, .int .i64 am, .slice A l.length c], .agg #[.int .i64 r, .int .i64 m]] w (PrepPost ⟨⟨pr, pm⟩, ⟨ar, am⟩, l⟩ ⟨r, m⟩ w) := by
  have HA := Lib.hid (fun w => mayA_any pr pm ar am A l c w)
  have HM := Lib.hid (fun w => may_any r m w)
  have HL := Lib.hid (fun w => less_any r m pr pm w)
  have HO := Lib.hid (fun (w' : World) (hb : Below w.heap.size w w') => own_any pr pm ar am A l c w' (h.below hb) hl)
  rw [h1] at HA
  have HV := Lib.hid hv
  clear h hl hv h1
  go_enter Try.func5, Try.ntmps5
  go_wp2_with fail
  refine (HA.out _).mono ?_; rintro e wn ⟨rfl, hb⟩; have q := acc3 hb; have HBL := Lib.hid hb; obtain ⟨⟨k0, k1, k2, k3, k4, kf⟩, ⟨n0, n1⟩, ⟨z0, z1, z2, z3, z4, zf⟩, _, _, hbn⟩ := q; have HBN := Lib.hid hbn; clear hb hbn
  go_wp2_with fail
  clear k0 k1 k2 k3 k4 kf n0 n1 z0 z1 z2 z3 z4 zf
  refine (HO.out _ HBN.out).mono ?_; rintro e wo ⟨Ao, co, rfl, hown, hb⟩
  have HSZ := Lib.hid (acc3 HBL.out).2.2.2.2.1
  have HOW := Lib.hid (own_mono hown HSZ.out)
  have q := acc3 (HBL.out.trans (hb.mono HBL.out.size)); replace HBL := Lib.hid (HBL.out.trans (hb.mono HBL.out.size)); obtain ⟨⟨k0, k1, k2, k3, k4, kf⟩, ⟨n0, n1⟩, ⟨z0, z1, z2, z3, z4, zf⟩, _, _, hbn⟩ := q; replace HBN := Lib.hid hbn; clear hb hbn hown
  go_wp2_with fail
  refine bodyPost_ret (v := .tuple #[.agg #[.int .i64 pr, .int .i64 pm, .int .i64 ar, .int .i64 am, .slice Ao l.length co], .bool false]) (by simp [results, Try.results5, go_sem, *]) rfl ⟨Ao, co, by rw [HV.out]; simp, ?_, ?_⟩
  · refine own_mono (base := w.heap.size + 3) ?_ (by omega)
    repeat (refine own_low ?_ (by simp <;> omega) _ _)
    exact HOW.out
  · repeat (refine Below.setCell ?_ (by simp <;> omega) _)
    exact HBN.out
set_option maxHeartbeats 400000 in
set_option maxRecDepth 100000 in
theorem prep_c2 (pr pm ar am r m : Int) (A : Option Addr) (l : List UInt8) (c : Nat) (w : World) (h : ReadsB w (.slice A l.length c) l) (hl : l.length ≤ 140737488351232) (h1 : mayA ⟨⟨pr, pm⟩, ⟨ar, am⟩, l⟩ = true) (h2 : mayB ⟨r, m⟩ = false) (hv : prepOk ⟨⟨pr, pm⟩, ⟨ar, am⟩, l⟩ ⟨r, m⟩ = false) :
    Calls Try.prog 5 #[.agg #[.int .i64 pr, .int .i64 pm, .int .i64 ar, .int .i64 am, .slice A l.length c], .agg #[.int .i64 r, .int .i64 m]] w (PrepPost ⟨⟨pr, pm⟩, ⟨ar, am⟩, l⟩ ⟨r, m⟩ w) := by
  have HA := Lib.hid (fun w => mayA_any pr pm ar am A l c w)
  have HM := Lib.hid (fun w => may_any r m w)
  have HL := Lib.hid (fun w => less_any r m pr pm w)
  have HO := Lib.hid (fun (w' : World) (hb : Below w.heap.size w w') => own_any pr pm ar am A l c w' (h.below hb) hl)
  rw [h1] at HA
  rw [h2] at HM
  have HV := Lib.hid hv
  clear h hl hv h1 h2
  go_enter Try.func5, Try.ntmps5
  go_wp2_with fail
  refine (HA.out _).mono ?_; rintro e wn ⟨rfl, hb⟩; have q := acc3 hb; have HBL := Lib.hid hb; obtain ⟨⟨k0, k1, k2, k3, k4, kf⟩, ⟨n0, n1⟩, ⟨z0, z1, z2, z3, z4, zf⟩, _, _, hbn⟩ := q; have HBN := Lib.hid hbn; clear hb hbn
  go_wp2_with fail
  clear k0 k1 k2 k3 k4 kf n0 n1 z0 z1 z2 z3 z4 zf
  refine (HM.out _).mono ?_; rintro e wn ⟨rfl, hb⟩; have q := acc3 (HBL.out.trans (hb.mono HBL.out.size)); replace HBL := Lib.hid (HBL.out.trans (hb.mono HBL.out.size)); obtain ⟨⟨k0, k1, k2, k3, k4, kf⟩, ⟨n0, n1⟩, ⟨z0, z1, z2, z3, z4, zf⟩, _, _, hbn⟩ := q; replace HBN := Lib.hid hbn; clear hb hbn
  go_wp2_with fail
  clear k0 k1 k2 k3 k4 kf n0 n1 z0 z1 z2 z3 z4 zf
  refine (HO.out _ HBN.out).mono ?_; rintro e wo ⟨Ao, co, rfl, hown, hb⟩
  have HSZ := Lib.hid (acc3 HBL.out).2.2.2.2.1
  have HOW := Lib.hid (own_mono hown HSZ.out)
  have q := acc3 (HBL.out.trans (hb.mono HBL.out.size)); replace HBL := Lib.hid (HBL.out.trans (hb.mono HBL.out.size)); obtain ⟨⟨k0, k1, k2, k3, k4, kf⟩, ⟨n0, n1⟩, ⟨z0, z1, z2, z3, z4, zf⟩, _, _, hbn⟩ := q; replace HBN := Lib.hid hbn; clear hb hbn hown
  go_wp2_with fail
  refine bodyPost_ret (v := .tuple #[.agg #[.int .i64 pr, .int .i64 pm, .int .i64 ar, .int .i64 am, .slice Ao l.length co], .bool false]) (by simp [results, Try.results5, go_sem, *]) rfl ⟨Ao, co, by rw [HV.out]; simp, ?_, ?_⟩
  · refine own_mono (base := w.heap.size + 3) ?_ (by omega)
    repeat (refine own_low ?_ (by simp <;> omega) _ _)
    exact HOW.out
  · repeat (refine Below.setCell ?_ (by simp <;> omega) _)
    exact HBN.out
set_option maxHeartbeats 400000 in
set_option maxRecDepth 100000 in
theorem prep_c3 (pr pm ar am r m : Int) (A : Option Addr) (l : List UInt8) (c : Nat) (w : World) (h : ReadsB w (.slice A l.length c) l) (hl : l.length ≤ 140737488351232) (h1 : mayA ⟨⟨pr, pm⟩, ⟨ar, am⟩, l⟩ = true) (h2 : mayB ⟨r, m⟩ = true) (h3 : lessB ⟨r, m⟩ ⟨pr, pm⟩ = true) (hv : prepOk ⟨⟨pr, pm⟩, ⟨ar, am⟩, l⟩ ⟨r, m⟩ = false) :
    Calls Try.prog 5 #[.agg #[.int .i64 pr, .int .i64 pm, .int .i64 ar, .int .i64 am, .slice A l.length c], .agg #[.int .i64 r, .int .i64 m]] w (PrepPost ⟨⟨pr, pm⟩, ⟨ar, am⟩, l⟩ ⟨r, m⟩ w) := by
  have HA := Lib.hid (fun w => mayA_any pr pm ar am A l c w)
  have HM := Lib.hid (fun w => may_any r m w)
  have HL := Lib.hid (fun w => less_any r m pr pm w)
  have HO := Lib.hid (fun (w' : World) (hb : Below w.heap.size w w') => own_any pr pm ar am A l c w' (h.below hb) hl)
  rw [h1] at HA
  rw [h2] at HM
  rw [h3] at HL
  have HV := Lib.hid hv
  clear h hl hv h1 h2 h3
  go_enter Try.func5, Try.ntmps5
  go_wp2_with fail
  refine (HA.out _).mono ?_; rintro e wn ⟨rfl, hb⟩; have q := acc3 hb; have HBL := Lib.hid hb; obtain ⟨⟨k0, k1, k2, k3, k4, kf⟩, ⟨n0, n1⟩, ⟨z0, z1, z2, z3, z4, zf⟩, _, _, hbn⟩ := q; have HBN := Lib.hid hbn; clear hb hbn
  go_wp2_with fail
  clear k0 k1 k2 k3 k4 kf n0 n1 z0 z1 z2 z3 z4 zf
  refine (HM.out _).mono ?_; rintro e wn ⟨rfl, hb⟩; have q := acc3 (HBL.out.trans (hb.mono HBL.out.size)); replace HBL := Lib.hid (HBL.out.trans (hb.mono HBL.out.size)); obtain ⟨⟨k0, k1, k2, k3, k4, kf⟩, ⟨n0, n1⟩, ⟨z0, z1, z2, z3, z4, zf⟩, _, _, hbn⟩ := q; replace HBN := Lib.hid hbn; clear hb hbn
  go_wp2_with fail
  clear k0 k1 k2 k3 k4 kf n0 n1 z0 z1 z2 z3 z4 zf
  refine (HL.out _).mono ?_; rintro e wn2 ⟨rfl, hb⟩; have q := acc3 (HBL.out.trans (hb.mono HBL.out.size)); replace HBL := Lib.hid (HBL.out.trans (hb.mono HBL.out.size)); obtain ⟨⟨k0, k1, k2, k3, k4, kf⟩, ⟨n0, n1⟩, ⟨z0, z1, z2, z3, z4, zf⟩, _, _, hbn⟩ := q; replace HBN := Lib.hid hbn; clear hb hbn
  go_wp2_with fail
  clear k0 k1 k2 k3 k4 kf n0 n1 z0 z1 z2 z3 z4 zf
  refine (HO.out _ HBN.out).mono ?_; rintro e wo ⟨Ao, co, rfl, hown, hb⟩
  have HSZ := Lib.hid (acc3 HBL.out).2.2.2.2.1
  have HOW := Lib.hid (own_mono hown HSZ.out)
  have q := acc3 (HBL.out.trans (hb.mono HBL.out.size)); replace HBL := Lib.hid (HBL.out.trans (hb.mono HBL.out.size)); obtain ⟨⟨k0, k1, k2, k3, k4, kf⟩, ⟨n0, n1⟩, ⟨z0, z1, z2, z3, z4, zf⟩, _, _, hbn⟩ := q; replace HBN := Lib.hid hbn; clear hb hbn hown
  go_wp2_with fail
  refine bodyPost_ret (v := .tuple #[.agg #[.int .i64 pr, .int .i64 pm, .int .i64 ar, .int .i64 am, .slice Ao l.length co], .bool false]) (by simp [results, Try.results5, go_sem, *]) rfl ⟨Ao, co, by rw [HV.out]; simp, ?_, ?_⟩
  · refine own_mono (base := w.heap.size + 3) ?_ (by omega)
    repeat (refine own_low ?_ (by simp <;> omega) _ _)
    exact HOW.out
  · repeat (refine Below.setCell ?_ (by simp <;> omega) _)
    exact HBN.out
set_option maxHeartbeats 400000 in
set_option maxRecDepth 100000 in
theorem prep_c4 (pr pm ar am r m : Int) (A : Option Addr) (l : List UInt8) (c : Nat) (w : World) (h : ReadsB w (.slice A l.length c) l) (hl : l.length ≤ 140737488351232) (h1 : mayA ⟨⟨pr, pm⟩, ⟨ar, am⟩, l⟩ = true) (h2 : mayB ⟨r, m⟩ = true) (h3 : lessB ⟨r, m⟩ ⟨pr, pm⟩ = false) (hv : prepOk ⟨⟨pr, pm⟩, ⟨ar, am⟩, l⟩ ⟨r, m⟩ = true) :
    Calls Try.prog 5 #[.agg #[.int .i64 pr, .int .i64 pm, .int .i64 ar, .int .i64 am, .slice A l.length c], .agg #[.int .i64 r, .int .i64 m]] w (PrepPost ⟨⟨pr, pm⟩, ⟨ar, am⟩, l⟩ ⟨r, m⟩ w) := by
  have HA := Lib.hid (fun w => mayA_any pr pm ar am A l c w)
  have HM := Lib.hid (fun w => may_any r m w)
  have HL := Lib.hid (fun w => less_any r m pr pm w)
  have HO := Lib.hid (fun (w' : World) (hb : Below w.heap.size w w') => own_any pr pm ar am A l c w' (h.below hb) hl)
  rw [h1] at HA
  rw [h2] at HM
  rw [h3] at HL
  have HV := Lib.hid hv
  clear h hl hv h1 h2 h3
  go_enter Try.func5, Try.ntmps5
  go_wp2_with fail
  refine (HA.out _).mono ?_; rintro e wn ⟨rfl, hb⟩; have q := acc3 hb; have HBL := Lib.hid hb; obtain ⟨⟨k0, k1, k2, k3, k4, kf⟩, ⟨n0, n1⟩, ⟨z0, z1, z2, z3, z4, zf⟩, _, _, hbn⟩ := q; have HBN := Lib.hid hbn; clear hb hbn
  go_wp2_with fail
  clear k0 k1 k2 k3 k4 kf n0 n1 z0 z1 z2 z3 z4 zf
  refine (HM.out _).mono ?_; rintro e wn ⟨rfl, hb⟩; have q := acc3 (HBL.out.trans (hb.mono HBL.out.size)); replace HBL := Lib.hid (HBL.out.trans (hb.mono HBL.out.size)); obtain ⟨⟨k0, k1, k2, k3, k4, kf⟩, ⟨n0, n1⟩, ⟨z0, z1, z2, z3, z4, zf⟩, _, _, hbn⟩ := q; replace HBN := Lib.hid hbn; clear hb hbn
  go_wp2_with fail
  clear k0 k1 k2 k3 k4 kf n0 n1 z0 z1 z2 z3 z4 zf
  refine (HL.out _).mono ?_; rintro e wn2 ⟨rfl, hb⟩; have q := acc3 (HBL.out.trans (hb.mono HBL.out.size)); replace HBL := Lib.hid (HBL.out.trans (hb.mono HBL.out.size)); obtain ⟨⟨k0, k1, k2, k3, k4, kf⟩, ⟨n0, n1⟩, ⟨z0, z1, z2, z3, z4, zf⟩, _, _, hbn⟩ := q; replace HBN := Lib.hid hbn; clear hb hbn
  go_wp2_with fail
  clear k0 k1 k2 k3 k4 kf n0 n1 z0 z1 z2 z3 z4 zf
  refine (HO.out _ HBN.out).mono ?_; rintro e wo ⟨Ao, co, rfl, hown, hb⟩
  have HSZ := Lib.hid (acc3 HBL.out).2.2.2.2.1
  have HOW := Lib.hid (own_mono hown HSZ.out)
  have q := acc3 (HBL.out.trans (hb.mono HBL.out.size))
  obtain ⟨hbk, hbn2, hbz⟩ := three_blocks (HBL.out.trans (hb.mono HBL.out.size))
  replace HBL := Lib.hid (HBL.out.trans (hb.mono HBL.out.size)); obtain ⟨⟨k0, k1, k2, k3, k4, kf⟩, ⟨n0, n1⟩, ⟨z0, z1, z2, z3, z4, zf⟩, _, _, hbn⟩ := q; replace HBN := Lib.hid hbn
  have H3 : Hid (Kept3 w.heap.size (w.heap.size + 1) (w.heap.size + 2) wo (World.setCells wo w.heap.size 0 [.int .i64 pr, .int .i64 pm, .int .i64 ar, .int .i64 am, .slice Ao l.length co]) #[.int .i64 pr, .int .i64 pm, .int .i64 ar, .int .i64 am, .slice Ao l.length co]) := kept3 hbk (by omega) (by omega) rfl
  have HB3 : Hid (Below w.heap.size w (World.setCells wo w.heap.size 0 [.int .i64 pr, .int .i64 pm, .int .i64 ar, .int .i64 am, .slice Ao l.length co])) := below_cells hbn (Nat.le_refl _) _ _
  have HO3 : Hid ((World.setCells wo w.heap.size 0 [.int .i64 pr, .int .i64 pm, .int .i64 ar, .int .i64 am, .slice Ao l.length co]).ownsRow (w.heap.size + 3) 5 1 (.slice Ao l.length co) l.length (u8s l)) := own_lows HOW.out (by omega) _ _
  have HBN2 := Lib.hid hbn2
  have HBZ := Lib.hid hbz
  clear hb hbn hown hbk hbn2 hbz
  go_upto_region 4 with (fail)
  obtain ⟨W3, hW3⟩ : ∃ W3, W3 = (((((wo.setCell ⟨w.heap.size, 0, none⟩ (.int .i64 pr)).setCell ⟨w.heap.size, 1, none⟩ (.int .i64 pm)).setCell ⟨w.heap.size, 2, none⟩ (.int .i64 ar)).setCell ⟨w.heap.size, 3, none⟩ (.int .i64 am)).setCell ⟨w.heap.size, 4, none⟩ (.slice Ao l.length co)) := ⟨_, rfl⟩
  rw [← hW3]
  have H3 : Hid (Kept3 w.heap.size (w.heap.size + 1) (w.heap.size + 2) wo W3 #[.int .i64 pr, .int .i64 pm, .int .i64 ar, .int .i64 am, .slice Ao l.length co]) := by rw [hW3]; exact H3
  have HB3 : Hid (Below w.heap.size w W3) := by rw [hW3]; exact HB3
  have HO3 : Hid (W3.ownsRow (w.heap.size + 3) 5 1 (.slice Ao l.length co) l.length (u8s l)) := by rw [hW3]; exact HO3
  clear hW3 k0 k1 k2 k3 k4 kf n0 n1 z0 z1 z2 z3 z4 zf
  obtain ⟨hk3, hn3, hz3⟩ := H3.out
  obtain ⟨k0, k1, k2, k3, k4, kf⟩ := cells5 hk3
  obtain ⟨n0, n1, _⟩ := cells2 (hn3.trans HBN2.out)
  obtain ⟨z0, z1, z2, z3, z4, zf⟩ := cells5 (hz3.trans HBZ.out)
  clear hk3 hn3 hz3
  go_wp2_with fail
  refine bodyPost_ret (v := .tuple #[.agg #[.int .i64 r, .int .i64 m, .int .i64 ar, .int .i64 am, .slice Ao l.length co], .bool true]) (by simp [results, Try.results5, go_sem, *]) rfl ⟨Ao, co, by rw [HV.out]; simp, ?_, ?_⟩
  · refine own_mono (base := w.heap.size + 3) ?_ (by omega)
    repeat (refine own_low ?_ (by simp <;> omega) _ _)
    exact HO3.out
  · repeat (refine Below.setCell ?_ (by simp <;> omega) _)
    exact HB3.out
theorem prep_any (pr pm ar am r m : Int) (A : Option Addr) (l : List UInt8) (c : Nat) (w : World) (h : ReadsB w (.slice A l.length c) l) (hl : l.length ≤ 140737488351232) :
    Calls Try.prog 5 #[.agg #[.int .i64 pr, .int .i64 pm, .int .i64 ar, .int .i64 am, .slice A l.length c], .agg #[.int .i64 r, .int .i64 m]] w (PrepPost ⟨⟨pr, pm⟩, ⟨ar, am⟩, l⟩ ⟨r, m⟩ w) := by
  rcases prep_cases ⟨⟨pr, pm⟩, ⟨ar, am⟩, l⟩ ⟨r, m⟩ with ⟨h1, hv⟩ | ⟨h1, h2, hv⟩ | ⟨h1, h2, h3, hv⟩ | ⟨h1, h2, h3, hv⟩
  · exact prep_c1 pr pm ar am r m A l c w h hl h1 hv
  · exact prep_c2 pr pm ar am r m A l c w h hl h1 h2 hv
  · exact prep_c3 pr pm ar am r m A l c w h hl h1 h2 h3 hv
  · exact prep_c4 pr pm ar am r m A l c w h hl h1 h2 h3 hv
end Go.Proofs.Ytaopfgoofhojeaa
