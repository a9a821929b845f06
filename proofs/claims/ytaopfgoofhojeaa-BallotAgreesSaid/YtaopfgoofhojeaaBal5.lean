/- Accept of both; Same. -/
import Derived.Test.YtaopfgoofhojeaaBal4
namespace Go.Proofs.Ytaopfgoofhojeaa
open Go.RowKit Own

/-- the acceptor behind an accept -/
def accY (x : Acc) (b : Bal) (l : List UInt8) : Acc := if prepOk x b = true then ⟨b, b, l⟩ else x
def AccPost (x : Acc) (b : Bal) (l : List UInt8) (w : World) (e : Ending) (w' : World) : Prop :=
  ∃ A c, e = .returned (.tuple #[.agg #[.int .i64 (accY x b l).p.r, .int .i64 (accY x b l).p.m, .int .i64 (accY x b l).a.r, .int .i64 (accY x b l).a.m, .slice A (accY x b l).l.length c], .bool (prepOk x b)]) ∧
    ReadsB w' (.slice A (accY x b l).l.length c) (accY x b l).l ∧ Below w.heap.size w w'
/-- ... of its own memory -/
def AccOwn (x : Acc) (b : Bal) (l : List UInt8) (w : World) (e : Ending) (w' : World) : Prop :=
  ∃ A c, e = .returned (.tuple #[.agg #[.int .i64 (accY x b l).p.r, .int .i64 (accY x b l).p.m, .int .i64 (accY x b l).a.r, .int .i64 (accY x b l).a.m, .slice A (accY x b l).l.length c], .bool (prepOk x b)]) ∧
    w'.ownsRow w.heap.size 5 1 (.slice A (accY x b l).l.length c) (accY x b l).l.length (u8s (accY x b l).l) ∧ Below w.heap.size w w'

set_option maxHeartbeats 400000 in
set_option maxRecDepth 100000 in
theorem acc_no (pr pm ar am r m : Int) (A : Option Addr) (l : List UInt8) (c : Nat) (vv : Value) (vl : List UInt8) (w : World) (h : ReadsB w (.slice A l.length c) l) (hl : l.length ≤ 140737488351232) (hno : prepOk ⟨⟨pr, pm⟩, ⟨ar, am⟩, l⟩ ⟨r, m⟩ = false) :
    Calls Try.prog 8 #[.agg #[.int .i64 pr, .int .i64 pm, .int .i64 ar, .int .i64 am, .slice A l.length c], .agg #[.int .i64 r, .int .i64 m], vv] w (AccOwn ⟨⟨pr, pm⟩, ⟨ar, am⟩, l⟩ ⟨r, m⟩ vl w) := by
  have HP : Hid (∀ (w' : World), Below w.heap.size w w' → Calls Try.prog 5 #[.agg #[.int .i64 pr, .int .i64 pm, .int .i64 ar, .int .i64 am, .slice A l.length c], .agg #[.int .i64 r, .int .i64 m]] w' fun e w'' => ∃ A' c', e = .returned (.tuple #[.agg #[.int .i64 pr, .int .i64 pm, .int .i64 ar, .int .i64 am, .slice A' l.length c'], .bool false]) ∧ w''.ownsRow w'.heap.size 5 1 (.slice A' l.length c') l.length (u8s l) ∧ Below w'.heap.size w' w'') := fun w' hb => by
    refine (prep_any pr pm ar am r m A l c w' (h.below hb) hl).mono ?_
    rintro e w'' ⟨A', c', rfl, h1, h2⟩
    refine ⟨A', c', ?_, h1, h2⟩
    rw [hno]; simp
  have HY : Hid (accY ⟨⟨pr, pm⟩, ⟨ar, am⟩, l⟩ ⟨r, m⟩ vl = ⟨⟨pr, pm⟩, ⟨ar, am⟩, l⟩) := by show _ = _; rw [accY, hno]; rfl
  have HV := Lib.hid hno
  clear h hl hno
  go_enter Try.func8, Try.ntmps8
  go_wp2_with fail
  refine (HP.out _ ?_).mono ?_
  · exact (((Below.refl _ _).alloc (Nat.le_refl _) _).alloc (by simp) _).alloc (by simp <;> omega) _
  rintro e wo ⟨Ao, co, rfl, hown, hb⟩
  obtain ⟨⟨k0, k1, k2, k3, k4, kf⟩, ⟨n0, n1⟩, ⟨z0, z1, z2, z3, z4, zf⟩, _, hsz, hbn⟩ := acc3 hb
  obtain ⟨hbk, hbn2, hbz⟩ := three_blocks hb
  have HOW := Lib.hid (own_mono (base' := w.heap.size + 3) hown (by simp))
  have HBN := Lib.hid hbn
  clear hb hbn hown hbk hbn2 hbz
  go_wp2_with fail
  refine bodyPost_ret (v := .tuple #[.agg #[.int .i64 pr, .int .i64 pm, .int .i64 ar, .int .i64 am, .slice Ao l.length co], .bool false]) (by simp [results, Try.results8, go_sem, *]) rfl ⟨Ao, co, by rw [HY.out, HV.out], ?_, ?_⟩
  · rw [HY.out]
    refine own_mono (base := w.heap.size + 3) ?_ (by omega)
    repeat (refine own_low ?_ (by simp <;> omega) _ _)
    exact HOW.out
  · repeat (refine Below.setCell ?_ (by simp <;> omega) _)
    exact HBN.out
set_option maxHeartbeats 400000 in
set_option maxRecDepth 100000 in
theorem acc_yes (pr pm ar am r m : Int) (A : Option Addr) (l : List UInt8) (c : Nat) (vv : Value) (vl : List UInt8) (w : World) (h : ReadsB w (.slice A l.length c) l) (hl : l.length ≤ 140737488351232) (hv : ReadsB w vv vl) (hvl : vl.length ≤ 140737488351232) (hyes : prepOk ⟨⟨pr, pm⟩, ⟨ar, am⟩, l⟩ ⟨r, m⟩ = true) :
    Calls Try.prog 8 #[.agg #[.int .i64 pr, .int .i64 pm, .int .i64 ar, .int .i64 am, .slice A l.length c], .agg #[.int .i64 r, .int .i64 m], vv] w (AccOwn ⟨⟨pr, pm⟩, ⟨ar, am⟩, l⟩ ⟨r, m⟩ vl w) := by
  obtain ⟨Av, cv, rfl⟩ := hv.slice
  have HP : Hid (∀ (w' : World), Below w.heap.size w w' → Calls Try.prog 5 #[.agg #[.int .i64 pr, .int .i64 pm, .int .i64 ar, .int .i64 am, .slice A l.length c], .agg #[.int .i64 r, .int .i64 m]] w' fun e w'' => ∃ A' c', e = .returned (.tuple #[.agg #[.int .i64 r, .int .i64 m, .int .i64 ar, .int .i64 am, .slice A' l.length c'], .bool true]) ∧ Below w'.heap.size w' w'') := fun w' hb => by
    refine (prep_any pr pm ar am r m A l c w' (h.below hb) hl).mono ?_
    rintro e w'' ⟨A', c', rfl, h1, h2⟩
    refine ⟨A', c', ?_, h2⟩
    rw [hyes]; simp
  have HY : Hid (accY ⟨⟨pr, pm⟩, ⟨ar, am⟩, l⟩ ⟨r, m⟩ vl = ⟨⟨r, m⟩, ⟨r, m⟩, vl⟩) := by show _ = _; rw [accY, hyes]; rfl
  have HV := Lib.hid hyes
  have HC : Hid (∀ w', Below w.heap.size w w' → Calls Try.prog 21 #[.slice Av vl.length cv] w' (ClonePost (.slice Av vl.length cv) vl w')) := fun w' hb => clone_any _ vl w' (hv.below hb) hvl
  clear h hl hyes hv hvl
  go_enter Try.func8, Try.ntmps8
  go_wp2_with fail
  refine (HP.out _ ?_).mono ?_
  · exact (((Below.refl _ _).alloc (Nat.le_refl _) _).alloc (by simp) _).alloc (by simp <;> omega) _
  rintro e wo ⟨Ao, co, rfl, hb⟩
  obtain ⟨⟨k0, k1, k2, k3, k4, kf⟩, ⟨n0, n1⟩, ⟨z0, z1, z2, z3, z4, zf⟩, _, hsz, hbn⟩ := acc3 hb
  obtain ⟨hbk, hbn2, hbz⟩ := three_blocks hb
  have H3 : Hid (Kept3 w.heap.size (w.heap.size + 1) (w.heap.size + 2) wo (World.setCells wo w.heap.size 0 [.int .i64 r, .int .i64 m, .int .i64 ar, .int .i64 am, .slice Ao l.length co]) #[.int .i64 r, .int .i64 m, .int .i64 ar, .int .i64 am, .slice Ao l.length co]) := kept3 hbk (by omega) (by omega) rfl
  have HB3 : Hid (Below w.heap.size w (World.setCells wo w.heap.size 0 [.int .i64 r, .int .i64 m, .int .i64 ar, .int .i64 am, .slice Ao l.length co])) := below_cells hbn (Nat.le_refl _) _ _
  have HS3 : Hid (w.heap.size + 3 ≤ (World.setCells wo w.heap.size 0 [.int .i64 r, .int .i64 m, .int .i64 ar, .int .i64 am, .slice Ao l.length co]).heap.size) := by show _ ≤ _; rw [(setCells_rest _ _ _).2.2.2]; exact hsz
  have HBN2 := Lib.hid hbn2
  have HBZ := Lib.hid hbz
  clear hb hbn hbk hbn2 hbz hsz
  go_upto_region 3 with (fail)
  obtain ⟨W3, hW3⟩ : ∃ W3, W3 = (((((wo.setCell ⟨w.heap.size, 0, none⟩ (.int .i64 r)).setCell ⟨w.heap.size, 1, none⟩ (.int .i64 m)).setCell ⟨w.heap.size, 2, none⟩ (.int .i64 ar)).setCell ⟨w.heap.size, 3, none⟩ (.int .i64 am)).setCell ⟨w.heap.size, 4, none⟩ (.slice Ao l.length co)) := ⟨_, rfl⟩
  rw [← hW3]
  have H3 : Hid (Kept3 w.heap.size (w.heap.size + 1) (w.heap.size + 2) wo W3 #[.int .i64 r, .int .i64 m, .int .i64 ar, .int .i64 am, .slice Ao l.length co]) := by rw [hW3]; exact H3
  have HB3 : Hid (Below w.heap.size w W3) := by rw [hW3]; exact HB3
  have HS3 : Hid (w.heap.size + 3 ≤ W3.heap.size) := by rw [hW3]; exact HS3
  clear hW3 k0 k1 k2 k3 k4 kf n0 n1 z0 z1 z2 z3 z4 zf
  obtain ⟨hk3, hn3, hz3⟩ := H3.out
  have HK := Lib.hid hk3
  have HN := Lib.hid (hn3.trans HBN2.out)
  have HZ := Lib.hid (hz3.trans HBZ.out)
  clear hk3 hn3 hz3 H3 HBN2 HBZ
  obtain ⟨n0, n1, _⟩ := cells2 HN.out
  have HD : Hid (Below w.heap.size w W3.drew) := ⟨HB3.out.os, HB3.out.tape, HB3.out.output, HB3.out.size, HB3.out.block⟩
  go_region_held3 (fun w' => w'.cell? ⟨w.heap.size + 1, 0, none⟩ = some (.int .i64 r) ∧ w'.cell? ⟨w.heap.size + 1, 1, none⟩ = some (.int .i64 m)) (go_keep)
    (first | (go_at_call 21; refine (HC.out _ HD.out).mono ?_; rintro e w4 ⟨v4, rfl, hown, hb4, _⟩; obtain ⟨A4, c4, rfl⟩ := own_slice hown; obtain ⟨q0, q1, _⟩ := cells2 ((hb4.block _ (Array.getElem?_eq_some_iff.1 HN.out).1).trans HN.out); have HO4 := Lib.hid (own_mono hown HS3.out); obtain ⟨k0, k1, k2, k3, k4, kf⟩ := cells5 ((hb4.block _ (Array.getElem?_eq_some_iff.1 HK.out).1).trans HK.out); obtain ⟨z0, z1, z2, z3, z4, zf⟩ := cells5 ((hb4.block _ (Array.getElem?_eq_some_iff.1 HZ.out).1).trans HZ.out); have HB4 := Lib.hid (HD.out.trans (hb4.mono HD.out.size)); clear hown hb4))
  all_goals
    clear n0 n1 q0 q1
    go_wp2_with fail
    refine bodyPost_ret (v := .tuple #[.agg #[.int .i64 r, .int .i64 m, .int .i64 r, .int .i64 m, .slice A4 vl.length c4], .bool true]) (by simp [results, Try.results8, go_sem, *]) rfl ⟨A4, c4, by rw [HY.out, HV.out], ?_, ?_⟩
    · rw [HY.out]
      refine own_mono (base := w.heap.size + 3) ?_ (by omega)
      repeat (refine own_low ?_ (by simp <;> omega) _ _)
      exact HO4.out
    · repeat (refine Below.setCell ?_ (by simp <;> omega) _)
      exact HB4.out
theorem accept_any (pr pm ar am r m : Int) (A : Option Addr) (l : List UInt8) (c : Nat) (vv : Value) (vl : List UInt8) (w : World) (h : ReadsB w (.slice A l.length c) l) (hl : l.length ≤ 140737488351232) (hv : ReadsB w vv vl) (hvl : vl.length ≤ 140737488351232) :
    Calls Try.prog 8 #[.agg #[.int .i64 pr, .int .i64 pm, .int .i64 ar, .int .i64 am, .slice A l.length c], .agg #[.int .i64 r, .int .i64 m], vv] w (AccOwn ⟨⟨pr, pm⟩, ⟨ar, am⟩, l⟩ ⟨r, m⟩ vl w) := by
  cases hy : prepOk ⟨⟨pr, pm⟩, ⟨ar, am⟩, l⟩ ⟨r, m⟩ with
  | true => exact acc_yes pr pm ar am r m A l c vv vl w h hl hv hvl hy
  | false => exact acc_no pr pm ar am r m A l c vv vl w h hl hy
set_option maxHeartbeats 400000 in
set_option maxRecDepth 100000 in
theorem racc_no (pr pm ar am r m : Int) (A : Option Addr) (l : List UInt8) (c : Nat) (vv : Value) (vl : List UInt8) (w : World) (h : ReadsB w (.slice A l.length c) l) (hno : prepOk ⟨⟨pr, pm⟩, ⟨ar, am⟩, l⟩ ⟨r, m⟩ = false) :
    Calls Try.prog 9 #[.agg #[.int .i64 pr, .int .i64 pm, .int .i64 ar, .int .i64 am, .slice A l.length c], .agg #[.int .i64 r, .int .i64 m], vv] w (AccPost ⟨⟨pr, pm⟩, ⟨ar, am⟩, l⟩ ⟨r, m⟩ vl w) := by
  have HP : Hid (∀ (w' : World), Calls Try.prog 6 #[.agg #[.int .i64 pr, .int .i64 pm, .int .i64 ar, .int .i64 am, .slice A l.length c], .agg #[.int .i64 r, .int .i64 m]] w' fun e w'' => e = .returned (.tuple #[.agg #[.int .i64 pr, .int .i64 pm, .int .i64 ar, .int .i64 am, .slice A l.length c], .bool false]) ∧ Below w'.heap.size w' w'') := fun w' => by
    refine (rprep_any pr pm ar am r m A l c w').mono ?_
    rintro e w'' ⟨rfl, h2⟩
    refine ⟨?_, h2⟩
    rw [hno]; simp
  have HY : Hid (accY ⟨⟨pr, pm⟩, ⟨ar, am⟩, l⟩ ⟨r, m⟩ vl = ⟨⟨pr, pm⟩, ⟨ar, am⟩, l⟩) := by show _ = _; rw [accY, hno]; rfl
  have HV := Lib.hid hno
  have HR := Lib.hid h
  clear h hno
  go_enter Try.func9, Try.ntmps9
  go_wp2_with fail
  refine (HP.out _).mono ?_
  rintro e wo ⟨rfl, hb⟩
  obtain ⟨W1, hW1⟩ : ∃ W1, W1 = wo.alloc (Obj.cells #[Value.int .i64 pr, .int .i64 pm, .int .i64 ar, .int .i64 am, .slice A l.length c] 26) := ⟨_, rfl⟩
  obtain ⟨⟨k0, k1, k2, k3, k4, kf⟩, ⟨n0, n1⟩, ⟨z0, z1, z2, z3, z4, zf⟩, _, hsz, hbn⟩ := acc3 (w' := W1) (hW1 ▸ hb.alloc hb.size _)
  have HBN := Lib.hid hbn
  rw [hW1] at k0 k1 k2 k3 k4 n0 n1 z0 z1 z2 z3 z4 HBN
  have kf : ∀ j, (wo.alloc (Obj.cells #[Value.int .i64 pr, .int .i64 pm, .int .i64 ar, .int .i64 am, .slice A l.length c] 26)).frozen? ⟨w.heap.size, j, none⟩ = false := hW1 ▸ kf
  have zf : ∀ j, (wo.alloc (Obj.cells #[Value.int .i64 pr, .int .i64 pm, .int .i64 ar, .int .i64 am, .slice A l.length c] 26)).frozen? ⟨w.heap.size + 2, j, none⟩ = false := hW1 ▸ zf
  clear hb hbn hW1 hsz
  go_wp2_with fail
  refine bodyPost_ret (v := .tuple #[.agg #[.int .i64 pr, .int .i64 pm, .int .i64 ar, .int .i64 am, .slice A l.length c], .bool false]) (by simp [results, Try.results9, go_sem, *]) rfl ?_
  have hfin : ∀ w', Below w.heap.size w w' → AccPost ⟨⟨pr, pm⟩, ⟨ar, am⟩, l⟩ ⟨r, m⟩ vl w (.returned (.tuple #[.agg #[.int .i64 pr, .int .i64 pm, .int .i64 ar, .int .i64 am, .slice A l.length c], .bool false])) w' := fun w' hb =>
    ⟨A, c, by rw [HY.out, HV.out], by rw [HY.out]; exact HR.out.below hb, hb⟩
  refine hfin _ ?_
  repeat (refine Below.setCell ?_ (by simp <;> omega) _)
  exact HBN.out
set_option maxHeartbeats 400000 in
set_option maxRecDepth 100000 in
theorem racc_yes (pr pm ar am r m : Int) (A : Option Addr) (l : List UInt8) (c : Nat) (vv : Value) (vl : List UInt8) (w : World) (hv : ReadsB w vv vl) (hvl : vl.length ≤ 140737488351232) (hyes : prepOk ⟨⟨pr, pm⟩, ⟨ar, am⟩, l⟩ ⟨r, m⟩ = true) :
    Calls Try.prog 9 #[.agg #[.int .i64 pr, .int .i64 pm, .int .i64 ar, .int .i64 am, .slice A l.length c], .agg #[.int .i64 r, .int .i64 m], vv] w (AccPost ⟨⟨pr, pm⟩, ⟨ar, am⟩, l⟩ ⟨r, m⟩ vl w) := by
  have HP : Hid (∀ (w' : World), Calls Try.prog 6 #[.agg #[.int .i64 pr, .int .i64 pm, .int .i64 ar, .int .i64 am, .slice A l.length c], .agg #[.int .i64 r, .int .i64 m]] w' fun e w'' => e = .returned (.tuple #[.agg #[.int .i64 r, .int .i64 m, .int .i64 ar, .int .i64 am, .slice A l.length c], .bool true]) ∧ Below w'.heap.size w' w'') := fun w' => by
    refine (rprep_any pr pm ar am r m A l c w').mono ?_
    rintro e w'' ⟨rfl, h2⟩
    refine ⟨?_, h2⟩
    rw [hyes]; simp
  have HY : Hid (accY ⟨⟨pr, pm⟩, ⟨ar, am⟩, l⟩ ⟨r, m⟩ vl = ⟨⟨r, m⟩, ⟨r, m⟩, vl⟩) := by show _ = _; rw [accY, hyes]; rfl
  have HV := Lib.hid hyes
  have HC : Hid (∀ w', Below w.heap.size w w' → ∃ ov wA, (Builtin.append_ #[24, 24] 24 #[.slice (some ⟨w'.heap.size, 0, none⟩) 0 0, vv]).run Try.prog (w'.alloc (.cells #[] 5)) = .ok ov wA ∧ wA.ownsRow w'.heap.size 5 1 ov vl.length (u8s vl) ∧ Below w'.heap.size w' wA) := fun w' hb => own_copy vv vl w' (hv.below hb) hvl
  obtain ⟨Av, cv, rfl⟩ := hv.slice
  clear hv hvl hyes
  go_enter Try.func9, Try.ntmps9
  go_wp2_with fail
  refine (HP.out _).mono ?_
  rintro e wo ⟨rfl, hb⟩
  obtain ⟨W4, hW4⟩ : ∃ W4, W4 = wo.alloc (Obj.cells #[Value.int .i64 r, .int .i64 m, .int .i64 r, .int .i64 m, .slice A l.length c] 26) := ⟨_, rfl⟩
  have hb4 := hW4 ▸ hb.alloc hb.size (Obj.cells #[Value.int .i64 r, .int .i64 m, .int .i64 r, .int .i64 m, .slice A l.length c] 26)
  obtain ⟨ov, wA, hap, hown, hbA⟩ := HC.out W4 (acc3 hb4).2.2.2.2.2
  have hbk4 : W4.heap[wo.heap.size]? = some (Obj.cells #[Value.int .i64 r, .int .i64 m, .int .i64 r, .int .i64 m, .slice A l.length c] 26) := hW4 ▸ heap_alloc_new wo _
  have hwo : wo.heap.size < W4.heap.size := by rw [hW4]; simp
  obtain ⟨k0, k1, k2, k3, k4, kf⟩ := cells5 ((hbA.block _ hwo).trans hbk4)
  have hq := acc3 (hb4.trans (hbA.mono hb4.size))
  obtain ⟨_, _, ⟨z0, z1, z2, z3, z4, zf⟩, _, hszA, hbn⟩ := hq
  have HBN := Lib.hid hbn
  have h5 : w.heap.size + 3 ≤ wo.heap.size := (acc3 hb).2.2.2.2.1
  have H5 := Lib.hid h5
  have HOW := Lib.hid (own_mono (base' := wo.heap.size + 1) hown (by rw [hW4]; simp))
  obtain ⟨Ao, co, rfl⟩ := own_slice hown
  have hsz4 : W4.heap.size = wo.heap.size + 1 := by rw [hW4]; simp
  obtain ⟨_, ⟨n0, n1⟩, _⟩ := acc3 (hb.alloc hb.size (Obj.cells #[Value.int .i64 r, .int .i64 m, .int .i64 ar, .int .i64 am, .slice A l.length c] 26))
  rw [hsz4] at hap
  rw [hW4] at hap
  have hne : ¬ wo.heap.size = w.heap.size + 2 := by omega
  clear hb hbn hW4 hb4 hown hbA hbk4 hwo hszA hsz4 h5
  go_wp2_with (at_builtin; refine wpList_append_run rfl rfl rfl rfl hap ?_)
  have hfin : ∀ w', Below w.heap.size w w' → w'.ownsRow (wo.heap.size + 1) 5 1 (.slice Ao vl.length co) vl.length (u8s vl) → AccPost ⟨⟨pr, pm⟩, ⟨ar, am⟩, l⟩ ⟨r, m⟩ vl w (.returned (.tuple #[.agg #[.int .i64 r, .int .i64 m, .int .i64 r, .int .i64 m, .slice Ao vl.length co], .bool true])) w' := fun w' hb ho =>
    ⟨Ao, co, by rw [HY.out, HV.out], by rw [HY.out]; exact ReadsB.own ho, hb⟩
  refine bodyPost_ret (v := .tuple #[.agg #[.int .i64 r, .int .i64 m, .int .i64 r, .int .i64 m, .slice Ao vl.length co], .bool true]) (by simp [results, Try.results9, go_sem, *]) rfl (hfin _ ?_ ?_)
  · repeat (refine Below.setCell ?_ (by have := H5.out; simp <;> omega) _)
    exact HBN.out
  · repeat (refine own_low ?_ (by have := H5.out; simp <;> omega) _ _)
    exact HOW.out
theorem raccept_any (pr pm ar am r m : Int) (A : Option Addr) (l : List UInt8) (c : Nat) (vv : Value) (vl : List UInt8) (w : World) (h : ReadsB w (.slice A l.length c) l) (hv : ReadsB w vv vl) (hvl : vl.length ≤ 140737488351232) :
    Calls Try.prog 9 #[.agg #[.int .i64 pr, .int .i64 pm, .int .i64 ar, .int .i64 am, .slice A l.length c], .agg #[.int .i64 r, .int .i64 m], vv] w (AccPost ⟨⟨pr, pm⟩, ⟨ar, am⟩, l⟩ ⟨r, m⟩ vl w) := by
  cases hy : prepOk ⟨⟨pr, pm⟩, ⟨ar, am⟩, l⟩ ⟨r, m⟩ with
  | true => exact racc_yes pr pm ar am r m A l c vv vl w hv hvl hy
  | false => exact racc_no pr pm ar am r m A l c vv vl w h hy

theorem same_any (pr pm ar am : Int) (A1 A2 : Option Addr) (l : List UInt8) (c1 c2 : Nat) (w : World) (h1 : ReadsB w (.slice A1 l.length c1) l) (h2 : ReadsB w (.slice A2 l.length c2) l) :
    Calls Try.prog 7 #[.agg #[.int .i64 pr, .int .i64 pm, .int .i64 ar, .int .i64 am, .slice A1 l.length c1], .agg #[.int .i64 pr, .int .i64 pm, .int .i64 ar, .int .i64 am, .slice A2 l.length c2]] w (Ans (.bool true) w) := by
  have hb : ∀ o o2 : Obj, Below w.heap.size w ((w.alloc o).alloc o2) := fun o o2 => ((Below.refl _ _).alloc (Nat.le_refl _) _).alloc (by simp) _
  have hc1 := fun o o2 => conv_reads (h1.below (hb o o2))
  have hc2 := fun o o2 => conv_reads (h2.below (hb o o2))
  have HB := Lib.hid hb
  clear h1 h2 hb
  go_enter Try.func7, Try.ntmps7
  go_wp2_with fail
  go_ret
  exact ⟨rfl, HB.out _ _⟩
end Go.Proofs.Ytaopfgoofhojeaa
