/- FlightOwns: the walk and the row. -/
import Derived.Test.YtlieepbmmfdeoaaAwake
import Derived.Test.YtlieepbmmfdeoaaBytesIn
import Derived.Deep.CondSized
namespace Go.Proofs.Ytlieepbmmfdeoaa.flightOwns
open Go.RowKit Own
open Go.ChangeShapes Go.WideShapes Go.ChangeAt

/-- one more, byte by byte -/
def inc (b : UInt8) : UInt8 := b + 1
theorem inc_val (b : UInt8) : ((inc b).toNat : Int) = ((b.toNat : Int) + 1) % 256 := by
  simp [inc, UInt8.toNat_add]

/-- a row of bytes of which the first j are turned -/
def turned (l : List UInt8) (j : Nat) : List Value := u8s ((l.take j).map inc ++ l.drop j)
theorem turned_zero (l : List UInt8) : turned l 0 = u8s l := by simp [turned]
theorem turned_at (l : List UInt8) (j : Nat) (hj : j < l.length) : (turned l j)[j]? = some (.int .u8 ((l[j]'hj).toNat : Int)) := by
  have h : ((l.take j).map inc ++ l.drop j)[j]? = some (l[j]'hj) := by
    rw [List.getElem?_append_right (by simp; omega)]
    simp only [List.length_map, List.length_take, Nat.min_eq_left (Nat.le_of_lt hj), Nat.sub_self, List.getElem?_drop, Nat.add_zero]
    exact List.getElem?_eq_getElem hj
  rw [turned, u8s, List.getElem?_map, h]; rfl
theorem turned_set (l : List UInt8) (j : Nat) (hj : j < l.length) : (turned l j).set j (.int .u8 ((((l[j]'hj).toNat : Int) + 1) % 256)) = turned l (j + 1) := by
  have h : ((l.take j).map inc ++ l.drop j).set j (inc (l[j]'hj)) = (l.take (j + 1)).map inc ++ l.drop (j + 1) := by
    rw [List.set_append_right _ _ (by simp; omega)]
    simp only [List.length_map, List.length_take, Nat.min_eq_left (Nat.le_of_lt hj), Nat.sub_self]
    rw [List.drop_eq_getElem_cons hj, List.set_cons_zero, List.take_succ_eq_append_getElem hj, List.map_append, List.append_assoc]
    rfl
  unfold turned
  rw [← h, u8s, u8s, List.map_set, inc_val]

/-- the flight, and a row of bytes that is being turned -/
structure St (w0 : World) (fb mb : Nat) (lv : Value) (L : List (Msg × Value)) (v : Value) (l : List UInt8) (j : Nat) (w : World) : Prop where
  fl : Fl w0 fb mb 0 noKeys lv L w
  own : w.ownsRow w0.heap.size 5 1 v l.length (turned l j)
  far : ∀ p ∈ L, ∀ g, v.ownBlock = some g → p.2.ownBlock ≠ some g

theorem St.step {w0 w : World} {fb mb j : Nat} {lv v : Value} {L : List (Msg × Value)} {l : List UInt8} (h : St w0 fb mb lv L v l j w) (hj : j < l.length) :
    ∃ g cap x, v = .slice (some ⟨g, 0, none⟩) l.length cap ∧ l.length ≤ cap ∧ x = ((l[j]'hj).toNat : Int) ∧ w.cell? ⟨g, j, none⟩ = some (.int .u8 x) ∧ w.frozen? ⟨g, j, none⟩ = false ∧
      St w0 fb mb lv L v l (j + 1) (w.setCell ⟨g, j, none⟩ (.int .u8 ((x + 1) % 256))) := by
  obtain ⟨g, cap, rfl, hg, hlt, hcap, hcell, hfz, cur, hh⟩ := own_reads h.own (by omega)
  refine ⟨g, cap, _, rfl, hcap, rfl, by rw [hcell j hj, turned_at l j hj], hfz j, h.fl.setByte g j _ hg ⟨cur, hh⟩ (fun p hp => h.far p hp g rfl), ?_, h.far⟩
  rw [← turned_set l j hj]
  exact own_set h.own _

theorem Fl.same {w0 w w' : World} {fb mb n : Nat} {f : Value → Option Value} {lv : Value} {L : List (Msg × Value)} (h : Fl w0 fb mb n f lv L w) (hh : w'.heap = w.heap) (hb : Below w0.heap.size w0 w') : Fl w0 fb mb n f lv L w' :=
  ⟨⟨h.at_.hB, by rw [hh]; exact h.at_.st, own_same h.at_.own fun g _ => by rw [hh], fun p hp => own_same (h.at_.bytes p hp) fun g _ => by rw [hh]⟩, h.map.same (by rw [hh]), h.hmb, h.all, hb, h.wf⟩
theorem St.drewN {w0 w : World} {fb mb j : Nat} {lv v : Value} {L : List (Msg × Value)} {l : List UInt8} {a : Addr} {u : Value} (h : St w0 fb mb lv L v l j (w.setCell a u)) (n : Nat) : St w0 fb mb lv L v l j ((w.drewN n).setCell a u) :=
  ⟨Fl.same h.fl rfl ⟨h.fl.below.os, h.fl.below.tape, h.fl.below.output, h.fl.below.size, h.fl.below.block⟩, own_same h.own fun _ _ => rfl, h.far⟩
def mOf (l : List UInt8) : Msg := ⟨1, 2, l⟩
def P1 (w0 : World) (fb mb : Nat) (ov : Value) (l : List UInt8) (w : World) : Prop :=
  ∃ lv v1, Fl w0 fb mb 0 noKeys lv [(mOf l, v1)] w ∧ w.ownsRow w0.heap.size 5 1 ov l.length (u8s l) ∧ ∀ g, ov.ownBlock = some g → v1.ownBlock ≠ some g
theorem c_post {w0 w1 wA : World} {fb mb : Nat} {ov : Value} {l : List UInt8} (h1 : Fl w0 fb mb 0 noKeys (.slice none 0 0) [] w1) (hown : wA.ownsRow w1.heap.size 5 1 ov l.length (u8s l)) (hb : Below w1.heap.size w1 wA) (hl : l.length ≤ 140737488351232) :
    Calls Try.prog 12 #[.pointer (some ⟨fb, 0, none⟩), .int .i64 1, .int .i64 2, ov] wA fun e w' => e = .returned (.bool true) ∧ P1 w0 fb mb ov l w' := by
  have hA := h1.go hb
  refine (fl_post hA 1 2 ov l (ReadsB.own hown) (by decide) (by decide) hl (by simp)).mono ?_
  rintro e w2 ⟨rfl, hk, lv, L, h2, v1, rfl, hv1⟩
  refine ⟨rfl, lv, v1, h2, own_mono (hk.own hown (by decide) (by decide) hA.isMap) h1.below.size, fun g hg hg1 => ?_⟩
  have a1 := (hown.lt g hg).2
  have a2 := (hv1.lt g hg1).1
  omega
theorem c_twice {w0 w : World} {fb mb : Nat} {ov : Value} {l : List UInt8} (h : P1 w0 fb mb ov l w) :
    Calls Try.prog 11 #[.pointer (some ⟨fb, 0, none⟩), .int .i64 0] w fun e w' => e = .returned (.bool true) ∧ ∃ lv v1 v2, St w0 fb mb lv [(mOf l, v1), (mOf l, v2)] ov l 0 w' := by
  obtain ⟨lv, v1, hF, hown, hfar⟩ := h
  refine (fl_twice hF 0 (Nat.zero_lt_succ _) (by simp)).mono ?_
  rintro e w2 ⟨rfl, hk, lv2, L, h2, v2, rfl, hv2⟩
  refine ⟨rfl, lv2, v1, v2, h2, by rw [turned_zero]; exact hk.own hown (by decide) (by decide) hF.isMap, fun p hp g hg => ?_⟩
  simp only [List.mem_cons, List.mem_nil_iff, or_false] at hp
  rcases hp with rfl | rfl
  · exact hfar g hg
  · intro hg2
    have a1 := (hown.lt g hg).2
    have a2 := (hv2.lt g hg2).1
    omega
theorem far_new {w0 w w' : World} {fb mb : Nat} {lv x : Value} {L : List (Msg × Value)} {l : List UInt8} (hF : Fl w0 fb mb 0 noKeys lv L w) (hx : w'.ownsRow w.heap.size 5 1 x l.length (u8s l)) : ∀ p ∈ L, ∀ g, x.ownBlock = some g → p.2.ownBlock ≠ some g := fun p hp g hg hg2 => by
  have a1 := ((hF.at_.bytes p hp).lt g hg2).2
  have a2 := (hx.lt g hg).1
  omega
def tellV (x : Value) : Value := .tuple #[.int .i64 1, .int .i64 2, x, .bool true]
theorem c_look {w0 w : World} {fb mb j : Nat} {lv ov v1 v2 : Value} {l : List UInt8} (h : St w0 fb mb lv [(mOf l, v1), (mOf l, v2)] ov l j w) :
    Calls Try.prog 10 #[.pointer (some ⟨fb, 0, none⟩), .int .i64 0] w fun e w' => ∃ x, e = .returned (tellV x) ∧ St w0 fb mb lv [(mOf l, v1), (mOf l, v2)] x l 0 w' := by
  refine (fl_look h.fl 0 (Nat.zero_lt_succ _) (by simp)).mono ?_
  rintro e w2 ⟨x, rfl, hx, h2, _⟩
  exact ⟨x, rfl, h2, by rw [turned_zero]; exact own_mono hx h.fl.below.size, far_new h.fl hx⟩
theorem c_deliver {w0 w : World} {fb mb j : Nat} {lv ov v1 v2 : Value} {l : List UInt8} (h : St w0 fb mb lv [(mOf l, v1), (mOf l, v2)] ov l j w) :
    Calls Try.prog 9 #[.pointer (some ⟨fb, 0, none⟩), .int .i64 0] w fun e w' => ∃ x lv', e = .returned (tellV x) ∧ St w0 fb mb lv' [(mOf l, v2)] x l 0 w' := by
  refine (fl_deliver h.fl 0 (Nat.zero_lt_succ _) (by simp)).mono ?_
  rintro e w2 ⟨x, rfl, hx, _, lv', h2⟩
  exact ⟨x, lv', rfl, h2, by rw [turned_zero]; exact own_mono hx h.fl.below.size, fun p hp => far_new h.fl hx p (List.mem_cons_of_mem _ hp)⟩
theorem c_last {w0 w : World} {fb mb j : Nat} {lv ov v2 : Value} {l : List UInt8} (h : St w0 fb mb lv [(mOf l, v2)] ov l j w) :
    Calls Try.prog 9 #[.pointer (some ⟨fb, 0, none⟩), .int .i64 0] w fun e w' => ∃ x, e = .returned (tellV x) ∧ ReadsB w' x l ∧ Below w0.heap.size w0 w' := by
  refine (fl_deliver h.fl 0 (Nat.zero_lt_succ _) (by simp)).mono ?_
  rintro e w2 ⟨x, rfl, hx, _, lv', h2⟩
  exact ⟨x, rfl, ReadsB.own hx, h2.below⟩

set_option maxRecDepth 100000 in
theorem walk (v : Value) (l : List UInt8) (w : World) (hv : ReadsB w v l) (hl : l.length ≤ 140737488351232) :
    Calls Try.prog 5 #[v] w fun e w' => e = .returned (.bool true) ∧ Below w.heap.size w w' := by
  have HN := Lib.hid (fun w => fl_new w)
  have HA := Lib.hid (fun (w1 : World) (h : Below w.heap.size w w1) => own_copy v l w1 (hv.below h) hl)
  have HR : Hid (∀ w', Below w.heap.size w w' → ReadsB w' v l) := fun w' h => hv.below h
  have HP := Lib.hid (fun (w1 wA : World) (fb mb : Nat) (ov : Value) (h1 : Fl w fb mb 0 noKeys (.slice none 0 0) [] w1) (hown : wA.ownsRow w1.heap.size 5 1 ov l.length (u8s l)) (hb : Below w1.heap.size w1 wA) => c_post h1 hown hb hl)
  have hlm : (l.length : Int) ≤ 140737488351232 := by omega
  obtain ⟨Av, cv, rfl⟩ := hv.slice
  have HV := Lib.hid hv
  clear hv hl
  go_enter Try.func5, Try.ntmps5
  go_wp2_with (first
    | (go_at_call 8; refine (HN.out _).mono ?_; rintro e w1 ⟨fb, mb, rfl, h1⟩; obtain ⟨ov, wA, hap, hown, hbA⟩ := HA.out w1 h1.below)
    | (at_builtin; refine wpList_append_run rfl rfl rfl rfl hap ?_)
    | (go_at_call 12; refine (HP.out w1 wA fb mb ov h1 hown hbA).mono ?_; rintro e w2 ⟨rfl, h2⟩; clear hap h1 hbA; obtain ⟨Ao, co, rfl⟩ := own_slice hown; clear hown)
    | (go_at_call 11; refine (c_twice h2).mono ?_; rintro e w3 ⟨rfl, lv, v1, v2, h3⟩; clear h2))
  have HS := Lib.hid h3
  clear h3
  go_loopw [5] (fun i wr => ∃ j : Nat, i = .int .i64 j ∧ j ≤ l.length ∧ Hid (St w fb mb lv [(mOf l, v1), (mOf l, v2)] (.slice Ao l.length co) l j wr)) (fun i _ => l.length - (intOf i).toNat)
  case atStart => exact ⟨0, rfl, Nat.zero_le _, HS⟩
  case round =>
    obtain ⟨j, rfl, hjk, HJ⟩ := hrel
    obtain ⟨wL, rfl⟩ : ∃ wo : World, wo = wr := ⟨_, rfl⟩
    by_cases hj : j < l.length
    · have hj' : (j : Int) < (l.length : Int) := by omega
      obtain ⟨g, cap, x, hvv, hcap, hx, hcell, hfz, hnext⟩ := St.step HJ.out hj
      cases hvv
      have HNx := Lib.hid hnext
      clear hnext hx HJ HS
      go_wp2_with fail
      go_roundw
      case rel => exact ⟨j + 1, by go_num, by omega, HNx⟩
      case measure => simp [intOf]; omega
    · obtain rfl : j = l.length := by omega
      clear HS
      go_wp2_with (go_at_call 10; refine (c_look HJ.out).mono ?_; rintro e w5 ⟨x, rfl, h5⟩; unfold tellV; obtain ⟨Ax, cx, rfl⟩ := own_slice h5.own)
      have HS := Lib.hid h5
      clear h5 HJ
      go_loopw [10] (fun i wr => ∃ j : Nat, i = .int .i64 j ∧ j ≤ l.length ∧ Hid (St w fb mb lv [(mOf l, v1), (mOf l, v2)] (.slice Ax l.length cx) l j wr)) (fun i _ => l.length - (intOf i).toNat)
      case atStart => exact ⟨0, rfl, Nat.zero_le _, HS⟩
      case round =>
        obtain ⟨j, rfl, hjk, HJ⟩ := hrel
        obtain ⟨wL, rfl⟩ : ∃ wo : World, wo = wr := ⟨_, rfl⟩
        by_cases hj : j < l.length
        · have hj' : (j : Int) < (l.length : Int) := by omega
          obtain ⟨g, cap, x, hvv, hcap, hx, hcell, hfz, hnext⟩ := St.step HJ.out hj
          cases hvv
          have HNx := Lib.hid hnext
          clear hnext hx HJ HS
          go_wp2_with fail
          go_roundw
          case rel => exact ⟨j + 1, by go_num, by omega, HNx⟩
          case measure => simp [intOf]; omega
        · obtain rfl : j = l.length := by omega
          clear HS
          go_wp2_with (go_at_call 9; refine (c_deliver HJ.out).mono ?_; rintro e w6 ⟨y, lv6, rfl, h6⟩; unfold tellV; obtain ⟨Ay, cy, rfl⟩ := own_slice h6.own)
          have HS := Lib.hid h6
          clear h6 HJ
          go_loopw [15] (fun i wr => ∃ j : Nat, i = .int .i64 j ∧ j ≤ l.length ∧ Hid (St w fb mb lv6 [(mOf l, v2)] (.slice Ay l.length cy) l j wr)) (fun i _ => l.length - (intOf i).toNat)
          case atStart => exact ⟨0, rfl, Nat.zero_le _, HS⟩
          case round =>
            obtain ⟨j, rfl, hjk, HJ⟩ := hrel
            obtain ⟨wL, rfl⟩ : ∃ wo : World, wo = wr := ⟨_, rfl⟩
            by_cases hj : j < l.length
            · have hj' : (j : Int) < (l.length : Int) := by omega
              have hj0 : (0 : Int) ≤ (j : Int) := by omega
              obtain ⟨g, cap, x, hvv, hcap, hx, hcell, hfz, hnext⟩ := St.step HJ.out hj
              cases hvv
              obtain ⟨bb, off, cb, hvv, hbc⟩ := (HR.out _ HJ.out.fl.below).at_ (by omega)
              cases hvv
              have hbj := hbc j hj
              rw [← hx] at hbj
              have hcell' : wL.drew.cell? ⟨g, j, none⟩ = some (.int .u8 x) := hcell
              have hbj' : wL.drew.cell? ⟨bb, off + j, none⟩ = some (.int .u8 x) := hbj
              have hxx : (x != x) = false := by simp
              have HNx : ∀ n, Hid (St w fb mb lv6 [(mOf l, v2)] (.slice (some ⟨g, 0, none⟩) l.length cy) l (j + 1) ((wL.drewN n).setCell ⟨g, j, none⟩ (.int .u8 ((x + 1) % 256)))) := fun n => hnext.drewN n
              clear hnext hx HJ HS hbc
              go_wp2_with fail
              go_quiet (fail)
              go_wp2_with fail
              go_roundw
              case rel => exact ⟨j + 1, by go_num, by omega, HNx _⟩
              case measure => simp [intOf]; omega
            · obtain rfl : j = l.length := by omega
              clear HS
              have hcb := conv_reads (HR.out _ HJ.out.fl.below)
              go_wp2_with (first
                | (go_at_call 9; refine (c_last HJ.out).mono ?_; rintro e w8 ⟨z, rfl, hz, hb8⟩; unfold tellV; obtain ⟨Az, cz, rfl⟩ := hz.slice; have hcz := conv_reads hz; have hcb8 := conv_reads (HR.out _ hb8))
                | (go_at_call 13; refine (awake_any _).mono ?_; rintro e w9 ⟨rfl, hb9⟩))
              go_ret
              exact ⟨rfl, hb8.trans (hb9.mono hb8.size)⟩

set_option maxRecDepth 100000 in
theorem lifted (os : Os) (started : os.Started) (H : Type) (enc : TypeId × Value → H) :
    ReturnsInHanded {} Try.checked os 5 .any (Rows.flightOwnsSpec.pre6 enc Try.prog Try.f5 Rows.flightOwnsRow.domain false) (Rows.flightOwnsSpec.post enc Try.prog Try.f5 false true false false) := by
  refine returnsInHanded_of_change_sized (C := Try.checked) Law.own started (by kernel_rfl) Try.func5
    (ChangeSpec.witness6 (enc := enc) (C := Try.checked) false ⟨#[], #[.slice none 0 0], []⟩ 8 (by kernel_rfl) (by kernel_rfl) (by kernel_rfl) (by kernel_rfl)) ?_
  intro W base args ds gs before hval0 hW hcnd hsz _
  have hval : ∀ (j : Nat) t v, Try.f5.params[j]? = some t → args[j]? = some v → Value.okWide Try.prog W .any base t v := hval0
  have hW' := hW
  obtain ⟨p, q, hA0, hV, rfl, hfz, hnd⟩ := hW
  have hA : DataW.TrodAll enc Try.prog W 0 (fun _ => true) true Try.f5.params.toList args.toList ds p := hA0
  rw [Try.params5] at hA hval
  obtain ⟨v0, vs0, d0, ds0, p0, q0, hargs, rfl, rfl, h0, r0⟩ := trodAll_cons hA
  obtain ⟨rfl, rfl, rfl⟩ := trodAll_nil r0
  obtain rfl : args = #[v0] := by cases args; simp_all
  obtain ⟨rfl, rfl⟩ := trodVars_none hV
  obtain ⟨l, hrd, hd⟩ := open_bytes (hval 0 26 v0 rfl rfl) h0
  have hl : l.length ≤ 140737488351232 := by
    rcases hd with ⟨_, rfl⟩ | ⟨el, sp, rfl, hel⟩
    · simp
    · have := sized_slice (P := Try.prog) hsz (j := 0) rfl rfl Try.underlying26
      rw [bytesByte] at this
      simp only [reachBytes] at this
      omega
  exact (walk v0 l W hrd hl).mono fun e W' ⟨he, hb⟩ => ⟨_, he, Law.post hW' (by kernel_rfl) rfl rfl (by kernel_rfl) hb⟩

theorem proved : Rows.FlightOwnsSaid :=
  OpenClaim.holds_of_wide 5 Try.f5 rfl rfl rfl rfl rfl rfl rfl ⟨rfl, rfl, rfl, rfl, rfl⟩ rfl rfl rfl rfl rfl (by kernel_rfl) Try.func5 (by kernel_rfl)
    (of_decide_eq_true (by kernel_rfl)) (by unfold Func.isWrapper; first | (rw [if_pos (by decide +kernel)]; kernel_rfl) | (rw [if_neg (by decide +kernel)]; exact ⟨rfl, rfl⟩))
    (fun os started H enc _ => lifted os started H enc)
#print axioms proved
end Go.Proofs.Ytlieepbmmfdeoaa.flightOwns
