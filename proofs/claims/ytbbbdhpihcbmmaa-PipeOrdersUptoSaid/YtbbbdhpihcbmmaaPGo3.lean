/- The walk of orders' goes, of one call: the first step. -/
import Derived.Test.YtbbbdhpihcbmmaaGGo
import Derived.Laws.IdiomStrings
import Derived.Deep.RegionWith
namespace Go.Proofs.Ytbbbdhpihcbmmaa
open Go.RowKit Own
open Go.Maps (Keyed)

/-- '[]byte("")' -/
theorem conv_empty (w : World) : ∃ c w', (convert 9 23 (.string ⟨#[]⟩)).run Try.prog w = .ok (.slice (some ⟨w.heap.size, 0, none⟩) 0 c) w' ∧ Below w.heap.size w w' := by
  have hr := run_bytes_of_string (P := Try.prog) w 9 23 5 ⟨#[]⟩ Try.underlying9 Try.underlying23 Try.underlying5
  have hdr : Below w.heap.size w w.drew := ⟨rfl, rfl, rfl, Nat.le_refl _, fun _ _ => rfl⟩
  exact ⟨_, _, hr, hdr.alloc (Nat.le_refl _) _⟩
/-- what the cells held they hold -/
def Kept (w w' : World) : Prop := ∀ ad v, w.cell? ad = some v → w'.cell? ad = some v
theorem Kept.refl (w : World) : Kept w w := fun _ _ h => h
theorem Kept.trans {a b c : World} (h : Kept a b) (k : Kept b c) : Kept a c := fun ad v hv => k ad v (h ad v hv)
theorem Kept.of_below {w w' : World} (h : Below w.heap.size w w') : Kept w w' := fun _ _ hv => (h.cell (World.block_lt_of_cell? _ _ hv)).trans hv
theorem Kept.of_chg {w w' : World} {mm : Nat} (h : Chg [mm] w w') (hm : ∃ es clock, w.heap[mm]? = some (.map es clock)) : Kept w w' := fun ad v hv => by
  obtain ⟨es, clock, hm⟩ := hm
  have hnm : ad.block ≠ mm := by
    intro e
    simp only [World.cell?, e, hm] at hv
    cases hv
  rw [← hv]
  simp only [World.cell?, h.block ad.block (World.block_lt_of_cell? _ _ hv) (by simpa using hnm)]
theorem ReadsB.kept {w w' : World} {v : Value} {l : List UInt8} (hv : ReadsB w v l) (hk : Kept w w') : ReadsB w' v l := by
  rcases hv with hv | ⟨a, cc, rfl, hcl⟩
  · exact .inl hv
  · exact .inr ⟨a, cc, rfl, fun j u hu => hk _ _ (hcl j u hu)⟩
theorem stV_ne (has : Bool) (s : ByteArray) : stV 1 has s ≠ stV 0 false ⟨#[]⟩ := by
  unfold stV
  intro h
  simp at h
theorem doR_dlen (c : CallIn) : (doR c false []).data.length ≤ 140737488351232 := by
  unfold doR
  by_cases h1 : MayC c
  · by_cases h2 : c.k = 1
    · simp [h1, h2]
    · simp [h1, h2]
  · simp [h1]
def repOf (x : DoR) : RepIn := ⟨x.code, x.size, x.data⟩

set_option maxHeartbeats 8000000 in
set_option maxRecDepth 100000 in
theorem goes_first (w0 : World) (mc lc gc mm n g cap : Nat) (c : CallIn) (hok : CallOk c) (dA rA : Option Addr) (dc rc : Nat) (r : RepIn) (hrd : r.d.length ≤ 140737488351232) (w : World)
    (h : GE w0 mc lc gc mm n noKeys g cap (spanC c (.slice dA c.d.length dc) 0 1 true r (.slice rA r.d.length rc)) w) (hD : ReadsB w (.slice dA c.d.length dc) c.d) (hR : ReadsB w (.slice rA r.d.length rc) r.d) :
    Calls Try.prog 35 #[.agg #[.int .u64 0, .bool false, .string ⟨#[]⟩], .pointer (some ⟨mc, 0, none⟩), .pointer (some ⟨lc, 0, none⟩), .pointer (some ⟨gc, 0, none⟩)] w fun e w' => e = .returned (.bool (sameB (repOf (doR c false [])) r)) ∧ Below w0.heap.size w0 w' := by
  have hal : ∀ (W : World) o, Below W.heap.size W (W.alloc o) := fun W o => (Below.refl _ _).alloc (Nat.le_refl _) o
  have h1 := h.go (hal w (.cells #[.int .u64 0, .bool false, .string ⟨#[]⟩] 80))
  obtain ⟨m0, m1, m2⟩ := h1.env
  have hlk := h1.look (done := 0) (has := false) (s := ⟨#[]⟩) (by decide) (by decide) rfl
  obtain ⟨W2, hput, hch, h2⟩ := h1.put (done := 0) (has := false) (s := ⟨#[]⟩) (by decide) (by decide)
  have hbx := h1.nbox hch (heap_alloc_new w (.cells #[.int .u64 0, .bool false, .string ⟨#[]⟩] 80))
  unfold stV at hlk hput
  have hfn : ∀ has s, putKey noKeys (stV 0 false ⟨#[]⟩) (.bool true) (stV 1 has s) = none := fun has s => by rw [putKey_other _ _ (stV_ne has s)]; rfl
  have hchb : ∀ {v : Value} {l : List UInt8}, ReadsB w v l → ReadsB W2 v l := fun {v l} hv => by
    obtain ⟨es, clock, hm, _⟩ := h1.map
    exact (hv.below (hal w (.cells #[.int .u64 0, .bool false, .string ⟨#[]⟩] 80))).kept (Kept.of_chg hch ⟨_, _, hm⟩)
  have hD2 := hchb hD
  have hR2 := hchb hR
  have HG := Lib.hid h2
  have HBx := Lib.hid hbx
  have HDR := Lib.hid (And.intro hD2 hR2)
  have HOk := Lib.hid (And.intro hok hrd)
  have HFn := Lib.hid hfn
  have HAl := Lib.hid hal
  obtain ⟨p0, p1, p2⟩ := h2.env
  obtain ⟨k, s, a, d, nn⟩ := c
  obtain ⟨code, size, rd⟩ := r
  dsimp only at HDR HOk
  clear h h1 hch h2 hbx hchb hD2 hR2 hD hR hok hrd hfn hal
  go_enter Try.func35, Try.ntmps35
  go_wp2_with fail
  go_loopw [6, 7, 22] (fun en le i wr => Hid (Below W2.heap.size W2 wr) ∧ ((i = .int .i64 0 ∧ en = .int .i64 4611686018427387904 ∧ le = .bool false) ∨ (i = .int .i64 1 ∧ en = .int .i64 1 ∧ le = .bool true))) (fun _ _ i _ => 1 - (intOf i).toNat)
  case atStart => exact ⟨Below.refl _ _, .inl ⟨rfl, rfl, rfl⟩⟩
  case round =>
    obtain ⟨HB, hi⟩ := hrel
    obtain ⟨wL, rfl⟩ : ∃ wo : World, wo = wr := ⟨_, rfl⟩
    have hg := HG.out.go HB.out
    obtain ⟨c0, c1, c2, c3, c4, c5, c6, c7, c8, c9, c10⟩ := hg.row
    have HGL := Lib.hid hg
    have hbL := (HB.out.block _ (Array.getElem?_eq_some_iff.1 HBx.out).1).trans HBx.out
    have b0 := fun o => cell_of_row (wL.alloc o) w.heap.size 0 _ _ _ (((HAl.out wL o).block _ (Array.getElem?_eq_some_iff.1 hbL).1).trans hbL)
    simp only [List.getElem?_toArray, List.getElem?_cons_zero] at b0
    obtain ⟨pp0, pp1, pp2⟩ := hg.env
    clear hg hbL p0 p1 p2
    rcases hi with ⟨rfl, rfl, rfl⟩ | ⟨rfl, rfl, rfl⟩
    · go_wp2_with fail
      go_roundw
      case rel => exact ⟨HB.out.trans ((HAl.out wL _).mono HB.out.size), .inr ⟨rfl, rfl, rfl⟩⟩
      case measure => simp [intOf]
    · go_wp2_with fail
      go_loopw [46] (fun i wr => (i = .int .i64 0 ∧ wr = wL) ∨ (i = .int .i64 1 ∧ Hid (sameB (repOf (doR ⟨k, s, a, d, nn⟩ false [])) ⟨code, size, rd⟩ = false ∧ Below w0.heap.size w0 wr))) (fun i _ => 1 - (intOf i).toNat)
      case atStart => exact .inl ⟨rfl, rfl⟩
      case round =>
        rcases hrel with ⟨rfl, hwr⟩ | ⟨rfl, HE⟩
        · rw [hwr]
          clear hwr
          obtain ⟨wX, hwX⟩ : ∃ wX, wX = wL.alloc (.cells #[.int .i64 k, .string s, .int .i64 a, .slice dA d.length dc, .int .i64 nn, .int .i64 0, .int .i64 1, .bool true, .int .i64 code, .int .i64 size, .slice rA rd.length rc] 73) := ⟨_, rfl⟩
          have hbX : Below wL.heap.size wL wX := by rw [hwX]; exact HAl.out wL _
          have hxb : wX.heap[wL.heap.size]? = some (.cells #[.int .i64 k, .string s, .int .i64 a, .slice dA d.length dc, .int .i64 nn, .int .i64 0, .int .i64 1, .bool true, .int .i64 code, .int .i64 size, .slice rA rd.length rc] 73 (0, 0)) := by rw [hwX]; exact heap_alloc_new wL _
          have hsX : wX.heap.size = wL.heap.size + 1 := by rw [hwX]; exact Array.size_push _
          obtain ⟨c2, wC, hcv, hbC⟩ := conv_empty wX
          rw [hsX] at hcv
          have hb2L : Below W2.heap.size W2 wL := HB.out
          have hb2X := hb2L.trans (hbX.mono hb2L.size)
          have hb2C := hb2X.trans (hbC.mono hb2X.size)
          have hD := do_any ⟨k, s, a, d, nn⟩ (.slice dA d.length dc) (.slice (some ⟨wL.heap.size + 1, 0, none⟩) 0 c2) false [] wC (HDR.out.1.below hb2C) (.inr ⟨_, _, rfl, fun j u hu => by simp [u8s] at hu⟩) (fun A n cc e => by cases e; exact Nat.zero_le _) (by simp) HOk.out.1.s (Law.wf_i64 HOk.out.1.a).2
          have hlen := doR_len ⟨k, s, a, d, nn⟩ false [] (by simp) (fun m => ⟨m.2.2.2.1, m.2.2.2.2.1, m.2.2.2.2.2.1⟩)
          have hdl := doR_dlen ⟨k, s, a, d, nn⟩
          generalize hx : doR ⟨k, s, a, d, nn⟩ false [] = x at hD hlen hdl
          obtain ⟨rc', rs', rd', rh', rb'⟩ := x
          dsimp only [repOf] at hlen ⊢
          have HDo : Hid (Calls Try.prog 7 #[.agg #[.int .i64 k, .string s, .int .i64 a, .slice dA d.length dc, .int .i64 nn], .bool false, .slice (some ⟨wL.heap.size + 1, 0, none⟩) 0 c2] wC fun e w' => ∃ A1 c1 A2 c3, e = .returned (.tuple #[.agg #[.int .i64 rc', .int .i64 rs', .slice A1 rd'.length c1], .bool rh', .slice A2 rb'.length c3]) ∧ ReadsB w' (.slice A1 rd'.length c1) rd' ∧ OwnB wC.heap.size (.slice A2 rb'.length c3) rb' w' ∧ Below wC.heap.size wC w') := by
            refine hD.mono ?_
            rintro e w' ⟨d1, d2, rfl, o1, o2, hb⟩
            obtain ⟨A1, c1, rfl, _⟩ := o1.form
            obtain ⟨A2, c3, rfl, _⟩ := o2.form
            exact ⟨A1, c1, A2, c3, rfl, o1.reads, o2, hb⟩
          have HSt : Hid (∀ W, Below W2.heap.size W2 W → W.cell? ⟨w.heap.size, 0, none⟩ = some (.int .u64 0) ∧ W.cell? ⟨w.heap.size, 1, none⟩ = some (.bool false) ∧ W.cell? ⟨w.heap.size, 2, none⟩ = some (.string ⟨#[]⟩) ∧ W.cell? ⟨gc, 0, none⟩ = some (.func (.func 35) #[] #[.pointer (some ⟨mc, 0, none⟩), .pointer (some ⟨lc, 0, none⟩), .pointer (some ⟨gc, 0, none⟩)])) := fun W hW => by
            have hb := (hW.block _ (Array.getElem?_eq_some_iff.1 HBx.out).1).trans HBx.out
            exact ⟨by rw [cell_of_row _ _ 0 _ _ _ hb]; rfl, by rw [cell_of_row _ _ 1 _ _ _ hb]; rfl, by rw [cell_of_row _ _ 2 _ _ _ hb]; rfl, (HG.out.go hW).env.2.2⟩
          have HXb : Hid (∀ W, Below wX.heap.size wX W → W.cell? ⟨wL.heap.size, 7, none⟩ = some (.bool true) ∧ W.cell? ⟨wL.heap.size, 8, none⟩ = some (.int .i64 code) ∧ W.cell? ⟨wL.heap.size, 9, none⟩ = some (.int .i64 size) ∧ W.cell? ⟨wL.heap.size, 10, none⟩ = some (.slice rA rd.length rc)) := fun W hW => by
            have hb := (hW.block _ (Array.getElem?_eq_some_iff.1 hxb).1).trans hxb
            exact ⟨by rw [cell_of_row _ _ 7 _ _ _ hb]; rfl, by rw [cell_of_row _ _ 8 _ _ _ hb]; rfl, by rw [cell_of_row _ _ 9 _ _ _ hb]; rfl, by rw [cell_of_row _ _ 10 _ _ _ hb]; rfl⟩
          obtain ⟨q0, q1, q2, _⟩ := HSt.out wX hb2X
          have HAlX : Hid (Below wL.heap.size wL wX) := hbX
          have HBel := Lib.hid (And.intro hb2C hbC)
          have HX : Hid (repOf (doR ⟨k, s, a, d, nn⟩ false []) = ⟨rc', rs', rd'⟩) := congrArg repOf hx
          clear hx
          have HLen := Lib.hid (And.intro hlen hdl)
          clear hlen hdl
          subst hwX
          clear hbX hxb hb2L hb2X hb2C hbC hD b0 pp0 pp2 hsX
          cases hS : sameB ⟨rc', rs', rd'⟩ ⟨code, size, rd⟩ with
          | true =>
            have HS := Lib.hid hS
            clear hS
            go_wp2_with (go_at_call 7; (with_reducible refine HDo.out.mono ?_); rintro e w4 ⟨A1, c1, A2, c3, rfl, hr1, ho, hb4⟩; have HB4 := Lib.hid (And.intro hb4 (And.intro hr1 ho)); clear hr1 ho hb4)
            obtain ⟨wA, hwA⟩ : ∃ wA, wA = w4.alloc (.cells #[.int .i64 rc', .int .i64 rs', .slice A1 rd'.length c1] 26) := ⟨_, rfl⟩
            have hbA : Below w4.heap.size w4 wA := by rw [hwA]; exact HAl.out w4 _
            have hA : wA.heap[w4.heap.size]? = some (.cells #[.int .i64 rc', .int .i64 rs', .slice A1 rd'.length c1] 26 (0, 0)) := by rw [hwA]; exact heap_alloc_new w4 _
            rw [← hwA]
            have r0 := cell_of_row _ _ 0 _ _ _ hA
            have r1 := cell_of_row _ _ 1 _ _ _ hA
            have r2 := cell_of_row _ _ 2 _ _ _ hA
            simp only [List.getElem?_toArray, List.getElem?_cons_zero, List.getElem?_cons_succ] at r0 r1 r2
            have hbWA : Below wC.heap.size wC wA := HB4.out.1.trans (hbA.mono HB4.out.1.size)
            have hb2A : Below W2.heap.size W2 wA := HBel.out.1.trans (hbWA.mono HBel.out.1.size)
            obtain ⟨q0, q1, q2, q3⟩ := HSt.out wA hb2A
            obtain ⟨x7, x8, x9, x10⟩ := HXb.out wA (HBel.out.2.trans (hbWA.mono HBel.out.2.size))
            have hsm := same_any ⟨rc', rs', rd'⟩ ⟨code, size, rd⟩ (.slice A1 rd'.length c1) (.slice rA rd.length rc)
            have HSm : Hid (∀ w', Below wA.heap.size wA w' → Calls Try.prog 36 #[.agg #[.int .i64 rc', .int .i64 rs', .slice A1 rd'.length c1], .agg #[.int .i64 code, .int .i64 size, .slice rA rd.length rc]] w' fun e w'' => e = .returned (.bool true) ∧ Below wA.heap.size wA w'') := fun w' hb => (hsm w' ((HB4.out.2.1.below hbA).below hb) (((HDR.out.2.below HBel.out.1).below hbWA).below hb) HLen.out.2).mono fun _ _ ⟨he, hb2⟩ => ⟨he.trans (by rw [HS.out]), hb.trans (hb2.mono hb.size)⟩
            have HF : Hid (∀ w', Kept wA w' → (fun w' : World => w'.cell? ⟨wL.heap.size, 7, none⟩ = some (.bool true) ∧ w'.cell? ⟨wL.heap.size, 8, none⟩ = some (.int .i64 code) ∧ w'.cell? ⟨wL.heap.size, 9, none⟩ = some (.int .i64 size) ∧ w'.cell? ⟨wL.heap.size, 10, none⟩ = some (.slice rA rd.length rc) ∧ w'.cell? ⟨w4.heap.size, 0, none⟩ = some (.int .i64 rc') ∧ w'.cell? ⟨w4.heap.size, 1, none⟩ = some (.int .i64 rs') ∧ w'.cell? ⟨w4.heap.size, 2, none⟩ = some (.slice A1 rd'.length c1) ∧ w'.cell? ⟨w.heap.size, 0, none⟩ = some (.int .u64 0) ∧ w'.cell? ⟨gc, 0, none⟩ = some (.func (.func 35) #[] #[.pointer (some ⟨mc, 0, none⟩), .pointer (some ⟨lc, 0, none⟩), .pointer (some ⟨gc, 0, none⟩)]) ∧ (convert 23 9 (.slice A2 rb'.length c3)).run Try.prog w' = .ok (.string ⟨rb'.toArray⟩) w') w') := fun w' hb => by
              obtain ⟨e0, _, _, e3⟩ := HSt.out wA hb2A
              obtain ⟨x7, x8, x9, x10⟩ := HXb.out wA (HBel.out.2.trans (hbWA.mono HBel.out.2.size))
              exact ⟨hb _ _ x7, hb _ _ x8, hb _ _ x9, hb _ _ x10, hb _ _ r0, hb _ _ r1, hb _ _ r2, hb _ _ e0, hb _ _ e3, conv_reads (((HB4.out.2.2.below hbA).reads).kept hb)⟩
            have HEnd : Hid (∀ w', Below wA.heap.size wA w' → Calls Try.prog 35 #[.agg #[.int .u64 1, .bool rh', .string ⟨rb'.toArray⟩], .pointer (some ⟨mc, 0, none⟩), .pointer (some ⟨lc, 0, none⟩), .pointer (some ⟨gc, 0, none⟩)] w' fun e w'' => e = .returned (.bool true) ∧ Kept w' w'' ∧ Below w0.heap.size w0 w'') := fun w' hb => by
              have hg := HG.out.go (hb2A.trans (hb.mono hb2A.size))
              obtain ⟨es, clock, hm, _⟩ := hg.map
              refine Calls.mono (R := fun e w'' => e = .returned (.bool true) ∧ Chg [mm] w' w'') ?_ (fun e w'' ⟨he, hc⟩ => ⟨he, Kept.of_chg hc ⟨_, _, hm⟩, hg.below.trans (hc.below hg.below.size (by simpa using hg.ge))⟩)
              exact goes_end w0 mc lc gc mm _ g cap _ ⟨k, s, a, d, nn⟩ dA rA d.length dc rd.length rc 0 1 ⟨code, size, rd⟩ rh' ⟨rb'.toArray⟩ w' hg (by have := HLen.out.1; show rb'.toArray.size ≤ _; rw [List.size_toArray]; omega) (HFn.out rh' _)
            have HbA := Lib.hid (Below.refl wA.heap.size wA)
            have hbits : bits .or .u64 0 (IntKind.u64.wrap 1) = 1 := by decide
            clear hsm hbWA hb2A hbA hA hwA q0 q1 q2 q3 x7 x8 x9 x10 r0 r1 r2
            refine wp_region_held_drew (S := (fun w' : World => w'.cell? ⟨wL.heap.size, 7, none⟩ = some (.bool true) ∧ w'.cell? ⟨wL.heap.size, 8, none⟩ = some (.int .i64 code) ∧ w'.cell? ⟨wL.heap.size, 9, none⟩ = some (.int .i64 size) ∧ w'.cell? ⟨wL.heap.size, 10, none⟩ = some (.slice rA rd.length rc) ∧ w'.cell? ⟨w4.heap.size, 0, none⟩ = some (.int .i64 rc') ∧ w'.cell? ⟨w4.heap.size, 1, none⟩ = some (.int .i64 rs') ∧ w'.cell? ⟨w4.heap.size, 2, none⟩ = some (.slice A1 rd'.length c1) ∧ w'.cell? ⟨w.heap.size, 0, none⟩ = some (.int .u64 0) ∧ w'.cell? ⟨gc, 0, none⟩ = some (.func (.func 35) #[] #[.pointer (some ⟨mc, 0, none⟩), .pointer (some ⟨lc, 0, none⟩), .pointer (some ⟨gc, 0, none⟩)]) ∧ (convert 23 9 (.slice A2 rb'.length c3)).run Try.prog w' = .ok (.string ⟨rb'.toArray⟩) w')) (by kernel_rfl) (HF.out _ (Kept.of_below HbA.out.drew)) (fun hHeld => ?_)
            refine wpAnyH_take (i := 0) (oi := ?_) (v := ?_) ?_ (by kernel_rfl) (by kernel_rfl) (by kernel_rfl) ?_ (Or.inl ⟨?_, ?_⟩) hHeld ?_
            rotate_left 2
            · (simp only [List.getElem?_toArray, List.getElem?_cons_zero]; rfl)
            · exact fun _ _ _ h => h
            · rfl
            · (intro w' hSw; (try dsimp only at hSw); go_simp; first | done | with_reducible rfl)
            try simp only [Act.put, List.setIfInBounds_toArray, List.set_cons_zero, List.set_cons_succ]
            refine wpAnyH_take (i := 1) (oi := ?_) (v := ?_) ?_ (by kernel_rfl) (by kernel_rfl) (by kernel_rfl) ?_ (Or.inl ⟨?_, ?_⟩) hHeld ?_
            rotate_left 2
            · (simp only [List.getElem?_toArray, List.getElem?_cons_succ, List.getElem?_cons_zero]; rfl)
            · exact fun _ _ _ h => h
            · rfl
            · (intro w' hSw; (try dsimp only at hSw); go_simp; first | done | with_reducible rfl)
            try simp only [Act.put, List.setIfInBounds_toArray, List.set_cons_zero, List.set_cons_succ]
            refine wpAnyH_take (i := 2) (oi := ?_) (v := ?_) ?_ (by kernel_rfl) (by kernel_rfl) (by kernel_rfl) ?_ (Or.inl ⟨?_, ?_⟩) hHeld ?_
            rotate_left 2
            · (simp only [List.getElem?_toArray, List.getElem?_cons_succ, List.getElem?_cons_zero]; rfl)
            · exact fun _ _ _ h => h
            · rfl
            · (intro w' hSw; (try dsimp only at hSw); go_simp; first | done | with_reducible rfl)
            try simp only [Act.put, List.setIfInBounds_toArray, List.set_cons_zero, List.set_cons_succ]
            refine wpAnyH_take (i := 3) (oi := ?_) (v := ?_) ?_ (by kernel_rfl) (by kernel_rfl) (by kernel_rfl) ?_ (Or.inl ⟨?_, ?_⟩) hHeld ?_
            rotate_left 2
            · (simp only [List.getElem?_toArray, List.getElem?_cons_succ, List.getElem?_cons_zero]; rfl)
            · exact fun _ _ _ h => h
            · rfl
            · (intro w' hSw; (try dsimp only at hSw); go_simp; first | done | with_reducible rfl)
            try simp only [Act.put, List.setIfInBounds_toArray, List.set_cons_zero, List.set_cons_succ]
            refine wpAnyH_take (i := 4) (oi := ?_) (v := ?_) ?_ (by kernel_rfl) (by kernel_rfl) (by kernel_rfl) ?_ (Or.inl ⟨?_, ?_⟩) hHeld ?_
            rotate_left 2
            · (simp only [List.getElem?_toArray, List.getElem?_cons_succ, List.getElem?_cons_zero]; rfl)
            · exact fun _ _ _ h => h
            · rfl
            · (intro w' hSw; (try dsimp only at hSw); go_simp; first | done | with_reducible rfl)
            try simp only [Act.put, List.setIfInBounds_toArray, List.set_cons_zero, List.set_cons_succ]
            refine wpAnyH_take (i := 5) (oi := ?_) (v := ?_) ?_ (by kernel_rfl) (by kernel_rfl) (by kernel_rfl) ?_ (Or.inl ⟨?_, ?_⟩) hHeld ?_
            rotate_left 2
            · (simp only [List.getElem?_toArray, List.getElem?_cons_succ, List.getElem?_cons_zero]; rfl)
            · exact fun _ _ _ h => h
            · rfl
            · (intro w' hSw; (try dsimp only at hSw); go_simp; first | done | with_reducible rfl)
            try simp only [Act.put, List.setIfInBounds_toArray, List.set_cons_zero, List.set_cons_succ]
            refine wpAnyH_take (i := 6) (oi := ?_) (v := ?_) ?_ (by kernel_rfl) (by kernel_rfl) (by kernel_rfl) ?_ (Or.inl ⟨?_, ?_⟩) hHeld ?_
            rotate_left 2
            · (simp only [List.getElem?_toArray, List.getElem?_cons_succ, List.getElem?_cons_zero]; rfl)
            · exact fun _ _ _ h => h
            · rfl
            · (intro w' hSw; (try dsimp only at hSw); go_simp; first | done | with_reducible rfl)
            try simp only [Act.put, List.setIfInBounds_toArray, List.set_cons_zero, List.set_cons_succ]
            refine wpAnyH_ready (rs := [7]) (by kernel_rfl) (by simp) ?_
            refine AllReadyH.cons rfl (fun K hK => ?_) AllReadyH.nil
            go_simp
            go_at_call 36
            refine (HSm.out _ HbA.out.drew).mono ?_
            rintro e w5 ⟨rfl, hb5⟩
            have HF5 := Lib.hid (HF.out w5 (Kept.of_below hb5))
            have Hb5 := Lib.hid hb5
            clear hb5
            clear hHeld
            refine hK.out _ _ (HF5.out) (fun hHeld => ?_)
            clear hK K
            try simp only [Act.put, List.setIfInBounds_toArray, List.set_cons_zero, List.set_cons_succ]
            refine wpAnyH_take (i := 8) (oi := ?_) (v := ?_) ?_ (by kernel_rfl) (by kernel_rfl) (by kernel_rfl) ?_ (Or.inl ⟨?_, ?_⟩) hHeld ?_
            rotate_left 2
            · (simp only [List.getElem?_toArray, List.getElem?_cons_succ, List.getElem?_cons_zero]; rfl)
            · exact fun _ _ _ h => h
            · rfl
            · (intro w' hSw; (try dsimp only at hSw); go_simp; first | done | with_reducible rfl)
            try simp only [Act.put, List.setIfInBounds_toArray, List.set_cons_zero, List.set_cons_succ]
            refine wpAnyH_take (i := 9) (oi := ?_) (v := ?_) ?_ (by kernel_rfl) (by kernel_rfl) (by kernel_rfl) ?_ (Or.inl ⟨?_, ?_⟩) hHeld ?_
            rotate_left 2
            · (simp only [List.getElem?_toArray, List.getElem?_cons_succ, List.getElem?_cons_zero]; rfl)
            · exact fun _ _ _ h => h
            · rfl
            · (intro w' hSw; (try dsimp only at hSw); go_simp; first | done | with_reducible rfl)
            try simp only [Act.put, List.setIfInBounds_toArray, List.set_cons_zero, List.set_cons_succ]
            refine wpAnyH_take (i := 10) (oi := ?_) (v := ?_) ?_ (by kernel_rfl) (by kernel_rfl) (by kernel_rfl) ?_ (Or.inl ⟨?_, ?_⟩) hHeld ?_
            rotate_left 2
            · (simp only [List.getElem?_toArray, List.getElem?_cons_succ, List.getElem?_cons_zero]; rfl)
            · exact fun _ _ _ h => h
            · rfl
            · (intro w' hSw; (try dsimp only at hSw); go_simp; first | done | with_reducible rfl)
            try simp only [Act.put, List.setIfInBounds_toArray, List.set_cons_zero, List.set_cons_succ]
            refine wpAnyH_take (i := 11) (oi := ?_) (v := ?_) ?_ (by kernel_rfl) (by kernel_rfl) (by kernel_rfl) ?_ (Or.inl ⟨?_, ?_⟩) hHeld ?_
            rotate_left 2
            · (simp only [List.getElem?_toArray, List.getElem?_cons_succ, List.getElem?_cons_zero]; rfl)
            · exact fun _ _ _ h => h
            · rfl
            · (intro w' hSw; (try dsimp only at hSw); go_simp; first | done | with_reducible rfl)
            try simp only [Act.put, List.setIfInBounds_toArray, List.set_cons_zero, List.set_cons_succ]
            refine wpAnyH_take (i := 12) (oi := ?_) (v := ?_) ?_ (by kernel_rfl) (by kernel_rfl) (by kernel_rfl) ?_ (Or.inl ⟨?_, ?_⟩) hHeld ?_
            rotate_left 2
            · (simp only [List.getElem?_toArray, List.getElem?_cons_succ, List.getElem?_cons_zero]; rfl)
            · exact fun _ _ _ h => h
            · rfl
            · (intro w' hSw; (try dsimp only at hSw); go_simp; first | done | with_reducible rfl)
            try simp only [Act.put, List.setIfInBounds_toArray, List.set_cons_zero, List.set_cons_succ]
            refine wpAnyH_take (i := 13) (oi := ?_) (v := ?_) ?_ (by kernel_rfl) (by kernel_rfl) (by kernel_rfl) ?_ (Or.inl ⟨?_, ?_⟩) hHeld ?_
            rotate_left 2
            · (simp only [List.getElem?_toArray, List.getElem?_cons_succ, List.getElem?_cons_zero]; rfl)
            · exact fun _ _ _ h => h
            · rfl
            · (intro w' hSw; (try dsimp only at hSw); go_simp; first | done | with_reducible rfl)
            try simp only [Act.put, List.setIfInBounds_toArray, List.set_cons_zero, List.set_cons_succ]
            refine wpAnyH_take (i := 14) (oi := ?_) (v := ?_) ?_ (by kernel_rfl) (by kernel_rfl) (by kernel_rfl) ?_ (Or.inl ⟨?_, ?_⟩) hHeld ?_
            rotate_left 2
            · (simp only [List.getElem?_toArray, List.getElem?_cons_succ, List.getElem?_cons_zero]; rfl)
            · exact fun _ _ _ h => h
            · rfl
            · (intro w' hSw; (try dsimp only at hSw); go_simp; first | done | with_reducible rfl)
            try simp only [Act.put, List.setIfInBounds_toArray, List.set_cons_zero, List.set_cons_succ]
            refine wpAnyH_take (i := 15) (oi := ?_) (v := ?_) ?_ (by kernel_rfl) (by kernel_rfl) (by kernel_rfl) ?_ (Or.inl ⟨?_, ?_⟩) hHeld ?_
            rotate_left 2
            · (simp only [List.getElem?_toArray, List.getElem?_cons_succ, List.getElem?_cons_zero]; rfl)
            · exact fun _ _ _ h => h
            · rfl
            · (intro w' hSw; (try dsimp only at hSw); go_simp; first | done | with_reducible rfl)
            try simp only [Act.put, List.setIfInBounds_toArray, List.set_cons_zero, List.set_cons_succ]
            refine wpAnyH_take (i := 16) (oi := ?_) (v := ?_) ?_ (by kernel_rfl) (by kernel_rfl) (by kernel_rfl) ?_ (Or.inl ⟨?_, ?_⟩) hHeld ?_
            rotate_left 2
            · (simp only [List.getElem?_toArray, List.getElem?_cons_succ, List.getElem?_cons_zero]; rfl)
            · exact fun _ _ _ h => h
            · rfl
            · (intro w' hSw; (try dsimp only at hSw); go_simp; first | done | with_reducible rfl)
            try simp only [Act.put, List.setIfInBounds_toArray, List.set_cons_zero, List.set_cons_succ]
            refine wpAnyH_take (i := 17) (oi := ?_) (v := ?_) ?_ (by kernel_rfl) (by kernel_rfl) (by kernel_rfl) ?_ (Or.inl ⟨?_, ?_⟩) hHeld ?_
            rotate_left 2
            · (simp only [List.getElem?_toArray, List.getElem?_cons_succ, List.getElem?_cons_zero]; rfl)
            · exact fun _ _ _ h => h
            · rfl
            · (intro w' hSw; (try dsimp only at hSw); go_simp; first | done | with_reducible rfl)
            try simp only [Act.put, List.setIfInBounds_toArray, List.set_cons_zero, List.set_cons_succ]
            refine wpAnyH_take (i := 18) (oi := ?_) (v := ?_) ?_ (by kernel_rfl) (by kernel_rfl) (by kernel_rfl) ?_ (Or.inl ⟨?_, ?_⟩) hHeld ?_
            rotate_left 2
            · (simp only [List.getElem?_toArray, List.getElem?_cons_succ, List.getElem?_cons_zero]; rfl)
            · exact fun _ _ _ h => h
            · rfl
            · (intro w' hSw; (try dsimp only at hSw); go_simp; first | done | with_reducible rfl)
            try simp only [Act.put, List.setIfInBounds_toArray, List.set_cons_zero, List.set_cons_succ]
            refine wpAnyH_take (i := 19) (oi := ?_) (v := ?_) ?_ (by kernel_rfl) (by kernel_rfl) (by kernel_rfl) ?_ (Or.inl ⟨?_, ?_⟩) hHeld ?_
            rotate_left 2
            · (simp only [List.getElem?_toArray, List.getElem?_cons_succ, List.getElem?_cons_zero]; rfl)
            · exact fun _ _ _ h => h
            · rfl
            · (intro w' hSw; (try dsimp only at hSw); go_simp; first | done | with_reducible rfl)
            try simp only [Act.put, List.setIfInBounds_toArray, List.set_cons_zero, List.set_cons_succ]
            refine wpAnyH_ready (rs := [20]) (by kernel_rfl) (by simp) ?_
            refine AllReadyH.cons rfl (fun K hK => ?_) AllReadyH.nil
            go_simp
            (try rw [hbits])
            go_at_call 35
            refine (HEnd.out w5 Hb5.out).mono ?_
            rintro e w6 ⟨rfl, hk6, hb6⟩
            have HB6 := Lib.hid hb6
            have HF6 := Lib.hid (HF.out w6 ((Kept.of_below Hb5.out).trans hk6))
            clear hb6 hk6
            clear hHeld
            refine hK.out _ _ (HF6.out) (fun hHeld => ?_)
            clear hK K
            try simp only [Act.put, List.setIfInBounds_toArray, List.set_cons_zero, List.set_cons_succ]
            refine wpAnyH_take (i := 21) (oi := ?_) (v := ?_) ?_ (by kernel_rfl) (by kernel_rfl) (by kernel_rfl) ?_ (Or.inl ⟨?_, ?_⟩) hHeld ?_
            rotate_left 2
            · (simp only [List.getElem?_toArray, List.getElem?_cons_succ, List.getElem?_cons_zero]; rfl)
            · exact fun _ _ _ h => h
            · rfl
            · (intro w' hSw; (try dsimp only at hSw); go_simp; first | done | with_reducible rfl)
            try simp only [Act.put, List.setIfInBounds_toArray, List.set_cons_zero, List.set_cons_succ]
            refine wpAnyH_done (by kernel_rfl) ?_ _
            go_wp2_with fail
            go_ret
            exact ⟨by rw [HX.out, HS.out]; rfl, HB6.out⟩
          | false =>
            have HS := Lib.hid hS
            clear hS
            go_wp2_with (go_at_call 7; (with_reducible refine HDo.out.mono ?_); rintro e w4 ⟨A1, c1, A2, c3, rfl, hr1, ho, hb4⟩; have HB4 := Lib.hid (And.intro hb4 (And.intro hr1 ho)); clear hr1 ho hb4)
            obtain ⟨wA, hwA⟩ : ∃ wA, wA = w4.alloc (.cells #[.int .i64 rc', .int .i64 rs', .slice A1 rd'.length c1] 26) := ⟨_, rfl⟩
            have hbA : Below w4.heap.size w4 wA := by rw [hwA]; exact HAl.out w4 _
            have hA : wA.heap[w4.heap.size]? = some (.cells #[.int .i64 rc', .int .i64 rs', .slice A1 rd'.length c1] 26 (0, 0)) := by rw [hwA]; exact heap_alloc_new w4 _
            rw [← hwA]
            have r0 := cell_of_row _ _ 0 _ _ _ hA
            have r1 := cell_of_row _ _ 1 _ _ _ hA
            have r2 := cell_of_row _ _ 2 _ _ _ hA
            simp only [List.getElem?_toArray, List.getElem?_cons_zero, List.getElem?_cons_succ] at r0 r1 r2
            have hbWA : Below wC.heap.size wC wA := HB4.out.1.trans (hbA.mono HB4.out.1.size)
            have hb2A : Below W2.heap.size W2 wA := HBel.out.1.trans (hbWA.mono HBel.out.1.size)
            obtain ⟨q0, q1, q2, q3⟩ := HSt.out wA hb2A
            obtain ⟨x7, x8, x9, x10⟩ := HXb.out wA (HBel.out.2.trans (hbWA.mono HBel.out.2.size))
            have hsm := same_any ⟨rc', rs', rd'⟩ ⟨code, size, rd⟩ (.slice A1 rd'.length c1) (.slice rA rd.length rc)
            have HSm : Hid (∀ w', Below wA.heap.size wA w' → Calls Try.prog 36 #[.agg #[.int .i64 rc', .int .i64 rs', .slice A1 rd'.length c1], .agg #[.int .i64 code, .int .i64 size, .slice rA rd.length rc]] w' fun e w'' => e = .returned (.bool false) ∧ Below wA.heap.size wA w'') := fun w' hb => (hsm w' ((HB4.out.2.1.below hbA).below hb) (((HDR.out.2.below HBel.out.1).below hbWA).below hb) HLen.out.2).mono fun _ _ ⟨he, hb2⟩ => ⟨he.trans (by rw [HS.out]), hb.trans (hb2.mono hb.size)⟩
            have HF : Hid (∀ w', Kept wA w' → (fun w' : World => w'.cell? ⟨wL.heap.size, 7, none⟩ = some (.bool true) ∧ w'.cell? ⟨wL.heap.size, 8, none⟩ = some (.int .i64 code) ∧ w'.cell? ⟨wL.heap.size, 9, none⟩ = some (.int .i64 size) ∧ w'.cell? ⟨wL.heap.size, 10, none⟩ = some (.slice rA rd.length rc) ∧ w'.cell? ⟨w4.heap.size, 0, none⟩ = some (.int .i64 rc') ∧ w'.cell? ⟨w4.heap.size, 1, none⟩ = some (.int .i64 rs') ∧ w'.cell? ⟨w4.heap.size, 2, none⟩ = some (.slice A1 rd'.length c1) ∧ w'.cell? ⟨w.heap.size, 0, none⟩ = some (.int .u64 0) ∧ w'.cell? ⟨gc, 0, none⟩ = some (.func (.func 35) #[] #[.pointer (some ⟨mc, 0, none⟩), .pointer (some ⟨lc, 0, none⟩), .pointer (some ⟨gc, 0, none⟩)]) ∧ (convert 23 9 (.slice A2 rb'.length c3)).run Try.prog w' = .ok (.string ⟨rb'.toArray⟩) w') w') := fun w' hb => by
              obtain ⟨e0, _, _, e3⟩ := HSt.out wA hb2A
              obtain ⟨x7, x8, x9, x10⟩ := HXb.out wA (HBel.out.2.trans (hbWA.mono HBel.out.2.size))
              exact ⟨hb _ _ x7, hb _ _ x8, hb _ _ x9, hb _ _ x10, hb _ _ r0, hb _ _ r1, hb _ _ r2, hb _ _ e0, hb _ _ e3, conv_reads (((HB4.out.2.2.below hbA).reads).kept hb)⟩
            have HbA := Lib.hid (Below.refl wA.heap.size wA)
            have HBw : Hid (Below w0.heap.size w0 wA) := HGL.out.below.trans ((HAlX.out.trans ((HBel.out.2.trans (hbWA.mono HBel.out.2.size)).mono HAlX.out.size)).mono HGL.out.below.size)
            have hbits : bits .or .u64 0 (IntKind.u64.wrap 1) = 1 := by decide
            clear hsm hbWA hb2A hbA hA hwA q0 q1 q2 q3 x7 x8 x9 x10 r0 r1 r2
            refine wp_region_held_drew (S := (fun w' : World => w'.cell? ⟨wL.heap.size, 7, none⟩ = some (.bool true) ∧ w'.cell? ⟨wL.heap.size, 8, none⟩ = some (.int .i64 code) ∧ w'.cell? ⟨wL.heap.size, 9, none⟩ = some (.int .i64 size) ∧ w'.cell? ⟨wL.heap.size, 10, none⟩ = some (.slice rA rd.length rc) ∧ w'.cell? ⟨w4.heap.size, 0, none⟩ = some (.int .i64 rc') ∧ w'.cell? ⟨w4.heap.size, 1, none⟩ = some (.int .i64 rs') ∧ w'.cell? ⟨w4.heap.size, 2, none⟩ = some (.slice A1 rd'.length c1) ∧ w'.cell? ⟨w.heap.size, 0, none⟩ = some (.int .u64 0) ∧ w'.cell? ⟨gc, 0, none⟩ = some (.func (.func 35) #[] #[.pointer (some ⟨mc, 0, none⟩), .pointer (some ⟨lc, 0, none⟩), .pointer (some ⟨gc, 0, none⟩)]) ∧ (convert 23 9 (.slice A2 rb'.length c3)).run Try.prog w' = .ok (.string ⟨rb'.toArray⟩) w')) (by kernel_rfl) (HF.out _ (Kept.of_below HbA.out.drew)) (fun hHeld => ?_)
            refine wpAnyH_take (i := 0) (oi := ?_) (v := ?_) ?_ (by kernel_rfl) (by kernel_rfl) (by kernel_rfl) ?_ (Or.inl ⟨?_, ?_⟩) hHeld ?_
            rotate_left 2
            · (simp only [List.getElem?_toArray, List.getElem?_cons_zero]; rfl)
            · exact fun _ _ _ h => h
            · rfl
            · (intro w' hSw; (try dsimp only at hSw); go_simp; first | done | with_reducible rfl)
            try simp only [Act.put, List.setIfInBounds_toArray, List.set_cons_zero, List.set_cons_succ]
            refine wpAnyH_take (i := 1) (oi := ?_) (v := ?_) ?_ (by kernel_rfl) (by kernel_rfl) (by kernel_rfl) ?_ (Or.inl ⟨?_, ?_⟩) hHeld ?_
            rotate_left 2
            · (simp only [List.getElem?_toArray, List.getElem?_cons_succ, List.getElem?_cons_zero]; rfl)
            · exact fun _ _ _ h => h
            · rfl
            · (intro w' hSw; (try dsimp only at hSw); go_simp; first | done | with_reducible rfl)
            try simp only [Act.put, List.setIfInBounds_toArray, List.set_cons_zero, List.set_cons_succ]
            refine wpAnyH_take (i := 2) (oi := ?_) (v := ?_) ?_ (by kernel_rfl) (by kernel_rfl) (by kernel_rfl) ?_ (Or.inl ⟨?_, ?_⟩) hHeld ?_
            rotate_left 2
            · (simp only [List.getElem?_toArray, List.getElem?_cons_succ, List.getElem?_cons_zero]; rfl)
            · exact fun _ _ _ h => h
            · rfl
            · (intro w' hSw; (try dsimp only at hSw); go_simp; first | done | with_reducible rfl)
            try simp only [Act.put, List.setIfInBounds_toArray, List.set_cons_zero, List.set_cons_succ]
            refine wpAnyH_take (i := 3) (oi := ?_) (v := ?_) ?_ (by kernel_rfl) (by kernel_rfl) (by kernel_rfl) ?_ (Or.inl ⟨?_, ?_⟩) hHeld ?_
            rotate_left 2
            · (simp only [List.getElem?_toArray, List.getElem?_cons_succ, List.getElem?_cons_zero]; rfl)
            · exact fun _ _ _ h => h
            · rfl
            · (intro w' hSw; (try dsimp only at hSw); go_simp; first | done | with_reducible rfl)
            try simp only [Act.put, List.setIfInBounds_toArray, List.set_cons_zero, List.set_cons_succ]
            refine wpAnyH_take (i := 4) (oi := ?_) (v := ?_) ?_ (by kernel_rfl) (by kernel_rfl) (by kernel_rfl) ?_ (Or.inl ⟨?_, ?_⟩) hHeld ?_
            rotate_left 2
            · (simp only [List.getElem?_toArray, List.getElem?_cons_succ, List.getElem?_cons_zero]; rfl)
            · exact fun _ _ _ h => h
            · rfl
            · (intro w' hSw; (try dsimp only at hSw); go_simp; first | done | with_reducible rfl)
            try simp only [Act.put, List.setIfInBounds_toArray, List.set_cons_zero, List.set_cons_succ]
            refine wpAnyH_take (i := 5) (oi := ?_) (v := ?_) ?_ (by kernel_rfl) (by kernel_rfl) (by kernel_rfl) ?_ (Or.inl ⟨?_, ?_⟩) hHeld ?_
            rotate_left 2
            · (simp only [List.getElem?_toArray, List.getElem?_cons_succ, List.getElem?_cons_zero]; rfl)
            · exact fun _ _ _ h => h
            · rfl
            · (intro w' hSw; (try dsimp only at hSw); go_simp; first | done | with_reducible rfl)
            try simp only [Act.put, List.setIfInBounds_toArray, List.set_cons_zero, List.set_cons_succ]
            refine wpAnyH_take (i := 6) (oi := ?_) (v := ?_) ?_ (by kernel_rfl) (by kernel_rfl) (by kernel_rfl) ?_ (Or.inl ⟨?_, ?_⟩) hHeld ?_
            rotate_left 2
            · (simp only [List.getElem?_toArray, List.getElem?_cons_succ, List.getElem?_cons_zero]; rfl)
            · exact fun _ _ _ h => h
            · rfl
            · (intro w' hSw; (try dsimp only at hSw); go_simp; first | done | with_reducible rfl)
            try simp only [Act.put, List.setIfInBounds_toArray, List.set_cons_zero, List.set_cons_succ]
            refine wpAnyH_ready (rs := [7]) (by kernel_rfl) (by simp) ?_
            refine AllReadyH.cons rfl (fun K hK => ?_) AllReadyH.nil
            go_simp
            go_at_call 36
            refine (HSm.out _ HbA.out.drew).mono ?_
            rintro e w5 ⟨rfl, hb5⟩
            have HF5 := Lib.hid (HF.out w5 (Kept.of_below hb5))
            have Hb5 := Lib.hid hb5
            clear hb5
            clear hHeld
            refine hK.out _ _ (HF5.out) (fun hHeld => ?_)
            clear hK K
            try simp only [Act.put, List.setIfInBounds_toArray, List.set_cons_zero, List.set_cons_succ]
            refine wpAnyH_take (i := 8) (oi := ?_) (v := ?_) ?_ (by kernel_rfl) (by kernel_rfl) (by kernel_rfl) ?_ (Or.inl ⟨?_, ?_⟩) hHeld ?_
            rotate_left 2
            · (simp only [List.getElem?_toArray, List.getElem?_cons_succ, List.getElem?_cons_zero]; rfl)
            · exact fun _ _ _ h => h
            · rfl
            · (intro w' hSw; (try dsimp only at hSw); go_simp; first | done | with_reducible rfl)
            try simp only [Act.put, List.setIfInBounds_toArray, List.set_cons_zero, List.set_cons_succ]
            refine wpAnyH_take (i := 9) (oi := ?_) (v := ?_) ?_ (by kernel_rfl) (by kernel_rfl) (by kernel_rfl) ?_ (Or.inl ⟨?_, ?_⟩) hHeld ?_
            rotate_left 2
            · (simp only [List.getElem?_toArray, List.getElem?_cons_succ, List.getElem?_cons_zero]; rfl)
            · exact fun _ _ _ h => h
            · rfl
            · (intro w' hSw; (try dsimp only at hSw); go_simp; first | done | with_reducible rfl)
            try simp only [Act.put, List.setIfInBounds_toArray, List.set_cons_zero, List.set_cons_succ]
            refine wpAnyH_take (i := 10) (oi := ?_) (v := undef) ?_ (by kernel_rfl) (by kernel_rfl) (by kernel_rfl) ?_ (Or.inr ⟨?_, rfl⟩) hHeld ?_
            rotate_left 1
            · (simp only [List.getElem?_toArray, List.getElem?_cons_succ, List.getElem?_cons_zero]; rfl)
            · exact fun _ _ _ h => h
            · rfl
            try simp only [Act.put, List.setIfInBounds_toArray, List.set_cons_zero, List.set_cons_succ]
            refine wpAnyH_take (i := 11) (oi := ?_) (v := undef) ?_ (by kernel_rfl) (by kernel_rfl) (by kernel_rfl) ?_ (Or.inr ⟨?_, rfl⟩) hHeld ?_
            rotate_left 1
            · (simp only [List.getElem?_toArray, List.getElem?_cons_succ, List.getElem?_cons_zero]; rfl)
            · exact fun _ _ _ h => h
            · rfl
            try simp only [Act.put, List.setIfInBounds_toArray, List.set_cons_zero, List.set_cons_succ]
            refine wpAnyH_take (i := 12) (oi := ?_) (v := undef) ?_ (by kernel_rfl) (by kernel_rfl) (by kernel_rfl) ?_ (Or.inr ⟨?_, rfl⟩) hHeld ?_
            rotate_left 1
            · (simp only [List.getElem?_toArray, List.getElem?_cons_succ, List.getElem?_cons_zero]; rfl)
            · exact fun _ _ _ h => h
            · rfl
            try simp only [Act.put, List.setIfInBounds_toArray, List.set_cons_zero, List.set_cons_succ]
            refine wpAnyH_take (i := 13) (oi := ?_) (v := undef) ?_ (by kernel_rfl) (by kernel_rfl) (by kernel_rfl) ?_ (Or.inr ⟨?_, rfl⟩) hHeld ?_
            rotate_left 1
            · (simp only [List.getElem?_toArray, List.getElem?_cons_succ, List.getElem?_cons_zero]; rfl)
            · exact fun _ _ _ h => h
            · rfl
            try simp only [Act.put, List.setIfInBounds_toArray, List.set_cons_zero, List.set_cons_succ]
            refine wpAnyH_take (i := 14) (oi := ?_) (v := undef) ?_ (by kernel_rfl) (by kernel_rfl) (by kernel_rfl) ?_ (Or.inr ⟨?_, rfl⟩) hHeld ?_
            rotate_left 1
            · (simp only [List.getElem?_toArray, List.getElem?_cons_succ, List.getElem?_cons_zero]; rfl)
            · exact fun _ _ _ h => h
            · rfl
            try simp only [Act.put, List.setIfInBounds_toArray, List.set_cons_zero, List.set_cons_succ]
            refine wpAnyH_take (i := 15) (oi := ?_) (v := undef) ?_ (by kernel_rfl) (by kernel_rfl) (by kernel_rfl) ?_ (Or.inr ⟨?_, rfl⟩) hHeld ?_
            rotate_left 1
            · (simp only [List.getElem?_toArray, List.getElem?_cons_succ, List.getElem?_cons_zero]; rfl)
            · exact fun _ _ _ h => h
            · rfl
            try simp only [Act.put, List.setIfInBounds_toArray, List.set_cons_zero, List.set_cons_succ]
            refine wpAnyH_take (i := 16) (oi := ?_) (v := undef) ?_ (by kernel_rfl) (by kernel_rfl) (by kernel_rfl) ?_ (Or.inr ⟨?_, rfl⟩) hHeld ?_
            rotate_left 1
            · (simp only [List.getElem?_toArray, List.getElem?_cons_succ, List.getElem?_cons_zero]; rfl)
            · exact fun _ _ _ h => h
            · rfl
            try simp only [Act.put, List.setIfInBounds_toArray, List.set_cons_zero, List.set_cons_succ]
            refine wpAnyH_take (i := 17) (oi := ?_) (v := undef) ?_ (by kernel_rfl) (by kernel_rfl) (by kernel_rfl) ?_ (Or.inr ⟨?_, rfl⟩) hHeld ?_
            rotate_left 1
            · (simp only [List.getElem?_toArray, List.getElem?_cons_succ, List.getElem?_cons_zero]; rfl)
            · exact fun _ _ _ h => h
            · rfl
            try simp only [Act.put, List.setIfInBounds_toArray, List.set_cons_zero, List.set_cons_succ]
            refine wpAnyH_take (i := 18) (oi := ?_) (v := undef) ?_ (by kernel_rfl) (by kernel_rfl) (by kernel_rfl) ?_ (Or.inr ⟨?_, rfl⟩) hHeld ?_
            rotate_left 1
            · (simp only [List.getElem?_toArray, List.getElem?_cons_succ, List.getElem?_cons_zero]; rfl)
            · exact fun _ _ _ h => h
            · rfl
            try simp only [Act.put, List.setIfInBounds_toArray, List.set_cons_zero, List.set_cons_succ]
            refine wpAnyH_take (i := 19) (oi := ?_) (v := undef) ?_ (by kernel_rfl) (by kernel_rfl) (by kernel_rfl) ?_ (Or.inr ⟨?_, rfl⟩) hHeld ?_
            rotate_left 1
            · (simp only [List.getElem?_toArray, List.getElem?_cons_succ, List.getElem?_cons_zero]; rfl)
            · exact fun _ _ _ h => h
            · rfl
            try simp only [Act.put, List.setIfInBounds_toArray, List.set_cons_zero, List.set_cons_succ]
            refine wpAnyH_take (i := 20) (oi := ?_) (v := undef) ?_ (by kernel_rfl) (by kernel_rfl) (by kernel_rfl) ?_ (Or.inr ⟨?_, rfl⟩) hHeld ?_
            rotate_left 1
            · (simp only [List.getElem?_toArray, List.getElem?_cons_succ, List.getElem?_cons_zero]; rfl)
            · exact fun _ _ _ h => h
            · rfl
            try simp only [Act.put, List.setIfInBounds_toArray, List.set_cons_zero, List.set_cons_succ]
            refine wpAnyH_take (i := 21) (oi := ?_) (v := ?_) ?_ (by kernel_rfl) (by kernel_rfl) (by kernel_rfl) ?_ (Or.inl ⟨?_, ?_⟩) hHeld ?_
            rotate_left 2
            · (simp only [List.getElem?_toArray, List.getElem?_cons_succ, List.getElem?_cons_zero]; rfl)
            · exact fun _ _ _ h => h
            · rfl
            · (intro w' hSw; (try dsimp only at hSw); go_simp; first | done | with_reducible rfl)
            try simp only [Act.put, List.setIfInBounds_toArray, List.set_cons_zero, List.set_cons_succ]
            refine wpAnyH_done (by kernel_rfl) ?_ _
            go_wp2_with fail
            go_roundw
            case rel => exact .inr ⟨rfl, Lib.hid ⟨by first | exact trivial | (rw [HX.out]; exact HS.out), HBw.out.trans (Hb5.out.mono HBw.out.size)⟩⟩
            case measure => simp [intOf]
        · go_wp2_with fail
          go_ret
          exact ⟨by rw [HE.out.1]; rfl, HE.out.2⟩
end Go.Proofs.Ytbbbdhpihcbmmaa
