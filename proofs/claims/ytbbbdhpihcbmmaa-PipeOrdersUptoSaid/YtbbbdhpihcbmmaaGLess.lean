/- The walk of the law's heavy. The walk of PipeLess. The walk of PipeLess: a right history. -/
import Derived.Test.YtbbbdhpihcbmmaaPLess1
import Derived.Test.YtbbbdhpihcbmmaaPAwake
import Derived.Deep.CutBlock
namespace Go.Proofs.Ytbbbdhpihcbmmaa
open Go.RowKit Own

def hvS (xs : List EvIn) : Nat → Int
  | 0 => 0
  | j + 1 => wrap64 (hvS xs j + (((xs[j]?.map (fun x => x.call.d.length)).getD 0 : Nat) : Int))
theorem hvS_succ (xs : List EvIn) {j : Nat} (hj : j < xs.length) : hvS xs (j + 1) = wrap64 (hvS xs j + ((xs[j]'hj).call.d.length : Int)) := by
  simp [hvS, List.getElem?_eq_getElem hj]
def heavyB (xs : List EvIn) : Bool := decide (2000 < hvS xs xs.length)
set_option maxHeartbeats 1000000 in
theorem heavy_any (v : Value) (xs : List EvIn) (w : World) (hv : xs = [] ∨ ReadsEvs w v xs) (hsl : ∃ A c, v = .slice A xs.length c) (hn : xs.length ≤ 140737488351232) :
    Calls Try.prog 14 #[v] w fun e w' => e = .returned (.bool (heavyB xs)) ∧ Below w.heap.size w w' := by
  obtain ⟨Av, cv, rfl⟩ := hsl
  have HV := Lib.hid hv
  have hM : (xs.length : Int) ≤ 140737488351232 := by omega
  clear hv hn
  go_enter Try.func14, Try.ntmps14
  go_wp2_with fail
  go_loopw [3, 4] (fun nv i wr => ∃ (m : Int) (j : Nat), nv = .int .i64 m ∧ Hid (m = hvS xs j) ∧ i = .int .i64 j ∧ j ≤ xs.length ∧ Below w.heap.size w wr) (fun _ i _ => xs.length - (intOf i).toNat)
  case atStart => exact ⟨0, 0, rfl, rfl, rfl, Nat.zero_le _, Below.refl _ _⟩
  case round =>
    obtain ⟨m, j, rfl, HS, rfl, hj, hb⟩ := hrel
    have HB := Lib.hid hb
    clear hb
    by_cases hlt : j < xs.length
    · have k1 : (j : Int) < (xs.length : Int) := by omega
      have k0 : (0 : Int) ≤ (j : Int) := by omega
      have hve : ReadsEvs w (.slice Av xs.length cv) xs := by
        rcases HV.out with h | h
        · subst h; cases hlt
        · exact h
      obtain ⟨bb, off, cc, hvv, hact⟩ := (hve.below HB.out).at_ hlt
      cases hvv
      have HSs := Lib.hid (hvS_succ xs hlt)
      generalize xs[j]'hlt = x at *
      obtain ⟨dA, dc, rA, rc, ⟨e0, e1, e2, e3, e4, e5, e6, e7, e8, e9, e10, e11⟩, hrd, hrr⟩ := hact.cells
      obtain ⟨xc, xk, done, unk, ⟨k, xs', a, d, n⟩, ⟨code, size, rd⟩⟩ := x
      dsimp only at e0 e1 e2 e3 e4 e5 e6 e7 e8 e9 e10 e11 HSs
      clear hact hve hrd hrr
      go_wp2_with fail
      go_roundw
      case rel => exact ⟨_, j + 1, rfl, Lib.hid (by rw [HSs.out, HS.out]), by go_num, by omega, HB.out⟩
      case measure => simp [intOf]; omega
    · have k1 : ¬ (j : Int) < (xs.length : Int) := by omega
      go_wp2_with fail
      go_ret
      refine ⟨?_, HB.out⟩
      have h9 : heavyB xs = decide (2000 < m) := by unfold heavyB; rw [HS.out, show j = xs.length by omega]
      simp [h9]
end Go.Proofs.Ytbbbdhpihcbmmaa
namespace Go.Proofs.Ytbbbdhpihcbmmaa
open Go.RowKit Own

open Classical in
theorem right_yes (v : Value) (xs : List EvIn) (w : World) (hv : ReadsEvs w v xs) (hok : ∀ x ∈ xs, EvOk x) (hn : xs.length ≤ 140737488351232) (hc : chkH xs = 0) (hr : RightB xs) :
    Calls Try.prog 12 #[v] w fun e w' => e = .returned (.tuple #[.bool true, .int .i64 0]) ∧ Below w.heap.size w w' := by
  have h := right_any v xs w hv hok hn
  rw [decide_eq_true (show chkH xs = 0 ∧ RightB xs from ⟨hc, hr⟩), hc] at h
  exact h
open Classical in
theorem right_no (v : Value) (xs : List EvIn) (w : World) (hv : ReadsEvs w v xs) (hok : ∀ x ∈ xs, EvOk x) (hn : xs.length ≤ 140737488351232) (hr : ¬ (chkH xs = 0 ∧ RightB xs)) :
    Calls Try.prog 12 #[v] w fun e w' => e = .returned (.tuple #[.bool false, .int .i64 (chkH xs)]) ∧ Below w.heap.size w w' := by
  have h := right_any v xs w hv hok hn
  rw [decide_eq_false hr] at h
  exact h
attribute [local go_sem ↓] hide_append
set_option maxHeartbeats 8000000 in
set_option maxRecDepth 100000 in
theorem pless_awake (v : Value) (tt : Int) (xs : List EvIn) (w : World) (hv : xs = [] ∨ ReadsEvs w v xs) (hok : ∀ x ∈ xs, EvOk x) (hn : xs.length ≤ 140737488351232) (hsl : ∃ A c, v = .slice A xs.length c ∧ xs.length ≤ c)
    (ha : heavyB xs = true ∨ xs = [] ∨ ¬ chkH xs = 0 ∨ ¬ RightB xs) :
    Calls Try.prog 5 #[v, .int .i64 tt] w fun e w' => e = .returned (.bool true) ∧ Below w.heap.size w w' := by
  obtain ⟨Av, cv, rfl, hcv⟩ := hsl
  have HH := Lib.hid (heavy_any _ xs w hv ⟨Av, cv, rfl⟩ hn)
  have HA := Lib.hid (fun W => awake_any W)
  have HAl : Hid (∀ W o, Below W.heap.size W (W.alloc o)) := fun W o => (Below.refl _ _).alloc (Nat.le_refl _) o
  cases hhv : heavyB xs with
  | true =>
    rw [hhv] at HH
    clear hv hok hn hcv ha hhv
    go_enter Try.func5, Try.ntmps5
    go_wp2_with (first
      | (go_at_call 14; (with_reducible refine HH.out.mono ?_); rintro e w1 ⟨rfl, hb1⟩; have HB1 := Lib.hid hb1; clear hb1)
      | (go_at_call 9; (with_reducible refine (HA.out _).mono ?_); rintro e w2 ⟨rfl, hb2⟩; have HB2 := Lib.hid hb2; clear hb2))
    go_ret
    exact ⟨rfl, HB1.out.trans (HB2.out.mono HB1.out.size)⟩
  | false =>
    rw [hhv] at HH
    by_cases hnil : xs = []
    · subst hnil
      clear hv hok hn hcv ha hhv
      rw [List.length_nil] at HH ⊢
      go_enter Try.func5, Try.ntmps5
      go_wp2_with (first
        | (go_at_call 14; (with_reducible refine HH.out.mono ?_); rintro e w1 ⟨rfl, hb1⟩; have HB1 := Lib.hid hb1; clear hb1)
        | (go_at_call 9; (with_reducible refine (HA.out _).mono ?_); rintro e w2 ⟨rfl, hb2⟩; have HB2 := Lib.hid hb2; clear hb2))
      go_ret
      exact ⟨rfl, HB1.out.trans (HB2.out.mono HB1.out.size)⟩
    · have hv2 : ReadsEvs w (.slice Av xs.length cv) xs := hv.resolve_left hnil
      have hd : ¬ (chkH xs = 0 ∧ RightB xs) := fun h => by
        rcases ha with h9 | h9 | h9 | h9
        · rw [h9] at hhv; cases hhv
        · exact hnil h9
        · exact h9 h.1
        · exact h9 h.2
      have hN : ¬ ((xs.length : Int) = 0) := by
        have : 0 < xs.length := List.length_pos_iff.2 hnil
        omega
      have HR : Hid (∀ W, Below w.heap.size w W → Calls Try.prog 12 #[.slice Av xs.length cv] W fun e w' => e = .returned (.tuple #[.bool false, .int .i64 (chkH xs)]) ∧ Below W.heap.size W w') := fun W hb => right_no _ xs W (hv2.below hb) hok hn hd
      clear hv hok hcv ha hhv hnil hv2 hd
      have hM : (xs.length : Int) ≤ 140737488351232 := by omega
      clear hn
      generalize chkH xs = c at *
      by_cases hc : c = 0
      · subst hc
        go_enter Try.func5, Try.ntmps5
        go_wp2_with (first
          | (go_at_call 14; (with_reducible refine HH.out.mono ?_); rintro e w1 ⟨rfl, hb1⟩; have HB1 := Lib.hid hb1; clear hb1)
          | (go_at_call 12; (with_reducible refine (HR.out _ HB1.out).mono ?_); rintro e w2 ⟨rfl, hb2⟩; have HB2 := Lib.hid (HB1.out.trans (hb2.mono HB1.out.size)); clear hb2)
          | (go_at_call 9; (with_reducible refine (HA.out _).mono ?_); rintro e w3 ⟨rfl, hb3⟩; have HB3 := Lib.hid hb3; clear hb3))
        go_ret
        exact ⟨rfl, HB2.out.trans (HB3.out.mono HB2.out.size)⟩
      · go_enter Try.func5, Try.ntmps5
        go_wp2_with (first
          | (go_at_call 14; (with_reducible refine HH.out.mono ?_); rintro e w1 ⟨rfl, hb1⟩; have HB1 := Lib.hid hb1; clear hb1)
          | (go_at_call 12; (with_reducible refine (HR.out _ HB1.out).mono ?_); rintro e w2 ⟨rfl, hb2⟩; have HB2 := Lib.hid (HB1.out.trans (hb2.mono HB1.out.size)); clear hb2)
          | (go_at_call 9; (with_reducible refine (HA.out _).mono ?_); rintro e w3 ⟨rfl, hb3⟩; have HB3 := Lib.hid hb3; clear hb3))
        go_ret
        exact ⟨rfl, HB2.out.trans (HB3.out.mono HB2.out.size)⟩
end Go.Proofs.Ytbbbdhpihcbmmaa
namespace Go.Proofs.Ytbbbdhpihcbmmaa
open Go.RowKit Own

def sliceH : TypeId → Value → Option Value → Option Value → Option Value → Sem Value := Instr.slice
theorem hide_slice (t : TypeId) (v : Value) (lo hi mx : Option Value) : Instr.slice t v lo hi mx = sliceH t v lo hi mx := rfl
theorem sizeEv (w : World) : (sizeOf 44).run Try.prog w = .ok 12 w := by kernel_rfl
theorem evs_own' {W : World} {B n c : Nat} {A : Option Addr} {L : List EvV} (h : W.ownsRow B 44 12 (.slice A n c) n (cellsEv L)) (hl : L.length = n) (hr : ∀ p ∈ L, EvReads W p) : ReadsEvs W (.slice A n c) (L.map Prod.fst) := by
  subst hl
  rcases h.2 with ⟨h1, h2⟩ | ⟨g, cap, cur, h1, _⟩
  · have : L = [] := List.length_eq_zero_iff.1 h2
    exact .inl ⟨h1, by rw [this]; rfl⟩
  · cases h1
    exact evs_own h hr
theorem EvReads.go {w w' : World} {p : EvV} (h : EvReads w p) (hb : Below w.heap.size w w') : EvReads w' p := ⟨h.1.below hb, h.2.below hb⟩
/-- 'l[:i]', 'l[i+1:]' -/
theorem slice_lo (bb off N cv i : Nat) (hi : i < N) (hcv : N ≤ cv) (W : World) : (sliceH 34 (.slice (some ⟨bb, off, none⟩) N cv) none (some (.int .i64 (i : Int))) none).run Try.prog W = .ok (.slice (some ⟨bb, off, none⟩) i cv) W := by
  have ht : Try.prog.underlying 34 = some (.slice (Try.prog.elem 34)) := by kernel_rfl
  have he : Try.prog.elem 34 = 44 := by kernel_rfl
  rw [← hide_slice, run_slice_h W _ _ _ _ ht .i64 _ (by omega) (by omega), he, sizeEv]
  have h0 : ¬ cv = 0 := by omega
  simp [Result.andThen, sliced, Addr.add, h0]
theorem slice_hi (bb off N cv i : Nat) (hi : i < N) (hcv : N ≤ cv) : ∃ A2 : Addr, (∀ W, (sliceH 34 (.slice (some ⟨bb, off, none⟩) N cv) (some (.int .i64 ((i : Int) + 1))) none none).run Try.prog W = .ok (.slice (some A2) (N - (i + 1)) (cv - (i + 1))) W) ∧ (i + 1 < N → A2 = ⟨bb, off + (i + 1) * 12, none⟩) := by
  have ht : Try.prog.underlying 34 = some (.slice (Try.prog.elem 34)) := by kernel_rfl
  have he : Try.prog.elem 34 = 44 := by kernel_rfl
  refine ⟨if cv = i + 1 then ⟨bb, off, none⟩ else ⟨bb, off + (i + 1) * 12, none⟩, fun W => ?_, fun h => if_neg (by omega)⟩
  rw [← hide_slice, run_slice_l W _ _ _ _ ht .i64 _ (by omega) (by omega), he, sizeEv]
  have ht : ((i : Int) + 1).toNat = i + 1 := by omega
  simp only [Result.andThen, sliced, ht, Option.map_some, Addr.add_lit]
  split <;> rfl
attribute [local go_sem ↓] hide_append hide_slice
/-- what is laid ahead of the walk -/
theorem pless_out (w : World) (bb off N cv i : Nat) (L : List EvV) (hl : L.length = N) (hi : i < N) (h64 : N ≤ 64) (hcells : ∀ j u, (cellsEv L)[j]? = some u → w.cell? ⟨bb, off + j, none⟩ = some u) (hrd : ∀ p ∈ L, EvReads w p) (A2 : Addr) (hA2 : i + 1 < N → A2 = ⟨bb, off + (i + 1) * 12, none⟩) (W : World) (hb : Below w.heap.size w W) :
    ∃ A3 c3 W3 A4 K c4 W4, (appendH #[34, 34] 34 #[.slice (some ⟨W.heap.size, 0, none⟩) 0 0, .slice (some ⟨bb, off, none⟩) i cv]).run Try.prog (W.alloc (.cells #[] 44)).drew = .ok (.slice A3 i c3) W3 ∧
      (appendH #[34, 34] 34 #[.slice A3 i c3, .slice (some A2) (N - (i + 1)) (cv - (i + 1))]).run Try.prog W3 = .ok (.slice A4 K c4) W4 ∧
      ReadsEvs W4 (.slice A4 K c4) ((L.map Prod.fst).take i ++ (L.map Prod.fst).drop (i + 1)) ∧ Below w.heap.size w W4 := by
  have hal : Below W.heap.size W (W.alloc (.cells #[] 44)).drew := ((Below.refl _ _).alloc (Nat.le_refl _) _).drew
  have hb0 := hb.trans (hal.mono hb.size)
  have lt : (L.take i).length = i := by rw [List.length_take]; omega
  have ld : (L.drop (i + 1)).length = N - (i + 1) := by rw [List.length_drop, hl]
  obtain ⟨A3, c3, W3, hr3, hown3, hb3⟩ := app_evs (W.alloc (.cells #[] 44)).drew W.heap.size 0 0 (some ⟨W.heap.size, 0, none⟩) [] (L.take i) (made_evs W).drew ⟨bb, off, none⟩ cv (fun j u hu => by
      have := hcells j u (cellsEv_take L i j u hu)
      rw [Addr.add_lit]
      exact (hb0.cell (p := ⟨bb, off + j, none⟩) (World.block_lt_of_cell? w _ this)).trans this) (fun p hp => (hrd p (List.mem_of_mem_take hp)).go hb0) (by omega) (by omega) hal.size
  rw [lt, Nat.zero_add] at hr3 hown3
  rw [List.nil_append] at hown3
  have hb3' : Below w.heap.size w W3 := hb0.trans (hb3.mono hb.size)
  obtain ⟨A4, c4, W4, hr4, hown4, hb4⟩ := app_evs W3 W.heap.size i c3 A3 (L.take i) (L.drop (i + 1)) hown3 A2 (cv - (i + 1)) (fun j u hu => by
      have hlt := (List.getElem?_eq_some_iff.1 hu).1
      rw [cellsEv_len, ld] at hlt
      have hi1 : i + 1 < N := by omega
      rw [cellsEv_drop L (i + 1) (by omega)] at hu
      have := hcells _ u hu
      rw [hA2 hi1, Addr.add_lit, Nat.add_assoc]
      exact (hb3'.cell (p := ⟨bb, off + ((i + 1) * 12 + j), none⟩) (World.block_lt_of_cell? w _ this)).trans this) (fun p hp => (hrd p (List.mem_of_mem_drop hp)).go hb3') (by omega) (by omega) (Nat.le_trans hal.size hb3.size)
  rw [ld] at hr4 hown4
  have hb4' : Below w.heap.size w W4 := hb3'.trans (hb4.mono hb.size)
  refine ⟨A3, c3, W3, A4, i + (N - (i + 1)), c4, W4, hr3, hr4, ?_, hb4'⟩
  have := evs_own' hown4 (by rw [List.length_append, lt, ld]) (fun p hp => (hrd p (by
    rcases List.mem_append.1 hp with hp | hp
    · exact List.mem_of_mem_take hp
    · exact List.mem_of_mem_drop hp)).go hb4')
  rw [List.map_append, List.map_take, List.map_drop] at this
  exact this
theorem pless_copy (w : World) (bb off N cv : Nat) (L : List EvV) (hl : L.length = N) (hN : 0 < N) (h64 : N ≤ 64) (hcells : ∀ j u, (cellsEv L)[j]? = some u → w.cell? ⟨bb, off + j, none⟩ = some u) (hrd : ∀ p ∈ L, EvReads w p) (W : World) (hb : Below w.heap.size w W) :
    ∃ g cap W6, (appendH #[34, 34] 34 #[.slice (some ⟨W.heap.size, 0, none⟩) 0 0, .slice (some ⟨bb, off, none⟩) N cv]).run Try.prog (W.alloc (.cells #[] 44)) = .ok (.slice (some ⟨g, 0, none⟩) N cap) W6 ∧
      W6.ownsRow W.heap.size 44 12 (.slice (some ⟨g, 0, none⟩) N cap) N (cellsEv L) ∧ Below w.heap.size w W6 := by
  have hal : Below W.heap.size W (W.alloc (.cells #[] 44)) := (Below.refl _ _).alloc (Nat.le_refl _) _
  have hb0 := hb.trans (hal.mono hb.size)
  obtain ⟨A3, c3, W3, hr3, hown3, hb3⟩ := app_evs (W.alloc (.cells #[] 44)) W.heap.size 0 0 (some ⟨W.heap.size, 0, none⟩) [] L (made_evs W) ⟨bb, off, none⟩ cv (fun j u hu => by
      have := hcells j u hu
      rw [Addr.add_lit]
      exact (hb0.cell (p := ⟨bb, off + j, none⟩) (World.block_lt_of_cell? w _ this)).trans this) (fun p hp => (hrd p hp).go hb0) (by omega) (by omega) hal.size
  rw [hl, Nat.zero_add] at hr3 hown3
  rw [List.nil_append] at hown3
  have hb3' : Below w.heap.size w W3 := hb0.trans (hb3.mono hb.size)
  rcases hown3.2 with ⟨_, h0⟩ | ⟨g, cap, cur, hv, _⟩
  · omega
  · cases hv
    exact ⟨g, _, W3, hr3, hown3, hb3'⟩
end Go.Proofs.Ytbbbdhpihcbmmaa
