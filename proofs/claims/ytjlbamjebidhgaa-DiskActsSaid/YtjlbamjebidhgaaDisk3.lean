/- The walk of a disk's Read. -/
import Derived.Test.YtjlbamjebidhgaaDisk2
namespace Go.Proofs.Ytjlbamjebidhgaa
open Go.RowKit Own

theorem cellsW_at {P : List Wr} {k : Nat} (hk : k < P.length) (j : Nat) (hj : j < 2) : (cellsW P)[k * 2 + j]? = [Value.int .i64 (P[k]'hk).at_, (P[k]'hk).v][j]? := by
  induction P generalizing k with
  | nil => cases hk
  | cons p L ih =>
    cases k with
    | zero =>
      simp only [cellsW, List.flatMap_cons, Nat.zero_mul, Nat.zero_add]
      rw [List.getElem?_append_left (by simpa using hj)]
      rfl
    | succ k =>
      simp only [cellsW, List.flatMap_cons]
      rw [List.getElem?_append_right (by simp; omega)]
      have := ih (k := k) (by simpa using hk)
      simp only [List.length_cons, List.length_nil, List.getElem_cons_succ] at *
      rw [show (k + 1) * 2 + j - (0 + 1 + 1) = k * 2 + j by omega]
      exact this

def sectorOf (S : List UInt8) (k : Nat) : List UInt8 := (S.drop (k * 64)).take 64
theorem sectorOf_length {S : List UInt8} {k : Nat} (h : k * 64 + 64 ≤ S.length) : (sectorOf S k).length = 64 := by
  simp [sectorOf]; omega
/-- what Read reads -/
def readD (S : List UInt8) (P : List Wr) (k : Nat) : List UInt8 := P.foldl (fun a p => if p.at_ = k then p.b else a) (sectorOf S k)
theorem readD_snoc (S : List UInt8) (P : List Wr) (k : Nat) (p : Wr) : readD S (P ++ [p]) k = if p.at_ = k then p.b else readD S P k := by
  simp [readD, List.foldl_append]
theorem readD_take (S : List UInt8) (P : List Wr) (k j : Nat) (hj : j < P.length) : readD S (P.take (j + 1)) k = if (P[j]'hj).at_ = k then (P[j]'hj).b else readD S (P.take j) k := by
  rw [List.take_succ_eq_append_getElem hj, readD_snoc]
theorem readD_length {S : List UInt8} {k : Nat} (h : k * 64 + 64 ≤ S.length) : ∀ {P : List Wr}, (∀ p ∈ P, p.b.length = 64) → (readD S P k).length = 64 := by
  intro P hP
  have : ∀ (P : List Wr) (a : List UInt8), a.length = 64 → (∀ p ∈ P, p.b.length = 64) → (P.foldl (fun a p => if p.at_ = k then p.b else a) a).length = 64 := by
    intro P
    induction P with
    | nil => intro a ha _; exact ha
    | cons p P ih =>
      intro a ha hP
      simp only [List.foldl_cons]
      refine ih _ ?_ (fun q hq => hP q (List.mem_cons_of_mem _ hq))
      split
      · exact hP p (List.mem_cons_self ..)
      · exact ha
  exact this P _ (sectorOf_length h) hP

theorem reads_sector {w : World} {base g c k : Nat} {S : List UInt8} {cap : Nat} (h : w.ownsRow base 5 1 (.slice (some ⟨g, 0, none⟩) S.length cap) S.length (u8s S)) (hk : k * 64 + 64 ≤ S.length) : ReadsB w (.slice (some ⟨g, k * 64, none⟩) 64 c) (sectorOf S k) := by
  refine .inr ⟨⟨g, k * 64, none⟩, c, by rw [sectorOf_length hk], fun j u hu => ?_⟩
  have hj : j < 64 := by
    have := (List.getElem?_eq_some_iff.1 hu).1
    rwa [u8s_length, sectorOf_length hk] at this
  have h2 := h.cells (g := g) rfl (k * 64 + j) u (by
    rw [← hu]
    simp only [u8s, sectorOf, List.map_take, List.map_drop]
    rw [List.getElem?_take, if_pos hj, List.getElem?_drop])
  rw [Addr.add_lit] at h2 ⊢
  simpa using h2

def ReadPost (S : List UInt8) (P : List Wr) (k : Nat) (w : World) (e : Ending) (w' : World) : Prop :=
  ∃ v, e = .returned (.tuple #[v, .int .i64 0]) ∧ w'.ownsRow w.heap.size 5 1 v (readD S P k).length (u8s (readD S P k)) ∧ Below w.heap.size w w'
theorem read_in (B db n k : Nat) (sv pv : Value) (S : List UInt8) (P : List Wr) (w : World) (hf : DiskAt B db sv pv S P w) (hS : S.length = n * 64) (hn : n ≤ 4096) (hk : k < n) (hP : P.length ≤ 16384) :
    Calls Try.prog 12 #[.pointer (some ⟨db, 0, none⟩), .int .i64 k] w (ReadPost S P k w) := by
  obtain ⟨pA, pc, rfl⟩ := own_slice hf.pend
  obtain ⟨g, cap, rfl, hg, hlt, hcap, _⟩ := own_reads hf.safe (by omega)
  have hcm : cap ≤ 9223372036854775807 := by
    rcases hf.safe.2 with ⟨h0, _⟩ | ⟨g', cap', cur, hv, _, _, _, hm, _⟩
    · cases h0
    · cases hv; simpa only [maxLen] using hm
  have hc1 : w.cell? ⟨db, 1, none⟩ = some (.slice pA P.length pc) := by rw [cell_of_row w db 1 _ _ _ hf.st]; rfl
  have hst := hf.st
  rw [hS] at hst
  have hi : inB n k = true := by simp [inB]; omega
  have HH := has_any db (some ⟨g, 0, none⟩) n cap (.slice pA P.length pc) k w hst hn
  rw [hi] at HH
  have HI := Lib.hid HH
  have HSec := Lib.hid (sector_any db g n k cap (.slice pA P.length pc) w hst hk (by omega) hcm)
  have HF := Lib.hid hf
  have hks : k * 64 + 64 ≤ S.length := by omega
  have HKS := Lib.hid hks
  have HRS : Hid (∀ c', ReadsB w (.slice (some ⟨g, k * 64, none⟩) 64 c') (readD S (P.take 0) k)) := fun c' => reads_sector hf.safe hks
  have hPm : (P.length : Int) ≤ 16384 := by omega
  clear hf hst HH hi hks hS hP hcap
  go_enter Try.func12, Try.ntmps12
  go_wp2_with (first | (go_at_call 21; refine HI.out.mono ?_; rintro e w' ⟨rfl, rfl⟩) | (go_at_call 24; refine HSec.out.mono ?_; rintro e w' ⟨⟨cs', rfl⟩, rfl⟩))
  go_loopw [6, 21] (fun b i wr => ∃ (j : Nat) (Ab : Option Addr) (nb cb : Nat), i = .int .i64 j ∧ b = .slice Ab nb cb ∧ j ≤ P.length ∧ Hid (Below w.heap.size w wr ∧ ReadsB wr (.slice Ab nb cb) (readD S (P.take j) k))) (fun _ i _ => P.length - (intOf i).toNat)
  case atStart => exact ⟨0, _, _, _, rfl, rfl, Nat.zero_le _, Below.refl _ _, HRS.out cs'⟩
  case round =>
    obtain ⟨j, Ab, nb, cb, rfl, rfl, hjk, HJ⟩ := hrel
    obtain ⟨wL, rfl⟩ : ∃ wo : World, wo = wr := ⟨_, rfl⟩
    by_cases hj : j < P.length
    · have hj' : (j : Int) < (P.length : Int) := by omega
      have hj0 : (0 : Int) ≤ (j : Int) := by omega
      obtain ⟨pg, pcap, hvv, _, hpl⟩ := HF.out.pend.form (by omega)
      cases hvv
      have hown := own_below HF.out.pend HJ.out.1
      have e0 := hown.cellAt (j * 2) (by omega)
      have e1 := hown.cellAt (j * 2 + 1) (by omega)
      have c0 := cellsW_at hj 0 (by omega)
      rw [Nat.add_zero] at c0
      rw [c0] at e0
      rw [cellsW_at hj 1 (by omega)] at e1
      have hpb := (HF.out.bytes _ (List.getElem_mem hj)).1
      have htake := readD_take S P k j hj
      generalize P[j]'hj = p at *
      obtain ⟨pat, pb, pv⟩ := p
      simp only [] at e0 e1 hpb htake
      obtain ⟨Ap, cp, rfl⟩ := own_slice hpb
      obtain ⟨O, hO⟩ : ∃ O, O = Obj.cells #[Value.int .i64 pat, .slice Ap pb.length cp] 59 := ⟨_, rfl⟩
      have hb1 : Below wL.heap.size wL (wL.alloc O) := (Below.refl _ _).alloc (Nat.le_refl _) _
      have hbw : Below w.heap.size w (wL.alloc O) := HJ.out.1.trans (hb1.mono HJ.out.1.size)
      have hrp : ReadsB (wL.alloc O) (.slice Ap pb.length cp) pb := ReadsB.own (own_below hpb hbw)
      have hrb := HJ.out.2.below hb1
      have n0 : (wL.alloc O).cell? ⟨wL.heap.size, 0, none⟩ = some (.int .i64 pat) := by rw [hO, cell_of_row _ _ 0 _ _ (0, 0) (heap_alloc_new wL _)]; rfl
      have n1 : (wL.alloc O).cell? ⟨wL.heap.size, 1, none⟩ = some (.slice Ap pb.length cp) := by rw [hO, cell_of_row _ _ 1 _ _ (0, 0) (heap_alloc_new wL _)]; rfl
      by_cases hat : pat = k
      · have hE : ((pat : Int) == (k : Int)) = true := beq_iff_eq.2 (by omega)
        have HN : Hid (Below w.heap.size w (wL.alloc O) ∧ ReadsB (wL.alloc O) (.slice Ap pb.length cp) (readD S (P.take (j + 1)) k)) := ⟨hbw, by rw [htake, if_pos hat]; exact hrp⟩
        rw [hO] at HN n0 n1
        clear hown hpb htake hrp hrb hbw hb1 c0 hat HJ hO
        go_wp2_with fail
        go_roundw
        case rel => exact ⟨j + 1, _, _, _, by go_num, rfl, by omega, HN⟩
        case measure => simp [intOf]; omega
      · have hE : ((pat : Int) == (k : Int)) = false := beq_eq_false_iff_ne.2 (by omega)
        have HN : Hid (Below w.heap.size w (wL.alloc O) ∧ ReadsB (wL.alloc O) (.slice Ab nb cb) (readD S (P.take (j + 1)) k)) := ⟨hbw, by rw [htake, if_neg hat]; exact hrb⟩
        rw [hO] at HN n0 n1
        clear hown hpb htake hrp hrb hbw hb1 c0 hat HJ hO
        go_wp2_with fail
        go_roundw
        case rel => exact ⟨j + 1, _, _, _, by go_num, rfl, by omega, HN⟩
        case measure => simp [intOf]; omega
    · obtain rfl : j = P.length := by omega
      have HB := Lib.hid HJ.out.1
      have hrd := HJ.out.2
      rw [List.take_length] at hrd
      have hlen : (readD S P k).length = 64 := readD_length HKS.out (fun p hp => (HF.out.bytes p hp).2.1)
      have HC := Lib.hid (clone_any _ (readD S P k) wL hrd (by omega))
      clear HJ hrd hlen
      go_wp2_with (go_at_call 22; refine HC.out.mono ?_; rintro e w' ⟨v, rfl, hown, hb, _⟩)
      go_ret2
      exact ⟨v, rfl, own_mono hown HB.out.size, HB.out.trans (hb.mono HB.out.size)⟩

def ReadOut (w : World) (e : Ending) (w' : World) : Prop := w = w' ∧ e = .returned (.tuple #[.slice none 0 0, .int .i64 1])
theorem read_out (B db n : Nat) (sv pv : Value) (S : List UInt8) (P : List Wr) (at_ : Int) (w : World) (hf : DiskAt B db sv pv S P w) (hS : S.length = n * 64) (hn : n ≤ 4096) (hi : inB n at_ = false) :
    Calls Try.prog 12 #[.pointer (some ⟨db, 0, none⟩), .int .i64 at_] w (ReadOut w) := by
  obtain ⟨A, c, rfl⟩ := own_slice hf.safe
  have hst := hf.st
  rw [hS] at hst
  have HH := has_any db A n c pv at_ w hst hn
  rw [hi] at HH
  have HI := Lib.hid HH
  clear hf hst HH hi
  go_enter Try.func12, Try.ntmps12
  go_wp2_with (go_at_call 21; refine HI.out.mono ?_; rintro e w' ⟨rfl, rfl⟩)
  go_ret2
  exact ⟨rfl, rfl⟩
end Go.Proofs.Ytjlbamjebidhgaa
