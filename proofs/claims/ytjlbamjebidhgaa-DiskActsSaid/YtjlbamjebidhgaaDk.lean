/- A disk that the call made: its methods' contracts, and what is not the disk's stays. -/
import Derived.Test.YtjlbamjebidhgaaDisk5
namespace Go.Proofs.Ytjlbamjebidhgaa
open Go.RowKit Own

structure DkS where
  db : Nat
  sv : Value
  pv : Value
  S : List UInt8
  P : List Wr
/-- a block of the disk's -/
def DkS.mine (D : DkS) (k : Nat) : Prop := k = D.db ∨ D.sv.ownBlock = some k ∨ D.pv.ownBlock = some k ∨ ∃ p ∈ D.P, p.v.ownBlock = some k
structure Dk (w0 : World) (n : Nat) (D : DkS) (w : World) : Prop where
  at_ : DiskAt w0.heap.size D.db D.sv D.pv D.S D.P w
  below : Below w0.heap.size w0 w
  len : D.S.length = n * 64
  pos : 0 < n
  le : n ≤ 4096
def DkS.ptr (D : DkS) : Value := .pointer (some ⟨D.db, 0, none⟩)
structure Step (D : DkS) (w : World) (D' : DkS) (w' : World) : Prop where
  size : w.heap.size ≤ w'.heap.size
  same : ∀ k, k < w.heap.size → ¬ D.mine k → w'.heap[k]? = w.heap[k]?
  mine : ∀ k, D'.mine k → D.mine k ∨ w.heap.size ≤ k
theorem Step.refl (D : DkS) (w : World) : Step D w D w := ⟨Nat.le_refl _, fun _ _ _ => rfl, fun _ h => .inl h⟩
theorem Step.trans {D D' D'' : DkS} {w w' w'' : World} (h : Step D w D' w') (k : Step D' w' D'' w'') : Step D w D'' w'' :=
  ⟨Nat.le_trans h.size k.size, fun i hi hn => (k.same i (Nat.lt_of_lt_of_le hi h.size) (fun hm => by rcases h.mine i hm with h1 | h1; exact hn h1; omega)).trans (h.same i hi hn),
    fun i hi => by rcases k.mine i hi with h1 | h1; exact h.mine i h1; exact .inr (Nat.le_trans h.size h1)⟩
theorem Step.of_below {D : DkS} {w w' : World} (h : Below w.heap.size w w') : Step D w D w' := ⟨h.size, fun k hk _ => h.block k hk, fun _ h => .inl h⟩
theorem Dk.lt {w0 w : World} {n : Nat} {D : DkS} (h : Dk w0 n D w) {k : Nat} (hk : D.mine k) : w0.heap.size ≤ k ∧ k < w.heap.size := by
  rcases hk with rfl | hk | hk | ⟨p, hp, hk⟩
  · exact ⟨h.at_.hB, (Array.getElem?_eq_some_iff.1 h.at_.st).1⟩
  · exact h.at_.safe.lt k hk
  · exact h.at_.pend.lt k hk
  · exact (h.at_.bytes p hp).1.lt k hk
theorem Dk.go {w0 w w' : World} {n : Nat} {D : DkS} (h : Dk w0 n D w) (hb : Below w.heap.size w w') : Dk w0 n D w' :=
  ⟨h.at_.below hb, h.below.trans (hb.mono h.below.size), h.len, h.pos, h.le⟩
/-- a row of bytes that is not the disk's -/
structure Far (w0 : World) (D : DkS) (v : Value) (l : List UInt8) (w : World) : Prop where
  own : w.ownsRow w0.heap.size 5 1 v l.length (u8s l)
  far : ∀ g, v.ownBlock = some g → ¬ D.mine g
theorem Far.step {w0 w w' : World} {D D' : DkS} {v : Value} {l : List UInt8} (h : Far w0 D v l w) (k : Step D w D' w') : Far w0 D' v l w' :=
  ⟨own_same h.own fun g hg => k.same g (h.own.lt g hg).2 (h.far g hg), fun g hg hm => by
    rcases k.mine g hm with h1 | h1
    · exact h.far g hg h1
    · have := (h.own.lt g hg).2; omega⟩
theorem Far.new {w0 w w' : World} {n : Nat} {D : DkS} {v : Value} {l : List UInt8} (h : Dk w0 n D w) (hv : w'.ownsRow w.heap.size 5 1 v l.length (u8s l)) : Far w0 D v l w' :=
  ⟨own_mono hv h.below.size, fun g hg hm => by have := (h.lt hm).2; have := (hv.lt g hg).1; omega⟩
theorem Far.reads {w0 w : World} {D : DkS} {v : Value} {l : List UInt8} (h : Far w0 D v l w) : ReadsB w v l := ReadsB.own h.own

theorem Step.of_chg {D D' : DkS} {w w' : World} {ks : List Nat} (h : Chg ks w w') (hk : ∀ k ∈ ks, D.mine k) (hm : ∀ k, D'.mine k → D.mine k ∨ w.heap.size ≤ k) : Step D w D' w' :=
  ⟨h.size, fun k hlt hn => h.block k hlt (fun hx => hn (hk k hx)), hm⟩
theorem Dk.chg {w0 w w' : World} {n : Nat} {D : DkS} {ks : List Nat} (h : Dk w0 n D w) (hc : Chg ks w w') (hk : ∀ k ∈ ks, D.mine k) : Below w0.heap.size w0 w' :=
  h.below.trans (hc.below h.below.size fun k hx => (h.lt (hk k hx)).1)

theorem dk_new (n : Nat) (w : World) (h1 : 1 ≤ n) (hn : n ≤ 4096) :
    Calls Try.prog 7 #[.int .i64 n] w fun e w' => ∃ D : DkS, e = .returned (.tuple #[D.ptr, .int .i64 0]) ∧ Dk w n D w' ∧ D.S = zeros (n * 64) ∧ D.P = [] := by
  refine (new_any n w h1 hn).mono ?_
  rintro e w' ⟨db, sv, rfl, hd, hb⟩
  exact ⟨⟨db, sv, .slice none 0 0, zeros (n * 64), []⟩, rfl, ⟨hd, hb, zeros_length _, h1, hn⟩, rfl, rfl⟩
theorem dk_size {w0 w : World} {n : Nat} {D : DkS} (h : Dk w0 n D w) :
    Calls Try.prog 19 #[D.ptr] w fun e w' => e = .returned (.int .i64 n) ∧ w = w' := by
  obtain ⟨A, c, hsv⟩ := own_slice h.at_.safe
  have hst := h.at_.st
  rw [hsv, h.len] at hst
  exact size_any D.db A n c D.pv w hst h.le
theorem dk_pending {w0 w : World} {n : Nat} {D : DkS} (h : Dk w0 n D w) :
    Calls Try.prog 16 #[D.ptr] w fun e w' => e = .returned (.int .i64 D.P.length) ∧ w = w' := by
  obtain ⟨A, c, hpv⟩ := own_slice h.at_.pend
  have hst := h.at_.st
  rw [hpv] at hst
  exact pending_any D.db A D.P.length c D.sv w hst
theorem dk_write_out {w0 w : World} {n : Nat} {D : DkS} (h : Dk w0 n D w) (at_ : Int) (v : Value) (l : List UInt8) (hv : ReadsB w v l) (hbad : inB n at_ = false ∨ l.length ≠ 64) :
    Calls Try.prog 8 #[D.ptr, .int .i64 at_, v] w (ErrSame 1 w) :=
  write_out _ D.db n D.sv D.pv D.S D.P at_ v l w h.at_ h.len h.le hv hbad
theorem dk_write_in {w0 w : World} {n k : Nat} {D : DkS} (h : Dk w0 n D w) (v : Value) (l : List UInt8) (hv : ReadsB w v l) (hk : k < n) (hl : l.length = 64) (hP : D.P.length < 16384) :
    Calls Try.prog 8 #[D.ptr, .int .i64 k, v] w fun e w' => e = .returned (.int .i64 0) ∧ ∃ D' p, Dk w0 n D' w' ∧ Step D w D' w' ∧ D'.ptr = D.ptr ∧ D'.S = D.S ∧ D'.P = D.P ++ [p] ∧ p.at_ = k ∧ p.b = l := by
  refine (write_in _ D.db n k D.sv D.pv D.S D.P l v w h.at_ h.len h.le hk hv hl hP).mono ?_
  rintro e w' ⟨pv', v', rfl, hd, hc, hv', hpv⟩
  have hks : ∀ x ∈ D.db :: D.pv.ownBlock.toList, D.mine x := fun x hx => by
    rcases List.mem_cons.1 hx with rfl | hx
    · exact .inl rfl
    · exact .inr (.inr (.inl (by simpa using hx)))
  refine ⟨rfl, ⟨D.db, D.sv, pv', D.S, D.P ++ [⟨k, l, v'⟩]⟩, ⟨k, l, v'⟩, ⟨hd, h.chg hc hks, h.len, h.pos, h.le⟩, ?_, rfl, rfl, rfl, rfl, rfl⟩
  refine Step.of_chg hc hks fun x hx => ?_
  rcases hx with rfl | hx | hx | ⟨p, hp, hx⟩
  · exact .inl (.inl rfl)
  · exact .inl (.inr (.inl hx))
  · rcases hpv x hx with h1 | h1
    · exact .inl (.inr (.inr (.inl h1)))
    · exact .inr h1
  · rcases List.mem_append.1 hp with hp | hp
    · exact .inl (.inr (.inr (.inr ⟨p, hp, hx⟩)))
    · obtain rfl := List.mem_singleton.1 hp
      exact .inr (hv'.lt x hx).1
theorem dk_read_out {w0 w : World} {n : Nat} {D : DkS} (h : Dk w0 n D w) (at_ : Int) (hi : inB n at_ = false) :
    Calls Try.prog 12 #[D.ptr, .int .i64 at_] w (ReadOut w) :=
  read_out _ D.db n D.sv D.pv D.S D.P at_ w h.at_ h.len h.le hi
theorem dk_read_in {w0 w : World} {n k : Nat} {D : DkS} (h : Dk w0 n D w) (hk : k < n) (hP : D.P.length ≤ 16384) :
    Calls Try.prog 12 #[D.ptr, .int .i64 k] w (ReadPost D.S D.P k w) :=
  read_in _ D.db n k D.sv D.pv D.S D.P w h.at_ h.len h.le hk hP
theorem dk_dump {w0 w : World} {n : Nat} {D : DkS} (h : Dk w0 n D w) :
    Calls Try.prog 13 #[D.ptr] w fun e w' => ∃ v, e = .returned v ∧ w'.ownsRow w.heap.size 5 1 v D.S.length (u8s D.S) ∧ Below w.heap.size w w' :=
  dump_any _ D.db D.sv D.pv D.S D.P w h.at_ (by have := h.len; have := h.le; omega)
theorem step_crash {w0 w w' : World} {n : Nat} {D : DkS} (h : Dk w0 n D w) {S' : List UInt8} (hS : S'.length = D.S.length) (hd : DiskAt w0.heap.size D.db D.sv (.slice none 0 0) S' [] w') (hc : Chg (D.db :: D.sv.ownBlock.toList) w w') :
    ∃ D', Dk w0 n D' w' ∧ Step D w D' w' ∧ D'.ptr = D.ptr ∧ D'.S = S' ∧ D'.P = [] := by
  have hks : ∀ x ∈ D.db :: D.sv.ownBlock.toList, D.mine x := fun x hx => by
    rcases List.mem_cons.1 hx with rfl | hx
    · exact .inl rfl
    · exact .inr (.inl (by simpa using hx))
  refine ⟨⟨D.db, D.sv, .slice none 0 0, S', []⟩, ⟨hd, h.chg hc hks, hS.trans h.len, h.pos, h.le⟩, ?_, rfl, rfl, rfl⟩
  refine Step.of_chg hc hks fun x hx => ?_
  rcases hx with rfl | hx | hx | ⟨p, hp, hx⟩
  · exact .inl (.inl rfl)
  · exact .inl (.inr (.inl hx))
  · cases hx
  · cases hp
theorem crash_len {w0 w : World} {n : Nat} {D : DkS} (h : Dk w0 n D w) (cs : List Bool) : (crashD D.S D.P cs).length = D.S.length :=
  crashD_length _ _ _ fun p hp => ⟨(h.at_.bytes p hp).2.1, (h.at_.bytes p hp).2.2.2⟩
theorem dk_crash {w0 w : World} {n : Nat} {D : DkS} (h : Dk w0 n D w) (v : Value) (cs : List Bool) (hv : ReadsC w v cs) (hfar : ∀ a m c, v = .slice (some a) m c → 0 < m → ¬ D.mine a.block) (hP : D.P.length ≤ 16384) :
    Calls Try.prog 11 #[D.ptr, v] w fun e w' => e = .returned (.tuple #[]) ∧ ∃ D', Dk w0 n D' w' ∧ Step D w D' w' ∧ D'.ptr = D.ptr ∧ D'.S = crashD D.S D.P cs ∧ D'.P = [] := by
  refine (crash_any _ D.db n D.sv D.pv D.S D.P v cs w h.at_ h.len h.le h.pos hP hv ?_).mono ?_
  · intro a m c ha hm hx
    refine hfar a m c ha hm ?_
    rcases List.mem_cons.1 hx with hx | hx
    · exact .inl hx
    · exact .inr (.inl (by simpa using hx))
  · rintro e w' ⟨rfl, hd, hc⟩
    exact ⟨rfl, step_crash h (crash_len h cs) hd hc⟩
theorem dk_crash_nil {w0 w : World} {n : Nat} {D : DkS} (h : Dk w0 n D w) (hP : D.P.length ≤ 16384) :
    Calls Try.prog 11 #[D.ptr, .slice none 0 0] w fun e w' => e = .returned (.tuple #[]) ∧ ∃ D', Dk w0 n D' w' ∧ Step D w D' w' ∧ D'.ptr = D.ptr ∧ D'.S = D.S ∧ D'.P = [] := by
  refine (dk_crash h (.slice none 0 0) [] (.inl ⟨rfl, rfl⟩) (fun a m c h _ => by cases h) hP).mono ?_
  rintro e w' ⟨rfl, D', h', hs, hp, hS, hPn⟩
  refine ⟨rfl, D', h', hs, hp, ?_, hPn⟩
  rw [hS]
  cases D.P <;> rfl
/-- all is safe -/
def flushD (S : List UInt8) (P : List Wr) : List UInt8 := P.foldl (fun S p => patch S p.at_ p.b) S
theorem flushD_eq : ∀ (P : List Wr) (S : List UInt8), crashD S P (List.replicate P.length true) = flushD S P
  | [], S => rfl
  | p :: P, S => by
    rw [List.length_cons, List.replicate_succ, crashD, if_pos rfl, flushD_eq P]
    rfl
theorem dk_flush {w0 w : World} {n : Nat} {D : DkS} (h : Dk w0 n D w) (hP : D.P.length ≤ 16384) :
    Calls Try.prog 10 #[D.ptr] w fun e w' => e = .returned (.tuple #[]) ∧ ∃ D', Dk w0 n D' w' ∧ Step D w D' w' ∧ D'.ptr = D.ptr ∧ D'.S = flushD D.S D.P ∧ D'.P = [] := by
  refine (flush_any _ D.db n D.sv D.pv D.S D.P w h.at_ h.len h.le h.pos hP).mono ?_
  rintro e w' ⟨rfl, hd, hc⟩
  rw [flushD_eq] at hd
  exact ⟨rfl, step_crash h (by rw [← flushD_eq]; exact crash_len h _) hd hc⟩
theorem dk_rot_out {w0 w : World} {n : Nat} {D : DkS} (h : Dk w0 n D w) (at_ : Int) (x : UInt8) (ha : at_ < 0 ∨ (n : Int) * 64 ≤ at_) :
    Calls Try.prog 20 #[D.ptr, .int .i64 at_, .int .u8 (x.toNat : Int)] w (ErrSame 1 w) := by
  obtain ⟨A, c, hsv⟩ := own_slice h.at_.safe
  have hst := h.at_.st
  rw [hsv] at hst
  exact rot_out D.db A D.S.length c D.pv at_ x w hst (by have := h.len; omega)
theorem dk_rot_in {w0 w : World} {n k : Nat} {D : DkS} (h : Dk w0 n D w) (x : UInt8) (hk : k < n * 64) :
    Calls Try.prog 20 #[D.ptr, .int .i64 k, .int .u8 (x.toNat : Int)] w fun e w' => e = .returned (.int .i64 0) ∧ ∃ D', Dk w0 n D' w' ∧ Step D w D' w' ∧ D'.ptr = D.ptr ∧ D'.S = D.S.set k (D.S.getD k 0 ^^^ x) ∧ D'.P = D.P := by
  have hlen := h.len
  have hle := h.le
  refine (rot_in _ D.db k D.sv D.pv D.S D.P x w h.at_ (by omega) (by omega)).mono ?_
  rintro e w' ⟨rfl, hd, hc⟩
  have hks : ∀ x ∈ D.sv.ownBlock.toList, D.mine x := fun x hx => .inr (.inl (by simpa using hx))
  exact ⟨rfl, ⟨D.db, D.sv, D.pv, D.S.set k (D.S.getD k 0 ^^^ x), D.P⟩, ⟨hd, h.chg hc hks, by simpa using h.len, h.pos, h.le⟩, Step.of_chg hc hks fun x hx => .inl hx, rfl, rfl, rfl⟩
/-- a byte of a foreign row is set -/
theorem Dk.setFar {w0 w : World} {n : Nat} {D : DkS} (h : Dk w0 n D w) {g : Nat} (hg : w0.heap.size ≤ g) (hm : ¬ D.mine g) (j : Nat) (u : Value) : Dk w0 n D (w.setCell ⟨g, j, none⟩ u) := by
  have hs : ∀ k, k ≠ g → (w.setCell ⟨g, j, none⟩ u).heap[k]? = w.heap[k]? := fun k hk => Below.heap_setCell _ _ _ _ hk
  refine ⟨⟨h.at_.hB, ?_, ?_, ?_, fun p hp => ⟨?_, (h.at_.bytes p hp).2⟩⟩, h.below.setCell hg _, h.len, h.pos, h.le⟩
  · rw [hs _ (fun e => hm (.inl e.symm))]; exact h.at_.st
  · exact own_same h.at_.safe fun k hk => hs k (by rintro rfl; exact hm (.inr (.inl hk)))
  · exact own_same h.at_.pend fun k hk => hs k (by rintro rfl; exact hm (.inr (.inr (.inl hk))))
  · exact own_same (h.at_.bytes p hp).1 fun k hk => hs k (by rintro rfl; exact hm (.inr (.inr (.inr ⟨p, hp, hk⟩))))
end Go.Proofs.Ytjlbamjebidhgaa
