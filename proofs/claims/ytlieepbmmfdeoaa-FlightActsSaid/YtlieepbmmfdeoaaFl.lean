/- A flight that the call made, with all that the laws need of it in one word; the methods' contracts in that word. -/
import Derived.Test.YtlieepbmmfdeoaaFlight5
import Derived.Test.YtlieepbmmfdeoaaLaw
namespace Go.Proofs.Ytlieepbmmfdeoaa
open Go.RowKit Own

theorem not_parted (a b : Int) : partedB noKeys a b = false := rfl
theorem all_none : AllTrue noKeys := fun k v h => by simp [noKeys] at h

/-- What is no flight's is as it was. -/
def Keeps (mb : Nat) (w w' : World) : Prop :=
  w.heap.size ≤ w'.heap.size ∧ ∀ k o, w.heap[k]? = some o → (∀ cs fr, o ≠ .cells cs 50 fr) → (∀ cs fr, o ≠ .cells cs 55 fr) → k ≠ mb → w'.heap[k]? = some o
theorem Keeps.trans {mb : Nat} {a b c : World} (h : Keeps mb a b) (k : Keeps mb b c) : Keeps mb a c :=
  ⟨Nat.le_trans h.1 k.1, fun i o ho h1 h2 h3 => k.2 i o (h.2 i o ho h1 h2 h3) h1 h2 h3⟩
theorem Keeps.of_below {mb : Nat} {w w' : World} (h : Below w.heap.size w w') : Keeps mb w w' :=
  ⟨h.size, fun k _ ho _ _ _ => (h.block k (Array.getElem?_eq_some_iff.1 ho).1).trans ho⟩
theorem Keeps.own {mb : Nat} {w w' : World} {base : Nat} {e : TypeId} {size n : Nat} {v : Value} {xs : List Value} (h : w.ownsRow base e size v n xs) (hk : Keeps mb w w') (h1 : e ≠ 50) (h2 : e ≠ 55) (hm : ∃ es clock, w.heap[mb]? = some (.map es clock)) :
    w'.ownsRow base e size v n xs := by
  refine own_same h fun g hg => ?_
  obtain ⟨cur, hc⟩ := own_type h hg
  rw [hc]
  refine hk.2 g _ hc (fun cs fr e1 => ?_) (fun cs fr e1 => ?_) ?_
  · cases e1; exact h1 rfl
  · cases e1; exact h2 rfl
  · rintro rfl
    obtain ⟨es, clock, hm⟩ := hm
    rw [hm] at hc; cases hc

structure Fl (w0 : World) (fb mb n : Nat) (f : Value → Option Value) (lv : Value) (L : List (Msg × Value)) (w : World) : Prop where
  at_ : FlightAt w0.heap.size fb mb lv L w
  map : MapIs Try.prog 59 mb n f w
  hmb : w0.heap.size ≤ mb
  all : AllTrue f
  below : Below w0.heap.size w0 w
  wf : ∀ p ∈ L, (Lit.int .i64 p.1.fr).wf = true ∧ (Lit.int .i64 p.1.to).wf = true ∧ p.1.b.length ≤ 140737488351232
theorem Fl.isMap {w0 w : World} {fb mb n : Nat} {f : Value → Option Value} {lv : Value} {L : List (Msg × Value)} (h : Fl w0 fb mb n f lv L w) : ∃ es clock, w.heap[mb]? = some (.map es clock) := by
  obtain ⟨es, clock, hb, _⟩ := h.map
  exact ⟨es, clock, hb⟩
theorem Fl.go {w0 w w' : World} {fb mb n : Nat} {f : Value → Option Value} {lv : Value} {L : List (Msg × Value)} (h : Fl w0 fb mb n f lv L w) (hb : Below w.heap.size w w') : Fl w0 fb mb n f lv L w' :=
  ⟨h.at_.below hb, h.map.same (hb.block mb h.map.lt), h.hmb, h.all, h.below.trans (hb.mono h.below.size), h.wf⟩
theorem keeps_of_chg {w0 w w' : World} {fb mb n : Nat} {f : Value → Option Value} {lv : Value} {L : List (Msg × Value)} (h : Fl w0 fb mb n f lv L w) (hc : Chg (fb :: lv.ownBlock.toList) w w') : Keeps mb w w' := by
  refine ⟨hc.size, fun k o ho h1 h2 _ => (hc.block k (Array.getElem?_eq_some_iff.1 ho).1 fun hx => ?_).trans ho⟩
  rcases List.mem_cons.1 hx with rfl | hx
  · have := h.at_.st
    rw [ho] at this; cases this
    exact h1 _ _ rfl
  · obtain ⟨cur, hcu⟩ := own_type h.at_.own (g := k) (by simpa using hx)
    rw [ho] at hcu; cases hcu
    exact h2 _ _ rfl
theorem Fl.turn {w0 w w' : World} {fb mb n : Nat} {f : Value → Option Value} {lv lv' : Value} {L L' : List (Msg × Value)} (h : Fl w0 fb mb n f lv L w) (hf : FlightAt w0.heap.size fb mb lv' L' w') (hc : Chg (fb :: lv.ownBlock.toList) w w')
    (hw : ∀ p ∈ L', (Lit.int .i64 p.1.fr).wf = true ∧ (Lit.int .i64 p.1.to).wf = true ∧ p.1.b.length ≤ 140737488351232) : Fl w0 fb mb n f lv' L' w' ∧ Keeps mb w w' :=
  ⟨⟨hf, h.map.chg hc (h.at_.map_ne h.map), h.hmb, h.all, h.below.trans (hc.below h.below.size h.at_.ge), hw⟩, keeps_of_chg h hc⟩

/-- the flight's answer and how it stands -/
def FlPost (w0 : World) (fb mb n : Nat) (f : Value → Option Value) (r : Value) (P : List (Msg × Value) → Prop) (w : World) (e : Ending) (w' : World) : Prop :=
  e = .returned r ∧ Keeps mb w w' ∧ ∃ lv L, Fl w0 fb mb n f lv L w' ∧ P L

/-- one message more, with bytes of its own -/
def FlAdd (w0 : World) (fb mb n : Nat) (f : Value → Option Value) (L : List (Msg × Value)) (m : Msg) (w : World) (e : Ending) (w' : World) : Prop :=
  e = .returned (.bool true) ∧ Keeps mb w w' ∧ ∃ lv L', Fl w0 fb mb n f lv L' w' ∧ ∃ v, L' = L ++ [(m, v)] ∧ w'.ownsRow w.heap.size 5 1 v m.b.length (u8s m.b)
theorem fl_new (w : World) : Calls Try.prog 8 #[] w fun e w' => ∃ fb mb, e = .returned (.pointer (some ⟨fb, 0, none⟩)) ∧ Fl w fb mb 0 noKeys (.slice none 0 0) [] w' := by
  refine (new_any w).mono ?_
  rintro e w1 ⟨fb, mb, rfl, hf, hm, hmb, hb⟩
  exact ⟨fb, mb, rfl, hf, hm, hmb, all_none, hb, fun p hp => by cases hp⟩

section
variable {w0 w : World} {fb mb n : Nat} {f : Value → Option Value} {lv : Value} {L : List (Msg × Value)}
theorem fl_post (h : Fl w0 fb mb n f lv L w) (a b : Int) (v : Value) (l : List UInt8) (hv : ReadsB w v l) (ha : (Lit.int .i64 a).wf = true) (hb : (Lit.int .i64 b).wf = true) (hl : l.length ≤ 140737488351232) (hL : L.length < 16384) :
    Calls Try.prog 12 #[.pointer (some ⟨fb, 0, none⟩), .int .i64 a, .int .i64 b, v] w (FlAdd w0 fb mb n f L ⟨a, b, l⟩ w) := by
  refine (post_any w0.heap.size fb mb lv L ⟨a, b, l⟩ v w h.at_ hv hl hL).mono ?_
  rintro e w1 ⟨lv', v', rfl, hf, hc, hv'⟩
  have hw : ∀ p ∈ L ++ [((⟨a, b, l⟩ : Msg), v')], (Lit.int .i64 p.1.fr).wf = true ∧ (Lit.int .i64 p.1.to).wf = true ∧ p.1.b.length ≤ 140737488351232 := by
    intro p hp
    rcases List.mem_append.1 hp with hp | hp
    · exact h.wf p hp
    · rw [List.mem_singleton.1 hp]; exact ⟨ha, hb, hl⟩
  obtain ⟨h1, h2⟩ := h.turn hf hc hw
  exact ⟨rfl, h2, lv', _, h1, v', rfl, hv'⟩
theorem fl_full (h : Fl w0 fb mb n f lv L w) (a b : Int) (v : Value) (hL : 16384 ≤ L.length) :
    Calls Try.prog 12 #[.pointer (some ⟨fb, 0, none⟩), .int .i64 a, .int .i64 b, v] w (FlPost w0 fb mb n f (.bool false) (fun L' => L' = L) w) := by
  refine (post_full w0.heap.size fb mb lv L a b v w h.at_ hL).mono ?_
  rintro e w1 ⟨rfl, rfl⟩
  exact ⟨rfl, Keeps.of_below (Below.refl _ _), lv, L, h, rfl⟩
theorem fl_len (h : Fl w0 fb mb n f lv L w) : Calls Try.prog 16 #[.pointer (some ⟨fb, 0, none⟩)] w fun e w' => e = .returned (.int .i64 L.length) ∧ w = w' := by
  have h1 := h.at_
  obtain ⟨A, c, rfl⟩ := own_slice h1.own
  exact len_any fb mb A L.length c w h1.st
/-- Look, in the flight: bytes of its own -/
def FlLook (w0 : World) (fb mb n : Nat) (f : Value → Option Value) (lv : Value) (L : List (Msg × Value)) (m : Msg) (w : World) (e : Ending) (w' : World) : Prop :=
  ∃ v, e = .returned (.tuple #[.int .i64 m.fr, .int .i64 m.to, v, .bool true]) ∧ w'.ownsRow w.heap.size 5 1 v m.b.length (u8s m.b) ∧ Fl w0 fb mb n f lv L w' ∧ Below w.heap.size w w'
theorem fl_look (h : Fl w0 fb mb n f lv L w) (k : Nat) (hk : k < L.length) (hL : L.length ≤ 16384) :
    Calls Try.prog 10 #[.pointer (some ⟨fb, 0, none⟩), .int .i64 k] w (FlLook w0 fb mb n f lv L (L[k]'hk).1 w) := by
  refine (look_in w0.heap.size fb mb lv L k hk w h.at_ (h.wf _ (List.getElem_mem hk)).2.2 hL).mono ?_
  rintro e w1 ⟨hb, v, rfl, hv⟩
  exact ⟨v, rfl, hv, h.go hb, hb⟩
theorem fl_look_out (h : Fl w0 fb mb n f lv L w) (i : Int) (hi : i < 0 ∨ (L.length : Int) ≤ i) :
    Calls Try.prog 10 #[.pointer (some ⟨fb, 0, none⟩), .int .i64 i] w (NonePost w) := look_out w0.heap.size fb mb lv L i hi w h.at_
theorem fl_drop (h : Fl w0 fb mb n f lv L w) (k : Nat) (hk : k < L.length) (hL : L.length ≤ 16384) :
    Calls Try.prog 14 #[.pointer (some ⟨fb, 0, none⟩), .int .i64 k] w (FlPost w0 fb mb n f (.bool true) (fun L' => L' = L.eraseIdx k) w) := by
  refine (drop_in w0.heap.size fb mb lv L k hk w h.at_ hL).mono ?_
  rintro e w1 ⟨lv', rfl, hf, hc⟩
  obtain ⟨h1, h2⟩ := h.turn hf hc (fun p hp => h.wf p (List.mem_of_mem_eraseIdx hp))
  exact ⟨rfl, h2, lv', _, h1, rfl⟩
theorem fl_drop_out (h : Fl w0 fb mb n f lv L w) (i : Int) (hi : i < 0 ∨ (L.length : Int) ≤ i) :
    Calls Try.prog 14 #[.pointer (some ⟨fb, 0, none⟩), .int .i64 i] w (BoolSame false w) := drop_out w0.heap.size fb mb lv L i hi w h.at_
theorem fl_twice (h : Fl w0 fb mb n f lv L w) (k : Nat) (hk : k < L.length) (hL : L.length < 16384) :
    Calls Try.prog 11 #[.pointer (some ⟨fb, 0, none⟩), .int .i64 k] w (FlAdd w0 fb mb n f L (L[k]'hk).1 w) := by
  refine (twice_in w0.heap.size fb mb lv L k hk w h.at_ (h.wf _ (List.getElem_mem hk)).2.2 hL).mono ?_
  rintro e w1 ⟨lv', v', rfl, hf, hc, hv'⟩
  have hw : ∀ p ∈ L ++ [((L[k]'hk).1, v')], (Lit.int .i64 p.1.fr).wf = true ∧ (Lit.int .i64 p.1.to).wf = true ∧ p.1.b.length ≤ 140737488351232 := by
    intro p hp
    rcases List.mem_append.1 hp with hp | hp
    · exact h.wf p hp
    · rw [List.mem_singleton.1 hp]; exact h.wf (L[k]'hk) (List.getElem_mem hk)
  obtain ⟨h1, h2⟩ := h.turn hf hc hw
  exact ⟨rfl, h2, lv', _, h1, v', rfl, hv'⟩
theorem fl_twice_out (h : Fl w0 fb mb n f lv L w) (i : Int) (hi : i < 0 ∨ (L.length : Int) ≤ i) :
    Calls Try.prog 11 #[.pointer (some ⟨fb, 0, none⟩), .int .i64 i] w (BoolSame false w) := twice_out w0.heap.size fb mb lv L i hi w h.at_
theorem fl_twice_full (h : Fl w0 fb mb n f lv L w) (k : Nat) (hk : k < L.length) (hL : L.length = 16384) :
    Calls Try.prog 11 #[.pointer (some ⟨fb, 0, none⟩), .int .i64 k] w (FlPost w0 fb mb n f (.bool false) (fun L' => L' = L) w) := by
  refine (twice_full w0.heap.size fb mb lv L k hk w h.at_ (h.wf _ (List.getElem_mem hk)).2.2 hL).mono ?_
  rintro e w1 ⟨rfl, hb⟩
  exact ⟨rfl, Keeps.of_below hb, lv, L, h.go hb, rfl⟩
theorem fl_parted (h : Fl w0 fb mb n f lv L w) (a b : Int) (ha : (Lit.int .i64 a).wf = true) (hb : (Lit.int .i64 b).wf = true) :
    Calls Try.prog 17 #[.pointer (some ⟨fb, 0, none⟩), .int .i64 a, .int .i64 b] w fun e w' => e = .returned (.bool (partedB f a b)) ∧ Fl w0 fb mb n f lv L w' ∧ Below w.heap.size w w' := by
  refine (parted_any fb mb n lv f a b ha hb w h.at_.st h.map h.all).mono ?_
  rintro e w1 ⟨rfl, hb1⟩
  exact ⟨rfl, h.go hb1, hb1⟩
/-- Deliver, in the flight -/
def FlDeliver (w0 : World) (fb mb n : Nat) (f : Value → Option Value) (L : List (Msg × Value)) (k : Nat) (m : Msg) (w : World) (e : Ending) (w' : World) : Prop :=
  ∃ v, e = .returned (deliverV (partedB f m.fr m.to) m v) ∧ w'.ownsRow w.heap.size 5 1 v m.b.length (u8s m.b) ∧ Keeps mb w w' ∧ ∃ lv', Fl w0 fb mb n f lv' (L.eraseIdx k) w'
theorem fl_deliver (h : Fl w0 fb mb n f lv L w) (k : Nat) (hk : k < L.length) (hL : L.length ≤ 16384) :
    Calls Try.prog 9 #[.pointer (some ⟨fb, 0, none⟩), .int .i64 k] w (FlDeliver w0 fb mb n f L k (L[k]'hk).1 w) := by
  have hw := h.wf _ (List.getElem_mem hk)
  refine (deliver_in w0.heap.size fb mb n lv L f k hk w h.at_ h.map h.all hw.1 hw.2.1 hw.2.2 hL).mono ?_
  rintro e w1 ⟨lv', v, rfl, hf, hc, hv⟩
  obtain ⟨h1, h2⟩ := h.turn hf hc (fun p hp => h.wf p (List.mem_of_mem_eraseIdx hp))
  exact ⟨v, rfl, hv, h2, lv', h1⟩
theorem fl_deliver_out (h : Fl w0 fb mb n f lv L w) (i : Int) (hi : i < 0 ∨ (L.length : Int) ≤ i) :
    Calls Try.prog 9 #[.pointer (some ⟨fb, 0, none⟩), .int .i64 i] w fun e w' => e = .returned (.tuple #[.int .i64 0, .int .i64 0, .slice none 0 0, .bool false]) ∧ Fl w0 fb mb n f lv L w' ∧ Below w.heap.size w w' := by
  refine (deliver_out w0.heap.size fb mb n lv L f i hi w h.at_ h.map h.all).mono ?_
  rintro e w1 ⟨rfl, hb⟩
  exact ⟨rfl, h.go hb, hb⟩
/-- a byte of somebody else's is written -/
theorem Fl.setByte (h : Fl w0 fb mb n f lv L w) (g j : Nat) (u : Value) (hg : w0.heap.size ≤ g) (hh : ∃ cur, w.heap[g]? = some (.cells cur 5 (0, 0))) (hL : ∀ p ∈ L, p.2.ownBlock ≠ some g) : Fl w0 fb mb n f lv L (w.setCell ⟨g, j, none⟩ u) := by
  obtain ⟨cur, hh⟩ := hh
  have hfb : fb ≠ g := by rintro rfl; have := h.at_.st; rw [hh] at this; cases this
  have hmb : mb ≠ g := by rintro rfl; obtain ⟨es, clock, hm⟩ := h.isMap; rw [hh] at hm; cases hm
  have hlv : lv.ownBlock ≠ some g := own_ne h.at_.own fun cur h2 => by rw [hh] at h2; cases h2
  refine ⟨⟨h.at_.hB, ?_, ?_, ?_⟩, ?_, h.hmb, h.all, h.below.trans ?_, h.wf⟩
  · rw [Below.heap_setCell _ _ _ _ (by simpa using hfb)]; exact h.at_.st
  · exact ownsRow_setCell_other h.at_.own hlv _
  · exact fun p hp => ownsRow_setCell_other (h.at_.bytes p hp) (hL p hp) _
  · exact h.map.same (Below.heap_setCell _ _ _ _ (by simpa using hmb))
  · exact (Chg.setCell (ks := [g]) u (by simp)).below h.below.size (by simpa using hg)
theorem keeps_map {w' : World} (hc : Chg [mb] w w') : Keeps mb w w' :=
  ⟨hc.size, fun k _ ho _ _ hk => (hc.block k (Array.getElem?_eq_some_iff.1 ho).1 (by simpa using hk)).trans ho⟩
theorem Fl.turnMap {w' : World} {n' : Nat} {f' : Value → Option Value} (h : Fl w0 fb mb n f lv L w) (hm : MapIs Try.prog 59 mb n' f' w') (hc : Chg [mb] w w') (hf : AllTrue f') : Fl w0 fb mb n' f' lv L w' := by
  have hne := h.at_.map_ne h.map
  have hfb : fb ≠ mb := fun e => hne (e ▸ List.mem_cons_self ..)
  refine ⟨⟨h.at_.hB, ?_, ?_, ?_⟩, hm, h.hmb, hf, h.below.trans (hc.below h.below.size (by simpa using h.hmb)), h.wf⟩
  · exact (hc.block fb (Array.getElem?_eq_some_iff.1 h.at_.st).1 (by simpa using hfb)).trans h.at_.st
  · refine own_same h.at_.own fun g hg => hc.block g (h.at_.own.lt g hg).2 ?_
    rw [List.mem_singleton]
    rintro rfl
    exact hne (List.mem_cons_of_mem _ (by rw [hg]; simp))
  · intro p hp
    refine own_same (h.at_.bytes p hp) fun g hg => hc.block g ((h.at_.bytes p hp).lt g hg).2 ?_
    rw [List.mem_singleton]
    rintro rfl
    obtain ⟨cur, hc1⟩ := own_type (h.at_.bytes p hp) hg
    obtain ⟨es, clock, hc2⟩ := h.isMap
    rw [hc1] at hc2; cases hc2
theorem fl_part (h : Fl w0 fb mb n f lv L w) (a b : Int) (hab : a ≠ b) (ha : (Lit.int .i64 a).wf = true) (hb : (Lit.int .i64 b).wf = true) :
    Calls Try.prog 19 #[.pointer (some ⟨fb, 0, none⟩), .int .i64 a, .int .i64 b] w fun e w' => e = .returned (.tuple #[]) ∧ Fl w0 fb mb (n + 1) (putKey f (K2 (min a b) (max a b)) (.bool true)) lv L w' ∧ Keeps mb w w' := by
  refine (part_any fb mb n lv f a b hab ha hb w h.at_.st h.map).mono ?_
  rintro e w1 ⟨rfl, hm, hc⟩
  refine ⟨rfl, h.turnMap hm hc ?_, keeps_map hc⟩
  intro k v hv
  by_cases hk : k = K2 (min a b) (max a b)
  · rw [hk, putKey_same] at hv; cases hv; rfl
  · rw [putKey_other _ _ hk] at hv; exact h.all k v hv
theorem fl_part_same (h : Fl w0 fb mb n f lv L w) (a : Int) :
    Calls Try.prog 19 #[.pointer (some ⟨fb, 0, none⟩), .int .i64 a, .int .i64 a] w fun e w' => e = .returned (.tuple #[]) ∧ w = w' := part_same fb mb lv a w h.at_.st
theorem fl_heal (h : Fl w0 fb mb n f lv L w) :
    Calls Try.prog 20 #[.pointer (some ⟨fb, 0, none⟩)] w fun e w' => e = .returned (.tuple #[]) ∧ Fl w0 fb mb 0 noKeys lv L w' ∧ Keeps mb w w' := by
  refine (heal_any fb mb n lv f w h.at_.st h.map).mono ?_
  rintro e w1 ⟨rfl, hm, hc⟩
  exact ⟨rfl, h.turnMap hm hc all_none, keeps_map hc⟩
end
end Go.Proofs.Ytlieepbmmfdeoaa
