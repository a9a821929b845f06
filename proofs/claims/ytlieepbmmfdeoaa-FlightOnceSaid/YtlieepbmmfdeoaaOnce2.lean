/- FlightOnce: the methods' contracts as the law meets them. -/
import Derived.Test.YtlieepbmmfdeoaaOnce1
namespace Go.Proofs.Ytlieepbmmfdeoaa.flightOnce
open Go.RowKit Own

theorem cnt_le (κ : Value) : ∀ L : List (Msg × Value), cnt L κ ≤ L.length
  | [] => Nat.le_refl _
  | p :: L => by
    have := cnt_le κ L
    have h1 : one (keyV p.1) κ ≤ 1 := by unfold one; split <;> omega
    simp only [cnt, List.length_cons]; omega

/-- how it stands behind j acts -/
def Inv (w0 : World) (fb mb lb j : Nat) (w : World) : Prop := ∃ n g lv L, Once w0 fb mb lb n g lv L w ∧ Cnt g L ∧ L.length ≤ j
theorem Inv.below {w0 w : World} {fb mb lb j : Nat} (h : Inv w0 fb mb lb j w) : Below w0.heap.size w0 w := by
  obtain ⟨n, g, lv, L, h, _⟩ := h
  exact h.fl.below
theorem Inv.go {w0 w w' : World} {fb mb lb j : Nat} (h : Inv w0 fb mb lb j w) (hb : Below w.heap.size w w') : Inv w0 fb mb lb j w' := by
  obtain ⟨n, g, lv, L, h, h1, h2⟩ := h
  exact ⟨n, g, lv, L, h.go hb, h1, h2⟩
theorem Inv.succ {w0 w : World} {fb mb lb j : Nat} (h : Inv w0 fb mb lb j w) : Inv w0 fb mb lb (j + 1) w := by
  obtain ⟨n, g, lv, L, h, h1, h2⟩ := h
  exact ⟨n, g, lv, L, h, h1, by omega⟩
theorem Inv.start {w0 w1 : World} {fb mb : Nat} (h : Fl w0 fb mb 0 noKeys (.slice none 0 0) [] w1) : Inv w0 fb mb w1.heap.size 0 (w1.alloc (.map #[] 0)) := by
  have hb : Below w1.heap.size w1 (w1.alloc (.map #[] 0)) := (Below.refl _ _).alloc (Nat.le_refl _) _
  refine ⟨0, noKeys, _, [], ⟨h.go hb, MapIs.made w1, h.below.size, fun e => ?_⟩, Cnt.nil, Nat.le_refl _⟩
  have := h.map.lt
  omega
theorem keep_row {mb k : Nat} {w w' : World} {cs : Array Value} {t : TypeId} (hk : Keeps mb w w') (hm : ∃ es clock, w.heap[mb]? = some (.map es clock)) (hh : w.heap[k]? = some (.cells cs t (0, 0))) (h1 : t ≠ 50) (h2 : t ≠ 55) : w'.heap[k]? = some (.cells cs t (0, 0)) :=
  hk.2 k _ hh (fun _ _ e => by cases e; exact h1 rfl) (fun _ _ e => by cases e; exact h2 rfl) (by rintro rfl; obtain ⟨es, clock, hm⟩ := hm; rw [hm] at hh; cases hh)

/-- what the entry of a message does, from a world on: c stands there, c' is stored -/
def Steps (lb : Nat) (K : Value) (c c' : Int) (W : World) (stamp : Value) (w3 w4 : World) : Prop :=
  ((Instr.lookup 25 (.map (some lb)) K false).run Try.prog W = .ok (.int .i64 c) W) ∧
  ((Instr.lookup 25 (.map (some lb)) K false).run Try.prog W.drew = .ok (.int .i64 c) W.drew) ∧
  ((Instr.mapEntry 25 (.map (some lb)) K).run Try.prog W.drew = .ok (.tuple #[.int .i64 c, stamp]) w3) ∧
  ((Instr.lookup 25 (.map (some lb)) K false).run Try.prog w3 = .ok (.int .i64 c) w3) ∧
  ((Instr.entryStore 25 (.map (some lb)) stamp (.int .i64 c')).run Try.prog w3 = .ok () w4)
theorem Once.steps {w0 w : World} {fb mb lb n : Nat} {g : Value → Option Value} {lv : Value} {L : List (Msg × Value)} (h : Once w0 fb mb lb n g lv L w) {m : Msg} (ha : (Lit.int .i64 m.fr).wf = true) (hb : (Lit.int .i64 m.to).wf = true) (hl : m.b.length ≤ 140737488351232) {c : Int} (hc : (g (keyV m)).getD (.int .i64 0) = .int .i64 c) (c' : Int) :
    ∃ stamp w3 w4, Steps lb (keyV m) c c' w stamp w3 w4 ∧ Once w0 fb mb lb (n + 1) (putKey g (keyV m) (.int .i64 c')) lv L w4 := by
  obtain ⟨s0, u1, u2, hE0⟩ := h.entry ha hb hl hc c'
  obtain ⟨stamp, w3, w4, hE⟩ := (h.go (Below.drew (Below.refl _ _))).entry ha hb hl hc c'
  exact ⟨stamp, w3, w4, ⟨hE0.look, hE.look, hE.entry, hE.look1, hE.store⟩, hE.once⟩

def AddAns (w0 : World) (fb mb lb j k : Nat) (O : Obj) (dv : Value) (m : Msg) (e : Ending) (w2 : World) : Prop :=
  e = .returned (.bool true) ∧ w2.heap[k]? = some O ∧ (convert 26 9 dv).run Try.prog w2.drew = .ok (.string ⟨m.b.toArray⟩) w2.drew ∧
    ∃ c stamp w3 w4, 0 ≤ c ∧ c ≤ 500 ∧ Steps lb (keyV m) c (c + 1) w2 stamp w3 w4 ∧ Inv w0 fb mb lb (j + 1) w4

theorem added {w0 w w2 : World} {fb mb lb j n : Nat} {g : Value → Option Value} {lv lv2 v2 : Value} {L : List (Msg × Value)} {m : Msg} (h : Once w0 fb mb lb n g lv L w) (hc : Cnt g L) (hL : L.length ≤ j) (hj : j < 500) (hk : Keeps mb w w2) (hF : Fl w0 fb mb 0 noKeys lv2 (L ++ [(m, v2)]) w2) :
    ∃ c stamp w3 w4, 0 ≤ c ∧ c ≤ 500 ∧ Steps lb (keyV m) c (c + 1) w2 stamp w3 w4 ∧ Inv w0 fb mb lb (j + 1) w4 := by
  have hm := hF.wf (m, v2) (List.mem_append_right _ (List.mem_singleton_self _))
  obtain ⟨stamp, w3, w4, hS, hO⟩ := (h.of hk hF).steps hm.1 hm.2.1 hm.2.2 (hc (keyV m)) ((cnt L (keyV m) : Int) + 1)
  have hle := cnt_le (keyV m) L
  exact ⟨_, stamp, w3, w4, by omega, by omega, hS, _, _, _, _, hO, hc.add m v2, by rw [List.length_append, List.length_singleton]; omega⟩

theorem c_post {w0 w : World} {fb mb lb j k : Nat} (h : Inv w0 fb mb lb j w) (hj : j < 500) {cs : Array Value} (hh : w.heap[k]? = some (.cells cs 28 (0, 0))) (a b : Int) (dv : Value) (l : List UInt8) (hr : ∀ w', Below w0.heap.size w0 w' → ReadsB w' dv l)
    (ha : (Lit.int .i64 a).wf = true) (hb : (Lit.int .i64 b).wf = true) (hl : l.length ≤ 140737488351232) :
    Calls Try.prog 12 #[.pointer (some ⟨fb, 0, none⟩), .int .i64 a, .int .i64 b, dv] w (AddAns w0 fb mb lb j k (.cells cs 28 (0, 0)) dv ⟨a, b, l⟩) := by
  obtain ⟨n, g, lv, L, hO, hc, hL⟩ := h
  refine (fl_post hO.fl a b dv l (hr w hO.fl.below) ha hb hl (by omega)).mono ?_
  rintro e w2 ⟨rfl, hk, lv2, L2, h2, v2, rfl, _⟩
  exact ⟨rfl, keep_row hk hO.fl.isMap hh (by decide) (by decide), conv_reads (hr _ (h2.below.trans (Below.drew (Below.refl _ _)))), added hO hc hL hj hk h2⟩

def kOf (m : Msg) : Obj := .cells #[.int .i64 m.fr, .int .i64 m.to, .string ⟨m.b.toArray⟩] 32
def TakeAns (w0 : World) (fb mb lb j : Nat) (e : Ending) (w2 : World) : Prop :=
  ∃ (m : Msg) (v : Value), e = .returned (.tuple #[.int .i64 m.fr, .int .i64 m.to, v, .bool true]) ∧ (convert 26 9 v).run Try.prog w2 = .ok (.string ⟨m.b.toArray⟩) w2 ∧
    ∃ c stamp w3 w4, 1 ≤ c ∧ c ≤ 500 ∧ Steps lb (keyV m) c (c - 1) (w2.alloc (kOf m)) stamp w3 w4 ∧ Inv w0 fb mb lb j w4
theorem c_take {w0 w : World} {fb mb lb j n : Nat} {g : Value → Option Value} {lv : Value} {L : List (Msg × Value)} (h : Once w0 fb mb lb n g lv L w) (hc : Cnt g L) (hL : L.length ≤ j) (hj : j < 500) (k : Nat) (hk : k < L.length) :
    Calls Try.prog 9 #[.pointer (some ⟨fb, 0, none⟩), .int .i64 k] w (TakeAns w0 fb mb lb j) := by
  refine (fl_deliver h.fl k hk (by omega)).mono ?_
  rintro e w2 ⟨v, rfl, hv, hkp, lv2, h2⟩
  have hm := h.fl.wf _ (List.getElem_mem hk)
  have hO2 := (h.of hkp h2).go (show Below w2.heap.size w2 (w2.alloc (kOf (L[k]'hk).1)) from (Below.refl _ _).alloc (Nat.le_refl _) _)
  obtain ⟨stamp, w3, w4, hS, hO⟩ := hO2.steps hm.1 hm.2.1 hm.2.2 (hc (keyV (L[k]'hk).1)) ((cnt L (keyV (L[k]'hk).1) : Int) - 1)
  have hle := cnt_le (keyV (L[k]'hk).1) L
  have hpos := cnt_pos L k hk
  exact ⟨(L[k]'hk).1, v, by rw [not_parted]; rfl, conv_reads (ReadsB.own hv), _, stamp, w3, w4, by omega, by omega, hS, _, _, _, _, hO, hc.erase k hk, by rw [List.length_eraseIdx_of_lt hk]; omega⟩
def OutAns (w0 : World) (fb mb lb j : Nat) (e : Ending) (w2 : World) : Prop :=
  e = .returned (.tuple #[.int .i64 0, .int .i64 0, .slice none 0 0, .bool false]) ∧ Inv w0 fb mb lb j w2
theorem c_takeOut {w0 w : World} {fb mb lb j n : Nat} {g : Value → Option Value} {lv : Value} {L : List (Msg × Value)} (h : Once w0 fb mb lb n g lv L w) (hc : Cnt g L) (hL : L.length ≤ j) (i : Int) (hi : i < 0 ∨ (L.length : Int) ≤ i) :
    Calls Try.prog 9 #[.pointer (some ⟨fb, 0, none⟩), .int .i64 i] w (OutAns w0 fb mb lb j) := by
  refine (fl_deliver_out h.fl i hi).mono ?_
  rintro e w2 ⟨rfl, h2, hb⟩
  exact ⟨rfl, _, _, _, _, h.go hb, hc, hL⟩
/-- Look, then Twice -/
def LookAns (w0 : World) (fb mb lb j : Nat) (k : Nat) (i : Int) (O : Obj) (e : Ending) (w2 : World) : Prop :=
  ∃ (m : Msg) (v : Value), e = .returned (.tuple #[.int .i64 m.fr, .int .i64 m.to, v, .bool true]) ∧ (∃ A c, v = .slice A m.b.length c) ∧ w2.heap[k]? = some O ∧
    Calls Try.prog 11 #[.pointer (some ⟨fb, 0, none⟩), .int .i64 i] w2 (AddAns w0 fb mb lb j k O v m)
theorem c_look {w0 w : World} {fb mb lb j n b : Nat} {g : Value → Option Value} {lv : Value} {L : List (Msg × Value)} (h : Once w0 fb mb lb n g lv L w) (hc : Cnt g L) (hL : L.length ≤ j) (hj : j < 500) (k : Nat) (hk : k < L.length) {cs : Array Value} (hh : w.heap[b]? = some (.cells cs 28 (0, 0))) :
    Calls Try.prog 10 #[.pointer (some ⟨fb, 0, none⟩), .int .i64 k] w (LookAns w0 fb mb lb j b k (.cells cs 28 (0, 0))) := by
  refine (fl_look h.fl k hk (by omega)).mono ?_
  rintro e w2 ⟨v, rfl, hv, h2, hb⟩
  have hh2 := (hb.block b (Array.getElem?_eq_some_iff.1 hh).1).trans hh
  refine ⟨(L[k]'hk).1, v, rfl, own_slice hv, hh2, (fl_twice h2 k hk (by omega)).mono ?_⟩
  rintro e w3 ⟨rfl, hkp, lv2, L2, h3, v2, rfl, _⟩
  have hv3 := hkp.own hv (by decide) (by decide) h2.isMap
  exact ⟨rfl, keep_row hkp h2.isMap hh2 (by decide) (by decide), conv_reads (ReadsB.own (hv3.drew)), added (h.go hb) hc hL hj hkp h3⟩
def TwOut (w0 : World) (fb mb lb j : Nat) (e : Ending) (w2 : World) : Prop := e = .returned (.bool false) ∧ Inv w0 fb mb lb j w2
theorem c_twOut {w0 w : World} {fb mb lb j n : Nat} {g : Value → Option Value} {lv : Value} {L : List (Msg × Value)} (h : Once w0 fb mb lb n g lv L w) (hc : Cnt g L) (hL : L.length ≤ j) (i : Int) (hi : i < 0 ∨ (L.length : Int) ≤ i) :
    Calls Try.prog 11 #[.pointer (some ⟨fb, 0, none⟩), .int .i64 i] w (TwOut w0 fb mb lb j) := by
  refine (fl_twice_out h.fl i hi).mono ?_
  rintro e w2 ⟨rfl, rfl⟩
  exact ⟨rfl, _, _, _, _, h, hc, hL⟩
end Go.Proofs.Ytlieepbmmfdeoaa.flightOnce
