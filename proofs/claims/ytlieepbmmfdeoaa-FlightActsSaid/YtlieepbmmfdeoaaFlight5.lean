/- The walk of a flight's Deliver. -/
import Derived.Test.YtlieepbmmfdeoaaFlight4
namespace Go.Proofs.Ytlieepbmmfdeoaa
open Go.RowKit Own

theorem FlightAt.map_ne {B fb mb n : Nat} {lv : Value} {L : List (Msg × Value)} {f : Value → Option Value} {w : World} {k : TypeId} (hf : FlightAt B fb mb lv L w) (hm : MapIs Try.prog k mb n f w) : mb ∉ fb :: lv.ownBlock.toList := by
  obtain ⟨es, clock, hb, _⟩ := hm
  intro h
  rcases List.mem_cons.1 h with rfl | h
  · have := hf.st; rw [hb] at this; cases this
  · obtain ⟨cur, hc⟩ := own_type hf.own (g := mb) (by simpa using h)
    rw [hb] at hc; cases hc
theorem FlightAt.lt {B fb mb : Nat} {lv : Value} {L : List (Msg × Value)} {w : World} (hf : FlightAt B fb mb lv L w) : ∀ x ∈ fb :: lv.ownBlock.toList, x < w.heap.size := by
  intro x hx
  rcases List.mem_cons.1 hx with rfl | hx
  · exact (Array.getElem?_eq_some_iff.1 hf.st).1
  · exact (hf.own.lt x (by simpa using hx)).2
theorem FlightAt.ge {B fb mb : Nat} {lv : Value} {L : List (Msg × Value)} {w : World} (hf : FlightAt B fb mb lv L w) : ∀ x ∈ fb :: lv.ownBlock.toList, B ≤ x := by
  intro x hx
  rcases List.mem_cons.1 hx with rfl | hx
  · exact hf.hB
  · exact (hf.own.lt x (by simpa using hx)).1
theorem own_chg {w w' : World} {base : Nat} {e : TypeId} {size n : Nat} {v : Value} {xs : List Value} {ks : List Nat} (h : w.ownsRow base e size v n xs) (hc : Chg ks w w') (hk : ∀ x ∈ ks, x < base) : w'.ownsRow base e size v n xs :=
  own_same h fun g hg => hc.block g (h.lt g hg).2 (fun hx => by have := hk g hx; have := (h.lt g hg).1; omega)

def deliverV (p : Bool) (m : Msg) (v : Value) : Value := if p then .tuple #[.int .i64 0, .int .i64 0, .slice none 0 0, .bool false] else .tuple #[.int .i64 m.fr, .int .i64 m.to, v, .bool true]
def DeliverPost (B fb mb : Nat) (lv : Value) (L : List (Msg × Value)) (k : Nat) (p : Bool) (m : Msg) (w : World) (e : Ending) (w' : World) : Prop :=
  ∃ lv' v, e = .returned (deliverV p m v) ∧ FlightAt B fb mb lv' (L.eraseIdx k) w' ∧ Chg (fb :: lv.ownBlock.toList) w w' ∧ w'.ownsRow w.heap.size 5 1 v m.b.length (u8s m.b)

theorem deliver_in (B fb mb n : Nat) (lv : Value) (L : List (Msg × Value)) (f : Value → Option Value) (k : Nat) (hk : k < L.length) (w : World) (hf : FlightAt B fb mb lv L w) (hm : MapIs Try.prog 59 mb n f w) (ht : AllTrue f)
    (ha : (Lit.int .i64 (L[k]'hk).1.fr).wf = true) (hb : (Lit.int .i64 (L[k]'hk).1.to).wf = true) (hl : (L[k]'hk).1.b.length ≤ 140737488351232) (hL : L.length ≤ 16384) :
    Calls Try.prog 9 #[.pointer (some ⟨fb, 0, none⟩), .int .i64 k] w (DeliverPost B fb mb lv L k (partedB f (L[k]'hk).1.fr (L[k]'hk).1.to) (L[k]'hk).1 w) := by
  have HL := Lib.hid (look_in B fb mb lv L k hk w hf hl hL)
  have HD := Lib.hid (fun (w1 : World) (h : Below w.heap.size w w1) => drop_in B fb mb lv L k hk w1 (hf.below h) hL)
  have HP := Lib.hid (fun (w1 w2 : World) (h : Below w.heap.size w w1) (lv2 : Value) (h2 : FlightAt B fb mb lv2 (L.eraseIdx k) w2) (hc : Chg (fb :: lv.ownBlock.toList) w1 w2) =>
    parted_any fb mb n lv2 f (L[k]'hk).1.fr (L[k]'hk).1.to ha hb w2 h2.st ((hm.same (h.block mb hm.lt)).chg hc (hf.map_ne hm)) ht)
  have HX := Lib.hid hf.lt
  generalize (L[k]'hk).1 = m at *
  clear hf hm ht ha hb hl hL
  cases hp : partedB f m.fr m.to with
  | true =>
    go_enter Try.func9, Try.ntmps9
    go_wp2_with (first | (go_at_call 10; refine HL.out.mono ?_; rintro e w1 ⟨hb1, v, rfl, hv⟩) | (go_at_call 14; refine (HD.out w1 hb1).mono ?_; rintro e w2 ⟨lv2, rfl, hf2, hch⟩) | (go_at_call 17; refine (HP.out w1 w2 hb1 lv2 hf2 hch).mono ?_; rw [hp]; rintro e w3 ⟨rfl, hb3⟩))
    exact bodyPost_ret (v := deliverV true m v) (by simp [results, Try.results9, go_sem, deliverV]) rfl ⟨lv2, v, rfl, hf2.below hb3, ((Chg.of_below hb1).trans hch (fun x hx _ => hx)).trans (Chg.of_below (ks := []) hb3) (fun x hx => by cases hx), own_below (own_chg hv hch HX.out) hb3⟩
  | false =>
    go_enter Try.func9, Try.ntmps9
    go_wp2_with (first | (go_at_call 10; refine HL.out.mono ?_; rintro e w1 ⟨hb1, v, rfl, hv⟩) | (go_at_call 14; refine (HD.out w1 hb1).mono ?_; rintro e w2 ⟨lv2, rfl, hf2, hch⟩) | (go_at_call 17; refine (HP.out w1 w2 hb1 lv2 hf2 hch).mono ?_; rw [hp]; rintro e w3 ⟨rfl, hb3⟩))
    exact bodyPost_ret (v := deliverV false m v) (by simp [results, Try.results9, go_sem, deliverV]) rfl ⟨lv2, v, rfl, hf2.below hb3, ((Chg.of_below hb1).trans hch (fun x hx _ => hx)).trans (Chg.of_below (ks := []) hb3) (fun x hx => by cases hx), own_below (own_chg hv hch HX.out) hb3⟩

theorem deliver_out (B fb mb n : Nat) (lv : Value) (L : List (Msg × Value)) (f : Value → Option Value) (i : Int) (hi : i < 0 ∨ (L.length : Int) ≤ i) (w : World) (hf : FlightAt B fb mb lv L w) (hm : MapIs Try.prog 59 mb n f w) (ht : AllTrue f) :
    Calls Try.prog 9 #[.pointer (some ⟨fb, 0, none⟩), .int .i64 i] w fun e w' => e = .returned (.tuple #[.int .i64 0, .int .i64 0, .slice none 0 0, .bool false]) ∧ Below w.heap.size w w' := by
  have HL := Lib.hid (look_out B fb mb lv L i hi w hf)
  have HD := Lib.hid (drop_out B fb mb lv L i hi w hf)
  have HP := Lib.hid (parted_any fb mb n lv f 0 0 (by decide) (by decide) w hf.st hm ht)
  clear hf hm ht hi
  cases hp : partedB f 0 0 with
  | true =>
    rw [hp] at HP
    go_enter Try.func9, Try.ntmps9
    go_wp2_with (first | (go_at_call 10; refine HL.out.mono ?_; rintro e w1 ⟨rfl, rfl⟩) | (go_at_call 14; refine HD.out.mono ?_; rintro e w2 ⟨rfl, rfl⟩) | (go_at_call 17; refine HP.out.mono ?_; rintro e w3 ⟨rfl, hb3⟩))
    exact bodyPost_ret (v := .tuple #[.int .i64 0, .int .i64 0, .slice none 0 0, .bool false]) (by simp [results, Try.results9, go_sem]) rfl ⟨rfl, hb3⟩
  | false =>
    rw [hp] at HP
    go_enter Try.func9, Try.ntmps9
    go_wp2_with (first | (go_at_call 10; refine HL.out.mono ?_; rintro e w1 ⟨rfl, rfl⟩) | (go_at_call 14; refine HD.out.mono ?_; rintro e w2 ⟨rfl, rfl⟩) | (go_at_call 17; refine HP.out.mono ?_; rintro e w3 ⟨rfl, hb3⟩))
    exact bodyPost_ret (v := .tuple #[.int .i64 0, .int .i64 0, .slice none 0 0, .bool false]) (by simp [results, Try.results9, go_sem]) rfl ⟨rfl, hb3⟩
end Go.Proofs.Ytlieepbmmfdeoaa
