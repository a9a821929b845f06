/- The flight and the law's model, side by side. -/
import Derived.Test.YtlieepbmmfdeoaaMod2
import Derived.Test.YtlieepbmmfdeoaaActsIn
namespace Go.Proofs.Ytlieepbmmfdeoaa
open Go.RowKit Own

/-- who is parted, in both -/
def PKeys (f : Value → Option Value) (PP : List (Int × Int)) : Prop := ∀ k, (f k).isSome = true ↔ ∃ p ∈ PP, p.1 ≠ p.2 ∧ k = K2 (min p.1 p.2) (max p.1 p.2)
theorem hits_iff (a b : Int) (p : Int × Int) (hp : p.1 ≠ p.2) : (hits a b p = true ∧ a ≠ b) ↔ K2 (min a b) (max a b) = K2 (min p.1 p.2) (max p.1 p.2) := by
  rw [K2_inj]
  simp only [hits, Bool.or_eq_true, Bool.and_eq_true, beq_iff_eq]
  obtain ⟨x, y⟩ := p
  simp only [] at *
  constructor
  · rintro ⟨⟨rfl, rfl⟩ | ⟨rfl, rfl⟩, h⟩
    · exact ⟨rfl, rfl⟩
    · exact ⟨Int.min_comm .., Int.max_comm ..⟩
  · rintro ⟨h1, h2⟩
    omega
theorem hits_ne {a b : Int} {p : Int × Int} (h : hits a b p = true) (hab : a ≠ b) : p.1 ≠ p.2 := by
  simp only [hits, Bool.or_eq_true, Bool.and_eq_true, beq_iff_eq] at h
  omega
theorem PKeys.parted {f : Value → Option Value} {PP : List (Int × Int)} (h : PKeys f PP) (a b : Int) : partedB f a b = partedM PP a b := by
  rw [Bool.eq_iff_iff]
  unfold partedB partedM
  rw [h, Bool.and_eq_true, List.any_eq_true]
  constructor
  · rintro ⟨p, hp, hne, hk⟩
    have := (hits_iff a b p hne).2 hk
    exact ⟨⟨p, hp, this.1⟩, bne_iff_ne.2 this.2⟩
  · rintro ⟨⟨p, hp, hh⟩, hab⟩
    have hab := bne_iff_ne.1 hab
    have hne := hits_ne hh hab
    exact ⟨p, hp, hne, (hits_iff a b p hne).1 ⟨hh, hab⟩⟩
theorem PKeys.nil : PKeys noKeys [] := fun k => by simp [noKeys]
theorem PKeys.add {f : Value → Option Value} {PP : List (Int × Int)} (h : PKeys f PP) {a b : Int} (hab : a ≠ b) : PKeys (putKey f (K2 (min a b) (max a b)) (.bool true)) (PP ++ [(a, b)]) := by
  intro k
  by_cases hk : k = K2 (min a b) (max a b)
  · rw [hk, putKey_same]
    exact ⟨fun _ => ⟨(a, b), by simp, hab, rfl⟩, fun _ => rfl⟩
  · rw [putKey_other _ _ hk, h]
    constructor
    · rintro ⟨p, hp, h1⟩
      exact ⟨p, List.mem_append_left _ hp, h1⟩
    · rintro ⟨p, hp, h1, h2⟩
      rcases List.mem_append.1 hp with hp | hp
      · exact ⟨p, hp, h1, h2⟩
      · rw [List.mem_singleton.1 hp] at h2
        exact absurd h2 hk
theorem PKeys.same {f : Value → Option Value} {PP : List (Int × Int)} (h : PKeys f PP) (a : Int) : PKeys f (PP ++ [(a, a)]) := by
  intro k
  rw [h]
  constructor
  · rintro ⟨p, hp, h1⟩
    exact ⟨p, List.mem_append_left _ hp, h1⟩
  · rintro ⟨p, hp, h1, h2⟩
    rcases List.mem_append.1 hp with hp | hp
    · exact ⟨p, hp, h1, h2⟩
    · rw [List.mem_singleton.1 hp] at h1
      exact absurd rfl h1

theorem own_keep {w w' : World} {base : Nat} {e : TypeId} {size n : Nat} {v : Value} {xs : List Value} (h : w.ownsRow base e size v n xs) (hk : ∀ (k : Nat) (cur : Array Value), w.heap[k]? = some (Obj.cells cur e (0, 0)) → w'.heap[k]? = some (Obj.cells cur e (0, 0))) : w'.ownsRow base e size v n xs :=
  own_same h fun g hg => by obtain ⟨cur, hc⟩ := own_type h hg; rw [hc]; exact hk g cur hc
theorem TStep.keep {w w' : World} {B : Nat} {ts : List TypeId} (hs : TStep ts B w w') {k : Nat} {cur : Array Value} {t : TypeId} {fr : Nat × Nat} (hc : w.heap[k]? = some (.cells cur t fr)) (ht : t ∉ ts) : w'.heap[k]? = some (.cells cur t fr) :=
  (hs.same k (Array.getElem?_eq_some_iff.1 hc).1 (fun cur' t' fr' e => by rw [hc] at e; cases e; exact ht)).trans hc
theorem Keeps.keep {mb : Nat} {w w' : World} (hk : Keeps mb w w') (hm : ∃ es clock, w.heap[mb]? = some (.map es clock)) {k : Nat} {cur : Array Value} {t : TypeId} {fr : Nat × Nat} (hc : w.heap[k]? = some (.cells cur t fr)) (h1 : t ≠ 50) (h2 : t ≠ 55) : w'.heap[k]? = some (.cells cur t fr) := by
  refine hk.2 k _ hc (fun cs fr e => ?_) (fun cs fr e => ?_) ?_
  · cases e; exact h1 rfl
  · cases e; exact h2 rfl
  · rintro rfl
    obtain ⟨es, clock, hm⟩ := hm
    rw [hm] at hc; cases hc
theorem Fl.tstep {w0 w w' : World} {fb mb n : Nat} {f : Value → Option Value} {lv : Value} {L : List (Msg × Value)} (h : Fl w0 fb mb n f lv L w) (hs : TStep modT w0.heap.size w w') : Fl w0 fb mb n f lv L w' := by
  refine ⟨⟨h.at_.hB, hs.keep h.at_.st (by decide), own_keep h.at_.own fun k cur hc => hs.keep hc (by decide), fun p hp => own_keep (h.at_.bytes p hp) fun k cur hc => hs.keep hc (by decide)⟩, ?_, h.hmb, h.all, h.below.trans hs.below, h.wf⟩
  obtain ⟨es, clock, hm⟩ := h.isMap
  exact h.map.same (hs.same mb h.map.lt fun cur t fr e => by rw [hm] at e; cases e)

/-- both, and the box of the act -/
structure JB (w0 : World) (fb mb n : Nat) (f : Value → Option Value) (L : List (Msg × Value)) (rb : Nat) (ML : List Msg) (PP : List (Int × Int)) (ob : Nat) (d a b : Int) (v : Value) (w : World) : Prop where
  fl : ∃ lv, Fl w0 fb mb n f lv L w
  md : ∃ lv pv, MdAt w0.heap.size rb lv pv ML PP w
  box : w.heap[ob]? = some (.cells #[.int .i64 d, .int .i64 a, .int .i64 b, v] 28 (0, 0))
section
variable {w0 w w' : World} {fb mb n n' rb ob : Nat} {f f' : Value → Option Value} {L L' : List (Msg × Value)} {ML ML' : List Msg} {PP PP' : List (Int × Int)} {d a b : Int} {v : Value}
theorem JB.go (h : JB w0 fb mb n f L rb ML PP ob d a b v w) (hb : Below w.heap.size w w') : JB w0 fb mb n f L rb ML PP ob d a b v w' := by
  obtain ⟨lv, h1⟩ := h.fl
  obtain ⟨lv2, pv, h2⟩ := h.md
  exact ⟨⟨lv, h1.go hb⟩, ⟨lv2, pv, h2.below hb⟩, (hb.block _ (Array.getElem?_eq_some_iff.1 h.box).1).trans h.box⟩
theorem JB.drew (h : JB w0 fb mb n f L rb ML PP ob d a b v w) : JB w0 fb mb n f L rb ML PP ob d a b v w.drew := h.go ⟨rfl, rfl, rfl, Nat.le_refl _, fun _ _ => rfl⟩
theorem JB.keeps (h : JB w0 fb mb n f L rb ML PP ob d a b v w) (hk : Keeps mb w w') {lv' : Value} (hf : Fl w0 fb mb n' f' lv' L' w') : JB w0 fb mb n' f' L' rb ML PP ob d a b v w' := by
  obtain ⟨lv, h1⟩ := h.fl
  obtain ⟨lv2, pv, h2⟩ := h.md
  have hm := h1.isMap
  exact ⟨⟨lv', hf⟩, ⟨lv2, pv, h2.hB, hk.keep hm h2.st (by decide) (by decide), own_keep h2.l fun k cur hc => hk.keep hm hc (by decide) (by decide), own_keep h2.p fun k cur hc => hk.keep hm hc (by decide) (by decide)⟩, hk.keep hm h.box (by decide) (by decide)⟩
theorem JB.tstep (h : JB w0 fb mb n f L rb ML PP ob d a b v w) (hs : TStep modT w0.heap.size w w') {lv' pv' : Value} (hm : MdAt w0.heap.size rb lv' pv' ML' PP' w') : JB w0 fb mb n f L rb ML' PP' ob d a b v w' := by
  obtain ⟨lv, h1⟩ := h.fl
  exact ⟨⟨lv, h1.tstep hs⟩, ⟨lv', pv', hm⟩, hs.keep h.box (by decide)⟩
theorem JB.c0 (h : JB w0 fb mb n f L rb ML PP ob d a b v w) : w.cell? ⟨ob, 0, none⟩ = some (.int .i64 d) := by rw [cell_of_row _ _ 0 _ _ _ h.box]; rfl
theorem JB.c1 (h : JB w0 fb mb n f L rb ML PP ob d a b v w) : w.cell? ⟨ob, 1, none⟩ = some (.int .i64 a) := by rw [cell_of_row _ _ 1 _ _ _ h.box]; rfl
theorem JB.c2 (h : JB w0 fb mb n f L rb ML PP ob d a b v w) : w.cell? ⟨ob, 2, none⟩ = some (.int .i64 b) := by rw [cell_of_row _ _ 2 _ _ _ h.box]; rfl
theorem JB.c3 (h : JB w0 fb mb n f L rb ML PP ob d a b v w) : w.cell? ⟨ob, 3, none⟩ = some v := by rw [cell_of_row _ _ 3 _ _ _ h.box]; rfl
theorem JB.m0 (h : JB w0 fb mb n f L rb ML PP ob d a b v w) : ∃ A c, w.cell? ⟨rb, 0, none⟩ = some (.slice A ML.length c) := by
  obtain ⟨lv2, pv, h2⟩ := h.md
  obtain ⟨A, c, rfl⟩ := own_slice h2.l
  exact ⟨A, c, by rw [cell_of_row _ _ 0 _ _ _ h2.st]; rfl⟩
end

/-- both, as they stand between two acts -/
def JS (w0 : World) (fb mb rb m : Nat) (w : World) : Prop := ∃ n f lv L lv2 pv ML PP, Fl w0 fb mb n f lv L w ∧ MdAt w0.heap.size rb lv2 pv ML PP w ∧ L.map (·.1) = ML ∧ PKeys f PP ∧ ML.length ≤ m ∧ PP.length ≤ m
theorem JS.go {w0 w w' : World} {fb mb rb m : Nat} (h : JS w0 fb mb rb m w) (hb : Below w.heap.size w w') : JS w0 fb mb rb m w' := by
  obtain ⟨n, f, lv, L, lv2, pv, ML, PP, h1, h2, h3⟩ := h
  exact ⟨n, f, lv, L, lv2, pv, ML, PP, h1.go hb, h2.below hb, h3⟩
theorem JS.below {w0 w : World} {fb mb rb m : Nat} (h : JS w0 fb mb rb m w) : Below w0.heap.size w0 w := by
  obtain ⟨n, f, lv, L, lv2, pv, ML, PP, h1, h2, h3⟩ := h
  exact h1.below
theorem JB.js {w0 w : World} {fb mb n rb ob m : Nat} {f : Value → Option Value} {L : List (Msg × Value)} {ML : List Msg} {PP : List (Int × Int)} {d a b : Int} {v : Value} (h : JB w0 fb mb n f L rb ML PP ob d a b v w) (h1 : L.map (·.1) = ML) (h2 : PKeys f PP) (h3 : ML.length ≤ m) (h4 : PP.length ≤ m) : JS w0 fb mb rb m w := by
  obtain ⟨lv, f1⟩ := h.fl
  obtain ⟨lv2, pv, m1⟩ := h.md
  exact ⟨n, f, lv, L, lv2, pv, ML, PP, f1, m1, h1, h2, h3, h4⟩
def DoesPost (w0 : World) (fb mb rb m : Nat) (e : Ending) (w' : World) : Prop := e = .returned (.bool true) ∧ JS w0 fb mb rb m w'
end Go.Proofs.Ytlieepbmmfdeoaa
