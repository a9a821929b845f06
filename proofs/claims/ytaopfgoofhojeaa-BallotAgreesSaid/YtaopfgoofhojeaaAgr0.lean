/- One decree: what a proposer and the acceptors keep; once a value is chosen no other one is. No program in sight. -/
import Derived.Test.YtaopfgoofhojeaaChos1
namespace Go.Proofs.Ytaopfgoofhojeaa

def upd {α : Type} (g : Nat → α) (k : Nat) (x : α) : Nat → α := fun i => if i = k then x else g i
theorem upd_same {α : Type} (g : Nat → α) (k : Nat) (x : α) : upd g k x k = x := by simp [upd]
theorem upd_other {α : Type} (g : Nat → α) {k i : Nat} (x : α) (h : i ≠ k) : upd g k x i = g i := by simp [upd, h]
/-- how many of the first n -/
def qc (Q : Nat → Bool) : Nat → Nat
  | 0 => 0
  | n + 1 => qc Q n + if Q n = true then 1 else 0
theorem qc_meet (Q K : Nat → Bool) : ∀ n, (∀ k, k < n → Q k = true → K k = false) → qc Q n + qc K n ≤ n
  | 0, _ => Nat.le_refl _
  | n + 1, h => by
    have ih := qc_meet Q K n (fun k hk => h k (by omega))
    have hn := h n (by omega)
    simp only [qc]
    cases hq : Q n <;> cases hk : K n <;> simp [hq, hk] at hn ⊢ <;> omega
theorem qc_common {Q K : Nat → Bool} {n : Nat} (h1 : n < 2 * qc Q n) (h2 : n < 2 * qc K n) : ∃ k, k < n ∧ Q k = true ∧ K k = true := by
  by_cases h : ∃ k, k < n ∧ Q k = true ∧ K k = true
  · exact h
  · have := qc_meet Q K n (fun k hk hq => by
      cases hkk : K k with
      | false => rfl
      | true => exact absurd ⟨k, hk, hq, hkk⟩ h)
    omega

def rk (b : Bal) : Int := b.r * 8 + b.m
def B0 : Bal := ⟨0, 0⟩
def goodB (b : Bal) : Prop := b = B0 ∨ mayB b = true
theorem may_num {b : Bal} (h : mayB b = true) : 1 ≤ b.r ∧ b.r ≤ 2147483647 ∧ 0 ≤ b.m ∧ b.m < 7 := by
  simp only [mayB, Bool.and_eq_true, decide_eq_true_eq] at h
  omega
theorem good_num {b : Bal} (h : goodB b) : (b.r = 0 ∧ b.m = 0) ∨ (1 ≤ b.r ∧ b.r ≤ 2147483647 ∧ 0 ≤ b.m ∧ b.m < 7) := by
  rcases h with rfl | h
  · exact .inl ⟨rfl, rfl⟩
  · exact .inr (may_num h)
theorem rk_inj {a b : Bal} (ha : goodB a) (hb : goodB b) (h : rk a = rk b) : a = b := by
  have h1 := good_num ha
  have h2 := good_num hb
  obtain ⟨r, m⟩ := a
  obtain ⟨r2, m2⟩ := b
  simp only [rk] at *
  have e1 : r = r2 := by omega
  have e2 : m = m2 := by omega
  rw [e1, e2]
theorem less_rk {a b : Bal} (ha : goodB a) (hb : goodB b) : lessB a b = true ↔ rk a < rk b := by
  have h1 := good_num ha
  have h2 := good_num hb
  simp only [lessB, Bool.or_eq_true, Bool.and_eq_true, decide_eq_true_eq, beq_iff_eq, rk]
  omega
theorem nless_rk {a b : Bal} (ha : goodB a) (hb : goodB b) : lessB a b = false ↔ rk b ≤ rk a := by
  have := less_rk ha hb
  cases h : lessB a b with
  | true => rw [h] at this; simp at this; simp; omega
  | false => rw [h] at this; simp at this; simp; omega
theorem rk_zero : rk B0 = 0 := rfl
theorem rk_may {b : Bal} (h : mayB b = true) : 0 < rk b := by have := may_num h; simp only [rk]; omega
theorem rk_good {b : Bal} (h : goodB b) : 0 ≤ rk b := by have := good_num h; simp only [rk]; omega
theorem may_ne {b : Bal} (h : mayB b = true) : b ≠ B0 := by rintro rfl; simp [B0, mayB] at h

/-- a proposer: its ballot, who promised and what they were, what it asks for -/
structure Prp where
  b : Bal
  f : Nat → Option Acc
  v : List UInt8
  asked : Bool

structure Inv (n : Nat) (acc : Nat → Acc) (pr : Nat → Prp) (seen : Bal) (V : Nat → Bal → Prop) (val : Bal → List UInt8) (asked : Bal → Prop) : Prop where
  sn : goodB seen
  ac : ∀ k, k < n → goodB (acc k).p ∧ goodB (acc k).a ∧ rk (acc k).a ≤ rk (acc k).p ∧ rk (acc k).p ≤ rk seen ∧ (acc k).l.length ≤ 1 ∧ ((acc k).a = B0 → (acc k).l = [])
  last : ∀ k, k < n → (acc k).a = B0 ∨ V k (acc k).a ∧ (acc k).l = val (acc k).a
  votes : ∀ k b, V k b → k < n ∧ rk b ≤ rk (acc k).a ∧ asked b
  askd : ∀ b, asked b → mayB b = true ∧ rk b ≤ rk seen ∧ ∃ Q : Nat → Bool, n < 2 * qc Q n ∧ (∀ k, k < n → Q k = true → rk b ≤ rk (acc k).p) ∧
    ((∀ k, k < n → Q k = true → ∀ b', V k b' → ¬ rk b' < rk b) ∨ ∃ b0, rk b0 < rk b ∧ (∃ k, V k b0) ∧ val b = val b0 ∧ ∀ k, k < n → Q k = true → ∀ b', V k b' → rk b' < rk b → rk b' ≤ rk b0)
  prop : ∀ m, m < 7 → (pr m).b = B0 ∨ (mayB (pr m).b = true ∧ (pr m).b.m = (m : Int) ∧ rk (pr m).b ≤ rk seen)
  prom : ∀ m, m < 7 → ∀ k x, (pr m).f k = some x → k < n ∧ rk (pr m).b ≤ rk (acc k).p ∧ goodB x.p ∧ goodB x.a ∧ rk x.a < rk (pr m).b ∧ x.l.length ≤ 1 ∧ (x.a = B0 ∨ V k x.a ∧ x.l = val x.a) ∧ ∀ b', V k b' → rk b' < rk (pr m).b → rk b' ≤ rk x.a
  ask : ∀ m, m < 7 → (pr m).asked = true → asked (pr m).b ∧ (pr m).v = val (pr m).b ∧ (pr m).v.length ≤ 1
  nask : ∀ m, m < 7 → (pr m).asked = false → ¬ asked (pr m).b

section
variable {n : Nat} {acc : Nat → Acc} {pr : Nat → Prp} {seen : Bal} {V : Nat → Bal → Prop} {val : Bal → List UInt8} {asked : Bal → Prop}

theorem Inv.zero (n : Nat) : Inv n (fun _ => ⟨B0, B0, []⟩) (fun _ => ⟨B0, fun _ => none, [], false⟩) B0 (fun _ _ => False) (fun _ => []) (fun _ => False) :=
  ⟨.inl rfl, fun _ _ => ⟨.inl rfl, .inl rfl, Int.le_refl _, Int.le_refl _, Nat.zero_le _, fun _ => rfl⟩, fun _ _ => .inl rfl, fun _ _ h => h.elim, fun _ h => h.elim, fun _ _ => .inl rfl, (fun _ _ _ _ h => by cases h), (fun _ _ h => by cases h), fun _ _ _ h => h⟩

/-- a new ballot -/
theorem Inv.fresh (h : Inv n acc pr seen V val asked) {b : Bal} {mon : Nat} (hb : mayB b = true) (hm : b.m = (mon : Int)) (hlt : rk seen < rk b) :
    Inv n acc (upd pr mon ⟨b, fun _ => none, [], false⟩) b V val asked := by
  have hna : ¬ asked b := fun ha => by have := (h.askd b ha).2.1; omega
  refine ⟨.inr hb, fun k hk => ?_, h.last, h.votes, fun b' hb' => ?_, fun m hm7 => ?_, fun m hm7 k x hx => ?_, fun m hm7 ha => ?_, fun m hm7 ha => ?_⟩
  · obtain ⟨h1, h2, h3, h4, h5⟩ := h.ac k hk
    exact ⟨h1, h2, h3, by omega, h5⟩
  · obtain ⟨h1, h2, h3⟩ := h.askd b' hb'
    exact ⟨h1, by omega, h3⟩
  · by_cases e : m = mon
    · subst e; rw [upd_same]; exact .inr ⟨hb, hm, Int.le_refl _⟩
    · rw [upd_other _ _ e]
      rcases h.prop m hm7 with h1 | ⟨h1, h2, h3⟩
      · exact .inl h1
      · exact .inr ⟨h1, h2, by omega⟩
  · by_cases e : m = mon
    · subst e; rw [upd_same] at hx; cases hx
    · rw [upd_other _ _ e] at hx ⊢; exact h.prom m hm7 k x hx
  · by_cases e : m = mon
    · subst e; rw [upd_same] at ha; cases ha
    · rw [upd_other _ _ e] at ha ⊢; exact h.ask m hm7 ha
  · by_cases e : m = mon
    · subst e; rw [upd_same]; exact hna
    · rw [upd_other _ _ e] at ha ⊢; exact h.nask m hm7 ha

theorem Inv.may (h : Inv n acc pr seen V val asked) {k : Nat} (hk : k < n) : mayA (acc k) = true := by
  obtain ⟨h1, h2, h3, h4, h5, h6⟩ := h.ac k hk
  have z : ∀ b, goodB b → (zeroB b || mayB b) = true := fun b hb => by
    rcases hb with rfl | hb
    · rfl
    · rw [hb]; simp
  have hl := (nless_rk h1 h2).2 h3
  unfold mayA
  rw [z _ h1, z _ h2, hl]
  rcases h2 with ha | ha
  · rw [h6 ha]; rfl
  · have : zeroB (acc k).a = false := by
      have := may_num ha
      simp only [zeroB, Bool.and_eq_false_iff, beq_eq_false_iff_ne]
      omega
    rw [this]; simp
theorem Inv.ready (h : Inv n acc pr seen V val asked) {k : Nat} (hk : k < n) (hs : mayB seen = true) : prepOk (acc k) seen = true := by
  obtain ⟨h1, h2, h3, h4, h5, h6⟩ := h.ac k hk
  unfold prepOk
  rw [h.may hk, hs, (nless_rk (.inr hs) h1).2 h4]; rfl

/-- one acceptor promises -/
theorem Inv.prepare (h : Inv n acc pr seen V val asked) {k mon : Nat} (hk : k < n) (hmon : mon < 7) (hs : mayB seen = true) (hb : (pr mon).b = seen) (ha : (pr mon).asked = false) :
    Inv n (upd acc k ⟨seen, (acc k).a, (acc k).l⟩) (upd pr mon ⟨seen, upd (pr mon).f k (some (acc k)), (pr mon).v, false⟩) seen V val asked := by
  have hna : ¬ asked seen := by rw [← hb]; exact h.nask mon hmon ha
  obtain ⟨h1, h2, h3, h4, h5, h6⟩ := h.ac k hk
  have hp : ∀ i, rk (acc i).p ≤ rk (upd acc k ⟨seen, (acc k).a, (acc k).l⟩ i).p ∧ (upd acc k ⟨seen, (acc k).a, (acc k).l⟩ i).a = (acc i).a ∧ (upd acc k ⟨seen, (acc k).a, (acc k).l⟩ i).l = (acc i).l := fun i => by
    by_cases e : i = k
    · subst e; rw [upd_same]; exact ⟨h4, rfl, rfl⟩
    · rw [upd_other _ _ e]; exact ⟨Int.le_refl _, rfl, rfl⟩
  have hlast : (acc k).a = B0 ∨ V k (acc k).a ∧ (acc k).l = val (acc k).a := h.last k hk
  have hlt : rk (acc k).a < rk seen := by
    rcases hlast with e | ⟨e, _⟩
    · rw [e, rk_zero]; exact rk_may hs
    · have h7 := (h.votes _ _ e).2.2
      have h8 := h.askd _ h7
      rcases Int.lt_or_le (rk (acc k).a) (rk seen) with hl | hl
      · exact hl
      · have : (acc k).a = seen := rk_inj h2 (.inr hs) (by omega)
        rw [this] at h7
        exact absurd h7 hna
  refine ⟨h.sn, fun i hi => ?_, fun i hi => ?_, fun i b hv => ?_, fun b hbk => ?_, fun m hm7 => ?_, fun m hm7 i x hx => ?_, fun m hm7 hak => ?_, fun m hm7 hak => ?_⟩
  · by_cases e : i = k
    · subst e; rw [upd_same]
      exact ⟨.inr hs, h2, Int.le_of_lt hlt, Int.le_refl _, h5, h6⟩
    · rw [upd_other _ _ e]; exact h.ac i hi
  · rw [(hp i).2.1, (hp i).2.2]; exact h.last i hi
  · rw [(hp i).2.1]; exact h.votes i b hv
  · obtain ⟨q1, q2, Q, q3, q4, q5⟩ := h.askd b hbk
    exact ⟨q1, q2, Q, q3, fun i hi hq => Int.le_trans (q4 i hi hq) (hp i).1, q5⟩
  · by_cases e : m = mon
    · subst e; rw [upd_same]
      rcases h.prop m hm7 with q | ⟨q1, q2, q3⟩
      · rw [hb] at q; exact absurd q (may_ne hs)
      · rw [hb] at q1 q2 q3; exact .inr ⟨q1, q2, q3⟩
    · rw [upd_other _ _ e]; exact h.prop m hm7
  · by_cases e : m = mon
    · subst e
      rw [upd_same] at hx ⊢
      by_cases e2 : i = k
      · subst e2
        simp only [upd_same] at hx ⊢
        cases hx
        exact ⟨hk, Int.le_refl _, h1, h2, hlt, h5, hlast, fun b' hv _ => (h.votes _ _ hv).2.1⟩
      · simp only [upd_other _ _ e2] at hx ⊢
        have q := h.prom m hm7 i x hx
        rw [hb] at q
        exact q
    · rw [upd_other _ _ e] at hx ⊢
      obtain ⟨q1, q2, q3⟩ := h.prom m hm7 i x hx
      exact ⟨q1, Int.le_trans q2 (hp i).1, q3⟩
  · by_cases e : m = mon
    · subst e; rw [upd_same] at hak; cases hak
    · rw [upd_other _ _ e] at hak ⊢; exact h.ask m hm7 hak
  · by_cases e : m = mon
    · subst e; rw [upd_same]; exact hna
    · rw [upd_other _ _ e] at hak ⊢; exact h.nask m hm7 hak
end

/-- what those told who promised -/
def told (f : Nat → Option Acc) : Nat → List Acc
  | 0 => []
  | n + 1 => told f n ++ (match f n with | some x => [x] | none => [])
theorem told_mem (f : Nat → Option Acc) : ∀ n x, x ∈ told f n ↔ ∃ k, k < n ∧ f k = some x
  | 0, x => by simp [told]
  | n + 1, x => by
    rw [told, List.mem_append, told_mem f n x]
    constructor
    · rintro (⟨k, hk, h⟩ | h)
      · exact ⟨k, by omega, h⟩
      · cases hf : f n with
        | none => rw [hf] at h; cases h
        | some y =>
          rw [hf] at h
          obtain rfl := List.mem_singleton.1 h
          exact ⟨n, by omega, hf⟩
    · rintro ⟨k, hk, h⟩
      by_cases e : k = n
      · subst e; rw [h]; exact .inr (List.mem_singleton_self _)
      · exact .inl ⟨k, by omega, h⟩
theorem best_cases (xs : List Acc) (hg : ∀ x ∈ xs, goodB x.a) : ((bestL xs).a = B0 ∨ bestL xs ∈ xs) ∧ ∀ x ∈ xs, rk x.a ≤ rk (bestL xs).a := by
  have key : ∀ (xs : List Acc) (b : Acc), goodB b.a → (∀ x ∈ xs, goodB x.a) → (xs.foldl bestOf b = b ∨ xs.foldl bestOf b ∈ xs) ∧ rk b.a ≤ rk (xs.foldl bestOf b).a ∧ ∀ x ∈ xs, rk x.a ≤ rk (xs.foldl bestOf b).a := by
    intro xs
    induction xs with
    | nil => intro b _ _; exact ⟨.inl rfl, Int.le_refl _, fun x hx => by cases hx⟩
    | cons y ys ih =>
      intro b hb hg
      have hy := hg y (List.mem_cons_self ..)
      have hbo : goodB (bestOf b y).a := by unfold bestOf; split <;> assumption
      obtain ⟨i1, i2, i3⟩ := ih (bestOf b y) hbo (fun x hx => hg x (List.mem_cons_of_mem _ hx))
      have hr : rk b.a ≤ rk (bestOf b y).a ∧ rk y.a ≤ rk (bestOf b y).a := by
        unfold bestOf
        split
        · rename_i hl; exact ⟨Int.le_of_lt ((less_rk hb hy).1 hl), Int.le_refl _⟩
        · rename_i hl; exact ⟨Int.le_refl _, (nless_rk hb hy).1 (by simpa using hl)⟩
      rw [List.foldl_cons]
      refine ⟨?_, Int.le_trans hr.1 i2, fun x hx => ?_⟩
      · rcases i1 with e | e
        · rw [e]
          unfold bestOf
          split
          · exact .inr (List.mem_cons_self ..)
          · exact .inl rfl
        · exact .inr (List.mem_cons_of_mem _ e)
      · rcases List.mem_cons.1 hx with rfl | hx
        · exact Int.le_trans hr.2 i2
        · exact i3 x hx
  obtain ⟨k1, _, k3⟩ := key xs ⟨⟨0, 0⟩, ⟨0, 0⟩, []⟩ (.inl rfl) hg
  refine ⟨?_, k3⟩
  rcases k1 with e | e
  · left; unfold bestL; rw [e]; rfl
  · exact .inr e

section
variable {n : Nat} {acc : Nat → Acc} {pr : Nat → Prp} {seen : Bal} {V : Nat → Bal → Prop} {val : Bal → List UInt8} {asked : Bal → Prop}
open Classical in
/-- a proposer asks -/
theorem Inv.asks (h : Inv n acc pr seen V val asked) {mon : Nat} (hmon : mon < 7) (ha : (pr mon).asked = false) (hq : n < 2 * qc (fun k => ((pr mon).f k).isSome) n) (own : List UInt8) (hol : own.length ≤ 1) :
    ∃ val' asked', Inv n acc (upd pr mon ⟨(pr mon).b, (pr mon).f, pickL (told (pr mon).f n) own, true⟩) seen V val' asked' ∧ asked' (pr mon).b ∧ (pickL (told (pr mon).f n) own).length ≤ 1 ∧ (∀ b, asked b → asked' b ∧ val' b = val b) := by
  have hna := h.nask mon hmon ha
  have hmay : mayB (pr mon).b = true := by
    rcases h.prop mon hmon with e | e
    · exfalso
      obtain ⟨k, hk, h1, _⟩ := qc_common hq hq
      cases hf : (pr mon).f k with
      | none => rw [hf] at h1; cases h1
      | some x =>
        obtain ⟨_, _, _, q3, q4, _⟩ := h.prom mon hmon k x hf
        rw [e, rk_zero] at q4
        have := rk_good q3
        omega
    · exact e.1
  have hle : rk (pr mon).b ≤ rk seen := by
    rcases h.prop mon hmon with e | e
    · exact absurd e (may_ne hmay)
    · exact e.2.2
  have hg : ∀ x ∈ told (pr mon).f n, goodB x.a := fun x hx => by
    obtain ⟨k, hk, hf⟩ := (told_mem _ _ _).1 hx
    exact (h.prom mon hmon k x hf).2.2.2.1
  obtain ⟨hb1, hb2⟩ := best_cases _ hg
  have hlen : (pickL (told (pr mon).f n) own).length ≤ 1 := by
    unfold pickL
    split
    · exact hol
    · rename_i hz
      rcases hb1 with e | e
      · rw [e] at hz; exact absurd rfl hz
      · obtain ⟨k, hk, hf⟩ := (told_mem _ _ _).1 e
        exact (h.prom mon hmon k _ hf).2.2.2.2.2.1
  have hvv : ∀ b, asked b → b ≠ (pr mon).b := fun b hb e => hna (e ▸ hb)
  refine ⟨fun b => if b = (pr mon).b then pickL (told (pr mon).f n) own else val b, fun b => asked b ∨ b = (pr mon).b, ?_, .inr rfl, hlen, fun b hb => ⟨.inl hb, if_neg (hvv b hb)⟩⟩
  have hval : ∀ k b, V k b → (if b = (pr mon).b then pickL (told (pr mon).f n) own else val b) = val b := fun k b hv => if_neg (hvv b (h.votes k b hv).2.2)
  refine ⟨h.sn, h.ac, fun i hi => ?_, fun i b hv => ?_, fun b hbk => ?_, fun m hm7 => ?_, fun m hm7 i x hx => ?_, fun m hm7 hak => ?_, fun m hm7 hak => ?_⟩
  · rcases h.last i hi with e | ⟨e1, e2⟩
    · exact .inl e
    · exact .inr ⟨e1, by rw [hval _ _ e1]; exact e2⟩
  · obtain ⟨q1, q2, q3⟩ := h.votes i b hv
    exact ⟨q1, q2, .inl q3⟩
  · by_cases e : b = (pr mon).b
    · subst e
      refine ⟨hmay, hle, fun k => ((pr mon).f k).isSome, hq, fun k hk hs => ?_, ?_⟩
      · cases hf : (pr mon).f k with
        | none => simp [hf] at hs
        | some x => exact (h.prom mon hmon k x hf).2.1
      · by_cases hz : (bestL (told (pr mon).f n)).a = B0
        · left
          intro k hk hs b' hv hlt
          cases hf : (pr mon).f k with
          | none => simp [hf] at hs
          | some x =>
            have q := (h.prom mon hmon k x hf).2.2.2.2.2.2.2 b' hv hlt
            have q2 := hb2 x ((told_mem _ _ _).2 ⟨k, hk, hf⟩)
            rw [hz, rk_zero] at q2
            have q3 := rk_may (h.askd b' (h.votes k b' hv).2.2).1
            omega
        · right
          rcases hb1 with e | e
          · exact absurd e hz
          · obtain ⟨k, hk, hf⟩ := (told_mem _ _ _).1 e
            obtain ⟨p1, p2, p3, p4, p5, p6, p7, p8⟩ := h.prom mon hmon k _ hf
            rcases p7 with e0 | ⟨p7, p9⟩
            · exact absurd e0 hz
            · refine ⟨(bestL (told (pr mon).f n)).a, p5, ⟨k, p7⟩, ?_, fun i hi hs b' hv hlt => ?_⟩
              · rw [if_pos rfl, hval _ _ p7, ← p9]
                unfold pickL
                rw [if_neg]
                intro hzz
                refine hz ?_
                simp only [zeroB, Bool.and_eq_true, beq_iff_eq] at hzz
                generalize (bestL (told (pr mon).f n)).a = bb at hzz
                obtain ⟨r, m⟩ := bb
                simp only at hzz
                rw [hzz.1, hzz.2]; rfl
              · cases hfi : (pr mon).f i with
                | none => simp [hfi] at hs
                | some x => exact Int.le_trans ((h.prom mon hmon i x hfi).2.2.2.2.2.2.2 b' hv hlt) (hb2 x ((told_mem _ _ _).2 ⟨i, hi, hfi⟩))
    · have hb' : asked b := by rcases hbk with q | q; exact q; exact absurd q e
      obtain ⟨q1, q2, Q, q3, q4, q5⟩ := h.askd b hb'
      refine ⟨q1, q2, Q, q3, q4, ?_⟩
      rcases q5 with q5 | ⟨b0, r1, ⟨k, r2⟩, r3, r4⟩
      · exact .inl q5
      · exact .inr ⟨b0, r1, ⟨k, r2⟩, by rw [if_neg e, hval _ _ r2]; exact r3, r4⟩
  · by_cases e : m = mon
    · subst e; rw [upd_same]; exact h.prop m hm7
    · rw [upd_other _ _ e]; exact h.prop m hm7
  · have hh : ∀ m x, (pr m).f i = some x → m < 7 → i < n ∧ rk (pr m).b ≤ rk (acc i).p ∧ goodB x.p ∧ goodB x.a ∧ rk x.a < rk (pr m).b ∧ x.l.length ≤ 1 ∧ (x.a = B0 ∨ V i x.a ∧ x.l = if x.a = (pr mon).b then pickL (told (pr mon).f n) own else val x.a) ∧ ∀ b', V i b' → rk b' < rk (pr m).b → rk b' ≤ rk x.a := fun m x hx hm7 => by
      obtain ⟨p1, p2, p3, p4, p5, p6, p7, p8⟩ := h.prom m hm7 i x hx
      refine ⟨p1, p2, p3, p4, p5, p6, ?_, p8⟩
      rcases p7 with e | ⟨e1, e2⟩
      · exact .inl e
      · exact .inr ⟨e1, by rw [hval _ _ e1]; exact e2⟩
    by_cases e : m = mon
    · subst e; rw [upd_same] at hx ⊢; exact hh m x hx hm7
    · rw [upd_other _ _ e] at hx ⊢; exact hh m x hx hm7
  · by_cases e : m = mon
    · subst e; rw [upd_same]; exact ⟨.inr rfl, (if_pos rfl).symm, hlen⟩
    · rw [upd_other _ _ e] at hak ⊢
      obtain ⟨q1, q2, q3⟩ := h.ask m hm7 hak
      exact ⟨.inl q1, by rw [if_neg (hvv _ q1)]; exact q2, q3⟩
  · by_cases e : m = mon
    · subst e; rw [upd_same] at hak; cases hak
    · rw [upd_other _ _ e] at hak ⊢
      rintro (q | q)
      · exact h.nask m hm7 hak q
      · rcases h.prop m hm7 with e1 | ⟨_, e2, _⟩
        · rw [e1] at q; exact may_ne hmay q.symm
        · rcases h.prop mon hmon with e3 | ⟨_, e4, _⟩
          · exact may_ne hmay e3
          · rw [q, e4] at e2; omega

/-- one acceptor accepts, or not -/
theorem Inv.accepts (h : Inv n acc pr seen V val asked) {k mon : Nat} (hk : k < n) (hmon : mon < 7) (ha : (pr mon).asked = true) :
    Inv n (upd acc k (accY (acc k) (pr mon).b (pr mon).v)) pr seen (fun i b => V i b ∨ (i = k ∧ b = (pr mon).b ∧ prepOk (acc k) (pr mon).b = true)) val asked := by
  obtain ⟨a1, a2, a3⟩ := h.ask mon hmon ha
  obtain ⟨hmay, hle, _⟩ := h.askd _ a1
  obtain ⟨h1, h2, h3, h4, h5, h6⟩ := h.ac k hk
  unfold accY
  cases hp : prepOk (acc k) (pr mon).b with
  | false =>
    have e1 : upd acc k (acc k) = acc := by funext i; unfold upd; split <;> simp_all
    have e2 : (fun (i : Nat) (b : Bal) => V i b ∨ (i = k ∧ b = (pr mon).b ∧ false = true)) = V := by funext i b; simp
    rw [if_neg (by simp), e1, e2]
    exact h
  | true =>
    rw [if_pos rfl]
    have hge : rk (acc k).p ≤ rk (pr mon).b := by
      unfold prepOk at hp
      simp only [Bool.and_eq_true, Bool.not_eq_true'] at hp
      exact (nless_rk (.inr hmay) h1).1 hp.2
    have hu : ∀ i, rk (acc i).p ≤ rk (upd acc k ⟨(pr mon).b, (pr mon).b, (pr mon).v⟩ i).p ∧ rk (acc i).a ≤ rk (upd acc k ⟨(pr mon).b, (pr mon).b, (pr mon).v⟩ i).a := fun i => by
      by_cases e : i = k
      · subst e; rw [upd_same]; exact ⟨hge, Int.le_trans h3 hge⟩
      · rw [upd_other _ _ e]; exact ⟨Int.le_refl _, Int.le_refl _⟩
    refine ⟨h.sn, fun i hi => ?_, fun i hi => ?_, fun i b hv => ?_, fun b hbk => ?_, h.prop, fun m hm7 i x hx => ?_, h.ask, h.nask⟩
    · by_cases e : i = k
      · subst e; rw [upd_same]
        exact ⟨.inr hmay, .inr hmay, Int.le_refl _, hle, a3, fun e => absurd e (may_ne hmay)⟩
      · rw [upd_other _ _ e]; exact h.ac i hi
    · by_cases e : i = k
      · subst e; rw [upd_same]; exact .inr ⟨.inr ⟨rfl, rfl, rfl⟩, a2⟩
      · rw [upd_other _ _ e]
        rcases h.last i hi with q | ⟨q1, q2⟩
        · exact .inl q
        · exact .inr ⟨.inl q1, q2⟩
    · rcases hv with hv | ⟨rfl, rfl, _⟩
      · obtain ⟨q1, q2, q3⟩ := h.votes i b hv
        exact ⟨q1, Int.le_trans q2 (hu i).2, q3⟩
      · rw [upd_same]; exact ⟨hk, Int.le_refl _, a1⟩
    · obtain ⟨q1, q2, Q, q3, q4, q5⟩ := h.askd b hbk
      refine ⟨q1, q2, Q, q3, fun i hi hq => Int.le_trans (q4 i hi hq) (hu i).1, ?_⟩
      have new : ∀ i, i < n → Q i = true → ∀ b', (V i b' ∨ (i = k ∧ b' = (pr mon).b ∧ true = true)) → rk b' < rk b → V i b' := fun i hi hq b' hv hlt => by
        rcases hv with hv | ⟨rfl, rfl, _⟩
        · exact hv
        · have := q4 i hi hq; omega
      rcases q5 with q5 | ⟨b0, r1, ⟨j, r2⟩, r3, r4⟩
      · exact .inl fun i hi hq b' hv hlt => q5 i hi hq b' (new i hi hq b' hv hlt) hlt
      · exact .inr ⟨b0, r1, ⟨j, .inl r2⟩, r3, fun i hi hq b' hv hlt => r4 i hi hq b' (new i hi hq b' hv hlt) hlt⟩
    · obtain ⟨p1, p2, p3, p4, p5, p6, p7, p8⟩ := h.prom m hm7 i x hx
      refine ⟨p1, Int.le_trans p2 (hu i).1, p3, p4, p5, p6, ?_, fun b' hv hlt => ?_⟩
      · rcases p7 with q | ⟨q1, q2⟩
        · exact .inl q
        · exact .inr ⟨.inl q1, q2⟩
      · rcases hv with hv | ⟨rfl, rfl, _⟩
        · exact p8 b' hv hlt
        · omega

/-- more than half accepted a ballot (at some time) -/
def Chos (n : Nat) (V : Nat → Bal → Prop) (b : Bal) : Prop := ∃ K : Nat → Bool, n < 2 * qc K n ∧ ∀ k, k < n → K k = true → V k b
theorem Inv.later (h : Inv n acc pr seen V val asked) {b1 : Bal} (hc : Chos n V b1) : ∀ (d : Nat) (b2 : Bal), asked b2 → rk b1 < rk b2 → (rk b2 - rk b1).toNat ≤ d → val b2 = val b1 := by
  obtain ⟨K, hK, hV⟩ := hc
  intro d
  induction d with
  | zero => intro b2 _ hlt hd; omega
  | succ d ih =>
    intro b2 ha hlt hd
    obtain ⟨q1, q2, Q, q3, q4, q5⟩ := h.askd b2 ha
    obtain ⟨k, hk, e1, e2⟩ := qc_common q3 hK
    have hv := hV k hk e2
    rcases q5 with q5 | ⟨b0, r1, ⟨j, r2⟩, r3, r4⟩
    · exact absurd hlt (q5 k hk e1 b1 hv)
    · have hge := r4 k hk e1 b1 hv hlt
      have ha0 := (h.votes j b0 r2).2.2
      have ha1 := (h.votes k b1 hv).2.2
      rcases Int.lt_or_le (rk b1) (rk b0) with hl | hl
      · rw [r3]; exact ih b0 ha0 hl (by omega)
      · rw [r3, rk_inj (.inr (h.askd b0 ha0).1) (.inr (h.askd b1 ha1).1) (by omega)]
theorem Inv.chosAsked (h : Inv n acc pr seen V val asked) {b : Bal} (hc : Chos n V b) : asked b := by
  obtain ⟨K, hK, hV⟩ := hc
  obtain ⟨k, hk, e, _⟩ := qc_common hK hK
  exact (h.votes k b (hV k hk e)).2.2
theorem Inv.agree (h : Inv n acc pr seen V val asked) {b1 b2 : Bal} (h1 : Chos n V b1) (h2 : Chos n V b2) : val b1 = val b2 := by
  have ask : ∀ b, Chos n V b → asked b := fun b ⟨K, hK, hV⟩ => by
    obtain ⟨k, hk, e, _⟩ := qc_common hK hK
    exact (h.votes k b (hV k hk e)).2.2
  rcases Int.lt_trichotomy (rk b1) (rk b2) with hl | hl | hl
  · exact (h.later h1 _ b2 (ask b2 h2) hl (Nat.le_refl _)).symm
  · rw [rk_inj (.inr (h.askd b1 (ask b1 h1)).1) (.inr (h.askd b2 (ask b2 h2)).1) hl]
  · exact h.later h2 _ b1 (ask b1 h1) hl (Nat.le_refl _)
end
end Go.Proofs.Ytaopfgoofhojeaa
