/- Less is known: what is right is right still. No program in sight (but for its name). -/
import Derived.Test.YtbbbdhpihcbmmaaGRt
namespace Go.Proofs.Ytbbbdhpihcbmmaa
open Go.RowKit Own

structure Rel1 (m : Nat → Nat) (p p' : SpIn) : Prop where
  call : p'.call = p.call
  fr : p.fr = m p'.fr
  known : p'.known = true → p.known = true ∧ p'.rep = p.rep ∧ p.to = m p'.to
theorem goes_weaker {m : Nat → Nat} (hm : ∀ a b, a < b → m a < m b) {PL : List (SpIn × SpIn)} (h : ∀ pr ∈ PL, Rel1 m pr.1 pr.2) {D : Nat} {has : Bool} {b : List UInt8} (hg : Goes (PL.map Prod.fst) D has b) : Goes (PL.map Prod.snd) D has b := by
  induction hg with
  | fin D has b h0 =>
    refine Goes.fin D has b fun j hj hu => ?_
    have hj' : j < PL.length := by simpa using hj
    have h1 := h0 j (by simpa using hj') hu
    simp only [List.getElem_map] at h1 ⊢
    cases hk : (PL[j]'hj').2.known with
    | false => rfl
    | true =>
      have := (h _ (List.getElem_mem hj')).known hk
      rw [this.1] at h1; cases h1
  | step D has b i hi hmay hfit _ ih =>
    have hi' : i < PL.length := by simpa using hi
    have hr := h _ (List.getElem_mem hi')
    simp only [List.getElem_map] at hfit ih
    refine Goes.step D has b i (by simpa using hi') ⟨hmay.1, fun j hj hu hk hi2 => ?_⟩ ?_ ?_
    · have hj' : j < PL.length := by simpa using hj
      have hrj := h _ (List.getElem_mem hj')
      simp only [List.getElem_map] at hk ⊢
      have hkn := hrj.known hk
      have hle := hmay.2 j (by simpa using hj') hu (by simpa using hkn.1) hi
      simp only [List.getElem_map] at hle
      rw [hr.fr, hkn.2.2] at hle
      by_cases hc : (PL[j]'hj').2.to < (PL[i]'hi').2.fr
      · have := hm _ _ hc; omega
      · omega
    · simp only [List.getElem_map]
      unfold FitR at hfit ⊢
      cases hk : (PL[i]'hi').2.known with
      | false => exact .inl rfl
      | true =>
        have hkn := hr.known hk
        rcases hfit with hf | hf
        · rw [hkn.1] at hf; cases hf
        · right; rw [hr.call, hkn.2.1]; exact hf
    · simp only [List.getElem_map, hr.call]; exact ih
theorem spanOf_call (xs : List EvIn) (x : EvIn) (j : Nat) : (spanOf xs x j).call = x.call ∧ (spanOf xs x j).fr = j := by
  unfold spanOf
  split
  · split <;> exact ⟨rfl, rfl⟩
  · exact ⟨rfl, rfl⟩
theorem spanOf_known {xs : List EvIn} {x : EvIn} {j : Nat} (h : (spanOf xs x j).known = true) : ∃ (q : Nat) (hq : q < xs.length), (xs[q]'hq).unk = false ∧ endB x.kc x.ks (xs[q]'hq) = true ∧ (spanOf xs x j).to = q ∧ (spanOf xs x j).rep = (xs[q]'hq).rep := by
  unfold spanOf at h ⊢
  split at h
  · rename_i hq
    rw [dif_pos hq]
    split at h
    · cases h
    · rename_i hu
      rw [if_neg hu]
      exact ⟨_, hq, by simpa using hu, List.findIdx_getElem (w := hq), rfl, rfl⟩
  · cases h
theorem spanOf_at {xs : List EvIn} {x : EvIn} {q : Nat} (j : Nat) (hq : q < xs.length) (hf : xs.findIdx (endB x.kc x.ks) = q) (hu : (xs[q]'hq).unk = false) : spanOf xs x j = ⟨x.call, j, q, true, (xs[q]'hq).rep⟩ := by
  subst hf
  unfold spanOf
  rw [dif_pos hq, if_neg (by rw [hu]; decide)]
def item (xs : List EvIn) (s : ByteArray) (k : Nat) : List SpIn := match xs[k]? with | some x => if x.done = false ∧ s = x.call.s then [spanOf xs x k] else [] | none => []
theorem upTo_item (xs : List EvIn) (s : ByteArray) (j : Nat) : upTo xs s (j + 1) = upTo xs s j ++ item xs s j := rfl
theorem item_done {xs : List EvIn} {k : Nat} (hk : k < xs.length) (h : (xs[k]'hk).done = true) (s : ByteArray) : item xs s k = [] := by simp [item, List.getElem?_eq_getElem hk, h]
structure Emb (xs ys : List EvIn) (m M : Nat → Nat) : Prop where
  mono : ∀ a b, a < b → m a < m b
  lt : ∀ k, k < ys.length → m k < xs.length
  ev : ∀ (k : Nat) (hk : k < ys.length) (hk' : m k < xs.length), ys[k]'hk = xs[m k]'hk' ∨ ((ys[k]'hk).done = true ∧ (ys[k]'hk).unk = true ∧ (xs[m k]'hk').done = true)
  M0 : M 0 = 0
  step : ∀ s k, k < ys.length → upTo xs s (M (k + 1)) = upTo xs s (M k) ++ item xs s (m k)
  fin : ∀ s, upTo xs s (M ys.length) = upTo xs s xs.length
  one : ∀ (q q' : Nat) (h : q < xs.length) (h' : q' < xs.length), (xs[q]'h).done = true → (xs[q']'h').done = true → (xs[q]'h).kc = (xs[q']'h').kc → (xs[q]'h).ks = (xs[q']'h').ks → q = q'
theorem endB_iff {kc ks : Int} {x : EvIn} : endB kc ks x = true ↔ x.done = true ∧ x.kc = kc ∧ x.ks = ks := by simp [endB]
section
variable {xs ys : List EvIn} {m M : Nat → Nat}
theorem Emb.span (E : Emb xs ys m M) {k : Nat} (hk : k < ys.length) (hd : (ys[k]'hk).done = false) : ys[k]'hk = xs[m k]'(E.lt k hk) ∧ Rel1 m (spanOf xs (xs[m k]'(E.lt k hk)) (m k)) (spanOf ys (ys[k]'hk) k) := by
  have he : ys[k]'hk = xs[m k]'(E.lt k hk) := by
    rcases E.ev k hk (E.lt k hk) with h | h
    · exact h
    · rw [h.1] at hd; cases hd
  refine ⟨he, ?_, ?_, fun hkn => ?_⟩
  · rw [(spanOf_call ..).1, (spanOf_call ..).1, he]
  · rw [(spanOf_call ..).2, (spanOf_call ..).2]
  · obtain ⟨q, hq, hu, hend, hto, hrep⟩ := spanOf_known hkn
    have hyx : ys[q]'hq = xs[m q]'(E.lt q hq) := by
      rcases E.ev q hq (E.lt q hq) with h | h
      · exact h
      · rw [h.2.1] at hu; cases hu
    rw [hyx, he] at hend
    have hlt : xs.findIdx (endB (xs[m k]'(E.lt k hk)).kc (xs[m k]'(E.lt k hk)).ks) < xs.length := List.findIdx_lt_length_of_exists ⟨_, List.getElem_mem (E.lt q hq), hend⟩
    have h0 := endB_iff.1 (List.findIdx_getElem (w := hlt))
    have h1 := endB_iff.1 hend
    have hone := E.one _ _ hlt (E.lt q hq) h0.1 h1.1 (h0.2.1.trans h1.2.1.symm) (h0.2.2.trans h1.2.2.symm)
    rw [spanOf_at (m k) (E.lt q hq) hone (by rw [← hyx]; exact hu)]
    exact ⟨rfl, by rw [hrep, hyx], by rw [hto]⟩
theorem Emb.pairs (E : Emb xs ys m M) (s : ByteArray) : ∀ j, j ≤ ys.length → ∃ PL : List (SpIn × SpIn), PL.map Prod.fst = upTo xs s (M j) ∧ PL.map Prod.snd = upTo ys s j ∧ ∀ pr ∈ PL, Rel1 m pr.1 pr.2 := by
  intro j
  induction j with
  | zero => intro _; exact ⟨[], by rw [E.M0]; rfl, rfl, fun _ h => by cases h⟩
  | succ j ih =>
    intro hj
    obtain ⟨PL, h1, h2, h3⟩ := ih (by omega)
    have hj' : j < ys.length := by omega
    rw [E.step s j hj', upTo_item, ← h1, ← h2]
    cases hd : (ys[j]'hj').done with
    | true =>
      have hx : (xs[m j]'(E.lt j hj')).done = true := by
        rcases E.ev j hj' (E.lt j hj') with h | h
        · rw [← h]; exact hd
        · exact h.2.2
      exact ⟨PL, by rw [item_done _ hx, List.append_nil], by rw [item_done _ hd, List.append_nil], h3⟩
    | false =>
      obtain ⟨he, hr⟩ := E.span hj' hd
      by_cases hs : s = (ys[j]'hj').call.s
      · refine ⟨PL ++ [(spanOf xs (xs[m j]'(E.lt j hj')) (m j), spanOf ys (ys[j]'hj') j)], ?_, ?_, fun pr hp => ?_⟩
        · have : item xs s (m j) = [spanOf xs (xs[m j]'(E.lt j hj')) (m j)] := by
            simp only [item, List.getElem?_eq_getElem (E.lt j hj')]
            rw [if_pos ⟨by rw [← he]; exact hd, by rw [← he]; exact hs⟩]
          rw [this]; simp
        · have : item ys s j = [spanOf ys (ys[j]'hj') j] := by
            simp only [item, List.getElem?_eq_getElem hj']
            rw [if_pos ⟨hd, hs⟩]
          rw [this]; simp
        · rcases List.mem_append.1 hp with hp | hp
          · exact h3 pr hp
          · rw [List.mem_singleton] at hp; subst hp; exact hr
      · refine ⟨PL, ?_, ?_, h3⟩
        · have : item xs s (m j) = [] := by
            simp only [item, List.getElem?_eq_getElem (E.lt j hj')]
            rw [if_neg (fun h => hs (by rw [he]; exact h.2))]
          rw [this, List.append_nil]
        · have : item ys s j = [] := by
            simp only [item, List.getElem?_eq_getElem hj']
            rw [if_neg (fun h => hs h.2)]
          rw [this, List.append_nil]
theorem Emb.right (E : Emb xs ys m M) (h : RightB xs) : RightB ys := fun s => by
  obtain ⟨PL, h1, h2, h3⟩ := E.pairs s ys.length (Nat.le_refl _)
  rw [E.fin] at h1
  have hg := h s
  rw [← h1] at hg
  rw [← h2]
  exact goes_weaker E.mono h3 hg
end
/-- CheckHistory's run -/
theorem csRun_append : ∀ (a b : List EvIn) (st : CS), csRun (a ++ b) st = (csRun a st).bind (csRun b)
  | [], _, _ => rfl
  | x :: a, b, st => by
    simp only [List.cons_append, csRun]
    split
    · exact csRun_append a b _
    · rfl
theorem csRun_one : ∀ {l : List EvIn} {st st' : CS}, csRun l st = some st' → (∀ x ∈ l, x.done = true → (x.kc, x.ks) ∉ st.es) ∧ l.Pairwise (fun x y => x.done = true → y.done = true → (x.kc, x.ks) ≠ (y.kc, y.ks))
  | [], _, _, _ => ⟨fun _ h => (by cases h), List.Pairwise.nil⟩
  | x :: l, st, st', h => by
    rw [csRun] at h
    split at h
    · rename_i hok
      obtain ⟨h1, h2⟩ := csRun_one h
      have hsub : ∀ k, k ∈ st.es → k ∈ (csStep st x).es := fun k hk => by
        unfold csStep; split
        · exact List.mem_cons_of_mem _ hk
        · exact hk
      refine ⟨fun y hy hd => ?_, List.pairwise_cons.2 ⟨fun y hy hdx hdy e => ?_, h2⟩⟩
      · rcases List.mem_cons.1 hy with rfl | hy
        · unfold csOk at hok
          rw [if_pos hd] at hok
          simp only [Bool.and_eq_true, Bool.not_eq_true', decide_eq_false_iff_not] at hok
          exact hok.2.1
        · exact fun hc => h1 y hy hd (hsub _ hc)
      · refine h1 y hy hdy ?_
        rw [← e]
        unfold csStep
        rw [if_pos hdx]
        exact List.mem_cons_self ..
    · cases h
structure RelS (a b : CS) : Prop where
  bs : ∀ k, k ∈ a.bs ↔ k ∈ b.bs
  es : ∀ k, k ∈ b.es → k ∈ a.es
  ns : b.ns = a.ns
  most : b.most = a.most
theorem csRun_sim : ∀ {l : List EvIn} {a b a' : CS}, csRun l a = some a' → RelS a b → ∃ b', csRun l b = some b' ∧ b'.most = a'.most
  | [], _, b, _, h, hr => ⟨b, rfl, by cases h; exact hr.most⟩
  | x :: l, a, b, a', h, hr => by
    rw [csRun] at h
    split at h
    · rename_i hok
      have hok2 : csOk b x = true := by
        unfold csOk at hok ⊢
        split at hok
        · rename_i hd
          rw [if_pos hd]
          simp only [Bool.and_eq_true, Bool.not_eq_true', decide_eq_false_iff_not, decide_eq_true_iff] at hok ⊢
          exact ⟨(hr.bs _).1 hok.1, fun hc => hok.2.1 (hr.es _ hc), hok.2.2⟩
        · rename_i hd
          rw [if_neg hd]
          simp only [Bool.and_eq_true, Bool.not_eq_true', decide_eq_false_iff_not] at hok ⊢
          exact ⟨fun hc => hok.1 ((hr.bs _).2 hc), hok.2⟩
      have hr2 : RelS (csStep a x) (csStep b x) := by
        unfold csStep
        split
        · refine ⟨fun k => ?_, fun k hk => ?_, hr.ns, hr.most⟩
          · simp only [List.mem_cons, hr.bs]
          · rcases List.mem_cons.1 hk with rfl | hk
            · exact List.mem_cons_self ..
            · exact List.mem_cons_of_mem _ (hr.es _ hk)
        · refine ⟨fun k => ?_, hr.es, ?_, ?_⟩
          · simp only [List.mem_cons, hr.bs]
          · simp only [hr.ns]
          · simp only [hr.ns, hr.most]
      rw [csRun, if_pos hok2]
      exact csRun_sim h hr2
    · cases h
theorem chk_run {xs : List EvIn} (h : chkH xs = 0) : xs.length ≤ 64 ∧ ∃ st, csRun xs ⟨[], [], [], 0⟩ = some st ∧ st.most ≤ 8 := by
  unfold chkH at h
  split at h
  · cases h
  · rename_i h64
    split at h
    · cases h
    · rename_i st hst
      split at h
      · cases h
      · rename_i h8
        exact ⟨Nat.le_of_not_lt h64, st, hst, Nat.le_of_not_lt h8⟩
theorem chk_of {xs : List EvIn} (hn : xs.length ≤ 64) {st : CS} (h : csRun xs ⟨[], [], [], 0⟩ = some st) (h8 : st.most ≤ 8) : chkH xs = 0 := by
  rw [chkH_yes (by omega) h, if_neg (by omega)]
def unkE (x : EvIn) : EvIn := ⟨x.kc, x.ks, true, true, ⟨0, ⟨#[]⟩, 0, [], 0⟩, ⟨0, 0, []⟩⟩
theorem split_at {xs : List EvIn} {i : Nat} (hi : i < xs.length) : xs = xs.take i ++ (xs[i]'hi :: xs.drop (i + 1)) := by
  rw [← List.drop_eq_getElem_cons hi, List.take_append_drop]
theorem less_one {xs : List EvIn} (hc : chkH xs = 0) : ∀ (q q' : Nat) (h : q < xs.length) (h' : q' < xs.length), (xs[q]'h).done = true → (xs[q']'h').done = true → (xs[q]'h).kc = (xs[q']'h').kc → (xs[q]'h).ks = (xs[q']'h').ks → q = q' := by
  obtain ⟨_, st, hst, _⟩ := chk_run hc
  have hp := List.pairwise_iff_getElem.1 (csRun_one hst).2
  intro q q' h h' hd hd' hk hs
  rcases Nat.lt_trichotomy q q' with hl | hl | hl
  · exact absurd (by rw [hk, hs]) (hp q q' h h' hl hd hd')
  · exact hl
  · exact absurd (by rw [hk, hs]) (hp q' q h' h hl hd' hd)
theorem less_out {xs : List EvIn} (hc : chkH xs = 0) (hr : RightB xs) {i : Nat} (hi : i < xs.length) (hd : (xs[i]'hi).done = true) : chkH (xs.take i ++ xs.drop (i + 1)) = 0 ∧ RightB (xs.take i ++ xs.drop (i + 1)) := by
  constructor
  · obtain ⟨h64, st, hst, h8⟩ := chk_run hc
    rw [split_at hi, csRun_append] at hst
    cases h1 : csRun (xs.take i) ⟨[], [], [], 0⟩ with
    | none => rw [h1] at hst; cases hst
    | some s1 =>
      rw [h1, Option.bind_some, csRun] at hst
      split at hst
      · rename_i hok
        have hrs : RelS (csStep s1 (xs[i]'hi)) s1 := by
          unfold csOk at hok
          rw [if_pos hd] at hok
          simp only [Bool.and_eq_true, decide_eq_true_iff] at hok
          unfold csStep
          rw [if_pos hd]
          refine ⟨fun k => ?_, fun k hk => List.mem_cons_of_mem _ hk, rfl, rfl⟩
          simp only [List.mem_cons]
          exact ⟨fun h => h.elim (fun e => e ▸ hok.1) id, .inr⟩
        obtain ⟨s2, h2, hm⟩ := csRun_sim hst hrs
        refine chk_of (by simp; omega) (st := s2) (by rw [csRun_append, h1]; exact h2) (by omega)
      · cases hst
  · refine Emb.right (m := fun k => if k < i then k else k + 1) (M := fun k => if k ≤ i then k else k + 1) ⟨?_, ?_, ?_, ?_, ?_, ?_, less_one hc⟩ hr
    · intro a b hab; show (if a < i then a else a + 1) < (if b < i then b else b + 1); split <;> split <;> omega
    · intro k hk; simp at hk ⊢; split <;> omega
    · intro k hk hk'
      left
      by_cases hki : k < i
      · simp only [if_pos hki]
        rw [List.getElem_append_left (by simp; omega), List.getElem_take]
      · simp only [if_neg hki]
        rw [List.getElem_append_right (by simp; omega), List.getElem_drop]
        congr 1
        simp; omega
    · simp
    · intro s k hk
      by_cases h1 : k < i
      · rw [if_pos (show k + 1 ≤ i by omega), if_pos (show k ≤ i by omega), if_pos h1, upTo_item]
      · rw [if_neg (show ¬ k + 1 ≤ i by omega), if_neg h1, upTo_item]
        by_cases h2 : k = i
        · subst h2
          rw [if_pos (Nat.le_refl _), upTo_item, item_done hi hd, List.append_nil]
        · rw [if_neg (show ¬ k ≤ i by omega)]
    · intro s
      simp only [List.length_append, List.length_take, List.length_drop]
      by_cases h2 : i + 1 = xs.length
      · rw [if_pos (by omega)]
        rw [show min i xs.length + (xs.length - (i + 1)) = i by omega, ← h2, upTo_item, item_done hi hd, List.append_nil]
      · rw [if_neg (by omega)]
        congr 1; omega
theorem less_unk {xs : List EvIn} (hc : chkH xs = 0) (hr : RightB xs) {i : Nat} (hi : i < xs.length) (hd : (xs[i]'hi).done = true) : chkH (xs.set i (unkE (xs[i]'hi))) = 0 ∧ RightB (xs.set i (unkE (xs[i]'hi))) := by
  constructor
  · obtain ⟨h64, st, hst, h8⟩ := chk_run hc
    rw [split_at hi, csRun_append] at hst
    refine chk_of (by simpa using h64) (st := st) ?_ h8
    rw [List.set_eq_take_append_cons_drop, if_pos hi, csRun_append]
    cases h1 : csRun (xs.take i) ⟨[], [], [], 0⟩ with
    | none => rw [h1] at hst; cases hst
    | some s1 =>
      rw [h1, Option.bind_some, csRun] at hst
      rw [Option.bind_some, csRun]
      split at hst
      · rename_i hok
        have hok2 : csOk s1 (unkE (xs[i]'hi)) = true := by
          unfold csOk at hok ⊢
          rw [if_pos hd] at hok
          rw [if_pos (show (unkE (xs[i]'hi)).done = true from rfl)]
          simp only [Bool.and_eq_true] at hok ⊢
          exact ⟨hok.1, hok.2.1, (by kernel_rfl : zeroB ⟨0, ⟨#[]⟩, 0, [], 0⟩ = true), (by kernel_rfl : (!true || silentB ⟨0, 0, []⟩) = true)⟩
        have hst2 : csStep s1 (unkE (xs[i]'hi)) = csStep s1 (xs[i]'hi) := by
          unfold csStep
          rw [if_pos hd, if_pos (show (unkE (xs[i]'hi)).done = true from rfl)]
          rfl
        rw [if_pos hok2, hst2]; exact hst
      · cases hst
  · refine Emb.right (m := id) (M := id) ⟨fun _ _ h => h, fun k hk => by simpa using hk, fun k hk hk' => ?_, rfl, fun _ _ _ => rfl, fun s => by simp, less_one hc⟩ hr
    simp only [id]
    rw [List.getElem_set]
    by_cases e : i = k
    · subst e
      rw [if_pos rfl]
      exact .inr ⟨rfl, rfl, hd⟩
    · rw [if_neg e]; exact .inl rfl
end Go.Proofs.Ytbbbdhpihcbmmaa
