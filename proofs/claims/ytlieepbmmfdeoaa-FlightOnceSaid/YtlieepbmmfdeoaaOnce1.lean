/- FlightOnce: what is left, counted; the contracts. -/
import Derived.Test.YtlieepbmmfdeoaaAwake
import Derived.Test.YtlieepbmmfdeoaaMap2
import Derived.Test.YtlieepbmmfdeoaaActsIn
namespace Go.Proofs.Ytlieepbmmfdeoaa.flightOnce
open Go.RowKit Own
open Go.Maps (Keyed)

theorem rowMsg : (32 : TypeId) < Try.prog.types.size := of_decide_eq_true (by kernel_rfl)
theorem wideMsg : (match Try.prog.underlying 32 with | some (.array _ _) | some (.struct _) => true | _ => false) = true := by kernel_rfl
theorem keyedMsg : Keyed Try.prog 32 := Keyed.of_law (deep_law_laid laidOut (m := 2) (by omega) rowMsg (by kernel_rfl) wideMsg)
def keyV (m : Msg) : Value := .agg #[.int .i64 m.fr, .int .i64 m.to, .string ⟨m.b.toArray⟩]
theorem keyMsg {m : Msg} (ha : (Lit.int .i64 m.fr).wf = true) (hb : (Lit.int .i64 m.to).wf = true) (hl : m.b.length ≤ 140737488351232) : ∃ kl, keyOf Try.prog 32 (keyV m) = some kl := by
  have h1 : Try.prog.keyType 32 = true := by kernel_rfl
  have h2 : Try.prog.cellsOf 32 = 3 := by kernel_rfl
  have h3 : Try.prog.cellsOf 3 = 1 := by kernel_rfl
  have h4 : Try.prog.cellsOf 9 = 1 := by kernel_rfl
  obtain ⟨n, hn⟩ : ∃ n, Try.prog.types.size = n + 1 := ⟨Try.prog.types.size - 1, (Nat.succ_pred_eq_of_pos (Nat.lt_of_le_of_lt (Nat.zero_le _) rowMsg)).symm⟩
  simp only [keyOf, Try.underlying32, h1, Value.formed, h2, keyV, Value.cells, hn]
  have hsz : (⟨m.b.toArray⟩ : ByteArray).size ≤ maxLen := by
    show m.b.toArray.size ≤ _
    simp [maxLen]; omega
  have e : Try.prog.keyLits (n + 1 + 1) 32 [.int .i64 m.fr, .int .i64 m.to, .string ⟨m.b.toArray⟩] = some [.int .i64 m.fr, .int .i64 m.to, .string m.b] := by
    simp [Program.keyLits, Try.underlying32, Try.underlying3, Try.underlying9, h2, h3, h4, ha, hb, hsz]
  simp [e]

open Classical in
noncomputable def one (a b : Value) : Nat := if a = b then 1 else 0
theorem one_same (a : Value) : one a a = 1 := by simp [one]
theorem one_other {a b : Value} (h : a ≠ b) : one a b = 0 := by simp [one, h]
/-- how often it is there -/
noncomputable def cnt : List (Msg × Value) → Value → Nat
  | [], _ => 0
  | p :: L, κ => one (keyV p.1) κ + cnt L κ
theorem cnt_append (κ : Value) : ∀ (L M : List (Msg × Value)), cnt (L ++ M) κ = cnt L κ + cnt M κ
  | [], M => by simp [cnt]
  | p :: L, M => by simp only [List.cons_append, cnt]; rw [cnt_append κ L M]; omega
theorem cnt_add (L : List (Msg × Value)) (m : Msg) (v : Value) (κ : Value) : cnt (L ++ [(m, v)]) κ = cnt L κ + one (keyV m) κ := by
  rw [cnt_append]; simp [cnt]
theorem cnt_erase (L : List (Msg × Value)) (k : Nat) (hk : k < L.length) (κ : Value) : cnt (L.eraseIdx k) κ + one (keyV (L[k]'hk).1) κ = cnt L κ := by
  rw [List.eraseIdx_eq_take_drop_succ, cnt_append]
  have h : L = L.take k ++ (L[k]'hk :: L.drop (k + 1)) := by
    rw [← List.drop_eq_getElem_cons hk, List.take_append_drop]
  conv => rhs; rw [h]
  rw [cnt_append, cnt]
  omega

def Cnt (g : Value → Option Value) (L : List (Msg × Value)) : Prop := ∀ κ, (g κ).getD (.int .i64 0) = .int .i64 (cnt L κ)
theorem Cnt.nil : Cnt noKeys [] := fun _ => rfl
theorem Cnt.add {g : Value → Option Value} {L : List (Msg × Value)} (h : Cnt g L) (m : Msg) (v : Value) : Cnt (putKey g (keyV m) (.int .i64 ((cnt L (keyV m) : Int) + 1))) (L ++ [(m, v)]) := by
  intro κ
  rw [cnt_add]
  by_cases hk : κ = keyV m
  · subst hk; rw [putKey_same, one_same]; simp
  · rw [putKey_other _ _ hk, one_other (fun e => hk e.symm), h κ]; rfl
theorem Cnt.erase {g : Value → Option Value} {L : List (Msg × Value)} (h : Cnt g L) (k : Nat) (hk : k < L.length) : Cnt (putKey g (keyV (L[k]'hk).1) (.int .i64 ((cnt L (keyV (L[k]'hk).1) : Int) - 1))) (L.eraseIdx k) := by
  intro κ
  have he := cnt_erase L k hk κ
  by_cases hκ : κ = keyV (L[k]'hk).1
  · subst hκ; rw [putKey_same]; rw [one_same] at he; simp; omega
  · rw [putKey_other _ _ hκ, h κ]; rw [one_other (fun e => hκ e.symm)] at he; simp; omega
theorem cnt_pos (L : List (Msg × Value)) (k : Nat) (hk : k < L.length) : 0 < cnt L (keyV (L[k]'hk).1) := by
  have he := cnt_erase L k hk (keyV (L[k]'hk).1)
  rw [one_same] at he
  omega

structure Once (w0 : World) (fb mb lb n : Nat) (g : Value → Option Value) (lv : Value) (L : List (Msg × Value)) (w : World) : Prop where
  fl : Fl w0 fb mb 0 noKeys lv L w
  left : MapIs Try.prog 32 lb n g w
  hlb : w0.heap.size ≤ lb
  hne : lb ≠ mb
theorem Once.go {w0 w w' : World} {fb mb lb n : Nat} {g : Value → Option Value} {lv : Value} {L : List (Msg × Value)} (h : Once w0 fb mb lb n g lv L w) (hb : Below w.heap.size w w') : Once w0 fb mb lb n g lv L w' :=
  ⟨h.fl.go hb, h.left.same (hb.block lb h.left.lt), h.hlb, h.hne⟩
theorem Once.of {w0 w w' : World} {fb mb lb n : Nat} {g : Value → Option Value} {lv lv' : Value} {L L' : List (Msg × Value)} (h : Once w0 fb mb lb n g lv L w) (hk : Keeps mb w w') (hF : Fl w0 fb mb 0 noKeys lv' L' w') : Once w0 fb mb lb n g lv' L' w' := by
  refine ⟨hF, ?_, h.hlb, h.hne⟩
  obtain ⟨es, clock, hb, r⟩ := h.left
  exact ⟨es, clock, hk.2 lb _ hb (fun _ _ e => by cases e) (fun _ _ e => by cases e) h.hne, r⟩
theorem fl_other {w0 w w' : World} {fb mb n lb : Nat} {f : Value → Option Value} {lv : Value} {L : List (Msg × Value)} (h : Fl w0 fb mb n f lv L w) (hc : Chg [lb] w w') (hm : ∃ es clock, w.heap[lb]? = some (.map es clock)) (hlb : w0.heap.size ≤ lb) (hne : lb ≠ mb) : Fl w0 fb mb n f lv L w' := by
  obtain ⟨es, clock, hm⟩ := hm
  refine ⟨⟨h.at_.hB, ?_, ?_, ?_⟩, h.map.chg hc (by simpa using fun e => hne e.symm), h.hmb, h.all, h.below.trans (hc.below h.below.size (by simpa using hlb)), h.wf⟩
  · refine (hc.block fb (Array.getElem?_eq_some_iff.1 h.at_.st).1 ?_).trans h.at_.st
    rw [List.mem_singleton]; rintro rfl
    have := h.at_.st; rw [hm] at this; cases this
  · refine own_same h.at_.own fun g hg => hc.block g (h.at_.own.lt g hg).2 ?_
    rw [List.mem_singleton]; rintro rfl
    obtain ⟨cur, h1⟩ := own_type h.at_.own hg
    rw [hm] at h1; cases h1
  · intro p hp
    refine own_same (h.at_.bytes p hp) fun g hg => hc.block g ((h.at_.bytes p hp).lt g hg).2 ?_
    rw [List.mem_singleton]; rintro rfl
    obtain ⟨cur, h1⟩ := own_type (h.at_.bytes p hp) hg
    rw [hm] at h1; cases h1
theorem zero_int (w : World) : (zeroValue 3).run Try.prog w = .ok (.int .i64 0) w := by kernel_rfl

/-- what stands at a key, and what is stored there -/
structure Ent (w0 : World) (fb mb lb n : Nat) (g : Value → Option Value) (lv : Value) (L : List (Msg × Value)) (m : Msg) (c c' : Int) (w : World) (stamp : Value) (w1 w2 : World) : Prop where
  look : (Instr.lookup 25 (.map (some lb)) (keyV m) false).run Try.prog w = .ok (.int .i64 c) w
  entry : (Instr.mapEntry 25 (.map (some lb)) (keyV m)).run Try.prog w = .ok (.tuple #[.int .i64 c, stamp]) w1
  look1 : (Instr.lookup 25 (.map (some lb)) (keyV m) false).run Try.prog w1 = .ok (.int .i64 c) w1
  store : (Instr.entryStore 25 (.map (some lb)) stamp (.int .i64 c')).run Try.prog w1 = .ok () w2
  once : Once w0 fb mb lb (n + 1) (putKey g (keyV m) (.int .i64 c')) lv L w2
theorem Once.entry {w0 w : World} {fb mb lb n : Nat} {g : Value → Option Value} {lv : Value} {L : List (Msg × Value)} (h : Once w0 fb mb lb n g lv L w) {m : Msg} (ha : (Lit.int .i64 m.fr).wf = true) (hb : (Lit.int .i64 m.to).wf = true) (hl : m.b.length ≤ 140737488351232) {c : Int} (hc : (g (keyV m)).getD (.int .i64 0) = .int .i64 c) (c' : Int) :
    ∃ stamp w1 w2, Ent w0 fb mb lb n g lv L m c c' w stamp w1 w2 := by
  obtain ⟨kl, hk⟩ := keyMsg ha hb hl
  obtain ⟨stamp, w1, w2, h1, h2, h3, h4, h5, h6⟩ := h.left.entry keyedMsg Try.underlying25 zero_int hk (.int .i64 c')
  rw [hc] at h1 h2
  obtain ⟨es, clock, hm, r⟩ := h.left
  refine ⟨stamp, w1, w2, ?_, h1, ?_, h3, fl_other h.fl h6 ⟨es, clock, hm⟩ h.hlb h.hne, h4, h.hlb, h.hne⟩
  · rw [MapIs.look (f := g) ⟨es, clock, hm, r⟩ keyedMsg Try.underlying25 (zero_int w) hk, hc]
  · rw [h2.look keyedMsg Try.underlying25 (zero_int w1) hk, putKey_same]; rfl
end Go.Proofs.Ytlieepbmmfdeoaa.flightOnce
