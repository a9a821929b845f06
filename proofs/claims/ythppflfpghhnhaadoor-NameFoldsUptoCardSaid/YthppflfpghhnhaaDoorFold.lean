/- Texts of which capitals are small: the plain law. -/
import Derived.Test.YthppflfpghhnhaaDoorGood
import Derived.Lib.MapLaws
namespace Go.Proofs.YthppflfpghhnhaaDoor
open Utf

def smallU (z : Int) : Int := if 65 ≤ z ∧ z ≤ 90 then z + 32 else z
def foldN (b : Nat) : Nat := if 65 ≤ b ∧ b ≤ 90 then b + 32 else b
def foldB (x : UInt8) : UInt8 := if 65 ≤ x.toNat ∧ x.toNat ≤ 90 then UInt8.ofNat (x.toNat + 32) else x
def foldL (l : List UInt8) : List UInt8 := l.map foldB
def foldS (s : ByteArray) : ByteArray := ⟨(foldL s.data.toList).toArray⟩
theorem foldN_ge {b : Nat} (h : 128 ≤ b) : foldN b = b := by unfold foldN; rw [if_neg (by omega)]
theorem foldN_lt {b : Nat} (h : b < 128) : foldN b < 128 := by unfold foldN; split <;> omega
theorem foldB_nat (x : UInt8) : (foldB x).toNat = foldN x.toNat := by
  unfold foldB foldN
  split
  · rw [UInt8.toNat_ofNat']; omega
  · rfl
theorem foldB_ge {x : UInt8} (h : 128 ≤ x.toNat) : foldB x = x := by unfold foldB; rw [if_neg (by omega)]
theorem foldB_idem (x : UInt8) : foldB (foldB x) = foldB x := by
  have h := foldB_nat x
  by_cases c : 65 ≤ x.toNat ∧ x.toNat ≤ 90
  · have : (foldB x).toNat = x.toNat + 32 := by rw [h]; unfold foldN; rw [if_pos c]
    show (if 65 ≤ (foldB x).toNat ∧ (foldB x).toNat ≤ 90 then UInt8.ofNat ((foldB x).toNat + 32) else foldB x) = foldB x
    rw [if_neg (by omega)]
  · have : foldB x = x := by unfold foldB; rw [if_neg c]
    rw [this, this]
theorem foldS_size (s : ByteArray) : (foldS s).size = s.size := by
  show (foldL s.data.toList).toArray.size = s.data.size
  simp [foldL]
theorem foldS_idem (s : ByteArray) : foldS (foldS s) = foldS s := by
  refine data_ext ?_
  show ((foldL (foldL s.data.toList).toArray.toList).toArray).toList = _
  simp only [foldL, List.toList_toArray, List.map_map, foldS]
  exact List.map_congr_left fun x _ => foldB_idem x
theorem by_fold (s : ByteArray) (j : Nat) : by_ (foldS s) j = foldN (by_ s j) := by
  rw [by_list, by_list]
  show ((((foldL s.data.toList).toArray).toList[j]?).getD 0).toNat = _
  simp only [foldL, List.getElem?_map]
  cases h : s.data.toList[j]? with
  | none => rfl
  | some x => simp [foldB_nat]

theorem refN_fold (n b0 b1 b2 b3 : Nat) : refN n (foldN b0) (foldN b1) (foldN b2) (foldN b3) = (refN n b0 b1 b2 b3).map fun d => (foldN d.1, d.2) := by
  by_cases c0 : b0 < 128
  · have := foldN_lt c0
    unfold refN
    rw [if_pos this, if_pos c0]; rfl
  · have e0 : foldN b0 = b0 := foldN_ge (by omega)
    have hb : ∀ b, (128 ≤ b ∧ foldN b = b) ∨ (b < 128 ∧ foldN b < 128) := fun b => by
      by_cases h : 128 ≤ b
      · exact .inl ⟨h, foldN_ge h⟩
      · exact .inr ⟨by omega, foldN_lt (by omega)⟩
    have key : ∀ d : Nat × Nat, 128 ≤ d.1 → (some d : Option (Nat × Nat)) = Option.map (fun d => (foldN d.1, d.2)) (some d) := fun d h => by
      show some d = some (foldN d.1, d.2)
      rw [foldN_ge h]
    have knone : (none : Option (Nat × Nat)) = Option.map (fun d : Nat × Nat => (foldN d.1, d.2)) none := rfl
    have h1 := hb b1
    have h2 := hb b2
    have h3 := hb b3
    rw [e0]
    clear hb e0
    generalize foldN b1 = c1 at *
    generalize foldN b2 = c2 at *
    generalize foldN b3 = c3 at *
    unfold refN
    rw [if_neg c0, if_neg c0]
    rcases h1 with ⟨g1, rfl⟩ | ⟨g1, e1⟩ <;> rcases h2 with ⟨g2, rfl⟩ | ⟨g2, e2⟩ <;> rcases h3 with ⟨g3, rfl⟩ | ⟨g3, e3⟩
    all_goals
      (repeat' split) <;> first | (exfalso; omega) | exact knone | exact key _ (by show 128 ≤ _; omega)

theorem refAt_fold (s : ByteArray) (i : Nat) : refAt (foldS s) i = (refAt s i).map fun d => (foldN d.1, d.2) := by
  unfold refAt
  rw [by_fold, by_fold, by_fold, by_fold, foldS_size, refN_fold]
theorem rest_fold (s : ByteArray) : ∀ n i, s.size - i ≤ n → rest (foldS s) i = (rest s i).map (List.map foldN)
  | n, i, hn => by
    by_cases hi : i < s.size
    · have hi' : i < (foldS s).size := by rw [foldS_size]; exact hi
      have he := refAt_fold s i
      cases h : refAt s i with
      | none =>
        rw [h] at he
        rw [rest_refused s i hi h, rest_refused _ i hi' he]; rfl
      | some d =>
        rw [h] at he
        obtain ⟨r, k⟩ := d
        obtain ⟨a1, a2, a3⟩ := rest_taken s i r k hi h
        obtain ⟨b1, b2, b3⟩ := rest_taken _ i (foldN r) k hi' he
        match n, hn with
        | 0, hn => omega
        | n + 1, hn =>
          rw [a1, b1, rest_fold s n (i + k) (by omega)]
          cases rest s (i + k) <;> rfl
    · rw [rest_end s i hi, rest_end _ i (by rw [foldS_size]; exact hi)]; rfl
theorem runes_fold (s : ByteArray) : runes (foldS s) = (runes s).map (List.map foldN) := rest_fold s s.size 0 (by omega)
theorem runes_fold_some (s : ByteArray) : (runes (foldS s)).isSome = (runes s).isSome := by rw [runes_fold]; cases runes s <;> rfl
theorem foldN_32 (r : Nat) : foldN r = 32 ↔ r = 32 := by unfold foldN; split <;> omega
theorem rough_fold (r : Nat) : rough (foldN r) = rough r := by
  unfold rough foldN
  by_cases h : 65 ≤ r ∧ r ≤ 90
  · rw [if_pos h]
    have h1 : decide (r + 32 < 32) = false := decide_eq_false (by omega)
    have h2 : decide (r < 32) = false := decide_eq_false (by omega)
    have h3 : (r + 32 == 127) = false := beq_eq_false_iff_ne.2 (by omega)
    have h4 : (r == 127) = false := beq_eq_false_iff_ne.2 (by omega)
    have h5 : (r + 32 == 47) = false := beq_eq_false_iff_ne.2 (by omega)
    have h6 : (r == 47) = false := beq_eq_false_iff_ne.2 (by omega)
    have h7 : (r + 32 == 65533) = false := beq_eq_false_iff_ne.2 (by omega)
    have h8 : (r == 65533) = false := beq_eq_false_iff_ne.2 (by omega)
    rw [h1, h2, h3, h4, h5, h6, h7, h8]
  · rw [if_neg h]
theorem opt_32 (o : Option Nat) : o.map foldN = some 32 ↔ o = some 32 := by
  cases o with
  | none => simp
  | some r => simp [foldN_32]
theorem checkE_fold (s : ByteArray) : checkE (foldS s) = checkE s := by
  unfold checkE
  rw [runes_fold]
  cases runes s with
  | none => rfl
  | some l =>
    simp only [Option.map_some, List.length_map, List.map_eq_nil_iff, List.head?_map, List.getLast?_map, opt_32]
    have : (l.map foldN).any rough = l.any rough := by
      rw [List.any_map]
      congr 1
      funext r
      exact rough_fold r
    rw [this]

theorem foldL_high (s : ByteArray) (i k : Nat) (h : ∀ j, j < k → 128 ≤ by_ s (i + j)) : foldL ((s.data.toList.drop i).take k) = (s.data.toList.drop i).take k := by
  unfold foldL
  refine (List.map_congr_left (g := id) fun x hx => ?_).trans (List.map_id _)
  obtain ⟨j, hj, rfl⟩ := List.mem_iff_getElem.1 hx
  have hjk : j < k := by rw [List.length_take] at hj; omega
  have h1 := h j hjk
  rw [by_list] at h1
  rw [List.getElem_take, List.getElem_drop]
  have hlt : i + j < s.data.toList.length := by rw [List.length_take, List.length_drop] at hj; omega
  rw [List.getElem?_eq_getElem hlt] at h1
  exact foldB_ge h1
theorem mapD_fold (s : ByteArray) : ∀ n i, s.size - i ≤ n → (rest s i).isSome = true → Lib.mapD smallU (s.data.toList.drop i) = foldL (s.data.toList.drop i)
  | n, i, hn, hg => by
    by_cases hi : i < s.size
    · have hb : ¬ bad s i := fun hb => by rw [rest_bad s i hi hb] at hg; cases hg
      have hlen : s.data.toList.length = s.size := by show _ = s.data.size; simp
      have hne : s.data.toList.drop i ≠ [] := fun e => by
        have := congrArg List.length e
        rw [List.length_drop] at this
        simp only [List.length_nil] at this
        omega
      have hd := Lib.decodeL_drop s i
      have hv : ¬ ((Lib.decodeL (s.data.toList.drop i)).1 = 65533 ∧ (Lib.decodeL (s.data.toList.drop i)).2 = 1) := fun h => by
        rw [hd] at h
        exact hb (Prod.ext h.1 h.2)
      have hst := rest_step s i hi hb
      have hw := width_le s i hi hb
      have hp := width_pos s i hi
      have hg2 : (rest s (i + (Utf8.decode s i).2)).isSome = true := by
        rw [hst] at hg
        cases hr : rest s (i + (Utf8.decode s i).2) with
        | none => rw [hr] at hg; cases hg
        | some l => rfl
      match n, hn with
      | 0, hn => omega
      | n + 1, hn =>
        have ih := mapD_fold s n (i + (Utf8.decode s i).2) (by omega) hg2
        rw [← List.drop_drop] at ih
        have hcat : foldL (s.data.toList.drop i) = foldL ((s.data.toList.drop i).take (Utf8.decode s i).2) ++ foldL ((s.data.toList.drop i).drop (Utf8.decode s i).2) := by
          unfold foldL
          rw [← List.map_append, List.take_append_drop]
        have high : 128 ≤ (Utf8.decode s i).1 → (∀ j, j < (Utf8.decode s i).2 → 128 ≤ by_ s (i + j)) → Lib.mapD smallU (s.data.toList.drop i) = foldL (s.data.toList.drop i) := fun h1 h2 => by
          rw [Lib.mapD_same smallU _ hne (by rw [hd]; unfold smallU; rw [if_neg (by omega)]) hv, hcat, hd, ih, foldL_high s i _ h2]
        rcases dec_cases s i hb with ⟨c, e⟩ | ⟨c, e⟩ | ⟨c, e⟩ | ⟨c, e⟩
        · rw [Lib.mapD_step smallU _ hne, hcat, hd, ih]
          congr 1
          rw [e]
          simp only []
          have hlt : i < s.data.toList.length := by omega
          have hx : (s.data.toList.drop i).take 1 = [s.data.toList[i]] := by
            rw [List.drop_eq_getElem_cons hlt]; rfl
          have hbx : by_ s i = (s.data.toList[i]).toNat := by rw [by_list, List.getElem?_eq_getElem hlt]; rfl
          rw [hx, hbx]
          generalize s.data.toList[i] = x at *
          rw [hbx] at c
          show _ = [foldB x]
          unfold smallU foldB
          by_cases hc : 65 ≤ x.toNat ∧ x.toNat ≤ 90
          · rw [if_pos (show 65 ≤ (x.toNat : Int) ∧ (x.toNat : Int) ≤ 90 by omega), if_pos hc, if_pos (by omega)]
            unfold Lib.encodeRune
            rw [Lib.encodeRuneZ_one (by omega) (by omega)]
            simp only [List.map_cons, List.map_nil]
            congr 1
          · rw [if_neg (show ¬ (65 ≤ (x.toNat : Int) ∧ (x.toNat : Int) ≤ 90) by omega), if_neg hc, if_pos (by omega)]
            unfold Lib.encodeRune
            rw [Lib.encodeRuneZ_one (by omega) (by omega)]
            simp only [List.map_cons, List.map_nil]
            rw [Lib.toByte _ x rfl]
        · refine high (by rw [e]; show 128 ≤ _; simp only []; omega) fun j hj => ?_
          rw [e] at hj
          match j, hj with
          | 0, _ => show 128 ≤ by_ s i; omega
          | 1, _ => omega
        · refine high (by rw [e]; show 128 ≤ _; simp only []; omega) fun j hj => ?_
          rw [e] at hj
          match j, hj with
          | 0, _ => show 128 ≤ by_ s i; omega
          | 1, _ => omega
          | 2, _ => omega
        · refine high (by rw [e]; show 128 ≤ _; simp only []; omega) fun j hj => ?_
          rw [e] at hj
          match j, hj with
          | 0, _ => show 128 ≤ by_ s i; omega
          | 1, _ => omega
          | 2, _ => omega
          | 3, _ => omega
    · have : s.data.toList.drop i = [] := List.drop_eq_nil_of_le (by show s.data.toList.length ≤ i; have : s.data.toList.length = s.size := (by show _ = s.data.size; simp); omega)
      rw [this]; rfl
end Go.Proofs.YthppflfpghhnhaaDoor
