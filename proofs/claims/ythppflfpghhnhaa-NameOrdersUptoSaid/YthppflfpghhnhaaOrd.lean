/- Plain: texts that are UTF-8 are ordered by their bytes as by their runes; the order of the bytes is strict and whole. -/
import Derived.Test.YthppflfpghhnhaaUtf
import GoSem.Op.String
namespace Go.Proofs.Ythppflfpghhnhaa.Utf

def lexLt : List Nat → List Nat → Bool
  | _, [] => false
  | [], _ :: _ => true
  | a :: x, b :: y => if a = b then lexLt x y else decide (a < b)
theorem lexLt_lt {a b : Nat} (h : a < b) (x y : List Nat) : lexLt (a :: x) (b :: y) = true ∧ lexLt (b :: y) (a :: x) = false := by
  constructor
  · simp only [lexLt]; rw [if_neg (by omega)]; exact decide_eq_true h
  · simp only [lexLt]; rw [if_neg (by omega)]; exact decide_eq_false (by omega)
theorem lexLt_eq (a : Nat) (x y : List Nat) : lexLt (a :: x) (a :: y) = lexLt x y := by simp [lexLt]
theorem lexLt_irr : ∀ x, lexLt x x = false
  | [] => rfl
  | a :: x => by rw [lexLt_eq, lexLt_irr x]
theorem lexLt_tri : ∀ x y, x ≠ y → lexLt x y ≠ lexLt y x
  | [], [], h => absurd rfl h
  | [], b :: y, _ => by simp [lexLt]
  | a :: x, [], _ => by simp [lexLt]
  | a :: x, b :: y, h => by
    by_cases e : a = b
    · subst e
      rw [lexLt_eq, lexLt_eq]
      exact lexLt_tri x y (fun e => h (by rw [e]))
    · rcases Nat.lt_or_ge a b with hl | hl
      · rw [(lexLt_lt hl x y).1, (lexLt_lt hl x y).2]; decide
      · rw [(lexLt_lt (show b < a by omega) y x).1, (lexLt_lt (show b < a by omega) y x).2]; decide
theorem lexLt_trans : ∀ x y z, lexLt x y = true → lexLt y z = true → lexLt x z = true
  | _, _, [], _, h => by simp [lexLt] at h
  | _, [], _ :: _, h, _ => by simp [lexLt] at h
  | [], _ :: _, _ :: _, _, _ => by simp [lexLt]
  | a :: x, b :: y, c :: z, h1, h2 => by
    simp only [lexLt] at h1 h2 ⊢
    by_cases e1 : a = b
    · subst e1
      rw [if_pos rfl] at h1
      by_cases e2 : a = c
      · subst e2
        rw [if_pos rfl] at h2 ⊢
        exact lexLt_trans x y z h1 h2
      · rw [if_neg e2] at h2 ⊢; exact h2
    · rw [if_neg e1, decide_eq_true_eq] at h1
      by_cases e2 : b = c
      · subst e2
        rw [if_neg e1, decide_eq_true_eq]; exact h1
      · rw [if_neg e2, decide_eq_true_eq] at h2
        rw [if_neg (by omega), decide_eq_true_eq]; omega

def bytesN (s : ByteArray) : List Nat := s.data.toList.map UInt8.toNat
theorem bytesLess_eq : ∀ x y : List UInt8, Op.bytesLess x y = lexLt (x.map UInt8.toNat) (y.map UInt8.toNat)
  | [], [] => rfl
  | _ :: _, [] => rfl
  | [], _ :: _ => rfl
  | a :: x, b :: y => by
    simp only [Op.bytesLess, List.map_cons, lexLt, bytesLess_eq x y]
    by_cases e : a = b
    · subst e
      simp
    · have e2 : ¬ a.toNat = b.toNat := fun h => e (UInt8.toNat_inj.1 h)
      rw [if_neg e2, beq_false_of_ne e]
      simp [UInt8.lt_iff_toNat_lt]
theorem less_eq (a b : ByteArray) : Op.bytesLess a.toList b.toList = lexLt (bytesN a) (bytesN b) := by
  rw [bytesLess_eq, Lib.toList_data, Lib.toList_data]; rfl

/-! ### how a rune is written -/
def enc (r : Nat) : List Nat :=
  if r < 128 then [r] else if r < 2048 then [192 + r / 64, 128 + r % 64] else if r < 65536 then [224 + r / 4096, 128 + r / 64 % 64, 128 + r % 64]
  else [240 + r / 262144, 128 + r / 4096 % 64, 128 + r / 64 % 64, 128 + r % 64]
theorem enc_1 {r : Nat} (h : r < 128) : enc r = [r] := by unfold enc; rw [if_pos h]
theorem enc_2 {r : Nat} (h0 : 128 ≤ r) (h : r < 2048) : enc r = [192 + r / 64, 128 + r % 64] := by unfold enc; rw [if_neg (by omega), if_pos h]
theorem enc_3 {r : Nat} (h0 : 2048 ≤ r) (h : r < 65536) : enc r = [224 + r / 4096, 128 + r / 64 % 64, 128 + r % 64] := by
  have h1 : ¬ r < 128 := by omega
  have h2 : ¬ r < 2048 := by omega
  unfold enc; rw [if_neg h1, if_neg h2, if_pos h]
theorem enc_4 {r : Nat} (h0 : 65536 ≤ r) : enc r = [240 + r / 262144, 128 + r / 4096 % 64, 128 + r / 64 % 64, 128 + r % 64] := by
  have h1 : ¬ r < 128 := by omega
  have h2 : ¬ r < 2048 := by omega
  have h3 : ¬ r < 65536 := by omega
  unfold enc; rw [if_neg h1, if_neg h2, if_neg h3]

def Bf (x y : List Nat) : Prop := lexLt x y = true ∧ lexLt y x = false
theorem Bf_lt {a b : Nat} (h : a < b) (x y : List Nat) : Bf (a :: x) (b :: y) := lexLt_lt h x y
theorem Bf_eq {a b : Nat} (h : a = b) {x y : List Nat} (hb : Bf x y) : Bf (a :: x) (b :: y) := by
  subst h; exact ⟨by rw [lexLt_eq]; exact hb.1, by rw [lexLt_eq]; exact hb.2⟩
theorem enc_Bf {a b : Nat} (h : a < b) (hb : b < 2097152) (x y : List Nat) : Bf (enc a ++ x) (enc b ++ y) := by
  rcases (show b < 128 ∨ (128 ≤ b ∧ b < 2048) ∨ (2048 ≤ b ∧ b < 65536) ∨ 65536 ≤ b by omega) with c | c | c | c
  · rw [enc_1 c, enc_1 (by omega)]
    exact Bf_lt h _ _
  · rw [enc_2 c.1 c.2]
    rcases (show a < 128 ∨ 128 ≤ a by omega) with d | d
    · rw [enc_1 d]; exact Bf_lt (by omega) _ _
    · rw [enc_2 d (by omega)]
      by_cases e : a / 64 = b / 64
      · exact Bf_eq (by omega) (Bf_lt (by omega) _ _)
      · exact Bf_lt (by omega) _ _
  · rw [enc_3 c.1 c.2]
    rcases (show a < 128 ∨ (128 ≤ a ∧ a < 2048) ∨ 2048 ≤ a by omega) with d | d | d
    · rw [enc_1 d]; exact Bf_lt (by omega) _ _
    · rw [enc_2 d.1 d.2]; exact Bf_lt (by omega) _ _
    · rw [enc_3 d (by omega)]
      by_cases e : a / 4096 = b / 4096
      · refine Bf_eq (by omega) ?_
        by_cases f : a / 64 % 64 = b / 64 % 64
        · exact Bf_eq (by omega) (Bf_lt (by omega) _ _)
        · exact Bf_lt (by omega) _ _
      · exact Bf_lt (by omega) _ _
  · rw [enc_4 c]
    rcases (show a < 128 ∨ (128 ≤ a ∧ a < 2048) ∨ (2048 ≤ a ∧ a < 65536) ∨ 65536 ≤ a by omega) with d | d | d | d
    · rw [enc_1 d]; exact Bf_lt (by omega) _ _
    · rw [enc_2 d.1 d.2]; exact Bf_lt (by omega) _ _
    · rw [enc_3 d.1 d.2]; exact Bf_lt (by omega) _ _
    · rw [enc_4 d]
      by_cases e : a / 262144 = b / 262144
      · refine Bf_eq (by omega) ?_
        by_cases f : a / 4096 % 64 = b / 4096 % 64
        · refine Bf_eq (by omega) ?_
          by_cases g : a / 64 % 64 = b / 64 % 64
          · exact Bf_eq (by omega) (Bf_lt (by omega) _ _)
          · exact Bf_lt (by omega) _ _
        · exact Bf_lt (by omega) _ _
      · exact Bf_lt (by omega) _ _
theorem enc_ne (r : Nat) (x : List Nat) : ∃ a y, enc r ++ x = a :: y := by
  unfold enc
  repeat' split
  all_goals exact ⟨_, _, rfl⟩
theorem lexLt_append (p x y : List Nat) : lexLt (p ++ x) (p ++ y) = lexLt x y := by
  induction p with
  | nil => rfl
  | cons a p ih => rw [List.cons_append, List.cons_append, lexLt_eq, ih]
theorem lexLt_enc : ∀ x y : List Nat, (∀ r ∈ x, r < 2097152) → (∀ r ∈ y, r < 2097152) → lexLt (x.flatMap enc) (y.flatMap enc) = lexLt x y
  | [], [], _, _ => rfl
  | a :: x, [], _, _ => by rw [List.flatMap_cons, List.flatMap_nil]; obtain ⟨c, z, e⟩ := enc_ne a (x.flatMap enc); rw [e]; rfl
  | [], b :: y, _, _ => by rw [List.flatMap_cons, List.flatMap_nil]; obtain ⟨c, z, e⟩ := enc_ne b (y.flatMap enc); rw [e]; rfl
  | a :: x, b :: y, hx, hy => by
    rw [List.flatMap_cons, List.flatMap_cons]
    have ha := hx a (List.mem_cons_self ..)
    have hb := hy b (List.mem_cons_self ..)
    by_cases e : a = b
    · subst e
      rw [lexLt_append, lexLt_eq]
      exact lexLt_enc x y (fun r h => hx r (List.mem_cons_of_mem _ h)) (fun r h => hy r (List.mem_cons_of_mem _ h))
    · rcases Nat.lt_or_ge a b with hl | hl
      · rw [(enc_Bf hl hb _ _).1, (lexLt_lt hl x y).1]
      · have hl' : b < a := by omega
        rw [(enc_Bf hl' ha _ _).2, (lexLt_lt hl' y x).2]

/-! ### a text is its runes, written -/
theorem cons_congr {a b : Nat} {x y : List Nat} (h : a = b) (h2 : x = y) : a :: x = b :: y := by rw [h, h2]
theorem bytesN_at (s : ByteArray) (i : Nat) (h : i < s.size) : (bytesN s).drop i = by_ s i :: (bytesN s).drop (i + 1) := by
  have hl : i < (bytesN s).length := by rw [bytesN, List.length_map, ← Lib.size_eq]; exact h
  have h2 : i < s.data.toList.length := by rw [← Lib.size_eq]; exact h
  rw [List.drop_eq_getElem_cons hl]
  refine cons_congr ?_ rfl
  rw [by_list, List.getElem?_eq_getElem h2]
  simp [bytesN]
theorem dec_enc (s : ByteArray) (i : Nat) (h : i < s.size) (hb : ¬ bad s i) : (bytesN s).drop i = enc (Utf8.decode s i).1 ++ (bytesN s).drop (i + (Utf8.decode s i).2) := by
  have hle := width_le s i h hb
  have b0 := by_lt s i
  rcases dec_cases s i hb with ⟨c, e⟩ | ⟨c, e⟩ | ⟨c, e⟩ | ⟨c, e⟩ <;> rw [e] at hle ⊢ <;> simp only [] at hle ⊢
  · rw [enc_1 c, bytesN_at s i h]; rfl
  · rw [enc_2 (by omega) (by omega), bytesN_at s i h, bytesN_at s (i + 1) (by omega)]
    exact cons_congr (by omega) (cons_congr (by omega) rfl)
  · rw [enc_3 (by omega) (by omega), bytesN_at s i h, bytesN_at s (i + 1) (by omega), bytesN_at s (i + 1 + 1) (by omega)]
    rw [show i + 1 + 1 = i + 2 from rfl]
    exact cons_congr (by omega) (cons_congr (by omega) (cons_congr (by omega) rfl))
  · rw [enc_4 (by omega), bytesN_at s i h, bytesN_at s (i + 1) (by omega), bytesN_at s (i + 1 + 1) (by omega), bytesN_at s (i + 1 + 1 + 1) (by omega)]
    rw [show i + 1 + 1 = i + 2 from rfl, show i + 2 + 1 = i + 3 from rfl]
    exact cons_congr (by omega) (cons_congr (by omega) (cons_congr (by omega) (cons_congr (by omega) rfl)))
theorem rest_enc (s : ByteArray) : ∀ (n i : Nat) (l : List Nat), s.size - i ≤ n → i ≤ s.size → rest s i = some l → (bytesN s).drop i = l.flatMap enc ∧ ∀ r ∈ l, r < 2097152
  | n, i, l, hn, hi, h => by
    by_cases hlt : i < s.size
    · have hb := rest_good h hlt
      have hw := width_pos s i hlt
      have hle := width_le s i hlt hb
      rw [rest_step s i hlt hb] at h
      obtain ⟨q, hq, rfl⟩ := Option.map_eq_some_iff.1 h
      match n, hn with
      | 0, hn => omega
      | n + 1, hn =>
        have ih := rest_enc s n _ q (by omega) hle hq
        refine ⟨by rw [dec_enc s i hlt hb, ih.1, List.flatMap_cons], fun r hr => ?_⟩
        rcases List.mem_cons.1 hr with rfl | hr
        · exact rune_le s i hb
        · exact ih.2 r hr
    · rw [rest_end s i hlt] at h
      cases h
      refine ⟨?_, fun r hr => by cases hr⟩
      rw [List.drop_of_length_le]
      · rfl
      · rw [bytesN, List.length_map, ← Lib.size_eq]; omega
theorem runes_lt {a b : ByteArray} {x y : List Nat} (ha : runes a = some x) (hb : runes b = some y) : lexLt x y = lexLt (bytesN a) (bytesN b) := by
  have e1 := rest_enc a a.size 0 x (by omega) (Nat.zero_le _) ha
  have e2 := rest_enc b b.size 0 y (by omega) (Nat.zero_le _) hb
  rw [List.drop_zero] at e1 e2
  rw [e1.1, e2.1, lexLt_enc x y e1.2 e2.2]

/-- what the reference holds against each other -/
def keys (a b : ByteArray) : List Nat × List Nat := match runes a, runes b with | some x, some y => (x, y) | _, _ => (bytesN a, bytesN b)
theorem keys_lt (a b : ByteArray) : lexLt (keys a b).1 (keys a b).2 = lexLt (bytesN a) (bytesN b) := by
  unfold keys
  split
  · rename_i h1 h2; exact runes_lt h1 h2
  · rfl
theorem bytesN_inj {a b : ByteArray} (h : bytesN a = bytesN b) : a = b := by
  apply data_ext
  exact (List.map_inj_right (fun x y hxy => UInt8.toNat_inj.1 hxy)).1 h
#print axioms keys_lt
end Go.Proofs.Ythppflfpghhnhaa.Utf
