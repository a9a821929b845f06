/- The walks of name's Hash and its reference's, and of the known question (awake): what they answer. -/
import Derived.Test.YthppflfpghhnhaaGood
namespace Go.Proofs.Ythppflfpghhnhaa
open Go.RowKit Utf

theorem awake_any (w : World) : Calls Try.prog 9 #[] w fun e w' => e = .returned (.bool true) ∧ Below w.heap.size w w' := by
  have h1 := fun w => count_any ⟨#[195, 132, 97, 32, 98]⟩ w (by decide)
  have e1 : countN ⟨#[195, 132, 97, 32, 98]⟩ = 4 := by decide +kernel
  have e2 : (runes ⟨#[195, 132, 97, 32, 98]⟩).isSome = true := by decide +kernel
  rw [e1, e2] at h1
  have h2 := fun w => check_any ⟨#[195, 132, 97, 32, 98]⟩ w (by decide)
  have e3 : checkE ⟨#[195, 132, 97, 32, 98]⟩ = 0 := by decide +kernel
  rw [e3] at h2
  have h3 := fun w => check_any ⟨#[97, 47, 98]⟩ w (by decide)
  have e4 : checkE ⟨#[97, 47, 98]⟩ = 1 := by decide +kernel
  rw [e4] at h3
  have h4 := fun w => check_any ⟨#[255]⟩ w (by decide)
  have e5 : checkE ⟨#[255]⟩ = 5 := by decide +kernel
  rw [e5] at h4
  have H1 := Lib.hid h1
  have H2 := Lib.hid h2
  have H3 := Lib.hid h3
  have H4 := Lib.hid h4
  clear h1 h2 h3 h4 e1 e2 e3 e4 e5
  go_enter Try.func9, Try.ntmps9
  go_wp2_with fail
  refine (H1.out _).mono ?_
  rintro e w1 ⟨rfl, hb1⟩
  go_wp2_with fail
  refine (H2.out _).mono ?_
  rintro e w2 ⟨rfl, hb2⟩
  go_wp2_with fail
  refine (H3.out _).mono ?_
  rintro e w3 ⟨rfl, hb3⟩
  go_wp2_with fail
  refine (H4.out _).mono ?_
  rintro e w4 ⟨rfl, hb4⟩
  go_wp2_with fail
  go_ret
  exact ⟨rfl, ((hb1.trans (hb2.mono hb1.size)).trans (hb3.mono (Nat.le_trans hb1.size hb2.size))).trans (hb4.mono (Nat.le_trans (Nat.le_trans hb1.size hb2.size) hb3.size))⟩

/-- the hash's number behind so many bytes -/
def hashAt (s : ByteArray) : Nat → Int
  | 0 => 2166136261
  | k + 1 => bits .xor .u32 (hashAt s k) ((by_ s k : Int) % 4294967296) * 16777619 % 4294967296
def mixA (x : Int) : Int := bits .xor .u32 x (x / 65536) * 2146121005 % 4294967296
def mixB (x : Int) : Int := bits .xor .u32 x (x / 32768) * 2221713035 % 4294967296
def hashEnd (x : Int) : Int := bits .xor .u32 (mixB (mixA x)) (mixB (mixA x) / 65536)

theorem hashAt_range (s : ByteArray) (k : Nat) : 0 ≤ hashAt s k ∧ hashAt s k < 4294967296 := by
  cases k with
  | zero => simp only [hashAt]; omega
  | succ k => simp only [hashAt]; omega

theorem hash_any (s : ByteArray) (w : World) (hs : s.size ≤ 140737488351232) :
    Calls Try.prog 10 #[.string s] w fun e w' => e = .returned (.int .u32 (hashEnd (hashAt s s.size))) ∧ w = w' := by
  go_enter Try.func10, Try.ntmps10
  go_wp2
  go_loop [3, 4, 7] (fun x _ i => ∃ k : Nat, k ≤ s.size ∧ i = .int .i64 k ∧ x = .int .u32 (hashAt s k)) (fun _ _ i => s.size - (intOf i).toNat)
  case atStart => exact ⟨0, Nat.zero_le _, rfl, rfl⟩
  case round =>
    obtain ⟨k, hk, rfl, rfl⟩ := hrel
    by_cases hlt : k < s.size
    · go_wp2
      go_round
      case rel => exact ⟨k + 1, by omega, by go_num, by simp only [hashAt, by_at s k hlt]⟩
      case measure => simp [intOf]; omega
    · obtain rfl : k = s.size := by omega
      go_wp2
      go_ret
      exact ⟨rfl, rfl⟩

theorem rhash_any (s : ByteArray) (w : World) (hs : s.size ≤ 140737488351232) :
    Calls Try.prog 11 #[.string s] w fun e w' => e = .returned (.int .u32 (hashEnd (hashAt s s.size))) ∧ w = w' := by
  go_enter Try.func11, Try.ntmps11
  go_wp2
  go_loop [3, 4] (fun x i => ∃ k : Nat, k ≤ s.size ∧ i = .int .i64 k ∧ x = .int .u32 (hashAt s k)) (fun _ i => s.size - (intOf i).toNat)
  case atStart => exact ⟨0, Nat.zero_le _, rfl, rfl⟩
  case round =>
    obtain ⟨k, hk, rfl, rfl⟩ := hrel
    by_cases hlt : k < s.size
    · go_wp2
      go_round
      case rel => exact ⟨k + 1, by omega, by go_num, by simp only [hashAt, by_at s k hlt]⟩
      case measure => simp [intOf]; omega
    · obtain rfl : k = s.size := by omega
      have hr := hashAt_range s s.size
      go_wp2
      go_ret
      exact ⟨rfl, rfl⟩
end Go.Proofs.Ythppflfpghhnhaa
