/- The walks of name's Less and its reference's: both order by the bytes. -/
import Derived.Test.YthppflfpghhnhaaRefs
import Derived.Test.YthppflfpghhnhaaOrd
import Derived.Deep.QuietTactic
import Derived.BigQuiet
namespace Go.Proofs.Ythppflfpghhnhaa
open Go.RowKit Utf

theorem below_drewN {B : Nat} {a w : World} (h : Below B a w) (n : Nat) : Below B a (w.drewN n) := h.trans ⟨rfl, rfl, rfl, Nat.le_refl _, fun _ _ => rfl⟩
theorem below_then {w w1 w2 : World} (h : Below w.heap.size w w1) (k : Below w1.heap.size w1 w2) : Below w.heap.size w w2 := h.trans (k.mono h.size)
theorem own_below {w w1 : World} {base : Nat} {e : TypeId} {size n : Nat} {v : Value} {xs : List Value} (h : w.ownsRow base e size v n xs) (hb : Below w.heap.size w w1) : w1.ownsRow base e size v n xs :=
  h.kept (row := none) ⟨hb.os, hb.tape, hb.output, hb.size, fun i hi _ => hb.block i hi⟩ (by cases v.ownBlock <;> simp)
theorem bytesN_length (s : ByteArray) : (bytesN s).length = s.size := by rw [bytesN, List.length_map, ← Lib.size_eq]
theorem take_bytesN (s : ByteArray) (k : Nat) (h : k < s.size) : (bytesN s).take (k + 1) = (bytesN s).take k ++ [by_ s k] := by
  have hl : k < (bytesN s).length := by rw [bytesN_length]; exact h
  rw [List.take_succ_eq_append_getElem hl]
  congr 2
  have := bytesN_at s k h
  rw [List.drop_eq_getElem_cons hl] at this
  exact (List.cons.inj this).1

theorem less_any (a b : ByteArray) (w : World) : Calls Try.prog 7 #[.string a, .string b] w fun e w' => e = .returned (.bool (lexLt (bytesN a) (bytesN b))) ∧ w = w' := by
  have HV : Hid (lexLt (bytesN a) (bytesN b) = Op.bytesLess a.toList b.toList) := (less_eq a b).symm
  go_enter Try.func7, Try.ntmps7
  go_wp2_with fail
  go_ret
  exact ⟨by rw [HV.out]; rfl, rfl⟩

set_option maxRecDepth 100000 in
set_option maxHeartbeats 4000000 in
theorem rless_any (a b : ByteArray) (w : World) (ha : a.size ≤ 1048576) (hb : b.size ≤ 1048576) :
    Calls Try.prog 8 #[.string a, .string b] w fun e w' => e = .returned (.bool (lexLt (keys a b).1 (keys a b).2)) ∧ Below w.heap.size w w' := by
  have hCa := Lib.hid (fun w => runes_any a w ha)
  have hCb := Lib.hid (fun w => runes_any b w hb)
  go_enter Try.func8, Try.ntmps8
  go_wp2_with fail
  refine (hCa.out _).mono ?_
  rintro e w1 ⟨hb1, (⟨hna, rfl⟩ | ⟨X, VL, hla, rfl, hownX⟩)⟩
  · go_wp2_with fail
    refine (hCb.out _).mono ?_
    rintro e w2 ⟨hb2, hor⟩
    have HB2 : Below w.heap.size w w2 := below_then hb1 hb2
    obtain ⟨vb, okb, rfl⟩ : ∃ v ok, e = .returned (.tuple #[v, .bool ok]) := by
      rcases hor with ⟨_, rfl⟩ | ⟨l, v, _, rfl, _⟩
      · exact ⟨_, _, rfl⟩
      · exact ⟨_, _, rfl⟩
    clear hor hna hb1 hb2
    have HV : Hid (lexLt (keys a b).1 (keys a b).2 = lexLt (bytesN a) (bytesN b)) := keys_lt a b
    go_wp2_with fail
    go_loopw [5, 9] (fun v i wr => ∃ k : Nat, i = .int .i64 k ∧ k ≤ a.size ∧ wr.ownsRow w2.heap.size 3 1 v k (ints ((bytesN a).take k)) ∧ Below w2.heap.size w2 wr ∧
        wr.ownsRow w2.heap.size 3 1 (.slice (some ⟨w2.heap.size + 1, 0, none⟩) 0 0) 0 (ints []) ∧ Hid (∀ g, v.ownBlock = some g → g ≠ w2.heap.size + 1)) (fun _ i _ => a.size - (intOf i).toNat)
    case atStart =>
      refine ⟨0, rfl, Nat.zero_le _, ?_, ((Below.refl _ _).alloc (Nat.le_refl _) _).alloc (by simp) _, ?_, ?_⟩
      · exact (World.ownsRow_made w2 _ 0 (Nat.le_refl _) (by unfold maxLen; omega) rfl).alloc _
      · have := World.ownsRow_made (e := 3) (size := 1) (base := w2.heap.size) (w2.alloc (.cells #[] 3)) #[] 0 (by simp) (by unfold maxLen; omega) rfl
        have h2 : ((w2.alloc (.cells #[] 3)).alloc (.cells #[] 3)).ownsRow w2.heap.size 3 1 (.slice (some ⟨w2.heap.size + 1, 0, none⟩) 0 0) 0 [] := by simpa using this
        exact h2
      · intro g hg
        simp only [Value.ownBlock, Option.some.injEq] at hg
        omega
    case round =>
      obtain ⟨k, rfl, hk, hown, hbel, hK, HD⟩ := hrel
      by_cases hlt : k < a.size
      · have hbt := by_at a k hlt
        have hbl := by_lt a k
        have e1 : ((a[k]'hlt).toNat : Int) < 256 := by omega
        have HB : Hid (ints ((bytesN a).take k) ++ [.int .i64 ((a[k]'hlt).toNat : Int)] = ints ((bytesN a).take (k + 1))) := by
          show _ = _
          rw [take_bytesN a k hlt, hbt]; simp [ints]
        have hs2 := hK.lt (w2.heap.size + 1) rfl
        clear hbt hbl
        go_wp2_with (at_builtin; refine Own.append_one hown hbel Try.underlying30 infoInt rfl (by decide) [.int .i64 ((a[k]'hlt).toNat : Int)] rfl (fun u hu => by simp at hu; subst hu; rfl) (Nat.le_refl _) hbel.size (by omega) (by omega) rfl rfl rfl rfl ?_; intro v1 w3 hown3 hbel3 hg3 hat3 _)
        go_roundw
        case rel =>
          refine ⟨k + 1, by go_num, by omega, by rw [← HB.out]; exact hown3, hbel3, ?_, ?_⟩
          · exact hK.kept hg3 (.inr (fun h => HD.out _ h.symm rfl))
          · intro g hg
            rcases hat3 with h | h
            · exact HD.out g (by rw [← h]; exact hg)
            · rw [h] at hg; cases hg; omega
        case measure => simp [intOf]; omega
      · obtain rfl : k = a.size := by omega
        have HA : Hid (ints ((bytesN a).take a.size) = ints (bytesN a)) := by show _ = _; rw [List.take_of_length_le (by rw [bytesN_length]; exact Nat.le_refl _)]
        rw [HA.out] at hown
        obtain ⟨wL, rfl⟩ : ∃ wo : World, wo = wr := ⟨_, rfl⟩
        have hbelL := hbel
        clear hbel
        go_wp2_with fail
        go_loopw [7, 10] (fun v i wr => ∃ k : Nat, i = .int .i64 k ∧ k ≤ b.size ∧ wr.ownsRow w2.heap.size 3 1 v k (ints ((bytesN b).take k)) ∧ Below w2.heap.size w2 wr ∧
            wr.ownsRow w2.heap.size 3 1 u5 a.size (ints (bytesN a)) ∧ Hid (∀ g, u5.ownBlock = some g → v.ownBlock ≠ some g)) (fun _ i _ => b.size - (intOf i).toNat)
        case atStart => exact ⟨0, rfl, Nat.zero_le _, hK, hbelL, hown, fun g hg h => HD.out g hg (by simp only [Value.ownBlock, Option.some.injEq] at h; exact h.symm)⟩
        case round =>
          obtain ⟨k, rfl, hk2, hownK, hbel, hownL, HE⟩ := hrel
          by_cases hlt2 : k < b.size
          · have hbt := by_at b k hlt2
            have hbl := by_lt b k
            have e1 : ((b[k]'hlt2).toNat : Int) < 256 := by omega
            have HB : Hid (ints ((bytesN b).take k) ++ [.int .i64 ((b[k]'hlt2).toNat : Int)] = ints ((bytesN b).take (k + 1))) := by
              show _ = _
              rw [take_bytesN b k hlt2, hbt]; simp [ints]
            clear hbt hbl
            go_wp2_with (at_builtin; refine Own.append_one hownK hbel Try.underlying30 infoInt rfl (by decide) [.int .i64 ((b[k]'hlt2).toNat : Int)] rfl (fun u hu => by simp at hu; subst hu; rfl) (Nat.le_refl _) hbel.size (by omega) (by omega) rfl rfl rfl rfl ?_; intro v1 w3 hown3 hbel3 hg3 hat3 _)
            go_roundw
            case rel =>
              refine ⟨k + 1, by go_num, by omega, by rw [← HB.out]; exact hown3, hbel3, ?_, ?_⟩
              · refine hownL.kept hg3 ?_
                cases hb : u5.ownBlock with
                | none => exact .inl rfl
                | some g => exact .inr (fun h => HE.out g hb h.symm)
              · intro g hg h2
                rcases hat3 with h | h
                · exact HE.out g hg (by rw [← h]; exact h2)
                · have := (hownL.lt g hg).2
                  rw [h] at h2; cases h2; omega
            case measure => simp [intOf]; omega
          · obtain rfl : k = b.size := by omega
            have HA2 : Hid (ints ((bytesN b).take b.size) = ints (bytesN b)) := by show _ = _; rw [List.take_of_length_le (by rw [bytesN_length]; exact Nat.le_refl _)]
            rw [HA2.out, ← bytesN_length b] at hownK
            rw [← bytesN_length a] at hownL
            have hbelF : Below w.heap.size w wr := below_then HB2 hbel
            clear HE HD hown hK hbelL hbel
            obtain ⟨wK, rfl⟩ : ∃ wo : World, wo = wr := ⟨_, rfl⟩
            have hXl : (bytesN a).length ≤ 1048576 := by rw [bytesN_length]; exact ha
            generalize bytesN a = X at *
            generalize bytesN b = Y at *
            have hcx : Hid (∀ j (hj : j < X.length), ∃ g cap, u5 = .slice (some ⟨g, 0, none⟩) X.length cap ∧ wK.cell? ⟨g, j, none⟩ = some (.int .i64 ((X[j]'hj : Nat) : Int))) := fun j hj => by
              rcases own_ints hownL with ⟨h, _⟩ | ⟨_, g, cap, hv, _, hc⟩
              · exact absurd hj (by rw [h]; exact Nat.not_lt_zero _)
              · exact ⟨g, cap, hv, hc j hj⟩
            have hcy : Hid (∀ j (hj : j < Y.length), ∃ g cap, u7 = .slice (some ⟨g, 0, none⟩) Y.length cap ∧ wK.cell? ⟨g, j, none⟩ = some (.int .i64 ((Y[j]'hj : Nat) : Int))) := fun j hj => by
              rcases own_ints hownK with ⟨h, _⟩ | ⟨_, g, cap, hv, _, hc⟩
              · exact absurd hj (by rw [h]; exact Nat.not_lt_zero _)
              · exact ⟨g, cap, hv, hc j hj⟩
            obtain ⟨AL, cL, rfl⟩ : ∃ A c, u5 = .slice A X.length c := by
              rcases own_ints hownL with ⟨h, A, c, hv⟩ | ⟨_, g, cap, hv, _⟩
              · exact ⟨A, c, by rw [hv, h]; rfl⟩
              · exact ⟨_, cap, hv⟩
            obtain ⟨AK, cK, rfl⟩ : ∃ A c, u7 = .slice A Y.length c := by
              rcases own_ints hownK with ⟨h, A, c, hv⟩ | ⟨_, g, cap, hv, _⟩
              · exact ⟨A, c, by rw [hv, h]; rfl⟩
              · exact ⟨_, cap, hv⟩
            clear hownL hownK
            go_wp2_with fail
            go_loopw [11] (fun i wr => ∃ k : Nat, i = .int .i64 k ∧ k ≤ X.length ∧ k ≤ Y.length ∧ Hid (∃ n, wr = wK.drewN n) ∧ Hid (lexLt (X.drop k) (Y.drop k) = lexLt (X) (Y))) (fun i _ => X.length - (intOf i).toNat)
            case atStart => exact ⟨0, rfl, Nat.zero_le _, Nat.zero_le _, ⟨0, rfl⟩, rfl⟩
            case round =>
              obtain ⟨k, rfl, hkx, hky, HW, HS⟩ := hrel
              obtain ⟨nd, rfl⟩ := HW.out
              by_cases hx : k < X.length
              · by_cases hy : k < Y.length
                · obtain ⟨gx, cpx, hvx, hcellx⟩ := hcx.out k hx
                  obtain ⟨gy, cpy, hvy, hcelly⟩ := hcy.out k hy
                  cases hvx
                  cases hvy
                  have HD : Hid (lexLt (X.drop k) (Y.drop k) = if (X[k]'hx) = (Y[k]'hy) then lexLt (X.drop (k + 1)) (Y.drop (k + 1)) else decide ((X[k]'hx) < (Y[k]'hy))) := by
                    show _ = _
                    rw [List.drop_eq_getElem_cons hx, List.drop_eq_getElem_cons hy]; rfl
                  have c1 : (wK.drewN nd).cell? ⟨gx, k, none⟩ = some (.int .i64 ((X[k]'hx : Nat) : Int)) := hcellx
                  have c2 : (wK.drewN nd).cell? ⟨gy, k, none⟩ = some (.int .i64 ((Y[k]'hy : Nat) : Int)) := hcelly
                  have i0 : (0 : Int) ≤ (k : Int) := by omega
                  have i1 : (k : Int) < (X.length : Int) := by omega
                  have i2 : (k : Int) < (Y.length : Int) := by omega
                  generalize X[k]'hx = x at *
                  generalize Y[k]'hy = y at *
                  by_cases hxy : x = y
                  · subst hxy
                    have HS2 : Hid (lexLt (X.drop (k + 1)) (Y.drop (k + 1)) = lexLt (X) (Y)) := by show _ = _; rw [← HS.out, HD.out, if_pos rfl]
                    clear HD HS
                    go_wp2_with fail
                    go_quiet (fail)
                    go_wp2_with fail
                    go_roundw
                    case rel => exact ⟨k + 1, by go_num, by omega, by omega, ⟨_, rfl⟩, HS2⟩
                    case measure => simp [intOf]; omega
                  · have HS2 : Hid (lexLt (X) (Y) = decide (x < y)) := by show _ = _; rw [← HS.out, HD.out, if_neg hxy]
                    have hne : ((x : Int) != (y : Int)) = true := by rw [bne_iff_ne]; omega
                    clear HD HS hxy
                    go_wp2_with fail
                    go_quiet (fail)
                    go_wp2_with fail
                    go_quiet (fail)
                    go_wp2_with fail
                    go_ret
                    exact ⟨by rw [HV.out, HS2.out]; rfl, below_drewN (below_drewN (below_drewN hbelF _) _) _⟩
                · have HS2 : Hid (lexLt (X) (Y) = decide (X.length < Y.length)) := by
                    show _ = _
                    rw [← HS.out, List.drop_of_length_le (show Y.length ≤ k by omega)]
                    rw [decide_eq_false (by omega)]
                    cases X.drop k <;> rfl
                  clear HS
                  go_wp2_with fail
                  go_ret
                  exact ⟨by rw [HV.out, HS2.out]; rfl, below_drewN hbelF _⟩
              · have HS2 : Hid (lexLt (X) (Y) = decide (X.length < Y.length)) := by
                  show _ = _
                  rw [← HS.out, List.drop_of_length_le (show X.length ≤ k by omega)]
                  by_cases h : k < Y.length
                  · rw [List.drop_eq_getElem_cons h, decide_eq_true (by omega)]; rfl
                  · rw [List.drop_of_length_le (show Y.length ≤ k by omega), decide_eq_false (by omega)]; rfl
                clear HS
                go_wp2_with fail
                go_ret
                exact ⟨by rw [HV.out, HS2.out]; rfl, below_drewN hbelF _⟩
  · go_wp2_with fail
    refine (hCb.out _).mono ?_
    rintro e w2 ⟨hb2, (⟨hnb, rfl⟩ | ⟨Y, VK, hlb, rfl, hownY⟩)⟩
    · have HB2 : Below w.heap.size w w2 := below_then hb1 hb2
      clear hnb hb1 hb2 hownX hla
      have HV : Hid (lexLt (keys a b).1 (keys a b).2 = lexLt (bytesN a) (bytesN b)) := keys_lt a b
      go_wp2_with fail
      go_loopw [5, 9] (fun v i wr => ∃ k : Nat, i = .int .i64 k ∧ k ≤ a.size ∧ wr.ownsRow w2.heap.size 3 1 v k (ints ((bytesN a).take k)) ∧ Below w2.heap.size w2 wr ∧
          wr.ownsRow w2.heap.size 3 1 (.slice (some ⟨w2.heap.size + 1, 0, none⟩) 0 0) 0 (ints []) ∧ Hid (∀ g, v.ownBlock = some g → g ≠ w2.heap.size + 1)) (fun _ i _ => a.size - (intOf i).toNat)
      case atStart =>
        refine ⟨0, rfl, Nat.zero_le _, ?_, ((Below.refl _ _).alloc (Nat.le_refl _) _).alloc (by simp) _, ?_, ?_⟩
        · exact (World.ownsRow_made w2 _ 0 (Nat.le_refl _) (by unfold maxLen; omega) rfl).alloc _
        · have := World.ownsRow_made (e := 3) (size := 1) (base := w2.heap.size) (w2.alloc (.cells #[] 3)) #[] 0 (by simp) (by unfold maxLen; omega) rfl
          have h2 : ((w2.alloc (.cells #[] 3)).alloc (.cells #[] 3)).ownsRow w2.heap.size 3 1 (.slice (some ⟨w2.heap.size + 1, 0, none⟩) 0 0) 0 [] := by simpa using this
          exact h2
        · intro g hg
          simp only [Value.ownBlock, Option.some.injEq] at hg
          omega
      case round =>
        obtain ⟨k, rfl, hk, hown, hbel, hK, HD⟩ := hrel
        by_cases hlt : k < a.size
        · have hbt := by_at a k hlt
          have hbl := by_lt a k
          have e1 : ((a[k]'hlt).toNat : Int) < 256 := by omega
          have HB : Hid (ints ((bytesN a).take k) ++ [.int .i64 ((a[k]'hlt).toNat : Int)] = ints ((bytesN a).take (k + 1))) := by
            show _ = _
            rw [take_bytesN a k hlt, hbt]; simp [ints]
          have hs2 := hK.lt (w2.heap.size + 1) rfl
          clear hbt hbl
          go_wp2_with (at_builtin; refine Own.append_one hown hbel Try.underlying30 infoInt rfl (by decide) [.int .i64 ((a[k]'hlt).toNat : Int)] rfl (fun u hu => by simp at hu; subst hu; rfl) (Nat.le_refl _) hbel.size (by omega) (by omega) rfl rfl rfl rfl ?_; intro v1 w3 hown3 hbel3 hg3 hat3 _)
          go_roundw
          case rel =>
            refine ⟨k + 1, by go_num, by omega, by rw [← HB.out]; exact hown3, hbel3, ?_, ?_⟩
            · exact hK.kept hg3 (.inr (fun h => HD.out _ h.symm rfl))
            · intro g hg
              rcases hat3 with h | h
              · exact HD.out g (by rw [← h]; exact hg)
              · rw [h] at hg; cases hg; omega
          case measure => simp [intOf]; omega
        · obtain rfl : k = a.size := by omega
          have HA : Hid (ints ((bytesN a).take a.size) = ints (bytesN a)) := by show _ = _; rw [List.take_of_length_le (by rw [bytesN_length]; exact Nat.le_refl _)]
          rw [HA.out] at hown
          obtain ⟨wL, rfl⟩ : ∃ wo : World, wo = wr := ⟨_, rfl⟩
          have hbelL := hbel
          clear hbel
          go_wp2_with fail
          go_loopw [7, 10] (fun v i wr => ∃ k : Nat, i = .int .i64 k ∧ k ≤ b.size ∧ wr.ownsRow w2.heap.size 3 1 v k (ints ((bytesN b).take k)) ∧ Below w2.heap.size w2 wr ∧
              wr.ownsRow w2.heap.size 3 1 u5 a.size (ints (bytesN a)) ∧ Hid (∀ g, u5.ownBlock = some g → v.ownBlock ≠ some g)) (fun _ i _ => b.size - (intOf i).toNat)
          case atStart => exact ⟨0, rfl, Nat.zero_le _, hK, hbelL, hown, fun g hg h => HD.out g hg (by simp only [Value.ownBlock, Option.some.injEq] at h; exact h.symm)⟩
          case round =>
            obtain ⟨k, rfl, hk2, hownK, hbel, hownL, HE⟩ := hrel
            by_cases hlt2 : k < b.size
            · have hbt := by_at b k hlt2
              have hbl := by_lt b k
              have e1 : ((b[k]'hlt2).toNat : Int) < 256 := by omega
              have HB : Hid (ints ((bytesN b).take k) ++ [.int .i64 ((b[k]'hlt2).toNat : Int)] = ints ((bytesN b).take (k + 1))) := by
                show _ = _
                rw [take_bytesN b k hlt2, hbt]; simp [ints]
              clear hbt hbl
              go_wp2_with (at_builtin; refine Own.append_one hownK hbel Try.underlying30 infoInt rfl (by decide) [.int .i64 ((b[k]'hlt2).toNat : Int)] rfl (fun u hu => by simp at hu; subst hu; rfl) (Nat.le_refl _) hbel.size (by omega) (by omega) rfl rfl rfl rfl ?_; intro v1 w3 hown3 hbel3 hg3 hat3 _)
              go_roundw
              case rel =>
                refine ⟨k + 1, by go_num, by omega, by rw [← HB.out]; exact hown3, hbel3, ?_, ?_⟩
                · refine hownL.kept hg3 ?_
                  cases hb : u5.ownBlock with
                  | none => exact .inl rfl
                  | some g => exact .inr (fun h => HE.out g hb h.symm)
                · intro g hg h2
                  rcases hat3 with h | h
                  · exact HE.out g hg (by rw [← h]; exact h2)
                  · have := (hownL.lt g hg).2
                    rw [h] at h2; cases h2; omega
              case measure => simp [intOf]; omega
            · obtain rfl : k = b.size := by omega
              have HA2 : Hid (ints ((bytesN b).take b.size) = ints (bytesN b)) := by show _ = _; rw [List.take_of_length_le (by rw [bytesN_length]; exact Nat.le_refl _)]
              rw [HA2.out, ← bytesN_length b] at hownK
              rw [← bytesN_length a] at hownL
              have hbelF : Below w.heap.size w wr := below_then HB2 hbel
              clear HE HD hown hK hbelL hbel
              obtain ⟨wK, rfl⟩ : ∃ wo : World, wo = wr := ⟨_, rfl⟩
              have hXl : (bytesN a).length ≤ 1048576 := by rw [bytesN_length]; exact ha
              generalize bytesN a = X' at *
              generalize bytesN b = Y at *
              have hcx : Hid (∀ j (hj : j < X'.length), ∃ g cap, u5 = .slice (some ⟨g, 0, none⟩) X'.length cap ∧ wK.cell? ⟨g, j, none⟩ = some (.int .i64 ((X'[j]'hj : Nat) : Int))) := fun j hj => by
                rcases own_ints hownL with ⟨h, _⟩ | ⟨_, g, cap, hv, _, hc⟩
                · exact absurd hj (by rw [h]; exact Nat.not_lt_zero _)
                · exact ⟨g, cap, hv, hc j hj⟩
              have hcy : Hid (∀ j (hj : j < Y.length), ∃ g cap, u7 = .slice (some ⟨g, 0, none⟩) Y.length cap ∧ wK.cell? ⟨g, j, none⟩ = some (.int .i64 ((Y[j]'hj : Nat) : Int))) := fun j hj => by
                rcases own_ints hownK with ⟨h, _⟩ | ⟨_, g, cap, hv, _, hc⟩
                · exact absurd hj (by rw [h]; exact Nat.not_lt_zero _)
                · exact ⟨g, cap, hv, hc j hj⟩
              obtain ⟨AL, cL, rfl⟩ : ∃ A c, u5 = .slice A X'.length c := by
                rcases own_ints hownL with ⟨h, A, c, hv⟩ | ⟨_, g, cap, hv, _⟩
                · exact ⟨A, c, by rw [hv, h]; rfl⟩
                · exact ⟨_, cap, hv⟩
              obtain ⟨AK, cK, rfl⟩ : ∃ A c, u7 = .slice A Y.length c := by
                rcases own_ints hownK with ⟨h, A, c, hv⟩ | ⟨_, g, cap, hv, _⟩
                · exact ⟨A, c, by rw [hv, h]; rfl⟩
                · exact ⟨_, cap, hv⟩
              clear hownL hownK
              go_wp2_with fail
              go_loopw [11] (fun i wr => ∃ k : Nat, i = .int .i64 k ∧ k ≤ X'.length ∧ k ≤ Y.length ∧ Hid (∃ n, wr = wK.drewN n) ∧ Hid (lexLt (X'.drop k) (Y.drop k) = lexLt (X') (Y))) (fun i _ => X'.length - (intOf i).toNat)
              case atStart => exact ⟨0, rfl, Nat.zero_le _, Nat.zero_le _, ⟨0, rfl⟩, rfl⟩
              case round =>
                obtain ⟨k, rfl, hkx, hky, HW, HS⟩ := hrel
                obtain ⟨nd, rfl⟩ := HW.out
                by_cases hx : k < X'.length
                · by_cases hy : k < Y.length
                  · obtain ⟨gx, cpx, hvx, hcellx⟩ := hcx.out k hx
                    obtain ⟨gy, cpy, hvy, hcelly⟩ := hcy.out k hy
                    cases hvx
                    cases hvy
                    have HD : Hid (lexLt (X'.drop k) (Y.drop k) = if (X'[k]'hx) = (Y[k]'hy) then lexLt (X'.drop (k + 1)) (Y.drop (k + 1)) else decide ((X'[k]'hx) < (Y[k]'hy))) := by
                      show _ = _
                      rw [List.drop_eq_getElem_cons hx, List.drop_eq_getElem_cons hy]; rfl
                    have c1 : (wK.drewN nd).cell? ⟨gx, k, none⟩ = some (.int .i64 ((X'[k]'hx : Nat) : Int)) := hcellx
                    have c2 : (wK.drewN nd).cell? ⟨gy, k, none⟩ = some (.int .i64 ((Y[k]'hy : Nat) : Int)) := hcelly
                    have i0 : (0 : Int) ≤ (k : Int) := by omega
                    have i1 : (k : Int) < (X'.length : Int) := by omega
                    have i2 : (k : Int) < (Y.length : Int) := by omega
                    generalize X'[k]'hx = x at *
                    generalize Y[k]'hy = y at *
                    by_cases hxy : x = y
                    · subst hxy
                      have HS2 : Hid (lexLt (X'.drop (k + 1)) (Y.drop (k + 1)) = lexLt (X') (Y)) := by show _ = _; rw [← HS.out, HD.out, if_pos rfl]
                      clear HD HS
                      go_wp2_with fail
                      go_quiet (fail)
                      go_wp2_with fail
                      go_roundw
                      case rel => exact ⟨k + 1, by go_num, by omega, by omega, ⟨_, rfl⟩, HS2⟩
                      case measure => simp [intOf]; omega
                    · have HS2 : Hid (lexLt (X') (Y) = decide (x < y)) := by show _ = _; rw [← HS.out, HD.out, if_neg hxy]
                      have hne : ((x : Int) != (y : Int)) = true := by rw [bne_iff_ne]; omega
                      clear HD HS hxy
                      go_wp2_with fail
                      go_quiet (fail)
                      go_wp2_with fail
                      go_quiet (fail)
                      go_wp2_with fail
                      go_ret
                      exact ⟨by rw [HV.out, HS2.out]; rfl, below_drewN (below_drewN (below_drewN hbelF _) _) _⟩
                  · have HS2 : Hid (lexLt (X') (Y) = decide (X'.length < Y.length)) := by
                      show _ = _
                      rw [← HS.out, List.drop_of_length_le (show Y.length ≤ k by omega)]
                      rw [decide_eq_false (by omega)]
                      cases X'.drop k <;> rfl
                    clear HS
                    go_wp2_with fail
                    go_ret
                    exact ⟨by rw [HV.out, HS2.out]; rfl, below_drewN hbelF _⟩
                · have HS2 : Hid (lexLt (X') (Y) = decide (X'.length < Y.length)) := by
                    show _ = _
                    rw [← HS.out, List.drop_of_length_le (show X'.length ≤ k by omega)]
                    by_cases h : k < Y.length
                    · rw [List.drop_eq_getElem_cons h, decide_eq_true (by omega)]; rfl
                    · rw [List.drop_of_length_le (show Y.length ≤ k by omega), decide_eq_false (by omega)]; rfl
                  clear HS
                  go_wp2_with fail
                  go_ret
                  exact ⟨by rw [HV.out, HS2.out]; rfl, below_drewN hbelF _⟩
    · have hownX2 := own_below hownX hb2
      have hbelF : Below w.heap.size w w2 := below_then hb1 hb2
      have HV : Hid (lexLt (keys a b).1 (keys a b).2 = lexLt X Y) := by
        show _ = _
        unfold keys; rw [hla, hlb]
      have hlx := rest_length a 0 X (Nat.zero_le _) hla
      have hXl : X.length ≤ 1048576 := by omega
      have hly := rest_length b 0 Y (Nat.zero_le _) hlb
      clear hownX hla hlb hb1 hb2
      have hcx : Hid (∀ j (hj : j < X.length), ∃ g cap, VL = .slice (some ⟨g, 0, none⟩) X.length cap ∧ w2.cell? ⟨g, j, none⟩ = some (.int .i64 ((X[j]'hj : Nat) : Int))) := fun j hj => by
        rcases own_ints hownX2 with ⟨h, _⟩ | ⟨_, g, cap, hv, _, hc⟩
        · exact absurd hj (by rw [h]; exact Nat.not_lt_zero _)
        · exact ⟨g, cap, hv, hc j hj⟩
      have hcy : Hid (∀ j (hj : j < Y.length), ∃ g cap, VK = .slice (some ⟨g, 0, none⟩) Y.length cap ∧ w2.cell? ⟨g, j, none⟩ = some (.int .i64 ((Y[j]'hj : Nat) : Int))) := fun j hj => by
        rcases own_ints hownY with ⟨h, _⟩ | ⟨_, g, cap, hv, _, hc⟩
        · exact absurd hj (by rw [h]; exact Nat.not_lt_zero _)
        · exact ⟨g, cap, hv, hc j hj⟩
      obtain ⟨AL, cL, rfl⟩ : ∃ A c, VL = .slice A X.length c := by
        rcases own_ints hownX2 with ⟨h, A, c, hv⟩ | ⟨_, g, cap, hv, _⟩
        · exact ⟨A, c, by rw [hv, h]; rfl⟩
        · exact ⟨_, cap, hv⟩
      obtain ⟨AK, cK, rfl⟩ : ∃ A c, VK = .slice A Y.length c := by
        rcases own_ints hownY with ⟨h, A, c, hv⟩ | ⟨_, g, cap, hv, _⟩
        · exact ⟨A, c, by rw [hv, h]; rfl⟩
        · exact ⟨_, cap, hv⟩
      clear hownX2 hownY
      go_wp2_with fail
      go_loopw [11] (fun i wr => ∃ k : Nat, i = .int .i64 k ∧ k ≤ X.length ∧ k ≤ Y.length ∧ Hid (∃ n, wr = w2.drewN n) ∧ Hid (lexLt (X.drop k) (Y.drop k) = lexLt (X) (Y))) (fun i _ => X.length - (intOf i).toNat)
      case atStart => exact ⟨0, rfl, Nat.zero_le _, Nat.zero_le _, ⟨0, rfl⟩, rfl⟩
      case round =>
        obtain ⟨k, rfl, hkx, hky, HW, HS⟩ := hrel
        obtain ⟨nd, rfl⟩ := HW.out
        by_cases hx : k < X.length
        · by_cases hy : k < Y.length
          · obtain ⟨gx, cpx, hvx, hcellx⟩ := hcx.out k hx
            obtain ⟨gy, cpy, hvy, hcelly⟩ := hcy.out k hy
            cases hvx
            cases hvy
            have HD : Hid (lexLt (X.drop k) (Y.drop k) = if (X[k]'hx) = (Y[k]'hy) then lexLt (X.drop (k + 1)) (Y.drop (k + 1)) else decide ((X[k]'hx) < (Y[k]'hy))) := by
              show _ = _
              rw [List.drop_eq_getElem_cons hx, List.drop_eq_getElem_cons hy]; rfl
            have c1 : (w2.drewN nd).cell? ⟨gx, k, none⟩ = some (.int .i64 ((X[k]'hx : Nat) : Int)) := hcellx
            have c2 : (w2.drewN nd).cell? ⟨gy, k, none⟩ = some (.int .i64 ((Y[k]'hy : Nat) : Int)) := hcelly
            have i0 : (0 : Int) ≤ (k : Int) := by omega
            have i1 : (k : Int) < (X.length : Int) := by omega
            have i2 : (k : Int) < (Y.length : Int) := by omega
            generalize X[k]'hx = x at *
            generalize Y[k]'hy = y at *
            by_cases hxy : x = y
            · subst hxy
              have HS2 : Hid (lexLt (X.drop (k + 1)) (Y.drop (k + 1)) = lexLt (X) (Y)) := by show _ = _; rw [← HS.out, HD.out, if_pos rfl]
              clear HD HS
              go_wp2_with fail
              go_quiet (fail)
              go_wp2_with fail
              go_roundw
              case rel => exact ⟨k + 1, by go_num, by omega, by omega, ⟨_, rfl⟩, HS2⟩
              case measure => simp [intOf]; omega
            · have HS2 : Hid (lexLt (X) (Y) = decide (x < y)) := by show _ = _; rw [← HS.out, HD.out, if_neg hxy]
              have hne : ((x : Int) != (y : Int)) = true := by rw [bne_iff_ne]; omega
              clear HD HS hxy
              go_wp2_with fail
              go_quiet (fail)
              go_wp2_with fail
              go_quiet (fail)
              go_wp2_with fail
              go_ret
              exact ⟨by rw [HV.out, HS2.out]; rfl, below_drewN (below_drewN (below_drewN hbelF _) _) _⟩
          · have HS2 : Hid (lexLt (X) (Y) = decide (X.length < Y.length)) := by
              show _ = _
              rw [← HS.out, List.drop_of_length_le (show Y.length ≤ k by omega)]
              rw [decide_eq_false (by omega)]
              cases X.drop k <;> rfl
            clear HS
            go_wp2_with fail
            go_ret
            exact ⟨by rw [HV.out, HS2.out]; rfl, below_drewN hbelF _⟩
        · have HS2 : Hid (lexLt (X) (Y) = decide (X.length < Y.length)) := by
            show _ = _
            rw [← HS.out, List.drop_of_length_le (show X.length ≤ k by omega)]
            by_cases h : k < Y.length
            · rw [List.drop_eq_getElem_cons h, decide_eq_true (by omega)]; rfl
            · rw [List.drop_of_length_le (show Y.length ≤ k by omega), decide_eq_false (by omega)]; rfl
          clear HS
          go_wp2_with fail
          go_ret
          exact ⟨by rw [HV.out, HS2.out]; rfl, below_drewN hbelF _⟩
end Go.Proofs.Ythppflfpghhnhaa
