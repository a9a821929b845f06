/- The walk of the reference's Check (of a name): what it answers of any text of at most 2^20 bytes. -/
import Derived.Test.YtbbbdhpihcbmmaaRunes
import Derived.Test.YtbbbdhpihcbmmaaPSmall
namespace Go.Proofs.Ytbbbdhpihcbmmaa
open Go.RowKit Utf

theorem own_ints {w : World} {base : Nat} {e : TypeId} {v : Value} {l : List Nat} (h : w.ownsRow base e 1 v l.length (ints l)) :
    (l = [] ∧ ∃ A c, v = .slice A 0 c) ∨ (0 < l.length ∧ ∃ g cap, v = .slice (some ⟨g, 0, none⟩) l.length cap ∧ base ≤ g ∧ ∀ j (hj : j < l.length), w.cell? ⟨g, j, none⟩ = some (.int .i64 ((l[j]'hj : Nat) : Int))) := by
  rcases Nat.eq_zero_or_pos l.length with h0 | h0
  · left
    refine ⟨List.eq_nil_of_length_eq_zero h0, ?_⟩
    rcases h.2 with ⟨rfl, _⟩ | ⟨g, cap, cur, rfl, _⟩
    · exact ⟨none, 0, rfl⟩
    · rw [h0]; exact ⟨_, _, rfl⟩
  · right
    obtain ⟨g, cap, rfl, hg, _⟩ := h.form h0
    refine ⟨h0, g, cap, rfl, hg, fun j hj => ?_⟩
    have := h.cells (g := g) rfl j (.int .i64 ((l[j]'hj : Nat) : Int)) (by simp [ints, hj])
    have ha : (⟨g, 0, none⟩ : Addr).add j = ⟨g, j, none⟩ := by unfold Addr.add; split <;> simp_all
    rwa [ha] at this

theorem rcheck_any (s : ByteArray) (w : World) (hs : s.size ≤ 1048576) :
    Calls Try.prog 23 #[.string s] w fun e w' => e = .returned (.int .i64 (checkE s)) ∧ Below w.heap.size w w' := by
  have hC := Lib.hid (fun w => runes_any s w hs)
  go_enter Try.func23, Try.ntmps23
  go_wp2_with fail
  refine (hC.out _).mono ?_
  rintro e w1 ⟨hb1, (⟨hn, rfl⟩ | ⟨l, v, hl, rfl, hown⟩)⟩
  · have HV : Hid (checkE s = 5) := by show _ = _; unfold checkE; rw [hn]
    clear hn
    go_wp2_with fail
    go_ret
    exact ⟨by rw [HV.out]; rfl, hb1⟩
  · have hll := rest_length s 0 l (Nat.zero_le _) hl
    rcases own_ints hown with ⟨rfl, A, c, rfl⟩ | ⟨hpos, g, cap, rfl, hg, hcells⟩
    · have HV : Hid (checkE s = 1) := by show _ = _; unfold checkE; rw [hl]; simp
      clear hl hown
      go_wp2_with fail
      go_ret
      exact ⟨by rw [HV.out]; rfl, hb1⟩
    · by_cases h64 : 64 < l.length
      · have HV : Hid (checkE s = 3) := by show _ = _; unfold checkE; rw [hl]; simp only []; rw [if_pos h64]
        clear hl hown hcells
        go_wp2_with fail
        go_ret
        exact ⟨by rw [HV.out]; rfl, hb1⟩
      have hlast : l.length - 1 < l.length := by omega
      have hne : l ≠ [] := fun h => by rw [h] at hpos; cases hpos
      have hhd : l.head? = some (l[0]'hpos) := List.head?_eq_getElem? .. |>.trans (List.getElem?_eq_getElem hpos)
      have hls : l.getLast? = some (l[l.length - 1]'hlast) := List.getLast?_eq_getElem? .. |>.trans (List.getElem?_eq_getElem hlast)
      have c0 := hcells 0 hpos
      have c1 := hcells (l.length - 1) hlast
      have hn0 : ((l.length : Int) == 0) = false := beq_eq_false_iff_ne.2 (by omega)
      by_cases q0 : l[0]'hpos = 32
      · have HV : Hid (checkE s = 1) := by show _ = _; unfold checkE; rw [hl]; simp only []; rw [if_neg h64, if_pos (.inr (.inl (by rw [hhd, q0])))]
        have q0' : (((l[0]'hpos : Nat) : Int) == 32) = true := beq_iff_eq.2 (by omega)
        clear hl hown hcells hne hhd hls q0
        go_wp2_with fail
        go_ret
        exact ⟨by rw [HV.out]; rfl, hb1⟩
      have q0' : (((l[0]'hpos : Nat) : Int) == 32) = false := beq_eq_false_iff_ne.2 (by omega)
      by_cases q1 : l[l.length - 1]'hlast = 32
      · have HV : Hid (checkE s = 1) := by show _ = _; unfold checkE; rw [hl]; simp only []; rw [if_neg h64, if_pos (.inr (.inr (by rw [hls, q1])))]
        have q1' : (((l[l.length - 1]'hlast : Nat) : Int) == 32) = true := beq_iff_eq.2 (by omega)
        clear hl hown hcells hne hhd hls q0 q1
        go_wp2_with fail
        go_ret
        exact ⟨by rw [HV.out]; rfl, hb1⟩
      have q1' : (((l[l.length - 1]'hlast : Nat) : Int) == 32) = false := beq_eq_false_iff_ne.2 (by omega)
      have HV : Hid (checkE s = if l.any rough then 1 else 0) := by
        show _ = _
        unfold checkE; rw [hl]; simp only []; rw [if_neg h64, if_neg]
        rintro (h | h | h)
        · exact hne h
        · rw [hhd] at h; exact q0 (Option.some.inj h)
        · rw [hls] at h; exact q1 (Option.some.inj h)
      clear hl hown hne hhd hls q0 q1
      have HC := Lib.hid hcells
      clear hcells
      go_wp2_with fail
      clear c0 c1 q0' q1'
      go_loop [5] (fun i => ∃ k : Nat, i = .int .i64 k ∧ k ≤ l.length ∧ Hid ((l.drop k).any rough = l.any rough)) (fun i => l.length - (intOf i).toNat)
      case atStart => exact ⟨0, rfl, Nat.zero_le _, rfl⟩
      case round =>
        obtain ⟨k, rfl, hk, HS⟩ := hrel
        by_cases hlt : k < l.length
        · have hc := HC.out k hlt
          have HR : Hid ((rough (l[k]'hlt) || (l.drop (k + 1)).any rough) = l.any rough) := by
            show _ = _
            rw [← HS.out, List.drop_eq_getElem_cons hlt, List.any_cons]
          generalize l[k]'hlt = x at *
          clear HS
          by_cases hro : rough x = true
          · have HE : Hid (l.any rough = true) := by show _ = _; rw [← HR.out, hro]; rfl
            have HO := Lib.hid hro
            clear hro HR
            by_cases d1 : (x : Int) < 32
            · go_wp2_with fail
              go_ret
              exact ⟨by rw [HV.out, HE.out]; rfl, hb1⟩
            · by_cases d2 : (x : Int) = 127
              · have d2' : ((x : Int) == 127) = true := beq_iff_eq.2 d2
                clear d2
                go_wp2_with fail
                go_ret
                exact ⟨by rw [HV.out, HE.out]; rfl, hb1⟩
              · have d2' : ((x : Int) == 127) = false := beq_eq_false_iff_ne.2 d2
                by_cases d3 : (x : Int) = 47
                · have d3' : ((x : Int) == 47) = true := beq_iff_eq.2 d3
                  clear d2 d3
                  go_wp2_with fail
                  go_ret
                  exact ⟨by rw [HV.out, HE.out]; rfl, hb1⟩
                · have d3' : ((x : Int) == 47) = false := beq_eq_false_iff_ne.2 d3
                  have d4' : ((x : Int) == 65533) = true := beq_iff_eq.2 (by
                    have := HO.out
                    simp only [rough, Bool.or_eq_true, decide_eq_true_eq, beq_iff_eq] at this
                    omega)
                  clear d2 d3
                  go_wp2_with fail
                  go_ret
                  exact ⟨by rw [HV.out, HE.out]; rfl, hb1⟩
          · have hro' : rough x = false := by simpa using hro
            have HR2 : Hid ((l.drop (k + 1)).any rough = l.any rough) := by show _ = _; rw [← HR.out, hro']; rfl
            simp only [rough, Bool.or_eq_false_iff, decide_eq_false_iff_not, beq_eq_false_iff_ne] at hro'
            have d1 : ¬ (x : Int) < 32 := by omega
            have d2' : ((x : Int) == 127) = false := beq_eq_false_iff_ne.2 (by omega)
            have d3' : ((x : Int) == 47) = false := beq_eq_false_iff_ne.2 (by omega)
            have d4' : ((x : Int) == 65533) = false := beq_eq_false_iff_ne.2 (by omega)
            clear hro hro' HR
            go_wp2_with fail
            go_round
            case rel => exact ⟨k + 1, by go_num, by omega, HR2⟩
            case measure => simp [intOf]; omega
        · have HE : Hid (l.any rough = false) := by
            show _ = _
            rw [← HS.out, List.drop_of_length_le (by omega)]; rfl
          clear HS
          go_wp2_with fail
          go_ret
          exact ⟨by rw [HV.out, HE.out]; rfl, hb1⟩
end Go.Proofs.Ytbbbdhpihcbmmaa
