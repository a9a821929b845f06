/- spans of a history of one call, begun and ended. -/
import Derived.Test.YtbbbdhpihcbmmaaGHist
namespace Go.Proofs.Ytbbbdhpihcbmmaa
open Go.RowKit Own
open Go.Maps (Keyed)

def spanC (c : CallIn) (dv : Value) (fr to : Int) (known : Bool) (r : RepIn) (rv : Value) : Array Value := #[.int .i64 c.k, .string c.s, .int .i64 c.a, dv, .int .i64 c.n, .int .i64 fr, .int .i64 to, .bool known, .int .i64 r.code, .int .i64 r.size, rv]
theorem infoSpan : (Try.prog.info? 73).map (fun i => (i.zero, i.size, i.bytes)) = some (some (.agg #[.int .i64 0, .string ⟨#[]⟩, .int .i64 0, .slice none 0 0, .int .i64 0, .int .i64 0, .int .i64 0, .bool false, .int .i64 0, .int .i64 0, .slice none 0 0]), 11, 128) := by kernel_rfl
theorem zeroSpans (w : World) : (zeroValue 63).run Try.prog w = .ok (.slice none 0 0) w := by kernel_rfl
/-- a map with nothing in it: nothing is found, and one entry more is the only one -/
theorem run_find_nil {key : Value} {kl : Lit} (hk : keyOf Try.prog 9 key = some kl) (w : World) : (Instr.findKey 9 key []).run Try.prog w = .ok none w := by
  rcases keyedStr.find w hk [] (fun e he => by cases he) with ⟨h, _⟩ | ⟨j, e, _, h, _⟩
  · exact h
  · simp at h
theorem empty_look (mb : Nat) (s : ByteArray) (hs : s.size ≤ 140737488351232) (w : World) (hb : w.heap[mb]? = some (.map #[] 0)) : (Instr.lookup 61 (.map (some mb)) (.string s) false).run Try.prog w = .ok (.slice none 0 0) w := by
  obtain ⟨kl, hk⟩ := keyStr s hs
  simp [Instr.lookup, run_underlying Try.underlying61, MapKept.run_getObj_map hb, keyedStr.check w true hk, run_find_nil hk]
theorem empty_put (mb : Nat) (s : ByteArray) (hs : s.size ≤ 140737488351232) (val : Value) (w : World) (hb : w.heap[mb]? = some (.map #[] 0)) : (Instr.mapUpdate 61 (.map (some mb)) (.string s) val).run Try.prog w = .ok () (ChangeMaps.setBlock w mb (.map #[⟨.string s, val, 0⟩] 1)) := by
  obtain ⟨kl, hk⟩ := keyStr s hs
  simp [Instr.mapUpdate, run_underlying Try.underlying61, MapKept.run_getObj_map hb, keyedStr.check w false hk, run_find_nil hk, MapKept.run_setObj_map _ hb, Result.andThen, ChangeMaps.setBlock]
theorem spanC_one (c : CallIn) (dA rA : Option Addr) (dn dc rn rc : Nat) (fr to : Int) (known : Bool) (r : RepIn) : ∀ u ∈ (spanC c (.slice dA dn dc) fr to known r (.slice rA rn rc)).toList, u.oneCell' = true := by
  intro u hu
  simp only [spanC, List.mem_cons, List.mem_nil_iff, or_false] at hu
  rcases hu with rfl | rfl | rfl | rfl | rfl | rfl | rfl | rfl | rfl | rfl | rfl <;> rfl
/-- 'append(nil, s)' -/
theorem span_append (Y : World) (base : Nat) (hbase : base ≤ Y.heap.size) (c : CallIn) (dA rA : Option Addr) (dn dc rn rc : Nat) (fr to : Int) (known : Bool) (r : RepIn) :
    ∃ g cap W, (appendH #[63, 63] 63 #[.slice none 0 0, .slice (some ⟨Y.heap.size, 0, none⟩) 1 1]).run Try.prog (Y.alloc (.cells (spanC c (.slice dA dn dc) fr to known r (.slice rA rn rc)) 73)).drew = .ok (.slice (some ⟨g, 0, none⟩) 1 cap) W ∧
      W.ownsRow base 73 11 (.slice (some ⟨g, 0, none⟩) 1 cap) 1 (spanC c (.slice dA dn dc) fr to known r (.slice rA rn rc)).toList ∧ Below Y.heap.size Y W := by
  obtain ⟨i0, hi, hz0, hz1, hz2⟩ := info_parts infoSpan
  have hb : Below Y.heap.size Y (Y.alloc (.cells (spanC c (.slice dA dn dc) fr to known r (.slice rA rn rc)) 73)).drew := ((Below.refl _ _).alloc (Nat.le_refl _) _).drew
  obtain ⟨v', W, hr, hown, hg, _, _⟩ := run_append_own_at (P := Try.prog) (Y.alloc (.cells (spanC c (.slice dA dn dc) fr to known r (.slice rA rn rc)) 73)).drew base 63 63 73 i0 _ 11 128 Try.underlying63 hi hz0 hz1 hz2 rfl (by decide) (.slice none 0 0) 0 [] (World.ownsRow_nil _ _ _ _) ⟨Y.heap.size, 0, none⟩ 1 1 (spanC c (.slice dA dn dc) fr to known r (.slice rA rn rc)).toList rfl
    (World.news_of_block (cs := spanC c (.slice dA dn dc) fr to known r (.slice rA rn rc)) (t := 73) (fr := (0, 0)) (heap_alloc_new Y _)) (spanC_one c dA rA dn dc rn rc fr to known r) (by unfold maxLen; omega) (by omega) (Nat.le_trans hbase hb.size)
  simp only [Nat.zero_add, List.nil_append] at hown hr
  rcases hown.2 with ⟨_, h0⟩ | ⟨g, cap, cur, rfl, _⟩
  · omega
  · exact ⟨g, cap, W, hr, hown, hb.grown hg hb.size (fun k hk => by cases hk)⟩
theorem chg_set5 (w : World) (b i0 i1 i2 i3 i4 : Nat) (x0 x1 x2 x3 x4 : Value) : Chg [b] w (((((w.setCell ⟨b, i0, none⟩ x0).setCell ⟨b, i1, none⟩ x1).setCell ⟨b, i2, none⟩ x2).setCell ⟨b, i3, none⟩ x3).setCell ⟨b, i4, none⟩ x4).drew := by
  have h : ∀ (w : World) i x, Chg [b] w (w.setCell ⟨b, i, none⟩ x) := fun w i x => Chg.setCell x (List.mem_cons_self ..)
  exact (((((h w i0 x0).trans (h _ i1 x1) (fun x hx _ => hx)).trans (h _ i2 x2) (fun x hx _ => hx)).trans (h _ i3 x3) (fun x hx _ => hx)).trans (h _ i4 x4) (fun x hx _ => hx)).drew
end Go.Proofs.Ytbbbdhpihcbmmaa
