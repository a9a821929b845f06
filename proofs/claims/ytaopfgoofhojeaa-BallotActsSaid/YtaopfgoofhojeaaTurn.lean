/- A row of bytes of which the first j are one more. No program in sight (but for its name). -/
import Derived.Test.YtaopfgoofhojeaaClone
namespace Go.Proofs.Ytaopfgoofhojeaa
open Go.RowKit Own
/-- one more, byte by byte -/
def inc (b : UInt8) : UInt8 := b + 1
theorem inc_val (b : UInt8) : ((inc b).toNat : Int) = ((b.toNat : Int) + 1) % 256 := by
  simp [inc, UInt8.toNat_add]
def turned (l : List UInt8) (j : Nat) : List Value := u8s ((l.take j).map inc ++ l.drop j)
theorem turned_zero (l : List UInt8) : turned l 0 = u8s l := by simp [turned]
theorem turned_at (l : List UInt8) (j : Nat) (hj : j < l.length) : (turned l j)[j]? = some (.int .u8 ((l[j]'hj).toNat : Int)) := by
  have h : ((l.take j).map inc ++ l.drop j)[j]? = some (l[j]'hj) := by
    rw [List.getElem?_append_right (by simp; omega)]
    simp only [List.length_map, List.length_take, Nat.min_eq_left (Nat.le_of_lt hj), Nat.sub_self, List.getElem?_drop, Nat.add_zero]
    exact List.getElem?_eq_getElem hj
  rw [turned, u8s, List.getElem?_map, h]; rfl
theorem turned_set (l : List UInt8) (j : Nat) (hj : j < l.length) : (turned l j).set j (.int .u8 ((((l[j]'hj).toNat : Int) + 1) % 256)) = turned l (j + 1) := by
  have h : ((l.take j).map inc ++ l.drop j).set j (inc (l[j]'hj)) = (l.take (j + 1)).map inc ++ l.drop (j + 1) := by
    rw [List.set_append_right _ _ (by simp; omega)]
    simp only [List.length_map, List.length_take, Nat.min_eq_left (Nat.le_of_lt hj), Nat.sub_self]
    rw [List.drop_eq_getElem_cons hj, List.set_cons_zero, List.take_succ_eq_append_getElem hj, List.map_append, List.append_assoc]
    rfl
  unfold turned
  rw [← h, u8s, u8s, List.map_set, inc_val]
end Go.Proofs.Ytaopfgoofhojeaa
