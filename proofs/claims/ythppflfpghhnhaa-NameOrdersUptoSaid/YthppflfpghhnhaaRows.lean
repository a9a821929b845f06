/-
  No cell of these rows narrows 'for every input' (looked for: loops, veiled, ifaces, maps, wideKeys, modest, calm, conditions, laid).
  DERIVED. THE GIVEN ROWS OF THIS SEAT. 4 by the template 'for every input the law returns true; each argument reads behind the call as it read before'; 0 by the template 'total and deterministic' (their statements: YthppflfpghhnhaaTotals.lean).
  GIVEN WITH THE SEED: the statements are not yours to turn. If you find one false, say at which input.
  Laid BY PROGRAM, IN A SANDBOX (cutbox-rows.mjs): the forced cells as the released guide's own fill.sh prints them over the translation 862f78be0ec25d97… (all of the seat's roots in one cut). By AI agents, Wed Nov 11 2026. No macro, syntax, notation, axiom, sorry.
-/
import Derived.Test.YthppflfpghhnhaaChecked
import GoSem.Claim
import GoSem.ClaimJoined
import GoSem.ClaimMapViews
import Derived.JoinedTies
import Derived.KernelRfl
namespace Go.Proofs.Ythppflfpghhnhaa
/- THE CELL 'sum', in the pinned program and in every row, IS THE sha256 OF THE DUMP (.gsa) THAT YthppflfpghhnhaaProg.lean LOADS. Nothing in Lean hashes anything: it is a label: what it is worth is what the hold of that sum in a sandbox is worth. -/
noncomputable def Try.pinned : Pinned := { name := "ythppflfpghhnhaa", sum := "862f78be0ec25d973845be4dba1042e3837e5631be160488d32d716605a36d3a", checked := Try.checked }
namespace Rows
def none {H : Type} : Left H := { results := [], args := [] }

/-- 'mooringlaw06.NameOrders': WHATEVER THE INPUT: true; the input reads as it did. -/
def nameOrdersSpec : ChangeSpec := { name := "nameOrders", fn := fun _ => fun
  | [d1, d2, d3] => { results := [.lit (.bool true)], args := [d1, d2, d3] }
  | _ => none }
def nameOrdersRow : OpenClaim := { program := "ythppflfpghhnhaa", sum := "862f78be0ec25d973845be4dba1042e3837e5631be160488d32d716605a36d3a", func := "mooring/mooringlaw06.NameOrders", spec := "nameOrders", apart := false }
def NameOrdersSaid : Prop := nameOrdersRow.holds Try.pinned (OpenSpec.ofChange nameOrdersSpec)

/-- ITS FALSE NEIGHBOUR: 'it returns false'. Refute it at one input. -/
def nameOrdersWrong : ChangeSpec := { name := "nameOrders", fn := fun _ => fun
  | [d1, d2, d3] => { results := [.lit (.bool false)], args := [d1, d2, d3] }
  | _ => none }
def NameOrdersWrongFalsely : Prop := nameOrdersRow.holds Try.pinned (OpenSpec.ofChange nameOrdersWrong)

/-- 'mooringlaw06.NameHashes': WHATEVER THE INPUT: true; the input reads as it did. -/
def nameHashesSpec : ChangeSpec := { name := "nameHashes", fn := fun _ => fun
  | [d] => { results := [.lit (.bool true)], args := [d] }
  | _ => none }
def nameHashesRow : OpenClaim := { program := "ythppflfpghhnhaa", sum := "862f78be0ec25d973845be4dba1042e3837e5631be160488d32d716605a36d3a", func := "mooring/mooringlaw06.NameHashes", spec := "nameHashes", apart := false }
def NameHashesSaid : Prop := nameHashesRow.holds Try.pinned (OpenSpec.ofChange nameHashesSpec)

/-- ITS FALSE NEIGHBOUR: 'it returns false'. Refute it at one input. -/
def nameHashesWrong : ChangeSpec := { name := "nameHashes", fn := fun _ => fun
  | [d] => { results := [.lit (.bool false)], args := [d] }
  | _ => none }
def NameHashesWrongFalsely : Prop := nameHashesRow.holds Try.pinned (OpenSpec.ofChange nameHashesWrong)

/-- 'mooringlaw06.NameChecks': WHATEVER THE INPUT: true; the input reads as it did. -/
def nameChecksSpec : ChangeSpec := { name := "nameChecks", fn := fun _ => fun
  | [d1, d2] => { results := [.lit (.bool true)], args := [d1, d2] }
  | _ => none }
def nameChecksRow : OpenClaim := { program := "ythppflfpghhnhaa", sum := "862f78be0ec25d973845be4dba1042e3837e5631be160488d32d716605a36d3a", func := "mooring/mooringlaw06.NameChecks", spec := "nameChecks", apart := false }
def NameChecksSaid : Prop := nameChecksRow.holds Try.pinned (OpenSpec.ofChange nameChecksSpec)

/-- ITS FALSE NEIGHBOUR: 'it returns false'. Refute it at one input. -/
def nameChecksWrong : ChangeSpec := { name := "nameChecks", fn := fun _ => fun
  | [d1, d2] => { results := [.lit (.bool false)], args := [d1, d2] }
  | _ => none }
def NameChecksWrongFalsely : Prop := nameChecksRow.holds Try.pinned (OpenSpec.ofChange nameChecksWrong)

/-- 'mooringlaw06.NameHeads': WHATEVER THE INPUT: true; the input reads as it did. -/
def nameHeadsSpec : ChangeSpec := { name := "nameHeads", fn := fun _ => fun
  | [d1, d2, d3] => { results := [.lit (.bool true)], args := [d1, d2, d3] }
  | _ => none }
def nameHeadsRow : OpenClaim := { program := "ythppflfpghhnhaa", sum := "862f78be0ec25d973845be4dba1042e3837e5631be160488d32d716605a36d3a", func := "mooring/mooringlaw06.NameHeads", spec := "nameHeads", apart := false }
def NameHeadsSaid : Prop := nameHeadsRow.holds Try.pinned (OpenSpec.ofChange nameHeadsSpec)

/-- ITS FALSE NEIGHBOUR: 'it returns false'. Refute it at one input. -/
def nameHeadsWrong : ChangeSpec := { name := "nameHeads", fn := fun _ => fun
  | [d1, d2, d3] => { results := [.lit (.bool false)], args := [d1, d2, d3] }
  | _ => none }
def NameHeadsWrongFalsely : Prop := nameHeadsRow.holds Try.pinned (OpenSpec.ofChange nameHeadsWrong)

/- THE SECOND FORM. 'bulk': how many values and letters a reading holds, each counted each time it is reached (what is shared counts as often as it is met; a slice's spare places count too). A statement '..UptoSaid' is the law's where the arguments, and the package variables that the reading takes, are together of bulk at most 1048576: NARROWER than '..Said'. Prove '..Said' where nothing that the law and all that it calls make is longer than what came in: it says more and counts as full. Else prove '..UptoSaid'. A law counts once. -/
mutual
def uptoBulk {H : Type} : DataW H → Nat
  | .lit (.string bytes) => bytes.length + 1
  | .lit _ => 1
  | .nil => 1
  | .ptr d => uptoBulk d + 1
  | .slice elems spare => uptoBulkAll elems + uptoBulkAll spare + 1
  | .agg parts => uptoBulkAll parts + 1
  | .iface _ d => uptoBulk d + 1
  | .map entries => uptoBulkEntries entries + 1
  | .held _ => 1
def uptoBulkAll {H : Type} : List (DataW H) → Nat
  | [] => 0
  | d :: r => uptoBulk d + uptoBulkAll r
def uptoBulkEntries {H : Type} : List (Lit × DataW H) → Nat
  | [] => 0
  | x :: r => uptoBulkEntry x + uptoBulkEntries r
def uptoBulkEntry {H : Type} : Lit × DataW H → Nat
  | (.string bytes, d) => bytes.length + uptoBulk d + 1
  | (_, d) => uptoBulk d + 1
 end
def uptoSmall : (H : Type) → List (DataW H) → Bool := fun _ ds => decide (uptoBulkAll ds ≤ 1048576)
def OpenSpec.upto (s : _root_.Go.ChangeSpec) : _root_.Go.OpenSpec := { _root_.Go.OpenSpec.ofChange s with cond := some uptoSmall }

/-- 'mooringlaw06.NameOrders', WHERE WHAT IT READS IS OF BULK AT MOST 1048576: true; the input reads as it did. -/
def nameOrdersUptoRow : OpenClaim := { program := "ythppflfpghhnhaa", sum := "862f78be0ec25d973845be4dba1042e3837e5631be160488d32d716605a36d3a", func := "mooring/mooringlaw06.NameOrders", spec := "nameOrders", apart := false, narrowed := true }
def NameOrdersUptoSaid : Prop := nameOrdersUptoRow.holds Try.pinned (OpenSpec.upto nameOrdersSpec)

/-- 'mooringlaw06.NameHashes', WHERE WHAT IT READS IS OF BULK AT MOST 1048576: true; the input reads as it did. -/
def nameHashesUptoRow : OpenClaim := { program := "ythppflfpghhnhaa", sum := "862f78be0ec25d973845be4dba1042e3837e5631be160488d32d716605a36d3a", func := "mooring/mooringlaw06.NameHashes", spec := "nameHashes", apart := false, narrowed := true }
def NameHashesUptoSaid : Prop := nameHashesUptoRow.holds Try.pinned (OpenSpec.upto nameHashesSpec)

/-- 'mooringlaw06.NameChecks', WHERE WHAT IT READS IS OF BULK AT MOST 1048576: true; the input reads as it did. -/
def nameChecksUptoRow : OpenClaim := { program := "ythppflfpghhnhaa", sum := "862f78be0ec25d973845be4dba1042e3837e5631be160488d32d716605a36d3a", func := "mooring/mooringlaw06.NameChecks", spec := "nameChecks", apart := false, narrowed := true }
def NameChecksUptoSaid : Prop := nameChecksUptoRow.holds Try.pinned (OpenSpec.upto nameChecksSpec)

/-- 'mooringlaw06.NameHeads', WHERE WHAT IT READS IS OF BULK AT MOST 1048576: true; the input reads as it did. -/
def nameHeadsUptoRow : OpenClaim := { program := "ythppflfpghhnhaa", sum := "862f78be0ec25d973845be4dba1042e3837e5631be160488d32d716605a36d3a", func := "mooring/mooringlaw06.NameHeads", spec := "nameHeads", apart := false, narrowed := true }
def NameHeadsUptoSaid : Prop := nameHeadsUptoRow.holds Try.pinned (OpenSpec.upto nameHeadsSpec)

end Rows
end Go.Proofs.Ythppflfpghhnhaa
