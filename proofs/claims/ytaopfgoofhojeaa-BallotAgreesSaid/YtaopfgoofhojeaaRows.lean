/-
  No cell of these rows narrows 'for every input' (looked for: loops, veiled, ifaces, maps, wideKeys, modest, calm, conditions, laid).
  DERIVED. THE GIVEN ROWS OF THIS SEAT. 2 by the template 'for every input the law returns true; each argument reads behind the call as it read before'; 0 by the template 'total and deterministic' (their statements: YtaopfgoofhojeaaTotals.lean).
  GIVEN WITH THE SEED: the statements are not yours to turn. If you find one false, say at which input.
  Laid BY PROGRAM, IN A SANDBOX (cutbox-rows.mjs): the forced cells as the released guide's own fill.sh prints them over the translation 10a2f86a6fc27420… (all of the seat's roots in one cut). By AI agents, Wed Nov 11 2026. No macro, syntax, notation, axiom, sorry.
-/
import Derived.Test.YtaopfgoofhojeaaChecked
import GoSem.Claim
import GoSem.ClaimJoined
import GoSem.ClaimMapViews
import Derived.JoinedTies
import Derived.KernelRfl
namespace Go.Proofs.Ytaopfgoofhojeaa
/- THE CELL 'sum', in the pinned program and in every row, IS THE sha256 OF THE DUMP (.gsa) THAT YtaopfgoofhojeaaProg.lean LOADS. Nothing in Lean hashes anything: it is a label: what it is worth is what the hold of that sum in a sandbox is worth. -/
noncomputable def Try.pinned : Pinned := { name := "ytaopfgoofhojeaa", sum := "10a2f86a6fc27420e57318ea781970e944845106d9341b4e6c87a5eabf9ed8af", checked := Try.checked }
namespace Rows
def none {H : Type} : Left H := { results := [], args := [] }

/-- 'mooringlaw11.BallotActs': WHATEVER THE INPUT: true; the input reads as it did. -/
def ballotActsSpec : ChangeSpec := { name := "ballotActs", fn := fun _ => fun
  | [d1, d2, d3] => { results := [.lit (.bool true)], args := [d1, d2, d3] }
  | _ => none }
def ballotActsRow : OpenClaim := { program := "ytaopfgoofhojeaa", sum := "10a2f86a6fc27420e57318ea781970e944845106d9341b4e6c87a5eabf9ed8af", func := "mooring/mooringlaw11.BallotActs", spec := "ballotActs", plainKeys := false, apart := false }
def BallotActsSaid : Prop := ballotActsRow.holds Try.pinned (OpenSpec.ofChange ballotActsSpec)

/-- ITS FALSE NEIGHBOUR: 'it returns false'. Refute it at one input. -/
def ballotActsWrong : ChangeSpec := { name := "ballotActs", fn := fun _ => fun
  | [d1, d2, d3] => { results := [.lit (.bool false)], args := [d1, d2, d3] }
  | _ => none }
def BallotActsWrongFalsely : Prop := ballotActsRow.holds Try.pinned (OpenSpec.ofChange ballotActsWrong)

/-- 'mooringlaw11.BallotAgrees': WHATEVER THE INPUT: true; the input reads as it did. -/
def ballotAgreesSpec : ChangeSpec := { name := "ballotAgrees", fn := fun _ => fun
  | [d1, d2] => { results := [.lit (.bool true)], args := [d1, d2] }
  | _ => none }
def ballotAgreesRow : OpenClaim := { program := "ytaopfgoofhojeaa", sum := "10a2f86a6fc27420e57318ea781970e944845106d9341b4e6c87a5eabf9ed8af", func := "mooring/mooringlaw11.BallotAgrees", spec := "ballotAgrees", unfollowed := true, recurses := true, plainKeys := false, apart := false }
def BallotAgreesSaid : Prop := ballotAgreesRow.holds Try.pinned (OpenSpec.ofChange ballotAgreesSpec)

/-- ITS FALSE NEIGHBOUR: 'it returns false'. Refute it at one input. -/
def ballotAgreesWrong : ChangeSpec := { name := "ballotAgrees", fn := fun _ => fun
  | [d1, d2] => { results := [.lit (.bool false)], args := [d1, d2] }
  | _ => none }
def BallotAgreesWrongFalsely : Prop := ballotAgreesRow.holds Try.pinned (OpenSpec.ofChange ballotAgreesWrong)

/- THE SECOND FORM. 'bulk': how many values and letters a reading holds, each counted each time it is reached (what is shared counts as often as it is met; a slice's spare places count too). A statement '..UptoSaid' is the law's where the arguments, and the package variables that the reading takes, are together of bulk at most 1048576: NARROWER than '..Said'. Prove '..Said' where nothing that the law and all that it calls make is longer than what came in: it says more and counts as full. Else prove '..UptoSaid'. A law counts once. -/
mutual
def uptoBulk {H : Type} : DataW H → Nat
  | .lit (.string bytes) => bytes.length + 1
  | .lit _ => 1
  | .nil => 1
  | .ptr d => uptoBulk d + 1
  | .slice elems spare => uptoBulkAll elems + uptoBulkAll spare + 1
  | .agg parts => uptoBulkAll parts + 1
  | .iface _ d => uptoBulk d + 1
  | .map entries => uptoBulkEntries entries + 1
  | .held _ => 1
def uptoBulkAll {H : Type} : List (DataW H) → Nat
  | [] => 0
  | d :: r => uptoBulk d + uptoBulkAll r
def uptoBulkEntries {H : Type} : List (Lit × DataW H) → Nat
  | [] => 0
  | x :: r => uptoBulkEntry x + uptoBulkEntries r
def uptoBulkEntry {H : Type} : Lit × DataW H → Nat
  | (.string bytes, d) => bytes.length + uptoBulk d + 1
  | (_, d) => uptoBulk d + 1
 end
def uptoSmall : (H : Type) → List (DataW H) → Bool := fun _ ds => decide (uptoBulkAll ds ≤ 1048576)
def OpenSpec.upto (s : _root_.Go.ChangeSpec) : _root_.Go.OpenSpec := { _root_.Go.OpenSpec.ofChange s with cond := some uptoSmall }

/-- 'mooringlaw11.BallotActs', WHERE WHAT IT READS IS OF BULK AT MOST 1048576: true; the input reads as it did. -/
def ballotActsUptoRow : OpenClaim := { program := "ytaopfgoofhojeaa", sum := "10a2f86a6fc27420e57318ea781970e944845106d9341b4e6c87a5eabf9ed8af", func := "mooring/mooringlaw11.BallotActs", spec := "ballotActs", plainKeys := false, apart := false, narrowed := true }
def BallotActsUptoSaid : Prop := ballotActsUptoRow.holds Try.pinned (OpenSpec.upto ballotActsSpec)

/-- 'mooringlaw11.BallotAgrees', WHERE WHAT IT READS IS OF BULK AT MOST 1048576: true; the input reads as it did. -/
def ballotAgreesUptoRow : OpenClaim := { program := "ytaopfgoofhojeaa", sum := "10a2f86a6fc27420e57318ea781970e944845106d9341b4e6c87a5eabf9ed8af", func := "mooring/mooringlaw11.BallotAgrees", spec := "ballotAgrees", unfollowed := true, recurses := true, plainKeys := false, apart := false, narrowed := true }
def BallotAgreesUptoSaid : Prop := ballotAgreesUptoRow.holds Try.pinned (OpenSpec.upto ballotAgreesSpec)

end Rows
end Go.Proofs.Ytaopfgoofhojeaa
