/-
  No cell of these rows narrows 'for every input' (looked for: loops, veiled, ifaces, maps, wideKeys, modest, calm, conditions, laid).
  DERIVED. THE GIVEN ROWS OF THIS SEAT. 5 by the template 'for every input the law returns true; each argument reads behind the call as it read before'; 0 by the template 'total and deterministic' (their statements: YtlieepbmmfdeoaaTotals.lean).
  GIVEN WITH THE SEED: the statements are not yours to turn. If you find one false, say at which input.
  Laid BY PROGRAM, IN A SANDBOX (cutbox-rows.mjs): the forced cells as the released guide's own fill.sh prints them over the translation c7d4e9f8491df0b2… (all of the seat's roots in one cut). By AI agents, Wed Nov 11 2026. No macro, syntax, notation, axiom, sorry.
-/
import Derived.Test.YtlieepbmmfdeoaaChecked
import GoSem.Claim
import GoSem.ClaimJoined
import GoSem.ClaimMapViews
import Derived.JoinedTies
import Derived.KernelRfl
namespace Go.Proofs.Ytlieepbmmfdeoaa
/- THE CELL 'sum', in the pinned program and in every row, IS THE sha256 OF THE DUMP (.gsa) THAT YtlieepbmmfdeoaaProg.lean LOADS. Nothing in Lean hashes anything: it is a label: what it is worth is what the hold of that sum in a sandbox is worth. -/
noncomputable def Try.pinned : Pinned := { name := "ytlieepbmmfdeoaa", sum := "c7d4e9f8491df0b20b7e29ea19cb32ee75697958c15dc20f8c4fec0929e7ea96", checked := Try.checked }
namespace Rows
def none {H : Type} : Left H := { results := [], args := [] }

/-- 'mooringlaw10.FlightOnce': WHATEVER THE INPUT: true; the input reads as it did. -/
def flightOnceSpec : ChangeSpec := { name := "flightOnce", fn := fun _ => fun
  | [d] => { results := [.lit (.bool true)], args := [d] }
  | _ => none }
def flightOnceRow : OpenClaim := { program := "ytlieepbmmfdeoaa", sum := "c7d4e9f8491df0b20b7e29ea19cb32ee75697958c15dc20f8c4fec0929e7ea96", func := "mooring/mooringlaw10.FlightOnce", spec := "flightOnce", plainKeys := false, apart := false }
def FlightOnceSaid : Prop := flightOnceRow.holds Try.pinned (OpenSpec.ofChange flightOnceSpec)

/-- ITS FALSE NEIGHBOUR: 'it returns false'. Refute it at one input. -/
def flightOnceWrong : ChangeSpec := { name := "flightOnce", fn := fun _ => fun
  | [d] => { results := [.lit (.bool false)], args := [d] }
  | _ => none }
def FlightOnceWrongFalsely : Prop := flightOnceRow.holds Try.pinned (OpenSpec.ofChange flightOnceWrong)

/-- 'mooringlaw10.FlightFull': WHATEVER THE INPUT: true; the input reads as it did. -/
def flightFullSpec : ChangeSpec := { name := "flightFull", fn := fun _ => fun
  | [d] => { results := [.lit (.bool true)], args := [d] }
  | _ => none }
def flightFullRow : OpenClaim := { program := "ytlieepbmmfdeoaa", sum := "c7d4e9f8491df0b20b7e29ea19cb32ee75697958c15dc20f8c4fec0929e7ea96", func := "mooring/mooringlaw10.FlightFull", spec := "flightFull", plainKeys := false, apart := false }
def FlightFullSaid : Prop := flightFullRow.holds Try.pinned (OpenSpec.ofChange flightFullSpec)

/-- ITS FALSE NEIGHBOUR: 'it returns false'. Refute it at one input. -/
def flightFullWrong : ChangeSpec := { name := "flightFull", fn := fun _ => fun
  | [d] => { results := [.lit (.bool false)], args := [d] }
  | _ => none }
def FlightFullWrongFalsely : Prop := flightFullRow.holds Try.pinned (OpenSpec.ofChange flightFullWrong)

/-- 'mooringlaw10.FlightOwns': WHATEVER THE INPUT: true; the input reads as it did. -/
def flightOwnsSpec : ChangeSpec := { name := "flightOwns", fn := fun _ => fun
  | [d] => { results := [.lit (.bool true)], args := [d] }
  | _ => none }
def flightOwnsRow : OpenClaim := { program := "ytlieepbmmfdeoaa", sum := "c7d4e9f8491df0b20b7e29ea19cb32ee75697958c15dc20f8c4fec0929e7ea96", func := "mooring/mooringlaw10.FlightOwns", spec := "flightOwns", plainKeys := false, apart := false }
def FlightOwnsSaid : Prop := flightOwnsRow.holds Try.pinned (OpenSpec.ofChange flightOwnsSpec)

/-- ITS FALSE NEIGHBOUR: 'it returns false'. Refute it at one input. -/
def flightOwnsWrong : ChangeSpec := { name := "flightOwns", fn := fun _ => fun
  | [d] => { results := [.lit (.bool false)], args := [d] }
  | _ => none }
def FlightOwnsWrongFalsely : Prop := flightOwnsRow.holds Try.pinned (OpenSpec.ofChange flightOwnsWrong)

/-- 'mooringlaw10.FlightActs': WHATEVER THE INPUT: true; the input reads as it did. -/
def flightActsSpec : ChangeSpec := { name := "flightActs", fn := fun _ => fun
  | [d] => { results := [.lit (.bool true)], args := [d] }
  | _ => none }
def flightActsRow : OpenClaim := { program := "ytlieepbmmfdeoaa", sum := "c7d4e9f8491df0b20b7e29ea19cb32ee75697958c15dc20f8c4fec0929e7ea96", func := "mooring/mooringlaw10.FlightActs", spec := "flightActs", unfollowed := true, recurses := true, plainKeys := false, apart := false }
def FlightActsSaid : Prop := flightActsRow.holds Try.pinned (OpenSpec.ofChange flightActsSpec)

/-- ITS FALSE NEIGHBOUR: 'it returns false'. Refute it at one input. -/
def flightActsWrong : ChangeSpec := { name := "flightActs", fn := fun _ => fun
  | [d] => { results := [.lit (.bool false)], args := [d] }
  | _ => none }
def FlightActsWrongFalsely : Prop := flightActsRow.holds Try.pinned (OpenSpec.ofChange flightActsWrong)

/-- 'mooringlaw10.FlightNobody': WHATEVER THE INPUT: true; the input reads as it did. -/
def flightNobodySpec : ChangeSpec := { name := "flightNobody", fn := fun _ => fun
  | [d] => { results := [.lit (.bool true)], args := [d] }
  | _ => none }
def flightNobodyRow : OpenClaim := { program := "ytlieepbmmfdeoaa", sum := "c7d4e9f8491df0b20b7e29ea19cb32ee75697958c15dc20f8c4fec0929e7ea96", func := "mooring/mooringlaw10.FlightNobody", spec := "flightNobody", unfollowed := true, recurses := true, plainKeys := false, apart := false }
def FlightNobodySaid : Prop := flightNobodyRow.holds Try.pinned (OpenSpec.ofChange flightNobodySpec)

/-- ITS FALSE NEIGHBOUR: 'it returns false'. Refute it at one input. -/
def flightNobodyWrong : ChangeSpec := { name := "flightNobody", fn := fun _ => fun
  | [d] => { results := [.lit (.bool false)], args := [d] }
  | _ => none }
def FlightNobodyWrongFalsely : Prop := flightNobodyRow.holds Try.pinned (OpenSpec.ofChange flightNobodyWrong)

/- THE SECOND FORM. 'bulk': how many values and letters a reading holds, each counted each time it is reached (what is shared counts as often as it is met; a slice's spare places count too). A statement '..UptoSaid' is the law's where the arguments, and the package variables that the reading takes, are together of bulk at most 1048576: NARROWER than '..Said'. Prove '..Said' where nothing that the law and all that it calls make is longer than what came in: it says more and counts as full. Else prove '..UptoSaid'. A law counts once. -/
mutual
def uptoBulk {H : Type} : DataW H → Nat
  | .lit (.string bytes) => bytes.length + 1
  | .lit _ => 1
  | .nil => 1
  | .ptr d => uptoBulk d + 1
  | .slice elems spare => uptoBulkAll elems + uptoBulkAll spare + 1
  | .agg parts => uptoBulkAll parts + 1
  | .iface _ d => uptoBulk d + 1
  | .map entries => uptoBulkEntries entries + 1
  | .held _ => 1
def uptoBulkAll {H : Type} : List (DataW H) → Nat
  | [] => 0
  | d :: r => uptoBulk d + uptoBulkAll r
def uptoBulkEntries {H : Type} : List (Lit × DataW H) → Nat
  | [] => 0
  | x :: r => uptoBulkEntry x + uptoBulkEntries r
def uptoBulkEntry {H : Type} : Lit × DataW H → Nat
  | (.string bytes, d) => bytes.length + uptoBulk d + 1
  | (_, d) => uptoBulk d + 1
 end
def uptoSmall : (H : Type) → List (DataW H) → Bool := fun _ ds => decide (uptoBulkAll ds ≤ 1048576)
def OpenSpec.upto (s : _root_.Go.ChangeSpec) : _root_.Go.OpenSpec := { _root_.Go.OpenSpec.ofChange s with cond := some uptoSmall }

/-- 'mooringlaw10.FlightOnce', WHERE WHAT IT READS IS OF BULK AT MOST 1048576: true; the input reads as it did. -/
def flightOnceUptoRow : OpenClaim := { program := "ytlieepbmmfdeoaa", sum := "c7d4e9f8491df0b20b7e29ea19cb32ee75697958c15dc20f8c4fec0929e7ea96", func := "mooring/mooringlaw10.FlightOnce", spec := "flightOnce", plainKeys := false, apart := false, narrowed := true }
def FlightOnceUptoSaid : Prop := flightOnceUptoRow.holds Try.pinned (OpenSpec.upto flightOnceSpec)

/-- 'mooringlaw10.FlightFull', WHERE WHAT IT READS IS OF BULK AT MOST 1048576: true; the input reads as it did. -/
def flightFullUptoRow : OpenClaim := { program := "ytlieepbmmfdeoaa", sum := "c7d4e9f8491df0b20b7e29ea19cb32ee75697958c15dc20f8c4fec0929e7ea96", func := "mooring/mooringlaw10.FlightFull", spec := "flightFull", plainKeys := false, apart := false, narrowed := true }
def FlightFullUptoSaid : Prop := flightFullUptoRow.holds Try.pinned (OpenSpec.upto flightFullSpec)

/-- 'mooringlaw10.FlightOwns', WHERE WHAT IT READS IS OF BULK AT MOST 1048576: true; the input reads as it did. -/
def flightOwnsUptoRow : OpenClaim := { program := "ytlieepbmmfdeoaa", sum := "c7d4e9f8491df0b20b7e29ea19cb32ee75697958c15dc20f8c4fec0929e7ea96", func := "mooring/mooringlaw10.FlightOwns", spec := "flightOwns", plainKeys := false, apart := false, narrowed := true }
def FlightOwnsUptoSaid : Prop := flightOwnsUptoRow.holds Try.pinned (OpenSpec.upto flightOwnsSpec)

/-- 'mooringlaw10.FlightActs', WHERE WHAT IT READS IS OF BULK AT MOST 1048576: true; the input reads as it did. -/
def flightActsUptoRow : OpenClaim := { program := "ytlieepbmmfdeoaa", sum := "c7d4e9f8491df0b20b7e29ea19cb32ee75697958c15dc20f8c4fec0929e7ea96", func := "mooring/mooringlaw10.FlightActs", spec := "flightActs", unfollowed := true, recurses := true, plainKeys := false, apart := false, narrowed := true }
def FlightActsUptoSaid : Prop := flightActsUptoRow.holds Try.pinned (OpenSpec.upto flightActsSpec)

/-- 'mooringlaw10.FlightNobody', WHERE WHAT IT READS IS OF BULK AT MOST 1048576: true; the input reads as it did. -/
def flightNobodyUptoRow : OpenClaim := { program := "ytlieepbmmfdeoaa", sum := "c7d4e9f8491df0b20b7e29ea19cb32ee75697958c15dc20f8c4fec0929e7ea96", func := "mooring/mooringlaw10.FlightNobody", spec := "flightNobody", unfollowed := true, recurses := true, plainKeys := false, apart := false, narrowed := true }
def FlightNobodyUptoSaid : Prop := flightNobodyUptoRow.holds Try.pinned (OpenSpec.upto flightNobodySpec)

end Rows
end Go.Proofs.Ytlieepbmmfdeoaa
