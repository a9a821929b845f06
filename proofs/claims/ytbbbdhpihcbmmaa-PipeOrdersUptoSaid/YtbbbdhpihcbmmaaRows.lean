/-
  No cell of these rows narrows 'for every input' (looked for: loops, veiled, ifaces, maps, wideKeys, modest, calm, conditions, laid).
  DERIVED. THE GIVEN ROWS OF THIS SEAT. 4 by the template 'for every input the law returns true; each argument reads behind the call as it read before'; 0 by the template 'total and deterministic' (their statements: YtbbbdhpihcbmmaaTotals.lean).
  GIVEN WITH THE SEED: the statements are not yours to turn. If you find one false, say at which input.
  Laid BY PROGRAM, IN A SANDBOX (cutbox-rows.mjs): the forced cells as the released guide's own fill.sh prints them over the translation f3d1876896c71492… (all of the seat's roots in one cut). By AI agents, Wed Nov 11 2026. No macro, syntax, notation, axiom, sorry.
-/
import Derived.Test.YtbbbdhpihcbmmaaChecked
import GoSem.Claim
import GoSem.ClaimJoined
import GoSem.ClaimMapViews
import Derived.JoinedTies
import Derived.KernelRfl
namespace Go.Proofs.Ytbbbdhpihcbmmaa
/- THE CELL 'sum', in the pinned program and in every row, IS THE sha256 OF THE DUMP (.gsa) THAT YtbbbdhpihcbmmaaProg.lean LOADS. Nothing in Lean hashes anything: it is a label: what it is worth is what the hold of that sum in a sandbox is worth. -/
noncomputable def Try.pinned : Pinned := { name := "ytbbbdhpihcbmmaa", sum := "f3d1876896c7149283963d1d1f2bf9d8ed79e1371200cba2e8412243522d885e", checked := Try.checked }
namespace Rows
def none {H : Type} : Left H := { results := [], args := [] }

/-- 'mooringlaw25.PipeReads': WHATEVER THE INPUT: true; the input reads as it did. -/
def pipeReadsSpec : ChangeSpec := { name := "pipeReads", fn := fun _ => fun
  | [d] => { results := [.lit (.bool true)], args := [d] }
  | _ => none }
def pipeReadsRow : OpenClaim := { program := "ytbbbdhpihcbmmaa", sum := "f3d1876896c7149283963d1d1f2bf9d8ed79e1371200cba2e8412243522d885e", func := "mooring/mooringlaw25.PipeReads", spec := "pipeReads", unfollowed := true, recurses := true, plainKeys := false, apart := false }
def PipeReadsSaid : Prop := pipeReadsRow.holds Try.pinned (OpenSpec.ofChange pipeReadsSpec)

/-- ITS FALSE NEIGHBOUR: 'it returns false'. Refute it at one input. -/
def pipeReadsWrong : ChangeSpec := { name := "pipeReads", fn := fun _ => fun
  | [d] => { results := [.lit (.bool false)], args := [d] }
  | _ => none }
def PipeReadsWrongFalsely : Prop := pipeReadsRow.holds Try.pinned (OpenSpec.ofChange pipeReadsWrong)

/-- 'mooringlaw25.PipeOrders': WHATEVER THE INPUT: true; the input reads as it did. -/
def pipeOrdersSpec : ChangeSpec := { name := "pipeOrders", fn := fun _ => fun
  | [d1, d2] => { results := [.lit (.bool true)], args := [d1, d2] }
  | _ => none }
def pipeOrdersRow : OpenClaim := { program := "ytbbbdhpihcbmmaa", sum := "f3d1876896c7149283963d1d1f2bf9d8ed79e1371200cba2e8412243522d885e", func := "mooring/mooringlaw25.PipeOrders", spec := "pipeOrders", unfollowed := true, recurses := true, plainKeys := false, apart := false }
def PipeOrdersSaid : Prop := pipeOrdersRow.holds Try.pinned (OpenSpec.ofChange pipeOrdersSpec)

/-- ITS FALSE NEIGHBOUR: 'it returns false'. Refute it at one input. -/
def pipeOrdersWrong : ChangeSpec := { name := "pipeOrders", fn := fun _ => fun
  | [d1, d2] => { results := [.lit (.bool false)], args := [d1, d2] }
  | _ => none }
def PipeOrdersWrongFalsely : Prop := pipeOrdersRow.holds Try.pinned (OpenSpec.ofChange pipeOrdersWrong)

/-- 'mooringlaw25.PipeLess': WHATEVER THE INPUT: true; the input reads as it did. -/
def pipeLessSpec : ChangeSpec := { name := "pipeLess", fn := fun _ => fun
  | [d1, d2] => { results := [.lit (.bool true)], args := [d1, d2] }
  | _ => none }
def pipeLessRow : OpenClaim := { program := "ytbbbdhpihcbmmaa", sum := "f3d1876896c7149283963d1d1f2bf9d8ed79e1371200cba2e8412243522d885e", func := "mooring/mooringlaw25.PipeLess", spec := "pipeLess", unfollowed := true, recurses := true, plainKeys := false, apart := false }
def PipeLessSaid : Prop := pipeLessRow.holds Try.pinned (OpenSpec.ofChange pipeLessSpec)

/-- ITS FALSE NEIGHBOUR: 'it returns false'. Refute it at one input. -/
def pipeLessWrong : ChangeSpec := { name := "pipeLess", fn := fun _ => fun
  | [d1, d2] => { results := [.lit (.bool false)], args := [d1, d2] }
  | _ => none }
def PipeLessWrongFalsely : Prop := pipeLessRow.holds Try.pinned (OpenSpec.ofChange pipeLessWrong)

/-- 'mooringlaw25.PipeDoes': WHATEVER THE INPUT: true; the input reads as it did. -/
def pipeDoesSpec : ChangeSpec := { name := "pipeDoes", fn := fun _ => fun
  | [d1, d2, d3] => { results := [.lit (.bool true)], args := [d1, d2, d3] }
  | _ => none }
def pipeDoesRow : OpenClaim := { program := "ytbbbdhpihcbmmaa", sum := "f3d1876896c7149283963d1d1f2bf9d8ed79e1371200cba2e8412243522d885e", func := "mooring/mooringlaw25.PipeDoes", spec := "pipeDoes", unfollowed := true, recurses := true, plainKeys := false, apart := false }
def PipeDoesSaid : Prop := pipeDoesRow.holds Try.pinned (OpenSpec.ofChange pipeDoesSpec)

/-- ITS FALSE NEIGHBOUR: 'it returns false'. Refute it at one input. -/
def pipeDoesWrong : ChangeSpec := { name := "pipeDoes", fn := fun _ => fun
  | [d1, d2, d3] => { results := [.lit (.bool false)], args := [d1, d2, d3] }
  | _ => none }
def PipeDoesWrongFalsely : Prop := pipeDoesRow.holds Try.pinned (OpenSpec.ofChange pipeDoesWrong)

/- THE SECOND FORM. 'bulk': how many values and letters a reading holds, each counted each time it is reached (what is shared counts as often as it is met; a slice's spare places count too). A statement '..UptoSaid' is the law's where the arguments, and the package variables that the reading takes, are together of bulk at most 1048576: NARROWER than '..Said'. Prove '..Said' where nothing that the law and all that it calls make is longer than what came in: it says more and counts as full. Else prove '..UptoSaid'. A law counts once. -/
mutual
def uptoBulk {H : Type} : DataW H → Nat
  | .lit (.string bytes) => bytes.length + 1
  | .lit _ => 1
  | .nil => 1
  | .ptr d => uptoBulk d + 1
  | .slice elems spare => uptoBulkAll elems + uptoBulkAll spare + 1
  | .agg parts => uptoBulkAll parts + 1
  | .iface _ d => uptoBulk d + 1
  | .map entries => uptoBulkEntries entries + 1
  | .held _ => 1
def uptoBulkAll {H : Type} : List (DataW H) → Nat
  | [] => 0
  | d :: r => uptoBulk d + uptoBulkAll r
def uptoBulkEntries {H : Type} : List (Lit × DataW H) → Nat
  | [] => 0
  | x :: r => uptoBulkEntry x + uptoBulkEntries r
def uptoBulkEntry {H : Type} : Lit × DataW H → Nat
  | (.string bytes, d) => bytes.length + uptoBulk d + 1
  | (_, d) => uptoBulk d + 1
 end
def uptoSmall : (H : Type) → List (DataW H) → Bool := fun _ ds => decide (uptoBulkAll ds ≤ 1048576)
def OpenSpec.upto (s : _root_.Go.ChangeSpec) : _root_.Go.OpenSpec := { _root_.Go.OpenSpec.ofChange s with cond := some uptoSmall }

/-- 'mooringlaw25.PipeReads', WHERE WHAT IT READS IS OF BULK AT MOST 1048576: true; the input reads as it did. -/
def pipeReadsUptoRow : OpenClaim := { program := "ytbbbdhpihcbmmaa", sum := "f3d1876896c7149283963d1d1f2bf9d8ed79e1371200cba2e8412243522d885e", func := "mooring/mooringlaw25.PipeReads", spec := "pipeReads", unfollowed := true, recurses := true, plainKeys := false, apart := false, narrowed := true }
def PipeReadsUptoSaid : Prop := pipeReadsUptoRow.holds Try.pinned (OpenSpec.upto pipeReadsSpec)

/-- 'mooringlaw25.PipeOrders', WHERE WHAT IT READS IS OF BULK AT MOST 1048576: true; the input reads as it did. -/
def pipeOrdersUptoRow : OpenClaim := { program := "ytbbbdhpihcbmmaa", sum := "f3d1876896c7149283963d1d1f2bf9d8ed79e1371200cba2e8412243522d885e", func := "mooring/mooringlaw25.PipeOrders", spec := "pipeOrders", unfollowed := true, recurses := true, plainKeys := false, apart := false, narrowed := true }
def PipeOrdersUptoSaid : Prop := pipeOrdersUptoRow.holds Try.pinned (OpenSpec.upto pipeOrdersSpec)

/-- 'mooringlaw25.PipeLess', WHERE WHAT IT READS IS OF BULK AT MOST 1048576: true; the input reads as it did. -/
def pipeLessUptoRow : OpenClaim := { program := "ytbbbdhpihcbmmaa", sum := "f3d1876896c7149283963d1d1f2bf9d8ed79e1371200cba2e8412243522d885e", func := "mooring/mooringlaw25.PipeLess", spec := "pipeLess", unfollowed := true, recurses := true, plainKeys := false, apart := false, narrowed := true }
def PipeLessUptoSaid : Prop := pipeLessUptoRow.holds Try.pinned (OpenSpec.upto pipeLessSpec)

/-- 'mooringlaw25.PipeDoes', WHERE WHAT IT READS IS OF BULK AT MOST 1048576: true; the input reads as it did. -/
def pipeDoesUptoRow : OpenClaim := { program := "ytbbbdhpihcbmmaa", sum := "f3d1876896c7149283963d1d1f2bf9d8ed79e1371200cba2e8412243522d885e", func := "mooring/mooringlaw25.PipeDoes", spec := "pipeDoes", unfollowed := true, recurses := true, plainKeys := false, apart := false, narrowed := true }
def PipeDoesUptoSaid : Prop := pipeDoesUptoRow.holds Try.pinned (OpenSpec.upto pipeDoesSpec)

end Rows
end Go.Proofs.Ytbbbdhpihcbmmaa
