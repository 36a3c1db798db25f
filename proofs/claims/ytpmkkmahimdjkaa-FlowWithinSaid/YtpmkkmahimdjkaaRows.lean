/-
  No cell of these rows narrows 'for every input' (looked for: loops, veiled, ifaces, maps, wideKeys, modest, calm, conditions, laid).
  DERIVED. THE GIVEN ROWS OF THIS SEAT. 5 by the template 'for every input the law returns true; each argument reads behind the call as it read before'; 0 by the template 'total and deterministic' (their statements: YtpmkkmahimdjkaaTotals.lean).
  GIVEN WITH THE SEED: the statements are not yours to turn. If you find one false, say at which input.
  Laid BY PROGRAM, IN A SANDBOX (cutbox-rows.mjs): the forced cells as the released guide's own fill.sh prints them over the translation caeb8e8701cf9335… (all of the seat's roots in one cut). By AI agents, Wed Nov 11 2026. No macro, syntax, notation, axiom, sorry.
-/
import Derived.Test.YtpmkkmahimdjkaaChecked
import GoSem.Claim
import GoSem.ClaimJoined
import GoSem.ClaimMapViews
import Derived.JoinedTies
import Derived.KernelRfl
namespace Go.Proofs.Ytpmkkmahimdjkaa
/- THE CELL 'sum', in the pinned program and in every row, IS THE sha256 OF THE DUMP (.gsa) THAT YtpmkkmahimdjkaaProg.lean LOADS. Nothing in Lean hashes anything: it is a label: what it is worth is what the hold of that sum in a sandbox is worth. -/
noncomputable def Try.pinned : Pinned := { name := "ytpmkkmahimdjkaa", sum := "caeb8e8701cf9335528dbf1af4e2f937f430890c45e226430c83caa47522039f", checked := Try.checked }
namespace Rows
def none {H : Type} : Left H := { results := [], args := [] }

/-- 'mortiselaw16.FlowGraph': WHATEVER THE INPUT: true; the input reads as it did. -/
def flowGraphSpec : ChangeSpec := { name := "flowGraph", fn := fun _ => fun
  | [d] => { results := [.lit (.bool true)], args := [d] }
  | _ => none }
def flowGraphRow : OpenClaim := { program := "ytpmkkmahimdjkaa", sum := "caeb8e8701cf9335528dbf1af4e2f937f430890c45e226430c83caa47522039f", func := "mortise/mortiselaw16.FlowGraph", spec := "flowGraph", unfollowed := true, recurses := true, apart := false }
def FlowGraphSaid : Prop := flowGraphRow.holds Try.pinned (OpenSpec.ofChange flowGraphSpec)

/-- ITS FALSE NEIGHBOUR: 'it returns false'. Refute it at one input. -/
def flowGraphWrong : ChangeSpec := { name := "flowGraph", fn := fun _ => fun
  | [d] => { results := [.lit (.bool false)], args := [d] }
  | _ => none }
def FlowGraphWrongFalsely : Prop := flowGraphRow.holds Try.pinned (OpenSpec.ofChange flowGraphWrong)

/-- 'mortiselaw16.FlowLoops': WHATEVER THE INPUT: true; the input reads as it did. -/
def flowLoopsSpec : ChangeSpec := { name := "flowLoops", fn := fun _ => fun
  | [d] => { results := [.lit (.bool true)], args := [d] }
  | _ => none }
def flowLoopsRow : OpenClaim := { program := "ytpmkkmahimdjkaa", sum := "caeb8e8701cf9335528dbf1af4e2f937f430890c45e226430c83caa47522039f", func := "mortise/mortiselaw16.FlowLoops", spec := "flowLoops", unfollowed := true, recurses := true, apart := false }
def FlowLoopsSaid : Prop := flowLoopsRow.holds Try.pinned (OpenSpec.ofChange flowLoopsSpec)

/-- ITS FALSE NEIGHBOUR: 'it returns false'. Refute it at one input. -/
def flowLoopsWrong : ChangeSpec := { name := "flowLoops", fn := fun _ => fun
  | [d] => { results := [.lit (.bool false)], args := [d] }
  | _ => none }
def FlowLoopsWrongFalsely : Prop := flowLoopsRow.holds Try.pinned (OpenSpec.ofChange flowLoopsWrong)

/-- 'mortiselaw16.FlowDominates': WHATEVER THE INPUT: true; the input reads as it did. -/
def flowDominatesSpec : ChangeSpec := { name := "flowDominates", fn := fun _ => fun
  | [d] => { results := [.lit (.bool true)], args := [d] }
  | _ => none }
def flowDominatesRow : OpenClaim := { program := "ytpmkkmahimdjkaa", sum := "caeb8e8701cf9335528dbf1af4e2f937f430890c45e226430c83caa47522039f", func := "mortise/mortiselaw16.FlowDominates", spec := "flowDominates", unfollowed := true, recurses := true, apart := false }
def FlowDominatesSaid : Prop := flowDominatesRow.holds Try.pinned (OpenSpec.ofChange flowDominatesSpec)

/-- ITS FALSE NEIGHBOUR: 'it returns false'. Refute it at one input. -/
def flowDominatesWrong : ChangeSpec := { name := "flowDominates", fn := fun _ => fun
  | [d] => { results := [.lit (.bool false)], args := [d] }
  | _ => none }
def FlowDominatesWrongFalsely : Prop := flowDominatesRow.holds Try.pinned (OpenSpec.ofChange flowDominatesWrong)

/-- 'mortiselaw16.FlowEntered': WHATEVER THE INPUT: true; the input reads as it did. -/
def flowEnteredSpec : ChangeSpec := { name := "flowEntered", fn := fun _ => fun
  | [d] => { results := [.lit (.bool true)], args := [d] }
  | _ => none }
def flowEnteredRow : OpenClaim := { program := "ytpmkkmahimdjkaa", sum := "caeb8e8701cf9335528dbf1af4e2f937f430890c45e226430c83caa47522039f", func := "mortise/mortiselaw16.FlowEntered", spec := "flowEntered", unfollowed := true, recurses := true, apart := false }
def FlowEnteredSaid : Prop := flowEnteredRow.holds Try.pinned (OpenSpec.ofChange flowEnteredSpec)

/-- ITS FALSE NEIGHBOUR: 'it returns false'. Refute it at one input. -/
def flowEnteredWrong : ChangeSpec := { name := "flowEntered", fn := fun _ => fun
  | [d] => { results := [.lit (.bool false)], args := [d] }
  | _ => none }
def FlowEnteredWrongFalsely : Prop := flowEnteredRow.holds Try.pinned (OpenSpec.ofChange flowEnteredWrong)

/-- 'mortiselaw16.FlowWithin': WHATEVER THE INPUT: true; the input reads as it did. -/
def flowWithinSpec : ChangeSpec := { name := "flowWithin", fn := fun _ => fun
  | [d] => { results := [.lit (.bool true)], args := [d] }
  | _ => none }
def flowWithinRow : OpenClaim := { program := "ytpmkkmahimdjkaa", sum := "caeb8e8701cf9335528dbf1af4e2f937f430890c45e226430c83caa47522039f", func := "mortise/mortiselaw16.FlowWithin", spec := "flowWithin", unfollowed := true, recurses := true, apart := false }
def FlowWithinSaid : Prop := flowWithinRow.holds Try.pinned (OpenSpec.ofChange flowWithinSpec)

/-- ITS FALSE NEIGHBOUR: 'it returns false'. Refute it at one input. -/
def flowWithinWrong : ChangeSpec := { name := "flowWithin", fn := fun _ => fun
  | [d] => { results := [.lit (.bool false)], args := [d] }
  | _ => none }
def FlowWithinWrongFalsely : Prop := flowWithinRow.holds Try.pinned (OpenSpec.ofChange flowWithinWrong)

/- THE SECOND FORM. 'bulk': how many values and letters a reading holds, each counted each time it is reached (what is shared counts as often as it is met; a slice's spare places count too). A statement '..UptoSaid' is the law's where the arguments, and the package variables that the reading takes, are together of bulk at most 1048576: NARROWER than '..Said'. Prove '..Said' where nothing that the law and all that it calls make is longer than what came in: it says more and counts as full. Else prove '..UptoSaid'. A law counts once. -/
mutual
def uptoBulk {H : Type} : DataW H → Nat
  | .lit (.string bytes) => bytes.length + 1
  | .lit _ => 1
  | .nil => 1
  | .ptr d => uptoBulk d + 1
  | .slice elems spare => uptoBulkAll elems + uptoBulkAll spare + 1
  | .agg parts => uptoBulkAll parts + 1
  | .iface _ d => uptoBulk d + 1
  | .map entries => uptoBulkEntries entries + 1
  | .held _ => 1
def uptoBulkAll {H : Type} : List (DataW H) → Nat
  | [] => 0
  | d :: r => uptoBulk d + uptoBulkAll r
def uptoBulkEntries {H : Type} : List (Lit × DataW H) → Nat
  | [] => 0
  | x :: r => uptoBulkEntry x + uptoBulkEntries r
def uptoBulkEntry {H : Type} : Lit × DataW H → Nat
  | (.string bytes, d) => bytes.length + uptoBulk d + 1
  | (_, d) => uptoBulk d + 1
 end
def uptoSmall : (H : Type) → List (DataW H) → Bool := fun _ ds => decide (uptoBulkAll ds ≤ 1048576)
def OpenSpec.upto (s : _root_.Go.ChangeSpec) : _root_.Go.OpenSpec := { _root_.Go.OpenSpec.ofChange s with cond := some uptoSmall }

/-- 'mortiselaw16.FlowGraph', WHERE WHAT IT READS IS OF BULK AT MOST 1048576: true; the input reads as it did. -/
def flowGraphUptoRow : OpenClaim := { program := "ytpmkkmahimdjkaa", sum := "caeb8e8701cf9335528dbf1af4e2f937f430890c45e226430c83caa47522039f", func := "mortise/mortiselaw16.FlowGraph", spec := "flowGraph", unfollowed := true, recurses := true, apart := false, narrowed := true }
def FlowGraphUptoSaid : Prop := flowGraphUptoRow.holds Try.pinned (OpenSpec.upto flowGraphSpec)

/-- 'mortiselaw16.FlowLoops', WHERE WHAT IT READS IS OF BULK AT MOST 1048576: true; the input reads as it did. -/
def flowLoopsUptoRow : OpenClaim := { program := "ytpmkkmahimdjkaa", sum := "caeb8e8701cf9335528dbf1af4e2f937f430890c45e226430c83caa47522039f", func := "mortise/mortiselaw16.FlowLoops", spec := "flowLoops", unfollowed := true, recurses := true, apart := false, narrowed := true }
def FlowLoopsUptoSaid : Prop := flowLoopsUptoRow.holds Try.pinned (OpenSpec.upto flowLoopsSpec)

/-- 'mortiselaw16.FlowDominates', WHERE WHAT IT READS IS OF BULK AT MOST 1048576: true; the input reads as it did. -/
def flowDominatesUptoRow : OpenClaim := { program := "ytpmkkmahimdjkaa", sum := "caeb8e8701cf9335528dbf1af4e2f937f430890c45e226430c83caa47522039f", func := "mortise/mortiselaw16.FlowDominates", spec := "flowDominates", unfollowed := true, recurses := true, apart := false, narrowed := true }
def FlowDominatesUptoSaid : Prop := flowDominatesUptoRow.holds Try.pinned (OpenSpec.upto flowDominatesSpec)

/-- 'mortiselaw16.FlowEntered', WHERE WHAT IT READS IS OF BULK AT MOST 1048576: true; the input reads as it did. -/
def flowEnteredUptoRow : OpenClaim := { program := "ytpmkkmahimdjkaa", sum := "caeb8e8701cf9335528dbf1af4e2f937f430890c45e226430c83caa47522039f", func := "mortise/mortiselaw16.FlowEntered", spec := "flowEntered", unfollowed := true, recurses := true, apart := false, narrowed := true }
def FlowEnteredUptoSaid : Prop := flowEnteredUptoRow.holds Try.pinned (OpenSpec.upto flowEnteredSpec)

/-- 'mortiselaw16.FlowWithin', WHERE WHAT IT READS IS OF BULK AT MOST 1048576: true; the input reads as it did. -/
def flowWithinUptoRow : OpenClaim := { program := "ytpmkkmahimdjkaa", sum := "caeb8e8701cf9335528dbf1af4e2f937f430890c45e226430c83caa47522039f", func := "mortise/mortiselaw16.FlowWithin", spec := "flowWithin", unfollowed := true, recurses := true, apart := false, narrowed := true }
def FlowWithinUptoSaid : Prop := flowWithinUptoRow.holds Try.pinned (OpenSpec.upto flowWithinSpec)

end Rows
end Go.Proofs.Ytpmkkmahimdjkaa
