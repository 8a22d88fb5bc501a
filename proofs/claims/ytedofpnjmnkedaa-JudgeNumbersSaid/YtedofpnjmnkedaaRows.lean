/-
  No cell of these rows narrows 'for every input' (looked for: loops, veiled, ifaces, maps, wideKeys, modest, calm, conditions, laid).
  DERIVED. THE GIVEN ROWS OF THIS SEAT. 3 by the template 'for every input the law returns true; each argument reads behind the call as it read before'; 0 by the template 'total and deterministic' (their statements: YtedofpnjmnkedaaTotals.lean).
  GIVEN WITH THE SEED: the statements are not yours to turn. If you find one false, say at which input.
  Laid BY PROGRAM, IN A SANDBOX (cutbox-rows.mjs): the forced cells as the released guide's own fill.sh prints them over the translation 39e21971c8af5b92… (all of the seat's roots in one cut). By AI agents, Wed Nov 11 2026. No macro, syntax, notation, axiom, sorry.
-/
import Derived.Test.YtedofpnjmnkedaaChecked
import GoSem.Claim
import GoSem.ClaimJoined
import GoSem.ClaimMapViews
import Derived.JoinedTies
import Derived.KernelRfl
namespace Go.Proofs.Ytedofpnjmnkedaa
/- THE CELL 'sum', in the pinned program and in every row, IS THE sha256 OF THE DUMP (.gsa) THAT YtedofpnjmnkedaaProg.lean LOADS. Nothing in Lean hashes anything: it is a label: what it is worth is what the hold of that sum in a sandbox is worth. -/
noncomputable def Try.pinned : Pinned := { name := "ytedofpnjmnkedaa", sum := "39e21971c8af5b92e36d2a32b3c1dfa59e4956f9cb571fb03e17bb5ed2b23f01", checked := Try.checked }
namespace Rows
def none {H : Type} : Left H := { results := [], args := [] }

/-- 'thicketlaw26.JudgeTurned': WHATEVER THE INPUT: true; the input reads as it did. -/
def judgeTurnedSpec : ChangeSpec := { name := "judgeTurned", fn := fun _ => fun
  | [d1, d2, d3, d4] => { results := [.lit (.bool true)], args := [d1, d2, d3, d4] }
  | _ => none }
def judgeTurnedRow : OpenClaim := { program := "ytedofpnjmnkedaa", sum := "39e21971c8af5b92e36d2a32b3c1dfa59e4956f9cb571fb03e17bb5ed2b23f01", func := "thicket/thicketlaw26.JudgeTurned", spec := "judgeTurned", inPlace := ["slices.overlaps[thicket/api.Entry]"], unfollowed := true, recurses := true, plainKeys := false, apart := false }
def JudgeTurnedSaid : Prop := judgeTurnedRow.holds Try.pinned (OpenSpec.ofChange judgeTurnedSpec)

/-- ITS FALSE NEIGHBOUR: 'it returns false'. Refute it at one input. -/
def judgeTurnedWrong : ChangeSpec := { name := "judgeTurned", fn := fun _ => fun
  | [d1, d2, d3, d4] => { results := [.lit (.bool false)], args := [d1, d2, d3, d4] }
  | _ => none }
def JudgeTurnedWrongFalsely : Prop := judgeTurnedRow.holds Try.pinned (OpenSpec.ofChange judgeTurnedWrong)

/-- 'thicketlaw26.JudgeNumbers': WHATEVER THE INPUT: true; the input reads as it did. -/
def judgeNumbersSpec : ChangeSpec := { name := "judgeNumbers", fn := fun _ => fun
  | [] => { results := [.lit (.bool true)], args := [] }
  | _ => none }
def judgeNumbersRow : OpenClaim := { program := "ytedofpnjmnkedaa", sum := "39e21971c8af5b92e36d2a32b3c1dfa59e4956f9cb571fb03e17bb5ed2b23f01", func := "thicket/thicketlaw26.JudgeNumbers", spec := "judgeNumbers", inPlace := ["slices.overlaps[thicket/api.Entry]"], unfollowed := true, recurses := true, plainKeys := false, apart := false }
def JudgeNumbersSaid : Prop := judgeNumbersRow.holds Try.pinned (OpenSpec.ofChange judgeNumbersSpec)

/-- ITS FALSE NEIGHBOUR: 'it returns false'. Refute it at one input. -/
def judgeNumbersWrong : ChangeSpec := { name := "judgeNumbers", fn := fun _ => fun
  | [] => { results := [.lit (.bool false)], args := [] }
  | _ => none }
def JudgeNumbersWrongFalsely : Prop := judgeNumbersRow.holds Try.pinned (OpenSpec.ofChange judgeNumbersWrong)

/-- 'thicketlaw26.JudgeTells': WHATEVER THE INPUT: true; the input reads as it did. -/
def judgeTellsSpec : ChangeSpec := { name := "judgeTells", fn := fun _ => fun
  | [d1, d2, d3, d4] => { results := [.lit (.bool true)], args := [d1, d2, d3, d4] }
  | _ => none }
def judgeTellsRow : OpenClaim := { program := "ytedofpnjmnkedaa", sum := "39e21971c8af5b92e36d2a32b3c1dfa59e4956f9cb571fb03e17bb5ed2b23f01", func := "thicket/thicketlaw26.JudgeTells", spec := "judgeTells", inPlace := ["slices.overlaps[thicket/api.Entry]"], unfollowed := true, recurses := true, plainKeys := false, apart := false }
def JudgeTellsSaid : Prop := judgeTellsRow.holds Try.pinned (OpenSpec.ofChange judgeTellsSpec)

/-- ITS FALSE NEIGHBOUR: 'it returns false'. Refute it at one input. -/
def judgeTellsWrong : ChangeSpec := { name := "judgeTells", fn := fun _ => fun
  | [d1, d2, d3, d4] => { results := [.lit (.bool false)], args := [d1, d2, d3, d4] }
  | _ => none }
def JudgeTellsWrongFalsely : Prop := judgeTellsRow.holds Try.pinned (OpenSpec.ofChange judgeTellsWrong)

/- THE SECOND FORM. 'bulk': how many values and letters a reading holds, each counted each time it is reached (what is shared counts as often as it is met; a slice's spare places count too). A statement '..UptoSaid' is the law's where the arguments, and the package variables that the reading takes, are together of bulk at most 1048576: NARROWER than '..Said'. Prove '..Said' where nothing that the law and all that it calls make is longer than what came in: it says more and counts as full. Else prove '..UptoSaid'. A law counts once. -/
mutual
def uptoBulk {H : Type} : DataW H → Nat
  | .lit (.string bytes) => bytes.length + 1
  | .lit _ => 1
  | .nil => 1
  | .ptr d => uptoBulk d + 1
  | .slice elems spare => uptoBulkAll elems + uptoBulkAll spare + 1
  | .agg parts => uptoBulkAll parts + 1
  | .iface _ d => uptoBulk d + 1
  | .map entries => uptoBulkEntries entries + 1
  | .held _ => 1
def uptoBulkAll {H : Type} : List (DataW H) → Nat
  | [] => 0
  | d :: r => uptoBulk d + uptoBulkAll r
def uptoBulkEntries {H : Type} : List (Lit × DataW H) → Nat
  | [] => 0
  | x :: r => uptoBulkEntry x + uptoBulkEntries r
def uptoBulkEntry {H : Type} : Lit × DataW H → Nat
  | (.string bytes, d) => bytes.length + uptoBulk d + 1
  | (_, d) => uptoBulk d + 1
 end
def uptoSmall : (H : Type) → List (DataW H) → Bool := fun _ ds => decide (uptoBulkAll ds ≤ 1048576)
def OpenSpec.upto (s : _root_.Go.ChangeSpec) : _root_.Go.OpenSpec := { _root_.Go.OpenSpec.ofChange s with cond := some uptoSmall }

/-- 'thicketlaw26.JudgeTurned', WHERE WHAT IT READS IS OF BULK AT MOST 1048576: true; the input reads as it did. -/
def judgeTurnedUptoRow : OpenClaim := { program := "ytedofpnjmnkedaa", sum := "39e21971c8af5b92e36d2a32b3c1dfa59e4956f9cb571fb03e17bb5ed2b23f01", func := "thicket/thicketlaw26.JudgeTurned", spec := "judgeTurned", inPlace := ["slices.overlaps[thicket/api.Entry]"], unfollowed := true, recurses := true, plainKeys := false, apart := false, narrowed := true }
def JudgeTurnedUptoSaid : Prop := judgeTurnedUptoRow.holds Try.pinned (OpenSpec.upto judgeTurnedSpec)

/-- 'thicketlaw26.JudgeNumbers', WHERE WHAT IT READS IS OF BULK AT MOST 1048576: true; the input reads as it did. -/
def judgeNumbersUptoRow : OpenClaim := { program := "ytedofpnjmnkedaa", sum := "39e21971c8af5b92e36d2a32b3c1dfa59e4956f9cb571fb03e17bb5ed2b23f01", func := "thicket/thicketlaw26.JudgeNumbers", spec := "judgeNumbers", inPlace := ["slices.overlaps[thicket/api.Entry]"], unfollowed := true, recurses := true, plainKeys := false, apart := false, narrowed := true }
def JudgeNumbersUptoSaid : Prop := judgeNumbersUptoRow.holds Try.pinned (OpenSpec.upto judgeNumbersSpec)

/-- 'thicketlaw26.JudgeTells', WHERE WHAT IT READS IS OF BULK AT MOST 1048576: true; the input reads as it did. -/
def judgeTellsUptoRow : OpenClaim := { program := "ytedofpnjmnkedaa", sum := "39e21971c8af5b92e36d2a32b3c1dfa59e4956f9cb571fb03e17bb5ed2b23f01", func := "thicket/thicketlaw26.JudgeTells", spec := "judgeTells", inPlace := ["slices.overlaps[thicket/api.Entry]"], unfollowed := true, recurses := true, plainKeys := false, apart := false, narrowed := true }
def JudgeTellsUptoSaid : Prop := judgeTellsUptoRow.holds Try.pinned (OpenSpec.upto judgeTellsSpec)

end Rows
end Go.Proofs.Ytedofpnjmnkedaa
