/-
  No cell of these rows narrows 'for every input' (looked for: loops, veiled, ifaces, maps, wideKeys, modest, calm, conditions, laid).
  DERIVED. THE GIVEN ROWS OF THIS SEAT. 6 by the template 'for every input the law returns true; each argument reads behind the call as it read before'; 0 by the template 'total and deterministic' (their statements: YtodobkbnmjgkdaaGreatTotals.lean).
  GIVEN WITH THE SEED: the statements are not yours to turn. If you find one false, say at which input.
  Laid BY PROGRAM, IN A SANDBOX (cutbox-rows.mjs): the forced cells as the released guide's own fill.sh prints them over the translation 16396049f21ffc25… (all of the seat's roots in one cut). By AI agents, Wed Nov 11 2026. No macro, syntax, notation, axiom, sorry.
-/
import Derived.Test.YtodobkbnmjgkdaaGreatChecked
import GoSem.Claim
import GoSem.ClaimJoined
import GoSem.ClaimMapViews
import Derived.JoinedTies
import Derived.KernelRfl
namespace Go.Proofs.YtodobkbnmjgkdaaGreat
/- THE CELL 'sum', in the pinned program and in every row, IS THE sha256 OF THE DUMP (.gsa) THAT YtodobkbnmjgkdaaGreatProg.lean LOADS. Nothing in Lean hashes anything: it is a label: what it is worth is what the hold of that sum in a sandbox is worth. -/
noncomputable def Tryz.pinned : Pinned := { name := "ytodobkbnmjgkdaagreat", sum := "16396049f21ffc250f11a3a2b328c63c3597d6a8dc1b149f1ae0795580018ec6", checked := Tryz.checked }
namespace Rows
def none {H : Type} : Left H := { results := [], args := [] }

/-- 'thickettop.TopAnswers': WHATEVER THE INPUT: true; the input reads as it did. -/
def topAnswersSpec : ChangeSpec := { name := "topAnswers", fn := fun _ => fun
  | [d1, d2] => { results := [.lit (.bool true)], args := [d1, d2] }
  | _ => none }
def topAnswersRow : OpenClaim := { program := "ytodobkbnmjgkdaagreat", sum := "16396049f21ffc250f11a3a2b328c63c3597d6a8dc1b149f1ae0795580018ec6", func := "thicket/thickettop.TopAnswers", spec := "topAnswers", inPlace := ["slices.overlaps[thicket/trees.ranked]"], unfollowed := true, recurses := true, plainKeys := false, apart := false }
def TopAnswersSaid : Prop := topAnswersRow.holds Tryz.pinned (OpenSpec.ofChange topAnswersSpec)

/-- ITS FALSE NEIGHBOUR: 'it returns false'. Refute it at one input. -/
def topAnswersWrong : ChangeSpec := { name := "topAnswers", fn := fun _ => fun
  | [d1, d2] => { results := [.lit (.bool false)], args := [d1, d2] }
  | _ => none }
def TopAnswersWrongFalsely : Prop := topAnswersRow.holds Tryz.pinned (OpenSpec.ofChange topAnswersWrong)

/-- 'thickettop.TopSooner': WHATEVER THE INPUT: true; the input reads as it did. -/
def topSoonerSpec : ChangeSpec := { name := "topSooner", fn := fun _ => fun
  | [d1, d2, d3] => { results := [.lit (.bool true)], args := [d1, d2, d3] }
  | _ => none }
def topSoonerRow : OpenClaim := { program := "ytodobkbnmjgkdaagreat", sum := "16396049f21ffc250f11a3a2b328c63c3597d6a8dc1b149f1ae0795580018ec6", func := "thicket/thickettop.TopSooner", spec := "topSooner", inPlace := ["slices.overlaps[thicket/trees.ranked]"], unfollowed := true, recurses := true, plainKeys := false, apart := false }
def TopSoonerSaid : Prop := topSoonerRow.holds Tryz.pinned (OpenSpec.ofChange topSoonerSpec)

/-- ITS FALSE NEIGHBOUR: 'it returns false'. Refute it at one input. -/
def topSoonerWrong : ChangeSpec := { name := "topSooner", fn := fun _ => fun
  | [d1, d2, d3] => { results := [.lit (.bool false)], args := [d1, d2, d3] }
  | _ => none }
def TopSoonerWrongFalsely : Prop := topSoonerRow.holds Tryz.pinned (OpenSpec.ofChange topSoonerWrong)

/-- 'thickettop.TopReuse': WHATEVER THE INPUT: true; the input reads as it did. -/
def topReuseSpec : ChangeSpec := { name := "topReuse", fn := fun _ => fun
  | [d1, d2] => { results := [.lit (.bool true)], args := [d1, d2] }
  | _ => none }
def topReuseRow : OpenClaim := { program := "ytodobkbnmjgkdaagreat", sum := "16396049f21ffc250f11a3a2b328c63c3597d6a8dc1b149f1ae0795580018ec6", func := "thicket/thickettop.TopReuse", spec := "topReuse", inPlace := ["slices.overlaps[thicket/trees.ranked]"], unfollowed := true, recurses := true, plainKeys := false, apart := false }
def TopReuseSaid : Prop := topReuseRow.holds Tryz.pinned (OpenSpec.ofChange topReuseSpec)

/-- ITS FALSE NEIGHBOUR: 'it returns false'. Refute it at one input. -/
def topReuseWrong : ChangeSpec := { name := "topReuse", fn := fun _ => fun
  | [d1, d2] => { results := [.lit (.bool false)], args := [d1, d2] }
  | _ => none }
def TopReuseWrongFalsely : Prop := topReuseRow.holds Tryz.pinned (OpenSpec.ofChange topReuseWrong)

/-- 'thickettop.TopBudget': WHATEVER THE INPUT: true; the input reads as it did. -/
def topBudgetSpec : ChangeSpec := { name := "topBudget", fn := fun _ => fun
  | [d1, d2, d3, d4] => { results := [.lit (.bool true)], args := [d1, d2, d3, d4] }
  | _ => none }
def topBudgetRow : OpenClaim := { program := "ytodobkbnmjgkdaagreat", sum := "16396049f21ffc250f11a3a2b328c63c3597d6a8dc1b149f1ae0795580018ec6", func := "thicket/thickettop.TopBudget", spec := "topBudget", inPlace := ["slices.overlaps[thicket/trees.ranked]"], unfollowed := true, recurses := true, plainKeys := false, apart := false }
def TopBudgetSaid : Prop := topBudgetRow.holds Tryz.pinned (OpenSpec.ofChange topBudgetSpec)

/-- ITS FALSE NEIGHBOUR: 'it returns false'. Refute it at one input. -/
def topBudgetWrong : ChangeSpec := { name := "topBudget", fn := fun _ => fun
  | [d1, d2, d3, d4] => { results := [.lit (.bool false)], args := [d1, d2, d3, d4] }
  | _ => none }
def TopBudgetWrongFalsely : Prop := topBudgetRow.holds Tryz.pinned (OpenSpec.ofChange topBudgetWrong)

/-- 'thickettop.TopFills': WHATEVER THE INPUT: true; the input reads as it did. -/
def topFillsSpec : ChangeSpec := { name := "topFills", fn := fun _ => fun
  | [d1, d2, d3] => { results := [.lit (.bool true)], args := [d1, d2, d3] }
  | _ => none }
def topFillsRow : OpenClaim := { program := "ytodobkbnmjgkdaagreat", sum := "16396049f21ffc250f11a3a2b328c63c3597d6a8dc1b149f1ae0795580018ec6", func := "thicket/thickettop.TopFills", spec := "topFills", inPlace := ["slices.overlaps[thicket/trees.ranked]"], unfollowed := true, recurses := true, plainKeys := false, apart := false }
def TopFillsSaid : Prop := topFillsRow.holds Tryz.pinned (OpenSpec.ofChange topFillsSpec)

/-- ITS FALSE NEIGHBOUR: 'it returns false'. Refute it at one input. -/
def topFillsWrong : ChangeSpec := { name := "topFills", fn := fun _ => fun
  | [d1, d2, d3] => { results := [.lit (.bool false)], args := [d1, d2, d3] }
  | _ => none }
def TopFillsWrongFalsely : Prop := topFillsRow.holds Tryz.pinned (OpenSpec.ofChange topFillsWrong)

/-- 'thickettop.TopMerges': WHATEVER THE INPUT: true; the input reads as it did. -/
def topMergesSpec : ChangeSpec := { name := "topMerges", fn := fun _ => fun
  | [d1, d2] => { results := [.lit (.bool true)], args := [d1, d2] }
  | _ => none }
def topMergesRow : OpenClaim := { program := "ytodobkbnmjgkdaagreat", sum := "16396049f21ffc250f11a3a2b328c63c3597d6a8dc1b149f1ae0795580018ec6", func := "thicket/thickettop.TopMerges", spec := "topMerges", inPlace := ["slices.overlaps[thicket/trees.ranked]"], unfollowed := true, recurses := true, plainKeys := false, apart := false }
def TopMergesSaid : Prop := topMergesRow.holds Tryz.pinned (OpenSpec.ofChange topMergesSpec)

/-- ITS FALSE NEIGHBOUR: 'it returns false'. Refute it at one input. -/
def topMergesWrong : ChangeSpec := { name := "topMerges", fn := fun _ => fun
  | [d1, d2] => { results := [.lit (.bool false)], args := [d1, d2] }
  | _ => none }
def TopMergesWrongFalsely : Prop := topMergesRow.holds Tryz.pinned (OpenSpec.ofChange topMergesWrong)

/- THE SECOND FORM. 'bulk': how many values and letters a reading holds, each counted each time it is reached (what is shared counts as often as it is met; a slice's spare places count too). A statement '..UptoSaid' is the law's where the arguments, and the package variables that the reading takes, are together of bulk at most 1048576: NARROWER than '..Said'. Prove '..Said' where nothing that the law and all that it calls make is longer than what came in: it says more and counts as full. Else prove '..UptoSaid'. A law counts once. -/
mutual
def uptoBulk {H : Type} : DataW H → Nat
  | .lit (.string bytes) => bytes.length + 1
  | .lit _ => 1
  | .nil => 1
  | .ptr d => uptoBulk d + 1
  | .slice elems spare => uptoBulkAll elems + uptoBulkAll spare + 1
  | .agg parts => uptoBulkAll parts + 1
  | .iface _ d => uptoBulk d + 1
  | .map entries => uptoBulkEntries entries + 1
  | .held _ => 1
def uptoBulkAll {H : Type} : List (DataW H) → Nat
  | [] => 0
  | d :: r => uptoBulk d + uptoBulkAll r
def uptoBulkEntries {H : Type} : List (Lit × DataW H) → Nat
  | [] => 0
  | x :: r => uptoBulkEntry x + uptoBulkEntries r
def uptoBulkEntry {H : Type} : Lit × DataW H → Nat
  | (.string bytes, d) => bytes.length + uptoBulk d + 1
  | (_, d) => uptoBulk d + 1
 end
def uptoSmall : (H : Type) → List (DataW H) → Bool := fun _ ds => decide (uptoBulkAll ds ≤ 1048576)
def OpenSpec.upto (s : _root_.Go.ChangeSpec) : _root_.Go.OpenSpec := { _root_.Go.OpenSpec.ofChange s with cond := some uptoSmall }

/-- 'thickettop.TopAnswers', WHERE WHAT IT READS IS OF BULK AT MOST 1048576: true; the input reads as it did. -/
def topAnswersUptoRow : OpenClaim := { program := "ytodobkbnmjgkdaagreat", sum := "16396049f21ffc250f11a3a2b328c63c3597d6a8dc1b149f1ae0795580018ec6", func := "thicket/thickettop.TopAnswers", spec := "topAnswers", inPlace := ["slices.overlaps[thicket/trees.ranked]"], unfollowed := true, recurses := true, plainKeys := false, apart := false, narrowed := true }
def TopAnswersUptoSaid : Prop := topAnswersUptoRow.holds Tryz.pinned (OpenSpec.upto topAnswersSpec)

/-- 'thickettop.TopSooner', WHERE WHAT IT READS IS OF BULK AT MOST 1048576: true; the input reads as it did. -/
def topSoonerUptoRow : OpenClaim := { program := "ytodobkbnmjgkdaagreat", sum := "16396049f21ffc250f11a3a2b328c63c3597d6a8dc1b149f1ae0795580018ec6", func := "thicket/thickettop.TopSooner", spec := "topSooner", inPlace := ["slices.overlaps[thicket/trees.ranked]"], unfollowed := true, recurses := true, plainKeys := false, apart := false, narrowed := true }
def TopSoonerUptoSaid : Prop := topSoonerUptoRow.holds Tryz.pinned (OpenSpec.upto topSoonerSpec)

/-- 'thickettop.TopReuse', WHERE WHAT IT READS IS OF BULK AT MOST 1048576: true; the input reads as it did. -/
def topReuseUptoRow : OpenClaim := { program := "ytodobkbnmjgkdaagreat", sum := "16396049f21ffc250f11a3a2b328c63c3597d6a8dc1b149f1ae0795580018ec6", func := "thicket/thickettop.TopReuse", spec := "topReuse", inPlace := ["slices.overlaps[thicket/trees.ranked]"], unfollowed := true, recurses := true, plainKeys := false, apart := false, narrowed := true }
def TopReuseUptoSaid : Prop := topReuseUptoRow.holds Tryz.pinned (OpenSpec.upto topReuseSpec)

/-- 'thickettop.TopBudget', WHERE WHAT IT READS IS OF BULK AT MOST 1048576: true; the input reads as it did. -/
def topBudgetUptoRow : OpenClaim := { program := "ytodobkbnmjgkdaagreat", sum := "16396049f21ffc250f11a3a2b328c63c3597d6a8dc1b149f1ae0795580018ec6", func := "thicket/thickettop.TopBudget", spec := "topBudget", inPlace := ["slices.overlaps[thicket/trees.ranked]"], unfollowed := true, recurses := true, plainKeys := false, apart := false, narrowed := true }
def TopBudgetUptoSaid : Prop := topBudgetUptoRow.holds Tryz.pinned (OpenSpec.upto topBudgetSpec)

/-- 'thickettop.TopFills', WHERE WHAT IT READS IS OF BULK AT MOST 1048576: true; the input reads as it did. -/
def topFillsUptoRow : OpenClaim := { program := "ytodobkbnmjgkdaagreat", sum := "16396049f21ffc250f11a3a2b328c63c3597d6a8dc1b149f1ae0795580018ec6", func := "thicket/thickettop.TopFills", spec := "topFills", inPlace := ["slices.overlaps[thicket/trees.ranked]"], unfollowed := true, recurses := true, plainKeys := false, apart := false, narrowed := true }
def TopFillsUptoSaid : Prop := topFillsUptoRow.holds Tryz.pinned (OpenSpec.upto topFillsSpec)

/-- 'thickettop.TopMerges', WHERE WHAT IT READS IS OF BULK AT MOST 1048576: true; the input reads as it did. -/
def topMergesUptoRow : OpenClaim := { program := "ytodobkbnmjgkdaagreat", sum := "16396049f21ffc250f11a3a2b328c63c3597d6a8dc1b149f1ae0795580018ec6", func := "thicket/thickettop.TopMerges", spec := "topMerges", inPlace := ["slices.overlaps[thicket/trees.ranked]"], unfollowed := true, recurses := true, plainKeys := false, apart := false, narrowed := true }
def TopMergesUptoSaid : Prop := topMergesUptoRow.holds Tryz.pinned (OpenSpec.upto topMergesSpec)

end Rows
end Go.Proofs.YtodobkbnmjgkdaaGreat
