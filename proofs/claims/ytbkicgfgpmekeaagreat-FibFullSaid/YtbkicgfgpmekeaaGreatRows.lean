/-
  No cell of these rows narrows 'for every input' (looked for: loops, veiled, ifaces, maps, wideKeys, modest, calm, conditions, laid).
  DERIVED. THE GIVEN ROWS OF THIS SEAT. 4 by the template 'for every input the law returns true; each argument reads behind the call as it read before'; 0 by the template 'total and deterministic' (their statements: YtbkicgfgpmekeaaGreatTotals.lean).
  GIVEN WITH THE SEED: the statements are not yours to turn. If you find one false, say at which input.
  Laid BY PROGRAM, IN A SANDBOX (cutbox-rows.mjs): the forced cells as the released guide's own fill.sh prints them over the translation ac8d28843b3a5c1a… (all of the seat's roots in one cut). By AI agents, Wed Nov 11 2026. No macro, syntax, notation, axiom, sorry.
-/
import Derived.Test.YtbkicgfgpmekeaaGreatChecked
import GoSem.Claim
import GoSem.ClaimJoined
import GoSem.ClaimMapViews
import Derived.JoinedTies
import Derived.KernelRfl
namespace Go.Proofs.YtbkicgfgpmekeaaGreat
/- THE CELL 'sum', in the pinned program and in every row, IS THE sha256 OF THE DUMP (.gsa) THAT YtbkicgfgpmekeaaGreatProg.lean LOADS. Nothing in Lean hashes anything: it is a label: what it is worth is what the hold of that sum in a sandbox is worth. -/
noncomputable def Tryz.pinned : Pinned := { name := "ytbkicgfgpmekeaagreat", sum := "ac8d28843b3a5c1aca78655ee023d196861473c76396470c2c168811b57f8767", checked := Tryz.checked }
namespace Rows
def none {H : Type} : Left H := { results := [], args := [] }

/-- 'thicketlaw12.FibNumbers': WHATEVER THE INPUT: true; the input reads as it did. -/
def fibNumbersSpec : ChangeSpec := { name := "fibNumbers", fn := fun _ => fun
  | [] => { results := [.lit (.bool true)], args := [] }
  | _ => none }
def fibNumbersRow : OpenClaim := { program := "ytbkicgfgpmekeaagreat", sum := "ac8d28843b3a5c1aca78655ee023d196861473c76396470c2c168811b57f8767", func := "thicket/thicketlaw12.FibNumbers", spec := "fibNumbers", unfollowed := true, recurses := true, apart := false }
def FibNumbersSaid : Prop := fibNumbersRow.holds Tryz.pinned (OpenSpec.ofChange fibNumbersSpec)

/-- ITS FALSE NEIGHBOUR: 'it returns false'. Refute it at one input. -/
def fibNumbersWrong : ChangeSpec := { name := "fibNumbers", fn := fun _ => fun
  | [] => { results := [.lit (.bool false)], args := [] }
  | _ => none }
def FibNumbersWrongFalsely : Prop := fibNumbersRow.holds Tryz.pinned (OpenSpec.ofChange fibNumbersWrong)

/-- 'thicketlaw12.FibPlays': WHATEVER THE INPUT: true; the input reads as it did. -/
def fibPlaysSpec : ChangeSpec := { name := "fibPlays", fn := fun _ => fun
  | [d] => { results := [.lit (.bool true)], args := [d] }
  | _ => none }
def fibPlaysRow : OpenClaim := { program := "ytbkicgfgpmekeaagreat", sum := "ac8d28843b3a5c1aca78655ee023d196861473c76396470c2c168811b57f8767", func := "thicket/thicketlaw12.FibPlays", spec := "fibPlays", unfollowed := true, recurses := true, apart := false }
def FibPlaysSaid : Prop := fibPlaysRow.holds Tryz.pinned (OpenSpec.ofChange fibPlaysSpec)

/-- ITS FALSE NEIGHBOUR: 'it returns false'. Refute it at one input. -/
def fibPlaysWrong : ChangeSpec := { name := "fibPlays", fn := fun _ => fun
  | [d] => { results := [.lit (.bool false)], args := [d] }
  | _ => none }
def FibPlaysWrongFalsely : Prop := fibPlaysRow.holds Tryz.pinned (OpenSpec.ofChange fibPlaysWrong)

/-- 'thicketlaw12.FibFull': WHATEVER THE INPUT: true; the input reads as it did. -/
def fibFullSpec : ChangeSpec := { name := "fibFull", fn := fun _ => fun
  | [d1, d2] => { results := [.lit (.bool true)], args := [d1, d2] }
  | _ => none }
def fibFullRow : OpenClaim := { program := "ytbkicgfgpmekeaagreat", sum := "ac8d28843b3a5c1aca78655ee023d196861473c76396470c2c168811b57f8767", func := "thicket/thicketlaw12.FibFull", spec := "fibFull", unfollowed := true, recurses := true, apart := false }
def FibFullSaid : Prop := fibFullRow.holds Tryz.pinned (OpenSpec.ofChange fibFullSpec)

/-- ITS FALSE NEIGHBOUR: 'it returns false'. Refute it at one input. -/
def fibFullWrong : ChangeSpec := { name := "fibFull", fn := fun _ => fun
  | [d1, d2] => { results := [.lit (.bool false)], args := [d1, d2] }
  | _ => none }
def FibFullWrongFalsely : Prop := fibFullRow.holds Tryz.pinned (OpenSpec.ofChange fibFullWrong)

/-- 'thicketlaw12.FibDrops': WHATEVER THE INPUT: true; the input reads as it did. -/
def fibDropsSpec : ChangeSpec := { name := "fibDrops", fn := fun _ => fun
  | [d1, d2] => { results := [.lit (.bool true)], args := [d1, d2] }
  | _ => none }
def fibDropsRow : OpenClaim := { program := "ytbkicgfgpmekeaagreat", sum := "ac8d28843b3a5c1aca78655ee023d196861473c76396470c2c168811b57f8767", func := "thicket/thicketlaw12.FibDrops", spec := "fibDrops", unfollowed := true, recurses := true, apart := false }
def FibDropsSaid : Prop := fibDropsRow.holds Tryz.pinned (OpenSpec.ofChange fibDropsSpec)

/-- ITS FALSE NEIGHBOUR: 'it returns false'. Refute it at one input. -/
def fibDropsWrong : ChangeSpec := { name := "fibDrops", fn := fun _ => fun
  | [d1, d2] => { results := [.lit (.bool false)], args := [d1, d2] }
  | _ => none }
def FibDropsWrongFalsely : Prop := fibDropsRow.holds Tryz.pinned (OpenSpec.ofChange fibDropsWrong)

/- THE SECOND FORM. 'bulk': how many values and letters a reading holds, each counted each time it is reached (what is shared counts as often as it is met; a slice's spare places count too). A statement '..UptoSaid' is the law's where the arguments, and the package variables that the reading takes, are together of bulk at most 1048576: NARROWER than '..Said'. Prove '..Said' where nothing that the law and all that it calls make is longer than what came in: it says more and counts as full. Else prove '..UptoSaid'. A law counts once. -/
mutual
def uptoBulk {H : Type} : DataW H → Nat
  | .lit (.string bytes) => bytes.length + 1
  | .lit _ => 1
  | .nil => 1
  | .ptr d => uptoBulk d + 1
  | .slice elems spare => uptoBulkAll elems + uptoBulkAll spare + 1
  | .agg parts => uptoBulkAll parts + 1
  | .iface _ d => uptoBulk d + 1
  | .map entries => uptoBulkEntries entries + 1
  | .held _ => 1
def uptoBulkAll {H : Type} : List (DataW H) → Nat
  | [] => 0
  | d :: r => uptoBulk d + uptoBulkAll r
def uptoBulkEntries {H : Type} : List (Lit × DataW H) → Nat
  | [] => 0
  | x :: r => uptoBulkEntry x + uptoBulkEntries r
def uptoBulkEntry {H : Type} : Lit × DataW H → Nat
  | (.string bytes, d) => bytes.length + uptoBulk d + 1
  | (_, d) => uptoBulk d + 1
 end
def uptoSmall : (H : Type) → List (DataW H) → Bool := fun _ ds => decide (uptoBulkAll ds ≤ 1048576)
def OpenSpec.upto (s : _root_.Go.ChangeSpec) : _root_.Go.OpenSpec := { _root_.Go.OpenSpec.ofChange s with cond := some uptoSmall }

/-- 'thicketlaw12.FibNumbers', WHERE WHAT IT READS IS OF BULK AT MOST 1048576: true; the input reads as it did. -/
def fibNumbersUptoRow : OpenClaim := { program := "ytbkicgfgpmekeaagreat", sum := "ac8d28843b3a5c1aca78655ee023d196861473c76396470c2c168811b57f8767", func := "thicket/thicketlaw12.FibNumbers", spec := "fibNumbers", unfollowed := true, recurses := true, apart := false, narrowed := true }
def FibNumbersUptoSaid : Prop := fibNumbersUptoRow.holds Tryz.pinned (OpenSpec.upto fibNumbersSpec)

/-- 'thicketlaw12.FibPlays', WHERE WHAT IT READS IS OF BULK AT MOST 1048576: true; the input reads as it did. -/
def fibPlaysUptoRow : OpenClaim := { program := "ytbkicgfgpmekeaagreat", sum := "ac8d28843b3a5c1aca78655ee023d196861473c76396470c2c168811b57f8767", func := "thicket/thicketlaw12.FibPlays", spec := "fibPlays", unfollowed := true, recurses := true, apart := false, narrowed := true }
def FibPlaysUptoSaid : Prop := fibPlaysUptoRow.holds Tryz.pinned (OpenSpec.upto fibPlaysSpec)

/-- 'thicketlaw12.FibFull', WHERE WHAT IT READS IS OF BULK AT MOST 1048576: true; the input reads as it did. -/
def fibFullUptoRow : OpenClaim := { program := "ytbkicgfgpmekeaagreat", sum := "ac8d28843b3a5c1aca78655ee023d196861473c76396470c2c168811b57f8767", func := "thicket/thicketlaw12.FibFull", spec := "fibFull", unfollowed := true, recurses := true, apart := false, narrowed := true }
def FibFullUptoSaid : Prop := fibFullUptoRow.holds Tryz.pinned (OpenSpec.upto fibFullSpec)

/-- 'thicketlaw12.FibDrops', WHERE WHAT IT READS IS OF BULK AT MOST 1048576: true; the input reads as it did. -/
def fibDropsUptoRow : OpenClaim := { program := "ytbkicgfgpmekeaagreat", sum := "ac8d28843b3a5c1aca78655ee023d196861473c76396470c2c168811b57f8767", func := "thicket/thicketlaw12.FibDrops", spec := "fibDrops", unfollowed := true, recurses := true, apart := false, narrowed := true }
def FibDropsUptoSaid : Prop := fibDropsUptoRow.holds Tryz.pinned (OpenSpec.upto fibDropsSpec)

end Rows
end Go.Proofs.YtbkicgfgpmekeaaGreat
