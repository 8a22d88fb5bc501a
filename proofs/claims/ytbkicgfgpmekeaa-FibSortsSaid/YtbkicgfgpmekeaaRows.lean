/-
  No cell of these rows narrows 'for every input' (looked for: loops, veiled, ifaces, maps, wideKeys, modest, calm, conditions, laid).
  DERIVED. THE GIVEN ROWS OF THIS SEAT. 4 by the template 'for every input the law returns true; each argument reads behind the call as it read before'; 0 by the template 'total and deterministic' (their statements: YtbkicgfgpmekeaaTotals.lean).
  GIVEN WITH THE SEED: the statements are not yours to turn. If you find one false, say at which input.
  Laid BY PROGRAM, IN A SANDBOX (cutbox-rows.mjs): the forced cells as the released guide's own fill.sh prints them over the translation a68bce22d327c2cd… (all of the seat's roots in one cut). By AI agents, Wed Nov 11 2026. No macro, syntax, notation, axiom, sorry.
-/
import Derived.Test.YtbkicgfgpmekeaaChecked
import GoSem.Claim
import GoSem.ClaimJoined
import GoSem.ClaimMapViews
import Derived.JoinedTies
import Derived.KernelRfl
namespace Go.Proofs.Ytbkicgfgpmekeaa
/- THE CELL 'sum', in the pinned program and in every row, IS THE sha256 OF THE DUMP (.gsa) THAT YtbkicgfgpmekeaaProg.lean LOADS. Nothing in Lean hashes anything: it is a label: what it is worth is what the hold of that sum in a sandbox is worth. -/
noncomputable def Try.pinned : Pinned := { name := "ytbkicgfgpmekeaa", sum := "a68bce22d327c2cd51134e31c79a27d77be249071a19d0a26d68c16e84b8aebb", checked := Try.checked }
namespace Rows
def none {H : Type} : Left H := { results := [], args := [] }

/-- 'thicketlaw12.FibGreat': WHATEVER THE INPUT: true; the input reads as it did. -/
def fibGreatSpec : ChangeSpec := { name := "fibGreat", fn := fun _ => fun
  | [d1, d2, d3] => { results := [.lit (.bool true)], args := [d1, d2, d3] }
  | _ => none }
def fibGreatRow : OpenClaim := { program := "ytbkicgfgpmekeaa", sum := "a68bce22d327c2cd51134e31c79a27d77be249071a19d0a26d68c16e84b8aebb", func := "thicket/thicketlaw12.FibGreat", spec := "fibGreat", unfollowed := true, recurses := true, apart := false }
def FibGreatSaid : Prop := fibGreatRow.holds Try.pinned (OpenSpec.ofChange fibGreatSpec)

/-- ITS FALSE NEIGHBOUR: 'it returns false'. Refute it at one input. -/
def fibGreatWrong : ChangeSpec := { name := "fibGreat", fn := fun _ => fun
  | [d1, d2, d3] => { results := [.lit (.bool false)], args := [d1, d2, d3] }
  | _ => none }
def FibGreatWrongFalsely : Prop := fibGreatRow.holds Try.pinned (OpenSpec.ofChange fibGreatWrong)

/-- 'thicketlaw12.FibMelds': WHATEVER THE INPUT: true; the input reads as it did. -/
def fibMeldsSpec : ChangeSpec := { name := "fibMelds", fn := fun _ => fun
  | [d1, d2] => { results := [.lit (.bool true)], args := [d1, d2] }
  | _ => none }
def fibMeldsRow : OpenClaim := { program := "ytbkicgfgpmekeaa", sum := "a68bce22d327c2cd51134e31c79a27d77be249071a19d0a26d68c16e84b8aebb", func := "thicket/thicketlaw12.FibMelds", spec := "fibMelds", unfollowed := true, recurses := true, apart := false }
def FibMeldsSaid : Prop := fibMeldsRow.holds Try.pinned (OpenSpec.ofChange fibMeldsSpec)

/-- ITS FALSE NEIGHBOUR: 'it returns false'. Refute it at one input. -/
def fibMeldsWrong : ChangeSpec := { name := "fibMelds", fn := fun _ => fun
  | [d1, d2] => { results := [.lit (.bool false)], args := [d1, d2] }
  | _ => none }
def FibMeldsWrongFalsely : Prop := fibMeldsRow.holds Try.pinned (OpenSpec.ofChange fibMeldsWrong)

/-- 'thicketlaw12.FibSorts': WHATEVER THE INPUT: true; the input reads as it did. -/
def fibSortsSpec : ChangeSpec := { name := "fibSorts", fn := fun _ => fun
  | [d1, d2] => { results := [.lit (.bool true)], args := [d1, d2] }
  | _ => none }
def fibSortsRow : OpenClaim := { program := "ytbkicgfgpmekeaa", sum := "a68bce22d327c2cd51134e31c79a27d77be249071a19d0a26d68c16e84b8aebb", func := "thicket/thicketlaw12.FibSorts", spec := "fibSorts", unfollowed := true, recurses := true, apart := false }
def FibSortsSaid : Prop := fibSortsRow.holds Try.pinned (OpenSpec.ofChange fibSortsSpec)

/-- ITS FALSE NEIGHBOUR: 'it returns false'. Refute it at one input. -/
def fibSortsWrong : ChangeSpec := { name := "fibSorts", fn := fun _ => fun
  | [d1, d2] => { results := [.lit (.bool false)], args := [d1, d2] }
  | _ => none }
def FibSortsWrongFalsely : Prop := fibSortsRow.holds Try.pinned (OpenSpec.ofChange fibSortsWrong)

/-- 'thicketlaw12.FibFalls': WHATEVER THE INPUT: true; the input reads as it did. -/
def fibFallsSpec : ChangeSpec := { name := "fibFalls", fn := fun _ => fun
  | [d1, d2, d3] => { results := [.lit (.bool true)], args := [d1, d2, d3] }
  | _ => none }
def fibFallsRow : OpenClaim := { program := "ytbkicgfgpmekeaa", sum := "a68bce22d327c2cd51134e31c79a27d77be249071a19d0a26d68c16e84b8aebb", func := "thicket/thicketlaw12.FibFalls", spec := "fibFalls", unfollowed := true, recurses := true, apart := false }
def FibFallsSaid : Prop := fibFallsRow.holds Try.pinned (OpenSpec.ofChange fibFallsSpec)

/-- ITS FALSE NEIGHBOUR: 'it returns false'. Refute it at one input. -/
def fibFallsWrong : ChangeSpec := { name := "fibFalls", fn := fun _ => fun
  | [d1, d2, d3] => { results := [.lit (.bool false)], args := [d1, d2, d3] }
  | _ => none }
def FibFallsWrongFalsely : Prop := fibFallsRow.holds Try.pinned (OpenSpec.ofChange fibFallsWrong)

/- THE SECOND FORM. 'bulk': how many values and letters a reading holds, each counted each time it is reached (what is shared counts as often as it is met; a slice's spare places count too). A statement '..UptoSaid' is the law's where the arguments, and the package variables that the reading takes, are together of bulk at most 1048576: NARROWER than '..Said'. Prove '..Said' where nothing that the law and all that it calls make is longer than what came in: it says more and counts as full. Else prove '..UptoSaid'. A law counts once. -/
mutual
def uptoBulk {H : Type} : DataW H → Nat
  | .lit (.string bytes) => bytes.length + 1
  | .lit _ => 1
  | .nil => 1
  | .ptr d => uptoBulk d + 1
  | .slice elems spare => uptoBulkAll elems + uptoBulkAll spare + 1
  | .agg parts => uptoBulkAll parts + 1
  | .iface _ d => uptoBulk d + 1
  | .map entries => uptoBulkEntries entries + 1
  | .held _ => 1
def uptoBulkAll {H : Type} : List (DataW H) → Nat
  | [] => 0
  | d :: r => uptoBulk d + uptoBulkAll r
def uptoBulkEntries {H : Type} : List (Lit × DataW H) → Nat
  | [] => 0
  | x :: r => uptoBulkEntry x + uptoBulkEntries r
def uptoBulkEntry {H : Type} : Lit × DataW H → Nat
  | (.string bytes, d) => bytes.length + uptoBulk d + 1
  | (_, d) => uptoBulk d + 1
 end
def uptoSmall : (H : Type) → List (DataW H) → Bool := fun _ ds => decide (uptoBulkAll ds ≤ 1048576)
def OpenSpec.upto (s : _root_.Go.ChangeSpec) : _root_.Go.OpenSpec := { _root_.Go.OpenSpec.ofChange s with cond := some uptoSmall }

/-- 'thicketlaw12.FibGreat', WHERE WHAT IT READS IS OF BULK AT MOST 1048576: true; the input reads as it did. -/
def fibGreatUptoRow : OpenClaim := { program := "ytbkicgfgpmekeaa", sum := "a68bce22d327c2cd51134e31c79a27d77be249071a19d0a26d68c16e84b8aebb", func := "thicket/thicketlaw12.FibGreat", spec := "fibGreat", unfollowed := true, recurses := true, apart := false, narrowed := true }
def FibGreatUptoSaid : Prop := fibGreatUptoRow.holds Try.pinned (OpenSpec.upto fibGreatSpec)

/-- 'thicketlaw12.FibMelds', WHERE WHAT IT READS IS OF BULK AT MOST 1048576: true; the input reads as it did. -/
def fibMeldsUptoRow : OpenClaim := { program := "ytbkicgfgpmekeaa", sum := "a68bce22d327c2cd51134e31c79a27d77be249071a19d0a26d68c16e84b8aebb", func := "thicket/thicketlaw12.FibMelds", spec := "fibMelds", unfollowed := true, recurses := true, apart := false, narrowed := true }
def FibMeldsUptoSaid : Prop := fibMeldsUptoRow.holds Try.pinned (OpenSpec.upto fibMeldsSpec)

/-- 'thicketlaw12.FibSorts', WHERE WHAT IT READS IS OF BULK AT MOST 1048576: true; the input reads as it did. -/
def fibSortsUptoRow : OpenClaim := { program := "ytbkicgfgpmekeaa", sum := "a68bce22d327c2cd51134e31c79a27d77be249071a19d0a26d68c16e84b8aebb", func := "thicket/thicketlaw12.FibSorts", spec := "fibSorts", unfollowed := true, recurses := true, apart := false, narrowed := true }
def FibSortsUptoSaid : Prop := fibSortsUptoRow.holds Try.pinned (OpenSpec.upto fibSortsSpec)

/-- 'thicketlaw12.FibFalls', WHERE WHAT IT READS IS OF BULK AT MOST 1048576: true; the input reads as it did. -/
def fibFallsUptoRow : OpenClaim := { program := "ytbkicgfgpmekeaa", sum := "a68bce22d327c2cd51134e31c79a27d77be249071a19d0a26d68c16e84b8aebb", func := "thicket/thicketlaw12.FibFalls", spec := "fibFalls", unfollowed := true, recurses := true, apart := false, narrowed := true }
def FibFallsUptoSaid : Prop := fibFallsUptoRow.holds Try.pinned (OpenSpec.upto fibFallsSpec)

end Rows
end Go.Proofs.Ytbkicgfgpmekeaa
