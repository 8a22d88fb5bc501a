/-
  No cell of these rows narrows 'for every input' (looked for: loops, veiled, ifaces, maps, wideKeys, modest, calm, conditions, laid).
  DERIVED. THE GIVEN ROWS OF THIS SEAT. 8 by the template 'for every input the law returns true; each argument reads behind the call as it read before'; 0 by the template 'total and deterministic' (their statements: YtmabiogngbkhhaaTotals.lean).
  GIVEN WITH THE SEED: the statements are not yours to turn. If you find one false, say at which input.
  Laid BY PROGRAM, IN A SANDBOX (cutbox-rows.mjs): the forced cells as the released guide's own fill.sh prints them over the translation 40180047152e2a49… (all of the seat's roots in one cut). By AI agents, Wed Nov 11 2026. No macro, syntax, notation, axiom, sorry.
-/
import Derived.Test.YtmabiogngbkhhaaChecked
import GoSem.Claim
import GoSem.ClaimJoined
import GoSem.ClaimMapViews
import Derived.JoinedTies
import Derived.KernelRfl
namespace Go.Proofs.Ytmabiogngbkhhaa
/- THE CELL 'sum', in the pinned program and in every row, IS THE sha256 OF THE DUMP (.gsa) THAT YtmabiogngbkhhaaProg.lean LOADS. Nothing in Lean hashes anything: it is a label: what it is worth is what the hold of that sum in a sandbox is worth. -/
noncomputable def Try.pinned : Pinned := { name := "ytmabiogngbkhhaa", sum := "40180047152e2a49c3ea5415e2b9e90202082d021019fc38b549713aeac58fbe", checked := Try.checked }
namespace Rows
def none {H : Type} : Left H := { results := [], args := [] }

/-- 'thicketlaw13.PairingGreat': WHATEVER THE INPUT: true; the input reads as it did. -/
def pairingGreatSpec : ChangeSpec := { name := "pairingGreat", fn := fun _ => fun
  | [d1, d2, d3] => { results := [.lit (.bool true)], args := [d1, d2, d3] }
  | _ => none }
def pairingGreatRow : OpenClaim := { program := "ytmabiogngbkhhaa", sum := "40180047152e2a49c3ea5415e2b9e90202082d021019fc38b549713aeac58fbe", func := "thicket/thicketlaw13.PairingGreat", spec := "pairingGreat", unfollowed := true, recurses := true, apart := false }
def PairingGreatSaid : Prop := pairingGreatRow.holds Try.pinned (OpenSpec.ofChange pairingGreatSpec)

/-- ITS FALSE NEIGHBOUR: 'it returns false'. Refute it at one input. -/
def pairingGreatWrong : ChangeSpec := { name := "pairingGreat", fn := fun _ => fun
  | [d1, d2, d3] => { results := [.lit (.bool false)], args := [d1, d2, d3] }
  | _ => none }
def PairingGreatWrongFalsely : Prop := pairingGreatRow.holds Try.pinned (OpenSpec.ofChange pairingGreatWrong)

/-- 'thicketlaw13.PairingMelds': WHATEVER THE INPUT: true; the input reads as it did. -/
def pairingMeldsSpec : ChangeSpec := { name := "pairingMelds", fn := fun _ => fun
  | [d1, d2] => { results := [.lit (.bool true)], args := [d1, d2] }
  | _ => none }
def pairingMeldsRow : OpenClaim := { program := "ytmabiogngbkhhaa", sum := "40180047152e2a49c3ea5415e2b9e90202082d021019fc38b549713aeac58fbe", func := "thicket/thicketlaw13.PairingMelds", spec := "pairingMelds", unfollowed := true, recurses := true, apart := false }
def PairingMeldsSaid : Prop := pairingMeldsRow.holds Try.pinned (OpenSpec.ofChange pairingMeldsSpec)

/-- ITS FALSE NEIGHBOUR: 'it returns false'. Refute it at one input. -/
def pairingMeldsWrong : ChangeSpec := { name := "pairingMelds", fn := fun _ => fun
  | [d1, d2] => { results := [.lit (.bool false)], args := [d1, d2] }
  | _ => none }
def PairingMeldsWrongFalsely : Prop := pairingMeldsRow.holds Try.pinned (OpenSpec.ofChange pairingMeldsWrong)

/-- 'thicketlaw13.PairingSorts': WHATEVER THE INPUT: true; the input reads as it did. -/
def pairingSortsSpec : ChangeSpec := { name := "pairingSorts", fn := fun _ => fun
  | [d1, d2] => { results := [.lit (.bool true)], args := [d1, d2] }
  | _ => none }
def pairingSortsRow : OpenClaim := { program := "ytmabiogngbkhhaa", sum := "40180047152e2a49c3ea5415e2b9e90202082d021019fc38b549713aeac58fbe", func := "thicket/thicketlaw13.PairingSorts", spec := "pairingSorts", unfollowed := true, recurses := true, apart := false }
def PairingSortsSaid : Prop := pairingSortsRow.holds Try.pinned (OpenSpec.ofChange pairingSortsSpec)

/-- ITS FALSE NEIGHBOUR: 'it returns false'. Refute it at one input. -/
def pairingSortsWrong : ChangeSpec := { name := "pairingSorts", fn := fun _ => fun
  | [d1, d2] => { results := [.lit (.bool false)], args := [d1, d2] }
  | _ => none }
def PairingSortsWrongFalsely : Prop := pairingSortsRow.holds Try.pinned (OpenSpec.ofChange pairingSortsWrong)

/-- 'thicketlaw13.PairingFalls': WHATEVER THE INPUT: true; the input reads as it did. -/
def pairingFallsSpec : ChangeSpec := { name := "pairingFalls", fn := fun _ => fun
  | [d1, d2, d3] => { results := [.lit (.bool true)], args := [d1, d2, d3] }
  | _ => none }
def pairingFallsRow : OpenClaim := { program := "ytmabiogngbkhhaa", sum := "40180047152e2a49c3ea5415e2b9e90202082d021019fc38b549713aeac58fbe", func := "thicket/thicketlaw13.PairingFalls", spec := "pairingFalls", unfollowed := true, recurses := true, apart := false }
def PairingFallsSaid : Prop := pairingFallsRow.holds Try.pinned (OpenSpec.ofChange pairingFallsSpec)

/-- ITS FALSE NEIGHBOUR: 'it returns false'. Refute it at one input. -/
def pairingFallsWrong : ChangeSpec := { name := "pairingFalls", fn := fun _ => fun
  | [d1, d2, d3] => { results := [.lit (.bool false)], args := [d1, d2, d3] }
  | _ => none }
def PairingFallsWrongFalsely : Prop := pairingFallsRow.holds Try.pinned (OpenSpec.ofChange pairingFallsWrong)

/-- 'thicketlaw13.PairingNumbers': WHATEVER THE INPUT: true; the input reads as it did. -/
def pairingNumbersSpec : ChangeSpec := { name := "pairingNumbers", fn := fun _ => fun
  | [] => { results := [.lit (.bool true)], args := [] }
  | _ => none }
def pairingNumbersRow : OpenClaim := { program := "ytmabiogngbkhhaa", sum := "40180047152e2a49c3ea5415e2b9e90202082d021019fc38b549713aeac58fbe", func := "thicket/thicketlaw13.PairingNumbers", spec := "pairingNumbers", unfollowed := true, recurses := true, apart := false }
def PairingNumbersSaid : Prop := pairingNumbersRow.holds Try.pinned (OpenSpec.ofChange pairingNumbersSpec)

/-- ITS FALSE NEIGHBOUR: 'it returns false'. Refute it at one input. -/
def pairingNumbersWrong : ChangeSpec := { name := "pairingNumbers", fn := fun _ => fun
  | [] => { results := [.lit (.bool false)], args := [] }
  | _ => none }
def PairingNumbersWrongFalsely : Prop := pairingNumbersRow.holds Try.pinned (OpenSpec.ofChange pairingNumbersWrong)

/-- 'thicketlaw13.PairingPlays': WHATEVER THE INPUT: true; the input reads as it did. -/
def pairingPlaysSpec : ChangeSpec := { name := "pairingPlays", fn := fun _ => fun
  | [d] => { results := [.lit (.bool true)], args := [d] }
  | _ => none }
def pairingPlaysRow : OpenClaim := { program := "ytmabiogngbkhhaa", sum := "40180047152e2a49c3ea5415e2b9e90202082d021019fc38b549713aeac58fbe", func := "thicket/thicketlaw13.PairingPlays", spec := "pairingPlays", unfollowed := true, recurses := true, apart := false }
def PairingPlaysSaid : Prop := pairingPlaysRow.holds Try.pinned (OpenSpec.ofChange pairingPlaysSpec)

/-- ITS FALSE NEIGHBOUR: 'it returns false'. Refute it at one input. -/
def pairingPlaysWrong : ChangeSpec := { name := "pairingPlays", fn := fun _ => fun
  | [d] => { results := [.lit (.bool false)], args := [d] }
  | _ => none }
def PairingPlaysWrongFalsely : Prop := pairingPlaysRow.holds Try.pinned (OpenSpec.ofChange pairingPlaysWrong)

/-- 'thicketlaw13.PairingFull': WHATEVER THE INPUT: true; the input reads as it did. -/
def pairingFullSpec : ChangeSpec := { name := "pairingFull", fn := fun _ => fun
  | [d1, d2] => { results := [.lit (.bool true)], args := [d1, d2] }
  | _ => none }
def pairingFullRow : OpenClaim := { program := "ytmabiogngbkhhaa", sum := "40180047152e2a49c3ea5415e2b9e90202082d021019fc38b549713aeac58fbe", func := "thicket/thicketlaw13.PairingFull", spec := "pairingFull", unfollowed := true, recurses := true, apart := false }
def PairingFullSaid : Prop := pairingFullRow.holds Try.pinned (OpenSpec.ofChange pairingFullSpec)

/-- ITS FALSE NEIGHBOUR: 'it returns false'. Refute it at one input. -/
def pairingFullWrong : ChangeSpec := { name := "pairingFull", fn := fun _ => fun
  | [d1, d2] => { results := [.lit (.bool false)], args := [d1, d2] }
  | _ => none }
def PairingFullWrongFalsely : Prop := pairingFullRow.holds Try.pinned (OpenSpec.ofChange pairingFullWrong)

/-- 'thicketlaw13.PairingDrops': WHATEVER THE INPUT: true; the input reads as it did. -/
def pairingDropsSpec : ChangeSpec := { name := "pairingDrops", fn := fun _ => fun
  | [d1, d2] => { results := [.lit (.bool true)], args := [d1, d2] }
  | _ => none }
def pairingDropsRow : OpenClaim := { program := "ytmabiogngbkhhaa", sum := "40180047152e2a49c3ea5415e2b9e90202082d021019fc38b549713aeac58fbe", func := "thicket/thicketlaw13.PairingDrops", spec := "pairingDrops", unfollowed := true, recurses := true, apart := false }
def PairingDropsSaid : Prop := pairingDropsRow.holds Try.pinned (OpenSpec.ofChange pairingDropsSpec)

/-- ITS FALSE NEIGHBOUR: 'it returns false'. Refute it at one input. -/
def pairingDropsWrong : ChangeSpec := { name := "pairingDrops", fn := fun _ => fun
  | [d1, d2] => { results := [.lit (.bool false)], args := [d1, d2] }
  | _ => none }
def PairingDropsWrongFalsely : Prop := pairingDropsRow.holds Try.pinned (OpenSpec.ofChange pairingDropsWrong)

/- THE SECOND FORM. 'bulk': how many values and letters a reading holds, each counted each time it is reached (what is shared counts as often as it is met; a slice's spare places count too). A statement '..UptoSaid' is the law's where the arguments, and the package variables that the reading takes, are together of bulk at most 1048576: NARROWER than '..Said'. Prove '..Said' where nothing that the law and all that it calls make is longer than what came in: it says more and counts as full. Else prove '..UptoSaid'. A law counts once. -/
mutual
def uptoBulk {H : Type} : DataW H → Nat
  | .lit (.string bytes) => bytes.length + 1
  | .lit _ => 1
  | .nil => 1
  | .ptr d => uptoBulk d + 1
  | .slice elems spare => uptoBulkAll elems + uptoBulkAll spare + 1
  | .agg parts => uptoBulkAll parts + 1
  | .iface _ d => uptoBulk d + 1
  | .map entries => uptoBulkEntries entries + 1
  | .held _ => 1
def uptoBulkAll {H : Type} : List (DataW H) → Nat
  | [] => 0
  | d :: r => uptoBulk d + uptoBulkAll r
def uptoBulkEntries {H : Type} : List (Lit × DataW H) → Nat
  | [] => 0
  | x :: r => uptoBulkEntry x + uptoBulkEntries r
def uptoBulkEntry {H : Type} : Lit × DataW H → Nat
  | (.string bytes, d) => bytes.length + uptoBulk d + 1
  | (_, d) => uptoBulk d + 1
 end
def uptoSmall : (H : Type) → List (DataW H) → Bool := fun _ ds => decide (uptoBulkAll ds ≤ 1048576)
def OpenSpec.upto (s : _root_.Go.ChangeSpec) : _root_.Go.OpenSpec := { _root_.Go.OpenSpec.ofChange s with cond := some uptoSmall }

/-- 'thicketlaw13.PairingGreat', WHERE WHAT IT READS IS OF BULK AT MOST 1048576: true; the input reads as it did. -/
def pairingGreatUptoRow : OpenClaim := { program := "ytmabiogngbkhhaa", sum := "40180047152e2a49c3ea5415e2b9e90202082d021019fc38b549713aeac58fbe", func := "thicket/thicketlaw13.PairingGreat", spec := "pairingGreat", unfollowed := true, recurses := true, apart := false, narrowed := true }
def PairingGreatUptoSaid : Prop := pairingGreatUptoRow.holds Try.pinned (OpenSpec.upto pairingGreatSpec)

/-- 'thicketlaw13.PairingMelds', WHERE WHAT IT READS IS OF BULK AT MOST 1048576: true; the input reads as it did. -/
def pairingMeldsUptoRow : OpenClaim := { program := "ytmabiogngbkhhaa", sum := "40180047152e2a49c3ea5415e2b9e90202082d021019fc38b549713aeac58fbe", func := "thicket/thicketlaw13.PairingMelds", spec := "pairingMelds", unfollowed := true, recurses := true, apart := false, narrowed := true }
def PairingMeldsUptoSaid : Prop := pairingMeldsUptoRow.holds Try.pinned (OpenSpec.upto pairingMeldsSpec)

/-- 'thicketlaw13.PairingSorts', WHERE WHAT IT READS IS OF BULK AT MOST 1048576: true; the input reads as it did. -/
def pairingSortsUptoRow : OpenClaim := { program := "ytmabiogngbkhhaa", sum := "40180047152e2a49c3ea5415e2b9e90202082d021019fc38b549713aeac58fbe", func := "thicket/thicketlaw13.PairingSorts", spec := "pairingSorts", unfollowed := true, recurses := true, apart := false, narrowed := true }
def PairingSortsUptoSaid : Prop := pairingSortsUptoRow.holds Try.pinned (OpenSpec.upto pairingSortsSpec)

/-- 'thicketlaw13.PairingFalls', WHERE WHAT IT READS IS OF BULK AT MOST 1048576: true; the input reads as it did. -/
def pairingFallsUptoRow : OpenClaim := { program := "ytmabiogngbkhhaa", sum := "40180047152e2a49c3ea5415e2b9e90202082d021019fc38b549713aeac58fbe", func := "thicket/thicketlaw13.PairingFalls", spec := "pairingFalls", unfollowed := true, recurses := true, apart := false, narrowed := true }
def PairingFallsUptoSaid : Prop := pairingFallsUptoRow.holds Try.pinned (OpenSpec.upto pairingFallsSpec)

/-- 'thicketlaw13.PairingNumbers', WHERE WHAT IT READS IS OF BULK AT MOST 1048576: true; the input reads as it did. -/
def pairingNumbersUptoRow : OpenClaim := { program := "ytmabiogngbkhhaa", sum := "40180047152e2a49c3ea5415e2b9e90202082d021019fc38b549713aeac58fbe", func := "thicket/thicketlaw13.PairingNumbers", spec := "pairingNumbers", unfollowed := true, recurses := true, apart := false, narrowed := true }
def PairingNumbersUptoSaid : Prop := pairingNumbersUptoRow.holds Try.pinned (OpenSpec.upto pairingNumbersSpec)

/-- 'thicketlaw13.PairingPlays', WHERE WHAT IT READS IS OF BULK AT MOST 1048576: true; the input reads as it did. -/
def pairingPlaysUptoRow : OpenClaim := { program := "ytmabiogngbkhhaa", sum := "40180047152e2a49c3ea5415e2b9e90202082d021019fc38b549713aeac58fbe", func := "thicket/thicketlaw13.PairingPlays", spec := "pairingPlays", unfollowed := true, recurses := true, apart := false, narrowed := true }
def PairingPlaysUptoSaid : Prop := pairingPlaysUptoRow.holds Try.pinned (OpenSpec.upto pairingPlaysSpec)

/-- 'thicketlaw13.PairingFull', WHERE WHAT IT READS IS OF BULK AT MOST 1048576: true; the input reads as it did. -/
def pairingFullUptoRow : OpenClaim := { program := "ytmabiogngbkhhaa", sum := "40180047152e2a49c3ea5415e2b9e90202082d021019fc38b549713aeac58fbe", func := "thicket/thicketlaw13.PairingFull", spec := "pairingFull", unfollowed := true, recurses := true, apart := false, narrowed := true }
def PairingFullUptoSaid : Prop := pairingFullUptoRow.holds Try.pinned (OpenSpec.upto pairingFullSpec)

/-- 'thicketlaw13.PairingDrops', WHERE WHAT IT READS IS OF BULK AT MOST 1048576: true; the input reads as it did. -/
def pairingDropsUptoRow : OpenClaim := { program := "ytmabiogngbkhhaa", sum := "40180047152e2a49c3ea5415e2b9e90202082d021019fc38b549713aeac58fbe", func := "thicket/thicketlaw13.PairingDrops", spec := "pairingDrops", unfollowed := true, recurses := true, apart := false, narrowed := true }
def PairingDropsUptoSaid : Prop := pairingDropsUptoRow.holds Try.pinned (OpenSpec.upto pairingDropsSpec)

end Rows
end Go.Proofs.Ytmabiogngbkhhaa
