/-
  No cell of these rows narrows 'for every input' (looked for: loops, veiled, ifaces, maps, wideKeys, modest, calm, conditions, laid).
  DERIVED. THE GIVEN ROWS OF THIS SEAT. 8 by the template 'for every input the law returns true; each argument reads behind the call as it read before'; 0 by the template 'total and deterministic' (their statements: YtiejdmkobmphfaaTotals.lean).
  GIVEN WITH THE SEED: the statements are not yours to turn. If you find one false, say at which input.
  Laid BY PROGRAM, IN A SANDBOX (cutbox-rows.mjs): the forced cells as the released guide's own fill.sh prints them over the translation c7551ad21356be0d… (all of the seat's roots in one cut). By AI agents, Wed Nov 11 2026. No macro, syntax, notation, axiom, sorry.
-/
import Derived.Test.YtiejdmkobmphfaaChecked
import GoSem.Claim
import GoSem.ClaimJoined
import GoSem.ClaimMapViews
import Derived.JoinedTies
import Derived.KernelRfl
namespace Go.Proofs.Ytiejdmkobmphfaa
/- THE CELL 'sum', in the pinned program and in every row, IS THE sha256 OF THE DUMP (.gsa) THAT YtiejdmkobmphfaaProg.lean LOADS. Nothing in Lean hashes anything: it is a label: what it is worth is what the hold of that sum in a sandbox is worth. -/
noncomputable def Try.pinned : Pinned := { name := "ytiejdmkobmphfaa", sum := "c7551ad21356be0d0cae8dbef1eab3ca1d0a38fdc81a85eb1d20deb29d772a68", checked := Try.checked }
namespace Rows
def none {H : Type} : Left H := { results := [], args := [] }

/-- 'thicketlaw8.LeftistGreat': WHATEVER THE INPUT: true; the input reads as it did. -/
def leftistGreatSpec : ChangeSpec := { name := "leftistGreat", fn := fun _ => fun
  | [d1, d2, d3] => { results := [.lit (.bool true)], args := [d1, d2, d3] }
  | _ => none }
def leftistGreatRow : OpenClaim := { program := "ytiejdmkobmphfaa", sum := "c7551ad21356be0d0cae8dbef1eab3ca1d0a38fdc81a85eb1d20deb29d772a68", func := "thicket/thicketlaw8.LeftistGreat", spec := "leftistGreat", unfollowed := true, recurses := true, apart := false }
def LeftistGreatSaid : Prop := leftistGreatRow.holds Try.pinned (OpenSpec.ofChange leftistGreatSpec)

/-- ITS FALSE NEIGHBOUR: 'it returns false'. Refute it at one input. -/
def leftistGreatWrong : ChangeSpec := { name := "leftistGreat", fn := fun _ => fun
  | [d1, d2, d3] => { results := [.lit (.bool false)], args := [d1, d2, d3] }
  | _ => none }
def LeftistGreatWrongFalsely : Prop := leftistGreatRow.holds Try.pinned (OpenSpec.ofChange leftistGreatWrong)

/-- 'thicketlaw8.LeftistMelds': WHATEVER THE INPUT: true; the input reads as it did. -/
def leftistMeldsSpec : ChangeSpec := { name := "leftistMelds", fn := fun _ => fun
  | [d1, d2] => { results := [.lit (.bool true)], args := [d1, d2] }
  | _ => none }
def leftistMeldsRow : OpenClaim := { program := "ytiejdmkobmphfaa", sum := "c7551ad21356be0d0cae8dbef1eab3ca1d0a38fdc81a85eb1d20deb29d772a68", func := "thicket/thicketlaw8.LeftistMelds", spec := "leftistMelds", unfollowed := true, recurses := true, apart := false }
def LeftistMeldsSaid : Prop := leftistMeldsRow.holds Try.pinned (OpenSpec.ofChange leftistMeldsSpec)

/-- ITS FALSE NEIGHBOUR: 'it returns false'. Refute it at one input. -/
def leftistMeldsWrong : ChangeSpec := { name := "leftistMelds", fn := fun _ => fun
  | [d1, d2] => { results := [.lit (.bool false)], args := [d1, d2] }
  | _ => none }
def LeftistMeldsWrongFalsely : Prop := leftistMeldsRow.holds Try.pinned (OpenSpec.ofChange leftistMeldsWrong)

/-- 'thicketlaw8.LeftistSorts': WHATEVER THE INPUT: true; the input reads as it did. -/
def leftistSortsSpec : ChangeSpec := { name := "leftistSorts", fn := fun _ => fun
  | [d1, d2] => { results := [.lit (.bool true)], args := [d1, d2] }
  | _ => none }
def leftistSortsRow : OpenClaim := { program := "ytiejdmkobmphfaa", sum := "c7551ad21356be0d0cae8dbef1eab3ca1d0a38fdc81a85eb1d20deb29d772a68", func := "thicket/thicketlaw8.LeftistSorts", spec := "leftistSorts", unfollowed := true, recurses := true, apart := false }
def LeftistSortsSaid : Prop := leftistSortsRow.holds Try.pinned (OpenSpec.ofChange leftistSortsSpec)

/-- ITS FALSE NEIGHBOUR: 'it returns false'. Refute it at one input. -/
def leftistSortsWrong : ChangeSpec := { name := "leftistSorts", fn := fun _ => fun
  | [d1, d2] => { results := [.lit (.bool false)], args := [d1, d2] }
  | _ => none }
def LeftistSortsWrongFalsely : Prop := leftistSortsRow.holds Try.pinned (OpenSpec.ofChange leftistSortsWrong)

/-- 'thicketlaw8.LeftistFalls': WHATEVER THE INPUT: true; the input reads as it did. -/
def leftistFallsSpec : ChangeSpec := { name := "leftistFalls", fn := fun _ => fun
  | [d1, d2, d3] => { results := [.lit (.bool true)], args := [d1, d2, d3] }
  | _ => none }
def leftistFallsRow : OpenClaim := { program := "ytiejdmkobmphfaa", sum := "c7551ad21356be0d0cae8dbef1eab3ca1d0a38fdc81a85eb1d20deb29d772a68", func := "thicket/thicketlaw8.LeftistFalls", spec := "leftistFalls", unfollowed := true, recurses := true, apart := false }
def LeftistFallsSaid : Prop := leftistFallsRow.holds Try.pinned (OpenSpec.ofChange leftistFallsSpec)

/-- ITS FALSE NEIGHBOUR: 'it returns false'. Refute it at one input. -/
def leftistFallsWrong : ChangeSpec := { name := "leftistFalls", fn := fun _ => fun
  | [d1, d2, d3] => { results := [.lit (.bool false)], args := [d1, d2, d3] }
  | _ => none }
def LeftistFallsWrongFalsely : Prop := leftistFallsRow.holds Try.pinned (OpenSpec.ofChange leftistFallsWrong)

/-- 'thicketlaw8.LeftistNumbers': WHATEVER THE INPUT: true; the input reads as it did. -/
def leftistNumbersSpec : ChangeSpec := { name := "leftistNumbers", fn := fun _ => fun
  | [] => { results := [.lit (.bool true)], args := [] }
  | _ => none }
def leftistNumbersRow : OpenClaim := { program := "ytiejdmkobmphfaa", sum := "c7551ad21356be0d0cae8dbef1eab3ca1d0a38fdc81a85eb1d20deb29d772a68", func := "thicket/thicketlaw8.LeftistNumbers", spec := "leftistNumbers", unfollowed := true, recurses := true, apart := false }
def LeftistNumbersSaid : Prop := leftistNumbersRow.holds Try.pinned (OpenSpec.ofChange leftistNumbersSpec)

/-- ITS FALSE NEIGHBOUR: 'it returns false'. Refute it at one input. -/
def leftistNumbersWrong : ChangeSpec := { name := "leftistNumbers", fn := fun _ => fun
  | [] => { results := [.lit (.bool false)], args := [] }
  | _ => none }
def LeftistNumbersWrongFalsely : Prop := leftistNumbersRow.holds Try.pinned (OpenSpec.ofChange leftistNumbersWrong)

/-- 'thicketlaw8.LeftistPlays': WHATEVER THE INPUT: true; the input reads as it did. -/
def leftistPlaysSpec : ChangeSpec := { name := "leftistPlays", fn := fun _ => fun
  | [d] => { results := [.lit (.bool true)], args := [d] }
  | _ => none }
def leftistPlaysRow : OpenClaim := { program := "ytiejdmkobmphfaa", sum := "c7551ad21356be0d0cae8dbef1eab3ca1d0a38fdc81a85eb1d20deb29d772a68", func := "thicket/thicketlaw8.LeftistPlays", spec := "leftistPlays", unfollowed := true, recurses := true, apart := false }
def LeftistPlaysSaid : Prop := leftistPlaysRow.holds Try.pinned (OpenSpec.ofChange leftistPlaysSpec)

/-- ITS FALSE NEIGHBOUR: 'it returns false'. Refute it at one input. -/
def leftistPlaysWrong : ChangeSpec := { name := "leftistPlays", fn := fun _ => fun
  | [d] => { results := [.lit (.bool false)], args := [d] }
  | _ => none }
def LeftistPlaysWrongFalsely : Prop := leftistPlaysRow.holds Try.pinned (OpenSpec.ofChange leftistPlaysWrong)

/-- 'thicketlaw8.LeftistFull': WHATEVER THE INPUT: true; the input reads as it did. -/
def leftistFullSpec : ChangeSpec := { name := "leftistFull", fn := fun _ => fun
  | [d1, d2] => { results := [.lit (.bool true)], args := [d1, d2] }
  | _ => none }
def leftistFullRow : OpenClaim := { program := "ytiejdmkobmphfaa", sum := "c7551ad21356be0d0cae8dbef1eab3ca1d0a38fdc81a85eb1d20deb29d772a68", func := "thicket/thicketlaw8.LeftistFull", spec := "leftistFull", unfollowed := true, recurses := true, apart := false }
def LeftistFullSaid : Prop := leftistFullRow.holds Try.pinned (OpenSpec.ofChange leftistFullSpec)

/-- ITS FALSE NEIGHBOUR: 'it returns false'. Refute it at one input. -/
def leftistFullWrong : ChangeSpec := { name := "leftistFull", fn := fun _ => fun
  | [d1, d2] => { results := [.lit (.bool false)], args := [d1, d2] }
  | _ => none }
def LeftistFullWrongFalsely : Prop := leftistFullRow.holds Try.pinned (OpenSpec.ofChange leftistFullWrong)

/-- 'thicketlaw8.LeftistDrops': WHATEVER THE INPUT: true; the input reads as it did. -/
def leftistDropsSpec : ChangeSpec := { name := "leftistDrops", fn := fun _ => fun
  | [d1, d2] => { results := [.lit (.bool true)], args := [d1, d2] }
  | _ => none }
def leftistDropsRow : OpenClaim := { program := "ytiejdmkobmphfaa", sum := "c7551ad21356be0d0cae8dbef1eab3ca1d0a38fdc81a85eb1d20deb29d772a68", func := "thicket/thicketlaw8.LeftistDrops", spec := "leftistDrops", unfollowed := true, recurses := true, apart := false }
def LeftistDropsSaid : Prop := leftistDropsRow.holds Try.pinned (OpenSpec.ofChange leftistDropsSpec)

/-- ITS FALSE NEIGHBOUR: 'it returns false'. Refute it at one input. -/
def leftistDropsWrong : ChangeSpec := { name := "leftistDrops", fn := fun _ => fun
  | [d1, d2] => { results := [.lit (.bool false)], args := [d1, d2] }
  | _ => none }
def LeftistDropsWrongFalsely : Prop := leftistDropsRow.holds Try.pinned (OpenSpec.ofChange leftistDropsWrong)

/- THE SECOND FORM. 'bulk': how many values and letters a reading holds, each counted each time it is reached (what is shared counts as often as it is met; a slice's spare places count too). A statement '..UptoSaid' is the law's where the arguments, and the package variables that the reading takes, are together of bulk at most 1048576: NARROWER than '..Said'. Prove '..Said' where nothing that the law and all that it calls make is longer than what came in: it says more and counts as full. Else prove '..UptoSaid'. A law counts once. -/
mutual
def uptoBulk {H : Type} : DataW H → Nat
  | .lit (.string bytes) => bytes.length + 1
  | .lit _ => 1
  | .nil => 1
  | .ptr d => uptoBulk d + 1
  | .slice elems spare => uptoBulkAll elems + uptoBulkAll spare + 1
  | .agg parts => uptoBulkAll parts + 1
  | .iface _ d => uptoBulk d + 1
  | .map entries => uptoBulkEntries entries + 1
  | .held _ => 1
def uptoBulkAll {H : Type} : List (DataW H) → Nat
  | [] => 0
  | d :: r => uptoBulk d + uptoBulkAll r
def uptoBulkEntries {H : Type} : List (Lit × DataW H) → Nat
  | [] => 0
  | x :: r => uptoBulkEntry x + uptoBulkEntries r
def uptoBulkEntry {H : Type} : Lit × DataW H → Nat
  | (.string bytes, d) => bytes.length + uptoBulk d + 1
  | (_, d) => uptoBulk d + 1
 end
def uptoSmall : (H : Type) → List (DataW H) → Bool := fun _ ds => decide (uptoBulkAll ds ≤ 1048576)
def OpenSpec.upto (s : _root_.Go.ChangeSpec) : _root_.Go.OpenSpec := { _root_.Go.OpenSpec.ofChange s with cond := some uptoSmall }

/-- 'thicketlaw8.LeftistGreat', WHERE WHAT IT READS IS OF BULK AT MOST 1048576: true; the input reads as it did. -/
def leftistGreatUptoRow : OpenClaim := { program := "ytiejdmkobmphfaa", sum := "c7551ad21356be0d0cae8dbef1eab3ca1d0a38fdc81a85eb1d20deb29d772a68", func := "thicket/thicketlaw8.LeftistGreat", spec := "leftistGreat", unfollowed := true, recurses := true, apart := false, narrowed := true }
def LeftistGreatUptoSaid : Prop := leftistGreatUptoRow.holds Try.pinned (OpenSpec.upto leftistGreatSpec)

/-- 'thicketlaw8.LeftistMelds', WHERE WHAT IT READS IS OF BULK AT MOST 1048576: true; the input reads as it did. -/
def leftistMeldsUptoRow : OpenClaim := { program := "ytiejdmkobmphfaa", sum := "c7551ad21356be0d0cae8dbef1eab3ca1d0a38fdc81a85eb1d20deb29d772a68", func := "thicket/thicketlaw8.LeftistMelds", spec := "leftistMelds", unfollowed := true, recurses := true, apart := false, narrowed := true }
def LeftistMeldsUptoSaid : Prop := leftistMeldsUptoRow.holds Try.pinned (OpenSpec.upto leftistMeldsSpec)

/-- 'thicketlaw8.LeftistSorts', WHERE WHAT IT READS IS OF BULK AT MOST 1048576: true; the input reads as it did. -/
def leftistSortsUptoRow : OpenClaim := { program := "ytiejdmkobmphfaa", sum := "c7551ad21356be0d0cae8dbef1eab3ca1d0a38fdc81a85eb1d20deb29d772a68", func := "thicket/thicketlaw8.LeftistSorts", spec := "leftistSorts", unfollowed := true, recurses := true, apart := false, narrowed := true }
def LeftistSortsUptoSaid : Prop := leftistSortsUptoRow.holds Try.pinned (OpenSpec.upto leftistSortsSpec)

/-- 'thicketlaw8.LeftistFalls', WHERE WHAT IT READS IS OF BULK AT MOST 1048576: true; the input reads as it did. -/
def leftistFallsUptoRow : OpenClaim := { program := "ytiejdmkobmphfaa", sum := "c7551ad21356be0d0cae8dbef1eab3ca1d0a38fdc81a85eb1d20deb29d772a68", func := "thicket/thicketlaw8.LeftistFalls", spec := "leftistFalls", unfollowed := true, recurses := true, apart := false, narrowed := true }
def LeftistFallsUptoSaid : Prop := leftistFallsUptoRow.holds Try.pinned (OpenSpec.upto leftistFallsSpec)

/-- 'thicketlaw8.LeftistNumbers', WHERE WHAT IT READS IS OF BULK AT MOST 1048576: true; the input reads as it did. -/
def leftistNumbersUptoRow : OpenClaim := { program := "ytiejdmkobmphfaa", sum := "c7551ad21356be0d0cae8dbef1eab3ca1d0a38fdc81a85eb1d20deb29d772a68", func := "thicket/thicketlaw8.LeftistNumbers", spec := "leftistNumbers", unfollowed := true, recurses := true, apart := false, narrowed := true }
def LeftistNumbersUptoSaid : Prop := leftistNumbersUptoRow.holds Try.pinned (OpenSpec.upto leftistNumbersSpec)

/-- 'thicketlaw8.LeftistPlays', WHERE WHAT IT READS IS OF BULK AT MOST 1048576: true; the input reads as it did. -/
def leftistPlaysUptoRow : OpenClaim := { program := "ytiejdmkobmphfaa", sum := "c7551ad21356be0d0cae8dbef1eab3ca1d0a38fdc81a85eb1d20deb29d772a68", func := "thicket/thicketlaw8.LeftistPlays", spec := "leftistPlays", unfollowed := true, recurses := true, apart := false, narrowed := true }
def LeftistPlaysUptoSaid : Prop := leftistPlaysUptoRow.holds Try.pinned (OpenSpec.upto leftistPlaysSpec)

/-- 'thicketlaw8.LeftistFull', WHERE WHAT IT READS IS OF BULK AT MOST 1048576: true; the input reads as it did. -/
def leftistFullUptoRow : OpenClaim := { program := "ytiejdmkobmphfaa", sum := "c7551ad21356be0d0cae8dbef1eab3ca1d0a38fdc81a85eb1d20deb29d772a68", func := "thicket/thicketlaw8.LeftistFull", spec := "leftistFull", unfollowed := true, recurses := true, apart := false, narrowed := true }
def LeftistFullUptoSaid : Prop := leftistFullUptoRow.holds Try.pinned (OpenSpec.upto leftistFullSpec)

/-- 'thicketlaw8.LeftistDrops', WHERE WHAT IT READS IS OF BULK AT MOST 1048576: true; the input reads as it did. -/
def leftistDropsUptoRow : OpenClaim := { program := "ytiejdmkobmphfaa", sum := "c7551ad21356be0d0cae8dbef1eab3ca1d0a38fdc81a85eb1d20deb29d772a68", func := "thicket/thicketlaw8.LeftistDrops", spec := "leftistDrops", unfollowed := true, recurses := true, apart := false, narrowed := true }
def LeftistDropsUptoSaid : Prop := leftistDropsUptoRow.holds Try.pinned (OpenSpec.upto leftistDropsSpec)

end Rows
end Go.Proofs.Ytiejdmkobmphfaa
