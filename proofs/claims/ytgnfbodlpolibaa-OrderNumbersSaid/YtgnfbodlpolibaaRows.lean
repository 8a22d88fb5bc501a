/-
  No cell of these rows narrows 'for every input' (looked for: loops, veiled, ifaces, maps, wideKeys, modest, calm, conditions, laid).
  DERIVED. THE GIVEN ROWS OF THIS SEAT. 10 by the template 'for every input the law returns true; each argument reads behind the call as it read before'; 0 by the template 'total and deterministic' (their statements: YtgnfbodlpolibaaTotals.lean).
  GIVEN WITH THE SEED: the statements are not yours to turn. If you find one false, say at which input.
  Laid BY PROGRAM, IN A SANDBOX (cutbox-rows.mjs): the forced cells as the released guide's own fill.sh prints them over the translation 0cb3e7116f4d807b… (all of the seat's roots in one cut). By AI agents, Wed Nov 11 2026. No macro, syntax, notation, axiom, sorry.
-/
import Derived.Test.YtgnfbodlpolibaaChecked
import GoSem.Claim
import GoSem.ClaimJoined
import GoSem.ClaimMapViews
import Derived.JoinedTies
import Derived.KernelRfl
namespace Go.Proofs.Ytgnfbodlpolibaa
/- THE CELL 'sum', in the pinned program and in every row, IS THE sha256 OF THE DUMP (.gsa) THAT YtgnfbodlpolibaaProg.lean LOADS. Nothing in Lean hashes anything: it is a label: what it is worth is what the hold of that sum in a sandbox is worth. -/
noncomputable def Try.pinned : Pinned := { name := "ytgnfbodlpolibaa", sum := "0cb3e7116f4d807b96b3a939b23cb124544b88e75dbe04d121cf5a0845acf372", checked := Try.checked }
namespace Rows
def none {H : Type} : Left H := { results := [], args := [] }

/-- 'thicketlaw1.OrderAdds': WHATEVER THE INPUT: true; the input reads as it did. -/
def orderAddsSpec : ChangeSpec := { name := "orderAdds", fn := fun _ => fun
  | [d1, d2] => { results := [.lit (.bool true)], args := [d1, d2] }
  | _ => none }
def orderAddsRow : OpenClaim := { program := "ytgnfbodlpolibaa", sum := "0cb3e7116f4d807b96b3a939b23cb124544b88e75dbe04d121cf5a0845acf372", func := "thicket/thicketlaw1.OrderAdds", spec := "orderAdds", apart := false }
def OrderAddsSaid : Prop := orderAddsRow.holds Try.pinned (OpenSpec.ofChange orderAddsSpec)

/-- ITS FALSE NEIGHBOUR: 'it returns false'. Refute it at one input. -/
def orderAddsWrong : ChangeSpec := { name := "orderAdds", fn := fun _ => fun
  | [d1, d2] => { results := [.lit (.bool false)], args := [d1, d2] }
  | _ => none }
def OrderAddsWrongFalsely : Prop := orderAddsRow.holds Try.pinned (OpenSpec.ofChange orderAddsWrong)

/-- 'thicketlaw19.BoundRises': WHATEVER THE INPUT: true; the input reads as it did. -/
def boundRisesSpec : ChangeSpec := { name := "boundRises", fn := fun _ => fun
  | [d1, d2, d3, d4] => { results := [.lit (.bool true)], args := [d1, d2, d3, d4] }
  | _ => none }
def boundRisesRow : OpenClaim := { program := "ytgnfbodlpolibaa", sum := "0cb3e7116f4d807b96b3a939b23cb124544b88e75dbe04d121cf5a0845acf372", func := "thicket/thicketlaw19.BoundRises", spec := "boundRises", apart := false }
def BoundRisesSaid : Prop := boundRisesRow.holds Try.pinned (OpenSpec.ofChange boundRisesSpec)

/-- ITS FALSE NEIGHBOUR: 'it returns false'. Refute it at one input. -/
def boundRisesWrong : ChangeSpec := { name := "boundRises", fn := fun _ => fun
  | [d1, d2, d3, d4] => { results := [.lit (.bool false)], args := [d1, d2, d3, d4] }
  | _ => none }
def BoundRisesWrongFalsely : Prop := boundRisesRow.holds Try.pinned (OpenSpec.ofChange boundRisesWrong)

/-- 'thicketlaw19.BoundSums': WHATEVER THE INPUT: true; the input reads as it did. -/
def boundSumsSpec : ChangeSpec := { name := "boundSums", fn := fun _ => fun
  | [d1, d2] => { results := [.lit (.bool true)], args := [d1, d2] }
  | _ => none }
def boundSumsRow : OpenClaim := { program := "ytgnfbodlpolibaa", sum := "0cb3e7116f4d807b96b3a939b23cb124544b88e75dbe04d121cf5a0845acf372", func := "thicket/thicketlaw19.BoundSums", spec := "boundSums", apart := false }
def BoundSumsSaid : Prop := boundSumsRow.holds Try.pinned (OpenSpec.ofChange boundSumsSpec)

/-- ITS FALSE NEIGHBOUR: 'it returns false'. Refute it at one input. -/
def boundSumsWrong : ChangeSpec := { name := "boundSums", fn := fun _ => fun
  | [d1, d2] => { results := [.lit (.bool false)], args := [d1, d2] }
  | _ => none }
def BoundSumsWrongFalsely : Prop := boundSumsRow.holds Try.pinned (OpenSpec.ofChange boundSumsWrong)

/-- 'thicketlaw16.ModelOrder': WHATEVER THE INPUT: true; the input reads as it did. -/
def modelOrderSpec : ChangeSpec := { name := "modelOrder", fn := fun _ => fun
  | [d] => { results := [.lit (.bool true)], args := [d] }
  | _ => none }
def modelOrderRow : OpenClaim := { program := "ytgnfbodlpolibaa", sum := "0cb3e7116f4d807b96b3a939b23cb124544b88e75dbe04d121cf5a0845acf372", func := "thicket/thicketlaw16.ModelOrder", spec := "modelOrder", inPlace := ["slices.overlaps[thicket/api.Entry]"], unfollowed := true, recurses := true, apart := false }
def ModelOrderSaid : Prop := modelOrderRow.holds Try.pinned (OpenSpec.ofChange modelOrderSpec)

/-- ITS FALSE NEIGHBOUR: 'it returns false'. Refute it at one input. -/
def modelOrderWrong : ChangeSpec := { name := "modelOrder", fn := fun _ => fun
  | [d] => { results := [.lit (.bool false)], args := [d] }
  | _ => none }
def ModelOrderWrongFalsely : Prop := modelOrderRow.holds Try.pinned (OpenSpec.ofChange modelOrderWrong)

/-- 'thicketlaw16.ModelJoins': WHATEVER THE INPUT: true; the input reads as it did. -/
def modelJoinsSpec : ChangeSpec := { name := "modelJoins", fn := fun _ => fun
  | [d1, d2, d3] => { results := [.lit (.bool true)], args := [d1, d2, d3] }
  | _ => none }
def modelJoinsRow : OpenClaim := { program := "ytgnfbodlpolibaa", sum := "0cb3e7116f4d807b96b3a939b23cb124544b88e75dbe04d121cf5a0845acf372", func := "thicket/thicketlaw16.ModelJoins", spec := "modelJoins", inPlace := ["slices.overlaps[thicket/api.Entry]"], unfollowed := true, recurses := true, apart := false }
def ModelJoinsSaid : Prop := modelJoinsRow.holds Try.pinned (OpenSpec.ofChange modelJoinsSpec)

/-- ITS FALSE NEIGHBOUR: 'it returns false'. Refute it at one input. -/
def modelJoinsWrong : ChangeSpec := { name := "modelJoins", fn := fun _ => fun
  | [d1, d2, d3] => { results := [.lit (.bool false)], args := [d1, d2, d3] }
  | _ => none }
def ModelJoinsWrongFalsely : Prop := modelJoinsRow.holds Try.pinned (OpenSpec.ofChange modelJoinsWrong)

/-- 'thicketlaw16.ModelNumbers': WHATEVER THE INPUT: true; the input reads as it did. -/
def modelNumbersSpec : ChangeSpec := { name := "modelNumbers", fn := fun _ => fun
  | [] => { results := [.lit (.bool true)], args := [] }
  | _ => none }
def modelNumbersRow : OpenClaim := { program := "ytgnfbodlpolibaa", sum := "0cb3e7116f4d807b96b3a939b23cb124544b88e75dbe04d121cf5a0845acf372", func := "thicket/thicketlaw16.ModelNumbers", spec := "modelNumbers", inPlace := ["slices.overlaps[thicket/api.Entry]"], unfollowed := true, recurses := true, apart := false }
def ModelNumbersSaid : Prop := modelNumbersRow.holds Try.pinned (OpenSpec.ofChange modelNumbersSpec)

/-- ITS FALSE NEIGHBOUR: 'it returns false'. Refute it at one input. -/
def modelNumbersWrong : ChangeSpec := { name := "modelNumbers", fn := fun _ => fun
  | [] => { results := [.lit (.bool false)], args := [] }
  | _ => none }
def ModelNumbersWrongFalsely : Prop := modelNumbersRow.holds Try.pinned (OpenSpec.ofChange modelNumbersWrong)

/-- 'thicketlaw16.ModelPlays': WHATEVER THE INPUT: true; the input reads as it did. -/
def modelPlaysSpec : ChangeSpec := { name := "modelPlays", fn := fun _ => fun
  | [d] => { results := [.lit (.bool true)], args := [d] }
  | _ => none }
def modelPlaysRow : OpenClaim := { program := "ytgnfbodlpolibaa", sum := "0cb3e7116f4d807b96b3a939b23cb124544b88e75dbe04d121cf5a0845acf372", func := "thicket/thicketlaw16.ModelPlays", spec := "modelPlays", inPlace := ["slices.overlaps[thicket/api.Entry]"], unfollowed := true, recurses := true, apart := false }
def ModelPlaysSaid : Prop := modelPlaysRow.holds Try.pinned (OpenSpec.ofChange modelPlaysSpec)

/-- ITS FALSE NEIGHBOUR: 'it returns false'. Refute it at one input. -/
def modelPlaysWrong : ChangeSpec := { name := "modelPlays", fn := fun _ => fun
  | [d] => { results := [.lit (.bool false)], args := [d] }
  | _ => none }
def ModelPlaysWrongFalsely : Prop := modelPlaysRow.holds Try.pinned (OpenSpec.ofChange modelPlaysWrong)

/-- 'thicketlaw1.OrderOrders': WHATEVER THE INPUT: true; the input reads as it did. -/
def orderOrdersSpec : ChangeSpec := { name := "orderOrders", fn := fun _ => fun
  | [d1, d2, d3, d4] => { results := [.lit (.bool true)], args := [d1, d2, d3, d4] }
  | _ => none }
def orderOrdersRow : OpenClaim := { program := "ytgnfbodlpolibaa", sum := "0cb3e7116f4d807b96b3a939b23cb124544b88e75dbe04d121cf5a0845acf372", func := "thicket/thicketlaw1.OrderOrders", spec := "orderOrders", unfollowed := true, recurses := true, apart := false }
def OrderOrdersSaid : Prop := orderOrdersRow.holds Try.pinned (OpenSpec.ofChange orderOrdersSpec)

/-- ITS FALSE NEIGHBOUR: 'it returns false'. Refute it at one input. -/
def orderOrdersWrong : ChangeSpec := { name := "orderOrders", fn := fun _ => fun
  | [d1, d2, d3, d4] => { results := [.lit (.bool false)], args := [d1, d2, d3, d4] }
  | _ => none }
def OrderOrdersWrongFalsely : Prop := orderOrdersRow.holds Try.pinned (OpenSpec.ofChange orderOrdersWrong)

/-- 'thicketlaw1.OrderNumbers': WHATEVER THE INPUT: true; the input reads as it did. -/
def orderNumbersSpec : ChangeSpec := { name := "orderNumbers", fn := fun _ => fun
  | [] => { results := [.lit (.bool true)], args := [] }
  | _ => none }
def orderNumbersRow : OpenClaim := { program := "ytgnfbodlpolibaa", sum := "0cb3e7116f4d807b96b3a939b23cb124544b88e75dbe04d121cf5a0845acf372", func := "thicket/thicketlaw1.OrderNumbers", spec := "orderNumbers", unfollowed := true, recurses := true, apart := false }
def OrderNumbersSaid : Prop := orderNumbersRow.holds Try.pinned (OpenSpec.ofChange orderNumbersSpec)

/-- ITS FALSE NEIGHBOUR: 'it returns false'. Refute it at one input. -/
def orderNumbersWrong : ChangeSpec := { name := "orderNumbers", fn := fun _ => fun
  | [] => { results := [.lit (.bool false)], args := [] }
  | _ => none }
def OrderNumbersWrongFalsely : Prop := orderNumbersRow.holds Try.pinned (OpenSpec.ofChange orderNumbersWrong)

/-- 'thicketlaw1.OrderTells': WHATEVER THE INPUT: true; the input reads as it did. -/
def orderTellsSpec : ChangeSpec := { name := "orderTells", fn := fun _ => fun
  | [d1, d2, d3, d4, d5, d6] => { results := [.lit (.bool true)], args := [d1, d2, d3, d4, d5, d6] }
  | _ => none }
def orderTellsRow : OpenClaim := { program := "ytgnfbodlpolibaa", sum := "0cb3e7116f4d807b96b3a939b23cb124544b88e75dbe04d121cf5a0845acf372", func := "thicket/thicketlaw1.OrderTells", spec := "orderTells", unfollowed := true, recurses := true, apart := false }
def OrderTellsSaid : Prop := orderTellsRow.holds Try.pinned (OpenSpec.ofChange orderTellsSpec)

/-- ITS FALSE NEIGHBOUR: 'it returns false'. Refute it at one input. -/
def orderTellsWrong : ChangeSpec := { name := "orderTells", fn := fun _ => fun
  | [d1, d2, d3, d4, d5, d6] => { results := [.lit (.bool false)], args := [d1, d2, d3, d4, d5, d6] }
  | _ => none }
def OrderTellsWrongFalsely : Prop := orderTellsRow.holds Try.pinned (OpenSpec.ofChange orderTellsWrong)

/- THE SECOND FORM. 'bulk': how many values and letters a reading holds, each counted each time it is reached (what is shared counts as often as it is met; a slice's spare places count too). A statement '..UptoSaid' is the law's where the arguments, and the package variables that the reading takes, are together of bulk at most 1048576: NARROWER than '..Said'. Prove '..Said' where nothing that the law and all that it calls make is longer than what came in: it says more and counts as full. Else prove '..UptoSaid'. A law counts once. -/
mutual
def uptoBulk {H : Type} : DataW H → Nat
  | .lit (.string bytes) => bytes.length + 1
  | .lit _ => 1
  | .nil => 1
  | .ptr d => uptoBulk d + 1
  | .slice elems spare => uptoBulkAll elems + uptoBulkAll spare + 1
  | .agg parts => uptoBulkAll parts + 1
  | .iface _ d => uptoBulk d + 1
  | .map entries => uptoBulkEntries entries + 1
  | .held _ => 1
def uptoBulkAll {H : Type} : List (DataW H) → Nat
  | [] => 0
  | d :: r => uptoBulk d + uptoBulkAll r
def uptoBulkEntries {H : Type} : List (Lit × DataW H) → Nat
  | [] => 0
  | x :: r => uptoBulkEntry x + uptoBulkEntries r
def uptoBulkEntry {H : Type} : Lit × DataW H → Nat
  | (.string bytes, d) => bytes.length + uptoBulk d + 1
  | (_, d) => uptoBulk d + 1
 end
def uptoSmall : (H : Type) → List (DataW H) → Bool := fun _ ds => decide (uptoBulkAll ds ≤ 1048576)
def OpenSpec.upto (s : _root_.Go.ChangeSpec) : _root_.Go.OpenSpec := { _root_.Go.OpenSpec.ofChange s with cond := some uptoSmall }

/-- 'thicketlaw1.OrderAdds', WHERE WHAT IT READS IS OF BULK AT MOST 1048576: true; the input reads as it did. -/
def orderAddsUptoRow : OpenClaim := { program := "ytgnfbodlpolibaa", sum := "0cb3e7116f4d807b96b3a939b23cb124544b88e75dbe04d121cf5a0845acf372", func := "thicket/thicketlaw1.OrderAdds", spec := "orderAdds", apart := false, narrowed := true }
def OrderAddsUptoSaid : Prop := orderAddsUptoRow.holds Try.pinned (OpenSpec.upto orderAddsSpec)

/-- 'thicketlaw19.BoundRises', WHERE WHAT IT READS IS OF BULK AT MOST 1048576: true; the input reads as it did. -/
def boundRisesUptoRow : OpenClaim := { program := "ytgnfbodlpolibaa", sum := "0cb3e7116f4d807b96b3a939b23cb124544b88e75dbe04d121cf5a0845acf372", func := "thicket/thicketlaw19.BoundRises", spec := "boundRises", apart := false, narrowed := true }
def BoundRisesUptoSaid : Prop := boundRisesUptoRow.holds Try.pinned (OpenSpec.upto boundRisesSpec)

/-- 'thicketlaw19.BoundSums', WHERE WHAT IT READS IS OF BULK AT MOST 1048576: true; the input reads as it did. -/
def boundSumsUptoRow : OpenClaim := { program := "ytgnfbodlpolibaa", sum := "0cb3e7116f4d807b96b3a939b23cb124544b88e75dbe04d121cf5a0845acf372", func := "thicket/thicketlaw19.BoundSums", spec := "boundSums", apart := false, narrowed := true }
def BoundSumsUptoSaid : Prop := boundSumsUptoRow.holds Try.pinned (OpenSpec.upto boundSumsSpec)

/-- 'thicketlaw16.ModelOrder', WHERE WHAT IT READS IS OF BULK AT MOST 1048576: true; the input reads as it did. -/
def modelOrderUptoRow : OpenClaim := { program := "ytgnfbodlpolibaa", sum := "0cb3e7116f4d807b96b3a939b23cb124544b88e75dbe04d121cf5a0845acf372", func := "thicket/thicketlaw16.ModelOrder", spec := "modelOrder", inPlace := ["slices.overlaps[thicket/api.Entry]"], unfollowed := true, recurses := true, apart := false, narrowed := true }
def ModelOrderUptoSaid : Prop := modelOrderUptoRow.holds Try.pinned (OpenSpec.upto modelOrderSpec)

/-- 'thicketlaw16.ModelJoins', WHERE WHAT IT READS IS OF BULK AT MOST 1048576: true; the input reads as it did. -/
def modelJoinsUptoRow : OpenClaim := { program := "ytgnfbodlpolibaa", sum := "0cb3e7116f4d807b96b3a939b23cb124544b88e75dbe04d121cf5a0845acf372", func := "thicket/thicketlaw16.ModelJoins", spec := "modelJoins", inPlace := ["slices.overlaps[thicket/api.Entry]"], unfollowed := true, recurses := true, apart := false, narrowed := true }
def ModelJoinsUptoSaid : Prop := modelJoinsUptoRow.holds Try.pinned (OpenSpec.upto modelJoinsSpec)

/-- 'thicketlaw16.ModelNumbers', WHERE WHAT IT READS IS OF BULK AT MOST 1048576: true; the input reads as it did. -/
def modelNumbersUptoRow : OpenClaim := { program := "ytgnfbodlpolibaa", sum := "0cb3e7116f4d807b96b3a939b23cb124544b88e75dbe04d121cf5a0845acf372", func := "thicket/thicketlaw16.ModelNumbers", spec := "modelNumbers", inPlace := ["slices.overlaps[thicket/api.Entry]"], unfollowed := true, recurses := true, apart := false, narrowed := true }
def ModelNumbersUptoSaid : Prop := modelNumbersUptoRow.holds Try.pinned (OpenSpec.upto modelNumbersSpec)

/-- 'thicketlaw16.ModelPlays', WHERE WHAT IT READS IS OF BULK AT MOST 1048576: true; the input reads as it did. -/
def modelPlaysUptoRow : OpenClaim := { program := "ytgnfbodlpolibaa", sum := "0cb3e7116f4d807b96b3a939b23cb124544b88e75dbe04d121cf5a0845acf372", func := "thicket/thicketlaw16.ModelPlays", spec := "modelPlays", inPlace := ["slices.overlaps[thicket/api.Entry]"], unfollowed := true, recurses := true, apart := false, narrowed := true }
def ModelPlaysUptoSaid : Prop := modelPlaysUptoRow.holds Try.pinned (OpenSpec.upto modelPlaysSpec)

/-- 'thicketlaw1.OrderOrders', WHERE WHAT IT READS IS OF BULK AT MOST 1048576: true; the input reads as it did. -/
def orderOrdersUptoRow : OpenClaim := { program := "ytgnfbodlpolibaa", sum := "0cb3e7116f4d807b96b3a939b23cb124544b88e75dbe04d121cf5a0845acf372", func := "thicket/thicketlaw1.OrderOrders", spec := "orderOrders", unfollowed := true, recurses := true, apart := false, narrowed := true }
def OrderOrdersUptoSaid : Prop := orderOrdersUptoRow.holds Try.pinned (OpenSpec.upto orderOrdersSpec)

/-- 'thicketlaw1.OrderNumbers', WHERE WHAT IT READS IS OF BULK AT MOST 1048576: true; the input reads as it did. -/
def orderNumbersUptoRow : OpenClaim := { program := "ytgnfbodlpolibaa", sum := "0cb3e7116f4d807b96b3a939b23cb124544b88e75dbe04d121cf5a0845acf372", func := "thicket/thicketlaw1.OrderNumbers", spec := "orderNumbers", unfollowed := true, recurses := true, apart := false, narrowed := true }
def OrderNumbersUptoSaid : Prop := orderNumbersUptoRow.holds Try.pinned (OpenSpec.upto orderNumbersSpec)

/-- 'thicketlaw1.OrderTells', WHERE WHAT IT READS IS OF BULK AT MOST 1048576: true; the input reads as it did. -/
def orderTellsUptoRow : OpenClaim := { program := "ytgnfbodlpolibaa", sum := "0cb3e7116f4d807b96b3a939b23cb124544b88e75dbe04d121cf5a0845acf372", func := "thicket/thicketlaw1.OrderTells", spec := "orderTells", unfollowed := true, recurses := true, apart := false, narrowed := true }
def OrderTellsUptoSaid : Prop := orderTellsUptoRow.holds Try.pinned (OpenSpec.upto orderTellsSpec)

end Rows
end Go.Proofs.Ytgnfbodlpolibaa
