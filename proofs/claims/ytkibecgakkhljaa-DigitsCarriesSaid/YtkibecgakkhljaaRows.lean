/-
  No cell of these rows narrows 'for every input' (looked for: loops, veiled, ifaces, maps, wideKeys, modest, calm, conditions, laid).
  DERIVED. THE GIVEN ROWS OF THIS SEAT. 10 by the template 'for every input the law returns true; each argument reads behind the call as it read before'; 0 by the template 'total and deterministic' (their statements: YtkibecgakkhljaaTotals.lean).
  GIVEN WITH THE SEED: the statements are not yours to turn. If you find one false, say at which input.
  Laid BY PROGRAM, IN A SANDBOX (cutbox-rows.mjs): the forced cells as the released guide's own fill.sh prints them over the translation b4831b350cc5c8d8… (all of the seat's roots in one cut). By AI agents, Wed Nov 11 2026. No macro, syntax, notation, axiom, sorry.
-/
import Derived.Test.YtkibecgakkhljaaChecked
import GoSem.Claim
import GoSem.ClaimJoined
import GoSem.ClaimMapViews
import Derived.JoinedTies
import Derived.KernelRfl
namespace Go.Proofs.Ytkibecgakkhljaa
/- THE CELL 'sum', in the pinned program and in every row, IS THE sha256 OF THE DUMP (.gsa) THAT YtkibecgakkhljaaProg.lean LOADS. Nothing in Lean hashes anything: it is a label: what it is worth is what the hold of that sum in a sandbox is worth. -/
noncomputable def Try.pinned : Pinned := { name := "ytkibecgakkhljaa", sum := "b4831b350cc5c8d8830c62d108148fc9161c4d43057ce20722167edb434aae07", checked := Try.checked }
namespace Rows
def none {H : Type} : Left H := { results := [], args := [] }

/-- 'thicketlaw20.ClockNumbers': WHATEVER THE INPUT: true; the input reads as it did. -/
def clockNumbersSpec : ChangeSpec := { name := "clockNumbers", fn := fun _ => fun
  | [] => { results := [.lit (.bool true)], args := [] }
  | _ => none }
def clockNumbersRow : OpenClaim := { program := "ytkibecgakkhljaa", sum := "b4831b350cc5c8d8830c62d108148fc9161c4d43057ce20722167edb434aae07", func := "thicket/thicketlaw20.ClockNumbers", spec := "clockNumbers", apart := false }
def ClockNumbersSaid : Prop := clockNumbersRow.holds Try.pinned (OpenSpec.ofChange clockNumbersSpec)

/-- ITS FALSE NEIGHBOUR: 'it returns false'. Refute it at one input. -/
def clockNumbersWrong : ChangeSpec := { name := "clockNumbers", fn := fun _ => fun
  | [] => { results := [.lit (.bool false)], args := [] }
  | _ => none }
def ClockNumbersWrongFalsely : Prop := clockNumbersRow.holds Try.pinned (OpenSpec.ofChange clockNumbersWrong)

/-- 'thicketlaw20.ClockPlays': WHATEVER THE INPUT: true; the input reads as it did. -/
def clockPlaysSpec : ChangeSpec := { name := "clockPlays", fn := fun _ => fun
  | [d1, d2] => { results := [.lit (.bool true)], args := [d1, d2] }
  | _ => none }
def clockPlaysRow : OpenClaim := { program := "ytkibecgakkhljaa", sum := "b4831b350cc5c8d8830c62d108148fc9161c4d43057ce20722167edb434aae07", func := "thicket/thicketlaw20.ClockPlays", spec := "clockPlays", apart := false }
def ClockPlaysSaid : Prop := clockPlaysRow.holds Try.pinned (OpenSpec.ofChange clockPlaysSpec)

/-- ITS FALSE NEIGHBOUR: 'it returns false'. Refute it at one input. -/
def clockPlaysWrong : ChangeSpec := { name := "clockPlays", fn := fun _ => fun
  | [d1, d2] => { results := [.lit (.bool false)], args := [d1, d2] }
  | _ => none }
def ClockPlaysWrongFalsely : Prop := clockPlaysRow.holds Try.pinned (OpenSpec.ofChange clockPlaysWrong)

/-- 'thicketlaw20.ClockStays': WHATEVER THE INPUT: true; the input reads as it did. -/
def clockStaysSpec : ChangeSpec := { name := "clockStays", fn := fun _ => fun
  | [d1, d2] => { results := [.lit (.bool true)], args := [d1, d2] }
  | _ => none }
def clockStaysRow : OpenClaim := { program := "ytkibecgakkhljaa", sum := "b4831b350cc5c8d8830c62d108148fc9161c4d43057ce20722167edb434aae07", func := "thicket/thicketlaw20.ClockStays", spec := "clockStays", apart := false }
def ClockStaysSaid : Prop := clockStaysRow.holds Try.pinned (OpenSpec.ofChange clockStaysSpec)

/-- ITS FALSE NEIGHBOUR: 'it returns false'. Refute it at one input. -/
def clockStaysWrong : ChangeSpec := { name := "clockStays", fn := fun _ => fun
  | [d1, d2] => { results := [.lit (.bool false)], args := [d1, d2] }
  | _ => none }
def ClockStaysWrongFalsely : Prop := clockStaysRow.holds Try.pinned (OpenSpec.ofChange clockStaysWrong)

/-- 'thicketlaw10.SkewnumNumbers': WHATEVER THE INPUT: true; the input reads as it did. -/
def skewnumNumbersSpec : ChangeSpec := { name := "skewnumNumbers", fn := fun _ => fun
  | [] => { results := [.lit (.bool true)], args := [] }
  | _ => none }
def skewnumNumbersRow : OpenClaim := { program := "ytkibecgakkhljaa", sum := "b4831b350cc5c8d8830c62d108148fc9161c4d43057ce20722167edb434aae07", func := "thicket/thicketlaw10.SkewnumNumbers", spec := "skewnumNumbers", apart := false }
def SkewnumNumbersSaid : Prop := skewnumNumbersRow.holds Try.pinned (OpenSpec.ofChange skewnumNumbersSpec)

/-- ITS FALSE NEIGHBOUR: 'it returns false'. Refute it at one input. -/
def skewnumNumbersWrong : ChangeSpec := { name := "skewnumNumbers", fn := fun _ => fun
  | [] => { results := [.lit (.bool false)], args := [] }
  | _ => none }
def SkewnumNumbersWrongFalsely : Prop := skewnumNumbersRow.holds Try.pinned (OpenSpec.ofChange skewnumNumbersWrong)

/-- 'thicketlaw10.SkewnumOne': WHATEVER THE INPUT: true; the input reads as it did. -/
def skewnumOneSpec : ChangeSpec := { name := "skewnumOne", fn := fun _ => fun
  | [d] => { results := [.lit (.bool true)], args := [d] }
  | _ => none }
def skewnumOneRow : OpenClaim := { program := "ytkibecgakkhljaa", sum := "b4831b350cc5c8d8830c62d108148fc9161c4d43057ce20722167edb434aae07", func := "thicket/thicketlaw10.SkewnumOne", spec := "skewnumOne", apart := false }
def SkewnumOneSaid : Prop := skewnumOneRow.holds Try.pinned (OpenSpec.ofChange skewnumOneSpec)

/-- ITS FALSE NEIGHBOUR: 'it returns false'. Refute it at one input. -/
def skewnumOneWrong : ChangeSpec := { name := "skewnumOne", fn := fun _ => fun
  | [d] => { results := [.lit (.bool false)], args := [d] }
  | _ => none }
def SkewnumOneWrongFalsely : Prop := skewnumOneRow.holds Try.pinned (OpenSpec.ofChange skewnumOneWrong)

/-- 'thicketlaw14.DigitsNumbers': WHATEVER THE INPUT: true; the input reads as it did. -/
def digitsNumbersSpec : ChangeSpec := { name := "digitsNumbers", fn := fun _ => fun
  | [] => { results := [.lit (.bool true)], args := [] }
  | _ => none }
def digitsNumbersRow : OpenClaim := { program := "ytkibecgakkhljaa", sum := "b4831b350cc5c8d8830c62d108148fc9161c4d43057ce20722167edb434aae07", func := "thicket/thicketlaw14.DigitsNumbers", spec := "digitsNumbers", apart := false }
def DigitsNumbersSaid : Prop := digitsNumbersRow.holds Try.pinned (OpenSpec.ofChange digitsNumbersSpec)

/-- ITS FALSE NEIGHBOUR: 'it returns false'. Refute it at one input. -/
def digitsNumbersWrong : ChangeSpec := { name := "digitsNumbers", fn := fun _ => fun
  | [] => { results := [.lit (.bool false)], args := [] }
  | _ => none }
def DigitsNumbersWrongFalsely : Prop := digitsNumbersRow.holds Try.pinned (OpenSpec.ofChange digitsNumbersWrong)

/-- 'thicketlaw14.DigitsTells': WHATEVER THE INPUT: true; the input reads as it did. -/
def digitsTellsSpec : ChangeSpec := { name := "digitsTells", fn := fun _ => fun
  | [d1, d2] => { results := [.lit (.bool true)], args := [d1, d2] }
  | _ => none }
def digitsTellsRow : OpenClaim := { program := "ytkibecgakkhljaa", sum := "b4831b350cc5c8d8830c62d108148fc9161c4d43057ce20722167edb434aae07", func := "thicket/thicketlaw14.DigitsTells", spec := "digitsTells", apart := false }
def DigitsTellsSaid : Prop := digitsTellsRow.holds Try.pinned (OpenSpec.ofChange digitsTellsSpec)

/-- ITS FALSE NEIGHBOUR: 'it returns false'. Refute it at one input. -/
def digitsTellsWrong : ChangeSpec := { name := "digitsTells", fn := fun _ => fun
  | [d1, d2] => { results := [.lit (.bool false)], args := [d1, d2] }
  | _ => none }
def DigitsTellsWrongFalsely : Prop := digitsTellsRow.holds Try.pinned (OpenSpec.ofChange digitsTellsWrong)

/-- 'thicketlaw14.DigitsCarries': WHATEVER THE INPUT: true; the input reads as it did. -/
def digitsCarriesSpec : ChangeSpec := { name := "digitsCarries", fn := fun _ => fun
  | [d] => { results := [.lit (.bool true)], args := [d] }
  | _ => none }
def digitsCarriesRow : OpenClaim := { program := "ytkibecgakkhljaa", sum := "b4831b350cc5c8d8830c62d108148fc9161c4d43057ce20722167edb434aae07", func := "thicket/thicketlaw14.DigitsCarries", spec := "digitsCarries", apart := false }
def DigitsCarriesSaid : Prop := digitsCarriesRow.holds Try.pinned (OpenSpec.ofChange digitsCarriesSpec)

/-- ITS FALSE NEIGHBOUR: 'it returns false'. Refute it at one input. -/
def digitsCarriesWrong : ChangeSpec := { name := "digitsCarries", fn := fun _ => fun
  | [d] => { results := [.lit (.bool false)], args := [d] }
  | _ => none }
def DigitsCarriesWrongFalsely : Prop := digitsCarriesRow.holds Try.pinned (OpenSpec.ofChange digitsCarriesWrong)

/-- 'thicketlaw10.SkewnumTells': WHATEVER THE INPUT: true; the input reads as it did. -/
def skewnumTellsSpec : ChangeSpec := { name := "skewnumTells", fn := fun _ => fun
  | [d1, d2, d3] => { results := [.lit (.bool true)], args := [d1, d2, d3] }
  | _ => none }
def skewnumTellsRow : OpenClaim := { program := "ytkibecgakkhljaa", sum := "b4831b350cc5c8d8830c62d108148fc9161c4d43057ce20722167edb434aae07", func := "thicket/thicketlaw10.SkewnumTells", spec := "skewnumTells", apart := false }
def SkewnumTellsSaid : Prop := skewnumTellsRow.holds Try.pinned (OpenSpec.ofChange skewnumTellsSpec)

/-- ITS FALSE NEIGHBOUR: 'it returns false'. Refute it at one input. -/
def skewnumTellsWrong : ChangeSpec := { name := "skewnumTells", fn := fun _ => fun
  | [d1, d2, d3] => { results := [.lit (.bool false)], args := [d1, d2, d3] }
  | _ => none }
def SkewnumTellsWrongFalsely : Prop := skewnumTellsRow.holds Try.pinned (OpenSpec.ofChange skewnumTellsWrong)

/-- 'thicketlaw10.SkewnumJoins': WHATEVER THE INPUT: true; the input reads as it did. -/
def skewnumJoinsSpec : ChangeSpec := { name := "skewnumJoins", fn := fun _ => fun
  | [d1, d2] => { results := [.lit (.bool true)], args := [d1, d2] }
  | _ => none }
def skewnumJoinsRow : OpenClaim := { program := "ytkibecgakkhljaa", sum := "b4831b350cc5c8d8830c62d108148fc9161c4d43057ce20722167edb434aae07", func := "thicket/thicketlaw10.SkewnumJoins", spec := "skewnumJoins", apart := false }
def SkewnumJoinsSaid : Prop := skewnumJoinsRow.holds Try.pinned (OpenSpec.ofChange skewnumJoinsSpec)

/-- ITS FALSE NEIGHBOUR: 'it returns false'. Refute it at one input. -/
def skewnumJoinsWrong : ChangeSpec := { name := "skewnumJoins", fn := fun _ => fun
  | [d1, d2] => { results := [.lit (.bool false)], args := [d1, d2] }
  | _ => none }
def SkewnumJoinsWrongFalsely : Prop := skewnumJoinsRow.holds Try.pinned (OpenSpec.ofChange skewnumJoinsWrong)

/- THE SECOND FORM. 'bulk': how many values and letters a reading holds, each counted each time it is reached (what is shared counts as often as it is met; a slice's spare places count too). A statement '..UptoSaid' is the law's where the arguments, and the package variables that the reading takes, are together of bulk at most 1048576: NARROWER than '..Said'. Prove '..Said' where nothing that the law and all that it calls make is longer than what came in: it says more and counts as full. Else prove '..UptoSaid'. A law counts once. -/
mutual
def uptoBulk {H : Type} : DataW H → Nat
  | .lit (.string bytes) => bytes.length + 1
  | .lit _ => 1
  | .nil => 1
  | .ptr d => uptoBulk d + 1
  | .slice elems spare => uptoBulkAll elems + uptoBulkAll spare + 1
  | .agg parts => uptoBulkAll parts + 1
  | .iface _ d => uptoBulk d + 1
  | .map entries => uptoBulkEntries entries + 1
  | .held _ => 1
def uptoBulkAll {H : Type} : List (DataW H) → Nat
  | [] => 0
  | d :: r => uptoBulk d + uptoBulkAll r
def uptoBulkEntries {H : Type} : List (Lit × DataW H) → Nat
  | [] => 0
  | x :: r => uptoBulkEntry x + uptoBulkEntries r
def uptoBulkEntry {H : Type} : Lit × DataW H → Nat
  | (.string bytes, d) => bytes.length + uptoBulk d + 1
  | (_, d) => uptoBulk d + 1
 end
def uptoSmall : (H : Type) → List (DataW H) → Bool := fun _ ds => decide (uptoBulkAll ds ≤ 1048576)
def OpenSpec.upto (s : _root_.Go.ChangeSpec) : _root_.Go.OpenSpec := { _root_.Go.OpenSpec.ofChange s with cond := some uptoSmall }

/-- 'thicketlaw20.ClockNumbers', WHERE WHAT IT READS IS OF BULK AT MOST 1048576: true; the input reads as it did. -/
def clockNumbersUptoRow : OpenClaim := { program := "ytkibecgakkhljaa", sum := "b4831b350cc5c8d8830c62d108148fc9161c4d43057ce20722167edb434aae07", func := "thicket/thicketlaw20.ClockNumbers", spec := "clockNumbers", apart := false, narrowed := true }
def ClockNumbersUptoSaid : Prop := clockNumbersUptoRow.holds Try.pinned (OpenSpec.upto clockNumbersSpec)

/-- 'thicketlaw20.ClockPlays', WHERE WHAT IT READS IS OF BULK AT MOST 1048576: true; the input reads as it did. -/
def clockPlaysUptoRow : OpenClaim := { program := "ytkibecgakkhljaa", sum := "b4831b350cc5c8d8830c62d108148fc9161c4d43057ce20722167edb434aae07", func := "thicket/thicketlaw20.ClockPlays", spec := "clockPlays", apart := false, narrowed := true }
def ClockPlaysUptoSaid : Prop := clockPlaysUptoRow.holds Try.pinned (OpenSpec.upto clockPlaysSpec)

/-- 'thicketlaw20.ClockStays', WHERE WHAT IT READS IS OF BULK AT MOST 1048576: true; the input reads as it did. -/
def clockStaysUptoRow : OpenClaim := { program := "ytkibecgakkhljaa", sum := "b4831b350cc5c8d8830c62d108148fc9161c4d43057ce20722167edb434aae07", func := "thicket/thicketlaw20.ClockStays", spec := "clockStays", apart := false, narrowed := true }
def ClockStaysUptoSaid : Prop := clockStaysUptoRow.holds Try.pinned (OpenSpec.upto clockStaysSpec)

/-- 'thicketlaw10.SkewnumNumbers', WHERE WHAT IT READS IS OF BULK AT MOST 1048576: true; the input reads as it did. -/
def skewnumNumbersUptoRow : OpenClaim := { program := "ytkibecgakkhljaa", sum := "b4831b350cc5c8d8830c62d108148fc9161c4d43057ce20722167edb434aae07", func := "thicket/thicketlaw10.SkewnumNumbers", spec := "skewnumNumbers", apart := false, narrowed := true }
def SkewnumNumbersUptoSaid : Prop := skewnumNumbersUptoRow.holds Try.pinned (OpenSpec.upto skewnumNumbersSpec)

/-- 'thicketlaw10.SkewnumOne', WHERE WHAT IT READS IS OF BULK AT MOST 1048576: true; the input reads as it did. -/
def skewnumOneUptoRow : OpenClaim := { program := "ytkibecgakkhljaa", sum := "b4831b350cc5c8d8830c62d108148fc9161c4d43057ce20722167edb434aae07", func := "thicket/thicketlaw10.SkewnumOne", spec := "skewnumOne", apart := false, narrowed := true }
def SkewnumOneUptoSaid : Prop := skewnumOneUptoRow.holds Try.pinned (OpenSpec.upto skewnumOneSpec)

/-- 'thicketlaw14.DigitsNumbers', WHERE WHAT IT READS IS OF BULK AT MOST 1048576: true; the input reads as it did. -/
def digitsNumbersUptoRow : OpenClaim := { program := "ytkibecgakkhljaa", sum := "b4831b350cc5c8d8830c62d108148fc9161c4d43057ce20722167edb434aae07", func := "thicket/thicketlaw14.DigitsNumbers", spec := "digitsNumbers", apart := false, narrowed := true }
def DigitsNumbersUptoSaid : Prop := digitsNumbersUptoRow.holds Try.pinned (OpenSpec.upto digitsNumbersSpec)

/-- 'thicketlaw14.DigitsTells', WHERE WHAT IT READS IS OF BULK AT MOST 1048576: true; the input reads as it did. -/
def digitsTellsUptoRow : OpenClaim := { program := "ytkibecgakkhljaa", sum := "b4831b350cc5c8d8830c62d108148fc9161c4d43057ce20722167edb434aae07", func := "thicket/thicketlaw14.DigitsTells", spec := "digitsTells", apart := false, narrowed := true }
def DigitsTellsUptoSaid : Prop := digitsTellsUptoRow.holds Try.pinned (OpenSpec.upto digitsTellsSpec)

/-- 'thicketlaw14.DigitsCarries', WHERE WHAT IT READS IS OF BULK AT MOST 1048576: true; the input reads as it did. -/
def digitsCarriesUptoRow : OpenClaim := { program := "ytkibecgakkhljaa", sum := "b4831b350cc5c8d8830c62d108148fc9161c4d43057ce20722167edb434aae07", func := "thicket/thicketlaw14.DigitsCarries", spec := "digitsCarries", apart := false, narrowed := true }
def DigitsCarriesUptoSaid : Prop := digitsCarriesUptoRow.holds Try.pinned (OpenSpec.upto digitsCarriesSpec)

/-- 'thicketlaw10.SkewnumTells', WHERE WHAT IT READS IS OF BULK AT MOST 1048576: true; the input reads as it did. -/
def skewnumTellsUptoRow : OpenClaim := { program := "ytkibecgakkhljaa", sum := "b4831b350cc5c8d8830c62d108148fc9161c4d43057ce20722167edb434aae07", func := "thicket/thicketlaw10.SkewnumTells", spec := "skewnumTells", apart := false, narrowed := true }
def SkewnumTellsUptoSaid : Prop := skewnumTellsUptoRow.holds Try.pinned (OpenSpec.upto skewnumTellsSpec)

/-- 'thicketlaw10.SkewnumJoins', WHERE WHAT IT READS IS OF BULK AT MOST 1048576: true; the input reads as it did. -/
def skewnumJoinsUptoRow : OpenClaim := { program := "ytkibecgakkhljaa", sum := "b4831b350cc5c8d8830c62d108148fc9161c4d43057ce20722167edb434aae07", func := "thicket/thicketlaw10.SkewnumJoins", spec := "skewnumJoins", apart := false, narrowed := true }
def SkewnumJoinsUptoSaid : Prop := skewnumJoinsUptoRow.holds Try.pinned (OpenSpec.upto skewnumJoinsSpec)

end Rows
end Go.Proofs.Ytkibecgakkhljaa
