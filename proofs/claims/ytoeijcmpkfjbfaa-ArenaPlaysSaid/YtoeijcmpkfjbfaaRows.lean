/-
  No cell of these rows narrows 'for every input' (looked for: loops, veiled, ifaces, maps, wideKeys, modest, calm, conditions, laid).
  DERIVED. THE GIVEN ROWS OF THIS SEAT. 11 by the template 'for every input the law returns true; each argument reads behind the call as it read before'; 0 by the template 'total and deterministic' (their statements: YtoeijcmpkfjbfaaTotals.lean).
  GIVEN WITH THE SEED: the statements are not yours to turn. If you find one false, say at which input.
  Laid BY PROGRAM, IN A SANDBOX (cutbox-rows.mjs): the forced cells as the released guide's own fill.sh prints them over the translation 267e852a8c62e7e7… (all of the seat's roots in one cut). By AI agents, Wed Nov 11 2026. No macro, syntax, notation, axiom, sorry.
-/
import Derived.Test.YtoeijcmpkfjbfaaChecked
import GoSem.Claim
import GoSem.ClaimJoined
import GoSem.ClaimMapViews
import Derived.JoinedTies
import Derived.KernelRfl
namespace Go.Proofs.Ytoeijcmpkfjbfaa
/- THE CELL 'sum', in the pinned program and in every row, IS THE sha256 OF THE DUMP (.gsa) THAT YtoeijcmpkfjbfaaProg.lean LOADS. Nothing in Lean hashes anything: it is a label: what it is worth is what the hold of that sum in a sandbox is worth. -/
noncomputable def Try.pinned : Pinned := { name := "ytoeijcmpkfjbfaa", sum := "267e852a8c62e7e788db0299604ff6cce959ca377fedfea13452efc1dd1ca807", checked := Try.checked }
namespace Rows
def none {H : Type} : Left H := { results := [], args := [] }

/-- 'thicketlaw5.ArenaCells': WHATEVER THE INPUT: true; the input reads as it did. -/
def arenaCellsSpec : ChangeSpec := { name := "arenaCells", fn := fun _ => fun
  | [d] => { results := [.lit (.bool true)], args := [d] }
  | _ => none }
def arenaCellsRow : OpenClaim := { program := "ytoeijcmpkfjbfaa", sum := "267e852a8c62e7e788db0299604ff6cce959ca377fedfea13452efc1dd1ca807", func := "thicket/thicketlaw5.ArenaCells", spec := "arenaCells", apart := false }
def ArenaCellsSaid : Prop := arenaCellsRow.holds Try.pinned (OpenSpec.ofChange arenaCellsSpec)

/-- ITS FALSE NEIGHBOUR: 'it returns false'. Refute it at one input. -/
def arenaCellsWrong : ChangeSpec := { name := "arenaCells", fn := fun _ => fun
  | [d] => { results := [.lit (.bool false)], args := [d] }
  | _ => none }
def ArenaCellsWrongFalsely : Prop := arenaCellsRow.holds Try.pinned (OpenSpec.ofChange arenaCellsWrong)

/-- 'thicketlaw5.ArenaTells': WHATEVER THE INPUT: true; the input reads as it did. -/
def arenaTellsSpec : ChangeSpec := { name := "arenaTells", fn := fun _ => fun
  | [d1, d2] => { results := [.lit (.bool true)], args := [d1, d2] }
  | _ => none }
def arenaTellsRow : OpenClaim := { program := "ytoeijcmpkfjbfaa", sum := "267e852a8c62e7e788db0299604ff6cce959ca377fedfea13452efc1dd1ca807", func := "thicket/thicketlaw5.ArenaTells", spec := "arenaTells", apart := false }
def ArenaTellsSaid : Prop := arenaTellsRow.holds Try.pinned (OpenSpec.ofChange arenaTellsSpec)

/-- ITS FALSE NEIGHBOUR: 'it returns false'. Refute it at one input. -/
def arenaTellsWrong : ChangeSpec := { name := "arenaTells", fn := fun _ => fun
  | [d1, d2] => { results := [.lit (.bool false)], args := [d1, d2] }
  | _ => none }
def ArenaTellsWrongFalsely : Prop := arenaTellsRow.holds Try.pinned (OpenSpec.ofChange arenaTellsWrong)

/-- 'thicketlaw5.ArenaNumbers': WHATEVER THE INPUT: true; the input reads as it did. -/
def arenaNumbersSpec : ChangeSpec := { name := "arenaNumbers", fn := fun _ => fun
  | [] => { results := [.lit (.bool true)], args := [] }
  | _ => none }
def arenaNumbersRow : OpenClaim := { program := "ytoeijcmpkfjbfaa", sum := "267e852a8c62e7e788db0299604ff6cce959ca377fedfea13452efc1dd1ca807", func := "thicket/thicketlaw5.ArenaNumbers", spec := "arenaNumbers", apart := false }
def ArenaNumbersSaid : Prop := arenaNumbersRow.holds Try.pinned (OpenSpec.ofChange arenaNumbersSpec)

/-- ITS FALSE NEIGHBOUR: 'it returns false'. Refute it at one input. -/
def arenaNumbersWrong : ChangeSpec := { name := "arenaNumbers", fn := fun _ => fun
  | [] => { results := [.lit (.bool false)], args := [] }
  | _ => none }
def ArenaNumbersWrongFalsely : Prop := arenaNumbersRow.holds Try.pinned (OpenSpec.ofChange arenaNumbersWrong)

/-- 'thicketlaw5.ArenaPlays': WHATEVER THE INPUT: true; the input reads as it did. -/
def arenaPlaysSpec : ChangeSpec := { name := "arenaPlays", fn := fun _ => fun
  | [d1, d2] => { results := [.lit (.bool true)], args := [d1, d2] }
  | _ => none }
def arenaPlaysRow : OpenClaim := { program := "ytoeijcmpkfjbfaa", sum := "267e852a8c62e7e788db0299604ff6cce959ca377fedfea13452efc1dd1ca807", func := "thicket/thicketlaw5.ArenaPlays", spec := "arenaPlays", apart := false }
def ArenaPlaysSaid : Prop := arenaPlaysRow.holds Try.pinned (OpenSpec.ofChange arenaPlaysSpec)

/-- ITS FALSE NEIGHBOUR: 'it returns false'. Refute it at one input. -/
def arenaPlaysWrong : ChangeSpec := { name := "arenaPlays", fn := fun _ => fun
  | [d1, d2] => { results := [.lit (.bool false)], args := [d1, d2] }
  | _ => none }
def ArenaPlaysWrongFalsely : Prop := arenaPlaysRow.holds Try.pinned (OpenSpec.ofChange arenaPlaysWrong)

/-- 'thicketlaw6.ChainOut': WHATEVER THE INPUT: true; the input reads as it did. -/
def chainOutSpec : ChangeSpec := { name := "chainOut", fn := fun _ => fun
  | [d1, d2] => { results := [.lit (.bool true)], args := [d1, d2] }
  | _ => none }
def chainOutRow : OpenClaim := { program := "ytoeijcmpkfjbfaa", sum := "267e852a8c62e7e788db0299604ff6cce959ca377fedfea13452efc1dd1ca807", func := "thicket/thicketlaw6.ChainOut", spec := "chainOut", apart := false }
def ChainOutSaid : Prop := chainOutRow.holds Try.pinned (OpenSpec.ofChange chainOutSpec)

/-- ITS FALSE NEIGHBOUR: 'it returns false'. Refute it at one input. -/
def chainOutWrong : ChangeSpec := { name := "chainOut", fn := fun _ => fun
  | [d1, d2] => { results := [.lit (.bool false)], args := [d1, d2] }
  | _ => none }
def ChainOutWrongFalsely : Prop := chainOutRow.holds Try.pinned (OpenSpec.ofChange chainOutWrong)

/-- 'thicketlaw6.ChainJoins': WHATEVER THE INPUT: true; the input reads as it did. -/
def chainJoinsSpec : ChangeSpec := { name := "chainJoins", fn := fun _ => fun
  | [d1, d2, d3, d4] => { results := [.lit (.bool true)], args := [d1, d2, d3, d4] }
  | _ => none }
def chainJoinsRow : OpenClaim := { program := "ytoeijcmpkfjbfaa", sum := "267e852a8c62e7e788db0299604ff6cce959ca377fedfea13452efc1dd1ca807", func := "thicket/thicketlaw6.ChainJoins", spec := "chainJoins", apart := false }
def ChainJoinsSaid : Prop := chainJoinsRow.holds Try.pinned (OpenSpec.ofChange chainJoinsSpec)

/-- ITS FALSE NEIGHBOUR: 'it returns false'. Refute it at one input. -/
def chainJoinsWrong : ChangeSpec := { name := "chainJoins", fn := fun _ => fun
  | [d1, d2, d3, d4] => { results := [.lit (.bool false)], args := [d1, d2, d3, d4] }
  | _ => none }
def ChainJoinsWrongFalsely : Prop := chainJoinsRow.holds Try.pinned (OpenSpec.ofChange chainJoinsWrong)

/-- 'thicketlaw6.ChainNumbers': WHATEVER THE INPUT: true; the input reads as it did. -/
def chainNumbersSpec : ChangeSpec := { name := "chainNumbers", fn := fun _ => fun
  | [] => { results := [.lit (.bool true)], args := [] }
  | _ => none }
def chainNumbersRow : OpenClaim := { program := "ytoeijcmpkfjbfaa", sum := "267e852a8c62e7e788db0299604ff6cce959ca377fedfea13452efc1dd1ca807", func := "thicket/thicketlaw6.ChainNumbers", spec := "chainNumbers", apart := false }
def ChainNumbersSaid : Prop := chainNumbersRow.holds Try.pinned (OpenSpec.ofChange chainNumbersSpec)

/-- ITS FALSE NEIGHBOUR: 'it returns false'. Refute it at one input. -/
def chainNumbersWrong : ChangeSpec := { name := "chainNumbers", fn := fun _ => fun
  | [] => { results := [.lit (.bool false)], args := [] }
  | _ => none }
def ChainNumbersWrongFalsely : Prop := chainNumbersRow.holds Try.pinned (OpenSpec.ofChange chainNumbersWrong)

/-- 'thicketlaw6.ChainPlays': WHATEVER THE INPUT: true; the input reads as it did. -/
def chainPlaysSpec : ChangeSpec := { name := "chainPlays", fn := fun _ => fun
  | [d1, d2] => { results := [.lit (.bool true)], args := [d1, d2] }
  | _ => none }
def chainPlaysRow : OpenClaim := { program := "ytoeijcmpkfjbfaa", sum := "267e852a8c62e7e788db0299604ff6cce959ca377fedfea13452efc1dd1ca807", func := "thicket/thicketlaw6.ChainPlays", spec := "chainPlays", apart := false }
def ChainPlaysSaid : Prop := chainPlaysRow.holds Try.pinned (OpenSpec.ofChange chainPlaysSpec)

/-- ITS FALSE NEIGHBOUR: 'it returns false'. Refute it at one input. -/
def chainPlaysWrong : ChangeSpec := { name := "chainPlays", fn := fun _ => fun
  | [d1, d2] => { results := [.lit (.bool false)], args := [d1, d2] }
  | _ => none }
def ChainPlaysWrongFalsely : Prop := chainPlaysRow.holds Try.pinned (OpenSpec.ofChange chainPlaysWrong)

/-- 'thicketlaw7.ItemOrders': WHATEVER THE INPUT: true; the input reads as it did. -/
def itemOrdersSpec : ChangeSpec := { name := "itemOrders", fn := fun _ => fun
  | [d1, d2] => { results := [.lit (.bool true)], args := [d1, d2] }
  | _ => none }
def itemOrdersRow : OpenClaim := { program := "ytoeijcmpkfjbfaa", sum := "267e852a8c62e7e788db0299604ff6cce959ca377fedfea13452efc1dd1ca807", func := "thicket/thicketlaw7.ItemOrders", spec := "itemOrders", apart := false }
def ItemOrdersSaid : Prop := itemOrdersRow.holds Try.pinned (OpenSpec.ofChange itemOrdersSpec)

/-- ITS FALSE NEIGHBOUR: 'it returns false'. Refute it at one input. -/
def itemOrdersWrong : ChangeSpec := { name := "itemOrders", fn := fun _ => fun
  | [d1, d2] => { results := [.lit (.bool false)], args := [d1, d2] }
  | _ => none }
def ItemOrdersWrongFalsely : Prop := itemOrdersRow.holds Try.pinned (OpenSpec.ofChange itemOrdersWrong)

/-- 'thicketlaw7.ItemNumbers': WHATEVER THE INPUT: true; the input reads as it did. -/
def itemNumbersSpec : ChangeSpec := { name := "itemNumbers", fn := fun _ => fun
  | [] => { results := [.lit (.bool true)], args := [] }
  | _ => none }
def itemNumbersRow : OpenClaim := { program := "ytoeijcmpkfjbfaa", sum := "267e852a8c62e7e788db0299604ff6cce959ca377fedfea13452efc1dd1ca807", func := "thicket/thicketlaw7.ItemNumbers", spec := "itemNumbers", apart := false }
def ItemNumbersSaid : Prop := itemNumbersRow.holds Try.pinned (OpenSpec.ofChange itemNumbersSpec)

/-- ITS FALSE NEIGHBOUR: 'it returns false'. Refute it at one input. -/
def itemNumbersWrong : ChangeSpec := { name := "itemNumbers", fn := fun _ => fun
  | [] => { results := [.lit (.bool false)], args := [] }
  | _ => none }
def ItemNumbersWrongFalsely : Prop := itemNumbersRow.holds Try.pinned (OpenSpec.ofChange itemNumbersWrong)

/-- 'thicketlaw7.ItemPlays': WHATEVER THE INPUT: true; the input reads as it did. -/
def itemPlaysSpec : ChangeSpec := { name := "itemPlays", fn := fun _ => fun
  | [d1, d2, d3] => { results := [.lit (.bool true)], args := [d1, d2, d3] }
  | _ => none }
def itemPlaysRow : OpenClaim := { program := "ytoeijcmpkfjbfaa", sum := "267e852a8c62e7e788db0299604ff6cce959ca377fedfea13452efc1dd1ca807", func := "thicket/thicketlaw7.ItemPlays", spec := "itemPlays", apart := false }
def ItemPlaysSaid : Prop := itemPlaysRow.holds Try.pinned (OpenSpec.ofChange itemPlaysSpec)

/-- ITS FALSE NEIGHBOUR: 'it returns false'. Refute it at one input. -/
def itemPlaysWrong : ChangeSpec := { name := "itemPlays", fn := fun _ => fun
  | [d1, d2, d3] => { results := [.lit (.bool false)], args := [d1, d2, d3] }
  | _ => none }
def ItemPlaysWrongFalsely : Prop := itemPlaysRow.holds Try.pinned (OpenSpec.ofChange itemPlaysWrong)

/- THE SECOND FORM. 'bulk': how many values and letters a reading holds, each counted each time it is reached (what is shared counts as often as it is met; a slice's spare places count too). A statement '..UptoSaid' is the law's where the arguments, and the package variables that the reading takes, are together of bulk at most 1048576: NARROWER than '..Said'. Prove '..Said' where nothing that the law and all that it calls make is longer than what came in: it says more and counts as full. Else prove '..UptoSaid'. A law counts once. -/
mutual
def uptoBulk {H : Type} : DataW H → Nat
  | .lit (.string bytes) => bytes.length + 1
  | .lit _ => 1
  | .nil => 1
  | .ptr d => uptoBulk d + 1
  | .slice elems spare => uptoBulkAll elems + uptoBulkAll spare + 1
  | .agg parts => uptoBulkAll parts + 1
  | .iface _ d => uptoBulk d + 1
  | .map entries => uptoBulkEntries entries + 1
  | .held _ => 1
def uptoBulkAll {H : Type} : List (DataW H) → Nat
  | [] => 0
  | d :: r => uptoBulk d + uptoBulkAll r
def uptoBulkEntries {H : Type} : List (Lit × DataW H) → Nat
  | [] => 0
  | x :: r => uptoBulkEntry x + uptoBulkEntries r
def uptoBulkEntry {H : Type} : Lit × DataW H → Nat
  | (.string bytes, d) => bytes.length + uptoBulk d + 1
  | (_, d) => uptoBulk d + 1
 end
def uptoSmall : (H : Type) → List (DataW H) → Bool := fun _ ds => decide (uptoBulkAll ds ≤ 1048576)
def OpenSpec.upto (s : _root_.Go.ChangeSpec) : _root_.Go.OpenSpec := { _root_.Go.OpenSpec.ofChange s with cond := some uptoSmall }

/-- 'thicketlaw5.ArenaCells', WHERE WHAT IT READS IS OF BULK AT MOST 1048576: true; the input reads as it did. -/
def arenaCellsUptoRow : OpenClaim := { program := "ytoeijcmpkfjbfaa", sum := "267e852a8c62e7e788db0299604ff6cce959ca377fedfea13452efc1dd1ca807", func := "thicket/thicketlaw5.ArenaCells", spec := "arenaCells", apart := false, narrowed := true }
def ArenaCellsUptoSaid : Prop := arenaCellsUptoRow.holds Try.pinned (OpenSpec.upto arenaCellsSpec)

/-- 'thicketlaw5.ArenaTells', WHERE WHAT IT READS IS OF BULK AT MOST 1048576: true; the input reads as it did. -/
def arenaTellsUptoRow : OpenClaim := { program := "ytoeijcmpkfjbfaa", sum := "267e852a8c62e7e788db0299604ff6cce959ca377fedfea13452efc1dd1ca807", func := "thicket/thicketlaw5.ArenaTells", spec := "arenaTells", apart := false, narrowed := true }
def ArenaTellsUptoSaid : Prop := arenaTellsUptoRow.holds Try.pinned (OpenSpec.upto arenaTellsSpec)

/-- 'thicketlaw5.ArenaNumbers', WHERE WHAT IT READS IS OF BULK AT MOST 1048576: true; the input reads as it did. -/
def arenaNumbersUptoRow : OpenClaim := { program := "ytoeijcmpkfjbfaa", sum := "267e852a8c62e7e788db0299604ff6cce959ca377fedfea13452efc1dd1ca807", func := "thicket/thicketlaw5.ArenaNumbers", spec := "arenaNumbers", apart := false, narrowed := true }
def ArenaNumbersUptoSaid : Prop := arenaNumbersUptoRow.holds Try.pinned (OpenSpec.upto arenaNumbersSpec)

/-- 'thicketlaw5.ArenaPlays', WHERE WHAT IT READS IS OF BULK AT MOST 1048576: true; the input reads as it did. -/
def arenaPlaysUptoRow : OpenClaim := { program := "ytoeijcmpkfjbfaa", sum := "267e852a8c62e7e788db0299604ff6cce959ca377fedfea13452efc1dd1ca807", func := "thicket/thicketlaw5.ArenaPlays", spec := "arenaPlays", apart := false, narrowed := true }
def ArenaPlaysUptoSaid : Prop := arenaPlaysUptoRow.holds Try.pinned (OpenSpec.upto arenaPlaysSpec)

/-- 'thicketlaw6.ChainOut', WHERE WHAT IT READS IS OF BULK AT MOST 1048576: true; the input reads as it did. -/
def chainOutUptoRow : OpenClaim := { program := "ytoeijcmpkfjbfaa", sum := "267e852a8c62e7e788db0299604ff6cce959ca377fedfea13452efc1dd1ca807", func := "thicket/thicketlaw6.ChainOut", spec := "chainOut", apart := false, narrowed := true }
def ChainOutUptoSaid : Prop := chainOutUptoRow.holds Try.pinned (OpenSpec.upto chainOutSpec)

/-- 'thicketlaw6.ChainJoins', WHERE WHAT IT READS IS OF BULK AT MOST 1048576: true; the input reads as it did. -/
def chainJoinsUptoRow : OpenClaim := { program := "ytoeijcmpkfjbfaa", sum := "267e852a8c62e7e788db0299604ff6cce959ca377fedfea13452efc1dd1ca807", func := "thicket/thicketlaw6.ChainJoins", spec := "chainJoins", apart := false, narrowed := true }
def ChainJoinsUptoSaid : Prop := chainJoinsUptoRow.holds Try.pinned (OpenSpec.upto chainJoinsSpec)

/-- 'thicketlaw6.ChainNumbers', WHERE WHAT IT READS IS OF BULK AT MOST 1048576: true; the input reads as it did. -/
def chainNumbersUptoRow : OpenClaim := { program := "ytoeijcmpkfjbfaa", sum := "267e852a8c62e7e788db0299604ff6cce959ca377fedfea13452efc1dd1ca807", func := "thicket/thicketlaw6.ChainNumbers", spec := "chainNumbers", apart := false, narrowed := true }
def ChainNumbersUptoSaid : Prop := chainNumbersUptoRow.holds Try.pinned (OpenSpec.upto chainNumbersSpec)

/-- 'thicketlaw6.ChainPlays', WHERE WHAT IT READS IS OF BULK AT MOST 1048576: true; the input reads as it did. -/
def chainPlaysUptoRow : OpenClaim := { program := "ytoeijcmpkfjbfaa", sum := "267e852a8c62e7e788db0299604ff6cce959ca377fedfea13452efc1dd1ca807", func := "thicket/thicketlaw6.ChainPlays", spec := "chainPlays", apart := false, narrowed := true }
def ChainPlaysUptoSaid : Prop := chainPlaysUptoRow.holds Try.pinned (OpenSpec.upto chainPlaysSpec)

/-- 'thicketlaw7.ItemOrders', WHERE WHAT IT READS IS OF BULK AT MOST 1048576: true; the input reads as it did. -/
def itemOrdersUptoRow : OpenClaim := { program := "ytoeijcmpkfjbfaa", sum := "267e852a8c62e7e788db0299604ff6cce959ca377fedfea13452efc1dd1ca807", func := "thicket/thicketlaw7.ItemOrders", spec := "itemOrders", apart := false, narrowed := true }
def ItemOrdersUptoSaid : Prop := itemOrdersUptoRow.holds Try.pinned (OpenSpec.upto itemOrdersSpec)

/-- 'thicketlaw7.ItemNumbers', WHERE WHAT IT READS IS OF BULK AT MOST 1048576: true; the input reads as it did. -/
def itemNumbersUptoRow : OpenClaim := { program := "ytoeijcmpkfjbfaa", sum := "267e852a8c62e7e788db0299604ff6cce959ca377fedfea13452efc1dd1ca807", func := "thicket/thicketlaw7.ItemNumbers", spec := "itemNumbers", apart := false, narrowed := true }
def ItemNumbersUptoSaid : Prop := itemNumbersUptoRow.holds Try.pinned (OpenSpec.upto itemNumbersSpec)

/-- 'thicketlaw7.ItemPlays', WHERE WHAT IT READS IS OF BULK AT MOST 1048576: true; the input reads as it did. -/
def itemPlaysUptoRow : OpenClaim := { program := "ytoeijcmpkfjbfaa", sum := "267e852a8c62e7e788db0299604ff6cce959ca377fedfea13452efc1dd1ca807", func := "thicket/thicketlaw7.ItemPlays", spec := "itemPlays", apart := false, narrowed := true }
def ItemPlaysUptoSaid : Prop := itemPlaysUptoRow.holds Try.pinned (OpenSpec.upto itemPlaysSpec)

end Rows
end Go.Proofs.Ytoeijcmpkfjbfaa
