import Derived.Test.YtodobkbnmjgkdaaGreatPe22
set_option linter.unusedVariables false
set_option linter.unusedSimpArgs false
namespace Go.Proofs.YtodobkbnmjgkdaaGreat.HL
structure RdV (w0 : World) (M0 : Mem) (s : SV) (l : List Value) : Prop where
  len : s.n = l.length
  cell : ∀ j v, l[j]? = some v → ∃ a, s.a = some a ∧ ∀ M, Mem.le M0 M → rd w0 M (a.add j) = some v
end Go.Proofs.YtodobkbnmjgkdaaGreat.HL
