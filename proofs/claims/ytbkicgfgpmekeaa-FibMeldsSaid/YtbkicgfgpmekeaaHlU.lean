/-
  HlU: slices of anything that takes one place, there before.
-/
import Derived.Test.YtbkicgfgpmekeaaHlI
set_option linter.unusedVariables false
set_option linter.unusedSimpArgs false
namespace Go.Proofs.Ytbkicgfgpmekeaa.HL

structure RdV (w0 : World) (M0 : Mem) (s : SV) (l : List Value) : Prop where
  len : s.n = l.length
  cell : ∀ j v, l[j]? = some v → ∃ a, s.a = some a ∧ ∀ M, Mem.le M0 M → rd w0 M (a.add j) = some v
theorem rdyV {w0 : World} {M0 M : Mem} {s : SV} {l : List Value} (h : RdV w0 M0 s l) (hl : Mem.le M0 M) {i : Int} (j : Nat) (e : i = (j : Int)) {v : Value} (hv : l[j]? = some v) {K : Value → Prop} (hK : K v) :
    nc s.a fun a => (0 ≤ i ∧ i < ((s.n : Nat) : Int)) ∧ ob (rd w0 M (a.add (i.toNat * 1))) fun v => K v := by
  subst e
  obtain ⟨a, ea, hr⟩ := h.cell j v hv
  have hj := (List.getElem?_eq_some_iff.1 hv).1
  rw [ea, nc_v, Int.toNat_natCast, Nat.mul_one, hr M hl, ob_v]
  exact ⟨⟨by omega, by rw [h.len]; omega⟩, hK⟩

end Go.Proofs.Ytbkicgfgpmekeaa.HL
