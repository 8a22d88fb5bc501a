/-
  BkA: a number that is brought within bounds; rows of numbers that are written down, or compared.
-/
import Derived.Test.YtgnfbodlpolibaaGenAll
import Derived.Test.YtgnfbodlpolibaaHlS
set_option linter.unusedVariables false
set_option linter.unusedSimpArgs false
set_option maxRecDepth 100000
namespace Go.Proofs.Ytgnfbodlpolibaa.HL
open Go.RowKit (Below)
open Go.Proofs

section
variable {w0 : World} {M M0 : Mem}

theorem Within_ok {R : Value → Mem → Prop} {n lo hi : Int} (hn : In64 n) (h1 : -4611686018427387904 ≤ lo) (h2 : lo ≤ hi) (h3 : hi ≤ 1152921504606846976) (h4 : hi - lo ≤ 1152921504606846976) (h : ∀ x, lo ≤ x → x ≤ hi → R (.int .i64 x) M) : C PP w0 Id.thicketbook_Within #[.int .i64 n, .int .i64 lo, .int .i64 hi] R M := by
  apply thicketbook_Within.go
  intro pts H
  unfold thicketbook_Within.T
  have hj : thicketbook_Within.J1 pts n lo hi M := by
    rw [H.J1]
    unfold thicketbook_Within.J1.T
    rw [w64_in (n := hi - lo) (by omega), w64_in (n := hi - lo + 1) (by omega)]
    refine ⟨rfl, by omega, ?_⟩
    have a1 : Int.tmod n (hi - lo + 1) < hi - lo + 1 := Int.tmod_lt_of_pos n (by omega)
    have a2 : -(hi - lo + 1) < Int.tmod n (hi - lo + 1) := by
      have := Int.tmod_lt_of_pos (-n) (show 0 < hi - lo + 1 by omega)
      rw [Int.neg_tmod] at this; omega
    generalize Int.tmod n (hi - lo + 1) = r at a1 a2
    rw [bs_decide]
    split
    · rw [w64_in (n := r + hi) (by omega), w64_in (n := r + hi - lo) (by omega), w64_in (n := r + hi - lo + 1) (by omega), w64_in (by omega)]
      exact h _ (by omega) (by omega)
    · rw [w64_in (by omega)]
      exact h _ (by omega) (by omega)
  simp only [bs_decide]
  split
  · split
    · exact h n (by omega) (by omega)
    · exact hj
  · exact hj


theorem bsl_ints {Mb : Mem} {k : IntKind} {t e : TypeId} {z : Value} {n : Nat} {parts : List (Nat × Value)} {l : List Int} (hle : Mem.le Mb M) (ht : PP.underlying t = some (.slice e)) (he : ElemOk PP e z 1)
    (h24 : n ≤ 16777216) (hc : Instr.fill (fun k => some (k * 1, 1)) ((Array.range (n * 1)).map (z.cells[· % z.cells.size]!)) parts = some (l.map (Value.int k)).toArray) (hn : l.length = n) {K : Value → Mem → Prop}
    (h : ∀ M' s', Mem.le Mb M' → Mem.le M M' → Sl w0 Mb M' s' (l.map (Value.int k)) → K s'.v M') : (std PP w0).bsl t n parts K M :=
  bsl_sl hle ht he h24 hc (by simp [hn]) h


theorem wf_all {l : List Int} (h : ∀ x ∈ l, In64 x) : ∀ n ∈ l, (Lit.int .i64 n).wf = true := fun n hn => wf64 (h n hn)


theorem lit_ok {R : SV → Mem → Prop} {n : Nat} {parts : List (Nat × Value)} (l : List Int) (h24 : n ≤ 16777216) (hc : Instr.fill (fun k => some (k * 1, 1)) ((Array.range (n * 1)).map ((Value.int .i64 0).cells[· % (Value.int .i64 0).cells.size]!)) parts = some (l.map (Value.int .i64)).toArray) (hn : l.length = n) (hw : ∀ n ∈ l, (Lit.int .i64 n).wf = true)
    (h : ∀ M' s', Mem.le M M' → RdI w0 M' .i64 s' l → R s' M') : (std PP w0).bsl 53 n parts (fun v M' => shS v fun s' => R s' M') M := by
  refine bsl_ints (Mem.le_refl _) Try.underlying53 W.e3 h24 hc hn fun M' s' h1 h2 h3 => ?_
  simp only [go_sem]
  exact h M' s' h1 (h3.rdI hw (by omega))

end
end Go.Proofs.Ytgnfbodlpolibaa.HL
