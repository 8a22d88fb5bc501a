/-
  BkA: a number that is brought within bounds; rows of numbers that are written down, or compared.
-/
import Derived.Test.YtoeijcmpkfjbfaaGenW
import Derived.Test.YtoeijcmpkfjbfaaGen0
import Derived.Test.YtoeijcmpkfjbfaaGen1
import Derived.Test.YtoeijcmpkfjbfaaGen2
import Derived.Test.YtoeijcmpkfjbfaaGen3
import Derived.Test.YtoeijcmpkfjbfaaGen4
import Derived.Test.YtoeijcmpkfjbfaaGen5
import Derived.Test.YtoeijcmpkfjbfaaGen6
import Derived.Test.YtoeijcmpkfjbfaaGen7
import Derived.Test.YtoeijcmpkfjbfaaHlS
set_option linter.unusedVariables false
set_option linter.unusedSimpArgs false
set_option maxRecDepth 100000
namespace Go.Proofs.Ytoeijcmpkfjbfaa.HL
open Go.RowKit (Below)
open Go.Proofs

section
variable {w0 : World} {M M0 : Mem}

theorem Within_ok {R : Value → Mem → Prop} {n lo hi : Int} (hn : In64 n) (h1 : -4611686018427387904 ≤ lo) (h2 : lo ≤ hi) (h3 : hi ≤ 1152921504606846976) (h4 : hi - lo ≤ 1152921504606846976) (h : ∀ x, lo ≤ x → x ≤ hi → R (.int .i64 x) M) : C PP w0 Id.thicketbook_Within #[.int .i64 n, .int .i64 lo, .int .i64 hi] R M := by
  apply thicketbook_Within.go
  intro pts H
  unfold thicketbook_Within.T
  have hj : thicketbook_Within.J1 pts n lo hi M := by
    rw [H.J1]
    unfold thicketbook_Within.J1.T
    rw [w64_in (n := hi - lo) (by omega), w64_in (n := hi - lo + 1) (by omega)]
    refine ⟨rfl, by omega, ?_⟩
    have a1 : Int.tmod n (hi - lo + 1) < hi - lo + 1 := Int.tmod_lt_of_pos n (by omega)
    have a2 : -(hi - lo + 1) < Int.tmod n (hi - lo + 1) := by
      have := Int.tmod_lt_of_pos (-n) (show 0 < hi - lo + 1 by omega)
      rw [Int.neg_tmod] at this; omega
    generalize Int.tmod n (hi - lo + 1) = r at a1 a2
    rw [bs_decide]
    split
    · rw [w64_in (n := r + hi) (by omega), w64_in (n := r + hi - lo) (by omega), w64_in (n := r + hi - lo + 1) (by omega), w64_in (by omega)]
      exact h _ (by omega) (by omega)
    · rw [w64_in (by omega)]
      exact h _ (by omega) (by omega)
  simp only [bs_decide]
  split
  · split
    · exact h n (by omega) (by omega)
    · exact hj
  · exact hj


theorem bsl_ints {Mb : Mem} {k : IntKind} {t e : TypeId} {z : Value} {n : Nat} {parts : List (Nat × Value)} {l : List Int} (hle : Mem.le Mb M) (ht : PP.underlying t = some (.slice e)) (he : ElemOk PP e z 1)
    (h24 : n ≤ 16777216) (hc : Instr.fill (fun k => some (k * 1, 1)) ((Array.range (n * 1)).map (z.cells[· % z.cells.size]!)) parts = some (l.map (Value.int k)).toArray) (hn : l.length = n) {K : Value → Mem → Prop}
    (h : ∀ M' s', Mem.le Mb M' → Mem.le M M' → Sl w0 Mb M' s' (l.map (Value.int k)) → K s'.v M') : (std PP w0).bsl t n parts K M :=
  bsl_sl hle ht he h24 hc (by simp [hn]) h


theorem wf_all {l : List Int} (h : ∀ x ∈ l, In64 x) : ∀ n ∈ l, (Lit.int .i64 n).wf = true := fun n hn => wf64 (h n hn)


theorem lit_ok {R : SV → Mem → Prop} {n : Nat} {parts : List (Nat × Value)} (l : List Int) (h24 : n ≤ 16777216) (hc : Instr.fill (fun k => some (k * 1, 1)) ((Array.range (n * 1)).map ((Value.int .i64 0).cells[· % (Value.int .i64 0).cells.size]!)) parts = some (l.map (Value.int .i64)).toArray) (hn : l.length = n) (hw : ∀ n ∈ l, (Lit.int .i64 n).wf = true)
    (h : ∀ M' s', Mem.le M M' → RdI w0 M' .i64 s' l → R s' M') : (std PP w0).bsl 44 n parts (fun v M' => shS v fun s' => R s' M') M := by
  refine bsl_ints (Mem.le_refl _) Try.underlying44 W.e3 h24 hc hn fun M' s' h1 h2 h3 => ?_
  simp only [go_sem]
  exact h M' s' h1 (h3.rdI hw (by omega))


theorem Same_ok {R : Value → Mem → Prop} {s x : SV} {l m : List Int} (hs : RdI w0 M .i64 s l) (hx : RdI w0 M .i64 x m) (h : R (.bool (decide (l = m))) M) : C PP w0 Id.thicketbook_Same_int #[SV.v s, SV.v x] R M := by
  apply thicketbook_Same_int.go
  intro pts H
  unfold thicketbook_Same_int.T
  have hl := hs.len
  have hlx := hx.len
  have hm := hs.max
  rw [bs_bne]
  split
  · rename_i he
    have key : ∀ (k i : Nat), i ≤ l.length → l.length < i + k → (∀ j < i, l[j]? = m[j]?) → thicketbook_Same_int.L1 pts k s x (i : Int) M := by
      intro k
      induction k with
      | zero => intro i h1 h2; omega
      | succ k ih =>
        intro i h1 h2 hok
        rw [H.L1]
        unfold thicketbook_Same_int.L1.T
        rw [bs_decide]
        split
        · have hi : i < l.length := by omega
          have e1 := List.getElem?_eq_getElem hi
          have e2 := List.getElem?_eq_getElem (show i < m.length by omega)
          generalize l[i] = u at e1
          generalize m[i] = v at e2
          refine rdx W.c3 hs (Mem.le_refl _) i rfl e1 ?_
          refine rdx W.c3 hx (Mem.le_refl _) i rfl e2 ?_
          rw [bs_bne]
          split
          · rename_i huv
            subst huv
            rw [i64_next hi hm]
            refine ih (i + 1) (by omega) (by omega) fun j hj => ?_
            rcases Nat.lt_succ_iff_lt_or_eq.1 hj with hj | rfl
            · exact hok j hj
            · rw [e1, e2]
          · rename_i huv
            have : ¬ l = m := fun hh => by subst hh; rw [e1] at e2; exact huv (Option.some.inj e2)
            rw [decide_eq_false this] at h; exact h
        · have : l = m := by
            apply List.ext_getElem?
            intro j
            by_cases hj : j < l.length
            · exact hok j (by omega)
            · rw [List.getElem?_eq_none (by omega), List.getElem?_eq_none (by omega)]
          rw [decide_eq_true this] at h; exact h
    exact ⟨l.length + 1, key _ 0 (by omega) (by omega) (fun j hj => by omega)⟩
  · rename_i he
    have : ¬ l = m := fun hh => by subst hh; omega
    rw [decide_eq_false this] at h; exact h


end
end Go.Proofs.Ytoeijcmpkfjbfaa.HL
