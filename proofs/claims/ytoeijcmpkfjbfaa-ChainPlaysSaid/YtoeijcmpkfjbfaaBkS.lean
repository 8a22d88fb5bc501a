/-
  BkS: rows of numbers that are compared.
-/
import Derived.Test.YtoeijcmpkfjbfaaBkA
set_option linter.unusedVariables false
set_option linter.unusedSimpArgs false
set_option maxRecDepth 100000
namespace Go.Proofs.Ytoeijcmpkfjbfaa.HL
open Go.RowKit (Below)
open Go.Proofs

section
variable {w0 : World} {M M0 : Mem}

theorem Same_ok {R : Value → Mem → Prop} {s x : SV} {l m : List Int} (hs : RdI w0 M .i64 s l) (hx : RdI w0 M .i64 x m) (h : R (.bool (decide (l = m))) M) : C PP w0 Id.thicketbook_Same_int #[SV.v s, SV.v x] R M := by
  apply thicketbook_Same_int.go
  intro pts H
  unfold thicketbook_Same_int.T
  have hl := hs.len
  have hlx := hx.len
  have hm := hs.max
  rw [bs_bne]
  split
  · rename_i he
    have key : ∀ (k i : Nat), i ≤ l.length → l.length < i + k → (∀ j < i, l[j]? = m[j]?) → thicketbook_Same_int.L1 pts k s x (i : Int) M := by
      intro k
      induction k with
      | zero => intro i h1 h2; omega
      | succ k ih =>
        intro i h1 h2 hok
        rw [H.L1]
        unfold thicketbook_Same_int.L1.T
        rw [bs_decide]
        split
        · have hi : i < l.length := by omega
          have e1 := List.getElem?_eq_getElem hi
          have e2 := List.getElem?_eq_getElem (show i < m.length by omega)
          generalize l[i] = u at e1
          generalize m[i] = v at e2
          refine rdx W.c3 hs (Mem.le_refl _) i rfl e1 ?_
          refine rdx W.c3 hx (Mem.le_refl _) i rfl e2 ?_
          rw [bs_bne]
          split
          · rename_i huv
            subst huv
            rw [i64_next hi hm]
            refine ih (i + 1) (by omega) (by omega) fun j hj => ?_
            rcases Nat.lt_succ_iff_lt_or_eq.1 hj with hj | rfl
            · exact hok j hj
            · rw [e1, e2]
          · rename_i huv
            have : ¬ l = m := fun hh => by subst hh; rw [e1] at e2; exact huv (Option.some.inj e2)
            rw [decide_eq_false this] at h; exact h
        · have : l = m := by
            apply List.ext_getElem?
            intro j
            by_cases hj : j < l.length
            · exact hok j (by omega)
            · rw [List.getElem?_eq_none (by omega), List.getElem?_eq_none (by omega)]
          rw [decide_eq_true this] at h; exact h
    exact ⟨l.length + 1, key _ 0 (by omega) (by omega) (fun j hj => by omega)⟩
  · rename_i he
    have : ¬ l = m := fun hh => by subst hh; omega
    rw [decide_eq_false this] at h; exact h

end
end Go.Proofs.Ytoeijcmpkfjbfaa.HL
