/-
  BlM: binary digits and limits, in plain Lean.
-/
import Derived.Test.YtgnfbodlpolibaaOrM
set_option linter.unusedVariables false
set_option linter.unusedSimpArgs false
namespace Go.Proofs.Ytgnfbodlpolibaa.HL

/-- How many binary digits. -/
def bl (n : Nat) : Nat := if n = 0 then 0 else Nat.log2 n + 1
theorem bl_pos {n : Nat} (h : 0 < n) : 2 ^ (bl n - 1) ≤ n ∧ n < 2 ^ bl n := by
  unfold bl
  rw [if_neg (by omega), Nat.add_sub_cancel]
  exact ⟨Nat.log2_self_le (by omega), Nat.lt_log2_self⟩
theorem bl_eq {n k : Nat} (h1 : 2 ^ k ≤ n) (h2 : n < 2 ^ (k + 1)) : bl n = k + 1 := by
  have hp : 0 < 2 ^ k := Nat.pow_pos (by decide)
  have hn : 0 < n := by omega
  obtain ⟨h3, h4⟩ := bl_pos hn
  have hb : 0 < bl n := by unfold bl; rw [if_neg (by omega)]; omega
  have h5 : bl n - 1 < k + 1 := (Nat.pow_lt_pow_iff_right (by decide)).1 (Nat.lt_of_le_of_lt h3 h2)
  have h6 : k < bl n := (Nat.pow_lt_pow_iff_right (a := 2) (by decide)).1 (Nat.lt_of_le_of_lt h1 h4)
  omega
theorem bl_div {x k : Nat} (h : 2 ^ k ≤ x) : bl x = bl (x / 2 ^ k) + k := by
  have hp : 0 < 2 ^ k := Nat.pow_pos (by decide)
  have hy : 0 < x / 2 ^ k := Nat.div_pos h hp
  obtain ⟨h1, h2⟩ := bl_pos hy
  have hb : 0 < bl (x / 2 ^ k) := by unfold bl; rw [if_neg (by omega)]; omega
  generalize hj : bl (x / 2 ^ k) = j at h1 h2 hb
  obtain ⟨j, rfl⟩ : ∃ i, j = i + 1 := ⟨j - 1, by omega⟩
  rw [Nat.add_sub_cancel] at h1
  have e : j + 1 + k = j + k + 1 := by omega
  rw [e]
  refine bl_eq ?_ ?_
  · rw [Nat.pow_add]; exact (Nat.le_div_iff_mul_le hp).1 h1
  · rw [← e, Nat.pow_add]; exact (Nat.div_lt_iff_lt_mul hp).1 h2
theorem bl_mono {m n : Nat} (h : m ≤ n) : bl m ≤ bl n := by
  by_cases h0 : m = 0
  · subst h0; simp [bl]
  · obtain ⟨h1, h2⟩ := bl_pos (show 0 < m by omega)
    obtain ⟨h3, h4⟩ := bl_pos (show 0 < n by omega)
    have := (Nat.pow_lt_pow_iff_right (a := 2) (by decide)).1 (Nat.lt_of_le_of_lt h1 (Nat.lt_of_le_of_lt h h4))
    omega
theorem bl_le {n k : Nat} (h : n < 2 ^ k) : bl n ≤ k := by
  by_cases h0 : n = 0
  · subst h0; simp [bl]
  · obtain ⟨h1, h2⟩ := bl_pos (show 0 < n by omega)
    have := (Nat.pow_lt_pow_iff_right (a := 2) (by decide)).1 (Nat.lt_of_le_of_lt h1 h)
    omega

/-- A sum of one and so many others. -/
def limI (a b : Int) : Nat → Int
  | 0 => a
  | k + 1 => limI (addc a b) b k
theorem limI_in {a b : Int} (ha : In64 a) : ∀ k, In64 (limI a b k)
  | 0 => ha
  | k + 1 => limI_in addc_in k
theorem limI_small {b : Int} (hb : 0 ≤ b) : ∀ (k : Nat) (a : Int), 0 ≤ a → a + b * k ≤ 9223372036854775807 → limI a b k = a + b * k
  | 0, a, _, _ => by simp [limI]
  | k + 1, a, ha, h => by
    have h1 : b * ((k + 1 : Nat) : Int) = b * k + b := by rw [Int.natCast_add, Int.mul_add]; simp
    have h2 : 0 ≤ b * (k : Int) := Int.mul_nonneg hb (by omega)
    have e : addc a b = a + b := by unfold addc; rw [if_neg (by omega), if_neg (by omega)]
    rw [limI, e, limI_small hb k (a + b) (by omega) (by omega)]
    omega


theorem bl_half {n : Nat} (h : 0 < n) : bl n = bl (n / 2) + 1 := by
  by_cases h1 : n = 1
  · subst h1; rfl
  · have := bl_div (x := n) (k := 1) (by omega)
    simpa using this
theorem bl_pow {k n : Nat} (h : 2 ^ k ≤ n) : k + 1 ≤ bl n := by
  obtain ⟨h1, h2⟩ := bl_pos (show 0 < n from Nat.lt_of_lt_of_le (Nat.pow_pos (by decide)) h)
  have := (Nat.pow_lt_pow_iff_right (a := 2) (by decide)).1 (Nat.lt_of_le_of_lt h h2)
  omega
/-- What a call may take. -/
def limH (n : Nat) : Int := 500 + 400 * (bl n : Int)
theorem limH_mono {m n : Nat} (h : m ≤ n) : limH m ≤ limH n := by
  have := bl_mono h
  unfold limH; omega
theorem limH_bound {n : Nat} (h : n ≤ 1000000) : 500 ≤ limH n ∧ limH n ≤ 8500 := by
  have : bl n ≤ 20 := bl_le (by omega)
  unfold limH; omega

end Go.Proofs.Ytgnfbodlpolibaa.HL
