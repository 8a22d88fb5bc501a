/-
  DigM: digits whose carries wait, in plain Lean, with no program in sight.
-/
import Derived.Test.YtkibecgakkhljaaHlI
set_option linter.unusedVariables false
set_option linter.unusedSimpArgs false
namespace Go.Proofs.Ytkibecgakkhljaa.Dig

def scan : Bool → List Int → Bool
  | _, [] => true
  | o, d :: r => if d < 0 ∨ 2 < d then false else if d = 2 then (if o = true then false else scan true r) else scan (o && d != 0) r
def lz : List Int → Bool
  | [] => true
  | [x] => decide (x ≠ 0)
  | _ :: y :: r => lz (y :: r)
def regL (l : List Int) : Bool := decide (l.length ≤ 40) && lz l && scan false l
def valD : List Int → Int
  | [] => 0
  | d :: r => d + 2 * valD r
def bump : List Int → List Int
  | [] => [1]
  | x :: r => (x + 1) :: r
def fixD : List Int → List Int × Bool
  | [] => ([], false)
  | x :: r => if x = 2 then (0 :: bump r, true) else (x :: (fixD r).1, (fixD r).2)
def incD (l : List Int) : List Int := bump (fixD l).1
def carD (l : List Int) : Int := if (fixD l).2 = true then 1 else 0

theorem lz_last : ∀ (l : List Int) (x : Int), l[l.length - 1]? = some x → lz l = decide (x ≠ 0)
  | [], x, h => by simp at h
  | [y], x, h => by simp at h; subst h; rfl
  | y :: z :: r, x, h => by
    rw [lz]
    apply lz_last
    simpa using h
theorem scan_mem : ∀ (l : List Int) (o : Bool), scan o l = true → ∀ x ∈ l, 0 ≤ x ∧ x ≤ 2
  | [], _, _, x, hx => by cases hx
  | d :: r, o, h, x, hx => by
    rw [scan] at h
    split at h
    · cases h
    · rename_i hd
      have hr : ∃ o', scan o' r = true := by
        split at h
        · split at h
          · cases h
          · exact ⟨_, h⟩
        · exact ⟨_, h⟩
      obtain ⟨o', hr⟩ := hr
      rcases List.mem_cons.1 hx with rfl | hx
      · omega
      · exact scan_mem r o' hr x hx

theorem scan_bump : ∀ (r : List Int), scan true r = true → scan false (bump r) = true
  | [], _ => by decide
  | y :: r, h => by
    rw [scan] at h
    split at h
    · cases h
    · rename_i hd
      split at h
      · simp at h
      · rename_i h2
        rw [bump, scan]
        rw [if_neg (by omega)]
        by_cases h0 : y = 0
        · subst h0; simpa using h
        · have : y = 1 := by omega
          subst this; simpa using h
theorem scan_fix : ∀ (l : List Int), scan false l = true → ∀ o, scan o (fixD l).1 = true
  | [], _, o => rfl
  | x :: r, h, o => by
    rw [scan] at h
    split at h
    · cases h
    · rename_i hd
      rw [fixD]
      split at h
      · rename_i h2
        rw [if_pos h2]
        simp only [Bool.false_eq_true, if_false] at h
        rw [scan, if_neg (by omega), if_neg (by omega)]
        simp only [bne_self_eq_false, Bool.and_false]
        exact scan_bump r h
      · rename_i h2
        rw [if_neg h2]
        simp only
        rw [scan, if_neg hd, if_neg h2]
        exact scan_fix r (by simpa using h) _
theorem scan_inc {l : List Int} (h : scan false l = true) : scan false (incD l) = true := scan_bump _ (scan_fix l h true)

theorem bump_ne (l : List Int) : bump l ≠ [] := by cases l <;> simp [bump]
theorem fix_nil : ∀ (l : List Int), (fixD l).1 = [] → l = []
  | [], _ => rfl
  | x :: r, h => by rw [fixD] at h; split at h <;> simp at h
theorem lz_bump : ∀ (l : List Int), (∀ x ∈ l, 0 ≤ x) → lz l = true → lz (bump l) = true
  | [], _, _ => by decide
  | [x], h, _ => by have := h x (by simp); simp [bump, lz]; omega
  | x :: y :: r, h, hl => by simpa [bump, lz] using hl
theorem lz_cons {x : Int} {m : List Int} (h : m ≠ []) : lz (x :: m) = lz m := by
  cases m with
  | nil => exact absurd rfl h
  | cons y r => rfl
theorem lz_tail {x : Int} {r : List Int} (h : lz (x :: r) = true) : lz r = true := by
  cases r with
  | nil => rfl
  | cons y r => exact h
theorem lz_fix : ∀ (l : List Int), (∀ x ∈ l, 0 ≤ x) → lz l = true → lz (fixD l).1 = true
  | [], _, _ => rfl
  | x :: r, h, hl => by
    rw [fixD]
    have hr : ∀ x ∈ r, 0 ≤ x := fun z hz => h z (List.mem_cons_of_mem _ hz)
    split
    · simp only
      rw [lz_cons (bump_ne r)]
      exact lz_bump r hr (lz_tail hl)
    · simp only
      by_cases h0 : (fixD r).1 = []
      · have := fix_nil r h0; subst this; exact hl
      · rw [lz_cons h0]; exact lz_fix r hr (lz_tail hl)
theorem fix_nonneg : ∀ (l : List Int), (∀ x ∈ l, 0 ≤ x) → ∀ x ∈ (fixD l).1, 0 ≤ x
  | [], h, x, hx => by cases hx
  | y :: r, h, x, hx => by
    have hr : ∀ x ∈ r, 0 ≤ x := fun z hz => h z (List.mem_cons_of_mem _ hz)
    rw [fixD] at hx
    split at hx
    · rcases List.mem_cons.1 hx with rfl | hx
      · omega
      · cases r with
        | nil => simp [bump] at hx; omega
        | cons z r =>
          rcases List.mem_cons.1 hx with rfl | hx
          · have := hr z (by simp); omega
          · exact hr x (by simp [hx])
    · rcases List.mem_cons.1 hx with rfl | hx
      · exact h x (by simp)
      · exact fix_nonneg r hr x hx
theorem lz_inc {l : List Int} (h : ∀ x ∈ l, 0 ≤ x) (hl : lz l = true) : lz (incD l) = true := lz_bump _ (fix_nonneg l h) (lz_fix l h hl)

theorem val_bump : ∀ (l : List Int), valD (bump l) = valD l + 1
  | [] => rfl
  | x :: r => by simp only [bump, valD]; omega
theorem val_fix : ∀ (l : List Int), valD (fixD l).1 = valD l
  | [] => rfl
  | x :: r => by
    rw [fixD]
    split
    · simp only [valD, val_bump]; omega
    · simp only [valD, val_fix r]
theorem val_inc (l : List Int) : valD (incD l) = valD l + 1 := by rw [incD, val_bump, val_fix]

theorem val_bounds : ∀ (l : List Int), (∀ x ∈ l, 0 ≤ x ∧ x ≤ 2) → 0 ≤ valD l ∧ valD l ≤ 2 * (2 ^ l.length : Nat) - 2
  | [], _ => by simp [valD]
  | x :: r, h => by
    have h1 := h x (by simp)
    have h2 := val_bounds r fun z hz => h z (List.mem_cons_of_mem _ hz)
    simp only [valD, List.length_cons, Nat.pow_succ]
    have : 0 < 2 ^ r.length := Nat.pow_pos (by decide)
    omega
theorem val_ge : ∀ (l : List Int), (∀ x ∈ l, 0 ≤ x) → lz l = true → l ≠ [] → ((2 ^ (l.length - 1) : Nat) : Int) ≤ valD l
  | [], _, _, h => absurd rfl h
  | [x], h, hl, _ => by
    have := h x (by simp)
    simp [lz] at hl
    simp [valD]; omega
  | x :: y :: r, h, hl, _ => by
    have h1 := h x (by simp)
    have := val_ge (y :: r) (fun z hz => h z (List.mem_cons_of_mem _ hz)) hl (by simp)
    rw [valD]
    simp only [List.length_cons, Nat.add_sub_cancel] at this ⊢
    rw [Nat.pow_succ]
    omega
theorem val_take : ∀ (l : List Int) (i : Nat) (x : Int), l[i]? = some x → valD (l.take (i + 1)) = valD (l.take i) + x * (2 ^ i : Nat)
  | [], i, x, h => by simp at h
  | y :: r, 0, x, h => by simp at h; subst h; simp [valD]
  | y :: r, i + 1, x, h => by
    have := val_take r i x (by simpa using h)
    simp only [List.take_succ_cons, valD, this, Nat.pow_succ]
    have e : x * ((2 ^ i * 2 : Nat) : Int) = 2 * (x * (2 ^ i : Nat)) := by
      rw [Int.natCast_mul, ← Int.mul_assoc]
      simp only [Int.mul_comm]; rfl
    rw [e]
    omega
theorem val_drop {l : List Int} {i : Nat} {x : Int} (h : l[i]? = some x) : valD (l.drop i) = x + 2 * valD (l.drop (i + 1)) := by
  have hi := (List.getElem?_eq_some_iff.1 h).1
  rw [List.drop_eq_getElem_cons hi, valD]
  rw [List.getElem?_eq_getElem hi] at h
  rw [Option.some.inj h]

theorem fix_none : ∀ (l : List Int), (∀ x ∈ l, x ≠ 2) → fixD l = (l, false)
  | [], _ => rfl
  | x :: r, h => by
    rw [fixD, if_neg (h x (by simp)), fix_none r fun z hz => h z (List.mem_cons_of_mem _ hz)]
theorem fix_at : ∀ (l : List Int) (i : Nat), l[i]? = some 2 → (∀ j < i, l[j]? ≠ some 2) → fixD l = (l.take i ++ 0 :: bump (l.drop (i + 1)), true)
  | [], i, h, _ => by simp at h
  | x :: r, 0, h, _ => by simp at h; subst h; rfl
  | x :: r, i + 1, h, hj => by
    have h0 : x ≠ 2 := fun e => hj 0 (by omega) (by simp [e])
    have := fix_at r i (by simpa using h) fun j hj' => by have := hj (j + 1) (by omega); simpa using this
    rw [fixD, if_neg h0, this]
    simp

/-- Numbers that are counted up. -/
def Good (l : List Int) (n : Nat) : Prop := lz l = true ∧ scan false l = true ∧ valD l = (n : Int)
theorem Good.nil : Good [] 0 := ⟨rfl, rfl, rfl⟩
theorem Good.inc {l : List Int} {n : Nat} (h : Good l n) : Good (incD l) (n + 1) :=
  ⟨lz_inc (fun x hx => (scan_mem l _ h.2.1 x hx).1) h.1, scan_inc h.2.1, by rw [val_inc, h.2.2]; rfl⟩
theorem Good.len {l : List Int} {n : Nat} (h : Good l n) (hn : n ≤ 10000) : l.length ≤ 14 := by
  by_cases h0 : l = []
  · subst h0; simp
  · have := val_ge l (fun x hx => (scan_mem l _ h.2.1 x hx).1) h.1 h0
    rw [h.2.2] at this
    apply Decidable.byContradiction
    intro hc
    have : 2 ^ 14 ≤ 2 ^ (l.length - 1) := Nat.pow_le_pow_right (by decide) (by omega)
    omega
theorem Good.reg {l : List Int} {n : Nat} (h : Good l n) (hn : n ≤ 10000) : regL l = true := by
  have := h.len hn
  rw [regL, h.1, h.2.1, decide_eq_true (by omega)]; rfl
theorem Good.mem {l : List Int} {n : Nat} (h : Good l n) : ∀ x ∈ l, 0 ≤ x ∧ x ≤ 2 := scan_mem l _ h.2.1
theorem Good.pos {l : List Int} {n : Nat} (h : Good l n) (hn : 1 ≤ n) : l ≠ [] := fun e => by
  subst e; have := h.2.2; simp [valD] at this; omega

/-- The number n. -/
def num : Nat → List Int
  | 0 => []
  | n + 1 => incD (num n)
theorem num_good : ∀ n, Good (num n) n
  | 0 => Good.nil
  | n + 1 => (num_good n).inc

end Go.Proofs.Ytkibecgakkhljaa.Dig
