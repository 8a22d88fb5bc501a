/-
  SkwM: skew numbers in plain Lean, with no program in sight.
-/
import Derived.Test.YtkibecgakkhljaaHlH
set_option linter.unusedVariables false
set_option linter.unusedSimpArgs false
namespace Go.Proofs.Ytkibecgakkhljaa.Skw

/-- What a rank counts. -/
def wt (k : Int) : Int := 2 ^ (k + 1).toNat - 1
def okAt (l : List Int) (i : Nat) : Bool := match l[i]? with
  | none => false
  | some x => decide (0 ≤ x) && decide (x ≤ 28) && (match i with
    | 0 => true
    | j + 1 => match l[j]? with
      | some y => decide (y ≤ x) && (decide (j = 0) || decide (y ≠ x))
      | none => false)
def rightB (l : List Int) : Bool := (List.range l.length).all (okAt l)
def sumW (l : List Int) : Int := (l.map wt).sum
def valL (l : List Int) : Int := if rightB l then sumW l else -1
def incL (l : List Int) : Option (List Int) := if rightB l then (match l with
    | x :: y :: r => if x = y then (if x = 28 then none else some ((x + 1) :: r)) else some (0 :: l)
    | _ => some (0 :: l)) else none
def decL (l : List Int) : Option (List Int) := if rightB l then (match l with
    | [] => none
    | x :: r => if x = 0 then some r else some ((x - 1) :: (x - 1) :: r)) else none
/-- From rank k on down: the greatest that goes in, again and again. -/
def greedy : Nat → Nat → List Int
  | 0, n => List.replicate n 0
  | k + 1, n => List.replicate (n / (2 ^ (k + 2) - 1)) ((k : Int) + 1) ++ greedy k (n % (2 ^ (k + 2) - 1))
def numL (n : Int) : List Int := if 1 ≤ n ∧ n ≤ 268435456 then (greedy 28 n.toNat).reverse else []

def strict : Int → List Int → Prop
  | _, [] => True
  | y, z :: r => y < z ∧ z ≤ 28 ∧ strict z r
def rightP : List Int → Prop
  | [] => True
  | [x] => 0 ≤ x ∧ x ≤ 28
  | x :: y :: r => 0 ≤ x ∧ x ≤ y ∧ y ≤ 28 ∧ strict y r

theorem strict_iff : ∀ (r : List Int) (y : Int), strict y r ↔ ∀ i (h : i < r.length), (y :: r)[i]'(by simp; omega) < r[i] ∧ r[i] ≤ 28 := by
  intro r
  induction r with
  | nil => intro y; simp [strict]
  | cons z r ih =>
    intro y
    simp only [strict, ih]
    constructor
    · rintro ⟨h1, h2, h3⟩ i hi
      cases i with
      | zero => exact ⟨h1, h2⟩
      | succ i => exact h3 i (by simpa using hi)
    · intro h
      exact ⟨(h 0 (by simp)).1, (h 0 (by simp)).2, fun i hi => h (i + 1) (by simpa using hi)⟩
theorem strict_gt : ∀ (r : List Int) (y : Int), strict y r → ∀ z ∈ r, y < z ∧ z ≤ 28 := by
  intro r
  induction r with
  | nil => intro y _ z hz; cases hz
  | cons w r ih =>
    intro y h z hz
    obtain ⟨h1, h2, h3⟩ := h
    cases hz with
    | head => exact ⟨h1, h2⟩
    | tail _ hz => have := ih w h3 z hz; exact ⟨by omega, this.2⟩

theorem rightB_iff (l : List Int) : rightB l = true ↔ rightP l := by
  unfold rightB
  rw [List.all_eq_true]
  simp only [List.mem_range]
  match l with
  | [] => simp [rightP]
  | [x] => simp [rightP, okAt]
  | x :: y :: r =>
    simp only [rightP, strict_iff]
    constructor
    · intro h
      have h0 := h 0 (by simp)
      have h1 := h 1 (by simp)
      simp [okAt] at h0 h1
      refine ⟨h0.1, h1.2, h1.1.2, fun i hi => ?_⟩
      have h2 := h (i + 2) (by simpa using hi)
      have e1 : (x :: y :: r)[i + 2]? = some r[i] := by simp [hi]
      have e2 : (x :: y :: r)[i + 1]? = some ((y :: r)[i]'(by simp; omega)) := by
        rw [List.getElem?_cons_succ, List.getElem?_eq_getElem]
      simp only [okAt, e1, e2, Bool.and_eq_true, decide_eq_true_eq, Bool.or_eq_true] at h2
      omega
    · rintro ⟨h1, h2, h3, h4⟩ i hi
      match i with
      | 0 => simp [okAt]; omega
      | 1 => simp [okAt]; omega
      | i + 2 =>
        have hi' : i < r.length := by simpa using hi
        have e1 : (x :: y :: r)[i + 2]? = some r[i] := by simp [hi']
        have e2 : (x :: y :: r)[i + 1]? = some ((y :: r)[i]'(by simp; omega)) := by
          rw [List.getElem?_cons_succ, List.getElem?_eq_getElem]
        have h5 := h4 i hi'
        have h6 := strict_gt r y ((strict_iff r y).2 h4) r[i] (List.getElem_mem hi')
        simp only [okAt, e1, e2, Bool.and_eq_true, decide_eq_true_eq, Bool.or_eq_true]
        omega


theorem wt_succ {k : Int} (h : 0 ≤ k) : wt (k + 1) = 2 * wt k + 1 := by
  unfold wt
  rw [show (k + 1 + 1).toNat = (k + 1).toNat + 1 from by omega, Int.pow_succ]; omega
theorem wt_pos {k : Int} (h : 0 ≤ k) : 1 ≤ wt k := by
  unfold wt
  have : (2 : Int) ≤ 2 ^ (k + 1).toNat := by
    rw [show (k + 1).toNat = k.toNat + 1 from by omega, Int.pow_succ]
    have : (0 : Int) < 2 ^ k.toNat := Int.pow_pos (by decide)
    omega
  omega
theorem wt_zero : wt 0 = 1 := rfl
theorem wt_le {k : Int} (h0 : 0 ≤ k) (h : k ≤ 28) : wt k ≤ 536870911 := by
  unfold wt
  have h1 : 2 ^ (k + 1).toNat ≤ 2 ^ 29 := Nat.pow_le_pow_right (by decide) (by omega)
  have h2 : ((2 ^ (k + 1).toNat : Nat) : Int) = (2 : Int) ^ (k + 1).toNat := by simp
  omega
theorem sumW_cons (x : Int) (l : List Int) : sumW (x :: l) = wt x + sumW l := by simp [sumW]
theorem sumW_append (l m : List Int) : sumW (l ++ m) = sumW l + sumW m := by simp [sumW]
theorem sumW_nil : sumW [] = 0 := rfl

theorem rightP_nonneg : ∀ {l : List Int}, rightP l → ∀ x ∈ l, 0 ≤ x ∧ x ≤ 28
  | [], _, x, hx => by cases hx
  | [a], h, x, hx => by simp at hx; subst hx; exact h
  | a :: b :: r, h, x, hx => by
    obtain ⟨h1, h2, h3, h4⟩ := h
    simp at hx
    rcases hx with rfl | rfl | hx
    · omega
    · omega
    · have := strict_gt r b h4 x hx; omega
theorem sumW_nonneg : ∀ {l : List Int}, (∀ x ∈ l, 0 ≤ x ∧ x ≤ 28) → 0 ≤ sumW l
  | [], _ => by simp [sumW]
  | a :: r, h => by
    rw [sumW_cons]
    have h1 := wt_pos (h a List.mem_cons_self).1
    have := sumW_nonneg (l := r) (fun x hx => h x (List.mem_cons_of_mem _ hx))
    omega

theorem inc_right {l m : List Int} (h : incL l = some m) : rightP m ∧ sumW m = sumW l + 1 ∧ decL m = some l := by
  unfold incL at h
  split at h
  · rename_i hr
    have hp := (rightB_iff l).1 hr
    match l, hp, h, hr with
    | [], hp, h, hr =>
      cases h
      have : rightB [0] = true := by decide
      exact ⟨by simp [rightP], by simp [sumW, wt], by simp [decL, this]⟩
    | [x], hp, h, hr =>
      cases h
      have hp' : rightP [0, x] := ⟨by omega, hp.1, hp.2, trivial⟩
      exact ⟨hp', by simp only [sumW_cons, wt_zero]; omega, by simp [decL, (rightB_iff _).2 hp']⟩
    | x :: y :: r, hp, h, hr =>
      obtain ⟨h1, h2, h3, h4⟩ := hp
      simp only at h
      split at h
      · rename_i hxy
        subst hxy
        split at h
        · cases h
        · rename_i h28
          cases h
          have hp' : rightP ((x + 1) :: r) := by
            match r, h4 with
            | [], _ => exact ⟨by omega, by omega⟩
            | z :: r, h4 => exact ⟨by omega, by have := h4.1; omega, h4.2.1, h4.2.2⟩
          refine ⟨hp', by simp only [sumW_cons, wt_succ h1]; omega, ?_⟩
          simp only [decL, (rightB_iff _).2 hp', if_true]
          rw [if_neg (by omega)]
          simp
      · rename_i hxy
        cases h
        have hp' : rightP (0 :: x :: y :: r) := ⟨by omega, h1, by omega, by omega, h3, h4⟩
        exact ⟨hp', by simp only [sumW_cons, wt_zero]; omega, by simp [decL, (rightB_iff _).2 hp']⟩
  · cases h

theorem dec_right {l m : List Int} (h : decL l = some m) : rightP m ∧ sumW m = sumW l - 1 ∧ incL m = some l := by
  unfold decL at h
  split at h
  · rename_i hr
    have hp := (rightB_iff l).1 hr
    match l, hp, h, hr with
    | [], hp, h, hr => cases h
    | [x], hp, h, hr =>
      simp only at h
      split at h
      · rename_i hx; subst hx; cases h
        exact ⟨trivial, by simp [sumW, wt], by decide⟩
      · rename_i hx; cases h
        have hp' : rightP [x - 1, x - 1] := ⟨by have := hp.1; omega, by omega, by have := hp.2; omega, trivial⟩
        have e := wt_succ (k := x - 1) (by have := hp.1; omega)
        rw [show x - 1 + 1 = x from by omega] at e
        refine ⟨hp', by simp only [sumW_cons, sumW_nil]; omega, ?_⟩
        simp only [incL, (rightB_iff _).2 hp', if_true]
        rw [if_neg (by have := hp.2; omega)]; simp
    | x :: y :: r, hp, h, hr =>
      obtain ⟨h1, h2, h3, h4⟩ := hp
      simp only at h
      split at h
      · rename_i hx; subst hx; cases h
        have hp' : rightP (y :: r) := by
          match r, h4 with
          | [], _ => exact ⟨h2, h3⟩
          | z :: r, h4 => exact ⟨h2, by have := h4.1; omega, h4.2.1, h4.2.2⟩
        refine ⟨hp', by simp only [sumW_cons, wt_zero]; omega, ?_⟩
        simp only [incL, (rightB_iff _).2 hp', if_true]
        match r, h4 with
        | [], _ => rfl
        | z :: r, h4 => simp only; rw [if_neg (by have := h4.1; omega)]
      · rename_i hx; cases h
        have hp' : rightP ((x - 1) :: (x - 1) :: y :: r) := ⟨by omega, by omega, by omega, by omega, h3, h4⟩
        have e := wt_succ (k := x - 1) (by omega)
        rw [show x - 1 + 1 = x from by omega] at e
        refine ⟨hp', by simp only [sumW_cons]; omega, ?_⟩
        simp only [incL, (rightB_iff _).2 hp', if_true]
        rw [if_neg (by omega)]; simp
  · cases h

/-- One skew number of each value. -/
theorem right_unique : ∀ (n : Nat) (l m : List Int), rightP l → rightP m → sumW l = (n : Int) → sumW m = (n : Int) → l = m := by
  have key : ∀ l : List Int, rightP l → ∀ x r, l = x :: r → ∃ d, decL l = some d := by
    intro l hl x r e
    subst e
    simp only [decL, (rightB_iff _).2 hl, if_true]
    split
    · exact ⟨_, rfl⟩
    · exact ⟨_, rfl⟩
  have pos : ∀ l : List Int, rightP l → ∀ x r, l = x :: r → 1 ≤ sumW l := by
    intro l hl x r e
    subst e
    rw [sumW_cons]
    have h1 := wt_pos (rightP_nonneg hl x List.mem_cons_self).1
    have h2 := sumW_nonneg (l := r) (fun z hz => rightP_nonneg hl z (List.mem_cons_of_mem _ hz))
    omega
  intro n
  induction n with
  | zero =>
    intro l m hl hm el em
    match l, m with
    | [], [] => rfl
    | x :: r, m => have := pos _ hl x r rfl; omega
    | [], x :: r => have := pos _ hm x r rfl; omega
  | succ n ih =>
    intro l m hl hm el em
    match l, m with
    | [], m => simp only [sumW_nil] at el; omega
    | x :: r, [] => simp only [sumW_nil] at em; omega
    | x :: r, y :: q =>
      obtain ⟨d, hd⟩ := key _ hl x r rfl
      obtain ⟨e, he⟩ := key _ hm y q rfl
      have h1 := dec_right hd
      have h2 := dec_right he
      have := ih d e h1.1 h2.1 (by omega) (by omega)
      subst this
      have := h1.2.2.symm.trans h2.2.2
      exact Option.some.inj this

theorem strict_snoc : ∀ (r : List Int) (y k : Int), strict y r → y < k → (∀ x ∈ r, x < k) → k ≤ 28 → strict y (r ++ [k])
  | [], y, k, _, h1, _, h2 => ⟨h1, h2, trivial⟩
  | z :: r, y, k, h, _, h1, h2 => ⟨h.1, h.2.1, strict_snoc r z k h.2.2 (h1 z List.mem_cons_self) (fun x hx => h1 x (List.mem_cons_of_mem _ hx)) h2⟩
theorem right_snoc {l : List Int} {k : Int} (hl : rightP l) (h : ∀ x ∈ l, x < k) (h0 : 0 ≤ k) (h28 : k ≤ 28) : rightP (l ++ [k]) := by
  match l, hl with
  | [], _ => exact ⟨h0, h28⟩
  | [x], hl => exact ⟨hl.1, by have := h x List.mem_cons_self; omega, h28, trivial⟩
  | x :: y :: r, hl =>
    exact ⟨hl.1, hl.2.1, hl.2.2.1, strict_snoc r y k hl.2.2.2 (h y (by simp)) (fun z hz => h z (by simp [hz])) h28⟩

def wn (k : Nat) : Nat := 2 ^ (k + 1) - 1
theorem wn_succ (k : Nat) : wn (k + 1) = 2 * wn k + 1 := by
  unfold wn
  have : 0 < 2 ^ (k + 1) := Nat.pow_pos (by decide)
  rw [Nat.pow_succ 2 (k + 1)]; omega
theorem wn_pos (k : Nat) : 1 ≤ wn k := by
  unfold wn
  have : 0 < 2 ^ k := Nat.pow_pos (by decide)
  rw [Nat.pow_succ]; omega
theorem wt_wn (k : Nat) : wt (k : Int) = (wn k : Int) := by
  unfold wt wn
  have h : 0 < 2 ^ (k + 1) := Nat.pow_pos (by decide)
  have h2 : ((2 ^ (k + 1) : Nat) : Int) = (2 : Int) ^ (k + 1) := by simp
  rw [show ((k : Int) + 1).toNat = k + 1 from by omega, ← h2]; omega

theorem greedy_zero : ∀ k, greedy k 0 = []
  | 0 => rfl
  | k + 1 => by simp [greedy, greedy_zero k]
theorem greedy_ge (k : Nat) {n : Nat} (h : wn k ≤ n) : greedy k n = (k : Int) :: greedy k (n - wn k) := by
  match k with
  | 0 =>
    have e : wn 0 = 1 := rfl
    rw [e] at h ⊢
    obtain ⟨m, rfl⟩ := Nat.exists_eq_add_of_le h
    rw [show 1 + m - 1 = m from by omega, show 1 + m = m + 1 from by omega]
    simp [greedy, List.replicate_succ]
  | k + 1 =>
    have hp := wn_pos (k + 1)
    unfold greedy
    change wn (k + 1) ≤ n at h
    rw [show 2 ^ (k + 2) - 1 = wn (k + 1) from rfl]
    have e1 : n / wn (k + 1) = (n - wn (k + 1)) / wn (k + 1) + 1 := by
      rw [Nat.div_eq_sub_div (by omega) h]
    have e2 : n % wn (k + 1) = (n - wn (k + 1)) % wn (k + 1) := Nat.mod_eq_sub_mod h
    rw [e1, e2, List.replicate_succ]
    simp
theorem greedy_lt (k : Nat) {n : Nat} (h : n < wn (k + 1)) : greedy (k + 1) n = greedy k n := by
  unfold greedy
  rw [show 2 ^ (k + 2) - 1 = wn (k + 1) from rfl, Nat.div_eq_of_lt h, Nat.mod_eq_of_lt h]
  simp [greedy]
  cases k <;> rfl
theorem greedy_lt0 {n : Nat} (h : n < wn 0) : greedy 0 n = [] := by
  have : n = 0 := by have : wn 0 = 1 := rfl; omega
  subst this; rfl

theorem greedy_right : ∀ (k n : Nat), k ≤ 28 → n ≤ 2 * wn k → rightP (greedy k n).reverse ∧ (∀ x ∈ greedy k n, 0 ≤ x ∧ x ≤ (k : Int)) ∧ sumW (greedy k n).reverse = (n : Int) := by
  intro k
  induction k with
  | zero =>
    intro n _ h
    have e : wn 0 = 1 := rfl
    match n, h with
    | 0, _ => exact ⟨trivial, by simp [greedy], rfl⟩
    | 1, _ => exact ⟨by simp [greedy, rightP, List.replicate], by simp [greedy], by decide⟩
    | 2, _ => exact ⟨by simp [greedy, rightP, strict, List.replicate], by simp [greedy], by decide⟩
    | n + 3, h => omega
  | succ k ih =>
    intro n hk h
    have hw := wn_succ k
    by_cases h1 : n < wn (k + 1)
    · rw [greedy_lt k h1]
      obtain ⟨a, b, c⟩ := ih n (by omega) (by omega)
      exact ⟨a, fun x hx => by have := b x hx; omega, c⟩
    · rw [greedy_ge (k + 1) (by omega)]
      by_cases h2 : n - wn (k + 1) < wn (k + 1)
      · rw [greedy_lt k h2]
        obtain ⟨a, b, c⟩ := ih (n - wn (k + 1)) (by omega) (by omega)
        rw [List.reverse_cons]
        refine ⟨right_snoc a (fun x hx => ?_) (by omega) (by omega), fun x hx => ?_, ?_⟩
        · have := b x (List.mem_reverse.1 hx); omega
        · rcases List.mem_cons.1 hx with rfl | hx
          · omega
          · have := b x hx; omega
        · rw [sumW_append, c, sumW_cons, sumW_nil, wt_wn]; omega
      · have e : n - wn (k + 1) = wn (k + 1) := by omega
        have hp := wn_pos (k + 1)
        rw [e, greedy_ge (k + 1) (Nat.le_refl _), Nat.sub_self, greedy_zero]
        refine ⟨⟨by omega, by omega, by omega, trivial⟩, fun x hx => ?_, ?_⟩
        · simp at hx; omega
        · simp only [List.reverse_cons, List.reverse_nil, List.nil_append, List.cons_append, sumW_cons, sumW_nil, wt_wn]; omega

theorem wn28 : wn 28 = 536870911 := rfl
theorem numL_right (n : Int) (h : 0 ≤ n) (h2 : n ≤ 268435456) : rightP (numL n) ∧ sumW (numL n) = n := by
  unfold numL
  split
  · obtain ⟨a, _, c⟩ := greedy_right 28 n.toNat (Nat.le_refl _) (by rw [wn28]; omega)
    exact ⟨a, by rw [c]; omega⟩
  · have : n = 0 := by omega
    subst this; exact ⟨trivial, rfl⟩
theorem numL_bound (n : Int) : ∀ x ∈ numL n, 0 ≤ x ∧ x ≤ 28 := by
  intro x hx
  unfold numL at hx
  split at hx
  · obtain ⟨_, b, _⟩ := greedy_right 28 n.toNat (Nat.le_refl _) (by rw [wn28]; omega)
    exact b x (List.mem_reverse.1 hx)
  · cases hx
theorem numL_val (n : Int) (h : 0 ≤ n) (h2 : n ≤ 268435456) : valL (numL n) = n := by
  have := numL_right n h h2
  rw [valL, (rightB_iff _).2 this.1]; exact this.2
theorem numL_rightB (n : Int) : rightB (numL n) = true := by
  by_cases h : 1 ≤ n ∧ n ≤ 268435456
  · exact (rightB_iff _).2 (numL_right n (by omega) h.2).1
  · unfold numL; rw [if_neg h]; rfl
theorem of_right {l : List Int} (h : rightP l) (h2 : sumW l ≤ 268435456) : numL (sumW l) = l := by
  have h0 := sumW_nonneg (rightP_nonneg h)
  have := numL_right (sumW l) h0 h2
  exact right_unique (sumW l).toNat _ _ this.1 h (by omega) (by omega)
theorem inc_of (n : Int) (h : 0 ≤ n) (h2 : n < 268435456) : incL (numL n) = some (numL (n + 1)) := by
  obtain ⟨h3, h4⟩ := numL_right n h (by omega)
  have key : ∃ m, incL (numL n) = some m := by
    unfold incL
    rw [(rightB_iff _).2 h3, if_pos rfl]
    match e : numL n with
    | [] => exact ⟨_, rfl⟩
    | [x] => exact ⟨_, rfl⟩
    | x :: y :: r =>
      simp only
      split
      · split
        · rename_i h5 h6
          subst h5; subst h6
          rw [e] at h4 h3
          have := sumW_nonneg (l := r) (fun z hz => rightP_nonneg h3 z (by simp [hz]))
          have e28 : wt 28 = 536870911 := by decide
          simp only [sumW_cons, e28] at h4; omega
        · exact ⟨_, rfl⟩
      · exact ⟨_, rfl⟩
  obtain ⟨m, hm⟩ := key
  obtain ⟨a, b, c⟩ := inc_right hm
  rw [hm, ← of_right a (by omega), b, h4]
theorem dec_of (n : Int) (h : 1 ≤ n) (h2 : n ≤ 268435456) : decL (numL n) = some (numL (n - 1)) := by
  have h3 := inc_of (n - 1) (by omega) (by omega)
  rw [show n - 1 + 1 = n from by omega] at h3
  exact (inc_right h3).2.2

end Go.Proofs.Ytkibecgakkhljaa.Skw
