import Derived.Test.YtbkicgfgpmekeaaGreatXi
import Derived.Test.YtbkicgfgpmekeaaGreatXb
import Derived.Test.YtbkicgfgpmekeaaGreatXa
import Derived.Test.YtbkicgfgpmekeaaGreatHlR
/-
  WdM: an arena, two heaps, what they hold: the law's own book, in plain Lean.
-/
set_option linter.unusedVariables false
set_option linter.unusedSimpArgs false
namespace Go.Proofs.YtbkicgfgpmekeaaGreat.HL

structure WS where
  α : AS
  r : Nat → Int
  has : Nat → List Held
  next : Int
  spent : Int
  most : Int

/-- One of two is changed. -/
def upd {β : Type} (f : Nat → β) (h : Nat) (v : β) : Nat → β := fun k => if k = h then v else f k
theorem upd_same {β : Type} (f : Nat → β) (h : Nat) (v : β) : upd f h v h = v := by simp [upd]
theorem upd_ne {β : Type} (f : Nat → β) {h k : Nat} (v : β) (hk : k ≠ h) : upd f h v k = f k := by simp [upd, hk]

def flatH (l : List Held) : List Int := l.flatMap fun x => [(x.1 : Int), x.2.1, x.2.2]
theorem flatH_len (l : List Held) : (flatH l).length = l.length * 3 := by
  induction l with
  | nil => rfl
  | cons x l ih => simp only [flatH, List.flatMap_cons, List.length_append, List.length_cons, List.length_nil] at ih ⊢; omega
theorem flatH_get {l : List Held} : ∀ {i : Nat} {x : Held}, l[i]? = some x → ∀ f v, [(x.1 : Int), x.2.1, x.2.2][f]? = some v → (flatH l)[i * 3 + f]? = some v := by
  induction l with
  | nil => intro i x h; simp at h
  | cons y l ih =>
    intro i x h f v hv
    have hf : f < 3 := (List.getElem?_eq_some_iff.1 hv).1
    cases i with
    | zero =>
      simp at h; subst h
      simp only [flatH, List.flatMap_cons, Nat.zero_mul, Nat.zero_add]
      rw [List.getElem?_append_left (by simpa using hf)]; exact hv
    | succ i =>
      rw [List.getElem?_cons_succ] at h
      have := ih h f v hv
      simp only [flatH, List.flatMap_cons] at this ⊢
      rw [List.getElem?_append_right (by simp; omega)]
      rw [show (i + 1) * 3 + f - [(y.1 : Int), y.2.1, y.2.2].length = i * 3 + f from by simp; omega]
      exact this
theorem flatH_app (l m : List Held) : flatH (l ++ m) = flatH l ++ flatH m := by simp [flatH]
def okHd (x : Held) : Prop := x.1 < 65536 ∧ In64 x.2.1 ∧ In64 x.2.2
theorem flatH_wf {l : List Held} (h : ∀ x ∈ l, okHd x) : ∀ n ∈ flatH l, (Lit.int .i64 n).wf = true := wf_all fun n hn => by
  obtain ⟨x, hx, hn⟩ := List.mem_flatMap.1 hn
  obtain ⟨h1, h2, h3⟩ := h x hx
  simp only [List.mem_cons, List.not_mem_nil, or_false] at hn
  rcases hn with rfl | rfl | rfl
  · unfold In64; omega
  · exact h2
  · exact h3
theorem flatH_take (l : List Held) (k : Nat) : flatH (l.take k) = (flatH l).take (k * 3) := by
  induction l generalizing k with
  | nil => simp [flatH]
  | cons x l ih =>
    cases k with
    | zero => simp [flatH]
    | succ k =>
      have := ih k
      simp only [flatH, List.take_succ_cons, List.flatMap_cons] at this ⊢
      rw [this, show (k + 1) * 3 = k * 3 + 1 + 1 + 1 from by omega]; rfl
theorem flatH_drop (l : List Held) (k : Nat) : flatH (l.drop k) = (flatH l).drop (k * 3) := by
  induction l generalizing k with
  | nil => simp [flatH]
  | cons x l ih =>
    cases k with
    | zero => simp
    | succ k =>
      have := ih k
      simp only [flatH, List.drop_succ_cons, List.flatMap_cons] at this ⊢
      rw [this, show (k + 1) * 3 = k * 3 + 1 + 1 + 1 from by omega]; rfl

/-- Numbers in order are told by what they are. -/
theorem sorted_eq : ∀ {l m : List Int}, l.Pairwise (· ≤ ·) → m.Pairwise (· ≤ ·) → l.Perm m → l = m := by
  intro l
  induction l with
  | nil => intro m _ _ h; exact List.Perm.nil_eq h
  | cons a l ih =>
    intro m hl hm hp
    cases m with
    | nil => exact absurd hp.length_eq (by simp)
    | cons b m =>
      have hab : a = b := by
        rcases List.mem_cons.1 (hp.mem_iff.1 List.mem_cons_self) with h | h
        · exact h
        · rcases List.mem_cons.1 (hp.mem_iff.2 List.mem_cons_self) with h2 | h2
          · exact h2.symm
          · have h3 := (List.pairwise_cons.1 hm).1 _ h
            have h4 := (List.pairwise_cons.1 hl).1 _ h2
            omega
      subst hab
      rw [ih (List.pairwise_cons.1 hl).2 (List.pairwise_cons.1 hm).2 (List.Perm.cons_inv hp)]
theorem erase_perm {β : Type} {l : List β} {k : Nat} {x : β} (h : l[k]? = some x) : l.Perm (x :: l.eraseIdx k) := by
  obtain ⟨hk, rfl⟩ := List.getElem?_eq_some_iff.1 h
  conv => lhs; rw [← List.take_append_drop k l, List.drop_eq_getElem_cons hk]
  rw [List.eraseIdx_eq_take_drop_succ]
  exact List.perm_middle

/-- A number that is brought within bounds. -/
def withinI (n lo hi : Int) : Int := if lo ≤ n ∧ n ≤ hi then n else if Int.tmod n (hi - lo + 1) < 0 then lo + (Int.tmod n (hi - lo + 1) + (hi - lo + 1)) else lo + Int.tmod n (hi - lo + 1)
theorem withinI_in {n lo hi : Int} (h : lo ≤ hi) : lo ≤ withinI n lo hi ∧ withinI n lo hi ≤ hi := by
  have a1 : Int.tmod n (hi - lo + 1) < hi - lo + 1 := Int.tmod_lt_of_pos n (by omega)
  have a2 : -(hi - lo + 1) < Int.tmod n (hi - lo + 1) := by
    have := Int.tmod_lt_of_pos (-n) (show 0 < hi - lo + 1 by omega)
    rw [Int.neg_tmod] at this; omega
  unfold withinI
  split
  · omega
  · split <;> omega

/-- What holds of the book: the heaps hold what it says. -/
structure Good (T : Nat) (ω : WS) (t : Nat → HT) : Prop where
  hp : ∀ h, h < 2 → Hp ω.α (ω.r h) (t h)
  its : ∀ h, h < 2 → ((t h).its).Perm (ω.has h)
  dj : ∀ h, h < 2 → ∀ c, c ∈ (t h).cells → c ∉ (t (1 - h)).cells
  len : ω.α.len = 2 * ((ω.has 0).length + (ω.has 1).length)
  keys : ∀ h, h < 2 → ∀ x ∈ ω.has h, In64 x.2.1 ∧ 0 ≤ x.2.2 ∧ x.2.2 < ω.next
  ser : ((ω.has 0 ++ ω.has 1).map fun x => x.2.2).Nodup
  next : 0 ≤ ω.next ∧ ω.next ≤ T
  cost : ω.spent + HT.pot (t 0) + HT.pot (t 1) ≤ ω.most
  most : 0 ≤ ω.spent ∧ ω.most ≤ 10000 * (T : Int)

theorem Good.more {T T' : Nat} {ω : WS} {t : Nat → HT} (h : Good T ω t) (hT : T ≤ T') : Good T' ω t :=
  ⟨h.hp, h.its, h.dj, h.len, h.keys, h.ser, ⟨h.next.1, by have := h.next.2; omega⟩, h.cost, ⟨h.most.1, by have := h.most.2; omega⟩⟩


theorem Good.hlen {T : Nat} {ω : WS} {t : Nat → HT} (hG : Good T ω t) {h : Nat} (hh : h < 2) : ((t h).its).length = (ω.has h).length := (hG.its h hh).length_eq
theorem Good.len_h {T : Nat} {ω : WS} {t : Nat → HT} (hG : Good T ω t) {h : Nat} (hh : h < 2) : ω.α.len = 2 * ((ω.has h).length + (ω.has (1 - h)).length) := by
  have := hG.len
  match h, hh with
  | 0, _ => exact this
  | 1, _ => rw [this]; show 2 * _ = 2 * ((ω.has 1).length + (ω.has 0).length); omega
theorem Good.ser_h {T : Nat} {ω : WS} {t : Nat → HT} (hG : Good T ω t) {h : Nat} (hh : h < 2) : ((ω.has h ++ ω.has (1 - h)).map fun x => x.2.2).Nodup := by
  have := hG.ser
  match h, hh with
  | 0, _ => exact this
  | 1, _ =>
    refine (List.Perm.map _ ?_).nodup_iff.1 this
    exact List.perm_append_comm
theorem Good.small {T : Nat} {ω : WS} {t : Nat → HT} (hG : Good T ω t) (hi : ω.α.Inv) {h : Nat} (hh : h < 2) : (ω.has h).length + (ω.has (1 - h)).length ≤ 32768 := by
  have h1 := hG.len_h hh
  have h2 := hi.len
  have h3 := hi.never
  have h4 := hi.n
  omega
theorem Good.ok {T : Nat} {ω : WS} {t : Nat → HT} (hG : Good T ω t) (hi : ω.α.Inv) (hT : T ≤ 1000000) {h : Nat} (hh : h < 2) : ∀ x ∈ ω.has h, okHd x := fun x hx => by
  have hm : x ∈ (t h).its := (hG.its h hh).mem_iff.2 hx
  have hl := (hG.hp h hh).live x.1 (HT.mem_its hm)
  have h1 := AS.live_lt hi hl
  have h2 := hi.n
  obtain ⟨h3, h4, h5⟩ := hG.keys h hh x hx
  have h6 := hG.next.2
  exact ⟨by omega, h3, by unfold In64; omega⟩

theorem pick2 {β : Type} {f : Nat → β} {P : Nat → β → Prop} {h : Nat} (hh : h < 2) {v : β} (h1 : P h v) (h2 : P (1 - h) (f (1 - h))) : ∀ k, k < 2 → P k (upd f h v k) := by
  intro k hk
  by_cases e : k = h
  · subst e; rw [upd_same]; exact h1
  · rw [upd_ne _ _ e]
    have : k = 1 - h := by omega
    subst this; exact h2

/-- One heap is another one from now on. -/
theorem Good.put {T T' : Nat} {ω : WS} {t : Nat → HT} (hG : Good T ω t) {h : Nat} (hh : h < 2) {β : AS} {r' : Int} {t' : HT} {l' : List Held} {nx sp mo : Int}
    (hp' : Hp β r' t') (ho : Hp β (ω.r (1 - h)) (t (1 - h))) (hits : t'.its.Perm l') (hdj : ∀ c, c ∈ t'.cells → c ∉ (t (1 - h)).cells) (hlen : β.len = 2 * (l'.length + (ω.has (1 - h)).length))
    (hkeys : ∀ x ∈ l', In64 x.2.1 ∧ 0 ≤ x.2.2 ∧ x.2.2 < nx) (hnx : ω.next ≤ nx) (hser : ((l' ++ ω.has (1 - h)).map fun x => x.2.2).Nodup) (hnT : nx ≤ T') (hcost : sp + HT.pot t' + HT.pot (t (1 - h)) ≤ mo) (hmost : 0 ≤ sp ∧ mo ≤ 10000 * (T' : Int)) :
    Good T' ⟨β, upd ω.r h r', upd ω.has h l', nx, sp, mo⟩ (upd t h t') := by
  have h1h : 1 - h < 2 := by omega
  refine ⟨fun k hk => ?_, fun k hk => ?_, fun k hk c hc => ?_, ?_, fun k hk => ?_, ?_, ⟨show (0 : Int) ≤ nx by have := hG.next.1; omega, hnT⟩, ?_, hmost⟩
  · by_cases e : k = h
    · subst e
      show Hp β (upd ω.r k r' k) (upd t k t' k)
      rw [upd_same, upd_same]; exact hp'
    · show Hp β (upd ω.r h r' k) (upd t h t' k)
      rw [upd_ne _ _ e, upd_ne _ _ e, show k = 1 - h from by omega]; exact ho
  · by_cases e : k = h
    · subst e
      show (upd t k t' k).its.Perm (upd ω.has k l' k)
      rw [upd_same, upd_same]; exact hits
    · show (upd t h t' k).its.Perm (upd ω.has h l' k)
      rw [upd_ne _ _ e, upd_ne _ _ e]; exact hG.its k hk
  · by_cases e : k = h
    · subst e
      rw [upd_same] at hc
      rw [upd_ne _ _ (by omega)]
      exact hdj c hc
    · rw [upd_ne _ _ e] at hc
      have e2 : 1 - k = h := by omega
      have e3 : k = 1 - h := by omega
      rw [e2, upd_same]
      rw [e3] at hc
      exact fun hc2 => hdj c hc2 hc
  · show β.len = 2 * ((upd ω.has h l' 0).length + (upd ω.has h l' 1).length)
    match h, hh with
    | 0, _ => rw [upd_same, upd_ne _ _ (by omega)]; exact hlen
    | 1, _ => rw [upd_same, upd_ne _ _ (by omega), hlen]; show 2 * (_ + (ω.has 0).length) = _; omega
  · by_cases e : k = h
    · subst e
      show ∀ x ∈ upd ω.has k l' k, _
      rw [upd_same]; exact hkeys
    · show ∀ x ∈ upd ω.has h l' k, _
      rw [upd_ne _ _ e]
      intro x hx
      obtain ⟨a1, a2, a3⟩ := hG.keys k hk x hx
      exact ⟨a1, a2, by show x.2.2 < nx; omega⟩
  · show ((upd ω.has h l' 0 ++ upd ω.has h l' 1).map _).Nodup
    match h, hh with
    | 0, _ => rw [upd_same, upd_ne _ _ (by omega)]; exact hser
    | 1, _ =>
      rw [upd_same, upd_ne _ _ (by omega)]
      refine (List.Perm.map _ ?_).nodup_iff.1 hser
      exact List.perm_append_comm
  · show sp + HT.pot (upd t h t' 0) + HT.pot (upd t h t' 1) ≤ mo
    match h, hh with
    | 0, _ => rw [upd_same, upd_ne _ _ (by omega)]; exact hcost
    | 1, _ =>
      rw [upd_same, upd_ne _ _ (by omega)]
      have : sp + HT.pot t' + HT.pot (t 0) ≤ mo := hcost
      omega
/-- Nothing but the arena changed. -/
theorem Good.alpha {T T' : Nat} {ω : WS} {t : Nat → HT} (hG : Good T ω t) {β : AS} {sp mo : Int} (hp : ∀ h, h < 2 → Hp β (ω.r h) (t h)) (hlen : β.len = ω.α.len) (hT : T ≤ T') (hcost : sp + HT.pot (t 0) + HT.pot (t 1) ≤ mo) (hmost : 0 ≤ sp ∧ mo ≤ 10000 * (T' : Int)) :
    Good T' ⟨β, ω.r, ω.has, ω.next, sp, mo⟩ t :=
  ⟨hp, hG.its, hG.dj, hlen.trans hG.len, hG.keys, hG.ser, ⟨hG.next.1, show ω.next ≤ (T' : Int) by have := hG.next.2; omega⟩, hcost, hmost⟩
theorem Good.pots {T : Nat} {ω : WS} {t : Nat → HT} (hG : Good T ω t) {h : Nat} (hh : h < 2) : ω.spent + HT.pot (t h) + HT.pot (t (1 - h)) ≤ ω.most := by
  have := hG.cost
  match h, hh with
  | 0, _ => exact this
  | 1, _ => show ω.spent + HT.pot (t 1) + HT.pot (t 0) ≤ _; omega
theorem Good.costs {T : Nat} {ω : WS} {t : Nat → HT} (hG : Good T ω t) (hT : T ≤ 1000000) : (0 ≤ ω.spent ∧ ω.spent ≤ 1000000000000) ∧ (0 ≤ ω.most ∧ ω.most ≤ 1000000000000) := by
  have h1 := hG.cost
  have h2 := hG.most
  have h3 := HT.pot_ge (t 0)
  have h4 := HT.pot_ge (t 1)
  omega
/-- What is held elsewhere is not touched. -/
theorem Good.other {T : Nat} {ω : WS} {t : Nat → HT} (hG : Good T ω t) {h : Nat} (hh : h < 2) {S L : Nat → Prop} {d k : Int} {β : AS} (he : AS.Eff S L d k ω.α β) (hS : ∀ c, S c → c ∈ (t h).cells ∨ ω.α.live c = false) (hL : ∀ c, L c → c ∈ (t h).cells ∨ ω.α.live c = false) : Hp β (ω.r (1 - h)) (t (1 - h)) := by
  have hp := hG.hp (1 - h) (by omega)
  refine hp.eff he (fun c hc hs => ?_) (fun c hc hs => ?_)
  · rcases hS c hs with h1 | h1
    · exact hG.dj h hh c h1 hc
    · rw [hp.live c hc] at h1; cases h1
  · rcases hL c hs with h1 | h1
    · exact hG.dj h hh c h1 hc
    · rw [hp.live c hc] at h1; cases h1

end Go.Proofs.YtbkicgfgpmekeaaGreat.HL

/-
  BkS: rows of numbers that are compared.
-/
set_option linter.unusedVariables false
set_option linter.unusedSimpArgs false
set_option maxRecDepth 100000
namespace Go.Proofs.YtbkicgfgpmekeaaGreat.HL
open Go.RowKit (Below)
open Go.Proofs

section
variable {w0 : World} {M M0 : Mem}

theorem Same_ok {R : Value → Mem → Prop} {s x : SV} {l m : List Int} (hs : RdI w0 M .i64 s l) (hx : RdI w0 M .i64 x m) (h : R (.bool (decide (l = m))) M) : C PP w0 Id.thicketbook_Same_int #[SV.v s, SV.v x] R M := by
  apply thicketbook_Same_int.go
  intro pts H
  unfold thicketbook_Same_int.T
  have hl := hs.len
  have hlx := hx.len
  have hm := hs.max
  rw [bs_bne]
  split
  · rename_i he
    have key : ∀ (k i : Nat), i ≤ l.length → l.length < i + k → (∀ j < i, l[j]? = m[j]?) → thicketbook_Same_int.L1 pts k s x (i : Int) M := by
      intro k
      induction k with
      | zero => intro i h1 h2; omega
      | succ k ih =>
        intro i h1 h2 hok
        rw [H.L1]
        unfold thicketbook_Same_int.L1.T
        rw [bs_decide]
        split
        · have hi : i < l.length := by omega
          have e1 := List.getElem?_eq_getElem hi
          have e2 := List.getElem?_eq_getElem (show i < m.length by omega)
          generalize l[i] = u at e1
          generalize m[i] = v at e2
          refine rdx W.c3 hs (Mem.le_refl _) i rfl e1 ?_
          refine rdx W.c3 hx (Mem.le_refl _) i rfl e2 ?_
          rw [bs_bne]
          split
          · rename_i huv
            subst huv
            rw [i64_next hi hm]
            refine ih (i + 1) (by omega) (by omega) fun j hj => ?_
            rcases Nat.lt_succ_iff_lt_or_eq.1 hj with hj | rfl
            · exact hok j hj
            · rw [e1, e2]
          · rename_i huv
            have : ¬ l = m := fun hh => by subst hh; rw [e1] at e2; exact huv (Option.some.inj e2)
            rw [decide_eq_false this] at h; exact h
        · have : l = m := by
            apply List.ext_getElem?
            intro j
            by_cases hj : j < l.length
            · exact hok j (by omega)
            · rw [List.getElem?_eq_none (by omega), List.getElem?_eq_none (by omega)]
          rw [decide_eq_true this] at h; exact h
    exact ⟨l.length + 1, key _ 0 (by omega) (by omega) (fun j hj => by omega)⟩
  · rename_i he
    have : ¬ l = m := fun hh => by subst hh; omega
    rw [decide_eq_false this] at h; exact h

end
end Go.Proofs.YtbkicgfgpmekeaaGreat.HL

/-
  WdA: items that are held: compared, put apart, told by rising cells.
-/
set_option linter.unusedVariables false
set_option linter.unusedSimpArgs false
set_option maxRecDepth 100000
namespace Go.Proofs.YtbkicgfgpmekeaaGreat.HL
open Go.RowKit (Below)
open Go.Proofs

section
variable {w0 : World} {M M0 F : Mem} {R : Value → Mem → Prop}

theorem WithinE_ok {n lo hi : Int} (hn : In64 n) (h1 : -4611686018427387904 ≤ lo) (h2 : lo ≤ hi) (h3 : hi ≤ 1152921504606846976) (h4 : hi - lo ≤ 1152921504606846976) (h : R (.int .i64 (withinI n lo hi)) M) : C PP w0 Id.thicketbook_Within #[.int .i64 n, .int .i64 lo, .int .i64 hi] R M := by
  apply thicketbook_Within.go
  intro pts H
  unfold thicketbook_Within.T
  unfold withinI at h
  have hj : ¬ (lo ≤ n ∧ n ≤ hi) → thicketbook_Within.J1 pts n lo hi M := by
    intro hc
    rw [if_neg hc] at h
    rw [H.J1]
    unfold thicketbook_Within.J1.T
    rw [w64_in (n := hi - lo) (by omega), w64_in (n := hi - lo + 1) (by omega)]
    refine ⟨rfl, by omega, ?_⟩
    have a1 : Int.tmod n (hi - lo + 1) < hi - lo + 1 := Int.tmod_lt_of_pos n (by omega)
    have a2 : -(hi - lo + 1) < Int.tmod n (hi - lo + 1) := by
      have := Int.tmod_lt_of_pos (-n) (show 0 < hi - lo + 1 by omega)
      rw [Int.neg_tmod] at this; omega
    generalize Int.tmod n (hi - lo + 1) = r at a1 a2 h
    rw [bs_decide]
    split
    · rename_i hr
      rw [if_pos hr] at h
      rw [w64_in (n := r + hi) (by omega), w64_in (n := r + hi - lo) (by omega), w64_in (n := r + hi - lo + 1) (by omega), w64_in (by omega)]
      rw [show lo + (r + hi - lo + 1) = lo + (r + (hi - lo + 1)) from by omega]; exact h
    · rename_i hr
      rw [if_neg hr] at h
      rw [w64_in (by omega)]; exact h
  simp only [bs_decide]
  split
  · split
    · rw [if_pos (by omega)] at h; exact h
    · exact hj (by omega)
  · exact hj (by omega)

def hV (l : List Held) : List Value := (flatH l).map (Value.int .i64)
theorem hV_len (l : List Held) : (hV l).length = l.length * 3 := by unfold hV; rw [List.length_map, flatH_len]
theorem hV_app (l m : List Held) : hV (l ++ m) = hV l ++ hV m := by unfold hV; rw [flatH_app, List.map_append]

theorem rdH {s : SV} {l : List Held} (h : RdF w0 M0 3 s (flatH l)) (hl : Mem.le M0 M) {i : Int} (j : Nat) (e : i = (j : Int)) {x : Held} (hx : l[j]? = some x) {K : Int → Int → Int → Prop} (hK : K (x.1 : Int) x.2.1 x.2.2) :
    nc s.a fun a => (0 ≤ i ∧ i < ((s.n : Nat) : Int)) ∧ ob ((std PP w0).ld 57 (a.add (i.toNat * 3)) M) fun v => shA v fun l4 => shCons l4 fun u5 r6 => shI .i64 u5 fun n7 => shCons r6 fun u8 r9 => shI .i64 u8 fun n10 => shCons r9 fun u11 r12 => shI .i64 u11 fun n13 => shNil r12 (K n7 n10 n13) := by
  have hj := (List.getElem?_eq_some_iff.1 hx).1
  have hlen := h.len
  rw [flatH_len] at hlen
  refine rdfA (cs := [(x.1 : Int), x.2.1, x.2.2]) (K := fun v => shA v fun l4 => shCons l4 fun u5 r6 => shI .i64 u5 fun n7 => shCons r6 fun u8 r9 => shI .i64 u8 fun n10 => shCons r9 fun u11 r12 => shI .i64 u11 fun n13 => shNil r12 (K n7 n10 n13)) W.g57 h hl j e (by omega) (by simp) (flatH_get hx) ?_
  simp only [List.map_cons, List.map_nil, shA_v, shCons_v, shI_v, shNil_v]
  exact hK
theorem rdH0 {s : SV} {l : List Held} (h : RdF w0 M0 3 s (flatH l)) (hl : Mem.le M0 M) {i : Int} (j : Nat) (e : i = (j : Int)) {x : Held} (hx : l[j]? = some x) {K : Int → Prop} (hK : K (x.1 : Int)) :
    nc s.a fun a => (0 ≤ i ∧ i < ((s.n : Nat) : Int)) ∧ ob ((std PP w0).ld 3 (a.add (i.toNat * 3)) M) fun v => shI .i64 v fun n => K n := by
  have hj := (List.getElem?_eq_some_iff.1 hx).1
  have hlen := h.len
  rw [flatH_len] at hlen
  exact rdf0L W.c3 h hl j e (by omega) (flatH_get hx 0 _ rfl) hK

theorem hbefore_ok {x y : Held} (h : ∀ M', Mem.le M M' → R (.bool (decide (Bf x y))) M') : C PP w0 Id.thicketlaw12_before #[.agg #[.int .i64 (x.1 : Int), .int .i64 x.2.1, .int .i64 x.2.2], .agg #[.int .i64 (y.1 : Int), .int .i64 y.2.1, .int .i64 y.2.2]] R M := by
  apply thicketlaw12_before.go
  unfold thicketlaw12_before.T
  intro b1 hb1 hw1
  intro b2 hb2 hw2
  have f1 := ((Fit.nil (w0 := w0) (Mem.le_refl M)).new hb1 hw1 (cs := [.int .i64 (x.1 : Int), .int .i64 x.2.1, .int .i64 x.2.2]) (e := 57)).new hb2 hw2 (cs := [.int .i64 (y.1 : Int), .int .i64 y.2.1, .int .i64 y.2.2]) (e := 57)
  have o2 := f1.own List.mem_cons_self
  have o1 := f1.own (List.mem_cons_of_mem _ List.mem_cons_self)
  have hle := f1.fr
  generalize (M.set b1 (.row [.int .i64 (x.1 : Int), .int .i64 x.2.1, .int .i64 x.2.2] 57)).set b2 (.row [.int .i64 (y.1 : Int), .int .i64 y.2.1, .int .i64 y.2.2] 57) = M1 at o1 o2 hle ⊢
  have e1 : ∀ M', Mem.le M1 M' → (std PP w0).ld 55 ⟨b1, 1, none⟩ M' = some (.agg #[.int .i64 x.2.1, .int .i64 x.2.2]) := fun M' hl => ld_agg (cs := [.int .i64 x.2.1, .int .i64 x.2.2]) W.g55 (fun j v hj => by
    rw [add_eq, rd_own (o1.le hl), Nat.add_comm, List.getElem?_cons_succ]; exact hj)
  have e2 : ∀ M', Mem.le M1 M' → (std PP w0).ld 55 ⟨b2, 1, none⟩ M' = some (.agg #[.int .i64 y.2.1, .int .i64 y.2.2]) := fun M' hl => ld_agg (cs := [.int .i64 y.2.1, .int .i64 y.2.2]) W.g55 (fun j v hj => by
    rw [add_eq, rd_own (o2.le hl), Nat.add_comm, List.getElem?_cons_succ]; exact hj)
  have e3 : ∀ M', Mem.le M1 M' → rd w0 M' ⟨b1, 0, none⟩ = some (.int .i64 (x.1 : Int)) := fun M' hl => by rw [rd_own (o1.le hl)]; rfl
  have e4 : ∀ M', Mem.le M1 M' → rd w0 M' ⟨b2, 0, none⟩ = some (.int .i64 (y.1 : Int)) := fun M' hl => by rw [rd_own (o2.le hl)]; rfl
  simp only [add_eq, Nat.zero_add, e1 M1 (Mem.le_refl _), e2 M1 (Mem.le_refl _), ob_v, shA_v, shCons_v, shI_v, shNil_v]
  refine rBefore_ok (a := x.2) (b := y.2) fun M2 l2 => ?_
  have hh := h M2 (Mem.le_trans hle l2)
  simp only [shB_v, e1 M2 l2, e2 M2 l2, ob_v, shA_v, shCons_v, shI_v, shNil_v]
  have ee := eqE (w0 := w0) (X := .tmp 12) (Y := .tmp 14) x.2.1 x.2.2 y.2.1 y.2.2
  by_cases hlt : Lt x.2 y.2
  · rw [decide_eq_true hlt, bs_true]
    rw [decide_eq_true (show Bf x y from .inl hlt)] at hh; exact hh
  · rw [decide_eq_false hlt, bs_false]
    rw [eqE, eq_ent, ob_v, shB_v]
    by_cases heq : x.2 = y.2
    · rw [decide_eq_true heq, bs_true]
      simp only [W.ld3, e3 M2 l2, e4 M2 l2, ob_v, shI_v]
      have : decide ((x.1 : Int) < (y.1 : Int)) = decide (Bf x y) := by
        rw [decide_eq_decide]
        constructor
        · intro h9; exact .inr ⟨heq, by omega⟩
        · rintro (h9 | ⟨_, h9⟩)
          · exact absurd h9 hlt
          · omega
      rw [this]; exact hh
    · rw [decide_eq_false heq, bs_false]
      rw [decide_eq_false (show ¬ Bf x y from fun h9 => by
        rcases h9 with h9 | ⟨h9, _⟩
        · exact hlt h9
        · exact heq h9)] at hh
      exact hh

theorem least_ok {s : SV} {l : List Held} (hs : RdF w0 M 3 s (flatH l)) (hb : l.length ≤ 1000000) (h : ∀ M' (k : Nat), Mem.le M M' → (l ≠ [] → k < l.length) → (∀ (j : Nat) x y, l[j]? = some x → l[k]? = some y → ¬ Bf x y) → R (.int .i64 (k : Int)) M') : C PP w0 Id.thicketlaw12_least #[SV.v s] R M := by
  apply thicketlaw12_least.go
  intro pts H
  unfold thicketlaw12_least.T
  have hlen := hs.len
  rw [flatH_len] at hlen
  have key : ∀ (n i k : Nat) (M' : Mem), Mem.le M M' → l.length < i + n → i ≤ l.length → k < i → (∀ (j : Nat) x y, j < i → l[j]? = some x → l[k]? = some y → ¬ Bf x y) → thicketlaw12_least.L1 pts n s (k : Int) (i : Int) M' := by
    intro n
    induction n with
    | zero => intro i k M' hl h1 h2; omega
    | succ n ih =>
      intro i k M' hl h1 h2 h3 h4
      rw [H.L1]
      unfold thicketlaw12_least.L1.T
      rw [bs_decide]
      split
      · have hi : i < l.length := by omega
        have ex := List.getElem?_eq_getElem hi
        have ey := List.getElem?_eq_getElem (show k < l.length by omega)
        generalize l[i] = x at ex
        generalize l[k] = y at ey
        refine rdH hs hl i rfl ex ?_
        refine rdH hs hl k rfl ey ?_
        refine hbefore_ok fun M2 l2 => ?_
        rw [shB_v, w64_in (by omega)]
        by_cases hbf : Bf x y
        · rw [decide_eq_true hbf, bs_true]
          refine ih (i + 1) i M2 (Mem.le_trans hl l2) (by omega) (by omega) (by omega) fun j u v hj hu hv => ?_
          rw [ex] at hv; cases hv
          by_cases hji : j = i
          · subst hji
            rw [ex] at hu; cases hu
            exact Bf.irr
          · intro hb2
            exact h4 j u y (by omega) hu ey (hb2.tr hbf)
        · rw [decide_eq_false hbf, bs_false]
          refine ih (i + 1) k M2 (Mem.le_trans hl l2) (by omega) (by omega) (by omega) fun j u v hj hu hv => ?_
          by_cases hji : j = i
          · subst hji
            rw [ex] at hu; cases hu
            rw [ey] at hv; cases hv
            exact hbf
          · exact h4 j u v (by omega) hu hv
      · have : i = l.length := by omega
        subst this
        exact h M' k hl (fun _ => h3) fun j x y hx hy => h4 j x y (List.getElem?_eq_some_iff.1 hx).1 hx hy
  by_cases h0 : l = []
  · subst h0
    refine ⟨1, ?_⟩
    rw [H.L1]
    unfold thicketlaw12_least.L1.T
    simp only [List.length_nil] at hlen
    rw [bs_decide, if_neg (by omega)]
    exact h M 0 (Mem.le_refl _) (fun h => absurd rfl h) (fun j x y hx => by simp at hx)
  · have hpos : 0 < l.length := List.length_pos_iff.2 h0
    exact ⟨l.length + 1, key (l.length + 1) 1 0 M (Mem.le_refl _) (by omega) (by omega) (by omega) fun j x y hj hx hy => by
      have : j = 0 := by omega
      subst this
      rw [hx] at hy; cases hy
      exact Bf.irr⟩

/-- All that is known is put by, to be known behind. -/
def emp : Asn := fun r => r = []
theorem Holds.self {P : Asn} (h : Holds w0 F M P) : Holds w0 M M emp := ⟨[], rfl, Fit.nil (Mem.le_refl _)⟩
theorem Holds.unself {P A : Asn} {M' : Mem} (h : Holds w0 F M P) (h2 : Holds w0 M M' (star A emp)) : Mem.le M M' ∧ Holds w0 F M' (star A P) := by
  refine ⟨h2.fr, h.beside ?_⟩
  obtain ⟨r, ⟨r1, r2, rfl, h3, h4⟩, h5⟩ := h2
  have : r2 = [] := h4
  subst this
  rw [List.append_nil] at h5
  exact ⟨r1, h3, h5⟩

/-- Items are put behind one's own. -/
theorem appH {Q : Asn} {s x : SV} {l m : List Held} (h : Holds w0 F M (star (SlKA 3 s (hV l)) Q)) (hn : m.length = x.n) (hc : Cells w0 M x.a (hV m)) (hz : x.a = none → x.n = 0) (hb : l.length + m.length ≤ 1000000) {K : Value → Mem → Prop}
    (hK : ∀ M' s', Holds w0 F M' (star (SlKA 3 s' (hV (l ++ m))) Q) → K s'.v M') : (std PP w0).app #[32, 32] 32 [SV.v s, SV.v x] K M := by
  obtain ⟨F', h1, h2, h3⟩ := Holds.slk h
  have hl := h1.len
  rw [hV_len] at hl
  refine app_slk (k := 3) Tryz.underlying32 W.e57 h2 h1 (news := hV m) (by rw [hV_len, hn]) hc hz (ints_one _ _) (by decide) (by omega) fun M' s' l1 l2 _ => ?_
  refine hK M' s' (h3 M' s' _ ?_ l1)
  rw [hV_app]; exact l2
theorem newH0 {P : Asn} (h : Holds w0 F M P) {K : Value → Mem → Prop} (hK : ∀ M' s', Mem.le M M' → Holds w0 F M' (star (SlKA 3 s' (hV [])) P) → K s'.v M') : (std PP w0).bsl 32 0 [] K M := by
  refine bsl_e (cells := #[]) Tryz.underlying32 W.e57 (by decide) (by kernel_rfl) fun b hb hw => ?_
  have l1 : Mem.le M (M.set b (.row (#[] : Array Value).toList 57)) := Mem.le_set _ hb
  exact hK _ ⟨some ⟨b, 0, none⟩, 0, 0⟩ l1 (Holds.newSlk h l1 (SlK.new (n := 0) hb (Own.new hw) rfl))
theorem newH {P : Asn} (h : Holds w0 F M P) (x : Held) {K : Value → Mem → Prop} (hK : ∀ M' s', Mem.le M M' → Holds w0 F M' (star (SlKA 3 s' (hV [x])) P) → K s'.v M') : (std PP w0).bsl 32 1 [(0, .agg #[.int .i64 (x.1 : Int), .int .i64 x.2.1, .int .i64 x.2.2])] K M := by
  refine bsl_e (n := 1) (cells := #[.int .i64 (x.1 : Int), .int .i64 x.2.1, .int .i64 x.2.2]) Tryz.underlying32 W.e57 (by decide) (by kernel_rfl) fun b hb hw => ?_
  have l1 : Mem.le M (M.set b (.row (#[Value.int .i64 (x.1 : Int), .int .i64 x.2.1, .int .i64 x.2.2] : Array Value).toList 57)) := Mem.le_set _ hb
  exact hK _ ⟨some ⟨b, 0, none⟩, 1, 1⟩ l1 (Holds.newSlk h l1 (SlK.new (n := 1) hb (Own.new hw) rfl))
theorem RdF.cellsH {s : SV} {l : List Held} (h : RdF w0 M0 3 s (flatH l)) (hl : Mem.le M0 M) : Cells w0 M s.a (hV l) := by
  intro j v hj
  unfold hV at hj
  rw [List.getElem?_map] at hj
  cases hx : (flatH l)[j]? with
  | none => rw [hx] at hj; cases hj
  | some n =>
    rw [hx] at hj; cases hj
    obtain ⟨a, ea, hr⟩ := h.cell j n hx
    exact ⟨a, ea, hr M hl⟩
theorem RdF.nulH {s : SV} {l : List Held} (h : RdF w0 M0 3 s (flatH l)) (hn : s.a = none) : s.n = 0 := by
  cases l with
  | nil => have := h.len; simp [flatH] at this; omega
  | cons x l => obtain ⟨a, ea, _⟩ := h.cell 0 (x.1 : Int) rfl; rw [hn] at ea; cases ea
/-- A cut of items. -/
theorem cut_cells {s : SV} {l : List Held} (h : RdF w0 M0 3 s (flatH l)) (hl : Mem.le M0 M) {lo hi : Nat} (h1 : lo ≤ hi) (h2 : hi ≤ l.length) :
    Cells w0 M (if s.c = lo then s.a else s.a.map (·.add (lo * 3))) (hV ((l.take hi).drop lo)) ∧ ((if s.c = lo then s.a else s.a.map (·.add (lo * 3))) = none → hi - lo = 0) := by
  have hlen := h.len
  rw [flatH_len] at hlen
  have hcap := h.cap
  refine ⟨fun j v hj => ?_, fun e => ?_⟩
  · have hj2 : (hV l)[lo * 3 + j]? = some v ∧ lo * 3 + j < hi * 3 := by
      unfold hV at hj ⊢
      rw [flatH_drop, flatH_take] at hj
      rw [List.map_drop, List.map_take, List.getElem?_drop] at hj
      have hlt := (List.getElem?_eq_some_iff.1 hj).1
      rw [List.getElem?_take] at hj
      split at hj
      · rename_i h9; exact ⟨hj, h9⟩
      · cases hj
    obtain ⟨ad, ea, hr⟩ := h.cellsH hl _ v hj2.1
    refine ⟨ad.add (lo * 3), ?_, ?_⟩
    · rw [if_neg (by omega), ea]; rfl
    · rw [add_add]; exact hr
  · split at e
    · have := h.nulH e; omega
    · have := h.nulH (by simpa using e); omega

theorem without_ok {s : SV} {l : List Held} {Q : Asn} (hQ : Holds w0 F M Q) (hs : RdF w0 M 3 s (flatH l)) (hb : l.length ≤ 100000) {k : Nat} (hk : k < l.length) (h : ∀ M' s', Mem.le M M' → Holds w0 F M' (star (SlKA 3 s' (hV (l.eraseIdx k))) Q) → R s'.v M') : C PP w0 Id.thicketlaw12_without #[SV.v s, .int .i64 (k : Int)] R M := by
  apply thicketlaw12_without.go
  unfold thicketlaw12_without.T
  have hlen := hs.len
  rw [flatH_len] at hlen
  have hcap := hs.cap
  have ek : w64 ((k : Int) + 1) = ((k + 1 : Nat) : Int) := by rw [w64_in (by omega)]; omega
  rw [ek]
  refine ⟨⟨by omega, by omega, by omega⟩, ⟨by omega, by omega, by omega⟩, ?_⟩
  refine newH0 (Holds.self hQ) fun M1 s1 l1 h1 => ?_
  rw [shS_sv]
  obtain ⟨c1, c2⟩ := cut_cells (M := M1) hs l1 (lo := 0) (hi := k) (by omega) (by omega)
  have e0 : (0 : Int).toNat = 0 := rfl
  simp only [Int.toNat_natCast, e0]
  refine appH (x := ⟨_, _, _⟩) h1 (m := (l.take k).drop 0) (by simp; omega) c1 c2 (by simp; omega) fun M2 s2 h2 => ?_
  rw [shS_sv]
  have l2 : Mem.le M M2 := h2.fr
  obtain ⟨c3, c4⟩ := cut_cells (M := M2) hs l2 (lo := k + 1) (hi := s.n) (by omega) (by omega)
  refine appH (x := ⟨_, _, _⟩) h2 (m := (l.take s.n).drop (k + 1)) (by simp; omega) c3 c4 (by simp; omega) fun M3 s3 h3 => ?_
  rw [shS_sv]
  have e3 : [] ++ List.drop 0 (List.take k l) ++ List.drop (k + 1) (List.take s.n l) = l.eraseIdx k := by
    rw [List.nil_append, List.drop_zero, List.eraseIdx_eq_take_drop_succ, List.take_of_length_le (show l.length ≤ s.n by omega)]
  rw [e3] at h3
  obtain ⟨l3, h4⟩ := Holds.unself hQ h3
  exact h M3 s3 l3 h4

end
end Go.Proofs.YtbkicgfgpmekeaaGreat.HL

/-
  WdB: the cells of items, rising.
-/
set_option linter.unusedVariables false
set_option linter.unusedSimpArgs false
set_option maxRecDepth 100000
namespace Go.Proofs.YtbkicgfgpmekeaaGreat.HL
open Go.RowKit (Below)
open Go.Proofs

section
variable {w0 : World} {M M0 F : Mem} {R : Value → Mem → Prop}

theorem newI0 {P : Asn} (h : Holds w0 F M P) {K : Value → Mem → Prop} (hK : ∀ M' s', Mem.le M M' → Holds w0 F M' (star (SlA s' (([] : List Int).map (Value.int .i64))) P) → K s'.v M') : (std PP w0).bsl 61 0 [] K M :=
  bsl_ints (k := .i64) (l := []) (Mem.le_refl M) Tryz.underlying61 W.e3 (n := 0) (by decide) (by kernel_rfl) rfl fun M1 o l1 _ h1 => hK M1 o l1 (h.newSl l1 h1)
/-- A number that is written down, and known from then on. -/
theorem newI1 {P : Asn} (h : Holds w0 F M P) {c : Int} (hc : In64 c) {K : SV → Mem → Prop} (hK : ∀ M' s' F', Mem.le F F' → Mem.le M M' → Holds w0 F' M' P → RdI w0 F' .i64 s' [c] → K s' M') : (std PP w0).bsl 61 1 [(0, .int .i64 c)] (fun v M' => shS v fun s => K s M') M := by
  refine bsl_ints (k := .i64) (l := [c]) (Mem.le_refl M) Tryz.underlying61 W.e3 (n := 1) (by decide) (by kernel_rfl) rfl fun M1 o l1 _ h1 => ?_
  rw [shS_sv]
  obtain ⟨F', hle, h2, h3⟩ := (h.newSl l1 h1).freeze (wf_all fun x hx => by simp only [List.mem_cons, List.not_mem_nil, or_false] at hx; subst hx; exact hc) (by simp)
  exact hK M1 o F' hle l1 h2 h3
theorem cut_head {s : SV} {l : List Int} (h : RdI w0 M0 .i64 s l) {k : Nat} (hk : k ≤ s.n) : RdI w0 M0 .i64 ⟨if s.c = (0 : Int).toNat then s.a else s.a.map (·.add ((0 : Int).toNat * 1)), k - (0 : Int).toNat, s.c - (0 : Int).toNat⟩ (l.take k) := by
  have hc := h.cap
  refine h.take (a := _) (c := s.c - (0 : Int).toNat) hk (fun _ => ?_) (by show k ≤ s.c - 0; omega)
  split
  · rfl
  · cases s.a with
    | none => rfl
    | some a => simp [Addr.add]

theorem ins_sorted {z : List Int} {c : Int} {k : Nat} (hkz : k ≤ z.length) (hz : z.Pairwise (· ≤ ·)) (h1 : ∀ (j : Nat) x, k ≤ j → z[j]? = some x → c < x) (h2 : ∀ x, 0 < k → z[k - 1]? = some x → x ≤ c) : (z.take k ++ [c] ++ z.drop k).Pairwise (· ≤ ·) := by
  simp only [List.append_assoc, List.cons_append, List.nil_append]
  rw [List.pairwise_append]
  refine ⟨hz.sublist (List.take_sublist _ _), List.pairwise_cons.2 ⟨fun x hx => ?_, hz.sublist (List.drop_sublist _ _)⟩, fun x hx y hy => ?_⟩
  · obtain ⟨j, hj⟩ := List.getElem?_of_mem hx
    rw [List.getElem?_drop] at hj
    have := h1 (k + j) x (by omega) hj
    omega
  · obtain ⟨i, hi⟩ := List.getElem?_of_mem hx
    have hik : i < k := by
      have := (List.getElem?_eq_some_iff.1 hi).1
      simp only [List.length_take] at this; omega
    rw [List.getElem?_take_of_lt hik] at hi
    have hlt := (List.getElem?_eq_some_iff.1 hi).1
    have hxc : x ≤ c := by
      by_cases hkl : k - 1 < z.length
      · have h3 := h2 z[k - 1] (by omega) (List.getElem?_eq_getElem hkl)
        by_cases he : i = k - 1
        · subst he
          rw [List.getElem?_eq_getElem hkl] at hi; cases hi; exact h3
        · have h4 := List.pairwise_iff_getElem.1 hz i (k - 1) hlt hkl (by omega)
          rw [List.getElem?_eq_getElem hlt] at hi; cases hi
          omega
      · omega
    rcases List.mem_cons.1 hy with rfl | hy
    · exact hxc
    · obtain ⟨j, hj⟩ := List.getElem?_of_mem hy
      rw [List.getElem?_drop] at hj
      have := h1 (k + j) y (by omega) hj
      omega

theorem cells_ok {s : SV} {l : List Held} {Q : Asn} (hQ : Holds w0 F M Q) (hs : RdF w0 M 3 s (flatH l)) (hb : l.length ≤ 100000) (hok : ∀ x ∈ l, x.1 < 65536) (h : ∀ M' s' (z : List Int), Mem.le M M' → Holds w0 F M' (star (SlA s' (z.map (Value.int .i64))) Q) → z.Perm (intsN (l.map (·.1))) → z.Pairwise (· ≤ ·) → R s'.v M') : C PP w0 Id.thicketlaw12_cells #[SV.v s] R M := by
  apply thicketlaw12_cells.go
  intro pts H
  unfold thicketlaw12_cells.T
  have hlen := hs.len
  rw [flatH_len] at hlen
  have key : ∀ (n i : Nat) (M' : Mem) (sO : SV) (z : List Int), l.length < i + n → i ≤ l.length → Holds w0 M M' (star (SlA sO (z.map (Value.int .i64))) emp) → z.Perm (intsN ((l.take i).map (·.1))) → z.Pairwise (· ≤ ·) → thicketlaw12_cells.L1 pts n s sO (i : Int) M' := by
    intro n
    induction n with
    | zero => intro i M' sO z h1 h2; omega
    | succ n ih =>
      intro i M' sO z h1 h2 hH hz hp
      rw [H.L1]
      unfold thicketlaw12_cells.L1.T
      rw [bs_decide]
      split
      · have hi : i < l.length := by omega
        have ex := List.getElem?_eq_getElem hi
        have hxm : l[i] ∈ l := List.getElem_mem hi
        generalize l[i] = x at ex hxm
        have hx65 := hok x hxm
        have hzl : z.length = i := by rw [hz.length_eq]; simp [intsN]; omega
        have hzin : ∀ y ∈ z, In64 y := fun y hy => by
          have := hz.mem_iff.1 hy
          obtain ⟨u, hu, rfl⟩ := List.mem_map.1 this
          obtain ⟨v, hv, rfl⟩ := List.mem_map.1 hu
          have := hok v (List.mem_of_mem_take hv)
          unfold In64; omega
        have hso : sO.n = i := by rw [hH.cells.2]; simp [hzl]
        have hRz : RdI w0 M' .i64 sO z := hH.rdI (wf_all hzin) (by omega)
        -- where it is put
        have put : ∀ (k : Nat), k ≤ i → (∀ (j : Nat) y, k ≤ j → z[j]? = some y → (x.1 : Int) < y) → (∀ y, 0 < k → z[k - 1]? = some y → y ≤ (x.1 : Int)) → thicketlaw12_cells.J2 pts n s sO (i : Int) (k : Int) M' := by
          intro k hk g1 g2
          rw [H.J2]
          unfold thicketlaw12_cells.J2.T
          have hins := ins_sorted (by omega) hp g1 g2
          have hperm : (z.take k ++ [(x.1 : Int)] ++ z.drop k).Perm (intsN ((l.take (i + 1)).map (·.1))) := by
            rw [List.take_add_one, ex]
            simp only [Option.toList_some, List.map_append, List.map_cons, List.map_nil, intsN, List.append_assoc, List.cons_append, List.nil_append]
            refine List.perm_middle.trans ?_
            rw [List.take_append_drop]
            refine (List.Perm.cons _ hz).trans ?_
            exact (List.perm_append_singleton _ _).symm
          obtain ⟨a, ea, hr⟩ := hs.cell (i * 3 + 0) (x.1 : Int) (flatH_get ex 0 _ rfl)
          rw [Nat.add_zero] at hr
          have hld : ∀ M2, Mem.le M M2 → (std PP w0).ld 3 (a.add (i * 3)) M2 = some (.int .i64 (x.1 : Int)) := fun M2 hl => by
            rw [ld_one W.c3]; exact hr M2 hl
          obtain ⟨F1, hle1, hB, hR1⟩ := hH.freeze (wf_all hzin) (by omega)
          have hcap := hRz.cap
          refine ⟨⟨by omega, by omega, by omega⟩, ?_⟩
          rw [ea]
          simp only [nc_v, Int.toNat_natCast, hld M' hH.fr, ob_v, shI_v]
          refine ⟨⟨by omega, by omega⟩, ⟨by omega, by omega, by omega⟩, ?_⟩
          have hxin : In64 (x.1 : Int) := by unfold In64; omega
          have hhd := cut_head hR1 (k := k) (by omega)
          have htl := hR1.drop (i := k) (by omega)
          -- the last two
          have tail : ∀ (F2 : Mem) (M2 : Mem) (e lit : SV), Mem.le F1 F2 → Holds w0 F2 M2 (star (SlA e ((z.take k).map (Value.int .i64))) emp) → RdI w0 F2 .i64 lit [(x.1 : Int)] →
              (std PP w0).app #[61, 61] 61 [SV.v e, SV.v lit] (fun v M3 => shS v fun s3 => (std PP w0).app #[61, 61] 61 [SV.v s3, .slice (if sO.c = k then sO.a else sO.a.map (·.add (k * 1))) (sO.n - k) (sO.c - k)] (fun v M4 => shS v fun s4 => thicketlaw12_cells.L1 pts n s s4 (w64 ((i : Int) + 1)) M4) M3) M2 := by
            intro F2 M2 e lit hl2 h2' hlit
            refine appI h2' (hlit.le h2'.fr) (by simp; omega) fun M3 s3 h3 => ?_
            rw [shS_sv]
            refine appI (x := ⟨_, _, _⟩) h3 ((htl.le hl2).le h3.fr) (by simp; omega) fun M4 s4 h4 => ?_
            rw [shS_sv, w64_in (by omega)]
            exact ih (i + 1) M4 s4 _ (by omega) (by omega) (h4.le_frame (Mem.le_trans hle1 hl2)) hperm hins
          have head : ∀ (F2 : Mem) (M2 : Mem) (e lit : SV), Mem.le F1 F2 → Holds w0 F2 M2 (star (SlA e (([] : List Int).map (Value.int .i64))) emp) → RdI w0 F2 .i64 lit [(x.1 : Int)] →
              (std PP w0).app #[61, 61] 61 [SV.v e, .slice (if sO.c = (0 : Int).toNat then sO.a else sO.a.map (·.add ((0 : Int).toNat * 1))) (k - (0 : Int).toNat) (sO.c - (0 : Int).toNat)] (fun v M3 => shS v fun s3 => (std PP w0).app #[61, 61] 61 [SV.v s3, SV.v lit] (fun v M4 => shS v fun s4 => (std PP w0).app #[61, 61] 61 [SV.v s4, .slice (if sO.c = k then sO.a else sO.a.map (·.add (k * 1))) (sO.n - k) (sO.c - k)] (fun v M5 => shS v fun s5 => thicketlaw12_cells.L1 pts n s s5 (w64 ((i : Int) + 1)) M5) M4) M3) M2 := by
            intro F2 M2 e lit hl2 h2' hlit
            refine appI (x := ⟨_, _, _⟩) h2' ((hhd.le hl2).le h2'.fr) (by simp; omega) fun M3 s3 h3 => ?_
            rw [shS_sv]
            rw [List.nil_append] at h3
            exact tail F2 M3 s3 lit hl2 h3 hlit
          refine ⟨?_, ?_⟩
          · refine newI0 hB fun M2 s2 l2 h2' => ?_
            rw [shS_sv, hld M2 (Mem.le_trans hle1 h2'.fr)]
            refine ⟨rfl, ?_, ?_⟩
            · refine appI (x := ⟨_, _, _⟩) h2' (hhd.le h2'.fr) (by simp; omega) fun M3 s3 h3 => ?_
              rw [shS_sv, hld M3 (Mem.le_trans hle1 h3.fr)]
              refine ⟨rfl, ?_⟩
              rw [List.nil_append] at h3
              refine newI1 h3 hxin fun M4 s4 F4 hl4 _ h4 h5 => ?_
              exact tail F4 M4 s3 s4 hl4 h4 h5
            · refine newI1 h2' hxin fun M4 s4 F4 hl4 _ h4 h5 => ?_
              exact head F4 M4 s2 s4 hl4 h4 h5
          · refine newI1 hB hxin fun M4 s4 F4 hl4 _ h4 h5 => ?_
            refine newI0 h4 fun M5 s5 l5 h6 => ?_
            rw [shS_sv]
            exact head F4 M5 s5 s4 hl4 h6 h5
        have walk : ∀ (k : Nat), k ≤ i → (∀ (j : Nat) y, k ≤ j → z[j]? = some y → (x.1 : Int) < y) → thicketlaw12_cells.L3 pts n (k + 1) s sO (i : Int) (k : Int) M' := by
          intro k
          induction k with
          | zero =>
            intro hk g1
            rw [H.L3]
            unfold thicketlaw12_cells.L3.T
            rw [bs_decide, if_neg (by omega)]
            exact put 0 (by omega) g1 fun y h9 => absurd h9 (by omega)
          | succ k ihk =>
            intro hk g1
            rw [H.L3]
            unfold thicketlaw12_cells.L3.T
            rw [bs_decide, if_pos (by omega)]
            have hkz : k < z.length := by omega
            have ey := List.getElem?_eq_getElem hkz
            generalize z[k] = y at ey
            have ek : w64 (((k + 1 : Nat) : Int) - 1) = (k : Int) := by rw [w64_in (by omega)]; omega
            rw [ek]
            refine rdx W.c3 hRz (Mem.le_refl _) k rfl ey ?_
            refine rdH0 hs hH.fr i rfl ex ?_
            rw [bs_decide]
            split
            · rename_i hgt
              refine ihk (by omega) fun j u hj hu => ?_
              by_cases hjk : j = k
              · subst hjk
                rw [ey] at hu; cases hu
                omega
              · exact g1 j u (by omega) hu
            · rename_i hgt
              refine put (k + 1) hk g1 fun u _ hu => ?_
              rw [Nat.add_sub_cancel, ey] at hu; cases hu
              omega
        refine ⟨i + 1, ?_⟩
        have := walk i (by omega) fun j y hj hy => by
          have := (List.getElem?_eq_some_iff.1 hy).1
          omega
        rwa [← hso] at this ⊢
      · have : i = l.length := by omega
        subst this
        rw [List.take_length] at hz
        obtain ⟨l3, h4⟩ := Holds.unself hQ hH
        exact h M' sO z l3 h4 hz hp
  exact ⟨l.length + 1, key (l.length + 1) 0 M ⟨none, 0, 0⟩ [] (by omega) (by omega) (Holds.nilSl (Holds.self hQ)) (by simp [intsN]) List.Pairwise.nil⟩

end
end Go.Proofs.YtbkicgfgpmekeaaGreat.HL

/-
  WdC: the law's book in memory; what a call cost.
-/
set_option linter.unusedVariables false
set_option linter.unusedSimpArgs false
set_option maxRecDepth 100000
namespace Go.Proofs.YtbkicgfgpmekeaaGreat.HL
open Go.RowKit (Below)
open Go.Proofs

def wR (a : Nat) (sv : Nat → SV) (ω : WS) : List Value := [.pointer (some ⟨a, 0, none⟩), .int .i64 (ω.r 0), .int .i64 (ω.r 1), (sv 0).v, (sv 1).v, .int .i64 ω.next, .int .i64 ω.spent, .int .i64 ω.most]
def worldB (w a : Nat) (sv : Nat → SV) (ω : WS) : Asn := star (row1 w (wR a sv ω) 35) (star (SlKA 3 (sv 0) (hV (ω.has 0))) (star (SlKA 3 (sv 1) (hV (ω.has 1))) (arenaA a ω.α)))
def worldA (w : Nat) (ω : WS) : Asn := fun r => ∃ a sv, worldB w a sv ω r

section
variable {w0 : World} {M M0 F : Mem} {R : Value → Mem → Prop} {w a : Nat} {sv : Nat → SV} {ω : WS}

theorem Holds.wopen (h : Holds w0 F M (worldA w ω)) : ∃ a sv, Holds w0 F M (worldB w a sv ω) := by
  obtain ⟨r, ⟨a, sv, h1⟩, h2⟩ := h
  exact ⟨a, sv, r, h1, h2⟩
theorem Holds.wclose (h : Holds w0 F M (worldB w a sv ω)) : Holds w0 F M (worldA w ω) := by
  obtain ⟨r, h1, h2⟩ := h
  exact ⟨r, ⟨a, sv, h1⟩, h2⟩

structure WSeen (w0 : World) (M : Mem) (w a : Nat) (sv : Nat → SV) (ω : WS) : Prop where
  p : rd w0 M ⟨w, 0, none⟩ = some (.pointer (some ⟨a, 0, none⟩))
  r : ∀ h, h < 2 → rd w0 M ⟨w, 1 + h, none⟩ = some (.int .i64 (ω.r h))
  s : ∀ h, h < 2 → rd w0 M ⟨w, 3 + h, none⟩ = some (sv h).v
  n : rd w0 M ⟨w, 5, none⟩ = some (.int .i64 ω.next)
  sp : rd w0 M ⟨w, 6, none⟩ = some (.int .i64 ω.spent)
  mo : rd w0 M ⟨w, 7, none⟩ = some (.int .i64 ω.most)
theorem Holds.wseen (h : Holds w0 F M (worldB w a sv ω)) : WSeen w0 M w a sv ω := by
  have o := h.own1
  refine ⟨by rw [rd_own o]; rfl, fun k hk => ?_, fun k hk => ?_, by rw [rd_own o]; rfl, by rw [rd_own o]; rfl, by rw [rd_own o]; rfl⟩
  · rw [rd_own o]
    match k, hk with
    | 0, _ | 1, _ => rfl
  · rw [rd_own o]
    match k, hk with
    | 0, _ | 1, _ => rfl
theorem WSeen.le {M' : Mem} (h : WSeen w0 M w a sv ω) (hl : Mem.le M M') (ho : Own w0 M w (wR a sv ω) 35) : WSeen w0 M' w a sv ω := by
  have o := ho.le hl
  refine ⟨by rw [rd_own o]; rfl, fun k hk => ?_, fun k hk => ?_, by rw [rd_own o]; rfl, by rw [rd_own o]; rfl, by rw [rd_own o]; rfl⟩
  · rw [rd_own o]
    match k, hk with
    | 0, _ | 1, _ => rfl
  · rw [rd_own o]
    match k, hk with
    | 0, _ | 1, _ => rfl
theorem Holds.warena (h : Holds w0 F M (worldB w a sv ω)) : ∃ F', Holds w0 F' M (arenaA a ω.α) ∧ Mem.le F F' ∧ ∀ M' β, Holds w0 F' M' (arenaA a β) → Holds w0 F M' (worldB w a sv { ω with α := β }) := by
  obtain ⟨F', h1, h2, h3⟩ := h.last4
  exact ⟨F', h1, h2, fun M' β h' => h3 M' _ h'⟩
theorem Holds.winv (h : Holds w0 F M (worldB w a sv ω)) : ω.α.Inv := by
  obtain ⟨F', h1, _⟩ := h.warena
  exact h1.inv
theorem SlKA.n3 {s : SV} {l : List Held} {r : Rws} (h : SlKA 3 s (hV l) r) : s.n = l.length := by
  rcases h with ⟨rfl, h, _⟩ | ⟨b, rest, e, _, h, _⟩
  · have h9 : l.length * 3 = 0 := by rw [← hV_len, h]; rfl
    show 0 = l.length
    omega
  · rw [hV_len] at h; omega
theorem Holds.whas (hW : Holds w0 F M (worldB w a sv ω)) {h : Nat} (hh : h < 2) (hok : ∀ x ∈ ω.has h, okHd x) (hlen : (ω.has h).length ≤ 100000) : RdF w0 M 3 (sv h) (flatH (ω.has h)) ∧ (sv h).n = (ω.has h).length := by
  have key : ∀ {s : SV} {l : List Held} {Q : Asn}, Holds w0 F M (star (SlKA 3 s (hV l)) Q) → (∀ x ∈ l, okHd x) → l.length ≤ 100000 → RdF w0 M 3 s (flatH l) ∧ s.n = l.length := by
    intro s l Q h1 h2 h3
    have hn : s.n = l.length := by
      obtain ⟨r, ⟨r1, r2, _, g1, _⟩, _⟩ := h1
      exact g1.n3
    exact ⟨Holds.rdF (by decide) h1 (flatH_wf h2) (by omega), hn⟩
  match h, hh with
  | 0, _ => exact key hW.right hok hlen
  | 1, _ => exact key hW.right.right hok hlen

theorem wst_r (hW : Holds w0 F M (worldB w a sv ω)) {h : Nat} (hh : h < 2) {v : Int} {K : Mem → Prop} (hK : ∀ M', Holds w0 F M' (worldB w a sv { ω with r := upd ω.r h v }) → K M') : (std PP w0).st 3 ⟨w, 1 + h, none⟩ (.int .i64 v) K M := by
  refine st_one W.c3 hW.own1 (by show 1 + h < 8; omega) rfl rfl (hK _ ?_)
  have := hW.upd1 (cs' := (wR a sv ω).set (1 + h) (.int .i64 v)) (e' := 35)
  have e : (wR a sv ω).set (1 + h) (.int .i64 v) = wR a sv { ω with r := upd ω.r h v } := by
    match h, hh with
    | 0, _ | 1, _ => rfl
  rw [e] at this ⊢
  exact this
theorem wst_n (hW : Holds w0 F M (worldB w a sv ω)) {v : Int} {K : Mem → Prop} (hK : ∀ M', Holds w0 F M' (worldB w a sv { ω with next := v }) → K M') : (std PP w0).st 2 ⟨w, 5, none⟩ (.int .i64 v) K M :=
  st_one W.c2 hW.own1 (by show 5 < 8; omega) rfl rfl (hK _ (hW.upd1 (cs' := (wR a sv ω).set 5 (.int .i64 v)) (e' := 35)))
theorem wst_sp (hW : Holds w0 F M (worldB w a sv ω)) {v : Int} {K : Mem → Prop} (hK : ∀ M', Holds w0 F M' (worldB w a sv { ω with spent := v }) → K M') : (std PP w0).st 2 ⟨w, 6, none⟩ (.int .i64 v) K M :=
  st_one W.c2 hW.own1 (by show 6 < 8; omega) rfl rfl (hK _ (hW.upd1 (cs' := (wR a sv ω).set 6 (.int .i64 v)) (e' := 35)))
theorem wst_mo (hW : Holds w0 F M (worldB w a sv ω)) {v : Int} {K : Mem → Prop} (hK : ∀ M', Holds w0 F M' (worldB w a sv { ω with most := v }) → K M') : (std PP w0).st 2 ⟨w, 7, none⟩ (.int .i64 v) K M :=
  st_one W.c2 hW.own1 (by show 7 < 8; omega) rfl rfl (hK _ (hW.upd1 (cs' := (wR a sv ω).set 7 (.int .i64 v)) (e' := 35)))
/-- What is held is another list from now on. -/
theorem wst_s {s' : SV} {l' : List Held} (hW : Holds w0 F M (star (SlKA 3 s' (hV l')) (worldB w a sv ω))) {h : Nat} (hh : h < 2) {K : Mem → Prop} (hK : ∀ M', Holds w0 F M' (worldB w a (upd sv h s') { ω with has := upd ω.has h l' }) → K M') : (std PP w0).st 32 ⟨w, 3 + h, none⟩ s'.v K M := by
  have h1 := hW.rot
  refine st_one W.c32 h1.own1 (by show 3 + h < 8; omega) rfl rfl (hK _ ?_)
  have h2 := h1.upd1 (cs' := (wR a sv ω).set (3 + h) s'.v) (e' := 35)
  match h, hh with
  | 0, _ =>
    have h3 := h2.rot3.right
    exact h3
  | 1, _ =>
    have h3 := h2.impP (Q := star (SlKA 3 (sv 1) (hV (ω.has 1))) (star (row1 w ((wR a sv ω).set (3 + 1) s'.v) 35) (star (SlKA 3 (sv 0) (hV (ω.has 0))) (star (SlKA 3 s' (hV l')) (arenaA a ω.α))))) fun r ⟨r1, _, e1, g1, r2, _, e2, g2, r3, _, e3, g3, r4, r5, e4, g4, g5⟩ => by
      subst e4; subst e3; subst e2; subst e1
      refine ⟨r4 ++ (r1 ++ (r3 ++ (r2 ++ r5))), ?_, r4, _, rfl, g4, r1, _, rfl, g1, r3, _, rfl, g3, r2, _, rfl, g2, g5⟩
      refine ((List.perm_append_comm_assoc r2 r3 _).append_left r1).trans ?_
      refine ((((List.perm_append_comm_assoc r2 r4 r5).append_left r3).append_left r1)).trans ?_
      refine ((List.perm_append_comm_assoc r3 r4 _).append_left r1).trans ?_
      exact List.perm_append_comm_assoc r1 r4 _
    exact h3.right
theorem wst_snil (hW : Holds w0 F M (worldB w a sv ω)) {h : Nat} (hh : h < 2) {K : Mem → Prop} (hK : ∀ M', Holds w0 F M' (worldB w a (upd sv h ⟨none, 0, 0⟩) { ω with has := upd ω.has h [] }) → K M') : (std PP w0).st 32 ⟨w, 3 + h, none⟩ (.slice none 0 0) K M :=
  wst_s (s' := ⟨none, 0, 0⟩) (l' := []) (Holds.nilSlk hW) hh hK

/-- What a call cost. -/
theorem cost_ok (hW : Holds w0 F M (worldB w a sv ω)) {since kind : Int} {n : Nat} (hn : n ≤ 1000000) {lim : Int} (hl : lim = if kind = 1 then limH n else 500) (hx : 0 ≤ ω.α.steps - since ∧ ω.α.steps - since ≤ 10000000000000) (hs : 0 ≤ ω.spent ∧ ω.spent ≤ 1000000000000) (hm : 0 ≤ ω.most ∧ ω.most ≤ 1000000000000) (hc : CostOk (ω.α.steps - since) lim ω.spent ω.most)
    (h : ∀ M', Holds w0 F M' (worldB w a sv { ω with spent := ω.spent + (ω.α.steps - since), most := ω.most + lim }) → R (.bool true) M') : C PP w0 Id.thicketlaw12_world_cost #[.pointer (some ⟨w, 0, none⟩), .int .i64 since, .int .i64 kind, .int .i64 (n : Int)] R M := by
  apply thicketlaw12_world_cost.go
  intro pts H
  unfold thicketlaw12_world_cost.T
  have ws := hW.wseen
  obtain ⟨F', hA, hle, back⟩ := hW.warena
  simp only [go_sem, ws.p]
  refine MeterSteps_ok (K := fun _ _ _ => True) hA fun p hp hq => ?_
  simp only [go_sem]
  refine hq.mono fun v M' hv => ?_
  obtain ⟨rfl, rfl⟩ := hv
  have hlb := limH_bound hn
  have hlim : 500 ≤ lim ∧ lim ≤ 8500 := by rw [hl]; split <;> omega
  simp only [go_sem]
  rw [w64_in (show -9223372036854775808 ≤ ω.α.steps - since ∧ ω.α.steps - since ≤ 9223372036854775807 by omega)]
  have fin : thicketlaw12_world_cost.J1 pts (some ⟨w, 0, none⟩) (ω.α.steps - since) lim M' := by
    rw [H.J1]
    unfold thicketlaw12_world_cost.J1.T
    simp only [go_sem, add_eq, Nat.zero_add, ws.sp, ws.mo]
    rw [w64_in (show -9223372036854775808 ≤ ω.spent + (ω.α.steps - since) ∧ ω.spent + (ω.α.steps - since) ≤ 9223372036854775807 by omega), w64_in (show -9223372036854775808 ≤ ω.most + lim ∧ ω.most + lim ≤ 9223372036854775807 by omega)]
    refine wst_sp hW fun M2 hW2 => ?_
    refine wst_mo hW2 fun M3 hW3 => ?_
    have ws3 := hW3.wseen
    have w6 := ws3.sp
    have w7 := ws3.mo
    simp only at w6 w7
    simp only [go_sem, add_eq, Nat.zero_add, w6, w7]
    rw [decide_eq_true (show ω.spent + (ω.α.steps - since) ≤ ω.most + lim from hc)]
    exact h M3 hW3
  rw [bs_beq]
  split
  · rename_i hk
    rw [if_pos hk] at hl
    refine rLim_ok hn ?_
    rw [shI_v, ← hl]
    exact fin
  · rename_i hk
    rw [if_neg hk] at hl
    rw [← hl]
    exact fin

theorem fresh_w_ok {n : Nat} (hn : n ≤ 65536) (h : ∀ M' w, Holds w0 M M' (worldA w ⟨AS.new n, fun _ => -1, fun _ => [], 0, 0, 0⟩) → R (.pointer (some ⟨w, 0, none⟩)) M') : C PP w0 Id.thicketlaw12_fresh #[.int .i64 (n : Int)] R M := by
  apply thicketlaw12_fresh.go
  unfold thicketlaw12_fresh.T
  refine New_ok fun M1 a hA => ?_
  rw [show (if (if (65536 : Int) < (n : Int) then 65536 else (n : Int)) > 0 then (if (65536 : Int) < (n : Int) then 65536 else (n : Int)) else 0).toNat = n from by
    rw [if_neg (show ¬ ((65536 : Int) < (n : Int)) by omega)]; split <;> omega] at hA
  simp only [go_sem]
  intro b hb hw
  have hB : Holds w0 M _ (worldB b a (fun _ => ⟨none, 0, 0⟩) ⟨AS.new n, fun _ => -1, fun _ => [], 0, 0, 0⟩) :=
    (Holds.nilSlk (k := 3) (Holds.nilSlk (k := 3) hA)).new hb hw (wR a (fun _ => ⟨none, 0, 0⟩) ⟨AS.new n, fun _ => -1, fun _ => [], 0, 0, 0⟩) 35
  have ws := hB.wseen
  have hp := ws.p
  simp only [wR, SV.v] at hp
  simp only [SV.v, hp, go_sem, Option.isNone_some, bs_false]
  obtain ⟨F', hA2, hle, back⟩ := hB.warena
  simp only [wR, SV.v] at hA2
  refine MeterSteps_ok (K := fun _ _ _ => True) hA2 fun p hp2 hq => ?_
  have e1 : p.isNone = false := by cases p with
    | none => exact absurd rfl hp2
    | some _ => rfl
  simp only [go_sem, e1, bs_false]
  exact h _ b hB.wclose

end
end Go.Proofs.YtbkicgfgpmekeaaGreat.HL

/-
  WdD: the law's calls: an item is put in.
-/
set_option linter.unusedVariables false
set_option linter.unusedSimpArgs false
set_option maxRecDepth 100000
namespace Go.Proofs.YtbkicgfgpmekeaaGreat.HL
open Go.RowKit (Below)
open Go.Proofs

section
variable {w0 : World} {M M0 F : Mem} {R : Value → Mem → Prop} {w a : Nat} {sv : Nat → SV} {ω : WS}

theorem app2 {e x : SV} {l m : List Held} {Q : Asn} (h : Holds w0 F M (star (SlKA 3 e (hV l)) (star (SlKA 3 x (hV m)) Q))) (hb : l.length + m.length ≤ 1000000) {K : Value → Mem → Prop}
    (hK : ∀ M' s', Holds w0 F M' (star (SlKA 3 s' (hV (l ++ m))) Q) → K s'.v M') : (std PP w0).app #[32, 32] 32 [SV.v e, SV.v x] K M := by
  obtain ⟨F', h1, h2, h3⟩ := Holds.slk h.right
  have hn := h1.len
  rw [hV_len] at hn
  refine appH h (by omega) h1.cells (fun e => (h1.none e).1) hb fun M' s' h4 => hK M' s' ?_
  exact h4.rot.right
theorem appW {e : SV} {l : List Held} {h : Nat} (hh : h < 2) {X : Asn} (hX : Holds w0 F M (star (SlKA 3 e (hV l)) X)) (hr : RdF w0 M 3 (sv h) (flatH (ω.has h)) ∧ (sv h).n = (ω.has h).length) (hb : l.length + (ω.has h).length ≤ 1000000) {K : Value → Mem → Prop}
    (hK : ∀ M' s', Holds w0 F M' (star (SlKA 3 s' (hV (l ++ ω.has h))) X) → K s'.v M') : (std PP w0).app #[32, 32] 32 [SV.v e, SV.v (sv h)] K M :=
  appH hX hr.2.symm (hr.1.cellsH (Mem.le_refl _)) hr.1.nulH hb hK

/-- An item is put in, as far as there is room. -/
theorem wpush_ok {T : Nat} {t : Nat → HT} (hW : Holds w0 F M (worldA w ω)) (hG : Good T ω t) (hT : T ≤ 100000) {h : Nat} (hh : h < 2) {key : Int} (hk : In64 key)
    (hR : ∀ M' ω' t', Holds w0 F M' (worldA w ω') → Good (T + 1) ω' t' → ω'.α.n = ω.α.n → ((∃ c, ω'.has = upd ω.has h (ω.has h ++ [(c, (key, ω.next))]) ∧ ω'.next = ω.next + 1) ∨ (ω.α.n < ω.α.len + 2 ∧ ω'.has = ω.has ∧ ω'.next = ω.next)) → R (.bool true) M') :
    C PP w0 Id.thicketlaw12_world_push #[.pointer (some ⟨w, 0, none⟩), .int .i64 (h : Int), .int .i64 key] R M := by
  apply thicketlaw12_world_push.go
  intro pts H
  unfold thicketlaw12_world_push.T
  obtain ⟨a, sv, hW⟩ := hW.wopen
  have hh1 : (0 : Int) ≤ (h : Int) := by omega
  have hh2 : (h : Int) < ((2 : Nat) : Int) := by omega
  have ws := hW.wseen
  have hI := hW.winv
  have hsmall := hG.small hI hh
  have hok := hG.ok hI (by omega) hh
  have hcosts := hG.costs (by omega)
  obtain ⟨F', hA, hle, back⟩ := hW.warena
  simp only [go_sem, add_eq, Nat.zero_add, ws.p, ws.n]
  refine ItNew_ok hA (fun hnx M1 hA1 => ?_) fun c hnx M1 β hA1 hs1 => ?_
  · -- no cell at all
    have hW1 := back M1 _ hA1
    have ws1 := hW1.wseen
    have hfull := AS.next_full hI hnx
    simp only [go_sem, Bool.not_false, bs_true, ws1.p]
    refine Len_ok hA1 ?_
    simp only [go_sem, ws1.p, true_and]
    refine Cells_ok hA1 ?_
    simp only [go_sem]
    rw [show ((ω.α.tick.len : Int) == (ω.α.tick.n : Int)) = true from by rw [beq_iff_eq]; show (ω.α.len : Int) = (ω.α.n : Int); omega]
    refine hR M1 _ t hW1.wclose (hG.alpha (β := ω.α.tick) (fun k hk => (hG.hp k hk).eff (S := fun _ => False) (L := fun _ => False) AS.tick_sm.eff (fun _ _ h => h) (fun _ _ h => h)) rfl (by omega) hG.cost ⟨hG.most.1, by have := hG.most.2; omega⟩) rfl (.inr ⟨by omega, rfl, rfl⟩)
  · obtain ⟨hcn, hcl, hct⟩ := AS.next_some hI hnx
    obtain ⟨hfr, hfl⟩ := AS.take_fresh hI hnx
    have he1 : AS.Eff (· = c) (· = c) 1 3 ω.α β := ((((AS.take_eff (S := (· = c)) (L := (· = c)) hI hnx rfl rfl).put (c := c) (f := 7) (v := key) rfl).put (c := c) (f := 8) (v := ω.next) rfl).trans hs1.eff).mono (fun _ h => h) (fun _ h => h) (by omega) |>.to (by omega)
    have hbl : ∀ x, β.live x = if x = c then true else ω.α.live x := fun x => by rw [hs1.live, show ((ω.α.take.put c 7 key).put c 8 ω.next).live = ω.α.take.live from rfl, hct]; rfl
    have hcc : ∀ k, k < 2 → c ∉ (t k).cells := fun k hk hm => by have := (hG.hp k hk).live c hm; rw [hcl] at this; cases this
    have hp1 : ∀ k, k < 2 → Hp β (ω.r k) (t k) := fun k hk => (hG.hp k hk).eff he1 (fun x hx e => hcc k hk (e ▸ hx)) (fun x hx e => hcc k hk (e ▸ hx))
    have hW1 := back M1 _ hA1
    have ws1 := hW1.wseen
    simp only [go_sem, Bool.not_true, bs_false, ws1.p]
    refine Len_ok hA1 ?_
    simp only [go_sem, ws1.p, true_and]
    refine Cells_ok hA1 ?_
    simp only [go_sem, ws1.p]
    refine MeterSteps_ok (K := fun _ _ _ => True) hA1 fun p _ hq => ?_
    simp only [go_sem]
    refine hq.mono fun v M' hv => ?_
    obtain ⟨rfl, rfl⟩ := hv
    simp only [go_sem, add_eq, Nat.zero_add, Int.toNat_natCast, Nat.mul_one, hh1, hh2, and_self, true_and, ws1.p, ws1.r h hh]
    have hI1 := hA1.inv
    have hIst := hI1.steps
    have hlim := limH_bound (n := (ω.has h).length + 1) (by omega)
    refine heap_push_ok hA1 (hp1 h hh) (i := c) (e := (key, ω.next)) (by rw [hbl, if_pos rfl]) (hcc h hh) (by rw [hs1.get, AS.put_get, if_neg (by omega), AS.put_get, if_pos ⟨rfl, rfl⟩]) (by rw [hs1.get, AS.put_get, if_pos ⟨rfl, rfl⟩]) (fun hnx2 M2 γ hA2 hs2 => ?_) fun n hnx2 hnl2 M2 γ t' hA2 hp2 hi2 hc2 he2 => ?_
    · -- no cell for the node
      have hfull := AS.next_full hI1 hnx2
      have hst := hs2.steps ⟨hIst.1, hIst.2.2⟩
      have hW2 := back M2 _ hA2
      have ws2 := hW2.wseen
      simp only [go_sem, add_eq, Nat.zero_add, Int.toNat_natCast, Nat.mul_one, hh1, hh2, and_self, true_and, ws2.p, ws2.s h hh]
      have hhas := (hW2.whas hh hok (by show (ω.has h).length ≤ _; omega))
      rw [show ((sv h).n : Int) = (((ω.has h).length : Nat) : Int) from by rw [hhas.2]]
      rw [show w64 ((((ω.has h).length : Nat) : Int) + 1) = (((ω.has h).length + 1 : Nat) : Int) from by rw [w64_in (by omega)]; omega]
      refine cost_ok (lim := 500) hW2 (by omega) (by rw [if_neg (by omega)]) (by show 0 ≤ γ.steps - β.steps ∧ γ.steps - β.steps ≤ _; omega) hcosts.1 hcosts.2 (cost_of (t := t h) (t' := t h) (P := HT.pot (t (1 - h))) (by show γ.steps - β.steps + _ ≤ _; omega) (hG.pots hh) (HT.pot_ge _)) fun M3 hW3 => ?_
      simp only [go_sem, Bool.not_true, bs_false]
      have e0 : decide ((β.len : Int) < (β.n : Int)) = false := decide_eq_false (by omega)
      rw [e0]
      simp only [go_sem, beq_self_eq_true, Bool.not_true, bs_false]
      rw [H.J1]
      unfold thicketlaw12_world_push.J1.T
      have ws3 := hW3.wseen
      have hr3 := ws3.r h hh
      simp only at hr3
      simp only [go_sem, Bool.not_false, bs_true, add_eq, Nat.zero_add, Int.toNat_natCast, Nat.mul_one, hh1, hh2, and_self, true_and, ws3.p, hr3, beq_self_eq_true]
      obtain ⟨F3, hA3, hle3, back3⟩ := hW3.warena
      refine Give_ok hA3 fun M4 hA4 => ?_
      have hcl2 : γ.live c = true := by rw [hs2.live, hbl, if_pos rfl]
      rw [show γ.giveI (c : Int) = γ.unlive c from AS.giveI_live hcl2] at hA4
      rw [show AS.liveI γ (c : Int) = true from by rw [AS.liveI_nat]; exact hcl2]
      simp only [go_sem]
      have he4 : AS.Eff (· = c) (· = c) 0 5 ω.α (γ.unlive c).tick := (((he1.trans hs2.eff).trans (AS.unlive_eff hA2.inv hcl2 rfl)).tick.mono (fun _ h => h) (fun _ h => h) (by omega)).to (by omega)
      refine hR M4 _ t (back3 M4 _ hA4).wclose (hG.alpha (β := (γ.unlive c).tick) (fun k hk => (hG.hp k hk).eff he4 (fun x hx e => hcc k hk (e ▸ hx)) (fun x hx e => hcc k hk (e ▸ hx))) (by have := he4.len; omega) (by omega) ?_ ?_) he4.n (.inr ⟨?_, rfl, rfl⟩)
      · show ω.spent + (γ.steps - β.steps) + HT.pot (t 0) + HT.pot (t 1) ≤ ω.most + _
        have := hG.cost; omega
      · show 0 ≤ ω.spent + (γ.steps - β.steps) ∧ ω.most + _ ≤ _
        have := hG.most; omega
      · have h1 := he1.len
        have h2 := he1.n
        omega
    · have hst := he2.steps ⟨hIst.1, hIst.2.2⟩
      have hpot := HT.pot_ge t'
      have hpt := hG.pots hh
      have hpo := HT.pot_ge (t (1 - h))
      have hlen := hG.hlen hh
      try rw [hlen] at hst
      have hW2 := back M2 _ hA2
      have ws2 := hW2.wseen
      simp only [go_sem, add_eq, Nat.zero_add, Int.toNat_natCast, Nat.mul_one, hh1, hh2, and_self, true_and, ws2.p, ws2.s h hh]
      have hhas := (hW2.whas hh hok (by show (ω.has h).length ≤ _; omega))
      rw [show ((sv h).n : Int) = (((ω.has h).length : Nat) : Int) from by rw [hhas.2]]
      rw [show w64 ((((ω.has h).length : Nat) : Int) + 1) = (((ω.has h).length + 1 : Nat) : Int) from by rw [w64_in (by omega)]; omega]
      refine cost_ok (lim := 500) hW2 (by omega) (by rw [if_neg (by omega)]) (by show 0 ≤ γ.steps - β.steps ∧ γ.steps - β.steps ≤ _; omega) hcosts.1 hcosts.2 (cost_of (t := t h) (t' := t') (P := HT.pot (t (1 - h))) (by show γ.steps - β.steps + _ ≤ _; omega) hpt hpo) fun M3 hW3 => ?_
      have hroom := (AS.take_some hI1 hnx2).2
      simp only [go_sem, Bool.not_true, bs_false]
      have e0 : decide ((β.len : Int) < (β.n : Int)) = true := decide_eq_true (by omega)
      rw [e0]
      simp only [go_sem, beq_self_eq_true, Bool.not_true, bs_false]
      rw [H.J1]
      unfold thicketlaw12_world_push.J1.T
      simp only [go_sem, Bool.not_true, bs_false, add_eq, Nat.zero_add, Int.toNat_natCast, Nat.mul_one, hh1, hh2, and_self, true_and]
      refine wst_r hW3 hh fun M4 hW4 => ?_
      have ws4 := hW4.wseen
      have hs4 := ws4.s h hh
      have hn4 := ws4.n
      simp only at hn4
      simp only [hs4, hn4, go_sem]
      -- the end
      have hnn : n ≠ c ∧ ω.α.live n = false := by
        rw [hbl] at hnl2
        split at hnl2
        · cases hnl2
        · rename_i h9; exact ⟨h9, hnl2⟩
      have heT : AS.Eff (fun x => x = c ∨ x = n ∨ x ∈ (t h).cells) (fun x => x = c ∨ x = n) 2 _ ω.α γ := ((he1.mono (S' := fun x => x = c ∨ x = n ∨ x ∈ (t h).cells) (L' := fun x => x = c ∨ x = n) (fun _ e => .inl e) (fun _ e => .inl e) (Int.le_refl _)).trans (he2.mono (fun x hx => by simp only [List.mem_cons] at hx; rcases hx with e | e | e; exact .inr (.inl e); exact .inl e; exact .inr (.inr e)) (fun x e => .inr e) (Int.le_refl _))).to (by omega)
      have hoth : Hp γ (ω.r (1 - h)) (t (1 - h)) := hG.other hh heT (fun x hx => by rcases hx with rfl | rfl | hx; exact .inr hcl; exact .inr hnn.2; exact .inl hx) (fun x hx => by rcases hx with rfl | rfl; exact .inr hcl; exact .inr hnn.2)
      have hgood : Good (T + 1) ⟨γ, upd ω.r h t'.root, upd ω.has h (ω.has h ++ [(c, (key, ω.next))]), ω.next + 1, ω.spent + (γ.steps - β.steps), ω.most + 500⟩ (upd t h t') := by
        refine hG.put hh hp2 hoth (hi2.trans ((List.Perm.cons _ (hG.its h hh)).trans (List.perm_append_singleton _ _).symm)) (fun x hx => ?_) ?_ (fun x hx => ?_) (by omega) ?_ (by have := hG.next.2; omega) (by omega) ⟨by have := hG.most.1; omega, by have := hG.most.2; omega⟩
        · have := hc2.mem_iff.1 hx
          simp only [List.mem_cons] at this
          rcases this with rfl | rfl | hx
          · intro hm
            have := (hG.hp (1 - h) (by omega)).live _ hm
            rw [hnn.2] at this; cases this
          · exact hcc (1 - h) (by omega)
          · exact hG.dj h hh x hx
        · have h1 := heT.len
          have h2 := hG.len_h hh
          rw [List.length_append, List.length_singleton]
          omega
        · rcases List.mem_append.1 hx with hx | hx
          · obtain ⟨a1, a2, a3⟩ := hG.keys h hh x hx
            exact ⟨a1, a2, by omega⟩
          · simp only [List.mem_cons, List.not_mem_nil, or_false] at hx
            subst hx
            exact ⟨hk, hG.next.1, by show ω.next < _; omega⟩
        · have h1 := hG.ser_h hh
          rw [List.append_assoc, List.map_append, List.singleton_append, List.map_cons]
          refine List.perm_middle.nodup_iff.2 ?_
          rw [← List.map_append]
          refine List.nodup_cons.2 ⟨fun hm => ?_, h1⟩
          obtain ⟨y, hy, he⟩ := List.mem_map.1 hm
          rcases List.mem_append.1 hy with hy | hy
          · have := (hG.keys h hh y hy).2.2; simp only at he; omega
          · have := (hG.keys (1 - h) (by omega) y hy).2.2; simp only at he; omega
      have fin : ∀ (M5 : Mem) (s' : SV), Holds w0 F M5 (star (SlKA 3 s' (hV (ω.has h ++ [(c, (key, ω.next))]))) (worldB w a sv ⟨γ, upd ω.r h t'.root, ω.has, ω.next, ω.spent + (γ.steps - β.steps), ω.most + 500⟩)) →
          (std PP w0).st 32 ⟨w, 3 + h, none⟩ (SV.v s') (fun M121 => ob (rd w0 M121 ⟨w, 5, none⟩) fun v123 => shI .i64 v123 fun n124 => (std PP w0).st 2 ⟨w, 5, none⟩ (.int .i64 (w64 (n124 + 1))) (fun M126 => R (.bool true) M126) M121) M5 := by
        intro M5 s' h5
        refine wst_s h5 hh fun M6 hW6 => ?_
        have hn6 := hW6.wseen.n
        simp only at hn6
        simp only [hn6, go_sem]
        have := hG.next
        rw [w64_in (by omega)]
        refine wst_n hW6 fun M7 hW7 => ?_
        exact hR M7 _ _ hW7.wclose hgood (he2.n.trans he1.n) (.inl ⟨c, rfl, rfl⟩)
      have hok4 : ∀ x ∈ ω.has h, okHd x := hok
      -- a recheck, and what the list is
      have chk : ∀ {M5 : Mem} {X : Asn}, Holds w0 F M5 (star X (worldB w a sv ⟨γ, upd ω.r h t'.root, ω.has, ω.next, ω.spent + (γ.steps - β.steps), ω.most + 500⟩)) → rd w0 M5 ⟨w, 3 + h, none⟩ = some (sv h).v ∧ rd w0 M5 ⟨w, 5, none⟩ = some (.int .i64 ω.next) ∧ RdF w0 M5 3 (sv h) (flatH (ω.has h)) ∧ (sv h).n = (ω.has h).length := by
        intro M5 X h5
        have h6 := h5.right
        exact ⟨h6.wseen.s h hh, h6.wseen.n, h6.whas hh hok (by show (ω.has h).length ≤ _; omega)⟩
      have e2l : [] ++ ω.has h = ω.has h := rfl
      refine ⟨?_, ?_⟩
      · refine newH0 hW4 fun M5 s5 _ h5 => ?_
        obtain ⟨c1, c2, c3⟩ := chk h5
        simp only [shS_sv, c1, c2, true_and]
        refine ⟨?_, ?_⟩
        · refine appW (ω := ω) hh h5 c3 (by simp; omega) fun M6 s6 h6 => ?_
          rw [List.nil_append] at h6
          obtain ⟨d1, d2, d3⟩ := chk h6
          simp only [shS_sv, d2, true_and]
          refine newH h6 (c, (key, ω.next)) fun M7 s7 _ h7 => ?_
          simp only [shS_sv]
          refine app2 h7.rot (by simp; omega) fun M8 s8 h8 => ?_
          simp only [shS_sv]
          exact fin M8 s8 h8
        · refine newH h5 (c, (key, ω.next)) fun M6 s6 _ h6 => ?_
          have h6' := h6.rot
          obtain ⟨d1, d2, d3⟩ := chk (X := SlKA 3 s6 (hV [(c, (key, ω.next))])) h6'.right
          simp only [shS_sv, d1, true_and]
          refine appW (ω := ω) hh h6' d3 (by simp; omega) fun M7 s7 h7 => ?_
          simp only [shS_sv]
          rw [List.nil_append] at h7
          refine app2 h7 (by simp; omega) fun M8 s8 h8 => ?_
          simp only [shS_sv]
          exact fin M8 s8 h8
      · refine newH hW4 (c, (key, ω.next)) fun M5 s5 _ h5 => ?_
        obtain ⟨c1, c2, c3⟩ := chk h5
        simp only [shS_sv, c1, true_and]
        refine newH0 h5 fun M6 s6 _ h6 => ?_
        obtain ⟨d1, d2, d3⟩ := chk (X := SlKA 3 s5 (hV [(c, (key, ω.next))])) h6.right
        simp only [shS_sv, d1, true_and]
        refine appW (ω := ω) hh h6 d3 (by simp; omega) fun M7 s7 h7 => ?_
        simp only [shS_sv]
        rw [List.nil_append] at h7
        refine app2 h7 (by simp; omega) fun M8 s8 h8 => ?_
        simp only [shS_sv]
        exact fin M8 s8 h8

end
end Go.Proofs.YtbkicgfgpmekeaaGreat.HL

