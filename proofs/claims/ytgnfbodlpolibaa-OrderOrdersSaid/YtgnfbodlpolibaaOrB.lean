/-
  OrB: binary digits, limits, the least of some; the law on sums.
-/
import Derived.Test.YtgnfbodlpolibaaCmA
import Derived.Test.YtgnfbodlpolibaaBlM
set_option linter.unusedVariables false
set_option linter.unusedSimpArgs false
set_option maxRecDepth 100000
namespace Go.Proofs.Ytgnfbodlpolibaa.HL
open Go.RowKit (Below)
open Go.Proofs

abbrev En := Int × Int
def befE (p q : En) : Bool := decide (cmpI p.1 p.2 q.1 q.2 < 0)
def flatE (l : List En) : List Int := l.flatMap fun p => [p.1, p.2]
theorem flatE_len (l : List En) : (flatE l).length = l.length * 2 := by
  induction l with
  | nil => rfl
  | cons p l ih => simp only [flatE, List.flatMap_cons, List.length_append, List.length_cons, List.length_nil] at ih ⊢; omega
theorem flatE_get {l : List En} {i : Nat} {p : En} (h : l[i]? = some p) : ∀ f x, [p.1, p.2][f]? = some x → (flatE l)[i * 2 + f]? = some x := by
  induction l generalizing i with
  | nil => simp at h
  | cons q l ih =>
    intro f x hf
    cases i with
    | zero =>
      simp at h; subst h
      match f, hf with
      | 0, hf => simpa [flatE] using hf
      | 1, hf => simpa [flatE] using hf
      | f + 2, hf => simp at hf
    | succ i =>
      have := ih (i := i) (by simpa using h) f x hf
      rw [show (i + 1) * 2 + f = (i * 2 + f) + 1 + 1 from by omega]
      simpa [flatE] using this
/-- Where the least of some stands, from one on. -/
def leastF (l : List En) (at_ : Nat) : Nat → Nat → Nat
  | 0, _ => at_
  | k + 1, i => leastF l (match l[i]?, l[at_]? with
    | some p, some q => if befE p q = true then i else at_
    | _, _ => at_) k (i + 1)
def leastL (l : List En) : Nat := leastF l 0 l.length 0

section
variable {w0 : World} {M M0 F : Mem} {R : Value → Mem → Prop}

noncomputable def lenTab (n : Nat) : Bool := match (std PP default).idx 9 (Value.string ⟨(([0, 1, 2, 2, 3, 3, 3, 3, 4, 4, 4, 4, 4, 4, 4, 4, 5, 5, 5, 5, 5, 5, 5, 5, 5, 5, 5, 5, 5, 5, 5, 5, 6, 6, 6, 6, 6, 6, 6, 6, 6, 6, 6, 6, 6, 6, 6, 6, 6, 6, 6, 6, 6, 6, 6, 6, 6, 6, 6, 6, 6, 6, 6, 6, 7, 7, 7, 7, 7, 7, 7, 7, 7, 7, 7, 7, 7, 7, 7, 7, 7, 7, 7, 7, 7, 7, 7, 7, 7, 7, 7, 7, 7, 7, 7, 7, 7, 7, 7, 7, 7, 7, 7, 7, 7, 7, 7, 7, 7, 7, 7, 7, 7, 7, 7, 7, 7, 7, 7, 7, 7, 7, 7, 7, 7, 7, 7, 7, 8, 8, 8, 8, 8, 8, 8, 8, 8, 8, 8, 8, 8, 8, 8, 8, 8, 8, 8, 8, 8, 8, 8, 8, 8, 8, 8, 8, 8, 8, 8, 8, 8, 8, 8, 8, 8, 8, 8, 8, 8, 8, 8, 8, 8, 8, 8, 8, 8, 8, 8, 8, 8, 8, 8, 8, 8, 8, 8, 8, 8, 8, 8, 8, 8, 8, 8, 8, 8, 8, 8, 8, 8, 8, 8, 8, 8, 8, 8, 8, 8, 8, 8, 8, 8, 8, 8, 8, 8, 8, 8, 8, 8, 8, 8, 8, 8, 8, 8, 8, 8, 8, 8, 8, 8, 8, 8, 8, 8, 8, 8, 8, 8, 8, 8, 8, 8, 8, 8, 8, 8, 8, 8, 8, 8, 8, 8, 8] : List UInt8)).toArray⟩) (.int .u8 (n : Int)) with
  | some (.int .u8 v) => v == ((bl n : Nat) : Int)
  | _ => false
theorem lenTab_all : (List.range 256).all lenTab = true := by kernel_rfl

theorem Len64_ok {x : Nat} (hx : x < 2 ^ 64) (h : R (.int .i64 (bl x : Int)) M) : C PP w0 Id.bits_Len64 #[.int .u64 (x : Int)] R M := by
  apply bits_Len64.go
  intro pts H
  unfold bits_Len64.T
  have three : ∀ (y n : Nat), y < 256 → n ≤ 56 → bl x = bl y + n → bits_Len64.J3 pts (y : Int) (n : Int) M := by
    intro y n hy hn hb
    rw [H.J3]
    unfold bits_Len64.J3.T
    have hw : IntKind.wrap .u8 (y : Int) = (y : Int) := by unfold IntKind.wrap; simp [IntKind.bits, IntKind.signed]; omega
    rw [hw]
    have ht := List.all_eq_true.1 lenTab_all y (List.mem_range.2 hy)
    unfold lenTab at ht
    split at ht
    · rename_i v hv
      have hv' : (std PP w0).idx 9 (Value.string ⟨(([0, 1, 2, 2, 3, 3, 3, 3, 4, 4, 4, 4, 4, 4, 4, 4, 5, 5, 5, 5, 5, 5, 5, 5, 5, 5, 5, 5, 5, 5, 5, 5, 6, 6, 6, 6, 6, 6, 6, 6, 6, 6, 6, 6, 6, 6, 6, 6, 6, 6, 6, 6, 6, 6, 6, 6, 6, 6, 6, 6, 6, 6, 6, 6, 7, 7, 7, 7, 7, 7, 7, 7, 7, 7, 7, 7, 7, 7, 7, 7, 7, 7, 7, 7, 7, 7, 7, 7, 7, 7, 7, 7, 7, 7, 7, 7, 7, 7, 7, 7, 7, 7, 7, 7, 7, 7, 7, 7, 7, 7, 7, 7, 7, 7, 7, 7, 7, 7, 7, 7, 7, 7, 7, 7, 7, 7, 7, 7, 8, 8, 8, 8, 8, 8, 8, 8, 8, 8, 8, 8, 8, 8, 8, 8, 8, 8, 8, 8, 8, 8, 8, 8, 8, 8, 8, 8, 8, 8, 8, 8, 8, 8, 8, 8, 8, 8, 8, 8, 8, 8, 8, 8, 8, 8, 8, 8, 8, 8, 8, 8, 8, 8, 8, 8, 8, 8, 8, 8, 8, 8, 8, 8, 8, 8, 8, 8, 8, 8, 8, 8, 8, 8, 8, 8, 8, 8, 8, 8, 8, 8, 8, 8, 8, 8, 8, 8, 8, 8, 8, 8, 8, 8, 8, 8, 8, 8, 8, 8, 8, 8, 8, 8, 8, 8, 8, 8, 8, 8, 8, 8, 8, 8, 8, 8, 8, 8, 8, 8, 8, 8, 8, 8, 8, 8, 8, 8] : List UInt8)).toArray⟩) (.int .u8 (y : Int)) = some (.int .u8 v) := hv
      rw [hv', ob_v]
      have hv2 : v = ((bl y : Nat) : Int) := by simpa using ht
      have hbl : bl y ≤ 8 := bl_le (k := 8) (by omega)
      rw [shI_v, hv2, w64_in (n := ((bl y : Nat) : Int)) (by omega), w64_in (by omega), show (n : Int) + (bl y : Int) = (bl x : Int) from by omega]
      exact h
    · cases ht
  have two : ∀ (y n : Nat), y < 65536 → n ≤ 48 → bl x = bl y + n → bits_Len64.J2 pts (y : Int) (n : Int) M := by
    intro y n hy hn hb
    rw [H.J2]
    unfold bits_Len64.J2.T
    rw [bs_decide]
    split
    · rename_i hge
      refine ⟨by omega, ?_⟩
      have e : Int.fdiv (y : Int) (2 ^ (min (8 : Int).toNat (IntKind.bits .u64))) = ((y / 2 ^ 8 : Nat) : Int) := by
        rw [Int.fdiv_eq_ediv_of_nonneg _ (by decide)]; rfl
      rw [e, w64_in (by omega)]
      exact three (y / 2 ^ 8) (n + 8) (by omega) (by omega) (by rw [hb, bl_div (x := y) (k := 8) (by omega)]; omega)
    · exact three y n (by omega) (by omega) hb
  have one : ∀ (y n : Nat), y < 4294967296 → n ≤ 32 → bl x = bl y + n → bits_Len64.J1 pts (y : Int) (n : Int) M := by
    intro y n hy hn hb
    rw [H.J1]
    unfold bits_Len64.J1.T
    rw [bs_decide]
    split
    · rename_i hge
      refine ⟨by omega, ?_⟩
      have e : Int.fdiv (y : Int) (2 ^ (min (16 : Int).toNat (IntKind.bits .u64))) = ((y / 2 ^ 16 : Nat) : Int) := by
        rw [Int.fdiv_eq_ediv_of_nonneg _ (by decide)]; rfl
      rw [e, w64_in (by omega)]
      exact two (y / 2 ^ 16) (n + 16) (by omega) (by omega) (by rw [hb, bl_div (x := y) (k := 16) (by omega)]; omega)
    · exact two y n (by omega) (by omega) hb
  rw [bs_decide]
  split
  · rename_i hge
    refine ⟨by omega, ?_⟩
    have e : Int.fdiv (x : Int) (2 ^ (min (32 : Int).toNat (IntKind.bits .u64))) = ((x / 2 ^ 32 : Nat) : Int) := by
      rw [Int.fdiv_eq_ediv_of_nonneg _ (by decide)]; rfl
    rw [e]
    exact one (x / 2 ^ 32) 32 (by omega) (by omega) (bl_div (x := x) (k := 32) (by omega))
  · exact one x 0 (by omega) (by omega) rfl

theorem Bits_ok {n : Int} (hn : In64 n) (h : R (.int .i64 (bl n.toNat : Int)) M) : C PP w0 Id.order_Bits #[.int .i64 n] R M := by
  apply order_Bits.go
  unfold order_Bits.T
  have e1 : (if n > 0 then n else 0) = ((n.toNat : Nat) : Int) := by split <;> omega
  unfold In64 at hn
  have e2 : u64 ((n.toNat : Nat) : Int) = ((n.toNat : Nat) : Int) := by unfold u64 IntKind.wrap; simp [IntKind.bits, IntKind.signed]; omega
  rw [e1, e2]
  show C PP w0 Id.bits_Len _ _ M
  apply bits_Len.go
  unfold bits_Len.T
  refine Len64_ok (by omega) ?_
  simp only [go_sem]
  exact h

theorem Limit_ok {a b n : Int} (ha : In64 a) (hb : In64 b) (hn : In64 n) (h : R (.int .i64 (limI a b (bl n.toNat))) M) : C PP w0 Id.order_Limit #[.int .i64 a, .int .i64 b, .int .i64 n] R M := by
  apply order_Limit.go
  intro pts H
  unfold order_Limit.T
  refine Bits_ok hn ?_
  have hbl : bl n.toNat ≤ 64 := bl_le (by unfold In64 at hn; omega)
  simp only [go_sem]
  have key : ∀ (k i : Nat) (a : Int), bl n.toNat < i + k → i ≤ bl n.toNat → In64 a → R (.int .i64 (limI a b (bl n.toNat - i))) M → order_Limit.L1 pts k a b ((bl n.toNat : Nat) : Int) (i : Int) M := by
    intro k
    induction k with
    | zero => intro i a h1 h2; omega
    | succ k ih =>
      intro i a h1 h2 ha hR
      rw [H.L1]
      unfold order_Limit.L1.T
      rw [bs_decide]
      split
      · refine order_Add_ok ha hb ?_
        rw [shI_v, w64_in (by omega)]
        refine ih (i + 1) (addc a b) (by omega) (by omega) addc_in ?_
        rw [show bl n.toNat - i = (bl n.toNat - (i + 1)) + 1 from by omega] at hR
        exact hR
      · rw [show bl n.toNat - i = 0 from by omega] at hR
        exact hR
  exact ⟨bl n.toNat + 1, key _ 0 a (by omega) (by omega) ha h⟩

theorem BefE_ok {p q : En} (h : ∀ M', Mem.le M M' → R (.bool (befE p q)) M') : C PP w0 Id.order_Before #[.agg #[.int .i64 p.1, .int .i64 p.2], .agg #[.int .i64 q.1, .int .i64 q.2]] R M := by
  apply order_Before.go
  unfold order_Before.T
  intro x1 hx1 hw1
  intro x2 hx2 hw2
  have f1 := ((Fit.nil (w0 := w0) (Mem.le_refl M)).new hx1 hw1 (cs := [.int .i64 p.1, .int .i64 p.2]) (e := 40)).new hx2 hw2 (cs := [.int .i64 q.1, .int .i64 q.2]) (e := 40)
  have o2 := f1.own List.mem_cons_self
  have o1 := f1.own (List.mem_cons_of_mem _ List.mem_cons_self)
  have hle := f1.fr
  generalize (M.set x1 (.row [.int .i64 p.1, .int .i64 p.2] 40)).set x2 (.row [.int .i64 q.1, .int .i64 q.2] 40) = M1 at o1 o2 hle ⊢
  rw [ld_agg (cs := [.int .i64 p.1, .int .i64 p.2]) W.g40 (fun j v hj => by rw [add_eq, rd_own o1, Nat.zero_add]; exact hj)]
  simp only [go_sem]
  rw [ld_agg (cs := [.int .i64 q.1, .int .i64 q.2]) W.g40 (fun j v hj => by rw [add_eq, rd_own o2, Nat.zero_add]; exact hj)]
  simp only [go_sem]
  refine Compare_ok fun M2 l2 => ?_
  simp only [go_sem]
  exact h M2 (Mem.le_trans hle l2)

theorem Least_ok {s : SV} {l : List En} (hs : RdF w0 M 2 s (flatE l)) (hm : l.length ≤ 1000000) (h : ∀ M', Mem.le M M' → R (.tuple #[.int .i64 (leastL l : Int), .bool (decide (0 < l.length))]) M') : C PP w0 Id.order_Least #[SV.v s] R M := by
  apply order_Least.go
  intro pts H
  unfold order_Least.T
  have hn : s.n = l.length := by have := hs.len; rw [flatE_len] at this; omega
  have key : ∀ (k i at_ : Nat) (M' : Mem), l.length < i + k → i ≤ l.length → (at_ < l.length ∨ l = []) → Mem.le M M' → leastL l = leastF l at_ (l.length - i) i → order_Least.L1 pts k s (at_ : Int) s ((s.n : Nat) : Int) (i : Int) M' := by
    intro k
    induction k with
    | zero => intro i at_ M' h1 h2; omega
    | succ k ih =>
      intro i at_ M' h1 h2 hat hle hL
      rw [H.L1]
      unfold order_Least.L1.T
      rw [bs_decide]
      split
      · have hi : i < l.length := by omega
        have hat' : at_ < l.length := by
          rcases hat with h | h
          · exact h
          · subst h; simp at hi
        obtain ⟨p, ep⟩ : ∃ p, l[i]? = some p := ⟨l[i], List.getElem?_eq_getElem hi⟩
        obtain ⟨q, eq⟩ : ∃ q, l[at_]? = some q := ⟨l[at_], List.getElem?_eq_getElem hat'⟩
        refine rdfA (cs := [p.1, p.2]) W.g40 hs hle i rfl (by omega) (by simp) (flatE_get ep) ?_
        simp only [List.map_cons, List.map_nil, shA_v, shCons_v, shI_v, shNil_v]
        intro b hb hw
        have f1 := (Fit.nil (w0 := w0) (Mem.le_refl M')).new hb hw (cs := [.int .i64 0, .int .i64 0]) (e := 40)
        refine st_agg (vs := [.int .i64 p.1, .int .i64 p.2]) W.g40 (f1.own List.mem_cons_self) (by simp) (by intro v hv; simp only [List.mem_cons, List.not_mem_nil, or_false] at hv; rcases hv with rfl | rfl <;> rfl) ?_
        have f2 := f1.upd (cs' := over [.int .i64 0, .int .i64 0] 0 [.int .i64 p.1, .int .i64 p.2]) (e' := 40)
        have o2 := f2.own List.mem_cons_self
        rw [ld_agg (cs := [.int .i64 p.1, .int .i64 p.2]) W.g40 (fun j v hj => by rw [add_eq, rd_own o2, Nat.zero_add]; exact hj)]
        simp only [ob_v, shA_v, shCons_v, shI_v, shNil_v]
        have hle2 := Mem.le_trans hle f2.fr
        refine rdfA (cs := [q.1, q.2]) W.g40 hs hle2 at_ rfl (by omega) (by simp) (flatE_get eq) ?_
        simp only [List.map_cons, List.map_nil, shA_v, shCons_v, shI_v, shNil_v]
        refine BefE_ok fun M3 l3 => ?_
        rw [shB_v, w64_in (by omega), bs_b]
        rw [show l.length - i = (l.length - (i + 1)) + 1 from by omega, leastF, ep, eq] at hL
        simp only at hL
        refine ⟨fun hb => ?_, fun hb => ?_⟩
        · rw [if_pos hb] at hL
          exact ih (i + 1) i M3 (by omega) (by omega) (.inl hi) (Mem.le_trans hle2 l3) hL
        · rw [if_neg (by simp [hb])] at hL
          exact ih (i + 1) at_ M3 (by omega) (by omega) hat (Mem.le_trans hle2 l3) hL
      · rw [show l.length - i = 0 from by omega] at hL
        have hh := h M' hle
        rw [hL] at hh
        rw [show decide (((s.n : Nat) : Int) > 0) = decide (0 < l.length) from by rw [decide_eq_decide]; omega]
        exact hh
  refine ⟨l.length + 1, key (l.length + 1) 0 0 M (by omega) (by omega) ?_ (Mem.le_refl _) rfl⟩
  cases l with
  | nil => exact .inr rfl
  | cons p l => exact .inl (by simp)

theorem known1_ok (h : ∀ M', Mem.le M M' → R (.bool true) M') : C PP w0 Id.thicketlaw1_known #[] R M := by
  apply thicketlaw1_known.go
  unfold thicketlaw1_known.T
  simp only [go_sem]
  refine bsl_e (cells := ((flatE [(5, 0), (2, 0)]).map fun n => Value.int .i64 n).toArray) Try.underlying36 W.e40 (by decide) (by kernel_rfl) fun b hb hw => ?_
  simp only [go_sem]
  have f1 := (Fit.nil (w0 := w0) (Mem.le_refl M)).new hb hw (cs := ((flatE [(5, 0), (2, 0)]).map fun n => Value.int .i64 n)) (e := 40)
  have hr : RdF w0 _ 2 ⟨some ⟨b, 0, none⟩, 2, 2⟩ (flatE [(5, 0), (2, 0)]) := ⟨rfl, Nat.le_refl _, (by show 2 ≤ 9223372036854775807; decide), fun j x hx => ⟨_, rfl, fun M' hM => by
    rw [add_eq, rd_own ((f1.own List.mem_cons_self).le hM)]; exact ints_get _ _ _ hx⟩, by decide⟩
  refine Least_ok hr (by decide) fun M2 l2 => ?_
  simp only [go_sem]
  refine Bits_ok (by unfold In64; omega) ?_
  simp only [go_sem, bs_beq]
  rw [if_pos (by decide)]
  refine order_Add_ok (by unfold In64; omega) (by unfold In64; omega) ?_
  simp only [go_sem, bs_beq]
  rw [if_pos (by decide)]
  refine order_Add_ok (by unfold In64; omega) (by unfold In64; omega) ?_
  simp only [go_sem, bs_beq]
  rw [if_pos (by decide), if_pos (by decide)]
  exact h _ (Mem.le_trans f1.fr l2)

theorem or_adds (hR : ∀ M, R (.bool true) M) {a b : Int} (ha : In64 a) (hb : In64 b) : C PP w0 Id.thicketlaw1_OrderAdds #[.int .i64 a, .int .i64 b] R M := by
  apply thicketlaw1_OrderAdds.go
  intro pts H
  unfold thicketlaw1_OrderAdds.T
  have hab : In64 a ∧ In64 b := ⟨ha, hb⟩
  have hj : thicketlaw1_OrderAdds.J1 pts a b M := by
    rw [H.J1]
    unfold thicketlaw1_OrderAdds.J1.T
    unfold In64 at ha hb
    have half : ∀ z : Int, -9223372036854775808 ≤ z → z ≤ 9223372036854775807 → -4611686018427387904 ≤ Int.tdiv z 2 ∧ Int.tdiv z 2 ≤ 4611686018427387903 := by
      intro z h1 h2
      have e := Int.mul_tdiv_add_tmod z 2
      have r1 := Int.tmod_lt_of_pos z (show (0 : Int) < 2 by decide)
      have r2 := Int.tmod_lt_of_pos (-z) (show (0 : Int) < 2 by decide)
      rw [Int.neg_tmod] at r2
      by_cases h0 : 0 ≤ z
      · have r3 := Int.tmod_nonneg 2 h0
        omega
      · omega
    have a1 := half a ha.1 ha.2
    have b1 := half b hb.1 hb.2
    generalize Int.tdiv a 2 = x at a1 ⊢
    generalize Int.tdiv b 2 = y at b1 ⊢
    refine ⟨rfl, by omega, rfl, by omega, ?_⟩
    rw [w64_in (n := x) (by omega), w64_in (n := y) (by omega), w64_in (n := x + y) (by omega)]
    refine order_Add_ok (by unfold In64; omega) (by unfold In64; omega) ?_
    have e : addc x y = x + y := by unfold addc; rw [if_neg (by omega), if_neg (by omega)]
    rw [shI_v, e, bs_beq, if_pos rfl]
    refine order_Add_ok hab.1 (by unfold In64; omega) ?_
    have e2 : addc a 0 = a := by unfold addc; rw [if_neg (by omega), if_neg (by omega)]; omega
    rw [shI_v, e2, bs_beq, if_pos rfl]
    refine known1_ok fun M' _ => ?_
    rw [shB_v]
    exact hR _
  refine order_Add_ok ha hb ?_
  rw [shI_v]
  refine order_Add_ok hb ha ?_
  rw [shI_v]
  have e : addc a b = addc b a := by unfold addc; rw [Int.add_comm]
  rw [← e, bs_bne, if_pos rfl]
  have h1 : 0 ≤ b → ¬ addc a b < a := by intro h; unfold In64 at ha hb; unfold addc; split <;> (try split) <;> omega
  have h2 : b ≤ 0 → ¬ addc a b > a := by intro h; unfold In64 at ha hb; unfold addc; split <;> (try split) <;> omega
  simp only [bs_decide]
  split
  · rename_i hb0
    rw [if_neg (h1 (by omega))]
    split
    · rename_i hb1
      rw [if_neg (h2 (by omega))]
      exact hj
    · exact hj
  · split
    · rename_i hb1
      rw [if_neg (h2 (by omega))]
      exact hj
    · exact hj

end
end Go.Proofs.Ytgnfbodlpolibaa.HL
