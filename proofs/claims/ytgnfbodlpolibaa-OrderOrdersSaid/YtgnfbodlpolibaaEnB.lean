/-
  EnB: entries before one another; rows of entries that are the same, that are copied; one entry more within a row, some fewer.
-/
import Derived.Test.YtgnfbodlpolibaaEnA
set_option linter.unusedVariables false
set_option linter.unusedSimpArgs false
set_option maxRecDepth 100000
namespace Go.Proofs.Ytgnfbodlpolibaa.HL
open Go.RowKit (Below)
open Go.Proofs

section
variable {w0 : World} {M M0 F : Mem} {R : Value → Mem → Prop}

theorem two_box {a0 a1 b0 b1 : Int} {K : Nat → Nat → Mem → Prop} (h : ∀ x1 x2 M', Mem.le M M' → (std PP w0).ld 40 ⟨x1, 0, none⟩ M' = some (.agg #[.int .i64 a0, .int .i64 a1]) → (std PP w0).ld 40 ⟨x2, 0, none⟩ M' = some (.agg #[.int .i64 b0, .int .i64 b1]) →
    rd w0 M' ⟨x1, 0, none⟩ = some (.int .i64 a0) → rd w0 M' ⟨x1, 1, none⟩ = some (.int .i64 a1) → rd w0 M' ⟨x2, 0, none⟩ = some (.int .i64 b0) → rd w0 M' ⟨x2, 1, none⟩ = some (.int .i64 b1) → Own w0 M' x1 [.int .i64 a0, .int .i64 a1] 40 → Own w0 M' x2 [.int .i64 b0, .int .i64 b1] 40 → K x1 x2 M') :
    (std PP w0).nw [.int .i64 a0, .int .i64 a1] 40 (fun b1' M2 => (std PP w0).nw [.int .i64 b0, .int .i64 b1] 40 (fun b3 M4 => K b1' b3 M4) M2) M := by
  intro x1 hx1 hw1
  intro x2 hx2 hw2
  have f1 := ((Fit.nil (w0 := w0) (Mem.le_refl M)).new hx1 hw1 (cs := [.int .i64 a0, .int .i64 a1]) (e := 40)).new hx2 hw2 (cs := [.int .i64 b0, .int .i64 b1]) (e := 40)
  have o2 := f1.own List.mem_cons_self
  have o1 := f1.own (List.mem_cons_of_mem _ List.mem_cons_self)
  refine h x1 x2 _ f1.fr ?_ ?_ (rd_own (o := 0) o1) (rd_own (o := 1) o1) (rd_own (o := 0) o2) (rd_own (o := 1) o2) o1 o2
  · exact ld_agg (cs := [.int .i64 a0, .int .i64 a1]) W.g40 (fun j v hj => by rw [add_eq, rd_own o1, Nat.zero_add]; exact hj)
  · exact ld_agg (cs := [.int .i64 b0, .int .i64 b1]) W.g40 (fun j v hj => by rw [add_eq, rd_own o2, Nat.zero_add]; exact hj)

theorem Before_ok {a b : Ent} (h : ∀ M', Mem.le M M' → R (.bool (decide (Lt a b))) M') : C PP w0 Id.order_Before #[.agg #[.int .i64 a.1, .int .i64 a.2], .agg #[.int .i64 b.1, .int .i64 b.2]] R M := by
  apply order_Before.go
  unfold order_Before.T
  refine two_box fun x1 x2 M1 l1 e1 e2 r1 r2 r3 r4 o1 o2 => ?_
  rw [e1]
  simp only [ob_v, shA_v, shCons_v, shI_v, shNil_v]
  rw [e2]
  simp only [ob_v, shA_v, shCons_v, shI_v, shNil_v]
  refine Compare_ok fun M2 l2 => ?_
  rw [shI_v]
  have := h M2 (Mem.le_trans l1 l2)
  simp only [cmpI_lt]
  exact this

theorem rBefore_ok {a b : Ent} (h : ∀ M', Mem.le M M' → R (.bool (decide (Lt a b))) M') : C PP w0 Id.thicketref1_Before #[.agg #[.int .i64 a.1, .int .i64 a.2], .agg #[.int .i64 b.1, .int .i64 b.2]] R M := by
  apply thicketref1_Before.go
  unfold thicketref1_Before.T
  refine two_box fun x1 x2 M1 l1 e1 e2 r1 r2 r3 r4 o1 o2 => ?_
  have hh := h M1 l1
  have g : ∀ b1 : Bool, b1 = decide (Lt a b) → R (.bool b1) M1 := fun b1 e => by rw [e]; exact hh
  simp only [go_sem, add_eq, Nat.zero_add, r1, r2, r3, r4, bs_decide]
  split
  · rename_i h1
    exact g true (decide_eq_true (Or.inl h1)).symm
  · rename_i h1
    rw [bs_beq]
    split
    · rename_i h2
      refine g _ ?_
      by_cases h3 : a.2 < b.2
      · rw [decide_eq_true h3]; exact (decide_eq_true (show Lt a b from Or.inr ⟨h2, h3⟩)).symm
      · rw [decide_eq_false h3]; exact (decide_eq_false (show ¬ Lt a b from fun h4 => by unfold Lt at h4; omega)).symm
    · rename_i h2
      exact g false (decide_eq_false (by unfold Lt; omega)).symm

theorem eq_ent (a b : Ent) : (a.1 == b.1 && a.2 == b.2) = decide (a = b) := by
  by_cases h : a = b
  · subst h; simp
  · rw [decide_eq_false h]
    by_cases h1 : a.1 = b.1
    · have : a.2 ≠ b.2 := fun h2 => h (Prod.ext h1 h2)
      simp [h1, this]
    · simp [h1]

theorem SameE_ok {s t : SV} {l m : List Ent} (hs : RdE w0 M s l) (ht : RdE w0 M t m) (hb : l.length ≤ 1000000) (h : R (.bool (decide (l = m))) M) : C PP w0 Id.thicketbook_Sameapi_Entry #[SV.v s, SV.v t] R M := by
  apply thicketbook_Sameapi_Entry.go
  intro pts H
  unfold thicketbook_Sameapi_Entry.T
  have h1 := hs.len
  have h2 := ht.len
  rw [bs_bne]
  split
  · rename_i hn
    have hlen : l.length = m.length := by omega
    have key : ∀ (k i : Nat), l.length < i + k → i ≤ l.length → (∀ j, j < i → l[j]? = m[j]?) → thicketbook_Sameapi_Entry.L1 pts k s t (i : Int) M := by
      intro k
      induction k with
      | zero => intro i g1 g2; omega
      | succ k ih =>
        intro i g1 g2 hpre
        rw [H.L1]
        unfold thicketbook_Sameapi_Entry.L1.T
        rw [bs_decide]
        split
        · have hi : i < l.length := by omega
          have ex := List.getElem?_eq_getElem hi
          have ey := List.getElem?_eq_getElem (show i < m.length by omega)
          refine rdE hs (Mem.le_refl _) i rfl ex ?_
          refine rdE ht (Mem.le_refl _) i rfl ey ?_
          rw [neE, eq_ent, ob_v, shB_v]
          by_cases e : l[i] = m[i]
          · rw [decide_eq_true e, Bool.not_true, bs_false, w64_in (by omega)]
            refine ih (i + 1) (by omega) (by omega) fun j hj => ?_
            by_cases e2 : j = i
            · subst e2; rw [ex, ey, e]
            · exact hpre j (by omega)
          · rw [decide_eq_false e, Bool.not_false, bs_true]
            have : ¬ l = m := fun e2 => e (by subst e2; rfl)
            rw [decide_eq_false this] at h; exact h
        · have : i = l.length := by omega
          subst this
          have : l = m := by
            apply List.ext_getElem?
            intro j
            by_cases hj : j < l.length
            · exact hpre j hj
            · rw [List.getElem?_eq_none (by omega), List.getElem?_eq_none (by omega)]
          rw [decide_eq_true this] at h; exact h
    exact ⟨l.length + 1, key (l.length + 1) 0 (by omega) (by omega) (fun j hj => by omega)⟩
  · rename_i hn
    have : ¬ l = m := fun e => by subst e; omega
    rw [decide_eq_false this] at h; exact h

theorem CloneE_ok {s : SV} {l : List Ent} {Q : Asn} (hQ : Holds w0 F M Q) (hs : RdE w0 M s l) (hb : l.length ≤ 1000000) (h : ∀ M' s', Holds w0 F M' (star (Es s' l) Q) → R s'.v M') : C PP w0 Id.slices_Cloneapi_Entry_api_Entry #[SV.v s] R M := by
  apply slices_Cloneapi_Entry_api_Entry.go
  unfold slices_Cloneapi_Entry_api_Entry.T
  rw [W.eqs36, ob_v, shB_v, bs_b]
  refine ⟨fun hn => ?_, fun hn => ?_⟩
  · have hn0 : s.a = none := by cases ha : s.a with
      | none => rfl
      | some a => rw [ha] at hn; cases hn
    have : l = [] := List.eq_nil_of_length_eq_zero (by have := hs.nul hn0; have := hs.len; omega)
    subst this
    exact h M ⟨none, 0, 0⟩ (Holds.nilSlk hQ)
  · refine newE0 hQ fun M1 s1 l1 hne h1 => ?_
    rw [shS_sv]
    refine appE h1 (hs.le l1) (by simp; omega) fun M2 s2 h2 => ?_
    rw [shS_sv]
    exact h M2 s2 h2

/-- Cells that are copied into one's own. -/
theorem cpyK {d x : SV} {L news : List Value} {Q : Asn} (h : Holds w0 F M (star (SlKA 2 d L) Q)) {lo : Nat} (hlo : lo ≤ d.n) (n : Nat) (en : n = min x.n (d.n - lo)) (hn : news.length = n * 2) (hcn : Cells w0 M x.a news) (hnn : x.a = none → n = 0) (hone : ∀ v ∈ news, onecell v = true)
    {K : Value → Mem → Prop} (hK : ∀ M', Holds w0 F M' (star (SlKA 2 d (over L (lo * 2) news)) Q) → K (.int .i64 (n : Int)) M') : (std PP w0).cpy #[36, 36] 3 [SV.v (d.cut lo d.n), SV.v x] K M := by
  obtain ⟨inf, hi, hz, hsz, _⟩ := W.e40
  have hh := h
  obtain ⟨r, ⟨r1, r2, rfl, h1, h2⟩, h3⟩ := h
  rcases h1 with ⟨rfl, rfl, rfl⟩ | ⟨b, rest, e, ha, hl, hl2, rfl⟩
  · refine cpy_ok Try.underlying36 hi n en (by rw [hsz]; exact hn) hcn hnn (fun _ => ?_) (fun a e => ?_)
    · have : news = [] := List.eq_nil_of_length_eq_zero (by
        simp at en; rw [hn, en]; )
      subst this
      exact hK M hh
    · simp only [SV.cut] at e
      split at e <;> simp at e
  · by_cases hlt : n = 0
    · have : news = [] := List.eq_nil_of_length_eq_zero (by rw [hn, hlt])
      subst this
      refine cpy_ok (news := []) Try.underlying36 hi n en (by rw [hsz]; exact hn) hcn hnn (fun _ => hK M hh) (fun a e1 => ?_)
      simp only [SV.cut, ha] at e1
      have hrow := h3.own List.mem_cons_self
      have hset : M.set b (.row (L ++ rest) e) = M := by
        funext x
        by_cases hx : x = b
        · subst hx; simp only [Mem.set, if_true]; exact hrow.2.symm
        · simp only [Mem.set, if_neg hx]
      split at e1
      · simp only [Option.some.injEq] at e1
        subst e1
        refine ⟨b, 0, _, _, rfl, hrow, by simp, by simp, ?_⟩
        rw [show over (L ++ rest) 0 [] = L ++ rest from rfl, hset]
        exact hK M hh
      · simp only [Option.map_some, Option.some.injEq] at e1
        subst e1
        rw [add_eq]
        refine ⟨b, _, _, _, rfl, hrow, ?_, by simp, ?_⟩
        · rw [List.length_append, List.length_nil]; omega
        · rw [show over (L ++ rest) (0 + lo * 2) [] = L ++ rest from rfl, hset]
          exact hK M hh
    · refine cpy_ok Try.underlying36 hi n en (by rw [hsz]; exact hn) hcn hnn (fun e1 => ?_) (fun a e1 => ?_)
      · simp only [SV.cut, ha] at e1
        split at e1 <;> simp at e1
      · simp only [SV.cut, ha] at e1
        have hcap : lo < d.c := by omega
        rw [if_neg (by omega)] at e1
        simp only [Option.map_some, Option.some.injEq] at e1
        subst e1
        rw [add_eq, Nat.zero_add]
        refine ⟨b, lo * 2, _, _, rfl, h3.own List.mem_cons_self, by rw [List.length_append]; omega, hone, ?_⟩
        refine hK _ ⟨_, ⟨_, r2, rfl, .inr ⟨b, rest, e, ha, by rw [over_length]; exact hl, by rw [over_length]; exact hl2, rfl⟩, h2⟩, ?_⟩
        have hov : over (L ++ rest) (lo * 2) news = over L (lo * 2) news ++ rest := by
          have h4 : L = L.take (lo * 2) ++ (((L.drop (lo * 2)).take news.length) ++ (L.drop (lo * 2)).drop news.length) := by rw [List.take_append_drop, List.take_append_drop]
          have hlen : ((L.drop (lo * 2)).take news.length).length = news.length := by rw [List.length_take, List.length_drop]; omega
          have htk : lo * 2 = (L.take (lo * 2)).length := by rw [List.length_take]; omega
          have g1 := over_mid (L.take (lo * 2)) ((L.drop (lo * 2)).take news.length) ((L.drop (lo * 2)).drop news.length) news hlen.symm htk
          have g2 := over_mid (L.take (lo * 2)) ((L.drop (lo * 2)).take news.length) ((L.drop (lo * 2)).drop news.length ++ rest) news hlen.symm htk
          rw [← h4] at g1
          rw [← List.append_assoc ((L.drop (lo * 2)).take news.length), ← List.append_assoc (L.take (lo * 2)), ← h4] at g2
          rw [g1, g2]; simp
        rw [hov]
        exact h3.upd

theorem SlKA.shrink {s : SV} {A B : List Value} {n : Nat} {r : Rws} (h : SlKA 2 s (A ++ B) r) (hA : A.length = n * 2) (hs : s.a ≠ none) : SlKA 2 ⟨s.a, n, s.c⟩ A r := by
  rcases h with ⟨rfl, _⟩ | ⟨b, rest, e, ha, hl, hl2, rfl⟩
  · exact absurd rfl hs
  · refine .inr ⟨b, B ++ rest, e, ha, hA, ?_, by simp⟩
    show A.length + (B ++ rest).length = s.c * 2
    rw [List.length_append] at hl hl2 ⊢; omega
theorem SlKA.grow {s : SV} {A : List Value} {n : Nat} {r : Rws} (h : SlKA 2 s A r) (hn : s.n ≤ n) (hc : n ≤ s.c) (hs : s.a ≠ none) : ∃ B, (A ++ B).length = n * 2 ∧ SlKA 2 ⟨s.a, n, s.c⟩ (A ++ B) r := by
  rcases h with ⟨rfl, _⟩ | ⟨b, rest, e, ha, hl, hl2, rfl⟩
  · exact absurd rfl hs
  · have hlen : (A ++ rest.take ((n - s.n) * 2)).length = n * 2 := by rw [List.length_append, List.length_take]; omega
    exact ⟨rest.take ((n - s.n) * 2), hlen, .inr ⟨b, rest.drop ((n - s.n) * 2), e, ha, hlen, by rw [hlen, List.length_drop]; show n * 2 + _ = s.c * 2; omega, by rw [List.append_assoc, List.take_append_drop]⟩⟩
theorem Holds.map1 {A B Q : Asn} (h : Holds w0 F M (star A Q)) (hi : ∀ r, A r → B r) : Holds w0 F M (star B Q) :=
  h.imp fun r ⟨r1, r2, e, h1, h2⟩ => ⟨r1, r2, e, hi _ h1, h2⟩
end
end Go.Proofs.Ytgnfbodlpolibaa.HL
