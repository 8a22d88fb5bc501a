/-
  DigB: the counter: what each call does, and what it leaves as it was; the laws on digits.
-/
import Derived.Test.YtkibecgakkhljaaDigA
set_option linter.unusedVariables false
set_option linter.unusedSimpArgs false
set_option maxRecDepth 100000
namespace Go.Proofs.Ytkibecgakkhljaa.HL

open Go.RowKit (Below)
open Go.Proofs
open Dig

section
variable {w0 : World} {M M0 F : Mem}

/-- A counter in block b; F is what else is known. -/
def Ctr (w0 : World) (F M : Mem) (b : Nat) (l : List Int) (c : Int) : Prop :=
  ∃ s : SV, Own w0 M b [s.v, .int .i64 c] 62 ∧ F b = none ∧ Mem.le F M ∧ Mem.le (F.set b (.row [s.v, .int .i64 c] 62)) M ∧ Sl w0 (F.set b (.row [s.v, .int .i64 c] 62)) M s (l.map (Value.int .i64))

theorem Ctr.mk {b : Nat} {s : SV} {l : List Int} {c : Int} (h1 : Own w0 M b [s.v, .int .i64 c] 62) (h2 : F b = none) (h3 : Mem.le F M) (h4 : ∀ bs, s.a = some bs → F bs.block = none ∧ bs.block ≠ b) (hs : ∃ M1, Sl w0 M1 M s (l.map (Value.int .i64))) : Ctr w0 F M b l c := by
  refine ⟨s, h1, h2, h3, ?_, ?_⟩
  · intro x o hx
    by_cases e : x = b
    · subst e; rw [Mem.set_same] at hx; rw [h1.2]; exact hx
    · rw [Mem.set_ne _ _ e] at hx; exact h3 x o hx
  · obtain ⟨M1, hs⟩ := hs
    rcases hs with hs | ⟨b', rest, e, rfl, h5, ho⟩
    · exact .inl hs
    · obtain ⟨h6, h7⟩ := h4 _ rfl
      exact .inr ⟨b', rest, e, rfl, by rw [Mem.set_ne _ _ h7]; exact h6, ho⟩
theorem Ctr.le {M' : Mem} {b : Nat} {l : List Int} {c : Int} (h : Ctr w0 F M b l c) (hl : Mem.le M M') : Ctr w0 F M' b l c := by
  obtain ⟨s, h1, h2, h3, h4, h5⟩ := h
  exact ⟨s, h1.le hl, h2, Mem.le_trans h3 hl, Mem.le_trans h4 hl, h5.le hl⟩
theorem Sl.base {M1 : Mem} {s : SV} {l : List Value} {b : Nat} {o : Ob} {M2 : Mem} (h : Sl w0 M1 M s l) (hb : M1 b = some o) : ∀ bs, s.a = some bs → M1 bs.block = Option.none ∧ bs.block ≠ b := by
  intro bs hs
  rcases h with ⟨rfl, _⟩ | ⟨b', rest, e, rfl, h5, ho⟩
  · cases hs
  · cases hs
    exact ⟨h5, fun e => by subst e; rw [h5] at hb; cases hb⟩
theorem set_none {b x : Nat} {o : Ob} (h : (F.set b o) x = none) : F x = none ∧ x ≠ b := by
  by_cases e : x = b
  · subst e; rw [Mem.set_same] at h; cases h
  · rw [Mem.set_ne _ _ e] at h; exact ⟨h, e⟩

/-- What is new is known from then on. -/
theorem Ctr.keep {M' : Mem} {b : Nat} {l : List Int} {c : Int} {s : SV} {m : List Int} (h : Ctr w0 F M b l c) (hl : Mem.le M M') (hs : Sl w0 M M' s (m.map (Value.int .i64))) (hw : ∀ n ∈ m, (Lit.int .i64 n).wf = true) (hm : m.length ≤ 100000) :
    ∃ F', Ctr w0 F' M' b l c ∧ RdI w0 F' .i64 s m := by
  obtain ⟨sc, h1, h2, h3, h4, h5⟩ := h.le hl
  have hb0 : M b ≠ none := by obtain ⟨_, h1, _⟩ := h; rw [h1.2]; simp
  rcases hs with ⟨rfl, hm0⟩ | ⟨b', rest, e, rfl, h6, ho⟩
  · have : m = [] := by simpa using hm0
    subst this
    refine ⟨(fun _ => Option.none : Mem), ?_, RdI.nil⟩
    exact Ctr.mk h1 rfl (fun x o hx => by cases hx) (fun bs hbs => ⟨rfl, (Sl.base (M2 := M) h5 (Mem.set_same _ _ _) bs hbs).2⟩) ⟨_, h5⟩
  · have hbb : b ≠ b' := fun e => by subst e; exact hb0 h6
    refine ⟨Mem.set (fun _ => Option.none : Mem) b' (.row (m.map (Value.int .i64) ++ rest) e), ?_, ?_⟩
    · refine Ctr.mk h1 (by rw [Mem.set_ne _ _ hbb]) ?_ (fun bs hbs => ?_) ⟨_, h5⟩
      · intro x o hx
        by_cases e : x = b'
        · subst e; rw [Mem.set_same] at hx; rw [ho.2]; exact hx
        · rw [Mem.set_ne _ _ e] at hx; cases hx
      · refine ⟨?_, (Sl.base (M2 := M) h5 (Mem.set_same _ _ _) bs hbs).2⟩
        have hne : bs.block ≠ b' := by
          obtain ⟨s0, g1, g2, g3, g4, g5⟩ := h
          have e1 : s0 = sc := by
            have := g1.2; have h1' := h1.2
            rw [hl _ _ this] at h1'
            injection h1' with h1'
            injection h1' with h1' _
            injection h1' with h1' _
            unfold SV.v at h1'
            cases s0; cases sc; simp at h1'; simp [h1']
          subst e1
          rcases g5 with ⟨rfl, _⟩ | ⟨b2, rest2, e2, rfl, _, g6⟩
          · cases hbs
          · cases hbs
            exact fun e => by simp only at e; subst e; rw [g6.2] at h6; cases h6
        rw [Mem.set_ne _ _ hne]
    · have hOwn : Own w0 (Mem.set (fun _ => Option.none : Mem) b' (.row (m.map (Value.int .i64) ++ rest) e)) b' (m.map (Value.int .i64) ++ rest) e := ⟨ho.1, Mem.set_same _ _ _⟩
      refine RdI.own hOwn (by simp) (by simp) (fun j x hx => ?_) hw (by omega)
      have hj := (List.getElem?_eq_some_iff.1 hx).1
      rw [Nat.zero_add, List.getElem?_append_left (by simpa using hj), List.getElem?_map, hx]; rfl

/-! The counter's calls. -/
section
variable {b : Nat} {l : List Int} {c : Int}

theorem ctr_l (h : Ctr w0 F M b l c) : ∃ s : SV, rd w0 M ⟨b, 0, Option.none⟩ = some s.v ∧ rd w0 M ⟨b, 1, Option.none⟩ = some (.int .i64 c) ∧ Sl w0 (F.set b (.row [s.v, .int .i64 c] 62)) M s (l.map (Value.int .i64)) ∧ Own w0 M b [s.v, .int .i64 c] 62 := by
  obtain ⟨s, h1, h2, h3, h4, h5⟩ := h
  exact ⟨s, by rw [rd_own h1]; rfl, by rw [rd_own h1]; rfl, h5, h1⟩

theorem New_ok {R : Value → Mem → Prop} (h : ∀ M' b, Mem.le M M' → Ctr w0 (fun _ => Option.none) M' b [] 0 → R (.pointer (some ⟨b, 0, Option.none⟩)) M') : C PP w0 Id.digits_New #[] R M := by
  apply digits_New.go
  unfold digits_New.T
  simp only [go_sem]
  refine fun b h1 h2 => ?_
  refine h _ b (Mem.le_set _ h1) (Ctr.mk (s := ⟨Option.none, 0, 0⟩) (Own.new h2) rfl (fun x o hx => by cases hx) (fun bs hbs => by cases hbs) ⟨M, Sl.nil⟩)

theorem All_ok {R : Value → Mem → Prop} (hc : Ctr w0 F M b l c) (hw : ∀ n ∈ l, (Lit.int .i64 n).wf = true) (hm : l.length ≤ 100000) (h : ∀ M' s', Mem.le M M' → RdI w0 M' .i64 s' l → R s'.v M') : C PP w0 Id.digits_Counter_All #[.pointer (some ⟨b, 0, Option.none⟩)] R M := by
  apply digits_Counter_All.go
  unfold digits_Counter_All.T
  obtain ⟨s, e1, e2, hs, ho⟩ := ctr_l hc
  simp only [go_sem, e1]
  refine Clone_ok (hs.rdI hw (by omega)) (by omega) fun M' s' h1 h2 => ?_
  simp only [go_sem]
  exact h M' s' h1 h2

theorem CValue_ok {R : Value → Mem → Prop} (hc : Ctr w0 F M b l c) (hw : ∀ n ∈ l, (Lit.int .i64 n).wf = true) (hm : l.length ≤ 100000) (h : R (.int .i64 (valO l)) M) : C PP w0 Id.digits_Counter_Value #[.pointer (some ⟨b, 0, Option.none⟩)] R M := by
  apply digits_Counter_Value.go
  unfold digits_Counter_Value.T
  obtain ⟨s, e1, e2, hs, ho⟩ := ctr_l hc
  simp only [go_sem, e1]
  refine digValue_ok (hs.rdI hw (by omega)) ?_
  simp only [go_sem]
  exact h

theorem Carries_ok {R : Value → Mem → Prop} (hc : Ctr w0 F M b l c) (h : R (.int .i64 c) M) : C PP w0 Id.digits_Counter_Carries #[.pointer (some ⟨b, 0, Option.none⟩)] R M := by
  apply digits_Counter_Carries.go
  unfold digits_Counter_Carries.T
  obtain ⟨s, e1, e2, hs, ho⟩ := ctr_l hc
  simp only [go_sem, add_eq, Nat.zero_add, e2]
  exact h

theorem own_of {M' : Mem} {o : Ob} {cs : List Value} {e : TypeId} (h : Own w0 M b cs e) (hl : Mem.le (F.set b (.row cs e)) M') : Own w0 M' b cs e := ⟨h.1, hl _ _ (Mem.set_same _ _ _)⟩

theorem Inc14_ok {R : Value → Mem → Prop} (hc : Ctr w0 F M b l c) (hl : l.length ≤ 30) (hd : ∀ x ∈ l, 0 ≤ x ∧ x ≤ 2) (hc0 : 0 ≤ c) (hc1 : c ≤ 1000000)
    (h : ∀ M', Ctr w0 F M' b (incD l) (c + carD l) → R (.tuple #[.int .i64 (carD l), .bool true]) M') : C PP w0 Id.digits_Counter_Inc #[.pointer (some ⟨b, 0, Option.none⟩)] R M := by
  apply digits_Counter_Inc.go
  intro pts H
  unfold digits_Counter_Inc.T
  obtain ⟨s, hOwn, hF, hFM, hle, hs⟩ := hc
  have hset : ∀ (s' : SV) (c' : Int) (M' : Mem), (∀ bs, s'.a = some bs → F bs.block = Option.none ∧ bs.block ≠ b) → Own w0 M' b [s'.v, .int .i64 c'] 62 → Mem.le F M' → Mem.le (F.set b (.row [s'.v, .int .i64 c'] 62)) M' := by
    intro s' c' M' _ ho hF' x o hx
    by_cases e : x = b
    · subst e; rw [Mem.set_same] at hx; rw [ho.2]; exact hx
    · rw [Mem.set_ne _ _ e] at hx; exact hF' x o hx
  -- the end: what is lowest is counted up
  have three : ∀ (m : List Int) (n : Int) (M' : Mem) (s' : SV) (B : Mem), B = F.set b (.row [s'.v, .int .i64 c] 62) → bump m = incD l → n = carD l → m ≠ [] → m.length ≤ 100 → (∀ n ∈ m, -10 ≤ n ∧ n ≤ 10) → Mem.le B M' → Sl w0 B M' s' (m.map (Value.int .i64)) →
      w0.heap.size ≤ b → digits_Counter_Inc.J3 pts (some ⟨b, 0, Option.none⟩) n M' := by
    intro m n M' s' B hB hm hn hne h100 hw hle hsl hb0
    rw [H.J3]
    unfold digits_Counter_Inc.J3.T
    have ho : Own w0 M' b [s'.v, .int .i64 c] 62 := ⟨hb0, hle _ _ (by rw [hB]; exact Mem.set_same _ _ _)⟩
    have hwm : ∀ n ∈ m, (Lit.int .i64 n).wf = true := wf_all fun x hx => by have := hw x hx; unfold In64; omega
    have e1 : rd w0 M' ⟨b, 0, Option.none⟩ = some s'.v := by rw [rd_own ho]; rfl
    simp only [go_sem, e1]
    have hp : 0 < m.length := List.length_pos_iff.2 hne
    have x0 := List.getElem?_eq_getElem hp
    have hb := hw _ (List.getElem_mem hp)
    generalize m[0] = x at x0 hb
    refine rdy (hsl.rdI hwm (by omega)) (Mem.le_refl _) 0 (by rfl) x0 ?_
    refine stx W.c3 hsl hle 0 (by rfl) (by simpa using hp) rfl rfl fun M1 h3 h4 => ?_
    rw [w64_in (by omega), ← List.map_set, bump_set x0, hm] at h4
    have ho1 : Own w0 M1 b [s'.v, .int .i64 c] 62 := ⟨hb0, h3 _ _ (by rw [hB]; exact Mem.set_same _ _ _)⟩
    have e2 : rd w0 M1 ⟨b, 1, Option.none⟩ = some (.int .i64 c) := by rw [rd_own ho1]; rfl
    simp only [add_eq, Nat.zero_add, e2, ob_v, shI_v]
    have hcar : carD l ≤ 1 ∧ 0 ≤ carD l := by unfold carD; split <;> omega
    subst hn
    rw [w64_in (by omega)]
    refine st_one W.c3 ho1 (by simp) rfl rfl ?_
    refine h _ ?_
    have hcells : ([s'.v, .int .i64 c].set 1 (.int .i64 (c + carD l)) : List Value) = [s'.v, .int .i64 (c + carD l)] := rfl
    rw [hcells]
    have hbase := Sl.base (M2 := M) h4 (b := b) (by rw [hB]; exact Mem.set_same _ _ _)
    refine Ctr.mk (s := s') (Own.upd ho1) hF ?_ (fun bs hbs => ?_) ⟨B, ?_⟩
    · intro y o hy
      have hyb : y ≠ b := fun e => by subst e; rw [hF] at hy; cases hy
      rw [Mem.set_ne _ _ hyb]
      exact h3 _ _ (by rw [hB, Mem.set_ne _ _ hyb]; exact hy)
    · obtain ⟨g1, g2⟩ := hbase bs hbs
      rw [hB] at g1
      exact set_none g1
    · rcases h4 with h4 | ⟨b', rest, e, rfl, h5, ho'⟩
      · exact .inl h4
      · refine .inr ⟨b', rest, e, rfl, h5, ho'.set ?_⟩
        have := (hbase _ rfl).2
        exact this
  have hd10 : ∀ n ∈ l, -10 ≤ n ∧ n ≤ 10 := fun n hn => by have := hd n hn; omega
  have hwl : ∀ n ∈ l, (Lit.int .i64 n).wf = true := wf_all fun x hx => by have := hd10 x hx; unfold In64; omega
  have e1 : rd w0 M ⟨b, 0, Option.none⟩ = some s.v := by rw [rd_own hOwn]; rfl
  have hlen := hs.len
  simp only [List.length_map] at hlen
  -- with what has been carried
  have one : ∀ (m : List Int) (n : Int) (M' : Mem) (s' : SV) (B : Mem), B = F.set b (.row [s'.v, .int .i64 c] 62) → bump m = incD l → n = carD l → m.length ≤ 90 → (∀ n ∈ m, -10 ≤ n ∧ n ≤ 10) → Mem.le B M' → Sl w0 B M' s' (m.map (Value.int .i64)) →
      w0.heap.size ≤ b → digits_Counter_Inc.J1 pts (some ⟨b, 0, Option.none⟩) n M' := by
    intro m n M' s' B hB hm hn h90 hw hle hsl hb0
    rw [H.J1]
    unfold digits_Counter_Inc.J1.T
    have ho : Own w0 M' b [s'.v, .int .i64 c] 62 := ⟨hb0, hle _ _ (by rw [hB]; exact Mem.set_same _ _ _)⟩
    have e1 : rd w0 M' ⟨b, 0, Option.none⟩ = some s'.v := by rw [rd_own ho]; rfl
    have hlen' := hsl.len
    simp only [List.length_map] at hlen'
    simp only [go_sem, e1, bs_beq]
    split
    · have hm0 : m = [] := List.eq_nil_of_length_eq_zero (by omega)
      subst hm0
      refine bsl_ints (k := .i64) (l := [0]) hle Try.underlying34 W.e3 (n := 1) (by decide) (by kernel_rfl) rfl fun M1 o h3 h4 h5 => ?_
      simp only [go_sem]
      have ho1 := ho.le h4
      refine st_one W.c34 ho1 (by simp) rfl rfl ?_
      have hbase := Sl.base (M2 := M) h5 (b := b) (by rw [hB]; exact Mem.set_same _ _ _)
      have hFM1 : Mem.le F M1 := fun y q hy => by
        have hyb : y ≠ b := fun e => by subst e; rw [hF] at hy; cases hy
        exact h3 _ _ (by rw [hB, Mem.set_ne _ _ hyb]; exact hy)
      have hcells : ([s'.v, .int .i64 c].set 0 o.v : List Value) = [o.v, .int .i64 c] := rfl
      rw [hcells]
      obtain ⟨s9, k1, k2, k3, k4, k5⟩ := Ctr.mk (w0 := w0) (F := F) (s := o) (l := [0]) (c := c) (M := M1.set b (.row [o.v, .int .i64 c] 62)) (Own.upd ho1) hF (fun y q hy => by
          have hyb : y ≠ b := fun e => by subst e; rw [hF] at hy; cases hy
          rw [Mem.set_ne _ _ hyb]; exact hFM1 y q hy) (fun bs hbs => by
          obtain ⟨g1, g2⟩ := hbase bs hbs
          rw [hB] at g1
          exact set_none g1) ⟨B, by
          rcases h5 with h5 | ⟨b', rest, e, rfl, h6, ho'⟩
          · exact .inl h5
          · exact .inr ⟨b', rest, e, rfl, h6, ho'.set (hbase _ rfl).2⟩⟩
      have hs9 : s9 = o := by
        have := k1.2; rw [Mem.set_same] at this
        injection this with this
        injection this with this _
        injection this with this _
        unfold SV.v at this
        cases s9; cases o; simp at this; simp [this]
      subst hs9
      exact three [0] n _ s9 _ rfl (by rw [← hm]; rfl) hn (by simp) (by simp) (by simp) k4 k5 hb0
    · exact three m n M' s' B hB hm hn (fun e => by subst e; simp at hlen'; omega) (by omega) hw hle hsl hb0
  simp only [go_sem, e1]
  refine Index_ok (hs.rdI hwl (by omega)) (fun i hi hok => ?_) (fun hno => ?_)
  · have hfix := fix_at l i hi hok
    have hcar : carD l = 1 := by unfold carD; rw [hfix]; rfl
    have hinc : incD l = bump (l.take i ++ 0 :: bump (l.drop (i + 1))) := by unfold incD; rw [hfix]
    have hil := (List.getElem?_eq_some_iff.1 hi).1
    simp only [go_sem, bs_decide, bs_beq, e1]
    rw [if_pos (by omega), w64_in (n := (i : Int) + 1) (by omega), if_neg (by omega)]
    refine stx W.c3 hs hle i rfl (by simpa using hil) rfl rfl fun M1 h1 h2 => ?_
    have ho1 : Own w0 M1 b [s.v, .int .i64 c] 62 := ⟨hOwn.1, h1 _ _ (Mem.set_same _ _ _)⟩
    have e2 : rd w0 M1 ⟨b, 0, Option.none⟩ = some s.v := by rw [rd_own ho1]; rfl
    rw [← List.map_set] at h2
    simp only [e2, ob_v, shS_sv]
    have hw2 : ∀ n ∈ l.set i 0, -5 ≤ n ∧ n ≤ 5 := fun n hn => by
      rcases List.mem_or_eq_of_mem_set hn with hn | rfl
      · have := hd n hn; omega
      · omega
    have two : ∀ (m : List Int) (y : Int) (M' : Mem) (s' : SV) (B : Mem), B = F.set b (.row [s'.v, .int .i64 c] 62) → m[i + 1]? = some y → -5 ≤ y → y ≤ 5 → m.set (i + 1) (y + 1) = l.take i ++ 0 :: bump (l.drop (i + 1)) → m.length ≤ 80 → (∀ n ∈ m, -5 ≤ n ∧ n ≤ 5) → Mem.le B M' → Sl w0 B M' s' (m.map (Value.int .i64)) →
        digits_Counter_Inc.J2 pts (some ⟨b, 0, Option.none⟩) (i : Int) M' := by
      intro m y M' s' B hB hy hy1 hy2 hm h80 hw hle' hsl
      rw [H.J2]
      unfold digits_Counter_Inc.J2.T
      have ho : Own w0 M' b [s'.v, .int .i64 c] 62 := ⟨hOwn.1, hle' _ _ (by rw [hB]; exact Mem.set_same _ _ _)⟩
      have e1 : rd w0 M' ⟨b, 0, Option.none⟩ = some s'.v := by rw [rd_own ho]; rfl
      have hi1 := (List.getElem?_eq_some_iff.1 hy).1
      simp only [go_sem, e1]
      rw [w64_in (n := (i : Int) + 1) (by omega)]
      refine rdy (hsl.rdI (wf_all fun x hx => by have := hw x hx; unfold In64; omega) (by omega)) (Mem.le_refl _) (i + 1) (by omega) hy ?_
      refine stx W.c3 hsl hle' (i + 1) (by omega) (by simpa using hi1) rfl rfl fun M3 h7 h8 => ?_
      rw [← List.map_set, w64_in (by omega), hm] at h8
      refine one _ 1 M3 s' B hB hinc.symm hcar.symm ?_ ?_ h7 h8 hOwn.1
      · rw [← hm]; simp; omega
      · rw [← hm]
        intro n hn
        rcases List.mem_or_eq_of_mem_set hn with hn | rfl
        · have := hw n hn; omega
        · omega
    split
    · rename_i hend
      refine bsl_ints (k := .i64) (l := [0]) h1 Try.underlying34 W.e3 (n := 1) (by decide) (by kernel_rfl) rfl fun M3 o h7 h8 h9 => ?_
      simp only [go_sem]
      refine app_new Try.underlying34 W.e3 h7 (h2.le h8) h9 (by simp; omega) fun M4 o2 h10 h11 => ?_
      simp only [go_sem]
      have ho4 : Own w0 M4 b [s.v, .int .i64 c] 62 := ⟨hOwn.1, h10 _ _ (Mem.set_same _ _ _)⟩
      refine st_one W.c34 ho4 (by simp) rfl rfl ?_
      have hcells : ([s.v, .int .i64 c].set 0 o2.v : List Value) = [o2.v, .int .i64 c] := rfl
      rw [hcells]
      have hbase := Sl.base (M2 := M) h11 (b := b) (Mem.set_same _ _ _)
      obtain ⟨s9, k1, k2, k3, k4, k5⟩ := Ctr.mk (w0 := w0) (F := F) (s := o2) (l := l.set i 0 ++ [0]) (c := c) (M := M4.set b (.row [o2.v, .int .i64 c] 62)) (Own.upd ho4) hF (fun y q hy => by
          have hyb : y ≠ b := fun e => by subst e; rw [hF] at hy; cases hy
          rw [Mem.set_ne _ _ hyb]
          exact h10 _ _ (by rw [Mem.set_ne _ _ hyb]; exact hy)) (fun bs hbs => by
          obtain ⟨g1, g2⟩ := hbase bs hbs
          exact set_none g1) ⟨F.set b (.row [s.v, .int .i64 c] 62), by
          rcases h11 with h5 | ⟨b', rest, e, rfl, h6, ho'⟩
          · exact .inl h5
          · exact .inr ⟨b', rest, e, rfl, h6, ho'.set (hbase _ rfl).2⟩⟩
      have hs9 : s9 = o2 := by
        have := k1.2; rw [Mem.set_same] at this
        injection this with this
        injection this with this _
        injection this with this _
        unfold SV.v at this
        cases s9; cases o2; simp at this; simp [this]
      subst hs9
      refine two (l.set i 0 ++ [0]) 0 _ s9 _ rfl (by rw [List.getElem?_append_right (by simp; omega), show i + 1 - (l.set i 0).length = 0 from by simp; omega]; rfl) (by omega) (by omega) (set_end (by omega)) (by simp; omega) ?_ k4 k5
      intro n hn
      rcases List.mem_append.1 hn with hn | hn
      · exact hw2 n hn
      · simp at hn; omega
    · rename_i hend
      have hi1 : i + 1 < l.length := by omega
      have hy := List.getElem?_eq_getElem hi1
      have hb := hd _ (List.getElem_mem hi1)
      generalize l[i + 1] = y at hy hb
      exact two (l.set i 0) y M1 s _ rfl (by rw [List.getElem?_set, if_neg (by omega)]; exact hy) (by omega) (by omega) (set_mid hy) (by simp; omega) hw2 h1 h2
  · have hfix := fix_none l hno
    simp only [go_sem, bs_decide]
    rw [if_neg (by omega)]
    exact one l 0 M s _ rfl (by unfold incD; rw [hfix]) (by unfold carD; rw [hfix]; rfl) (by omega) hd10 hle hs hOwn.1

end

end
end Go.Proofs.Ytkibecgakkhljaa.HL
