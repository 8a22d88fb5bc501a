/-
  ChC: rings are what the document says.
-/
import Derived.Test.YtoeijcmpkfjbfaaChB
import Derived.Test.YtoeijcmpkfjbfaaHlK
set_option linter.unusedVariables false
set_option linter.unusedSimpArgs false
set_option maxRecDepth 100000
namespace Go.Proofs.Ytoeijcmpkfjbfaa.HL
open Go.RowKit (Below)
open Go.Proofs

section
variable {w0 : World} {M F : Mem} {R : Value → Mem → Prop}

theorem ldS {t : TypeId} (ht : cell1 PP t = true) {s : SV} {l : List Value} {Q : Asn} (h : Holds w0 F M (star (SlA s l) Q)) {a : Addr} (ha : s.a = some a) {i : Int} (j : Nat) (e : i = (j : Int)) {v : Value} (hv : l[j]? = some v) : (std PP w0).ld t (a.add (i.toNat * 1)) M = some v := by
  obtain ⟨F', h1, _⟩ := h.sl
  obtain ⟨a', ea, hr⟩ := h1.cells j v hv
  rw [ha] at ea; cases ea
  rw [ld_one ht, e, Int.toNat_natCast, Nat.mul_one]; exact hr
theorem rdS {t : TypeId} (ht : cell1 PP t = true) {s : SV} {l : List Value} {Q : Asn} (h : Holds w0 F M (star (SlA s l) Q)) {i : Int} (j : Nat) (e : i = (j : Int)) {v : Value} (hv : l[j]? = some v) {K : Addr → Value → Prop} (hK : ∀ a, s.a = some a → K a v) :
    nc s.a fun a => (0 ≤ i ∧ i < ((s.n : Nat) : Int)) ∧ ob ((std PP w0).ld t (a.add (i.toNat * 1)) M) fun v => K a v := by
  obtain ⟨F', h1, _⟩ := h.sl
  obtain ⟨a, ea, hr⟩ := h1.cells j v hv
  have hj := (List.getElem?_eq_some_iff.1 hv).1
  have hn := h1.len
  rw [ea, nc_v, ldS ht h ea j e hv, ob_v]
  exact ⟨⟨by omega, by omega⟩, hK a ea⟩

/-- A list that begins with c. -/
theorem turned_ok {s : SV} {L : List Nat} {c j : Nat} (hs : RdI w0 M .i64 s (intsN L)) (hm : L.length ≤ 1000) (hnd : L.Nodup) (hj : L[j]? = some c) (h : ∀ M' s', Mem.le M M' → Sl w0 M M' s' ((intsN (L.drop j ++ L.take j)).map (Value.int .i64)) → R s'.v M') : C PP w0 Id.thicketlaw6_turned #[SV.v s, .int .i64 (c : Int)] R M := by
  apply thicketlaw6_turned.go
  intro pts H
  unfold thicketlaw6_turned.T
  have hl := hs.len
  simp only [intsN, List.length_map] at hl
  have hjl := (List.getElem?_eq_some_iff.1 hj).1
  have hcap := hs.cap
  have key : ∀ (k i : Nat), i ≤ j → j < i + k → thicketlaw6_turned.L1 pts k s (c : Int) (i : Int) M := by
    intro k
    induction k with
    | zero => intro i h1 h2; omega
    | succ k ih =>
      intro i h1 h2
      rw [H.L1]
      unfold thicketlaw6_turned.L1.T
      rw [bs_decide, if_pos (by omega)]
      obtain ⟨d, hd⟩ : ∃ d, L[i]? = some d := ⟨L[i], List.getElem?_eq_getElem (by omega)⟩
      refine rdx W.c3 hs (Mem.le_refl _) i rfl (x := (d : Int)) (by simp [intsN, hd]) ?_
      rw [bs_beq]
      split
      · rename_i e
        have : i = j := by
          have hdc : d = c := by omega
          rw [hdc] at hd
          exact (List.getElem?_inj (by omega) hnd).1 (hd.trans hj.symm)
        subst this
        refine ⟨⟨by omega, by omega, by omega⟩, ⟨by omega, by omega, by omega⟩, ?_⟩
        refine bsl_ints (k := .i64) (l := []) (Mem.le_refl _) Try.underlying44 W.e3 (by decide) (by kernel_rfl) rfl fun M4 f l4 _ h4 => ?_
        rw [shS_sv]
        refine app_rd (M0 := M) (x := ⟨_, _, _⟩) (m := (intsN L).drop i) Try.underlying44 W.e3 l4 h4 (hs.sub (i := (i : Int)) i (Int.toNat_natCast _) (by omega)) l4 (by simp [intsN]; omega) fun M5 s5 l5 h5 => ?_
        rw [shS_sv]
        rw [List.nil_append] at h5
        refine app_rd (M0 := M) (x := ⟨_, _, _⟩) (m := (intsN L).take i) Try.underlying44 W.e3 l5 h5 ((hs.sub (i := 0) 0 rfl (by omega)).take (i := i) (by simp; omega) (fun _ => rfl) (c := s.c - 0) (by omega)) l5 (by simp [intsN]; omega) fun M6 s6 l6 h6 => ?_
        rw [shS_sv]
        refine h M6 s6 l6 ?_
        rw [show intsN (L.drop i ++ L.take i) = (intsN L).drop i ++ (intsN L).take i from by simp [intsN, List.map_take, List.map_drop]]
        exact h6
      · rename_i e
        have : i ≠ j := fun e2 => by subst e2; rw [hd] at hj; exact e (by rw [Option.some.inj hj])
        rw [w64_in (by omega)]
        exact ih (i + 1) (by omega) (by omega)
  exact ⟨j + 1, key (j + 1) 0 (by omega) (by omega)⟩
theorem turned_no {s : SV} {L : List Nat} {c : Nat} (hs : RdI w0 M .i64 s (intsN L)) (hm : L.length ≤ 1000) (hc : c ∉ L) (h : R (.slice none 0 0) M) : C PP w0 Id.thicketlaw6_turned #[SV.v s, .int .i64 (c : Int)] R M := by
  apply thicketlaw6_turned.go
  intro pts H
  unfold thicketlaw6_turned.T
  have hl := hs.len
  simp only [intsN, List.length_map] at hl
  have key : ∀ (k i : Nat), i ≤ L.length → L.length < i + k → thicketlaw6_turned.L1 pts k s (c : Int) (i : Int) M := by
    intro k
    induction k with
    | zero => intro i h1 h2; omega
    | succ k ih =>
      intro i h1 h2
      rw [H.L1]
      unfold thicketlaw6_turned.L1.T
      rw [bs_decide]
      split
      · obtain ⟨d, hd⟩ : ∃ d, L[i]? = some d := ⟨L[i], List.getElem?_eq_getElem (by omega)⟩
        refine rdx W.c3 hs (Mem.le_refl _) i rfl (x := (d : Int)) (by simp [intsN, hd]) ?_
        rw [bs_beq, if_neg (fun e => hc (by rw [show c = d from by omega]; exact List.mem_of_getElem? hd)), w64_in (by omega)]
        exact ih (i + 1) (by omega) (by omega)
      · exact h
  exact ⟨L.length + 1, key _ 0 (by omega) (by omega)⟩

/-- Which ring each cell is in. -/
structure Rg (w0 : World) (F : Mem) (α : AS) (n : Nat) (sv : Nat → SV) (rg : Nat → List Nat) : Prop where
  an : α.n = n
  rd : ∀ k, k < n → RdI w0 F .i64 (sv k) (intsN (rg k))
  mem : ∀ k, k < n → k ∈ rg k
  ring : ∀ k, k < n → α.RingL (rg k)
  lt : ∀ k, k < n → ∀ j ∈ rg k, j < n
  same : ∀ k, k < n → ∀ j ∈ rg k, rg j = rg k
theorem Rg.le {F' : Mem} {α : AS} {n : Nat} {sv : Nat → SV} {rg : Nat → List Nat} (h : Rg w0 F α n sv rg) (hl : Mem.le F F') : Rg w0 F' α n sv rg := ⟨h.an, fun k hk => (h.rd k hk).le hl, h.mem, h.ring, h.lt, h.same⟩
theorem Rg.sm {k : Int} {α β : AS} {n : Nat} {sv : Nat → SV} {rg : Nat → List Nat} (h : Rg w0 F α n sv rg) (hs : AS.Sm k α β) : Rg w0 F β n sv rg := ⟨hs.n.trans h.an, h.rd, h.mem, fun k hk => hs.ringL (h.ring k hk), h.lt, h.same⟩
theorem Rg.len {α : AS} {n : Nat} {sv : Nat → SV} {rg : Nat → List Nat} (h : Rg w0 F α n sv rg) {k : Nat} (hk : k < n) : (rg k).length ≤ n := nodup_len n (rg k) (h.ring k hk).nd (h.lt k hk)
/-- One ring is another one; what is in it was in rings that it holds whole. -/
theorem Rg.upd {α β : AS} {n : Nat} {sv : Nat → SV} {rg : Nat → List Nat} (h : Rg w0 F α n sv rg) {L : List Nat} {s : SV} (hn : β.n = n) (hs : RdI w0 F .i64 s (intsN L)) (hL : β.RingL L) (hsub : ∀ k ∈ L, k < n ∧ ∀ j ∈ rg k, j ∈ L)
    (hoth : ∀ l, α.RingL l → (∀ x ∈ l, x ∉ L) → β.RingL l) : Rg w0 F β n (fun k => if k ∈ L then s else sv k) (fun k => if k ∈ L then L else rg k) := by
  have hout : ∀ k, k < n → k ∉ L → ∀ x ∈ rg k, x ∉ L := fun k hk hkL x hx hxL => by
    have e := h.same k hk x hx
    have := (hsub x hxL).2 k (by rw [e]; exact h.mem k hk)
    exact hkL this
  refine ⟨hn, fun k hk => ?_, fun k hk => ?_, fun k hk => ?_, fun k hk j hj => ?_, fun k hk j hj => ?_⟩
  · by_cases e : k ∈ L
    · simp only [if_pos e]; exact hs
    · simp only [if_neg e]; exact h.rd k hk
  · by_cases e : k ∈ L
    · simp only [if_pos e]; exact e
    · simp only [if_neg e]; exact h.mem k hk
  · by_cases e : k ∈ L
    · simp only [if_pos e]; exact hL
    · simp only [if_neg e]; exact hoth _ (h.ring k hk) (hout k hk e)
  · by_cases e : k ∈ L
    · simp only [if_pos e] at hj; exact (hsub j hj).1
    · simp only [if_neg e] at hj; exact h.lt k hk j hj
  · by_cases e : k ∈ L
    · simp only [if_pos e] at hj
      simp only [if_pos e, if_pos hj]
    · simp only [if_neg e] at hj
      simp only [if_neg e, if_neg (hout k hk e j hj)]
      exact h.same k hk j hj

def rsV (n : Nat) (sv : Nat → SV) : List Value := (List.range n).map fun k => (sv k).v
theorem rsV_get {n : Nat} {sv : Nat → SV} {k : Nat} (h : k < n) : (rsV n sv)[k]? = some (sv k).v := by simp [rsV, h]
theorem rsV_set {n : Nat} {sv : Nat → SV} {k : Nat} {s : SV} : (rsV n sv).set k s.v = rsV n fun j => if j = k then s else sv j := by
  apply List.ext_getElem?
  intro j
  rw [List.getElem?_set]
  simp only [rsV, List.length_map, List.length_range, List.getElem?_map]
  by_cases hj : j < n
  · rw [List.getElem?_range hj]
    by_cases e : k = j
    · subst e; simp [hj]
    · rw [if_neg e]; simp [Ne.symm e]
  · rw [List.getElem?_eq_none (by simp; omega)]
    simp; omega
theorem rsV_congr {n : Nat} {sv sv' : Nat → SV} (h : ∀ k, k < n → sv k = sv' k) : rsV n sv = rsV n sv' := List.map_congr_left fun k hk => by rw [h k (List.mem_range.1 hk)]

theorem idx_mem {L : List Nat} {c : Nat} (h : c ∈ L) : ∃ j : Nat, L[j]? = some c := by
  obtain ⟨j, hj, e⟩ := List.getElem_of_mem h
  exact ⟨j, by rw [List.getElem?_eq_getElem hj, e]⟩
theorem rot_eq {L : List Nat} {j c : Nat} (h : L[j]? = some c) : L.drop j ++ L.take j = c :: (L.drop (j + 1) ++ L.take j) := by
  have hj := (List.getElem?_eq_some_iff.1 h).1
  have e := List.drop_eq_getElem_cons hj
  rw [List.getElem?_eq_getElem hj] at h
  rw [Option.some.inj h] at e
  rw [e]; rfl
theorem rot_mem {L : List Nat} {j : Nat} : ∀ x, x ∈ L.drop j ++ L.take j ↔ x ∈ L := fun x => by
  rw [List.mem_append]
  conv => rhs; rw [← List.take_append_drop j L]
  rw [List.mem_append]
  exact Or.comm

theorem lit1_fits {l : List Nat} {n : Nat} (h : ∀ x ∈ l, x < n) (hn : n ≤ 1000) : ∀ x ∈ intsN l, (Lit.int .i64 x).wf = true := intsN_wf h (by omega)

/-- What is new and is written no more. -/
theorem Holds.keep {P : Asn} {M' : Mem} {s : SV} {l : List Int} (h : Holds w0 F M P) (hl : Mem.le M M') (hs : Sl w0 M M' s (l.map (Value.int .i64))) (hw : ∀ n ∈ l, (Lit.int .i64 n).wf = true) (hm : l.length ≤ 1000000) : ∃ F', Mem.le F F' ∧ Holds w0 F' M' P ∧ RdI w0 F' .i64 s l :=
  (h.newSl hl hs).freeze hw hm
theorem Sl.some {M0 : Mem} {s : SV} {v : Value} {l : List Value} (h : Sl w0 M0 M s (v :: l)) : s.a.isNone = false := by
  rcases h with ⟨_, h⟩ | ⟨b, rest, e, rfl, _⟩
  · cases h
  · rfl

/-- One is taken out of its ring. -/
theorem Rg.out {α β : AS} {n : Nat} {sv : Nat → SV} {rg : Nat → List Nat} (h : Rg w0 F α n sv rg) {c y : Nat} {q : List Nat} {s1 s2 : SV} (hc : c < n) (hm : ∀ x, x ∈ rg c ↔ x ∈ c :: y :: q) (hnd : (c :: y :: q).Nodup) (hn : β.n = n) (h1 : RdI w0 F .i64 s1 (intsN [c])) (h2 : RdI w0 F .i64 s2 (intsN (y :: q)))
    (r1 : β.RingL [c]) (r2 : β.RingL (y :: q)) (hoth : ∀ l, α.RingL l → (∀ x ∈ l, x ∉ c :: y :: q) → β.RingL l) :
    Rg w0 F β n (fun k => if k ∈ y :: q then s2 else if k = c then s1 else sv k) (fun k => if k ∈ y :: q then y :: q else if k = c then [c] else rg k) := by
  have hcy : c ∉ y :: q := (List.nodup_cons.1 hnd).1
  have hout : ∀ k, k < n → k ∉ c :: y :: q → ∀ x ∈ rg k, x ∉ c :: y :: q := fun k hk hkL x hx hxL => by
    have e := h.same k hk x hx
    have e2 := h.same c hc x ((hm x).2 hxL)
    have : k ∈ rg c := by rw [← e2, e]; exact h.mem k hk
    exact hkL ((hm k).1 this)
  refine ⟨hn, fun k hk => ?_, fun k hk => ?_, fun k hk => ?_, fun k hk j hj => ?_, fun k hk j hj => ?_⟩
  · by_cases e : k ∈ y :: q
    · simp only [if_pos e]; exact h2
    · by_cases e2 : k = c
      · simp only [if_neg e, if_pos e2]; exact h1
      · simp only [if_neg e, if_neg e2]; exact h.rd k hk
  · by_cases e : k ∈ y :: q
    · simp only [if_pos e]; exact e
    · by_cases e2 : k = c
      · simp only [if_neg e, if_pos e2]; simp [e2]
      · simp only [if_neg e, if_neg e2]; exact h.mem k hk
  · by_cases e : k ∈ y :: q
    · simp only [if_pos e]; exact r2
    · by_cases e2 : k = c
      · simp only [if_neg e, if_pos e2]; exact r1
      · simp only [if_neg e, if_neg e2]
        exact hoth _ (h.ring k hk) (hout k hk (fun hh => by
          rcases List.mem_cons.1 hh with hh | hh
          · exact e2 hh
          · exact e hh))
  · by_cases e : k ∈ y :: q
    · simp only [if_pos e] at hj; exact h.lt c hc j ((hm j).2 (List.mem_cons_of_mem _ hj))
    · by_cases e2 : k = c
      · simp only [if_neg e, if_pos e2] at hj; simp at hj; omega
      · simp only [if_neg e, if_neg e2] at hj; exact h.lt k hk j hj
  · by_cases e : k ∈ y :: q
    · simp only [if_pos e] at hj
      simp only [if_pos e, if_pos hj]
    · by_cases e2 : k = c
      · simp only [if_neg e, if_pos e2] at hj
        simp at hj
        subst hj
        simp only [if_neg hcy, if_neg e, e2, if_true]
      · simp only [if_neg e, if_neg e2] at hj
        have hh := hout k hk (fun hh => by
          rcases List.mem_cons.1 hh with hh | hh
          · exact e2 hh
          · exact e hh) j hj
        have h3 : j ∉ y :: q := fun hh' => hh (List.mem_cons_of_mem _ hh')
        have h4 : j ≠ c := fun hh' => hh (by rw [hh']; simp)
        simp only [if_neg e, if_neg e2, if_neg h3, if_neg h4]
        exact h.same k hk j hj

set_option maxHeartbeats 4000000 in
theorem ch_play (hT : ∀ M', Mem.le M M' → R (.bool true) M') {n : Nat} (hn1 : 1 ≤ n) (hn2 : n ≤ 12) {s : SV} {l : List Int} (hs : RdF w0 M 3 s l) : C PP w0 Id.thicketlaw6_play #[.int .i64 (n : Int), SV.v s] R M := by
  apply thicketlaw6_play.go
  intro pts H
  unfold thicketlaw6_play.T
  refine New_ok fun M1 a hA => ?_
  rw [arNew_n (by omega)] at hA
  simp only [go_sem, Option.isNone_some, bs_false]
  refine MeterSteps_ok (K := fun _ _ _ => True) hA fun p hp _ => ?_
  have e1 : p.isNone = false := by cases p with
    | none => exact absurd rfl hp
    | some _ => rfl
  simp only [go_sem, e1, bs_false]
  rw [H.J1]
  unfold thicketlaw6_play.J1.T
  -- the last look: left and right
  have eleven : ∀ (F : Mem) (rs : SV) (sv : Nat → SV) (rg : Nat → List Nat) (k : Nat) (i : Int), (∀ (M' : Mem) (α : AS), Holds w0 F M' (star (SlA rs (rsV n sv)) (arenaA a α)) → Rg w0 F α n sv rg → thicketlaw6_play.L3 pts k (n : Int) s (some ⟨a, 0, none⟩) rs (w64 (i + 1)) M') →
      ∀ (f j : Nat) (M' : Mem) (α : AS), n < j + f → j ≤ n → Holds w0 F M' (star (SlA rs (rsV n sv)) (arenaA a α)) → Rg w0 F α n sv rg → thicketlaw6_play.L11 pts k f (n : Int) s (some ⟨a, 0, none⟩) rs i (j : Int) M' := by
    intro F rs sv rg k i hnext f
    induction f with
    | zero => intro j M' α g1 g2; omega
    | succ f ih =>
      intro j M' α g1 g2 hH hG
      rw [H.L11]
      unfold thicketlaw6_play.L11.T
      rw [bs_decide]
      split
      · have hj : j < n := by omega
        obtain ⟨q, hq⟩ := idx_mem (hG.mem j hj)
        have hring := ring_at (hG.ring j hj) hq
        have hlt : ∀ x ∈ j :: ((rg j).drop (q + 1) ++ (rg j).take q), x < n := fun x hx => hG.lt j hj x (by rw [← rot_eq hq] at hx; exact (rot_mem x).1 hx)
        generalize (rg j).drop (q + 1) ++ (rg j).take q = r at hring hlt
        obtain ⟨F', hB, _, back⟩ := hH.last
        refine Cell_ok hB fun M2 hB2 => ?_
        have hd : r.headD j ∈ j :: r := by cases r <;> simp
        rw [show α.cellI (j : Int) 3 = ((r.headD j : Nat) : Int) from AS.cellI_live (f := 3) (hring.live j (by simp)) (by omega) hring.right (by rw [hG.an]; exact hlt _ hd)]
        rw [shI_v, bs_beq, if_neg (by omega)]
        refine Cell_ok hB2 fun M3 hB3 => ?_
        have hleft : α.tick.get (r.headD j) 2 = (j : Int) := by
          show α.get (r.headD j) 2 = (j : Int)
          cases r with
          | nil => exact hring.back.2
          | cons y q => exact hring.seg.1.2
        rw [show α.tick.cellI ((r.headD j : Nat) : Int) 2 = (j : Int) from AS.cellI_live (α := α.tick) (f := 2) (hring.live _ hd) (by omega) hleft (by show j < α.n; rw [hG.an]; exact hj)]
        rw [shI_v, bs_bne, if_pos rfl, w64_in (by omega)]
        exact ih (j + 1) M3 _ (by omega) (by omega) (back M3 _ hB3) (hG.sm (AS.tick_sm.trans AS.tick_sm))
      · exact hnext M' α hH hG
  -- all that there are, looked at
  have ten : ∀ (F : Mem) (rs : SV) (sv : Nat → SV) (rg : Nat → List Nat) (k : Nat) (i : Int), (∀ (M' : Mem) (α : AS), Holds w0 F M' (star (SlA rs (rsV n sv)) (arenaA a α)) → Rg w0 F α n sv rg → thicketlaw6_play.L3 pts k (n : Int) s (some ⟨a, 0, none⟩) rs (w64 (i + 1)) M') →
      ∀ (f j : Nat) (M' : Mem) (α : AS), n < j + f → j ≤ n → Holds w0 F M' (star (SlA rs (rsV n sv)) (arenaA a α)) → Rg w0 F α n sv rg → thicketlaw6_play.L10 pts k f (n : Int) s (some ⟨a, 0, none⟩) rs i (j : Int) M' := by
    intro F rs sv rg k i hnext f
    induction f with
    | zero => intro j M' α g1 g2; omega
    | succ f ih =>
      intro j M' α g1 g2 hH hG
      rw [H.L10]
      unfold thicketlaw6_play.L10.T
      rw [bs_decide]
      split
      · have hj : j < n := by omega
        obtain ⟨q, hq⟩ := idx_mem (hG.mem j hj)
        have hring := ring_at (hG.ring j hj) hq
        have hlenL := hG.len hj
        refine rdS W.c44 hH j rfl (rsV_get hj) fun ad ead => ?_
        rw [shS_sv]
        obtain ⟨F', hB, _, back⟩ := hH.last
        refine All_ok hB hring fun M2 s2 β hH2 hs2 => ?_
        have hHa := back M2 _ hH2
        rw [shS_sv]
        refine ⟨ldS W.c44 hHa ead j rfl (rsV_get hj), ?_⟩
        have hwr : ∀ z ∈ intsN (j :: ((rg j).drop (q + 1) ++ (rg j).take q)), (Lit.int .i64 z).wf = true := lit1_fits (n := n) (fun x hx => hG.lt j hj x (by rw [← rot_eq hq] at hx; exact (rot_mem x).1 hx)) (by omega)
        have hlen2 : (intsN (j :: ((rg j).drop (q + 1) ++ (rg j).take q))).length ≤ 1000000 := by simp [intsN]; omega
        have hr2 := hHa.rot.rdI hwr hlen2
        have hG2 := hG.sm hs2
        refine turned_ok ((hG.rd j hj).le hHa.fr) (by omega) (hG.ring j hj).nd hq fun M3 s3 l3 h3 => ?_
        rw [shS_sv]
        rw [rot_eq hq] at h3
        refine Same_ok (hr2.le l3) (h3.rdI hwr (by omega)) ?_
        simp only [shB_v, decide_true, Bool.not_true, bs_false]
        have hH3 : Holds w0 F M3 (star (SlA rs (rsV n sv)) (arenaA a β)) := (hHa.rot.right).le l3
        refine rdS W.c44 hH3 j rfl (rsV_get hj) fun ad2 ead2 => ?_
        rw [shS_sv]
        obtain ⟨F3, hB3, _, back3⟩ := hH3.last
        refine Alone_ok hB3 (hs2.ring hring) fun M4 β4 hB4 hs4 => ?_
        have hH4 := back3 M4 _ hB4
        have hlen := (hG.rd j hj).len
        simp only [intsN, List.length_map] at hlen
        have hjl := (List.getElem?_eq_some_iff.1 hq).1
        have he : decide ((rg j).drop (q + 1) ++ (rg j).take q = []) = ((((sv j).n : Nat) : Int) == 1) := by
          rw [show ((((sv j).n : Nat) : Int) == 1) = decide ((((sv j).n : Nat) : Int) = 1) from by rw [Bool.eq_iff_iff]; simp, decide_eq_decide, hlen]
          rw [← List.length_eq_zero_iff, List.length_append, List.length_drop, List.length_take]
          omega
        rw [he]
        simp only [shB_v, W.neb4, ob_v, beq_self_eq_true, Bool.not_true, bs_false]
        refine ⟨ldS W.c44 hH4 ead2 j rfl (rsV_get hj), ?_⟩
        rw [w64_in (by omega)]
        exact ih (j + 1) M4 β4 (by omega) (by omega) hH4 (hG2.sm hs4)
      · exact ⟨n + 1, eleven F rs sv rg k i hnext (n + 1) 0 M' α (by omega) (by omega) hH hG⟩
  -- a list is that of each that is in it
  have eight : ∀ (F : Mem) (rs sn : SV) (sv : Nat → SV) (L : List Nat) (k : Nat) (i10 : Int) (α : AS), (∀ x ∈ L, x < n) → L.length ≤ 100 → RdI w0 F .i64 sn (intsN L) →
      (∀ M', Holds w0 F M' (star (SlA rs (rsV n fun j => if j ∈ L then sn else sv j)) (arenaA a α)) → ∃ f, thicketlaw6_play.L10 pts k f (n : Int) s (some ⟨a, 0, none⟩) rs i10 0 M') →
      ∀ (f i : Nat) (M' : Mem), L.length < i + f → i ≤ L.length → Holds w0 F M' (star (SlA rs (rsV n fun j => if j ∈ L.take i then sn else sv j)) (arenaA a α)) → thicketlaw6_play.L8 pts k f (n : Int) s (some ⟨a, 0, none⟩) rs i10 sn sn ((sn.n : Nat) : Int) (i : Int) M' := by
    intro F rs sn sv L k i10 α hL hL100 hsn hfin f
    have hlen := hsn.len
    simp only [intsN, List.length_map] at hlen
    induction f with
    | zero => intro i M' g1 g2; omega
    | succ f ih =>
      intro i M' g1 g2 hH
      rw [H.L8]
      unfold thicketlaw6_play.L8.T
      rw [bs_decide]
      split
      · have hi : i < L.length := by omega
        obtain ⟨c, hc⟩ : ∃ c, L[i]? = some c := ⟨L[i], List.getElem?_eq_getElem hi⟩
        have hcn := hL c (List.mem_of_getElem? hc)
        refine rdx W.c3 hsn hH.fr i rfl (x := (c : Int)) (by simp [intsN, hc]) ?_
        refine st1 W.c44 hH c rfl (by simp [rsV]; omega) rfl rfl fun M2 hH2 => ?_
        rw [rsV_set] at hH2
        rw [w64_in (by omega)]
        refine ih (i + 1) M2 (by omega) (by omega) ?_
        rw [rsV_congr (sv' := fun j => if j ∈ L.take (i + 1) then sn else sv j) (fun j _ => ?_)] at hH2
        · exact hH2
        · show (if j = c then sn else if j ∈ L.take i then sn else sv j) = _
          rw [List.take_add_one, hc]
          by_cases e : j = c
          · rw [if_pos e, if_pos (by simp [e])]
          · rw [if_neg e]
            by_cases e2 : j ∈ L.take i
            · rw [if_pos e2, if_pos (by simp [e2])]
            · rw [if_neg e2, if_neg (by simp [e, e2])]
      · have : i = L.length := by omega
        subst this
        rw [List.take_length] at hH
        exact hfin M' hH
  have five : ∀ (F : Mem) (rs sn : SV) (sv : Nat → SV) (rg : Nat → List Nat) (L : List Nat) (k : Nat) (i10 was : Int) (α : AS) (M' : Mem), (∀ (M' : Mem) (α : AS), Holds w0 F M' (star (SlA rs (rsV n fun j => if j ∈ L then sn else sv j)) (arenaA a α)) → Rg w0 F α n (fun j => if j ∈ L then sn else sv j) rg → thicketlaw6_play.L3 pts k (n : Int) s (some ⟨a, 0, none⟩) rs (w64 (i10 + 1)) M') →
      (∀ x ∈ L, x < n) → L.length ≤ 100 → RdI w0 F .i64 sn (intsN L) → 0 ≤ was → In64 was → α.steps ≤ was + 12 → Holds w0 F M' (star (SlA rs (rsV n sv)) (arenaA a α)) → Rg w0 F α n (fun j => if j ∈ L then sn else sv j) rg → thicketlaw6_play.J5 pts k (n : Int) s (some ⟨a, 0, none⟩) rs i10 was sn M' := by
    intro F rs sn sv rg L k i10 was α M' hnext hL hL100 hsn hw0 hw1 hst hH hG
    rw [H.J5]
    unfold thicketlaw6_play.J5.T
    obtain ⟨F', hB, _, back⟩ := hH.last
    have hst0 := hB.inv.steps
    refine MeterSteps_ok (K := fun _ _ _ => True) hB fun pp _ hpp => ?_
    rw [shP_v]
    refine hpp.mono fun v M2 hv => ?_
    obtain ⟨hM2, rfl⟩ := hv
    rw [hM2]
    clear hM2
    unfold In64 at hst0 hw1
    rw [shI_v, w64_in (n := α.steps - was) (by omega), bs_decide, if_neg (by omega)]
    refine ⟨L.length + 1, eight F rs sn sv L k i10 α hL hL100 hsn (fun M3 hH3 => ⟨n + 1, ten F rs _ rg k i10 hnext (n + 1) 0 M3 α (by omega) (by omega) hH3 hG⟩) (L.length + 1) 0 M' (by omega) (by omega) ?_⟩
    rw [List.take_zero]
    rw [rsV_congr (sv' := sv) (fun j _ => if_neg (by simp))]
    exact hH
  have hrgm : ∀ {rg : Nat → List Nat} {c j : Nat}, (rg c)[j]? = some c → ∀ x, x ∈ rg c ↔ x ∈ c :: ((rg c).drop (j + 1) ++ (rg c).take j) := fun {rg c j} hj x => by rw [← rot_eq hj]; exact (rot_mem x).symm
  -- one call after the other
  have three : ∀ (f i : Nat) (F M' : Mem) (rs : SV) (sv : Nat → SV) (rg : Nat → List Nat) (α : AS), 60 < i + f → i ≤ 60 → Mem.le M F → Holds w0 F M' (star (SlA rs (rsV n sv)) (arenaA a α)) → Rg w0 F α n sv rg → thicketlaw6_play.L3 pts f (n : Int) s (some ⟨a, 0, none⟩) rs (i : Int) M' := by
    intro f
    induction f with
    | zero => intro i F M' rs sv rg α g1 g2; omega
    | succ f ih =>
      intro i F M' rs sv rg α g1 g2 hMF hH hG
      have hfin : R (.bool true) M' := hT M' (Mem.le_trans hMF hH.fr)
      rw [H.L3]
      unfold thicketlaw6_play.L3.T
      simp only [bs_decide]
      split
      · split
        · have hi : i < s.n := by omega
          have hei : w64 ((i : Int) + 1) = ((i + 1 : Nat) : Int) := by rw [w64_in (by omega)]; omega
          have hnx : ∀ (F2 M2 : Mem) (sv2 : Nat → SV) (rg2 : Nat → List Nat) (α2 : AS), Mem.le M F2 → Holds w0 F2 M2 (star (SlA rs (rsV n sv2)) (arenaA a α2)) → Rg w0 F2 α2 n sv2 rg2 → thicketlaw6_play.L3 pts f (n : Int) s (some ⟨a, 0, none⟩) rs (w64 ((i : Int) + 1)) M2 := by
            intro F2 M2 sv2 rg2 α2 h1 h2 h3
            rw [hei]
            exact ih (i + 1) F2 M2 rs sv2 rg2 α2 (by omega) (by omega) h1 h2 h3
          rw [H.J4]
          unfold thicketlaw6_play.J4.T
          obtain ⟨x0, ex0, b0⟩ := hs.get (f := 0) hi (by omega)
          obtain ⟨x1, ex1, b1⟩ := hs.get (f := 1) hi (by omega)
          obtain ⟨x2, ex2, b2⟩ := hs.get (f := 2) hi (by omega)
          have hs' := hs.le hMF
          refine rdfL W.c3 hs' hH.fr i rfl hi ex1 ?_
          obtain ⟨ad, ead, hr2⟩ := hs'.cell _ _ ex2
          have hld2 : ∀ M2, Mem.le F M2 → (std PP w0).ld 3 (Addr.add (ad.add ((i : Int).toNat * 3)) 2) M2 = some (.int .i64 x2) := fun M2 h => by rw [ld_one W.c3, Int.toNat_natCast, add_add]; exact hr2 M2 h
          rw [ead, nc_v, hld2 M' hH.fr, ob_v, shI_v, w64_in (n := (n : Int) - 1) (by omega)]
          refine ⟨⟨by omega, by omega⟩, ?_⟩
          refine Within_ok b1 (by omega) (by omega) (by omega) (by omega) fun c hc0 hc1 => ?_
          obtain ⟨c, rfl⟩ : ∃ k : Nat, c = (k : Int) := ⟨c.toNat, by omega⟩
          have hcn : c < n := by omega
          rw [shI_v]
          refine ⟨hld2 M' hH.fr, ?_⟩
          refine Within_ok b2 (by omega) (by omega) (by omega) (by omega) fun d hd0 hd1 => ?_
          obtain ⟨d, rfl⟩ : ∃ k : Nat, d = (k : Int) := ⟨d.toNat, by omega⟩
          have hdn : d < n := by omega
          rw [shI_v]
          have hlc := hG.len hcn
          have hld := hG.len hdn
          obtain ⟨jc, hjc⟩ := idx_mem (hG.mem c hcn)
          obtain ⟨jd, hjd⟩ := idx_mem (hG.mem d hdn)
          refine rdS W.c44 hH c rfl (rsV_get hcn) fun ac eac => ?_
          rw [shS_sv]
          refine rdS W.c44 hH d rfl (rsV_get hdn) fun ad2 ead2 => ?_
          rw [shS_sv]
          have hringc := ring_at (hG.ring c hcn) hjc
          have hringd := ring_at (hG.ring d hdn) hjd
          have hmc := hrgm hjc
          have hmd := hrgm hjd
          have hltc : ∀ x ∈ c :: ((rg c).drop (jc + 1) ++ (rg c).take jc), x < n := fun x hx => hG.lt c hcn x ((hmc x).2 hx)
          have hltd : ∀ x ∈ d :: ((rg d).drop (jd + 1) ++ (rg d).take jd), x < n := fun x hx => hG.lt d hdn x ((hmd x).2 hx)
          have hlr : ((rg c).drop (jc + 1) ++ (rg c).take jc).length + 1 ≤ n := nodup_len n _ hringc.nd hltc
          have hls : ((rg d).drop (jd + 1) ++ (rg d).take jd).length + 1 ≤ n := nodup_len n _ hringd.nd hltd
          -- x
          refine turned_ok ((hG.rd c hcn).le hH.fr) (by omega) (hG.ring c hcn).nd hjc fun M2 s52 l2 h52 => ?_
          rw [shS_sv]
          rw [rot_eq hjc] at h52
          have hH2o := hH.le l2
          refine ⟨ldS W.c44 hH2o ead2 d rfl (rsV_get hdn), ?_⟩
          obtain ⟨F2, lF2, hH2, rx⟩ := hH.keep l2 h52 (lit1_fits hltc (by omega)) (by simp [intsN]; omega)
          have hG2 := hG.le lF2
          -- y
          refine turned_ok ((hG2.rd d hdn).le hH2.fr) (by omega) (hG.ring d hdn).nd hjd fun M3 s55 l3 h55 => ?_
          rw [shS_sv]
          rw [rot_eq hjd] at h55
          obtain ⟨F3, lF3, hH3, ry⟩ := hH2.keep l3 h55 (lit1_fits hltd (by omega)) (by simp [intsN]; omega)
          have hG3 := hG2.le lF3
          have rx3 := rx.le lF3
          generalize (rg c).drop (jc + 1) ++ (rg c).take jc = r at hringc hmc hltc hlr rx3
          generalize (rg d).drop (jd + 1) ++ (rg d).take jd = sd at hringd hmd hltd hls ry
          have hMF3 : Mem.le M F3 := Mem.le_trans hMF (Mem.le_trans lF2 lF3)
          refine rdS W.c44 hH3 c rfl (rsV_get hcn) fun ac3 eac3 => ?_
          rw [shS_sv]
          have lx := rx3.len
          have ly := ry.len
          have cx := rx3.cap
          simp only [intsN, List.length_map, List.length_cons] at lx ly
          -- what comes, whether they are apart
          have main : ∀ (b63 : Bool) (M4 : Mem), b63 = decide (d ∉ rg c) → Holds w0 F3 M4 (star (SlA rs (rsV n sv)) (arenaA a α)) →
              (std PP w0).call Id.arena_Arena_Meter #[.pointer (some ⟨a, 0, none⟩)] (fun v64 M65 => shP v64 fun p66 => (std PP w0).call Id.meter_Meter_Steps #[.pointer p66] (fun v67 M68 => shI .i64 v67 fun n69 => (std PP w0).bsl 44 0 [] (fun v70 M71 => shS v70 fun s72 => (std PP w0).app #[44, 44] 44 [SV.v s72, SV.v s52] (fun v73 M74 => shS v73 fun s75 => nc s.a fun a76 => (0 ≤ (i : Int) ∧ (i : Int) < ((s.n : Nat) : Int)) ∧ ob ((std PP w0).ld 3 (a76.add ((i : Int).toNat * 3)) M74) fun v77 => shI .i64 v77 fun n78 => bs ((n78 == 2)) (bs (!b63) (thicketlaw6_play.L3 pts f (n : Int) s (some ⟨a, 0, none⟩) rs (w64 ((i : Int) + 1)) M74) ((std PP w0).call Id.chain_Join #[.pointer (some ⟨a, 0, none⟩), .int .i64 (c : Int), .int .i64 (d : Int)] (fun v79 M80 => (0 ≤ (1 : Int) ∧ (1 : Int) ≤ ((s52.n : Nat) : Int) ∧ ((s52.n : Nat) : Int) ≤ ((s52.c : Nat) : Int)) ∧ (std PP w0).bsl 44 1 [(0, .int .i64 (c : Int))] (fun v81 M82 => shS v81 fun s83 => (std PP w0).app #[44, 44] 44 [SV.v s83, SV.v s55] (fun v84 M85 => shS v84 fun s86 => (std PP w0).app #[44, 44] 44 [SV.v s86, .slice (if s52.c = (1 : Int).toNat then s52.a else s52.a.map (·.add ((1 : Int).toNat * 1))) (((s52.n : Nat) : Int).toNat - (1 : Int).toNat) (s52.c - (1 : Int).toNat)] (fun v87 M88 => shS v87 fun s89 => thicketlaw6_play.J5 pts f (n : Int) s (some ⟨a, 0, none⟩) rs (i : Int) n69 s89 M88) M85) M82) M80) M74)) (bs ((n78 == 3)) (bs (decide (((s52.n : Nat) : Int) > 1)) (nc s52.a fun a90 => (0 ≤ (1 : Int) ∧ (1 : Int) < ((s52.n : Nat) : Int)) ∧ ob ((std PP w0).ld 3 (a90.add ((1 : Int).toNat * 1)) M74) fun v91 => shI .i64 v91 fun n92 => thicketlaw6_play.J6 pts f (n : Int) s (some ⟨a, 0, none⟩) rs (i : Int) (c : Int) s52 n69 n92 M74) (thicketlaw6_play.J6 pts f (n : Int) s (some ⟨a, 0, none⟩) rs (i : Int) (c : Int) s52 n69 (-1) M74)) (bs ((n78 == 4)) (bs (decide (((s52.n : Nat) : Int) > 1)) (thicketlaw6_play.L3 pts f (n : Int) s (some ⟨a, 0, none⟩) rs (w64 ((i : Int) + 1)) M74) ((std PP w0).call Id.chain_One #[.pointer (some ⟨a, 0, none⟩), .int .i64 (c : Int)] (fun v93 M94 => thicketlaw6_play.J5 pts f (n : Int) s (some ⟨a, 0, none⟩) rs (i : Int) n69 s75 M94) M74)) (bs (!b63) (thicketlaw6_play.L3 pts f (n : Int) s (some ⟨a, 0, none⟩) rs (w64 ((i : Int) + 1)) M74) (bs (decide (((s55.n : Nat) : Int) > 1)) (thicketlaw6_play.L3 pts f (n : Int) s (some ⟨a, 0, none⟩) rs (w64 ((i : Int) + 1)) M74) (thicketlaw6_play.J7 pts f (n : Int) s (some ⟨a, 0, none⟩) rs (i : Int) (c : Int) (d : Int) s52 n69 M74)))))) M71) M68) M65) M4 := by
            intro b63 M4 hb63 hH4
            obtain ⟨F', hB, _, back⟩ := hH4.last
            have hst0 := hB.inv.steps
            refine MeterSteps_ok (K := fun _ _ _ => True) hB fun pp _ hpp => ?_
            rw [shP_v]
            refine hpp.mono fun v M5 hv => ?_
            obtain ⟨hM5, rfl⟩ := hv
            rw [hM5]
            clear hM5
            rw [shI_v]
            refine bsl_ints (k := .i64) (l := []) (Mem.le_refl _) Try.underlying44 W.e3 (by decide) (by kernel_rfl) rfl fun M5' o l5 _ h5 => ?_
            rw [shS_sv]
            refine app_rd (M0 := M4) Try.underlying44 W.e3 l5 h5 (rx3.le hH4.fr) l5 (by simp [intsN]; omega) fun M6 s75 l6 h6 => ?_
            rw [shS_sv]
            rw [List.nil_append] at h6
            obtain ⟨F6, lF6, hH6, r75⟩ := hH4.keep l6 h6 (lit1_fits hltc (by omega)) (by simp [intsN]; omega)
            have hG6 := hG3.le lF6
            have rx6 := rx3.le lF6
            have ry6 := ry.le lF6
            have hMF6 := Mem.le_trans hMF3 lF6
            refine rdf0L W.c3 (hs.le hMF6) hH6.fr i rfl hi ex0 ?_
            have hskip := hnx F6 M6 sv rg α hMF6 hH6 hG6
            obtain ⟨F7, hB7, _, back7⟩ := hH6.last
            have hstb := hB7.inv.steps
            have fin : ∀ (β : AS) (M8 F9 : Mem) (sn : SV) (L : List Nat), Mem.le M F9 → Holds w0 F9 M8 (star (SlA rs (rsV n sv)) (arenaA a β)) → Rg w0 F9 α n sv rg → RdI w0 F9 .i64 sn (intsN L) → β.RingL L → (∀ k ∈ L, k < n ∧ ∀ j ∈ rg k, j ∈ L) → (∀ l, α.RingL l → (∀ x ∈ l, x ∉ L) → β.RingL l) → β.n = n → β.steps ≤ α.steps + 12 →
                thicketlaw6_play.J5 pts f (n : Int) s (some ⟨a, 0, none⟩) rs (i : Int) α.steps sn M8 := by
              intro β M8 F9 sn L h1 h2 h3 h4 h5 h6 h7 h8 h9
              have hlt : ∀ x ∈ L, x < n := fun x hx => (h6 x hx).1
              have hlen := nodup_len n L h5.nd hlt
              exact five F9 rs sn sv _ L f (i : Int) α.steps β M8 (fun M' α' g1 g2 => hnx F9 M' _ _ α' h1 g1 g2) hlt (by omega) h4 hstb.1 hstb.2 h9 h2 (h3.upd h8 h4 h5 h6 h7)
            have hwc : ∀ x ∈ [(c : Int)], (Lit.int .i64 x).wf = true := wf_all (by simp [In64]; omega)
            simp only [bs_beq, bs_not, bs_decide]
            split
            · -- two rings are joined
              rw [bs_b]
              refine ⟨fun hb => ?_, fun _ => hskip⟩
              rw [hb63] at hb
              have hdc : d ∉ rg c := of_decide_eq_true hb
              have hdis : ∀ z ∈ d :: sd, z ∉ c :: r := fun z hz hzc => by
                have e1 := hG.same c hcn z ((hmc z).2 hzc)
                have e2 := hG.same d hdn z ((hmd z).2 hz)
                exact hdc (by rw [← e1, e2]; exact hG.mem d hdn)
              refine Join_ok hB7 hringc hringd fun M8 β hB8 hs8 => ?_
              have hH8 := back7 M8 _ hB8
              have rj := hs8.ring (AS.ring_join hringc hringd hdis)
              refine ⟨⟨by omega, by omega, by omega⟩, ?_⟩
              refine bsl_ints (k := .i64) (l := [(c : Int)]) (Mem.le_refl _) Try.underlying44 W.e3 (n := 1) (by decide) (by kernel_rfl) rfl fun M9 o9 l9 _ h9 => ?_
              rw [shS_sv]
              refine app_rd (M0 := M8) (x := s55) (m := intsN (d :: sd)) Try.underlying44 W.e3 l9 h9 (ry6.le hH8.fr) l9 (by simp [intsN]; omega) fun M10 o10 l10 h10 => ?_
              rw [shS_sv]
              refine app_rd (M0 := M8) (x := ⟨_, _, _⟩) (m := (intsN (c :: r)).drop 1) Try.underlying44 W.e3 l10 h10 ((rx6.le hH8.fr).sub (i := 1) 1 rfl (by omega)) l10 (by simp [intsN]; omega) fun M11 o11 l11 h11 => ?_
              rw [shS_sv]
              have hint : [(c : Int)] ++ intsN (d :: sd) ++ (intsN (c :: r)).drop 1 = intsN (c :: (d :: sd ++ r)) := by simp [intsN]
              rw [hint] at h11
              have hltL : ∀ z ∈ c :: (d :: sd ++ r), z < n := fun z hz => by
                rcases List.mem_cons.1 hz with rfl | hz
                · exact hcn
                · rcases List.mem_append.1 hz with hz | hz
                  · exact hltd z hz
                  · exact hltc z (List.mem_cons_of_mem _ hz)
              obtain ⟨F9, lF9, hH9, r9⟩ := hH8.keep l11 h11 (lit1_fits hltL (by omega)) (by simp [intsN]; omega)
              refine fin β M11 F9 o11 _ (Mem.le_trans hMF6 lF9) hH9 (hG6.le lF9) r9 rj (fun k hk => ⟨hltL k hk, fun j hj => ?_⟩) (fun l hl hno => ?_) (hs8.n.trans hG.an) (by have := hs8.steps hstb.1; have h2 : β.steps ≤ α.steps + 6 := this.2; omega)
              · have hkk : k ∈ c :: r ∨ k ∈ d :: sd := by
                  rcases List.mem_cons.1 hk with rfl | hk
                  · exact .inl (by simp)
                  · rcases List.mem_append.1 hk with hk | hk
                    · exact .inr hk
                    · exact .inl (List.mem_cons_of_mem _ hk)
                rcases hkk with hk | hk
                · rw [hG.same c hcn k ((hmc k).2 hk)] at hj
                  have := (hmc j).1 hj
                  rcases List.mem_cons.1 this with e | e
                  · simp [e]
                  · simp [e]
                · rw [hG.same d hdn k ((hmd k).2 hk)] at hj
                  have := (hmd j).1 hj
                  rcases List.mem_cons.1 this with e | e
                  · simp [e]
                  · simp [e]
              · refine hs8.ringL ((AS.RingL.other (AS.RingL.other hl (fun h => hno c h (by simp)) (fun h => hno d h (by simp))) (fun h => hno _ h ?_) (fun h => hno _ h ?_)))
                · exact List.mem_cons_of_mem _ (List.mem_append_left _ (AS.last_mem d sd))
                · cases r with
                  | nil => simp
                  | cons z q => simp
            · split
              · -- one is taken out
                have out : ∀ want : Int, want = (match r with
                    | [] => -1
                    | y :: _ => (y : Int)) → thicketlaw6_play.J6 pts f (n : Int) s (some ⟨a, 0, none⟩) rs (i : Int) (c : Int) s52 α.steps want M6 := by
                  intro want hwant
                  rw [H.J6]
                  unfold thicketlaw6_play.J6.T
                  -- what is left is written down
                  have rest : ∀ (β : AS) (M8 : Mem), Holds w0 F6 M8 (star (SlA rs (rsV n sv)) (arenaA a β)) → β.n = n → β.steps ≤ α.steps + 12 → β.RingL [c] → (r = [] ∨ β.RingL r) → (∀ l, α.RingL l → (∀ x ∈ l, x ∉ c :: r) → β.RingL l) →
                      (std PP w0).bsl 44 1 [(0, .int .i64 (c : Int))] (fun v105 M106 => shS v105 fun s107 => nc rs.a fun a108 => (0 ≤ (c : Int) ∧ (c : Int) < ((rs.n : Nat) : Int)) ∧ (std PP w0).st 44 (a108.add ((c : Int).toNat * 1)) (SV.v s107) (fun M109 => (0 ≤ (1 : Int) ∧ (1 : Int) ≤ ((s52.n : Nat) : Int) ∧ ((s52.n : Nat) : Int) ≤ ((s52.c : Nat) : Int)) ∧ ∃ k110, thicketlaw6_play.L9 pts f k110 (n : Int) s (some ⟨a, 0, none⟩) rs (i : Int) s52 α.steps ⟨(if s52.c = (1 : Int).toNat then s52.a else s52.a.map (·.add ((1 : Int).toNat * 1))), (((s52.n : Nat) : Int).toNat - (1 : Int).toNat), (s52.c - (1 : Int).toNat)⟩ (((((s52.n : Nat) : Int).toNat - (1 : Int).toNat) : Nat) : Int) 0 M109) M106) M8 := by
                    intro β M8 hH8 hβn hst8 hRc hRr hoth
                    refine bsl_ints (k := .i64) (l := [(c : Int)]) (Mem.le_refl _) Try.underlying44 W.e3 (n := 1) (by decide) (by kernel_rfl) rfl fun M9 o9 l9 _ h9 => ?_
                    rw [shS_sv]
                    obtain ⟨F9, lF9, hH9, r9⟩ := hH8.keep l9 h9 hwc (by simp)
                    refine st1 W.c44 hH9 c rfl (by simp [rsV]; omega) rfl rfl fun M10 hH10 => ?_
                    rw [rsV_set] at hH10
                    refine ⟨⟨by omega, by omega, by omega⟩, ?_⟩
                    have rt : RdI w0 F9 .i64 ⟨(if s52.c = (1 : Int).toNat then s52.a else s52.a.map (·.add ((1 : Int).toNat * 1))), (((s52.n : Nat) : Int).toNat - (1 : Int).toNat), (s52.c - (1 : Int).toNat)⟩ (intsN r) := (rx6.le lF9).sub (i := 1) 1 rfl (by omega)
                    have hbx : (0 ≤ (1 : Int) ∧ (1 : Int) ≤ ((s52.n : Nat) : Int) ∧ ((s52.n : Nat) : Int) ≤ ((s52.c : Nat) : Int)) := ⟨by omega, by omega, by omega⟩
                    generalize hst : (⟨(if s52.c = (1 : Int).toNat then s52.a else s52.a.map (·.add ((1 : Int).toNat * 1))), (((s52.n : Nat) : Int).toNat - (1 : Int).toNat), (s52.c - (1 : Int).toNat)⟩ : SV) = st at rt ⊢
                    have hstn : ((((s52.n : Nat) : Int).toNat - (1 : Int).toNat : Nat) : Int) = ((st.n : Nat) : Int) := by rw [← hst]
                    have hstw : Value.slice (if s52.c = (1 : Int).toNat then s52.a else s52.a.map (·.add ((1 : Int).toNat * 1))) (((s52.n : Nat) : Int).toNat - (1 : Int).toNat) (s52.c - (1 : Int).toNat) = st.v := by rw [← hst]; rfl
                    rw [hstn]
                    have rtl := rt.len
                    simp only [intsN, List.length_map] at rtl
                    have nine : ∀ (f' j : Nat) (M' : Mem), r.length < j + f' → j ≤ r.length → Holds w0 F9 M' (star (SlA rs (rsV n fun k => if k ∈ r.take j then st else if k = c then o9 else sv k)) (arenaA a β)) → thicketlaw6_play.L9 pts f f' (n : Int) s (some ⟨a, 0, none⟩) rs (i : Int) s52 α.steps st ((st.n : Nat) : Int) (j : Int) M' := by
                      intro f'
                      induction f' with
                      | zero => intro j M' g1 g2; omega
                      | succ f' ih' =>
                        intro j M' g3 g4 hHj
                        rw [H.L9]
                        unfold thicketlaw6_play.L9.T
                        rw [bs_decide]
                        split
                        · have hj : j < r.length := by omega
                          obtain ⟨z, hz⟩ : ∃ z, r[j]? = some z := ⟨r[j], List.getElem?_eq_getElem hj⟩
                          have hzn := hltc z (List.mem_cons_of_mem _ (List.mem_of_getElem? hz))
                          refine rdx W.c3 rt hHj.fr j rfl (x := (z : Int)) (by simp [intsN, hz]) ?_
                          refine ⟨hbx, ?_⟩
                          rw [hstw]
                          refine st1 W.c44 hHj z rfl (by simp [rsV]; omega) rfl rfl fun M2 hH2 => ?_
                          rw [rsV_set] at hH2
                          rw [w64_in (by omega)]
                          refine ih' (j + 1) M2 (by omega) (by omega) ?_
                          rw [rsV_congr (sv' := fun k => if k ∈ r.take (j + 1) then st else if k = c then o9 else sv k) (fun k _ => ?_)] at hH2
                          · exact hH2
                          · show (if k = z then st else if k ∈ r.take j then st else if k = c then o9 else sv k) = _
                            rw [List.take_add_one, hz]
                            by_cases e : k = z
                            · rw [if_pos e, if_pos (by simp [e])]
                            · rw [if_neg e]
                              by_cases e2 : k ∈ r.take j
                              · rw [if_pos e2, if_pos (by simp [e2])]
                              · rw [if_neg e2, if_neg (show ¬ k ∈ List.take j r ++ (some z).toList from by simp [e, e2])]
                        · have : j = r.length := by omega
                          subst this
                          rw [List.take_length] at hHj
                          have hG9 := hG6.le lF9
                          have hGf : ∃ rg2, Rg w0 F9 β n (fun k => if k ∈ r then st else if k = c then o9 else sv k) rg2 := by
                            match r, hRr, hmc, hringc, hoth, rt with
                            | [], hRr, hmc, hringc, hoth, rt =>
                              have hx := hG9.upd (β := β) (L := [c]) (s := o9) hβn r9 hRc (by
                                intro k hk
                                simp at hk
                                subst hk
                                exact ⟨hcn, fun j hj => (hmc j).1 hj⟩) hoth
                              have e : (fun k => if k ∈ ([] : List Nat) then st else if k = c then o9 else sv k) = (fun k => if k ∈ [c] then o9 else sv k) := by funext k; simp
                              rw [← e] at hx
                              exact ⟨_, hx⟩
                            | y :: q, hRr, hmc, hringc, hoth, rt =>
                              exact ⟨_, hG9.out hcn hmc hringc.nd hβn r9 rt hRc (hRr.resolve_left (by simp)) hoth⟩
                          obtain ⟨rg2, hGf⟩ := hGf
                          have e : (fun k => if k ∈ ([] : List Nat) then (⟨none, 0, 0⟩ : SV) else if k ∈ r then st else if k = c then o9 else sv k) = (fun k => if k ∈ r then st else if k = c then o9 else sv k) := by funext k; simp
                          have hmf9 := Mem.le_trans hMF6 lF9
                          refine five F9 rs ⟨none, 0, 0⟩ (fun k => if k ∈ r then st else if k = c then o9 else sv k) rg2 [] f (i : Int) α.steps β M' (fun M'' α' q1 q2 => ?_) (by simp) (by simp) RdI.nil hstb.1 hstb.2 hst8 hHj (by rw [e]; exact hGf)
                          rw [e] at q1 q2
                          exact hnx F9 M'' _ _ α' hmf9 q1 q2
                    exact ⟨r.length + 1, nine (r.length + 1) 0 M10 (by omega) (by omega) (by
                      rw [List.take_zero]
                      rw [rsV_congr (sv' := fun j => if j = c then o9 else sv j) (fun k _ => by simp)]
                      exact hH10)⟩
                  refine Out_ok hB7 hringc (fun e M8 β hB8 hs8 => ?_) (fun y q e M8 β hB8 hs8 => ?_)
                  · subst e
                    rw [shI_v, hwant, bs_bne, if_pos rfl]
                    refine rest β M8 (back7 M8 _ hB8) (hs8.n.trans hG.an) (by have := (hs8.steps hstb.1).2; omega) (hs8.ringL (l := [c]) hringc) (.inl rfl) (fun l hl _ => hs8.ringL hl)
                  · subst e
                    rw [shI_v, hwant, bs_bne, if_pos rfl]
                    obtain ⟨q1, q2⟩ := AS.ring_out hringc
                    refine rest β M8 (back7 M8 _ hB8) (hs8.n.trans hG.an) (by have h2 : β.steps ≤ α.steps + 6 := (hs8.steps hstb.1).2; omega) (hs8.ringL (l := [c]) q2) (.inr (hs8.ringL (l := y :: q) q1)) (fun l hl hno => ?_)
                    refine hs8.ringL (AS.RingL.other (AS.RingL.other hl (fun h => hno _ h ?_) (fun h => hno _ h (by simp))) (fun h => hno c h (by simp)) (fun h => hno c h (by simp)))
                    exact List.mem_cons_of_mem _ (AS.last_mem y q)
                split
                · rename_i hgt
                  cases r with
                  | nil => simp at lx; omega
                  | cons y q =>
                    refine rdx W.c3 rx6 hH6.fr 1 (by rfl) (x := (y : Int)) rfl ?_
                    exact out _ rfl
                · rename_i hgt
                  cases r with
                  | nil => exact out _ rfl
                  | cons y q => simp at lx; omega
              · split
                · -- one that is alone
                  split
                  · exact hskip
                  · rename_i hgt
                    have hr0 : r = [] := List.eq_nil_of_length_eq_zero (by omega)
                    subst hr0
                    have hcl := hringc.live c (by simp)
                    refine One_ok hB7 hcl fun M8 β hB8 hs8 => ?_
                    refine fin β M8 F6 s75 [c] hMF6 (back7 M8 _ hB8) hG6 r75 (hs8.ringL (l := [c]) (AS.ring_one hcl)) (fun k hk => ?_) (fun l hl hno => ?_) (hs8.n.trans hG.an) (by have h2 : β.steps ≤ α.steps + 2 := (hs8.steps hstb.1).2; omega)
                    · simp at hk; subst hk
                      exact ⟨hcn, fun j hj => (hmc j).1 hj⟩
                    · exact hs8.ringL (AS.RingL.other hl (fun h => hno c h (by simp)) (fun h => hno c h (by simp)))
                · -- one is put behind another one
                  rw [bs_b]
                  refine ⟨fun hb => ?_, fun _ => hskip⟩
                  rw [hb63] at hb
                  have hdc : d ∉ rg c := of_decide_eq_true hb
                  split
                  · exact hskip
                  · rename_i hgt
                    have hs0 : sd = [] := List.eq_nil_of_length_eq_zero (by omega)
                    subst hs0
                    have hdcr : d ∉ c :: r := fun h => hdc ((hmc d).2 h)
                    have hdl := hringd.live d (by simp)
                    rw [H.J7]
                    unfold thicketlaw6_play.J7.T
                    refine Put_ok hB7 hringc hdl fun M8 β hB8 hs8 => ?_
                    have hH8 := back7 M8 _ hB8
                    have rj := hs8.ring (AS.ring_put hringc hdcr hdl)
                    refine bsl_ints (k := .i64) (l := [(c : Int), (d : Int)]) (Mem.le_refl _) Try.underlying44 W.e3 (n := 2) (by decide) (by kernel_rfl) rfl fun M9 o9 l9 _ h9 => ?_
                    rw [shS_sv]
                    refine ⟨⟨by omega, by omega, by omega⟩, ?_⟩
                    refine app_rd (M0 := M8) (x := ⟨_, _, _⟩) (m := (intsN (c :: r)).drop 1) Try.underlying44 W.e3 l9 h9 ((rx6.le hH8.fr).sub (i := 1) 1 rfl (by omega)) l9 (by simp [intsN]; omega) fun M11 o11 l11 h11 => ?_
                    rw [shS_sv]
                    have hint : [(c : Int), (d : Int)] ++ (intsN (c :: r)).drop 1 = intsN (c :: d :: r) := by simp [intsN]
                    rw [hint] at h11
                    have hltL : ∀ z ∈ c :: d :: r, z < n := fun z hz => by
                      rcases List.mem_cons.1 hz with rfl | hz
                      · exact hcn
                      · rcases List.mem_cons.1 hz with rfl | hz
                        · exact hdn
                        · exact hltc z (List.mem_cons_of_mem _ hz)
                    obtain ⟨F9, lF9, hH9, r9⟩ := hH8.keep l11 h11 (lit1_fits hltL (by omega)) (by simp [intsN]; omega)
                    refine fin β M11 F9 o11 _ (Mem.le_trans hMF6 lF9) hH9 (hG6.le lF9) r9 rj (fun k hk => ⟨hltL k hk, fun j hj => ?_⟩) (fun l hl hno => ?_) (hs8.n.trans hG.an) (by have h2 : β.steps ≤ α.steps + 5 := (hs8.steps hstb.1).2; omega)
                    · by_cases e : k = d
                      · rw [e] at hj
                        have := (hmd j).1 hj
                        simp at this; simp [this]
                      · have hk' : k ∈ c :: r := by
                          rcases List.mem_cons.1 hk with h | h
                          · simp [h]
                          · rcases List.mem_cons.1 h with h | h
                            · exact absurd h e
                            · simp [h]
                        rw [hG.same c hcn k ((hmc k).2 hk')] at hj
                        have := (hmc j).1 hj
                        rcases List.mem_cons.1 this with h | h
                        · simp [h]
                        · simp [h]
                    · refine hs8.ringL (AS.RingL.other (AS.RingL.other hl (fun h => hno c h (by simp)) (fun h => hno d h (by simp))) (fun h => hno d h (by simp)) (fun h => hno _ h ?_))
                      cases r with
                      | nil => simp
                      | cons z q => simp
          by_cases hdc : d ∈ rg c
          · obtain ⟨je, hje⟩ := idx_mem hdc
            refine turned_ok ((hG3.rd c hcn).le hH3.fr) (by omega) (hG.ring c hcn).nd hje fun M4 s61 l4 h61 => ?_
            rw [shS_sv]
            rw [rot_eq hje] at h61
            rw [W.eqs44, ob_v, shB_v, h61.some]
            rw [← ead]
            exact main false M4 (by simp [hdc]) (hH3.le l4)
          · refine turned_no ((hG3.rd c hcn).le hH3.fr) (by omega) hdc ?_
            rw [shS_v]
            rw [show (std PP w0).bq .eql 44 _ _ (SV.v ⟨none, 0, 0⟩) (.slice none 0 0) = some (.bool true) from W.eqs44 _, ob_v, shB_v]
            rw [← ead]
            exact main true M3 (by simp [hdc]) hH3
        · exact hfin
      · exact hfin
  -- all cells, each a ring of its own
  have two : ∀ (f i : Nat) (F M' : Mem) (rs : SV) (sv : Nat → SV) (α : AS), n < i + f → i ≤ n → Mem.le M F → Holds w0 F M' (star (SlA rs (rsV n sv)) (arenaA a α)) → α.n = n → α.free = [] → α.never = i → (∀ k, k < i → RdI w0 F .i64 (sv k) (intsN [k])) → (∀ k, k < i → α.RingL [k]) →
      thicketlaw6_play.L2 pts f (n : Int) s (some ⟨a, 0, none⟩) rs (i : Int) M' := by
    intro f
    induction f with
    | zero => intro i F M' rs sv α g1 g2; omega
    | succ f ih =>
      intro i F M' rs sv α g1 g2 hMF hH hαn hαf hαi hrd hring
      rw [H.L2]
      unfold thicketlaw6_play.L2.T
      rw [bs_decide]
      split
      · have hi : i < n := by omega
        obtain ⟨F', hB, _, back⟩ := hH.last
        rw [← hαi]
        refine TakeOne_ok hB hαf (by omega) fun M2 β hB2 b2 => ?_
        rw [hαi] at b2 ⊢
        have hH2 := back M2 _ hB2
        refine bsl_ints (k := .i64) (l := [(i : Int)]) (Mem.le_refl _) Try.underlying44 W.e3 (n := 1) (by decide) (by kernel_rfl) rfl fun M3 o3 l3 _ h3 => ?_
        rw [shS_sv]
        obtain ⟨F3, lF3, hH3, r3⟩ := hH2.keep l3 h3 (wf_all (by simp [In64]; omega)) (by simp)
        refine st1 W.c44 hH3 i rfl (by simp [rsV]; omega) rfl rfl fun M4 hH4 => ?_
        rw [rsV_set] at hH4
        rw [w64_in (by omega)]
        refine ih (i + 1) F3 M4 rs _ β (by omega) (by omega) (Mem.le_trans hMF lF3) hH4 (b2.n.trans hαn) b2.free b2.never (fun k hk => ?_) (fun k hk => ?_)
        · show RdI w0 F3 .i64 (if k = i then o3 else sv k) (intsN [k])
          by_cases e : k = i
          · rw [if_pos e, e]; exact r3
          · rw [if_neg e]; exact (hrd k (by omega)).le lF3
        · by_cases e : k = i
          · rw [e]; exact b2.one
          · exact b2.old _ (hring k (by omega))
      · have hi : i = n := by omega
        subst hi
        exact ⟨61, three 61 0 F M' rs sv (fun k => [k]) α (by omega) (by omega) hMF hH ⟨hαn, hrd, fun k _ => by simp, hring, fun k hk j hj => by simp at hj; omega, fun k _ j hj => by simp at hj; rw [hj]⟩⟩
  obtain ⟨i0, hi0, hz0, z1, z2, z3, z4⟩ := W.e44
  refine mks_ok Try.underlying86 hi0 hz0 (by rw [z1]; exact z2) (Nat.le_refl _) (Nat.le_trans (Nat.mul_le_mul z4 (show n ≤ 1000 by omega)) (by decide)) (by omega) fun b hb hw => ?_
  rw [shS_v]
  have hsl : Sl w0 M1 (M1.set b (.row (zeros (.slice none 0 0) n) 44)) ⟨some ⟨b, 0, none⟩, n, n⟩ (rsV n fun _ => ⟨none, 0, 0⟩) := by
    refine .inr ⟨b, [], 44, by simp [rsV], hb, ?_⟩
    rw [zeros_one (by rfl), List.append_nil]
    have e : (rsV n fun _ => ⟨none, 0, 0⟩) = List.replicate n (.slice none 0 0) := by
      apply List.ext_getElem
      · simp [rsV]
      · intro j h1 h2
        simp [rsV, SV.v]
    rw [e]
    exact Own.new hw
  exact ⟨n + 1, two (n + 1) 0 M _ _ (fun _ => ⟨none, 0, 0⟩) (AS.new n) (by omega) (by omega) (Mem.le_refl _) (hA.newSl (Mem.le_set _ hb) hsl) rfl rfl rfl (fun k hk => by omega) (fun k hk => by omega)⟩

end
end Go.Proofs.Ytoeijcmpkfjbfaa.HL
