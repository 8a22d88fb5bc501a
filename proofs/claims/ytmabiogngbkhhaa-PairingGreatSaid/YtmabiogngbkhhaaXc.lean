import Derived.Test.YtmabiogngbkhhaaXb
/-
  PrM: pairing heaps, in plain Lean, with no program in sight: l is what is below a node, r what is beside it.
-/
set_option linter.unusedVariables false
set_option linter.unusedSimpArgs false
namespace Go.Proofs.Ytmabiogngbkhhaa.HL

inductive LT where
  | nil
  | node (n i : Nat) (e : Ent) (l r : LT)

namespace LT
def root : LT → Int
  | nil => -1
  | node n _ _ _ _ => (n : Int)
def its : LT → List Held
  | nil => []
  | node _ i e l r => (i, e) :: (its l ++ its r)
def nds : LT → List Nat
  | nil => []
  | node n _ _ l r => n :: (nds l ++ nds r)
def cells : LT → List Nat
  | nil => []
  | node n i _ l r => n :: i :: (cells l ++ cells r)
def Od : LT → Prop
  | nil => True
  | node _ i e l r => (∀ x ∈ its l, Bf (i, e) x) ∧ Od l ∧ Od r
/-- Nothing is beside it. -/
def Rt : LT → Prop
  | nil => True
  | node _ _ _ _ r => r = nil
def sz : LT → Nat
  | nil => 0
  | node _ _ _ l r => sz l + sz r + 1
def ph : LT → Nat
  | nil => 0
  | node _ _ _ l r => bl (sz l + sz r + 1) + ph l + ph r

theorem sz_its : ∀ (t : LT), sz t = (its t).length
  | nil => rfl
  | node n i e l r => by simp only [sz, its, List.length_cons, List.length_append, sz_its l, sz_its r]
theorem nds_len : ∀ (t : LT), (nds t).length = (its t).length
  | nil => rfl
  | node n i e l r => by simp only [nds, its, List.length_cons, List.length_append, nds_len l, nds_len r]
theorem cells_len : ∀ (t : LT), (cells t).length = 2 * (its t).length
  | nil => rfl
  | node n i e l r => by simp only [cells, its, List.length_cons, List.length_append, cells_len l, cells_len r]; omega
theorem mem_nds : ∀ {t : LT} {x : Nat}, x ∈ nds t → x ∈ cells t
  | nil, x, h => by cases h
  | node n i e l r, x, h => by
    simp only [nds, cells, List.mem_cons, List.mem_append] at h ⊢
    rcases h with h | h | h
    · exact .inl h
    · exact .inr (.inr (.inl (mem_nds h)))
    · exact .inr (.inr (.inr (mem_nds h)))
theorem mem_its : ∀ {t : LT} {x : Held}, x ∈ its t → x.1 ∈ cells t
  | nil, x, h => by cases h
  | node n i e l r, x, h => by
    simp only [its, cells, List.mem_cons, List.mem_append] at h ⊢
    rcases h with h | h | h
    · exact .inr (.inl (by rw [h]))
    · exact .inr (.inr (.inl (mem_its h)))
    · exact .inr (.inr (.inr (mem_its h)))

/-- What stands in memory: what is above, what is beside, to the left. -/
def Rep (α : AS) : Int → Int → LT → Prop
  | _, _, nil => True
  | up, lf, node n i e l r => α.Nd n i e ∧ α.get n 0 = up ∧ α.get n 1 = l.root ∧ α.get n 2 = lf ∧ α.get n 3 = r.root ∧ Rep α n (-1) l ∧ Rep α up n r
theorem Rep.congr {α β : AS} : ∀ {t : LT} {up lf : Int}, Rep α up lf t → (∀ c ∈ cells t, ∀ f, β.get c f = α.get c f) → (∀ c ∈ cells t, β.live c = α.live c) → Rep β up lf t
  | nil, _, _, _, _, _ => trivial
  | node n i e l r, up, lf, h, hg, hl => by
    obtain ⟨h1, h2, h3, h4, h5, h7, h8⟩ := h
    simp only [cells, List.mem_cons, List.mem_append] at hg hl
    refine ⟨h1.congr (hg n (.inl rfl)) (hg i (.inr (.inl rfl))) (hl n (.inl rfl)) (hl i (.inr (.inl rfl))), ?_, ?_, ?_, ?_, ?_, ?_⟩
    · rw [hg n (.inl rfl)]; exact h2
    · rw [hg n (.inl rfl)]; exact h3
    · rw [hg n (.inl rfl)]; exact h4
    · rw [hg n (.inl rfl)]; exact h5
    · exact h7.congr (fun c hc => hg c (.inr (.inr (.inl hc)))) (fun c hc => hl c (.inr (.inr (.inl hc))))
    · exact h8.congr (fun c hc => hg c (.inr (.inr (.inr hc)))) (fun c hc => hl c (.inr (.inr (.inr hc))))
theorem Rep.chg {α β : AS} {S : Nat → Prop} {k : Int} {t : LT} {up lf : Int} (h : Rep α up lf t) (hc : AS.Chg S k α β) (hS : ∀ c ∈ cells t, ¬ S c) : Rep β up lf t :=
  h.congr (fun c hm f => hc.get c (hS c hm) f) (fun c hm => by rw [hc.live])
/-- What is to the left of the first one is another one from now on. -/
theorem Rep.left {α β : AS} {t : LT} {up lf lf' : Int} (h : Rep α up lf t) (hn : (cells t).Nodup) (h0 : ∀ n : Nat, t.root = (n : Int) → β.get n 2 = lf') (hg : ∀ c ∈ cells t, ∀ f, ((c : Int) ≠ t.root ∨ f ≠ 2) → β.get c f = α.get c f) (hl : ∀ c ∈ cells t, β.live c = α.live c) : Rep β up lf' t := by
  cases t with
  | nil => trivial
  | node n i e l r =>
    obtain ⟨h1, h2, h3, h4, h5, h7, h8⟩ := h
    simp only [cells, List.nodup_cons, List.mem_cons, List.mem_append, not_or] at hg hl hn
    have hne : ∀ f, f ≠ 2 → β.get n f = α.get n f := fun f hf => hg n (.inl rfl) f (.inr hf)
    have hq : ∀ c : Nat, c ≠ n → (c : Int) ≠ (node n i e l r).root := fun c hc e => hc (by simp only [root] at e; omega)
    have hi : ∀ f, β.get i f = α.get i f := fun f => hg i (.inr (.inl rfl)) f (.inl (hq i (fun e => hn.1.1 e.symm)))
    refine ⟨⟨(hl n (.inl rfl)).trans h1.ln, (hl i (.inr (.inl rfl))).trans h1.li, (hne 6 (by decide)).trans h1.it, (hi 9).trans h1.nd, (hi 7).trans h1.k, (hi 8).trans h1.s⟩, (hne 0 (by decide)).trans h2, (hne 1 (by decide)).trans h3, h0 n rfl, (hne 3 (by decide)).trans h5, ?_, ?_⟩
    · exact h7.congr (fun c hc f => hg c (.inr (.inr (.inl hc))) f (.inl (hq c (fun e => hn.1.2.1 (e ▸ hc))))) (fun c hc => hl c (.inr (.inr (.inl hc))))
    · exact h8.congr (fun c hc f => hg c (.inr (.inr (.inr hc))) f (.inl (hq c (fun e => hn.1.2.2 (e ▸ hc))))) (fun c hc => hl c (.inr (.inr (.inr hc))))
theorem Rep.live {α : AS} : ∀ {t : LT} {up lf : Int}, Rep α up lf t → ∀ c ∈ cells t, α.live c = true
  | nil, _, _, _, c, hc => by cases hc
  | node n i e l r, up, lf, h, c, hc => by
    obtain ⟨h1, h2, h3, h4, h5, h7, h8⟩ := h
    simp only [cells, List.mem_cons, List.mem_append] at hc
    rcases hc with rfl | rfl | hc | hc
    · exact h1.ln
    · exact h1.li
    · exact h7.live c hc
    · exact h8.live c hc
theorem Rep.rootv {α : AS} {t : LT} {up lf : Int} (h : Rep α up lf t) : t.root = -1 ∨ ∃ y : Nat, t.root = (y : Int) ∧ α.live y = true := by
  cases t with
  | nil => exact .inl rfl
  | node n i e l r => exact .inr ⟨n, rfl, h.1.ln⟩
theorem root_mem {t : LT} {n : Nat} (h : t.root = (n : Int)) : n ∈ cells t := by
  cases t with
  | nil => simp only [root] at h; omega
  | node m i e l r =>
    simp only [root] at h
    have : m = n := by omega
    subst this
    simp [cells]
theorem root_nil {t : LT} (h : t.root = -1) : t = nil := by
  cases t with
  | nil => rfl
  | node m i e l r => simp only [root] at h; omega
theorem root_ge (t : LT) : -1 ≤ t.root := by cases t <;> simp only [root] <;> omega

/-! Two become one. -/
def lk : LT → LT → LT
  | nil, s => s
  | t, nil => t
  | node n i e l _, node m j f b _ => if Bf (j, f) (i, e) then node m j f (node n i e l b) nil else node n i e (node m j f b l) nil
theorem lk_nn (n i : Nat) (e : Ent) (l r : LT) (m j : Nat) (f : Ent) (b r2 : LT) : lk (node n i e l r) (node m j f b r2) = if Bf (j, f) (i, e) then node m j f (node n i e l b) nil else node n i e (node m j f b l) nil := rfl
theorem lk_nil (t : LT) : lk t nil = t := by cases t <;> rfl
theorem lk_its {t s : LT} (ht : Rt t) (hs : Rt s) : (its (lk t s)).Perm (its t ++ its s) := by
  cases t with
  | nil => exact List.Perm.refl _
  | node n i e l r =>
    cases s with
    | nil => rw [lk_nil]; simp [its]
    | node m j f b r2 =>
      cases ht; cases hs
      rw [lk_nn]
      split
      · simp only [its, List.append_nil]
        refine List.Perm.trans (List.Perm.swap _ _ _) ?_
        rw [List.cons_append]
        refine List.Perm.cons _ ?_
        refine List.Perm.trans ?_ List.perm_middle.symm
        exact List.Perm.refl _
      · simp only [its, List.append_nil, List.cons_append]
        refine List.Perm.cons _ ?_
        refine List.Perm.trans ?_ List.perm_middle.symm
        exact List.Perm.cons _ List.perm_append_comm
theorem lk_cells {t s : LT} (ht : Rt t) (hs : Rt s) : (cells (lk t s)).Perm (cells t ++ cells s) := by
  cases t with
  | nil => exact List.Perm.refl _
  | node n i e l r =>
    cases s with
    | nil => rw [lk_nil]; simp [cells]
    | node m j f b r2 =>
      cases ht; cases hs
      rw [lk_nn]
      have h2 : ∀ (x y z w : List Nat) (a b c d : Nat), (a :: b :: c :: d :: (x ++ y)).Perm (a :: b :: (y ++ c :: d :: x)) := fun x y z w a b c d =>
        List.Perm.cons _ (List.Perm.cons _ ((List.Perm.cons _ (List.Perm.cons _ List.perm_append_comm)).trans ((List.Perm.cons _ List.perm_middle.symm).trans List.perm_middle.symm)))
      split
      · simp only [cells, List.append_nil]
        refine (h2 (cells l) (cells b) [] [] m j n i).trans ?_
        refine List.Perm.trans ?_ List.perm_append_comm
        simp only [List.cons_append]
        exact List.Perm.refl _
      · simp only [cells, List.append_nil, List.cons_append]
        exact h2 (cells b) (cells l) [] [] n i m j
theorem lk_rt {t s : LT} (ht : Rt t) (hs : Rt s) : Rt (lk t s) := by
  cases t with
  | nil => exact hs
  | node n i e l r =>
    cases s with
    | nil => exact ht
    | node m j f b r2 => rw [lk_nn]; split <;> rfl
theorem lk_od {t s : LT} (ht : Rt t) (hs : Rt s) (h1 : Od t) (h2 : Od s) (hd : ∀ x ∈ its t, ∀ y ∈ its s, x.1 ≠ y.1) : Od (lk t s) := by
  cases t with
  | nil => exact h2
  | node n i e l r =>
    cases s with
    | nil => exact h1
    | node m j f b r2 =>
      cases ht; cases hs
      obtain ⟨a1, a2, _⟩ := h1
      obtain ⟨b1, b2, _⟩ := h2
      rw [lk_nn]
      split
      · rename_i hb
        refine ⟨fun x hx => ?_, ⟨a1, a2, b2⟩, trivial⟩
        simp only [its, List.mem_cons, List.mem_append] at hx
        rcases hx with rfl | hx | hx
        · exact hb
        · exact hb.tr (a1 x hx)
        · exact b1 x hx
      · rename_i hb
        have hb2 : Bf (i, e) (j, f) := Bf.tot hb (fun e => hd _ List.mem_cons_self _ List.mem_cons_self e.symm)
        refine ⟨fun x hx => ?_, ⟨b1, b2, a2⟩, trivial⟩
        simp only [its, List.mem_cons, List.mem_append] at hx
        rcases hx with rfl | hx | hx
        · exact hb2
        · exact hb2.tr (b1 x hx)
        · exact a1 x hx
theorem lk_sz {t s : LT} (ht : Rt t) (hs : Rt s) : sz (lk t s) = sz t + sz s := by
  rw [sz_its, (lk_its ht hs).length_eq, List.length_append, ← sz_its, ← sz_its]

/-- What is won where two are added. -/
theorem bl_gain {x y : Nat} (hx : 1 ≤ x) (hy : 1 ≤ y) : bl x + bl y + 1 ≤ 2 * bl (x + y) := by
  have key : ∀ {x y : Nat}, 1 ≤ x → x ≤ y → bl x + bl y + 1 ≤ 2 * bl (x + y) := by
    intro x y hx hxy
    have h1 := bl_mono hxy
    have h2 : bl y ≤ bl (x + y) := bl_mono (by omega)
    by_cases h : bl x = bl y
    · obtain ⟨a1, a2⟩ := bl_pos (n := x) (by omega)
      obtain ⟨b1, b2⟩ := bl_pos (n := y) (by omega)
      have h3 : 1 ≤ bl x := by unfold bl; rw [if_neg (by omega)]; omega
      have h4 : 2 ^ bl y ≤ x + y := by
        have e : 2 ^ bl y = 2 ^ (bl y - 1) + 2 ^ (bl y - 1) := by
          rw [← Nat.two_mul, ← Nat.pow_succ']; congr 1; omega
        rw [h] at a1; omega
      have := bl_pow h4
      omega
    · omega
  by_cases h : x ≤ y
  · exact key hx h
  · have := key hy (show y ≤ x by omega)
    rw [Nat.add_comm y x] at this; omega
theorem bl_one {n : Nat} (h : 1 ≤ n) : 1 ≤ bl n := by unfold bl; rw [if_neg (by omega)]; omega

theorem lk_ph {t s : LT} (ht : Rt t) (hs : Rt s) : ph (lk t s) ≤ ph t + ph s + 2 * bl (sz t + sz s) := by
  cases t with
  | nil => show ph s ≤ _; omega
  | node n i e l r =>
    cases s with
    | nil => rw [lk_nil]; omega
    | node m j f b r2 =>
      cases ht; cases hs
      rw [lk_nn]
      have h1 : bl (sz l + sz b + 1) ≤ bl (sz l + 1 + (sz b + 1)) := bl_mono (by omega)
      have h2 : bl (sz b + sz l + 1) ≤ bl (sz l + 1 + (sz b + 1)) := bl_mono (by omega)
      have e1 : sz l + sz b + 1 + 1 = sz l + 1 + (sz b + 1) := by omega
      have e2 : sz b + sz l + 1 + 1 = sz l + 1 + (sz b + 1) := by omega
      split
      · simp only [ph, sz, Nat.add_zero, e1]; omega
      · simp only [ph, sz, Nat.add_zero, e2]; omega

/-! Roots beside each other. -/
def row : LT → List LT
  | nil => []
  | node n i e l r => node n i e l nil :: row r
def rts : LT → List Nat
  | nil => []
  | node n _ _ _ r => n :: rts r
def rtl (ts : List LT) : List Int := ts.map root
theorem row_rts : ∀ (t : LT), rtl (row t) = (rts t).map fun (c : Nat) => (c : Int)
  | nil => rfl
  | node n i e l r => by
    have := row_rts r
    simp only [rtl] at this
    simp only [row, rts, rtl, List.map_cons, root, this]
def szL : List LT → Nat
  | [] => 0
  | t :: ts => sz t + szL ts
/-- What a row of roots has saved up. -/
def cp : List LT → Nat
  | [] => 0
  | t :: ts => bl (sz t + szL ts) + (ph t - bl (sz t)) + cp ts
theorem row_sz : ∀ (t : LT), szL (row t) = sz t
  | nil => rfl
  | node n i e l r => by simp only [row, szL, sz, row_sz r]; omega
theorem row_cp : ∀ (t : LT), cp (row t) = ph t
  | nil => rfl
  | node n i e l r => by
    simp only [row, cp, sz, ph, row_sz, row_cp r]
    have : sz l + 0 + 1 + sz r = sz l + sz r + 1 := by omega
    rw [this]; simp only [Nat.add_zero]; omega
theorem row_rt : ∀ (t : LT), ∀ s ∈ row t, Rt s ∧ s ≠ nil
  | nil, s, h => by cases h
  | node n i e l r, s, h => by
    rcases List.mem_cons.1 h with rfl | h
    · exact ⟨rfl, fun e => by cases e⟩
    · exact row_rt r s h
def itsL (ts : List LT) : List Held := ts.flatMap its
def cellsL (ts : List LT) : List Nat := ts.flatMap cells
theorem row_its : ∀ (t : LT), itsL (row t) = its t
  | nil => rfl
  | node n i e l r => by
    have := row_its r
    simp only [itsL] at this
    simp [itsL, row, its, this]
theorem row_cells : ∀ (t : LT), cellsL (row t) = cells t
  | nil => rfl
  | node n i e l r => by
    have := row_cells r
    simp only [cellsL] at this
    simp [cellsL, row, cells, this]
theorem row_od : ∀ {t : LT}, Od t → ∀ s ∈ row t, Od s
  | nil, _, s, hs => by cases hs
  | node n i e l r, h, s, hs => by
    rcases List.mem_cons.1 hs with rfl | hs
    · exact ⟨h.1, h.2.1, trivial⟩
    · exact row_od h.2.2 s hs

def pairUp : List LT → List LT
  | t :: s :: ts => lk t s :: pairUp ts
  | ts => ts
def comb : List LT → LT
  | [] => nil
  | t :: ts => lk t (comb ts)
theorem ph_ge : ∀ {t : LT}, bl (sz t) ≤ ph t
  | nil => by simp [bl, sz]
  | node n i e l r => by simp only [sz, ph]; omega
theorem sz_pos {t : LT} (h : t ≠ nil) : 1 ≤ sz t := by
  cases t with
  | nil => exact absurd rfl h
  | node n i e l r => simp only [sz]; omega
/-- What two roots have saved up beneath, behind one link. -/
theorem lk_low {t s : LT} (ht : Rt t) (hs : Rt s) (h1 : t ≠ nil) (h2 : s ≠ nil) : ph (lk t s) - bl (sz t + sz s) = bl (sz t + sz s - 1) + (ph t - bl (sz t)) + (ph s - bl (sz s)) ∧ lk t s ≠ nil := by
  cases t with
  | nil => exact absurd rfl h1
  | node n i e l r =>
    cases s with
    | nil => exact absurd rfl h2
    | node m j f b r2 =>
      cases ht; cases hs
      rw [lk_nn]
      have e1 : sz l + sz b + 1 + 1 = sz l + 1 + (sz b + 1) := by omega
      have e2 : sz b + sz l + 1 + 1 = sz l + 1 + (sz b + 1) := by omega
      have e3 : sz l + 1 + (sz b + 1) - 1 = sz l + sz b + 1 := by omega
      have e4 : sz b + sz l + 1 = sz l + sz b + 1 := by omega
      split
      · refine ⟨?_, fun e => by cases e⟩
        simp only [ph, sz, Nat.add_zero, e1, e3]; omega
      · refine ⟨?_, fun e => by cases e⟩
        simp only [ph, sz, Nat.add_zero, e2, e3]; rw [e4]; omega
theorem pair_sz : ∀ {ts : List LT}, (∀ t ∈ ts, Rt t ∧ t ≠ nil) → szL (pairUp ts) = szL ts
  | [], _ => rfl
  | [t], _ => rfl
  | t :: s :: ts, h => by
    have h1 := (h t (by simp)).1
    have h2 := (h s (by simp)).1
    simp only [pairUp, szL, lk_sz h1 h2, pair_sz (ts := ts) (fun x hx => h x (by simp [hx]))]; omega
theorem pair_rt : ∀ {ts : List LT}, (∀ t ∈ ts, Rt t ∧ t ≠ nil) → ∀ t ∈ pairUp ts, Rt t ∧ t ≠ nil
  | [], h => h
  | [t], h => h
  | t :: s :: ts, h => by
    have h1 := h t (by simp)
    have h2 := h s (by simp)
    intro x hx
    rcases List.mem_cons.1 hx with rfl | hx
    · exact ⟨lk_rt h1.1 h2.1, (lk_low h1.1 h2.1 h1.2 h2.2).2⟩
    · exact pair_rt (ts := ts) (fun x hx => h x (by simp [hx])) x hx
theorem pair_cp : ∀ {ts : List LT}, (∀ t ∈ ts, Rt t ∧ t ≠ nil) → cp (pairUp ts) + ts.length / 2 ≤ cp ts + 2 * bl (szL ts)
  | [], _ => by simp [pairUp, cp]
  | [t], _ => by simp only [pairUp, cp, List.length_singleton]; omega
  | t :: s :: ts, h => by
    have h1 := h t (by simp)
    have h2 := h s (by simp)
    have h3 : ∀ x ∈ ts, Rt x ∧ x ≠ nil := fun x hx => h x (by simp [hx])
    have ih := pair_cp h3
    have l1 := lk_low h1.1 h2.1 h1.2 h2.2
    have s1 := sz_pos h1.2
    have s2 := sz_pos h2.2
    simp only [pairUp, cp, szL, List.length_cons, pair_sz h3, lk_sz h1.1 h2.1, l1.1]
    rw [show sz t + sz s + szL ts = sz t + (sz s + szL ts) from by omega]
    have hl : (ts.length + 1 + 1) / 2 = ts.length / 2 + 1 := by omega
    rw [hl]
    suffices hx : bl (sz t + sz s - 1) + 1 + 2 * bl (szL ts) ≤ bl (sz s + szL ts) + 2 * bl (sz t + (sz s + szL ts)) by omega
    by_cases hu : szL ts = 0
    · rw [hu]
      have b1 := bl_one (n := sz s + 0) (by omega)
      have b2 : bl (sz t + sz s - 1) ≤ bl (sz t + (sz s + 0)) := bl_mono (by omega)
      have b3 : bl 0 = 0 := rfl
      omega
    · have b1 := bl_gain (x := sz t + sz s - 1) (y := szL ts) (by omega) (by omega)
      have b2 : bl (sz t + sz s - 1 + szL ts) ≤ bl (sz t + (sz s + szL ts)) := bl_mono (by omega)
      have b3 : bl (szL ts) ≤ bl (sz s + szL ts) := bl_mono (by omega)
      omega
theorem comb_sz : ∀ {ts : List LT}, (∀ t ∈ ts, Rt t ∧ t ≠ nil) → sz (comb ts) = szL ts ∧ Rt (comb ts)
  | [], _ => ⟨rfl, trivial⟩
  | t :: ts, h => by
    have h1 := (h t (by simp)).1
    have ih := comb_sz (ts := ts) (fun x hx => h x (by simp [hx]))
    simp only [comb, szL]
    exact ⟨by rw [lk_sz h1 ih.2, ih.1], lk_rt h1 ih.2⟩
theorem comb_ph : ∀ {ts : List LT}, (∀ t ∈ ts, Rt t ∧ t ≠ nil) → ph (comb ts) ≤ cp ts + bl (szL ts)
  | [], _ => by simp [comb, ph]
  | t :: ts, h => by
    have h1 := h t (by simp)
    have h3 : ∀ x ∈ ts, Rt x ∧ x ≠ nil := fun x hx => h x (by simp [hx])
    have ih := comb_ph h3
    obtain ⟨c1, c2⟩ := comb_sz h3
    have p1 := ph_ge (t := t)
    simp only [comb, cp, szL]
    by_cases hn : comb ts = nil
    · rw [hn, lk_nil]
      have : bl (sz t) ≤ bl (sz t + szL ts) := bl_mono (by omega)
      omega
    · have l1 := lk_low h1.1 c2 h1.2 hn
      have p2 := ph_ge (t := comb ts)
      have p3 := ph_ge (t := lk t (comb ts))
      rw [lk_sz h1.1 c2, c1] at p3
      rw [c1] at l1 p2
      have b1 : bl (sz t + szL ts - 1) ≤ bl (sz t + szL ts) := bl_mono (by omega)
      omega
theorem pair_its : ∀ {ts : List LT}, (∀ t ∈ ts, Rt t ∧ t ≠ nil) → (itsL (pairUp ts)).Perm (itsL ts) ∧ (cellsL (pairUp ts)).Perm (cellsL ts)
  | [], _ => ⟨List.Perm.refl _, List.Perm.refl _⟩
  | [t], _ => ⟨List.Perm.refl _, List.Perm.refl _⟩
  | t :: s :: ts, h => by
    have h1 := (h t (by simp)).1
    have h2 := (h s (by simp)).1
    have ih := pair_its (ts := ts) (fun x hx => h x (by simp [hx]))
    simp only [pairUp, itsL, cellsL, List.flatMap_cons] at ih ⊢
    rw [← List.append_assoc, ← List.append_assoc]
    exact ⟨(lk_its h1 h2).append ih.1, (lk_cells h1 h2).append ih.2⟩
theorem comb_its : ∀ {ts : List LT}, (∀ t ∈ ts, Rt t ∧ t ≠ nil) → (its (comb ts)).Perm (itsL ts) ∧ (cells (comb ts)).Perm (cellsL ts)
  | [], _ => ⟨List.Perm.refl _, List.Perm.refl _⟩
  | t :: ts, h => by
    have h1 := (h t (by simp)).1
    have h3 : ∀ x ∈ ts, Rt x ∧ x ≠ nil := fun x hx => h x (by simp [hx])
    have ih := comb_its h3
    have c2 := (comb_sz h3).2
    simp only [comb, itsL, cellsL, List.flatMap_cons] at ih ⊢
    exact ⟨(lk_its h1 c2).trans (ih.1.append_left _), (lk_cells h1 c2).trans (ih.2.append_left _)⟩
end LT
end Go.Proofs.Ytmabiogngbkhhaa.HL

/-
  PrN: what lies about a node of a pairing heap; a node that leaves its place.
-/
set_option linter.unusedVariables false
set_option linter.unusedSimpArgs false
namespace Go.Proofs.Ytmabiogngbkhhaa.HL
namespace LT

structure Cx where
  n : Nat
  i : Nat
  e : Ent
  /-- What is looked at is below the node, not beside it. -/
  l : Bool
  o : LT
def Cx.put (c : Cx) (t : LT) : LT := if c.l then node c.n c.i c.e t c.o else node c.n c.i c.e c.o t
def plug : List Cx → LT → LT
  | [], t => t
  | c :: cs, t => plug cs (c.put t)
/-- What is above, and to the left. -/
def hu : List Cx → Int
  | [] => -1
  | c :: cs => if c.l then (c.n : Int) else hu cs
def hl : List Cx → Int
  | [] => -1
  | c :: _ => if c.l then -1 else (c.n : Int)
def itsC : List Cx → List Held
  | [] => []
  | c :: cs => (c.i, c.e) :: (its c.o ++ itsC cs)
def ndsC : List Cx → List Nat
  | [] => []
  | c :: cs => c.n :: (nds c.o ++ ndsC cs)
def cellsC : List Cx → List Nat
  | [] => []
  | c :: cs => c.n :: c.i :: (cells c.o ++ cellsC cs)

theorem Cx.put_root (c : Cx) (t : LT) : (c.put t).root = c.n := by unfold put; split <;> rfl
theorem Cx.put_its (c : Cx) (t : LT) : (its (c.put t)).Perm ((c.i, c.e) :: (its c.o ++ its t)) := by
  unfold put; split
  · exact List.Perm.cons _ List.perm_append_comm
  · exact List.Perm.refl _
theorem Cx.put_nds (c : Cx) (t : LT) : (nds (c.put t)).Perm (c.n :: (nds c.o ++ nds t)) := by
  unfold put; split
  · exact List.Perm.cons _ List.perm_append_comm
  · exact List.Perm.refl _
theorem Cx.put_cells (c : Cx) (t : LT) : (cells (c.put t)).Perm (c.n :: c.i :: (cells c.o ++ cells t)) := by
  unfold put; split
  · exact List.Perm.cons _ (List.Perm.cons _ List.perm_append_comm)
  · exact List.Perm.refl _
theorem Cx.put_sz (c : Cx) (t : LT) : sz (c.put t) = sz c.o + sz t + 1 := by unfold put; split <;> simp only [sz] <;> omega
theorem Cx.put_ph (c : Cx) (t : LT) : ph (c.put t) = bl (sz c.o + sz t + 1) + ph c.o + ph t := by
  unfold put; split
  · simp only [ph]; rw [Nat.add_comm (sz t)]; omega
  · simp only [ph]
theorem plug_its : ∀ (cs : List Cx) (t : LT), (its (plug cs t)).Perm (itsC cs ++ its t)
  | [], t => List.Perm.refl _
  | c :: cs, t => by
    refine (plug_its cs (c.put t)).trans ?_
    refine ((c.put_its t).append_left _).trans ?_
    refine List.perm_middle.trans ?_
    show List.Perm _ ((c.i, c.e) :: ((its c.o ++ itsC cs) ++ its t))
    refine List.Perm.cons _ ?_
    rw [← List.append_assoc]
    exact List.perm_append_comm.append_right _
theorem plug_nds : ∀ (cs : List Cx) (t : LT), (nds (plug cs t)).Perm (ndsC cs ++ nds t)
  | [], t => List.Perm.refl _
  | c :: cs, t => by
    refine (plug_nds cs (c.put t)).trans ?_
    refine ((c.put_nds t).append_left _).trans ?_
    refine List.perm_middle.trans ?_
    show List.Perm _ (c.n :: ((nds c.o ++ ndsC cs) ++ nds t))
    refine List.Perm.cons _ ?_
    rw [← List.append_assoc]
    exact List.perm_append_comm.append_right _
theorem two_mid {β : Type} (a b : β) (x y z : List β) : (x ++ a :: b :: (y ++ z)).Perm (a :: b :: ((y ++ x) ++ z)) := by
  refine List.perm_middle.trans (List.Perm.cons _ (List.perm_middle.trans (List.Perm.cons _ ?_)))
  rw [← List.append_assoc]
  exact List.perm_append_comm.append_right _
theorem plug_cells : ∀ (cs : List Cx) (t : LT), (cells (plug cs t)).Perm (cellsC cs ++ cells t)
  | [], t => List.Perm.refl _
  | c :: cs, t => (plug_cells cs (c.put t)).trans (((c.put_cells t).append_left _).trans (two_mid _ _ _ _ _))
theorem plug_root : ∀ (c : Cx) (cs : List Cx) (t s : LT), (plug (c :: cs) t).root = (plug (c :: cs) s).root
  | c, [], t, s => by simp only [plug, Cx.put_root]
  | c, d :: cs, t, s => plug_root d cs (c.put t) (c.put s)
theorem plug_nat : ∀ (c : Cx) (cs : List Cx) (t : LT), ∃ d : Nat, d ∈ cellsC (c :: cs) ∧ (plug (c :: cs) t).root = (d : Int)
  | c, [], t => ⟨c.n, by simp [cellsC], by simp only [plug, Cx.put_root]⟩
  | c, d :: cs, t => by
    obtain ⟨x, h1, h2⟩ := plug_nat d cs (c.put t)
    refine ⟨x, ?_, h2⟩
    show x ∈ c.n :: c.i :: (cells c.o ++ cellsC (d :: cs))
    simp [h1]
theorem plug_ne (c : Cx) (cs : List Cx) (t : LT) : plug (c :: cs) t ≠ nil := by
  obtain ⟨d, _, h⟩ := plug_nat c cs t
  intro e
  rw [e] at h
  simp only [root] at h
  omega
theorem put_ne (c : Cx) (t : LT) : c.put t ≠ nil := plug_ne c [] t
theorem plug_rt : ∀ {c : Cx} {cs : List Cx} {t : LT} (s : LT), t ≠ nil → Rt (plug (c :: cs) t) → Rt (plug (c :: cs) s)
  | c, [], t, s, hn, h => by
    simp only [plug, Cx.put] at h ⊢
    split at h
    · rename_i hc; rw [if_pos hc]; exact h
    · exact absurd h hn
  | c, d :: cs, t, s, hn, h => plug_rt (c := d) (cs := cs) (t := c.put t) (c.put s) (put_ne c t) h
theorem plug_top : ∀ {c : Cx} {cs : List Cx} {t : LT}, t ≠ nil → Rt (plug (c :: cs) t) → ∃ y : Nat, hu (c :: cs) = (y : Int) ∧ y ∈ cellsC (c :: cs)
  | c, [], t, hn, h => by
    simp only [plug, Cx.put] at h
    split at h
    · rename_i hc; exact ⟨c.n, by simp only [hu, hc, if_true], by simp [cellsC]⟩
    · exact absurd h hn
  | c, d :: cs, t, hn, h => by
    by_cases hc : c.l = true
    · exact ⟨c.n, by simp only [hu, hc, if_true], by simp [cellsC]⟩
    · obtain ⟨y, h1, h2⟩ := plug_top (c := d) (cs := cs) (t := c.put t) (put_ne c t) h
      refine ⟨y, by show (if c.l = true then _ else _) = _; rw [if_neg hc]; exact h1, ?_⟩
      show y ∈ c.n :: c.i :: (cells c.o ++ cellsC (d :: cs))
      simp [h2]
theorem plug_sz : ∀ (cs : List Cx) {t s : LT}, sz t ≤ sz s → ph (plug cs t) + ph s ≤ ph (plug cs s) + ph t ∧ sz (plug cs t) ≤ sz (plug cs s)
  | [], t, s, h => ⟨by show ph t + ph s ≤ ph s + ph t; omega, h⟩
  | c :: cs, t, s, h => by
    have h1 : sz (c.put t) ≤ sz (c.put s) := by rw [Cx.put_sz, Cx.put_sz]; omega
    have ih := plug_sz cs h1
    have h2 : bl (sz c.o + sz t + 1) ≤ bl (sz c.o + sz s + 1) := bl_mono (by omega)
    rw [Cx.put_ph, Cx.put_ph] at ih
    exact ⟨by show ph (plug cs (c.put t)) + _ ≤ ph (plug cs (c.put s)) + _; omega, ih.2⟩

/-- An item's place. -/
theorem find : ∀ {t : LT} {i : Nat} {e : Ent}, (i, e) ∈ its t → ∃ cs n l r, t = plug cs (node n i e l r)
  | nil, i, e, h => by cases h
  | node m j f l r, i, e, h => by
    simp only [its, List.mem_cons, List.mem_append] at h
    have key : ∀ (cs : List Cx) (c : Cx) (s : LT), plug (cs ++ [c]) s = c.put (plug cs s) := by
      intro cs
      induction cs with
      | nil => intro c s; rfl
      | cons d cs ih => intro c s; exact ih c (d.put s)
    rcases h with h | h | h
    · cases h
      exact ⟨[], m, l, r, rfl⟩
    · obtain ⟨cs, n, a, b, rfl⟩ := find h
      exact ⟨cs ++ [⟨m, j, f, true, r⟩], n, a, b, by rw [key]; rfl⟩
    · obtain ⟨cs, n, a, b, rfl⟩ := find h
      exact ⟨cs ++ [⟨m, j, f, false, l⟩], n, a, b, by rw [key]; rfl⟩

/-- What lies about a node, in memory: the node's number. -/
def RepC (α : AS) : Int → List Cx → Prop
  | _, [] => True
  | v, c :: cs => α.Nd c.n c.i c.e ∧ α.get c.n 0 = hu cs ∧ α.get c.n 2 = hl cs ∧ α.get c.n (if c.l then 1 else 3) = v ∧ α.get c.n (if c.l then 3 else 1) = c.o.root ∧ Rep α (if c.l then hu cs else (c.n : Int)) (if c.l then (c.n : Int) else -1) c.o ∧ RepC α c.n cs
theorem rep_put {α : AS} {up lf : Int} {c : Cx} {t : LT} : Rep α up lf (c.put t) ↔ (α.Nd c.n c.i c.e ∧ α.get c.n 0 = up ∧ α.get c.n 2 = lf ∧ α.get c.n (if c.l then 1 else 3) = t.root ∧ α.get c.n (if c.l then 3 else 1) = c.o.root ∧ Rep α (if c.l then up else (c.n : Int)) (if c.l then (c.n : Int) else -1) c.o) ∧ Rep α (if c.l then (c.n : Int) else up) (if c.l then -1 else (c.n : Int)) t := by
  unfold Cx.put
  cases h : c.l
  · simp only [Bool.false_eq_true, if_false, Rep]
    constructor
    · rintro ⟨h1, h2, h3, h4, h5, h6, h7⟩; exact ⟨⟨h1, h2, h4, h5, h3, h6⟩, h7⟩
    · rintro ⟨⟨h1, h2, h4, h5, h3, h6⟩, h7⟩; exact ⟨h1, h2, h3, h4, h5, h6, h7⟩
  · simp only [if_true, Rep]
    constructor
    · rintro ⟨h1, h2, h3, h4, h5, h6, h7⟩; exact ⟨⟨h1, h2, h4, h3, h5, h7⟩, h6⟩
    · rintro ⟨⟨h1, h2, h4, h3, h5, h7⟩, h6⟩; exact ⟨h1, h2, h3, h4, h5, h6, h7⟩
theorem rep_plug {α : AS} : ∀ {cs : List Cx} {t : LT}, Rep α (-1) (-1) (plug cs t) ↔ RepC α t.root cs ∧ Rep α (hu cs) (hl cs) t
  | [], t => by simp [plug, RepC, hu, hl]
  | c :: cs, t => by
    show Rep α (-1) (-1) (plug cs (c.put t)) ↔ _
    rw [rep_plug, Cx.put_root, rep_put]
    show _ ↔ (_ ∧ _ ∧ _ ∧ _ ∧ _ ∧ _ ∧ _) ∧ Rep α (if c.l then (c.n : Int) else hu cs) (if c.l then -1 else (c.n : Int)) t
    constructor
    · rintro ⟨h1, ⟨h2, h3, h4, h5, h6, h7⟩, h9⟩; exact ⟨⟨h2, h3, h4, h5, h6, h7, h1⟩, h9⟩
    · rintro ⟨⟨h2, h3, h4, h5, h6, h7, h1⟩, h9⟩; exact ⟨h1, ⟨h2, h3, h4, h5, h6, h7⟩, h9⟩
theorem RepC.congr {α β : AS} : ∀ {cs : List Cx} {v : Int}, RepC α v cs → (∀ c ∈ cellsC cs, ∀ f, β.get c f = α.get c f) → (∀ c ∈ cellsC cs, β.live c = α.live c) → RepC β v cs
  | [], _, _, _, _ => trivial
  | c :: cs, v, h, hg, hl => by
    obtain ⟨h1, h2, h3, h4, h5, h7, h8⟩ := h
    simp only [cellsC, List.mem_cons, List.mem_append] at hg hl
    refine ⟨h1.congr (hg _ (.inl rfl)) (hg _ (.inr (.inl rfl))) (hl _ (.inl rfl)) (hl _ (.inr (.inl rfl))), ?_, ?_, ?_, ?_, ?_, ?_⟩
    · rw [hg _ (.inl rfl)]; exact h2
    · rw [hg _ (.inl rfl)]; exact h3
    · rw [hg _ (.inl rfl)]; exact h4
    · rw [hg _ (.inl rfl)]; exact h5
    · exact h7.congr (fun c hc => hg c (.inr (.inr (.inl hc)))) (fun c hc => hl c (.inr (.inr (.inl hc))))
    · exact h8.congr (fun c hc => hg c (.inr (.inr (.inr hc)))) (fun c hc => hl c (.inr (.inr (.inr hc))))
theorem RepC.chg {α β : AS} {S : Nat → Prop} {j : Int} {cs : List Cx} {v : Int} (h : RepC α v cs) (hc : AS.Chg S j α β) (hS : ∀ c ∈ cellsC cs, ¬ S c) : RepC β v cs :=
  h.congr (fun c hm f => hc.get c (hS c hm) f) (fun c hm => by rw [hc.live])
/-- The node next to it points elsewhere. -/
theorem RepC.point {α β : AS} {c : Cx} {cs : List Cx} {v v' : Int} (h : RepC α v (c :: cs)) (hn : (cellsC (c :: cs)).Nodup) (h0 : β.get c.n (if c.l then 1 else 3) = v') (hg : ∀ x ∈ cellsC (c :: cs), ∀ f, (x ≠ c.n ∨ f ≠ if c.l then 1 else 3) → β.get x f = α.get x f) (hl : ∀ x ∈ cellsC (c :: cs), β.live x = α.live x) : RepC β v' (c :: cs) := by
  obtain ⟨h1, h2, h3, h4, h5, h7, h8⟩ := h
  simp only [cellsC, List.nodup_cons, List.mem_cons, List.mem_append, not_or] at hg hl hn
  have hne : ∀ f, (f ≠ if c.l then 1 else 3) → β.get c.n f = α.get c.n f := fun f hf => hg c.n (.inl rfl) f (.inr hf)
  have k1 : ∀ f, f ≠ 1 → f ≠ 3 → β.get c.n f = α.get c.n f := fun f g1 g2 => hne f (by split <;> assumption)
  have hi : ∀ f, β.get c.i f = α.get c.i f := fun f => hg c.i (.inr (.inl rfl)) f (.inl (fun e => hn.1.1 e.symm))
  refine ⟨⟨(hl _ (.inl rfl)).trans h1.ln, (hl _ (.inr (.inl rfl))).trans h1.li, (k1 6 (by omega) (by omega)).trans h1.it, (hi 9).trans h1.nd, (hi 7).trans h1.k, (hi 8).trans h1.s⟩, (k1 0 (by omega) (by omega)).trans h2, (k1 2 (by omega) (by omega)).trans h3, h0, (hne _ (by split <;> omega)).trans h5, ?_, ?_⟩
  · exact h7.congr (fun x hc f => hg x (.inr (.inr (.inl hc))) f (.inl (fun e => hn.1.2.1 (e ▸ hc)))) (fun x hc => hl x (.inr (.inr (.inl hc))))
  · exact h8.congr (fun x hc f => hg x (.inr (.inr (.inr hc))) f (.inl (fun e => hn.1.2.2 (e ▸ hc)))) (fun x hc => hl x (.inr (.inr (.inr hc))))

/-! Order. -/
def Abv (x : Held) (cs : List Cx) : Prop := ∀ c ∈ cs, c.l = true → Bf (c.i, c.e) x
def OdC : List Cx → Prop
  | [] => True
  | c :: cs => Od c.o ∧ (∀ x ∈ its c.o, Abv x cs) ∧ (c.l = false → ∀ x ∈ its c.o, Bf (c.i, c.e) x) ∧ Abv (c.i, c.e) cs ∧ OdC cs
theorem od_put {c : Cx} {t : LT} : Od (c.put t) ↔ (Od c.o ∧ (c.l = false → ∀ x ∈ its c.o, Bf (c.i, c.e) x)) ∧ Od t ∧ (c.l = true → ∀ x ∈ its t, Bf (c.i, c.e) x) := by
  unfold Cx.put
  cases h : c.l
  · simp only [Bool.false_eq_true, if_false, Od, true_implies, false_implies, and_true]
    constructor
    · rintro ⟨h1, h2, h3⟩; exact ⟨⟨h2, h1⟩, h3⟩
    · rintro ⟨⟨h2, h1⟩, h3⟩; exact ⟨h1, h2, h3⟩
  · simp only [if_true, Od, true_implies, Bool.true_eq_false, false_implies, and_true]
    constructor
    · rintro ⟨h1, h2, h3⟩; exact ⟨h3, h2, h1⟩
    · rintro ⟨h3, h2, h1⟩; exact ⟨h1, h2, h3⟩
theorem od_plug : ∀ {cs : List Cx} {t : LT}, Od (plug cs t) ↔ OdC cs ∧ Od t ∧ ∀ x ∈ its t, Abv x cs
  | [], t => by simp [plug, OdC, Abv]
  | c :: cs, t => by
    show Od (plug cs (c.put t)) ↔ _
    rw [od_plug, od_put]
    have hm : ∀ x, x ∈ its (c.put t) ↔ x = (c.i, c.e) ∨ x ∈ its c.o ∨ x ∈ its t := fun x => by rw [(c.put_its t).mem_iff]; simp
    simp only [OdC, hm]
    constructor
    · rintro ⟨h1, ⟨⟨h2, h3⟩, h4, h5⟩, h6⟩
      refine ⟨⟨h2, fun x hx => h6 x (.inr (.inl hx)), h3, h6 _ (.inl rfl), h1⟩, h4, fun x hx => ?_⟩
      intro d hd hdl
      rcases List.mem_cons.1 hd with rfl | hd
      · exact h5 hdl x hx
      · exact h6 x (.inr (.inr hx)) d hd hdl
    · rintro ⟨⟨h2, h3, h3', h4, h1⟩, h5, h6⟩
      refine ⟨h1, ⟨⟨h2, h3'⟩, h5, fun hc x hx => h6 x hx c List.mem_cons_self hc⟩, fun x hx => ?_⟩
      rcases hx with rfl | hx | hx
      · exact h4
      · exact h3 x hx
      · exact fun d hd hdl => h6 x hx d (List.mem_cons_of_mem _ hd) hdl

theorem its_nd {t : LT} (h : (cells t).Nodup) : ∀ x ∈ its t, ∀ y ∈ its t, x.1 = y.1 → x = y := by
  induction t with
  | nil => intro x hx; cases hx
  | node n i e l r ihl ihr =>
    simp only [cells, List.nodup_cons, List.mem_cons, List.mem_append, not_or] at h
    obtain ⟨⟨_, _⟩, ⟨h1, h2⟩, h3⟩ := h
    obtain ⟨h4, h5, h6⟩ := List.nodup_append.1 h3
    intro x hx y hy e
    simp only [its, List.mem_cons, List.mem_append] at hx hy
    rcases hx with hx | hx | hx <;> rcases hy with hy | hy | hy
    · rw [hx, hy]
    · exact absurd (mem_its hy) (by rw [← e, hx]; exact h1)
    · exact absurd (mem_its hy) (by rw [← e, hx]; exact h2)
    · exact absurd (mem_its hx) (by rw [e, hy]; exact h1)
    · exact ihl h4 x hx y hy e
    · exact absurd e (h6 _ (mem_its hx) _ (mem_its hy))
    · exact absurd (mem_its hx) (by rw [e, hy]; exact h2)
    · exact absurd e.symm (h6 _ (mem_its hy) _ (mem_its hx))
    · exact ihr h5 x hx y hy e
end LT
end Go.Proofs.Ytmabiogngbkhhaa.HL

/-
  PrA: pairing heaps: one link, a row, roots that become one.
-/
set_option linter.unusedVariables false
set_option linter.unusedSimpArgs false
set_option maxRecDepth 100000
namespace Go.Proofs.Ytmabiogngbkhhaa.HL
open Go.RowKit (Below)
open Go.Proofs

namespace LT
theorem rep_under {α β : AS} {n i : Nat} {e : Ent} {l : LT} {m j : Nat} {f : Ent} {b : LT} (h1 : Rep α (-1) (-1) (node n i e l nil)) (h2 : Rep α (-1) (-1) (node m j f b nil)) (hn : (cells (node n i e l nil) ++ cells (node m j f b nil)).Nodup)
    (hg : ∀ x k, ¬ (x = n ∧ k = 1) → ¬ ((x : Int) = l.root ∧ k = 2) → ¬ (x = m ∧ (k = 0 ∨ k = 3)) → β.get x k = α.get x k) (hl : β.live = α.live) (g1 : β.get n 1 = (m : Int)) (g2 : ∀ q : Nat, l.root = (q : Int) → β.get q 2 = (m : Int)) (g3 : β.get m 3 = l.root) (g4 : β.get m 0 = (n : Int)) :
    Rep β (-1) (-1) (node n i e (node m j f b l) nil) := by
  obtain ⟨a1, a2, a3, a4, a5, a6, _⟩ := h1
  obtain ⟨b1, b2, b3, b4, b5, b6, _⟩ := h2
  simp only [cells, List.append_nil, List.cons_append, List.nodup_cons, List.mem_cons, List.mem_append, not_or] at hn
  obtain ⟨⟨ni, nl, nm, nj, nb⟩, ⟨il, im, ij, ib⟩, hn⟩ := hn
  obtain ⟨hnl, hn2, hd⟩ := List.nodup_append.1 hn
  simp only [List.nodup_cons, List.mem_cons, not_or] at hn2
  obtain ⟨⟨mj, mb⟩, jb, hnb⟩ := hn2
  have hlm : ∀ x ∈ cells l, x ≠ m ∧ x ≠ j ∧ x ∉ cells b := fun x hx => ⟨fun e => hd x hx m (by simp) e, fun e => hd x hx j (by simp) e, fun e => hd x hx x (by simp [e]) rfl⟩
  have out : ∀ x : Nat, x ∉ cells l → ¬ (x : Int) = l.root := fun x hx e => hx (root_mem e.symm)
  have gn : ∀ k, k ≠ 1 → β.get n k = α.get n k := fun k hk => hg n k (fun e => hk e.2) (fun e => out n nl e.1) (fun e => nm e.1)
  have gi : ∀ k, β.get i k = α.get i k := fun k => hg i k (fun e => ni e.1.symm) (fun e => out i il e.1) (fun e => im e.1)
  have hml : m ∉ cells l := fun e => (hlm m e).1 rfl
  have hjl : j ∉ cells l := fun e => (hlm j e).2.1 rfl
  have gm : ∀ k, k ≠ 0 → k ≠ 3 → β.get m k = α.get m k := fun k h0 h3 => hg m k (fun e => nm e.1.symm) (fun e => out m hml e.1) (fun e => by rcases e.2 with h | h; exact h0 h; exact h3 h)
  have gj : ∀ k, β.get j k = α.get j k := fun k => hg j k (fun e => nj e.1.symm) (fun e => out j hjl e.1) (fun e => mj e.1.symm)
  refine ⟨⟨by rw [hl]; exact a1.ln, by rw [hl]; exact a1.li, (gn 6 (by decide)).trans a1.it, (gi 9).trans a1.nd, (gi 7).trans a1.k, (gi 8).trans a1.s⟩, (gn 0 (by decide)).trans a2, g1, (gn 2 (by decide)).trans a4, (gn 3 (by decide)).trans a5, ⟨⟨by rw [hl]; exact b1.ln, by rw [hl]; exact b1.li, (gm 6 (by decide) (by decide)).trans b1.it, (gj 9).trans b1.nd, (gj 7).trans b1.k, (gj 8).trans b1.s⟩, g4, (gm 1 (by decide) (by decide)).trans b3, (gm 2 (by decide) (by decide)).trans b4, g3, ?_, ?_⟩, trivial⟩
  · refine b6.congr (fun c hc k => hg c k (fun e => nb (e.1 ▸ hc)) (fun e => ?_) (fun e => mb (e.1 ▸ hc))) (fun c _ => by rw [hl])
    exact (hlm c (root_mem e.1.symm)).2.2 hc
  · exact a6.left hnl g2 (fun c hc k hk => hg c k (fun e => nl (e.1 ▸ hc)) (fun e => by rcases hk with h | h; exact h e.1; exact h e.2) (fun e => hml (e.1 ▸ hc))) (fun c _ => by rw [hl])
end LT

section
variable {w0 : World} {M F : Mem} {R : Value → Mem → Prop} {a : Nat} {α : AS}
open Go.Proofs.Ytmabiogngbkhhaa.HL.LT

/-- The one that is before the other one takes it below it. -/
theorem pr_under_ok {pts : Pts} (H : pairing_link.Is (std PP w0) pts R) (hA : Holds w0 F M (arenaA a α)) {n i : Nat} {e : Ent} {l : LT} {m j : Nat} {f : Ent} {b : LT} (h1 : Rep α (-1) (-1) (node n i e l nil)) (h2 : Rep α (-1) (-1) (node m j f b nil)) (hn : (cells (node n i e l nil) ++ cells (node m j f b nil)).Nodup)
    (h : ∀ M' β, Holds w0 F M' (arenaA a β) → Rep β (-1) (-1) (node n i e (node m j f b l) nil) → AS.Chg (fun c => c ∈ cells (node n i e l nil) ∨ c ∈ cells (node m j f b nil)) 5 α β → R (.int .i64 (n : Int)) M') :
    pairing_link.J2 pts (some ⟨a, 0, none⟩) (n : Int) (m : Int) M := by
  rw [H.J2]
  unfold pairing_link.J2.T
  have hI := hA.inv
  have ln := h1.1.ln
  have lm := h2.1.ln
  refine Cell_ok hA fun M1 hA1 => ?_
  rw [show α.cellI (n : Int) 1 = l.root from AS.cellI_val hI (f := 1) ln (by omega) h1.2.2.1 h1.2.2.2.2.2.1.rootv]
  simp only [shI_v]
  refine Set_ok hA1 fun M2 hA2 => ?_
  rw [show α.tick.setI (m : Int) 0 (n : Int) = α.tick.put m 0 (n : Int) from AS.setI_live (α := α.tick) (f := 0) lm (by omega) _] at hA2
  simp only [shB_v]
  refine Set_ok hA2 fun M3 hA3 => ?_
  rw [show (α.tick.put m 0 (n : Int)).tick.setI (m : Int) 3 l.root = (α.tick.put m 0 (n : Int)).tick.put m 3 l.root from AS.setI_live (α := (α.tick.put m 0 (n : Int)).tick) (f := 3) lm (by omega) _] at hA3
  simp only [shB_v, bs_bne]
  have hml : m ∉ cells l := fun hm => (List.nodup_append.1 hn).2.2 m (by simp [cells, hm]) m (by simp [cells]) rfl
  have hnm : n ≠ m := fun e => (List.nodup_append.1 hn).2.2 n (by simp [cells]) m (by simp [cells]) e
  have hnl : n ∉ cells l := fun hm => by
    have := (List.nodup_append.1 hn).1
    simp only [cells, List.nodup_cons, List.mem_cons, List.mem_append, not_or] at this
    exact this.1.2.1 hm
  have s3 : AS.Sm 3 ((α.put m 0 (n : Int)).put m 3 l.root) ((α.tick.put m 0 (n : Int)).tick.put m 3 l.root).tick := ((((AS.tick_sm (α := α)).put m 0 (n : Int)).trans AS.tick_sm).put m 3 l.root).trans AS.tick_sm |>.mono (by omega)
  have c3 : AS.Chg (fun c => c ∈ cells (node n i e l nil) ∨ c ∈ cells (node m j f b nil)) 3 α ((α.tick.put m 0 (n : Int)).tick.put m 3 l.root).tick := (((AS.Chg.refl (S := fun c => c ∈ cells (node n i e l nil) ∨ c ∈ cells (node m j f b nil)) (α := α)).tick.put (c := m) (f := 0) (v := (n : Int)) (.inr (by simp [cells]))).tick.put (c := m) (f := 3) (v := l.root) (.inr (by simp [cells]))).tick.mono (fun _ h => h) (by omega)
  generalize ((α.tick.put m 0 (n : Int)).tick.put m 3 l.root).tick = β at hA3 s3 c3
  have bl_ : β.live = α.live := s3.live
  have last : ∀ (γ : AS) (M4 : Mem), Holds w0 F M4 (arenaA a γ) → γ.live = α.live → AS.Chg (fun c => c ∈ cells (node n i e l nil) ∨ c ∈ cells (node m j f b nil)) 4 α γ → (∀ x k, γ.get x k = if (x : Int) = l.root ∧ k = 2 then (m : Int) else β.get x k) → pairing_link.J3 pts (some ⟨a, 0, none⟩) (n : Int) (m : Int) M4 := by
    intro γ M4 hA4 hl4 c4 g4
    rw [H.J3]
    unfold pairing_link.J3.T
    refine Set_ok hA4 fun M5 hA5 => ?_
    rw [show γ.setI (n : Int) 1 (m : Int) = γ.put n 1 (m : Int) from AS.setI_live (f := 1) (by rw [hl4]; exact ln) (by omega) _] at hA5
    simp only [shB_v]
    have g5 : ∀ x k, (γ.put n 1 (m : Int)).tick.get x k = if x = n ∧ k = 1 then (m : Int) else if (x : Int) = l.root ∧ k = 2 then (m : Int) else if x = m ∧ k = 3 then l.root else if x = m ∧ k = 0 then (n : Int) else α.get x k := fun x k => by
      show (if x = n ∧ k = 1 then (m : Int) else γ.get x k) = _
      rw [g4, s3.get]; rfl
    refine h M5 _ hA5 (rep_under h1 h2 hn (fun x k h1 h2 h3 => ?_) (by show γ.live = _; exact hl4) ?_ (fun q hq => ?_) ?_ ?_) ((c4.put (c := n) (f := 1) (v := (m : Int)) (.inl (by simp [cells]))).tick.mono (fun _ h => h) (by omega))
    · rw [g5, if_neg h1, if_neg h2, if_neg (fun h => h3 ⟨h.1, .inr h.2⟩), if_neg (fun h => h3 ⟨h.1, .inl h.2⟩)]
    · rw [g5, if_pos ⟨rfl, rfl⟩]
    · rw [g5, if_neg (by omega), if_pos ⟨hq.symm, rfl⟩]
    · rw [g5, if_neg (by omega), if_neg (by omega), if_pos ⟨rfl, rfl⟩]
    · rw [g5, if_neg (by omega), if_neg (by omega), if_neg (by omega), if_pos ⟨rfl, rfl⟩]
  split
  · rename_i h0
    exact last β M3 hA3 bl_ (c3.mono (fun _ h => h) (by omega)) (fun x k => by rw [if_neg (by omega)])
  · rename_i h0
    rcases h1.2.2.2.2.2.1.rootv with h9 | ⟨q, hq, hql⟩
    · exact absurd h9 h0
    · rw [hq]
      refine Set_ok hA3 fun M4 hA4 => ?_
      rw [show β.setI (q : Int) 2 (m : Int) = β.put q 2 (m : Int) from AS.setI_live (f := 2) (by rw [bl_]; exact hql) (by omega) _] at hA4
      simp only [shB_v]
      refine last _ M4 hA4 bl_ ((c3.put (c := q) (f := 2) (v := (m : Int)) (.inl (by simp [cells, root_mem hq]))).tick.mono (fun _ h => h) (by omega)) fun x k => ?_
      show (if x = q ∧ k = 2 then (m : Int) else β.get x k) = _
      by_cases hx : x = q ∧ k = 2
      · rw [if_pos hx, if_pos ⟨by rw [hx.1]; exact hq.symm, hx.2⟩]
      · rw [if_neg hx, if_neg (fun e => hx ⟨by omega, e.2⟩)]

theorem pr_link_ok (hA : Holds w0 F M (arenaA a α)) {t s : LT} (ht : Rep α (-1) (-1) t) (hs : Rep α (-1) (-1) s) (rt : Rt t) (rs : Rt s) (hnd : (cells t ++ cells s).Nodup)
    (h : ∀ M' β, Holds w0 F M' (arenaA a β) → Rep β (-1) (-1) (lk t s) → AS.Chg (fun c => c ∈ cells t ∨ c ∈ cells s) 11 α β → R (.int .i64 (lk t s).root) M') :
    C PP w0 Id.pairing_link #[.pointer (some ⟨a, 0, none⟩), .int .i64 t.root, .int .i64 s.root] R M := by
  apply pairing_link.go
  intro pts H
  unfold pairing_link.T
  rw [bs_beq]
  split
  · rename_i h0
    have := root_nil h0
    subst this
    exact h M α hA hs (AS.Chg.refl.mono (fun _ h => h) (by omega))
  rename_i h0
  rw [bs_beq]
  split
  · rename_i h1
    have := root_nil h1
    subst this
    have := h M α hA (by rw [lk_nil]; exact ht) (AS.Chg.refl.mono (fun _ h => h) (by omega))
    rwa [lk_nil] at this
  rename_i h1
  cases t with
  | nil => exact absurd rfl h0
  | node n i e l r =>
    cases s with
    | nil => exact absurd rfl h1
    | node m j f b r2 =>
      cases rt; cases rs
      have hnm : n ≠ m := fun e => (List.nodup_append.1 hnd).2.2 n (by simp [cells]) m (by simp [cells]) e
      rw [bs_beq, if_neg (by simp only [root]; omega), H.J1]
      unfold pairing_link.J1.T
      refine nBefore_ok hA hs.1 ht.1 fun M1 β hB hsm => ?_
      have c1 : AS.Chg (fun c => c ∈ cells (node n i e l nil) ∨ c ∈ cells (node m j f b nil)) 6 α β := hsm.chg
      have ht1 : Rep β (-1) (-1) (node n i e l nil) := ht.congr (fun _ _ _ => by rw [hsm.get]) (fun _ _ => by rw [hsm.live])
      have hs1 : Rep β (-1) (-1) (node m j f b nil) := hs.congr (fun _ _ _ => by rw [hsm.get]) (fun _ _ => by rw [hsm.live])
      simp only [shB_v, bs_decide]
      split
      · rename_i hb
        have e : lk (node n i e l nil) (node m j f b nil) = node m j f (node n i e l b) nil := by rw [lk_nn, if_pos hb]
        refine pr_under_ok H hB hs1 ht1 (List.perm_append_comm.nodup_iff.1 hnd) fun M2 γ hC hr hc => ?_
        have := h M2 γ hC (by rw [e]; exact hr) ((c1.trans (hc.mono (fun _ h => h.symm) (Int.le_refl _))).mono (fun _ h => h) (by omega))
        rwa [e] at this
      · rename_i hb
        have e : lk (node n i e l nil) (node m j f b nil) = node n i e (node m j f b l) nil := by rw [lk_nn, if_neg hb]
        refine pr_under_ok H hB ht1 hs1 hnd fun M2 γ hC hr hc => ?_
        have := h M2 γ hC (by rw [e]; exact hr) ((c1.trans hc).mono (fun _ h => h) (by omega))
        rwa [e] at this

theorem pr_root_ok (hA : Holds w0 F M (arenaA a α)) {n : Nat} (hl : α.live n = true) (h : ∀ M' β, Holds w0 F M' (arenaA a β) → AS.Sm 3 (((α.put n 0 (-1)).put n 2 (-1)).put n 3 (-1)) β → R (.tuple #[]) M') : C PP w0 Id.pairing_root #[.pointer (some ⟨a, 0, none⟩), .int .i64 (n : Int)] R M := by
  apply pairing_root.go
  unfold pairing_root.T
  refine Set_ok hA fun M1 hA1 => ?_
  rw [show α.setI (n : Int) 0 (-1) = α.put n 0 (-1) from AS.setI_live (f := 0) hl (by omega) _] at hA1
  simp only [shB_v]
  refine Set_ok hA1 fun M2 hA2 => ?_
  rw [show (α.put n 0 (-1)).tick.setI (n : Int) 2 (-1) = (α.put n 0 (-1)).tick.put n 2 (-1) from AS.setI_live (α := (α.put n 0 (-1)).tick) (f := 2) hl (by omega) _] at hA2
  simp only [shB_v]
  refine Set_ok hA2 fun M3 hA3 => ?_
  rw [show ((α.put n 0 (-1)).tick.put n 2 (-1)).tick.setI (n : Int) 3 (-1) = ((α.put n 0 (-1)).tick.put n 2 (-1)).tick.put n 3 (-1) from AS.setI_live (α := ((α.put n 0 (-1)).tick.put n 2 (-1)).tick) (f := 3) hl (by omega) _] at hA3
  simp only [shB_v]
  exact h M3 _ hA3 (((((AS.tick_sm (α := α.put n 0 (-1))).put n 2 (-1)).trans AS.tick_sm).put n 3 (-1)).trans AS.tick_sm |>.mono (by omega))

/-- A row of nodes. -/
theorem pr_row_ok (hA : Holds w0 F M (arenaA a α)) {l : LT} {up lf : Int} (hr : Rep α up lf l) (hnd : (cells l).Nodup) (h : ∀ M' s β, Holds w0 F M' (star (SlA s ((intsN (rts l)).map (Value.int .i64))) (arenaA a β)) → AS.Sm (rts l).length α β → R s.v M') :
    C PP w0 Id.node_Row #[.pointer (some ⟨a, 0, none⟩), .int .i64 l.root, .int .i64 3] R M := by
  apply node_Row.go
  intro pts H
  unfold node_Row.T
  have hI := hA.inv
  have hn := hI.n
  have hlen : (rts l).length * 2 ≤ α.n := by
    have h1 := nodup_len α.n _ hnd fun x hx => AS.live_lt hI (hr.live x hx)
    rw [cells_len] at h1
    have h2 : ∀ (t : LT), (rts t).length ≤ (its t).length := by
      intro t
      induction t with
      | nil => exact Nat.le_refl _
      | node n i e l r _ ih => simp only [rts, its, List.length_cons, List.length_append]; omega
    have := h2 l
    omega
  have key : ∀ (k : Nat) (c : LT) (lf : Int) (N : List Nat) (M' : Mem) (s : SV) (β : AS), (rts c).length < k → N ++ rts c = rts l → Rep α up lf c → Holds w0 F M' (star (SlA s ((intsN N).map (Value.int .i64))) (arenaA a β)) → AS.Sm N.length α β → node_Row.L1 pts k (some ⟨a, 0, none⟩) c.root 3 s M' := by
    intro k
    induction k with
    | zero => intro c lf N M' s β h1; omega
    | succ k ih =>
      intro c lf N M' s β h1 h2 hc hH hs
      rw [H.L1]
      unfold node_Row.L1.T
      obtain ⟨F', hB, hle, back⟩ := hH.last
      refine Live_ok hB ?_
      have hNl : N.length + (rts c).length = (rts l).length := by rw [← h2, List.length_append]
      cases c with
      | nil =>
        rw [show β.liveI LT.nil.root = false from AS.liveI_neg]
        simp only [shB_v, bs_false]
        have hN : N = rts l := by rw [← h2]; simp [rts]
        rw [hN] at hH hs
        exact h M' s β hH hs
      | node n i e b r =>
        have hln : β.live n = true := by rw [hs.live]; exact hc.1.ln
        rw [show β.liveI (LT.node n i e b r).root = true from by show β.liveI (n : Int) = true; rw [AS.liveI_nat]; exact hln]
        simp only [shB_v, bs_true]
        refine Cells_ok hB ?_
        have hsn : s.n = N.length := by
          have := hH.cells.2
          simpa [intsN] using this
        simp only [rts, List.length_cons] at hNl h1
        rw [shI_v, bs_decide, if_pos (by rw [hs.n, hsn]; omega), H.J2]
        unfold node_Row.J2.T
        refine push_ok hH (by simp [intsN]; omega) fun M2 s2 hH2 => ?_
        obtain ⟨F2, hB2, hle2, back2⟩ := hH2.last
        refine Cell_ok hB2 fun M3 hB3 => ?_
        rw [show β.cellI (LT.node n i e b r).root 3 = r.root from AS.cellI_val hB2.inv (c := n) (f := 3) hln (by omega) (by rw [hs.get]; exact hc.2.2.2.2.1) (by rw [hs.live]; exact hc.2.2.2.2.2.2.rootv)]
        rw [shI_v]
        have hH3 := back2 M3 _ hB3
        refine ih r (n : Int) (N ++ [n]) M3 s2 β.tick (by omega) (by rw [← h2]; simp [rts]) hc.2.2.2.2.2.2 ?_ ((hs.trans AS.tick_sm).mono (by simp))
        have e : intsN (N ++ [n]) = intsN N ++ [(LT.node n i e b r).root] := by simp [intsN, root]
        rw [e]; exact hH3
  exact ⟨_, key ((rts l).length + 1) l lf [] M ⟨none, 0, 0⟩ α (by omega) (by simp) hr hA.nilSl AS.Sm.refl⟩

end
end Go.Proofs.Ytmabiogngbkhhaa.HL

/-
  PrB: pairing heaps: roots that become one; a root that is taken off.
-/
set_option linter.unusedVariables false
set_option linter.unusedSimpArgs false
set_option maxRecDepth 100000
namespace Go.Proofs.Ytmabiogngbkhhaa.HL
open Go.RowKit (Below)
open Go.Proofs

namespace LT
def AllR (α : AS) (ts : List LT) : Prop := ∀ t ∈ ts, Rep α (-1) (-1) t
theorem AllR.chg {α β : AS} {S : Nat → Prop} {k : Int} {ts : List LT} (h : AllR α ts) (hc : AS.Chg S k α β) (hS : ∀ c ∈ cellsL ts, ¬ S c) : AllR β ts := fun t ht =>
  (h t ht).chg hc fun c hc => hS c (List.mem_flatMap.2 ⟨t, ht, hc⟩)
theorem cellsL_app (ts us : List LT) : cellsL (ts ++ us) = cellsL ts ++ cellsL us := by simp [cellsL]
theorem cellsL_cons (t : LT) (us : List LT) : cellsL (t :: us) = cells t ++ cellsL us := by simp [cellsL]
theorem pair_len : ∀ (ts : List LT), (pairUp ts).length = (ts.length + 1) / 2
  | [] => rfl
  | [t] => by simp [pairUp]
  | t :: s :: ts => by simp only [pairUp, List.length_cons, pair_len ts]; omega
theorem row_len : ∀ (t : LT), (row t).length = (rts t).length
  | nil => rfl
  | node n i e l r => by simp only [row, rts, List.length_cons, row_len r]
theorem rts_le : ∀ (t : LT), (rts t).length ≤ (its t).length
  | nil => Nat.le_refl _
  | node n i e l r => by have := rts_le r; simp only [rts, its, List.length_cons, List.length_append]; omega
end LT

section
variable {w0 : World} {M F : Mem} {R : Value → Mem → Prop} {a : Nat} {α : AS}
open Go.Proofs.Ytmabiogngbkhhaa.HL.LT

theorem Holds.le_frame {P : Asn} {F' : Mem} (h : Holds w0 F' M P) (hl : Mem.le F F') : Holds w0 F M P := by
  obtain ⟨r, h1, h2⟩ := h
  exact ⟨r, h1, ⟨h2.nd, fun x hx => by obtain ⟨a1, a2, a3⟩ := h2.at_ x hx; exact ⟨a1, le_none hl a2, a3⟩, Mem.le_trans hl h2.fr⟩⟩

theorem pr_kids_ok (hA : Holds w0 F M (arenaA a α)) {n : Nat} {l : LT} (hn : α.live n = true) (h1 : α.get n 1 = l.root) (hr : Rep α n (-1) l) (hnd : (cells l).Nodup) (h : ∀ M' s β, Holds w0 F M' (star (SlA s ((intsN (rts l)).map (Value.int .i64))) (arenaA a β)) → AS.Sm ((rts l).length + 1) α β → R s.v M') :
    C PP w0 Id.pairing_kids #[.pointer (some ⟨a, 0, none⟩), .int .i64 (n : Int)] R M := by
  apply pairing_kids.go
  unfold pairing_kids.T
  refine Cell_ok hA fun M1 hA1 => ?_
  rw [show α.cellI (n : Int) 1 = l.root from AS.cellI_val hA.inv (f := 1) hn (by omega) h1 hr.rootv]
  rw [shI_v]
  refine pr_row_ok hA1 (l := l) (up := n) (lf := -1) (hr.congr (fun _ _ _ => rfl) (fun _ _ => rfl)) hnd fun M2 s β hH hs => ?_
  rw [shS_sv]
  exact h M2 s β hH ((AS.tick_sm.trans hs).mono (by omega))

theorem pr_paired_ok (hA : Holds w0 F M (arenaA a α)) {l : LT} {up lf : Int} (hr : Rep α up lf l) (hnd : (cells l).Nodup) {s : SV} (hs : RdI w0 F .i64 s (intsN (rts l)))
    (h : ∀ M' β, Holds w0 F M' (arenaA a β) → Rep β (-1) (-1) (comb (pairUp (row l))) → AS.Chg (fun c => c ∈ cells l) (14 * ((rts l).length : Int) + 11) α β → R (.int .i64 (comb (pairUp (row l))).root) M') :
    C PP w0 Id.pairing_paired #[.pointer (some ⟨a, 0, none⟩), SV.v s] R M := by
  apply pairing_paired.go
  intro pts H
  unfold pairing_paired.T
  have hI := hA.inv
  have hn64 := hI.n
  have hK : (rts l).length * 2 ≤ α.n := by
    have h1 := nodup_len α.n _ hnd fun x hx => AS.live_lt hI (hr.live x hx)
    rw [cells_len] at h1
    have := rts_le l
    omega
  have hsn : s.n = (rts l).length := by have := hs.len; simpa [intsN] using this
  have hs' : RdI w0 F .i64 s (rtl (row l)) := by rw [row_rts]; exact hs
  have hrn : ∀ t ∈ row l, Rt t ∧ t ≠ nil := row_rt l
  have hP := pair_rt hrn
  have hPc := (pair_its hrn).2
  have hPl := pair_len (row l)
  rw [row_len] at hPl
  have rootAt : ∀ {A B : List LT} {t : LT}, A ++ t :: B = row l → (rtl (row l))[A.length]? = some t.root := fun {A B t} e => by
    rw [← e]; simp [rtl]
  -- the last walk
  have l3 : ∀ (k : Nat) (A B : List LT) (F' M' : Mem) (sp : SV) (β : AS), A.length < k → A ++ B = pairUp (row l) → Mem.le F F' → Holds w0 F' M' (arenaA a β) → RdI w0 F' .i64 sp (rtl (pairUp (row l))) → AllR β A → Rep β (-1) (-1) (comb B) →
      AS.Chg (fun c => c ∈ cells l) (3 * ((rts l).length : Int) + 11 * ((pairUp (row l)).length : Int) + 11 * (B.length : Int)) α β → pairing_paired.L3 pts k (some ⟨a, 0, none⟩) sp (comb B).root ((A.length : Int) - 1) M' := by
    intro k
    induction k with
    | zero => intro A B F' M' sp β h1; omega
    | succ k ih =>
      intro A B F' M' sp β h1 h2 hle hB hsp hall hcb hc
      rw [H.L3]
      unfold pairing_paired.L3.T
      rw [bs_decide]
      have hABl : A.length + B.length = (pairUp (row l)).length := by rw [← h2, List.length_append]
      split
      · rename_i hge
        have hne : A ≠ [] := fun e => by rw [e] at hge; simp at hge
        obtain ⟨A', t, rfl⟩ : ∃ A' t, A = A' ++ [t] := ⟨A.dropLast, A.getLast hne, (List.dropLast_concat_getLast hne).symm⟩
        simp only [List.length_append, List.length_cons, List.length_nil] at h1 hABl ⊢
        have hidx : (((A'.length + (0 + 1) : Nat) : Int) - 1) = (A'.length : Int) := by omega
        rw [hidx]
        have hget : (rtl (pairUp (row l)))[A'.length]? = some t.root := by rw [← h2]; simp [rtl]
        refine rdx W.c3 hsp hB.fr A'.length rfl hget ?_
        have htP : t ∈ pairUp (row l) := by rw [← h2]; simp
        have hBP : ∀ x ∈ B, Rt x ∧ x ≠ nil := fun x hx => hP x (by rw [← h2]; simp [hx])
        have hcB := (comb_its hBP).2
        have hdis : (cellsL A' ++ (cells t ++ cellsL B)).Nodup := by
          have := hPc.nodup_iff.2 (by rw [row_cells]; exact hnd)
          rw [← h2, cellsL_app, cellsL_app, cellsL_cons] at this
          simpa [cellsL] using this
        have hmemP : ∀ x, x ∈ cells t ∨ x ∈ cellsL B → x ∈ cells l := fun x hx => by
          rw [← row_cells l, ← hPc.mem_iff, ← h2, cellsL_app, cellsL_app, cellsL_cons]
          rcases hx with hx | hx <;> simp [hx]
        obtain ⟨_, d2, d3⟩ := List.nodup_append.1 hdis
        refine pr_link_ok hB (hall t (by simp)) hcb (hP t htP).1 (comb_sz hBP).2 ((hcB.append_left _).nodup_iff.2 d2) fun M2 γ hB2 hr2 hc2 => ?_
        rw [shI_v, w64_in (by omega)]
        refine ih A' (t :: B) F' M2 sp γ (by omega) (by rw [← h2]; simp) hle hB2 hsp ?_ hr2 ?_
        · refine AllR.chg (fun x hx => hall x (by simp [hx])) hc2 fun c hc h9 => ?_
          rcases h9 with h9 | h9
          · exact d3 c hc c (by simp [h9]) rfl
          · exact d3 c hc c (by simp [hcB.mem_iff.1 h9]) rfl
        · refine (hc.trans (hc2.mono (T := fun c => c ∈ cells l) (fun x hx => ?_) (Int.le_refl _))).mono (fun _ h => h) (by simp only [List.length_cons]; omega)
          rcases hx with hx | hx
          · exact hmemP x (.inl hx)
          · exact hmemP x (.inr (hcB.mem_iff.1 hx))
      · rename_i hge
        have hA0 : A = [] := List.eq_nil_of_length_eq_zero (by omega)
        subst hA0
        have hB0 : B = pairUp (row l) := h2
        rw [hB0] at hcb hc ⊢
        exact h M' β (Holds.le_frame hB hle) hcb (hc.mono (fun _ h => h) (by omega))
  -- two by two
  have l2 : ∀ (k idx : Nat) (pre rest out : List LT) (M' : Mem) (sp : SV) (β : AS), (idx = pre.length ∨ rest = [] ∧ (rts l).length ≤ idx ∧ idx ≤ 100000) → rest.length < k → pre ++ rest = row l → out ++ pairUp rest = pairUp (row l) → Holds w0 F M' (star (SlA sp ((rtl out).map (Value.int .i64))) (arenaA a β)) → AllR β (out ++ rest) → (cellsL (out ++ rest)).Perm (cells l) →
      AS.Chg (fun c => c ∈ cells l) (3 * ((rts l).length : Int) + 11 * (out.length : Int)) α β → pairing_paired.L2 pts k (some ⟨a, 0, none⟩) s sp (idx : Int) M' := by
    intro k
    induction k with
    | zero => intro idx pre rest out M' sp β _ h1; omega
    | succ k ih =>
      intro idx pre rest out M' sp β hix h1 h2 h3 hH hall hperm hc
      rw [H.L2]
      unfold pairing_paired.L2.T
      have hlen : pre.length + rest.length = (rts l).length := by rw [← row_len, ← h2, List.length_append]
      have hol : out.length ≤ (rts l).length := by
        have := congrArg List.length h3
        rw [List.length_append] at this
        omega
      have hmem : ∀ x ∈ rest, Rt x ∧ x ≠ nil := fun x hx => hrn x (by rw [← h2]; simp [hx])
      have hnd2 : (cellsL (out ++ rest)).Nodup := hperm.nodup_iff.2 hnd
      rw [bs_decide]
      match rest, hix, h1, h2, h3, hall, hperm, hlen, hmem, hnd2 with
      | [], hix, h1, h2, h3, hall, hperm, hlen, hmem, hnd2 =>
        simp only [List.length_nil, Nat.add_zero] at hlen
        rw [if_neg (by rw [hsn]; rcases hix with h9 | h9 <;> omega)]
        simp only [pairUp, List.append_nil] at h3 hall
        subst h3
        obtain ⟨F', hle, hB, hS⟩ := hH.freeze (wf_all fun x hx => by
          obtain ⟨t, ht, rfl⟩ := List.mem_map.1 hx
          rcases (hall t ht).rootv with h9 | ⟨y, hy, hyl⟩
          · rw [h9]; unfold In64; omega
          · rw [hc.live] at hyl
            have := AS.live_lt hI hyl
            rw [hy]; unfold In64; omega) (by simp [rtl]; omega)
        have hspn : sp.n = (pairUp (row l)).length := by have := hS.len; simpa [rtl] using this
        rw [hspn, w64_in (by omega)]
        refine ⟨_, l3 ((pairUp (row l)).length + 1) (pairUp (row l)) [] F' M' sp β (by omega) (by simp) hle hB hS hall trivial (hc.mono (fun _ h => h) (by simp))⟩
      | [t], hix, h1, h2, h3, hall, hperm, hlen, hmem, hnd2 =>
        obtain rfl : idx = pre.length := by
          rcases hix with h9 | h9
          · exact h9
          · exact absurd h9.1 (by simp)
        simp only [List.length_cons, List.length_nil] at hlen
        rw [if_pos (by rw [hsn]; omega), i64_succ (by omega), bs_decide, if_neg (by rw [hsn]; omega)]
        refine rdx W.c3 hs' hH.fr pre.length rfl (rootAt h2) ?_
        refine push_ok hH (by simp [rtl]; omega) fun M2 s2 hH2 => ?_
        rw [show w64 ((pre.length : Int) + 2) = ((pre.length + 2 : Nat) : Int) from by rw [w64_in (by omega)]; omega]
        refine ih (pre.length + 2) (pre ++ [t]) [] (out ++ [t]) M2 s2 β (.inr ⟨rfl, by omega, by omega⟩) (by simp at h1 ⊢; omega) (by rw [← h2]; simp) (by rw [← h3]; simp [pairUp]) ?_ (by simpa using hall) (by simpa using hperm) (hc.mono (fun _ h => h) (by simp only [List.length_append, List.length_singleton]; omega))
        have e : rtl (out ++ [t]) = rtl out ++ [t.root] := by simp [rtl]
        rw [e]; exact hH2
      | t :: u :: rest, hix, h1, h2, h3, hall, hperm, hlen, hmem, hnd2 =>
        obtain rfl : idx = pre.length := by
          rcases hix with h9 | h9
          · exact h9
          · exact absurd h9.1 (by simp)
        simp only [List.length_cons] at hlen h1
        rw [if_pos (by rw [hsn]; omega), i64_succ (by omega), bs_decide, if_pos (by rw [hsn]; omega)]
        refine rdx W.c3 hs' hH.fr pre.length rfl (rootAt h2) ?_
        have h2' : (pre ++ [t]) ++ u :: rest = row l := by rw [← h2]; simp
        refine rdx W.c3 hs' hH.fr (pre.length + 1) rfl (by have := rootAt h2'; simpa using this) ?_
        obtain ⟨F', hB, hle, back⟩ := hH.last
        have ht := hmem t (by simp)
        have hu := hmem u (by simp)
        have hd : (cellsL out ++ (cells t ++ (cells u ++ cellsL rest))).Nodup := by
          rw [cellsL_app, cellsL_cons, cellsL_cons] at hnd2; exact hnd2
        obtain ⟨_, d2, d3⟩ := List.nodup_append.1 hd
        rw [← List.append_assoc] at d2
        obtain ⟨d4, _, d5⟩ := List.nodup_append.1 d2
        refine pr_link_ok hB (hall t (by simp)) (hall u (by simp)) ht.1 hu.1 d4 fun M2 γ hB2 hr2 hc2 => ?_
        simp only [shI_v]
        refine push_ok (back M2 _ hB2) (by simp [rtl]; omega) fun M3 s3 hH3 => ?_
        rw [show w64 ((pre.length : Int) + 2) = ((pre.length + 2 : Nat) : Int) from by rw [w64_in (by omega)]; omega]
        have hcl := lk_cells ht.1 hu.1
        have hperm' : (cellsL (out ++ [lk t u] ++ rest)).Perm (cells l) := by
          refine List.Perm.trans ?_ hperm
          rw [cellsL_app, cellsL_app, cellsL_cons, cellsL_app, cellsL_cons, cellsL_cons, List.append_assoc]
          refine List.Perm.append_left _ ?_
          rw [show cellsL [] = [] from rfl, List.append_nil, ← List.append_assoc]
          exact hcl.append_right _
        refine ih (pre.length + 2) (pre ++ [t, u]) rest (out ++ [lk t u]) M3 s3 γ (.inl (by simp)) (by omega) (by rw [← h2]; simp) (by rw [← h3]; simp [pairUp]) ?_ ?_ hperm' ((hc.trans (hc2.mono (T := fun c => c ∈ cells l) (fun x hx => ?_) (Int.le_refl _))).mono (fun _ h => h) (by simp only [List.length_append, List.length_singleton]; omega))
        · have e : rtl (out ++ [lk t u]) = rtl out ++ [(lk t u).root] := by simp [rtl]
          rw [e]; exact hH3
        · intro x hx
          have hx' : x ∈ out ∨ x = lk t u ∨ x ∈ rest := by simpa [or_assoc] using hx
          rcases hx' with hx' | rfl | hx'
          · refine (hall x (by simp [hx'])).chg hc2 fun c hcc h9 => ?_
            have hm : c ∈ cellsL out := List.mem_flatMap.2 ⟨x, hx', hcc⟩
            rcases h9 with h9 | h9
            · exact d3 c hm c (by simp [h9]) rfl
            · exact d3 c hm c (by simp [h9]) rfl
          · exact hr2
          · refine (hall x (by simp [hx'])).chg hc2 fun c hcc h9 => ?_
            have hm : c ∈ cellsL rest := List.mem_flatMap.2 ⟨x, hx', hcc⟩
            exact d5 c (List.mem_append.2 h9) c hm rfl
        · rw [← hperm.mem_iff, cellsL_app, cellsL_cons, cellsL_cons]
          rcases hx with hx | hx <;> simp [hx]
  -- roots
  have l1 : ∀ (k : Nat) (D : List LT) (c : LT) (lf : Int) (M' : Mem) (β : AS), (rts c).length < k → D ++ row c = row l → Holds w0 F M' (arenaA a β) → AllR β D → Rep β up lf c → AS.Chg (fun c => c ∈ cells l) (3 * (D.length : Int)) α β → pairing_paired.L1 pts k (some ⟨a, 0, none⟩) s s (s.n : Int) (D.length : Int) M' := by
    intro k
    induction k with
    | zero => intro D c lf M' β h1; omega
    | succ k ih =>
      intro D c lf M' β h1 h2 hB hall hc hch
      rw [H.L1]
      unfold pairing_paired.L1.T
      have hlen : D.length + (rts c).length = (rts l).length := by rw [← row_len, ← row_len, ← h2, List.length_append]
      rw [bs_decide]
      have hcel : cellsL D ++ cells c = cells l := by rw [← row_cells c, ← cellsL_app, h2, row_cells]
      have hnd2 : (cellsL D ++ cells c).Nodup := by rw [hcel]; exact hnd
      cases c with
      | nil =>
        simp only [rts, List.length_nil, Nat.add_zero] at hlen
        rw [if_neg (by rw [hsn]; omega)]
        have hD : D = row l := by rw [← h2]; simp [row]
        subst hD
        refine ⟨_, l2 ((row l).length + 1) 0 [] (row l) [] M' ⟨none, 0, 0⟩ β (.inl rfl) (by omega) rfl rfl hB.nilSl hall ?_ (hch.mono (fun _ h => h) (by rw [row_len]; simp))⟩
        rw [List.nil_append, row_cells]
      | node n i e b r =>
        simp only [rts, List.length_cons] at hlen h1
        rw [if_pos (by rw [hsn]; omega)]
        refine rdx W.c3 hs' hB.fr D.length rfl (rootAt (B := row r) (t := LT.node n i e b .nil) h2) ?_
        have hln := hc.1.ln
        refine pr_root_ok hB hln fun M2 γ hB2 hs2 => ?_
        rw [i64_succ (by omega)]
        obtain ⟨_, d2, d3⟩ := List.nodup_append.1 hnd2
        simp only [cells, List.nodup_cons, List.mem_cons, List.mem_append, not_or] at d2
        obtain ⟨⟨ni, nb, nr⟩, ⟨ib, ir⟩, _⟩ := d2
        have hcn : AS.Chg (· = n) 3 β γ := (((AS.Chg.refl (S := (· = n)) (α := β)).put (c := n) (f := 0) (v := -1) rfl).put (c := n) (f := 2) (v := -1) rfl).put (c := n) (f := 3) (v := -1) rfl |>.trans hs2.chg |>.mono (fun _ h => h) (by omega)
        have gn : ∀ k, k ≠ 0 → k ≠ 2 → k ≠ 3 → γ.get n k = β.get n k := fun k h0 h2 h3 => by
          rw [hs2.get, AS.put_get, if_neg (fun e => h3 e.2), AS.put_get, if_neg (fun e => h2 e.2), AS.put_get, if_neg (fun e => h0 e.2)]
        have g0 : γ.get n 0 = -1 := by rw [hs2.get, AS.put_get, if_neg (by omega), AS.put_get, if_neg (by omega), AS.put_get, if_pos ⟨rfl, rfl⟩]
        have g2 : γ.get n 2 = -1 := by rw [hs2.get, AS.put_get, if_neg (by omega), AS.put_get, if_pos ⟨rfl, rfl⟩]
        have g3 : γ.get n 3 = -1 := by rw [hs2.get, AS.put_get, if_pos ⟨rfl, rfl⟩]
        have gi : ∀ k, γ.get i k = β.get i k := fun k => hcn.get i (fun e => ni e.symm) k
        obtain ⟨q1, q2, q3, q4, q5, q6, q7⟩ := hc
        refine ih (D ++ [LT.node n i e b .nil]) r (n : Int) M2 γ (by omega) (by rw [← h2]; simp [row]) hB2 ?_ (q7.chg hcn fun x hx e => nr (e ▸ hx)) ((hch.trans (hcn.mono (T := fun c => c ∈ cells l) (fun x hx => by rw [hx, ← hcel]; simp [cells]) (Int.le_refl _))).mono (fun _ h => h) (by simp only [List.length_append, List.length_singleton]; omega)) |> (by simpa using ·)
        intro x hx
        rcases List.mem_append.1 hx with hx | hx
        · exact (hall x hx).chg hcn fun c hcc e => d3 c (List.mem_flatMap.2 ⟨x, hx, hcc⟩) n (by simp [cells]) e
        · simp only [List.mem_cons, List.not_mem_nil, or_false] at hx
          subst hx
          exact ⟨⟨by rw [hcn.live]; exact q1.ln, by rw [hcn.live]; exact q1.li, (gn 6 (by decide) (by decide) (by decide)).trans q1.it, (gi 9).trans q1.nd, (gi 7).trans q1.k, (gi 8).trans q1.s⟩, g0, (gn 1 (by decide) (by decide) (by decide)).trans q3, g2, g3, q6.chg hcn fun x hx e => nb (e ▸ hx), trivial⟩
  exact ⟨_, l1 ((rts l).length + 1) [] l lf M α (by omega) rfl hA (fun t ht => by cases ht) hr (AS.Chg.refl.mono (fun _ h => h) (by simp))⟩

end
end Go.Proofs.Ytmabiogngbkhhaa.HL

/-
  PrC: pairing heaps: a root that is taken off, a node that leaves its place.
-/
set_option linter.unusedVariables false
set_option linter.unusedSimpArgs false
set_option maxRecDepth 100000
namespace Go.Proofs.Ytmabiogngbkhhaa.HL
open Go.RowKit (Below)
open Go.Proofs

namespace LT
theorem dis_its {t s : LT} (h : (cells t ++ cells s).Nodup) : ∀ x ∈ its t, ∀ y ∈ its s, x.1 ≠ y.1 := fun x hx y hy e => (List.nodup_append.1 h).2.2 _ (mem_its hx) _ (mem_its hy) e
theorem pair_od : ∀ {ts : List LT}, (∀ t ∈ ts, Rt t ∧ t ≠ nil) → (∀ t ∈ ts, Od t) → (cellsL ts).Nodup → ∀ t ∈ pairUp ts, Od t
  | [], _, h, _ => h
  | [t], _, h, _ => h
  | t :: s :: ts, h, ho, hn => by
    have h1 := (h t (by simp)).1
    have h2 := (h s (by simp)).1
    rw [cellsL_cons, cellsL_cons, ← List.append_assoc] at hn
    obtain ⟨n1, n2, _⟩ := List.nodup_append.1 hn
    intro x hx
    rcases List.mem_cons.1 hx with rfl | hx
    · exact lk_od h1 h2 (ho t (by simp)) (ho s (by simp)) (dis_its n1)
    · exact pair_od (ts := ts) (fun x hx => h x (by simp [hx])) (fun x hx => ho x (by simp [hx])) n2 x hx
theorem comb_od : ∀ {ts : List LT}, (∀ t ∈ ts, Rt t ∧ t ≠ nil) → (∀ t ∈ ts, Od t) → (cellsL ts).Nodup → Od (comb ts)
  | [], _, _, _ => trivial
  | t :: ts, h, ho, hn => by
    have h1 := (h t (by simp)).1
    have h3 : ∀ x ∈ ts, Rt x ∧ x ≠ nil := fun x hx => h x (by simp [hx])
    rw [cellsL_cons] at hn
    obtain ⟨_, n2, _⟩ := List.nodup_append.1 hn
    refine lk_od h1 (comb_sz h3).2 (ho t (by simp)) (comb_od h3 (fun x hx => ho x (by simp [hx])) n2) (dis_its ?_)
    exact ((comb_its h3).2.append_left _).nodup_iff.2 hn
/-- What is below a root, behind two walks. -/
def kidsUp (l : LT) : LT := comb (pairUp (row l))
theorem up_rt (l : LT) : Rt (kidsUp l) := (comb_sz (pair_rt (row_rt l))).2
theorem up_its (l : LT) : (its (kidsUp l)).Perm (its l) := by
  have h := (comb_its (pair_rt (row_rt l))).1.trans (pair_its (row_rt l)).1
  rwa [row_its] at h
theorem up_cells (l : LT) : (cells (kidsUp l)).Perm (cells l) := by
  have h := (comb_its (pair_rt (row_rt l))).2.trans (pair_its (row_rt l)).2
  rwa [row_cells] at h
theorem up_od {l : LT} (ho : Od l) (hn : (cells l).Nodup) : Od (kidsUp l) := by
  have hn' : (cellsL (row l)).Nodup := by rw [row_cells]; exact hn
  exact comb_od (pair_rt (row_rt l)) (pair_od (row_rt l) (row_od ho) hn') ((pair_its (row_rt l)).2.nodup_iff.2 hn')
theorem up_ph (l : LT) : 15 * (rts l).length + 40 * ph (kidsUp l) ≤ 40 * ph l + 120 * bl (sz l) + 15 := by
  have h1 := comb_ph (pair_rt (row_rt l))
  have h2 := pair_cp (row_rt l)
  rw [pair_sz (row_rt l)] at h1
  rw [row_cp, row_len] at h2
  rw [row_sz] at h1 h2
  show 15 * (rts l).length + 40 * ph (comb (pairUp (row l))) ≤ _
  omega
end LT

section
variable {w0 : World} {M F : Mem} {R : Value → Mem → Prop} {a : Nat} {α : AS}
open Go.Proofs.Ytmabiogngbkhhaa.HL.LT

theorem pr_pop_ok (hA : Holds w0 F M (arenaA a α)) {n i : Nat} {e : Ent} {l : LT} (hr : Rep α (-1) (-1) (node n i e l nil)) (hnd : (cells (node n i e l nil)).Nodup)
    (h : ∀ M' β, Holds w0 F M' (arenaA a β) → Rep β (-1) (-1) (kidsUp l) → AS.Eff (fun c => c ∈ cells (node n i e l nil)) (· = n) (-1) (15 * ((rts l).length : Int) + 15) α β → β.get i 9 = -1 ∧ β.get i 7 = e.1 ∧ β.get i 8 = e.2 ∧ β.live i = true → R (.tuple #[.int .i64 (kidsUp l).root, .int .i64 (i : Int)]) M') :
    C PP w0 Id.pairing_pop #[.pointer (some ⟨a, 0, none⟩), .int .i64 (n : Int)] R M := by
  apply pairing_pop.go
  unfold pairing_pop.T
  have hI := hA.inv
  have hn64 := hI.n
  obtain ⟨q1, q2, q3, q4, q5, q6, _⟩ := hr
  have hnd' := hnd
  simp only [cells, List.append_nil, List.nodup_cons, List.mem_cons, not_or] at hnd'
  obtain ⟨⟨ni, nl⟩, il, hl⟩ := hnd'
  have hlive := q6.live
  refine pr_kids_ok hA q1.ln q3 q6 hl fun M1 s β hH hs => ?_
  rw [shS_sv]
  have hrl : ∀ (t : LT) {u v : Int}, Rep α u v t → ∀ x ∈ rts t, α.live x = true := by
    intro t
    induction t with
    | nil => intro u v _ x hx; cases hx
    | node m j f b r _ ih =>
      intro u v hr x hx
      rcases List.mem_cons.1 hx with rfl | hx
      · exact hr.1.ln
      · exact ih hr.2.2.2.2.2.2 x hx
  have hle2 : (rts l).length ≤ 65536 := by
    have h1 := nodup_len α.n _ hl fun x hx => AS.live_lt hI (hlive x hx)
    rw [cells_len] at h1
    have := rts_le l
    omega
  obtain ⟨F', hle, hB, hS⟩ := hH.freeze (wf_all fun x hx => by
    obtain ⟨y, hy, rfl⟩ := List.mem_map.1 hx
    have := AS.live_lt hI (hrl l q6 y hy)
    unfold In64; omega) (by simp [intsN]; omega)
  refine End_ok hB (hs.nd q1) fun M2 γ hB2 hs2 => ?_
  simp only [shI_v]
  have hin : i ≠ n := fun e => ni e.symm
  have he2 : AS.Eff (fun c => c ∈ cells (node n i e l nil)) (· = n) (-1) ((rts l).length + 1 + 3) α γ := by
    have hIb : β.Inv := hB.inv
    have hln : (β.put i 9 (-1)).live n = true := by show β.live n = true; rw [hs.live]; exact q1.ln
    have h1 : AS.Eff (fun c => c ∈ cells (node n i e l nil)) (· = n) 0 ((rts l).length + 1) α (β.put i 9 (-1)) := hs.eff.put (c := i) (f := 9) (v := -1) (by simp [cells])
    have h2 : AS.Eff (fun c => c ∈ cells (node n i e l nil)) (· = n) (-1) 0 (β.put i 9 (-1)) ((β.put i 9 (-1)).unlive n) := AS.unlive_eff (AS.put_inv hIb i 9 (-1)) hln rfl
    exact ((h1.trans h2).trans hs2.eff).mono (fun _ h => h) (fun _ h => h) (by omega) |>.to (by omega)
  have hr2 : Rep γ n (-1) l := q6.congr (fun c hc f => by
      rw [hs2.get]
      show (if c = i ∧ f = 9 then -1 else β.get c f) = _
      rw [if_neg (fun e : c = i ∧ f = 9 => il (e.1 ▸ hc)), hs.get]) (fun c hc => by
      rw [hs2.live]
      show (if c = n then false else β.live c) = _
      rw [if_neg (fun e : c = n => nl (e ▸ hc)), hs.live])
  refine pr_paired_ok hB2 hr2 hl hS fun M3 δ hB3 hr3 hc3 => ?_
  simp only [shI_v]
  have gi : ∀ f, δ.get i f = γ.get i f := fun f => hc3.get i il f
  have gi2 : ∀ f, γ.get i f = if f = 9 then -1 else α.get i f := fun f => by
    rw [hs2.get]
    show (if i = i ∧ f = 9 then _ else β.get i f) = _
    by_cases h9 : f = 9
    · rw [if_pos ⟨rfl, h9⟩, if_pos h9]
    · rw [if_neg (fun e => h9 e.2), if_neg h9, hs.get]
  refine h M3 δ (Holds.le_frame hB3 hle) hr3 (((he2.trans (hc3.mono (T := fun c => c ∈ cells (node n i e l nil)) (fun x hx => by simp [cells, hx]) (Int.le_refl _)).eff)).mono (fun _ h => h) (fun _ h => h) (by omega) |>.to (by omega)) ⟨by rw [gi, gi2, if_pos rfl], by rw [gi, gi2, if_neg (by omega)]; exact q1.k, by rw [gi, gi2, if_neg (by omega)]; exact q1.s, ?_⟩
  rw [hc3.live, hs2.live]
  show (if i = n then false else β.live i) = true
  rw [if_neg hin, hs.live]; exact q1.li

theorem pr_leave_ok (hA : Holds w0 F M (arenaA a α)) {c : Cx} {cs : List Cx} {n i : Nat} {e : Ent} {l r : LT} (hrep : Rep α (-1) (-1) (plug (c :: cs) (node n i e l r))) (hnd : (cells (plug (c :: cs) (node n i e l r))).Nodup) (hrt : Rt (plug (c :: cs) (node n i e l r)))
    (h : ∀ M' β, Holds w0 F M' (arenaA a β) → Rep β (-1) (-1) (plug (c :: cs) r) → Rep β (-1) (-1) (node n i e l nil) → AS.Chg (fun x => x ∈ cells (plug (c :: cs) (node n i e l r))) 8 α β → R (.tuple #[]) M') :
    C PP w0 Id.pairing_leave #[.pointer (some ⟨a, 0, none⟩), .int .i64 (n : Int)] R M := by
  apply pairing_leave.go
  intro pts H
  unfold pairing_leave.T
  have hI := hA.inv
  obtain ⟨hrc, hrn⟩ := rep_plug.1 hrep
  have hpc := plug_cells (c :: cs) (node n i e l r)
  have hnd2 := hpc.nodup_iff.1 hnd
  obtain ⟨d1, d2, d3⟩ := List.nodup_append.1 hnd2
  have hnd3 := d2
  simp only [cells, List.nodup_cons, List.mem_cons, List.mem_append, not_or] at hnd3
  obtain ⟨⟨ni, nl, nr⟩, ⟨il, ir⟩, hlr⟩ := hnd3
  obtain ⟨hll, hrr, hlr3⟩ := List.nodup_append.1 hlr
  obtain ⟨q1, q2, q3, q4, q5, q6, q7⟩ := hrn
  have hcn : ∀ x ∈ cellsC (c :: cs), x ≠ n ∧ x ≠ i ∧ x ∉ cells l ∧ x ∉ cells r := fun x hx => ⟨fun e => d3 x hx n (by simp [cells]) e, fun e => d3 x hx i (by simp [cells]) e, fun e => d3 x hx x (by simp [cells, e]) rfl, fun e => d3 x hx x (by simp [cells, e]) rfl⟩
  have hc0 : c.n ∈ cellsC (c :: cs) := by simp [cellsC]
  have hcl := hrc.1.ln
  have hlfv : hl (c :: cs) = -1 ∨ ∃ y : Nat, hl (c :: cs) = (y : Int) ∧ α.live y = true := by
    simp only [hl]; split
    · exact .inl rfl
    · exact .inr ⟨c.n, rfl, hcl⟩
  refine Cell_ok hA fun M1 hA1 => ?_
  rw [show α.cellI (n : Int) 2 = hl (c :: cs) from AS.cellI_val hI (f := 2) q1.ln (by omega) q4 hlfv, shI_v]
  refine Cell_ok hA1 fun M2 hA2 => ?_
  rw [show α.tick.cellI (n : Int) 3 = r.root from AS.cellI_val (α := α.tick) (AS.tick_inv hI) (f := 3) q1.ln (by omega) q5 q7.rootv, shI_v, bs_bne]
  obtain ⟨fld, hfld⟩ : ∃ fld : Nat, fld = if c.l then 1 else 3 := ⟨_, rfl⟩
  have hf2 : fld = 1 ∨ fld = 3 := by rw [hfld]; split <;> simp
  -- the other end
  have fin : ∀ (M3 : Mem) (β : AS), Holds w0 F M3 (arenaA a β) → AS.Sm 4 (α.put c.n fld r.root) β → pairing_leave.J1 pts (some ⟨a, 0, none⟩) (n : Int) (hl (c :: cs)) r.root M3 := by
    intro M3 β hB hs
    rw [H.J1]
    unfold pairing_leave.J1.T
    have rest : ∀ (M4 : Mem) (γ : AS), Holds w0 F M4 (arenaA a γ) → γ.live = α.live → (∀ x k, γ.get x k = if (x : Int) = r.root ∧ k = 2 then hl (c :: cs) else if x = c.n ∧ k = fld then r.root else α.get x k) → AS.Chg (fun x => x ∈ cells (plug (c :: cs) (node n i e l r))) 5 α γ →
        (std PP w0).call Id.pairing_root #[.pointer (some ⟨a, 0, none⟩), .int .i64 (n : Int)] (fun v M => R (.tuple #[]) M) M4 := by
      intro M4 γ hC hlg hg hch
      refine pr_root_ok hC (by rw [hlg]; exact q1.ln) fun M5 δ hD hs5 => ?_
      have gd : ∀ x k, δ.get x k = if x = n ∧ (k = 0 ∨ k = 2 ∨ k = 3) then -1 else if (x : Int) = r.root ∧ k = 2 then hl (c :: cs) else if x = c.n ∧ k = fld then r.root else α.get x k := fun x k => by
        rw [hs5.get, AS.put_get, AS.put_get, AS.put_get, hg]
        by_cases hx : x = n
        · by_cases h0 : k = 0
          · simp [hx, h0]
          · by_cases h2 : k = 2
            · simp [hx, h2]
            · by_cases h3 : k = 3
              · simp [hx, h3]
              · simp [hx, h0, h2, h3]
        · simp [hx]
      have hld : δ.live = α.live := hs5.live.trans hlg
      have hrn2 : ∀ x : Nat, x ∉ cells r → ¬ (x : Int) = r.root := fun x hx e => hx (root_mem e.symm)
      have gout : ∀ x k, x ≠ n → x ∉ cells r → x ≠ c.n → δ.get x k = α.get x k := fun x k h1 h2 h3 => by
        rw [gd, if_neg (fun e => h1 e.1), if_neg (fun e => hrn2 x h2 e.1), if_neg (fun e => h3 e.1)]
      refine h M5 δ hD (rep_plug.2 ⟨?_, ?_⟩) ?_ ?_
      · refine hrc.point d1 (by rw [← hfld, gd, if_neg (fun e => (hcn c.n hc0).1 e.1), if_neg (fun e => hrn2 _ (hcn c.n hc0).2.2.2 e.1), if_pos ⟨rfl, rfl⟩]) (fun x hx k hk => ?_) (fun x _ => by rw [hld])
        rw [← hfld] at hk
        rw [gd, if_neg (fun e : x = n ∧ _ => (hcn x hx).1 e.1), if_neg (fun e : (x : Int) = r.root ∧ k = 2 => hrn2 _ (hcn x hx).2.2.2 e.1), if_neg (fun e : x = c.n ∧ k = fld => by rcases hk with hk | hk; exact hk e.1; exact hk e.2)]
      · refine q7.left hrr (fun q hq => ?_) (fun x hx k hk => ?_) (fun x _ => by rw [hld])
        · rw [gd, if_neg (fun e : q = n ∧ _ => nr (e.1 ▸ root_mem hq)), if_pos ⟨hq.symm, rfl⟩]
        · rw [gd, if_neg (fun e : x = n ∧ _ => nr (e.1 ▸ hx)), if_neg (fun e : (x : Int) = r.root ∧ k = 2 => by rcases hk with hk | hk; exact hk e.1; exact hk e.2), if_neg (fun e : x = c.n ∧ k = fld => (hcn c.n hc0).2.2.2 (e.1 ▸ hx))]
      · have g1 : ∀ k, k ≠ 0 → k ≠ 2 → k ≠ 3 → δ.get n k = α.get n k := fun k h0 h2 h3 => by
          rw [gd, if_neg (fun e => by rcases e.2 with h | h | h; exact h0 h; exact h2 h; exact h3 h), if_neg (fun e => h2 e.2), if_neg (fun e => (hcn c.n hc0).1 e.1.symm)]
        have g2 : ∀ k, δ.get i k = α.get i k := fun k => gout i k (fun e => ni e.symm) ir (fun e => (hcn c.n hc0).2.1 e.symm)
        exact ⟨⟨by rw [hld]; exact q1.ln, by rw [hld]; exact q1.li, (g1 6 (by decide) (by decide) (by decide)).trans q1.it, (g2 9).trans q1.nd, (g2 7).trans q1.k, (g2 8).trans q1.s⟩, by rw [gd, if_pos ⟨rfl, .inl rfl⟩], (g1 1 (by decide) (by decide) (by decide)).trans q3, by rw [gd, if_pos ⟨rfl, .inr (.inl rfl)⟩], by rw [gd, if_pos ⟨rfl, .inr (.inr rfl)⟩]; rfl,
          q6.congr (fun x hx k => gout x k (fun e => nl (e ▸ hx)) (fun e => hlr3 x hx x e rfl) (fun e => (hcn c.n hc0).2.2.1 (e ▸ hx))) (fun x _ => by rw [hld]), trivial⟩
      · have hnm : n ∈ cells (plug (c :: cs) (node n i e l r)) := hpc.mem_iff.2 (by simp [cells])
        exact (hch.trans ((((AS.Chg.refl.put (c := n) (f := 0) (v := -1) hnm).put (c := n) (f := 2) (v := -1) hnm).put (c := n) (f := 3) (v := -1) hnm).trans hs5.chg)).mono (fun _ h => h) (by omega)
    have hcm : c.n ∈ cells (plug (c :: cs) (node n i e l r)) := hpc.mem_iff.2 (List.mem_append_left _ hc0)
    have hch : AS.Chg (fun x => x ∈ cells (plug (c :: cs) (node n i e l r))) 4 α β := ((AS.Chg.refl.put (c := c.n) (f := fld) (v := r.root) hcm).trans hs.chg).mono (fun _ h => h) (by omega)
    rw [bs_bne]
    split
    · rename_i h0
      refine rest M3 β hB hs.live (fun x k => ?_) (hch.mono (fun _ h => h) (by omega))
      rw [if_neg (by omega), hs.get]; rfl
    · rename_i h0
      rcases q7.rootv with h9 | ⟨q, hq, hql⟩
      · exact absurd h9 h0
      · have hset : ∀ v, β.setI r.root 2 v = β.put q 2 v := fun v => by rw [hq]; exact AS.setI_live (f := 2) (by rw [hs.live]; exact hql) (by omega) _
        refine Set_ok hB fun M4 hB4 => ?_
        rw [hset] at hB4
        simp only [shB_v]
        refine rest M4 _ hB4 hs.live (fun x k => ?_) ((hch.put (c := q) (f := 2) (v := hl (c :: cs)) (hpc.mem_iff.2 (by simp [cells, root_mem hq]))).tick.mono (fun _ h => h) (by omega))
        show (if x = q ∧ k = 2 then hl (c :: cs) else β.get x k) = _
        by_cases hx : x = q ∧ k = 2
        · rw [if_pos hx, if_pos ⟨by rw [hx.1]; exact hq.symm, hx.2⟩]
        · rw [if_neg hx, if_neg (fun e => hx ⟨by omega, e.2⟩), hs.get]; rfl
  split
  · rename_i h0
    have hcl1 : c.l = true := by
      simp only [hl] at h0
      split at h0
      · rename_i hx; exact hx
      · omega
    have hf1 : fld = 1 := by rw [hfld, hcl1]; rfl
    refine Cell_ok hA2 fun M3 hA3 => ?_
    have hup : α.get n 0 = (c.n : Int) := by rw [q2]; simp only [hu, hcl1, if_true]
    rw [show α.tick.tick.cellI (n : Int) 0 = (c.n : Int) from AS.cellI_live (α := α.tick.tick) (f := 0) q1.ln (by omega) hup (AS.live_lt hI hcl), shI_v]
    refine Set_ok hA3 fun M4 hA4 => ?_
    rw [show α.tick.tick.tick.setI (c.n : Int) 1 r.root = α.tick.tick.tick.put c.n 1 r.root from AS.setI_live (α := α.tick.tick.tick) (f := 1) hcl (by omega) _] at hA4
    simp only [shB_v]
    refine fin M4 _ hA4 ?_
    rw [hf1]
    exact ((((AS.tick_sm (α := α)).trans AS.tick_sm).trans AS.tick_sm).put c.n 1 r.root).trans AS.tick_sm |>.mono (by omega)
  · rename_i h0
    have hcl1 : c.l = false := by
      cases hx : c.l with
      | false => rfl
      | true => exact absurd (by simp only [hl, hx, if_true]) h0
    have hf1 : fld = 3 := by rw [hfld, hcl1]; rfl
    have hlc : hl (c :: cs) = (c.n : Int) := by simp only [hl, hcl1]; rfl
    have hset : α.tick.tick.setI (hl (c :: cs)) 3 r.root = α.tick.tick.put c.n 3 r.root := by rw [hlc]; exact AS.setI_live (α := α.tick.tick) (f := 3) hcl (by omega) _
    refine Set_ok hA2 fun M4 hA4 => ?_
    rw [hset] at hA4
    simp only [shB_v]
    refine fin M4 _ hA4 ?_
    rw [hf1]
    exact (((AS.tick_sm (α := α)).trans AS.tick_sm).put c.n 3 r.root).trans AS.tick_sm |>.mono (by omega)

end
end Go.Proofs.Ytmabiogngbkhhaa.HL

/-
  PrD: pairing heaps: the calls, in the words that the laws on heaps ask for.
-/
set_option linter.unusedVariables false
set_option linter.unusedSimpArgs false
set_option maxRecDepth 100000
namespace Go.Proofs.Ytmabiogngbkhhaa.HL
open Go.RowKit (Below)
open Go.Proofs

/-- A heap in memory. -/
structure Hp (α : AS) (r : Int) (t : LT) : Prop where
  r : r = t.root
  rep : LT.Rep α (-1) (-1) t
  nd : (LT.cells t).Nodup
  rt : LT.Rt t
  od : LT.Od t
/-- A heap of which one item has a lower key than it was. -/
def HpF (α : AS) (r : Int) (t : LT) (i : Nat) (e e' : Ent) : Prop :=
  ∃ cs n l s, t = LT.plug cs (.node n i e l s) ∧ r = t.root ∧ LT.Rep α (-1) (-1) (LT.plug cs (.node n i e' l s)) ∧ (LT.cells t).Nodup ∧ LT.Rt t ∧ LT.OdC cs ∧ LT.Od (.node n i e' l s) ∧ ∀ x ∈ LT.its s, LT.Abv x cs

/-- The heaps of this seat. -/
abbrev HT := LT
abbrev HT.nil : HT := LT.nil
abbrev HT.its (t : HT) : List Held := LT.its t
abbrev HT.nds (t : HT) : List Nat := LT.nds t
abbrev HT.cells (t : HT) : List Nat := LT.cells t
abbrev HT.root (t : HT) : Int := LT.root t
/-- What is saved up for later calls. -/
def HT.pot (t : HT) : Int := 40 * (LT.ph t : Int)
theorem HT.pot_ge (t : HT) : 0 ≤ HT.pot t := by unfold HT.pot; omega
/-- What a call may cost: all calls together. -/
def CostOk (x lim spent most : Int) : Prop := spent + x ≤ most + lim
theorem cost_of {x lim spent most P : Int} {t t' : HT} (h1 : x + HT.pot t' ≤ lim + HT.pot t) (h2 : spent + HT.pot t + P ≤ most) (h3 : 0 ≤ P) : CostOk x lim spent most := by
  unfold CostOk
  have := HT.pot_ge t'
  omega
theorem cost_ofM {x lim spent most : Int} {t u t' : HT} (h1 : x + HT.pot t' ≤ lim + HT.pot t + HT.pot u) (h2 : spent + HT.pot t + HT.pot u ≤ most) : CostOk x lim spent most := by
  unfold CostOk
  have := HT.pot_ge t'
  omega
theorem HT.pot_nil : HT.pot HT.nil = 0 := rfl
theorem HT.nil_its : HT.nil.its = [] := rfl
theorem HT.nil_cells : HT.nil.cells = [] := rfl
theorem HT.nds_len (t : HT) : t.nds.length = t.its.length := LT.nds_len t
theorem HT.mem_nds {t : HT} {x : Nat} (h : x ∈ t.nds) : x ∈ t.cells := LT.mem_nds h
theorem HT.mem_its {t : HT} {x : Held} (h : x ∈ t.its) : x.1 ∈ t.cells := LT.mem_its h
theorem HT.its_nd {t : HT} (h : t.cells.Nodup) : ∀ x ∈ t.its, ∀ y ∈ t.its, x.1 = y.1 → x = y := LT.its_nd h
theorem HT.nil_of {t : HT} (h : t.its = []) : t = HT.nil := by
  cases t with
  | nil => rfl
  | node n i e l r => simp [HT.its, LT.its] at h

section
variable {w0 : World} {M F : Mem} {R : Value → Mem → Prop} {a : Nat} {α : AS}
open Go.Proofs.Ytmabiogngbkhhaa.HL.LT

theorem Hp.congr {β : AS} {r : Int} {t : LT} (h : Hp α r t) (hg : ∀ c ∈ cells t, ∀ f, β.get c f = α.get c f) (hl : ∀ c ∈ cells t, β.live c = α.live c) : Hp β r t := ⟨h.r, h.rep.congr hg hl, h.nd, h.rt, h.od⟩
theorem Hp.eff {β : AS} {S L : Nat → Prop} {d k : Int} {r : Int} {t : LT} (h : Hp α r t) (he : AS.Eff S L d k α β) (hS : ∀ c ∈ cells t, ¬ S c) (hL : ∀ c ∈ cells t, ¬ L c) : Hp β r t :=
  h.congr (fun c hc f => he.get c (hS c hc) f) (fun c hc => he.live c (hL c hc))
theorem Hp.live {r : Int} {t : LT} (h : Hp α r t) : ∀ c ∈ cells t, α.live c = true := h.rep.live
theorem Hp.nil : Hp α (-1) .nil := ⟨rfl, trivial, List.nodup_nil, trivial, trivial⟩
theorem Hp.nilH (β : AS) : Hp β (-1) HT.nil := Hp.nil
theorem Hp.size {r : Int} {t : LT} (h : Hp α r t) (hi : α.Inv) : 2 * (its t).length ≤ α.n := by
  have := nodup_len α.n _ h.nd fun x hx => AS.live_lt hi (h.live x hx)
  rwa [cells_len] at this
theorem Hp.root_nil {r : Int} {t : HT} (h : Hp α r t) : r = -1 ↔ t.its = [] := by
  rw [h.r]
  cases t with
  | nil => simp [LT.root, HT.its, LT.its]
  | node n i e l s => simp only [LT.root, HT.its, LT.its]; constructor <;> intro h9 <;> first | omega | cases h9
theorem HT.key_of {r : Int} {t : HT} (h : Hp α r t) {x : Held} (hx : x ∈ t.its) : α.get x.1 7 = x.2.1 := by
  obtain ⟨cs, n, l, s, e⟩ := LT.find (t := t) (i := x.1) (e := x.2) hx
  have := h.rep
  rw [e] at this
  exact (LT.rep_plug.1 this).2.1.k
theorem HT.ser_of {r : Int} {t : HT} (h : Hp α r t) {x : Held} (hx : x ∈ t.its) : α.get x.1 8 = x.2.2 := by
  obtain ⟨cs, n, l, s, e⟩ := LT.find (t := t) (i := x.1) (e := x.2) hx
  have := h.rep
  rw [e] at this
  exact (LT.rep_plug.1 this).2.1.s
theorem its_plug (cs : List Cx) (n i : Nat) (e : Ent) (l s : LT) : (its (plug cs (node n i e l s))).Perm ((i, e) :: (itsC cs ++ (its l ++ its s))) := (plug_its _ _).trans List.perm_middle
theorem cells_plug (cs : List Cx) (n i : Nat) (e e' : Ent) (l s : LT) : (cells (plug cs (node n i e l s))).Perm (cells (plug cs (node n i e' l s))) := (plug_cells cs (node n i e l s)).trans (plug_cells cs (node n i e' l s)).symm

/-- A key is lowered. -/
theorem Hp.lowerH {r : Int} {t : HT} {i : Nat} {e e' : Ent} (h : Hp α r t) (hm : (i, e) ∈ t.its) (hle : e'.1 ≤ e.1) (hs : e'.2 = e.2) : HpF (α.put i 7 e'.1) r t i e e' := by
  obtain ⟨cs, n, l, s, rfl⟩ := find hm
  obtain ⟨h1, h2⟩ := rep_plug.1 h.rep
  have hnd := (plug_cells cs (node n i e l s)).nodup_iff.1 h.nd
  obtain ⟨q1, q2, q3⟩ := List.nodup_append.1 hnd
  have q2' := q2
  simp only [cells, List.nodup_cons, List.mem_cons, List.mem_append, not_or] at q2'
  obtain ⟨⟨a1, a2, a3⟩, ⟨b1, b2⟩, _⟩ := q2'
  have hc : AS.Chg (· = i) 0 α (α.put i 7 e'.1) := AS.put_chg rfl
  obtain ⟨h3, h4, h5⟩ := od_plug.1 h.od
  have hod : Od (node n i e' l s) := by
    obtain ⟨o1, o2, o3⟩ := h4
    have key : ∀ x : Held, Bf (i, e) x → Bf (i, e') x := by
      intro x hx
      rcases hx with hx | ⟨hx, hx'⟩
      · refine .inl ?_
        unfold Lt at hx ⊢
        simp only at hx ⊢
        omega
      · by_cases h9 : e'.1 = e.1
        · have : e' = e := Prod.ext h9 hs
          rw [this]; exact .inr ⟨hx, hx'⟩
        · refine .inl ?_
          have hx2 : e = x.2 := hx
          unfold Lt
          rw [← hx2]
          simp only
          omega
    exact ⟨fun x hx => key x (o1 x hx), o2, o3⟩
  refine ⟨cs, n, l, s, rfl, h.r, rep_plug.2 ⟨?_, ?_⟩, h.nd, h.rt, h3, hod, fun x hx => h5 x (by simp [its, hx])⟩
  · exact (h1.chg hc fun x hx e => q3 x hx i (by simp [cells]) e)
  · obtain ⟨g1, g2, g3, g4, g5, g7, g8⟩ := h2
    have gn : ∀ f, (α.put i 7 e'.1).get n f = α.get n f := fun f => hc.get n (fun e => a1 e) f
    refine ⟨⟨g1.ln, g1.li, (gn 6).trans g1.it, ?_, ?_, ?_⟩, (gn 0).trans g2, (gn 1).trans g3, (gn 2).trans g4, (gn 3).trans g5, g7.chg hc fun x hx e => b1 (e ▸ hx), g8.chg hc fun x hx e => b2 (e ▸ hx)⟩
    · rw [AS.put_get, if_neg (by omega)]; exact g1.nd
    · rw [AS.put_get, if_pos ⟨rfl, rfl⟩]
    · rw [AS.put_get, if_neg (by omega), hs]; exact g1.s
theorem HpF.eff {β : AS} {S L : Nat → Prop} {d k : Int} {r : Int} {t : HT} {i : Nat} {e e' : Ent} (h : HpF α r t i e e') (he : AS.Eff S L d k α β) (hS : ∀ c ∈ t.cells, ¬ S c) (hL : ∀ c ∈ t.cells, ¬ L c) : HpF β r t i e e' := by
  obtain ⟨cs, n, l, s, h1, h2, h3, h4⟩ := h
  have hp := cells_plug cs n i e e' l s
  refine ⟨cs, n, l, s, h1, h2, h3.congr (fun c hc f => he.get c (hS c ?_) f) (fun c hc => he.live c (hL c ?_)), h4⟩
  · rw [h1]; exact hp.mem_iff.2 hc
  · rw [h1]; exact hp.mem_iff.2 hc

theorem heap_push_ok (hA : Holds w0 F M (arenaA a α)) {r : Int} {t : HT} (hp : Hp α r t) {i : Nat} {e : Ent} (hi : α.live i = true) (hic : i ∉ t.cells) (h7 : α.get i 7 = e.1) (h8 : α.get i 8 = e.2)
    (h0 : α.next = none → ∀ M' β, Holds w0 F M' (arenaA a β) → AS.Sm 1 α β → R (.tuple #[.int .i64 r, .bool false]) M')
    (h1 : ∀ n, α.next = some n → α.live n = false → ∀ M' β (t' : HT), Holds w0 F M' (arenaA a β) → Hp β t'.root t' → t'.its.Perm ((i, e) :: t.its) → t'.cells.Perm (n :: i :: t.cells) → AS.Eff (fun c => c ∈ n :: i :: t.cells) (· = n) 1 (limH (t.its.length + 1) + HT.pot t - HT.pot t') α β → R (.tuple #[.int .i64 t'.root, .bool true]) M') :
    C PP w0 Id.pairing_Push #[.pointer (some ⟨a, 0, none⟩), .int .i64 r, .int .i64 (i : Int)] R M := by
  apply pairing_Push.go
  unfold pairing_Push.T
  have hI := hA.inv
  simp only [go_sem, Option.isNone_some, bs_false]
  refine ndNew_ok hA hi (fun hnx M1 β hB hs => ?_) fun n hnx M1 γ hB2 hs2 => ?_
  · simp only [go_sem, Bool.not_false, bs_true]
    exact h0 hnx M1 β hB hs
  · simp only [go_sem, Bool.not_true, bs_false]
    obtain ⟨hnn, hnl, hnt⟩ := AS.next_some hI hnx
    have hnt2 : n ∉ cells t := fun hc => by have := hp.live n hc; rw [hnl] at this; cases this
    have hin : i ≠ n := fun e => by rw [e, hnl] at hi; cases hi
    obtain ⟨hfr, hfl⟩ := AS.take_fresh hI hnx
    have he2 : AS.Eff (fun c => c = n ∨ c = i) (· = n) 1 3 α γ := ((((AS.take_eff (S := fun c => c = n ∨ c = i) (L := (· = n)) hI hnx (.inl rfl) rfl).put (f := 6) (v := (i : Int)) (c := n) (.inl rfl)).put (f := 9) (v := (n : Int)) (c := i) (.inr rfl)).trans hs2.eff).mono (fun _ h => h) (fun _ h => h) (by omega) |>.to (by omega)
    have g : ∀ x f, γ.get x f = if x = i ∧ f = 9 then (n : Int) else if x = n ∧ f = 6 then (i : Int) else α.take.get x f := fun x f => by rw [hs2.get]; rfl
    have gtk : ∀ x f, x ≠ n → α.take.get x f = α.get x f := fun x f hx => by
      rw [hnt]
      show (if x = n then AS.fresh f else α.get x f) = _
      rw [if_neg hx]
    have gl : ∀ x, γ.live x = if x = n then true else α.live x := fun x => by rw [hs2.live, show ((α.take.put n 6 (i : Int)).put i 9 (n : Int)).live = α.take.live from rfl, hnt]; rfl
    have hrt : Rep γ (-1) (-1) t := hp.rep.congr (fun c hc f => he2.get c (by rintro (h | h); exact hnt2 (h ▸ hc); exact hic (h ▸ hc)) f) (fun c hc => he2.live c (fun e => hnt2 (e ▸ hc)))
    have gn : ∀ f, f ≠ 6 → γ.get n f = AS.fresh f := fun f h6 => by rw [g, if_neg (fun e : n = i ∧ f = 9 => hin e.1.symm), if_neg (fun e : n = n ∧ f = 6 => h6 e.2), hfr]
    have gi : ∀ f, f ≠ 9 → γ.get i f = α.get i f := fun f h9 => by rw [g, if_neg (fun e : i = i ∧ f = 9 => h9 e.2), if_neg (fun e : i = n ∧ f = 6 => hin e.1), gtk _ _ hin]
    have hrs : Rep γ (-1) (-1) (node n i e .nil .nil) := by
      refine ⟨⟨by rw [gl, if_pos rfl], by rw [gl, if_neg hin]; exact hi, ?_, ?_, (gi 7 (by omega)).trans h7, (gi 8 (by omega)).trans h8⟩, gn 0 (by omega), gn 1 (by omega), gn 2 (by omega), gn 3 (by omega), trivial, trivial⟩
      · rw [g, if_neg (by omega), if_pos ⟨rfl, rfl⟩]
      · rw [g, if_pos ⟨rfl, rfl⟩]
    have hcc : (cells t ++ cells (node n i e .nil .nil)).Nodup := by
      rw [List.nodup_append]
      refine ⟨hp.nd, by simp only [cells, List.append_nil, List.nodup_cons, List.mem_cons, List.not_mem_nil, or_false, not_false_eq_true, List.nodup_nil, and_true]; exact fun e => hin e.symm, fun x hx y hy e => ?_⟩
      simp only [cells, List.append_nil, List.mem_cons, List.not_mem_nil, or_false] at hy
      rcases hy with rfl | rfl
      · exact hnt2 (e ▸ hx)
      · exact hic (e ▸ hx)
    rw [hp.r]
    refine pr_link_ok (t := t) (s := node n i e .nil .nil) hB2 hrt hrs hp.rt rfl hcc fun M3 δ hB3 hr3 hc3 => ?_
    simp only [go_sem]
    have rs : Rt (node n i e .nil .nil) := rfl
    have hits := lk_its hp.rt rs
    have hcel := lk_cells hp.rt rs
    have hph := lk_ph hp.rt rs
    refine h1 n hnx hnl M3 δ _ hB3 ⟨rfl, hr3, hcel.nodup_iff.2 hcc, lk_rt hp.rt rs, lk_od hp.rt rs hp.od ⟨fun x hx => (by cases hx), trivial, trivial⟩ (dis_its hcc)⟩ (hits.trans (by simp only [its, List.append_nil]; exact List.perm_append_comm)) (hcel.trans (by simp only [cells, List.append_nil]; exact List.perm_append_comm)) ?_
    refine ((he2.mono (S' := fun c => c ∈ n :: i :: cells t) (L' := (· = n)) (fun c hc => by rcases hc with rfl | rfl <;> simp) (fun _ h => h) (Int.le_refl _)).trans ((hc3.mono (T := fun c => c ∈ n :: i :: cells t) (fun c hc => ?_) (Int.le_refl _)).eff)).mono (fun _ h => h) (fun _ h => h) ?_ |>.to (by omega)
    · rcases hc with hc | hc
      · simp [hc]
      · simp only [cells, List.append_nil, List.mem_cons, List.not_mem_nil, or_false] at hc
        rcases hc with rfl | rfl <;> simp
    · have e1 : ph (node n i e LT.nil LT.nil) = 1 := show bl 1 + 0 + 0 = 1 by decide
      have e2 : sz (node n i e LT.nil LT.nil) = 1 := rfl
      rw [e1, e2, sz_its] at hph
      unfold HT.pot limH
      show 3 + 11 ≤ 500 + 400 * (bl ((its t).length + 1) : Int) + 40 * (ph t : Int) - 40 * (ph (lk t (node n i e LT.nil LT.nil)) : Int)
      omega

theorem heap_pop_ok (hA : Holds w0 F M (arenaA a α)) {r : Int} {t : HT} (hp : Hp α r t)
    (h0 : t = HT.nil → R (.tuple #[.int .i64 (-1), .int .i64 (-1)]) M)
    (h : ∀ x L, t.its.Perm (x :: L) → (∀ y ∈ L, Bf x y) → ∀ M' β (t' : HT) n, n ∈ t.nds → Holds w0 F M' (arenaA a β) → Hp β t'.root t' → t'.its.Perm L → (∀ c ∈ t'.cells, c ∈ t.cells) → x.1 ∉ t'.cells → AS.Eff (fun c => c ∈ t.cells) (· = n) (-1) (limH (t.its.length) + HT.pot t - HT.pot t') α β → β.get x.1 9 = -1 ∧ β.get x.1 7 = x.2.1 ∧ β.get x.1 8 = x.2.2 ∧ β.live x.1 = true → R (.tuple #[.int .i64 t'.root, .int .i64 (x.1 : Int)]) M') :
    C PP w0 Id.pairing_Pop #[.pointer (some ⟨a, 0, none⟩), .int .i64 r] R M := by
  rw [hp.r]
  apply pairing_Pop.go
  intro pts H
  unfold pairing_Pop.T
  simp only [go_sem, Option.isNone_some, bs_false]
  refine Live_ok hA ?_
  cases t with
  | nil =>
    rw [show α.liveI LT.nil.root = false from AS.liveI_neg]
    simp only [go_sem, Bool.not_false, bs_true]
    exact h0 rfl
  | node n i e l s =>
    have hs : s = .nil := hp.rt
    subst hs
    have hnd := hp.nd
    have hod := hp.od
    simp only [cells, List.append_nil, List.nodup_cons, List.mem_cons, List.mem_append, not_or] at hnd
    rw [show α.liveI (LT.node n i e l .nil).root = true from by show α.liveI (n : Int) = true; rw [AS.liveI_nat]; exact hp.rep.1.ln]
    simp only [go_sem, Bool.not_true, bs_false]
    rw [H.J1]
    unfold pairing_Pop.J1.T
    refine pr_pop_ok hA hp.rep hp.nd fun M1 β hB hr he hg => ?_
    simp only [go_sem]
    have hcl := up_cells l
    refine h (i, e) (its l) (by simp [its]) (fun y hy => hod.1 y hy) M1 β (kidsUp l) n (by simp [nds]) hB ⟨rfl, hr, hcl.nodup_iff.2 hnd.2.2, up_rt l, up_od hod.2.1 hnd.2.2⟩ (up_its l) (fun c hm => by have := hcl.mem_iff.1 hm; simp [cells, this]) (fun hm => hnd.2.1 (hcl.mem_iff.1 hm)) (he.mono (fun _ h => h) (fun _ h => h) ?_) hg
    have h1 := up_ph l
    have h2 : bl (sz l) ≤ bl ((its (node n i e l .nil)).length) := by rw [← sz_its]; exact bl_mono (by simp only [sz]; omega)
    have h3 : ph l ≤ ph (node n i e l .nil) := by simp only [ph]; omega
    unfold HT.pot limH
    show 15 * ((rts l).length : Int) + 15 ≤ 500 + 400 * (bl ((its (node n i e l .nil)).length) : Int) + 40 * (ph (node n i e l .nil) : Int) - 40 * (ph (kidsUp l) : Int)
    omega

theorem heap_fall_ok (hA : Holds w0 F M (arenaA a α)) {r : Int} {t : HT} {i : Nat} {e e' : Ent} (hF : HpF α r t i e e')
    (h : ∀ M' β (t' : HT), Holds w0 F M' (arenaA a β) → Hp β t'.root t' → (∀ L, t.its.Perm ((i, e) :: L) → t'.its.Perm ((i, e') :: L)) → t'.cells.Perm t.cells → AS.Eff (fun c => c ∈ t.cells) (fun _ => False) 0 (limH (t.its.length) + HT.pot t - HT.pot t') α β → R (.int .i64 t'.root) M') :
    C PP w0 Id.pairing_Fall #[.pointer (some ⟨a, 0, none⟩), .int .i64 r, .int .i64 (i : Int)] R M := by
  obtain ⟨cs, n, l, s, rfl, hr, hrep, hnd, hrt, hoc, hod, habv⟩ := hF
  apply pairing_Fall.go
  intro pts H
  unfold pairing_Fall.T
  have hI := hA.inv
  simp only [go_sem, Option.isNone_some, bs_false]
  obtain ⟨hrc, hrn⟩ := rep_plug.1 hrep
  have hcl := cells_plug cs n i e e' l s
  have hnd' := hcl.nodup_iff.1 hnd
  have hperm : ∀ t', (its t').Perm ((i, e') :: (itsC cs ++ (its l ++ its s))) → ∀ L, (its (plug cs (node n i e l s))).Perm ((i, e) :: L) → (its t').Perm ((i, e') :: L) := fun t' ht L hL =>
    ht.trans (List.Perm.cons _ (List.Perm.cons_inv ((its_plug cs n i e l s).symm.trans hL)))
  refine Node_ok hA fun M1 hA1 => ?_
  rw [show α.cellI (i : Int) 9 = (n : Int) from AS.cellI_live (f := 9) hrn.1.li (by omega) hrn.1.nd (AS.live_lt hI hrn.1.ln)]
  simp only [go_sem, bs_beq]
  rw [if_neg (by omega)]
  cases cs with
  | nil =>
    have hr' : r = (n : Int) := hr
    have hs0 : s = .nil := hrt
    subst hs0
    rw [if_pos hr'.symm]
    refine (hr' ▸ h M1 α.tick (node n i e' l .nil) hA1 ⟨rfl, hrep.chg (S := fun _ => False) AS.tick_sm.chg (fun _ _ h => h), hnd', rfl, hod⟩ (hperm _ (List.Perm.refl _)) hcl.symm (AS.tick_sm.eff.mono (fun _ h => h) (fun _ h => h) ?_))
    unfold HT.pot limH
    show 1 ≤ 500 + 400 * (bl _ : Int) + 40 * (ph (node n i e l .nil) : Int) - 40 * (ph (node n i e' l .nil) : Int)
    simp only [ph]; omega
  | cons c cs =>
    obtain ⟨d, hd1, hd2⟩ := plug_nat c cs (node n i e l s)
    obtain ⟨q1, q2, q3⟩ := List.nodup_append.1 ((plug_cells (c :: cs) (node n i e l s)).nodup_iff.1 hnd)
    have hdn : d ≠ n := q3 d hd1 n (by simp [cells])
    rw [if_neg (fun e => hdn (by rw [hr, hd2] at e; omega))]
    refine Cell_ok hA1 fun M2 hA2 => ?_
    have hrt' : Rt (plug (c :: cs) (node n i e' l s)) := plug_rt (node n i e' l s) (fun e => by cases e) hrt
    obtain ⟨y, hy, hym⟩ := plug_top (fun e => by cases e) hrt
    have hyl : α.live y = true := hrep.live y ((plug_cells (c :: cs) (node n i e' l s)).mem_iff.2 (List.mem_append_left _ hym))
    rw [show α.tick.cellI (n : Int) 0 = (y : Int) from AS.cellI_live (α := α.tick) (f := 0) hrn.1.ln (by omega) (hrn.2.1.trans hy) (AS.live_lt hI hyl)]
    simp only [go_sem]
    rw [if_neg (by omega), H.J1]
    unfold pairing_Fall.J1.T
    have s2 : AS.Sm 2 α α.tick.tick := (AS.tick_sm.trans AS.tick_sm).mono (by omega)
    refine pr_leave_ok hA2 (hrep.chg (S := fun _ => False) s2.chg (fun _ _ h => h)) hnd' hrt' fun M3 β hB hr1 hr2 hcb => ?_
    have hroot : (plug (c :: cs) s).root = r := by rw [hr]; exact plug_root c cs _ _
    have hrt2 : Rt (plug (c :: cs) s) := plug_rt s (fun e => by cases e) hrt
    have rn : Rt (node n i e' l .nil) := rfl
    have hcp : (cells (plug (c :: cs) s) ++ cells (node n i e' l .nil)).Perm (cells (plug (c :: cs) (node n i e l s))) := by
      refine ((plug_cells (c :: cs) s).append_right _).trans ?_
      refine List.Perm.trans ?_ (plug_cells (c :: cs) (node n i e l s)).symm
      rw [List.append_assoc]
      refine List.Perm.append_left _ ?_
      simp only [cells, List.append_nil]
      refine List.perm_append_comm.trans ?_
      simp only [List.cons_append]
      exact List.Perm.refl _
    have hip : (its (plug (c :: cs) s) ++ its (node n i e' l .nil)).Perm ((i, e') :: (itsC (c :: cs) ++ (its l ++ its s))) := by
      refine ((plug_its (c :: cs) s).append_right _).trans ?_
      simp only [its, List.append_nil]
      refine List.perm_middle.trans (List.Perm.cons _ ?_)
      rw [List.append_assoc]
      exact List.perm_append_comm.append_left _
    have hdj := hcp.nodup_iff.2 hnd
    rw [← hroot]
    refine pr_link_ok (s := node n i e' l .nil) hB hr1 hr2 hrt2 rn hdj fun M4 γ hC hr4 hc4 => ?_
    simp only [go_sem]
    have hcel := lk_cells hrt2 rn
    have ho2 : Od (plug (c :: cs) s) := od_plug.2 ⟨hoc, hod.2.2, habv⟩
    refine h M4 γ _ hC ⟨rfl, hr4, hcel.nodup_iff.2 hdj, lk_rt hrt2 rn, lk_od hrt2 rn ho2 ⟨hod.1, hod.2.1, trivial⟩ (dis_its hdj)⟩ (hperm _ ((lk_its hrt2 rn).trans hip)) (hcel.trans hcp) ?_
    refine AS.Eff.mono (AS.Chg.eff ((s2.chg.trans (hcb.mono (T := fun x => x ∈ cells (plug (c :: cs) (node n i e l s))) (fun x hx => hcl.mem_iff.2 hx) (Int.le_refl _))).trans (hc4.mono (T := fun x => x ∈ cells (plug (c :: cs) (node n i e l s))) (fun x hx => hcp.mem_iff.1 (List.mem_append.2 hx)) (Int.le_refl _)))) (fun _ h => h) (fun _ h => h) ?_
    have p1 := lk_ph hrt2 rn
    have p2 := (plug_sz (c :: cs) (t := s) (s := node n i e l s) (by simp only [sz]; omega)).1
    have p3 : sz (plug (c :: cs) s) + sz (node n i e' l .nil) = (its (plug (c :: cs) (node n i e l s))).length := by
      rw [sz_its, sz_its, ← List.length_append, hip.length_eq, (its_plug (c :: cs) n i e l s).length_eq]; rfl
    rw [p3] at p1
    simp only [ph, Nat.add_zero] at p2
    have p4 : bl (sz l + 1) ≤ bl (sz l + sz s + 1) := bl_mono (by omega)
    have p5 : ph (node n i e' l .nil) = bl (sz l + 1) + ph l := by simp only [ph, sz, Nat.add_zero]
    unfold HT.pot limH
    show 2 + 8 + 11 ≤ 500 + 400 * (bl ((its (plug (c :: cs) (node n i e l s))).length) : Int) + 40 * (ph (plug (c :: cs) (node n i e l s)) : Int) - 40 * (ph (lk (plug (c :: cs) s) (node n i e' l .nil)) : Int)
    omega

theorem heap_cut_ok (hA : Holds w0 F M (arenaA a α)) {r : Int} {t : HT} (hp : Hp α r t) {i : Nat} {e : Ent} (hm : (i, e) ∈ t.its)
    (h : ∀ L, t.its.Perm ((i, e) :: L) → ∀ M' β (t' : HT) n, n ∈ t.nds → Holds w0 F M' (arenaA a β) → Hp β t'.root t' → t'.its.Perm L → (∀ c ∈ t'.cells, c ∈ t.cells) → i ∉ t'.cells → AS.Eff (fun c => c ∈ t.cells) (· = n) (-1) (limH (t.its.length) + HT.pot t - HT.pot t') α β → β.get i 9 = -1 ∧ β.live i = true → R (.int .i64 t'.root) M') :
    C PP w0 Id.pairing_Cut #[.pointer (some ⟨a, 0, none⟩), .int .i64 r, .int .i64 (i : Int)] R M := by
  obtain ⟨cs, n, l, s, rfl⟩ := find hm
  apply pairing_Cut.go
  intro pts H
  unfold pairing_Cut.T
  have hI := hA.inv
  have hnd := hp.nd
  have hrt := hp.rt
  simp only [go_sem, Option.isNone_some, bs_false]
  obtain ⟨hrc, hrn⟩ := rep_plug.1 hp.rep
  obtain ⟨hoc, hod, habv⟩ := od_plug.1 hp.od
  refine Node_ok hA fun M1 hA1 => ?_
  rw [show α.cellI (i : Int) 9 = (n : Int) from AS.cellI_live (f := 9) hrn.1.li (by omega) hrn.1.nd (AS.live_lt hI hrn.1.ln)]
  simp only [go_sem, bs_beq]
  rw [if_neg (by omega)]
  have hnm : n ∈ nds (plug cs (node n i e l s)) := (plug_nds cs (node n i e l s)).mem_iff.2 (by simp [nds])
  cases cs with
  | nil =>
    have hr' : r = (n : Int) := hp.r
    have hs0 : s = .nil := hrt
    subst hs0
    have hnd2 : (cells (node n i e l .nil)).Nodup := hnd
    simp only [cells, List.append_nil, List.nodup_cons, List.mem_cons, List.mem_append, not_or] at hnd2
    rw [if_pos hr'.symm]
    have s1 : AS.Sm 1 α α.tick := AS.tick_sm
    refine pr_pop_ok hA1 (n := n) (i := i) (e := e) (l := l) (hp.rep.chg (S := fun _ => False) s1.chg (fun _ _ h => h)) hnd fun M2 β hB hr he hg => ?_
    simp only [go_sem]
    have hcl := up_cells l
    refine h (its l) (by show (its (node n i e l .nil)).Perm _; simp [its]) M2 β (kidsUp l) n hnm hB ⟨rfl, hr, hcl.nodup_iff.2 hnd2.2.2, up_rt l, up_od hod.2.1 hnd2.2.2⟩ (up_its l) (fun c hm => by have := hcl.mem_iff.1 hm; show c ∈ cells (node n i e l .nil); simp [cells, this]) (fun hm => hnd2.2.1 (hcl.mem_iff.1 hm)) (((s1.eff.trans he).mono (fun _ h => h) (fun _ h => h) ?_).to (by omega)) ⟨hg.1, hg.2.2.2⟩
    have h1 := up_ph l
    have h2 : bl (sz l) ≤ bl ((its (node n i e l .nil)).length) := by rw [← sz_its]; exact bl_mono (by simp only [sz]; omega)
    have h3 : ph l ≤ ph (node n i e l .nil) := by simp only [ph]; omega
    unfold HT.pot limH
    show 1 + (15 * ((rts l).length : Int) + 15) ≤ 500 + 400 * (bl ((its (node n i e l .nil)).length) : Int) + 40 * (ph (node n i e l .nil) : Int) - 40 * (ph (kidsUp l) : Int)
    omega
  | cons c cs =>
    obtain ⟨d, hd1, hd2⟩ := plug_nat c cs (node n i e l s)
    have hpc := plug_cells (c :: cs) (node n i e l s)
    obtain ⟨q1, q2, q3⟩ := List.nodup_append.1 (hpc.nodup_iff.1 hnd)
    have hdn : d ≠ n := q3 d hd1 n (by simp [cells])
    rw [if_neg (fun e => hdn (by rw [hp.r, hd2] at e; omega))]
    refine Cell_ok hA1 fun M2 hA2 => ?_
    obtain ⟨y, hy, hym⟩ := plug_top (fun e => by cases e) hrt
    have hyl : α.live y = true := hp.rep.live y (hpc.mem_iff.2 (List.mem_append_left _ hym))
    rw [show α.tick.cellI (n : Int) 0 = (y : Int) from AS.cellI_live (α := α.tick) (f := 0) hrn.1.ln (by omega) (hrn.2.1.trans hy) (AS.live_lt hI hyl)]
    simp only [go_sem]
    rw [if_neg (by omega), H.J1]
    unfold pairing_Cut.J1.T
    have s2 : AS.Sm 2 α α.tick.tick := (AS.tick_sm.trans AS.tick_sm).mono (by omega)
    refine pr_leave_ok hA2 (hp.rep.chg (S := fun _ => False) s2.chg (fun _ _ h => h)) hnd hrt fun M3 β hB hr1 hr2 hcb => ?_
    have hroot : (plug (c :: cs) s).root = r := by rw [hp.r]; exact plug_root c cs _ _
    have hrt2 : Rt (plug (c :: cs) s) := plug_rt s (fun e => by cases e) hrt
    have hcp : (cells (plug (c :: cs) s) ++ cells (node n i e l .nil)).Perm (cells (plug (c :: cs) (node n i e l s))) := by
      refine ((plug_cells (c :: cs) s).append_right _).trans ?_
      refine List.Perm.trans ?_ hpc.symm
      rw [List.append_assoc]
      refine List.Perm.append_left _ ?_
      simp only [cells, List.append_nil]
      refine List.perm_append_comm.trans ?_
      simp only [List.cons_append]
      exact List.Perm.refl _
    have hdj := hcp.nodup_iff.2 hnd
    obtain ⟨u1, u2, u3⟩ := List.nodup_append.1 hdj
    have u2' := u2
    simp only [cells, List.append_nil, List.nodup_cons, List.mem_cons, List.mem_append, not_or] at u2'
    refine pr_pop_ok hB hr2 u2 fun M4 γ hC hr4 he4 hg4 => ?_
    simp only [go_sem]
    have hr5 : Rep γ (-1) (-1) (plug (c :: cs) s) := hr1.congr (fun x hx f => he4.get x (fun h9 => u3 x hx x h9 rfl) f) (fun x hx => he4.live x (fun h9 => u3 x hx n (by simp [cells]) h9))
    have hcl := up_cells l
    have hdj2 : (cells (plug (c :: cs) s) ++ cells (kidsUp l)).Nodup := by
      refine List.nodup_append.2 ⟨u1, hcl.nodup_iff.2 u2'.2.2, fun x hx y hy => ?_⟩
      exact u3 x hx y (by have := hcl.mem_iff.1 hy; simp [cells, this])
    rw [← hroot]
    refine pr_link_ok (s := kidsUp l) hC hr5 hr4 hrt2 (up_rt l) hdj2 fun M5 δ hD hr6 hc6 => ?_
    simp only [go_sem]
    have hcel := lk_cells hrt2 (up_rt l)
    have ho2 : Od (plug (c :: cs) s) := od_plug.2 ⟨hoc, hod.2.2, fun x hx => habv x (by simp [its, hx])⟩
    have hits : (its (lk (plug (c :: cs) s) (kidsUp l))).Perm (itsC (c :: cs) ++ (its l ++ its s)) := by
      refine (lk_its hrt2 (up_rt l)).trans ?_
      refine ((plug_its (c :: cs) s).append (up_its l)).trans ?_
      rw [List.append_assoc]
      exact List.perm_append_comm.append_left _
    have himem : i ∉ cells (plug (c :: cs) s) ∧ i ∉ cells (kidsUp l) := ⟨fun hx => u3 i hx i (by simp [cells]) rfl, fun hx => u2'.2.1 (hcl.mem_iff.1 hx)⟩
    have hci : ∀ x, x ∈ cells (plug (c :: cs) s) ∨ x ∈ cells (kidsUp l) → x ∈ cells (plug (c :: cs) (node n i e l s)) := fun x hx => by
      refine hcp.mem_iff.1 (List.mem_append.2 ?_)
      rcases hx with hx | hx
      · exact .inl hx
      · have := hcl.mem_iff.1 hx
        exact .inr (by simp [cells, this])
    have hin : ¬ (i ∈ cells (plug (c :: cs) s) ∨ i ∈ cells (kidsUp l)) := fun h9 => by rcases h9 with h9 | h9; exact himem.1 h9; exact himem.2 h9
    refine h (itsC (c :: cs) ++ (its l ++ its s)) (its_plug (c :: cs) n i e l s) M5 δ _ n hnm hD ⟨rfl, hr6, hcel.nodup_iff.2 hdj2, lk_rt hrt2 (up_rt l), lk_od hrt2 (up_rt l) ho2 (up_od hod.2.1 u2'.2.2) (dis_its hdj2)⟩ hits (fun x hx => hci x (List.mem_append.1 (hcel.mem_iff.1 hx))) (fun hx => hin (List.mem_append.1 (hcel.mem_iff.1 hx))) ?_ ⟨by rw [hc6.get i hin]; exact hg4.1, by rw [hc6.live]; exact hg4.2.2.2⟩
    have k1 : AS.Eff (fun x => x ∈ cells (plug (c :: cs) (node n i e l s))) (· = n) 0 (2 + 8) α β := (s2.chg.trans hcb).eff
    have k2 := he4.mono (S' := fun x => x ∈ cells (plug (c :: cs) (node n i e l s))) (L' := (· = n)) (fun x hx => hcp.mem_iff.1 (List.mem_append_right _ hx)) (fun _ h => h) (Int.le_refl _)
    have k3 : AS.Eff (fun x => x ∈ cells (plug (c :: cs) (node n i e l s))) (· = n) 0 11 γ δ := (hc6.mono (T := fun x => x ∈ cells (plug (c :: cs) (node n i e l s))) hci (Int.le_refl _)).eff
    refine ((k1.trans k2).trans k3).mono (fun _ h => h) (fun _ h => h) ?_ |>.to (by omega)
    have p1 := lk_ph hrt2 (up_rt l)
    have p2 := (plug_sz (c :: cs) (t := s) (s := node n i e l s) (by simp only [sz]; omega)).1
    have p3 : sz (plug (c :: cs) s) + sz (kidsUp l) + 1 = (its (plug (c :: cs) (node n i e l s))).length := by
      rw [sz_its, sz_its, ← List.length_append, ← (lk_its hrt2 (up_rt l)).length_eq, hits.length_eq, (its_plug (c :: cs) n i e l s).length_eq]; rfl
    have p6 : bl (sz (plug (c :: cs) s) + sz (kidsUp l)) ≤ bl ((its (plug (c :: cs) (node n i e l s))).length) := bl_mono (by omega)
    have p7 := up_ph l
    have p8 : sz l = sz (kidsUp l) := by rw [sz_its, sz_its, (up_its l).length_eq]
    have p9 : bl (sz l) ≤ bl ((its (plug (c :: cs) (node n i e l s))).length) := bl_mono (by omega)
    simp only [ph, Nat.add_zero] at p2
    unfold HT.pot limH
    show 2 + 8 + (15 * ((rts l).length : Int) + 15) + 11 ≤ 500 + 400 * (bl ((its (plug (c :: cs) (node n i e l s))).length) : Int) + 40 * (ph (plug (c :: cs) (node n i e l s)) : Int) - 40 * (ph (lk (plug (c :: cs) s) (kidsUp l)) : Int)
    omega

theorem heap_meld_ok (hA : Holds w0 F M (arenaA a α)) {r s : Int} {t u : HT} (hp : Hp α r t) (hq : Hp α s u) (hd : (t.cells ++ u.cells).Nodup)
    (h : ∀ M' β (t' : HT), Holds w0 F M' (arenaA a β) → Hp β t'.root t' → t'.its.Perm (t.its ++ u.its) → t'.cells.Perm (t.cells ++ u.cells) → AS.Eff (fun c => c ∈ t.cells ∨ c ∈ u.cells) (fun _ => False) 0 (limH (t.its.length + u.its.length) + HT.pot t + HT.pot u - HT.pot t') α β → R (.int .i64 t'.root) M') :
    C PP w0 Id.pairing_Meld #[.pointer (some ⟨a, 0, none⟩), .int .i64 r, .int .i64 s] R M := by
  apply pairing_Meld.go
  unfold pairing_Meld.T
  simp only [go_sem, Option.isNone_some, bs_false]
  rw [hp.r, hq.r]
  refine pr_link_ok (t := t) (s := u) hA hp.rep hq.rep hp.rt hq.rt hd fun M1 β hB hr hc => ?_
  simp only [go_sem]
  have hcel := lk_cells hp.rt hq.rt
  refine h M1 β _ hB ⟨rfl, hr, hcel.nodup_iff.2 hd, lk_rt hp.rt hq.rt, lk_od hp.rt hq.rt hp.od hq.od (dis_its hd)⟩ (lk_its hp.rt hq.rt) hcel (AS.Eff.mono hc.eff (fun _ h => h) (fun _ h => h) ?_)
  have p1 := lk_ph hp.rt hq.rt
  rw [sz_its, sz_its] at p1
  unfold HT.pot limH
  show 11 ≤ 500 + 400 * (bl ((its t).length + (its u).length) : Int) + 40 * (ph t : Int) + 40 * (ph u : Int) - 40 * (ph (lk t u) : Int)
  omega

theorem heap_min_ok (hA : Holds w0 F M (arenaA a α)) {r : Int} {t : HT} (hp : Hp α r t)
    (h0 : t = HT.nil → ∀ M' β, Holds w0 F M' (arenaA a β) → AS.Sm 1 α β → R (.int .i64 (-1)) M')
    (h : ∀ x L, t.its.Perm (x :: L) → (∀ y ∈ L, Bf x y) → ∀ M' β, Holds w0 F M' (arenaA a β) → AS.Sm 1 α β → R (.int .i64 (x.1 : Int)) M') :
    C PP w0 Id.pairing_Min #[.pointer (some ⟨a, 0, none⟩), .int .i64 r] R M := by
  apply pairing_Min.go
  unfold pairing_Min.T
  simp only [go_sem, Option.isNone_some, bs_false]
  rw [hp.r]
  refine Cell_ok hA fun M1 hA1 => ?_
  cases t with
  | nil =>
    rw [show LT.nil.root = -1 from rfl, AS.cellI_none AS.liveI_neg]
    simp only [go_sem]
    exact h0 rfl M1 _ hA1 AS.tick_sm
  | node n i e l s =>
    have hs : s = .nil := hp.rt
    subst hs
    rw [show α.cellI (LT.node n i e l .nil).root 6 = (i : Int) from AS.cellI_live (c := n) (f := 6) hp.rep.1.ln (by omega) hp.rep.1.it (AS.live_lt hA.inv hp.rep.1.li)]
    simp only [go_sem]
    exact h (i, e) (its l) (by show (its (node n i e l .nil)).Perm _; simp [its]) (fun y hy => hp.od.1 y hy) M1 _ hA1 AS.tick_sm

end
end Go.Proofs.Ytmabiogngbkhhaa.HL

/-
  PrE: pairing heaps: all nodes, all items; a heap that is given up.
-/
set_option linter.unusedVariables false
set_option linter.unusedSimpArgs false
set_option maxRecDepth 100000
namespace Go.Proofs.Ytmabiogngbkhhaa.HL
open Go.RowKit (Below)
open Go.Proofs

namespace LT
/-- Nodes with their items. -/
def prs : LT → List (Nat × Held)
  | nil => []
  | node n i e l r => (n, (i, e)) :: (prs l ++ prs r)
theorem prs_nds : ∀ (t : LT), (prs t).map (·.1) = nds t
  | nil => rfl
  | node n i e l r => by simp [prs, nds, prs_nds l, prs_nds r]
theorem prs_its : ∀ (t : LT), (prs t).map (·.2) = its t
  | nil => rfl
  | node n i e l r => by simp [prs, its, prs_its l, prs_its r]
theorem prs_cells : ∀ (t : LT), ((prs t).map (·.1) ++ (prs t).map (fun p => p.2.1)).Perm (cells t)
  | nil => List.Perm.refl _
  | node n i e l r => by
    simp only [prs, cells, List.map_cons, List.map_append, List.cons_append]
    refine List.Perm.cons _ (List.perm_middle.trans (List.Perm.cons _ ?_))
    refine List.Perm.trans ?_ ((prs_cells l).append (prs_cells r))
    rw [List.append_assoc, List.append_assoc]
    refine List.Perm.append_left _ ?_
    rw [← List.append_assoc, ← List.append_assoc]
    exact List.perm_append_comm.append_right _
theorem prs_nd {α : AS} : ∀ {t : LT} {up lf : Int}, Rep α up lf t → ∀ p ∈ prs t, α.Nd p.1 p.2.1 p.2.2
  | nil, _, _, _, p, hp => by cases hp
  | node n i e l r, up, lf, h, p, hp => by
    simp only [prs, List.mem_cons, List.mem_append] at hp
    rcases hp with rfl | hp | hp
    · exact h.1
    · exact prs_nd h.2.2.2.2.2.1 p hp
    · exact prs_nd h.2.2.2.2.2.2 p hp
/-- What stands below a node. -/
def Kd (α : AS) (S : List Nat) (n : Nat) (ks : List Int) : Prop := ∃ c : LT, n ∈ S ∧ α.get n 1 = c.root ∧ Rep α n (-1) c ∧ (cells c).Nodup ∧ ks = intsN (rts c)
theorem tr_of {α : AS} {S : List Nat} : ∀ (t : LT) {up lf : Int}, Rep α up lf t → (cells t).Nodup → (∀ n ∈ nds t, n ∈ S) → ∀ {w : List Int} {N : List Nat}, Tr (Kd α S) w N → ∃ N', Tr (Kd α S) (w ++ intsN (rts t)) N' ∧ N'.Perm (nds t ++ N)
  | nil, _, _, _, _, _, w, N, h => ⟨N, by simpa [rts, intsN] using h, List.Perm.refl _⟩
  | node n i e c r, up, lf, hr, hnd, hS, w, N, h => by
    simp only [cells, List.nodup_cons] at hnd
    obtain ⟨k1, k2, _⟩ := List.nodup_append.1 hnd.2.2
    obtain ⟨N1, h1, p1⟩ := tr_of c hr.2.2.2.2.2.1 k1 (fun x hx => hS x (by simp [nds, hx])) h
    have h2 : Tr (Kd α S) (w ++ [(n : Int)]) (n :: N1) := Tr.node (ks := intsN (rts c)) ⟨c, hS n (by simp [nds]), hr.2.2.1, hr.2.2.2.2.2.1, k1, rfl⟩ h1
    obtain ⟨N2, h3, p2⟩ := tr_of r hr.2.2.2.2.2.2 k2 (fun x hx => hS x (by simp [nds, hx])) h2
    refine ⟨N2, ?_, ?_⟩
    · have e : w ++ intsN (rts (node n i e c r)) = w ++ [(n : Int)] ++ intsN (rts r) := by simp [rts, intsN]
      rw [e]; exact h3
    · refine p2.trans (List.perm_middle.trans ?_)
      simp only [nds, List.cons_append]
      refine List.Perm.cons _ ((p1.append_left _).trans ?_)
      rw [← List.append_assoc]
      exact List.perm_append_comm.append_right _
end LT

section
variable {w0 : World} {M F : Mem} {R : Value → Mem → Prop} {a : Nat} {α : AS}
open Go.Proofs.Ytmabiogngbkhhaa.HL.LT

theorem pr_nodes_ok (hA : Holds w0 F M (arenaA a α)) {r : Int} {t : LT} (hp : Hp α r t) (h : ∀ M' s N β, Holds w0 F M' (star (SlA s ((intsN N).map (Value.int .i64))) (arenaA a β)) → N.Perm (nds t) → AS.Sq α β → R s.v M') : C PP w0 Id.pairing_nodes #[.pointer (some ⟨a, 0, none⟩), .int .i64 r] R M := by
  apply pairing_nodes.go
  unfold pairing_nodes.T
  have hI := hA.inv
  have h65 := hI.n
  intro b hb hw
  obtain ⟨F1, hle1, hown, hA1, back1⟩ := hA.box hb hw [.pointer (some ⟨a, 0, none⟩)] 28
  have hbox : ∀ M', Mem.le F1 M' → rd w0 M' ⟨b, 0, none⟩ = some (.pointer (some ⟨a, 0, none⟩)) := fun M' hl => by rw [rd_own (hown.le hl)]; rfl
  simp only [go_sem, hbox _ hA1.fr]
  refine lit_ok [r] (n := 1) (by decide) (by kernel_rfl) rfl (wf_all fun x hx => ?_) fun M2 s2 l2 r2 => ?_
  · simp only [List.mem_cons, List.not_mem_nil, or_false] at hx
    subst hx
    rcases hp.rep.rootv with h0 | ⟨y, hy, hl⟩
    · rw [hp.r, h0]; unfold In64; omega
    · have := AS.live_lt hI hl
      rw [hp.r, hy]; unfold In64; omega
  have hA2 := hA1.le l2
  obtain ⟨N, hT, hN⟩ : ∃ N, Tr (Kd α (nds t)) [r] N ∧ N.Perm (nds t) := by
    have hrt := hp.rt
    rw [hp.r]
    match t, hp, hrt with
    | .nil, hp, hrt => exact ⟨[], Tr.skip (w := []) Tr.nil, List.Perm.refl _⟩
    | .node n i e l s, hp, hrt =>
      obtain rfl : s = .nil := hrt
      obtain ⟨N, h1, h2⟩ := tr_of (S := nds (.node n i e l .nil)) _ hp.rep hp.nd (fun _ h => h) (Tr.nil (K := Kd α (nds (.node n i e l .nil))))
      rw [List.append_nil] at h2
      exact ⟨N, h1, h2⟩
  have hndn : (nds t).Nodup := (prs_nds t) ▸ (List.nodup_append.1 ((prs_cells t).nodup_iff.2 hp.nd)).1
  have hlv : ∀ n ∈ N, α.live n = true := fun n hn => hp.live n (mem_nds (hN.mem_iff.1 hn))
  have hrl : ∀ (t : LT) {u v : Int}, Rep α u v t → ∀ x ∈ rts t, α.live x = true := by
    intro t
    induction t with
    | nil => intro u v _ x hx; cases hx
    | node m j f b r _ ih =>
      intro u v hr x hx
      rcases List.mem_cons.1 hx with rfl | hx
      · exact hr.1.ln
      · exact ih hr.2.2.2.2.2.2 x hx
  have hkl : ∀ (c : LT) {u v : Int}, Rep α u v c → (cells c).Nodup → (rts c).length ≤ 40000 := fun c u v hr hn => by
    have h1 := nodup_len α.n _ hn fun x hx => AS.live_lt hI (hr.live x hx)
    rw [cells_len] at h1
    have := rts_le c
    omega
  refine Below_ok (K := Kd α (nds t)) (kf := (Id.pairing_nodes_1, #[.pointer (some ⟨b, 0, none⟩)])) hA2 r2 (by simp) hT (hN.nodup_iff.2 hndn) hlv (fun n ks hk => ?_) (fun n ks hk x hx => ?_) (fun n ks hn hk F' M' β R' hle hB hq hR' => ?_) fun M3 s3 β hH hq => ?_
  · obtain ⟨c, g0, g1, g2, g3, rfl⟩ := hk
    have := hkl c g2 g3
    simp [intsN]; omega
  · obtain ⟨c, g0, g1, g2, g3, rfl⟩ := hk
    obtain ⟨y, hy, rfl⟩ := List.mem_map.1 hx
    have := AS.live_lt hI (hrl c g2 y hy)
    unfold In64; omega
  · show C PP w0 Id.pairing_nodes_1 #[.int .i64 (n : Int), .pointer (some ⟨b, 0, none⟩)] R' M'
    apply pairing_nodes_1.go
    unfold pairing_nodes_1.T
    have hbox' : ∀ M', Mem.le F' M' → rd w0 M' ⟨b, 0, none⟩ = some (.pointer (some ⟨a, 0, none⟩)) := fun M' hl => hbox M' (Mem.le_trans hle hl)
    obtain ⟨c, g0, g1, g2, g3, rfl⟩ := hk
    simp only [go_sem, hbox' _ hB.fr]
    have hln : β.live n = true := by rw [hq.live]; exact hlv n hn
    refine pr_kids_ok hB hln (by rw [hq.get]; exact g1) (g2.congr (fun _ _ _ => by rw [hq.get]) (fun _ _ => by rw [hq.live])) g3 fun M4 s4 γ hH4 hs4 => ?_
    simp only [go_sem]
    have hlt := hkl c g2 g3
    exact hR' M4 s4 γ hH4.right hs4.sq (hH4.rdI' (fun x hx => by have := AS.live_lt hI (hrl c g2 x hx); omega) (by omega))
  · simp only [go_sem]
    exact h M3 s3 N β (back1 _ _ hH) hN hq

/-- All items are told. -/
theorem hp_all_ok (hA : Holds w0 F M (arenaA a α)) {r : Int} {t : LT} (hp : Hp α r t) (h : ∀ M' s (z : List Int) β, Holds w0 F M' (star (SlA s (z.map (Value.int .i64))) (arenaA a β)) → z.Perm (intsN ((its t).map (·.1))) → z.Pairwise (· ≤ ·) → AS.Sq α β → R s.v M') : C PP w0 Id.pairing_All #[.pointer (some ⟨a, 0, none⟩), .int .i64 r] R M := by
  apply pairing_All.go
  unfold pairing_All.T
  have hI := hA.inv
  have h65 := hI.n
  have hsz := hp.size hI
  simp only [go_sem, Option.isNone_some, bs_false]
  refine pr_nodes_ok hA hp fun M1 s N β hH hN hq => ?_
  simp only [go_sem]
  have hNl : ∀ x ∈ N, α.live x = true := fun x hx => hp.live x (mem_nds (hN.mem_iff.1 hx))
  have hNlen : N.length = (its t).length := by rw [hN.length_eq, nds_len]
  obtain ⟨F', hle, hB, hS⟩ := hH.freeze (fun c hc => by
    obtain ⟨z, hz, rfl⟩ := List.mem_map.1 hc
    have := AS.live_lt hI (hNl z hz)
    exact wf64 (by unfold In64; omega)) (by simp [intsN]; omega)
  obtain ⟨P, hP1, hP2⟩ := perm_lift (·.1) hN.symm (prs t) (prs_nds t)
  have hnd : ∀ p ∈ P, α.Nd p.1 p.2.1 p.2.2 := fun p hp' => prs_nd hp.rep p (hP1.mem_iff.1 hp')
  refine Items_ok (I := P.map fun p => p.2.1) hB hS (by rw [← hP2]; simp) (by omega) (fun j n hj => ?_) fun M2 s2 z γ hH2 hz hz2 hq2 => ?_
  · rw [← hP2, List.getElem?_map] at hj
    cases hx : P[j]? with
    | none => rw [hx] at hj; cases hj
    | some p =>
      rw [hx] at hj; cases hj
      have := hnd p (List.mem_of_getElem? hx)
      exact ⟨p.2.1, by rw [List.getElem?_map, hx]; rfl, by rw [hq.live]; exact this.ln, by rw [hq.get]; exact this.it, by rw [hq.n]; exact AS.live_lt hI this.li⟩
  · simp only [go_sem]
    refine h M2 s2 z γ (Holds.le_frame hH2 hle) (hz.trans ?_) hz2 (hq.trans hq2)
    unfold intsN
    refine List.Perm.map _ ?_
    rw [← prs_its]
    rw [List.map_map]
    exact hP1.map _

/-- A heap is given up: all its items come out. -/
theorem hp_drop_ok (hA : Holds w0 F M (arenaA a α)) {r : Int} {t : LT} (hp : Hp α r t) (h : ∀ M' s (z : List Int) β, Holds w0 F M' (star (SlA s (z.map (Value.int .i64))) (arenaA a β)) → z.Perm (intsN ((its t).map (·.1))) → z.Pairwise (· ≤ ·) → (∃ k, AS.Eff (fun c => c ∈ cells t) (fun c => c ∈ nds t) (-((its t).length : Int)) k α β) → (∀ x ∈ its t, β.get x.1 9 = -1 ∧ β.live x.1 = true) → R s.v M') : C PP w0 Id.pairing_Drop #[.pointer (some ⟨a, 0, none⟩), .int .i64 r] R M := by
  apply pairing_Drop.go
  unfold pairing_Drop.T
  have hI := hA.inv
  have h65 := hI.n
  have hsz := hp.size hI
  simp only [go_sem, Option.isNone_some, bs_false]
  refine pr_nodes_ok hA hp fun M1 s N β hH hN hq => ?_
  simp only [go_sem]
  have hNl : ∀ x ∈ N, α.live x = true := fun x hx => hp.live x (mem_nds (hN.mem_iff.1 hx))
  have hNlen : N.length = (its t).length := by rw [hN.length_eq, nds_len]
  obtain ⟨F', hle, hB, hS⟩ := hH.freeze (fun c hc => by
    obtain ⟨z, hz, rfl⟩ := List.mem_map.1 hc
    have := AS.live_lt hI (hNl z hz)
    exact wf64 (by unfold In64; omega)) (by simp [intsN]; omega)
  obtain ⟨P, hP1, hP2⟩ := perm_lift (·.1) hN.symm (prs t) (prs_nds t)
  have hnd : ∀ p ∈ P, α.Nd p.1 p.2.1 p.2.2 := fun p hp' => prs_nd hp.rep p (hP1.mem_iff.1 hp')
  have hcel : (P.map (·.1) ++ P.map (fun p => p.2.1)).Nodup := ((hP1.map _).append (hP1.map _)).nodup_iff.2 ((prs_cells t).nodup_iff.2 hp.nd)
  rw [← hP2] at hS
  refine Drop_ok (P := P) hB hS (by have := congrArg List.length hP2; simp only [List.length_map] at this; omega) (fun p hp' => ?_) hcel fun M2 s2 z γ hH2 hz hz2 hq2 => ?_
  · obtain ⟨k, hk⟩ := hq
    exact hk.nd (hnd p hp')
  · simp only [go_sem]
    have hq3 : AS.Sq (α.endAll P) γ := (hq.endAll P).trans hq2
    have hPi : (P.map fun p => p.2.1).Perm ((its t).map (·.1)) := by
      rw [← prs_its, List.map_map]
      exact hP1.map _
    have hPl : P.length = (its t).length := by have := hPi.length_eq; simpa using this
    refine h M2 s2 z γ (Holds.le_frame hH2 hle) (hz.trans (by unfold intsN; exact hPi.map _)) hz2 ?_ fun x hx => ?_
    · rw [← hPl]
      refine eff_endAll hI (fun p hp' => (hnd p hp').ln) (List.nodup_append.1 hcel).1 (fun p hp' => ?_) (fun p hp' => ?_) hq3 ⟨hI.steps.1, hI.steps.2.2⟩
      · exact (prs_cells t).mem_iff.1 (List.mem_append_right _ (List.mem_map_of_mem (f := fun p : Nat × Held => p.2.1) (hP1.mem_iff.1 hp')))
      · rw [← prs_nds]; exact List.mem_map_of_mem (f := (·.1)) (hP1.mem_iff.1 hp')
    · have hm : x.1 ∈ P.map fun p => p.2.1 := hPi.mem_iff.2 (List.mem_map_of_mem (f := (·.1)) hx)
      refine ⟨?_, ?_⟩
      · rw [hq3.get, AS.endAll_get, if_pos ⟨rfl, hm⟩]
      · rw [hq3.live, AS.endAll_live, if_neg (fun h9 => (List.nodup_append.1 hcel).2.2 _ h9 _ hm rfl)]
        exact hp.live x.1 (mem_its hx)

theorem heap_all_ok (hA : Holds w0 F M (arenaA a α)) {r : Int} {t : HT} (hp : Hp α r t) (h : ∀ M' s (z : List Int) β, Holds w0 F M' (star (SlA s (z.map (Value.int .i64))) (arenaA a β)) → z.Perm (intsN (t.its.map (·.1))) → z.Pairwise (· ≤ ·) → AS.Sq α β → R s.v M') : C PP w0 Id.pairing_All #[.pointer (some ⟨a, 0, none⟩), .int .i64 r] R M := hp_all_ok hA hp h
theorem heap_drop_ok (hA : Holds w0 F M (arenaA a α)) {r : Int} {t : HT} (hp : Hp α r t) (h : ∀ M' s (z : List Int) β, Holds w0 F M' (star (SlA s (z.map (Value.int .i64))) (arenaA a β)) → z.Perm (intsN (t.its.map (·.1))) → z.Pairwise (· ≤ ·) → (∃ k, AS.Eff (fun c => c ∈ t.cells) (fun c => c ∈ t.nds) (-(t.its.length : Int)) k α β) → (∀ x ∈ t.its, β.get x.1 9 = -1 ∧ β.live x.1 = true) → R s.v M') : C PP w0 Id.pairing_Drop #[.pointer (some ⟨a, 0, none⟩), .int .i64 r] R M := hp_drop_ok hA hp h

end
theorem HT.its_nodup {t : HT} (h : t.cells.Nodup) : (t.its.map (·.1)).Nodup := by
  have h1 := (List.nodup_append.1 ((LT.prs_cells t).nodup_iff.2 h)).2.1
  have h2 : t.its.map (·.1) = (LT.prs t).map (fun p => p.2.1) := by
    show (LT.its t).map (·.1) = _
    rw [← LT.prs_its, List.map_map]; rfl
  rw [h2]; exact h1

end Go.Proofs.Ytmabiogngbkhhaa.HL

