import Derived.Test.YtiejdmkobmphfaaXb
/-
  LfM: heaps that lean to the left, in plain Lean, with no program in sight.
-/
set_option linter.unusedVariables false
set_option linter.unusedSimpArgs false
namespace Go.Proofs.Ytiejdmkobmphfaa.HL

inductive LT where
  | nil
  | node (n i : Nat) (e : Ent) (l r : LT)

namespace LT
def root : LT → Int
  | nil => -1
  | node n _ _ _ _ => (n : Int)
def rk : LT → Nat
  | nil => 0
  | node _ _ _ _ r => rk r + 1
def its : LT → List Held
  | nil => []
  | node _ i e l r => (i, e) :: (its l ++ its r)
def nds : LT → List Nat
  | nil => []
  | node n _ _ l r => n :: (nds l ++ nds r)
def cells : LT → List Nat
  | nil => []
  | node n i _ l r => n :: i :: (cells l ++ cells r)
def Ln : LT → Prop
  | nil => True
  | node _ _ _ l r => rk r ≤ rk l ∧ Ln l ∧ Ln r
def Od : LT → Prop
  | nil => True
  | node _ i e l r => (∀ x ∈ its l, Bf (i, e) x) ∧ (∀ x ∈ its r, Bf (i, e) x) ∧ Od l ∧ Od r

theorem pow_rk : ∀ {t : LT}, Ln t → 2 ^ rk t ≤ (its t).length + 1
  | nil, _ => by simp [rk, its]
  | node n i e l r, h => by
    have h1 := pow_rk h.2.1
    have h2 := pow_rk h.2.2
    have h3 : 2 ^ rk r ≤ 2 ^ rk l := Nat.pow_le_pow_right (by decide) h.1
    simp only [rk, its, List.length_cons, List.length_append, Nat.pow_succ]
    omega
theorem nds_len : ∀ (t : LT), (nds t).length = (its t).length
  | nil => rfl
  | node n i e l r => by simp only [nds, its, List.length_cons, List.length_append, nds_len l, nds_len r]
theorem cells_len : ∀ (t : LT), (cells t).length = 2 * (its t).length
  | nil => rfl
  | node n i e l r => by simp only [cells, its, List.length_cons, List.length_append, cells_len l, cells_len r]; omega
theorem mem_nds : ∀ {t : LT} {x : Nat}, x ∈ nds t → x ∈ cells t
  | nil, x, h => by cases h
  | node n i e l r, x, h => by
    simp only [nds, cells, List.mem_cons, List.mem_append] at h ⊢
    rcases h with h | h | h
    · exact .inl h
    · exact .inr (.inr (.inl (mem_nds h)))
    · exact .inr (.inr (.inr (mem_nds h)))
theorem mem_its : ∀ {t : LT} {x : Held}, x ∈ its t → x.1 ∈ cells t
  | nil, x, h => by cases h
  | node n i e l r, x, h => by
    simp only [its, cells, List.mem_cons, List.mem_append] at h ⊢
    rcases h with h | h | h
    · exact .inr (.inl (by rw [h]))
    · exact .inr (.inr (.inl (mem_its h)))
    · exact .inr (.inr (.inr (mem_its h)))

/-- What stands in memory. -/
def Rep (α : AS) : Int → LT → Prop
  | _, nil => True
  | up, node n i e l r => α.Nd n i e ∧ α.get n 0 = up ∧ α.get n 1 = -1 ∧ α.get n 2 = l.root ∧ α.get n 3 = r.root ∧ α.get n 4 = (rk r : Int) + 1 ∧ Rep α n l ∧ Rep α n r
theorem Rep.congr {α β : AS} : ∀ {t : LT} {up : Int}, Rep α up t → (∀ c ∈ cells t, ∀ f, β.get c f = α.get c f) → (∀ c ∈ cells t, β.live c = α.live c) → Rep β up t
  | nil, _, _, _, _ => trivial
  | node n i e l r, up, h, hg, hl => by
    obtain ⟨h1, h2, h3, h4, h5, h6, h7, h8⟩ := h
    simp only [cells, List.mem_cons, List.mem_append] at hg hl
    refine ⟨h1.congr (hg n (.inl rfl)) (hg i (.inr (.inl rfl))) (hl n (.inl rfl)) (hl i (.inr (.inl rfl))), ?_, ?_, ?_, ?_, ?_, ?_, ?_⟩
    · rw [hg n (.inl rfl)]; exact h2
    · rw [hg n (.inl rfl)]; exact h3
    · rw [hg n (.inl rfl)]; exact h4
    · rw [hg n (.inl rfl)]; exact h5
    · rw [hg n (.inl rfl)]; exact h6
    · exact h7.congr (fun c hc => hg c (.inr (.inr (.inl hc)))) (fun c hc => hl c (.inr (.inr (.inl hc))))
    · exact h8.congr (fun c hc => hg c (.inr (.inr (.inr hc)))) (fun c hc => hl c (.inr (.inr (.inr hc))))
theorem Rep.chg {α β : AS} {S : Nat → Prop} {k : Int} {t : LT} {up : Int} (h : Rep α up t) (hc : AS.Chg S k α β) (hS : ∀ c ∈ cells t, ¬ S c) : Rep β up t :=
  h.congr (fun c hm f => hc.get c (hS c hm) f) (fun c hm => by rw [hc.live])
/-- The root has another one above it. -/
theorem Rep.up {α β : AS} {t : LT} {up up' : Int} (h : Rep α up t) (hn : (cells t).Nodup) (h0 : ∀ n : Nat, t.root = (n : Int) → β.get n 0 = up') (hg : ∀ c ∈ cells t, ∀ f, ((c : Int) ≠ t.root ∨ f ≠ 0) → β.get c f = α.get c f) (hl : ∀ c ∈ cells t, β.live c = α.live c) : Rep β up' t := by
  cases t with
  | nil => trivial
  | node n i e l r =>
    obtain ⟨h1, h2, h3, h4, h5, h6, h7, h8⟩ := h
    simp only [cells, List.nodup_cons, List.mem_cons, List.mem_append, not_or] at hg hl hn
    have hne : ∀ f, f ≠ 0 → β.get n f = α.get n f := fun f hf => hg n (.inl rfl) f (.inr hf)
    have hq : ∀ c : Nat, c ≠ n → (c : Int) ≠ (node n i e l r).root := fun c hc e => hc (by simp only [root] at e; omega)
    have hi : ∀ f, β.get i f = α.get i f := fun f => hg i (.inr (.inl rfl)) f (.inl (hq i (fun e => hn.1.1 e.symm)))
    refine ⟨⟨(hl n (.inl rfl)).trans h1.ln, (hl i (.inr (.inl rfl))).trans h1.li, (hne 6 (by decide)).trans h1.it, (hi 9).trans h1.nd, (hi 7).trans h1.k, (hi 8).trans h1.s⟩, h0 n rfl, (hne 1 (by decide)).trans h3, (hne 2 (by decide)).trans h4, (hne 3 (by decide)).trans h5, (hne 4 (by decide)).trans h6, ?_, ?_⟩
    · exact h7.congr (fun c hc f => hg c (.inr (.inr (.inl hc))) f (.inl (hq c (fun e => hn.1.2.1 (e ▸ hc))))) (fun c hc => hl c (.inr (.inr (.inl hc))))
    · exact h8.congr (fun c hc f => hg c (.inr (.inr (.inr hc))) f (.inl (hq c (fun e => hn.1.2.2 (e ▸ hc))))) (fun c hc => hl c (.inr (.inr (.inr hc))))
theorem Rep.any {α : AS} {up : Int} (h : Rep α up nil) (up' : Int) : Rep α up' nil := trivial
theorem Rep.live {α : AS} : ∀ {t : LT} {up : Int}, Rep α up t → ∀ c ∈ cells t, α.live c = true
  | nil, _, _, c, hc => by cases hc
  | node n i e l r, up, h, c, hc => by
    obtain ⟨h1, h2, h3, h4, h5, h6, h7, h8⟩ := h
    simp only [cells, List.mem_cons, List.mem_append] at hc
    rcases hc with rfl | rfl | hc | hc
    · exact h1.ln
    · exact h1.li
    · exact h7.live c hc
    · exact h8.live c hc
theorem Rep.rootv {α : AS} {t : LT} {up : Int} (h : Rep α up t) : t.root = -1 ∨ ∃ y : Nat, t.root = (y : Int) ∧ α.live y = true := by
  cases t with
  | nil => exact .inl rfl
  | node n i e l r => exact .inr ⟨n, rfl, h.1.ln⟩
theorem root_mem {t : LT} {n : Nat} (h : t.root = (n : Int)) : n ∈ cells t := by
  cases t with
  | nil => simp only [root] at h; omega
  | node m i e l r =>
    simp only [root] at h
    have : m = n := by omega
    subst this
    simp [cells]
theorem root_nil {t : LT} (h : t.root = -1) : t = nil := by
  cases t with
  | nil => rfl
  | node m i e l r => simp only [root] at h; omega
theorem root_ge (t : LT) : -1 ≤ t.root := by cases t <;> simp only [root] <;> omega

/-! Two become one. -/
def fx (n i : Nat) (e : Ent) (l r : LT) : LT := if rk l < rk r then node n i e r l else node n i e l r
def top : LT → Held
  | nil => (0, 0, 0)
  | node _ i e _ _ => (i, e)
def meld : Nat → LT → LT → LT
  | 0, t, _ => t
  | _ + 1, nil, s => s
  | _ + 1, t, nil => t
  | k + 1, node n i e l r, node m j f a b => if Bf (j, f) (i, e) then fx m j f a (meld k b (node n i e l r)) else fx n i e l (meld k r (node m j f a b))
/-- How many nodes are looked at. -/
def steps : Nat → LT → LT → Nat
  | 0, _, _ => 0
  | _ + 1, nil, _ => 0
  | _ + 1, _, nil => 0
  | k + 1, node n i e l r, node m j f a b => if Bf (j, f) (i, e) then steps k b (node n i e l r) + 1 else steps k r (node m j f a b) + 1

theorem fx_root (n i : Nat) (e : Ent) (l r : LT) : (fx n i e l r).root = n := by unfold fx; split <;> rfl
theorem fx_rk (n i : Nat) (e : Ent) (l r : LT) : rk (fx n i e l r) = min (rk l) (rk r) + 1 := by
  unfold fx; split <;> simp only [rk] <;> omega
theorem fx_its (n i : Nat) (e : Ent) (l r : LT) : (its (fx n i e l r)).Perm ((i, e) :: (its l ++ its r)) := by
  unfold fx; split
  · exact List.Perm.cons _ List.perm_append_comm
  · exact List.Perm.refl _
theorem fx_nds (n i : Nat) (e : Ent) (l r : LT) : (nds (fx n i e l r)).Perm (n :: (nds l ++ nds r)) := by
  unfold fx; split
  · exact List.Perm.cons _ List.perm_append_comm
  · exact List.Perm.refl _
theorem fx_cells (n i : Nat) (e : Ent) (l r : LT) : (cells (fx n i e l r)).Perm (n :: i :: (cells l ++ cells r)) := by
  unfold fx; split
  · exact List.Perm.cons _ (List.Perm.cons _ List.perm_append_comm)
  · exact List.Perm.refl _
theorem fx_ln {n i : Nat} {e : Ent} {l r : LT} (hl : Ln l) (hr : Ln r) : Ln (fx n i e l r) := by
  unfold fx; split
  · exact ⟨by omega, hr, hl⟩
  · exact ⟨by omega, hl, hr⟩
theorem fx_od {n i : Nat} {e : Ent} {l r : LT} (hl : Od l) (hr : Od r) (h1 : ∀ x ∈ its l, Bf (i, e) x) (h2 : ∀ x ∈ its r, Bf (i, e) x) : Od (fx n i e l r) := by
  unfold fx; split
  · exact ⟨h2, h1, hr, hl⟩
  · exact ⟨h1, h2, hl, hr⟩

theorem meld_its : ∀ (k : Nat) (t s : LT), (its t).length + (its s).length ≤ k → (its (meld k t s)).Perm (its t ++ its s)
  | 0, t, s, h => by
    have : its s = [] := List.eq_nil_of_length_eq_zero (by omega)
    simp [meld, this]
  | k + 1, nil, s, h => by simp [meld, its]
  | k + 1, node n i e l r, nil, h => by simp [meld, its]
  | k + 1, node n i e l r, node m j f a b, h => by
    simp only [its, List.length_cons, List.length_append] at h
    simp only [meld]
    split
    · refine (fx_its _ _ _ _ _).trans ?_
      have h1 := meld_its k b (node n i e l r) (by simp only [its, List.length_cons, List.length_append]; omega)
      show List.Perm _ (its (node n i e l r) ++ (j, f) :: (its a ++ its b))
      refine (List.Perm.cons _ ?_).trans List.perm_middle.symm
      refine (h1.append_left _).trans ?_
      rw [← List.append_assoc]
      exact List.perm_append_comm
    · refine (fx_its _ _ _ _ _).trans ?_
      have h1 := meld_its k r (node m j f a b) (by simp only [its, List.length_cons, List.length_append]; omega)
      show List.Perm _ (((i, e) :: (its l ++ its r)) ++ _)
      rw [List.cons_append]
      refine List.Perm.cons _ ?_
      rw [List.append_assoc]
      exact h1.append_left _
theorem meld_nds : ∀ (k : Nat) (t s : LT), (its t).length + (its s).length ≤ k → (nds (meld k t s)).Perm (nds t ++ nds s)
  | 0, t, s, h => by
    have : nds s = [] := List.eq_nil_of_length_eq_zero (by rw [nds_len]; omega)
    simp [meld, this]
  | k + 1, nil, s, h => by simp [meld, nds]
  | k + 1, node n i e l r, nil, h => by simp [meld, nds]
  | k + 1, node n i e l r, node m j f a b, h => by
    simp only [its, List.length_cons, List.length_append] at h
    simp only [meld]
    split
    · refine (fx_nds _ _ _ _ _).trans ?_
      have h1 := meld_nds k b (node n i e l r) (by simp only [its, List.length_cons, List.length_append]; omega)
      show List.Perm _ (nds (node n i e l r) ++ m :: (nds a ++ nds b))
      refine (List.Perm.cons _ ?_).trans List.perm_middle.symm
      refine (h1.append_left _).trans ?_
      rw [← List.append_assoc]
      exact List.perm_append_comm
    · refine (fx_nds _ _ _ _ _).trans ?_
      have h1 := meld_nds k r (node m j f a b) (by simp only [its, List.length_cons, List.length_append]; omega)
      show List.Perm _ ((n :: (nds l ++ nds r)) ++ _)
      rw [List.cons_append]
      refine List.Perm.cons _ ?_
      rw [List.append_assoc]
      exact h1.append_left _
theorem meld_cells : ∀ (k : Nat) (t s : LT), (its t).length + (its s).length ≤ k → (cells (meld k t s)).Perm (cells t ++ cells s)
  | 0, t, s, h => by
    have : cells s = [] := List.eq_nil_of_length_eq_zero (by rw [cells_len]; omega)
    simp [meld, this]
  | k + 1, nil, s, h => by simp [meld, cells]
  | k + 1, node n i e l r, nil, h => by simp [meld, cells]
  | k + 1, node n i e l r, node m j f a b, h => by
    simp only [its, List.length_cons, List.length_append] at h
    simp only [meld]
    split
    · refine (fx_cells _ _ _ _ _).trans ?_
      have h1 := meld_cells k b (node n i e l r) (by simp only [its, List.length_cons, List.length_append]; omega)
      show List.Perm _ (cells (node n i e l r) ++ m :: j :: (cells a ++ cells b))
      refine (List.Perm.cons _ ?_).trans List.perm_middle.symm
      refine (List.Perm.cons _ ?_).trans List.perm_middle.symm
      refine (h1.append_left _).trans ?_
      rw [← List.append_assoc]
      exact List.perm_append_comm
    · refine (fx_cells _ _ _ _ _).trans ?_
      have h1 := meld_cells k r (node m j f a b) (by simp only [its, List.length_cons, List.length_append]; omega)
      show List.Perm _ ((n :: i :: (cells l ++ cells r)) ++ _)
      rw [List.cons_append, List.cons_append]
      refine List.Perm.cons _ (List.Perm.cons _ ?_)
      rw [List.append_assoc]
      exact h1.append_left _
theorem meld_ln : ∀ (k : Nat) (t s : LT), Ln t → Ln s → Ln (meld k t s)
  | 0, t, s, h, h2 => h
  | k + 1, nil, s, h, h2 => by simpa [meld] using h2
  | k + 1, node n i e l r, nil, h, h2 => by simpa [meld] using h
  | k + 1, node n i e l r, node m j f a b, h, h2 => by
    simp only [meld]
    split
    · exact fx_ln h2.2.1 (meld_ln k _ _ h2.2.2 h)
    · exact fx_ln h.2.1 (meld_ln k _ _ h.2.2 h2)
theorem meld_od : ∀ (k : Nat) (t s : LT), (its t).length + (its s).length ≤ k → Od t → Od s → (∀ x ∈ its t, ∀ y ∈ its s, x.1 ≠ y.1) → Od (meld k t s)
  | 0, t, s, _, h, h2, _ => h
  | k + 1, nil, s, _, h, h2, _ => by simpa [meld] using h2
  | k + 1, node n i e l r, nil, _, h, h2, _ => by simpa [meld] using h
  | k + 1, node n i e l r, node m j f a b, hk, h, h2, hd => by
    simp only [its, List.length_cons, List.length_append] at hk
    simp only [meld]
    split
    · rename_i hb
      have hk2 : (its b).length + (its (node n i e l r)).length ≤ k := by simp only [its, List.length_cons, List.length_append]; omega
      refine fx_od h2.2.2.1 (meld_od k _ _ hk2 h2.2.2.2 h fun x hx y hy => (hd y hy x (by simp [its, hx])).symm) h2.1 fun x hx => ?_
      rcases List.mem_append.1 ((meld_its k b _ hk2).mem_iff.1 hx) with hx | hx
      · exact h2.2.1 x hx
      · simp only [its, List.mem_cons, List.mem_append] at hx
        rcases hx with rfl | hx | hx
        · exact hb
        · exact hb.tr (h.1 x hx)
        · exact hb.tr (h.2.1 x hx)
    · rename_i hb
      have hk2 : (its r).length + (its (node m j f a b)).length ≤ k := by simp only [its, List.length_cons, List.length_append]; omega
      have hb' : Bf (i, e) (j, f) := Bf.tot hb (hd (i, e) (by simp [its]) (j, f) (by simp [its])).symm
      refine fx_od h.2.2.1 (meld_od k _ _ hk2 h.2.2.2 h2 fun x hx y hy => hd x (by simp [its, hx]) y hy) h.1 fun x hx => ?_
      rcases List.mem_append.1 ((meld_its k r _ hk2).mem_iff.1 hx) with hx | hx
      · exact h.2.1 x hx
      · simp only [its, List.mem_cons, List.mem_append] at hx
        rcases hx with rfl | hx | hx
        · exact hb'
        · exact hb'.tr (h2.1 x hx)
        · exact hb'.tr (h2.2.1 x hx)
theorem steps_le : ∀ (k : Nat) (t s : LT), steps k t s ≤ rk t + rk s
  | 0, t, s => by simp [steps]
  | k + 1, nil, s => by simp [steps]
  | k + 1, node n i e l r, nil => by simp [steps]
  | k + 1, node n i e l r, node m j f a b => by
    simp only [steps]
    split
    · have := steps_le k b (node n i e l r); simp only [rk] at this ⊢; omega
    · have := steps_le k r (node m j f a b); simp only [rk] at this ⊢; omega

/-! What lies about a node. -/
structure Cx where
  n : Nat
  i : Nat
  e : Ent
  /-- The node stands to the left. -/
  l : Bool
  o : LT
def Cx.put (c : Cx) (t : LT) : LT := if c.l then node c.n c.i c.e t c.o else node c.n c.i c.e c.o t
def Cx.fx (c : Cx) (t : LT) : LT := if c.l then LT.fx c.n c.i c.e t c.o else LT.fx c.n c.i c.e c.o t
def Cx.rk (c : Cx) (k : Nat) : Nat := (if c.l then LT.rk c.o else k) + 1
def plug : List Cx → LT → LT
  | [], t => t
  | c :: cs, t => plug cs (c.put t)
def rp : List Cx → LT → LT
  | [], t => t
  | c :: cs, t => rp cs (c.fx t)
def upc : List Cx → Int
  | [] => -1
  | c :: _ => c.n
def itsC : List Cx → List Held
  | [] => []
  | c :: cs => (c.i, c.e) :: (its c.o ++ itsC cs)
def ndsC : List Cx → List Nat
  | [] => []
  | c :: cs => c.n :: (nds c.o ++ ndsC cs)
def cellsC : List Cx → List Nat
  | [] => []
  | c :: cs => c.n :: c.i :: (cells c.o ++ cellsC cs)

theorem Cx.put_root (c : Cx) (t : LT) : (c.put t).root = c.n := by unfold put; split <;> rfl
theorem Cx.fx_root (c : Cx) (t : LT) : (c.fx t).root = c.n := by unfold fx; split <;> exact LT.fx_root _ _ _ _ _
theorem Cx.put_rk (c : Cx) (t : LT) : LT.rk (c.put t) = c.rk (LT.rk t) := by
  unfold put Cx.rk
  split
  · rfl
  · rfl
theorem Cx.put_its (c : Cx) (t : LT) : (its (c.put t)).Perm ((c.i, c.e) :: (its c.o ++ its t)) := by
  unfold put; split
  · exact List.Perm.cons _ List.perm_append_comm
  · exact List.Perm.refl _
theorem Cx.put_nds (c : Cx) (t : LT) : (nds (c.put t)).Perm (c.n :: (nds c.o ++ nds t)) := by
  unfold put; split
  · exact List.Perm.cons _ List.perm_append_comm
  · exact List.Perm.refl _
theorem Cx.put_cells (c : Cx) (t : LT) : (cells (c.put t)).Perm (c.n :: c.i :: (cells c.o ++ cells t)) := by
  unfold put; split
  · exact List.Perm.cons _ (List.Perm.cons _ List.perm_append_comm)
  · exact List.Perm.refl _
theorem Cx.fx_its (c : Cx) (t : LT) : (its (c.fx t)).Perm ((c.i, c.e) :: (its c.o ++ its t)) := by
  unfold fx; split
  · exact (LT.fx_its _ _ _ _ _).trans (List.Perm.cons _ List.perm_append_comm)
  · exact LT.fx_its _ _ _ _ _
theorem Cx.fx_nds (c : Cx) (t : LT) : (nds (c.fx t)).Perm (c.n :: (nds c.o ++ nds t)) := by
  unfold fx; split
  · exact (LT.fx_nds _ _ _ _ _).trans (List.Perm.cons _ List.perm_append_comm)
  · exact LT.fx_nds _ _ _ _ _
theorem Cx.fx_cells (c : Cx) (t : LT) : (cells (c.fx t)).Perm (c.n :: c.i :: (cells c.o ++ cells t)) := by
  unfold fx; split
  · exact (LT.fx_cells _ _ _ _ _).trans (List.Perm.cons _ (List.Perm.cons _ List.perm_append_comm))
  · exact LT.fx_cells _ _ _ _ _

theorem plug_its : ∀ (cs : List Cx) (t : LT), (its (plug cs t)).Perm (itsC cs ++ its t)
  | [], t => List.Perm.refl _
  | c :: cs, t => by
    refine (plug_its cs (c.put t)).trans ?_
    refine ((c.put_its t).append_left _).trans ?_
    refine List.perm_middle.trans ?_
    show List.Perm _ ((c.i, c.e) :: ((its c.o ++ itsC cs) ++ its t))
    refine List.Perm.cons _ ?_
    rw [← List.append_assoc]
    exact List.perm_append_comm.append_right _
theorem plug_nds : ∀ (cs : List Cx) (t : LT), (nds (plug cs t)).Perm (ndsC cs ++ nds t)
  | [], t => List.Perm.refl _
  | c :: cs, t => by
    refine (plug_nds cs (c.put t)).trans ?_
    refine ((c.put_nds t).append_left _).trans ?_
    refine List.perm_middle.trans ?_
    show List.Perm _ (c.n :: ((nds c.o ++ ndsC cs) ++ nds t))
    refine List.Perm.cons _ ?_
    rw [← List.append_assoc]
    exact List.perm_append_comm.append_right _
theorem two_mid {β : Type} (a b : β) (x y z : List β) : (x ++ a :: b :: (y ++ z)).Perm (a :: b :: ((y ++ x) ++ z)) := by
  refine List.perm_middle.trans (List.Perm.cons _ (List.perm_middle.trans (List.Perm.cons _ ?_)))
  rw [← List.append_assoc]
  exact List.perm_append_comm.append_right _
theorem plug_cells : ∀ (cs : List Cx) (t : LT), (cells (plug cs t)).Perm (cellsC cs ++ cells t)
  | [], t => List.Perm.refl _
  | c :: cs, t => (plug_cells cs (c.put t)).trans (((c.put_cells t).append_left _).trans (two_mid _ _ _ _ _))
theorem rp_its : ∀ (cs : List Cx) (t : LT), (its (rp cs t)).Perm (itsC cs ++ its t)
  | [], t => List.Perm.refl _
  | c :: cs, t => by
    refine (rp_its cs (c.fx t)).trans ?_
    refine ((c.fx_its t).append_left _).trans ?_
    refine List.perm_middle.trans ?_
    show List.Perm _ ((c.i, c.e) :: ((its c.o ++ itsC cs) ++ its t))
    refine List.Perm.cons _ ?_
    rw [← List.append_assoc]
    exact List.perm_append_comm.append_right _
theorem rp_nds : ∀ (cs : List Cx) (t : LT), (nds (rp cs t)).Perm (ndsC cs ++ nds t)
  | [], t => List.Perm.refl _
  | c :: cs, t => by
    refine (rp_nds cs (c.fx t)).trans ?_
    refine ((c.fx_nds t).append_left _).trans ?_
    refine List.perm_middle.trans ?_
    show List.Perm _ (c.n :: ((nds c.o ++ ndsC cs) ++ nds t))
    refine List.Perm.cons _ ?_
    rw [← List.append_assoc]
    exact List.perm_append_comm.append_right _
theorem rp_cells : ∀ (cs : List Cx) (t : LT), (cells (rp cs t)).Perm (cellsC cs ++ cells t)
  | [], t => List.Perm.refl _
  | c :: cs, t => (rp_cells cs (c.fx t)).trans (((c.fx_cells t).append_left _).trans (two_mid _ _ _ _ _))
theorem rp_root : ∀ (cs : List Cx) (t s : LT), cs ≠ [] → (rp cs t).root = (plug cs s).root
  | [c], t, s, _ => by simp only [rp, plug, Cx.fx_root, Cx.put_root]
  | c :: d :: cs, t, s, _ => rp_root (d :: cs) (c.fx t) (c.put s) (by simp)

/-- An item's place. -/
theorem find : ∀ {t : LT} {i : Nat} {e : Ent}, (i, e) ∈ its t → ∃ cs n l r, t = plug cs (node n i e l r)
  | nil, i, e, h => by cases h
  | node m j f l r, i, e, h => by
    simp only [its, List.mem_cons, List.mem_append] at h
    have key : ∀ (cs : List Cx) (c : Cx) (s : LT), plug (cs ++ [c]) s = c.put (plug cs s) := by
      intro cs
      induction cs with
      | nil => intro c s; rfl
      | cons d cs ih => intro c s; exact ih c (d.put s)
    rcases h with h | h | h
    · cases h
      exact ⟨[], m, l, r, rfl⟩
    · obtain ⟨cs, n, a, b, rfl⟩ := find h
      exact ⟨cs ++ [⟨m, j, f, true, r⟩], n, a, b, by rw [key]; rfl⟩
    · obtain ⟨cs, n, a, b, rfl⟩ := find h
      exact ⟨cs ++ [⟨m, j, f, false, l⟩], n, a, b, by rw [key]; rfl⟩

/-- What lies about a node, in memory: the node's number, its rank. -/
def RepC (α : AS) : Int → Nat → List Cx → Prop
  | _, _, [] => True
  | v, k, c :: cs => α.Nd c.n c.i c.e ∧ α.get c.n 0 = upc cs ∧ α.get c.n 1 = -1 ∧ α.get c.n (if c.l then 2 else 3) = v ∧ α.get c.n (if c.l then 3 else 2) = c.o.root ∧ α.get c.n 4 = (c.rk k : Int) ∧ Rep α c.n c.o ∧ RepC α c.n (c.rk k) cs
theorem rep_put {α : AS} {up : Int} {c : Cx} {t : LT} : Rep α up (c.put t) ↔ (α.Nd c.n c.i c.e ∧ α.get c.n 0 = up ∧ α.get c.n 1 = -1 ∧ α.get c.n (if c.l then 2 else 3) = t.root ∧ α.get c.n (if c.l then 3 else 2) = c.o.root ∧ α.get c.n 4 = (c.rk (LT.rk t) : Int) ∧ Rep α c.n c.o) ∧ Rep α c.n t := by
  unfold Cx.put Cx.rk
  cases h : c.l
  · simp only [Bool.false_eq_true, if_false, Rep, Int.natCast_add, Int.natCast_one]
    constructor
    · rintro ⟨h1, h2, h3, h4, h5, h6, h7, h8⟩; exact ⟨⟨h1, h2, h3, h5, h4, h6, h7⟩, h8⟩
    · rintro ⟨⟨h1, h2, h3, h5, h4, h6, h7⟩, h8⟩; exact ⟨h1, h2, h3, h4, h5, h6, h7, h8⟩
  · simp only [if_true, Rep, Int.natCast_add, Int.natCast_one]
    constructor
    · rintro ⟨h1, h2, h3, h4, h5, h6, h7, h8⟩; exact ⟨⟨h1, h2, h3, h4, h5, h6, h8⟩, h7⟩
    · rintro ⟨⟨h1, h2, h3, h4, h5, h6, h8⟩, h7⟩; exact ⟨h1, h2, h3, h4, h5, h6, h7, h8⟩
theorem rep_plug {α : AS} : ∀ {cs : List Cx} {t : LT}, Rep α (-1) (plug cs t) ↔ RepC α t.root (LT.rk t) cs ∧ Rep α (upc cs) t
  | [], t => by simp [plug, RepC, upc]
  | c :: cs, t => by
    show Rep α (-1) (plug cs (c.put t)) ↔ _
    rw [rep_plug, Cx.put_root, Cx.put_rk, rep_put]
    show _ ↔ (_ ∧ _ ∧ _ ∧ _ ∧ _ ∧ _ ∧ _ ∧ _) ∧ Rep α c.n t
    constructor
    · rintro ⟨h1, ⟨h2, h3, h4, h5, h6, h7, h8⟩, h9⟩; exact ⟨⟨h2, h3, h4, h5, h6, h7, h8, h1⟩, h9⟩
    · rintro ⟨⟨h2, h3, h4, h5, h6, h7, h8, h1⟩, h9⟩; exact ⟨h1, ⟨h2, h3, h4, h5, h6, h7, h8⟩, h9⟩
theorem RepC.congr {α β : AS} : ∀ {cs : List Cx} {v : Int} {k : Nat}, RepC α v k cs → (∀ c ∈ cellsC cs, ∀ f, β.get c f = α.get c f) → (∀ c ∈ cellsC cs, β.live c = α.live c) → RepC β v k cs
  | [], _, _, _, _, _ => trivial
  | c :: cs, v, k, h, hg, hl => by
    obtain ⟨h1, h2, h3, h4, h5, h6, h7, h8⟩ := h
    simp only [cellsC, List.mem_cons, List.mem_append] at hg hl
    refine ⟨h1.congr (hg _ (.inl rfl)) (hg _ (.inr (.inl rfl))) (hl _ (.inl rfl)) (hl _ (.inr (.inl rfl))), ?_, ?_, ?_, ?_, ?_, ?_, ?_⟩
    · rw [hg _ (.inl rfl)]; exact h2
    · rw [hg _ (.inl rfl)]; exact h3
    · rw [hg _ (.inl rfl)]; exact h4
    · rw [hg _ (.inl rfl)]; exact h5
    · rw [hg _ (.inl rfl)]; exact h6
    · exact h7.congr (fun c hc => hg c (.inr (.inr (.inl hc)))) (fun c hc => hl c (.inr (.inr (.inl hc))))
    · exact h8.congr (fun c hc => hg c (.inr (.inr (.inr hc)))) (fun c hc => hl c (.inr (.inr (.inr hc))))
theorem RepC.chg {α β : AS} {S : Nat → Prop} {j : Int} {cs : List Cx} {v : Int} {k : Nat} (h : RepC α v k cs) (hc : AS.Chg S j α β) (hS : ∀ c ∈ cellsC cs, ¬ S c) : RepC β v k cs :=
  h.congr (fun c hm f => hc.get c (hS c hm) f) (fun c hm => by rw [hc.live])

/-! Leaning, and order, of what lies about. -/
def LnC : Nat → List Cx → Prop
  | _, [] => True
  | k, c :: cs => (if c.l then LT.rk c.o ≤ k else k ≤ LT.rk c.o) ∧ Ln c.o ∧ LnC (c.rk k) cs
theorem ln_put {c : Cx} {t : LT} : Ln (c.put t) ↔ (if c.l then LT.rk c.o ≤ LT.rk t else LT.rk t ≤ LT.rk c.o) ∧ Ln c.o ∧ Ln t := by
  unfold Cx.put
  split <;> simp only [Ln] <;> constructor
  · rintro ⟨h1, h2, h3⟩; exact ⟨h1, h3, h2⟩
  · rintro ⟨h1, h2, h3⟩; exact ⟨h1, h3, h2⟩
theorem ln_plug : ∀ {cs : List Cx} {t : LT}, Ln (plug cs t) ↔ LnC (LT.rk t) cs ∧ Ln t
  | [], t => by simp [plug, LnC]
  | c :: cs, t => by
    show Ln (plug cs (c.put t)) ↔ _
    rw [ln_plug, ln_put, Cx.put_rk]
    simp only [LnC]
    constructor
    · rintro ⟨h1, h2, h3, h4⟩; exact ⟨⟨h2, h3, h1⟩, h4⟩
    · rintro ⟨⟨h2, h3, h1⟩, h4⟩; exact ⟨h1, h2, h3, h4⟩
def LnO : List Cx → Prop
  | [] => True
  | c :: cs => Ln c.o ∧ LnO cs
theorem LnC.o : ∀ {cs : List Cx} {k : Nat}, LnC k cs → LnO cs
  | [], _, _ => trivial
  | c :: cs, k, h => ⟨h.2.1, LnC.o h.2.2⟩
theorem Cx.fx_ln {c : Cx} {t : LT} (h1 : Ln c.o) (h2 : Ln t) : Ln (c.fx t) := by
  unfold fx; split
  · exact LT.fx_ln h2 h1
  · exact LT.fx_ln h1 h2
theorem rp_ln : ∀ {cs : List Cx} {t : LT}, LnO cs → Ln t → Ln (rp cs t)
  | [], t, _, h => h
  | c :: cs, t, h1, h => by
    show Ln (rp cs (c.fx t))
    exact rp_ln (cs := cs) h1.2 (Cx.fx_ln h1.1 h)
theorem Cx.fx_rk {c : Cx} {t : LT} : LT.rk (c.fx t) = min (LT.rk t) (LT.rk c.o) + 1 := by
  unfold fx; split
  · exact LT.fx_rk _ _ _ _ _
  · rw [LT.fx_rk, Nat.min_comm]
theorem rk_min {c : Cx} {k : Nat} (h : if c.l then LT.rk c.o ≤ k else k ≤ LT.rk c.o) : c.rk k = min k (LT.rk c.o) + 1 := by
  unfold Cx.rk
  split at h
  · rename_i hl; rw [if_pos hl]; omega
  · rename_i hl; rw [if_neg hl]; omega
/-- Where ranks are as they were nothing turns. -/
theorem fx_put {c : Cx} {t : LT} (h : if c.l then LT.rk c.o ≤ LT.rk t else LT.rk t ≤ LT.rk c.o) : c.fx t = c.put t := by
  unfold Cx.fx Cx.put LT.fx
  split
  · rename_i hl
    rw [if_pos hl] at h
    rw [if_neg (by omega)]
  · rename_i hl
    rw [if_neg hl] at h
    rw [if_neg (by omega)]
theorem rp_plug : ∀ {cs : List Cx} {t : LT}, LnC (LT.rk t) cs → rp cs t = plug cs t
  | [], t, _ => rfl
  | c :: cs, t, h => by
    show rp cs (c.fx t) = plug cs (c.put t)
    rw [fx_put h.1]
    exact rp_plug (by rw [Cx.put_rk]; exact h.2.2)

def Abv (x : Held) (cs : List Cx) : Prop := ∀ c ∈ cs, Bf (c.i, c.e) x
def OdC : List Cx → Prop
  | [] => True
  | c :: cs => Od c.o ∧ (∀ x ∈ its c.o, Bf (c.i, c.e) x ∧ Abv x cs) ∧ Abv (c.i, c.e) cs ∧ OdC cs
theorem od_put {c : Cx} {t : LT} : Od (c.put t) ↔ (Od c.o ∧ ∀ x ∈ its c.o, Bf (c.i, c.e) x) ∧ Od t ∧ ∀ x ∈ its t, Bf (c.i, c.e) x := by
  unfold Cx.put
  split <;> simp only [Od] <;> constructor
  · rintro ⟨h1, h2, h3, h4⟩; exact ⟨⟨h4, h2⟩, h3, h1⟩
  · rintro ⟨⟨h4, h2⟩, h3, h1⟩; exact ⟨h1, h2, h3, h4⟩
  · rintro ⟨h1, h2, h3, h4⟩; exact ⟨⟨h3, h1⟩, h4, h2⟩
  · rintro ⟨⟨h3, h1⟩, h4, h2⟩; exact ⟨h1, h2, h3, h4⟩
theorem Cx.fx_od {c : Cx} {t : LT} (h1 : Od c.o) (h2 : ∀ x ∈ its c.o, Bf (c.i, c.e) x) (h3 : Od t) (h4 : ∀ x ∈ its t, Bf (c.i, c.e) x) : Od (c.fx t) := by
  unfold fx; split
  · exact LT.fx_od h3 h1 h4 h2
  · exact LT.fx_od h1 h3 h2 h4
theorem od_plug : ∀ {cs : List Cx} {t : LT}, Od (plug cs t) ↔ OdC cs ∧ Od t ∧ ∀ x ∈ its t, Abv x cs
  | [], t => by simp [plug, OdC, Abv]
  | c :: cs, t => by
    show Od (plug cs (c.put t)) ↔ _
    rw [od_plug, od_put]
    have hm : ∀ x, x ∈ its (c.put t) ↔ x = (c.i, c.e) ∨ x ∈ its c.o ∨ x ∈ its t := fun x => by rw [(c.put_its t).mem_iff]; simp
    simp only [OdC, hm]
    constructor
    · rintro ⟨h1, ⟨⟨h2, h3⟩, h4, h5⟩, h6⟩
      refine ⟨⟨h2, fun x hx => ⟨h3 x hx, h6 x (.inr (.inl hx))⟩, h6 _ (.inl rfl), h1⟩, h4, fun x hx => ?_⟩
      intro d hd
      rcases List.mem_cons.1 hd with rfl | hd
      · exact h5 x hx
      · exact h6 x (.inr (.inr hx)) d hd
    · rintro ⟨⟨h2, h3, h4, h1⟩, h5, h6⟩
      refine ⟨h1, ⟨⟨h2, fun x hx => (h3 x hx).1⟩, h5, fun x hx => h6 x hx c List.mem_cons_self⟩, fun x hx => ?_⟩
      rcases hx with rfl | hx | hx
      · exact h4
      · exact (h3 x hx).2
      · exact fun d hd => h6 x hx d (List.mem_cons_of_mem _ hd)
theorem rp_od : ∀ {cs : List Cx} {t : LT}, OdC cs → Od t → (∀ x ∈ its t, Abv x cs) → Od (rp cs t)
  | [], t, _, h, _ => h
  | c :: cs, t, ⟨h1, h2, h3, h4⟩, h5, h6 => by
    show Od (rp cs (c.fx t))
    refine rp_od (cs := cs) h4 (Cx.fx_od h1 (fun x hx => (h2 x hx).1) h5 fun x hx => h6 x hx c List.mem_cons_self) fun x hx => ?_
    have hx' := (c.fx_its t).mem_iff.1 hx
    simp only [List.mem_cons, List.mem_append] at hx'
    rcases hx' with rfl | hx' | hx'
    · exact h3
    · exact (h2 x hx').2
    · exact fun d hd => h6 x hx' d (List.mem_cons_of_mem _ hd)
end LT

end Go.Proofs.Ytiejdmkobmphfaa.HL

/-
  LfA: heaps that lean to the left: two that become one.
-/
set_option linter.unusedVariables false
set_option linter.unusedSimpArgs false
set_option maxRecDepth 100000
namespace Go.Proofs.Ytiejdmkobmphfaa.HL
open Go.RowKit (Below)
open Go.Proofs

namespace LT
/-- A node that is passed on the way down. -/
structure Fr where
  n : Nat
  i : Nat
  e : Ent
  l : LT
def wk : Nat → LT → LT → List Fr × LT
  | 0, t, _ => ([], t)
  | _ + 1, nil, s => ([], s)
  | _ + 1, t, nil => ([], t)
  | k + 1, node n i e l r, node m j f a b => if Bf (j, f) (i, e) then (⟨m, j, f, a⟩ :: (wk k b (node n i e l r)).1, (wk k b (node n i e l r)).2) else (⟨n, i, e, l⟩ :: (wk k r (node m j f a b)).1, (wk k r (node m j f a b)).2)
def upF (p : List Fr) (u : LT) : LT := p.foldr (fun f m => fx f.n f.i f.e f.l m) u
def Fr.cells (f : Fr) : List Nat := f.n :: f.i :: LT.cells f.l
def cellsF (p : List Fr) : List Nat := p.flatMap Fr.cells
structure FrOk (α : AS) (f : Fr) : Prop where
  nd : α.Nd f.n f.i f.e
  d : α.get f.n 1 = -1
  l : α.get f.n 2 = f.l.root
  r : Rep α f.n f.l
theorem FrOk.chg {α β : AS} {S : Nat → Prop} {k : Int} {f : Fr} (h : FrOk α f) (hc : AS.Chg S k α β) (hS : ∀ c ∈ f.cells, ¬ S c) : FrOk β f := by
  have hn := hS f.n (by simp [Fr.cells])
  have hi := hS f.i (by simp [Fr.cells])
  exact ⟨h.nd.congr (hc.get _ hn) (hc.get _ hi) (by rw [hc.live]) (by rw [hc.live]), (hc.get _ hn 1).trans h.d, (hc.get _ hn 2).trans h.l, h.r.chg hc fun c hm => hS c (by simp [Fr.cells, hm])⟩

theorem wk_meld : ∀ (k : Nat) (t s : LT), meld k t s = upF (wk k t s).1 (wk k t s).2
  | 0, t, s => rfl
  | k + 1, nil, s => by simp [meld, wk, upF]
  | k + 1, node n i e l r, nil => by simp [meld, wk, upF]
  | k + 1, node n i e l r, node m j f a b => by
    simp only [meld, wk]
    split
    · rw [wk_meld k]; rfl
    · rw [wk_meld k]; rfl
theorem wk_len : ∀ (k : Nat) (t s : LT), (wk k t s).1.length = steps k t s
  | 0, t, s => rfl
  | k + 1, nil, s => by simp [steps, wk]
  | k + 1, node n i e l r, nil => by simp [steps, wk]
  | k + 1, node n i e l r, node m j f a b => by
    simp only [steps, wk]
    split
    · simp only [List.length_cons, wk_len k]
    · simp only [List.length_cons, wk_len k]
theorem wk_cells : ∀ (k : Nat) (t s : LT), (its t).length + (its s).length ≤ k → (cellsF (wk k t s).1 ++ cells (wk k t s).2).Perm (cells t ++ cells s)
  | 0, t, s, h => by
    have : cells s = [] := List.eq_nil_of_length_eq_zero (by rw [cells_len]; omega)
    simp [wk, cellsF, this]
  | k + 1, nil, s, h => by simp [wk, cellsF, cells]
  | k + 1, node n i e l r, nil, h => by simp [wk, cellsF, cells]
  | k + 1, node n i e l r, node m j f a b, h => by
    simp only [its, List.length_cons, List.length_append] at h
    simp only [wk]
    split
    · have h1 := wk_cells k b (node n i e l r) (by simp only [its, List.length_cons, List.length_append]; omega)
      show List.Perm (m :: j :: (cells a ++ cellsF (wk k b (node n i e l r)).1) ++ cells (wk k b (node n i e l r)).2) (cells (node n i e l r) ++ m :: j :: (cells a ++ cells b))
      rw [List.cons_append, List.cons_append]
      refine (List.Perm.cons _ ?_).trans List.perm_middle.symm
      refine (List.Perm.cons _ ?_).trans List.perm_middle.symm
      rw [List.append_assoc]
      refine (h1.append_left _).trans ?_
      rw [← List.append_assoc]
      exact List.perm_append_comm
    · have h1 := wk_cells k r (node m j f a b) (by simp only [its, List.length_cons, List.length_append]; omega)
      show List.Perm (n :: i :: (cells l ++ cellsF (wk k r (node m j f a b)).1) ++ cells (wk k r (node m j f a b)).2) (n :: i :: (cells l ++ cells r) ++ cells (node m j f a b))
      rw [List.cons_append, List.cons_append, List.cons_append, List.cons_append]
      refine List.Perm.cons _ (List.Perm.cons _ ?_)
      rw [List.append_assoc, List.append_assoc]
      exact h1.append_left _
theorem wk_rep {α : AS} : ∀ (k : Nat) (t s : LT) {u v : Int}, Rep α u t → Rep α v s → (∀ f ∈ (wk k t s).1, FrOk α f) ∧ ∃ x, Rep α x (wk k t s).2
  | 0, t, s, u, v, h, _ => ⟨by simp [wk], u, h⟩
  | k + 1, nil, s, u, v, _, h => ⟨by simp [wk], v, by simpa [wk] using h⟩
  | k + 1, node n i e l r, nil, u, v, h, _ => ⟨by simp [wk], u, by simpa [wk] using h⟩
  | k + 1, node n i e l r, node m j f a b, u, v, h, h2 => by
    simp only [wk]
    split
    · obtain ⟨g1, g2⟩ := wk_rep k b (node n i e l r) h2.2.2.2.2.2.2.2 h
      refine ⟨fun x hx => ?_, g2⟩
      rcases List.mem_cons.1 hx with rfl | hx
      · exact ⟨h2.1, h2.2.2.1, h2.2.2.2.1, h2.2.2.2.2.2.2.1⟩
      · exact g1 x hx
    · obtain ⟨g1, g2⟩ := wk_rep k r (node m j f a b) h.2.2.2.2.2.2.2 h2
      refine ⟨fun x hx => ?_, g2⟩
      rcases List.mem_cons.1 hx with rfl | hx
      · exact ⟨h.1, h.2.2.1, h.2.2.2.1, h.2.2.2.2.2.2.1⟩
      · exact g1 x hx
theorem root_nds {t : LT} {n : Nat} (h : t.root = (n : Int)) : n ∈ nds t := by
  cases t with
  | nil => simp only [root] at h; omega
  | node m i e l r =>
    simp only [root] at h
    have : m = n := by omega
    subst this
    simp [nds]
theorem wk_nds : ∀ (k : Nat) (t s : LT), (∀ f ∈ (wk k t s).1, f.n ∈ nds t ∨ f.n ∈ nds s) ∧ ∀ c : Nat, (wk k t s).2.root = (c : Int) → c ∈ nds t ∨ c ∈ nds s
  | 0, t, s => ⟨by simp [wk], fun c hc => .inl (root_nds hc)⟩
  | k + 1, nil, s => ⟨by simp [wk], fun c hc => .inr (root_nds (by simpa [wk] using hc))⟩
  | k + 1, node n i e l r, nil => ⟨by simp [wk], fun c hc => .inl (root_nds (by simpa [wk] using hc))⟩
  | k + 1, node n i e l r, node m j f a b => by
    simp only [wk]
    split
    · obtain ⟨g1, g2⟩ := wk_nds k b (node n i e l r)
      refine ⟨fun x hx => ?_, fun c hc => ?_⟩
      · rcases List.mem_cons.1 hx with rfl | hx
        · exact .inr (by simp [nds])
        · rcases g1 x hx with h | h
          · exact .inr (by simp [nds, h])
          · exact .inl h
      · rcases g2 c hc with h | h
        · exact .inr (by simp [nds, h])
        · exact .inl h
    · obtain ⟨g1, g2⟩ := wk_nds k r (node m j f a b)
      refine ⟨fun x hx => ?_, fun c hc => ?_⟩
      · rcases List.mem_cons.1 hx with rfl | hx
        · exact .inl (by simp [nds])
        · rcases g1 x hx with h | h
          · exact .inl (by simp [nds, h])
          · exact .inr h
      · rcases g2 c hc with h | h
        · exact .inl (by simp [nds, h])
        · exact .inr h
theorem wk_ne : ∀ (k : Nat) (t s : LT), (its t).length + (its s).length ≤ k → (t ≠ nil ∨ s ≠ nil) → (wk k t s).2 ≠ nil
  | 0, t, s, h, h2 => by
    cases t with
    | node n i e l r => simp only [its, List.length_cons] at h; omega
    | nil =>
      cases s with
      | node n i e l r => simp only [its, List.length_cons] at h; omega
      | nil => rcases h2 with h2 | h2 <;> exact absurd rfl h2
  | k + 1, nil, s, h, h2 => by
    rcases h2 with h2 | h2
    · exact absurd rfl h2
    · simpa [wk] using h2
  | k + 1, node n i e l r, nil, h, h2 => by simp [wk]
  | k + 1, node n i e l r, node m j f a b, h, h2 => by
    simp only [its, List.length_cons, List.length_append] at h
    simp only [wk]
    split
    · exact wk_ne k _ _ (by simp only [its, List.length_cons, List.length_append]; omega) (.inr (by simp))
    · exact wk_ne k _ _ (by simp only [its, List.length_cons, List.length_append]; omega) (.inr (by simp))
theorem rk_le : ∀ (t : LT), rk t ≤ (its t).length
  | nil => Nat.le_refl _
  | node n i e l r => by have := rk_le r; simp only [rk, its, List.length_cons, List.length_append]; omega
end LT

section
variable {w0 : World} {M F : Mem} {R : Value → Mem → Prop} {a : Nat} {α : AS}
open Go.Proofs.Ytiejdmkobmphfaa.HL.LT

theorem lf_rank_ok (hA : Holds w0 F M (arenaA a α)) {t : LT} {up : Int} (ht : Rep α up t) (h : ∀ M' β, Holds w0 F M' (arenaA a β) → AS.Sm 1 α β → R (.int .i64 (rk t : Int)) M') : C PP w0 Id.leftist_rank #[.pointer (some ⟨a, 0, none⟩), .int .i64 t.root] R M := by
  apply leftist_rank.go
  unfold leftist_rank.T
  cases t with
  | nil =>
    simp only [root, bs_beq, if_true]
    exact h M α hA (AS.Sm.refl.mono (by omega))
  | node n i e l r =>
    simp only [root, bs_beq]
    rw [if_neg (by omega)]
    refine Get_ok hA fun M1 hA1 => ?_
    rw [show α.getI (n : Int) 4 = α.get n 4 from AS.getI_live (f := 4) ht.1.ln (by omega), ht.2.2.2.2.2.1]
    simp only [go_sem]
    exact h M1 _ hA1 AS.tick_sm

/-- A node leans to the left behind it; did its rank turn? -/
theorem lf_fix_ok (hA : Holds w0 F M (arenaA a α)) {n i : Nat} {e : Ent} {l r : LT} (hN : α.Nd n i e) (hd : α.get n 1 = -1) (e2 : α.get n 2 = l.root) (e3 : α.get n 3 = r.root) (hl : Rep α n l) (hr : Rep α n r) (hnl : n ∉ cells l) (hnr : n ∉ cells r) (hni : i ≠ n) (kl : rk l ≤ 1000000) (kr : rk r ≤ 1000000)
    (h : ∀ M' β, Holds w0 F M' (arenaA a β) → Rep β (α.get n 0) (fx n i e l r) → AS.Chg (· = n) 8 α β → R (.bool (α.get n 4 != ((rk (fx n i e l r) : Nat) : Int))) M') : C PP w0 Id.leftist_fix #[.pointer (some ⟨a, 0, none⟩), .int .i64 (n : Int)] R M := by
  apply leftist_fix.go
  intro pts H
  unfold leftist_fix.T
  have hI := hA.inv
  refine Cell_ok hA fun M1 hA1 => ?_
  rw [show α.cellI (n : Int) 2 = l.root from AS.cellI_val hI (f := 2) hN.ln (by omega) e2 hl.rootv]
  simp only [go_sem]
  refine Cell_ok hA1 fun M2 hA2 => ?_
  rw [show α.tick.cellI (n : Int) 3 = r.root from AS.cellI_val (α := α.tick) (AS.tick_inv hI) (f := 3) hN.ln (by omega) e3 hr.rootv]
  simp only [go_sem]
  have s2 : AS.Sm 2 α α.tick.tick := (AS.tick_sm.trans AS.tick_sm).mono (by omega)
  refine lf_rank_ok hA2 (hl.chg s2.chg (S := fun _ => False) (fun _ _ h => h)) fun M3 β3 hA3 s3 => ?_
  simp only [go_sem]
  refine lf_rank_ok hA3 (hr.chg (s2.trans s3).chg (S := fun _ => False) (fun _ _ h => h)) fun M4 β4 hA4 s4 => ?_
  have s : AS.Sm 4 α β4 := ((s2.trans s3).trans s4).mono (by omega)
  have hN4 : β4.Nd n i e := s.nd hN
  simp only [go_sem, bs_decide]
  -- what is left
  have fin : ∀ (M5 : Mem) (γ : AS) (low : Nat), low ≤ 1000000 → Holds w0 F M5 (arenaA a γ) → γ.Nd n i e → AS.Chg (· = n) 6 α γ → γ.get n 4 = α.get n 4 → low + 1 = rk (fx n i e l r) →
      (∀ β, AS.Sm 2 (γ.put n 4 ((low : Int) + 1)) β → Rep β (α.get n 0) (fx n i e l r)) → leftist_fix.J1 pts (some ⟨a, 0, none⟩) (n : Int) (low : Int) M5 := by
    intro M5 γ low hlow hA5 hN5 hc5 h45 hfx hrep
    rw [H.J1]
    unfold leftist_fix.J1.T
    refine Get_ok hA5 fun M6 hA6 => ?_
    rw [show γ.getI (n : Int) 4 = γ.get n 4 from AS.getI_live (f := 4) hN5.ln (by omega), h45]
    simp only [go_sem]
    refine Set_ok hA6 fun M7 hA7 => ?_
    simp only [go_sem]
    rw [w64_in (by omega)] at hA7 ⊢
    rw [show γ.tick.setI (n : Int) 4 ((low : Int) + 1) = γ.tick.put n 4 ((low : Int) + 1) from AS.setI_live (α := γ.tick) (f := 4) hN5.ln (by omega) _] at hA7
    have s7 : AS.Sm 2 (γ.put n 4 ((low : Int) + 1)) (γ.tick.put n 4 ((low : Int) + 1)).tick := (((AS.tick_sm (α := γ)).put n 4 _).trans AS.tick_sm).mono (by omega)
    have hh := h M7 _ hA7 (hrep _ s7) (((hc5.put rfl).trans s7.chg).mono (fun _ h => h) (by omega))
    rw [← hfx] at hh
    rw [show ((low + 1 : Nat) : Int) = (low : Int) + 1 from by omega] at hh
    exact hh
  split
  · rename_i hlt
    have hlt' : rk l < rk r := by omega
    refine Set_ok hA4 fun M5 hA5 => ?_
    simp only [go_sem]
    rw [show β4.setI (n : Int) 2 r.root = β4.put n 2 r.root from AS.setI_live (f := 2) hN4.ln (by omega) _] at hA5
    refine Set_ok hA5 fun M6 hA6 => ?_
    simp only [go_sem]
    rw [show (β4.put n 2 r.root).tick.setI (n : Int) 3 l.root = (β4.put n 2 r.root).tick.put n 3 l.root from AS.setI_live (α := (β4.put n 2 r.root).tick) (f := 3) hN4.ln (by omega) _] at hA6
    have c6 : AS.Chg (· = n) 6 α (((β4.put n 2 r.root).tick.put n 3 l.root).tick) := (((((s.chg (S := (· = n))).put rfl).tick).put rfl).tick).mono (fun _ h => h) (by omega)
    have s6 : AS.Sm 2 ((β4.put n 2 r.root).put n 3 l.root) (((β4.put n 2 r.root).tick.put n 3 l.root).tick) := (((AS.tick_sm (α := β4.put n 2 r.root)).put n 3 _).trans AS.tick_sm).mono (by omega)
    refine fin M6 _ (rk l) kl hA6 ⟨hN4.ln, hN4.li, ?_, ?_, ?_, ?_⟩ c6 ?_ ?_ fun β hβ => ?_
    · rw [s6.get, AS.put_get, if_neg (by omega), AS.put_get, if_neg (by omega)]; exact hN4.it
    · rw [s6.get, AS.put_get, if_neg (by omega), AS.put_get, if_neg (by omega)]; exact hN4.nd
    · rw [s6.get, AS.put_get, if_neg (by omega), AS.put_get, if_neg (by omega)]; exact hN4.k
    · rw [s6.get, AS.put_get, if_neg (by omega), AS.put_get, if_neg (by omega)]; exact hN4.s
    · rw [s6.get, AS.put_get, if_neg (by omega), AS.put_get, if_neg (by omega), s.get]
    · rw [fx_rk]; omega
    · unfold fx
      rw [if_pos hlt']
      have cβ : AS.Chg (· = n) 8 α β := ((c6.put rfl).trans hβ.chg).mono (fun _ h => h) (by omega)
      have g : ∀ f, f ≠ 2 → f ≠ 3 → f ≠ 4 → β.get n f = α.get n f := fun f h2 h3 h4 => by
        rw [hβ.get, AS.put_get, if_neg (by omega), s6.get, AS.put_get, if_neg (by omega), AS.put_get, if_neg (by omega), s.get]
      have gi : ∀ f, β.get i f = α.get i f := cβ.get i hni
      refine ⟨⟨by rw [cβ.live]; exact hN.ln, by rw [cβ.live]; exact hN.li, (g 6 (by omega) (by omega) (by omega)).trans hN.it, (gi 9).trans hN.nd, (gi 7).trans hN.k, (gi 8).trans hN.s⟩, g 0 (by omega) (by omega) (by omega), (g 1 (by omega) (by omega) (by omega)).trans hd, ?_, ?_, ?_, hr.chg cβ (fun c hc e => hnr (e ▸ hc)), hl.chg cβ (fun c hc e => hnl (e ▸ hc))⟩
      · rw [hβ.get, AS.put_get, if_neg (by omega), s6.get, AS.put_get, if_neg (by omega), AS.put_get, if_pos ⟨rfl, rfl⟩]
      · rw [hβ.get, AS.put_get, if_neg (by omega), s6.get, AS.put_get, if_pos ⟨rfl, rfl⟩]
      · rw [hβ.get, AS.put_get, if_pos ⟨rfl, rfl⟩]
  · rename_i hlt
    have hlt' : ¬ rk l < rk r := by omega
    refine fin M4 _ (rk r) kr hA4 hN4 (s.chg.mono (fun _ h => h) (by omega)) (by rw [s.get]) (by rw [fx_rk]; omega) fun β hβ => ?_
    unfold fx
    rw [if_neg hlt']
    have cβ : AS.Chg (· = n) 8 α β := (((s.chg (S := (· = n))).put rfl).trans hβ.chg).mono (fun _ h => h) (by omega)
    have g : ∀ f, f ≠ 4 → β.get n f = α.get n f := fun f h4 => by
      rw [hβ.get, AS.put_get, if_neg (by omega), s.get]
    have gi : ∀ f, β.get i f = α.get i f := cβ.get i hni
    refine ⟨⟨by rw [cβ.live]; exact hN.ln, by rw [cβ.live]; exact hN.li, (g 6 (by omega)).trans hN.it, (gi 9).trans hN.nd, (gi 7).trans hN.k, (gi 8).trans hN.s⟩, g 0 (by omega), (g 1 (by omega)).trans hd, (g 2 (by omega)).trans e2, (g 3 (by omega)).trans e3, ?_, hl.chg cβ (fun c hc e => hnl (e ▸ hc)), hr.chg cβ (fun c hc e => hnr (e ▸ hc))⟩
    rw [hβ.get, AS.put_get, if_pos ⟨rfl, rfl⟩]


/-- A frame and what is laid into it. -/
theorem fr_put {β γ : AS} {f : Fr} {m : LT} {um : Int} {tp : Nat} (hf : FrOk β f) (hm : Rep β um m) (hr : m.root = (tp : Int)) (hn : (f.cells ++ cells m).Nodup) (hs : AS.Sm 2 ((β.put f.n 3 m.root).put tp 0 (f.n : Int)) γ) :
    γ.Nd f.n f.i f.e ∧ γ.get f.n 1 = -1 ∧ γ.get f.n 2 = f.l.root ∧ γ.get f.n 3 = m.root ∧ γ.get f.n 0 = β.get f.n 0 ∧ Rep γ f.n f.l ∧ Rep γ f.n m := by
  simp only [Fr.cells, List.cons_append, List.nodup_cons, List.mem_cons, List.mem_append, not_or] at hn
  obtain ⟨⟨a1, a2, a3⟩, ⟨b1, b2⟩, hn2⟩ := hn
  obtain ⟨_, hnm, hdis⟩ := List.nodup_append.1 hn2
  have htm : tp ∈ cells m := root_mem hr
  have e1 : f.n ≠ tp := fun e => a3 (e ▸ htm)
  have e2 : f.i ≠ tp := fun e => b2 (e ▸ htm)
  have g : ∀ c f', γ.get c f' = if c = tp ∧ f' = 0 then (f.n : Int) else if c = f.n ∧ f' = 3 then m.root else β.get c f' := fun c f' => by rw [hs.get]; rfl
  have gl : ∀ c, γ.live c = β.live c := fun c => by rw [hs.live]; rfl
  have gn : ∀ f', f' ≠ 3 → γ.get f.n f' = β.get f.n f' := fun f' h3 => by rw [g, if_neg (fun e => e1 e.1), if_neg (fun e => h3 e.2)]
  have gi : ∀ f', γ.get f.i f' = β.get f.i f' := fun f' => by rw [g, if_neg (fun e => e2 e.1), if_neg (fun e => a1 e.1.symm)]
  refine ⟨⟨(gl _).trans hf.nd.ln, (gl _).trans hf.nd.li, (gn 6 (by omega)).trans hf.nd.it, (gi 9).trans hf.nd.nd, (gi 7).trans hf.nd.k, (gi 8).trans hf.nd.s⟩, (gn 1 (by omega)).trans hf.d, (gn 2 (by omega)).trans hf.l, ?_, gn 0 (by omega), ?_, ?_⟩
  · rw [g, if_neg (fun e => e1 e.1), if_pos ⟨rfl, rfl⟩]
  · refine hf.r.congr (fun c hc f' => ?_) (fun c _ => gl c)
    rw [g, if_neg (fun e : c = tp ∧ f' = 0 => hdis c hc tp htm e.1), if_neg (fun e : c = f.n ∧ f' = 3 => a2 (e.1 ▸ hc))]
  · refine hm.up hnm (fun n hn => ?_) (fun c hc f' h => ?_) (fun c _ => gl c)
    · have : n = tp := by omega
      rw [g, if_pos ⟨this, rfl⟩]
    · rw [g, if_neg (fun e : c = tp ∧ f' = 0 => by rcases h with h | h; exact h (by rw [hr, e.1]); exact h e.2), if_neg (fun e : c = f.n ∧ f' = 3 => a3 (e.1 ▸ hc))]

theorem fx_ne (n i : Nat) (e : Ent) (l r : LT) : fx n i e l r ≠ nil := by
  unfold fx; split <;> simp

theorem lf_meld_ok (hA : Holds w0 F M (arenaA a α)) {t s : LT} {ut us : Int} (ht : Rep α ut t) (hs : Rep α us s) (hn : (cells t ++ cells s).Nodup) {k : Nat} (hk : (its t).length + (its s).length ≤ k)
    (h : ∀ M' β, Holds w0 F M' (arenaA a β) → Rep β (-1) (meld k t s) → AS.Chg (fun c => c ∈ nds t ∨ c ∈ nds s) (17 * (rk t + rk s) + 1) α β → R (.int .i64 (meld k t s).root) M') : C PP w0 Id.leftist_meld #[.pointer (some ⟨a, 0, none⟩), .int .i64 t.root, .int .i64 s.root] R M := by
  apply leftist_meld.go
  intro pts H
  unfold leftist_meld.T
  have hI := hA.inv
  rw [bs_beq]
  split
  · rename_i he
    -- both are none
    have hnil : t = nil ∧ s = nil := by
      cases t with
      | nil => exact ⟨rfl, root_nil he.symm⟩
      | node n i e l r =>
        exfalso
        have h1 : n ∈ cells (node n i e l r) := by simp [cells]
        have h2 : n ∈ cells s := root_mem he.symm
        exact (List.nodup_append.1 hn).2.2 n h1 n h2 rfl
    obtain ⟨rfl, rfl⟩ := hnil
    have e : meld k nil nil = nil := by cases k <;> rfl
    rw [e] at h
    exact h M α hA trivial (AS.Chg.refl.mono (fun _ h => h) (by simp [rk]))
  · rename_i hne
    have hnn : t ≠ nil ∨ s ≠ nil := by
      cases t with
      | nil => exact .inr fun e => hne (by rw [e])
      | node n i e l r => exact .inl (by simp)
    have hlive : ∀ c ∈ cells t ++ cells s, α.live c = true := fun c hc => by
      rcases List.mem_append.1 hc with hc | hc
      · exact ht.live c hc
      · exact hs.live c hc
    have hclen := nodup_len α.n _ hn fun x hx => AS.live_lt hI (hlive x hx)
    have hn65 := hI.n
    rw [List.length_append, cells_len, cells_len] at hclen
    -- up again
    have up : ∀ (q done : List Fr) (m : LT) (um : Int) (sP : SV) (F' : Mem) (M' : Mem) (β : AS) (tp : Nat), Mem.le F F' → (wk k t s).1 = q ++ done → m = upF done (wk k t s).2 → m.root = (tp : Int) → RdI w0 F' .i64 sP (intsN ((wk k t s).1.map (·.n))) → Holds w0 F' M' (arenaA a β) → (∀ M'' P, Holds w0 F' M'' P → Holds w0 F M'' P) →
        (∀ f ∈ q, FrOk β f) → Rep β um m → (cellsF q ++ cells m).Nodup → (tp ∈ nds t ∨ tp ∈ nds s) → rk m ≤ 1000000 → AS.Chg (fun c => c ∈ nds t ∨ c ∈ nds s) (7 * ((wk k t s).1.length : Int) + 10 * (done.length : Int)) α β →
        ∀ kk, q.length < kk → leftist_meld.L3 pts kk (some ⟨a, 0, none⟩) sP (tp : Int) ((q.length : Int) - 1) M' := by
      intro q
      induction hq : q.length generalizing q with
      | zero =>
        intro done m um sP F' M' β tp hle hqd hm hr hP hB hfb hf hrep hnd htp hrk hc kk hkk
        obtain ⟨kk, rfl⟩ : ∃ j, kk = j + 1 := ⟨kk - 1, by omega⟩
        have hq0 : q = [] := List.eq_nil_of_length_eq_zero hq
        subst hq0
        rw [H.L3]
        unfold leftist_meld.L3.T
        rw [bs_decide, if_neg (by omega)]
        have htl : β.live tp = true := hrep.live tp (root_mem hr)
        refine Set_ok hB fun M2 hB2 => ?_
        rw [show β.setI (tp : Int) 0 (-1) = β.put tp 0 (-1) from AS.setI_live (f := 0) htl (by omega) _] at hB2
        simp only [go_sem]
        have e : meld k t s = m := by rw [wk_meld, hqd, hm]; rfl
        rw [e] at h
        rw [← hr]
        have hlen := wk_len k t s
        have hst := steps_le k t s
        rw [hqd, List.nil_append] at hlen hc
        refine h M2 _ (hfb _ _ hB2) ?_ (((hc.put htp).tick).mono (fun _ h => h) (by omega))
        refine hrep.up (List.nodup_append.1 hnd).2.1 (fun n hn => ?_) (fun c hc f' h => ?_) (fun c _ => rfl)
        · have : n = tp := by omega
          show (β.put tp 0 (-1)).get n 0 = -1
          rw [AS.put_get, if_pos ⟨this, rfl⟩]
        · show (β.put tp 0 (-1)).get c f' = _
          rw [AS.put_get, if_neg (fun e : c = tp ∧ f' = 0 => by rcases h with h | h; exact h (by rw [hr, e.1]); exact h e.2)]
      | succ len ih =>
        intro done m um sP F' M' β tp hle hqd hm hr hP hB hfb hf hrep hnd htp hrk hc kk hkk
        obtain ⟨kk, rfl⟩ : ∃ j, kk = j + 1 := ⟨kk - 1, by omega⟩
        obtain ⟨q', f, rfl⟩ : ∃ q' f, q = q' ++ [f] := ⟨q.dropLast, q.getLast (by intro e; rw [e] at hq; simp at hq), (List.dropLast_concat_getLast _).symm⟩
        have hq' : q'.length = len := by simp at hq; exact hq
        have hlenP : (wk k t s).1.length ≤ 65536 := by
          have h1 := wk_len k t s
          have h2 := steps_le k t s
          have h3 := rk_le t
          have h4 := rk_le s
          omega
        have hlq : len + 1 ≤ 65536 := by rw [hqd] at hlenP; simp only [List.length_append, List.length_cons, List.length_nil] at hlenP; omega
        rw [H.L3]
        unfold leftist_meld.L3.T
        rw [bs_decide, if_pos (by omega)]
        have hx : (intsN ((wk k t s).1.map (·.n)))[len]? = some (f.n : Int) := by
          rw [hqd]
          simp [intsN, List.getElem?_append, hq']
        have hfo := hf f (by simp)
        have htl : β.live tp = true := hrep.live tp (root_mem hr)
        refine rdx (x := (f.n : Int)) W.c3 hP hB.fr len (by omega) hx ?_
        refine Set_ok hB fun M2 hB2 => ?_
        rw [show β.setI (f.n : Int) 3 (tp : Int) = β.put f.n 3 (tp : Int) from AS.setI_live (f := 3) hfo.nd.ln (by omega) _] at hB2
        simp only [go_sem]
        have hld : ∀ (M2 : Mem), Holds w0 F' M2 (arenaA a β) → True := fun _ _ => trivial
        refine rdy (x := (f.n : Int)) hP hB2.fr len (by omega) hx ?_
        refine Set_ok hB2 fun M3 hB3 => ?_
        rw [show (β.put f.n 3 (tp : Int)).tick.setI (tp : Int) 0 (f.n : Int) = (β.put f.n 3 (tp : Int)).tick.put tp 0 (f.n : Int) from AS.setI_live (α := (β.put f.n 3 (tp : Int)).tick) (f := 0) htl (by omega) _] at hB3
        simp only [go_sem]
        refine rdy (x := (f.n : Int)) hP hB3.fr len (by omega) hx ?_
        have hs3 : AS.Sm 2 ((β.put f.n 3 m.root).put tp 0 (f.n : Int)) ((β.put f.n 3 (tp : Int)).tick.put tp 0 (f.n : Int)).tick := by
          rw [hr]
          exact (((AS.tick_sm (α := β.put f.n 3 (tp : Int))).put tp 0 _).trans AS.tick_sm).mono (by omega)
        have hcf : (f.cells ++ cells m).Nodup := by
          unfold cellsF at hnd
          rw [List.flatMap_append, List.append_assoc] at hnd
          have := (List.nodup_append.1 hnd).2.1
          simpa using this
        obtain ⟨g1, g2, g3, g4, g5, g6, g7⟩ := fr_put hfo hrep hr hcf hs3
        have hnodes : f.n ∈ nds t ∨ f.n ∈ nds s := (wk_nds k t s).1 f (by rw [hqd]; simp)
        have hcc := hcf
        simp only [Fr.cells, List.cons_append, List.nodup_cons, List.mem_cons, List.mem_append, not_or] at hcc
        obtain ⟨⟨a1, a2, a3⟩, ⟨b1, b2⟩, hn2⟩ := hcc
        have hfmem : ∀ c ∈ f.cells, c ∈ cells t ++ cells s := fun c hc => (wk_cells k t s hk).mem_iff.1 (List.mem_append_left _ (by
          rw [hqd]; unfold cellsF
          simp only [List.flatMap_append, List.mem_append, List.flatMap_cons, List.flatMap_nil, List.append_nil]
          exact .inl (.inr hc)))
        have hfl : rk f.l ≤ 65536 := by
          have h1 := rk_le f.l
          have h2 := cells_len f.l
          have h3 : (cells f.l).Nodup := (List.nodup_append.1 hn2).1
          have h4 := nodup_len α.n _ h3 fun x hx => AS.live_lt hI (hlive x (hfmem x (by simp [Fr.cells, hx])))
          omega
        refine lf_fix_ok hB3 g1 g2 g3 g4 g6 g7 a2 a3 (fun e => a1 e.symm) (by omega) hrk fun M4 β4 hB4 hrep4 hc4 => ?_
        simp only [go_sem]
        rw [show w64 ((((len + 1 : Nat) : Int)) - 1 - 1) = (len : Int) - 1 from by rw [w64_in (by omega)]; omega]
        have c3 : AS.Chg (fun c => c = f.n ∨ c = tp) 2 β ((β.put f.n 3 (tp : Int)).tick.put tp 0 (f.n : Int)).tick := by
          have := ((((AS.Chg.refl (S := fun c => c = f.n ∨ c = tp) (α := β)).put (f := 3) (v := (tp : Int)) (.inl rfl)).tick).put (f := 0) (v := (f.n : Int)) (.inr rfl)).tick
          exact this.mono (fun _ h => h) (by omega)
        have c4 : AS.Chg (fun c => c = f.n ∨ c = tp) 10 β β4 := (c3.trans (hc4.mono (T := fun c => c = f.n ∨ c = tp) (fun c h => .inl h) (Int.le_refl _))).mono (fun _ h => h) (by omega)
        have htm : tp ∈ cells m := root_mem hr
        have hndq : (cellsF q' ++ (f.cells ++ cells m)).Nodup := by
          unfold cellsF at hnd ⊢
          rw [List.flatMap_append, List.append_assoc] at hnd
          simpa using hnd
        obtain ⟨q1, q2, q3⟩ := List.nodup_append.1 hndq
        have hperm : (cells (fx f.n f.i f.e f.l m)).Perm (f.cells ++ cells m) := fx_cells _ _ _ _ _
        refine ih q' hq' (f :: done) (fx f.n f.i f.e f.l m) _ sP F' M4 β4 f.n hle (by rw [hqd]; simp) (by rw [hm]; rfl) (fx_root _ _ _ _ _) hP hB4 hfb (fun x hx => ?_) hrep4 ?_ hnodes ?_ ?_ kk (by omega)
        · refine (hf x (by simp [hx])).chg c4 fun c hc e => ?_
          have hcm : c ∈ cellsF q' := List.mem_flatMap.2 ⟨x, hx, hc⟩
          rcases e with rfl | rfl
          · exact q3 _ hcm _ (List.mem_append_left _ (by simp [Fr.cells])) rfl
          · exact q3 _ hcm _ (List.mem_append_right _ htm) rfl
        · exact (hperm.append_left _).nodup_iff.2 hndq
        · rw [fx_rk]; omega
        · refine (hc.trans (c4.mono (fun c h => ?_) (Int.le_refl _))).mono (fun _ h => h) (by simp only [List.length_cons]; omega)
          rcases h with rfl | rfl
          · exact hnodes
          · exact htp
    -- down
    have down : ∀ (kd : Nat) (x y : LT) (p : List Fr) (ux uy : Int) (sP : SV) (M' : Mem) (β : AS), (its x).length + (its y).length ≤ kd → p ++ (wk kd x y).1 = (wk k t s).1 → (wk kd x y).2 = (wk k t s).2 → (x ≠ nil ∨ y ≠ nil) → Rep α ux x → Rep α uy y →
        Holds w0 F M' (star (SlA sP ((intsN (p.map (·.n))).map (Value.int .i64))) (arenaA a β)) → AS.Sm (7 * (p.length : Int)) α β → ∀ kk, kd < kk → leftist_meld.L2 pts kk (some ⟨a, 0, none⟩) x.root y.root sP M' := by
      intro kd
      -- both are looked at no more
      have out : ∀ (x y : LT) (sP : SV) (M' : Mem) (β : AS) (rx ry : Int), (if ry > rx then ry else rx) = (wk k t s).2.root → Holds w0 F M' (star (SlA sP ((intsN ((wk k t s).1.map (·.n))).map (Value.int .i64))) (arenaA a β)) → AS.Sm (7 * ((wk k t s).1.length : Int)) α β → leftist_meld.J1 pts (some ⟨a, 0, none⟩) rx ry sP M' := by
        intro x y sP M' β rx ry hmax hH hsm
        rw [H.J1]
        unfold leftist_meld.J1.T
        rw [hmax]
        have hne2 := wk_ne k t s hk hnn
        obtain ⟨hfr, um, hum⟩ := wk_rep k t s ht hs
        have hper := wk_cells k t s hk
        have hlenP : (wk k t s).1.length ≤ 65536 := by
          have h1 := wk_len k t s
          have h2 := steps_le k t s
          have h3 := rk_le t
          have h4 := rk_le s
          omega
        have hPl : ∀ c ∈ (wk k t s).1.map (·.n), c < 65536 := fun c hc => by
          obtain ⟨f, hf, rfl⟩ := List.mem_map.1 hc
          have := AS.live_lt hI (hfr f hf).nd.ln
          omega
        obtain ⟨F', hle, hB, hP⟩ := hH.freeze (fun c hc => by
          obtain ⟨z, hz, rfl⟩ := List.mem_map.1 hc
          exact wf64 (by have := hPl z hz; unfold In64; omega)) (by simp [intsN]; omega)
        have hsn : sP.n = (wk k t s).1.length := by rw [hP.len]; simp [intsN]
        obtain ⟨tp, htp⟩ : ∃ tp : Nat, (wk k t s).2.root = (tp : Int) := by
          cases hw : (wk k t s).2 with
          | nil => exact absurd hw hne2
          | node n i e l r => exact ⟨n, rfl⟩
        refine ⟨(wk k t s).1.length + 1, ?_⟩
        rw [htp, hsn, w64_in (by omega)]
        refine up (wk k t s).1 [] (wk k t s).2 um sP F' M' β tp hle (by simp) rfl htp hP hB (fun M'' P h => ?_) (fun f hf => (hfr f hf).chg hsm.chg (S := fun _ => False) (fun _ _ h => h)) (hum.chg hsm.chg (S := fun _ => False) (fun _ _ h => h)) (hper.nodup_iff.2 hn) ((wk_nds k t s).2 tp htp) ?_ (hsm.chg.mono (fun _ h => h) (by simp)) _ (by omega)
        · obtain ⟨r, h1, h2⟩ := h
          exact ⟨r, h1, ⟨h2.nd, fun x hx => by obtain ⟨a1, a2, a3⟩ := h2.at_ x hx; exact ⟨a1, le_none hle a2, a3⟩, Mem.le_trans hle h2.fr⟩⟩
        · have h1 := rk_le (wk k t s).2
          have h2 := cells_len (wk k t s).2
          have h3 := hper.length_eq
          rw [List.length_append, List.length_append, cells_len t, cells_len s] at h3
          omega
      induction kd with
      | zero =>
        intro x y p ux uy sP M' β hkd hp hw hxy hx hy hH hsm kk hkk
        exfalso
        cases x with
        | node n i e l r => simp only [its, List.length_cons] at hkd; omega
        | nil =>
          cases y with
          | node n i e l r => simp only [its, List.length_cons] at hkd; omega
          | nil => rcases hxy with h | h <;> exact h rfl
      | succ kd ih =>
        intro x y p ux uy sP M' β hkd hp hw hxy hx hy hH hsm kk hkk
        obtain ⟨kk, rfl⟩ : ∃ j, kk = j + 1 := ⟨kk - 1, by omega⟩
        rw [H.L2]
        unfold leftist_meld.L2.T
        cases x with
        | nil =>
          simp only [wk, List.append_nil] at hp hw
          simp only [root, bs_bne, if_true]
          subst hp
          exact out nil y sP M' β (-1) y.root (by have := root_ge y; rw [← hw]; split <;> omega) hH hsm
        | node n i e l r =>
          cases y with
          | nil =>
            simp only [wk, List.append_nil] at hp hw
            simp only [root, bs_bne, if_true]
            rw [if_neg (by omega)]
            subst hp
            exact out (node n i e l r) nil sP M' β (n : Int) (-1) (by rw [← hw]; simp only [root]; rw [if_neg (by omega)]) hH hsm
          | node m j f b c =>
            simp only [root, bs_bne]
            rw [if_neg (by omega), if_neg (by omega)]
            have hB := hH.right
            refine Cells_ok hB ?_
            simp only [go_sem]
            have hlp : sP.n = p.length := by
              have := hH.cells.2
              rw [this]; simp [intsN]
            have hlenw := congrArg List.length hp
            rw [List.length_append, wk_len, wk_len] at hlenw
            have hst1 := steps_le k t s
            have hrkt := rk_le t
            have hrks := rk_le s
            rw [bs_decide, if_pos (by rw [hsm.n, hlp]; omega), H.J4]
            unfold leftist_meld.J4.T
            obtain ⟨F', hB1, hle, back⟩ := hH.last
            refine nBefore_ok hB1 (hsm.nd hy.1) (hsm.nd hx.1) fun M2 β2 hB2 hs2 => ?_
            have hH2 := back M2 _ hB2
            have hsm2 : AS.Sm (7 * (p.length : Int) + 6) α β2 := hsm.trans hs2
            rw [shB_v]
            -- one goes down
            have go : ∀ (g : Fr) (x' y' : LT) (u1 u2 : Int), α.live g.n = true → α.get g.n 3 = x'.root → Rep α u1 x' → Rep α u2 y' → y' ≠ nil → (its x').length + (its y').length ≤ kd → p ++ g :: (wk kd x' y').1 = (wk k t s).1 → (wk kd x' y').2 = (wk k t s).2 → leftist_meld.J5 pts kk (some ⟨a, 0, none⟩) (g.n : Int) y'.root sP M2 := by
              intro g x' y' u1 u2 hgl hg3 hx' hy' hy0 hkd' hp' hw'
              rw [H.J5]
              unfold leftist_meld.J5.T
              refine push_ok (K := fun s35 M34 => (std PP w0).call _ _ _ M34) hH2 (by simp [intsN]; omega) fun M3 s3 hH3 => ?_
              rw [show intsN (p.map (·.n)) ++ [(g.n : Int)] = intsN ((p ++ [g]).map (·.n)) from by simp [intsN]] at hH3
              obtain ⟨F3, hB3, hle3, back3⟩ := hH3.last
              refine Cell_ok hB3 fun M4 hB4 => ?_
              have hc3 : β2.cellI (g.n : Int) 3 = x'.root := by
                refine AS.cellI_val hB3.inv (f := 3) (by rw [hsm2.live]; exact hgl) (by omega) (by rw [hsm2.get]; exact hg3) ?_
                rw [hsm2.live]; exact hx'.rootv
              rw [hc3, shI_v]
              refine ih x' y' (p ++ [g]) u1 u2 s3 M4 β2.tick hkd' (by rw [← hp']; simp) hw' (.inr hy0) hx' hy' (back3 M4 _ hB4) ((hsm2.trans AS.tick_sm).mono (by simp; omega)) kk (by omega)
            simp only [its, List.length_cons, List.length_append] at hkd
            by_cases hb : Bf (j, f) (i, e)
            · rw [decide_eq_true hb, bs_true]
              simp only [wk, if_pos hb] at hp hw
              exact go ⟨m, j, f, b⟩ c (node n i e l r) _ _ hy.1.ln hy.2.2.2.2.1 hy.2.2.2.2.2.2.2 hx (by simp) (by simp only [its, List.length_cons, List.length_append]; omega) hp hw
            · rw [decide_eq_false hb, bs_false]
              simp only [wk, if_neg hb] at hp hw
              exact go ⟨n, i, e, l⟩ r (node m j f b c) _ _ hx.1.ln hx.2.2.2.2.1 hx.2.2.2.2.2.2.2 hy (by simp) (by simp only [its, List.length_cons, List.length_append]; omega) hp hw
    exact ⟨k + 1, down k t s [] ut us ⟨none, 0, 0⟩ M α hk rfl rfl hnn ht hs (Holds.nilSl hA) (AS.Sm.refl.mono (by simp)) (k + 1) (by omega)⟩

end
end Go.Proofs.Ytiejdmkobmphfaa.HL

/-
  LfB: heaps that lean to the left: a node that leaves its place; what each call does.
-/
set_option linter.unusedVariables false
set_option linter.unusedSimpArgs false
set_option maxRecDepth 100000
namespace Go.Proofs.Ytiejdmkobmphfaa.HL
open Go.RowKit (Below)
open Go.Proofs

section
variable {w0 : World} {M F : Mem} {R : Value → Mem → Prop} {a : Nat} {α : AS}
open Go.Proofs.Ytiejdmkobmphfaa.HL.LT

theorem rk_bl {t : LT} (h : Ln t) {m : Nat} (hm : (its t).length + 1 ≤ m) : rk t + 1 ≤ bl m := bl_pow (Nat.le_trans (pow_rk h) hm)
theorem rk_bl' {t : LT} (h : Ln t) {m : Nat} (hm : (its t).length ≤ m) : rk t ≤ bl m := by
  have h1 := pow_rk h
  cases hr : rk t with
  | zero => omega
  | succ r =>
    rw [hr, Nat.pow_succ] at h1
    have h2 : 1 ≤ 2 ^ r := Nat.one_le_two_pow
    exact bl_pow (Nat.le_trans (by omega : 2 ^ r ≤ (its t).length) hm)

theorem hrep_get0 {γ : AS} {n i : Nat} {e : Ent} {l r : LT} {up : Int} (h : Rep γ up (node n i e l r)) : γ.get n 0 = up := h.2.1

theorem mem_ndsC : ∀ {cs : List Cx} {x : Nat}, x ∈ ndsC cs → x ∈ cellsC cs
  | [], x, h => by cases h
  | c :: cs, x, h => by
    simp only [ndsC, cellsC, List.mem_cons, List.mem_append] at h ⊢
    rcases h with h | h | h
    · exact .inl h
    · exact .inr (.inr (.inl (mem_nds h)))
    · exact .inr (.inr (.inr (mem_ndsC h)))

/-- Above a place that has turned nodes lean to the left again, as far as ranks turn. -/
theorem lf_up_ok {pts : Pts} (H : leftist_leave.Is (std PP w0) pts R) {N m : Nat} (hN : m ≤ N) : ∀ (cs : List Cx) (x : LT) (hk j : Nat) (M' : Mem) (β : AS), Holds w0 F M' (arenaA a β) → RepC β x.root hk cs → Rep β (upc cs) x → Ln x → LnC hk cs → (cellsC cs ++ cells x).Nodup → j ≤ rk x → rk x < hk → ((itsC cs).length + (its x).length + 1 ≤ m) → β.n = N →
    (∀ M'' γ, Holds w0 F M'' (arenaA a γ) → Rep γ (-1) (rp cs x) → AS.Chg (fun c => c ∈ ndsC cs) (9 * (bl m + 1 - j)) β γ → R (.tuple #[]) M'') → ∀ kk, cs.length < kk → leftist_leave.L2 pts kk (some ⟨a, 0, none⟩) (upc cs) (j : Int) M'
  | [], x, hk, j, M', β, hA, hrc, hrx, hlx, hlc, hnd, hj, hlt, hm, hn, hR, kk, hkk => by
    obtain ⟨kk, rfl⟩ : ∃ i, kk = i + 1 := ⟨kk - 1, by simp at hkk; omega⟩
    rw [H.L2]
    unfold leftist_leave.L2.T
    simp only [upc, bs_bne, if_true]
    have := rk_bl hlx (m := m) (by simp only [itsC, List.length_nil] at hm; omega)
    exact hR M' β hA hrx (AS.Chg.refl.mono (fun _ h => h) (by omega))
  | c :: cs, x, hk, j, M', β, hA, hrc, hrx, hlx, hlc, hnd, hj, hlt, hm, hn, hR, kk, hkk => by
    obtain ⟨kk, rfl⟩ : ∃ i, kk = i + 1 := ⟨kk - 1, by simp at hkk; omega⟩
    rw [H.L2]
    unfold leftist_leave.L2.T
    simp only [upc, bs_bne]
    rw [if_neg (by omega)]
    obtain ⟨h1, h2, h3, h4, h5, h6, h7, h8⟩ := hrc
    obtain ⟨l1, l2, l3⟩ := hlc
    simp only [itsC, List.length_cons, List.length_append] at hm
    have hI := hA.inv
    have hI65 := hI.n
    have hrkx := rk_le x
    refine Cells_ok hA ?_
    simp only [go_sem, bs_decide]
    rw [if_pos (by omega)]
    have hnd0 := hnd
    simp only [cellsC, List.cons_append, List.nodup_cons, List.mem_cons, List.mem_append, not_or] at hnd
    obtain ⟨⟨a1, ⟨a2, a3⟩, a4⟩, ⟨⟨b1, b2⟩, b3⟩, hn2⟩ := hnd
    have hxb := rk_bl hlx (m := m) (by omega)
    have hob := rk_bl' l2 (m := m) (by omega)
    have hbm : bl m ≤ 64 := bl_le (by omega)
    -- what fix comes to
    have fin : ∀ (M2 : Mem) (γ : AS), Holds w0 F M2 (arenaA a γ) → Rep γ (upc cs) (c.fx x) → AS.Chg (· = c.n) 8 β γ → bs (β.get c.n 4 != ((LT.rk (c.fx x) : Nat) : Int)) (leftist_leave.J3 pts kk (some ⟨a, 0, none⟩) (c.n : Int) (j : Int) M2) (R (.tuple #[]) M2) := by
      intro M2 γ hB hrep hc
      have hrkf : LT.rk (c.fx x) = min (LT.rk x) (LT.rk c.o) + 1 := Cx.fx_rk
      have hrk0 := rk_min l1
      have hrc' : RepC γ c.n (c.rk hk) cs := h8.chg hc (fun d hd e => a3 (e ▸ hd))
      rw [h6, bs_bne]
      split
      · rename_i he
        have he' : c.rk hk = LT.rk (c.fx x) := by omega
        refine hR M2 γ hB ?_ (hc.mono (fun d e => e ▸ by simp [ndsC]) (by omega))
        show Rep γ (-1) (rp cs (c.fx x))
        rw [rp_plug (by rw [← he']; exact l3)]
        exact rep_plug.2 ⟨by rw [Cx.fx_root, ← he']; exact hrc', hrep⟩
      · rename_i he
        have he' : c.rk hk ≠ LT.rk (c.fx x) := fun e => he (by rw [e])
        rw [H.J3]
        unfold leftist_leave.J3.T
        have g0 : γ.get c.n 0 = upc cs := by
          have := hrep
          have hroot := Cx.fx_root c x
          cases hf : c.fx x with
          | nil => exact absurd hf (by unfold Cx.fx; split <;> exact fx_ne _ _ _ _ _)
          | node n' i' e' l' r' =>
            rw [hf] at this hroot
            simp only [LT.root] at hroot
            have : n' = c.n := by omega
            subst this
            exact hrep_get0 (by rw [hf] at hrep; exact hrep)
        refine Cell_ok hB fun M3 hB3 => ?_
        rw [show γ.cellI (c.n : Int) 0 = upc cs from AS.cellI_val hB.inv (f := 0) (by rw [hc.live]; exact h1.ln) (by omega) g0 (by
          cases cs with
          | nil => exact .inl rfl
          | cons d ds => exact .inr ⟨d.n, rfl, hrc'.1.ln⟩)]
        rw [shI_v, w64_in (by omega)]
        have hprm : (cellsC cs ++ cells (c.fx x)).Nodup := by
          have h9 : (cellsC cs ++ cells (c.fx x)).Perm (cellsC (c :: cs) ++ cells x) := ((c.fx_cells x).append_left _).trans (two_mid _ _ _ _ _)
          exact h9.nodup_iff.2 hnd0
        refine lf_up_ok H hN cs (c.fx x) (c.rk hk) (j + 1) M3 γ.tick hB3 ?_ ?_ (Cx.fx_ln l2 hlx) l3 hprm (by omega) (by omega) ?_ (hc.n.trans hn) ?_ kk (by simp at hkk; omega)
        · rw [Cx.fx_root]; exact hrc'.chg (S := fun _ => False) AS.tick_sm.chg (fun _ _ h => h)
        · exact hrep.chg (S := fun _ => False) AS.tick_sm.chg (fun _ _ h => h)
        · have := (c.fx_its x).length_eq
          simp only [List.length_cons, List.length_append] at this
          omega
        · intro M4 δ hB4 hr4 hc4
          refine hR M4 δ hB4 hr4 ((((hc.mono (T := fun d => d ∈ ndsC (c :: cs)) (fun d e => e ▸ by simp [ndsC]) (Int.le_refl _)).tick).trans (hc4.mono (fun d hd => by simp [ndsC, hd]) (Int.le_refl _))).mono (fun _ h => h) (by omega))
    by_cases hl : c.l = true
    · rw [if_pos hl] at h4 h5
      have hfx : c.fx x = LT.fx c.n c.i c.e x c.o := by unfold Cx.fx; rw [if_pos hl]
      refine lf_fix_ok hA h1 h3 h4 h5 hrx h7 a4 a2 (fun e => a1 e.symm) (by omega) (by omega) fun M2 γ hB hrep hc => ?_
      rw [shB_v]
      rw [h2] at hrep
      rw [← hfx] at hrep ⊢
      exact fin M2 γ hB hrep hc
    · have hl' : c.l = false := by simpa using hl
      rw [hl'] at h4 h5
      simp only [Bool.false_eq_true, if_false] at h4 h5
      have hfx : c.fx x = LT.fx c.n c.i c.e c.o x := by unfold Cx.fx; rw [hl']; rfl
      refine lf_fix_ok hA h1 h3 h5 h4 h7 hrx a2 a4 (fun e => a1 e.symm) (by omega) (by omega) fun M2 γ hB hrep hc => ?_
      rw [shB_v]
      rw [h2] at hrep
      rw [← hfx] at hrep ⊢
      exact fin M2 γ hB hrep hc

/-- A node that is no root leaves its place. -/
theorem lf_leave_ok (hA : Holds w0 F M (arenaA a α)) {c : Cx} {cs : List Cx} {n i : Nat} {e : Ent} {l r : LT} (hrep : Rep α (-1) (plug (c :: cs) (node n i e l r))) (hnd : (cells (plug (c :: cs) (node n i e l r))).Nodup) (hln : Ln (plug (c :: cs) (node n i e l r))) {m : Nat} (hm : (its (plug (c :: cs) (node n i e l r))).length ≤ m)
    (h : ∀ M' β, Holds w0 F M' (arenaA a β) → Rep β (-1) (rp (c :: cs) nil) → Rep β (-1) (node n i e l r) → AS.Chg (fun x => x ∈ ndsC (c :: cs) ∨ x = n) (9 * bl m + 16) α β → R (.tuple #[]) M') : C PP w0 Id.leftist_leave #[.pointer (some ⟨a, 0, none⟩), .int .i64 (n : Int)] R M := by
  apply leftist_leave.go
  intro pts H
  unfold leftist_leave.T
  have hI := hA.inv
  obtain ⟨hrc, hrt⟩ := rep_plug.1 hrep
  obtain ⟨hlc, hlt⟩ := ln_plug.1 hln
  have hperm := plug_cells (c :: cs) (node n i e l r)
  have hnd' := hperm.nodup_iff.1 hnd
  have hitl := (plug_its (c :: cs) (node n i e l r)).length_eq
  have hclen := nodup_len α.n _ hnd fun x hx => AS.live_lt hI (hrep.live x hx)
  rw [cells_len, hitl, List.length_append] at hclen
  rw [hitl, List.length_append] at hm
  have hbl := bl_mono hm
  have hm2 : (itsC (c :: cs)).length + 0 + 1 ≤ (itsC (c :: cs)).length + (its (node n i e l r)).length := by simp only [its, List.length_cons]; omega
  obtain ⟨h1, h2, h3, h4, h5, h6, h7, h8⟩ := hrc
  obtain ⟨q1, q2, q3⟩ := List.nodup_append.1 hnd'
  have hcn : c.n ≠ n := q3 c.n (by simp [cellsC]) n (by simp [cells])
  have hin : c.i ≠ n := q3 c.i (by simp [cellsC]) n (by simp [cells])
  have hno : n ∉ cells c.o := fun hc => q3 n (by simp [cellsC, hc]) n (by simp [cells]) rfl
  have hnc : n ∉ cellsC cs := fun hc => q3 n (by simp [cellsC, hc]) n (by simp [cells]) rfl
  have hcc : c.n ∉ cells c.o ∧ c.n ∉ cellsC cs ∧ c.i ≠ c.n := by
    simp only [cellsC, List.nodup_cons, List.mem_cons, List.mem_append, not_or] at q1
    exact ⟨q1.1.2.1, q1.1.2.2, fun e => q1.1.1 e.symm⟩
  have hnln : α.live n = true := hrt.1.ln
  have hup : α.get n 0 = (c.n : Int) := hrt.2.1
  have hor : c.o.root ≠ (n : Int) := fun e => hno (root_mem e)
  -- what follows
  have fin : ∀ (M2 : Mem) (β : AS), Holds w0 F M2 (arenaA a β) → AS.Sm 4 (α.put c.n (if c.l then 2 else 3) (-1)) β → leftist_leave.J1 pts (some ⟨a, 0, none⟩) (n : Int) (c.n : Int) M2 := by
    intro M2 β hB hs
    rw [H.J1]
    unfold leftist_leave.J1.T
    refine Set_ok hB fun M3 hB3 => ?_
    rw [show β.setI (n : Int) 0 (-1) = β.put n 0 (-1) from AS.setI_live (f := 0) (by rw [hs.live]; exact hnln) (by omega) _] at hB3
    simp only [go_sem]
    have hs3 : AS.Sm 5 ((α.put c.n (if c.l then 2 else 3) (-1)).put n 0 (-1)) (β.put n 0 (-1)).tick := ((hs.put n 0 _).trans AS.tick_sm).mono (by omega)
    have hc3 : AS.Chg (fun x => x = c.n ∨ x = n) 5 α (β.put n 0 (-1)).tick := ((((AS.Chg.refl (S := fun x => x = c.n ∨ x = n) (α := α)).put (.inl rfl)).put (.inr rfl)).trans hs3.chg).mono (fun _ h => h) (by omega)
    generalize (β.put n 0 (-1)).tick = γ at hB3 hs3 hc3
    have g : ∀ x f, γ.get x f = if x = n ∧ f = 0 then -1 else if x = c.n ∧ f = (if c.l then 2 else 3) then -1 else α.get x f := fun x f => by rw [hs3.get]; rfl
    have gc : ∀ f, f ≠ (if c.l then 2 else 3) → γ.get c.n f = α.get c.n f := fun f hf => by rw [g, if_neg (fun e : c.n = n ∧ f = 0 => hcn e.1), if_neg (fun e : c.n = c.n ∧ f = (if c.l then 2 else 3) => hf e.2)]
    have gi : ∀ f, γ.get c.i f = α.get c.i f := fun f => hc3.get c.i (by rintro (e | e); exact hcc.2.2 e; exact hin e) f
    have gl : ∀ x, γ.live x = α.live x := fun x => by rw [hc3.live]
    have hf2 : (if c.l then 2 else 3) = 2 ∨ (if c.l then 2 else 3) = 3 := by cases c.l <;> simp
    have hdiff : (if c.l then 3 else 2) ≠ (if c.l then 2 else 3) := by cases c.l <;> simp
    have hrc3 : RepC γ nil.root (LT.rk (node n i e l r)) (c :: cs) := by
      refine ⟨⟨(gl _).trans h1.ln, (gl _).trans h1.li, (gc 6 (by omega)).trans h1.it, (gi 9).trans h1.nd, (gi 7).trans h1.k, (gi 8).trans h1.s⟩, (gc 0 (by omega)).trans h2, (gc 1 (by omega)).trans h3, ?_, (gc _ hdiff).trans h5, (gc 4 (by omega)).trans h6, ?_, ?_⟩
      · rw [g, if_neg (fun e : c.n = n ∧ _ => hcn e.1), if_pos ⟨rfl, rfl⟩]; rfl
      · exact h7.chg hc3 fun x hx => by rintro (e | e); exact hcc.1 (e ▸ hx); exact hno (e ▸ hx)
      · exact h8.chg hc3 fun x hx => by rintro (e | e); exact hcc.2.1 (e ▸ hx); exact hnc (e ▸ hx)
    have hrt3 : Rep γ (-1) (node n i e l r) := by
      refine hrt.up q2 (fun y hy => ?_) (fun x hx f hf => ?_) (fun x _ => gl x)
      · have : y = n := by simp only [LT.root] at hy; omega
        rw [g, if_pos ⟨this, rfl⟩]
      · rw [g, if_neg (fun e : x = n ∧ f = 0 => by rcases hf with hf | hf; exact hf (by simp only [LT.root]; omega); exact hf e.2), if_neg (fun e : x = c.n ∧ _ => q3 c.n (by simp [cellsC]) x hx e.1.symm)]
    refine ⟨(c :: cs).length + 1, lf_up_ok (m := (itsC (c :: cs)).length + (its (node n i e l r)).length) (N := γ.n) H ?_ (c :: cs) nil _ 0 M3 γ hB3 hrc3 trivial trivial hlc ?_ (Nat.zero_le _) (by simp [LT.rk]) (by simp [its]) rfl (fun M4 δ hB4 hr4 hc4 => ?_) _ (by omega)⟩
    · rw [hc3.n]; omega
    · simpa [cells] using q1
    · refine h M4 δ hB4 hr4 (hrt3.chg hc4 fun x hx hy => ?_) (((hc3.mono (fun x hx => ?_) (Int.le_refl _)).trans (hc4.mono (fun x hx => .inl hx) (Int.le_refl _))).mono (fun _ h => h) (by omega))
      · exact q3 x (mem_ndsC hy) x hx rfl
      · rcases hx with rfl | rfl
        · exact .inl (by simp [ndsC])
        · exact .inr rfl
  refine Cell_ok hA fun M1 hA1 => ?_
  rw [show α.cellI (n : Int) 0 = (c.n : Int) from AS.cellI_live (f := 0) hnln (by omega) hup (AS.live_lt hI h1.ln)]
  simp only [go_sem]
  refine Cell_ok hA1 fun M2 hA2 => ?_
  by_cases hl : c.l = true
  · rw [if_pos hl] at h4 h5
    rw [show α.tick.cellI (c.n : Int) 2 = (n : Int) from AS.cellI_live (α := α.tick) (f := 2) h1.ln (by omega) h4 (AS.live_lt hI hnln)]
    simp only [go_sem, bs_beq, if_true]
    refine Set_ok hA2 fun M3 hA3 => ?_
    rw [show α.tick.tick.setI (c.n : Int) 2 (-1) = α.tick.tick.put c.n 2 (-1) from AS.setI_live (α := α.tick.tick) (f := 2) h1.ln (by omega) _] at hA3
    simp only [go_sem]
    refine fin M3 _ hA3 ?_
    rw [if_pos hl]
    exact ((((AS.tick_sm (α := α)).trans AS.tick_sm).put c.n 2 (-1)).trans AS.tick_sm).mono (by omega)
  · have hl' : c.l = false := by simpa using hl
    rw [hl'] at h4 h5
    simp only [Bool.false_eq_true, if_false] at h4 h5
    rw [show α.tick.cellI (c.n : Int) 2 = c.o.root from AS.cellI_val (α := α.tick) (AS.tick_inv hI) (f := 2) h1.ln (by omega) h5 h7.rootv]
    simp only [go_sem, bs_beq]
    rw [if_neg hor]
    refine Cell_ok hA2 fun M3 hA3 => ?_
    rw [show α.tick.tick.cellI (c.n : Int) 3 = (n : Int) from AS.cellI_live (α := α.tick.tick) (f := 3) h1.ln (by omega) h4 (AS.live_lt hI hnln)]
    simp only [go_sem, if_true]
    refine Set_ok hA3 fun M4 hA4 => ?_
    rw [show α.tick.tick.tick.setI (c.n : Int) 3 (-1) = α.tick.tick.tick.put c.n 3 (-1) from AS.setI_live (α := α.tick.tick.tick) (f := 3) h1.ln (by omega) _] at hA4
    simp only [go_sem]
    refine fin M4 _ hA4 ?_
    rw [hl']
    exact (((((AS.tick_sm (α := α)).trans AS.tick_sm).trans AS.tick_sm).put c.n 3 (-1)).trans AS.tick_sm).mono (by omega)

end
end Go.Proofs.Ytiejdmkobmphfaa.HL

/-
  LfC: heaps that lean to the left: what each of the calls does to a heap.
-/
set_option linter.unusedVariables false
set_option linter.unusedSimpArgs false
set_option maxRecDepth 100000
namespace Go.Proofs.Ytiejdmkobmphfaa.HL
open Go.RowKit (Below)
open Go.Proofs

/-- A heap in memory. -/
structure Hp (α : AS) (r : Int) (t : LT) : Prop where
  r : r = t.root
  rep : LT.Rep α (-1) t
  nd : (LT.cells t).Nodup
  ln : LT.Ln t
  od : LT.Od t
/-- A heap of which one item has a lower key than it was. -/
def HpF (α : AS) (r : Int) (t : LT) (i : Nat) (e e' : Ent) : Prop :=
  ∃ cs n l s, t = LT.plug cs (.node n i e l s) ∧ r = t.root ∧ LT.Rep α (-1) (LT.plug cs (.node n i e' l s)) ∧ (LT.cells t).Nodup ∧ LT.Ln t ∧ LT.OdC cs ∧ LT.Od (.node n i e' l s)

section
variable {w0 : World} {M F : Mem} {R : Value → Mem → Prop} {a : Nat} {α : AS}
open Go.Proofs.Ytiejdmkobmphfaa.HL.LT

theorem Hp.congr {β : AS} {r : Int} {t : LT} (h : Hp α r t) (hg : ∀ c ∈ cells t, ∀ f, β.get c f = α.get c f) (hl : ∀ c ∈ cells t, β.live c = α.live c) : Hp β r t := ⟨h.r, h.rep.congr hg hl, h.nd, h.ln, h.od⟩
theorem Hp.eff {β : AS} {S L : Nat → Prop} {d k : Int} {r : Int} {t : LT} (h : Hp α r t) (he : AS.Eff S L d k α β) (hS : ∀ c ∈ cells t, ¬ S c) (hL : ∀ c ∈ cells t, ¬ L c) : Hp β r t :=
  h.congr (fun c hc f => he.get c (hS c hc) f) (fun c hc => he.live c (hL c hc))
theorem Hp.live {r : Int} {t : LT} (h : Hp α r t) : ∀ c ∈ cells t, α.live c = true := h.rep.live
theorem Hp.nil : Hp α (-1) .nil := ⟨rfl, trivial, List.nodup_nil, trivial, trivial⟩
theorem Hp.size {r : Int} {t : LT} (h : Hp α r t) (hi : α.Inv) : 2 * (its t).length ≤ α.n := by
  have := nodup_len α.n _ h.nd fun x hx => AS.live_lt hi (h.live x hx)
  rwa [cells_len] at this
theorem its_nd {t : LT} (h : (cells t).Nodup) : ∀ x ∈ its t, ∀ y ∈ its t, x.1 = y.1 → x = y := by
  induction t with
  | nil => intro x hx; cases hx
  | node n i e l r ihl ihr =>
    simp only [cells, List.nodup_cons, List.mem_cons, List.mem_append, not_or] at h
    obtain ⟨⟨_, _⟩, ⟨h1, h2⟩, h3⟩ := h
    obtain ⟨h4, h5, h6⟩ := List.nodup_append.1 h3
    intro x hx y hy e
    simp only [its, List.mem_cons, List.mem_append] at hx hy
    rcases hx with hx | hx | hx <;> rcases hy with hy | hy | hy
    · rw [hx, hy]
    · exact absurd (mem_its hy) (by rw [← e, hx]; exact h1)
    · exact absurd (mem_its hy) (by rw [← e, hx]; exact h2)
    · exact absurd (mem_its hx) (by rw [e, hy]; exact h1)
    · exact ihl h4 x hx y hy e
    · exact absurd e (h6 _ (mem_its hx) _ (mem_its hy))
    · exact absurd (mem_its hx) (by rw [e, hy]; exact h2)
    · exact absurd e.symm (h6 _ (mem_its hy) _ (mem_its hx))
    · exact ihr h5 x hx y hy e
theorem od_its {n i : Nat} {e : Ent} {l r : LT} (h : Od (node n i e l r)) : ∀ y ∈ its l ++ its r, Bf (i, e) y := fun y hy => by
  rcases List.mem_append.1 hy with hy | hy
  · exact h.1 y hy
  · exact h.2.1 y hy

/-- A key is lowered. -/
theorem Hp.lower {r : Int} {t : LT} {i : Nat} {e e' : Ent} (h : Hp α r t) (hm : (i, e) ∈ its t) (hle : e'.1 ≤ e.1) (hs : e'.2 = e.2) : HpF (α.put i 7 e'.1) r t i e e' := by
  obtain ⟨cs, n, l, s, rfl⟩ := find hm
  obtain ⟨h1, h2⟩ := rep_plug.1 h.rep
  have hnd := (plug_cells cs (node n i e l s)).nodup_iff.1 h.nd
  obtain ⟨q1, q2, q3⟩ := List.nodup_append.1 hnd
  have q2' := q2
  simp only [cells, List.nodup_cons, List.mem_cons, List.mem_append, not_or] at q2'
  obtain ⟨⟨a1, a2, a3⟩, ⟨b1, b2⟩, _⟩ := q2'
  have hc : AS.Chg (· = i) 0 α (α.put i 7 e'.1) := AS.put_chg rfl
  obtain ⟨h3, h4, h5⟩ := od_plug.1 h.od
  have hod : Od (node n i e' l s) := by
    obtain ⟨o1, o2, o3, o4⟩ := h4
    have key : ∀ x : Held, Bf (i, e) x → Bf (i, e') x := by
      intro x hx
      rcases hx with hx | ⟨hx, hx'⟩
      · refine .inl ?_
        unfold Lt at hx ⊢
        simp only at hx ⊢
        omega
      · by_cases h9 : e'.1 = e.1
        · have : e' = e := Prod.ext h9 hs
          rw [this]; exact .inr ⟨hx, hx'⟩
        · refine .inl ?_
          have hx2 : e = x.2 := hx
          unfold Lt
          rw [← hx2]
          simp only
          omega
    exact ⟨fun x hx => key x (o1 x hx), fun x hx => key x (o2 x hx), o3, o4⟩
  refine ⟨cs, n, l, s, rfl, h.r, rep_plug.2 ⟨?_, ?_⟩, h.nd, h.ln, h3, hod⟩
  · exact (h1.chg hc fun x hx e => q3 x hx i (by simp [cells]) e)
  · obtain ⟨g1, g2, g3, g4, g5, g6, g7, g8⟩ := h2
    have gn : ∀ f, (α.put i 7 e'.1).get n f = α.get n f := fun f => hc.get n (fun e => a1 e) f
    refine ⟨⟨g1.ln, g1.li, (gn 6).trans g1.it, ?_, ?_, ?_⟩, (gn 0).trans g2, (gn 1).trans g3, (gn 2).trans g4, (gn 3).trans g5, (gn 4).trans g6, g7.chg hc fun x hx e => b1 (e ▸ hx), g8.chg hc fun x hx e => b2 (e ▸ hx)⟩
    · rw [AS.put_get, if_neg (by omega)]; exact g1.nd
    · rw [AS.put_get, if_pos ⟨rfl, rfl⟩]
    · rw [AS.put_get, if_neg (by omega), hs]; exact g1.s

theorem lf_limit {m : Nat} {j : Int} (h : j ≤ 100 * (bl m : Int) + 100) : j ≤ limH m := by
  unfold limH; omega

/-- An item is put in. -/
theorem hp_push_ok (hA : Holds w0 F M (arenaA a α)) {r : Int} {t : LT} (hp : Hp α r t) {i : Nat} {e : Ent} (hi : α.live i = true) (hic : i ∉ cells t) (h7 : α.get i 7 = e.1) (h8 : α.get i 8 = e.2)
    (h0 : α.next = none → ∀ M' β, Holds w0 F M' (arenaA a β) → AS.Sm 1 α β → R (.tuple #[.int .i64 r, .bool false]) M')
    (h1 : ∀ n, α.next = some n → α.live n = false → ∀ M' β t', Holds w0 F M' (arenaA a β) → Hp β t'.root t' → (its t').Perm ((i, e) :: its t) → (cells t').Perm (n :: i :: cells t) → AS.Eff (fun c => c ∈ n :: i :: cells t) (· = n) 1 (limH ((its t).length + 1)) α β → R (.tuple #[.int .i64 t'.root, .bool true]) M') :
    C PP w0 Id.leftist_Push #[.pointer (some ⟨a, 0, none⟩), .int .i64 r, .int .i64 (i : Int)] R M := by
  apply leftist_Push.go
  unfold leftist_Push.T
  have hI := hA.inv
  simp only [go_sem, Option.isNone_some, bs_false]
  refine ndNew_ok hA hi (fun hnx M1 β hB hs => ?_) fun n hnx M1 β hB hs => ?_
  · simp only [go_sem, Bool.not_false, bs_true]
    exact h0 hnx M1 β hB hs
  · simp only [go_sem, Bool.not_true, bs_false]
    obtain ⟨hnn, hnl, hnt⟩ := AS.next_some hI hnx
    have hnt2 : n ∉ cells t := fun hc => by have := hp.live n hc; rw [hnl] at this; cases this
    have hin : i ≠ n := fun e => by rw [e, hnl] at hi; cases hi
    obtain ⟨hfr, hfl⟩ := AS.take_fresh hI hnx
    have hbl : β.live n = true := by rw [hs.live]; exact hfl
    refine Set_ok hB fun M2 hB2 => ?_
    rw [show β.setI (n : Int) 4 1 = β.put n 4 1 from AS.setI_live (f := 4) hbl (by omega) _] at hB2
    simp only [go_sem]
    have hs2 : AS.Sm 4 (((α.take.put n 6 (i : Int)).put i 9 (n : Int)).put n 4 1) (β.put n 4 1).tick := ((hs.put n 4 1).trans AS.tick_sm).mono (by omega)
    have he2 : AS.Eff (fun c => c = n ∨ c = i) (· = n) 1 4 α (β.put n 4 1).tick := (((((AS.take_eff (S := fun c => c = n ∨ c = i) (L := (· = n)) hI hnx (.inl rfl) rfl).put (f := 6) (v := (i : Int)) (c := n) (.inl rfl)).put (f := 9) (v := (n : Int)) (c := i) (.inr rfl)).put (f := 4) (v := 1) (c := n) (.inl rfl)).trans hs2.eff).mono (fun _ h => h) (fun _ h => h) (by omega) |>.to (by omega)
    generalize (β.put n 4 1).tick = γ at hB2 hs2 he2
    have g : ∀ x f, γ.get x f = if x = n ∧ f = 4 then 1 else if x = i ∧ f = 9 then (n : Int) else if x = n ∧ f = 6 then (i : Int) else α.take.get x f := fun x f => by rw [hs2.get]; rfl
    have gtk : ∀ x f, x ≠ n → α.take.get x f = α.get x f := fun x f hx => by
      rw [hnt]
      show (if x = n then AS.fresh f else α.get x f) = _
      rw [if_neg hx]
    have gl : ∀ x, γ.live x = if x = n then true else α.live x := fun x => by rw [hs2.live, show (((α.take.put n 6 (i : Int)).put i 9 (n : Int)).put n 4 1).live = α.take.live from rfl, hnt]; rfl
    have hrt : Rep γ (-1) t := hp.rep.congr (fun c hc f => he2.get c (by rintro (h | h); exact hnt2 (h ▸ hc); exact hic (h ▸ hc)) f) (fun c hc => he2.live c (fun e => hnt2 (e ▸ hc)))
    have gn : ∀ f, f ≠ 4 → f ≠ 6 → γ.get n f = AS.fresh f := fun f h4 h6 => by rw [g, if_neg (fun e : n = n ∧ f = 4 => h4 e.2), if_neg (fun e : n = i ∧ f = 9 => hin e.1.symm), if_neg (fun e : n = n ∧ f = 6 => h6 e.2), hfr]
    have gi : ∀ f, f ≠ 9 → γ.get i f = α.get i f := fun f h9 => by rw [g, if_neg (fun e : i = n ∧ f = 4 => hin e.1), if_neg (fun e : i = i ∧ f = 9 => h9 e.2), if_neg (fun e : i = n ∧ f = 6 => hin e.1), gtk _ _ hin]
    have hrs : Rep γ (-1) (node n i e .nil .nil) := by
      refine ⟨⟨by rw [gl, if_pos rfl], by rw [gl, if_neg hin]; exact hi, ?_, ?_, (gi 7 (by omega)).trans h7, (gi 8 (by omega)).trans h8⟩, gn 0 (by omega) (by omega), gn 1 (by omega) (by omega), gn 2 (by omega) (by omega), gn 3 (by omega) (by omega), ?_, trivial, trivial⟩
      · rw [g, if_neg (by omega), if_neg (by omega), if_pos ⟨rfl, rfl⟩]
      · rw [g, if_neg (by omega), if_pos ⟨rfl, rfl⟩]
      · rw [g, if_pos ⟨rfl, rfl⟩]; rfl
    have hcc : (cells t ++ cells (node n i e .nil .nil)).Nodup := by
      rw [List.nodup_append]
      refine ⟨hp.nd, by simp only [cells, List.append_nil, List.nodup_cons, List.mem_cons, List.not_mem_nil, or_false, not_false_eq_true, List.nodup_nil, and_true]; exact fun e => hin e.symm, fun x hx y hy e => ?_⟩
      simp only [cells, List.append_nil, List.mem_cons, List.not_mem_nil, or_false] at hy
      rcases hy with rfl | rfl
      · exact hnt2 (e ▸ hx)
      · exact hic (e ▸ hx)
    rw [hp.r]
    have hk : (its t).length + (its (node n i e .nil .nil)).length ≤ (its t).length + 1 := by simp [its]
    refine lf_meld_ok (t := t) (s := node n i e .nil .nil) hB2 hrt hrs hcc hk fun M3 δ hB3 hr3 hc3 => ?_
    simp only [go_sem]
    have hits := meld_its _ _ _ hk
    have hcel := meld_cells _ _ _ hk
    have hbb := rk_bl hp.ln (m := (its t).length + 1) (Nat.le_refl _)
    refine h1 n hnx hnl M3 δ _ hB3 ⟨rfl, hr3, hcel.nodup_iff.2 hcc, meld_ln _ _ _ hp.ln (by simp [Ln]), meld_od _ _ _ hk hp.od (by simp [Od, its]) fun x hx y hy e => ?_⟩ (hits.trans (by simp only [its, List.append_nil]; exact List.perm_append_comm)) (hcel.trans (by simp only [cells, List.append_nil]; exact List.perm_append_comm)) ?_
    · simp only [its, List.append_nil, List.mem_cons, List.not_mem_nil, or_false] at hy
      subst hy
      exact hic (by have h9 := mem_its hx; rw [e] at h9; exact h9)
    · refine ((he2.mono (S' := fun c => c ∈ n :: i :: cells t) (L' := (· = n)) (fun c hc => by rcases hc with rfl | rfl <;> simp) (fun _ h => h) (Int.le_refl _)).trans ((hc3.mono (T := fun c => c ∈ n :: i :: cells t) (fun c hc => ?_) (Int.le_refl _)).eff)).mono (fun _ h => h) (fun _ h => h) (lf_limit ?_) |>.to (by omega)
      · rcases hc with hc | hc
        · simp [mem_nds hc]
        · simp only [nds, List.append_nil, List.mem_cons, List.not_mem_nil, or_false] at hc
          simp [hc]
      · have e1 : rk (node n i e LT.nil LT.nil) = 1 := rfl
        rw [e1]; omega

/-- A root is taken off what is below it. -/
theorem lf_pop_ok (hA : Holds w0 F M (arenaA a α)) {n i : Nat} {e : Ent} {l s : LT} (hr : Rep α (-1) (node n i e l s)) (hnd : (cells (node n i e l s)).Nodup) (hln : Ln (node n i e l s)) (hod : Od (node n i e l s)) {m : Nat} (hm : (its (node n i e l s)).length ≤ m)
    (h : ∀ M' β t', Holds w0 F M' (arenaA a β) → Hp β t'.root t' → (its t').Perm (its l ++ its s) → (cells t').Perm (cells l ++ cells s) → AS.Eff (fun c => c ∈ cells (node n i e l s)) (· = n) (-1) (34 * bl m + 10) α β → β.get i 9 = -1 ∧ β.get i 7 = e.1 ∧ β.get i 8 = e.2 → R (.tuple #[.int .i64 t'.root, .int .i64 (i : Int)]) M') :
    C PP w0 Id.leftist_Pop #[.pointer (some ⟨a, 0, none⟩), .int .i64 (n : Int)] R M := by
  apply leftist_Pop.go
  intro pts H
  unfold leftist_Pop.T
  have hI := hA.inv
  simp only [go_sem, Option.isNone_some, bs_false]
  refine Live_ok hA ?_
  rw [AS.liveI_nat, hr.1.ln]
  simp only [go_sem, Bool.not_true, bs_false]
  rw [H.J1]
  unfold leftist_Pop.J1.T
  obtain ⟨g1, g2, g3, g4, g5, g6, g7, g8⟩ := hr
  have hnd0 := hnd
  simp only [cells, List.nodup_cons, List.mem_cons, List.mem_append, not_or] at hnd
  obtain ⟨⟨a1, a2, a3⟩, ⟨b1, b2⟩, hn2⟩ := hnd
  have hk : (its l).length + (its s).length ≤ (its l).length + (its s).length := Nat.le_refl _
  have hml : (its l).length ≤ m ∧ (its s).length ≤ m := by simp only [its, List.length_cons, List.length_append] at hm; omega
  have hbl := rk_bl' hln.2.1 hml.1
  have hbs := rk_bl' hln.2.2 hml.2
  -- the kids become one
  have kids : ∀ (K : Value → Mem → Prop), (∀ M' β, Holds w0 F M' (arenaA a β) → Rep β (-1) (meld ((its l).length + (its s).length) l s) → AS.Chg (fun c => c ∈ nds l ∨ c ∈ nds s) (34 * bl m + 3) α β → K (.int .i64 (meld ((its l).length + (its s).length) l s).root) M') → C PP w0 Id.leftist_kids #[.pointer (some ⟨a, 0, none⟩), .int .i64 (n : Int)] K M := by
    intro K hK
    apply leftist_kids.go
    unfold leftist_kids.T
    refine Cell_ok hA fun M1 hA1 => ?_
    rw [show α.cellI (n : Int) 2 = l.root from AS.cellI_val hI (f := 2) g1.ln (by omega) g4 g7.rootv]
    simp only [go_sem]
    refine Cell_ok hA1 fun M2 hA2 => ?_
    rw [show α.tick.cellI (n : Int) 3 = s.root from AS.cellI_val (α := α.tick) (AS.tick_inv hI) (f := 3) g1.ln (by omega) g5 g8.rootv]
    simp only [go_sem]
    have s2 : AS.Sm 2 α α.tick.tick := (AS.tick_sm.trans AS.tick_sm).mono (by omega)
    refine lf_meld_ok (t := l) (s := s) hA2 (g7.chg (S := fun _ => False) s2.chg fun _ _ h => h) (g8.chg (S := fun _ => False) s2.chg fun _ _ h => h) hn2 hk fun M3 β hB hrep hc => ?_
    simp only [go_sem]
    exact hK M3 β hB hrep ((s2.chg.trans hc).mono (fun _ h => h) (by omega))
  refine kids _ fun M1 β hB hrep hc => ?_
  simp only [go_sem]
  have hits := meld_its _ l s hk
  have hcel := meld_cells _ l s hk
  have hln' := meld_ln ((its l).length + (its s).length) l s hln.2.1 hln.2.2
  have hod' := meld_od _ l s hk hod.2.2.1 hod.2.2.2 fun x hx y hy e => (List.nodup_append.1 hn2).2.2 _ (mem_its hx) _ (mem_its hy) e
  have hndm : (cells (meld ((its l).length + (its s).length) l s)).Nodup := hcel.nodup_iff.2 hn2
  generalize meld ((its l).length + (its s).length) l s = t1 at hrep hits hcel hln' hod' hndm ⊢
  have hmem : ∀ c, c ∈ cells t1 → c ∈ cells l ∨ c ∈ cells s := fun c hc => List.mem_append.1 (hcel.mem_iff.1 hc)
  -- the new root has none above it
  have hset : ∃ γ, (β.setI t1.root 0 (-1)).tick = γ ∧ Rep γ (-1) t1 ∧ AS.Chg (fun c => c ∈ cells l ∨ c ∈ cells s) 1 β γ := by
    refine ⟨_, rfl, ?_, ?_⟩
    · cases ht : t1 with
      | nil => trivial
      | node n' i' e' l' s' =>
        rw [ht] at hrep hndm
        rw [show (LT.node n' i' e' l' s').root = (n' : Int) from rfl, show β.setI (n' : Int) 0 (-1) = β.put n' 0 (-1) from AS.setI_live (f := 0) hrep.1.ln (by omega) _]
        refine (hrep.up (β := β.put n' 0 (-1)) hndm (fun x hx => ?_) (fun x hx f hf => ?_) (fun x _ => rfl)).chg (S := fun _ => False) AS.tick_sm.chg (fun _ _ h => h)
        · have : x = n' := by simp only [LT.root] at hx; omega
          rw [AS.put_get, if_pos ⟨this, rfl⟩]
        · rw [AS.put_get, if_neg (fun e : x = n' ∧ f = 0 => by rcases hf with hf | hf; exact hf (by simp only [LT.root]; omega); exact hf e.2)]
    · cases ht : t1 with
      | nil =>
        rw [show LT.nil.root = -1 from rfl, AS.setI_none AS.liveI_neg]
        exact AS.tick_sm.chg
      | node n' i' e' l' s' =>
        rw [ht] at hrep hmem
        rw [show (LT.node n' i' e' l' s').root = (n' : Int) from rfl, show β.setI (n' : Int) 0 (-1) = β.put n' 0 (-1) from AS.setI_live (f := 0) hrep.1.ln (by omega) _]
        exact (((AS.Chg.refl (S := fun c => c ∈ cells l ∨ c ∈ cells s) (α := β)).put (hmem n' (by simp [cells]))).tick).mono (fun _ h => h) (by omega)
  obtain ⟨γ, hγ, hrγ, hcγ⟩ := hset
  refine Set_ok hB fun M2 hB2 => ?_
  rw [hγ] at hB2
  simp only [go_sem]
  have hc2 : AS.Chg (fun c => c ∈ cells l ∨ c ∈ cells s) (34 * bl m + 4) α γ := ((hc.mono (fun c h => by rcases h with h | h; exact .inl (mem_nds h); exact .inr (mem_nds h)) (Int.le_refl _)).trans hcγ).mono (fun _ h => h) (by omega)
  have hnn : ¬ (n ∈ cells l ∨ n ∈ cells s) := by rintro (h | h); exact a2 h; exact a3 h
  have hii : ¬ (i ∈ cells l ∨ i ∈ cells s) := by rintro (h | h); exact b1 h; exact b2 h
  have hNd : γ.Nd n i e := g1.congr (hc2.get n hnn) (hc2.get i hii) (by rw [hc2.live]) (by rw [hc2.live])
  refine End_ok hB2 hNd fun M3 δ hB3 hs3 => ?_
  simp only [go_sem]
  have hin : i ≠ n := fun e => a1 e.symm
  have hIγ := hB2.inv
  have he3 : AS.Eff (fun c => c ∈ cells (node n i e l s)) (· = n) (-1) 3 γ δ := ((((AS.put_eff (S := fun c => c ∈ cells (node n i e l s)) (L := (· = n)) (α := γ) (c := i) (f := 9) (v := -1) (by simp [cells])).trans (AS.unlive_eff (AS.put_inv hIγ i 9 (-1)) hNd.ln rfl)).trans hs3.eff).mono (fun _ h => h) (fun _ h => h) (by omega)).to (by omega)
  refine h M3 δ t1 hB3 ⟨rfl, hrγ.congr (fun c hc f => ?_) (fun c hc => ?_), hndm, hln', hod'⟩ hits hcel (((hc2.mono (T := fun c => c ∈ cells (node n i e l s)) (fun c h => by rcases h with h | h <;> simp [cells, h]) (Int.le_refl _)).eff.trans he3).mono (fun _ h => h) (fun _ h => h) (by omega) |>.to (by omega)) ⟨?_, ?_, ?_⟩
  · have : c ≠ i := fun e => hii (e ▸ hmem c hc)
    rw [hs3.get]
    show (if c = i ∧ f = 9 then (-1 : Int) else γ.get c f) = _
    rw [if_neg (fun e => this e.1)]
  · have : c ≠ n := fun e => hnn (e ▸ hmem c hc)
    rw [hs3.live]
    show (if c = n then false else γ.live c) = _
    rw [if_neg this]
  · rw [hs3.get]
    show (if i = i ∧ 9 = 9 then (-1 : Int) else γ.get i 9) = _
    rw [if_pos ⟨rfl, rfl⟩]
  · rw [hs3.get]
    show (if i = i ∧ 7 = 9 then (-1 : Int) else γ.get i 7) = _
    rw [if_neg (by omega)]; exact hNd.k
  · rw [hs3.get]
    show (if i = i ∧ 8 = 9 then (-1 : Int) else γ.get i 8) = _
    rw [if_neg (by omega)]; exact hNd.s

/-- The least one is taken out. -/
theorem hp_pop_ok (hA : Holds w0 F M (arenaA a α)) {r : Int} {t : LT} (hp : Hp α r t)
    (h0 : t = .nil → R (.tuple #[.int .i64 (-1), .int .i64 (-1)]) M)
    (h : ∀ x L, (its t).Perm (x :: L) → (∀ y ∈ L, Bf x y) → ∀ M' β t' n, n ∈ nds t → Holds w0 F M' (arenaA a β) → Hp β t'.root t' → (its t').Perm L → (∀ c ∈ cells t', c ∈ cells t) → x.1 ∉ cells t' → AS.Eff (fun c => c ∈ cells t) (· = n) (-1) (limH ((its t).length)) α β → β.get x.1 9 = -1 ∧ β.get x.1 7 = x.2.1 ∧ β.get x.1 8 = x.2.2 ∧ β.live x.1 = true → R (.tuple #[.int .i64 t'.root, .int .i64 (x.1 : Int)]) M') :
    C PP w0 Id.leftist_Pop #[.pointer (some ⟨a, 0, none⟩), .int .i64 r] R M := by
  rw [hp.r]
  cases t with
  | nil =>
    apply leftist_Pop.go
    intro pts H
    unfold leftist_Pop.T
    simp only [go_sem, Option.isNone_some, bs_false, LT.root]
    refine Live_ok hA ?_
    rw [AS.liveI_neg]
    simp only [go_sem, Bool.not_false, bs_true]
    exact h0 rfl
  | node n i e l s =>
    have hnd := hp.nd
    simp only [cells, List.nodup_cons, List.mem_cons, List.mem_append, not_or] at hnd
    refine lf_pop_ok hA hp.rep hp.nd hp.ln hp.od (Nat.le_refl _) fun M1 β t' hB hp' hi hc he hg => ?_
    have hin : i ≠ n := fun e => hnd.1.1 e.symm
    refine h (i, e) (its l ++ its s) (List.Perm.refl _) (od_its hp.od) M1 β t' n (by simp [nds]) hB hp' hi (fun c hm => ?_) (fun hm => ?_) (he.mono (fun _ h => h) (fun _ h => h) (lf_limit (by omega))) ⟨hg.1, hg.2.1, hg.2.2, ?_⟩
    · have := List.mem_append.1 (hc.mem_iff.1 hm)
      simp [cells, this]
    · have := List.mem_append.1 (hc.mem_iff.1 hm)
      rcases this with h | h
      · exact hnd.2.1.1 h
      · exact hnd.2.1.2 h
    · rw [he.live i hin]; exact hp.rep.1.li

theorem plug_root : ∀ (c : Cx) (cs : List Cx) (x : LT), ∃ d : Nat, d ∈ cellsC (c :: cs) ∧ (plug (c :: cs) x).root = (d : Int)
  | c, [], x => ⟨c.n, by simp [cellsC], Cx.put_root c x⟩
  | c, d :: ds, x => by
    obtain ⟨m, h1, h2⟩ := plug_root d ds (c.put x)
    exact ⟨m, by simp only [cellsC, List.mem_cons, List.mem_append] at h1 ⊢; exact .inr (.inr (.inr h1)), h2⟩
theorem its_plug (cs : List Cx) (n i : Nat) (e : Ent) (l s : LT) : (its (plug cs (node n i e l s))).Perm ((i, e) :: (itsC cs ++ (its l ++ its s))) := (plug_its _ _).trans List.perm_middle
theorem cells_plug (cs : List Cx) (n i : Nat) (e e' : Ent) (l s : LT) : (cells (plug cs (node n i e l s))).Perm (cells (plug cs (node n i e' l s))) := (plug_cells cs (node n i e l s)).trans (plug_cells cs (node n i e' l s)).symm

/-- An item whose key has fallen. -/
theorem hp_fall_ok (hA : Holds w0 F M (arenaA a α)) {r : Int} {t : LT} {i : Nat} {e e' : Ent} (hF : HpF α r t i e e')
    (h : ∀ M' β t', Holds w0 F M' (arenaA a β) → Hp β t'.root t' → (∀ L, (its t).Perm ((i, e) :: L) → (its t').Perm ((i, e') :: L)) → (cells t').Perm (cells t) → AS.Eff (fun c => c ∈ cells t) (fun _ => False) 0 (limH ((its t).length)) α β → R (.int .i64 t'.root) M') :
    C PP w0 Id.leftist_Fall #[.pointer (some ⟨a, 0, none⟩), .int .i64 r, .int .i64 (i : Int)] R M := by
  obtain ⟨cs, n, l, s, rfl, hr, hrep, hnd, hln, hoc, hod⟩ := hF
  apply leftist_Fall.go
  intro pts H
  unfold leftist_Fall.T
  have hI := hA.inv
  simp only [go_sem, Option.isNone_some, bs_false]
  obtain ⟨hrc, hrt⟩ := rep_plug.1 hrep
  have hcl := cells_plug cs n i e e' l s
  have hnd' := hcl.nodup_iff.1 hnd
  have hln' : Ln (plug cs (node n i e' l s)) := by
    obtain ⟨g1, g2⟩ := ln_plug.1 hln
    exact ln_plug.2 ⟨g1, g2⟩
  have hperm : ∀ t', (its t').Perm ((i, e') :: (itsC cs ++ (its l ++ its s))) → ∀ L, (its (plug cs (node n i e l s))).Perm ((i, e) :: L) → (its t').Perm ((i, e') :: L) := fun t' ht L hL =>
    ht.trans (List.Perm.cons _ (List.Perm.cons_inv ((its_plug cs n i e l s).symm.trans hL)))
  refine Node_ok hA fun M1 hA1 => ?_
  rw [show α.cellI (i : Int) 9 = (n : Int) from AS.cellI_live (f := 9) hrt.1.li (by omega) hrt.1.nd (AS.live_lt hI hrt.1.ln)]
  simp only [go_sem, bs_beq]
  rw [if_neg (by omega)]
  cases cs with
  | nil =>
    have hr' : r = (n : Int) := hr
    rw [if_pos hr'.symm]
    refine (hr' ▸ h M1 α.tick (node n i e' l s) hA1 ⟨rfl, hrep.chg (S := fun _ => False) AS.tick_sm.chg (fun _ _ h => h), hnd', hln', hod⟩ (hperm _ (List.Perm.refl _)) hcl.symm (AS.tick_sm.eff.mono (fun _ h => h) (fun _ h => h) (lf_limit (by omega))))
  | cons c cs =>
    obtain ⟨d, hd1, hd2⟩ := plug_root c cs (node n i e l s)
    obtain ⟨q1, q2, q3⟩ := List.nodup_append.1 ((plug_cells (c :: cs) (node n i e l s)).nodup_iff.1 hnd)
    have hdn : d ≠ n := q3 d hd1 n (by simp [cells])
    rw [if_neg (fun e => hdn (by rw [hr, hd2] at e; omega))]
    refine Cell_ok hA1 fun M2 hA2 => ?_
    have hc1 := hrc.1
    rw [show α.tick.cellI (n : Int) 0 = (c.n : Int) from AS.cellI_live (α := α.tick) (f := 0) hrt.1.ln (by omega) hrt.2.1 (AS.live_lt hI hc1.ln)]
    simp only [go_sem]
    rw [if_neg (by omega), H.J1]
    unfold leftist_Fall.J1.T
    have s2 : AS.Sm 2 α α.tick.tick := (AS.tick_sm.trans AS.tick_sm).mono (by omega)
    have hlen : (its (plug (c :: cs) (node n i e' l s))).length = (its (plug (c :: cs) (node n i e l s))).length := by
      rw [(its_plug _ _ _ _ _ _).length_eq, (its_plug _ _ _ _ _ _).length_eq]; rfl
    refine lf_leave_ok hA2 (hrep.chg (S := fun _ => False) s2.chg (fun _ _ h => h)) hnd' hln' (m := (its (plug (c :: cs) (node n i e l s))).length) (by omega) fun M3 β hB hr1 hr2 hcb => ?_
    have hroot : (rp (c :: cs) nil).root = r := by rw [rp_root (c :: cs) nil (node n i e l s) (by simp), hr]
    obtain ⟨hl1, hl2⟩ := ln_plug.1 hln'
    have hrpln : Ln (rp (c :: cs) nil) := rp_ln hl1.o trivial
    have hrpod : Od (rp (c :: cs) nil) := rp_od hoc trivial (fun x hx => by cases hx)
    have hrpi := rp_its (c :: cs) nil
    have hrpc := rp_cells (c :: cs) nil
    rw [show its nil = [] from rfl, List.append_nil] at hrpi
    rw [show cells nil = [] from rfl, List.append_nil] at hrpc
    have hrpn : ∀ x, x ∈ nds (rp (c :: cs) nil) → x ∈ cellsC (c :: cs) := fun x hx => hrpc.mem_iff.1 (mem_nds hx)
    have hcc : (cells (rp (c :: cs) nil) ++ cells (node n i e' l s)).Nodup := by
      refine (hrpc.append_right _).nodup_iff.2 ?_
      exact (plug_cells (c :: cs) (node n i e' l s)).nodup_iff.1 hnd'
    have htl := (its_plug (c :: cs) n i e l s).length_eq
    simp only [List.length_cons, List.length_append] at htl
    have hk : (its (rp (c :: cs) nil)).length + (its (node n i e' l s)).length ≤ (its (plug (c :: cs) (node n i e l s))).length := by
      rw [hrpi.length_eq, htl]; simp only [its, List.length_cons, List.length_append]; omega
    have hk1 := rk_bl' hrpln (m := (its (plug (c :: cs) (node n i e l s))).length) (by omega)
    have hk2 := rk_bl' hl2 (m := (its (plug (c :: cs) (node n i e l s))).length) (by omega)
    rw [← hroot]
    refine lf_meld_ok (t := rp (c :: cs) nil) (s := node n i e' l s) hB hr1 hr2 hcc hk fun M4 γ hB4 hr4 hc4 => ?_
    simp only [go_sem]
    have hits := meld_its _ _ _ hk
    have hcel := meld_cells _ _ _ hk
    have hc : ∀ x, x ∈ cellsC (c :: cs) ∨ x ∈ cells (node n i e l s) → x ∈ cells (plug (c :: cs) (node n i e l s)) := fun x hx => (plug_cells (c :: cs) (node n i e l s)).mem_iff.2 (List.mem_append.2 hx)
    refine h M4 γ _ hB4 ⟨rfl, hr4, hcel.nodup_iff.2 hcc, meld_ln _ _ _ hrpln hl2, meld_od _ _ _ hk hrpod hod fun x hx y hy e0 => ?_⟩ (hperm _ ?_) ?_ ?_
    · exact (List.nodup_append.1 hcc).2.2 _ (mem_its hx) _ (mem_its hy) e0
    · exact (hits.trans (hrpi.append_right _)).trans List.perm_middle
    · exact hcel.trans ((hrpc.append_right _).trans (plug_cells (c :: cs) (node n i e l s)).symm)
    · refine (((s2.chg.trans (hcb.mono (T := fun x => x ∈ cells (plug (c :: cs) (node n i e l s))) (fun x hx => hc x ?_) (Int.le_refl _))).trans (hc4.mono (fun x hx => hc x ?_) (Int.le_refl _))).eff).mono (fun _ h => h) (fun _ h => h) (lf_limit ?_)
      · rcases hx with hx | rfl
        · exact .inl (mem_ndsC hx)
        · exact .inr (by simp [cells])
      · rcases hx with hx | hx
        · exact .inl (hrpn x hx)
        · exact .inr (mem_nds hx)
      · omega

/-- An item is taken out. -/
theorem hp_cut_ok (hA : Holds w0 F M (arenaA a α)) {r : Int} {t : LT} (hp : Hp α r t) {i : Nat} {e : Ent} (hm : (i, e) ∈ its t)
    (h : ∀ L, (its t).Perm ((i, e) :: L) → ∀ M' β t' n, n ∈ nds t → Holds w0 F M' (arenaA a β) → Hp β t'.root t' → (its t').Perm L → (∀ c ∈ cells t', c ∈ cells t) → i ∉ cells t' → n ∉ cells t' → AS.Eff (fun c => c ∈ cells t) (· = n) (-1) (limH ((its t).length)) α β → β.get i 9 = -1 ∧ β.live i = true → R (.int .i64 t'.root) M') :
    C PP w0 Id.leftist_Cut #[.pointer (some ⟨a, 0, none⟩), .int .i64 r, .int .i64 (i : Int)] R M := by
  obtain ⟨cs, n, l, s, rfl⟩ := find hm
  apply leftist_Cut.go
  intro pts H
  unfold leftist_Cut.T
  have hI := hA.inv
  have hr := hp.r
  simp only [go_sem, Option.isNone_some, bs_false]
  obtain ⟨hrc, hrt⟩ := rep_plug.1 hp.rep
  obtain ⟨hl1, hl2⟩ := ln_plug.1 hp.ln
  obtain ⟨ho1, ho2, ho3⟩ := od_plug.1 hp.od
  obtain ⟨q1, q2, q3⟩ := List.nodup_append.1 ((plug_cells cs (node n i e l s)).nodup_iff.1 hp.nd)
  have htl := (its_plug cs n i e l s).length_eq
  simp only [List.length_cons, List.length_append] at htl
  have hml : (its (node n i e l s)).length ≤ (its (plug cs (node n i e l s))).length := by
    rw [htl]; simp only [its, List.length_cons, List.length_append]; omega
  have hc : ∀ x, x ∈ cellsC cs ∨ x ∈ cells (node n i e l s) → x ∈ cells (plug cs (node n i e l s)) := fun x hx => (plug_cells cs (node n i e l s)).mem_iff.2 (List.mem_append.2 hx)
  have hnn : n ∈ nds (plug cs (node n i e l s)) := (plug_nds cs (node n i e l s)).mem_iff.2 (by simp [nds])
  have q2' := q2
  simp only [cells, List.nodup_cons, List.mem_cons, List.mem_append, not_or] at q2'
  obtain ⟨⟨a1, a2, a3⟩, ⟨b1, b2⟩, _⟩ := q2'
  refine Node_ok hA fun M1 hA1 => ?_
  rw [show α.cellI (i : Int) 9 = (n : Int) from AS.cellI_live (f := 9) hrt.1.li (by omega) hrt.1.nd (AS.live_lt hI hrt.1.ln)]
  simp only [go_sem, bs_beq]
  rw [if_neg (by omega)]
  cases cs with
  | nil =>
    have hr' : r = (n : Int) := hr
    rw [if_pos hr'.symm]
    refine lf_pop_ok hA1 ((show Rep α (-1) (node n i e l s) from hp.rep).chg (S := fun _ => False) AS.tick_sm.chg (fun _ _ h => h)) q2 hl2 ho2 hml fun M2 β t' hB hp' hi hcel he hg => ?_
    simp only [go_sem]
    have hmem : ∀ c, c ∈ cells t' → c ∈ cells l ∨ c ∈ cells s := fun c hc => List.mem_append.1 (hcel.mem_iff.1 hc)
    refine h (its l ++ its s) (List.Perm.refl _) M2 β t' n hnn hB hp' hi (fun c hx => ?_) (fun hx => ?_) (fun hx => ?_) ((AS.tick_sm.eff.trans he).mono (fun _ h => h) (fun _ h => h) (lf_limit ?_) |>.to (by omega)) ⟨hg.1, ?_⟩
    · have := hmem c hx
      exact hc c (.inr (by simp [cells, this]))
    · rcases hmem i hx with h | h
      · exact b1 h
      · exact b2 h
    · rcases hmem n hx with h | h
      · exact a2 h
      · exact a3 h
    · omega
    · rw [he.live i (fun e => a1 e.symm)]; exact hrt.1.li
  | cons c cs =>
    obtain ⟨d, hd1, hd2⟩ := plug_root c cs (node n i e l s)
    have hdn : d ≠ n := q3 d hd1 n (by simp [cells])
    rw [if_neg (fun e => hdn (by rw [hr, hd2] at e; omega))]
    refine Cell_ok hA1 fun M2 hA2 => ?_
    have hc1 := hrc.1
    rw [show α.tick.cellI (n : Int) 0 = (c.n : Int) from AS.cellI_live (α := α.tick) (f := 0) hrt.1.ln (by omega) hrt.2.1 (AS.live_lt hI hc1.ln)]
    simp only [go_sem]
    rw [if_neg (by omega), H.J1]
    unfold leftist_Cut.J1.T
    have s2 : AS.Sm 2 α α.tick.tick := (AS.tick_sm.trans AS.tick_sm).mono (by omega)
    refine lf_leave_ok hA2 (hp.rep.chg (S := fun _ => False) s2.chg (fun _ _ h => h)) hp.nd hp.ln (Nat.le_refl _) fun M3 β hB hr1 hr2 hcb => ?_
    have hroot : (rp (c :: cs) nil).root = r := by rw [rp_root (c :: cs) nil (node n i e l s) (by simp), hr]
    have hrpln : Ln (rp (c :: cs) nil) := rp_ln hl1.o trivial
    have hrpod : Od (rp (c :: cs) nil) := rp_od ho1 trivial (fun x hx => by cases hx)
    have hrpi := rp_its (c :: cs) nil
    have hrpc := rp_cells (c :: cs) nil
    rw [show its nil = [] from rfl, List.append_nil] at hrpi
    rw [show cells nil = [] from rfl, List.append_nil] at hrpc
    have hrpn : ∀ x, x ∈ nds (rp (c :: cs) nil) → x ∈ cellsC (c :: cs) := fun x hx => hrpc.mem_iff.1 (mem_nds hx)
    refine lf_pop_ok hB hr2 q2 hl2 ho2 hml fun M4 γ t' hB4 hp' hi hcel he hg => ?_
    simp only [go_sem]
    have hmem : ∀ c, c ∈ cells t' → c ∈ cells l ∨ c ∈ cells s := fun c hc => List.mem_append.1 (hcel.mem_iff.1 hc)
    have hrpg : Rep γ (-1) (rp (c :: cs) nil) := hr1.congr (fun x hx f => he.get x (fun hx2 => q3 x (hrpc.mem_iff.1 hx) x hx2 rfl) f) (fun x hx => he.live x (fun e0 => q3 x (hrpc.mem_iff.1 hx) n (by simp [cells]) e0))
    have hcc : (cells (rp (c :: cs) nil) ++ cells t').Nodup := by
      refine (hrpc.append hcel).nodup_iff.2 ?_
      rw [List.nodup_append]
      refine ⟨q1, hcel.nodup_iff.1 hp'.nd, fun x hx y hy e0 => q3 x hx y ?_ e0⟩
      have := List.mem_append.1 hy
      simp [cells, this]
    have hk : (its (rp (c :: cs) nil)).length + (its t').length ≤ (its (plug (c :: cs) (node n i e l s))).length := by
      rw [hrpi.length_eq, htl, hi.length_eq]; simp only [List.length_append]; omega
    have hk1 := rk_bl' hrpln (m := (its (plug (c :: cs) (node n i e l s))).length) (by omega)
    have hk2 := rk_bl' hp'.ln (m := (its (plug (c :: cs) (node n i e l s))).length) (by omega)
    rw [← hroot]
    refine lf_meld_ok (t := rp (c :: cs) nil) (s := t') hB4 hrpg hp'.rep hcc hk fun M5 δ hB5 hr5 hc5 => ?_
    simp only [go_sem]
    have hits := meld_its _ _ _ hk
    have hcel5 := meld_cells _ _ _ hk
    have hm5 : ∀ x, x ∈ cells (meld (its (plug (c :: cs) (node n i e l s))).length (rp (c :: cs) nil) t') → x ∈ cellsC (c :: cs) ∨ x ∈ cells l ∨ x ∈ cells s := fun x hx => by
      rcases List.mem_append.1 (hcel5.mem_iff.1 hx) with hx | hx
      · exact .inl (hrpc.mem_iff.1 hx)
      · exact .inr (hmem x hx)
    have hiN : i ∉ cellsC (c :: cs) := fun hx => q3 i hx i (by simp [cells]) rfl
    have hnN : n ∉ cellsC (c :: cs) := fun hx => q3 n hx n (by simp [cells]) rfl
    have hi2 : ¬ (i ∈ nds (rp (c :: cs) nil) ∨ i ∈ nds t') := by
      rintro (h9 | h9)
      · exact hiN (hrpn i h9)
      · rcases hmem i (mem_nds h9) with h8 | h8
        · exact b1 h8
        · exact b2 h8
    refine h (itsC (c :: cs) ++ (its l ++ its s)) (its_plug _ _ _ _ _ _) M5 δ _ n hnn hB5 ⟨rfl, hr5, hcel5.nodup_iff.2 hcc, meld_ln _ _ _ hrpln hp'.ln, meld_od _ _ _ hk hrpod hp'.od fun x hx y hy e0 => ?_⟩ (hits.trans (hrpi.append hi)) (fun x hx => ?_) (fun hx => ?_) (fun hx => ?_) ?_ ⟨?_, ?_⟩
    · exact (List.nodup_append.1 hcc).2.2 _ (mem_its hx) _ (mem_its hy) e0
    · rcases hm5 x hx with hx | hx | hx
      · exact hc x (.inl hx)
      · exact hc x (.inr (by simp [cells, hx]))
      · exact hc x (.inr (by simp [cells, hx]))
    · rcases hm5 i hx with hx | hx | hx
      · exact hiN hx
      · exact b1 hx
      · exact b2 hx
    · rcases hm5 n hx with hx | hx | hx
      · exact hnN hx
      · exact a2 hx
      · exact a3 hx
    · have e1 : AS.Eff (fun x => x ∈ cells (plug (c :: cs) (node n i e l s))) (· = n) 0 (9 * bl (its (plug (c :: cs) (node n i e l s))).length + 18) α β := ((s2.chg.trans hcb).mono (fun x hx => by
          rcases hx with hx | rfl
          · exact hc x (.inl (mem_ndsC hx))
          · exact hc x (.inr (by simp [cells]))) (by omega)).eff
      have e2 := he.mono (S' := fun x => x ∈ cells (plug (c :: cs) (node n i e l s))) (L' := (· = n)) (fun x hx => hc x (.inr hx)) (fun _ h => h) (Int.le_refl _)
      have e3 : AS.Eff (fun x => x ∈ cells (plug (c :: cs) (node n i e l s))) (· = n) 0 _ γ δ := (hc5.mono (fun x hx => by
          rcases hx with hx | hx
          · exact hc x (.inl (hrpn x hx))
          · have := hmem x (mem_nds hx)
            exact hc x (.inr (by simp [cells, this]))) (Int.le_refl _)).eff
      exact (((e1.trans e2).trans e3).mono (fun _ h => h) (fun _ h => h) (lf_limit (by omega))).to (by omega)
    · rw [hc5.get i hi2]; exact hg.1
    · rw [hc5.live, he.live i (fun e0 => a1 e0.symm), hcb.live]
      exact hrt.1.li

/-- Two heaps become one. -/
theorem hp_meld_ok (hA : Holds w0 F M (arenaA a α)) {r s : Int} {t u : LT} (hp : Hp α r t) (hq : Hp α s u) (hd : (cells t ++ cells u).Nodup)
    (h : ∀ M' β t', Holds w0 F M' (arenaA a β) → Hp β t'.root t' → (its t').Perm (its t ++ its u) → (cells t').Perm (cells t ++ cells u) → AS.Eff (fun c => c ∈ cells t ∨ c ∈ cells u) (fun _ => False) 0 (limH ((its t).length + (its u).length)) α β → R (.int .i64 t'.root) M') :
    C PP w0 Id.leftist_Meld #[.pointer (some ⟨a, 0, none⟩), .int .i64 r, .int .i64 s] R M := by
  apply leftist_Meld.go
  unfold leftist_Meld.T
  simp only [go_sem, Option.isNone_some, bs_false]
  rw [hp.r, hq.r]
  have hk : (its t).length + (its u).length ≤ (its t).length + (its u).length := Nat.le_refl _
  refine lf_meld_ok (t := t) (s := u) hA hp.rep hq.rep hd hk fun M1 β hB hr hc => ?_
  simp only [go_sem]
  have h1 := rk_bl' hp.ln (m := (its t).length + (its u).length) (by omega)
  have h2 := rk_bl' hq.ln (m := (its t).length + (its u).length) (by omega)
  have hcel := meld_cells _ _ _ hk
  refine h M1 β _ hB ⟨rfl, hr, hcel.nodup_iff.2 hd, meld_ln _ _ _ hp.ln hq.ln, meld_od _ _ _ hk hp.od hq.od fun x hx y hy e0 => ?_⟩ (meld_its _ _ _ hk) hcel ((hc.mono (fun x hx => ?_) (lf_limit (by omega))).eff)
  · exact (List.nodup_append.1 hd).2.2 _ (mem_its hx) _ (mem_its hy) e0
  · rcases hx with hx | hx
    · exact .inl (mem_nds hx)
    · exact .inr (mem_nds hx)

/-- The least one is told. -/
theorem hp_min_ok (hA : Holds w0 F M (arenaA a α)) {r : Int} {t : LT} (hp : Hp α r t)
    (h0 : t = .nil → ∀ M' β, Holds w0 F M' (arenaA a β) → AS.Sm 1 α β → R (.int .i64 (-1)) M')
    (h : ∀ x L, (its t).Perm (x :: L) → (∀ y ∈ L, Bf x y) → ∀ M' β, Holds w0 F M' (arenaA a β) → AS.Sm 1 α β → R (.int .i64 (x.1 : Int)) M') :
    C PP w0 Id.leftist_Min #[.pointer (some ⟨a, 0, none⟩), .int .i64 r] R M := by
  apply leftist_Min.go
  unfold leftist_Min.T
  simp only [go_sem, Option.isNone_some, bs_false]
  rw [hp.r]
  refine Cell_ok hA fun M1 hA1 => ?_
  cases t with
  | nil =>
    rw [show LT.nil.root = -1 from rfl, AS.cellI_none AS.liveI_neg]
    simp only [go_sem]
    exact h0 rfl M1 _ hA1 AS.tick_sm
  | node n i e l s =>
    rw [show (node n i e l s).root = (n : Int) from rfl, show α.cellI (n : Int) 6 = (i : Int) from AS.cellI_live (f := 6) hp.rep.1.ln (by omega) hp.rep.1.it (AS.live_lt hA.inv hp.rep.1.li)]
    simp only [go_sem]
    exact h (i, e) (its l ++ its s) (List.Perm.refl _) (od_its hp.od) M1 _ hA1 AS.tick_sm

end
end Go.Proofs.Ytiejdmkobmphfaa.HL

/-
  LfD: heaps that lean to the left: all nodes, all items; a heap that is given up.
-/
set_option linter.unusedVariables false
set_option linter.unusedSimpArgs false
set_option maxRecDepth 100000
namespace Go.Proofs.Ytiejdmkobmphfaa.HL
open Go.RowKit (Below)
open Go.Proofs

namespace LT
/-- Nodes with their items. -/
def prs : LT → List (Nat × Held)
  | nil => []
  | node n i e l r => (n, (i, e)) :: (prs l ++ prs r)
theorem prs_nds : ∀ (t : LT), (prs t).map (·.1) = nds t
  | nil => rfl
  | node n i e l r => by simp [prs, nds, prs_nds l, prs_nds r]
theorem prs_its : ∀ (t : LT), (prs t).map (·.2) = its t
  | nil => rfl
  | node n i e l r => by simp [prs, its, prs_its l, prs_its r]
theorem prs_cells : ∀ (t : LT), ((prs t).map (·.1) ++ (prs t).map (fun p => p.2.1)).Perm (cells t)
  | nil => List.Perm.refl _
  | node n i e l r => by
    simp only [prs, cells, List.map_cons, List.map_append, List.cons_append]
    refine List.Perm.cons _ (List.perm_middle.trans (List.Perm.cons _ ?_))
    refine List.Perm.trans ?_ ((prs_cells l).append (prs_cells r))
    rw [List.append_assoc, List.append_assoc]
    refine List.Perm.append_left _ ?_
    rw [← List.append_assoc, ← List.append_assoc]
    exact List.perm_append_comm.append_right _
theorem prs_nd {α : AS} : ∀ {t : LT} {up : Int}, Rep α up t → ∀ p ∈ prs t, α.Nd p.1 p.2.1 p.2.2
  | nil, _, _, p, hp => by cases hp
  | node n i e l r, up, h, p, hp => by
    simp only [prs, List.mem_cons, List.mem_append] at hp
    rcases hp with rfl | hp | hp
    · exact h.1
    · exact prs_nd h.2.2.2.2.2.2.1 p hp
    · exact prs_nd h.2.2.2.2.2.2.2 p hp
/-- What stands below a node. -/
def Kd (α : AS) (S : List Nat) (n : Nat) (ks : List Int) : Prop := n ∈ S ∧ ks = [α.get n 2, α.get n 3]
theorem tr_of {α : AS} {S : List Nat} : ∀ (t : LT) {up : Int}, Rep α up t → (∀ n ∈ nds t, n ∈ S) → ∀ {w : List Int} {N : List Nat}, Tr (Kd α S) w N → ∃ N', Tr (Kd α S) (w ++ [t.root]) N' ∧ N'.Perm (nds t ++ N)
  | nil, _, _, _, w, N, h => ⟨N, Tr.skip h, List.Perm.refl _⟩
  | node n i e l r, up, hr, hS, w, N, h => by
    obtain ⟨N1, h1, p1⟩ := tr_of l hr.2.2.2.2.2.2.1 (fun x hx => hS x (by simp [nds, hx])) h
    obtain ⟨N2, h2, p2⟩ := tr_of r hr.2.2.2.2.2.2.2 (fun x hx => hS x (by simp [nds, hx])) h1
    refine ⟨n :: N2, Tr.node (ks := [α.get n 2, α.get n 3]) ⟨hS n (by simp [nds]), rfl⟩ ?_, ?_⟩
    · rw [hr.2.2.2.1, hr.2.2.2.2.1]
      rw [List.append_assoc] at h2
      exact h2
    · simp only [nds, List.cons_append]
      refine List.Perm.cons _ (p2.trans ((p1.append_left _).trans ?_))
      rw [← List.append_assoc]
      exact List.perm_append_comm.append_right _
end LT

section
variable {w0 : World} {M F : Mem} {R : Value → Mem → Prop} {a : Nat} {α : AS}
open Go.Proofs.Ytiejdmkobmphfaa.HL.LT

theorem lf_nodes_ok (hA : Holds w0 F M (arenaA a α)) {r : Int} {t : LT} (hp : Hp α r t) (h : ∀ M' s N β, Holds w0 F M' (star (SlA s ((intsN N).map (Value.int .i64))) (arenaA a β)) → N.Perm (nds t) → AS.Sq α β → R s.v M') : C PP w0 Id.leftist_nodes #[.pointer (some ⟨a, 0, none⟩), .int .i64 r] R M := by
  apply leftist_nodes.go
  unfold leftist_nodes.T
  have hI := hA.inv
  intro b hb hw
  obtain ⟨F1, hle1, hown, hA1, back1⟩ := hA.box hb hw [.pointer (some ⟨a, 0, none⟩)] 28
  have hbox : ∀ M', Mem.le F1 M' → rd w0 M' ⟨b, 0, none⟩ = some (.pointer (some ⟨a, 0, none⟩)) := fun M' hl => by rw [rd_own (hown.le hl)]; rfl
  simp only [go_sem, hbox _ hA1.fr]
  refine lit_ok [r] (n := 1) (by decide) (by kernel_rfl) rfl (wf_all fun x hx => ?_) fun M2 s2 l2 r2 => ?_
  · simp only [List.mem_cons, List.not_mem_nil, or_false] at hx
    subst hx
    rcases hp.rep.rootv with h0 | ⟨y, hy, hl⟩
    · rw [hp.r, h0]; unfold In64; omega
    · have := AS.live_lt hI hl
      have := hI.n
      rw [hp.r, hy]; unfold In64; omega
  have hA2 := hA1.le l2
  obtain ⟨N, hT, hN⟩ := tr_of (S := nds t) t hp.rep (fun _ h => h) (Tr.nil (K := Kd α (nds t)))
  rw [List.nil_append, ← hp.r] at hT
  rw [List.append_nil] at hN
  have hndn : (nds t).Nodup := (prs_nds t) ▸ (List.nodup_append.1 ((prs_cells t).nodup_iff.2 hp.nd)).1
  have hrt : ∀ n ∈ nds t, ∃ l s : LT, α.get n 2 = l.root ∧ α.get n 3 = s.root ∧ (∃ u, Rep α u l) ∧ ∃ u, Rep α u s := by
    have : ∀ (t : LT) {up : Int}, Rep α up t → ∀ n ∈ nds t, ∃ l s : LT, α.get n 2 = l.root ∧ α.get n 3 = s.root ∧ (∃ u, Rep α u l) ∧ ∃ u, Rep α u s := by
      intro t
      induction t with
      | nil => intro up _ n hn; cases hn
      | node m i e l s ihl ihs =>
        intro up hr n hn
        simp only [nds, List.mem_cons, List.mem_append] at hn
        rcases hn with rfl | hn | hn
        · exact ⟨l, s, hr.2.2.2.1, hr.2.2.2.2.1, ⟨_, hr.2.2.2.2.2.2.1⟩, _, hr.2.2.2.2.2.2.2⟩
        · exact ihl hr.2.2.2.2.2.2.1 n hn
        · exact ihs hr.2.2.2.2.2.2.2 n hn
    exact this t hp.rep
  have hlv : ∀ n ∈ N, α.live n = true := fun n hn => hp.live n (mem_nds (hN.mem_iff.1 hn))
  have hrange : ∀ (l : LT) (u : Int), Rep α u l → In64 l.root := fun l u hr => by
    rcases hr.rootv with h0 | ⟨y, hy, hl⟩
    · rw [h0]; unfold In64; omega
    · have := AS.live_lt hI hl
      have := hI.n
      rw [hy]; unfold In64; omega
  refine Below_ok (K := Kd α (nds t)) (kf := (Id.leftist_nodes_1, #[.pointer (some ⟨b, 0, none⟩)])) hA2 r2 (by simp) hT (hN.nodup_iff.2 hndn) hlv (fun n ks hk => by rw [hk.2]; simp) (fun n ks hk x hx => ?_) (fun n ks hn hk F' M' β R' hle hB hq hR' => ?_) fun M3 s3 β hH hq => ?_
  · obtain ⟨l, s, g1, g2, ⟨u, g3⟩, v, g4⟩ := hrt n hk.1
    rw [hk.2, g1, g2] at hx
    simp only [List.mem_cons, List.not_mem_nil, or_false] at hx
    rcases hx with rfl | rfl
    · exact hrange l u g3
    · exact hrange s v g4
  · show C PP w0 Id.leftist_nodes_1 #[.int .i64 (n : Int), .pointer (some ⟨b, 0, none⟩)] R' M'
    apply leftist_nodes_1.go
    unfold leftist_nodes_1.T
    have hbox' : ∀ M', Mem.le F' M' → rd w0 M' ⟨b, 0, none⟩ = some (.pointer (some ⟨a, 0, none⟩)) := fun M' hl => hbox M' (Mem.le_trans hle hl)
    obtain ⟨l, s, g1, g2, ⟨u, g3⟩, v, g4⟩ := hrt n hk.1
    simp only [go_sem, hbox' _ hB.fr]
    have hln : β.live n = true := by rw [hq.live]; exact hlv n hn
    refine Cell_ok hB fun M4 hB4 => ?_
    rw [show β.cellI (n : Int) 2 = l.root from AS.cellI_val hB.inv (f := 2) hln (by omega) (by rw [hq.get]; exact g1) (by rw [hq.live]; exact g3.rootv)]
    simp only [go_sem, hbox' _ hB4.fr]
    refine ⟨trivial, ?_⟩
    refine Cell_ok hB4 fun M5 hB5 => ?_
    rw [show β.tick.cellI (n : Int) 3 = s.root from AS.cellI_val (α := β.tick) (AS.tick_inv hB.inv) (f := 3) hln (by omega) (by show β.get n 3 = _; rw [hq.get]; exact g2) (by show _ ∨ ∃ y : Nat, _ ∧ β.live y = true; rw [hq.live]; exact g4.rootv)]
    rw [shI_v]
    refine lit_ok [l.root, s.root] (n := 2) (by decide) (by kernel_rfl) rfl (wf_all fun x hx => ?_) fun M6 s6 l6 r6 => ?_
    · simp only [List.mem_cons, List.not_mem_nil, or_false] at hx
      rcases hx with rfl | rfl
      · exact hrange l u g3
      · exact hrange s v g4
    · have hks : ks = [l.root, s.root] := by rw [hk.2, g1, g2]
      rw [hks] at hR'
      exact hR' M6 s6 _ (hB5.le l6) (AS.tick_sm.trans AS.tick_sm).sq r6
  · simp only [go_sem]
    exact h M3 s3 N β (back1 _ _ hH) hN hq

theorem Holds.le_frame {P : Asn} {F' : Mem} (h : Holds w0 F' M P) (hl : Mem.le F F') : Holds w0 F M P := by
  obtain ⟨r, h1, h2⟩ := h
  exact ⟨r, h1, ⟨h2.nd, fun x hx => by obtain ⟨a1, a2, a3⟩ := h2.at_ x hx; exact ⟨a1, le_none hl a2, a3⟩, Mem.le_trans hl h2.fr⟩⟩

/-- All items are told. -/
theorem hp_all_ok (hA : Holds w0 F M (arenaA a α)) {r : Int} {t : LT} (hp : Hp α r t) (h : ∀ M' s (z : List Int) β, Holds w0 F M' (star (SlA s (z.map (Value.int .i64))) (arenaA a β)) → z.Perm (intsN ((its t).map (·.1))) → z.Pairwise (· ≤ ·) → AS.Sq α β → R s.v M') : C PP w0 Id.leftist_All #[.pointer (some ⟨a, 0, none⟩), .int .i64 r] R M := by
  apply leftist_All.go
  unfold leftist_All.T
  have hI := hA.inv
  have h65 := hI.n
  have hsz := hp.size hI
  simp only [go_sem, Option.isNone_some, bs_false]
  refine lf_nodes_ok hA hp fun M1 s N β hH hN hq => ?_
  simp only [go_sem]
  have hNl : ∀ x ∈ N, α.live x = true := fun x hx => hp.live x (mem_nds (hN.mem_iff.1 hx))
  have hNlen : N.length = (its t).length := by rw [hN.length_eq, nds_len]
  obtain ⟨F', hle, hB, hS⟩ := hH.freeze (fun c hc => by
    obtain ⟨z, hz, rfl⟩ := List.mem_map.1 hc
    have := AS.live_lt hI (hNl z hz)
    exact wf64 (by unfold In64; omega)) (by simp [intsN]; omega)
  obtain ⟨P, hP1, hP2⟩ := perm_lift (·.1) hN.symm (prs t) (prs_nds t)
  have hnd : ∀ p ∈ P, α.Nd p.1 p.2.1 p.2.2 := fun p hp' => prs_nd hp.rep p (hP1.mem_iff.1 hp')
  refine Items_ok (I := P.map fun p => p.2.1) hB hS (by rw [← hP2]; simp) (by omega) (fun j n hj => ?_) fun M2 s2 z γ hH2 hz hz2 hq2 => ?_
  · rw [← hP2, List.getElem?_map] at hj
    cases hx : P[j]? with
    | none => rw [hx] at hj; cases hj
    | some p =>
      rw [hx] at hj; cases hj
      have := hnd p (List.mem_of_getElem? hx)
      exact ⟨p.2.1, by rw [List.getElem?_map, hx]; rfl, by rw [hq.live]; exact this.ln, by rw [hq.get]; exact this.it, by rw [hq.n]; exact AS.live_lt hI this.li⟩
  · simp only [go_sem]
    refine h M2 s2 z γ (hH2.le_frame hle) (hz.trans ?_) hz2 (hq.trans hq2)
    unfold intsN
    refine List.Perm.map _ ?_
    rw [← prs_its]
    rw [List.map_map]
    exact hP1.map _

/-- A heap is given up: all its items come out. -/
theorem hp_drop_ok (hA : Holds w0 F M (arenaA a α)) {r : Int} {t : LT} (hp : Hp α r t) (h : ∀ M' s (z : List Int) β, Holds w0 F M' (star (SlA s (z.map (Value.int .i64))) (arenaA a β)) → z.Perm (intsN ((its t).map (·.1))) → z.Pairwise (· ≤ ·) → (∃ k, AS.Eff (fun c => c ∈ cells t) (fun c => c ∈ nds t) (-((its t).length : Int)) k α β) → (∀ x ∈ its t, β.get x.1 9 = -1 ∧ β.live x.1 = true) → R s.v M') : C PP w0 Id.leftist_Drop #[.pointer (some ⟨a, 0, none⟩), .int .i64 r] R M := by
  apply leftist_Drop.go
  unfold leftist_Drop.T
  have hI := hA.inv
  have h65 := hI.n
  have hsz := hp.size hI
  simp only [go_sem, Option.isNone_some, bs_false]
  refine lf_nodes_ok hA hp fun M1 s N β hH hN hq => ?_
  simp only [go_sem]
  have hNl : ∀ x ∈ N, α.live x = true := fun x hx => hp.live x (mem_nds (hN.mem_iff.1 hx))
  have hNlen : N.length = (its t).length := by rw [hN.length_eq, nds_len]
  obtain ⟨F', hle, hB, hS⟩ := hH.freeze (fun c hc => by
    obtain ⟨z, hz, rfl⟩ := List.mem_map.1 hc
    have := AS.live_lt hI (hNl z hz)
    exact wf64 (by unfold In64; omega)) (by simp [intsN]; omega)
  obtain ⟨P, hP1, hP2⟩ := perm_lift (·.1) hN.symm (prs t) (prs_nds t)
  have hnd : ∀ p ∈ P, α.Nd p.1 p.2.1 p.2.2 := fun p hp' => prs_nd hp.rep p (hP1.mem_iff.1 hp')
  have hcel : (P.map (·.1) ++ P.map (fun p => p.2.1)).Nodup := ((hP1.map _).append (hP1.map _)).nodup_iff.2 ((prs_cells t).nodup_iff.2 hp.nd)
  rw [← hP2] at hS
  refine Drop_ok (P := P) hB hS (by have := congrArg List.length hP2; simp only [List.length_map] at this; omega) (fun p hp' => ?_) hcel fun M2 s2 z γ hH2 hz hz2 hq2 => ?_
  · obtain ⟨k, hk⟩ := hq
    exact hk.nd (hnd p hp')
  · simp only [go_sem]
    have hq3 : AS.Sq (α.endAll P) γ := (hq.endAll P).trans hq2
    have hPi : (P.map fun p => p.2.1).Perm ((its t).map (·.1)) := by
      rw [← prs_its, List.map_map]
      exact hP1.map _
    have hPl : P.length = (its t).length := by have := hPi.length_eq; simpa using this
    refine h M2 s2 z γ (hH2.le_frame hle) (hz.trans (by unfold intsN; exact hPi.map _)) hz2 ?_ fun x hx => ?_
    · rw [← hPl]
      refine eff_endAll hI (fun p hp' => (hnd p hp').ln) (List.nodup_append.1 hcel).1 (fun p hp' => ?_) (fun p hp' => ?_) hq3 ⟨hI.steps.1, hI.steps.2.2⟩
      · exact (prs_cells t).mem_iff.1 (List.mem_append_right _ (List.mem_map_of_mem (f := fun p : Nat × Held => p.2.1) (hP1.mem_iff.1 hp')))
      · rw [← prs_nds]; exact List.mem_map_of_mem (f := (·.1)) (hP1.mem_iff.1 hp')
    · have hm : x.1 ∈ P.map fun p => p.2.1 := hPi.mem_iff.2 (List.mem_map_of_mem (f := (·.1)) hx)
      refine ⟨?_, ?_⟩
      · rw [hq3.get, AS.endAll_get, if_pos ⟨rfl, hm⟩]
      · rw [hq3.live, AS.endAll_live, if_neg (fun h9 => (List.nodup_append.1 hcel).2.2 _ h9 _ hm rfl)]
        exact hp.live x.1 (mem_its hx)

end

/-- The heaps of this seat. -/
abbrev HT := LT
abbrev HT.nil : HT := LT.nil
abbrev HT.its (t : HT) : List Held := LT.its t
abbrev HT.nds (t : HT) : List Nat := LT.nds t
abbrev HT.cells (t : HT) : List Nat := LT.cells t
abbrev HT.root (t : HT) : Int := LT.root t
/-- What is saved up for later calls: nothing here. -/
def HT.pot (_ : HT) : Int := 0
theorem HT.pot_ge (t : HT) : 0 ≤ HT.pot t := Int.le_refl _
/-- What a call may cost. -/
def CostOk (x lim spent most : Int) : Prop := x ≤ lim
theorem cost_of {x lim spent most P : Int} {t t' : HT} (h1 : x + HT.pot t' ≤ lim + HT.pot t) (h2 : spent + HT.pot t + P ≤ most) (h3 : 0 ≤ P) : CostOk x lim spent most := by
  unfold CostOk
  unfold HT.pot at h1
  omega
theorem cost_ofM {x lim spent most : Int} {t u t' : HT} (h1 : x + HT.pot t' ≤ lim + HT.pot t + HT.pot u) (h2 : spent + HT.pot t + HT.pot u ≤ most) : CostOk x lim spent most := by
  unfold CostOk
  unfold HT.pot at h1
  omega
theorem HT.pot_nil : HT.pot HT.nil = 0 := rfl
theorem HT.nil_its : HT.nil.its = [] := rfl
theorem HT.nil_cells : HT.nil.cells = [] := rfl
theorem HT.nds_len (t : HT) : t.nds.length = t.its.length := LT.nds_len t
theorem HT.mem_nds {t : HT} {x : Nat} (h : x ∈ t.nds) : x ∈ t.cells := LT.mem_nds h
theorem HT.mem_its {t : HT} {x : Held} (h : x ∈ t.its) : x.1 ∈ t.cells := LT.mem_its h
theorem HT.its_nd {t : HT} (h : t.cells.Nodup) : ∀ x ∈ t.its, ∀ y ∈ t.its, x.1 = y.1 → x = y := Go.Proofs.Ytiejdmkobmphfaa.HL.its_nd h
theorem HT.its_nodup {t : HT} (h : t.cells.Nodup) : (t.its.map (·.1)).Nodup := by
  have h1 := (List.nodup_append.1 ((LT.prs_cells t).nodup_iff.2 h)).2.1
  have h2 : t.its.map (·.1) = (LT.prs t).map (fun p => p.2.1) := by
    show (LT.its t).map (·.1) = _
    rw [← LT.prs_its, List.map_map]; rfl
  rw [h2]; exact h1
theorem HT.nil_of {t : HT} (h : t.its = []) : t = HT.nil := by
  cases t with
  | nil => rfl
  | node n i e l r => simp [HT.its, LT.its] at h

end Go.Proofs.Ytiejdmkobmphfaa.HL

/-
  LfE: heaps that lean to the left: the calls, in the words that the laws on heaps ask for.
-/
set_option linter.unusedVariables false
set_option linter.unusedSimpArgs false
namespace Go.Proofs.Ytiejdmkobmphfaa.HL
open Go.RowKit (Below)
open Go.Proofs

section
variable {w0 : World} {M F : Mem} {R : Value → Mem → Prop} {a : Nat} {α : AS}

theorem heap_push_ok (hA : Holds w0 F M (arenaA a α)) {r : Int} {t : HT} (hp : Hp α r t) {i : Nat} {e : Ent} (hi : α.live i = true) (hic : i ∉ t.cells) (h7 : α.get i 7 = e.1) (h8 : α.get i 8 = e.2)
    (h0 : α.next = none → ∀ M' β, Holds w0 F M' (arenaA a β) → AS.Sm 1 α β → R (.tuple #[.int .i64 r, .bool false]) M')
    (h1 : ∀ n, α.next = some n → α.live n = false → ∀ M' β (t' : HT), Holds w0 F M' (arenaA a β) → Hp β t'.root t' → t'.its.Perm ((i, e) :: t.its) → t'.cells.Perm (n :: i :: t.cells) → AS.Eff (fun c => c ∈ n :: i :: t.cells) (· = n) 1 (limH (t.its.length + 1) + HT.pot t - HT.pot t') α β → R (.tuple #[.int .i64 t'.root, .bool true]) M') :
    C PP w0 Id.leftist_Push #[.pointer (some ⟨a, 0, none⟩), .int .i64 r, .int .i64 (i : Int)] R M :=
  hp_push_ok hA hp hi hic h7 h8 h0 fun n g1 g2 M' β t' g3 g4 g5 g6 g7 => h1 n g1 g2 M' β t' g3 g4 g5 g6 (g7.mono (fun _ h => h) (fun _ h => h) (by unfold HT.pot; show _ ≤ limH ((LT.its t).length + 1) + 0 - 0; omega))
theorem heap_pop_ok (hA : Holds w0 F M (arenaA a α)) {r : Int} {t : HT} (hp : Hp α r t)
    (h0 : t = HT.nil → R (.tuple #[.int .i64 (-1), .int .i64 (-1)]) M)
    (h : ∀ x L, t.its.Perm (x :: L) → (∀ y ∈ L, Bf x y) → ∀ M' β (t' : HT) n, n ∈ t.nds → Holds w0 F M' (arenaA a β) → Hp β t'.root t' → t'.its.Perm L → (∀ c ∈ t'.cells, c ∈ t.cells) → x.1 ∉ t'.cells → AS.Eff (fun c => c ∈ t.cells) (· = n) (-1) (limH (t.its.length) + HT.pot t - HT.pot t') α β → β.get x.1 9 = -1 ∧ β.get x.1 7 = x.2.1 ∧ β.get x.1 8 = x.2.2 ∧ β.live x.1 = true → R (.tuple #[.int .i64 t'.root, .int .i64 (x.1 : Int)]) M') :
    C PP w0 Id.leftist_Pop #[.pointer (some ⟨a, 0, none⟩), .int .i64 r] R M :=
  hp_pop_ok hA hp h0 fun x L g1 g2 M' β t' n g3 g4 g5 g6 g7 g8 g9 g10 => h x L g1 g2 M' β t' n g3 g4 g5 g6 g7 g8 (g9.mono (fun _ h => h) (fun _ h => h) (by unfold HT.pot; show _ ≤ limH ((LT.its t).length) + 0 - 0; omega)) g10
theorem heap_fall_ok (hA : Holds w0 F M (arenaA a α)) {r : Int} {t : HT} {i : Nat} {e e' : Ent} (hF : HpF α r t i e e')
    (h : ∀ M' β (t' : HT), Holds w0 F M' (arenaA a β) → Hp β t'.root t' → (∀ L, t.its.Perm ((i, e) :: L) → t'.its.Perm ((i, e') :: L)) → t'.cells.Perm t.cells → AS.Eff (fun c => c ∈ t.cells) (fun _ => False) 0 (limH (t.its.length) + HT.pot t - HT.pot t') α β → R (.int .i64 t'.root) M') :
    C PP w0 Id.leftist_Fall #[.pointer (some ⟨a, 0, none⟩), .int .i64 r, .int .i64 (i : Int)] R M :=
  hp_fall_ok hA hF fun M' β t' g1 g2 g3 g4 g5 => h M' β t' g1 g2 g3 g4 (g5.mono (fun _ h => h) (fun _ h => h) (by unfold HT.pot; show _ ≤ limH ((LT.its t).length) + 0 - 0; omega))
theorem heap_cut_ok (hA : Holds w0 F M (arenaA a α)) {r : Int} {t : HT} (hp : Hp α r t) {i : Nat} {e : Ent} (hm : (i, e) ∈ t.its)
    (h : ∀ L, t.its.Perm ((i, e) :: L) → ∀ M' β (t' : HT) n, n ∈ t.nds → Holds w0 F M' (arenaA a β) → Hp β t'.root t' → t'.its.Perm L → (∀ c ∈ t'.cells, c ∈ t.cells) → i ∉ t'.cells → AS.Eff (fun c => c ∈ t.cells) (· = n) (-1) (limH (t.its.length) + HT.pot t - HT.pot t') α β → β.get i 9 = -1 ∧ β.live i = true → R (.int .i64 t'.root) M') :
    C PP w0 Id.leftist_Cut #[.pointer (some ⟨a, 0, none⟩), .int .i64 r, .int .i64 (i : Int)] R M :=
  hp_cut_ok hA hp hm fun L g1 M' β t' n g2 g3 g4 g5 g6 g7 _ g8 g9 => h L g1 M' β t' n g2 g3 g4 g5 g6 g7 (g8.mono (fun _ h => h) (fun _ h => h) (by unfold HT.pot; show _ ≤ limH ((LT.its t).length) + 0 - 0; omega)) g9
theorem heap_meld_ok (hA : Holds w0 F M (arenaA a α)) {r s : Int} {t u : HT} (hp : Hp α r t) (hq : Hp α s u) (hd : (t.cells ++ u.cells).Nodup)
    (h : ∀ M' β (t' : HT), Holds w0 F M' (arenaA a β) → Hp β t'.root t' → t'.its.Perm (t.its ++ u.its) → t'.cells.Perm (t.cells ++ u.cells) → AS.Eff (fun c => c ∈ t.cells ∨ c ∈ u.cells) (fun _ => False) 0 (limH (t.its.length + u.its.length) + HT.pot t + HT.pot u - HT.pot t') α β → R (.int .i64 t'.root) M') :
    C PP w0 Id.leftist_Meld #[.pointer (some ⟨a, 0, none⟩), .int .i64 r, .int .i64 s] R M :=
  hp_meld_ok hA hp hq hd fun M' β t' g1 g2 g3 g4 g5 => h M' β t' g1 g2 g3 g4 (g5.mono (fun _ h => h) (fun _ h => h) (by unfold HT.pot; show _ ≤ limH ((LT.its t).length + (LT.its u).length) + 0 + 0 - 0; omega))
theorem heap_min_ok (hA : Holds w0 F M (arenaA a α)) {r : Int} {t : HT} (hp : Hp α r t)
    (h0 : t = HT.nil → ∀ M' β, Holds w0 F M' (arenaA a β) → AS.Sm 1 α β → R (.int .i64 (-1)) M')
    (h : ∀ x L, t.its.Perm (x :: L) → (∀ y ∈ L, Bf x y) → ∀ M' β, Holds w0 F M' (arenaA a β) → AS.Sm 1 α β → R (.int .i64 (x.1 : Int)) M') :
    C PP w0 Id.leftist_Min #[.pointer (some ⟨a, 0, none⟩), .int .i64 r] R M := hp_min_ok hA hp h0 h
theorem heap_all_ok (hA : Holds w0 F M (arenaA a α)) {r : Int} {t : HT} (hp : Hp α r t) (h : ∀ M' s (z : List Int) β, Holds w0 F M' (star (SlA s (z.map (Value.int .i64))) (arenaA a β)) → z.Perm (intsN (t.its.map (·.1))) → z.Pairwise (· ≤ ·) → AS.Sq α β → R s.v M') : C PP w0 Id.leftist_All #[.pointer (some ⟨a, 0, none⟩), .int .i64 r] R M := hp_all_ok hA hp h
theorem heap_drop_ok (hA : Holds w0 F M (arenaA a α)) {r : Int} {t : HT} (hp : Hp α r t) (h : ∀ M' s (z : List Int) β, Holds w0 F M' (star (SlA s (z.map (Value.int .i64))) (arenaA a β)) → z.Perm (intsN (t.its.map (·.1))) → z.Pairwise (· ≤ ·) → (∃ k, AS.Eff (fun c => c ∈ t.cells) (fun c => c ∈ t.nds) (-(t.its.length : Int)) k α β) → (∀ x ∈ t.its, β.get x.1 9 = -1 ∧ β.live x.1 = true) → R s.v M') : C PP w0 Id.leftist_Drop #[.pointer (some ⟨a, 0, none⟩), .int .i64 r] R M := hp_drop_ok hA hp h
theorem Hp.lowerH {r : Int} {t : HT} {i : Nat} {e e' : Ent} (h : Hp α r t) (hm : (i, e) ∈ t.its) (hle : e'.1 ≤ e.1) (hs : e'.2 = e.2) : HpF (α.put i 7 e'.1) r t i e e' := h.lower hm hle hs
theorem HpF.eff {β : AS} {S L : Nat → Prop} {d k : Int} {r : Int} {t : HT} {i : Nat} {e e' : Ent} (h : HpF α r t i e e') (he : AS.Eff S L d k α β) (hS : ∀ c ∈ t.cells, ¬ S c) (hL : ∀ c ∈ t.cells, ¬ L c) : HpF β r t i e e' := by
  obtain ⟨cs, n, l, s, h1, h2, h3, h4⟩ := h
  have hp := cells_plug cs n i e e' l s
  refine ⟨cs, n, l, s, h1, h2, h3.congr (fun c hc f => he.get c (hS c ?_) f) (fun c hc => he.live c (hL c ?_)), h4⟩
  · rw [h1]; exact hp.mem_iff.2 hc
  · rw [h1]; exact hp.mem_iff.2 hc
theorem HT.key_of {r : Int} {t : HT} (h : Hp α r t) {x : Held} (hx : x ∈ t.its) : α.get x.1 7 = x.2.1 := by
  obtain ⟨cs, n, l, s, e⟩ := LT.find (t := t) (i := x.1) (e := x.2) hx
  have := h.rep
  rw [e] at this
  exact (LT.rep_plug.1 this).2.1.k
theorem HT.ser_of {r : Int} {t : HT} (h : Hp α r t) {x : Held} (hx : x ∈ t.its) : α.get x.1 8 = x.2.2 := by
  obtain ⟨cs, n, l, s, e⟩ := LT.find (t := t) (i := x.1) (e := x.2) hx
  have := h.rep
  rw [e] at this
  exact (LT.rep_plug.1 this).2.1.s
theorem Hp.nilH (β : AS) : Hp β (-1) HT.nil := Hp.nil
theorem Hp.root_nil {r : Int} {t : HT} (h : Hp α r t) : r = -1 ↔ t.its = [] := by
  rw [h.r]
  cases t with
  | nil => simp [LT.root, HT.its, LT.its]
  | node n i e l s => simp only [LT.root, HT.its, LT.its]; constructor <;> intro h9 <;> first | omega | cases h9
end
end Go.Proofs.Ytiejdmkobmphfaa.HL

