import Derived.Test.YtbkicgfgpmekeaaGreatXb
/-
  FbM: Fibonacci heaps, in plain Lean, with no program in sight: l is what is below a node, r what is beside it.
-/
set_option linter.unusedVariables false
set_option linter.unusedSimpArgs false
namespace Go.Proofs.YtbkicgfgpmekeaaGreat.HL

inductive LT where
  | nil
  | node (n i : Nat) (e : Ent) (m : Bool) (l r : LT)

namespace LT
def root : LT → Int
  | nil => -1
  | node n _ _ _ _ _ => (n : Int)
def its : LT → List Held
  | nil => []
  | node _ i e _ l r => (i, e) :: (its l ++ its r)
def nds : LT → List Nat
  | nil => []
  | node n _ _ _ l r => n :: (nds l ++ nds r)
def cells : LT → List Nat
  | nil => []
  | node n i _ _ l r => n :: i :: (cells l ++ cells r)
/-- In order: what is below a node comes behind it. -/
def Od : LT → Prop
  | nil => True
  | node _ i e _ l r => (∀ x ∈ its l, Bf (i, e) x) ∧ Od l ∧ Od r
def sz : LT → Nat
  | nil => 0
  | node _ _ _ _ l r => sz l + sz r + 1
/-- A tree, with nothing beside it. -/
def Sg : LT → Prop
  | nil => False
  | node _ _ _ _ _ r => r = nil
def row : LT → List LT
  | nil => []
  | node n i e m l r => node n i e m l nil :: row r
def rts : LT → List Nat
  | nil => []
  | node n _ _ _ _ r => n :: rts r
/-- How many there are beside each other. -/
def rk (t : LT) : Nat := (rts t).length
def kids : LT → LT
  | nil => nil
  | node _ _ _ _ l _ => l
def glue : List LT → LT
  | [] => nil
  | nil :: ts => glue ts
  | node n i e m l _ :: ts => node n i e m l (glue ts)
/-- Nodes that have lost one, below. -/
def mks : LT → Nat
  | nil => 0
  | node _ _ _ m l r => (if m then 1 else 0) + mks l + mks r
/-- Of the trees' own nodes none counts. -/
def mkt : LT → Nat
  | nil => 0
  | node _ _ _ _ l r => mks l + mkt r

theorem sz_its : ∀ (t : LT), sz t = (its t).length
  | nil => rfl
  | node n i e m l r => by simp only [sz, its, List.length_cons, List.length_append, sz_its l, sz_its r]
theorem nds_len : ∀ (t : LT), (nds t).length = (its t).length
  | nil => rfl
  | node n i e m l r => by simp only [nds, its, List.length_cons, List.length_append, nds_len l, nds_len r]
theorem cells_len : ∀ (t : LT), (cells t).length = 2 * (its t).length
  | nil => rfl
  | node n i e m l r => by simp only [cells, its, List.length_cons, List.length_append, cells_len l, cells_len r]; omega
theorem mem_nds : ∀ {t : LT} {x : Nat}, x ∈ nds t → x ∈ cells t
  | nil, x, h => by cases h
  | node n i e m l r, x, h => by
    simp only [nds, cells, List.mem_cons, List.mem_append] at h ⊢
    rcases h with h | h | h
    · exact .inl h
    · exact .inr (.inr (.inl (mem_nds h)))
    · exact .inr (.inr (.inr (mem_nds h)))
theorem mem_its : ∀ {t : LT} {x : Held}, x ∈ its t → x.1 ∈ cells t
  | nil, x, h => by cases h
  | node n i e m l r, x, h => by
    simp only [its, cells, List.mem_cons, List.mem_append] at h ⊢
    rcases h with h | h | h
    · exact .inr (.inl (by rw [h]))
    · exact .inr (.inr (.inl (mem_its h)))
    · exact .inr (.inr (.inr (mem_its h)))
theorem mem_rts : ∀ {t : LT} {x : Nat}, x ∈ rts t → x ∈ nds t
  | nil, x, h => by cases h
  | node n i e m l r, x, h => by
    rcases List.mem_cons.1 h with rfl | h
    · simp [nds]
    · simp [nds, mem_rts h]

/-! Rows. -/
def itsL (ts : List LT) : List Held := ts.flatMap its
def ndsL (ts : List LT) : List Nat := ts.flatMap nds
def cellsL (ts : List LT) : List Nat := ts.flatMap cells
def rtsL (ts : List LT) : List Nat := ts.flatMap rts
theorem row_sg : ∀ (t : LT), ∀ s ∈ row t, Sg s
  | nil, s, h => by cases h
  | node n i e m l r, s, h => by
    rcases List.mem_cons.1 h with rfl | h
    · rfl
    · exact row_sg r s h
theorem glue_row : ∀ (t : LT), glue (row t) = t
  | nil => rfl
  | node n i e m l r => by simp only [row, glue, glue_row r]
theorem row_glue : ∀ (ts : List LT), (∀ t ∈ ts, Sg t) → row (glue ts) = ts
  | [], _ => rfl
  | nil :: ts, h => (h nil List.mem_cons_self).elim
  | node n i e m l r :: ts, h => by
    have h0 : r = nil := h _ List.mem_cons_self
    subst h0
    simp only [glue, row, row_glue ts (fun t ht => h t (List.mem_cons_of_mem _ ht))]
theorem row_its : ∀ (t : LT), itsL (row t) = its t
  | nil => rfl
  | node n i e m l r => by
    have := row_its r
    simp only [itsL] at this
    simp [itsL, row, its, this]
theorem row_nds : ∀ (t : LT), ndsL (row t) = nds t
  | nil => rfl
  | node n i e m l r => by
    have := row_nds r
    simp only [ndsL] at this
    simp [ndsL, row, nds, this]
theorem row_cells : ∀ (t : LT), cellsL (row t) = cells t
  | nil => rfl
  | node n i e m l r => by
    have := row_cells r
    simp only [cellsL] at this
    simp [cellsL, row, cells, this]
theorem row_rts : ∀ (t : LT), rtsL (row t) = rts t
  | nil => rfl
  | node n i e m l r => by
    have := row_rts r
    simp only [rtsL] at this
    simp [rtsL, row, rts, this]
theorem row_len : ∀ (t : LT), (row t).length = rk t
  | nil => rfl
  | node n i e m l r => by
    have := row_len r
    simp only [rk] at this ⊢
    simp only [row, rts, List.length_cons, this]
theorem rk_le : ∀ (t : LT), rk t ≤ sz t
  | nil => Nat.le_refl _
  | node n i e m l r => by
    have := rk_le r
    simp only [rk, rts, List.length_cons, sz] at this ⊢
    omega
theorem row_od : ∀ {t : LT}, Od t → ∀ s ∈ row t, Od s
  | nil, _, s, hs => by cases hs
  | node n i e m l r, h, s, hs => by
    rcases List.mem_cons.1 hs with rfl | hs
    · exact ⟨h.1, h.2.1, trivial⟩
    · exact row_od h.2.2 s hs
theorem od_row : ∀ {t : LT}, (∀ s ∈ row t, Od s) → Od t
  | nil, _ => trivial
  | node n i e m l r, h => by
    have h1 := h _ List.mem_cons_self
    exact ⟨h1.1, h1.2.1, od_row fun s hs => h s (List.mem_cons_of_mem _ hs)⟩

/-! How many nodes a tree has: numbers of Fibonacci. -/
def fb : Nat → Nat
  | 0 => 1
  | 1 => 2
  | k + 2 => fb k + fb (k + 1)
def fg : Nat → Nat
  | 0 => 1
  | k + 1 => fb k
theorem fb_succ : ∀ (k : Nat), fb (k + 1) = fb k + fg k
  | 0 => rfl
  | k + 1 => by
    show fb k + fb (k + 1) = fb (k + 1) + fb k
    omega
theorem fb_pos : ∀ (k : Nat), 1 ≤ fb k
  | 0 => Nat.le_refl _
  | k + 1 => by rw [fb_succ]; have := fb_pos k; omega
theorem fb_mono {j k : Nat} (h : j ≤ k) : fb j ≤ fb k := by
  induction h with
  | refl => exact Nat.le_refl _
  | step _ ih => rw [Nat.succ_eq_add_one, fb_succ]; omega
theorem fg_mono {j k : Nat} (h : j ≤ k) : fg j ≤ fg k := by
  cases j with
  | zero =>
    cases k with
    | zero => exact Nat.le_refl _
    | succ k => exact fb_pos k
  | succ j =>
    cases k with
    | zero => omega
    | succ k => exact fb_mono (by omega)
theorem fb_two : ∀ (k : Nat), 2 ^ (k / 2) ≤ fb k
  | 0 => by decide
  | 1 => by decide
  | k + 2 => by
    have h1 := fb_two k
    have h2 : fb k ≤ fb (k + 1) := fb_mono (by omega)
    have e : (k + 2) / 2 = k / 2 + 1 := by omega
    rw [e, Nat.pow_succ]
    show _ ≤ fb k + fb (k + 1)
    omega
theorem fb_bl {k n : Nat} (h : fb k ≤ n) : k ≤ 2 * bl n := by
  have h1 := bl_pow (Nat.le_trans (fb_two k) h)
  omega
/-- A sum of these numbers, from one on. -/
def fs : Nat → Nat → Nat
  | _, 0 => 0
  | o, k + 1 => fg o + fs (o + 1) k
theorem fs_snoc : ∀ (k o : Nat), fs o (k + 1) = fs o k + fg (o + k)
  | 0, o => by simp [fs]
  | k + 1, o => by
    show fg o + fs (o + 1) (k + 1) = fg o + fs (o + 1) k + fg (o + (k + 1))
    rw [fs_snoc k (o + 1), show o + 1 + k = o + (k + 1) from by omega]; omega
theorem fs_fb : ∀ (k : Nat), fs 0 k + 1 = fb k
  | 0 => rfl
  | k + 1 => by
    rw [fs_snoc, fb_succ, ← fs_fb k, Nat.zero_add]; omega
theorem fs_le : ∀ (L : List Nat) (o : Nat), (∀ (i x : Nat), L[i]? = some x → o + i ≤ x) → fs o L.length ≤ (L.map fg).sum
  | [], _, _ => Nat.le_refl _
  | y :: L, o, h => by
    have h1 := fg_mono (h 0 y rfl)
    have h2 := fs_le L (o + 1) fun i x hx => by have := h (i + 1) x (by simpa using hx); omega
    simp only [List.length_cons, fs, List.map_cons, List.sum_cons]
    rw [Nat.add_zero] at h1
    omega

/-- What a tree counts as, for the one above it. -/
def key : LT → Nat
  | nil => 0
  | node _ _ _ m l _ => rk l + if m then 1 else 0
/-- In some order the i-th counts as i at least. -/
def Kf (ks : List Nat) : Prop := ∃ L : List Nat, L.Perm ks ∧ ∀ (i x : Nat), L[i]? = some x → i ≤ x
def KO : LT → Prop
  | nil => True
  | node _ _ _ _ l r => Kf ((row l).map key) ∧ KO l ∧ KO r
theorem Kf.perm {ks ks' : List Nat} (h : Kf ks) (hp : ks.Perm ks') : Kf ks' := by
  obtain ⟨L, h1, h2⟩ := h
  exact ⟨L, h1.trans hp, h2⟩
theorem Kf.nil : Kf [] := ⟨[], List.Perm.refl _, fun i x h => by simp at h⟩
theorem Kf.add {ks : List Nat} (h : Kf ks) {k : Nat} (hk : ks.length ≤ k) : Kf (k :: ks) := by
  obtain ⟨L, h1, h2⟩ := h
  refine ⟨L ++ [k], (List.perm_append_singleton _ _).trans (List.Perm.cons _ h1), fun i x hx => ?_⟩
  rw [List.getElem?_append] at hx
  split at hx
  · exact h2 i x hx
  · rename_i hi
    have hlt : i - L.length = 0 := by
      apply Decidable.byContradiction
      intro hn
      rw [List.getElem?_eq_none (by simp; omega)] at hx; cases hx
    rw [hlt] at hx
    simp at hx
    have := h1.length_eq
    omega
theorem Kf.del {k : Nat} {ks : List Nat} (h : Kf (k :: ks)) : Kf ks := by
  obtain ⟨L, h1, h2⟩ := h
  have hm : k ∈ L := h1.mem_iff.2 List.mem_cons_self
  refine ⟨L.erase k, (List.perm_cons_erase hm).symm.trans h1 |> List.Perm.cons_inv, fun i x hx => ?_⟩
  obtain ⟨L1, L2, hn, rfl, he⟩ := List.exists_erase_eq hm
  rw [he, List.getElem?_append] at hx
  split at hx
  · rename_i hi
    exact h2 i x (by rw [List.getElem?_append_left hi]; exact hx)
  · rename_i hi
    have := h2 (i + 1) x (by rw [List.getElem?_append_right (by omega), show i + 1 - L1.length = i - L1.length + 1 from by omega, List.getElem?_cons_succ]; exact hx)
    omega
theorem sum_perm {l m : List Nat} (h : l.Perm m) : l.sum = m.sum := by
  induction h with
  | nil => rfl
  | cons x _ ih => simp only [List.sum_cons, ih]
  | swap x y l => simp only [List.sum_cons]; omega
  | trans _ _ ih1 ih2 => exact ih1.trans ih2
/-- A tree has as many nodes as its rank asks for. -/
theorem ko_sz : ∀ {l : LT}, KO l → Kf ((row l).map key) → fb (rk l) ≤ sz l + 1 ∧ (((row l).map key).map fg).sum ≤ sz l
  | l, hko, hkf => by
    have each : ∀ (t : LT), KO t → (((row t).map key).map fg).sum ≤ sz t := by
      intro t
      induction t with
      | nil => intro _; exact Nat.le_refl _
      | node n i e m a b iha ihb =>
        intro h
        have h1 := iha h.2.1
        have h2 := ihb h.2.2
        obtain ⟨L, p1, p2⟩ := h.1
        have h3 := fs_le L 0 fun i x hx => by have := p2 i x hx; omega
        have h4 := sum_perm (p1.map fg)
        have h5 := fs_fb L.length
        have h6 : L.length = rk a := by rw [p1.length_eq, List.length_map, row_len]
        have h7 : fb (rk a) ≤ sz a + 1 := by rw [← h6]; omega
        have h8 : fg (key (node n i e m a nil)) ≤ fb (rk a) := by
          simp only [key]
          cases m with
          | true => exact Nat.le_refl _
          | false =>
            show fg (rk a) ≤ fb (rk a)
            cases rk a with
            | zero => exact Nat.le_refl _
            | succ k => exact fb_mono (by omega)
        simp only [row, List.map_cons, List.sum_cons, sz]
        omega
    have h1 := each l hko
    obtain ⟨L, p1, p2⟩ := hkf
    have h3 := fs_le L 0 fun i x hx => by have := p2 i x hx; omega
    have h4 := sum_perm (p1.map fg)
    have h5 := fs_fb L.length
    have h6 : L.length = rk l := by rw [p1.length_eq, List.length_map, row_len]
    exact ⟨by rw [← h6]; omega, h1⟩
end LT
end Go.Proofs.YtbkicgfgpmekeaaGreat.HL

/-
  FbN: Fibonacci heaps: trees of like ranks become one, in plain Lean.
-/
set_option linter.unusedVariables false
set_option linter.unusedSimpArgs false
namespace Go.Proofs.YtbkicgfgpmekeaaGreat.HL
namespace LT

def top : LT → Held
  | nil => (0, 0, 0)
  | node _ i e _ _ _ => (i, e)
/-- How many there are below a tree's node. -/
def rank (t : LT) : Nat := rk (kids t)
/-- Behind the first one. -/
def insL {β : Type} : List β → β → List β
  | [], s => [s]
  | d :: r, s => d :: s :: r
theorem insL_perm {β : Type} (l : List β) (s : β) : (insL l s).Perm (s :: l) := by
  cases l with
  | nil => exact List.Perm.refl _
  | cons d r => exact List.Perm.swap _ _ _
def unm : LT → LT
  | nil => nil
  | node n i e _ l r => node n i e false l r
/-- One tree takes another one below it. -/
def under : LT → LT → LT
  | nil, _ => nil
  | node n i e m l _, s => node n i e m (glue (insL (row l) (unm s))) nil
def lkF (t s : LT) : LT := if Bf (top s) (top t) then under s t else under t s

theorem itsL_perm {ts us : List LT} (h : ts.Perm us) : (itsL ts).Perm (itsL us) := h.flatMap_right _
theorem cellsL_perm {ts us : List LT} (h : ts.Perm us) : (cellsL ts).Perm (cellsL us) := h.flatMap_right _
theorem ndsL_perm {ts us : List LT} (h : ts.Perm us) : (ndsL ts).Perm (ndsL us) := h.flatMap_right _
theorem glue_its {ts : List LT} (h : ∀ t ∈ ts, Sg t) : its (glue ts) = itsL ts := by rw [← row_its, row_glue ts h]
theorem glue_nds {ts : List LT} (h : ∀ t ∈ ts, Sg t) : nds (glue ts) = ndsL ts := by rw [← row_nds, row_glue ts h]
theorem glue_cells {ts : List LT} (h : ∀ t ∈ ts, Sg t) : cells (glue ts) = cellsL ts := by rw [← row_cells, row_glue ts h]
theorem unm_its (t : LT) : its (unm t) = its t := by cases t <;> rfl
theorem unm_nds (t : LT) : nds (unm t) = nds t := by cases t <;> rfl
theorem unm_cells (t : LT) : cells (unm t) = cells t := by cases t <;> rfl
theorem unm_sg {t : LT} (h : Sg t) : Sg (unm t) := by cases t <;> exact h
theorem unm_od {t : LT} (h : Od t) : Od (unm t) := by cases t <;> exact h
theorem unm_ko {t : LT} (h : KO t) : KO (unm t) := by cases t <;> exact h
theorem ins_sg {l s : LT} (h : Sg s) : ∀ t ∈ insL (row l) (unm s), Sg t := fun t ht => by
  rcases List.mem_cons.1 ((insL_perm _ _).mem_iff.1 ht) with rfl | ht
  · exact unm_sg h
  · exact row_sg l t ht
theorem under_sg {t s : LT} (ht : Sg t) : Sg (under t s) := by
  cases t with
  | nil => exact ht
  | node n i e m l r => rfl
theorem under_its {t s : LT} (ht : Sg t) (hs : Sg s) : (its (under t s)).Perm (its t ++ its s) ∧ (nds (under t s)).Perm (nds t ++ nds s) ∧ (cells (under t s)).Perm (cells t ++ cells s) := by
  cases t with
  | nil => exact ht.elim
  | node n i e m l r =>
    have hr : r = nil := ht
    subst hr
    have hg := ins_sg (l := l) hs
    have hp := insL_perm (row l) (unm s)
    simp only [under, its, nds, cells, glue_its hg, glue_nds hg, glue_cells hg, List.append_nil, List.cons_append]
    have a1 := itsL_perm hp
    have a2 := ndsL_perm hp
    have a3 := cellsL_perm hp
    have b1 : itsL (unm s :: row l) = its s ++ its l := by simp only [itsL, List.flatMap_cons, unm_its]; rw [← row_its l]; rfl
    have b2 : ndsL (unm s :: row l) = nds s ++ nds l := by simp only [ndsL, List.flatMap_cons, unm_nds]; rw [← row_nds l]; rfl
    have b3 : cellsL (unm s :: row l) = cells s ++ cells l := by simp only [cellsL, List.flatMap_cons, unm_cells]; rw [← row_cells l]; rfl
    rw [b1] at a1; rw [b2] at a2; rw [b3] at a3
    exact ⟨List.Perm.cons _ (a1.trans List.perm_append_comm), List.Perm.cons _ (a2.trans List.perm_append_comm), List.Perm.cons _ (List.Perm.cons _ (a3.trans List.perm_append_comm))⟩
theorem under_rank {t s : LT} (ht : Sg t) (hs : Sg s) : rank (under t s) = rank t + 1 := by
  cases t with
  | nil => exact ht.elim
  | node n i e m l r =>
    simp only [rank, under, kids]
    rw [← row_len, row_glue _ (ins_sg hs), (insL_perm _ _).length_eq, List.length_cons, row_len]
theorem top_mem {t : LT} (h : Sg t) : top t ∈ its t := by
  cases t with
  | nil => exact h.elim
  | node n i e m l r => simp [top, its]
theorem top_least {t : LT} (h : Sg t) (ho : Od t) : ∀ x ∈ its t, x = top t ∨ Bf (top t) x := by
  cases t with
  | nil => exact h.elim
  | node n i e m l r =>
    have hr : r = nil := h
    subst hr
    intro x hx
    simp only [its, List.append_nil, List.mem_cons] at hx
    rcases hx with hx | hx
    · exact .inl hx
    · exact .inr (ho.1 x hx)
theorem under_od {t s : LT} (ht : Sg t) (hs : Sg s) (ho : Od t) (ho2 : Od s) (hb : Bf (top t) (top s)) : Od (under t s) := by
  cases t with
  | nil => exact ht.elim
  | node n i e m l r =>
    have hg := ins_sg (l := l) hs
    refine ⟨fun x hx => ?_, od_row fun x hx => ?_, trivial⟩
    · rw [glue_its hg] at hx
      have := (itsL_perm (insL_perm (row l) (unm s))).mem_iff.1 hx
      simp only [itsL, List.flatMap_cons, unm_its, List.mem_append] at this
      rcases this with hx | hx
      · rcases top_least hs ho2 x hx with rfl | h
        · exact hb
        · exact hb.tr h
      · rw [show (row l).flatMap its = its l from row_its l] at hx
        exact ho.1 x hx
    · rw [row_glue _ hg] at hx
      rcases List.mem_cons.1 ((insL_perm _ _).mem_iff.1 hx) with rfl | hx
      · exact unm_od ho2
      · exact row_od ho.2.1 x hx
theorem row_ko : ∀ {t : LT}, KO t → ∀ s ∈ row t, KO s
  | nil, _, s, hs => by cases hs
  | node n i e m l r, h, s, hs => by
    rcases List.mem_cons.1 hs with rfl | hs
    · exact ⟨h.1, h.2.1, trivial⟩
    · exact row_ko h.2.2 s hs
theorem ko_row : ∀ {t : LT}, (∀ s ∈ row t, KO s) → KO t
  | nil, _ => trivial
  | node n i e m l r, h => by
    have h1 := h _ List.mem_cons_self
    exact ⟨h1.1, h1.2.1, ko_row fun s hs => h s (List.mem_cons_of_mem _ hs)⟩
theorem unm_key {t : LT} (h : Sg t) : key (unm t) = rank t := by
  cases t with
  | nil => exact h.elim
  | node n i e m l r => rfl
theorem under_ko {t s : LT} (ht : Sg t) (hs : Sg s) (h1 : KO t) (h2 : KO s) (hr : rank t = rank s) : KO (under t s) := by
  cases t with
  | nil => exact ht.elim
  | node n i e m l r =>
    have hg := ins_sg (l := l) hs
    refine ⟨?_, ko_row fun x hx => ?_, trivial⟩
    · rw [row_glue _ hg]
      refine Kf.perm (Kf.add (k := rank s) h1.1 ?_) ?_
      · rw [List.length_map, row_len, ← hr]; exact Nat.le_refl _
      · have := ((insL_perm (row l) (unm s)).map key).symm
        rw [List.map_cons, unm_key hs] at this
        exact this
    · rw [row_glue _ hg] at hx
      rcases List.mem_cons.1 ((insL_perm _ _).mem_iff.1 hx) with rfl | hx
      · exact unm_ko h2
      · exact row_ko h1.2.1 x hx
def mksL (ts : List LT) : Nat := (ts.map mks).sum
theorem row_mks : ∀ (t : LT), mksL (row t) = mks t
  | nil => rfl
  | node n i e m l r => by
    have := row_mks r
    simp only [mksL] at this
    simp only [row, mksL, List.map_cons, List.sum_cons, mks, this]; omega
theorem under_mkt {t s : LT} (ht : Sg t) (hs : Sg s) : mkt (under t s) = mkt t + mkt s := by
  cases t with
  | nil => exact ht.elim
  | node n i e m l r =>
    cases s with
    | nil => exact hs.elim
    | node j k f m2 b r2 =>
      have hr : r = nil := ht
      have hr2 : r2 = nil := hs
      subst hr; subst hr2
      have hg := ins_sg (l := l) (s := node j k f m2 b nil) rfl
      have h1 : mks (glue (insL (row l) (unm (node j k f m2 b nil)))) = mksL (unm (node j k f m2 b nil) :: row l) := by
        rw [← row_mks, row_glue _ hg]
        exact sum_perm ((insL_perm _ _).map mks)
      have h3 : mks (glue (insL (row l) (unm (node j k f m2 b nil)))) = mks b + mks l := by
        rw [h1]
        show mks (unm (node j k f m2 b nil)) + ((row l).map mks).sum = _
        rw [show ((row l).map mks).sum = mks l from row_mks l]
        show (if false = true then 1 else 0) + mks b + 0 + mks l = _
        simp
      show mks (glue (insL (row l) (unm (node j k f m2 b nil)))) + 0 = (mks l + 0) + (mks b + 0)
      omega

theorem lkF_sg {t s : LT} (ht : Sg t) (hs : Sg s) : Sg (lkF t s) := by unfold lkF; split; exact under_sg hs; exact under_sg ht
theorem lkF_its {t s : LT} (ht : Sg t) (hs : Sg s) : (its (lkF t s)).Perm (its t ++ its s) ∧ (nds (lkF t s)).Perm (nds t ++ nds s) ∧ (cells (lkF t s)).Perm (cells t ++ cells s) := by
  unfold lkF
  split
  · have := under_its hs ht
    exact ⟨this.1.trans List.perm_append_comm, this.2.1.trans List.perm_append_comm, this.2.2.trans List.perm_append_comm⟩
  · exact under_its ht hs
theorem lkF_rank {t s : LT} (ht : Sg t) (hs : Sg s) (hr : rank t = rank s) : rank (lkF t s) = rank s + 1 := by
  unfold lkF
  split
  · exact under_rank hs ht
  · rw [under_rank ht hs, hr]
theorem lkF_od {t s : LT} (ht : Sg t) (hs : Sg s) (h1 : Od t) (h2 : Od s) (hne : (top t).1 ≠ (top s).1) : Od (lkF t s) := by
  unfold lkF
  split
  · rename_i hb; exact under_od hs ht h2 h1 hb
  · rename_i hb; exact under_od ht hs h1 h2 (Bf.tot hb (fun e => hne e.symm))
theorem lkF_ko {t s : LT} (ht : Sg t) (hs : Sg s) (h1 : KO t) (h2 : KO s) (hr : rank t = rank s) : KO (lkF t s) := by
  unfold lkF
  split
  · exact under_ko hs ht h2 h1 hr.symm
  · exact under_ko ht hs h1 h2 hr
theorem lkF_mkt {t s : LT} (ht : Sg t) (hs : Sg s) : mkt (lkF t s) = mkt t + mkt s := by
  unfold lkF
  split
  · rw [under_mkt hs ht]; omega
  · exact under_mkt ht hs
end LT
end Go.Proofs.YtbkicgfgpmekeaaGreat.HL

/-
  FbO: Fibonacci heaps: trees of unlike ranks, in plain Lean.
-/
set_option linter.unusedVariables false
set_option linter.unusedSimpArgs false
namespace Go.Proofs.YtbkicgfgpmekeaaGreat.HL
namespace LT

def like (x y : LT) : Bool := decide (rank y = rank x)
/-- A tree comes to trees of unlike ranks. -/
def addU : Nat → List LT → LT → List LT
  | 0, ts, x => ts ++ [x]
  | k + 1, ts, x => match ts.findIdx? (like x) with
    | none => ts ++ [x]
    | some i => match ts[i]? with
      | none => ts ++ [x]
      | some y => addU k (ts.eraseIdx i) (lkF y x)
def unl : List LT → List LT → List LT
  | ts, [] => ts
  | ts, x :: xs => unl (addU ts.length ts x) xs

theorem addU_none {k : Nat} {ts : List LT} {x : LT} (h : ts.findIdx? (like x) = none) : addU k ts x = ts ++ [x] := by
  cases k with
  | zero => rfl
  | succ k => simp only [addU, h]
theorem addU_some {k : Nat} {ts : List LT} {x y : LT} {i : Nat} (h : ts.findIdx? (like x) = some i) (hy : ts[i]? = some y) : addU (k + 1) ts x = addU k (ts.eraseIdx i) (lkF y x) := by
  simp only [addU, h, hy]
theorem like_of {ts : List LT} {x y : LT} {i : Nat} (h : ts.findIdx? (like x) = some i) (hy : ts[i]? = some y) : rank y = rank x := by
  obtain ⟨hi, h1, _⟩ := List.findIdx?_eq_some_iff_getElem.1 h
  rw [List.getElem?_eq_getElem hi] at hy
  cases hy
  exact of_decide_eq_true h1
theorem erase_permL {ts : List LT} {i : Nat} {y : LT} (h : ts[i]? = some y) : ts.Perm (y :: ts.eraseIdx i) := by
  obtain ⟨hk, rfl⟩ := List.getElem?_eq_some_iff.1 h
  conv => lhs; rw [← List.take_append_drop i ts, List.drop_eq_getElem_cons hk]
  rw [List.eraseIdx_eq_take_drop_succ]
  exact List.perm_middle
/-- What is to be shown of each case: no tree of that rank, or one that is linked. -/
theorem addU_ind {Q : List LT → LT → List LT → Prop} (h0 : ∀ ts x, ts.findIdx? (like x) = none → Q ts x (ts ++ [x])) (h1 : ∀ ts x i y r, ts.findIdx? (like x) = some i → ts[i]? = some y → Q (ts.eraseIdx i) (lkF y x) r → Q ts x r) :
    ∀ (k : Nat) (ts : List LT) (x : LT), ts.length ≤ k → Q ts x (addU k ts x) := by
  intro k
  induction k with
  | zero =>
    intro ts x hk
    have : ts = [] := List.eq_nil_of_length_eq_zero (by omega)
    subst this
    exact h0 [] x rfl
  | succ k ih =>
    intro ts x hk
    cases hf : ts.findIdx? (like x) with
    | none => rw [addU_none hf]; exact h0 ts x hf
    | some i =>
      obtain ⟨hi, _⟩ := List.findIdx?_eq_some_iff_getElem.1 hf
      have hy := List.getElem?_eq_getElem hi
      rw [addU_some hf hy]
      exact h1 ts x i _ _ hf hy (ih _ _ (by rw [List.length_eraseIdx_of_lt hi]; omega))

def mktL (ts : List LT) : Nat := (ts.map mkt).sum
theorem addU_ok {k : Nat} {ts : List LT} {x : LT} (hk : ts.length ≤ k) : (∀ t ∈ ts, Sg t) → Sg x →
    (itsL (addU k ts x)).Perm (itsL ts ++ its x) ∧ (ndsL (addU k ts x)).Perm (ndsL ts ++ nds x) ∧ (cellsL (addU k ts x)).Perm (cellsL ts ++ cells x) ∧ (∀ t ∈ addU k ts x, Sg t) ∧ mktL (addU k ts x) = mktL ts + mkt x ∧ (addU k ts x).length ≤ ts.length + 1 := by
  refine addU_ind (Q := fun ts x r => (∀ t ∈ ts, Sg t) → Sg x → (itsL r).Perm (itsL ts ++ its x) ∧ (ndsL r).Perm (ndsL ts ++ nds x) ∧ (cellsL r).Perm (cellsL ts ++ cells x) ∧ (∀ t ∈ r, Sg t) ∧ mktL r = mktL ts + mkt x ∧ r.length ≤ ts.length + 1) ?_ ?_ k ts x hk
  · intro ts x _ hs hx
    refine ⟨by simp [itsL], by simp [ndsL], by simp [cellsL], fun t ht => ?_, by simp [mktL], by simp⟩
    rcases List.mem_append.1 ht with ht | ht
    · exact hs t ht
    · simp only [List.mem_cons, List.not_mem_nil, or_false] at ht
      subst ht; exact hx
  · intro ts x i y r hf hy ih hs hx
    have hp := erase_permL hy
    have hlt := (List.getElem?_eq_some_iff.1 hy).1
    have hsy : Sg y := hs y (List.mem_of_getElem? hy)
    obtain ⟨a1, a2, a3, a4, a5, a6⟩ := ih (fun t ht => hs t (List.mem_of_mem_eraseIdx ht)) (lkF_sg hsy hx)
    obtain ⟨b1, b2, b3⟩ := lkF_its hsy hx
    have c1 : (itsL ts).Perm (its y ++ itsL (ts.eraseIdx i)) := itsL_perm hp
    have c2 : (ndsL ts).Perm (nds y ++ ndsL (ts.eraseIdx i)) := ndsL_perm hp
    have c3 : (cellsL ts).Perm (cells y ++ cellsL (ts.eraseIdx i)) := cellsL_perm hp
    have c5 : mktL ts = mkt y + mktL (ts.eraseIdx i) := sum_perm (hp.map mkt)
    have mid : ∀ {β : Type} {A B C D E : List β}, D.Perm (A ++ E) → E.Perm (B ++ C) → D.Perm ((B ++ A) ++ C) := fun h1 h2 =>
      h1.trans ((h2.append_left _).trans (by rw [← List.append_assoc]; exact List.perm_append_comm.append_right _))
    refine ⟨?_, ?_, ?_, a4, by rw [a5, lkF_mkt hsy hx, c5]; omega, by rw [List.length_eraseIdx_of_lt hlt] at a6; omega⟩
    · exact (mid a1 b1).trans (c1.symm.append_right _)
    · exact (mid a2 b2).trans (c2.symm.append_right _)
    · exact (mid a3 b3).trans (c3.symm.append_right _)
theorem addU_ranks {k : Nat} {ts : List LT} {x : LT} (hk : ts.length ≤ k) : (ts.map rank).Nodup → ((addU k ts x).map rank).Nodup := by
  refine addU_ind (Q := fun ts x r => (ts.map rank).Nodup → (r.map rank).Nodup) ?_ ?_ k ts x hk
  · intro ts x hf hn
    rw [List.map_append, List.nodup_append]
    refine ⟨hn, by simp, fun a ha b hb => ?_⟩
    simp only [List.map_cons, List.map_nil, List.mem_cons, List.not_mem_nil, or_false] at hb
    obtain ⟨t, ht, rfl⟩ := List.mem_map.1 ha
    rw [hb]
    have := List.findIdx?_eq_none_iff.1 hf t ht
    exact of_decide_eq_false this
  · intro ts x i y r hf hy ih hn
    refine ih ?_
    exact hn.sublist ((List.eraseIdx_sublist _ _).map _)
theorem addU_ko {k : Nat} {ts : List LT} {x : LT} (hk : ts.length ≤ k) : (∀ t ∈ ts, Sg t) → Sg x → (∀ t ∈ ts, KO t) → KO x → ∀ t ∈ addU k ts x, KO t := by
  refine addU_ind (Q := fun ts x r => (∀ t ∈ ts, Sg t) → Sg x → (∀ t ∈ ts, KO t) → KO x → ∀ t ∈ r, KO t) ?_ ?_ k ts x hk
  · intro ts x _ hs hx ho hox t ht
    rcases List.mem_append.1 ht with ht | ht
    · exact ho t ht
    · simp only [List.mem_cons, List.not_mem_nil, or_false] at ht
      subst ht; exact hox
  · intro ts x i y r hf hy ih hs hx ho hox
    have hm := List.mem_of_getElem? hy
    exact ih (fun t ht => hs t (List.mem_of_mem_eraseIdx ht)) (lkF_sg (hs y hm) hx) (fun t ht => ho t (List.mem_of_mem_eraseIdx ht)) (lkF_ko (hs y hm) hx (ho y hm) hox (like_of hf hy))
theorem addU_od {k : Nat} {ts : List LT} {x : LT} (hk : ts.length ≤ k) : (∀ t ∈ ts, Sg t) → Sg x → (∀ t ∈ ts, Od t) → Od x → (cellsL ts ++ cells x).Nodup → ∀ t ∈ addU k ts x, Od t := by
  refine addU_ind (Q := fun ts x r => (∀ t ∈ ts, Sg t) → Sg x → (∀ t ∈ ts, Od t) → Od x → (cellsL ts ++ cells x).Nodup → ∀ t ∈ r, Od t) ?_ ?_ k ts x hk
  · intro ts x _ hs hx ho hox _ t ht
    rcases List.mem_append.1 ht with ht | ht
    · exact ho t ht
    · simp only [List.mem_cons, List.not_mem_nil, or_false] at ht
      subst ht; exact hox
  · intro ts x i y r hf hy ih hs hx ho hox hn
    have hm := List.mem_of_getElem? hy
    have c3 : (cellsL ts).Perm (cells y ++ cellsL (ts.eraseIdx i)) := cellsL_perm (erase_permL hy)
    have hn1 : (cellsL (ts.eraseIdx i) ++ (cells y ++ cells x)).Nodup := by
      refine (List.Perm.trans ?_ (c3.symm.append_right _)).nodup_iff.2 hn
      rw [← List.append_assoc]
      exact List.perm_append_comm.append_right _
    have hyx := (List.nodup_append.1 hn1).2.1
    refine ih (fun t ht => hs t (List.mem_of_mem_eraseIdx ht)) (lkF_sg (hs y hm) hx) (fun t ht => ho t (List.mem_of_mem_eraseIdx ht)) (lkF_od (hs y hm) hx (ho y hm) hox fun e => ?_) ?_
    · exact (List.nodup_append.1 hyx).2.2 _ (mem_its (top_mem (hs y hm))) _ (mem_its (top_mem hx)) e
    · exact ((lkF_its (hs y hm) hx).2.2.append_left _).nodup_iff.2 hn1

/-- Trees of unlike ranks are few. -/
theorem few {ts : List LT} (hs : ∀ t ∈ ts, Sg t) (hk : ∀ t ∈ ts, KO t) (hn : (ts.map rank).Nodup) {m : Nat} (hm : ∀ t ∈ ts, sz t ≤ m) : ts.length ≤ 2 * bl m + 1 := by
  have h1 : ∀ r ∈ ts.map rank, r < 2 * bl m + 1 := fun r hr => by
    obtain ⟨t, ht, rfl⟩ := List.mem_map.1 hr
    have hst := hs t ht
    have hkt := hk t ht
    have hmt := hm t ht
    cases t with
    | nil => exact hst.elim
    | node n i e m' l r =>
      have hr : r = nil := hst
      subst hr
      have h2 := (ko_sz hkt.2.1 hkt.1).1
      simp only [sz] at hmt
      have := fb_bl (k := rk l) (n := m) (by omega)
      show rk l < _
      omega
  have h2 : (ts.map rank).length ≤ 2 * bl m + 1 := by
    have := List.Nodup.length_le_of_subset hn (l₂ := List.range (2 * bl m + 1)) fun r hr => List.mem_range.2 (h1 r hr)
    simpa using this
  simpa using h2
end LT
end Go.Proofs.YtbkicgfgpmekeaaGreat.HL

/-
  FbP: Fibonacci heaps: a tree that is cut off, and those above it that lost one ahead, in plain Lean.
-/
set_option linter.unusedVariables false
set_option linter.unusedSimpArgs false
namespace Go.Proofs.YtbkicgfgpmekeaaGreat.HL
namespace LT

/-- A node above, with what stands beside the one that is looked at. -/
structure Fr where
  n : Nat
  i : Nat
  e : Ent
  m : Bool
  pre : List LT
  post : List LT
def Fr.fill (f : Fr) (t : LT) : LT := node f.n f.i f.e f.m (glue (f.pre ++ t :: f.post)) nil
/-- Without that one. -/
def Fr.less (f : Fr) (m : Bool) : LT := node f.n f.i f.e m (glue (f.pre ++ f.post)) nil
def Fr.Ok (f : Fr) : Prop := ∀ t ∈ f.pre ++ f.post, Sg t
def fills : List Fr → LT → LT
  | [], t => t
  | f :: fs, t => fills fs (f.fill t)
/-- What is cut off, one behind the other, and what is left. -/
def casc : List Fr → LT → List LT × LT
  | [], t => ([], t)
  | f :: fs, t => if fs = [] ∨ f.m = true then (t :: (casc fs (f.less f.m)).1, (casc fs (f.less f.m)).2) else ([t], fills fs (f.less true))

theorem Fr.sg {f : Fr} (h : f.Ok) {t : LT} (ht : Sg t) : ∀ s ∈ f.pre ++ t :: f.post, Sg s := fun s hs => by
  rcases List.mem_append.1 hs with hs | hs
  · exact h s (List.mem_append_left _ hs)
  · rcases List.mem_cons.1 hs with rfl | hs
    · exact ht
    · exact h s (List.mem_append_right _ hs)
theorem fill_sg (f : Fr) (t : LT) : Sg (f.fill t) := rfl
theorem less_sg (f : Fr) (m : Bool) : Sg (f.less m) := rfl
theorem fills_sg : ∀ (fs : List Fr) {t : LT}, Sg t → Sg (fills fs t)
  | [], _, h => h
  | f :: fs, t, _ => fills_sg fs (fill_sg f t)
/-- An item's place. -/
theorem find1 : ∀ {t : LT} {i : Nat} {e : Ent}, (i, e) ∈ its t → ∃ (pre post : List LT) (fs : List Fr) (n : Nat) (m : Bool) (l : LT), row t = pre ++ fills fs (node n i e m l nil) :: post ∧ ∀ f ∈ fs, f.Ok
  | nil, i, e, h => by cases h
  | node k j g m l r, i, e, h => by
    simp only [its, List.mem_cons, List.mem_append] at h
    have snoc : ∀ (fs : List Fr) (f : Fr) (s : LT), fills (fs ++ [f]) s = f.fill (fills fs s) := by
      intro fs
      induction fs with
      | nil => intro f s; rfl
      | cons d fs ih => intro f s; exact ih f (d.fill s)
    rcases h with h | h | h
    · cases h
      exact ⟨[], row r, [], k, m, l, rfl, fun f hf => by cases hf⟩
    · obtain ⟨pre, post, fs, n, m2, l2, h1, h2⟩ := find1 h
      have hok : ∀ t ∈ pre ++ post, Sg t := fun t ht => row_sg l t (by rw [h1]; rcases List.mem_append.1 ht with ht | ht <;> simp [ht])
      refine ⟨[], row r, fs ++ [⟨k, j, g, m, pre, post⟩], n, m2, l2, ?_, fun f hf => ?_⟩
      · rw [snoc]
        simp only [row, Fr.fill, List.nil_append]
        rw [← h1, glue_row]
      · rcases List.mem_append.1 hf with hf | hf
        · exact h2 f hf
        · simp only [List.mem_cons, List.not_mem_nil, or_false] at hf
          subst hf; exact hok
    · obtain ⟨pre, post, fs, n, m2, l2, h1, h2⟩ := find1 h
      exact ⟨node k j g m l nil :: pre, post, fs, n, m2, l2, by simp only [row, h1, List.cons_append], h2⟩

theorem fill_its {f : Fr} (h : f.Ok) {t : LT} (ht : Sg t) : (its (f.fill t)).Perm (its t ++ its (f.less f.m)) ∧ (nds (f.fill t)).Perm (nds t ++ nds (f.less f.m)) ∧ (cells (f.fill t)).Perm (cells t ++ cells (f.less f.m)) := by
  have hp : (f.pre ++ t :: f.post).Perm (t :: (f.pre ++ f.post)) := List.perm_middle
  have a1 := itsL_perm hp
  have a2 := ndsL_perm hp
  have a3 := cellsL_perm hp
  simp only [Fr.fill, Fr.less, its, nds, cells, glue_its (Fr.sg h ht), glue_nds (Fr.sg h ht), glue_cells (Fr.sg h ht), glue_its h, glue_nds h, glue_cells h, List.append_nil]
  refine ⟨(List.Perm.cons _ a1).trans ?_, (List.Perm.cons _ a2).trans ?_, (List.Perm.cons _ (List.Perm.cons _ a3)).trans ?_⟩
  · simp only [itsL, List.flatMap_cons]; exact List.perm_middle.symm
  · simp only [ndsL, List.flatMap_cons]; exact List.perm_middle.symm
  · simp only [cellsL, List.flatMap_cons]
    exact (List.Perm.cons _ List.perm_middle.symm).trans List.perm_middle.symm
theorem less_m (f : Fr) (m m' : Bool) : its (f.less m) = its (f.less m') ∧ nds (f.less m) = nds (f.less m') ∧ cells (f.less m) = cells (f.less m') ∧ mkt (f.less m) = mkt (f.less m') := ⟨rfl, rfl, rfl, rfl⟩
theorem fills_perm : ∀ {fs : List Fr}, (∀ f ∈ fs, f.Ok) → ∀ {t s : LT} {A : List Held} {B C : List Nat}, Sg t → Sg s → (its t).Perm (A ++ its s) → (nds t).Perm (B ++ nds s) → (cells t).Perm (C ++ cells s) → (its (fills fs t)).Perm (A ++ its (fills fs s)) ∧ (nds (fills fs t)).Perm (B ++ nds (fills fs s)) ∧ (cells (fills fs t)).Perm (C ++ cells (fills fs s))
  | [], _, t, s, A, B, C, _, _, h1, h2, h3 => ⟨h1, h2, h3⟩
  | f :: fs, hf, t, s, A, B, C, ht, hs, h1, h2, h3 => by
    have hof := hf f List.mem_cons_self
    obtain ⟨a1, a2, a3⟩ := fill_its hof ht
    obtain ⟨b1, b2, b3⟩ := fill_its hof hs
    have mid : ∀ {β : Type} {X A Y Z W : List β}, X.Perm (Y ++ Z) → Y.Perm (A ++ W) → X.Perm (A ++ (W ++ Z)) := fun h1 h2 => by
      rw [← List.append_assoc]; exact h1.trans (h2.append_right _)
    exact fills_perm (fs := fs) (fun g hg => hf g (List.mem_cons_of_mem _ hg)) (fill_sg f t) (fill_sg f s) ((mid a1 h1).trans (b1.symm.append_left _)) ((mid a2 h2).trans (b2.symm.append_left _)) ((mid a3 h3).trans (b3.symm.append_left _))

theorem casc_perm : ∀ {fs : List Fr} {t : LT}, (∀ f ∈ fs, f.Ok) → Sg t → (itsL (casc fs t).1 ++ its (casc fs t).2).Perm (its (fills fs t)) ∧ (ndsL (casc fs t).1 ++ nds (casc fs t).2).Perm (nds (fills fs t)) ∧ (cellsL (casc fs t).1 ++ cells (casc fs t).2).Perm (cells (fills fs t)) ∧ (∀ s ∈ (casc fs t).1, Sg s) ∧ Sg (casc fs t).2
  | [], t, _, ht => ⟨List.Perm.refl _, List.Perm.refl _, List.Perm.refl _, fun s hs => (by cases hs), ht⟩
  | f :: fs, t, hf, ht => by
    have hof := hf f List.mem_cons_self
    have hfs : ∀ g ∈ fs, g.Ok := fun g hg => hf g (List.mem_cons_of_mem _ hg)
    obtain ⟨b1, b2, b3⟩ := fill_its hof ht
    obtain ⟨p1, p2, p3⟩ := fills_perm (fs := fs) hfs (fill_sg f t) (less_sg f f.m) b1 b2 b3
    simp only [casc]
    split
    · obtain ⟨a1, a2, a3, a4, a5⟩ := casc_perm (fs := fs) hfs (less_sg f f.m)
      refine ⟨?_, ?_, ?_, fun s hs => ?_, a5⟩
      · simp only [itsL, List.flatMap_cons, List.append_assoc]; exact (a1.append_left _).trans p1.symm
      · simp only [ndsL, List.flatMap_cons, List.append_assoc]; exact (a2.append_left _).trans p2.symm
      · simp only [cellsL, List.flatMap_cons, List.append_assoc]; exact (a3.append_left _).trans p3.symm
      · rcases List.mem_cons.1 hs with rfl | hs
        · exact ht
        · exact a4 s hs
    · obtain ⟨q1, q2, q3⟩ := fills_perm (fs := fs) hfs (fill_sg f t) (less_sg f true) (s := f.less true) b1 b2 b3
      refine ⟨?_, ?_, ?_, fun s hs => ?_, fills_sg fs (less_sg f true)⟩
      · simp only [itsL, List.flatMap_cons, List.flatMap_nil, List.append_nil]; exact q1.symm
      · simp only [ndsL, List.flatMap_cons, List.flatMap_nil, List.append_nil]; exact q2.symm
      · simp only [cellsL, List.flatMap_cons, List.flatMap_nil, List.append_nil]; exact q3.symm
      · simp only [List.mem_cons, List.not_mem_nil, or_false] at hs
        subst hs; exact ht
end LT
end Go.Proofs.YtbkicgfgpmekeaaGreat.HL

/-
  FbQ: Fibonacci heaps: what holds of cuts: marks, ranks, order.
-/
set_option linter.unusedVariables false
set_option linter.unusedSimpArgs false
namespace Go.Proofs.YtbkicgfgpmekeaaGreat.HL
namespace LT

theorem mks_glue {ts : List LT} (h : ∀ t ∈ ts, Sg t) : mks (glue ts) = mksL ts := by rw [← row_mks, row_glue ts h]
theorem mks_sg {t : LT} (h : Sg t) : mks t = mkt t + mks t - mkt t := by omega
/-- Has it lost one? -/
def mb : LT → Nat
  | nil => 0
  | node _ _ _ m _ _ => if m then 1 else 0
theorem mks_mb {t : LT} (h : Sg t) : mks t = mb t + mkt t := by
  cases t with
  | nil => exact h.elim
  | node n i e m l r =>
    have hr : r = nil := h
    subst hr
    simp only [mks, mb, mkt]; omega
theorem fill_mkt {f : Fr} (h : f.Ok) {t : LT} (ht : Sg t) : mkt (f.fill t) = mksL (f.pre ++ f.post) + mks t := by
  have h1 := sum_perm ((List.perm_middle (a := t) (l₁ := f.pre) (l₂ := f.post)).map mks)
  show mks (glue (f.pre ++ t :: f.post)) + 0 = _
  rw [mks_glue (Fr.sg h ht)]
  simp only [mksL, List.map_cons, List.sum_cons] at h1 ⊢
  omega
theorem less_mkt {f : Fr} (h : f.Ok) (m : Bool) : mkt (f.less m) = mksL (f.pre ++ f.post) := by
  show mks (glue (f.pre ++ f.post)) + 0 = _
  rw [mks_glue h]; omega
def mcx : List Fr → Nat
  | [] => 0
  | f :: fs => mksL (f.pre ++ f.post) + (if fs = [] then 0 else if f.m then 1 else 0) + mcx fs
theorem fills_mkt : ∀ {fs : List Fr}, (∀ f ∈ fs, f.Ok) → ∀ {t : LT}, Sg t → mkt (fills fs t) = mcx fs + if fs = [] then mkt t else mks t
  | [], _, t, _ => by simp [fills, mcx]
  | f :: fs, hf, t, ht => by
    have hof := hf f List.mem_cons_self
    have ih := fills_mkt (fs := fs) (fun g hg => hf g (List.mem_cons_of_mem _ hg)) (fill_sg f t)
    have h1 := fill_mkt hof ht
    have h2 := mks_mb (fill_sg f t)
    have h3 : mb (f.fill t) = if f.m then 1 else 0 := rfl
    show mkt (fills fs (f.fill t)) = _
    rw [ih]
    simp only [mcx]
    rw [if_neg (show ¬ (f :: fs = []) by simp)]
    split
    · rename_i h; subst h; simp only [mcx]; omega
    · omega
theorem casc_mkt : ∀ {fs : List Fr}, (∀ f ∈ fs, f.Ok) → ∀ {t : LT}, Sg t → fs ≠ [] → 2 * (casc fs t).1.length + 2 * (mktL (casc fs t).1 + mkt (casc fs t).2) ≤ 2 * (mcx fs + mkt t) + 4
  | [], _, t, _, h => absurd rfl h
  | f :: fs, hf, t, ht, _ => by
    have hof := hf f List.mem_cons_self
    have hfs : ∀ g ∈ fs, g.Ok := fun g hg => hf g (List.mem_cons_of_mem _ hg)
    have l1 := less_mkt hof f.m
    have l2 := less_mkt hof true
    simp only [casc, mcx]
    by_cases he : fs = []
    · subst he
      rw [if_pos (.inl rfl)]
      simp only [casc, mktL, List.map_cons, List.map_nil, List.sum_cons, List.sum_nil, List.length_cons, List.length_nil, if_true, mcx]
      omega
    · by_cases hm : f.m = true
      · rw [if_pos (.inr hm), if_neg he, if_pos hm]
        have ih := casc_mkt (fs := fs) hfs (less_sg f f.m) he
        simp only [mktL, List.map_cons, List.sum_cons, List.length_cons] at ih ⊢
        omega
      · rw [if_neg (fun h => by rcases h with h | h; exact he h; exact hm h), if_neg he, if_neg hm]
        have h1 := fills_mkt hfs (less_sg f true)
        rw [if_neg he] at h1
        have h2 := mks_mb (less_sg f true)
        have h3 : mb (f.less true) = 1 := rfl
        simp only [mktL, List.map_cons, List.map_nil, List.sum_cons, List.sum_nil, List.length_cons, List.length_nil]
        omega
theorem casc_one {fs : List Fr} {t : LT} (h : fs ≠ []) : 1 ≤ (casc fs t).1.length := by
  cases fs with
  | nil => exact absurd rfl h
  | cons f fs => simp only [casc]; split <;> simp

/-! Ranks. -/
def KOC : List Fr → Nat → Prop
  | [], _ => True
  | f :: fs, k => Kf (k :: (f.pre ++ f.post).map key) ∧ (∀ s ∈ f.pre ++ f.post, KO s) ∧ KOC fs ((f.pre ++ f.post).length + 1 + if f.m then 1 else 0)
theorem fill_key {f : Fr} (h : f.Ok) {t : LT} (ht : Sg t) : key (f.fill t) = (f.pre ++ f.post).length + 1 + if f.m then 1 else 0 := by
  show rk (glue (f.pre ++ t :: f.post)) + (if f.m then 1 else 0) = _
  rw [← row_len, row_glue _ (Fr.sg h ht), List.length_append, List.length_cons, List.length_append]; omega
theorem less_key {f : Fr} (h : f.Ok) (m : Bool) : key (f.less m) = (f.pre ++ f.post).length + if m then 1 else 0 := by
  show rk (glue (f.pre ++ f.post)) + (if m then 1 else 0) = _
  rw [← row_len, row_glue _ h]
theorem fill_ko {f : Fr} (h : f.Ok) {t : LT} (ht : Sg t) : KO (f.fill t) ↔ Kf (key t :: (f.pre ++ f.post).map key) ∧ (∀ s ∈ f.pre ++ f.post, KO s) ∧ KO t := by
  have hp : ((f.pre ++ t :: f.post).map key).Perm (key t :: (f.pre ++ f.post).map key) := by
    have := (List.perm_middle (a := t) (l₁ := f.pre) (l₂ := f.post)).map key
    rwa [List.map_cons] at this
  show Kf ((row (glue (f.pre ++ t :: f.post))).map key) ∧ KO (glue (f.pre ++ t :: f.post)) ∧ True ↔ _
  rw [row_glue _ (Fr.sg h ht)]
  constructor
  · rintro ⟨h1, h2, _⟩
    have h3 := row_ko h2
    rw [row_glue _ (Fr.sg h ht)] at h3
    refine ⟨h1.perm hp, fun s hs => h3 s ?_, h3 t (by simp)⟩
    rcases List.mem_append.1 hs with hs | hs <;> simp [hs]
  · rintro ⟨h1, h2, h3⟩
    refine ⟨h1.perm hp.symm, ko_row fun s hs => ?_, trivial⟩
    rw [row_glue _ (Fr.sg h ht)] at hs
    rcases List.mem_append.1 hs with hs | hs
    · exact h2 s (List.mem_append_left _ hs)
    · rcases List.mem_cons.1 hs with rfl | hs
      · exact h3
      · exact h2 s (List.mem_append_right _ hs)
theorem less_ko {f : Fr} (h : f.Ok) (m : Bool) {k : Nat} (h1 : Kf (k :: (f.pre ++ f.post).map key)) (h2 : ∀ s ∈ f.pre ++ f.post, KO s) : KO (f.less m) := by
  show Kf ((row (glue (f.pre ++ f.post))).map key) ∧ KO (glue (f.pre ++ f.post)) ∧ True
  rw [row_glue _ h]
  exact ⟨h1.del, ko_row fun s hs => h2 s (by rwa [row_glue _ h] at hs), trivial⟩
theorem fills_ko : ∀ {fs : List Fr}, (∀ f ∈ fs, f.Ok) → ∀ {t : LT}, Sg t → (KO (fills fs t) ↔ KOC fs (key t) ∧ KO t)
  | [], _, t, _ => by simp [fills, KOC]
  | f :: fs, hf, t, ht => by
    have hof := hf f List.mem_cons_self
    show KO (fills fs (f.fill t)) ↔ _
    rw [fills_ko (fs := fs) (fun g hg => hf g (List.mem_cons_of_mem _ hg)) (fill_sg f t), fill_ko hof ht, fill_key hof ht]
    simp only [KOC]
    constructor
    · rintro ⟨h1, h2, h3, h4⟩; exact ⟨⟨h2, h3, h1⟩, h4⟩
    · rintro ⟨⟨h2, h3, h1⟩, h4⟩; exact ⟨h1, h2, h3, h4⟩
theorem casc_ko : ∀ {fs : List Fr}, (∀ f ∈ fs, f.Ok) → ∀ {t : LT} {k : Nat}, Sg t → KOC fs k → KO t → (∀ s ∈ (casc fs t).1, KO s) ∧ KO (casc fs t).2
  | [], _, t, k, _, _, h => ⟨fun s hs => (by cases hs), h⟩
  | f :: fs, hf, t, k, ht, ⟨h1, h2, h3⟩, h => by
    have hof := hf f List.mem_cons_self
    have hfs : ∀ g ∈ fs, g.Ok := fun g hg => hf g (List.mem_cons_of_mem _ hg)
    simp only [casc]
    split
    · obtain ⟨a1, a2⟩ := casc_ko (fs := fs) hfs (less_sg f f.m) h3 (less_ko hof f.m h1 h2)
      refine ⟨fun s hs => ?_, a2⟩
      rcases List.mem_cons.1 hs with rfl | hs
      · exact h
      · exact a1 s hs
    · rename_i hc
      have hm : f.m = false := by
        cases hx : f.m with
        | false => rfl
        | true => exact absurd (.inr hx) hc
      refine ⟨fun s hs => ?_, (fills_ko hfs (less_sg f true)).2 ⟨?_, less_ko hof true h1 h2⟩⟩
      · simp only [List.mem_cons, List.not_mem_nil, or_false] at hs
        subst hs; exact h
      · rw [less_key hof true]
        rw [hm] at h3
        exact h3

/-! Order. -/
theorem fill_od {f : Fr} (h : f.Ok) {t : LT} (ht : Sg t) : Od (f.fill t) ↔ (∀ x ∈ itsL (f.pre ++ f.post), Bf (f.i, f.e) x) ∧ (∀ s ∈ f.pre ++ f.post, Od s) ∧ (∀ x ∈ its t, Bf (f.i, f.e) x) ∧ Od t := by
  have hp := itsL_perm (List.perm_middle (a := t) (l₁ := f.pre) (l₂ := f.post))
  show (∀ x ∈ its (glue (f.pre ++ t :: f.post)), Bf (f.i, f.e) x) ∧ Od (glue (f.pre ++ t :: f.post)) ∧ True ↔ _
  rw [glue_its (Fr.sg h ht)]
  have hm : ∀ x, x ∈ itsL (f.pre ++ t :: f.post) ↔ x ∈ its t ∨ x ∈ itsL (f.pre ++ f.post) := fun x => by
    rw [hp.mem_iff]; simp only [itsL, List.flatMap_cons, List.mem_append]
  constructor
  · rintro ⟨h1, h2, _⟩
    have h3 := row_od h2
    rw [row_glue _ (Fr.sg h ht)] at h3
    refine ⟨fun x hx => h1 x ((hm x).2 (.inr hx)), fun s hs => h3 s ?_, fun x hx => h1 x ((hm x).2 (.inl hx)), h3 t (by simp)⟩
    rcases List.mem_append.1 hs with hs | hs <;> simp [hs]
  · rintro ⟨h1, h2, h3, h4⟩
    refine ⟨fun x hx => ?_, od_row fun s hs => ?_, trivial⟩
    · rcases (hm x).1 hx with hx | hx
      · exact h3 x hx
      · exact h1 x hx
    · rw [row_glue _ (Fr.sg h ht)] at hs
      rcases List.mem_append.1 hs with hs | hs
      · exact h2 s (List.mem_append_left _ hs)
      · rcases List.mem_cons.1 hs with rfl | hs
        · exact h4
        · exact h2 s (List.mem_append_right _ hs)
theorem less_od {f : Fr} (h : f.Ok) (m : Bool) (h1 : ∀ x ∈ itsL (f.pre ++ f.post), Bf (f.i, f.e) x) (h2 : ∀ s ∈ f.pre ++ f.post, Od s) : Od (f.less m) := by
  show (∀ x ∈ its (glue (f.pre ++ f.post)), Bf (f.i, f.e) x) ∧ Od (glue (f.pre ++ f.post)) ∧ True
  rw [glue_its h]
  exact ⟨h1, od_row fun s hs => h2 s (by rwa [row_glue _ h] at hs), trivial⟩
theorem fills_od : ∀ {fs : List Fr}, (∀ f ∈ fs, f.Ok) → ∀ {t : LT}, Sg t → Od (fills fs t) → Od t ∧ ∀ s, Sg s → Od s → (∀ x ∈ its s, x ∈ its t) → Od (fills fs s)
  | [], _, t, _, h => ⟨h, fun s _ h _ => h⟩
  | f :: fs, hf, t, ht, h => by
    have hof := hf f List.mem_cons_self
    have hfs : ∀ g ∈ fs, g.Ok := fun g hg => hf g (List.mem_cons_of_mem _ hg)
    obtain ⟨a1, a2⟩ := fills_od (fs := fs) hfs (fill_sg f t) h
    obtain ⟨b1, b2, b3, b4⟩ := (fill_od hof ht).1 a1
    refine ⟨b4, fun s hs ho hi => a2 (f.fill s) (fill_sg f s) ((fill_od hof hs).2 ⟨b1, b2, fun x hx => b3 x (hi x hx), ho⟩) fun x hx => ?_⟩
    have h1 := (fill_its hof hs).1.mem_iff.1 hx
    refine (fill_its hof ht).1.mem_iff.2 ?_
    rcases List.mem_append.1 h1 with h1 | h1
    · exact List.mem_append_left _ (hi x h1)
    · exact List.mem_append_right _ h1
theorem casc_od : ∀ {fs : List Fr}, (∀ f ∈ fs, f.Ok) → ∀ {t0 t : LT}, Sg t0 → Sg t → Od (fills fs t0) → Od t → (∀ s ∈ (casc fs t).1, Od s) ∧ (fs ≠ [] → Od (casc fs t).2)
  | [], _, t0, t, _, _, _, h => ⟨fun s hs => (by cases hs), fun h => absurd rfl h⟩
  | f :: fs, hf, t0, t, h0, ht, h, ho => by
    have hof := hf f List.mem_cons_self
    have hfs : ∀ g ∈ fs, g.Ok := fun g hg => hf g (List.mem_cons_of_mem _ hg)
    obtain ⟨a1, a2⟩ := fills_od (fs := fs) hfs (fill_sg f t0) h
    obtain ⟨b1, b2, b3, b4⟩ := (fill_od hof h0).1 a1
    have sub : ∀ m, ∀ x ∈ its (f.less m), x ∈ its (f.fill t0) := fun m x hx => (fill_its hof h0).1.mem_iff.2 (List.mem_append_right _ hx)
    have l1 := fun m => less_od hof m b1 b2
    have l2 := fun m => a2 (f.less m) (less_sg f m) (l1 m) (sub m)
    simp only [casc]
    split
    · obtain ⟨c1, c2⟩ := casc_od (fs := fs) hfs (less_sg f f.m) (less_sg f f.m) (l2 f.m) (l1 f.m)
      refine ⟨fun s hs => ?_, fun _ => ?_⟩
      · rcases List.mem_cons.1 hs with rfl | hs
        · exact ho
        · exact c1 s hs
      · by_cases he : fs = []
        · subst he; exact l1 f.m
        · exact c2 he
    · refine ⟨fun s hs => ?_, fun _ => l2 true⟩
      simp only [List.mem_cons, List.not_mem_nil, or_false] at hs
      subst hs; exact ho
end LT
end Go.Proofs.YtbkicgfgpmekeaaGreat.HL

/-
  FbX: Fibonacci heaps: many trees come to trees of unlike ranks, in plain Lean.
-/
set_option linter.unusedVariables false
set_option linter.unusedSimpArgs false
namespace Go.Proofs.YtbkicgfgpmekeaaGreat.HL
namespace LT

theorem unl_ok : ∀ {xs ts : List LT}, (∀ t ∈ ts, Sg t) → (∀ t ∈ xs, Sg t) →
    (itsL (unl ts xs)).Perm (itsL ts ++ itsL xs) ∧ (ndsL (unl ts xs)).Perm (ndsL ts ++ ndsL xs) ∧ (cellsL (unl ts xs)).Perm (cellsL ts ++ cellsL xs) ∧ (∀ t ∈ unl ts xs, Sg t) ∧ mktL (unl ts xs) = mktL ts + mktL xs ∧ (unl ts xs).length ≤ ts.length + xs.length
  | [], ts, hs, _ => ⟨by simp [unl, itsL], by simp [unl, ndsL], by simp [unl, cellsL], hs, by simp [unl, mktL], by simp [unl]⟩
  | x :: xs, ts, hs, hx => by
    obtain ⟨a1, a2, a3, a4, a5, a6⟩ := addU_ok (k := ts.length) (Nat.le_refl _) hs (hx x List.mem_cons_self)
    obtain ⟨b1, b2, b3, b4, b5, b6⟩ := unl_ok (xs := xs) (ts := addU ts.length ts x) a4 (fun t ht => hx t (List.mem_cons_of_mem _ ht))
    have step : ∀ {β : Type} {X Y A B C : List β}, X.Perm (Y ++ C) → Y.Perm (A ++ B) → X.Perm (A ++ (B ++ C)) := fun h1 h2 => by
      rw [← List.append_assoc]; exact h1.trans (h2.append_right _)
    simp only [unl]
    refine ⟨by simp only [itsL, List.flatMap_cons] at b1 a1 ⊢; exact step b1 a1, by simp only [ndsL, List.flatMap_cons] at b2 a2 ⊢; exact step b2 a2, by simp only [cellsL, List.flatMap_cons] at b3 a3 ⊢; exact step b3 a3, b4, ?_, by simp only [List.length_cons]; omega⟩
    have e : mktL (x :: xs) = mkt x + mktL xs := rfl
    rw [b5, a5, e]; omega
theorem unl_ranks : ∀ {xs ts : List LT}, (ts.map rank).Nodup → ((unl ts xs).map rank).Nodup
  | [], _, h => h
  | x :: xs, ts, h => unl_ranks (xs := xs) (addU_ranks (Nat.le_refl _) h)
theorem unl_ko : ∀ {xs ts : List LT}, (∀ t ∈ ts, Sg t) → (∀ t ∈ xs, Sg t) → (∀ t ∈ ts, KO t) → (∀ t ∈ xs, KO t) → ∀ t ∈ unl ts xs, KO t
  | [], ts, _, _, h, _ => h
  | x :: xs, ts, hs, hx, h1, h2 => unl_ko (xs := xs) (addU_ok (Nat.le_refl _) hs (hx x List.mem_cons_self)).2.2.2.1 (fun t ht => hx t (List.mem_cons_of_mem _ ht)) (addU_ko (Nat.le_refl _) hs (hx x List.mem_cons_self) h1 (h2 x List.mem_cons_self)) (fun t ht => h2 t (List.mem_cons_of_mem _ ht))
theorem unl_od : ∀ {xs ts : List LT}, (∀ t ∈ ts, Sg t) → (∀ t ∈ xs, Sg t) → (∀ t ∈ ts, Od t) → (∀ t ∈ xs, Od t) → (cellsL ts ++ cellsL xs).Nodup → ∀ t ∈ unl ts xs, Od t
  | [], ts, _, _, h, _, _ => h
  | x :: xs, ts, hs, hx, h1, h2, hn => by
    have hx0 := hx x List.mem_cons_self
    obtain ⟨a1, a2, a3, a4, a5, a6⟩ := addU_ok (k := ts.length) (Nat.le_refl _) hs hx0
    have hn1 : ((cellsL ts ++ cells x) ++ cellsL xs).Nodup := by
      simp only [cellsL, List.flatMap_cons] at hn ⊢
      rwa [List.append_assoc]
    exact unl_od (xs := xs) a4 (fun t ht => hx t (List.mem_cons_of_mem _ ht)) (addU_od (Nat.le_refl _) hs hx0 h1 (h2 x List.mem_cons_self) (List.nodup_append.1 hn1).1) (fun t ht => h2 t (List.mem_cons_of_mem _ ht)) ((a3.append_right _).nodup_iff.2 hn1)
theorem unl_nil {xs : List LT} (h : ∀ t ∈ xs, Sg t) : unl [] xs = [] ↔ xs = [] := by
  constructor
  · intro e
    have := (unl_ok (ts := []) (xs := xs) (fun t ht => by cases ht) h).1.length_eq
    rw [e] at this
    cases xs with
    | nil => rfl
    | cons x xs =>
      have hx := h x List.mem_cons_self
      cases x with
      | nil => exact hx.elim
      | node n i e m l r => simp [itsL, its] at this
  · rintro rfl; rfl
/-- The first one of a row of tops that is before all others. -/
theorem least_all {ts : List LT} {x : LT} (hs : ∀ t ∈ ts, Sg t) (ho : ∀ t ∈ ts, Od t) (hx : ∀ y ∈ ts, y = x ∨ Bf (top x) (top y)) : ∀ z ∈ itsL ts, z = top x ∨ Bf (top x) z := fun z hz => by
  obtain ⟨t, ht, hz⟩ := List.mem_flatMap.1 hz
  rcases top_least (hs t ht) (ho t ht) z hz with rfl | h
  · rcases hx t ht with rfl | h
    · exact .inl rfl
    · exact .inr h
  · rcases hx t ht with rfl | h2
    · exact .inr h
    · exact .inr (h2.tr h)
end LT
end Go.Proofs.YtbkicgfgpmekeaaGreat.HL

