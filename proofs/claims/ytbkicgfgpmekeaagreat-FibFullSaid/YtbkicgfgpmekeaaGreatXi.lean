import Derived.Test.YtbkicgfgpmekeaaGreatXh
import Derived.Test.YtbkicgfgpmekeaaGreatXb
/-
  FbI: Fibonacci heaps: the calls, in the words that the laws on heaps ask for: Fall, Cut.
-/
set_option linter.unusedVariables false
set_option linter.unusedSimpArgs false
set_option maxRecDepth 100000
namespace Go.Proofs.YtbkicgfgpmekeaaGreat.HL
open Go.RowKit (Below)
open Go.Proofs
open Go.Proofs.YtbkicgfgpmekeaaGreat.HL.LT

namespace LT
def itsC (fs : List Fr) : List Held := fs.flatMap fun f => its (f.less f.m)
theorem fills_its : ∀ {fs : List Fr}, (∀ f ∈ fs, f.Ok) → ∀ {t : LT}, Sg t → (its (fills fs t)).Perm (its t ++ itsC fs)
  | [], _, t, _ => by simp [fills, itsC]
  | f :: fs, hf, t, ht => by
    have h1 := fills_its (fs := fs) (fun g hg => hf g (List.mem_cons_of_mem _ hg)) (fill_sg f t)
    have h2 := (fill_its (hf f List.mem_cons_self) ht).1
    simp only [itsC, List.flatMap_cons] at h1 ⊢
    rw [← List.append_assoc]
    exact h1.trans (h2.append_right _)
theorem fills_top : ∀ {fs : List Fr} (t s : LT), fs ≠ [] → top (fills fs t) = top (fills fs s)
  | [], _, _, h => absurd rfl h
  | [f], _, _, _ => rfl
  | f :: g :: fs, t, s, _ => fills_top (fs := g :: fs) (f.fill t) (f.fill s) (by simp)
theorem casc_same : ∀ {fs : List Fr} {t : LT}, fs ≠ [] → top (casc fs t).2 = top (fills fs t) ∧ rt1 (casc fs t).2 = rt1 (fills fs t)
  | [], _, h => absurd rfl h
  | [f], t, _ => by simp [casc, fills, top, rt1, Fr.less, Fr.fill]
  | f :: g :: fs, t, _ => by
    have h1 := casc_same (fs := g :: fs) (t := f.less f.m) (by simp)
    have e1 : top (fills (g :: fs) (f.less f.m)) = top (fills (g :: fs) (f.fill t)) := fills_top _ _ (by simp)
    have e2 : rt1 (fills (g :: fs) (f.less f.m)) = rt1 (fills (g :: fs) (f.fill t)) := by rw [fills_rt1, fills_rt1]; rfl
    have e3 : top (fills (g :: fs) (f.less true)) = top (fills (g :: fs) (f.fill t)) := fills_top _ _ (by simp)
    have e4 : rt1 (fills (g :: fs) (f.less true)) = rt1 (fills (g :: fs) (f.fill t)) := by rw [fills_rt1, fills_rt1]; rfl
    have h3 : casc (f :: g :: fs) t = if (g :: fs) = [] ∨ f.m = true then (t :: (casc (g :: fs) (f.less f.m)).1, (casc (g :: fs) (f.less f.m)).2) else ([t], fills (g :: fs) (f.less true)) := rfl
    rw [h3]
    split
    · exact ⟨h1.1.trans e1, h1.2.trans e2⟩
    · exact ⟨e3, e4⟩
theorem casc_head {fs : List Fr} {t : LT} (h : fs ≠ []) : ∃ r, (casc fs t).1 = t :: r := by
  cases fs with
  | nil => exact absurd rfl h
  | cons f fs => simp only [casc]; split <;> exact ⟨_, rfl⟩
/-- A lower key. -/
theorem bf_low {i : Nat} {e e' : Ent} (hle : e'.1 ≤ e.1) (hs : e'.2 = e.2) {x : Held} (hx : Bf (i, e) x) : Bf (i, e') x := by
  rcases hx with hx | ⟨hx, hx'⟩
  · refine .inl ?_
    unfold Lt at hx ⊢
    simp only at hx ⊢
    omega
  · by_cases h9 : e'.1 = e.1
    · have : e' = e := Prod.ext h9 hs
      rw [this]; exact .inr ⟨hx, hx'⟩
    · refine .inl ?_
      have hx2 : e = x.2 := hx
      unfold Lt
      rw [← hx2]
      simp only
      omega
theorem od_low {n i : Nat} {e e' : Ent} {m : Bool} {l : LT} (hle : e'.1 ≤ e.1) (hs : e'.2 = e.2) (h : Od (node n i e m l nil)) : Od (node n i e' m l nil) := ⟨fun x hx => bf_low hle hs (h.1 x hx), h.2.1, trivial⟩
/-- A key is lowered, but not below the one above it. -/
theorem fills_od2 : ∀ {fs : List Fr}, (∀ f ∈ fs, f.Ok) → ∀ {t s : LT} {y : Held}, Sg t → Sg s → Od (fills fs t) → Od s → (∀ x ∈ its s, x = y ∨ x ∈ its t) → (∀ f gs, fs = f :: gs → Bf (f.i, f.e) y) → Od (fills fs s)
  | [], _, t, s, y, _, _, _, h, _, _ => h
  | f :: fs, hf, t, s, y, ht, hs, h, ho, hi, hb => by
    have hof := hf f List.mem_cons_self
    have hfs : ∀ g ∈ fs, g.Ok := fun g hg => hf g (List.mem_cons_of_mem _ hg)
    have hby := hb f fs rfl
    obtain ⟨a1, a2⟩ := fills_od (fs := fs) hfs (fill_sg f t) h
    obtain ⟨b1, b2, b3, b4⟩ := (fill_od hof ht).1 a1
    refine fills_od2 (fs := fs) hfs (t := f.fill t) (y := y) (fill_sg f t) (fill_sg f s) h ((fill_od hof hs).2 ⟨b1, b2, fun x hx => ?_, ho⟩) (fun x hx => ?_) (fun g gs hg => ?_)
    · rcases hi x hx with rfl | h9
      · exact hby
      · exact b3 x h9
    · rcases List.mem_append.1 ((fill_its hof hs).1.mem_iff.1 hx) with h9 | h9
      · rcases hi x h9 with h9 | h9
        · exact .inl h9
        · exact .inr ((fill_its hof ht).1.mem_iff.2 (List.mem_append_left _ h9))
      · exact .inr ((fill_its hof ht).1.mem_iff.2 (List.mem_append_right _ h9))
    · subst hg
      have hog := hfs g List.mem_cons_self
      have c1 := (fills_od (fs := gs) (fun k hk => hfs k (List.mem_cons_of_mem _ hk)) (fill_sg g (f.fill t)) h).1
      obtain ⟨d1, d2, d3, d4⟩ := (fill_od hog (fill_sg f t)).1 c1
      exact Bf.tr (y := (f.i, f.e)) (d3 (f.i, f.e) (by simp [Fr.fill, its])) hby
theorem key_low {n i : Nat} {e e' : Ent} {m : Bool} {l : LT} : key (node n i e' m l nil) = key (node n i e m l nil) := rfl
theorem fills_cells2 {fs : List Fr} (hf : ∀ f ∈ fs, f.Ok) {n i : Nat} {e e' : Ent} {m : Bool} {l : LT} : (cells (fills fs (node n i e' m l nil))).Perm (cells (fills fs (node n i e m l nil))) :=
  (fills_cells hf (t := node n i e' m l nil) rfl).trans (fills_cells hf (t := node n i e m l nil) rfl).symm
theorem mid_perm {β : Type} (pre post : List β) (x : β) : (pre ++ x :: post).Perm (x :: (pre ++ post)) := List.perm_middle
end LT

section
variable {w0 : World} {M F : Mem} {R : Value → Mem → Prop} {a : Nat} {α : AS}

/-- A key is lowered. -/
theorem Hp.lowerH {r : Int} {t : HT} {i : Nat} {e e' : Ent} (h : Hp α r t) (hm : (i, e) ∈ t.its) (hle : e'.1 ≤ e.1) (hs : e'.2 = e.2) : HpF (α.put i 7 e'.1) r t i e e' := by
  obtain ⟨pre, post, fs, n, m, l, hrow, hf⟩ := find1 hm
  have hsg := row_sg t
  have hrep := rep_row.1 h.rep
  have hnd : (cellsL (row t)).Nodup := by rw [row_cells]; exact h.nd
  rw [hrow] at hsg hrep hnd
  have hs0 : Sg (fills fs (node n i e m l LT.nil)) := hsg _ (by simp)
  have hnd2 := (cellsL_perm (mid_perm pre post (fills fs (node n i e m l LT.nil)))).nodup_iff.1 hnd
  simp only [cellsL, List.flatMap_cons] at hnd2
  obtain ⟨k1, k2, k3⟩ := List.nodup_append.1 hnd2
  have hcp := fills_cells hf (t := node n i e m l LT.nil) rfl
  have k1' := hcp.nodup_iff.1 k1
  obtain ⟨c1, c2, c3⟩ := List.nodup_append.1 k1'
  have c1' := c1
  simp only [cells, List.append_nil, List.nodup_cons, List.mem_cons, not_or] at c1'
  obtain ⟨⟨ni, nl⟩, il, hl⟩ := c1'
  have him : i ∈ cells (node n i e m l LT.nil) := by simp [cells]
  have g : ∀ x f, (α.put i 7 e'.1).get x f = if x = i ∧ f = 7 then e'.1 else α.get x f := fun x f => rfl
  have go : ∀ x, x ≠ i → ∀ f, (α.put i 7 e'.1).get x f = α.get x f := fun x hx f => by rw [g, if_neg (fun e => hx e.1)]
  refine ⟨pre, post, fs, n, m, l, hrow, hf, h.r, fun s hsm => ?_, h.rg.congr (fun x hx => by rw [g, if_neg (by omega)]) (fun x hx => by rw [g, if_neg (by omega)]) (fun _ _ => rfl), h.nd, h.od, h.ko, h.least, hle, hs⟩
  have hout : ∀ s ∈ pre ++ post, Rep (α.put i 7 e'.1) (-1) s := fun s hsm => by
    have hsm2 : s ∈ pre ++ fills fs (node n i e m l LT.nil) :: post := by
      rcases List.mem_append.1 hsm with h9 | h9 <;> simp [h9]
    have hin : i ∉ cells s := fun hc => k3 i (hcp.mem_iff.2 (List.mem_append_left _ him)) i (List.mem_flatMap.2 ⟨s, hsm, hc⟩) rfl
    have hns : (cells s).Nodup := by
      obtain ⟨p, q, hpq⟩ := List.append_of_mem hsm
      rw [hpq] at k2
      simp only [List.flatMap_append, List.flatMap_cons] at k2
      exact (List.nodup_append.1 (List.nodup_append.1 k2).2.1).1
    exact (hrep s hsm2).same hns (fun c hc f => go c (fun e9 => hin (e9 ▸ hc)) f) (fun _ _ => rfl)
  rcases List.mem_append.1 hsm with h9 | h9
  · exact hout s (List.mem_append_left _ h9)
  · rcases List.mem_cons.1 h9 with rfl | h9
    · obtain ⟨r1, r2⟩ := (rep_fills hf (t := node n i e m l LT.nil) rfl).1 (hrep _ (by simp))
      refine (rep_fills hf (t := node n i e' m l LT.nil) rfl).2 ⟨?_, ?_⟩
      · exact RepC.congr (α := α) hf c2 r1 (fun c hc k _ => go c (fun e9 => c3 i him c hc e9.symm) k) (fun _ => ⟨by rw [g, if_neg (by omega)], by rw [g, if_neg (by omega)], rfl⟩) (fun _ _ => rfl)
      · obtain ⟨q1, q2, q3, q4, q5, q6, q7, _⟩ := r2
        have gn : ∀ f, (α.put i 7 e'.1).get n f = α.get n f := go n (fun e9 => ni e9)
        refine ⟨⟨q1.ln, q1.li, (gn 6).trans q1.it, ?_, ?_, ?_⟩, (gn 0).trans q2, (gn 1).trans q3, (gn 4).trans q4, (gn 5).trans q5, q6.congr (fun x hx => by rw [g, if_neg (by omega)]) (fun x hx => by rw [g, if_neg (by omega)]) (fun _ _ => rfl), q7.same hl (fun c hc f => go c (fun e9 => il (e9 ▸ hc)) f) (fun _ _ => rfl), trivial⟩
        · rw [g, if_neg (by omega)]; exact q1.nd
        · rw [g, if_pos ⟨rfl, rfl⟩]
        · rw [g, if_neg (by omega), hs]; exact q1.s
    · exact hout s (List.mem_append_right _ h9)
/-- The trees of a heap one of whose items has a lower key. -/
theorem low_cells {t : LT} {pre post : List LT} {fs : List Fr} {n i : Nat} {e e' : Ent} {m : Bool} {l : LT} (hrow : row t = pre ++ fills fs (node n i e m l LT.nil) :: post) (hf : ∀ f ∈ fs, f.Ok) : (cellsL (pre ++ fills fs (node n i e' m l LT.nil) :: post)).Perm (cells t) := by
  rw [← row_cells t, hrow]
  simp only [cellsL, List.flatMap_append, List.flatMap_cons]
  exact ((fills_cells2 hf).append_right _).append_left _
theorem low_sg {t : LT} {pre post : List LT} {fs : List Fr} {n i : Nat} {e e' : Ent} {m : Bool} {l : LT} (hrow : row t = pre ++ fills fs (node n i e m l LT.nil) :: post) : ∀ x ∈ pre ++ fills fs (node n i e' m l LT.nil) :: post, Sg x := fun x hx => by
  have hsg := row_sg t
  rw [hrow] at hsg
  rcases List.mem_append.1 hx with h | h
  · exact hsg x (List.mem_append_left _ h)
  · rcases List.mem_cons.1 h with rfl | h
    · exact fills_sg fs rfl
    · exact hsg x (by simp [h])
theorem HpF.eff {β : AS} {S L : Nat → Prop} {d k : Int} {r : Int} {t : HT} {i : Nat} {e e' : Ent} (h : HpF α r t i e e') (he : AS.Eff S L d k α β) (hS : ∀ c ∈ t.cells, ¬ S c) (hL : ∀ c ∈ t.cells, ¬ L c) : HpF β r t i e e' := by
  obtain ⟨pre, post, fs, n, m, l, h1, h2, h3, h4, h5, h6, h7⟩ := h
  have hc := low_cells (e' := e') h1 h2
  refine ⟨pre, post, fs, n, m, l, h1, h2, h3, repL_congr h4 (low_sg h1) (hc.nodup_iff.2 h6) (fun c hm f _ => he.get c (hS c (hc.mem_iff.1 hm)) f) (fun c hm => he.live c (hL c (hc.mem_iff.1 hm))), h5.congr (fun x hx => he.get x (hS x (mem_nds (mem_rts hx))) 3) (fun x hx => he.get x (hS x (mem_nds (mem_rts hx))) 2) (fun x hx => he.live x (hL x (mem_nds (mem_rts hx)))), h6, h7⟩

/-- Of two tops the lesser one is the first from now on. -/
theorem lesser_hp (hA : Holds w0 F M (arenaA a α)) {ts : List LT} {x y : LT} (hT : Tops α ts) (hx : x ∈ ts) (hy : y ∈ ts) (ho : ∀ t ∈ ts, Od t) (hk : ∀ t ∈ ts, KO t) (hl : ∀ z ∈ ts, z = x ∨ z = y ∨ Bf (top x) (top z))
    (h : ∀ M' β (t' : HT), Holds w0 F M' (arenaA a β) → Hp β t'.root t' → t'.its.Perm (itsL ts) → t'.cells.Perm (cellsL ts) → HT.pot t' = potL ts → AS.Sm 6 α β → R (.int .i64 t'.root) M') :
    C PP w0 Id.fib_lesser #[.pointer (some ⟨a, 0, none⟩), .int .i64 (rt1 x : Int), .int .i64 (rt1 y : Int)] R M := by
  obtain ⟨xn, xi, xe, xm, xl, rfl⟩ := sg_node (hT.sg x hx)
  obtain ⟨yn, yi, ye, ym, yl, rfl⟩ := sg_node (hT.sg y hy)
  refine lesser_ok hA (hT.rep _ hx).1 (hT.rep _ hy).1 fun M1 β hB hs => ?_
  have hTb : Tops β ts := ⟨hT.sg, repL_congr hT.rep hT.sg hT.nd (fun c _ k _ => by rw [hs.get]) (fun c _ => by rw [hs.live]), hT.nd, by
    obtain ⟨L, h1, h2⟩ := hT.rg
    exact ⟨L, h1, h2.congr (fun _ _ => by rw [hs.get]) (fun _ _ => by rw [hs.get]) (fun _ _ => by rw [hs.live])⟩⟩
  have fin : ∀ z ∈ ts, (∀ u ∈ ts, u = z ∨ Bf (top z) (top u)) → R (.int .i64 (rt1 z : Int)) M1 := fun z hz hlz => by
    obtain ⟨t', k1, k2, k3, k4, k5⟩ := tops_hp hTb hz ho hk hlz
    have := h M1 β t' hB k1 k3 k4 k5 hs
    rwa [show HT.root t' = _ from k2] at this
  by_cases hb : Bf (yi, ye) (xi, xe)
  · rw [if_pos hb]
    refine fin _ hy fun u hu => ?_
    rcases hl u hu with rfl | rfl | h9
    · exact .inr hb
    · exact .inl rfl
    · exact .inr (Bf.tr (y := (xi, xe)) hb h9)
  · rw [if_neg hb]
    refine fin _ hx fun u hu => ?_
    rcases hl u hu with rfl | rfl | h9
    · exact .inl rfl
    · by_cases he : node yn yi ye ym yl LT.nil = node xn xi xe xm xl LT.nil
      · exact .inl he
      · refine .inr (Bf.tot hb fun e9 => he ?_)
        have e9' : yi = xi := e9
        exact cellsL_dis hT.nd _ hy _ hx yi (by simp [cells]) (by rw [e9']; simp [cells])
    · exact .inr h9

/-- Where the first ones stand. -/
theorem tops_least {ts : List LT} {L : List Held} {i : Nat} {e' : Ent} {tp : Held} {x : LT} (hsg : ∀ t ∈ ts, Sg t) (hnd : (cellsL ts).Nodup) (hp : (itsL ts).Perm ((i, e') :: L)) (hL : ∀ z ∈ L, z = tp ∨ Bf tp z) (hx : x ∈ ts) (htx : top x = tp) :
    ∀ z ∈ ts, (top z).1 = i ∨ z = x ∨ Bf (top x) (top z) := fun z hz => by
  have hm : top z ∈ itsL ts := List.mem_flatMap.2 ⟨z, hz, top_mem (hsg z hz)⟩
  rcases List.mem_cons.1 (hp.mem_iff.1 hm) with h | h
  · exact .inl (by rw [h])
  · rcases hL _ h with h9 | h9
    · refine .inr (.inl ?_)
      have h1 := mem_its (top_mem (hsg z hz))
      have h2 := mem_its (top_mem (hsg x hx))
      rw [h9] at h1
      rw [htx] at h2
      exact cellsL_dis hnd z hz x hx _ h1 h2
    · exact .inr (.inr (by rw [htx]; exact h9))

theorem heap_fall_ok (hA : Holds w0 F M (arenaA a α)) {r : Int} {t : HT} {i : Nat} {e e' : Ent} (hF : HpF α r t i e e')
    (h : ∀ M' β (t' : HT), Holds w0 F M' (arenaA a β) → Hp β t'.root t' → (∀ L, t.its.Perm ((i, e) :: L) → t'.its.Perm ((i, e') :: L)) → t'.cells.Perm t.cells → AS.Eff (fun c => c ∈ t.cells) (fun _ => False) 0 (500 + HT.pot t - HT.pot t') α β → R (.int .i64 t'.root) M') :
    C PP w0 Id.fib_Fall #[.pointer (some ⟨a, 0, none⟩), .int .i64 r, .int .i64 (i : Int)] R M := by
  obtain ⟨pre, post, fs, n, m, l, hrow, hf, hr, hrep, hrg, hnd, hod, hko, hleast, hk1, hk2⟩ := hF
  apply fib_Fall.go
  intro pts H
  unfold fib_Fall.T
  have hI := hA.inv
  simp only [go_sem, Option.isNone_some, bs_false]
  have hsg0 := row_sg t
  have hor := row_od hod
  have hkr := row_ko hko
  rw [hrow] at hsg0 hor hkr
  have hsg := low_sg (e' := e') hrow
  have hcl := low_cells (e' := e') hrow hf
  have hnd1 := hcl.nodup_iff.2 hnd
  have ht1 : Sg (node n i e' m l LT.nil) := rfl
  have ht0 : Sg (node n i e m l LT.nil) := rfl
  have hod0 : Od (fills fs (node n i e m l LT.nil)) := hor _ (by simp)
  have hodt := (fills_od hf ht0 hod0).1
  have hod1 : Od (node n i e' m l LT.nil) := od_low hk1 hk2 hodt
  have hko0 := (fills_ko hf ht0).1 (hkr _ (by simp))
  have hko1 : KO (node n i e' m l LT.nil) := hko0.2
  have hkof : KO (fills fs (node n i e' m l LT.nil)) := (fills_ko hf ht1).2 ⟨hko0.1, hko1⟩
  have hmkt : mkt (fills fs (node n i e' m l LT.nil)) = mkt (fills fs (node n i e m l LT.nil)) := by
    rw [fills_mkt hf ht1, fills_mkt hf ht0]; rfl
  have hmapr : (pre ++ fills fs (node n i e' m l LT.nil) :: post).map rt1 = rts t := by
    rw [← rts_row t, hrow]
    simp only [List.map_append, List.map_cons, fills_rt1]; rfl
  have hT1 : Tops α (pre ++ fills fs (node n i e' m l LT.nil) :: post) := ⟨hsg, hrep, hnd1, rts t, by rw [hmapr], hrg⟩
  have hpm := mid_perm pre post (fills fs (node n i e' m l LT.nil))
  have hT2 := hT1.perm hpm
  have hpot0 : HT.pot t = 30 * (((pre ++ post).length : Int) + 1) + 60 * ((mktL (pre ++ post) + mkt (fills fs (node n i e m l LT.nil)) : Nat) : Int) := by
    unfold HT.pot potL
    rw [hrow, mktL_perm (mid_perm pre post _), (mid_perm pre post (fills fs (node n i e m l LT.nil))).length_eq, mktL_cons, List.length_cons]
    omega
  have hpot1 : potL (pre ++ fills fs (node n i e' m l LT.nil) :: post) = HT.pot t := by
    rw [hpot0]
    unfold potL
    rw [mktL_perm hpm, hpm.length_eq, mktL_cons, List.length_cons, hmkt]
    omega
  -- items
  have hX : (its t).Perm ((i, e) :: (its l ++ itsC fs ++ itsL (pre ++ post))) := by
    rw [← row_its t, hrow]
    refine (itsL_perm (mid_perm pre post _)).trans ?_
    simp only [itsL, List.flatMap_cons]
    refine ((fills_its hf ht0).append_right _).trans ?_
    simp [its]
  have hX1 : (its (fills fs (node n i e' m l LT.nil)) ++ itsL (pre ++ post)).Perm ((i, e') :: (its l ++ itsC fs ++ itsL (pre ++ post))) := by
    refine ((fills_its hf ht1).append_right _).trans ?_
    simp [its]
  have hperm : ∀ us : List Held, us.Perm ((i, e') :: (its l ++ itsC fs ++ itsL (pre ++ post))) → ∀ L, (its t).Perm ((i, e) :: L) → us.Perm ((i, e') :: L) := fun us hus L hL =>
    hus.trans (List.Perm.cons _ (List.Perm.cons_inv (hX.symm.trans hL)))
  have hits1 : (itsL (pre ++ fills fs (node n i e' m l LT.nil) :: post)).Perm ((i, e') :: (its l ++ itsC fs ++ itsL (pre ++ post))) := by
    refine (itsL_perm hpm).trans ?_
    simp only [itsL, List.flatMap_cons]
    exact hX1
  have hXm : ∀ z ∈ its l ++ itsC fs ++ itsL (pre ++ post), z ∈ its t ∧ z.1 ≠ i := fun z hz => by
    refine ⟨hX.mem_iff.2 (List.mem_cons_of_mem _ hz), fun e9 => ?_⟩
    have h1 : (its t).map (·.1) |>.Nodup := by
      have key : ∀ {t : LT}, (cells t).Nodup → ((its t).map (·.1)).Nodup := by
        intro t
        induction t with
        | nil => intro _; exact List.nodup_nil
        | node n i e m l r ihl ihr =>
          intro hn
          simp only [cells, List.nodup_cons, List.mem_cons, List.mem_append, not_or] at hn
          obtain ⟨_, ⟨il, ir⟩, hlr⟩ := hn
          obtain ⟨h1, h2, h3⟩ := List.nodup_append.1 hlr
          simp only [its, List.map_cons, List.map_append, List.nodup_cons, List.mem_append, List.nodup_append]
          refine ⟨fun hm => ?_, ihl h1, ihr h2, fun x hx y hy e => ?_⟩
          · rcases hm with hm | hm
            · obtain ⟨x, hx, rfl⟩ := List.mem_map.1 hm; exact il (mem_its hx)
            · obtain ⟨x, hx, rfl⟩ := List.mem_map.1 hm; exact ir (mem_its hx)
          · obtain ⟨u, hu, rfl⟩ := List.mem_map.1 hx
            obtain ⟨v, hv, rfl⟩ := List.mem_map.1 hy
            exact h3 _ (mem_its hu) _ (mem_its hv) e
      exact key hnd
    have h2 := (hX.map (·.1)).nodup_iff.1 h1
    rw [List.map_cons, List.nodup_cons] at h2
    exact h2.1 (by rw [← e9]; exact List.mem_map_of_mem (f := (·.1)) hz)
  have hLt : ∀ z ∈ its l ++ itsC fs ++ itsL (pre ++ post), z = top t ∨ Bf (top t) z := fun z hz => hleast z (hXm z hz).1
  -- the first one
  cases t with
  | nil => simp [row] at hrow
  | node tn ti te tm tl tr =>
  have hrr : r = (tn : Int) := hr
  have htop : top (node tn ti te tm tl tr) = (ti, te) := rfl
  have hNdi := ((rep_fills hf ht1).1 (hrep _ (by simp))).2.1
  refine Node_ok hA fun M1 hA1 => ?_
  rw [show α.cellI (i : Int) 9 = (n : Int) from AS.cellI_live (f := 9) hNdi.li (by omega) hNdi.nd (AS.live_lt hI hNdi.ln)]
  simp only [go_sem, bs_beq]
  rw [if_neg (by omega), hrr]
  have tops_tick : ∀ {β : AS} {ts : List LT} {k : Int}, Tops α ts → AS.Sm k α β → Tops β ts := fun {β ts k} hT hs => ⟨hT.sg, repL_congr hT.rep hT.sg hT.nd (fun c _ k _ => by rw [hs.get]) (fun c _ => by rw [hs.live]), hT.nd, by
    obtain ⟨L, h1, h2⟩ := hT.rg
    exact ⟨L, h1, h2.congr (fun _ _ => by rw [hs.get]) (fun _ _ => by rw [hs.get]) (fun _ _ => by rw [hs.live])⟩⟩
  have hcf := fills_cells hf ht1
  have hnd2 := (cellsL_perm hpm).nodup_iff.1 hnd1
  simp only [cellsL, List.flatMap_cons] at hnd2
  obtain ⟨z1, z2, z3⟩ := List.nodup_append.1 hnd2
  obtain ⟨y1, y2, y3⟩ := List.nodup_append.1 (hcf.nodup_iff.1 z1)
  have hnm : n ∈ cells (node n i e' m l LT.nil) := by simp [cells]
  have him : i ∈ cells (node n i e' m l LT.nil) := by simp [cells]
  have hhead : node tn ti te tm tl LT.nil ∈ pre ++ fills fs (node n i e m l LT.nil) :: post := by rw [← hrow]; simp [row]
  by_cases hnt : n = tn
  · -- it is the root
    rw [if_pos (by omega)]
    have hmid : fills fs (node n i e m l LT.nil) = node tn ti te tm tl LT.nil := by
      have hnc : (cellsL (pre ++ fills fs (node n i e m l LT.nil) :: post)).Nodup := by rw [← hrow, row_cells]; exact hnd
      exact cellsL_dis hnc _ (by simp) _ hhead n ((fills_cells hf ht0).mem_iff.2 (by simp [cells])) (by rw [hnt]; simp [cells])
    have hfs : fs = [] := by
      apply Decidable.byContradiction
      intro hne
      have h9 := fills_rt1 fs (node n i e m l LT.nil)
      rw [hmid] at h9
      have h8 := topN_mem (x := n) hne
      have h7 : tn = topN fs n := h9
      rw [← h7, ← hnt] at h8
      exact y3 n hnm n h8 rfl
    subst hfs
    have hmid' : node n i e m l LT.nil = node tn ti te tm tl LT.nil := hmid
    injection hmid' with e1 e2 e3 e4 e5 _
    have hmem : fills [] (node n i e' m l LT.nil) ∈ pre ++ fills [] (node n i e' m l LT.nil) :: post := by simp
    obtain ⟨t', k1, k2, k3, k4, k5⟩ := tops_hp (tops_tick hT1 (AS.tick_sm (α := α))) hmem (fun s hs => by
        rcases List.mem_append.1 hs with h9 | h9
        · exact hor s (List.mem_append_left _ h9)
        · rcases List.mem_cons.1 h9 with rfl | h9
          · exact hod1
          · exact hor s (by simp [h9])) (fun s hs => by
        rcases List.mem_append.1 hs with h9 | h9
        · exact hkr s (List.mem_append_left _ h9)
        · rcases List.mem_cons.1 h9 with rfl | h9
          · exact hkof
          · exact hkr s (by simp [h9])) (fun z hz => by
        have hm : top z ∈ itsL (pre ++ fills [] (node n i e' m l LT.nil) :: post) := List.mem_flatMap.2 ⟨z, hz, top_mem (hsg z hz)⟩
        rcases List.mem_cons.1 (hits1.mem_iff.1 hm) with h9 | h9
        · refine .inl (cellsL_dis hnd1 z hz _ hmem i ?_ him)
          have := mem_its (top_mem (hsg z hz))
          rw [h9] at this; exact this
        · refine .inr (bf_low hk1 hk2 ?_)
          rcases hLt _ h9 with h8 | h8
          · exfalso
            refine (hXm _ h9).2 ?_
            rw [h8, htop, e2]
          · rw [htop, ← e2, ← e3] at h8; exact h8)
    have := h M1 α.tick t' hA1 k1 (fun L hL => hperm _ (k3.trans hits1) L hL) (k4.trans hcl) (AS.tick_sm.eff.mono (fun _ h => h) (fun _ h => h) (by rw [k5, hpot1]; omega))
    rw [show HT.root t' = _ from k2] at this
    rw [← hnt]
    exact this
  · rw [if_neg (by omega), H.J1]
    unfold fib_Fall.J1.T
    refine Cell_ok hA1 fun M2 hA2 => ?_
    have hup : α.tick.cellI (n : Int) 0 = upOf fs := by
      obtain ⟨h1, h2⟩ := (rep_fills hf ht1).1 (hrep _ (by simp))
      cases fs with
      | nil => exact AS.cellI_neg (α := α.tick) (c := n) (f := 0) h2.1.ln (by omega) h2.2.1
      | cons f fs => exact AS.cellI_live (α := α.tick) (c := n) (f := 0) h2.1.ln (by omega) h2.2.1 (AS.live_lt hI h1.1.1.ln)
    rw [hup, shI_v, bs_bne]
    have s2 : AS.Sm 2 α α.tick.tick := (AS.tick_sm.trans AS.tick_sm).mono (by omega)
    split
    · -- it is a top, but not the first one
      rename_i h0
      have hfe : fs = [] := by
        cases fs with
        | nil => rfl
        | cons f fs => exfalso; simp only [upOf] at h0; omega
      subst hfe
      have hhd : node tn ti te tm tl LT.nil ∈ pre ++ fills [] (node n i e' m l LT.nil) :: post := by
        rcases List.mem_append.1 hhead with h9 | h9
        · exact List.mem_append_left _ h9
        · rcases List.mem_cons.1 h9 with h9 | h9
          · exfalso
            have h8 : node tn ti te tm tl LT.nil = node n i e m l LT.nil := h9
            injection h8 with e1
            exact hnt e1.symm
          · simp [h9]
      have hmem : fills [] (node n i e' m l LT.nil) ∈ pre ++ fills [] (node n i e' m l LT.nil) :: post := by simp
      refine lesser_hp (x := node tn ti te tm tl LT.nil) (y := node n i e' m l LT.nil) hA2 (tops_tick hT1 s2) hhd hmem (fun s hs => by
        rcases List.mem_append.1 hs with h9 | h9
        · exact hor s (List.mem_append_left _ h9)
        · rcases List.mem_cons.1 h9 with rfl | h9
          · exact hod1
          · exact hor s (by simp [h9])) (fun s hs => by
        rcases List.mem_append.1 hs with h9 | h9
        · exact hkr s (List.mem_append_left _ h9)
        · rcases List.mem_cons.1 h9 with rfl | h9
          · exact hkof
          · exact hkr s (by simp [h9])) (fun z hz => ?_) fun M3 β t' hB k1 k3 k4 k5 hs => ?_
      · rcases tops_least hsg hnd1 hits1 (tp := (ti, te)) hLt hhd rfl z hz with h9 | h9 | h9
        · refine .inr (.inl (cellsL_dis hnd1 z hz _ hmem i ?_ him))
          have := mem_its (top_mem (hsg z hz))
          rw [h9] at this; exact this
        · exact .inl h9
        · exact .inr (.inr h9)
      · simp only [go_sem]
        exact h M3 β t' hB k1 (fun L hL => hperm _ (k3.trans hits1) L hL) (k4.trans hcl) ((s2.trans hs).eff.mono (fun _ h => h) (fun _ h => h) (by rw [k5, hpot1]; omega))
    · rename_i h0
      cases fs with
      | nil => exact absurd rfl h0
      | cons f fs =>
      have hne : f :: fs ≠ [] := by simp
      have hNf := ((rep_fills hf ht1).1 (hrep _ (by simp))).1.1.1
      have hNi2 : α.tick.tick.Nd n i e' := s2.nd hNdi
      have hNf2 : α.tick.tick.Nd f.n f.i f.e := s2.nd hNf
      have hfi : f.i ≠ i := fun e9 => y3 i him f.i (by
        simp only [cellsC, List.flatMap_cons]
        exact List.mem_append_left _ (by simp [Fr.less, cells])) e9.symm
      rw [show upOf (f :: fs) = (f.n : Int) from rfl]
      refine nBefore_ok hA2 hNi2 hNf2 fun M3 β hB hs => ?_
      have s3 : AS.Sm 8 α β := (s2.trans hs).mono (by omega)
      simp only [shB_v, bs_not, bs_decide]
      -- the first one, whatever becomes of the other trees
      have hfirst : ∃ x ∈ pre ++ fills (f :: fs) (node n i e' m l LT.nil) :: post, rt1 x = tn ∧ top x = (ti, te) := by
        rcases List.mem_append.1 hhead with h9 | h9
        · exact ⟨node tn ti te tm tl LT.nil, List.mem_append_left _ h9, rfl, rfl⟩
        · rcases List.mem_cons.1 h9 with h9 | h9
          · refine ⟨fills (f :: fs) (node n i e' m l LT.nil), by simp, ?_, ?_⟩
            · rw [fills_rt1]
              have := fills_rt1 (f :: fs) (node n i e m l LT.nil)
              rw [← h9] at this
              exact this.symm
            · rw [fills_top _ (node n i e m l LT.nil) hne, ← h9]; rfl
          · exact ⟨node tn ti te tm tl LT.nil, by simp [h9], rfl, rfl⟩
      split
      · -- cut
        rename_i hb
        obtain ⟨x1, hx1, hxr, hxt⟩ := hfirst
        refine fcut_ok (fs0 := f :: fs) (t0 := node n i e' m l LT.nil) hB (r0 := tn) (us := pre ++ post) hf ht1 (tops_tick hT2 s3) (by rw [← hxr]; exact List.mem_map_of_mem (hpm.mem_iff.1 hx1)) hne fun M4 γ hC hTc hcc => ?_
        obtain ⟨cr, hcr⟩ := casc_head (fs := f :: fs) (t := node n i e' m l LT.nil) hne
        obtain ⟨p1, p2, p3, p4, p5⟩ := casc_perm (fs := f :: fs) (t := node n i e' m l LT.nil) hf ht1
        obtain ⟨o1, o2⟩ := casc_od (fs := f :: fs) hf ht0 ht1 hod0 hod1
        obtain ⟨q1, q2⟩ := casc_ko (fs := f :: fs) (t := node n i e' m l LT.nil) hf ht1 hko0.1 hko1
        have hmk := casc_mkt (fs := f :: fs) hf (t := node n i e' m l LT.nil) ht1 hne
        have hfm := fills_mkt (fs := f :: fs) hf (t := node n i e' m l LT.nil) ht1
        rw [if_neg hne] at hfm
        have hmm := mkt_le (node n i e' m l LT.nil)
        have hsame := casc_same (fs := f :: fs) (t := node n i e' m l LT.nil) hne
        generalize hc1 : (casc (f :: fs) (node n i e' m l LT.nil)).1 = c1 at hTc hcc hcr p1 p2 p3 p4 o1 q1 hmk
        generalize hc2 : (casc (f :: fs) (node n i e' m l LT.nil)).2 = c2 at hTc hcc p1 p2 p3 p5 o2 q2 hmk hsame
        have hmy : node n i e' m l LT.nil ∈ c1 ++ c2 :: (pre ++ post) := by rw [hcr]; simp
        have hits2 : (itsL (c1 ++ c2 :: (pre ++ post))).Perm ((i, e') :: (its l ++ itsC (f :: fs) ++ itsL (pre ++ post))) := by
          have e9 : itsL (c1 ++ c2 :: (pre ++ post)) = (itsL c1 ++ its c2) ++ itsL (pre ++ post) := by simp [itsL]
          rw [e9]
          exact (p1.append_right _).trans hX1
        have hcel2 : (cellsL (c1 ++ c2 :: (pre ++ post))).Perm (cells (node tn ti te tm tl tr)) := by
          have e9 : cellsL (c1 ++ c2 :: (pre ++ post)) = (cellsL c1 ++ cells c2) ++ cellsL (pre ++ post) := by simp [cellsL]
          rw [e9]
          refine (p3.append_right _).trans (List.Perm.trans ?_ hcl)
          exact (cellsL_perm hpm).symm
        obtain ⟨x2, hx2, hxr2, hxt2⟩ : ∃ x ∈ c1 ++ c2 :: (pre ++ post), rt1 x = tn ∧ top x = (ti, te) := by
          rcases List.mem_cons.1 (hpm.mem_iff.1 hx1) with h9 | h9
          · refine ⟨c2, by simp, ?_, ?_⟩
            · rw [hsame.2, ← h9]; exact hxr
            · rw [hsame.1, ← h9]; exact hxt
          · exact ⟨x1, by simp only [List.mem_append, List.mem_cons]; exact .inr (.inr (List.mem_append.1 h9)), hxr, hxt⟩
        have := lesser_hp (R := fun v16 M17 => shI .i64 v16 fun n18 => R (.int .i64 n18) M17) (x := x2) (y := node n i e' m l LT.nil) hC hTc hx2 hmy (fun s hs => by
          rcases List.mem_append.1 hs with h9 | h9
          · exact o1 s h9
          · rcases List.mem_cons.1 h9 with rfl | h9
            · exact o2 hne
            · exact hor s (by rcases List.mem_append.1 h9 with h9 | h9 <;> simp [h9])) (fun s hs => by
          rcases List.mem_append.1 hs with h9 | h9
          · exact q1 s h9
          · rcases List.mem_cons.1 h9 with rfl | h9
            · exact q2
            · exact hkr s (by rcases List.mem_append.1 h9 with h9 | h9 <;> simp [h9])) (fun z hz => by
          rcases tops_least hTc.sg hTc.nd hits2 (tp := (ti, te)) hLt hx2 hxt2 z hz with h9 | h9 | h9
          · refine .inr (.inl (cellsL_dis hTc.nd z hz _ hmy i ?_ him))
            have := mem_its (top_mem (hTc.sg z hz))
            rw [h9] at this; exact this
          · exact .inl h9
          · exact .inr (.inr h9)) fun M5 δ t' hD k1 k3 k4 k5 hs5 => by
            simp only [go_sem]
            refine h M5 δ t' hD k1 (fun L hL => hperm _ (k3.trans hits2) L hL) (k4.trans hcel2) (AS.Eff.mono ((s3.eff.trans ((hcc.mono (T := fun c => c ∈ cells (node tn ti te tm tl tr)) (fun c hc => hcl.mem_iff.1 ((cellsL_perm hpm).mem_iff.2 hc)) (Int.le_refl _)).eff)).trans hs5.eff) (fun _ h => h) (fun _ h => h) ?_ |>.to (by omega))
            rw [k5, hpot0]
            unfold potL
            rw [mktL_app c1 (c2 :: (pre ++ post)), mktL_cons c2, ← hmkt, hfm]
            simp only [List.length_append, List.length_cons]
            omega
        rw [hxr2] at this
        exact this
      · -- it stays where it is
        rename_i hb
        obtain ⟨x1, hx1, hxr, hxt⟩ := hfirst
        have hb2 : Bf (f.i, f.e) (i, e') := Bf.tot hb fun e9 => hfi e9.symm
        have hodf : Od (fills (f :: fs) (node n i e' m l LT.nil)) := fills_od2 hf (t := node n i e m l LT.nil) (y := (i, e')) ht0 ht1 hod0 hod1 (fun z hz => by
          simp only [its, List.append_nil, List.mem_cons] at hz ⊢
          rcases hz with hz | hz
          · exact .inl hz
          · exact .inr (.inr hz)) (fun g gs hg => by cases hg; exact hb2)
        obtain ⟨t', k1, k2, k3, k4, k5⟩ := tops_hp (tops_tick hT1 s3) hx1 (fun s hs => by
          rcases List.mem_append.1 hs with h9 | h9
          · exact hor s (List.mem_append_left _ h9)
          · rcases List.mem_cons.1 h9 with rfl | h9
            · exact hodf
            · exact hor s (by simp [h9])) (fun s hs => by
          rcases List.mem_append.1 hs with h9 | h9
          · exact hkr s (List.mem_append_left _ h9)
          · rcases List.mem_cons.1 h9 with rfl | h9
            · exact hkof
            · exact hkr s (by simp [h9])) (fun z hz => by
          rcases tops_least hsg hnd1 hits1 (tp := (ti, te)) hLt hx1 hxt z hz with h9 | h9 | h9
          · exfalso
            -- no top is that item
            have hzc : i ∈ cells z := by
              have := mem_its (top_mem (hsg z hz))
              rw [h9] at this; exact this
            have hzz := cellsL_dis hnd1 z hz (fills (f :: fs) (node n i e' m l LT.nil)) (by simp) i hzc (hcf.mem_iff.2 (List.mem_append_left _ him))
            rw [hzz] at h9
            have hC : ∀ (fs : List Fr) (t : LT), fs ≠ [] → (top (fills fs t)).1 ∈ cellsC fs := by
              intro fs
              induction fs with
              | nil => intro t h; exact absurd rfl h
              | cons g gs ih =>
                intro t _
                cases gs with
                | nil => simp [fills, Fr.fill, top, cellsC, Fr.less, cells]
                | cons g2 gs =>
                  have := ih (g.fill t) (by simp)
                  simp only [cellsC, List.flatMap_cons] at this ⊢
                  exact List.mem_append_right _ this
            exact y3 i him _ (hC (f :: fs) (node n i e' m l LT.nil) hne) h9.symm
          · exact .inl h9
          · exact .inr h9)
        have := h M3 β t' hB k1 (fun L hL => hperm _ (k3.trans hits1) L hL) (k4.trans hcl) (s3.eff.mono (fun _ h => h) (fun _ h => h) (by rw [k5, hpot1]; omega))
        rw [show HT.root t' = _ from k2, hxr] at this
        exact this

theorem heap_cut_ok (hA : Holds w0 F M (arenaA a α)) {r : Int} {t : HT} (hp : Hp α r t) {i : Nat} {e : Ent} (hm : (i, e) ∈ t.its)
    (h : ∀ L, t.its.Perm ((i, e) :: L) → ∀ M' β (t' : HT) n, n ∈ t.nds → Holds w0 F M' (arenaA a β) → Hp β t'.root t' → t'.its.Perm L → (∀ c ∈ t'.cells, c ∈ t.cells) → i ∉ t'.cells → AS.Eff (fun c => c ∈ t.cells) (· = n) (-1) (limH (t.its.length) + HT.pot t - HT.pot t') α β → β.get i 9 = -1 ∧ β.live i = true → R (.int .i64 t'.root) M') :
    C PP w0 Id.fib_Cut #[.pointer (some ⟨a, 0, none⟩), .int .i64 r, .int .i64 (i : Int)] R M := by
  obtain ⟨pre, post, fs, n, m, l, hrow, hf⟩ := find1 hm
  apply fib_Cut.go
  intro pts H
  unfold fib_Cut.T
  have hI := hA.inv
  simp only [go_sem, Option.isNone_some, bs_false]
  have hT := hp.tops
  have hor := row_od hp.od
  have hkr := row_ko hp.ko
  have hpm := mid_perm pre post (fills fs (node n i e m l LT.nil))
  have hpc : (cellsL (fills fs (node n i e m l LT.nil) :: (pre ++ post))).Perm (cells t) := by
    rw [← row_cells t, hrow]
    exact (cellsL_perm hpm).symm
  have ht0 : Sg (node n i e m l LT.nil) := rfl
  have hpi : (its t).Perm ((i, e) :: (its l ++ (itsC fs ++ itsL (pre ++ post)))) := by
    rw [← row_its t, hrow]
    refine (itsL_perm hpm).trans ?_
    simp only [itsL, List.flatMap_cons]
    refine ((fills_its hf ht0).append_right _).trans ?_
    simp [its]
  have hpot0 : HT.pot t = 30 * (((pre ++ post).length : Int) + 1) + 60 * ((mktL (pre ++ post) + mkt (fills fs (node n i e m l LT.nil)) : Nat) : Int) := by
    unfold HT.pot potL
    rw [hrow, mktL_perm (mid_perm pre post _), (mid_perm pre post (fills fs (node n i e m l LT.nil))).length_eq, mktL_cons, List.length_cons]
    omega
  rw [hrow] at hT hor hkr
  have hT2 := hT.perm hpm
  have hrf := (rep_fills hf ht0).1 (hT2.rep _ List.mem_cons_self)
  have hNdi := hrf.2.1
  have hcf := fills_cells hf ht0
  have hnd2 := hT2.nd
  simp only [cellsL, List.flatMap_cons] at hnd2
  obtain ⟨z1, z2, z3⟩ := List.nodup_append.1 hnd2
  obtain ⟨y1, y2, y3⟩ := List.nodup_append.1 (hcf.nodup_iff.1 z1)
  have y1' := y1
  simp only [cells, List.append_nil, List.nodup_cons, List.mem_cons, not_or] at y1'
  have hnn : n ∈ nds t := by
    have h1 : (ndsL (row t)) = nds t := row_nds t
    rw [← h1, hrow]
    refine (ndsL_perm hpm).mem_iff.2 ?_
    simp only [ndsL, List.flatMap_cons, List.mem_append]
    left
    have key : ∀ {fs : List Fr} {t : LT}, (∀ f ∈ fs, f.Ok) → Sg t → ∀ c ∈ nds t, c ∈ nds (fills fs t) := by
      intro fs
      induction fs with
      | nil => intro t _ _ c hc; exact hc
      | cons f fs ih =>
        intro t hf ht c hc
        exact ih (t := f.fill t) (fun g hg => hf g (List.mem_cons_of_mem _ hg)) (fill_sg f t) c ((fill_its (hf f List.mem_cons_self) ht).2.1.mem_iff.2 (List.mem_append_left _ hc))
    exact key hf ht0 n (by simp [nds])
  -- what the pop yields
  have fin : ∀ (M1 : Mem) (β : AS) (ts : List LT) (k : Int), Holds w0 F M1 (arenaA a β) → Tops β (node n i e m l LT.nil :: ts) → (∀ t ∈ node n i e m l LT.nil :: ts, Od t) → (∀ t ∈ node n i e m l LT.nil :: ts, KO t) → (itsL ts).Perm (itsC fs ++ itsL (pre ++ post)) → (cellsL (node n i e m l LT.nil :: ts)).Perm (cells t) →
      AS.Chg (fun c => c ∈ cells t) k α β → k + 30 * (ts.length : Int) + 60 * (mktL (node n i e m l LT.nil :: ts) : Int) ≤ 160 + HT.pot t → fib_Cut.J1 pts (some ⟨a, 0, none⟩) (n : Int) M1 := by
    intro M1 β ts k hB hTb hob hkb hib hcb hch hk
    rw [H.J1]
    unfold fib_Cut.J1.T
    have hlen : (itsL (node n i e m l LT.nil :: ts)).length ≤ (its t).length := by
      have h1 : (itsL (node n i e m l LT.nil :: ts)).length = (its l).length + 1 + (itsL ts).length := by simp [itsL, its]; omega
      rw [h1, hib.length_eq, hpi.length_eq]
      simp only [List.length_cons, List.length_append]; omega
    refine fpop_hp hB hTb hob hkb (N := (its t).length) hlen fun M2 γ t' hC k1 k3 k4 he hi9 => ?_
    simp only [go_sem]
    have hsub : ∀ c ∈ t'.cells, c ∈ cells l ∨ c ∈ cellsL ts := fun c hc => List.mem_append.1 (k4.mem_iff.1 hc)
    have hndb := hTb.nd
    simp only [cellsL, List.flatMap_cons, cells, List.append_nil, List.cons_append, List.nodup_cons, List.mem_cons, List.mem_append, not_or] at hndb
    refine h _ hpi M2 γ t' n hnn hC k1 (k3.trans (hib.append_left _)) (fun c hc => hcb.mem_iff.1 ?_) (fun hc => ?_) ((hch.eff.trans (he.mono (fun c hc => hcb.mem_iff.1 hc) (fun _ h => h) (Int.le_refl _))).mono (fun _ h => h) (fun _ h => h) ?_ |>.to (by omega)) ⟨hi9.1, hi9.2.2.2⟩
    · simp only [cellsL, List.flatMap_cons, cells, List.append_nil, List.cons_append, List.mem_cons, List.mem_append]
      rcases hsub c hc with h9 | h9
      · exact .inr (.inr (.inl h9))
      · exact .inr (.inr (.inr h9))
    · rcases hsub i hc with h9 | h9
      · exact hndb.2.1.1 h9
      · exact hndb.2.1.2 h9
    · unfold limH
      show k + (35 + 92 * (bl ((its t).length) : Int) + 30 * (ts.length : Int) + 60 * (mktL (node n i e m l LT.nil :: ts) : Int) - HT.pot t') ≤ 500 + 400 * (bl ((its t).length) : Int) + HT.pot t - HT.pot t'
      omega
  refine Node_ok hA fun M1 hA1 => ?_
  rw [show α.cellI (i : Int) 9 = (n : Int) from AS.cellI_live (f := 9) hNdi.li (by omega) hNdi.nd (AS.live_lt hI hNdi.ln)]
  simp only [go_sem, bs_beq]
  rw [if_neg (by omega)]
  refine Cell_ok hA1 fun M2 hA2 => ?_
  have hup : α.tick.cellI (n : Int) 0 = upOf fs := by
    obtain ⟨h1, h2⟩ := hrf
    cases fs with
    | nil => exact AS.cellI_neg (α := α.tick) (c := n) (f := 0) h2.1.ln (by omega) h2.2.1
    | cons f fs => exact AS.cellI_live (α := α.tick) (c := n) (f := 0) h2.1.ln (by omega) h2.2.1 (AS.live_lt hI h1.1.1.ln)
  rw [hup, shI_v, bs_bne]
  have s2 : AS.Sm 2 α α.tick.tick := (AS.tick_sm.trans AS.tick_sm).mono (by omega)
  have tops_tick : ∀ {β : AS} {ts : List LT} {k : Int}, Tops α ts → AS.Sm k α β → Tops β ts := fun {β ts k} hT hs => ⟨hT.sg, repL_congr hT.rep hT.sg hT.nd (fun c _ k _ => by rw [hs.get]) (fun c _ => by rw [hs.live]), hT.nd, by
    obtain ⟨L, h1, h2⟩ := hT.rg
    exact ⟨L, h1, h2.congr (fun _ _ => by rw [hs.get]) (fun _ _ => by rw [hs.get]) (fun _ _ => by rw [hs.live])⟩⟩
  have hodA : ∀ s ∈ pre ++ post, Od s := fun s hs => hor s (by rcases List.mem_append.1 hs with h9 | h9 <;> simp [h9])
  have hkoA : ∀ s ∈ pre ++ post, KO s := fun s hs => hkr s (by rcases List.mem_append.1 hs with h9 | h9 <;> simp [h9])
  have hod0 : Od (fills fs (node n i e m l LT.nil)) := hor _ (by simp)
  have hodt := (fills_od hf ht0 hod0).1
  have hko0 := (fills_ko hf ht0).1 (hkr _ (by simp))
  split
  · rename_i h0
    have hfe : fs = [] := by
      cases fs with
      | nil => rfl
      | cons f fs => exfalso; simp only [upOf] at h0; omega
    subst hfe
    refine fin M2 α.tick.tick (pre ++ post) 2 hA2 (tops_tick hT2 s2) (fun s hs => ?_) (fun s hs => ?_) (by simp [itsC]) hpc (s2.chg) ?_
    · rcases List.mem_cons.1 hs with rfl | hs
      · exact hod0
      · exact hodA s hs
    · rcases List.mem_cons.1 hs with rfl | hs
      · exact hko0.2
      · exact hkoA s hs
    · rw [hpot0, mktL_cons]
      simp only [fills]
      omega
  · rename_i h0
    have hne : fs ≠ [] := fun e9 => h0 (by rw [e9]; rfl)
    cases t with
    | nil => simp [row] at hrow
    | node tn ti te tm tl tr =>
    have hr0 : tn ∈ (fills fs (node n i e m l LT.nil) :: (pre ++ post)).map rt1 := by
      refine (hpm.map rt1).mem_iff.1 ?_
      rw [← hrow]
      simp [row, rt1]
    rw [show r = (tn : Int) from hp.r]
    refine fcut_ok (fs0 := fs) (t0 := node n i e m l LT.nil) hA2 (r0 := tn) (us := pre ++ post) hf ht0 (tops_tick hT2 s2) hr0 hne fun M4 γ hC hTc hcc => ?_
    obtain ⟨cr, hcr⟩ := casc_head (fs := fs) (t := node n i e m l LT.nil) hne
    obtain ⟨p1, p2, p3, p4, p5⟩ := casc_perm (fs := fs) (t := node n i e m l LT.nil) hf ht0
    obtain ⟨o1, o2⟩ := casc_od (fs := fs) hf ht0 ht0 hod0 hodt
    obtain ⟨q1, q2⟩ := casc_ko (fs := fs) (t := node n i e m l LT.nil) hf ht0 hko0.1 hko0.2
    have hmk := casc_mkt (fs := fs) hf (t := node n i e m l LT.nil) ht0 hne
    have hfm := fills_mkt (fs := fs) hf (t := node n i e m l LT.nil) ht0
    rw [if_neg hne] at hfm
    have hmm := mkt_le (node n i e m l LT.nil)
    generalize hc1 : (casc fs (node n i e m l LT.nil)).1 = c1 at hTc hcc hcr p1 p2 p3 p4 o1 q1 hmk
    generalize hc2 : (casc fs (node n i e m l LT.nil)).2 = c2 at hTc hcc p1 p2 p3 p5 o2 q2 hmk
    subst hcr
    refine fin M4 γ (cr ++ c2 :: (pre ++ post)) (2 + (3 + 19 * (((node n i e m l LT.nil :: cr).length : Nat) : Int))) hC hTc (fun s hs => ?_) (fun s hs => ?_) ?_ ?_ ((s2.chg.trans (hcc.mono (fun c hc => hpc.mem_iff.1 hc) (Int.le_refl _)))) ?_
    · rw [← List.cons_append] at hs
      rcases List.mem_append.1 hs with h9 | h9
      · exact o1 s h9
      · rcases List.mem_cons.1 h9 with rfl | h9
        · exact o2 hne
        · exact hodA s h9
    · rw [← List.cons_append] at hs
      rcases List.mem_append.1 hs with h9 | h9
      · exact q1 s h9
      · rcases List.mem_cons.1 h9 with rfl | h9
        · exact q2
        · exact hkoA s h9
    · have e9 : itsL (cr ++ c2 :: (pre ++ post)) = (itsL cr ++ its c2) ++ itsL (pre ++ post) := by simp [itsL]
      rw [e9]
      refine List.Perm.append_right _ ?_
      have h8 : ((i, e) :: (its l ++ (itsL cr ++ its c2))).Perm ((i, e) :: (its l ++ itsC fs)) := by
        have h7 := p1.trans (fills_its hf ht0)
        simpa [itsL, its] using h7
      exact (List.perm_append_left_iff _).1 (List.Perm.cons_inv h8)
    · refine List.Perm.trans ?_ hpc
      have e9 : cellsL (node n i e m l LT.nil :: (cr ++ c2 :: (pre ++ post))) = (cellsL (node n i e m l LT.nil :: cr) ++ cells c2) ++ cellsL (pre ++ post) := by simp [cellsL]
      rw [e9]
      exact p3.append_right _
    · rw [hpot0, hfm, mktL_cons (node n i e m l LT.nil), mktL_app cr (c2 :: (pre ++ post)), mktL_cons c2]
      rw [mktL_cons] at hmk
      simp only [List.length_append, List.length_cons] at hmk ⊢
      omega

end
end Go.Proofs.YtbkicgfgpmekeaaGreat.HL

/-
  FbJ: Fibonacci heaps: all nodes, all items.
-/
set_option linter.unusedVariables false
set_option linter.unusedSimpArgs false
set_option maxRecDepth 100000
namespace Go.Proofs.YtbkicgfgpmekeaaGreat.HL
open Go.RowKit (Below)
open Go.Proofs
open Go.Proofs.YtbkicgfgpmekeaaGreat.HL.LT

namespace LT
/-- Nodes with their items. -/
def prs : LT → List (Nat × Held)
  | nil => []
  | node n i e m l r => (n, (i, e)) :: (prs l ++ prs r)
theorem prs_nds : ∀ (t : LT), (prs t).map (·.1) = nds t
  | nil => rfl
  | node n i e m l r => by simp [prs, nds, prs_nds l, prs_nds r]
theorem prs_its : ∀ (t : LT), (prs t).map (·.2) = its t
  | nil => rfl
  | node n i e m l r => by simp [prs, its, prs_its l, prs_its r]
theorem prs_cells : ∀ (t : LT), ((prs t).map (·.1) ++ (prs t).map (fun p => p.2.1)).Perm (cells t)
  | nil => List.Perm.refl _
  | node n i e m l r => by
    simp only [prs, cells, List.map_cons, List.map_append, List.cons_append]
    refine List.Perm.cons _ (List.perm_middle.trans (List.Perm.cons _ ?_))
    refine List.Perm.trans ?_ ((prs_cells l).append (prs_cells r))
    rw [List.append_assoc, List.append_assoc]
    refine List.Perm.append_left _ ?_
    rw [← List.append_assoc, ← List.append_assoc]
    exact List.perm_append_comm.append_right _
theorem prs_nd {α : AS} : ∀ {t : LT} {up : Int}, Rep α up t → ∀ p ∈ prs t, α.Nd p.1 p.2.1 p.2.2
  | nil, _, _, p, hp => by cases hp
  | node n i e m l r, up, h, p, hp => by
    obtain ⟨h1, h2, h3, h4, h5, h6, h7, h8⟩ := h
    simp only [prs, List.mem_cons, List.mem_append] at hp
    rcases hp with rfl | hp | hp
    · exact h1
    · exact prs_nd h7 p hp
    · exact prs_nd h8 p hp
theorem rts_le : ∀ (t : LT), (rts t).length ≤ (its t).length
  | nil => Nat.le_refl _
  | node n i e m l r => by
    have := rts_le r
    simp only [rts, its, List.length_cons, List.length_append]; omega
/-- What stands below a node. -/
def Kd (α : AS) (S : List Nat) (n : Nat) (ks : List Int) : Prop := ∃ c : LT, n ∈ S ∧ α.get n 1 = c.root ∧ RgL α (rts c) ∧ Rep α n c ∧ (cells c).Nodup ∧ ks = intsN (rts c)
theorem tr_of {α : AS} {S : List Nat} : ∀ (t : LT) {up : Int}, Rep α up t → (cells t).Nodup → (∀ n ∈ nds t, n ∈ S) → ∀ {w : List Int} {N : List Nat}, Tr (Kd α S) w N → ∃ N', Tr (Kd α S) (w ++ intsN (rts t)) N' ∧ N'.Perm (nds t ++ N)
  | nil, _, _, _, _, w, N, h => ⟨N, by simpa [rts, intsN] using h, List.Perm.refl _⟩
  | node n i e m c r, up, hr, hnd, hS, w, N, h => by
    obtain ⟨g1, g2, g3, g4, g5, g6, g7, g8⟩ := hr
    simp only [cells, List.nodup_cons] at hnd
    obtain ⟨k1, k2, _⟩ := List.nodup_append.1 hnd.2.2
    obtain ⟨N1, h1, p1⟩ := tr_of c g7 k1 (fun x hx => hS x (by simp [nds, hx])) h
    have h2 : Tr (Kd α S) (w ++ [(n : Int)]) (n :: N1) := Tr.node (ks := intsN (rts c)) ⟨c, hS n (by simp [nds]), g3, g6, g7, k1, rfl⟩ h1
    obtain ⟨N2, h3, p2⟩ := tr_of r g8 k2 (fun x hx => hS x (by simp [nds, hx])) h2
    refine ⟨N2, ?_, ?_⟩
    · have e : w ++ intsN (rts (node n i e m c r)) = w ++ [(n : Int)] ++ intsN (rts r) := by simp [rts, intsN]
      rw [e]; exact h3
    · refine p2.trans (List.perm_middle.trans ?_)
      simp only [nds, List.cons_append]
      refine List.Perm.cons _ ((p1.append_left _).trans ?_)
      rw [← List.append_assoc]
      exact List.perm_append_comm.append_right _
end LT

section
variable {w0 : World} {M F : Mem} {R : Value → Mem → Prop} {a : Nat} {α : AS}

/-- A ring is told, or that there is none. -/
theorem all_rg (hA : Holds w0 F M (arenaA a α)) {l : LT} (hr : RgL α (rts l)) (hn : α.n ≤ 65536) (hlv : ∀ x ∈ rts l, x < α.n) (hlen : (rts l).length ≤ 65536)
    (h : ∀ M' s β, Holds w0 F M' (star (SlA s ((intsN (rts l)).map (Value.int .i64))) (arenaA a β)) → AS.Sq α β → R s.v M') : C PP w0 Id.chain_All #[.pointer (some ⟨a, 0, none⟩), .int .i64 l.root] R M := by
  cases l with
  | nil =>
    apply chain_All.go
    intro pts H
    unfold chain_All.T
    simp only [go_sem, Option.isNone_some, bs_false]
    refine Live_ok hA ?_
    rw [show α.liveI LT.nil.root = false from AS.liveI_neg]
    simp only [go_sem, Bool.not_false, bs_true]
    exact h M ⟨none, 0, 0⟩ α (Holds.nilSl hA) AS.Sq.refl
  | node n i e m c r =>
    exact All_ok hA (c := n) (r := rts r) hr fun M' s β hH hs => h M' s β hH hs.sq

theorem fb_nodes_ok (hA : Holds w0 F M (arenaA a α)) {r : Int} {t : LT} (hp : Hp α r t) (h : ∀ M' s N β, Holds w0 F M' (star (SlA s ((intsN N).map (Value.int .i64))) (arenaA a β)) → N.Perm (nds t) → AS.Sq α β → R s.v M') : C PP w0 Id.fib_nodes #[.pointer (some ⟨a, 0, none⟩), .int .i64 r] R M := by
  apply fib_nodes.go
  unfold fib_nodes.T
  have hI := hA.inv
  have h65 := hI.n
  have hrl : ∀ (t : LT) {u : Int}, Rep α u t → ∀ x ∈ rts t, α.live x = true := fun t u hr x hx => hr.live x (mem_nds (mem_rts hx))
  have hkl : ∀ (c : LT) {u : Int}, Rep α u c → (cells c).Nodup → (rts c).length ≤ 40000 := fun c u hr hn => by
    have h1 := nodup_len α.n _ hn fun x hx => AS.live_lt hI (hr.live x hx)
    rw [cells_len] at h1
    have := rts_le c
    omega
  intro b hb hw
  obtain ⟨F1, hle1, hown, hA1, back1⟩ := hA.box hb hw [.pointer (some ⟨a, 0, none⟩)] 30
  have hbox : ∀ M', Mem.le F1 M' → rd w0 M' ⟨b, 0, none⟩ = some (.pointer (some ⟨a, 0, none⟩)) := fun M' hl => by rw [rd_own (hown.le hl)]; rfl
  simp only [go_sem, hbox _ hA1.fr]
  rw [hp.r]
  refine all_rg hA1 hp.rg h65 (fun x hx => AS.live_lt hI (hrl t hp.rep x hx)) (by have := hkl t hp.rep hp.nd; omega) fun M2 s2 α2 hH2 hq2 => ?_
  have ht40 := hkl t hp.rep hp.nd
  rw [shS_sv]
  obtain ⟨F2, hle2, hA2, r2⟩ := hH2.freeze (fun c hc => by
    obtain ⟨z, hz, rfl⟩ := List.mem_map.1 hc
    have := AS.live_lt hI (hrl t hp.rep z hz)
    exact wf64 (by unfold In64; omega)) (by simp [intsN]; omega)
  have hbox2 : ∀ M', Mem.le F2 M' → rd w0 M' ⟨b, 0, none⟩ = some (.pointer (some ⟨a, 0, none⟩)) := fun M' hl => hbox M' (Mem.le_trans hle2 hl)
  simp only [go_sem, hbox2 _ hA2.fr]
  obtain ⟨N, hT, hN⟩ := tr_of (S := nds t) t hp.rep hp.nd (fun _ h => h) (Tr.nil (K := Kd α (nds t)))
  rw [List.append_nil] at hN
  rw [List.nil_append] at hT
  have hndn : (nds t).Nodup := (prs_nds t) ▸ (List.nodup_append.1 ((prs_cells t).nodup_iff.2 hp.nd)).1
  have hlv : ∀ n ∈ N, α.live n = true := fun n hn => hp.live n (mem_nds (hN.mem_iff.1 hn))
  refine ⟨trivial, ?_⟩
  refine Below_ok (K := Kd α (nds t)) (kf := (Id.fib_nodes_1, #[.pointer (some ⟨b, 0, none⟩)])) hA2 (r2.le hA2.fr) (by simp [intsN]; omega) hT (hN.nodup_iff.2 hndn) (fun n hn => by rw [hq2.live]; exact hlv n hn) (fun n ks hk => ?_) (fun n ks hk x hx => ?_) (fun n ks hn hk F' M' β R' hle hB hq hR' => ?_) fun M3 s3 β hH hq => ?_
  · obtain ⟨c, g0, g1, g2, g3, g4, rfl⟩ := hk
    have := hkl c g3 g4
    simp [intsN]; omega
  · obtain ⟨c, g0, g1, g2, g3, g4, rfl⟩ := hk
    obtain ⟨y, hy, rfl⟩ := List.mem_map.1 hx
    have := AS.live_lt hI (hrl c g3 y hy)
    unfold In64; omega
  · show C PP w0 Id.fib_nodes_1 #[.int .i64 (n : Int), .pointer (some ⟨b, 0, none⟩)] R' M'
    apply fib_nodes_1.go
    unfold fib_nodes_1.T
    have hbox' : ∀ M', Mem.le F' M' → rd w0 M' ⟨b, 0, none⟩ = some (.pointer (some ⟨a, 0, none⟩)) := fun M' hl => hbox2 M' (Mem.le_trans hle hl)
    obtain ⟨c, g0, g1, g2, g3, g4, rfl⟩ := hk
    have hqa := hq2.trans hq
    simp only [go_sem, hbox' _ hB.fr]
    have hln : β.live n = true := by rw [hqa.live]; exact hlv n hn
    refine Cell_ok hB fun M4 hB4 => ?_
    rw [show β.cellI (n : Int) 1 = c.root from AS.cellI_val hB.inv (f := 1) hln (by omega) (by rw [hqa.get]; exact g1) (by
      rcases g3.rootv with h9 | ⟨y, h9, h8⟩
      · exact .inl h9
      · exact .inr ⟨y, h9, by rw [hqa.live]; exact h8⟩)]
    simp only [go_sem, hbox' _ hB4.fr]
    have hqb := hqa.trans (AS.tick_sm (α := β)).sq
    refine ⟨trivial, all_rg hB4 (g2.congr (fun _ _ => by rw [hqb.get]) (fun _ _ => by rw [hqb.get]) (fun _ _ => by rw [hqb.live])) hB4.inv.n (fun x hx => AS.live_lt hB4.inv (by rw [hqb.live]; exact hrl c g3 x hx)) (by have := hkl c g3 g4; omega) fun M5 s5 γ hH5 hs5 => ?_⟩
    simp only [go_sem]
    have hlt := hkl c g3 g4
    exact hR' M5 s5 γ hH5.right ((AS.tick_sm (α := β)).sq.trans hs5) (hH5.rdI' (fun x hx => by have := AS.live_lt hI (hrl c g3 x hx); omega) (by omega))
  · simp only [go_sem]
    exact h M3 s3 N β (back1 _ _ (Holds.le_frame hH hle2)) hN (hq2.trans hq)

/-- All items are told. -/
theorem hp_all_ok (hA : Holds w0 F M (arenaA a α)) {r : Int} {t : LT} (hp : Hp α r t) (h : ∀ M' s (z : List Int) β, Holds w0 F M' (star (SlA s (z.map (Value.int .i64))) (arenaA a β)) → z.Perm (intsN ((its t).map (·.1))) → z.Pairwise (· ≤ ·) → AS.Sq α β → R s.v M') : C PP w0 Id.fib_All #[.pointer (some ⟨a, 0, none⟩), .int .i64 r] R M := by
  apply fib_All.go
  unfold fib_All.T
  have hI := hA.inv
  have h65 := hI.n
  have hsz := hp.size hI
  simp only [go_sem, Option.isNone_some, bs_false]
  refine fb_nodes_ok hA hp fun M1 s N β hH hN hq => ?_
  simp only [go_sem]
  have hNl : ∀ x ∈ N, α.live x = true := fun x hx => hp.live x (mem_nds (hN.mem_iff.1 hx))
  have hNlen : N.length = (its t).length := by rw [hN.length_eq, nds_len]
  obtain ⟨F', hle, hB, hS⟩ := hH.freeze (fun c hc => by
    obtain ⟨z, hz, rfl⟩ := List.mem_map.1 hc
    have := AS.live_lt hI (hNl z hz)
    exact wf64 (by unfold In64; omega)) (by simp [intsN]; omega)
  obtain ⟨P, hP1, hP2⟩ := perm_lift (·.1) hN.symm (prs t) (prs_nds t)
  have hnd : ∀ p ∈ P, α.Nd p.1 p.2.1 p.2.2 := fun p hp' => prs_nd hp.rep p (hP1.mem_iff.1 hp')
  refine Items_ok (I := P.map fun p => p.2.1) hB hS (by rw [← hP2]; simp) (by omega) (fun j n hj => ?_) fun M2 s2 z γ hH2 hz hz2 hq2 => ?_
  · rw [← hP2, List.getElem?_map] at hj
    cases hx : P[j]? with
    | none => rw [hx] at hj; cases hj
    | some p =>
      rw [hx] at hj; cases hj
      have := hnd p (List.mem_of_getElem? hx)
      exact ⟨p.2.1, by rw [List.getElem?_map, hx]; rfl, by rw [hq.live]; exact this.ln, by rw [hq.get]; exact this.it, by rw [hq.n]; exact AS.live_lt hI this.li⟩
  · simp only [go_sem]
    refine h M2 s2 z γ (Holds.le_frame hH2 hle) (hz.trans ?_) hz2 (hq.trans hq2)
    unfold intsN
    refine List.Perm.map _ ?_
    rw [← prs_its]
    rw [List.map_map]
    exact hP1.map _


theorem heap_all_ok (hA : Holds w0 F M (arenaA a α)) {r : Int} {t : HT} (hp : Hp α r t) (h : ∀ M' s (z : List Int) β, Holds w0 F M' (star (SlA s (z.map (Value.int .i64))) (arenaA a β)) → z.Perm (intsN (t.its.map (·.1))) → z.Pairwise (· ≤ ·) → AS.Sq α β → R s.v M') : C PP w0 Id.fib_All #[.pointer (some ⟨a, 0, none⟩), .int .i64 r] R M := hp_all_ok hA hp h

end
theorem HT.its_nodup {t : HT} (h : t.cells.Nodup) : (t.its.map (·.1)).Nodup := by
  have h1 := (List.nodup_append.1 ((LT.prs_cells t).nodup_iff.2 h)).2.1
  have h2 : t.its.map (·.1) = (LT.prs t).map (fun p => p.2.1) := by
    show (LT.its t).map (·.1) = _
    rw [← LT.prs_its, List.map_map]; rfl
  rw [h2]; exact h1

end Go.Proofs.YtbkicgfgpmekeaaGreat.HL

/-
  FbK: Fibonacci heaps: a heap that is given up.
-/
set_option linter.unusedVariables false
set_option linter.unusedSimpArgs false
set_option maxRecDepth 100000
namespace Go.Proofs.YtbkicgfgpmekeaaGreat.HL
open Go.RowKit (Below)
open Go.Proofs
open Go.Proofs.YtbkicgfgpmekeaaGreat.HL.LT

section
variable {w0 : World} {M F : Mem} {R : Value → Mem → Prop} {a : Nat} {α : AS}

/-- A heap is given up: all its items come out. -/
theorem hp_drop_ok (hA : Holds w0 F M (arenaA a α)) {r : Int} {t : LT} (hp : Hp α r t) (h : ∀ M' s (z : List Int) β, Holds w0 F M' (star (SlA s (z.map (Value.int .i64))) (arenaA a β)) → z.Perm (intsN ((its t).map (·.1))) → z.Pairwise (· ≤ ·) → (∃ k, AS.Eff (fun c => c ∈ cells t) (fun c => c ∈ nds t) (-((its t).length : Int)) k α β) → (∀ x ∈ its t, β.get x.1 9 = -1 ∧ β.live x.1 = true) → R s.v M') : C PP w0 Id.fib_Drop #[.pointer (some ⟨a, 0, none⟩), .int .i64 r] R M := by
  apply fib_Drop.go
  unfold fib_Drop.T
  have hI := hA.inv
  have h65 := hI.n
  have hsz := hp.size hI
  simp only [go_sem, Option.isNone_some, bs_false]
  refine fb_nodes_ok hA hp fun M1 s N β hH hN hq => ?_
  simp only [go_sem]
  have hNl : ∀ x ∈ N, α.live x = true := fun x hx => hp.live x (mem_nds (hN.mem_iff.1 hx))
  have hNlen : N.length = (its t).length := by rw [hN.length_eq, nds_len]
  obtain ⟨F', hle, hB, hS⟩ := hH.freeze (fun c hc => by
    obtain ⟨z, hz, rfl⟩ := List.mem_map.1 hc
    have := AS.live_lt hI (hNl z hz)
    exact wf64 (by unfold In64; omega)) (by simp [intsN]; omega)
  obtain ⟨P, hP1, hP2⟩ := perm_lift (·.1) hN.symm (prs t) (prs_nds t)
  have hnd : ∀ p ∈ P, α.Nd p.1 p.2.1 p.2.2 := fun p hp' => prs_nd hp.rep p (hP1.mem_iff.1 hp')
  have hcel : (P.map (·.1) ++ P.map (fun p => p.2.1)).Nodup := ((hP1.map _).append (hP1.map _)).nodup_iff.2 ((prs_cells t).nodup_iff.2 hp.nd)
  rw [← hP2] at hS
  refine Drop_ok (P := P) hB hS (by have := congrArg List.length hP2; simp only [List.length_map] at this; omega) (fun p hp' => ?_) hcel fun M2 s2 z γ hH2 hz hz2 hq2 => ?_
  · obtain ⟨k, hk⟩ := hq
    exact hk.nd (hnd p hp')
  · simp only [go_sem]
    have hq3 : AS.Sq (α.endAll P) γ := (hq.endAll P).trans hq2
    have hPi : (P.map fun p => p.2.1).Perm ((its t).map (·.1)) := by
      rw [← prs_its, List.map_map]
      exact hP1.map _
    have hPl : P.length = (its t).length := by have := hPi.length_eq; simpa using this
    refine h M2 s2 z γ (Holds.le_frame hH2 hle) (hz.trans (by unfold intsN; exact hPi.map _)) hz2 ?_ fun x hx => ?_
    · rw [← hPl]
      refine eff_endAll hI (fun p hp' => (hnd p hp').ln) (List.nodup_append.1 hcel).1 (fun p hp' => ?_) (fun p hp' => ?_) hq3 ⟨hI.steps.1, hI.steps.2.2⟩
      · exact (prs_cells t).mem_iff.1 (List.mem_append_right _ (List.mem_map_of_mem (f := fun p : Nat × Held => p.2.1) (hP1.mem_iff.1 hp')))
      · rw [← prs_nds]; exact List.mem_map_of_mem (f := (·.1)) (hP1.mem_iff.1 hp')
    · have hm : x.1 ∈ P.map fun p => p.2.1 := hPi.mem_iff.2 (List.mem_map_of_mem (f := (·.1)) hx)
      refine ⟨?_, ?_⟩
      · rw [hq3.get, AS.endAll_get, if_pos ⟨rfl, hm⟩]
      · rw [hq3.live, AS.endAll_live, if_neg (fun h9 => (List.nodup_append.1 hcel).2.2 _ h9 _ hm rfl)]
        exact hp.live x.1 (mem_its hx)

theorem heap_drop_ok (hA : Holds w0 F M (arenaA a α)) {r : Int} {t : HT} (hp : Hp α r t) (h : ∀ M' s (z : List Int) β, Holds w0 F M' (star (SlA s (z.map (Value.int .i64))) (arenaA a β)) → z.Perm (intsN (t.its.map (·.1))) → z.Pairwise (· ≤ ·) → (∃ k, AS.Eff (fun c => c ∈ t.cells) (fun c => c ∈ t.nds) (-(t.its.length : Int)) k α β) → (∀ x ∈ t.its, β.get x.1 9 = -1 ∧ β.live x.1 = true) → R s.v M') : C PP w0 Id.fib_Drop #[.pointer (some ⟨a, 0, none⟩), .int .i64 r] R M := hp_drop_ok hA hp h

end
end Go.Proofs.YtbkicgfgpmekeaaGreat.HL

