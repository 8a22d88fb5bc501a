import Derived.Test.YtodobkbnmjgkdaaGreatPa21
set_option linter.unusedVariables false
set_option linter.unusedSimpArgs false
set_option maxRecDepth 100000
set_option maxHeartbeats 1000000
namespace Go.Proofs.YtodobkbnmjgkdaaGreat.HL
open Go.RowKit (Below)
open Go.Proofs
section
variable {w0 : World} {F M : Mem} {R : VP} {os : Obs} {jt pj mb : Nat} {P : PS V5} {Q : Asn} {ob_ : Obj} {by_ : RefK → Option RefK}
theorem refNeq {a g b k : Int} {X Y : Operand} : (std PP w0).bq .neq 33 X Y (.agg #[.int .i64 a, .int .i64 g]) (.agg #[.int .i64 b, .int .i64 k]) = some (.bool (!decide ((a, g) = (b, k)))) :=
 pure_neq (fun op => by
  show pure? PP (if !(op matches .eql | .neq) then return () else _) = some ()
  cases op <;> first | rfl | (show pure? PP (program >>= fun p => if !(p.eqGuardType p.depth 33) then return () else _) = some (); rw [pure_prog, show (PP.eqGuardType PP.depth 33) = false from by kernel_rfl]; rfl)) rfl (refK_eq (a, g) (b, k))
theorem JSet_ok {r : RefK} {v w : V5} (oJ : Own w0 F jt (jtV pj mb) tJt) (h : HO w0 F M ((mb, ob_) :: os) (star (PsJ pj P) Q)) (hf : MapF refK refK by_ ob_) (hb : P.l.length ≤ 10000) (hw : P.find r.1 r.2 = some w) (hwv : w.2.2.2 = v.2.2.2) (hby : by_ v.2.2.2 = some r)
  (hK : ∀ M' ob', MapF refK refK by_ ob' → HO w0 F M' ((mb, ob') :: os) (star (PsJ pj (P.put r.1.toNat v)) Q) → R (.int .i64 0) M') :
  C PP w0 Id.jT_Set #[.pointer (some ⟨jt, 0, none⟩), .agg #[.int .i64 r.1, .int .i64 r.2], jobK v] R M := by
 obtain ⟨v1, v2, v3, v4, v5⟩ := v
 obtain ⟨w1, w2, w3, w4, w5⟩ := w
 cases hwv
 simp only at hby
 apply jT_Set.go
 intro pts H
 unfold jT_Set.T nfz
 refine nwA h fun b1 F1 M1 l1 lm1 o1 h1 => ?_
 refine nwA h1 fun b2 F2 M2 l2 lm2 o2 h2 => ?_
 have oJ2 := (oJ.le l1).le l2
 have o12 := o1.le l2
 have hlk : ∀ {M' : Mem} {F' : Mem} {A : Asn} {os' : Obs}, HO w0 F' M' ((mb, ob_) :: os') A → (std PP w0).lk 197 (.map (some mb)) (.agg #[.int .i64 v4, .int .i64 v5]) true M' = some (.tuple #[.agg #[.int .i64 r.1, .int .i64 r.2], .bool true]) := fun h => by
  have := lkR (r := (v4, v5)) h List.mem_cons_self hf
  rw [hby] at this; exact this
 simp only [nc_v, add_eq, Nat.zero_add, J0 oJ2 h2.fr, ob_v, sP_v, lB_ gRef (o12.le h2.fr), sA_, sC_, zI_, zN_]
 have key : ∀ (b3 : Nat) (F3 M3 : Mem), Mem.le F2 F3 → Own w0 F3 b3 (vc5 (w1, w2, w3, v4, v5)) tJo → HO w0 F3 M3 ((mb, ob_) :: os) (star (PsJ pj P) Q) → jT_Set.J1 pts (some ⟨jt, 0, none⟩) ⟨b1, 0, none⟩ ⟨b2, 0, none⟩ ⟨b3, 0, none⟩ M3 := by
  intro b3 F3 M3 l3 o3 h3
  refine Eq.mpr (H.J1 ..) ?_
  unfold jT_Set.J1.T nfz
  have hvb : ∀ {M' : Mem} {e : TypeId}, Own w0 M' b3 (vc5 (w1, w2, w3, v4, v5)) e → (std PP w0).ld 33 ⟨b3, 3, none⟩ M' = some (.agg #[.int .i64 v4, .int .i64 v5]) := fun o => ldSub (vs := [.int .i64 v4, .int .i64 v5]) gRef o (sub2 rfl rfl)
  have hjb : ∀ {M' : Mem} {e : TypeId}, Own w0 M' b2 (vc5 (v1, v2, v3, v4, v5)) e → (std PP w0).ld 33 ⟨b2, 3, none⟩ M' = some (.agg #[.int .i64 v4, .int .i64 v5]) := fun o => ldSub (vs := [.int .i64 v4, .int .i64 v5]) gRef o (sub2 rfl rfl)
  have oJ3 := oJ2.le l3
  have o13 := o12.le l3
  have o23 := o2.le l3
  simp only [nc_v, add_eq, Nat.zero_add, J1 oJ3 h3.fr, ob_v, hvb (o3.le h3.fr), sA_, sC_, zI_, zN_]
  obtain ⟨g1, g2⟩ := h3.get List.mem_cons_self
  refine delF (k := (v4, v5)) rfl Tryz.underlying197 refK_ok g1 g2 hf fun oa hfa => ?_
  have h4 := h3.set (o' := oa)
  generalize Mem.set M3 mb _ = M4 at h4 ⊢
  simp only [nc_v, add_eq, Nat.zero_add, J1 oJ3 h4.fr, ob_v, hjb (o23.le h4.fr), lB_ gRef (o13.le h4.fr), sA_, sC_, zI_, zN_]
  obtain ⟨g3, g4⟩ := h4.get List.mem_cons_self
  refine mupF (kf := refK) (vf := refK) (k := (v4, v5)) (v := r) Tryz.underlying197 refK_ok g3 g4 hfa fun ob' hf' => ?_
  have h5 := h4.set (o' := ob')
  generalize Mem.set M4 mb _ = M5 at h5 ⊢
  have hup : updM (updM by_ (v4, v5) none) (v4, v5) (some r) = by_ := by
   funext k
   unfold updM
   by_cases e : k = (v4, v5)
   ·rw [if_pos e, e, hby]
   ·rw [if_neg e, if_neg e]
  rw [hup] at hf'
  simp only [nc_v, add_eq, Nat.zero_add, J0 oJ3 h5.fr, ob_v, sP_v, lB_ gJob5 (o23.le h5.fr), lB_ gRef (o13.le h5.fr), sA_, sC_, zI_, zN_]
  obtain ⟨F6, hB, l6, back6⟩ := h5.foc0
  refine SetJ_ok (v := (v1, v2, v3, v4, v5)) hB (by omega) hw fun M6 hC => ?_
  rw [zI_]
  exact hK M6 ob' hf' ((((back6 M6 _ hC).uF_ l3).uF_ l2).uF_ l1)
 refine ⟨?_, ?_⟩
 rotate_left
 refine nwB h2 fun b3 M3 lm3 h3 => ?_
 refine ⟨J0 oJ2 h3.fr, lB_ gRef (o12.le h3.fr), ?_⟩
 refine GetJ_ok h3.h.right (by omega) (fun v hv M4 l4 => ?_) (fun hf => by rw [hw] at hf; cases hf)
 rw [hw] at hv; cases hv
 simp only [sT_v, sC_, sA_, zI_, zN_]
 refine stF (vs := vc5 (w1, w2, w3, v4, v5)) gJob5 (by rfl) (vc5_one _) (h3.le l4) fun F5 M5 l5 o5 h5 => ?_
 rotate_left
 refine GetJ_ok h2.h (by omega) (fun v hv M4 l4 => ?_) (fun hf => by rw [hw] at hf; cases hf)
 rw [hw] at hv; cases hv
 simp only [sT_v, sC_, sA_, zI_, zN_]
 refine boxF (vs := vc5 (w1, w2, w3, v4, v5)) gJob5 (by rfl) (vc5_one _) (h2.le l4) fun b3 F5 M5 l5 o5 h5 => ?_
 all_goals
  rw [bs_bne, if_pos rfl]
  have hjb : ∀ {M' : Mem} {e : TypeId}, Own w0 M' b2 (vc5 (v1, v2, v3, v4, v5)) e → (std PP w0).ld 33 ⟨b2, 3, none⟩ M' = some (.agg #[.int .i64 v4, .int .i64 v5]) := fun o => ldSub (vs := [.int .i64 v4, .int .i64 v5]) gRef o (sub2 rfl rfl)
  have oJ5 := oJ2.le l5
  have o15 := o12.le l5
  have o25 := o2.le l5
  simp only [nc_v, add_eq, Nat.zero_add, J1 oJ5 h5.fr, ob_v, hjb (o25.le h5.fr), hlk h5, sT_v, sA_, sC_, zI_, shB_v, zN_]
  refine nwB h5 fun b6 M6 lm6 h6 => ?_
  refine ⟨J1 oJ5 h6.fr, hjb (o25.le h6.fr), hlk h6, ?_⟩
  refine stF gRef (by rfl) one2 h6 fun F7 M7 l7 o7 h7 => ?_
  rw [bs_true]
  simp only [lB_ gRef (o7.le h7.fr), lB_ gRef ((o15.le l7).le h7.fr), ob_v, sA_, sC_, zI_, zN_, refNeq, shB_v]
  simp only [decide_true, Bool.not_true, bF_]
  exact key b3 F7 M7 (Mem.le_trans l5 l7) (o5.le l7) h7
theorem GiveJ_no {p : Nat} {a g : Int} (h : Holds w0 F M (star (PsJ p P) Q)) (hb : P.l.length ≤ 10000) (hw : P.find a g = none)
  (h1 : ∀ M' e, Holds w0 F M' (star (PsJ p P) Q) → e ≠ 0 → e = P.pl.look a g → R (.tuple #[jobK z5, .int .i64 e]) M') :
  C PP w0 Id.pP_Give_jj #[.pointer (some ⟨p, 0, none⟩), .agg #[.int .i64 a, .int .i64 g]] R M := by
 apply pP_Give_jj.go
 unfold pP_Give_jj.T nfz
 refine nwA (HO.of h) fun b1 F1 M1 l1 lm1 o1 h1' => ?_
 refine nwB h1' fun b3 M2 lm2 h2 => ?_
 refine nwA h2 fun b5 F3 M3 l3 lm3 o5 h3 => ?_
 simp only [lB_ gRef ((o1.le l3).le h3.fr), ob_v, sA_, sC_, zI_, zN_]
 obtain ⟨sL, sF, hO⟩ := PsJ.open_ h3.h.right
 refine findJ_ok hO (by omega) (fun i v blk _ _ hf _ M4 l4 => by rw [hw] at hf; cases hf) fun hf M4 e l4 he hel => ?_
 simp only [sT_v, sC_, sP_v, zI_, zN_]
 rw [bs_bne, if_neg he]
 have h4 := h3.le l4
 simp only [lB_ (vs := vc5 z5) gJob5 (o5.le h4.fr), ob_v, sA_, sC_, zI_, zN_]
 exact resB (vs := vc5 z5) (K := fun v M => R (.tuple #[v, .int .i64 e]) M) gJob5 (by rfl) (vc5_one z5) h4 fun M5 h5 => h1 M5 e ((h5.uF_ l3).uF_ l1).h he hel
theorem JTake_ok {r : RefK} {v : V5} (oJ : Own w0 F jt (jtV pj mb) tJt) (h : HO w0 F M ((mb, ob_) :: os) (star (PsJ pj P) Q)) (hf : MapF refK refK by_ ob_) (hb : P.l.length ≤ 10000) (hfb : P.free.length ≤ 10000) (hw : P.find r.1 r.2 = some v)
  (hK : ∀ M' ob', MapF refK refK (updM by_ v.2.2.2 none) ob' → HO w0 F M' ((mb, ob') :: os) (star (PsJ pj (P.give z5 r.1.toNat)) Q) → R (.tuple #[jobK v, .int .i64 0]) M') :
  C PP w0 Id.jT_Take #[.pointer (some ⟨jt, 0, none⟩), .agg #[.int .i64 r.1, .int .i64 r.2]] R M := by
 apply jT_Take.go
 unfold jT_Take.T nfz
 refine nwA h fun b1 F1 M1 l1 lm1 o1 h1 => ?_
 have oJ1 := oJ.le l1
 refine nwB h1 fun b3 M2 lm2 h2' => ?_
 have h2 := h2'.mapH Holds.rot
 simp only [nc_v, add_eq, Nat.zero_add, J0 oJ1 h2.fr, ob_v, sP_v, lB_ gRef (o1.le h2.fr), sA_, sC_, zI_, zN_]
 refine ⟨?_, ?_⟩
 rotate_left
 refine nwB h2 fun b4 M3' l3' h3' => ?_
 refine ⟨J0 oJ1 h3'.fr, lB_ gRef (o1.le h3'.fr), ?_⟩
 obtain ⟨F3, hB, l3, back⟩ := (h3'.mapH Holds.rot).mapH Holds.rot |>.foc1
 refine GiveJ_ok hB hb hfb hw fun M3 hC => ?_
 have h3 := back M3 _ hC
 simp only [sT_v, sC_, sA_, zI_, zN_]
 refine stF (vs := vc5 v) gJob5 (by rfl) (vc5_one v) h3 fun F4 M4 l4 o4 h4 => ?_
 rotate_left
 obtain ⟨F3, hB, l3, back⟩ := h2.foc0
 refine GiveJ_ok hB hb hfb hw fun M3 hC => ?_
 have h3 := back M3 _ hC
 simp only [sT_v, sC_, sA_, zI_, zN_]
 refine boxF (vs := vc5 v) gJob5 (by rfl) (vc5_one v) h3 fun b4 F4 M4 l4 o4 h4 => ?_
 all_goals
  rw [bQ_, if_pos rfl]
  have hvb : ∀ {M' : Mem} {e : TypeId}, Own w0 M' b4 (vc5 v) e → (std PP w0).ld 33 ⟨b4, 3, none⟩ M' = some (.agg #[.int .i64 v.2.2.2.1, .int .i64 v.2.2.2.2]) := fun o => ldSub (vs := [.int .i64 v.2.2.2.1, .int .i64 v.2.2.2.2]) gRef o (sub2 rfl rfl)
  simp only [nc_v, add_eq, Nat.zero_add, J1 (oJ1.le l4) h4.fr, ob_v, hvb (o4.le h4.fr), sA_, sC_, zI_, zN_]
  obtain ⟨g1, g2⟩ := h4.get List.mem_cons_self
  refine delF (k := v.2.2.2) rfl Tryz.underlying197 refK_ok g1 g2 hf fun ob' hf' => ?_
  have h5 := h4.set (o' := ob')
  generalize Mem.set M4 mb _ = M5 at h5 ⊢
  simp only [lB_ (vs := vc5 v) gJob5 (o4.le h5.fr), ob_v, sA_, sC_, zI_, zN_]
  refine resB (vs := vc5 v) (K := fun v M => R (.tuple #[v, .int .i64 0]) M) gJob5 (by rfl) (vc5_one v) (h5.mapH Holds.rot) fun M6 h6 => ?_
  exact hK M6 ob' hf' ((h6.uF_ l4).uF_ l1)
theorem JTakeNo_ok {r : RefK} (oJ : Own w0 F jt (jtV pj mb) tJt) (h : HO w0 F M os (star (PsJ pj P) Q)) (hb : P.l.length ≤ 10000) (hw : P.find r.1 r.2 = none)
  (hK : ∀ M' e, HO w0 F M' os (star (PsJ pj P) Q) → e ≠ 0 → e = P.pl.look r.1 r.2 → R (.tuple #[jobK z5, .int .i64 e]) M') :
  C PP w0 Id.jT_Take #[.pointer (some ⟨jt, 0, none⟩), .agg #[.int .i64 r.1, .int .i64 r.2]] R M := by
 apply jT_Take.go
 unfold jT_Take.T nfz
 refine nwA h fun b1 F1 M1 l1 lm1 o1 h1 => ?_
 have oJ1 := oJ.le l1
 refine nwB h1 fun b3 M2 lm2 h2' => ?_
 have h2 := h2'.mapH Holds.rot
 simp only [nc_v, add_eq, Nat.zero_add, J0 oJ1 h2.fr, ob_v, sP_v, lB_ gRef (o1.le h2.fr), sA_, sC_, zI_, zN_]
 refine ⟨?_, ?_⟩
 rotate_left
 refine nwB h2 fun b4 M3' l3' h3' => ?_
 refine ⟨J0 oJ1 h3'.fr, lB_ gRef (o1.le h3'.fr), ?_⟩
 obtain ⟨F3, hB, l3, back⟩ := (h3'.mapH Holds.rot).mapH Holds.rot |>.foc1
 refine GiveJ_no hB hb hw fun M3 e hC he hel => ?_
 have h3 := back M3 _ hC
 simp only [jobK, sT_v, sC_, sA_, zI_, zN_]
 refine stF (vs := vc5 z5) gJob5 (by rfl) (vc5_one z5) h3 fun F4 M4 l4 o4 h4 => ?_
 rotate_left
 obtain ⟨F3, hB, l3, back⟩ := h2.foc0
 refine GiveJ_no hB hb hw fun M3 e hC he hel => ?_
 have h3 := back M3 _ hC
 simp only [jobK, sT_v, sC_, sA_, zI_, zN_]
 refine boxF (vs := vc5 z5) gJob5 (by rfl) (vc5_one z5) h3 fun b4 F4 M4 l4 o4 h4 => ?_
 all_goals
  rw [bQ_, if_neg he]
  simp only [lB_ (vs := vc5 z5) gJob5 (o4.le h4.fr), ob_v, sA_, sC_, zI_, zN_]
  refine resB (vs := vc5 z5) (K := fun v M => R (.tuple #[v, .int .i64 e]) M) gJob5 (by rfl) (vc5_one z5) (h4.mapH Holds.rot) fun M6 h6 => ?_
  exact hK M6 e ((h6.uF_ l4).uF_ l1) he hel
end
end Go.Proofs.YtodobkbnmjgkdaaGreat.HL
namespace Go.Proofs.YtodobkbnmjgkdaaGreat.HL
open Go.RowKit (Below)
open Go.Proofs
def qOf (P : PS V5) (r : Ent) : Int := match P.find r.1 r.2 with
 | some v => v.1
 | none => 0
def cntJ (P : PS V5) (q : Int) (l : List Ent) : Nat := l.countP fun r => decide (qOf P r = q)
theorem cntJ_app {P : PS V5} {q : Int} {A : List Ent} {r : Ent} : cntJ P q (A ++ [r]) = cntJ P q A + if qOf P r = q then 1 else 0 := by
 unfold cntJ
 rw [List.countP_append, List.countP_singleton]
 simp only [decide_eq_true_eq]
theorem cntJ_le {P : PS V5} {q : Int} (A : List Ent) : cntJ P q A ≤ A.length := List.countP_le_length
theorem refs_find5 {ip : PS V5} (hg1 : ∀ x ∈ ip.l, x.t = true → 1 ≤ x.g) {r : Ent} (hr : r ∈ ip.refs) : ∃ v, ip.find r.1 r.2 = some v := by
 obtain ⟨j, x, h1, h2, rfl⟩ := refsG_mem.1 hr
 refine ⟨x.v, ?_⟩
 simp only [Nat.zero_add]
 refine PS.find_of (v := x.v) ?_ (hg1 x (List.mem_of_getElem? h1) h2)
 rw [h1, ← h2]
def rmv (P : PS V5) (A : List Ent) (f t : Int) : PS V5 := { P with l := P.l.mapIdx fun j x => if ((j : Int), x.g) ∈ A ∧ x.v.1 = f then { x with v := (t, x.v.2) } else x }
theorem rmv_get (P : PS V5) (A : List Ent) (f t : Int) (j : Nat) : (rmv P A f t).l[j]? = (P.l[j]?).map fun x => if ((j : Int), x.g) ∈ A ∧ x.v.1 = f then { x with v := (t, x.v.2) } else x := by
 unfold rmv
 rw [List.getElem?_mapIdx]
theorem rmv_len (P : PS V5) (A : List Ent) (f t : Int) : (rmv P A f t).l.length = P.l.length := by unfold rmv; simp
theorem rmv_nil (P : PS V5) (f t : Int) : rmv P [] f t = P := by
 unfold rmv
 have : (P.l.mapIdx fun j x => if ((j : Int), x.g) ∈ ([] : List Ent) ∧ x.v.1 = f then { x with v := (t, x.v.2) } else x) = P.l := by
  apply List.ext_getElem?
  intro j
  rw [List.getElem?_mapIdx]
  simp
 rw [this]
theorem rmv_find {P : PS V5} {A : List Ent} {f t b k : Int} {v : V5} (h : P.find b k = some v) : (rmv P A f t).find b k = some (if (b, k) ∈ A ∧ v.1 = f then (t, v.2) else v) := by
 obtain ⟨j, rfl, hj, hk⟩ := PS.find_some h
 refine PS.find_of ?_ hk
 rw [rmv_get, hj, Option.map_some]
 by_cases hc : ((j : Int), k) ∈ A ∧ v.1 = f
 ·rw [if_pos hc, if_pos hc]
 ·rw [if_neg hc, if_neg hc]
theorem rmv_pl (P : PS V5) (A : List Ent) (f t : Int) : (rmv P A f t).pl = P.pl := by
 have key : ∀ {β : Type} (g : Plc V5 → β), (∀ x v, g { x with v := v } = g x) → (rmv P A f t).l.map g = P.l.map g := by
  intro β g hf
  apply List.ext_getElem?
  intro j
  rw [List.getElem?_map, List.getElem?_map, rmv_get]
  cases P.l[j]? with
  | none => rfl
  | some x =>
   simp only [Option.map_some]
   split
   ·rw [hf]
   ·rfl
 unfold PS.pl
 rw [key (·.g) (fun _ _ => rfl), key (·.t) (fun _ _ => rfl), key (fun _ => (0 : Int)) (fun _ _ => rfl)]
 rfl
theorem rmv_put {P : PS V5} {A : List Ent} {f t : Int} {r : Ent} {v : V5} (hv : P.find r.1 r.2 = some v) (hrA : ∀ x ∈ A, x.1 < r.1) (hvf : v.1 = f) : (rmv P A f t).put r.1.toNat (t, v.2) = rmv P (A ++ [r]) f t := by
 have hrnA : (r.1, r.2) ∉ A := fun hm => by have := hrA _ hm; simp only at this; omega
 have hvA : (rmv P A f t).find r.1 r.2 = some v := by rw [rmv_find hv, if_neg (fun h => hrnA h.1)]
 obtain ⟨j, hj, hjl, hj1⟩ := PS.find_some hv
 obtain ⟨j2, hj2, hjl2, _⟩ := PS.find_some hvA
 have hjj : r.1.toNat = j := by rw [hj]; exact Int.toNat_natCast j
 have hj22 : j2 = j := by omega
 subst hj22
 unfold PS.put
 rw [hjj, hjl2]
 show ({ rmv P A f t with l := (rmv P A f t).l.set j2 ⟨r.2, true, (t, v.2)⟩ } : PS V5) = _
 have hl : (rmv P A f t).l.set j2 ⟨r.2, true, (t, v.2)⟩ = (rmv P (A ++ [r]) f t).l := by
  apply List.ext_getElem?
  intro i
  by_cases hi : j2 = i
  ·subst hi
   rw [List.getElem?_set_self (List.getElem?_eq_some_iff.1 hjl2).1, rmv_get, hjl, Option.map_some, if_pos (by
    have : ((j2 : Int), r.2) = r := Prod.ext hj.symm rfl
    rw [this]; exact ⟨by simp, hvf⟩)]
  ·rw [List.getElem?_set_ne hi, rmv_get, rmv_get]
   cases hx : P.l[i]? with
   | none => rfl
   | some x =>
    simp only [Option.map_some]
    have : ((i : Int), x.g) ∈ A ++ [r] ↔ ((i : Int), x.g) ∈ A := by
     rw [List.mem_append, List.mem_singleton]
     constructor
     ·rintro (h | h)
      ·exact h
      ·have := congrArg Prod.fst h
       simp only at this
       omega
     ·exact .inl
    by_cases hc : ((i : Int), x.g) ∈ A ∧ x.v.1 = f
    ·rw [if_pos hc, if_pos ⟨this.2 hc.1, hc.2⟩]
    ·rw [if_neg hc, if_neg (fun h => hc ⟨this.1 h.1, h.2⟩)]
 rw [hl]; rfl
theorem rmv_skip {P : PS V5} {A : List Ent} {f t : Int} {r : Ent} {v : V5} (hv : P.find r.1 r.2 = some v) (hvf : v.1 ≠ f) : rmv P (A ++ [r]) f t = rmv P A f t := by
 obtain ⟨j, hj, hjl, hj1⟩ := PS.find_some hv
 have hl : (rmv P (A ++ [r]) f t).l = (rmv P A f t).l := by
  apply List.ext_getElem?
  intro i
  rw [rmv_get, rmv_get]
  cases hx : P.l[i]? with
  | none => rfl
  | some x =>
   simp only [Option.map_some]
   have : (((i : Int), x.g) ∈ A ++ [r] ∧ x.v.1 = f) ↔ (((i : Int), x.g) ∈ A ∧ x.v.1 = f) := by
    rw [List.mem_append, List.mem_singleton]
    constructor
    ·rintro ⟨h | h, h2⟩
     ·exact ⟨h, h2⟩
     ·have h1 := congrArg Prod.fst h
      simp only at h1
      have hij : i = j := by omega
      subst hij
      rw [hx] at hjl
      cases hjl
      exact absurd h2 hvf
    ·rintro ⟨h, h2⟩; exact ⟨.inl h, h2⟩
   by_cases hc : ((i : Int), x.g) ∈ A ∧ x.v.1 = f
   ·rw [if_pos hc, if_pos (this.2 hc)]
   ·rw [if_neg hc, if_neg (fun h => hc (this.1 h))]
 show ({ P with l := (rmv P (A ++ [r]) f t).l } : PS V5) = { P with l := (rmv P A f t).l }
 rw [hl]
section
variable {w0 : World} {F M : Mem} {R : VP} {os : Obs} {jt pj mb : Nat} {P : PS V5} {Q : Asn} {ob_ : Obj} {by_ : RefK → Option RefK}
theorem GetJ1 {a g : Int} {v : V5} {p : Nat} (h : Holds w0 F M (star (PsJ p P) Q)) (hb : P.l.length ≤ 100000) (hw : P.find a g = some v) (h1 : ∀ M', Mem.le M M' → R (.tuple #[jobK v, .int .i64 0]) M') :
  C PP w0 Id.pP_Get_jj #[.pointer (some ⟨p, 0, none⟩), .agg #[.int .i64 a, .int .i64 g]] R M :=
 GetJ_ok h hb (fun v' hv => by rw [hw] at hv; cases hv; exact h1) (fun hf => by rw [hw] at hf; cases hf)
theorem JCount_ok {q : Int} (oJ : Own w0 F jt (jtV pj mb) tJt) (h : HO w0 F M os (star (PsJ pj P) Q)) (hb : P.l.length ≤ 10000) (hg1 : ∀ x ∈ P.l, x.t = true → 1 ≤ x.g)
  (hK : ∀ M', HO w0 F M' os (star (PsJ pj P) Q) → R (.int .i64 (cntJ P q P.refs)) M') :
  C PP w0 Id.jT_Count #[.pointer (some ⟨jt, 0, none⟩), .int .i64 q] R M := by
 apply jT_Count.go
 intro pts H
 unfold jT_Count.T nfz
 have hrl : P.refs.length ≤ 10000 := Nat.le_trans (refsG_len P.l 0) hb
 have key : ∀ (B A : List Ent) (s : SV) (F3 M3 : Mem) (kk : Nat), P.refs = A ++ B → Mem.le F F3 → HO w0 F3 M3 os (star (Es s P.refs) (star (PsJ pj P) Q)) → B.length < kk → jT_Count.L1 pts kk (some ⟨jt, 0, none⟩) q (cntJ P q A : Int) s ((s.n : Nat) : Int) (A.length : Int) M3 := by
  intro B
  induction B with
  | nil =>
   intro A s F3 M3 kk he l3 h3 hk
   obtain ⟨kk, rfl⟩ : ∃ j, kk = j + 1 := ⟨kk - 1, by omega⟩
   rw [List.append_nil] at he
   have hsn := h3.h.rdE.len
   refine Eq.mpr (H.L1 ..) ?_
   unfold jT_Count.L1.T nfz
   rw [bD_, if_neg (by rw [hsn, he]; omega), ← he]
   exact hK M3 ((h3.mapH fun h => h.right).uF_ l3)
  | cons r B ih =>
   intro A s F3 M3 kk he l3 h3 hk
   obtain ⟨kk, rfl⟩ : ∃ j, kk = j + 1 := ⟨kk - 1, by omega⟩
   have ll := congrArg List.length he
   simp only [List.length_append, List.length_cons] at ll hk
   have hsn := h3.h.rdE.len
   have hget : (P.refs)[A.length]? = some r := by rw [he]; simp
   have hrm : r ∈ P.refs := by rw [he]; simp
   obtain ⟨v, hv⟩ := refs_find5 hg1 hrm
   have hqv : qOf P r = v.1 := by unfold qOf; rw [hv]
   have hcl := cntJ_le (P := P) (q := q) A
   refine Eq.mpr (H.L1 ..) ?_
   unfold jT_Count.L1.T nfz
   rw [bD_, if_pos (by omega)]
   refine rdRf (x := r) h3.h.rdE (Mem.le_refl _) A.length rfl hget ?_
   refine boxF gRef (by rfl) one2 h3 fun b4 F4 M4 l4 o4 h4 => ?_
   have oJ4 := (oJ.le l3).le l4
   simp only [nc_v, add_eq, Nat.zero_add, J0 oJ4 h4.fr, ob_v, sP_v, lB_ gRef (o4.le h4.fr), sA_, sC_, zI_, zN_]
   refine ⟨?_, ?_⟩
   rotate_left
   refine nwB h4 fun b5 M5 l5 h5 => ?_
   refine ⟨J0 oJ4 h5.fr, lB_ gRef (o4.le h5.fr), ?_⟩
   refine GetJ1 h5.h.right.right (by omega) hv fun M6 l6 => ?_
   simp only [jobK, sT_v, sC_, sA_, zI_, zN_]
   refine stF (vs := vc5 v) gJob5 (by rfl) (vc5_one v) (h5.le l6) fun F7 M7 l7 o7 h7 => ?_
   rotate_left
   refine GetJ1 h4.h.right (by omega) hv fun M6 l6 => ?_
   simp only [jobK, sT_v, sC_, sA_, zI_, zN_]
   refine boxF (vs := vc5 v) gJob5 (by rfl) (vc5_one v) (h4.le l6) fun b5 F7 M7 l7 o7 h7 => ?_
   all_goals
    simp only [ld1 W.c3 (o7.le h7.fr) (o := 0) rfl, ob_v, zI_, i64_succ (show A.length < 4611686018427387904 by omega), i64_succ (show cntJ P q A < 4611686018427387904 by omega)]
    have := ih (A ++ [r]) s F7 M7 kk (by rw [he]; simp) (Mem.le_trans l3 (Mem.le_trans l4 l7)) h7 (by omega)
    rw [List.length_append, List.length_singleton, cntJ_app, hqv] at this
    rw [bQ_]
    split
    ·rename_i hc
     rw [if_pos hc] at this
     exact this
    ·rename_i hc
     rw [if_neg hc, Nat.add_zero] at this
     exact this
 simp only [nc_v, add_eq, Nat.zero_add, J0 oJ h.fr, ob_v, sP_v]
 obtain ⟨F1, hB, l1, back⟩ := h.foc0
 refine AllJ_ok hB (by omega) fun M2 s2 lm2 h2 => ?_
 rw [shS_sv]
 have := key P.refs [] s2 F M2 (P.refs.length + 1) rfl (Mem.le_refl _) (back M2 _ h2) (by omega)
 exact ⟨_, this⟩
theorem JMove_ok {f t : Int} (oJ : Own w0 F jt (jtV pj mb) tJt) (h : HO w0 F M os (star (PsJ pj P) Q)) (hb : P.l.length ≤ 10000) (hg1 : ∀ x ∈ P.l, x.t = true → 1 ≤ x.g)
  (hK : ∀ M', HO w0 F M' os (star (PsJ pj (rmv P P.refs f t)) Q) → R (.int .i64 (cntJ P f P.refs)) M') :
  C PP w0 Id.jT_Move #[.pointer (some ⟨jt, 0, none⟩), .int .i64 f, .int .i64 t] R M := by
 apply jT_Move.go
 intro pts H
 unfold jT_Move.T nfz
 have hrl : P.refs.length ≤ 10000 := Nat.le_trans (refsG_len P.l 0) hb
 have hrn := refsG_nd P.l 0
 change (P.refs).Pairwise _ at hrn
 have key : ∀ (B A : List Ent) (s : SV) (F3 M3 : Mem) (kk : Nat), P.refs = A ++ B → Mem.le F F3 → HO w0 F3 M3 os (star (Es s P.refs) (star (PsJ pj (rmv P A f t)) Q)) → B.length < kk → jT_Move.L1 pts kk (some ⟨jt, 0, none⟩) f t (cntJ P f A : Int) s ((s.n : Nat) : Int) (A.length : Int) M3 := by
  intro B
  induction B with
  | nil =>
   intro A s F3 M3 kk he l3 h3 hk
   obtain ⟨kk, rfl⟩ : ∃ j, kk = j + 1 := ⟨kk - 1, by omega⟩
   rw [List.append_nil] at he
   have hsn := h3.h.rdE.len
   refine Eq.mpr (H.L1 ..) ?_
   unfold jT_Move.L1.T nfz
   rw [bD_, if_neg (by rw [hsn, he]; omega)]
   rw [← he] at h3 ⊢
   exact hK M3 ((h3.mapH fun h => h.right).uF_ l3)
  | cons r B ih =>
   intro A s F3 M3 kk he l3 h3 hk
   obtain ⟨kk, rfl⟩ : ∃ j, kk = j + 1 := ⟨kk - 1, by omega⟩
   have ll := congrArg List.length he
   simp only [List.length_append, List.length_cons] at ll hk
   have hsn := h3.h.rdE.len
   have hget : (P.refs)[A.length]? = some r := by rw [he]; simp
   have hrm : r ∈ P.refs := by rw [he]; simp
   obtain ⟨v, hv⟩ := refs_find5 hg1 hrm
   have hqv : qOf P r = v.1 := by unfold qOf; rw [hv]
   have hcl := cntJ_le (P := P) (q := f) A
   have hrA : ∀ x ∈ A, x.1 < r.1 := fun x hx => by
    rw [he] at hrn
    exact (List.pairwise_append.1 hrn).2.2 x hx r List.mem_cons_self
   have hrnA : (r.1, r.2) ∉ A := fun hm => by have := hrA _ hm; simp only at this; omega
   have hvA : (rmv P A f t).find r.1 r.2 = some v := by rw [rmv_find hv, if_neg (fun h => hrnA h.1)]
   have hlA : (rmv P A f t).l.length ≤ 10000 := by rw [rmv_len]; omega
   refine Eq.mpr (H.L1 ..) ?_
   unfold jT_Move.L1.T nfz
   rw [bD_, if_pos (by omega)]
   refine rdRf (x := r) h3.h.rdE (Mem.le_refl _) A.length rfl hget ?_
   refine boxF gRef (by rfl) one2 h3 fun b4 F4 M4 l4 o4 h4 => ?_
   have oJ4 := (oJ.le l3).le l4
   simp only [nc_v, add_eq, Nat.zero_add, J0 oJ4 h4.fr, ob_v, sP_v, lB_ gRef (o4.le h4.fr), sA_, sC_, zI_, zN_]
   refine ⟨?_, ?_⟩
   rotate_left
   refine nwB h4 fun b5 M5 l5 h5 => ?_
   refine ⟨J0 oJ4 h5.fr, lB_ gRef (o4.le h5.fr), ?_⟩
   refine GetJ1 h5.h.right.right (by omega) hvA fun M6 l6 => ?_
   simp only [jobK, sT_v, sC_, sA_, zI_, zN_]
   refine stW (vs := vc5 v) gJob5 (by rfl) (vc5_one v) (h5.le l6) fun M7 h7 => ?_
   rotate_left
   refine GetJ1 h4.h.right (by omega) hvA fun M6 l6 => ?_
   simp only [jobK, sT_v, sC_, sA_, zI_, zN_]
   refine nwB (h4.le l6) fun b5 M5 l5 h5 => ?_
   refine stW (vs := vc5 v) gJob5 (by rfl) (vc5_one v) h5 fun M7 h7 => ?_
   all_goals
    simp only [ld1 W.c3 h7.h.own1 (o := 0) rfl, ob_v, zI_, i64_succ (show A.length < 4611686018427387904 by omega), i64_succ (show cntJ P f A < 4611686018427387904 by omega)]
    rw [bQ_]
    split
    ·rename_i hc
     refine st1W (o := 0) W.c3 (by simp) rfl rfl h7 fun M8 h8 => ?_
     change HO w0 F4 M8 _ (star (row1 b5 (vc5 (t, v.2)) _) _) at h8
     simp only [nc_v, add_eq, Nat.zero_add, J0 oJ4 h8.fr, ob_v, sP_v, lB_ gRef (o4.le h8.fr), lB_ (vs := vc5 (t, v.2)) gJob5 h8.h.own1, sA_, sC_, zI_, zN_]
     obtain ⟨F9, hB, l9, back9⟩ := h8.foc2 (A := row1 b5 _ _) (B := Es s P.refs)
     refine SetJ_ok (v := (t, v.2)) hB (by omega) hvA fun M9 hC => ?_
     rw [zI_]
     have h9 := (back9 M9 _ hC).mapH fun h => h.right
     rw [rmv_put hv hrA hc] at h9
     have := ih (A ++ [r]) s F4 M9 kk (by rw [he]; simp) (Mem.le_trans l3 l4) h9 (by omega)
     rw [List.length_append, List.length_singleton, cntJ_app, hqv, if_pos hc] at this
     exact this
    ·rename_i hc
     have h8 := h7.mapH fun h => h.right
     rw [← rmv_skip (A := A) (t := t) hv hc] at h8
     have := ih (A ++ [r]) s F4 M7 kk (by rw [he]; simp) (Mem.le_trans l3 l4) h8 (by omega)
     rw [List.length_append, List.length_singleton, cntJ_app, hqv, if_neg hc, Nat.add_zero] at this
     exact this
 simp only [nc_v, add_eq, Nat.zero_add, J0 oJ h.fr, ob_v, sP_v]
 obtain ⟨F1, hB, l1, back⟩ := h.foc0
 refine AllJ_ok hB (by omega) fun M2 s2 lm2 h2 => ?_
 rw [shS_sv]
 have := key P.refs [] s2 F M2 (P.refs.length + 1) rfl (Mem.le_refl _) (by rw [rmv_nil]; exact back M2 _ h2) (by omega)
 exact ⟨_, this⟩
end
end Go.Proofs.YtodobkbnmjgkdaaGreat.HL
namespace Go.Proofs.YtodobkbnmjgkdaaGreat.HL
open Go.RowKit (Below)
open Go.Proofs
def badQ (c : Cmd) : Prop := (c.kind = 1 ∨ c.kind = 5 ∨ c.kind = 6 ∨ c.kind = 7) ∧ (c.queue < 0 ∨ 2 ≤ c.queue)
section
variable {w0 : World} {F M : Mem} {R : VP}
theorem eqRef (d : Nat) (a g b k : Int) : pure? PP (Op.equalIn (d + 1 + 1) 33 (.agg #[.int .i64 a, .int .i64 g]) (.agg #[.int .i64 b, .int .i64 k])) = some (a == b && g == k) := by
 have := equal_struct (P := PP) (d := d + 1) (es := [a == b, g == k]) (xs := #[.int .i64 a, .int .i64 g]) (ys := #[.int .i64 b, .int .i64 k]) Tryz.underlying33 (by kernel_rfl)
  ⟨by decide, ⟨.int .i64 a, .int .i64 b, by kernel_rfl, by kernel_rfl, equal_int Tryz.underlying3 a b⟩, by decide, ⟨.int .i64 g, .int .i64 k, by kernel_rfl, by kernel_rfl, equal_int Tryz.underlying3 g k⟩, trivial⟩
 rw [show ([a == b, g == k] : List Bool).all id = (a == b && g == k) from by simp [List.all]] at this
 exact this
theorem repB (r s : Rep) : ([r.why == s.why, (r.at_ == s.at_ && r.gen == s.gen), r.time == s.time, r.data == s.data, r.n == s.n] : List Bool).all id = decide (r = s) := by
 rw [Bool.eq_iff_iff]
 simp only [List.all_cons, List.all_nil, id, Bool.and_eq_true, beq_iff_eq, decide_eq_true_eq, and_true]
 cases r; cases s
 simp only [Rep.mk.injEq]
 constructor
 ·rintro ⟨h1, ⟨h2, h3⟩, h4, h5, h6⟩; exact ⟨h1, h2, h3, h4, h5, h6⟩
 ·rintro ⟨h1, h2, h3, h4, h5, h6⟩; exact ⟨h1, ⟨h2, h3⟩, h4, h5, h6⟩
theorem neRep {X Y : Operand} (r s : Rep) : (std PP w0).bq .neq tRep X Y r.v s.v = some (.bool (!decide (r = s))) := by
 rw [← repB]
 exact neq_struct (es := [r.why == s.why, (r.at_ == s.at_ && r.gen == s.gen), r.time == s.time, r.data == s.data, r.n == s.n]) Tryz.underlying65 (by kernel_rfl) (by kernel_rfl)
  ⟨by decide, ⟨.int .i64 r.why, .int .i64 s.why, by kernel_rfl, by kernel_rfl, equal_int Tryz.underlying25 r.why s.why⟩,
   by decide, ⟨.agg #[.int .i64 r.at_, .int .i64 r.gen], .agg #[.int .i64 s.at_, .int .i64 s.gen], by kernel_rfl, by kernel_rfl, eqRef 9997 r.at_ r.gen s.at_ s.gen⟩,
   by decide, ⟨.int .i64 r.time, .int .i64 s.time, by kernel_rfl, by kernel_rfl, equal_int Tryz.underlying2 r.time s.time⟩,
   by decide, ⟨.int .i64 r.data, .int .i64 s.data, by kernel_rfl, by kernel_rfl, equal_int Tryz.underlying3 r.data s.data⟩,
   by decide, ⟨.int .i64 r.n, .int .i64 s.n, by kernel_rfl, by kernel_rfl, equal_int Tryz.underlying3 r.n s.n⟩, trivial⟩
theorem neRepU {X Y : Operand} (a0 a1 a2 a3 a4 a5 b0 b1 b2 b3 b4 b5 : Int) : (std PP w0).bq .neq tRep X Y (.agg #[.int .i64 a0, .int .i64 a1, .int .i64 a2, .int .i64 a3, .int .i64 a4, .int .i64 a5]) (.agg #[.int .i64 b0, .int .i64 b1, .int .i64 b2, .int .i64 b3, .int .i64 b4, .int .i64 b5]) = some (.bool (!decide ((⟨a0, a1, a2, a3, a4, a5⟩ : Rep) = ⟨b0, b1, b2, b3, b4, b5⟩))) := neRep ⟨a0, a1, a2, a3, a4, a5⟩ ⟨b0, b1, b2, b3, b4, b5⟩
theorem bR0 (x : Int) : (std PP w0).bld tRep [(0, .int .i64 x)] = some (.agg #[.int .i64 x, .int .i64 0, .int .i64 0, .int .i64 0, .int .i64 0, .int .i64 0]) := by kernel_rfl
theorem bR2 (x : Int) : (std PP w0).bld tRep [(2, .int .i64 x)] = some (.agg #[.int .i64 0, .int .i64 0, .int .i64 0, .int .i64 x, .int .i64 0, .int .i64 0]) := by kernel_rfl
theorem bR4 (x : Int) : (std PP w0).bld tRep [(4, .int .i64 x)] = some (.agg #[.int .i64 0, .int .i64 0, .int .i64 0, .int .i64 0, .int .i64 0, .int .i64 x]) := by kernel_rfl
theorem bR23 (x y : Int) : (std PP w0).bld tRep [(2, .int .i64 x), (3, .int .i64 y)] = some (.agg #[.int .i64 0, .int .i64 0, .int .i64 0, .int .i64 x, .int .i64 y, .int .i64 0]) := by kernel_rfl
end
end Go.Proofs.YtodobkbnmjgkdaaGreat.HL
namespace Go.Proofs.YtodobkbnmjgkdaaGreat.HL
open Go.RowKit (Below)
open Go.Proofs
section
variable {x : D22} {c : Cmd}
theorem do22_bad (h : badQ c) : do22 x c = (x, { why := 1 }) := by unfold badQ at h; unfold do22; rw [if_pos h]
theorem do22_1 (h : ¬ badQ c) (k : c.kind = 1) : do22 x c = match x.pool.at_ with
  | none => (x, { why := 13 })
  | some a => ({ x with pool := x.pool.take a 0, l := x.l ++ [⟨c.queue, c.data, c.time, x.next, (a : Int), x.pool.gen a⟩], next := x.next + 1 }, { at_ := (a : Int), gen := x.pool.gen a, time := c.time, data := c.data }) := by
 unfold badQ at h; unfold do22; rw [if_neg h, if_pos k] <;> rfl
theorem do22_23 (k : c.kind = 2 ∨ c.kind = 3) : do22 x c = if x.pool.look c.at_ c.gen ≠ 0 then (x, { why := x.pool.look c.at_ c.gen })
  else match atD x.l c.at_ c.gen with
   | none => (x, {})
   | some k => match x.l[k]? with
    | none => (x, {})
    | some j =>
     if c.kind = 3 then (x.out k, { time := j.key, data := j.data })
     else if j.key < c.time then (x, { why := 26 })
     else ({ x with l := x.l.set k { j with key := c.time } }, { time := c.time, data := j.data }) := by
 unfold do22; rw [if_neg (fun h => by omega), if_neg (by omega), if_pos k] <;> rfl
theorem do22_4 (k : c.kind = 4) : do22 x c = if c.time < 0 then (x, { why := 1 }) else ({ x with now := addc x.now c.time }, { time := addc x.now c.time }) := by
 unfold do22; rw [if_neg (fun h => by omega), if_neg (by omega), if_neg (by omega), if_pos k]
theorem do22_5 (h : ¬ badQ c) (k : c.kind = 5) : do22 x c = match firstD x.l c.queue with
  | none => (x, { why := 28 })
  | some y => if x.now < y.2.1 then (x, { why := 28 }) else
   match x.l[y.1]? with
   | none => (x, {})
   | some j => (x.out y.1, { at_ := j.at_, gen := j.gen, time := j.key, data := j.data }) := by
 unfold badQ at h; unfold do22; rw [if_neg h, if_neg (by omega), if_neg (by omega), if_neg (by omega), if_pos k] <;> rfl
theorem do22_6 (h : ¬ badQ c) (k : c.kind = 6) : do22 x c = if c.queue = 0 then (x, { why := 25 })
  else ({ x with l := x.l.map fun j => if j.queue = 1 then { j with queue := 0 } else j }, { n := (countD 1 x.l : Int) }) := by
 unfold badQ at h; unfold do22; rw [if_neg h, if_neg (by omega), if_neg (by omega), if_neg (by omega), if_neg (by omega), if_pos k]
theorem do22_7 (h : ¬ badQ c) (k : c.kind = 7) : do22 x c = (x, { n := (countD c.queue x.l : Int) }) := by
 unfold badQ at h; unfold do22; rw [if_neg h, if_neg (by omega), if_neg (by omega), if_neg (by omega), if_neg (by omega), if_neg (by omega), if_pos k]
theorem do22_8 (k : c.kind < 1 ∨ 7 < c.kind) : do22 x c = (x, { why := 12 }) := by
 unfold do22; rw [if_neg (fun h => by omega), if_neg (by omega), if_neg (by omega), if_neg (by omega), if_neg (by omega), if_neg (by omega), if_neg (by omega)]
end
section
variable {w0 : World} {F M : Mem} {R : VP}
section
variable {d : Nat} {x : D22} {Q : Asn}
end
end
end Go.Proofs.YtodobkbnmjgkdaaGreat.HL
namespace Go.Proofs.YtodobkbnmjgkdaaGreat.HL
open Go.RowKit (Below)
open Go.Proofs
section
variable {w0 : World} {F M : Mem} {R : VP} {d : Nat} {x : D22} {Q : Asn}
def D22.new (n : Int) : D22 := ⟨n, 0, 0, ⟨n, [], [], [], []⟩, []⟩
theorem dNew_ok {n : Int} (h : Holds w0 F M Q) (h0 : 0 ≤ n) (h1 : n ≤ 65536) (hR : ∀ M' d, Holds w0 F M' (star (DispA d (D22.new n)) Q) → R (.pointer (some ⟨d, 0, none⟩)) M') : C PP w0 Id.d2_New #[.int .i64 n] R M := by
 apply d2_New.go
 unfold d2_New.T nfz
 refine rPNew_ok h h0 h1 fun M1 p g1 => ?_
 rw [sP_v]
 have hb : (std PP w0).bld tD [(0, .int .i64 n), (3, .pointer (some ⟨p, 0, none⟩))] = some (.agg #[.int .i64 n, .int .i64 0, .int .i64 0, .pointer (some ⟨p, 0, none⟩), .slice none 0 0]) := by kernel_rfl
 rw [hb]
 simp only [ob_v, sA_, sC_, zI_, sP_v, shS_v, zN_]
 intro d hd0 hdw
 have g := Holds.new g1 hd0 hdw [.int .i64 n, .int .i64 0, .int .i64 0, .pointer (some ⟨p, 0, none⟩), SV.v ⟨none, 0, 0⟩] tD
 refine hR _ d ?_
 obtain ⟨F1, k1, _, k2⟩ := g.last
 have : DH w0 F _ d (D22.new n) p ⟨none, 0, 0⟩ Q := k2 _ _ (Holds.nilSlk (k := 6) k1)
 exact this.close
end
end Go.Proofs.YtodobkbnmjgkdaaGreat.HL
namespace Go.Proofs.YtodobkbnmjgkdaaGreat.HL
namespace PS
variable {κ κ' : Type} {p : PS κ} {p' : PS κ'}
theorem pl_parts (h : p.pl = p'.pl) : p.most = p'.most ∧ p.free = p'.free ∧ p.l.length = p'.l.length ∧ (∀ j : Nat, (p.l[j]?).map (·.g) = (p'.l[j]?).map (·.g)) ∧ ∀ j : Nat, (p.l[j]?).map (·.t) = (p'.l[j]?).map (·.t) := by
 unfold pl at h
 simp only [Pl.mk.injEq] at h
 obtain ⟨h1, h2, h3, h4, h5⟩ := h
 refine ⟨h1, h5, ?_, fun j => ?_, fun j => ?_⟩
 ·have := congrArg List.length h2
  simpa using this
 ·rw [← List.getElem?_map, ← List.getElem?_map, h2]
 ·rw [← List.getElem?_map, ← List.getElem?_map, h3]
theorem pl_get (h : p.pl = p'.pl) {j : Nat} {x : Plc κ} (hx : p.l[j]? = some x) : ∃ y, p'.l[j]? = some y ∧ y.g = x.g ∧ y.t = x.t := by
 obtain ⟨_, _, _, h4, h5⟩ := pl_parts h
 have a := h4 j
 have b := h5 j
 rw [hx] at a b
 cases hy : p'.l[j]? with
 | none => rw [hy] at a; cases a
 | some y =>
  rw [hy] at a b
  simp only [Option.map_some, Option.some.injEq] at a b
  exact ⟨y, rfl, a.symm, b.symm⟩
theorem pl_ok (h : p.pl = p'.pl) (hok : p'.Ok) : p.Ok := by
 obtain ⟨_, h2, _, _, _⟩ := pl_parts h
 refine ⟨by rw [h2]; exact hok.nd, fun a ha => ?_⟩
 rw [h2] at ha
 obtain ⟨y, hy, ht⟩ := hok.fr a ha
 obtain ⟨x, hx, _, hxt⟩ := pl_get h.symm hy
 exact ⟨x, hx, by rw [hxt]; exact ht⟩
theorem pl_mem (h : p.pl = p'.pl) {x : Plc κ} (hx : x ∈ p.l) : ∃ y ∈ p'.l, y.g = x.g ∧ y.t = x.t := by
 obtain ⟨j, hj⟩ := List.getElem?_of_mem hx
 obtain ⟨y, hy, h1⟩ := pl_get h hj
 exact ⟨y, List.mem_of_getElem? hy, h1⟩
theorem pl_PlOk (hok : p.Ok) : PlOk p.pl := by
 refine ⟨by unfold pl; simp, by unfold pl; simp, fun a ha => ?_, hok.nd⟩
 obtain ⟨x, hx, ht⟩ := hok.fr a ha
 have := (List.getElem?_eq_some_iff.1 hx).1
 unfold pl
 simp only [List.length_map, List.getElem?_map, hx, Option.map_some, ht]
 exact ⟨this, trivial⟩
theorem find_take_inv {z v : κ} (hok : p.Ok) {a : Nat} (ha : p.at_ = some a) {b g : Int} {w : κ} (h : (p.take z a v).find b g = some w) : (b = (a : Int) ∧ g = p.gen a) ∨ p.find b g = some w := by
 obtain ⟨t1, t2, _⟩ := take_l hok ha z v
 obtain ⟨k, rfl, hk, hg⟩ := find_some h
 by_cases e : k = a
 ·subst e
  rw [t1] at hk
  cases hk
  exact .inl ⟨rfl, rfl⟩
 ·rw [t2 k e] at hk
  exact .inr (find_of hk hg)
theorem find_give_inv {z : κ} {a : Nat} {x : Plc κ} (hx : p.l[a]? = some x) {b g : Int} {w : κ} (h : (p.give z a).find b g = some w) : b ≠ (a : Int) ∧ p.find b g = some w := by
 obtain ⟨h1, _⟩ := give_l z hx
 obtain ⟨k, rfl, hk, hg⟩ := find_some h
 rw [h1] at hk
 by_cases e : a = k
 ·subst e
  rw [List.getElem?_set_self (List.getElem?_eq_some_iff.1 hx).1] at hk
  cases hk
 ·rw [List.getElem?_set_ne e] at hk
  exact ⟨by omega, find_of hk hg⟩
theorem find_put_inv {a : Nat} {v : κ} {x : Plc κ} (hx : p.l[a]? = some x) {b g : Int} {w : κ} (h : (p.put a v).find b g = some w) : ∃ w', p.find b g = some w' := by
 obtain ⟨h1, _⟩ := put_l v hx
 obtain ⟨k, rfl, hk, hg⟩ := find_some h
 rw [h1] at hk
 by_cases e : a = k
 ·subst e
  rw [List.getElem?_set_self (List.getElem?_eq_some_iff.1 hx).1] at hk
  obtain ⟨xg, xt, xv⟩ := x
  cases hk
  exact ⟨_, find_of hx hg⟩
 ·rw [List.getElem?_set_ne e] at hk
  exact ⟨_, find_of hk hg⟩
end PS
theorem rmv_find_inv {P : PS V5} {A : List Ent} {f t b g : Int} {w : V5} (h : (rmv P A f t).find b g = some w) : ∃ w', P.find b g = some w' := by
 obtain ⟨k, rfl, hk, hg⟩ := PS.find_some h
 rw [rmv_get] at hk
 cases hx : P.l[k]? with
 | none => rw [hx] at hk; cases hk
 | some x =>
  rw [hx, Option.map_some] at hk
  refine ⟨x.v, PS.find_of ?_ hg⟩
  rw [hx]
  split at hk <;> (obtain ⟨xg, xt, xv⟩ := x; cases hk; rfl)
structure DSt where
 K : Int
 S : QS
 I : List Itm
 y0 : Hv
 y1 : Hv
 P : PS V5
 by_ : RefK → Option RefK
 wh : RefK → Option Int
 now : Int
 budget : Int
 last : Int
 top : Int
def hOf (y0 y1 : Hv) (q : Int) : RefK := if q = 0 then y0.h else y1.h
def Jb.r (j : Jb) : RefK := (j.at_, j.gen)
def jk (y0 y1 : Hv) (j : Jb) : RefK × RefK × Ent := (j.r, hOf y0 y1 j.queue, j.e)
def ik (x : Itm) : RefK × RefK × Ent := (x.r, x.h, x.e)
def Jb.v5 (j : Jb) : V5 := (j.queue, j.key, j.data, j.at_, j.gen)
structure DInv (Y : DSt) (d : D22) (tm : Int) : Prop where
 q : QInv Y.S Y.I [Y.y0, Y.y1] tm
 K3 : 1 ≤ Y.K ∧ Y.K ≤ 3
 k0 : Y.y0.k = Y.K
 k1 : Y.y1.k = Y.K
 pk : Y.P.pl = d.pool
 ipk : Y.S.ip.pl = d.pool
 most : Y.S.most = d.most
 now : Y.now = d.now
 nowI : In64 d.now
 nx : Y.S.next = d.next
 par : Y.I.map ik = d.l.map (jk Y.y0 Y.y1)
 qr : ∀ j ∈ d.l, j.queue = 0 ∨ j.queue = 1
 jf : ∀ j ∈ d.l, Y.P.find j.at_ j.gen = some j.v5
 jb : ∀ j ∈ d.l, Y.by_ j.r = some j.r
 jb2 : ∀ r x, Y.by_ r = some x → ∃ j ∈ d.l, j.r = r
 jw : ∀ j ∈ d.l, Y.wh j.r = some j.ser
 lv : ∀ a g v, Y.P.find a g = some v → ∃ j ∈ d.l, j.at_ = a ∧ j.gen = g
 sn : (d.l.map (·.ser)).Nodup
 sl : ∀ j ∈ d.l, 0 ≤ j.ser ∧ j.ser < d.next
section
variable {Y : DSt} {d : D22} {tm : Int}
theorem DInv.pp (h : DInv Y d tm) : Y.P.pl = Y.S.ip.pl := h.pk.trans h.ipk.symm
theorem DInv.pok (h : DInv Y d tm) : Y.P.Ok := PS.pl_ok h.pp h.q.io
theorem DInv.pg (h : DInv Y d tm) : ∀ x ∈ Y.P.l, 0 ≤ x.g ∧ x.g ≤ tm := fun x hx => by
 obtain ⟨y, hy, e, _⟩ := PS.pl_mem h.pp hx
 have := h.q.ig y hy
 omega
theorem DInv.pg1 (h : DInv Y d tm) : ∀ x ∈ Y.P.l, x.t = true → 1 ≤ x.g := fun x hx ht => by
 obtain ⟨y, hy, e, et⟩ := PS.pl_mem h.pp hx
 have := h.q.ig1 y hy (by rw [et]; exact ht)
 omega
theorem DInv.len (h : DInv Y d tm) : Y.I.length = d.l.length := by
 have := congrArg List.length h.par
 simpa using this
theorem DInv.plens (h : DInv Y d tm) : Y.P.l.length = Y.P.free.length + d.l.length ∧ (Y.P.l.length : Int) ≤ d.most ∧ Y.P.most = d.most ∧ d.most ≤ 300 ∧ 1 ≤ d.most := by
 obtain ⟨e1, e2, e3, _⟩ := PS.pl_parts h.pp
 have := h.q.il
 have := h.q.ill
 have := h.q.im
 have := h.q.m2
 have := h.q.m1
 have := h.most
 have := h.len
 refine ⟨by rw [e3, e2]; omega, by rw [e3]; omega, by rw [e1]; omega, by omega, by omega⟩
theorem DInv.refs (h : DInv Y d tm) : Y.I.map (·.r) = d.l.map Jb.r := by
 have := congrArg (List.map Prod.fst) h.par
 rw [List.map_map, List.map_map] at this
 exact this
theorem DInv.rnd (h : DInv Y d tm) : (d.l.map Jb.r).Nodup := by rw [← h.refs]; exact h.q.ind
theorem DInv.ok (h : DInv Y d tm) (htm : tm ≤ 900000) : DOk d := by
 obtain ⟨e1, e2, e3, e4, e5⟩ := h.plens
 have hp : d.pool = Y.P.pl := h.pk.symm
 have hnx := h.q.nx
 have := h.nx
 refine ⟨by rw [hp]; exact PS.pl_PlOk h.pok, fun a g hl => ?_, fun j hj => ?_, ?_, ?_, fun g hg => ?_, ?_, ?_⟩
 ·rw [hp, ← PS.find_look] at hl
  obtain ⟨v, hv⟩ := Option.isSome_iff_exists.1 hl
  obtain ⟨j, hj, ea, eg⟩ := h.lv a g v hv
  cases hk : HL.atD d.l a g with
  | some k => exact ⟨k, rfl⟩
  | none =>
   have := List.findIdx?_eq_none_iff.1 hk j hj
   simp [ea, eg] at this
 ·rw [hp, ← PS.find_look, h.jf j hj]; rfl
 ·rw [hp]; show Y.P.free.length ≤ 10000; omega
 ·rw [hp]; show (Y.P.l.map (·.g)).length ≤ 10000; rw [List.length_map]; omega
 ·rw [hp] at hg
  obtain ⟨x, hx, rfl⟩ := List.mem_map.1 hg
  have := h.pg x hx
  omega
 ·omega
 ·omega
theorem DInv.split (h : DInv Y d tm) {A B : List Jb} {j : Jb} (hd : d.l = A ++ j :: B) : ∃ IA x IB, Y.I = IA ++ x :: IB ∧ IA.map ik = A.map (jk Y.y0 Y.y1) ∧ x.r = j.r ∧ x.h = hOf Y.y0 Y.y1 j.queue ∧ x.e = j.e ∧ IB.map ik = B.map (jk Y.y0 Y.y1) := by
 have hp := h.par
 rw [hd, List.map_append, List.map_cons] at hp
 obtain ⟨IA, I2, e1, e2, e3⟩ := List.map_eq_append_iff.1 hp
 obtain ⟨x, IB, e4, e5, e6⟩ := List.map_eq_cons_iff.1 e3
 subst e4
 have e7 : (x.r, x.h, x.e) = (j.r, hOf Y.y0 Y.y1 j.queue, j.e) := e5
 simp only [Prod.mk.injEq] at e7
 exact ⟨IA, x, IB, e1, e2, e7.1, e7.2.1, e7.2.2, e6⟩
theorem DInv.of_item (h : DInv Y d tm) {x : Itm} (hx : x ∈ Y.I) : ∃ j ∈ d.l, x.r = j.r ∧ x.h = hOf Y.y0 Y.y1 j.queue ∧ x.e = j.e := by
 have : ik x ∈ Y.I.map ik := List.mem_map.2 ⟨x, hx, rfl⟩
 rw [h.par] at this
 obtain ⟨j, hj, e⟩ := List.mem_map.1 this
 have e7 : (j.r, hOf Y.y0 Y.y1 j.queue, j.e) = (x.r, x.h, x.e) := e
 simp only [Prod.mk.injEq] at e7
 exact ⟨j, hj, e7.1.symm, e7.2.1.symm, e7.2.2.symm⟩
theorem DInv.hne (h : DInv Y d tm) : Y.y0.h ≠ Y.y1.h := fun e => by
 have := h.q.hnd
 simp [e] at this
theorem hOf_inj (h : DInv Y d tm) {p q : Int} (hp : p = 0 ∨ p = 1) (hq : q = 0 ∨ q = 1) (e : hOf Y.y0 Y.y1 p = hOf Y.y0 Y.y1 q) : p = q := by
 have hne := h.hne
 unfold hOf at e
 rcases hp with rfl | rfl <;> rcases hq with rfl | rfl <;> first | rfl | (simp at e; exact absurd e (by first | exact hne | exact hne.symm))
theorem DInv.atD (h : DInv Y d tm) {a g : Int} {k : Nat} (hk : atD d.l a g = some k) : ∃ j, d.l[k]? = some j ∧ j.at_ = a ∧ j.gen = g ∧ ∃ A B, d.l = A ++ j :: B ∧ A.length = k := by
 obtain ⟨h1, h2, _⟩ := List.findIdx?_eq_some_iff_getElem.1 hk
 refine ⟨d.l[k], List.getElem?_eq_getElem h1, ?_⟩
 have h3 : d.l[k].at_ = a ∧ d.l[k].gen = g := by simpa using h2
 refine ⟨h3.1, h3.2, d.l.take k, d.l.drop (k + 1), ?_, ?_⟩
 ·rw [← List.drop_eq_getElem_cons h1, List.take_append_drop]
 ·rw [List.length_take, Nat.min_eq_left (by omega)]
theorem split_of {l : List Jb} {k : Nat} {j : Jb} (h : l[k]? = some j) : ∃ A B, l = A ++ j :: B ∧ A.length = k := by
 obtain ⟨h1, rfl⟩ := List.getElem?_eq_some_iff.1 h
 refine ⟨l.take k, l.drop (k + 1), ?_, ?_⟩
 ·rw [← List.drop_eq_getElem_cons h1, List.take_append_drop]
 ·rw [List.length_take, Nat.min_eq_left (by omega)]
theorem jk_congr {y0 y1 y0' y1' : Hv} (h0 : y0'.h = y0.h) (h1 : y1'.h = y1.h) : jk y0' y1' = jk y0 y1 := by
 funext j
 unfold jk hOf
 rw [h0, h1]
theorem DInv.add (h : DInv Y d tm) {S' : QS} {y0' y1' : Hv} {a : Nat} {cc : Nat} {q t da : Int} (hq : q = 0 ∨ q = 1) (hat : d.pool.at_ = some a)
  (hS : QInv S' (Y.I ++ [⟨((a : Int), d.pool.gen a), hOf Y.y0 Y.y1 q, cc, (t, d.next)⟩]) [y0', y1'] (tm + 1)) (h0 : y0'.h = Y.y0.h) (h1 : y1'.h = Y.y1.h) (k0 : y0'.k = Y.y0.k) (k1 : y1'.k = Y.y1.k) (hm : S'.most = Y.S.most) (hn : S'.next = Y.S.next + 1) (hip : S'.ip.pl = Y.S.ip.pl.take a 0) :
  DInv ⟨Y.K, S', Y.I ++ [⟨((a : Int), d.pool.gen a), hOf Y.y0 Y.y1 q, cc, (t, d.next)⟩], y0', y1', Y.P.take z5 a (q, t, da, (a : Int), d.pool.gen a), updM Y.by_ ((a : Int), d.pool.gen a) (some ((a : Int), d.pool.gen a)), updM Y.wh ((a : Int), d.pool.gen a) (some d.next), Y.now, Y.budget, Y.last, Y.top⟩
   { d with pool := d.pool.take a 0, l := d.l ++ [⟨q, da, t, d.next, (a : Int), d.pool.gen a⟩], next := d.next + 1 } (tm + 1) := by
 have hatP : Y.P.at_ = some a := by rw [← PS.pl_at, h.pk]; exact hat
 have hg : d.pool.gen a = Y.P.gen a := by rw [← h.pk]; exact (PS.pl_gen _ hatP h.pok.lt).1
 have hg1 := PS.gen_le h.pg h.q.tm0 a
 obtain ⟨f1, f2⟩ := PS.find_take h.pok hatP z5 (q, t, da, (a : Int), d.pool.gen a) hg1.1
 rw [← hg] at f1
 have hno : ∀ j ∈ d.l, j.r ≠ ((a : Int), d.pool.gen a) := fun j hj e => by
  have h1 := h.jf j hj
  have e1 : j.at_ = (a : Int) := congrArg Prod.fst e
  have e2 : j.gen = d.pool.gen a := congrArg Prod.snd e
  rw [e1, e2, h.pok.at_no hatP] at h1; cases h1
 have hnx := h.q.nx
 have hnn := h.nx
 refine ⟨hS, h.K3, k0.trans h.k0, k1.trans h.k1, ?_, ?_, hm.trans h.most, h.now, h.nowI, ?_, ?_, fun j hj => ?_, fun j hj => ?_, fun j hj => ?_, fun r x hx => ?_, fun j hj => ?_, fun b g v hv => ?_, ?_, fun j hj => ?_⟩
 ·show (Y.P.take z5 a _).pl = d.pool.take a 0
  rw [PS.pl_take _ _ _ hatP h.pok.lt, h.pk]
 ·show S'.ip.pl = d.pool.take a 0
  rw [hip, h.ipk]
 ·show S'.next = d.next + 1
  omega
 ·show (Y.I ++ _).map ik = (d.l ++ _).map (jk y0' y1')
  rw [jk_congr h0 h1, List.map_append, List.map_append, h.par]; rfl
 ·rcases List.mem_append.1 hj with hj | hj
  ·exact h.qr j hj
  ·rw [List.mem_singleton.1 hj]; exact hq
 ·rcases List.mem_append.1 hj with hj | hj
  ·exact f2 _ _ _ (h.jf j hj)
  ·rw [List.mem_singleton.1 hj]; exact f1
 ·show updM Y.by_ _ _ j.r = some j.r
  unfold updM
  rcases List.mem_append.1 hj with hj | hj
  ·rw [if_neg (hno j hj)]; exact h.jb j hj
  ·rw [List.mem_singleton.1 hj]; exact if_pos rfl
 ·have hx' : updM Y.by_ _ _ r = some x := hx
  unfold updM at hx'
  split at hx'
  ·rename_i e
   exact ⟨_, List.mem_append_right _ List.mem_cons_self, e.symm⟩
  ·obtain ⟨j, hj, e⟩ := h.jb2 r x hx'
   exact ⟨j, List.mem_append_left _ hj, e⟩
 ·show updM Y.wh _ _ j.r = some j.ser
  unfold updM
  rcases List.mem_append.1 hj with hj | hj
  ·rw [if_neg (hno j hj)]; exact h.jw j hj
  ·rw [List.mem_singleton.1 hj]; exact if_pos rfl
 ·rcases PS.find_take_inv h.pok hatP hv with ⟨e1, e2⟩ | hv
  ·exact ⟨_, List.mem_append_right _ List.mem_cons_self, e1.symm, by rw [e2, ← hg]⟩
  ·obtain ⟨j, hj, e⟩ := h.lv b g v hv
   exact ⟨j, List.mem_append_left _ hj, e⟩
 ·rw [List.map_append, List.nodup_append]
  refine ⟨h.sn, by simp, fun u hu v hv e => ?_⟩
  obtain ⟨j, hj, rfl⟩ := List.mem_map.1 hu
  simp only [List.map_cons, List.map_nil, List.mem_singleton] at hv
  have := h.sl j hj
  omega
 ·show 0 ≤ j.ser ∧ j.ser < d.next + 1
  rcases List.mem_append.1 hj with hj | hj
  ·have := h.sl j hj; omega
  ·rw [List.mem_singleton.1 hj]
   show 0 ≤ d.next ∧ d.next < d.next + 1
   omega
theorem DInv.out (h : DInv Y d tm) {A B : List Jb} {j : Jb} (hd : d.l = A ++ j :: B) {IA IB : List Itm} {x : Itm} (hI : Y.I = IA ++ x :: IB) (hA : IA.map ik = A.map (jk Y.y0 Y.y1)) (hB : IB.map ik = B.map (jk Y.y0 Y.y1)) {S' : QS} {y0' y1' : Hv}
  (hS : QInv S' (IA ++ IB) [y0', y1'] (tm + 1)) (h0 : y0'.h = Y.y0.h) (h1 : y1'.h = Y.y1.h) (k0 : y0'.k = Y.y0.k) (k1 : y1'.k = Y.y1.k) (hm : S'.most = Y.S.most) (hn : S'.next = Y.S.next) (hip : S'.ip.pl = Y.S.ip.pl.give j.at_.toNat) :
  DInv ⟨Y.K, S', IA ++ IB, y0', y1', Y.P.give z5 j.at_.toNat, updM Y.by_ j.r none, updM Y.wh j.r none, Y.now, Y.budget, Y.last, Y.top⟩ (d.out A.length) (tm + 1) := by
 have hdA : d.l[A.length]? = some j := by rw [hd]; simp
 have hout : d.out A.length = { d with l := A ++ B, pool := d.pool.give j.at_.toNat } := by
  unfold D22.out
  rw [hdA, hd, List.eraseIdx_append_of_length_le (Nat.le_refl _), Nat.sub_self]
  rfl
 have hjM : j ∈ d.l := by rw [hd]; simp
 have hold : ∀ z ∈ A ++ B, z ∈ d.l := fun z hz => by rw [hd]; rcases List.mem_append.1 hz with h | h <;> simp [h]
 have hrn := h.rnd
 rw [hd, List.map_append, List.map_cons] at hrn
 obtain ⟨n1, n2, n3⟩ := nodup_mid hrn
 have hne : ∀ z ∈ A ++ B, z.r ≠ j.r := fun z hz e => by
  rcases List.mem_append.1 hz with h | h
  ·exact n2 (List.mem_map.2 ⟨z, h, e⟩)
  ·exact n3 (List.mem_map.2 ⟨z, h, e⟩)
 obtain ⟨kj, kj1, kj2, kj3⟩ := PS.find_some (h.jf j hjM)
 have hkj : j.at_.toNat = kj := by rw [kj1, Int.toNat_natCast]
 have hat : ∀ z ∈ A ++ B, z.at_ ≠ (kj : Int) := fun z hz e => by
  obtain ⟨kz, kz1, kz2, kz3⟩ := PS.find_some (h.jf z (hold z hz))
  have : kz = kj := by omega
  subst this
  rw [kz2] at kj2
  have hg : z.gen = j.gen := by injection kj2 with kj2; injection kj2
  exact hne z hz (Prod.ext (by show z.at_ = j.at_; omega) hg)
 have hcas : ∀ z ∈ d.l, z = j ∨ z ∈ A ++ B := fun z hz => by
  rw [hd] at hz
  rcases List.mem_append.1 hz with hz | hz
  ·exact .inr (List.mem_append_left _ hz)
  ·rcases List.mem_cons.1 hz with hz | hz
   ·exact .inl hz
   ·exact .inr (List.mem_append_right _ hz)
 rw [hout, hkj]
 refine ⟨hS, h.K3, k0.trans h.k0, k1.trans h.k1, ?_, ?_, hm.trans h.most, h.now, h.nowI, hn.trans h.nx, ?_, fun z hz => h.qr z (hold z hz), fun z hz => ?_, fun z hz => ?_, fun r x hx => ?_, fun z hz => ?_, fun b g v hv => ?_, ?_, fun z hz => h.sl z (hold z hz)⟩
 ·show (Y.P.give z5 kj).pl = d.pool.give kj
  rw [PS.pl_give _ _ (List.getElem?_eq_some_iff.1 kj2).1, h.pk]
 ·show S'.ip.pl = d.pool.give kj
  rw [hip, h.ipk, hkj]
 ·show (IA ++ IB).map ik = (A ++ B).map (jk y0' y1')
  rw [jk_congr h0 h1, List.map_append, List.map_append, hA, hB]
 ·exact PS.find_give z5 kj2 _ _ _ (hat z hz) (h.jf z (hold z hz))
 ·show updM Y.by_ _ _ z.r = some z.r
  unfold updM
  rw [if_neg (hne z hz)]; exact h.jb z (hold z hz)
 ·have hx' : updM Y.by_ _ _ r = some x := hx
  unfold updM at hx'
  split at hx'
  ·cases hx'
  ·rename_i e
   obtain ⟨z, hz, e2⟩ := h.jb2 r x hx'
   rcases hcas z hz with rfl | hz
   ·exact absurd e2.symm e
   ·exact ⟨z, hz, e2⟩
 ·show updM Y.wh _ _ z.r = some z.ser
  unfold updM
  rw [if_neg (hne z hz)]; exact h.jw z (hold z hz)
 ·obtain ⟨hb, hv⟩ := PS.find_give_inv kj2 hv
  obtain ⟨z, hz, e1, e2⟩ := h.lv b g v hv
  rcases hcas z hz with rfl | hz
  ·exact absurd (e1.symm.trans kj1) hb
  ·exact ⟨z, hz, e1, e2⟩
 ·have := h.sn
  rw [hd, List.map_append, List.map_cons] at this
  rw [List.map_append]
  exact (nodup_mid this).1
theorem DInv.sooner (h : DInv Y d tm) {A B : List Jb} {j : Jb} (hd : d.l = A ++ j :: B) {IA IB : List Itm} {x : Itm} {t : Int} (hI : Y.I = IA ++ x :: IB) (hx1 : x.r = j.r) (hx2 : x.h = hOf Y.y0 Y.y1 j.queue) (hx3 : x.e = j.e) (hA : IA.map ik = A.map (jk Y.y0 Y.y1)) (hB : IB.map ik = B.map (jk Y.y0 Y.y1)) {S' : QS} {y0' y1' : Hv}
  (hS : QInv S' (IA ++ { x with e := (t, x.e.2) } :: IB) [y0', y1'] tm) (h0 : y0'.h = Y.y0.h) (h1 : y1'.h = Y.y1.h) (k0 : y0'.k = Y.y0.k) (k1 : y1'.k = Y.y1.k) (hm : S'.most = Y.S.most) (hn : S'.next = Y.S.next) (hip : S'.ip = Y.S.ip) :
  DInv ⟨Y.K, S', IA ++ { x with e := (t, x.e.2) } :: IB, y0', y1', Y.P.put j.at_.toNat (j.queue, t, j.data, j.at_, j.gen), Y.by_, Y.wh, Y.now, Y.budget, Y.last, Y.top⟩ { d with l := d.l.set A.length { j with key := t } } tm := by
 have hset : d.l.set A.length { j with key := t } = A ++ { j with key := t } :: B := by
  rw [hd, List.set_append_right _ _ (Nat.le_refl _), Nat.sub_self]; rfl
 have hjM : j ∈ d.l := by rw [hd]; simp
 have hold : ∀ z ∈ A ++ B, z ∈ d.l := fun z hz => by rw [hd]; rcases List.mem_append.1 hz with h | h <;> simp [h]
 have hrn := h.rnd
 rw [hd, List.map_append, List.map_cons] at hrn
 obtain ⟨n1, n2, n3⟩ := nodup_mid hrn
 have hne : ∀ z ∈ A ++ B, z.r ≠ j.r := fun z hz e => by
  rcases List.mem_append.1 hz with h | h
  ·exact n2 (List.mem_map.2 ⟨z, h, e⟩)
  ·exact n3 (List.mem_map.2 ⟨z, h, e⟩)
 obtain ⟨kj, kj1, kj2, kj3⟩ := PS.find_some (h.jf j hjM)
 have hkj : j.at_.toNat = kj := by rw [kj1, Int.toNat_natCast]
 have hat : ∀ z ∈ A ++ B, z.at_ ≠ j.at_ := fun z hz e => by
  obtain ⟨kz, kz1, kz2, kz3⟩ := PS.find_some (h.jf z (hold z hz))
  have : kz = kj := by omega
  subst this
  rw [kz2] at kj2
  have hg : z.gen = j.gen := by injection kj2 with kj2; injection kj2
  exact hne z hz (Prod.ext e hg)
 have hcas : ∀ z ∈ A ++ { j with key := t } :: B, z = { j with key := t } ∨ z ∈ A ++ B := fun z hz => by
  rcases List.mem_append.1 hz with hz | hz
  ·exact .inr (List.mem_append_left _ hz)
  ·rcases List.mem_cons.1 hz with hz | hz
   ·exact .inl hz
   ·exact .inr (List.mem_append_right _ hz)
 have hcas2 : ∀ z ∈ d.l, z = j ∨ z ∈ A ++ B := fun z hz => by
  rw [hd] at hz
  rcases List.mem_append.1 hz with hz | hz
  ·exact .inr (List.mem_append_left _ hz)
  ·rcases List.mem_cons.1 hz with hz | hz
   ·exact .inl hz
   ·exact .inr (List.mem_append_right _ hz)
 have hin : ∀ z ∈ A ++ B, z ∈ A ++ { j with key := t } :: B := fun z hz => by rcases List.mem_append.1 hz with h | h <;> simp [h]
 obtain ⟨p1, p2⟩ := PS.find_put (j.queue, t, j.data, j.at_, j.gen) (h.jf j hjM)
 rw [hset]
 refine ⟨hS, h.K3, k0.trans h.k0, k1.trans h.k1, (PS.pl_put _ _ _).trans h.pk, by rw [hip]; exact h.ipk, hm.trans h.most, h.now, h.nowI, hn.trans h.nx, ?_, fun z hz => ?_, fun z hz => ?_, fun z hz => ?_, fun r x hx => ?_, fun z hz => ?_, fun b g v hv => ?_, ?_, fun z hz => ?_⟩
 ·show (IA ++ { x with e := (t, x.e.2) } :: IB).map ik = (A ++ { j with key := t } :: B).map (jk y0' y1')
  rw [jk_congr h0 h1, List.map_append, List.map_append, List.map_cons, List.map_cons, hA, hB]
  congr 2
  show (x.r, x.h, (t, x.e.2)) = (j.r, hOf Y.y0 Y.y1 j.queue, (t, j.ser))
  rw [hx1, hx2, hx3]; rfl
 ·rcases hcas z hz with rfl | hz
  ·exact h.qr j hjM
  ·exact h.qr z (hold z hz)
 ·rcases hcas z hz with rfl | hz
  ·exact p1
  ·exact p2 _ _ _ (hat z hz) (h.jf z (hold z hz))
 ·rcases hcas z hz with rfl | hz
  ·exact h.jb j hjM
  ·exact h.jb z (hold z hz)
 ·obtain ⟨z, hz, e2⟩ := h.jb2 r x hx
  rcases hcas2 z hz with rfl | hz
  ·exact ⟨_, List.mem_append_right _ List.mem_cons_self, e2⟩
  ·exact ⟨z, hin z hz, e2⟩
 ·rcases hcas z hz with rfl | hz
  ·exact h.jw j hjM
  ·exact h.jw z (hold z hz)
 ·obtain ⟨w', hv⟩ := PS.find_put_inv (by rw [hkj]; exact kj2) hv
  obtain ⟨z, hz, e2⟩ := h.lv b g w' hv
  rcases hcas2 z hz with rfl | hz
  ·exact ⟨_, List.mem_append_right _ List.mem_cons_self, e2⟩
  ·exact ⟨z, hin z hz, e2⟩
 ·have := h.sn
  rw [hd] at this
  simp only [List.map_append, List.map_cons] at this ⊢
  exact this
 ·rcases hcas z hz with rfl | hz
  ·exact h.sl j hjM
  ·exact h.sl z (hold z hz)
theorem DInv.go (h : DInv Y d tm) {n : Int} (hn : In64 n) : DInv { Y with now := n } { d with now := n } tm :=
 ⟨h.q, h.K3, h.k0, h.k1, h.pk, h.ipk, h.most, rfl, hn, h.nx, h.par, h.qr, h.jf, h.jb, h.jb2, h.jw, h.lv, h.sn, h.sl⟩
theorem DInv.later (h : DInv Y d tm) {tm' : Int} (ht : tm ≤ tm') : DInv Y d tm' :=
 ⟨h.q.later ht, h.K3, h.k0, h.k1, h.pk, h.ipk, h.most, h.now, h.nowI, h.nx, h.par, h.qr, h.jf, h.jb, h.jb2, h.jw, h.lv, h.sn, h.sl⟩
end
end Go.Proofs.YtodobkbnmjgkdaaGreat.HL
namespace Go.Proofs.YtodobkbnmjgkdaaGreat.HL
theorem perm_nd {β : Type} [DecidableEq β] {a b : List β} (ha : a.Nodup) (hb : b.Nodup) (h : ∀ x, x ∈ a ↔ x ∈ b) : a.Perm b := by
 rw [List.perm_iff_count]
 intro x
 rw [ha.count, hb.count]
 by_cases hx : x ∈ a
 ·rw [if_pos hx, if_pos ((h x).1 hx)]
 ·rw [if_neg hx, if_neg fun hb => hx ((h x).2 hb)]
theorem firstD_none {l : List Jb} {q : Int} (h : firstD l q = none) : ∀ j ∈ l, j.queue ≠ q := (firstG_none h).2
section
variable {Y : DSt} {d : D22} {tm : Int}
theorem DInv.mem_refs (h : DInv Y d tm) {j : Jb} (hj : j ∈ d.l) : (j.at_, j.gen) ∈ Y.P.refs := by
 obtain ⟨k, q1, q2, q3⟩ := PS.find_some (h.jf j hj)
 refine refsG_mem.2 ⟨k, _, q2, rfl, ?_⟩
 simp [q1]
theorem DInv.refsP (h : DInv Y d tm) : Y.P.refs.Perm (d.l.map Jb.r) := by
 refine perm_nd ?_ h.rnd fun r => ⟨fun hr => ?_, fun hr => ?_⟩
 ·exact (refsG_nd Y.P.l 0).imp fun hlt e => by rw [e] at hlt; omega
 ·obtain ⟨v, hv⟩ := refs_find5 h.pg1 hr
  obtain ⟨j, hj, e1, e2⟩ := h.lv _ _ _ hv
  exact List.mem_map.2 ⟨j, hj, Prod.ext e1 e2⟩
 ·obtain ⟨j, hj, rfl⟩ := List.mem_map.1 hr
  exact h.mem_refs hj
theorem DInv.cnt (h : DInv Y d tm) (q : Int) : cntJ Y.P q Y.P.refs = countD q d.l := by
 unfold cntJ countD
 rw [h.refsP.countP_eq, List.countP_map]
 refine List.countP_congr fun j hj => ?_
 have : qOf Y.P j.r = j.queue := by
  unfold qOf
  rw [show Y.P.find j.r.1 j.r.2 = some j.v5 from h.jf j hj]; rfl
 simp [this]
theorem DInv.first_none (h : DInv Y d tm) {q : Int} (hq : q = 0 ∨ q = 1) (hf : firstD d.l q = none) : hlI Y.I (hOf Y.y0 Y.y1 q) = [] := by
 unfold hlI
 rw [List.map_eq_nil_iff, List.filter_eq_nil_iff]
 intro x hx e
 obtain ⟨j, hj, _, e2, _⟩ := h.of_item hx
 have e3 : x.h = hOf Y.y0 Y.y1 q := by simpa using e
 exact firstD_none hf j hj (hOf_inj h (h.qr j hj) hq (e2.symm.trans e3))
theorem DInv.first (h : DInv Y d tm) {q : Int} (hq : q = 0 ∨ q = 1) {x : Nat × Ent} (hf : firstD d.l q = some x) : ∃ j A B, d.l = A ++ j :: B ∧ A.length = x.1 ∧ j.queue = q ∧ x.2 = j.e ∧ hlI Y.I (hOf Y.y0 Y.y1 q) ≠ [] ∧
  ∀ z ∈ Y.I, z.h = hOf Y.y0 Y.y1 q → (∀ w ∈ Y.I, w.h = hOf Y.y0 Y.y1 q → w.c ≠ z.c → Bf z.held w.held) → z.r = j.r ∧ z.e = j.e := by
 obtain ⟨j, hj, hjq, hje, hleast⟩ := firstD_some hf
 obtain ⟨A, B, hd, hA⟩ := split_of hj
 obtain ⟨IA, w, IB, hI, _, hw1, hw2, hw3, _⟩ := h.split hd
 have hwI : w ∈ Y.I := by rw [hI]; simp
 rw [hjq] at hw2
 refine ⟨j, A, B, hd, hA, hjq, hje, fun e => ?_, fun z hz hzh hz2 => ?_⟩
 ·have : w.held ∈ hlI Y.I (hOf Y.y0 Y.y1 q) := hlI_mem.2 ⟨w, hwI, hw2, rfl⟩
  rw [e] at this; cases this
 ·by_cases hc : w.c = z.c
  ·have : w = z := map_inj_nd h.q.icd w hwI z hz hc
   rw [← this]
   exact ⟨hw1, hw3⟩
  ·obtain ⟨jz, hjz, e1, e2, e3⟩ := h.of_item hz
   have hqz : jz.queue = q := hOf_inj h (h.qr jz hjz) hq (e2.symm.trans hzh)
   rcases hz2 w hwI hw2 hc with hlt | ⟨he, _⟩
   ·have hlt' : Lt z.e w.e := hlt
    rw [e3, hw3] at hlt'
    exact absurd hlt' (hleast jz hjz hqz)
   ·have he' : z.e = w.e := he
    rw [e3, hw3] at he'
    have hser : jz.ser = j.ser := congrArg Prod.snd he'
    have : jz = j := map_inj_nd h.sn jz hjz j (by rw [hd]; simp) hser
    rw [e1, e3, this]; exact ⟨rfl, rfl⟩
def mvJ (j : Jb) : Jb := if j.queue = 1 then { j with queue := 0 } else j
theorem mvJ_r (j : Jb) : (mvJ j).r = j.r ∧ (mvJ j).e = j.e ∧ (mvJ j).ser = j.ser ∧ (mvJ j).at_ = j.at_ ∧ (mvJ j).gen = j.gen := by
 unfold mvJ; split <;> exact ⟨rfl, rfl, rfl, rfl, rfl⟩
theorem DInv.merge (h : DInv Y d tm) {S2 : QS} {y0' y1' : Hv} (hS : QInv S2 (Y.I.map (toH Y.y1.h Y.y0.h)) [y0', y1'] (tm + 1)) (h0 : y0'.h = Y.y0.h) (k0 : y0'.k = Y.y0.k) (k1 : y1'.k = Y.y1.k) (hm : S2.most = Y.S.most) (hn : S2.next = Y.S.next) (hip : S2.ip.pl = Y.S.ip.pl) :
  DInv ⟨Y.K, S2, Y.I.map (toH Y.y1.h Y.y0.h), y0', y1', rmv Y.P Y.P.refs 1 0, Y.by_, Y.wh, Y.now, Y.budget, Y.last, Y.top⟩ { d with l := d.l.map fun j => if j.queue = 1 then { j with queue := 0 } else j } (tm + 1) := by
 have hmv : (d.l.map fun j => if j.queue = 1 then { j with queue := 0 } else j) = d.l.map mvJ := rfl
 rw [hmv]
 have hne := h.hne
 refine ⟨hS, h.K3, k0.trans h.k0, k1.trans h.k1, (rmv_pl _ _ _ _).trans h.pk, hip.trans h.ipk, hm.trans h.most, h.now, h.nowI, hn.trans h.nx, ?_, fun z hz => ?_, fun z hz => ?_, fun z hz => ?_, fun r x hx => ?_, fun z hz => ?_, fun b g v hv => ?_, ?_, fun z hz => ?_⟩
 ·show (Y.I.map (toH Y.y1.h Y.y0.h)).map ik = (d.l.map mvJ).map (jk y0' y1')
  have hp := congrArg (List.map fun x : RefK × RefK × Ent => (x.1, (if x.2.1 = Y.y1.h then Y.y0.h else x.2.1), x.2.2)) h.par
  rw [List.map_map, List.map_map] at hp ⊢
  refine Eq.trans ?_ (hp.trans ?_)
  ·refine List.map_congr_left fun x _ => ?_
   show ik (toH Y.y1.h Y.y0.h x) = (x.r, (if x.h = Y.y1.h then Y.y0.h else x.h), x.e)
   unfold ik toH
   split <;> rfl
  ·refine List.map_congr_left fun j hj => ?_
   show (j.r, (if hOf Y.y0 Y.y1 j.queue = Y.y1.h then Y.y0.h else hOf Y.y0 Y.y1 j.queue), j.e) = ((mvJ j).r, hOf y0' y1' (mvJ j).queue, (mvJ j).e)
   rw [(mvJ_r j).1, (mvJ_r j).2.1]
   rcases h.qr j hj with e | e
   ·have : (mvJ j).queue = 0 := by unfold mvJ; rw [if_neg (by omega)]; exact e
    rw [this, e]
    unfold hOf
    rw [if_pos rfl, if_pos rfl, if_neg hne, h0]
   ·have : (mvJ j).queue = 0 := by unfold mvJ; rw [if_pos e]
    rw [this, e]
    simp [hOf, h0]
 ·obtain ⟨j, hj, rfl⟩ := List.mem_map.1 hz
  unfold mvJ
  split
  ·exact .inl rfl
  ·exact h.qr j hj
 ·obtain ⟨j, hj, rfl⟩ := List.mem_map.1 hz
  rw [(mvJ_r j).2.2.2.1, (mvJ_r j).2.2.2.2]
  show (rmv _ _ _ _).find _ _ = _
  rw [rmv_find (h.jf j hj)]
  unfold mvJ
  by_cases e : j.queue = 1
  ·rw [if_pos ⟨h.mem_refs hj, e⟩, if_pos e]; rfl
  ·rw [if_neg (fun hh => e hh.2), if_neg e]
 ·obtain ⟨j, hj, rfl⟩ := List.mem_map.1 hz
  rw [(mvJ_r j).1]; exact h.jb j hj
 ·obtain ⟨j, hj, e⟩ := h.jb2 r x hx
  exact ⟨_, List.mem_map.2 ⟨j, hj, rfl⟩, by rw [(mvJ_r j).1]; exact e⟩
 ·obtain ⟨j, hj, rfl⟩ := List.mem_map.1 hz
  rw [(mvJ_r j).1, (mvJ_r j).2.2.1]; exact h.jw j hj
 ·obtain ⟨w', hv⟩ := rmv_find_inv hv
  obtain ⟨j, hj, e1, e2⟩ := h.lv b g w' hv
  exact ⟨_, List.mem_map.2 ⟨j, hj, rfl⟩, by rw [(mvJ_r j).2.2.2.1]; exact e1, by rw [(mvJ_r j).2.2.2.2]; exact e2⟩
 ·have := h.sn
  rw [List.map_map]
  have e : (Jb.ser ∘ mvJ) = Jb.ser := funext fun j => (mvJ_r j).2.2.1
  show (d.l.map (Jb.ser ∘ mvJ)).Nodup
  rw [e]; exact this
 ·obtain ⟨j, hj, rfl⟩ := List.mem_map.1 hz
  rw [(mvJ_r j).2.2.1]; exact h.sl j hj
end
end Go.Proofs.YtodobkbnmjgkdaaGreat.HL
namespace Go.Proofs.YtodobkbnmjgkdaaGreat.HL
open Go.RowKit (Below)
open Go.Proofs
section
variable {w0 : World} {F M : Mem}
theorem Holds.dp7 {X A B C D E G H Q : Asn} (h : Holds w0 F M (star X (star A (star B (star C (star D (star E (star G (star H Q))))))))) : Holds w0 F M (star A (star B (star C (star D (star E (star G (star H (star X Q)))))))) :=
 h.rot.inn fun _ _ h => h.rot.inn fun _ _ h => h.rot.inn fun _ _ h => h.rot.inn fun _ _ h => h.rot.inn fun _ _ h => h.rot.inn fun _ _ h => h.rot
theorem Holds.up7 {X A B C D E G H Q : Asn} (h : Holds w0 F M (star A (star B (star C (star D (star E (star G (star H (star X Q))))))))) : Holds w0 F M (star X (star A (star B (star C (star D (star E (star G (star H Q)))))))) :=
 (h.inn fun _ _ h => (h.inn fun _ _ h => (h.inn fun _ _ h => (h.inn fun _ _ h => (h.inn fun _ _ h => (h.inn fun _ _ h => h.rot).rot).rot).rot).rot).rot).rot
end
abbrev tDi : TypeId := 125
abbrev tClk : TypeId := 202
structure DLoc where
 d : Nat
 q : Nat
 a : Nat
 t : Nat
 bh : Nat
 bi : Nat
 me : Nat
 ma : Nat
 jt : Nat
 pj : Nat
 mb : Nat
 mw : Nat
 bc : Nat
abbrev dV (X : DLoc) (K most : Int) (r0 r1 : RefK) (b l tp : Int) : List Value :=
 [.int .i64 K, .int .i64 most, .pointer (some ⟨X.q, 0, none⟩), .int .i64 r0.1, .int .i64 r0.2, .int .i64 r1.1, .int .i64 r1.2, .pointer (some ⟨X.jt, 0, none⟩), .map (some X.mw), .pointer (some ⟨X.bc, 0, none⟩), .int .i64 b, .int .i64 l, .int .i64 tp]
abbrev DB (X : DLoc) (S : QS) (P : PS V5) (now K most : Int) (r0 r1 : RefK) (b l tp : Int) (Q : Asn) : Asn :=
 QA X.q X.a X.t X.bh X.bi X.me S (star (PsJ X.pj P) (star (row1 X.bc [.int .i64 now] tClk) (star (row1 X.d (dV X K most r0 r1 b l tp) tDi) Q)))
abbrev DO (X : DLoc) (oa oe ob ow : Obj) (os : Obs) : Obs := (X.ma, oa) :: (X.me, oe) :: (X.mb, ob) :: (X.mw, ow) :: os
def DHO (w0 : World) (F M : Mem) (os : Obs) (X : DLoc) (Y : DSt) (Q : Asn) : Prop :=
 ∃ oa oe ob ow, MapF (Value.int .i64) refK Y.S.at_ oa ∧ MapF refK entK Y.S.en oe ∧ MapF refK refK Y.by_ ob ∧ MapF refK (Value.int .i64) Y.wh ow ∧ HO w0 F M (DO X oa oe ob ow os) (DB X Y.S Y.P Y.now Y.K Y.S.most Y.y0.h Y.y1.h Y.budget Y.last Y.top Q)
structure DFix (w0 : World) (F : Mem) (X : DLoc) : Prop where
 t : Own w0 F X.t (tbV X.bh X.bi X.ma) tTb
 j : Own w0 F X.jt (jtV X.pj X.mb) tJt
theorem DFix.le {w0 : World} {F F' : Mem} {X : DLoc} (h : DFix w0 F X) (hl : Mem.le F F') : DFix w0 F' X := ⟨h.t.le hl, h.j.le hl⟩
section
variable {w0 : World} {F M : Mem} {R : VP} {os : Obs} {X : DLoc} {Y : DSt} {S : QS} {P : PS V5} {Q : Asn} {now K most b l tp : Int} {r0 r1 : RefK} {oa oe ob ow : Obj} {d : D22} {tm : Int} {c : Cmd}
theorem HO.di (h : HO w0 F M os (DB X S P now K most r0 r1 b l tp Q)) : Own w0 M X.d (dV X K most r0 r1 b l tp) tDi := h.h.right.right.right.right.right.right.own1
theorem HO.ck (h : HO w0 F M os (DB X S P now K most r0 r1 b l tp Q)) : Own w0 M X.bc [.int .i64 now] tClk := h.h.right.right.right.right.right.own1
theorem D0 (o : Own w0 M X.d (dV X K most r0 r1 b l tp) tDi) : (std PP w0).ld 3 ⟨X.d, 0, none⟩ M = some (.int .i64 K) := ld1 W.c3 o rfl
theorem D1 (o : Own w0 M X.d (dV X K most r0 r1 b l tp) tDi) : (std PP w0).ld 3 ⟨X.d, 1, none⟩ M = some (.int .i64 most) := ld1 W.c3 o rfl
theorem D2 (o : Own w0 M X.d (dV X K most r0 r1 b l tp) tDi) : (std PP w0).ld 24 ⟨X.d, 2, none⟩ M = some (.pointer (some ⟨X.q, 0, none⟩)) := ld1 (by kernel_rfl) o rfl
theorem D7 (o : Own w0 M X.d (dV X K most r0 r1 b l tp) tDi) : (std PP w0).ld 121 ⟨X.d, 7, none⟩ M = some (.pointer (some ⟨X.jt, 0, none⟩)) := ld1 (by kernel_rfl) o rfl
theorem D8 (o : Own w0 M X.d (dV X K most r0 r1 b l tp) tDi) : (std PP w0).ld 122 ⟨X.d, 8, none⟩ M = some (.map (some X.mw)) := ld1 (by kernel_rfl) o rfl
theorem D9 (o : Own w0 M X.d (dV X K most r0 r1 b l tp) tDi) : (std PP w0).ld 123 ⟨X.d, 9, none⟩ M = some (.pointer (some ⟨X.bc, 0, none⟩)) := ld1 (by kernel_rfl) o rfl
theorem D3 (o : Own w0 M X.d (dV X K most r0 r1 b l tp) tDi) : (std PP w0).ld 33 ⟨X.d, 3, none⟩ M = some (.agg #[.int .i64 r0.1, .int .i64 r0.2]) := ldSub (o := 3) (vs := [.int .i64 r0.1, .int .i64 r0.2]) gRef o (sub2 rfl rfl)
theorem D5 (o : Own w0 M X.d (dV X K most r0 r1 b l tp) tDi) : (std PP w0).ld 33 ⟨X.d, 5, none⟩ M = some (.agg #[.int .i64 r1.1, .int .i64 r1.2]) := ldSub (o := 5) (vs := [.int .i64 r1.1, .int .i64 r1.2]) gRef o (sub2 rfl rfl)
theorem D35 {y0 y1 : Hv} {q : Int} (hq : q = 0 ∨ q = 1) (o : Own w0 M X.d (dV X K most y0.h y1.h b l tp) tDi) : (std PP w0).ld 33 ⟨X.d, 3 + q.toNat * 2, none⟩ M = some (.agg #[.int .i64 (hOf y0 y1 q).1, .int .i64 (hOf y0 y1 q).2]) := by
 rcases hq with rfl | rfl
 ·exact D3 o
 ·exact D5 o
theorem gRep6 : aggOf PP tRep 6 = true := W.g65
theorem rep_one (r : Rep) : ∀ v ∈ r.cells, onecell v = true := by
 intro v hv
 simp only [Rep.cells, List.mem_cons, List.not_mem_nil, or_false] at hv
 rcases hv with rfl | rfl | rfl | rfl | rfl | rfl <;> rfl
theorem perm2 {α : Type} (x y a : α) (l : List α) : (x :: y :: a :: l).Perm (a :: x :: y :: l) := List.perm_middle (l₁ := [x, y])
theorem perm3 {α : Type} (x y z a : α) (l : List α) : (x :: y :: z :: a :: l).Perm (a :: x :: y :: z :: l) := List.perm_middle (l₁ := [x, y, z])
theorem HO.toJ (h : HO w0 F M (DO X oa oe ob ow os) (DB X S P now K most r0 r1 b l tp Q)) : HO w0 F M ((X.mb, ob) :: (X.ma, oa) :: (X.me, oe) :: (X.mw, ow) :: os) (star (PsJ X.pj P) (QA X.q X.a X.t X.bh X.bi X.me S (star (row1 X.bc [.int .i64 now] tClk) (star (row1 X.d (dV X K most r0 r1 b l tp) tDi) Q)))) :=
 (h.perm (perm2 _ _ _ _)).mapH Holds.up
theorem HO.ofJ (h : HO w0 F M ((X.mb, ob) :: (X.ma, oa) :: (X.me, oe) :: (X.mw, ow) :: os) (star (PsJ X.pj P) (QA X.q X.a X.t X.bh X.bi X.me S (star (row1 X.bc [.int .i64 now] tClk) (star (row1 X.d (dV X K most r0 r1 b l tp) tDi) Q))))) : HO w0 F M (DO X oa oe ob ow os) (DB X S P now K most r0 r1 b l tp Q) :=
 (h.mapH Holds.dp).perm (perm2 _ _ _ _).symm
theorem Told_ok {A : Asn} {v : V5} (h : HO w0 F M os A) (hK : ∀ M', HO w0 F M' os A → R (Rep.v { time := v.2.1, data := v.2.2.1 }) M') : C PP w0 Id.dispatch_told #[jobK v] R M := by
 obtain ⟨v1, v2, v3, v4, v5⟩ := v
 apply dispatch_told.go
 unfold dispatch_told.T nfz
 refine nwA h fun b1 F1 M1 l1 lm1 o1 h1 => ?_
 refine nwB h1 fun b3 M2 lm2 h2 => ?_
 simp only [add_eq, Nat.zero_add, ld1 W.c2 (o1.le h2.fr) (o := 1) rfl, ld1 W.c3 (o1.le h2.fr) (o := 2) rfl, ob_v, zI_, bR23, sA_, sC_, zN_]
 refine resB (vs := (Rep.mk 0 0 0 v2 v3 0).cells) gRep6 (by rfl) (rep_one _) h2 fun M3 h3 => ?_
 exact hK M3 (h3.uF_ l1)
theorem Refused_ok {A : Asn} {why : Int} (h : HO w0 F M os A) (hK : ∀ M', HO w0 F M' os A → R (Rep.v { why := why }) M') : C PP w0 Id.dispatch_refused #[.int .i64 why] R M := by
 apply dispatch_refused.go
 unfold dispatch_refused.T nfz
 refine nwB h fun b1 M1 lm1 h1 => ?_
 simp only [bR0, ob_v, zI_, sA_, sC_, zN_]
 refine resB (vs := (Rep.mk why 0 0 0 0 0).cells) gRep6 (by rfl) (rep_one _) h1 fun M2 h2 => ?_
 exact hK M2 h2
theorem pick {y0 y1 : Hv} {q : Int} (hq : q = 0 ∨ q = 1) : ∃ A y B, [y0, y1] = A ++ y :: B ∧ y.h = hOf y0 y1 q ∧ ∀ y' : Hv, y'.h = y.h → y'.k = y.k → ∃ y0' y1', A ++ y' :: B = [y0', y1'] ∧ y0'.h = y0.h ∧ y1'.h = y1.h ∧ y0'.k = y0.k ∧ y1'.k = y1.k := by
 rcases hq with rfl | rfl
 ·exact ⟨[], y0, [y1], rfl, rfl, fun y' e1 e2 => ⟨y', y1, rfl, e1, rfl, e2, rfl⟩⟩
 ·exact ⟨[y0], y1, [], rfl, rfl, fun y' e1 e2 => ⟨y0, y', rfl, rfl, e1, rfl, e2⟩⟩
structure DStp (Y Y' : DSt) (k : Int) : Prop where
 b : Y'.budget = Y.budget
 l : Y'.last = Y.last
 t : Y'.top = Y.top
 s : QStp Y.S Y'.S k
theorem DInv.room (h : DInv Y d tm) : (d.pool.at_ = none ↔ d.most ≤ (d.l.length : Int)) ∧ ∀ i, d.pool.at_ = some i → Y.P.at_ = some i ∧ Y.S.ip.at_ = some i ∧ Y.P.gen i = d.pool.gen i ∧ Y.S.ip.gen i = d.pool.gen i := by
 obtain ⟨e1, e2, e3, e4, e5⟩ := h.plens
 have ha : d.pool.at_ = Y.P.at_ := by rw [← h.pk, PS.pl_at]
 have hb : d.pool.at_ = Y.S.ip.at_ := by rw [← h.ipk, PS.pl_at]
 refine ⟨?_, fun i hi => ⟨ha.symm.trans hi, hb.symm.trans hi, ?_, ?_⟩⟩
 ·rw [ha]
  unfold PS.at_
  cases hl : Y.P.free.getLast? with
  | some a =>
   have : Y.P.free ≠ [] := fun e => by rw [e] at hl; cases hl
   have := List.length_pos_iff.2 this
   simp only [reduceCtorEq, false_iff]
   omega
  | none =>
   have hf : Y.P.free = [] := List.getLast?_eq_none_iff.1 hl
   rw [hf] at e1
   simp only [List.length_nil] at e1
   simp only
   split
   ·simp only [true_iff]; omega
   ·simp only [reduceCtorEq, false_iff]; omega
 ·rw [← h.pk]; exact (PS.pl_gen _ (ha.symm.trans hi) h.pok.lt).1.symm
 ·rw [← h.ipk]; exact (PS.pl_gen _ (hb.symm.trans hi) h.q.io.lt).1.symm
theorem goodQ {c : Cmd} (hq : c.queue = 0 ∨ c.queue = 1) : ¬ badQ c := by
 rintro ⟨_, h⟩; omega
theorem callV_bld {k : Int} {h : RefK} {t : Int} : (std PP w0).bld tCall [(0, .int .i64 k), (2, .agg #[.int .i64 h.1, .int .i64 h.2]), (5, .int .i64 t)] = some (.agg (callV k 0 h.1 h.2 0 0 0 0 t).toArray) := by kernel_rfl
theorem DStp.rfl' {k : Int} (hk : 0 ≤ k) : DStp Y Y k := ⟨rfl, rfl, rfl, fun h0 => by omega⟩
theorem DHO.of {Y' : DSt} (hfa : MapF (Value.int .i64) refK Y'.S.at_ oa) (hfe : MapF refK entK Y'.S.en oe) (hfb : MapF refK refK Y'.by_ ob) (hfw : MapF refK (Value.int .i64) Y'.wh ow) (h : HO w0 F M (DO X oa oe ob ow os) (DB X Y'.S Y'.P Y'.now Y'.K most r0 r1 Y'.budget Y'.last Y'.top Q)) (em : Y'.S.most = most) (e0 : Y'.y0.h = r0) (e1 : Y'.y1.h = r1) : DHO w0 F M os X Y' Q := by
 subst em e0 e1
 exact ⟨oa, oe, ob, ow, hfa, hfe, hfb, hfw, h⟩
theorem DInv.fresh (h : DInv Y d tm) {i : Nat} (hat : d.pool.at_ = some i) : Y.by_ ((i : Int), d.pool.gen i) = none := by
 cases e : Y.by_ ((i : Int), d.pool.gen i) with
 | none => rfl
 | some x =>
  obtain ⟨j, hj, hr⟩ := h.jb2 _ _ e
  have h1 := h.jf j hj
  have e1 : j.at_ = (i : Int) := congrArg Prod.fst hr
  rw [e1, h.pok.at_no (h.room.2 i hat).1] at h1; cases h1
theorem Schedule_ok (hX : DFix w0 F X) (hD : DHO w0 F M os X Y Q) (hv : DInv Y d tm) (htm : tm ≤ 900000) (hk : c.kind = 1) (hq : c.queue = 0 ∨ c.queue = 1)
  (hK : ∀ M' Y', DHO w0 F M' os X Y' Q → DInv Y' (do22 d c).1 (tm + 1) → DStp Y Y' (3 + limH (d.l.length + 1)) → R (do22 d c).2.v M') :
  C PP w0 Id.dD_schedule #[.pointer (some ⟨X.d, 0, none⟩), c.v] R M := by
 obtain ⟨oa, oe, ob, ow, hfa, hfe, hfb, hfw, h⟩ := hD
 obtain ⟨ck, cq, ca, cg, ct, cd⟩ := c
 simp only at hk hq
 subst hk
 apply dD_schedule.go
 unfold dD_schedule.T nfz
 refine nwA h fun b1 F1 M1 l1 lm1 o1 h1 => ?_
 have hX1 := hX.le l1
 refine nwB h1 fun b3 M2 lm2 h2' => ?_
 have h2 := h2'.mapH Holds.dp7
 obtain ⟨e1, e2, e3, e4, e5⟩ := hv.plens
 simp (config := { maxSteps := 10000000 }) only [nc_v, add_eq, Nat.zero_add, D7 h2.di, D1 h2.di, ob_v, sP_v, zI_]
 refine JLen_ok hX1.j h2.toJ (by omega) (by omega) ?_
 rw [zI_]
 refine ⟨D1 h2.di, ?_⟩
 rw [bD_]
 rw [do22_1 (goodQ hq) rfl] at hK
 obtain ⟨r1, r2⟩ := hv.room
 have hnl : (Y.P.l.length - Y.P.free.length : Nat) = d.l.length := by omega
 have hmo := hv.most
 cases hat : d.pool.at_ with
 | none =>
  rw [hat] at hK
  rw [if_pos (by have := r1.1 hat; omega)]
  refine Refused_ok h2 fun M3 h3 => ?_
  simp only [Rep.v, sA_, sC_, zI_, zN_]
  refine resB (vs := (Rep.mk 13 0 0 0 0 0).cells) gRep6 (by rfl) (rep_one _) (h3.mapH Holds.up7) fun M4 h4 => ?_
  exact hK M4 Y ⟨oa, oe, ob, ow, hfa, hfe, hfb, hfw, h4.uF_ l1⟩ (hv.later (by omega)) (DStp.rfl' (by unfold limH; omega))
 | some i =>
  rw [hat] at hK
  have hlen : (d.l.length : Int) < d.most := by
   by_cases hh : d.most ≤ (d.l.length : Int)
   ·have := r1.2 hh; rw [hat] at this; cases this
   ·omega
  rw [if_neg (by omega)]
  obtain ⟨hP1, hP2, hP3, hP4⟩ := r2 i hat
  have hc1 : ∀ {M' : Mem} {e : TypeId}, Own w0 M' b1 [.int .i64 1, .int .i64 cq, .int .i64 ca, .int .i64 cg, .int .i64 ct, .int .i64 cd] e → (std PP w0).ld 3 ⟨b1, 1, none⟩ M' = some (.int .i64 cq) := fun o => ld1 W.c3 o rfl
  have hc4 : ∀ {M' : Mem} {e : TypeId}, Own w0 M' b1 [.int .i64 1, .int .i64 cq, .int .i64 ca, .int .i64 cg, .int .i64 ct, .int .i64 cd] e → (std PP w0).ld 2 ⟨b1, 4, none⟩ M' = some (.int .i64 ct) := fun o => ld1 W.c2 o rfl
  have hc5 : ∀ {M' : Mem} {e : TypeId}, Own w0 M' b1 [.int .i64 1, .int .i64 cq, .int .i64 ca, .int .i64 cg, .int .i64 ct, .int .i64 cd] e → (std PP w0).ld 3 ⟨b1, 5, none⟩ M' = some (.int .i64 cd) := fun o => ld1 W.c3 o rfl
  simp only [D2 h2.di, hc1 (o1.le h2.fr), ob_v, sP_v, zI_]
  refine ⟨⟨by omega, by omega⟩, ?_⟩
  simp only [D35 hq h2.di, hc4 (o1.le h2.fr), ob_v, zI_, sA_, sC_, zN_, callV_bld]
  obtain ⟨A, y, B, hAB, hyh, hrep⟩ := pick (y0 := Y.y0) (y1 := Y.y1) hq
  have hvq := hv.q
  rw [hAB] at hvq
  have hIl := hv.len
  rw [← hyh]
  refine ⟨?_, ?_⟩
  rotate_left
  refine nwB h2 fun b4 M3 lm3 h3 => ?_
  have o3 := (h3.mapH fun h => h.right).di
  refine ⟨D2 o3, hc1 (o1.le h3.fr), (by rw [hyh]; exact D35 hq o3), hc4 (o1.le h3.fr), ?_⟩
  refine QDoInsert_ok hX1.t hvq htm (by omega) hfa hfe (h3.mapH Holds.dp7) fun M4 S' oa' oe' i' y' hat' hfa' hfe' h4' ey1 ey2 hv' em en eip hst => ?_
  obtain rfl : i' = i := by rw [hP2] at hat'; cases hat'; rfl
  have h4 := h4'.mapH Holds.up7
  simp only [sA_, sC_, zI_, zN_]
  refine stF (vs := ansV 0 0 0 i' (Y.S.ip.gen i') ct Y.S.next 0) gAns (by rfl) ansV_one h4 fun F5 M5 l5 o5 h5 => ?_
  rotate_left
  refine QDoInsert_ok hX1.t hvq htm (by omega) hfa hfe h2 fun M4 S' oa' oe' i' y' hat' hfa' hfe' h4 ey1 ey2 hv' em en eip hst => ?_
  obtain rfl : i' = i := by rw [hP2] at hat'; cases hat'; rfl
  simp only [sA_, sC_, zI_, zN_]
  refine boxF (vs := ansV 0 0 0 i' (Y.S.ip.gen i') ct Y.S.next 0) gAns (by rfl) ansV_one h4 fun b4 F5 M5 l5 o5 h5 => ?_
  all_goals
   obtain ⟨cc, hv'⟩ := hv'
   rw [hP4] at o5 hv'
   rw [hyh, hv.nx] at hv'
   have hX5 := hX1.le l5
   have o15 := o1.le l5
   have hbj : (std PP w0).bld tJo [(0, .int .i64 cq), (1, .int .i64 ct), (2, .int .i64 cd), (3, .agg #[.int .i64 (i' : Int), .int .i64 (d.pool.gen i')])] = some (.agg #[.int .i64 cq, .int .i64 ct, .int .i64 cd, .int .i64 (i' : Int), .int .i64 (d.pool.gen i')]) := by kernel_rfl
   simp only [hc1 (o15.le h5.fr), hc4 (o15.le h5.fr), hc5 (o15.le h5.fr), ldSub (o := 3) (vs := [.int .i64 (i' : Int), .int .i64 (d.pool.gen i')]) gRef (o5.le h5.fr) (sub2 rfl rfl), ob_v, zI_, sA_, sC_, zN_, hbj]
   refine boxF (vs := vc5 (cq, ct, cd, (i' : Int), d.pool.gen i')) gJob5 (by rfl) (vc5_one _) h5 fun b5 F6 M6 l6 o6 h6 => ?_
   have hX6 := hX5.le l6
   have o56 := o5.le l6
   have hl3 := hv.pg
   have hgP : ∀ x ∈ Y.P.l, 0 ≤ x.g ∧ x.g ≤ 1000000 := fun x hx => by have := hv.pg x hx; omega
   have hro : ((Y.P.l.length - Y.P.free.length : Nat) : Int) ≠ Y.P.most := by omega
   simp only [D7 h6.di, lB_ (vs := vc5 (cq, ct, cd, (i' : Int), d.pool.gen i')) gJob5 (o6.le h6.fr), ob_v, sP_v, zI_, sA_, sC_, zN_]
   refine ⟨?_, ?_⟩
   rotate_left
   refine nwB h6 fun b7 M7' lm7 h7' => ?_
   have o7' := (h7'.mapH fun h => h.right).di
   refine ⟨D7 o7', lB_ (vs := vc5 (cq, ct, cd, (i' : Int), d.pool.gen i')) gJob5 (o6.le h7'.fr), ?_⟩
   refine JAdd_ok (v := (cq, ct, cd, (i' : Int), d.pool.gen i')) hX6.j (h7'.mapH Holds.dp7).toJ hfb hv.pok (by omega) (by omega) (by omega) hgP hP1 hro (hv.fresh hat) fun M7 ob' hfb' h8' => ?_
   rw [hP3] at hfb' ⊢
   have h8 := h8'.ofJ.mapH Holds.up7
   simp only [sT_v, sA_, sC_, zI_, zN_]
   refine stF gRef (by rfl) one2 h8 fun F9 M9 l9 o9 h9 => ?_
   rotate_left
   refine JAdd_ok (v := (cq, ct, cd, (i' : Int), d.pool.gen i')) hX6.j h6.toJ hfb hv.pok (by omega) (by omega) (by omega) hgP hP1 hro (hv.fresh hat) fun M7 ob' hfb' h8' => ?_
   rw [hP3] at hfb' ⊢
   have h8 := h8'.ofJ
   simp only [sT_v, sA_, sC_, zI_, zN_]
   refine boxF gRef (by rfl) one2 h8 fun b7 F9 M9 l9 o9 h9 => ?_
   all_goals
    simp only [D8 h9.di, lB_ gRef (o9.le h9.fr), ld1 W.c2 ((o56.le l9).le h9.fr) (o := 5 + 1) rfl, ob_v, zI_, sA_, sC_, zN_]
    have h9p := h9.perm (perm3 _ _ _ _ _)
    obtain ⟨g1, g2⟩ := h9p.get List.mem_cons_self
    refine mupF (kf := refK) (vf := Value.int .i64) (k := ((i' : Int), d.pool.gen i')) (v := Y.S.next) Tryz.underlying122 refK_ok g1 g2 hfw fun ow' hfw' => ?_
    have h10 := (h9p.set (o' := ow')).perm (perm3 _ _ _ _ _).symm
    generalize Mem.set M9 X.mw _ = M10 at h10 ⊢
    simp only [lB_ (vs := vc5 (cq, ct, cd, (i' : Int), d.pool.gen i')) gJob5 ((o6.le l9).le h10.fr), ob_v, zI_, sA_, sC_, zN_]
    refine Told_ok (v := (cq, ct, cd, (i' : Int), d.pool.gen i')) h10 fun M11 h11 => ?_
    simp only [Rep.v, sA_, sC_, zI_, zN_]
    refine nwB h11 fun b12 M12' lm12 h12' => ?_
    refine stW (vs := (Rep.mk 0 0 0 ct cd 0).cells) gRep6 (by rfl) (rep_one _) h12' fun M12 h12 => ?_
    simp only [lB_ gRef (o9.le h12.fr), ob_v, zI_, sA_, sC_, zN_]
    refine stPW (o := 1) gRef (by exact (by decide : 3 ≤ 6)) one2 h12 fun M13 h13 => ?_
    have hov : over (Rep.mk 0 0 0 ct cd 0).cells 1 [.int .i64 (i' : Int), .int .i64 (d.pool.gen i')] = (Rep.mk 0 i' (d.pool.gen i') ct cd 0).cells := by
     have := over_mid [.int .i64 0] [.int .i64 0, .int .i64 0] [.int .i64 ct, .int .i64 cd, .int .i64 0] [.int .i64 (i' : Int), .int .i64 (d.pool.gen i')] rfl (o := 1) rfl
     simpa [Rep.cells] using this
    rw [hov] at h13
    simp only [lB_ (vs := (Rep.mk 0 i' (d.pool.gen i') ct cd 0).cells) gRep6 h13.h.own1, ob_v, zI_, sA_, sC_, zN_]
    refine resB (vs := (Rep.mk 0 i' (d.pool.gen i') ct cd 0).cells) gRep6 (by rfl) (rep_one _) ((h13.mapH fun h => h.right).mapH Holds.up7) fun M14 h14 => ?_
    obtain ⟨y0', y1', hrep1, e0, e1', k0, k1⟩ := hrep y' ey1 ey2
    rw [hrep1] at hv'
    have hadd := hv.add (t := ct) (da := cd) hq hat hv' e0 e1' k0 k1 em en (by rw [eip])
    rw [hv.nx] at hfw'
    refine hK M14 _ (DHO.of (Y' := ⟨Y.K, S', Y.I ++ [⟨((i' : Int), d.pool.gen i'), hOf Y.y0 Y.y1 cq, cc, (ct, d.next)⟩], y0', y1', Y.P.take z5 i' (cq, ct, cd, (i' : Int), d.pool.gen i'), updM Y.by_ ((i' : Int), d.pool.gen i') (some ((i' : Int), d.pool.gen i')), updM Y.wh ((i' : Int), d.pool.gen i') (some d.next), Y.now, Y.budget, Y.last, Y.top⟩) hfa' hfe' hfb' hfw' ((((h14.uF_ l9).uF_ l6).uF_ l5).uF_ l1) em e0 e1') hadd ⟨rfl, rfl, rfl, ?_⟩
    rw [← hIl]; exact hst
end
end Go.Proofs.YtodobkbnmjgkdaaGreat.HL
namespace Go.Proofs.YtodobkbnmjgkdaaGreat.HL
open Go.RowKit (Below)
open Go.Proofs
section
variable {w0 : World} {F M : Mem} {R : VP} {os : Obs} {X : DLoc} {Y : DSt} {S : QS} {P : PS V5} {Q : Asn} {now K most b l tp : Int} {r0 r1 : RefK} {oa oe ob ow : Obj} {d : D22} {tm : Int} {c : Cmd} {by_ : RefK → Option RefK} {wh : RefK → Option Int}
theorem itemV_bld {k : Int} {i : RefK} {t : Int} : (std PP w0).bld tCall [(0, .int .i64 k), (4, .agg #[.int .i64 i.1, .int .i64 i.2]), (5, .int .i64 t)] = some (.agg (callV k 0 0 0 0 0 i.1 i.2 t).toArray) := by kernel_rfl
theorem JGet1 {A : Asn} {os : Obs} {jt pj mb : Nat} {P : PS V5} {a g : Int} {v : V5} (oJ : Own w0 F jt (jtV pj mb) tJt) (h : HO w0 F M os (star (PsJ pj P) A)) (hb : P.l.length ≤ 100000) (hw : P.find a g = some v)
  (h1 : ∀ M', HO w0 F M' os (star (PsJ pj P) A) → R (.tuple #[jobK v, .int .i64 0]) M') : C PP w0 Id.jT_Get #[.pointer (some ⟨jt, 0, none⟩), .agg #[.int .i64 a, .int .i64 g]] R M :=
 JGet_ok oJ h hb (fun v' hv => by rw [hw] at hv; cases hv; exact h1) (fun hf => by rw [hw] at hf; cases hf)
theorem JGetNo {A : Asn} {os : Obs} {jt pj mb : Nat} {P : PS V5} {a g : Int} (oJ : Own w0 F jt (jtV pj mb) tJt) (h : HO w0 F M os (star (PsJ pj P) A)) (hb : P.l.length ≤ 100000) (hw : P.find a g = none)
  (h1 : ∀ M' e, HO w0 F M' os (star (PsJ pj P) A) → e ≠ 0 → e = P.pl.look a g → R (.tuple #[jobK z5, .int .i64 e]) M') : C PP w0 Id.jT_Get #[.pointer (some ⟨jt, 0, none⟩), .agg #[.int .i64 a, .int .i64 g]] R M :=
 JGet_ok oJ h hb (fun v' hv => by rw [hw] at hv; cases hv) (fun _ => h1)
theorem Sooner_ok (hX : DFix w0 F X) (hD : DHO w0 F M os X Y Q) (hv : DInv Y d tm) (htm : tm ≤ 900000) (hk : c.kind = 2)
  (hK : ∀ M' Y', DHO w0 F M' os X Y' Q → DInv Y' (do22 d c).1 tm → DStp Y Y' (2 + limH d.l.length) → R (do22 d c).2.v M') :
  C PP w0 Id.dD_sooner #[.pointer (some ⟨X.d, 0, none⟩), c.v] R M := by
 obtain ⟨oa, oe, ob, ow, hfa, hfe, hfb, hfw, h⟩ := hD
 obtain ⟨ck, cq, ca, cg, ct, cd⟩ := c
 simp only at hk
 subst hk
 rw [do22_23 (.inl rfl)] at hK
 obtain ⟨e1, e2, e3, e4, e5⟩ := hv.plens
 have hok := hv.ok htm
 apply dD_sooner.go
 unfold dD_sooner.T nfz
 refine nwA h fun b1 F1 M1 l1 lm1 o1 h1 => ?_
 have hX1 := hX.le l1
 refine nwB h1 fun b3 M2 lm2 h2' => ?_
 have h2 := h2'.mapH Holds.dp7
 have hc2 : ∀ {M' : Mem} {e : TypeId}, Own w0 M' b1 [.int .i64 2, .int .i64 cq, .int .i64 ca, .int .i64 cg, .int .i64 ct, .int .i64 cd] e → (std PP w0).ld 33 ⟨b1, 2, none⟩ M' = some (.agg #[.int .i64 ca, .int .i64 cg]) := fun o => ldSub (vs := [.int .i64 ca, .int .i64 cg]) gRef o (sub2 rfl rfl)
 have hc4 : ∀ {M' : Mem} {e : TypeId}, Own w0 M' b1 [.int .i64 2, .int .i64 cq, .int .i64 ca, .int .i64 cg, .int .i64 ct, .int .i64 cd] e → (std PP w0).ld 2 ⟨b1, 4, none⟩ M' = some (.int .i64 ct) := fun o => ld1 W.c2 o rfl
 simp (config := { maxSteps := 10000000 }) only [nc_v, add_eq, Nat.zero_add, D7 h2.di, hc2 (o1.le h2.fr), ob_v, sP_v, zI_, sA_, sC_, zN_]
 have hpkl : ∀ e, e = Y.P.pl.look ca cg → e = d.pool.look ca cg := fun e he => by rw [he, hv.pk]
 cases hfnd : Y.P.find ca cg with
 | none =>
  refine ⟨?_, ?_⟩
  rotate_left
  refine nwB h2 fun b4 M4' lm4 h4' => ?_
  have o4' := (h4'.mapH fun h => h.right).di
  refine ⟨D7 o4', hc2 (o1.le h4'.fr), ?_⟩
  refine JGetNo hX1.j (h4'.mapH Holds.dp7).toJ (by omega) hfnd fun M4 e h4 he hel => ?_
  simp only [jobK, sT_v, sA_, sC_, zI_, zN_]
  refine stW (vs := vc5 z5) gJob5 (by rfl) (vc5_one _) (h4.ofJ.mapH Holds.up7) fun M5 h5 => ?_
  rotate_left
  refine JGetNo hX1.j h2.toJ (by omega) hfnd fun M4 e h4 he hel => ?_
  simp only [jobK, sT_v, sA_, sC_, zI_, zN_]
  refine nwB h4.ofJ fun b4 M5' lm5 h5' => ?_
  refine stW (vs := vc5 z5) gJob5 (by rfl) (vc5_one _) h5' fun M5 h5 => ?_
  all_goals
   have hlk := hpkl e hel
   rw [if_pos (by rw [← hlk]; exact he), ← hlk] at hK
   rw [bs_bne, if_neg he]
   refine Refused_ok h5 fun M6 h6 => ?_
   simp only [Rep.v, sA_, sC_, zI_, zN_]
   refine resB (vs := (Rep.mk e 0 0 0 0 0).cells) gRep6 (by rfl) (rep_one _) ((h6.mapH fun h => h.right).mapH Holds.up7) fun M7 h7 => ?_
   exact hK M7 Y ⟨oa, oe, ob, ow, hfa, hfe, hfb, hfw, h7.uF_ l1⟩ hv (DStp.rfl' (by unfold limH; omega))
 | some v =>
  have hl0 : d.pool.look ca cg = 0 := by
   rw [← hv.pk]
   exact PS.find_look.1 (by rw [hfnd]; rfl)
  obtain ⟨kk, hkk⟩ := hok.look ca cg hl0
  obtain ⟨j, hj1, hja, hjg, A, B, hd, hA⟩ := hv.atD hkk
  subst hA
  have hjM : j ∈ d.l := by rw [hd]; simp
  have hvj : v = j.v5 := by
   have := hv.jf j hjM
   rw [hja, hjg, hfnd] at this
   cases this; rfl
  subst hvj
  rw [if_neg (by rw [hl0]; simp), hkk] at hK
  simp only [hj1] at hK
  rw [if_neg (by decide)] at hK
  refine ⟨?_, ?_⟩
  rotate_left
  refine nwB h2 fun b4 M4' lm4 h4' => ?_
  have o4' := (h4'.mapH fun h => h.right).di
  refine ⟨D7 o4', hc2 (o1.le h4'.fr), ?_⟩
  refine JGet1 hX1.j (h4'.mapH Holds.dp7).toJ (by omega) hfnd fun M4 h4 => ?_
  simp only [jobK, sT_v, sA_, sC_, zI_, zN_]
  refine stW (vs := vc5 j.v5) gJob5 (by rfl) (vc5_one _) (h4.ofJ.mapH Holds.up7) fun M5 h5 => ?_
  rotate_left
  refine JGet1 hX1.j h2.toJ (by omega) hfnd fun M4 h4 => ?_
  simp only [jobK, sT_v, sA_, sC_, zI_, zN_]
  refine nwB h4.ofJ fun b4 M5' lm5 h5' => ?_
  refine stW (vs := vc5 j.v5) gJob5 (by rfl) (vc5_one _) h5' fun M5 h5 => ?_
  all_goals
   rw [bs_bne, if_pos rfl]
   simp only [hc4 (o1.le h5.fr), ld1 W.c2 h5.h.own1 (o := 1) rfl, ob_v, zI_]
   rw [bD_]
   by_cases hlt : j.key < ct
   ·rw [if_pos hlt] at hK
    rw [if_pos (show ct > j.v5.2.1 from hlt)]
    refine Refused_ok h5 fun M6 h6 => ?_
    simp only [Rep.v, sA_, sC_, zI_, zN_]
    refine resB (vs := (Rep.mk 26 0 0 0 0 0).cells) gRep6 (by rfl) (rep_one _) ((h6.mapH fun h => h.right).mapH Holds.up7) fun M7 h7 => ?_
    exact hK M7 Y ⟨oa, oe, ob, ow, hfa, hfe, hfb, hfw, h7.uF_ l1⟩ hv (DStp.rfl' (by unfold limH; omega))
   ·rw [if_neg hlt] at hK
    rw [if_neg (show ¬ ct > j.v5.2.1 from hlt)]
    have o5 := (h5.mapH fun h => h.right).di
    have hit : ∀ {M' : Mem} {e : TypeId} {t : Int}, Own w0 M' b4 (vc5 (j.queue, t, j.data, j.at_, j.gen)) e → (std PP w0).ld 33 ⟨b4, 3, none⟩ M' = some (.agg #[.int .i64 j.at_, .int .i64 j.gen]) := fun o => ldSub (vs := [.int .i64 j.at_, .int .i64 j.gen]) gRef o (sub2 rfl rfl)
    simp only [D2 o5, hit (t := j.key) h5.h.own1, hc4 (o1.le h5.fr), ob_v, sP_v, zI_, sA_, sC_, zN_, itemV_bld (i := (j.at_, j.gen))]
    obtain ⟨IA, x, IB, hI, hIA, hx1, hx2, hx3, hIB⟩ := hv.split hd
    obtain ⟨A', y, B', hAB, hyh, hrep⟩ := pick (y0 := Y.y0) (y1 := Y.y1) (hv.qr j hjM)
    have hvq := hv.q
    rw [hAB, hI] at hvq
    have hjr : (j.at_, j.gen) = x.r := hx1.symm
    rw [show j.at_ = x.r.1 from congrArg Prod.fst hjr, show j.gen = x.r.2 from congrArg Prod.snd hjr]
    have hke : ct ≤ x.e.1 := by rw [hx3]; show ct ≤ j.key; omega
    refine QDoDecrease_ok hX1.t hvq (hx2.trans hyh.symm) hke hfa hfe (h5.mapH Holds.dp7) fun M6 S' oe' y' hfa' hfe' h6' ey1 ey2 hv' em en eip hst => ?_
    have h6 := h6'.mapH Holds.up7
    simp only [sA_, sC_, zI_, zN_, hc4 (o1.le h6.fr), ob_v]
    refine st1W (o := 1) W.c2 (by simp [vc5]) rfl rfl h6 fun M7 h7 => ?_
    change HO w0 F1 M7 _ (star (row1 b4 (vc5 (j.queue, ct, j.data, j.at_, j.gen)) _) (DB X S' Y.P Y.now Y.K Y.S.most Y.y0.h Y.y1.h Y.budget Y.last Y.top _)) at h7
    have o7 := (h7.mapH fun h => h.right).di
    simp only [D7 o7, hc2 (o1.le h7.fr), lB_ (vs := vc5 (j.queue, ct, j.data, j.at_, j.gen)) gJob5 h7.h.own1, ob_v, sP_v, zI_, sA_, sC_, zN_]
    refine JSet_ok (r := (ca, cg)) (v := (j.queue, ct, j.data, j.at_, j.gen)) (w := j.v5) hX1.j (h7.mapH Holds.dp7).toJ hfb (by omega) hfnd rfl (by rw [hja, hjg]; have := hv.jb j hjM; unfold Jb.r at this; rw [hja, hjg] at this; exact this) fun M8 ob' hfb' h8' => ?_
    have h8 := h8'.ofJ.mapH Holds.up7
    simp only [zI_, lB_ (vs := vc5 (j.queue, ct, j.data, j.at_, j.gen)) gJob5 h8.h.own1, ob_v, sA_, sC_, zN_]
    refine Told_ok (v := (j.queue, ct, j.data, j.at_, j.gen)) (h8.mapH fun h => h.right) fun M9 h9 => ?_
    simp only [Rep.v, sA_, sC_, zI_, zN_]
    refine resB (vs := (Rep.mk 0 0 0 ct j.data 0).cells) gRep6 (by rfl) (rep_one _) (h9.mapH Holds.up7) fun M10 h10 => ?_
    obtain ⟨y0', y1', hrep1, e0, e1', k0, k1⟩ := hrep y' ey1 ey2
    rw [hrep1] at hv'
    have hso := hv.sooner hd hI hx1 hx2 hx3 hIA hIB hv' e0 e1' k0 k1 em en eip
    have hdl : (IA ++ x :: IB).length = d.l.length := by rw [← hI]; exact hv.len
    refine hK M10 _ (DHO.of (Y' := ⟨Y.K, S', IA ++ { x with e := (ct, x.e.2) } :: IB, y0', y1', Y.P.put j.at_.toNat (j.queue, ct, j.data, j.at_, j.gen), Y.by_, Y.wh, Y.now, Y.budget, Y.last, Y.top⟩) hfa' hfe' hfb' hfw ?_ em e0 e1') hso ⟨rfl, rfl, rfl, ?_⟩
    ·have hh := h10.uF_ l1
     rw [show ((ca, cg) : RefK).1.toNat = j.at_.toNat from by rw [hja]] at hh
     exact hh
    ·rw [← hdl]; exact hst
theorem Gone_ok {r : RefK} {v : V5} (hX : DFix w0 F X) (hb : P.l.length ≤ 10000) (hfb' : P.free.length ≤ 10000) (hfb : MapF refK refK by_ ob) (hfw : MapF refK (Value.int .i64) wh ow) (hw : P.find r.1 r.2 = some v) (h : HO w0 F M (DO X oa oe ob ow os) (DB X S P now K most r0 r1 b l tp Q))
  (hK : ∀ M' ob' ow', MapF refK refK (updM by_ v.2.2.2 none) ob' → MapF refK (Value.int .i64) (updM wh r none) ow' → HO w0 F M' (DO X oa oe ob' ow' os) (DB X S (P.give z5 r.1.toNat) now K most r0 r1 b l tp Q) → R (Rep.v { time := v.2.1, data := v.2.2.1 }) M') :
  C PP w0 Id.dD_gone #[.pointer (some ⟨X.d, 0, none⟩), .agg #[.int .i64 r.1, .int .i64 r.2]] R M := by
 apply dD_gone.go
 unfold dD_gone.T nfz
 refine nwA h fun b1 F1 M1 l1 lm1 o1 h1 => ?_
 have hX1 := hX.le l1
 refine nwB h1 fun b3 M2 lm2 h2' => ?_
 have h2 := h2'.mapH Holds.dp7
 simp (config := { maxSteps := 10000000 }) only [nc_v, add_eq, Nat.zero_add, D7 h2.di, lB_ gRef (o1.le h2.fr), ob_v, sP_v, zI_, sA_, sC_, zN_]
 refine ⟨?_, ?_⟩
 rotate_left
 refine nwB h2 fun b4 M3' lm3 h3' => ?_
 have o3' := (h3'.mapH fun h => h.right).di
 refine ⟨D7 o3', lB_ gRef (o1.le h3'.fr), ?_⟩
 refine JTake_ok hX1.j (h3'.mapH Holds.dp7).toJ hfb hb hfb' hw fun M3 ob' hfb2 h3 => ?_
 simp only [jobK, sT_v, sA_, sC_, zI_, zN_]
 refine stF (vs := vc5 v) gJob5 (by rfl) (vc5_one _) (h3.ofJ.mapH Holds.up7) fun F4 M4 l4 o4 h4 => ?_
 rotate_left
 refine JTake_ok hX1.j h2.toJ hfb hb hfb' hw fun M3 ob' hfb2 h3 => ?_
 simp only [jobK, sT_v, sA_, sC_, zI_, zN_]
 refine boxF (vs := vc5 v) gJob5 (by rfl) (vc5_one _) h3.ofJ fun b4 F4 M4 l4 o4 h4 => ?_
 all_goals
  rw [bs_bne, if_pos rfl]
  simp only [D8 h4.di, lB_ gRef ((o1.le l4).le h4.fr), ob_v, sA_, sC_, zI_, zN_]
  have h4p := h4.perm (perm3 _ _ _ _ _)
  obtain ⟨g1, g2⟩ := h4p.get List.mem_cons_self
  refine delF (k := r) rfl Tryz.underlying122 refK_ok g1 g2 hfw fun ow' hfw' => ?_
  have h5 := (h4p.set (o' := ow')).perm (perm3 _ _ _ _ _).symm
  generalize Mem.set M4 X.mw _ = M5 at h5 ⊢
  simp only [lB_ (vs := vc5 v) gJob5 (o4.le h5.fr), ob_v, sA_, sC_, zI_, zN_]
  refine Told_ok (v := v) h5 fun M6 h6 => ?_
  simp only [Rep.v, sA_, sC_, zI_, zN_]
  refine resB (vs := (Rep.mk 0 0 0 v.2.1 v.2.2.1 0).cells) gRep6 (by rfl) (rep_one _) (h6.mapH Holds.up7) fun M7 h7 => ?_
  exact hK M7 ob' ow' hfb2 hfw' ((h7.uF_ l4).uF_ l1)
theorem GoneNo_ok {r : RefK} (hX : DFix w0 F X) (hb : P.l.length ≤ 10000) (hw : P.find r.1 r.2 = none) (h : HO w0 F M (DO X oa oe ob ow os) (DB X S P now K most r0 r1 b l tp Q))
  (hK : ∀ M', HO w0 F M' (DO X oa oe ob ow os) (DB X S P now K most r0 r1 b l tp Q) → R (Rep.v { why := P.pl.look r.1 r.2 }) M') :
  C PP w0 Id.dD_gone #[.pointer (some ⟨X.d, 0, none⟩), .agg #[.int .i64 r.1, .int .i64 r.2]] R M := by
 apply dD_gone.go
 unfold dD_gone.T nfz
 refine nwA h fun b1 F1 M1 l1 lm1 o1 h1 => ?_
 have hX1 := hX.le l1
 refine nwB h1 fun b3 M2 lm2 h2' => ?_
 have h2 := h2'.mapH Holds.dp7
 simp (config := { maxSteps := 10000000 }) only [nc_v, add_eq, Nat.zero_add, D7 h2.di, lB_ gRef (o1.le h2.fr), ob_v, sP_v, zI_, sA_, sC_, zN_]
 refine ⟨?_, ?_⟩
 rotate_left
 refine nwB h2 fun b4 M3' lm3 h3' => ?_
 have o3' := (h3'.mapH fun h => h.right).di
 refine ⟨D7 o3', lB_ gRef (o1.le h3'.fr), ?_⟩
 refine JTakeNo_ok hX1.j (h3'.mapH Holds.dp7).toJ hb hw fun M3 e h3 he hel => ?_
 simp only [jobK, sT_v, sA_, sC_, zI_, zN_]
 refine stF (vs := vc5 z5) gJob5 (by rfl) (vc5_one _) (h3.ofJ.mapH Holds.up7) fun F4 M4 l4 o4 h4 => ?_
 rotate_left
 refine JTakeNo_ok hX1.j h2.toJ hb hw fun M3 e h3 he hel => ?_
 simp only [jobK, sT_v, sA_, sC_, zI_, zN_]
 refine boxF (vs := vc5 z5) gJob5 (by rfl) (vc5_one _) h3.ofJ fun b4 F4 M4 l4 o4 h4 => ?_
 all_goals
  rw [bs_bne, if_neg he]
  refine Refused_ok h4 fun M6 h6 => ?_
  simp only [Rep.v, sA_, sC_, zI_, zN_]
  refine resB (vs := (Rep.mk e 0 0 0 0 0).cells) gRep6 (by rfl) (rep_one _) (h6.mapH Holds.up7) fun M7 h7 => ?_
  rw [hel]
  exact hK M7 ((h7.uF_ l4).uF_ l1)
end
end Go.Proofs.YtodobkbnmjgkdaaGreat.HL
namespace Go.Proofs.YtodobkbnmjgkdaaGreat.HL
open Go.RowKit (Below)
open Go.Proofs
section
variable {w0 : World} {F M : Mem}
theorem Holds.sev {A B C D E G H Q : Asn} (h : Holds w0 F M (star A (star B (star C (star D (star E (star G (star H Q)))))))) : Holds w0 F M (star H (star A (star B (star C (star D (star E (star G Q))))))) :=
 (h.inn fun _ _ h => (h.inn fun _ _ h => (h.inn fun _ _ h => (h.inn fun _ _ h => (h.inn fun _ _ h => h.rot).rot).rot).rot).rot).rot
theorem Holds.bck {A B C D E G H Q : Asn} (h : Holds w0 F M (star H (star A (star B (star C (star D (star E (star G Q)))))))) : Holds w0 F M (star A (star B (star C (star D (star E (star G (star H Q))))))) :=
 h.rot.inn fun _ _ h => h.rot.inn fun _ _ h => h.rot.inn fun _ _ h => h.rot.inn fun _ _ h => h.rot.inn fun _ _ h => h.rot
end
section
variable {w0 : World} {F M : Mem} {R : VP} {os : Obs} {X : DLoc} {Y : DSt} {S : QS} {P : PS V5} {Q : Asn} {now K most b l tp : Int} {r0 r1 : RefK} {oa oe ob ow : Obj} {d : D22} {tm : Int} {c : Cmd} {by_ : RefK → Option RefK} {wh : RefK → Option Int}
theorem itemV_bld0 {k : Int} {i : RefK} : (std PP w0).bld tCall [(0, .int .i64 k), (4, .agg #[.int .i64 i.1, .int .i64 i.2])] = some (.agg (callV k 0 0 0 0 0 i.1 i.2 0).toArray) := by kernel_rfl
theorem heapV_bld {k : Int} {i : RefK} : (std PP w0).bld tCall [(0, .int .i64 k), (2, .agg #[.int .i64 i.1, .int .i64 i.2])] = some (.agg (callV k 0 i.1 i.2 0 0 0 0 0).toArray) := by kernel_rfl
theorem heap2V_bld {k : Int} {i j : RefK} : (std PP w0).bld tCall [(0, .int .i64 k), (2, .agg #[.int .i64 i.1, .int .i64 i.2]), (3, .agg #[.int .i64 j.1, .int .i64 j.2])] = some (.agg (callV k 0 i.1 i.2 j.1 j.2 0 0 0).toArray) := by kernel_rfl
theorem makeV_bld {k x : Int} : (std PP w0).bld tCall [(0, .int .i64 k), (1, .int .i64 x)] = some (.agg (callV k x 0 0 0 0 0 0 0).toArray) := by kernel_rfl
theorem DInv.setS (h : DInv Y d tm) {S' : QS} (hS : QInv S' Y.I [Y.y0, Y.y1] tm) (hm : S'.most = Y.S.most) (hn : S'.next = Y.S.next) (hip : S'.ip = Y.S.ip) : DInv { Y with S := S' } d tm :=
 ⟨hS, h.K3, h.k0, h.k1, h.pk, by show S'.ip.pl = d.pool; rw [hip]; exact h.ipk, hm.trans h.most, h.now, h.nowI, hn.trans h.nx, h.par, h.qr, h.jf, h.jb, h.jb2, h.jw, h.lv, h.sn, h.sl⟩
theorem CDue_ok {x : Int} (o : Own w0 M X.bc [.int .i64 now] tClk) (h : R (.bool (decide (x ≤ now))) M) : C PP w0 Id.clock_Clock_Due #[.pointer (some ⟨X.bc, 0, none⟩), .int .i64 x] R M := by
 apply clock_Clock_Due.go
 unfold clock_Clock_Due.T nfz
 simp only [nc_v, add_eq, Nat.zero_add, ld1 W.c2 o (o := 0) rfl, ob_v, zI_]
 exact h
theorem Cancel_ok (hX : DFix w0 F X) (hD : DHO w0 F M os X Y Q) (hv : DInv Y d tm) (htm : tm ≤ 900000) (hk : c.kind = 3)
  (hK : ∀ M' Y', DHO w0 F M' os X Y' Q → DInv Y' (do22 d c).1 (tm + 1) → DStp Y Y' (limH d.l.length + 1) → R (do22 d c).2.v M') :
  C PP w0 Id.dD_cancel #[.pointer (some ⟨X.d, 0, none⟩), .agg #[.int .i64 c.at_, .int .i64 c.gen]] R M := by
 obtain ⟨oa, oe, ob, ow, hfa, hfe, hfb, hfw, h⟩ := hD
 obtain ⟨ck, cq, ca, cg, ct, cd⟩ := c
 simp only at hk
 subst hk
 rw [do22_23 (.inr rfl)] at hK
 obtain ⟨e1, e2, e3, e4, e5⟩ := hv.plens
 have hok := hv.ok htm
 apply dD_cancel.go
 unfold dD_cancel.T nfz
 refine nwA h fun b1 F1 M1 l1 lm1 o1 h1 => ?_
 have hX1 := hX.le l1
 refine nwB h1 fun b3 M2 lm2 h2' => ?_
 have h2 := h2'.mapH Holds.dp7
 simp (config := { maxSteps := 10000000 }) only [nc_v, add_eq, Nat.zero_add, D7 h2.di, lB_ gRef (o1.le h2.fr), ob_v, sP_v, zI_, sA_, sC_, zN_]
 have hpkl : ∀ e, e = Y.P.pl.look ca cg → e = d.pool.look ca cg := fun e he => by rw [he, hv.pk]
 cases hfnd : Y.P.find ca cg with
 | none =>
  refine ⟨?_, ?_⟩
  rotate_left
  refine nwB h2 fun b4 M4' lm4 h4' => ?_
  have o4' := (h4'.mapH fun h => h.right).di
  refine ⟨D7 o4', lB_ gRef (o1.le h4'.fr), ?_⟩
  refine JGetNo hX1.j (h4'.mapH Holds.dp7).toJ (by omega) hfnd fun M4 e h4 he hel => ?_
  simp only [jobK, sT_v, sA_, sC_, zI_, zN_]
  refine stF (vs := vc5 z5) gJob5 (by rfl) (vc5_one _) (h4.ofJ.mapH Holds.up7) fun F5 M5 l5 o5 h5 => ?_
  rotate_left
  refine JGetNo hX1.j h2.toJ (by omega) hfnd fun M4 e h4 he hel => ?_
  simp only [jobK, sT_v, sA_, sC_, zI_, zN_]
  refine boxF (vs := vc5 z5) gJob5 (by rfl) (vc5_one _) h4.ofJ fun b4 F5 M5 l5 o5 h5 => ?_
  all_goals
   have hlk := hpkl e hel
   rw [if_pos (by rw [← hlk]; exact he), ← hlk] at hK
   rw [bQ_, if_neg he]
   simp only [lB_ gRef ((o1.le l5).le h5.fr), ob_v, sA_, sC_, zI_, zN_]
   refine GoneNo_ok (r := (ca, cg)) (hX1.le l5) (by omega) hfnd h5 fun M6 h6 => ?_
   rw [show Y.P.pl.look ((ca, cg) : RefK).1 ((ca, cg) : RefK).2 = e from hel.symm]
   simp only [Rep.v, sA_, sC_, zI_, zN_]
   refine resB (vs := (Rep.mk e 0 0 0 0 0).cells) gRep6 (by rfl) (rep_one _) (h6.mapH Holds.up7) fun M7 h7 => ?_
   exact hK M7 Y ⟨oa, oe, ob, ow, hfa, hfe, hfb, hfw, (h7.uF_ l5).uF_ l1⟩ (hv.later (by omega)) (DStp.rfl' (by unfold limH; omega))
 | some v =>
  have hl0 : d.pool.look ca cg = 0 := by
   rw [← hv.pk]
   exact PS.find_look.1 (by rw [hfnd]; rfl)
  obtain ⟨kk, hkk⟩ := hok.look ca cg hl0
  obtain ⟨j, hj1, hja, hjg, A, B, hd, hA⟩ := hv.atD hkk
  subst hA
  have hjM : j ∈ d.l := by rw [hd]; simp
  have hvj : v = j.v5 := by
   have := hv.jf j hjM
   rw [hja, hjg, hfnd] at this
   cases this; rfl
  subst hvj
  rw [if_neg (by rw [hl0]; simp), hkk] at hK
  simp only [hj1] at hK
  rw [if_pos trivial] at hK
  refine ⟨?_, ?_⟩
  rotate_left
  refine nwB h2 fun b4 M4' lm4 h4' => ?_
  have o4' := (h4'.mapH fun h => h.right).di
  refine ⟨D7 o4', lB_ gRef (o1.le h4'.fr), ?_⟩
  refine JGet1 hX1.j (h4'.mapH Holds.dp7).toJ (by omega) hfnd fun M4 h4 => ?_
  simp only [jobK, sT_v, sA_, sC_, zI_, zN_]
  refine stF (vs := vc5 j.v5) gJob5 (by rfl) (vc5_one _) (h4.ofJ.mapH Holds.up7) fun F5 M5 l5 o5 h5 => ?_
  rotate_left
  refine JGet1 hX1.j h2.toJ (by omega) hfnd fun M4 h4 => ?_
  simp only [jobK, sT_v, sA_, sC_, zI_, zN_]
  refine boxF (vs := vc5 j.v5) gJob5 (by rfl) (vc5_one _) h4.ofJ fun b4 F5 M5 l5 o5 h5 => ?_
  all_goals
   rw [bQ_, if_pos rfl]
   have hX5 := hX1.le l5
   have hit : ∀ {M' : Mem} {e : TypeId}, Own w0 M' b4 (vc5 j.v5) e → (std PP w0).ld 33 ⟨b4, 3, none⟩ M' = some (.agg #[.int .i64 j.at_, .int .i64 j.gen]) := fun o => ldSub (vs := [.int .i64 j.at_, .int .i64 j.gen]) gRef o (sub2 rfl rfl)
   simp only [nc_v, add_eq, Nat.zero_add, D2 h5.di, hit (o5.le h5.fr), ob_v, sP_v, zI_, sA_, sC_, zN_, itemV_bld0 (i := (j.at_, j.gen))]
   obtain ⟨IA, x, IB, hI, hIA, hx1, hx2, hx3, hIB⟩ := hv.split hd
   obtain ⟨A', y, B', hAB, hyh, hrep⟩ := pick (y0 := Y.y0) (y1 := Y.y1) (hv.qr j hjM)
   have hvq := hv.q
   rw [hAB, hI] at hvq
   have hjr : (j.at_, j.gen) = x.r := hx1.symm
   rw [show j.at_ = x.r.1 from congrArg Prod.fst hjr, show j.gen = x.r.2 from congrArg Prod.snd hjr]
   refine QDoDelete_ok hX5.t hvq (hx2.trans hyh.symm) hfa hfe h5 fun M6 S' oa' oe' y' hfa' hfe' h6 ey1 ey2 hv' em en eip hst => ?_
   simp only [sA_, sC_, zI_, zN_, lB_ gRef ((o1.le l5).le h6.fr), ob_v]
   refine Gone_ok (r := (ca, cg)) hX5 (by omega) (by omega) hfb hfw hfnd h6 fun M7 ob' ow' hfb' hfw' h7 => ?_
   simp only [Rep.v, sA_, sC_, zI_, zN_]
   refine resB (vs := (Rep.mk 0 0 0 j.key j.data 0).cells) gRep6 (by rfl) (rep_one _) (h7.mapH Holds.up7) fun M8 h8 => ?_
   obtain ⟨y0', y1', hrep1, e0, e1', k0, k1⟩ := hrep y' ey1 ey2
   rw [hrep1] at hv'
   have hxa : x.r.1.toNat = j.at_.toNat := by rw [hx1]; rfl
   have hou := hv.out hd hI hIA hIB hv' e0 e1' k0 k1 em en (by rw [eip, hxa])
   have hdl : (IA ++ x :: IB).length = d.l.length := by rw [← hI]; exact hv.len
   have hr : ((ca, cg) : RefK) = j.r := Prod.ext hja.symm hjg.symm
   rw [hr] at hfw'
   refine hK M8 _ (DHO.of (Y' := ⟨Y.K, S', IA ++ IB, y0', y1', Y.P.give z5 j.at_.toNat, updM Y.by_ j.r none, updM Y.wh j.r none, Y.now, Y.budget, Y.last, Y.top⟩) hfa' hfe' hfb' hfw' ?_ em e0 e1') hou ⟨rfl, rfl, rfl, ?_⟩
   ·have hh := (h8.uF_ l5).uF_ l1
    rw [show ((ca, cg) : RefK).1.toNat = j.at_.toNat from by rw [hja]] at hh
    exact hh
   ·rw [← hdl]; exact hst
theorem Merge_ok (hX : DFix w0 F X) (hD : DHO w0 F M os X Y Q) (hv : DInv Y d tm) (htm : tm ≤ 900000) (hk : c.kind = 6) (hq : c.queue = 1)
  (hK : ∀ M' Y', DHO w0 F M' os X Y' Q → DInv Y' (do22 d c).1 (tm + 1) → DStp Y Y' (limH d.l.length) → R (do22 d c).2.v M') :
  C PP w0 Id.dD_merge #[.pointer (some ⟨X.d, 0, none⟩)] R M := by
 obtain ⟨oa, oe, ob, ow, hfa, hfe, hfb, hfw, h⟩ := hD
 rw [do22_6 (goodQ (.inr hq)) hk, if_neg (by omega)] at hK
 obtain ⟨e1, e2, e3, e4, e5⟩ := hv.plens
 apply dD_merge.go
 unfold dD_merge.T nfz
 refine nwB h fun b3 M2 lm2 h2' => ?_
 have h2 := h2'.mapH Holds.dp7
 simp (config := { maxSteps := 10000000 }) only [nc_v, add_eq, Nat.zero_add, D2 h2.di, ob_v, sP_v]
 refine ⟨⟨by omega, by omega⟩, ?_⟩
 rw [show (std PP w0).ld 33 ⟨X.d, 3 + Int.toNat 0 * 2, none⟩ M2 = _ from D3 h2.di]
 simp only [ob_v, sA_, sC_, zI_, zN_]
 refine ⟨⟨by omega, by omega⟩, ?_⟩
 rw [show (std PP w0).ld 33 ⟨X.d, 3 + Int.toNat 1 * 2, none⟩ M2 = _ from D5 h2.di]
 simp only [ob_v, sA_, sC_, zI_, zN_, heap2V_bld]
 refine QDoMeld_ok hX.t hv.q htm (hv.k1.trans hv.k0.symm) h2 fun M3 S1 y0' h3 ey1 ey2 hv1 em en eip eat een hst => ?_
 simp only [sA_, sC_, zI_, zN_, D2 h3.di, D0 h3.di, ob_v, sP_v, makeV_bld]
 refine QDoMake_ok hX.t hv1 htm hv.K3.1 hv.K3.2 (by simp) h3 fun M4 S2 r h4 hv2 hnil em2 en2 eip2 eat2 een2 hst2 => ?_
 simp only [sA_, sC_, zI_, zN_]
 refine ⟨⟨by omega, by omega⟩, ?_⟩
 refine stPW (o := 5) gRef (by exact (by decide : 7 ≤ 13)) one2 (h4.mapH Holds.sev) fun M5 h5' => ?_
 have hov : over (dV X Y.K Y.S.most Y.y0.h Y.y1.h Y.budget Y.last Y.top) 5 [.int .i64 r.1, .int .i64 r.2] = dV X Y.K Y.S.most Y.y0.h r Y.budget Y.last Y.top := by
  have := over_mid [.int .i64 Y.K, .int .i64 Y.S.most, .pointer (some ⟨X.q, 0, none⟩), .int .i64 Y.y0.h.1, .int .i64 Y.y0.h.2] [.int .i64 Y.y1.h.1, .int .i64 Y.y1.h.2] [.pointer (some ⟨X.jt, 0, none⟩), .map (some X.mw), .pointer (some ⟨X.bc, 0, none⟩), .int .i64 Y.budget, .int .i64 Y.last, .int .i64 Y.top] [.int .i64 r.1, .int .i64 r.2] rfl (o := 5) rfl
  simpa using this
 rw [hov] at h5'
 have h5 : HO w0 F M5 (DO X oa oe ob ow os) (DB X S2 Y.P Y.now Y.K Y.S.most Y.y0.h r Y.budget Y.last Y.top (star (row1 b3 _ _) Q)) := h5'.mapH Holds.bck
 simp only [D7 h5.di, ob_v, sP_v]
 refine JMove_ok hX.j h5.toJ (by omega) hv.pg1 fun M6 h6' => ?_
 have h6 := h6'.ofJ
 rw [hv.cnt 1]
 simp only [zI_, bR4, ob_v, sA_, sC_, zN_]
 refine resB (vs := (Rep.mk 0 0 0 0 0 (countD 1 d.l)).cells) gRep6 (by rfl) (rep_one _) (h6.mapH Holds.up7) fun M7 h7 => ?_
 have hme := hv.merge (y0' := y0') (y1' := ⟨r, Y.K, -1, []⟩) hv2 ey1 ey2 hv.k1.symm (em2.trans em) (en2.trans en) (by rw [eip2, eip])
 rw [← eat, ← eat2] at hfa
 rw [← een, ← een2] at hfe
 refine hK M7 _ (DHO.of (Y' := ⟨Y.K, S2, Y.I.map (toH Y.y1.h Y.y0.h), y0', ⟨r, Y.K, -1, []⟩, rmv Y.P Y.P.refs 1 0, Y.by_, Y.wh, Y.now, Y.budget, Y.last, Y.top⟩) hfa hfe hfb hfw h7 (em2.trans em) ey1 rfl) hme ⟨rfl, rfl, rfl, ?_⟩
 have := hst.trans hst2
 rw [hv.len, Int.add_zero] at this
 exact this
end
end Go.Proofs.YtodobkbnmjgkdaaGreat.HL
namespace Go.Proofs.YtodobkbnmjgkdaaGreat.HL
open Go.RowKit (Below)
open Go.Proofs
section
variable {w0 : World} {F M : Mem} {R : VP} {os : Obs} {X : DLoc} {Y : DSt} {S : QS} {P : PS V5} {Q : Asn} {now K most b l tp : Int} {r0 r1 : RefK} {oa oe ob ow : Obj} {d : D22} {tm : Int} {c : Cmd} {by_ : RefK → Option RefK} {wh : RefK → Option Int}
theorem nd_split2 : ∀ {A A2 B B2 : List Itm} {x x2 : Itm}, ((A ++ x :: B).map (·.r)).Nodup → A ++ x :: B = A2 ++ x2 :: B2 → x.r = x2.r → A = A2 ∧ x = x2 ∧ B = B2
 | [], [], B, B2, x, x2, hn, he, hr => by
  simp only [List.nil_append, List.cons.injEq] at he
  exact ⟨rfl, he.1, he.2⟩
 | [], a :: A2, B, B2, x, x2, hn, he, hr => by
  simp only [List.nil_append, List.cons_append, List.cons.injEq] at he
  obtain ⟨h1, h2⟩ := he
  subst h1
  rw [h2] at hn
  simp only [List.nil_append, List.map_cons, List.map_append, List.nodup_cons] at hn
  exact absurd (List.mem_append_right _ (by rw [hr]; exact List.mem_cons_self)) hn.1
 | a :: A, [], B, B2, x, x2, hn, he, hr => by
  simp only [List.nil_append, List.cons_append, List.cons.injEq] at he
  obtain ⟨h1, h2⟩ := he
  subst h1
  simp only [List.cons_append, List.map_cons, List.map_append, List.nodup_cons] at hn
  exact absurd (List.mem_append_right _ (by rw [← hr]; exact List.mem_cons_self)) hn.1
 | a :: A, a2 :: A2, B, B2, x, x2, hn, he, hr => by
  simp only [List.cons_append, List.cons.injEq] at he
  obtain ⟨h1, h2⟩ := he
  simp only [List.cons_append, List.map_cons, List.nodup_cons] at hn
  obtain ⟨q1, q2, q3⟩ := nd_split2 hn.2 h2 hr
  exact ⟨by rw [h1, q1], q2, q3⟩
theorem Fire_ok (hX : DFix w0 F X) (hD : DHO w0 F M os X Y Q) (hv : DInv Y d tm) (htm : tm ≤ 900000) (hk : c.kind = 5) (hq : c.queue = 0 ∨ c.queue = 1)
  (hK : ∀ M' Y', DHO w0 F M' os X Y' Q → DInv Y' (do22 d c).1 (tm + 1) → DStp Y Y' (2 * limH d.l.length + 1) → R (do22 d c).2.v M') :
  C PP w0 Id.dD_fire #[.pointer (some ⟨X.d, 0, none⟩), .int .i64 c.queue] R M := by
 obtain ⟨oa, oe, ob, ow, hfa, hfe, hfb, hfw, h⟩ := hD
 obtain ⟨ck, cq, ca, cg, ct, cd⟩ := c
 simp only at hk hq
 subst hk
 rw [do22_5 (goodQ hq) rfl] at hK
 obtain ⟨e1, e2, e3, e4, e5⟩ := hv.plens
 have hl0 : 0 ≤ limH d.l.length := by unfold limH; omega
 apply dD_fire.go
 intro pts H
 unfold dD_fire.T nfz
 refine nwB h fun b3 M2 lm2 h2' => ?_
 have h2 := h2'.mapH Holds.dp7
 simp (config := { maxSteps := 10000000 }) only [nc_v, add_eq, Nat.zero_add, D35 hq h2.di, ob_v, sA_, sC_, zI_, zN_]
 refine ⟨⟨by omega, by omega⟩, ?_⟩
 refine boxF gRef (by rfl) one2 h2 fun b4 F3 M3 l3 o3 h3 => ?_
 have hX3 := hX.le l3
 simp only [D2 h3.di, lB_ gRef (o3.le h3.fr), ob_v, sP_v, sA_, sC_, zI_, zN_, heapV_bld]
 obtain ⟨A', y, B', hAB, hyh, hrep⟩ := pick (y0 := Y.y0) (y1 := Y.y1) hq
 have hvq := hv.q
 rw [hAB] at hvq
 have hIl := hv.len
 rw [← hyh]
 have none_ok : ∀ (F5 M5 : Mem) (b5 : Nat) (S1 : QS) (A : List Value), do22 d ⟨5, cq, ca, cg, ct, cd⟩ = (d, { why := 28 }) → Mem.le F3 F5 → DInv { Y with S := S1 } d tm → QStp Y.S S1 (limH d.l.length) → MapF (Value.int .i64) refK S1.at_ oa → MapF refK entK S1.en oe → S1.most = Y.S.most →
   HO w0 F5 M5 (DO X oa oe ob ow os) (star (row1 b5 A tAns) (DB X S1 Y.P Y.now Y.K Y.S.most Y.y0.h Y.y1.h Y.budget Y.last Y.top (star (row1 b3 [.int .i64 0, .int .i64 0, .int .i64 0, .int .i64 0, .int .i64 0, .int .i64 0] tRep) Q))) →
   C PP w0 Id.dispatch_refused #[.int .i64 28] (fun v M => shA v fun n => shCons n fun u r => shI .i64 u fun n => shCons r fun u r => shI .i64 u fun n_22 => shCons r fun u r => shI .i64 u fun n_23 => shCons r fun u r => shI .i64 u fun n_24 => shCons r fun u r => shI .i64 u fun n_25 => shCons r fun u r => shI .i64 u fun n_26 => shNil r ((std PP w0).st tRep ⟨b3, 0, none⟩ (.agg #[.int .i64 n, .int .i64 n_22, .int .i64 n_23, .int .i64 n_24, .int .i64 n_25, .int .i64 n_26]) (fun M => HL.ob ((std PP w0).rdv tRep (.pointer (some ⟨b3, 0, none⟩)) M) fun v => R v M) M)) M5 := by
  intro F5 M5 b5 S1 A hdo l5 hv1 hst hfa1 hfe1 hm h5
  refine Refused_ok h5 fun M6 h6 => ?_
  simp only [Rep.v, sA_, sC_, zI_, zN_]
  refine resB (vs := (Rep.mk 28 0 0 0 0 0).cells) gRep6 (by rfl) (rep_one _) ((h6.mapH fun h => h.right).mapH Holds.up7) fun M7 h7 => ?_
  rw [← do22_5 (goodQ hq) rfl, hdo] at hK
  refine hK M7 { Y with S := S1 } (DHO.of (Y' := { Y with S := S1 }) hfa1 hfe1 hfb hfw ((h7.uF_ l5).uF_ l3) hm rfl rfl) (hv1.later (by omega)) ⟨rfl, rfl, rfl, fun h0 => by
   obtain ⟨a1, a2, a3⟩ := hst h0
   exact ⟨a1, a2, by show S1.α.steps ≤ Y.S.α.steps + _; omega⟩⟩
 have fire_ok : ∀ (F5 M5 : Mem) (b5 : Nat) (S1 : QS) (A0 : List Value) (x0 : Nat × Ent), A0.length = 8 → firstD d.l cq = some x0 → ¬ d.now < x0.2.1 → Mem.le F3 F5 → DInv { Y with S := S1 } d tm → QStp Y.S S1 (limH d.l.length) → MapF (Value.int .i64) refK S1.at_ oa → MapF refK entK S1.en oe → S1.most = Y.S.most →
   HO w0 F5 M5 (DO X oa oe ob ow os) (star (row1 b5 A0 tAns) (DB X S1 Y.P Y.now Y.K Y.S.most Y.y0.h Y.y1.h Y.budget Y.last Y.top (star (row1 b3 [.int .i64 0, .int .i64 0, .int .i64 0, .int .i64 0, .int .i64 0, .int .i64 0] tRep) Q))) →
   dD_fire.J1 pts (some ⟨X.d, 0, none⟩) ⟨b3, 0, none⟩ ⟨b4, 0, none⟩ ⟨b5, 0, none⟩ M5 := by
  intro F5 M5 b5 S1 A0 x0 hA0 hf hdue l5 hv1 hst hfa1 hfe1 hm h5
  rw [hf] at hK
  simp only at hK
  rw [if_neg hdue] at hK
  obtain ⟨j, A, B, hd, hAl, hjq, hje, hne, huniq⟩ := hv1.first hq hf
  have hjM : j ∈ d.l := by rw [hd]; simp
  have hj1 : d.l[x0.1]? = some j := by rw [hd, ← hAl]; simp
  rw [hj1] at hK
  simp only at hK
  refine Eq.mpr (H.J1 ..) ?_
  unfold dD_fire.J1.T nfz
  have hX5 := hX3.le l5
  have hq1 := hv1.q
  have o5 := (h5.mapH fun h => h.right).di
  simp (config := { maxSteps := 10000000 }) only [nc_v, add_eq, Nat.zero_add, D2 o5, lB_ gRef ((o3.le l5).le h5.fr), ob_v, sP_v, sA_, sC_, zI_, zN_, heapV_bld]
  change QInv S1 Y.I [Y.y0, Y.y1] tm at hq1
  rw [hAB] at hq1
  have hne' : hlI Y.I y.h ≠ [] := by rw [hyh]; exact hne
  rw [← hyh]
  refine QDoDelMin_ok hX5.t hq1 hne' hfa1 hfe1 (h5.mapH Holds.dp7) fun M6 S' oa' oe' y' IA x IB hI hxy hb hfa' hfe' h6' ey1 ey2 hv' em en eip hst2 => ?_
  have hxI : x ∈ Y.I := by rw [hI]; simp
  obtain ⟨hx1, hx3⟩ := huniq x hxI (hxy.trans hyh) (fun w hw hwh hwc => hb w hw (hwh.trans hyh.symm) hwc)
  have h6 := h6'.mapH Holds.up7
  simp only [sA_, sC_, zI_, zN_]
  refine stF (vs := ansV 0 0 0 x.r.1 x.r.2 x.e.1 x.e.2 0) gAns (by rw [hA0]; rfl) ansV_one h6 fun F7 M7 l7 o7 h7 => ?_
  have hX7 := hX5.le l7
  rw [show x.r.1 = j.at_ from congrArg Prod.fst hx1, show x.r.2 = j.gen from congrArg Prod.snd hx1] at o7
  have hit : ∀ {M' : Mem} {e : TypeId}, Own w0 M' b5 (ansV 0 0 0 j.at_ j.gen x.e.1 x.e.2 0) e → (std PP w0).ld 33 ⟨b5, 3, none⟩ M' = some (.agg #[.int .i64 j.at_, .int .i64 j.gen]) := fun o => ldSub (vs := [.int .i64 j.at_, .int .i64 j.gen]) gRef o (sub2 rfl rfl)
  have hby := hv.jb j hjM
  simp only [D7 h7.di, hit (o7.le h7.fr), ob_v, sP_v, sA_, sC_, zI_, zN_]
  refine ⟨?_, ?_⟩
  rotate_left
  refine nwB h7 fun b8 M8' lm8 h8' => ?_
  have o8' := (h8'.mapH fun h => h.right).di
  refine ⟨D7 o8', hit (o7.le h8'.fr), ?_⟩
  refine JBy_ok (r := j.r) (x := j.r) hX7.j h8' (by simp) hfb hby fun M8 h8 => ?_
  simp only [sT_v, sA_, sC_, zI_, shB_v, zN_]
  refine stF gRef (by rfl) one2 h8 fun F9 M9 l9 o9 h9 => ?_
  rotate_left
  refine JBy_ok (r := j.r) (x := j.r) hX7.j h7 (by simp) hfb hby fun M8 h8 => ?_
  simp only [sT_v, sA_, sC_, zI_, shB_v, zN_]
  refine boxF gRef (by rfl) one2 h8 fun b8 F9 M9 l9 o9 h9 => ?_
  all_goals
   have hX9 := hX7.le l9
   simp only [lB_ gRef (o9.le h9.fr), ob_v, sA_, sC_, zI_, zN_]
   refine Gone_ok (r := j.r) (v := j.v5) hX9 (by omega) (by omega) hfb hfw (hv.jf j hjM) h9 fun M10 ob' ow' hfb' hfw' h10 => ?_
   simp only [Rep.v, sA_, sC_, zI_, zN_]
   refine nwB h10 fun b12 M12' lm12 h12' => ?_
   refine stW (vs := (Rep.mk 0 0 0 j.key j.data 0).cells) gRep6 (by rfl) (rep_one _) h12' fun M12 h12 => ?_
   simp only [lB_ gRef (o9.le h12.fr), ob_v, zI_, sA_, sC_, zN_]
   refine stPW (o := 1) gRef (by exact (by decide : 3 ≤ 6)) one2 h12 fun M13 h13 => ?_
   have hov : over (Rep.mk 0 0 0 j.key j.data 0).cells 1 [.int .i64 j.r.1, .int .i64 j.r.2] = (Rep.mk 0 j.at_ j.gen j.key j.data 0).cells := by
    have := over_mid [.int .i64 0] [.int .i64 0, .int .i64 0] [.int .i64 j.key, .int .i64 j.data, .int .i64 0] [.int .i64 j.r.1, .int .i64 j.r.2] rfl (o := 1) rfl
    simpa [Rep.cells, Jb.r] using this
   rw [hov] at h13
   simp only [lB_ (vs := (Rep.mk 0 j.at_ j.gen j.key j.data 0).cells) gRep6 h13.h.own1, ob_v, zI_, sA_, sC_, zN_]
   refine resB (vs := (Rep.mk 0 j.at_ j.gen j.key j.data 0).cells) gRep6 (by rfl) (rep_one _) ((h13.mapH fun h => h.right).mapH Holds.up7) fun M14 h14 => ?_
   obtain ⟨y0', y1', hrep1, e0, e1', k0, k1⟩ := hrep y' ey1 ey2
   rw [hrep1] at hv'
   have hxa : x.r.1.toNat = j.at_.toNat := by rw [hx1]; rfl
   obtain ⟨IA2, x2, IB2, hI2, hIA, hy1, hy2, hy3, hIB⟩ := hv1.split hd
   have hsame : IA = IA2 ∧ x = x2 ∧ IB = IB2 := nd_split2 (by rw [← hI]; exact hv.q.ind) (hI.symm.trans hI2) (hx1.trans hy1.symm)
   obtain ⟨hs1, hs2, hs3⟩ := hsame
   subst hs1 hs2 hs3
   have hou := hv1.out hd hI2 hIA hIB hv' e0 e1' k0 k1 em en (by rw [eip, hxa])
   rw [hAl] at hou
   refine hK M14 _ (DHO.of (Y' := ⟨Y.K, S', IA ++ IB, y0', y1', Y.P.give z5 j.at_.toNat, updM Y.by_ j.r none, updM Y.wh j.r none, Y.now, Y.budget, Y.last, Y.top⟩) hfa' hfe' hfb' hfw' ((((h14.uF_ l9).uF_ l7).uF_ l5).uF_ l3) (em.trans hm) e0 e1') hou ⟨rfl, rfl, rfl, fun h0 => ?_⟩
   have hh := (hst.trans hst2) h0
   rw [hIl] at hh
   exact ⟨hh.1, hh.2.1, by have := hh.2.2; show S'.α.steps ≤ Y.S.α.steps + _; omega⟩
 cases hf : firstD d.l cq with
 | none =>
  have hno := hv.first_none hq hf
  rw [← hyh] at hno
  have hdo : do22 d ⟨5, cq, ca, cg, ct, cd⟩ = (d, { why := 28 }) := by
   rw [do22_5 (goodQ hq) rfl]
   show (match firstD d.l cq with | none => _ | some y => _) = _
   rw [hf]
  refine ⟨?_, ?_⟩
  rotate_left
  refine nwB h3 fun b5 M4' lm4 h4' => ?_
  have o4' := (h4'.mapH fun h => h.right).di
  refine ⟨D2 o4', (by rw [hyh]; exact lB_ gRef (o3.le h4'.fr)), ?_⟩
  refine QDoFindNo_ok hX3.t hvq hno (h4'.mapH Holds.dp7) fun M4 S1 h4 hv1 em en eip eat een hst => ?_
  simp only [sA_, sC_, zI_, zN_]
  refine stW (vs := ansV 27 0 0 0 0 0 0 0) gAns (by rfl) ansV_one (h4.mapH Holds.up7) fun M5 h5 => ?_
  rotate_left
  refine QDoFindNo_ok hX3.t hvq hno h3 fun M4 S1 h4 hv1 em en eip eat een hst => ?_
  simp only [sA_, sC_, zI_, zN_]
  refine nwB h4 fun b5 M5' lm5 h5' => ?_
  refine stW (vs := ansV 27 0 0 0 0 0 0 0) gAns (by rfl) ansV_one h5' fun M5 h5 => ?_
  all_goals
   simp only [ld1 W.c25 h5.h.own1 (o := 0) rfl, ob_v, zI_]
   rw [bs_bne, if_neg (by decide)]
   rw [← hAB] at hv1
   exact none_ok F3 M5 b5 S1 _ hdo (Mem.le_refl _) (hv.setS hv1 em en eip) (fun h0 => by have := hst h0; omega) (by rw [eat]; exact hfa) (by rw [een]; exact hfe) em h5
 | some x0 =>
  obtain ⟨j, A, B, hd, hAl, hjq, hje, hne, huniq⟩ := hv.first hq hf
  rw [← hyh] at hne
  refine ⟨?_, ?_⟩
  rotate_left
  refine nwB h3 fun b5 M4' lm4 h4' => ?_
  have o4' := (h4'.mapH fun h => h.right).di
  refine ⟨D2 o4', (by rw [hyh]; exact lB_ gRef (o3.le h4'.fr)), ?_⟩
  refine QDoFind_ok hX3.t hvq hne hfa hfe (h4'.mapH Holds.dp7) fun M4 S1 x hxI hxy hb hfa1 hfe1 h4 hv1 em en eip hst => ?_
  simp only [sA_, sC_, zI_, zN_]
  refine stW (vs := ansV 0 0 0 x.r.1 x.r.2 x.e.1 x.e.2 0) gAns (by rfl) ansV_one (h4.mapH Holds.up7) fun M5 h5 => ?_
  rotate_left
  refine QDoFind_ok hX3.t hvq hne hfa hfe h3 fun M4 S1 x hxI hxy hb hfa1 hfe1 h4 hv1 em en eip hst => ?_
  simp only [sA_, sC_, zI_, zN_]
  refine nwB h4 fun b5 M5' lm5 h5' => ?_
  refine stW (vs := ansV 0 0 0 x.r.1 x.r.2 x.e.1 x.e.2 0) gAns (by rfl) ansV_one h5' fun M5 h5 => ?_
  all_goals
   obtain ⟨hx1, hx3⟩ := huniq x hxI (hxy.trans hyh) (fun w hw hwh hwc => hb w hw (hwh.trans hyh.symm) hwc)
   rw [← hAB] at hv1
   rw [hIl] at hst
   have hkey : x.e.1 = x0.2.1 := by rw [hx3, hje]
   have o5 := (h5.mapH fun h => h.right).di
   have c5 := (h5.mapH fun h => h.right).ck
   simp only [ld1 W.c25 h5.h.own1 (o := 0) rfl, ld1 W.c2 h5.h.own1 (o := 5) rfl, D9 o5, ob_v, zI_, sP_v]
   rw [bs_bne, if_pos rfl]
   refine CDue_ok c5 ?_
   rw [shB_v, bs_not, bD_]
   by_cases hdue : d.now < x0.2.1
   ·rw [if_neg (by have := hv.now; omega)]
    refine none_ok F3 M5 b5 S1 _ ?_ (Mem.le_refl _) (hv.setS hv1 em en eip) hst hfa1 hfe1 em h5
    rw [do22_5 (goodQ hq) rfl]
    show (match firstD d.l cq with | none => _ | some y => _) = _
    rw [hf]
    simp only
    rw [if_pos hdue]
   ·rw [if_pos (by have := hv.now; omega)]
    exact fire_ok F3 M5 b5 S1 _ x0 (by rfl) hf hdue (Mem.le_refl _) (hv.setS hv1 em en eip) hst hfa1 hfe1 em h5
end
end Go.Proofs.YtodobkbnmjgkdaaGreat.HL
namespace Go.Proofs.YtodobkbnmjgkdaaGreat.HL
open Go.RowKit (Below)
open Go.Proofs
section
variable {w0 : World} {F M : Mem} {R : VP} {os : Obs} {X : DLoc} {Y : DSt} {S : QS} {P : PS V5} {Q : Asn} {now K most b l tp : Int} {r0 r1 : RefK} {oa oe ob ow : Obj} {d : D22} {tm : Int} {c : Cmd} {by_ : RefK → Option RefK} {wh : RefK → Option Int}
theorem DStp.mono {Y' : DSt} {k j : Int} (h : DStp Y Y' k) (hk : k ≤ j) : DStp Y Y' j := ⟨h.b, h.l, h.t, fun h0 => by have := h.s h0; omega⟩
theorem CNow_ok (o : Own w0 M X.bc [.int .i64 now] tClk) (h : R (.int .i64 now) M) : C PP w0 Id.clock_Clock_Now #[.pointer (some ⟨X.bc, 0, none⟩)] R M := by
 apply clock_Clock_Now.go
 unfold clock_Clock_Now.T nfz
 simp only [nc_v, add_eq, Nat.zero_add, ld1 W.c2 o (o := 0) rfl, ob_v, zI_]
 exact h
theorem CGo_ok {x : Int} (hn : In64 now) (hx : In64 x) (h : HO w0 F M (DO X oa oe ob ow os) (DB X S P now K most r0 r1 b l tp Q))
  (h0 : x < 0 → R (.int .i64 1) M) (h1 : 0 ≤ x → ∀ M', HO w0 F M' (DO X oa oe ob ow os) (DB X S P (addc now x) K most r0 r1 b l tp Q) → R (.int .i64 0) M') :
  C PP w0 Id.clock_Clock_Go #[.pointer (some ⟨X.bc, 0, none⟩), .int .i64 x] R M := by
 apply clock_Clock_Go.go
 unfold clock_Clock_Go.T nfz
 rw [bD_]
 split
 ·exact h0 (by assumption)
 ·simp only [nc_v, add_eq, Nat.zero_add, ld1 W.c2 h.ck (o := 0) rfl, ob_v, zI_]
  refine order_Add_ok hn hx ?_
  simp only [zI_]
  have h2 : HO w0 F M (DO X oa oe ob ow os) (star (row1 X.bc [.int .i64 now] tClk) (star (PsH X.bh S.hp) (star (PsT X.bi S.ip) (star (row1 X.q (qV X.a X.t X.me S.most S.next) tQs) (star (arenaA X.a S.α) (star (PsJ X.pj P) (star (row1 X.d (dV X K most r0 r1 b l tp) tDi) Q))))))) :=
   h.mapH fun h => (h.inn fun _ _ h => (h.inn fun _ _ h => (h.inn fun _ _ h => (h.inn fun _ _ h => h.rot).rot).rot).rot).rot
  refine st1W (o := 0) W.c2 (by simp) rfl rfl h2 fun M3 h3 => ?_
  refine h1 (by omega) M3 (h3.mapH fun h => h.rot.inn fun _ _ h => h.rot.inn fun _ _ h => h.rot.inn fun _ _ h => h.rot.inn fun _ _ h => h.rot)
theorem finRep {F1 : Mem} {b3 : Nat} {z : List Value} {rp : Rep} (l1 : Mem.le F F1) (hz : z.length = 6) (hD : DHO w0 F1 M os X Y (star (row1 b3 z tRep) Q)) {K : VP} (hK : ∀ M', DHO w0 F M' os X Y Q → K rp.v M') :
  (std PP w0).st tRep ⟨b3, 0, none⟩ (.agg #[.int .i64 rp.why, .int .i64 rp.at_, .int .i64 rp.gen, .int .i64 rp.time, .int .i64 rp.data, .int .i64 rp.n]) (fun M1 => HL.ob ((std PP w0).rdv tRep (.pointer (some ⟨b3, 0, none⟩)) M1) fun v => K v M1) M := by
 obtain ⟨oa, oe, ob, ow, hfa, hfe, hfb, hfw, h⟩ := hD
 refine resB (vs := rp.cells) gRep6 (by rw [hz]; rfl) (rep_one _) (h.mapH Holds.up7) fun M2 h2 => ?_
 exact hK M2 ⟨oa, oe, ob, ow, hfa, hfe, hfb, hfw, h2.uF_ l1⟩
theorem Refused_D {why : Int} (hD : DHO w0 F M os X Y Q) (hK : ∀ M', DHO w0 F M' os X Y Q → R (Rep.v { why := why }) M') : C PP w0 Id.dispatch_refused #[.int .i64 why] R M := by
 obtain ⟨oa, oe, ob, ow, hfa, hfe, hfb, hfw, h⟩ := hD
 exact Refused_ok h fun M' h' => hK M' ⟨oa, oe, ob, ow, hfa, hfe, hfb, hfw, h'⟩
theorem DHO.fr (hD : DHO w0 F M os X Y Q) : Mem.le F M := by
 obtain ⟨oa, oe, ob, ow, hfa, hfe, hfb, hfw, h⟩ := hD
 exact h.fr
def stpMax (n : Nat) : Int := 2 * limH (n + 1) + 10
theorem One_ok (hX : DFix w0 F X) (hD : DHO w0 F M os X Y Q) (hv : DInv Y d tm) (htm : tm ≤ 900000) (hct : In64 c.time)
  (hK : ∀ M' Y', DHO w0 F M' os X Y' Q → DInv Y' (do22 d c).1 (tm + 1) → DStp Y Y' (stpMax d.l.length) → R (do22 d c).2.v M') :
  C PP w0 Id.dD_one #[.pointer (some ⟨X.d, 0, none⟩), c.v] R M := by
 have hl1 : limH d.l.length ≤ limH (d.l.length + 1) := limH_mono (by omega)
 have hl0 : 0 ≤ limH d.l.length := by unfold limH; omega
 have hsm : ∀ k : Int, k ≤ 2 * limH (d.l.length + 1) + 10 → k ≤ stpMax d.l.length := fun k hk => hk
 apply dD_one.go
 intro pts H
 unfold dD_one.T nfz
 have hD0 := hD
 obtain ⟨oa, oe, ob, ow, hfa, hfe, hfb, hfw, h⟩ := hD0
 refine nwA h fun b1 F1 M1 l1 lm1 o1 h1 => ?_
 have hX1 := hX.le l1
 refine nwB h1 fun b3 M2 lm2 h2' => ?_
 have h2 := h2'.mapH Holds.dp7
 have hD2 : DHO w0 F1 M2 os X Y (star (row1 b3 [.int .i64 0, .int .i64 0, .int .i64 0, .int .i64 0, .int .i64 0, .int .i64 0] tRep) Q) := ⟨oa, oe, ob, ow, hfa, hfe, hfb, hfw, h2⟩
 have hc0 : ∀ {M' : Mem}, Mem.le F1 M' → (std PP w0).ld 3 ⟨b1, 0, none⟩ M' = some (.int .i64 c.kind) := fun hl => ld1 W.c3 (o1.le hl) rfl
 have hc1 : ∀ {M' : Mem}, Mem.le F1 M' → (std PP w0).ld 3 ⟨b1, 1, none⟩ M' = some (.int .i64 c.queue) := fun hl => ld1 W.c3 (o1.le hl) rfl
 have hc2 : ∀ {M' : Mem}, Mem.le F1 M' → (std PP w0).ld 33 ⟨b1, 2, none⟩ M' = some (.agg #[.int .i64 c.at_, .int .i64 c.gen]) := fun hl => ldSub (vs := [.int .i64 c.at_, .int .i64 c.gen]) gRef (o1.le hl) (sub2 rfl rfl)
 have hc4 : ∀ {M' : Mem}, Mem.le F1 M' → (std PP w0).ld 2 ⟨b1, 4, none⟩ M' = some (.int .i64 c.time) := fun hl => ld1 W.c2 (o1.le hl) rfl
 have hcc : ∀ {M' : Mem}, Mem.le F1 M' → (std PP w0).ld tCmd ⟨b1, 0, none⟩ M' = some c.v := fun hl => lB_ (vs := c.cells) W.g68 (o1.le hl)
 have key2 : ∀ M3, ¬ badQ c → DHO w0 F1 M3 os X Y (star (row1 b3 [.int .i64 0, .int .i64 0, .int .i64 0, .int .i64 0, .int .i64 0, .int .i64 0] tRep) Q) → dD_one.J2 pts (some ⟨X.d, 0, none⟩) ⟨b1, 0, none⟩ ⟨b3, 0, none⟩ M3 := by
  intro M3 hnb hD3
  have fin : ∀ (M5 : Mem) (Y' : DSt) (k : Int), DHO w0 F1 M5 os X Y' (star (row1 b3 [.int .i64 0, .int .i64 0, .int .i64 0, .int .i64 0, .int .i64 0, .int .i64 0] tRep) Q) → DInv Y' (do22 d c).1 (tm + 1) → DStp Y Y' k → k ≤ 2 * limH (d.l.length + 1) + 10 →
    (std PP w0).st tRep ⟨b3, 0, none⟩ (.agg #[.int .i64 (do22 d c).2.why, .int .i64 (do22 d c).2.at_, .int .i64 (do22 d c).2.gen, .int .i64 (do22 d c).2.time, .int .i64 (do22 d c).2.data, .int .i64 (do22 d c).2.n]) (fun M1 => HL.ob ((std PP w0).rdv tRep (.pointer (some ⟨b3, 0, none⟩)) M1) fun v => R v M1) M5 :=
   fun M5 Y' k hD5 hv5 hst hk => finRep l1 (by rfl) hD5 fun M' h' => hK M' Y' h' hv5 (hst.mono hk)
  refine Eq.mpr (H.J2 ..) ?_
  unfold dD_one.J2.T nfz
  simp (config := { maxSteps := 10000000 }) only [nc_v, add_eq, Nat.zero_add, hc0 hD3.fr, ob_v, zI_]
  rw [bQ_]
  split
  ·rename_i hk
   have hq : c.queue = 0 ∨ c.queue = 1 := by unfold badQ at hnb; omega
   simp only [hcc hD3.fr, Cmd.v, ob_v, sA_, sC_, zI_, zN_]
   refine Schedule_ok hX1 hD3 hv htm hk hq fun M5 Y' hD5 hv5 hst => ?_
   simp only [Rep.v, sA_, sC_, zI_, zN_]
   exact fin M5 Y' _ hD5 hv5 hst (by omega)
  rename_i hk1
  rw [bQ_]
  split
  ·rename_i hk
   simp only [hcc hD3.fr, Cmd.v, ob_v, sA_, sC_, zI_, zN_]
   refine Sooner_ok hX1 hD3 hv htm hk fun M5 Y' hD5 hv5 hst => ?_
   simp only [Rep.v, sA_, sC_, zI_, zN_]
   exact fin M5 Y' _ hD5 (hv5.later (by omega)) hst (by omega)
  rename_i hk2
  rw [bQ_]
  split
  ·rename_i hk
   simp only [hc2 hD3.fr, ob_v, sA_, sC_, zI_, zN_]
   refine Cancel_ok hX1 hD3 hv htm hk fun M5 Y' hD5 hv5 hst => ?_
   simp only [Rep.v, sA_, sC_, zI_, zN_]
   exact fin M5 Y' _ hD5 hv5 hst (by omega)
  rename_i hk3
  rw [bQ_]
  split
  ·rename_i hk
   rw [do22_4 hk] at fin
   obtain ⟨oa3, oe3, ob3, ow3, gfa, gfe, gfb, gfw, g3⟩ := hD3
   simp only [D9 g3.di, hc4 g3.fr, ob_v, sP_v, zI_]
   have hn64 : In64 Y.now := by rw [hv.now]; exact hv.nowI
   refine CGo_ok hn64 hct g3 (fun hneg => ?_) fun hpos M4 g4 => ?_
   ·rw [if_pos hneg] at fin
    rw [zI_, bs_bne, if_neg (by decide)]
    refine Refused_D (Y := Y) ⟨oa3, oe3, ob3, ow3, gfa, gfe, gfb, gfw, g3⟩ fun M5 hD5 => ?_
    simp only [Rep.v, sA_, sC_, zI_, zN_]
    exact fin M5 Y 0 hD5 (hv.later (by omega)) (DStp.rfl' (Int.le_refl _)) (by omega)
   ·rw [if_neg (by omega)] at fin
    rw [zI_, bs_bne, if_pos rfl]
    simp only [D9 g4.di, ob_v, sP_v]
    refine CNow_ok g4.ck ?_
    rw [hv.now] at g4 ⊢
    simp only [zI_, bR2, ob_v, sA_, sC_, zN_]
    exact fin M4 { Y with now := addc d.now c.time } 0 ⟨oa3, oe3, ob3, ow3, gfa, gfe, gfb, gfw, g4⟩ ((hv.go addc_in).later (by omega)) ⟨rfl, rfl, rfl, fun h0 => by
     show Y.S.α.steps ≤ _ ∧ Y.S.α.steps ≤ Y.S.α.steps ∧ Y.S.α.steps ≤ Y.S.α.steps + 0; omega⟩ (by omega)
  rename_i hk4
  rw [bQ_]
  split
  ·rename_i hk
   have hq : c.queue = 0 ∨ c.queue = 1 := by unfold badQ at hnb; omega
   simp only [hc1 hD3.fr, ob_v, zI_]
   refine Fire_ok hX1 hD3 hv htm hk hq fun M5 Y' hD5 hv5 hst => ?_
   simp only [Rep.v, sA_, sC_, zI_, zN_]
   exact fin M5 Y' _ hD5 hv5 hst (by omega)
  rename_i hk5
  rw [bQ_]
  split
  ·rename_i hk
   have hq : c.queue = 0 ∨ c.queue = 1 := by unfold badQ at hnb; omega
   simp only [hc1 hD3.fr, ob_v, zI_]
   rw [bQ_]
   split
   ·rename_i hq0
    rw [do22_6 hnb hk, if_pos hq0] at fin
    refine Refused_D hD3 fun M5 hD5 => ?_
    simp only [Rep.v, sA_, sC_, zI_, zN_]
    exact fin M5 Y 0 hD5 (hv.later (by omega)) (DStp.rfl' (Int.le_refl _)) (by omega)
   ·rename_i hq0
    refine Merge_ok hX1 hD3 hv htm hk (by omega) fun M5 Y' hD5 hv5 hst => ?_
    simp only [Rep.v, sA_, sC_, zI_, zN_]
    exact fin M5 Y' _ hD5 hv5 hst (by omega)
  rename_i hk6
  rw [bQ_]
  split
  ·rename_i hk
   rw [do22_7 hnb hk] at fin
   obtain ⟨oa3, oe3, ob3, ow3, gfa, gfe, gfb, gfw, g3⟩ := hD3
   obtain ⟨e1, e2, e3, e4, e5⟩ := hv.plens
   simp only [D7 g3.di, hc1 g3.fr, ob_v, zI_, sP_v]
   refine JCount_ok hX1.j g3.toJ (by omega) hv.pg1 fun M4 g4' => ?_
   have g4 := g4'.ofJ
   rw [hv.cnt]
   simp only [zI_, bR4, ob_v, sA_, sC_, zN_]
   exact fin M4 Y 0 ⟨oa3, oe3, ob3, ow3, gfa, gfe, gfb, gfw, g4⟩ (hv.later (by omega)) (DStp.rfl' (Int.le_refl _)) (by omega)
  ·rw [do22_8 (by omega)] at fin
   refine Refused_D hD3 fun M5 hD5 => ?_
   simp only [Rep.v, sA_, sC_, zI_, zN_]
   exact fin M5 Y 0 hD5 (hv.later (by omega)) (DStp.rfl' (Int.le_refl _)) (by omega)
 have key1 : ∀ M3 (rt : Bool), (rt = true ↔ (0 ≤ c.queue ∧ c.queue < 2)) → DHO w0 F1 M3 os X Y (star (row1 b3 [.int .i64 0, .int .i64 0, .int .i64 0, .int .i64 0, .int .i64 0, .int .i64 0] tRep) Q) → dD_one.J1 pts (some ⟨X.d, 0, none⟩) ⟨b1, 0, none⟩ ⟨b3, 0, none⟩ rt M3 := by
  intro M3 rt hrt hD3
  have bad : badQ c → C PP w0 Id.dispatch_refused #[.int .i64 1] (fun v M => shA v fun n => shCons n fun u r => shI .i64 u fun n => shCons r fun u r => shI .i64 u fun n_1 => shCons r fun u r => shI .i64 u fun n_2 => shCons r fun u r => shI .i64 u fun n_3 => shCons r fun u r => shI .i64 u fun n_4 => shCons r fun u r => shI .i64 u fun n_5 => shNil r ((std PP w0).st tRep ⟨b3, 0, none⟩ (.agg #[.int .i64 n, .int .i64 n_1, .int .i64 n_2, .int .i64 n_3, .int .i64 n_4, .int .i64 n_5]) (fun M => HL.ob ((std PP w0).rdv tRep (.pointer (some ⟨b3, 0, none⟩)) M) fun v => R v M) M)) M3 := by
   intro hb
   rw [do22_bad hb] at hK
   refine Refused_D hD3 fun M5 hD5 => ?_
   simp only [Rep.v, sA_, sC_, zI_, zN_]
   exact finRep (rp := { why := 1 }) l1 (by rfl) hD5 fun M' h' => hK M' Y h' (hv.later (by omega)) (DStp.rfl' (by unfold stpMax; omega))
  refine Eq.mpr (H.J1 ..) ?_
  unfold dD_one.J1.T nfz
  simp only [hc0 hD3.fr, ob_v, zI_, bQ_, bs_not]
  cases hr : rt with
  | true =>
   have hnb : ¬ badQ c := by have := hrt.1 hr; unfold badQ; omega
   simp only [bs_true, ite_self]
   exact key2 M3 hnb hD3
  | false =>
   have hq : c.queue < 0 ∨ 2 ≤ c.queue := by
    have : ¬ (0 ≤ c.queue ∧ c.queue < 2) := fun h => by rw [hrt.2 h] at hr; cases hr
    omega
   simp only [bF_]
   by_cases h1 : c.kind = 1
   ·rw [if_pos h1, if_pos h1]; exact bad ⟨.inl h1, hq⟩
   ·rw [if_neg h1]
    by_cases h5 : c.kind = 5
    ·rw [if_pos h5, if_pos h5]; exact bad ⟨.inr (.inl h5), hq⟩
    ·rw [if_neg h5]
     by_cases h6 : c.kind = 6
     ·rw [if_pos h6, if_pos h6]; exact bad ⟨.inr (.inr (.inl h6)), hq⟩
     ·rw [if_neg h6]
      by_cases h7 : c.kind = 7
      ·rw [if_pos h7]; exact bad ⟨.inr (.inr (.inr h7)), hq⟩
      ·rw [if_neg h7]; exact key2 M3 (by unfold badQ; omega) hD3
 simp only [add_eq, Nat.zero_add, hc1 hD2.fr, ob_v, zI_]
 rw [bD_]
 split
 ·exact key1 M2 _ (by rw [decide_eq_true_eq]; omega) hD2
 ·exact key1 M2 _ (by constructor; (intro h; cases h); omega) hD2
end
end Go.Proofs.YtodobkbnmjgkdaaGreat.HL
namespace Go.Proofs.YtodobkbnmjgkdaaGreat.HL
open Go.RowKit (Below)
open Go.Proofs
structure DBud (Y : DSt) : Prop where
 b : Y.budget = 2000 + 1600 * (bl (Y.S.most.toNat + 1) : Int)
 l : Y.last ≤ Y.budget
 t0 : 0 ≤ Y.top
 t : Y.top ≤ Y.budget
section
variable {w0 : World} {F M : Mem} {R : VP} {os : Obs} {X : DLoc} {Y : DSt} {S : QS} {P : PS V5} {Q : Asn} {now K most b l tp : Int} {r0 r1 : RefK} {oa oe ob ow : Obj} {d : D22} {tm : Int} {c : Cmd} {by_ : RefK → Option RefK} {wh : RefK → Option Int}
theorem D10 (o : Own w0 M X.d (dV X K most r0 r1 b l tp) tDi) : (std PP w0).ld 2 ⟨X.d, 10, none⟩ M = some (.int .i64 b) := ld1 W.c2 o rfl
theorem D11 (o : Own w0 M X.d (dV X K most r0 r1 b l tp) tDi) : (std PP w0).ld 2 ⟨X.d, 11, none⟩ M = some (.int .i64 l) := ld1 W.c2 o rfl
theorem D12 (o : Own w0 M X.d (dV X K most r0 r1 b l tp) tDi) : (std PP w0).ld 2 ⟨X.d, 12, none⟩ M = some (.int .i64 tp) := ld1 W.c2 o rfl
theorem st11 {v : Int} (h : HO w0 F M (DO X oa oe ob ow os) (DB X S P now K most r0 r1 b l tp Q)) {K' : Mem → Prop} (hK : ∀ M', HO w0 F M' (DO X oa oe ob ow os) (DB X S P now K most r0 r1 b v tp Q) → K' M') : (std PP w0).st 2 ⟨X.d, 11, none⟩ (.int .i64 v) (fun M' => K' M') M :=
 st1W (o := 11) W.c2 (by simp) rfl rfl (h.mapH Holds.sev) fun M' h' => hK M' (h'.mapH Holds.bck)
theorem st12 {v : Int} (h : HO w0 F M (DO X oa oe ob ow os) (DB X S P now K most r0 r1 b l tp Q)) {K' : Mem → Prop} (hK : ∀ M', HO w0 F M' (DO X oa oe ob ow os) (DB X S P now K most r0 r1 b l v Q) → K' M') : (std PP w0).st 2 ⟨X.d, 12, none⟩ (.int .i64 v) (fun M' => K' M') M :=
 st1W (o := 12) W.c2 (by simp) rfl rfl (h.mapH Holds.sev) fun M' h' => hK M' (h'.mapH Holds.bck)
theorem do22_most {c : Cmd} : (do22 d c).1.most = d.most := by
 have ho : ∀ k, (d.out k).most = d.most := fun k => by unfold D22.out; split <;> rfl
 by_cases hb : badQ c
 ·rw [do22_bad hb]
 ·rcases (by omega : c.kind = 1 ∨ (c.kind = 2 ∨ c.kind = 3) ∨ c.kind = 4 ∨ c.kind = 5 ∨ c.kind = 6 ∨ c.kind = 7 ∨ (c.kind < 1 ∨ 7 < c.kind)) with h | h | h | h | h | h | h
  ·rw [do22_1 hb h]; split <;> rfl
  ·rw [do22_23 h]
   split
   ·rfl
   ·split
    ·rfl
    ·split
     ·rfl
     ·split
      ·exact ho _
      ·split <;> rfl
  ·rw [do22_4 h]; split <;> rfl
  ·rw [do22_5 hb h]
   split
   ·rfl
   ·split
    ·rfl
    ·split
     ·rfl
     ·exact ho _
  ·rw [do22_6 hb h]; split <;> rfl
  ·rw [do22_7 hb h]
  ·rw [do22_8 h]
theorem DDo_ok (hX : DFix w0 F X) (hD : DHO w0 F M os X Y Q) (hv : DInv Y d tm) (hb : DBud Y) (htm : tm ≤ 900000) (hct : In64 c.time)
  (hK : ∀ M' Y', DHO w0 F M' os X Y' Q → DInv Y' (do22 d c).1 (tm + 1) → DBud Y' → Y'.budget = Y.budget → R (do22 d c).2.v M') :
  C PP w0 Id.dD_Do #[.pointer (some ⟨X.d, 0, none⟩), c.v] R M := by
 obtain ⟨oa, oe, ob, ow, hfa, hfe, hfb, hfw, h⟩ := hD
 obtain ⟨e1, e2, e3, e4, e5⟩ := hv.plens
 have hst0 := hv.q.inv.steps
 apply dD_Do.go
 unfold dD_Do.T nfz
 refine nwA h fun b1 F1 M1 l1 lm1 o1 h1 => ?_
 have hX1 := hX.le l1
 refine nwB h1 fun b3 M2 lm2 h2' => ?_
 have h2 := h2'.mapH Holds.dp7
 simp (config := { maxSteps := 10000000 }) only [nc_v, add_eq, Nat.zero_add, D2 h2.di, ob_v, sP_v]
 refine QSteps_ok h2 ?_
 have hcc : ∀ {M' : Mem}, Mem.le F1 M' → (std PP w0).ld tCmd ⟨b1, 0, none⟩ M' = some c.v := fun hl => lB_ (vs := c.cells) W.g68 (o1.le hl)
 simp only [zI_, hcc h2.fr, Cmd.v, ob_v, sA_, sC_, zN_]
 refine One_ok hX1 ⟨oa, oe, ob, ow, hfa, hfe, hfb, hfw, h2⟩ hv htm hct fun M3 Y' hD3 hv3 hstp => ?_
 obtain ⟨oa', oe', ob', ow', gfa, gfe, gfb, gfw, g3⟩ := hD3
 simp only [Rep.v, sA_, sC_, zI_, zN_]
 refine boxF (vs := (do22 d c).2.cells) gRep6 (by rfl) (rep_one _) g3 fun b4 F4 M4 l4 o4 g4 => ?_
 simp only [D2 g4.di, ob_v, sP_v]
 refine QSteps_ok g4 ?_
 have hs := hstp.s ⟨hst0.1, hst0.2.2⟩
 have hm' : Y'.S.most = Y.S.most := by
  have a1 := hv3.most
  have a2 := hv.most
  have a3 : (do22 d c).1.most = d.most := do22_most
  omega
 have hbu : stpMax d.l.length ≤ Y.budget := by
  rw [hb.b]
  unfold stpMax limH
  have hb1 : bl (d.l.length + 1) ≤ bl (Y.S.most.toNat + 1) := bl_mono (by have := hv.most; omega)
  omega
 have hw : w64 (Y'.S.α.steps - Y.S.α.steps) = Y'.S.α.steps - Y.S.α.steps := w64_in (by omega)
 simp only [zI_, hw]
 refine st11 g4 fun M5 g5 => ?_
 simp only [D12 g5.di, D11 g5.di, ob_v, zI_]
 refine st12 g5 fun M6 g6 => ?_
 simp only [D11 g6.di, D10 g6.di, ob_v, zI_]
 rw [bD_, if_neg (by have := hstp.b; omega)]
 simp only [lB_ (vs := (do22 d c).2.cells) gRep6 (o4.le g6.fr), ob_v, sA_, sC_, zI_, zN_]
 refine resB (vs := (do22 d c).2.cells) gRep6 (by rfl) (rep_one _) (g6.mapH Holds.up7) fun M7 g7 => ?_
 have htop := hstp.t
 have hbb := hstp.b
 refine hK M7 { Y' with last := Y'.S.α.steps - Y.S.α.steps, top := if Y'.S.α.steps - Y.S.α.steps > Y'.top then Y'.S.α.steps - Y.S.α.steps else Y'.top } ⟨oa', oe', ob', ow', gfa, gfe, gfb, gfw, (g7.uF_ l4).uF_ l1⟩ ⟨hv3.q, hv3.K3, hv3.k0, hv3.k1, hv3.pk, hv3.ipk, hv3.most, hv3.now, hv3.nowI, hv3.nx, hv3.par, hv3.qr, hv3.jf, hv3.jb, hv3.jb2, hv3.jw, hv3.lv, hv3.sn, hv3.sl⟩ ⟨?_, ?_, ?_, ?_⟩ hstp.b
 ·show Y'.budget = 2000 + 1600 * (bl (Y'.S.most.toNat + 1) : Int)
  rw [hbb, hb.b, hm']
 ·show Y'.S.α.steps - Y.S.α.steps ≤ Y'.budget
  omega
 ·show 0 ≤ if Y'.S.α.steps - Y.S.α.steps > Y'.top then Y'.S.α.steps - Y.S.α.steps else Y'.top
  have := hb.t0
  split <;> omega
 ·show (if Y'.S.α.steps - Y.S.α.steps > Y'.top then Y'.S.α.steps - Y.S.α.steps else Y'.top) ≤ Y'.budget
  have := hb.t
  split <;> omega
theorem HO.beside {A B : Asn} {M' : Mem} (h : HO w0 F M os A) (h2 : Holds w0 M M' B) : HO w0 F M' os (star B A) :=
 ⟨h.nd, fun x hx => ⟨(h.at_ x hx).1, (h.at_ x hx).2.1, h2.fr _ _ (h.at_ x hx).2.2⟩, h.h.beside h2⟩
theorem SNew_ok {A : Asn} {n : Int} (h : HO w0 F M os A) (h1 : 1 ≤ n) (h2 : n ≤ 300)
  (hK : ∀ F' M' t bh bi ma oa, Mem.le F F' → Own w0 F' t (tbV bh bi ma) tTb → MapF (Value.int .i64) refK (fun _ => none) oa → HO w0 F' M' ((ma, oa) :: os) (star (PsH bh ⟨64, [], []⟩) (star (PsT bi ⟨n, [], []⟩) A)) → R (.pointer (some ⟨t, 0, none⟩)) M') :
  C PP w0 Id.slots_New #[.int .i64 n] R M := by
 apply slots_New.go
 unfold slots_New.T nfz
 obtain ⟨F1, hB, l1, back⟩ := h.foc0
 refine NewH_ok hB (by omega) (by omega) fun M1 bh h1' => ?_
 have g1 := back M1 _ h1'
 rw [sP_v, show (if (if 16384 < n then (16384 : Int) else n) > 1 then (if 16384 < n then (16384 : Int) else n) else 1) = n from by rw [if_neg (by omega : ¬ 16384 < n)]; split <;> omega]
 obtain ⟨F2, hB2, l2, back2⟩ := g1.foc0
 refine NewT_ok hB2 (by omega) (by omega) fun M2 bi h2' => ?_
 have g2 := back2 M2 _ h2'
 rw [sP_v]
 refine mkmF (kf := Value.int .i64) (vf := refK) fun ma oa hm hw hf => ?_
 have g3 := g2.new hw hm (o := oa)
 generalize Mem.set M2 ma _ = M3 at g3 ⊢
 have hbld : (std PP w0).bld 156 [(0, .pointer (some ⟨bh, 0, none⟩)), (1, .pointer (some ⟨bi, 0, none⟩)), (2, .map (some ma))] = some (.agg #[.pointer (some ⟨bh, 0, none⟩), .pointer (some ⟨bi, 0, none⟩), .map (some ma)]) := by kernel_rfl
 simp only [hbld, ob_v, sA_, sC_, sP_v, zN_]
 refine nwA g3 fun t F4 M4 l4 lm4 o4 g4 => ?_
 exact hK F4 M4 t bh bi ma oa l4 o4 hf (g4.mapH Holds.rot)
theorem QNew_ok {A : Asn} {n : Nat} (h : HO w0 F M os A) (h1 : 1 ≤ n) (h2 : n ≤ 300)
  (hK : ∀ F' M' q a t bh bi ma me oa oe, Mem.le F F' → Own w0 F' t (tbV bh bi ma) tTb → MapF (Value.int .i64) refK (fun _ => none) oa → MapF refK entK (fun _ => none) oe →
   HO w0 F' M' ((ma, oa) :: (me, oe) :: os) (QA q a t bh bi me ⟨n, 0, AS.new (2 * n), ⟨64, [], []⟩, ⟨n, [], []⟩, fun _ => none, fun _ => none⟩ A) → R (.tuple #[.pointer (some ⟨q, 0, none⟩), .int .i64 0]) M') :
  C PP w0 Id.pq_New #[.int .i64 n] R M := by
 apply pq_New.go
 intro pts H
 unfold pq_New.T nfz
 (rw [bD_, if_neg (by omega), bD_, if_neg (by omega)]; refine Eq.mpr (H.J1 ..) ?_)
 unfold pq_New.J1.T nfz
 rw [show w64 (2 * (n : Int)) = ((2 * n : Nat) : Int) from by rw [w64_in (by omega)]; omega]
 refine New_ok fun M1 a hA => ?_
 rw [show (if (if 65536 < ((2 * n : Nat) : Int) then (65536 : Int) else ((2 * n : Nat) : Int)) > 0 then (if 65536 < ((2 * n : Nat) : Int) then (65536 : Int) else ((2 * n : Nat) : Int)) else 0).toNat = 2 * n from by
  rw [if_neg (by omega : ¬ 65536 < ((2 * n : Nat) : Int))]; split <;> omega] at hA
 have g1 := h.beside hA
 rw [sP_v]
 refine SNew_ok g1 (by omega) (by omega) fun F2 M2 t bh bi ma oa l2 o2 hfa g2 => ?_
 rw [sP_v]
 refine mkmF (kf := refK) (vf := entK) fun me oe hm hw hf => ?_
 have g3 := g2.new hw hm (o := oe)
 generalize Mem.set M2 me _ = M3 at g3 ⊢
 have hbld : (std PP w0).bld tQs [(0, .int .i64 n), (1, .pointer (some ⟨a, 0, none⟩)), (2, .pointer (some ⟨t, 0, none⟩)), (3, .map (some me))] = some (.agg #[.int .i64 n, .pointer (some ⟨a, 0, none⟩), .pointer (some ⟨t, 0, none⟩), .map (some me), .int .i64 0]) := by kernel_rfl
 simp only [hbld, ob_v, sA_, sC_, sP_v, zI_, zN_]
 refine nwB g3 fun q M4 lm4 g4 => ?_
 refine hK F2 M4 q a t bh bi ma me oa oe l2 o2 hfa hf ((g4.mapH fun h => h.rot.inn fun _ _ h => h.rot).perm (List.Perm.swap _ _ _))
end
end Go.Proofs.YtodobkbnmjgkdaaGreat.HL
namespace Go.Proofs.YtodobkbnmjgkdaaGreat.HL
open Go.RowKit (Below)
open Go.Proofs
section
variable {w0 : World} {F M : Mem}
theorem Holds.dp5 {X A B C D E Q : Asn} (h : Holds w0 F M (star X (star A (star B (star C (star D (star E Q))))))) : Holds w0 F M (star A (star B (star C (star D (star E (star X Q)))))) :=
 h.rot.inn fun _ _ h => h.rot.inn fun _ _ h => h.rot.inn fun _ _ h => h.rot.inn fun _ _ h => h.rot
theorem Holds.dp6 {X A B C D E G Q : Asn} (h : Holds w0 F M (star X (star A (star B (star C (star D (star E (star G Q)))))))) : Holds w0 F M (star A (star B (star C (star D (star E (star G (star X Q))))))) :=
 h.rot.inn fun _ _ h => h.rot.inn fun _ _ h => h.rot.inn fun _ _ h => h.rot.inn fun _ _ h => h.rot.inn fun _ _ h => h.rot
end
section
variable {w0 : World} {F M : Mem} {R : VP} {os : Obs} {A : Asn}
theorem JNew_ok {n : Int} (h : HO w0 F M os A) (h1 : 1 ≤ n) (h2 : n ≤ 300)
  (hK : ∀ F' M' jt pj mb ob, Mem.le F F' → Own w0 F' jt (jtV pj mb) tJt → MapF refK refK (fun _ => none) ob → HO w0 F' M' ((mb, ob) :: os) (star (PsJ pj ⟨n, [], []⟩) A) → R (.pointer (some ⟨jt, 0, none⟩)) M') :
  C PP w0 Id.jobs_New #[.int .i64 n] R M := by
 apply jobs_New.go
 unfold jobs_New.T nfz
 obtain ⟨F1, hB, l1, back⟩ := h.foc0
 rw [show (if (if 4096 < n then (4096 : Int) else n) > 1 then (if 4096 < n then (4096 : Int) else n) else 1) = n from by rw [if_neg (by omega : ¬ 4096 < n)]; split <;> omega]
 refine NewJ_ok hB (by omega) (by omega) fun M1 pj h1' => ?_
 have g1 := back M1 _ h1'
 rw [sP_v]
 refine mkmF (kf := refK) (vf := refK) fun mb ob hm hw hf => ?_
 have g3 := g1.new hw hm (o := ob)
 generalize Mem.set M1 mb _ = M3 at g3 ⊢
 have hbld : (std PP w0).bld tJt [(0, .pointer (some ⟨pj, 0, none⟩)), (1, .map (some mb))] = some (.agg #[.pointer (some ⟨pj, 0, none⟩), .map (some mb)]) := by kernel_rfl
 simp only [hbld, ob_v, sA_, sC_, sP_v, zN_]
 refine nwA g3 fun jt F4 M4 l4 lm4 o4 g4 => ?_
 exact hK F4 M4 jt pj mb ob l4 o4 hf g4
theorem CNew_ok (h : HO w0 F M os A) (hK : ∀ M' bc, HO w0 F M' os (star (row1 bc [.int .i64 0] tClk) A) → R (.pointer (some ⟨bc, 0, none⟩)) M') : C PP w0 Id.clock_New #[] R M := by
 apply clock_New.go
 unfold clock_New.T nfz
 have hbld : (std PP w0).bld tClk [] = some (.agg #[.int .i64 0]) := by kernel_rfl
 simp only [hbld, ob_v, sA_, sC_, zI_, zN_]
 exact nwB h fun bc M' lm h' => hK M' bc h'
theorem DNew_ok {k : Int} {n : Nat} (h : HO w0 F M os A) (hk1 : 1 ≤ k) (hk3 : k ≤ 3) (h1 : 1 ≤ n) (h2 : n ≤ 300)
  (hK : ∀ F' M' X Y, Mem.le F F' → DFix w0 F' X → DHO w0 F' M' os X Y A → DInv Y (D22.new n) 2 → DBud Y → R (.tuple #[.pointer (some ⟨X.d, 0, none⟩), .int .i64 0]) M') :
  C PP w0 Id.dispatch_New #[.int .i64 k, .int .i64 n] R M := by
 apply dispatch_New.go
 intro pts H
 unfold dispatch_New.T nfz
 have hw : worstK k := ⟨hk1, hk3⟩
 refine Worst_ok ?_
 rw [shB_v, decide_eq_true hw, Bool.not_true, bF_]
 refine Budget_ok hw (by omega) (by omega) ?_
 rw [Int.toNat_natCast]
 simp only [sT_v, sC_, zI_, shB_v, zN_, Bool.not_true, bF_]
 refine QNew_ok h h1 h2 fun F1 M1 q a t bh bi ma me oa oe l1 oT hfa hfe g1 => ?_
 simp only [sT_v, sC_, sP_v, zI_, zN_]
 refine JNew_ok g1 (by omega) (by omega) fun F2 M2 jt pj mb ob l2 oJ hfb g2 => ?_
 rw [sP_v]
 refine mkmF (kf := refK) (vf := Value.int .i64) fun mw ow hm hw2 hfw => ?_
 have g3 := (g2.new hw2 hm (o := ow)).mapH Holds.dp
 generalize Mem.set M2 mw _ = M3 at g3 ⊢
 refine CNew_ok g3 fun M4 bc g4' => ?_
 have g4 := g4'.mapH Holds.dp5
 have hbld : (std PP w0).bld tDi [(0, .int .i64 k), (1, .int .i64 n), (2, .pointer (some ⟨q, 0, none⟩)), (4, .pointer (some ⟨jt, 0, none⟩)), (5, .map (some mw)), (6, .pointer (some ⟨bc, 0, none⟩)), (7, .int .i64 (2000 + 1600 * (bl (n + 1) : Int)))] =
   some (.agg #[.int .i64 k, .int .i64 n, .pointer (some ⟨q, 0, none⟩), .int .i64 0, .int .i64 0, .int .i64 0, .int .i64 0, .pointer (some ⟨jt, 0, none⟩), .map (some mw), .pointer (some ⟨bc, 0, none⟩), .int .i64 (2000 + 1600 * (bl (n + 1) : Int)), .int .i64 0, .int .i64 0]) := by kernel_rfl
 simp only [sP_v, hbld, ob_v, sA_, sC_, zI_, zN_]
 refine nwB g4 fun dd M5 lm5 g5' => ?_
 have hperm : ((mw, ow) :: (mb, ob) :: (ma, oa) :: (me, oe) :: os).Perm ((ma, oa) :: (me, oe) :: (mb, ob) :: (mw, ow) :: os) := by
  refine (perm2 (mw, ow) (mb, ob) (ma, oa) ((me, oe) :: os)).trans (List.Perm.cons _ ?_)
  refine (perm2 (mw, ow) (mb, ob) (me, oe) os).trans (List.Perm.cons _ ?_)
  exact List.Perm.swap _ _ _
 let X : DLoc := ⟨dd, q, a, t, bh, bi, me, ma, jt, pj, mb, mw, bc⟩
 have g5 : HO w0 F2 M5 (DO X oa oe ob ow os) (DB X ⟨n, 0, AS.new (2 * n), ⟨64, [], []⟩, ⟨n, [], []⟩, fun _ => none, fun _ => none⟩ ⟨n, [], []⟩ 0 k n (0, 0) (0, 0) (2000 + 1600 * (bl (n + 1) : Int)) 0 0 A) :=
  (g5'.mapH Holds.dp6).perm hperm
 have oT2 := oT.le l2
 have hv0 := QInv.nil0 h1 h2
 refine ⟨3, ?_⟩
 show dispatch_New.L1 pts (2 + 1) k (some ⟨q, 0, none⟩) (some ⟨dd, 0, none⟩) 0 M5
 refine Eq.mpr (H.L1 ..) ?_
 unfold dispatch_New.L1.T nfz
 rw [bD_, if_pos (by omega)]
 simp only [nc_v, add_eq, Nat.zero_add, makeV_bld, ob_v, sA_, sC_, zI_, zN_]
 refine QDoMake_ok oT2 hv0 (by omega) hk1 hk3 (by simp) g5 fun M6 S1 r g6 hv1 hnil1 em en eip eat een hst => ?_
 simp only [sA_, sC_, zI_, zN_]
 refine ⟨⟨by omega, by omega⟩, ?_⟩
 refine stPW (o := 3) gRef (by exact (by decide : 5 ≤ 13)) one2 (g6.mapH Holds.sev) fun M7 g7' => ?_
 have hov : over (dV X k n (0, 0) (0, 0) (2000 + 1600 * (bl (n + 1) : Int)) 0 0) 3 [.int .i64 r.1, .int .i64 r.2] = dV X k n r (0, 0) (2000 + 1600 * (bl (n + 1) : Int)) 0 0 := by
  have := over_mid [.int .i64 k, .int .i64 n, .pointer (some ⟨X.q, 0, none⟩)] [.int .i64 0, .int .i64 0] [.int .i64 0, .int .i64 0, .pointer (some ⟨X.jt, 0, none⟩), .map (some X.mw), .pointer (some ⟨X.bc, 0, none⟩), .int .i64 (2000 + 1600 * (bl (n + 1) : Int)), .int .i64 0, .int .i64 0] [.int .i64 r.1, .int .i64 r.2] rfl (o := 3) rfl
  simpa using this
 rw [hov] at g7'
 have g7 : HO w0 F2 M7 (DO X oa oe ob ow os) (DB X S1 ⟨n, [], []⟩ 0 k n r (0, 0) (2000 + 1600 * (bl (n + 1) : Int)) 0 0 A) := g7'.mapH Holds.bck
 show dispatch_New.L1 pts (1 + 1) k (some ⟨q, 0, none⟩) (some ⟨dd, 0, none⟩) (w64 (0 + 1)) M7
 (rw [show w64 (0 + 1) = 1 from rfl]; refine Eq.mpr (H.L1 ..) ?_)
 unfold dispatch_New.L1.T nfz
 rw [bD_, if_pos (by omega)]
 simp only [nc_v, add_eq, Nat.zero_add, makeV_bld, ob_v, sA_, sC_, zI_, zN_]
 refine QDoMake_ok oT2 hv1 (by omega) hk1 hk3 (by simp) g7 fun M8 S2 r2 g8 hv2 hnil2 em2 en2 eip2 eat2 een2 hst2 => ?_
 simp only [sA_, sC_, zI_, zN_]
 refine ⟨⟨by omega, by omega⟩, ?_⟩
 refine stPW (o := 5) gRef (by exact (by decide : 7 ≤ 13)) one2 (g8.mapH Holds.sev) fun M9 g9' => ?_
 have hov2 : over (dV X k n r (0, 0) (2000 + 1600 * (bl (n + 1) : Int)) 0 0) 5 [.int .i64 r2.1, .int .i64 r2.2] = dV X k n r r2 (2000 + 1600 * (bl (n + 1) : Int)) 0 0 := by
  have := over_mid [.int .i64 k, .int .i64 n, .pointer (some ⟨X.q, 0, none⟩), .int .i64 r.1, .int .i64 r.2] [.int .i64 0, .int .i64 0] [.pointer (some ⟨X.jt, 0, none⟩), .map (some X.mw), .pointer (some ⟨X.bc, 0, none⟩), .int .i64 (2000 + 1600 * (bl (n + 1) : Int)), .int .i64 0, .int .i64 0] [.int .i64 r2.1, .int .i64 r2.2] rfl (o := 5) rfl
  simpa using this
 rw [hov2] at g9'
 have g9 : HO w0 F2 M9 (DO X oa oe ob ow os) (DB X S2 ⟨n, [], []⟩ 0 k n r r2 (2000 + 1600 * (bl (n + 1) : Int)) 0 0 A) := g9'.mapH Holds.bck
 show dispatch_New.L1 pts (0 + 1) k (some ⟨q, 0, none⟩) (some ⟨dd, 0, none⟩) (w64 (1 + 1)) M9
 (rw [show w64 (1 + 1) = 2 from rfl]; refine Eq.mpr (H.L1 ..) ?_)
 unfold dispatch_New.L1.T nfz
 rw [bD_, if_neg (by omega)]
 have hmo : S2.most = (n : Int) := em2.trans em
 have hfa2 : MapF (Value.int .i64) refK S2.at_ oa := by rw [eat2, eat]; exact hfa
 have hfe2 : MapF refK entK S2.en oe := by rw [een2, een]; exact hfe
 have hbl0 : (0 : Int) ≤ 2000 + 1600 * (bl (n + 1) : Int) := by omega
 refine hK F2 M9 X ⟨k, S2, [], ⟨r, k, -1, []⟩, ⟨r2, k, -1, []⟩, ⟨n, [], []⟩, fun _ => none, fun _ => none, 0, 2000 + 1600 * (bl (n + 1) : Int), 0, 0⟩ (Mem.le_trans l1 l2) ⟨oT2, oJ⟩ (DHO.of hfa2 hfe2 hfb hfw g9 hmo rfl rfl)
  ⟨hv2, ⟨hk1, hk3⟩, rfl, rfl, rfl, by show S2.ip.pl = _; rw [eip2, eip]; rfl, hmo, rfl, by show In64 0; unfold In64; omega, en2.trans en, rfl, fun j hj => (by cases hj), fun j hj => (by cases hj), fun j hj => (by cases hj), fun r x hx => (by cases hx), fun j hj => (by cases hj), fun b g v hv => ?_, List.nodup_nil, fun j hj => (by cases hj)⟩
  ⟨by show _ = 2000 + 1600 * (bl (S2.most.toNat + 1) : Int); rw [hmo, Int.toNat_natCast], hbl0, Int.le_refl _, hbl0⟩
 ·obtain ⟨j, q1, q2, q3⟩ := PS.find_some hv
  simp at q2
end
end Go.Proofs.YtodobkbnmjgkdaaGreat.HL
namespace Go.Proofs.YtodobkbnmjgkdaaGreat.HL
open Go.RowKit (Below)
open Go.Proofs
section
variable {w0 : World} {M M0 F : Mem} {R : VP}
def emp : Asn := fun r => r = []
end
end Go.Proofs.YtodobkbnmjgkdaaGreat.HL
namespace Go.Proofs.YtodobkbnmjgkdaaGreat.HL
open Go.RowKit (Below)
open Go.Proofs
section
variable {w0 : World} {F M : Mem} {R : VP} {os : Obs} {A : Asn}
theorem Holds.emp0 : Holds w0 M M emp := ⟨[], rfl, Fit.nil (Mem.le_refl _)⟩
theorem WithinI_ok {n lo hi : Int} (h1 : lo ≤ n) (h2 : n ≤ hi) (h : R (.int .i64 n) M) : C PP w0 Id.tb_Within #[.int .i64 n, .int .i64 lo, .int .i64 hi] R M := by
 apply tb_Within.go
 intro pts H
 unfold tb_Within.T nfz
 simp only [bD_]
 rw [if_pos (by omega), if_pos (by omega)]
 exact h
theorem Of0_ok (h : R (.int .i64 500) M) : C PP w0 Id.bound_Of #[.int .i64 1, .int .i64 1, .int .i64 0] R M := by
 apply bound_Of.go
 intro pts H
 unfold bound_Of.T nfz
 refine kRight_ok ?_
 rw [shB_v, decide_eq_true (by decide), bs_true, bQ_, if_neg (by decide)]
 refine Worst_ok ?_
 (rw [shB_v, decide_eq_true (show worstK 1 by unfold worstK; omega), Bool.not_true, bF_]; refine Eq.mpr (H.J1 ..) ?_)
 unfold bound_Of.J1.T nfz
 simp only [bQ_]
 rw [if_neg (by decide), if_neg (by decide), if_neg (by decide), if_neg (by decide), if_neg (by decide), if_neg (by decide)]
 exact h
theorem Awake_ok (hK : ∀ M', R (.bool true) M') : C PP w0 Id.tp_awake #[] R M := by
 apply tp_awake.go
 intro pts H
 unfold tp_awake.T nfz
 refine QNew_ok (n := 2) (HO.of (Holds.emp0 (w0 := w0) (M := M))) (by decide) (by decide) fun F1 M1 q a t bh bi ma me oa oe l1 oT hfa hfe g1 => ?_
 simp only [sT_v, sC_, sP_v, zI_, zN_, eql_nil Tryz.underlying24, ob_v, shB_v, Option.isNone_some, bF_]
 rw [bs_bne, if_pos rfl]
 show tp_awake.J1 pts (some ⟨q, 0, none⟩) M1
 refine Eq.mpr (H.J1 ..) ?_
 unfold tp_awake.J1.T nfz
 have hv0 := QInv.nil0 (most := 2) (by decide) (by decide)
 simp only [nc_v, add_eq, Nat.zero_add, makeV_bld, ob_v, sA_, sC_, zI_, zN_]
 refine QDoMake_ok oT hv0 (by omega) (by omega) (by omega) (by simp) g1 fun M2 S1 r g2 hv1 hnil em en eip eat een hst => ?_
 simp only [sA_, sC_, zI_, zN_]
 refine boxF (vs := ansV 0 r.1 r.2 0 0 0 0 0) gAns (by rfl) ansV_one g2 fun b3 F3 M3 l3 o3 g3 => ?_
 have hr3 : ∀ {M' : Mem} {e : TypeId}, Own w0 M' b3 (ansV 0 r.1 r.2 0 0 0 0 0) e → (std PP w0).ld 33 ⟨b3, 1, none⟩ M' = some (.agg #[.int .i64 r.1, .int .i64 r.2]) := fun o => ldSub (vs := [.int .i64 r.1, .int .i64 r.2]) gRef o (sub2 rfl rfl)
 simp only [hr3 (o3.le g3.fr), ob_v, sA_, sC_, zI_, zN_, callV_bld (h := r)]
 have hfa1 : MapF (Value.int .i64) refK S1.at_ oa := by rw [eat]; exact hfa
 have hfe1 : MapF refK entK S1.en oe := by rw [een]; exact hfe
 refine QDoInsert_ok (A := []) (B := []) (y := ⟨r, 1, -1, []⟩) (oT.le l3) hv1 (by omega) (by rw [em]; decide) hfa1 hfe1 g3 fun M4 S2 oa2 oe2 i y2 hat hfa2 hfe2 g4 ey1 ey2 hv2 em2 en2 eip2 hst2 => ?_
 obtain ⟨cc, hv2⟩ := hv2
 simp only [sA_, sC_, zI_, zN_]
 refine boxF (vs := ansV 0 0 0 i (S1.ip.gen i) 5 S1.next 0) gAns (by rfl) ansV_one g4 fun b5 F5 M5 l5 o5 g5 => ?_
 have o35 := o3.le l5
 simp only [hr3 (o35.le g5.fr), ob_v, sA_, sC_, zI_, zN_, heapV_bld (i := r)]
 have hne : hlI ([] ++ [(⟨((i : Int), S1.ip.gen i), (⟨r, 1, -1, []⟩ : Hv).h, cc, (5, S1.next)⟩ : Itm)]) y2.h ≠ [] := by
  rw [ey1, List.nil_append, hlI_same rfl]; simp
 have hyr : y2.h = r := ey1
 rw [← hyr]
 refine QDoFind_ok (A := []) (B := []) (y := y2) ((oT.le l3).le l5) hv2 hne hfa2 hfe2 g5 fun M6 S3 x hx hxy hb hfa3 hfe3 g6 hv3 em3 en3 eip3 hst3 => ?_
 have hxe : x = ⟨((i : Int), S1.ip.gen i), (⟨r, 1, -1, []⟩ : Hv).h, cc, (5, S1.next)⟩ := by simpa using hx
 subst hxe
 simp only [sA_, sC_, zI_, zN_]
 refine boxF (vs := ansV 0 0 0 i (S1.ip.gen i) 5 S1.next 0) gAns (by rfl) ansV_one g6 fun b7 F7 M7 l7 o7 g7 => ?_
 have hi : ∀ {b : Nat} {M' : Mem} {e : TypeId}, Own w0 M' b (ansV 0 0 0 i (S1.ip.gen i) 5 S1.next 0) e → (std PP w0).ld 33 ⟨b, 3, none⟩ M' = some (.agg #[.int .i64 (i : Int), .int .i64 (S1.ip.gen i)]) := fun o => ldSub (vs := [.int .i64 (i : Int), .int .i64 (S1.ip.gen i)]) gRef o (sub2 rfl rfl)
 simp only [ld1 W.c25 ((o35.le l7).le g7.fr) (o := 0) rfl, ld1 W.c25 ((o5.le l7).le g7.fr) (o := 0) rfl, ld1 W.c2 (o7.le g7.fr) (o := 5) rfl, hi (o7.le g7.fr), hi ((o5.le l7).le g7.fr), ob_v, zI_, sA_, sC_, zN_, eqRefU, shB_v]
 rw [bQ_, if_pos rfl, bQ_, if_pos rfl, bQ_, if_pos rfl]
 simp only [BEq.rfl, Bool.and_self, bs_true]
 refine Of0_ok ?_
 rw [zI_]
 exact hK M7
section
variable {X : DLoc} {Y : DSt} {dm : Nat} {x : D22} {c : Cmd}
theorem Disp_ok {k j : Int} (hk : In64 k) (hj : In64 j) (h : HO w0 F M os A)
  (hK : ∀ F' M' X Y dm (n : Nat), 1 ≤ n → n ≤ 60 → (1 ≤ j → j ≤ 60 → (n : Int) = j) → Mem.le F F' → DFix w0 F' X → DHO w0 F' M' os X Y (star (DispA dm (D22.new n)) A) → DInv Y (D22.new n) 2 → DBud Y → R (.tuple #[.pointer (some ⟨X.d, 0, none⟩), .pointer (some ⟨dm, 0, none⟩)]) M') :
  C PP w0 Id.tp_dispatcher #[.int .i64 k, .int .i64 j] R M := by
 apply tp_dispatcher.go
 unfold tp_dispatcher.T nfz
 have main : ∀ m : Int, 1 ≤ m → m ≤ 60 → (1 ≤ j → j ≤ 60 → m = j) → C PP w0 Id.tb_Within #[.int .i64 k, .int .i64 1, .int .i64 3] (fun v M => shI .i64 v fun n_1 => (std PP w0).call Id.dispatch_New #[.int .i64 n_1, .int .i64 m] (fun v M => shT v fun n_2 => shCons n_2 fun u r => shP u fun n_3 => shCons r fun u r => shI .i64 u fun n_4 => shNil r (HL.ob ((std PP w0).bq .eql 60 (.tmp 18) (.const (.pointer none)) (.pointer n_3) (.pointer none)) fun v => shB v fun n_5 => bs n_5 (R (.tuple #[.pointer none, .pointer none]) M) (bs (n_4 != 0) (R (.tuple #[.pointer none, .pointer none]) M) ((std PP w0).call Id.d2_New #[.int .i64 m] (fun v M => shP v fun n => R (.tuple #[.pointer n_3, .pointer n]) M) M)))) M) M := by
  intro m m1 m2 m3
  refine Within_ok hk (by omega) (by omega) (by omega) (by omega) fun kk k1 k2 => ?_
  rw [zI_]
  obtain ⟨n, rfl⟩ : ∃ n : Nat, m = (n : Int) := ⟨m.toNat, by omega⟩
  refine DNew_ok h (by omega) (by omega) (by omega) (by omega) fun F1 M1 X Y l1 hX hD hv hb => ?_
  simp only [sT_v, sC_, sP_v, zI_, zN_, eql_nil Tryz.underlying60, ob_v, shB_v, Option.isNone_some, bF_]
  rw [bs_bne, if_pos rfl]
  obtain ⟨oa, oe, ob, ow, hfa, hfe, hfb, hfw, h1⟩ := hD
  obtain ⟨F2, hB, l2, back⟩ := h1.foc0
  refine dNew_ok hB (by omega) (by omega) fun M2 dm hC => ?_
  rw [sP_v]
  exact hK F1 M2 X Y dm n (by omega) (by omega) m3 l1 hX ⟨oa, oe, ob, ow, hfa, hfe, hfb, hfw, (back M2 _ hC).mapH Holds.dp7⟩ hv hb
 by_cases hin : 1 ≤ j ∧ j ≤ 60
 ·refine WithinI_ok hin.1 hin.2 ?_
  rw [zI_]
  exact main j hin.1 hin.2 fun _ _ => rfl
 ·refine Within_ok hj (by omega) (by omega) (by omega) (by omega) fun m m1 m2 => ?_
  rw [zI_]
  exact main m m1 m2 fun a b => absurd ⟨a, b⟩ hin
end
end
end Go.Proofs.YtodobkbnmjgkdaaGreat.HL
namespace Go.Proofs.YtodobkbnmjgkdaaGreat.HL
open Go.RowKit (Below)
open Go.Proofs
section
variable {w0 : World} {F M : Mem} {R : VP} {os : Obs} {A Q : Asn}
theorem SameR_ok {s x : SV} {l m : List Ent} (hs : RdE w0 M s l) (hx : RdE w0 M x m) (hm : l.length ≤ 1000000) (h : R (.bool (decide (l = m))) M) : C PP w0 Id.tb_Sameapi_Ref #[SV.v s, SV.v x] R M := by
 apply tb_Sameapi_Ref.go
 intro pts H
 unfold tb_Sameapi_Ref.T nfz
 have hl := hs.len
 have hlx := hx.len
 rw [bs_bne]
 split
 ·rename_i he
  have key : ∀ (k i : Nat), i ≤ l.length → l.length < i + k → (∀ j < i, l[j]? = m[j]?) → tb_Sameapi_Ref.L1 pts k s x (i : Int) M := by
   intro k
   induction k with
   | zero => intro i h1 h2; omega
   | succ k ih =>
    intro i h1 h2 hok
    refine Eq.mpr (H.L1 ..) ?_
    unfold tb_Sameapi_Ref.L1.T nfz
    rw [bD_]
    split
    ·have hi : i < l.length := by omega
     have e1 := List.getElem?_eq_getElem hi
     have e2 := List.getElem?_eq_getElem (show i < m.length by omega)
     generalize l[i] = u at e1
     generalize m[i] = v at e2
     refine rdRf hs (Mem.le_refl _) i rfl e1 ?_
     refine rdRf hx (Mem.le_refl _) i rfl e2 ?_
     rw [refNeq, ob_v, shB_v, bs_not, bD_]
     split
     ·rename_i huv
      have huv' : u = v := huv
      subst huv'
      rw [i64_succ (show i < 4611686018427387904 by omega)]
      refine ih (i + 1) (by omega) (by omega) fun j hj => ?_
      rcases Nat.lt_succ_iff_lt_or_eq.1 hj with hj | rfl
      ·exact hok j hj
      ·rw [e1, e2]
     ·rename_i huv
      have : ¬ l = m := fun hh => by subst hh; rw [e1] at e2; exact huv (Option.some.inj e2)
      rw [decide_eq_false this] at h; exact h
    ·have : l = m := by
      apply List.ext_getElem?
      intro j
      by_cases hj : j < l.length
      ·exact hok j (by omega)
      ·rw [List.getElem?_eq_none (by omega), List.getElem?_eq_none (by omega)]
     rw [decide_eq_true this] at h; exact h
  exact ⟨l.length + 1, key _ 0 (by omega) (by omega) (fun j hj => by omega)⟩
 ·rename_i he
  have : ¬ l = m := fun hh => by subst hh; omega
  rw [decide_eq_false this] at h; exact h
theorem newRf2 {P : Asn} (h : Holds w0 F M P) (x y x2 y2 : Int) {K : VP} (hK : ∀ M' s', Mem.le M M' → Holds w0 F M' (star (Es s' [(x, y), (x2, y2)]) P) → K s'.v M') : (std PP w0).bsl 30 2 [(0, .agg #[.int .i64 x, .int .i64 y]), (1, .agg #[.int .i64 x2, .int .i64 y2])] K M := by
 refine bsl_e (n := 2) (cells := #[.int .i64 x, .int .i64 y, .int .i64 x2, .int .i64 y2]) Tryz.underlying30 W.e33 (by decide) (by kernel_rfl) fun b hb hw => ?_
 have l1 : Mem.le M (M.set b (.row (#[Value.int .i64 x, .int .i64 y, .int .i64 x2, .int .i64 y2] : Array Value).toList 33)) := Mem.le_set _ hb
 exact hK _ ⟨some ⟨b, 0, none⟩, 2, 2⟩ l1 (Holds.newSlk h l1 (SlK.new (n := 2) hb (Own.new hw) rfl))
section
variable {X : DLoc} {Y : DSt} {d : D22} {tm : Int} {s : SV} {l : List Ent}
theorem DHO.newNil (hD : DHO w0 F M os X Y Q) : DHO w0 F M os X Y (star (Es ⟨none, 0, 0⟩ []) Q) := by
 obtain ⟨oa, oe, ob, ow, hfa, hfe, hfb, hfw, h⟩ := hD
 obtain ⟨F1, hB, l1, back⟩ := h.foc0
 exact ⟨oa, oe, ob, ow, hfa, hfe, hfb, hfw, (back M _ (Holds.newSlk hB (Mem.le_refl _) SlK.nil)).mapH Holds.dp7⟩
theorem DHO.rdL (hD : DHO w0 F M os X Y (star (Es s l) Q)) : RdE w0 M s l := by
 obtain ⟨oa, oe, ob, ow, hfa, hfe, hfb, hfw, h⟩ := hD
 exact (h.mapH Holds.up7).h.rdE
theorem DHO.app1 (hD : DHO w0 F M os X Y (star (Es s l) Q)) (hb : l.length ≤ 1000) {x y : Int} {K : SV → Mem → Prop} (hK : ∀ M' s', DHO w0 F M' os X Y (star (Es s' (l ++ [(x, y)])) Q) → K s' M') :
  (std PP w0).bsl 30 1 [(0, .agg #[.int .i64 x, .int .i64 y])] (fun v M1 => shS v fun s1 => (std PP w0).app #[30, 30] 30 [SV.v s, SV.v s1] (fun v M2 => shS v fun s2 => K s2 M2) M1) M := by
 obtain ⟨oa, oe, ob, ow, hfa, hfe, hfb, hfw, h⟩ := hD
 obtain ⟨F1, hB, l1, back⟩ := (h.mapH Holds.up7).foc0
 refine newRf hB x y fun M1 s1 lm1 h1 => ?_
 rw [shS_sv]
 refine appRf h1.right h1.rdE (by simp; omega) fun M2 s2 h2 => ?_
 rw [shS_sv]
 exact hK M2 s2 ⟨oa, oe, ob, ow, hfa, hfe, hfb, hfw, (back M2 _ h2).mapH Holds.dp7⟩
theorem DHO.new1 (hD : DHO w0 F M os X Y Q) {x y : Int} {K : SV → Mem → Prop} (hK : ∀ M' s', Mem.le M M' → DHO w0 F M' os X Y Q → RdE w0 M' s' [(x, y)] → K s' M') :
  (std PP w0).bsl 30 1 [(0, .agg #[.int .i64 x, .int .i64 y])] (fun v M1 => shS v fun s1 => K s1 M1) M := by
 obtain ⟨oa, oe, ob, ow, hfa, hfe, hfb, hfw, h⟩ := hD
 obtain ⟨F1, hB, l1, back⟩ := h.foc0
 refine newRf hB x y fun M1 s1 lm1 h1 => ?_
 rw [shS_sv]
 exact hK M1 s1 lm1 ⟨oa, oe, ob, ow, hfa, hfe, hfb, hfw, back M1 _ h1.right⟩ h1.rdE
theorem DHO.new2 (hD : DHO w0 F M os X Y Q) {x y x2 y2 : Int} {K : SV → Mem → Prop} (hK : ∀ M' s', Mem.le M M' → DHO w0 F M' os X Y Q → RdE w0 M' s' [(x, y), (x2, y2)] → K s' M') :
  (std PP w0).bsl 30 2 [(0, .agg #[.int .i64 x, .int .i64 y]), (1, .agg #[.int .i64 x2, .int .i64 y2])] (fun v M1 => shS v fun s1 => K s1 M1) M := by
 obtain ⟨oa, oe, ob, ow, hfa, hfe, hfb, hfw, h⟩ := hD
 obtain ⟨F1, hB, l1, back⟩ := h.foc0
 refine newRf2 hB x y x2 y2 fun M1 s1 lm1 h1 => ?_
 rw [shS_sv]
 exact hK M1 s1 lm1 ⟨oa, oe, ob, ow, hfa, hfe, hfb, hfw, back M1 _ h1.right⟩ h1.rdE
theorem DHO.box {rp : Rep} (hD : DHO w0 F M os X Y Q) {K : Nat → Mem → Prop} (hK : ∀ b F' M', Mem.le F F' → Own w0 F' b rp.cells tRep → DHO w0 F' M' os X Y Q → K b M') :
  (std PP w0).nw [.int .i64 0, .int .i64 0, .int .i64 0, .int .i64 0, .int .i64 0, .int .i64 0] tRep (fun b M1 => (std PP w0).st tRep ⟨b, 0, none⟩ (.agg #[.int .i64 rp.why, .int .i64 rp.at_, .int .i64 rp.gen, .int .i64 rp.time, .int .i64 rp.data, .int .i64 rp.n]) (fun M2 => K b M2) M1) M := by
 obtain ⟨oa, oe, ob, ow, hfa, hfe, hfb, hfw, h⟩ := hD
 exact boxF (vs := rp.cells) gRep6 (by rfl) (rep_one _) h fun b F' M' l' o' h' => hK b F' M' l' o' ⟨oa, oe, ob, ow, hfa, hfe, hfb, hfw, h'⟩
theorem ldJob {b : Nat} {rp : Rep} {e : TypeId} (o : Own w0 M b rp.cells e) : (std PP w0).ld 33 ⟨b, 1, none⟩ M = some (.agg #[.int .i64 rp.at_, .int .i64 rp.gen]) := ldSub (o := 1) (vs := [.int .i64 rp.at_, .int .i64 rp.gen]) gRef o (sub2 rfl rfl)
theorem ldWhy {b : Nat} {rp : Rep} {e : TypeId} (o : Own w0 M b rp.cells e) : (std PP w0).ld 25 ⟨b, 0, none⟩ M = some (.int .i64 rp.why) := ld1 W.c25 o rfl
end
end
end Go.Proofs.YtodobkbnmjgkdaaGreat.HL
namespace Go.Proofs.YtodobkbnmjgkdaaGreat.HL
open Go.RowKit (Below)
open Go.Proofs
def so0 (t : Int) : D22 := ⟨5, 0, 2, ⟨5, [1, 1], [true, true], [0, 0], []⟩, [⟨0, 1, t, 0, 0, 1⟩, ⟨0, 2, 500, 1, 1, 1⟩]⟩
theorem so_a : do22 (D22.new (5 : Nat)) ⟨1, 0, 0, 0, 1000, 1⟩ = (⟨5, 0, 1, ⟨5, [1], [true], [0], []⟩, [⟨0, 1, 1000, 0, 0, 1⟩]⟩, ⟨0, 0, 1, 1000, 1, 0⟩) := rfl
theorem so_b : do22 ⟨5, 0, 1, ⟨5, [1], [true], [0], []⟩, [⟨0, 1, 1000, 0, 0, 1⟩]⟩ ⟨1, 0, 0, 0, 500, 2⟩ = (so0 1000, ⟨0, 1, 1, 500, 2, 0⟩) := rfl
theorem so_s (t v : Int) : do22 (so0 t) ⟨2, 0, 0, 1, v, 0⟩ = if t < v then (so0 t, ⟨26, 0, 0, 0, 0, 0⟩) else (so0 v, ⟨0, 0, 0, v, 1, 0⟩) := by
 rw [do22_23 (.inl rfl)]; rfl
def so1 (n : Int) : D22 := ⟨5, n, 2, ⟨5, [1, 1], [false, true], [0, 0], [0]⟩, [⟨0, 2, 500, 1, 1, 1⟩]⟩
theorem so_c (t : Int) : do22 (so0 t) ⟨3, 0, 0, 1, 0, 0⟩ = (so1 0, ⟨0, 0, 0, t, 1, 0⟩) := by
 rw [do22_23 (.inr rfl)]; rfl
theorem so_ad (d : D22) (h : d.now = 0) : do22 d ⟨4, 0, 0, 0, 2000, 0⟩ = ({ d with now := 2000 }, ⟨0, 0, 0, 2000, 0, 0⟩) := by
 rw [do22_4 rfl]
 show (if (2000 : Int) < 0 then _ else _) = _
 rw [if_neg (by decide), h]; rfl
def fcmd : Cmd := ⟨5, 0, 0, 0, 0, 0⟩
def fireN : Nat → D22 → List Ent → D22 × List Ent
 | 0, d, g => (d, g)
 | n + 1, d, g => fireN n (do22 d fcmd).1 (if (do22 d fcmd).2.why = 0 then g ++ [((do22 d fcmd).2.at_, (do22 d fcmd).2.gen)] else g)
theorem fireN_succ (n : Nat) (d : D22) (g : List Ent) : fireN (n + 1) d g = fireN n (do22 d fcmd).1 (if (do22 d fcmd).2.why = 0 then g ++ [((do22 d fcmd).2.at_, (do22 d fcmd).2.gen)] else g) := rfl
def so2 : D22 := ⟨5, 2000, 2, ⟨5, [1, 1], [false, false], [0, 0], [0, 1]⟩, []⟩
def so3 : D22 := ⟨5, 2000, 2, ⟨5, [1, 1], [false, false], [0, 0], [1, 0]⟩, []⟩
theorem so_f1 : do22 (so1 2000) fcmd = (so2, ⟨0, 1, 1, 500, 2, 0⟩) := rfl
theorem so_f2 : do22 so2 fcmd = (so2, ⟨28, 0, 0, 0, 0, 0⟩) := rfl
theorem so_f3 : do22 so3 fcmd = (so3, ⟨28, 0, 0, 0, 0, 0⟩) := rfl
theorem so_fa {t : Int} (ht : t ≤ 500) : do22 { so0 t with now := 2000 } fcmd = (so1 2000, ⟨0, 0, 1, t, 1, 0⟩) := by
 rw [do22_5 (goodQ (.inl rfl)) rfl]
 have hf : firstD (so0 t).l 0 = some (0, (t, 0)) := by
  unfold firstD so0
  simp only [firstG, befD, Jb.e]
  have : ¬ Lt ((500 : Int), (1 : Int)) (t, 0) := by unfold Lt; simp only; omega
  simp [this]
 show (match firstD (so0 t).l 0 with | none => _ | some y => _) = _
 rw [hf]
 simp only
 rw [if_neg (by show ¬ (2000 : Int) < t; omega)]
 rfl
theorem so_fb {t : Int} (ht : 500 < t) (h2 : t ≤ 1000) : do22 { so0 t with now := 2000 } fcmd = (⟨5, 2000, 2, ⟨5, [1, 1], [true, false], [0, 0], [1]⟩, [⟨0, 1, t, 0, 0, 1⟩]⟩, ⟨0, 1, 1, 500, 2, 0⟩) ∧
  do22 ⟨5, 2000, 2, ⟨5, [1, 1], [true, false], [0, 0], [1]⟩, [⟨0, 1, t, 0, 0, 1⟩]⟩ fcmd = (so3, ⟨0, 0, 1, t, 1, 0⟩) := by
 constructor
 ·rw [do22_5 (goodQ (.inl rfl)) rfl]
  have hf : firstD (so0 t).l 0 = some (1, (500, 1)) := by
   unfold firstD so0
   simp only [firstG, befD, Jb.e]
   have : Lt ((500 : Int), (1 : Int)) (t, 0) := by unfold Lt; simp only; omega
   simp [this]
  show (match firstD (so0 t).l 0 with | none => _ | some y => _) = _
  rw [hf]
  simp only
  rw [if_neg (by show ¬ (2000 : Int) < 500; omega)]
  rfl
 ·rw [do22_5 (goodQ (.inl rfl)) rfl]
  have hf : firstD (⟨5, 2000, 2, ⟨5, [1, 1], [true, false], [0, 0], [1]⟩, [⟨0, 1, t, 0, 0, 1⟩]⟩ : D22).l fcmd.queue = some (0, (t, 0)) := rfl
  rw [hf]
  simp only
  rw [if_neg (by show ¬ (2000 : Int) < t; omega)]
  rfl
theorem so_n1 : fireN 3 (so1 2000) [] = (so2, [(1, 1)]) := by
 rw [fireN_succ, so_f1, fireN_succ, so_f2, fireN_succ, so_f2]; rfl
theorem so_n2 {t : Int} (ht : t ≤ 500) : fireN 3 { so0 t with now := 2000 } [] = (so2, [(0, 1), (1, 1)]) := by
 rw [fireN_succ, so_fa ht, fireN_succ, so_f1, fireN_succ, so_f2]; rfl
theorem so_n3 {t : Int} (ht : 500 < t) (h2 : t ≤ 1000) : fireN 3 { so0 t with now := 2000 } [] = (so3, [(1, 1), (0, 1)]) := by
 rw [fireN_succ, (so_fb ht h2).1, fireN_succ, (so_fb ht h2).2, fireN_succ, so_f3]; rfl
section
variable {w0 : World} {F M : Mem} {R : VP}
theorem cm_bld1 (t x : Int) : (std PP w0).bld tCmd [(0, .int .i64 1), (3, .int .i64 t), (4, .int .i64 x)] = some (Cmd.v ⟨1, 0, 0, 0, t, x⟩) := by kernel_rfl
theorem cm_bld2 (a g t : Int) : (std PP w0).bld tCmd [(0, .int .i64 2), (2, .agg #[.int .i64 a, .int .i64 g]), (3, .int .i64 t)] = some (Cmd.v ⟨2, 0, a, g, t, 0⟩) := by kernel_rfl
theorem cm_bld3 (a g : Int) : (std PP w0).bld tCmd [(0, .int .i64 3), (2, .agg #[.int .i64 a, .int .i64 g])] = some (Cmd.v ⟨3, 0, a, g, 0, 0⟩) := by kernel_rfl
theorem cm_bld4 (t : Int) : (std PP w0).bld tCmd [(0, .int .i64 4), (3, .int .i64 t)] = some (Cmd.v ⟨4, 0, 0, 0, t, 0⟩) := by kernel_rfl
theorem cm_bld5 : (std PP w0).bld tCmd [(0, .int .i64 5)] = some (Cmd.v fcmd) := by kernel_rfl
theorem TopSooner_law (hR : ∀ M, R (.bool true) M) {k : Int} (hk : In64 k) {s : SV} {ms : List Int} (hs : RdI w0 M .i64 s ms) {cc : Bool} : C PP w0 Id.tS #[.int .i64 k, SV.v s, .bool cc] R M := by
 apply tS.go
 intro pts H
 unfold tS.T nfz
 refine Disp_ok hk (by unfold In64; omega) (HO.of (Holds.emp0 (w0 := w0) (M := M))) fun F1 M1 X Y dm n n1 n2 n3 l1 hX hD hv hb => ?_
 have hn5 : n = 5 := by have := n3 (by omega) (by omega); omega
 subst hn5
 simp only [sT_v, sC_, sP_v, zN_, eql_nil Tryz.underlying60, ob_v, shB_v, Option.isNone_some, bF_, cm_bld1, Cmd.v, sA_, zI_]
 refine DDo_ok (c := ⟨1, 0, 0, 0, 1000, 1⟩) hX hD hv hb (by omega) (by unfold In64; simp only; omega) fun M2 Y2 hD2 hv2 hb2 _ => ?_
 rw [so_a] at hv2 ⊢
 simp only [Rep.v, sA_, sC_, zI_, zN_]
 refine hD2.box (rp := ⟨0, 0, 1, 1000, 1, 0⟩) fun ba F3 M3 l3 oa hD3 => ?_
 refine DDo_ok (c := ⟨1, 0, 0, 0, 500, 2⟩) (hX.le l3) hD3 hv2 hb2 (by omega) (by unfold In64; simp only; omega) fun M4 Y4 hD4 hv4 hb4 _ => ?_
 rw [so_b] at hv4 ⊢
 simp only [Rep.v, sA_, sC_, zI_, zN_]
 refine hD4.box (rp := ⟨0, 1, 1, 500, 2, 0⟩) fun bb F5 M5 l5 ob hD5 => ?_
 have hX5 := (hX.le l3).le l5
 have oa5 := oa.le l5
 have key6 : ∀ (F6 M6 : Mem) (Y6 : DSt) (Q : Asn) (tm : Int) (s1 s2 : SV) (g : List Ent) (d : D22), Mem.le F5 F6 → DHO w0 F6 M6 [] X Y6 Q → DInv Y6 d tm → DBud Y6 → tm ≤ 800000 → RdE w0 M6 s1 g → RdE w0 M6 s2 g → g.length ≤ 10 → (do22 d ⟨3, 0, 0, 1, 0, 0⟩).2.why = 23 → tS.J6 pts (some ⟨X.d, 0, none⟩) ⟨ba, 0, none⟩ s1 s2 M6 := by
  intro F6 M6 Y6 Q tm s1 s2 g d l6 hD6 hv6 hb6 htm h1 h2 hg hw
  refine Eq.mpr (H.J6 ..) ?_
  unfold tS.J6.T nfz
  refine SameR_ok h1 h2 (by omega) ?_
  rw [shB_v, decide_eq_true rfl, bs_true]
  simp only [add_eq, Nat.zero_add, ldJob ((oa5.le l6).le hD6.fr), cm_bld3, Cmd.v, ob_v, sA_, sC_, zI_, zN_]
  refine DDo_ok (c := ⟨3, 0, 0, 1, 0, 0⟩) (hX5.le l6) hD6 hv6 hb6 (by omega) (by unfold In64; simp only; omega) fun M7 Y7 hD7 hv7 hb7 _ => ?_
  simp only [Rep.v, sA_, sC_, zI_, zN_]
  rw [bQ_, if_pos hw]
  refine Awake_ok fun M8 => ?_
  rw [shB_v]
  exact hR M8
 have key5 : ∀ (m : Nat) (t : Int) (kk : Nat) (F6 M6 : Mem) (Y6 : DSt) (Q : Asn) (tm : Int) (sg : SV) (g : List Ent) (d : D22), Mem.le F5 F6 → DHO w0 F6 M6 [] X Y6 (star (Es sg g) Q) → DInv Y6 d tm → DBud Y6 → tm + m ≤ 700000 → m ≤ 3 → m < kk → g.length + m ≤ 5 →
   (do22 (fireN m d g).1 ⟨3, 0, 0, 1, 0, 0⟩).2.why = 23 → (fireN m d g).2 = (if cc = true then [(1, 1)] else if t ≤ 500 then [(0, 1), (1, 1)] else [(1, 1), (0, 1)]) →
   tS.L5 pts kk cc (some ⟨X.d, 0, none⟩) ⟨ba, 0, none⟩ ⟨bb, 0, none⟩ t sg ((3 - m : Nat) : Int) M6 := by
  intro m
  induction m with
  | zero =>
   intro t kk F6 M6 Y6 Q tm sg g d l6 hD6 hv6 hb6 htm hm hkk hg hw hgot
   obtain ⟨kk, rfl⟩ : ∃ j, kk = j + 1 := ⟨kk - 1, by omega⟩
   refine Eq.mpr (H.L5 ..) ?_
   unfold tS.L5.T nfz
   rw [bD_, if_neg (by omega)]
   have oa6 := oa5.le l6
   have ob6 := ob.le l6
   have hgr := hD6.rdL
   simp only [add_eq, Nat.zero_add, ldJob (ob6.le hD6.fr), ob_v, sA_, sC_, zI_, zN_]
   refine hD6.new1 fun M7 s7 l7 hD7 hr7 => ?_
   have hgot' : g = (if cc = true then [(1, 1)] else if t ≤ 500 then [(0, 1), (1, 1)] else [(1, 1), (0, 1)]) := hgot
   cases hc : cc with
   | true =>
    rw [hc, if_pos rfl] at hgot'
    subst hgot'
    rw [Bool.not_true, bF_]
    exact key6 F6 M7 Y6 _ tm sg s7 _ d l6 hD7 hv6 hb6 (by omega) (hgr.le l7) hr7 (by simp) hw
   | false =>
    rw [hc, if_neg (by decide)] at hgot'
    rw [Bool.not_false, bs_true, bD_]
    split
    ·rename_i ht
     rw [if_pos ht] at hgot'
     subst hgot'
     simp only [ldJob (oa6.le hD7.fr), ldJob (ob6.le hD7.fr), ob_v, sA_, sC_, zI_, zN_]
     refine hD7.new2 fun M8 s8 l8 hD8 hr8 => ?_
     exact key6 F6 M8 Y6 _ tm sg s8 _ d l6 hD8 hv6 hb6 (by omega) ((hgr.le l7).le l8) hr8 (by simp) hw
    ·rename_i ht
     rw [if_neg ht] at hgot'
     subst hgot'
     rw [bs_true]
     simp only [ldJob (oa6.le hD7.fr), ldJob (ob6.le hD7.fr), ob_v, sA_, sC_, zI_, zN_]
     refine hD7.new2 fun M8 s8 l8 hD8 hr8 => ?_
     exact key6 F6 M8 Y6 _ tm sg s8 _ d l6 hD8 hv6 hb6 (by omega) ((hgr.le l7).le l8) hr8 (by simp) hw
  | succ m ih =>
   intro t kk F6 M6 Y6 Q tm sg g d l6 hD6 hv6 hb6 htm hm hkk hg hw hgot
   obtain ⟨kk, rfl⟩ : ∃ j, kk = j + 1 := ⟨kk - 1, by omega⟩
   rw [fireN_succ] at hw hgot
   refine Eq.mpr (H.L5 ..) ?_
   unfold tS.L5.T nfz
   rw [bD_, if_pos (by omega)]
   simp only [cm_bld5, Cmd.v, fcmd, ob_v, sA_, sC_, zI_, zN_]
   refine DDo_ok (c := fcmd) (hX5.le l6) hD6 hv6 hb6 (by omega) (by unfold In64 fcmd; simp only; omega) fun M7 Y7 hD7 hv7 hb7 _ => ?_
   simp only [Rep.v, sA_, sC_, zI_, zN_]
   refine hD7.box (rp := (do22 d fcmd).2) fun b8 F8 M8 l8 o8 hD8 => ?_
   simp only [add_eq, Nat.zero_add, ldWhy (o8.le hD8.fr), ob_v, zI_]
   have hi : w64 (((3 - (m + 1) : Nat) : Int) + 1) = ((3 - m : Nat) : Int) := by rw [w64_in (by omega)]; omega
   rw [bQ_]
   split
   ·rename_i hwhy
    rw [if_pos hwhy] at hw hgot
    simp only [ldJob (o8.le hD8.fr), ob_v, sA_, sC_, zI_, zN_]
    refine hD8.app1 (by omega) fun M9 s9 hD9 => ?_
    rw [hi]
    exact ih t kk F8 M9 Y7 Q (tm + 1) s9 _ _ (Mem.le_trans l6 l8) hD9 hv7 hb7 (by omega) (by omega) (by omega) (by simp; omega) hw hgot
   ·rename_i hwhy
    rw [if_neg hwhy] at hw hgot
    rw [hi]
    exact ih t kk F8 M8 Y7 Q (tm + 1) sg _ _ (Mem.le_trans l6 l8) hD8 hv7 hb7 (by omega) (by omega) (by omega) (by omega) hw hgot
 have key3 : ∀ (t : Int) (F6 M6 : Mem) (Y6 : DSt) (Q : Asn) (tm : Int) (d : D22), Mem.le F5 F6 → DHO w0 F6 M6 [] X Y6 Q → DInv Y6 d tm → DBud Y6 → tm ≤ 600000 → t ≤ 1000 → d = (if cc = true then so1 0 else so0 t) → tS.J3 pts cc (some ⟨X.d, 0, none⟩) ⟨ba, 0, none⟩ ⟨bb, 0, none⟩ t M6 := by
  intro t F6 M6 Y6 Q tm d l6 hD6 hv6 hb6 htm ht hd
  refine Eq.mpr (H.J3 ..) ?_
  unfold tS.J3.T nfz
  simp only [cm_bld4, Cmd.v, ob_v, sA_, sC_, zI_, zN_]
  refine DDo_ok (c := ⟨4, 0, 0, 0, 2000, 0⟩) (hX5.le l6) hD6 hv6 hb6 (by omega) (by unfold In64; simp only; omega) fun M7 Y7 hD7 hv7 hb7 _ => ?_
  rw [so_ad d (by rw [hd]; split <;> rfl)] at hv7 ⊢
  simp only [Rep.v, sA_, sC_, zI_, zN_]
  refine ⟨4, ?_⟩
  have h0 : (([] : List Ent).length) + 3 ≤ 5 := by simp
  cases hc : cc with
  | true =>
   rw [hc, if_pos rfl] at hd
   subst hd
   have hv7' : DInv Y7 (so1 2000) (tm + 1) := hv7
   have := key5 3 t 4 F6 M7 Y7 Q (tm + 1) ⟨none, 0, 0⟩ [] (so1 2000) l6 hD7.newNil hv7' hb7 (by omega) (by omega) (by omega) h0 (by rw [so_n1]; rfl) (by rw [so_n1, hc]; rfl)
   rw [hc] at this
   exact this
  | false =>
   rw [hc, if_neg (by decide)] at hd
   subst hd
   by_cases h5 : t ≤ 500
   ·have := key5 3 t 4 F6 M7 Y7 Q (tm + 1) ⟨none, 0, 0⟩ [] _ l6 hD7.newNil hv7 hb7 (by omega) (by omega) (by omega) h0 (by rw [so_n2 h5]; rfl) (by rw [so_n2 h5, hc, if_neg (by decide), if_pos h5])
    rw [hc] at this
    exact this
   ·have := key5 3 t 4 F6 M7 Y7 Q (tm + 1) ⟨none, 0, 0⟩ [] _ l6 hD7.newNil hv7 hb7 (by omega) (by omega) (by omega) h0 (by rw [so_n3 (by omega) ht]; rfl) (by rw [so_n3 (by omega) ht, hc, if_neg (by decide), if_neg h5])
    rw [hc] at this
    exact this
 have key1 : ∀ (t : Int) (F6 M6 : Mem) (Y6 : DSt) (Q : Asn) (tm : Int), Mem.le F5 F6 → DHO w0 F6 M6 [] X Y6 Q → DInv Y6 (so0 t) tm → DBud Y6 → tm ≤ 500000 → t ≤ 1000 → tS.J1 pts cc (some ⟨X.d, 0, none⟩) ⟨ba, 0, none⟩ ⟨bb, 0, none⟩ t M6 := by
  intro t F6 M6 Y6 Q tm l6 hD6 hv6 hb6 htm ht
  refine Eq.mpr (H.J1 ..) ?_
  unfold tS.J1.T nfz
  cases hc : cc with
  | false =>
   rw [bF_]
   have := key3 t F6 M6 Y6 Q tm (so0 t) l6 hD6 hv6 hb6 (by omega) ht (by rw [hc, if_neg (by decide)])
   rw [hc] at this
   exact this
  | true =>
   rw [bs_true]
   have hbl : (std PP w0).bld tRep [(2, .int .i64 t), (3, .int .i64 1)] = some (.agg #[.int .i64 0, .int .i64 0, .int .i64 0, .int .i64 t, .int .i64 1, .int .i64 0]) := bR23 t 1
   simp only [add_eq, Nat.zero_add, ldJob ((oa5.le l6).le hD6.fr), cm_bld3, Cmd.v, ob_v, sA_, sC_, zI_, zN_]
   refine DDo_ok (c := ⟨3, 0, 0, 1, 0, 0⟩) (hX5.le l6) hD6 hv6 hb6 (by omega) (by unfold In64; simp only; omega) fun M7 Y7 hD7 hv7 hb7 _ => ?_
   rw [so_c] at hv7 ⊢
   simp only [Rep.v, hbl, ob_v, sA_, sC_, zI_, zN_, neRepU, shB_v, decide_true, Bool.not_true, bF_]
   have := key3 t F6 M7 Y7 Q (tm + 1) (so1 0) l6 hD7 hv7 hb7 (by omega) ht (by rw [hc, if_pos rfl])
   rw [hc] at this
   exact this
 have lsM : Mem.le M M5 := Mem.le_trans l1 (Mem.le_trans l3 (Mem.le_trans l5 hD5.fr))
 have hmax := hs.max
 have hlen := hs.len
 have key2 : ∀ (r i : Nat) (t : Int) (kk : Nat) (F6 M6 : Mem) (Y6 : DSt) (Q : Asn) (tm : Int), Mem.le F5 F6 → DHO w0 F6 M6 [] X Y6 Q → DInv Y6 (so0 t) tm → DBud Y6 → tm + r ≤ 400000 → t ≤ 1000 → In64 t → i + r = 30 → r < kk → tS.L2 pts kk s cc (some ⟨X.d, 0, none⟩) ⟨ba, 0, none⟩ ⟨bb, 0, none⟩ t (i : Int) M6 := by
  intro r
  induction r with
  | zero =>
   intro i t kk F6 M6 Y6 Q tm l6 hD6 hv6 hb6 htm ht ht64 hi hkk
   obtain ⟨kk, rfl⟩ : ∃ j, kk = j + 1 := ⟨kk - 1, by omega⟩
   refine Eq.mpr (H.L2 ..) ?_
   unfold tS.L2.T nfz
   have := key1 t F6 M6 Y6 Q tm l6 hD6 hv6 hb6 (by omega) ht
   rw [bD_]
   split
   ·rw [bD_, if_neg (by omega)]; exact this
   ·exact this
  | succ r ih =>
   intro i t kk F6 M6 Y6 Q tm l6 hD6 hv6 hb6 htm ht ht64 hi hkk
   obtain ⟨kk, rfl⟩ : ∃ j, kk = j + 1 := ⟨kk - 1, by omega⟩
   refine Eq.mpr (H.L2 ..) ?_
   unfold tS.L2.T nfz
   rw [bD_]
   split
   ·rename_i hin
    rw [bD_, if_pos (by omega)]
    show tS.J4 pts kk s cc (some ⟨X.d, 0, none⟩) ⟨ba, 0, none⟩ ⟨bb, 0, none⟩ t (i : Int) M6
    refine Eq.mpr (H.J4 ..) ?_
    unfold tS.J4.T nfz
    have hil : i < ms.length := by omega
    have e1 := List.getElem?_eq_getElem hil
    generalize ms[i] = u at e1
    have lM6 : Mem.le M M6 := Mem.le_trans l1 (Mem.le_trans l3 (Mem.le_trans l5 (Mem.le_trans l6 hD6.fr)))
    refine rdx W.c2 hs lM6 i rfl e1 ?_
    refine ⟨rfl, by decide, ?_⟩
    have hmod1 : Int.tmod u 1200 < 1200 := Int.tmod_lt_of_pos u (by omega)
    have hmod2 : -1200 < Int.tmod u 1200 := by
     have := Int.tmod_lt_of_pos (-u) (show 0 < (1200 : Int) by omega)
     rw [Int.neg_tmod] at this; omega
    generalize Int.tmod u 1200 = v at hmod1 hmod2
    simp only [add_eq, Nat.zero_add, ldJob ((oa5.le l6).le hD6.fr), cm_bld2, Cmd.v, ob_v, sA_, sC_, zI_, zN_]
    refine DDo_ok (c := ⟨2, 0, 0, 1, v, 0⟩) (hX5.le l6) hD6 hv6 hb6 (by omega) (by unfold In64; simp only; omega) fun M7 Y7 hD7 hv7 hb7 _ => ?_
    rw [so_s] at hv7 ⊢
    have hw : w64 ((i : Int) + 1) = ((i + 1 : Nat) : Int) := by rw [w64_in (by omega)]; omega
    by_cases hlt : t < v
    ·rw [if_pos hlt] at hv7 ⊢
     simp only [Rep.v, sA_, sC_, zI_, zN_]
     refine hD7.box (rp := ⟨26, 0, 0, 0, 0, 0⟩) fun b8 F8 M8 l8 o8 hD8 => ?_
     simp only [add_eq, Nat.zero_add, ldWhy (o8.le hD8.fr), ob_v, zI_]
     rw [neq_bool Tryz.underlying4, ob_v, shB_v, decide_eq_false (show ¬ v ≤ t by omega)]
     rw [show (!(((26 : Int) == 0) == false)) = false from rfl, bF_, bD_, if_pos (show v > t from hlt), bs_bne, if_pos rfl, hw, if_neg (show ¬ v < t by omega)]
     exact ih (i + 1) t kk F8 M8 Y7 Q (tm + 1) (Mem.le_trans l6 l8) hD8 hv7 hb7 (by omega) ht ht64 (by omega) (by omega)
    ·rw [if_neg hlt] at hv7 ⊢
     simp only [Rep.v, sA_, sC_, zI_, zN_]
     refine hD7.box (rp := ⟨0, 0, 0, v, 1, 0⟩) fun b8 F8 M8 l8 o8 hD8 => ?_
     simp only [add_eq, Nat.zero_add, ldWhy (o8.le hD8.fr), ob_v, zI_]
     rw [neq_bool Tryz.underlying4, ob_v, shB_v, decide_eq_true (show v ≤ t by omega)]
     rw [show (!(((0 : Int) == 0) == true)) = false from rfl, bF_, bD_, if_neg (show ¬ v > t from hlt), hw]
     have ht' : (if v < t then v else t) = v := by split <;> omega
     rw [ht']
     exact ih (i + 1) v kk F8 M8 Y7 Q (tm + 1) (Mem.le_trans l6 l8) hD8 hv7 hb7 (by omega) (by omega) (by unfold In64; omega) (by omega) (by omega)
   ·exact key1 t F6 M6 Y6 Q tm l6 hD6 hv6 hb6 (by omega) ht
 exact ⟨31, key2 30 0 1000 31 F5 M5 Y4 _ _ (Mem.le_refl _) hD5 hv4 hb4 (by omega) (by omega) (by unfold In64; omega) (by omega) (by omega)⟩
end
end Go.Proofs.YtodobkbnmjgkdaaGreat.HL
