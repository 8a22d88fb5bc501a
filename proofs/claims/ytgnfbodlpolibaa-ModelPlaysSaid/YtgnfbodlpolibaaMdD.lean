/-
  MdD: sets of entries: one chapter's runs, what comes out in order, what is joined.
-/
import Derived.Test.YtgnfbodlpolibaaMdC
set_option linter.unusedVariables false
set_option linter.unusedSimpArgs false
set_option maxRecDepth 100000
namespace Go.Proofs.Ytgnfbodlpolibaa.HL
open Go.RowKit (Below)
open Go.Proofs

/-- A set in one piece. -/
def SetA (T : TypeId) (s : Nat) (l : List Ent) : Asn := fun r => ∃ sv, star (row1 s [SV.v sv] T) (Es sv l) r

section
variable {w0 : World} {F M : Mem} {R : Value → Mem → Prop}

theorem SetH.toA {T : TypeId} {s : Nat} {l : List Ent} {Q : Asn} (h : SetH w0 F M T s l Q) : Holds w0 F M (star (SetA T s l) Q) := by
  obtain ⟨sv, r, ⟨r1, r2, rfl, q1, r3, r4, rfl, q2, q3⟩, q4⟩ := h
  exact ⟨_, ⟨r1 ++ r3, r4, by simp, ⟨sv, r1, r3, rfl, q1, q2⟩, q3⟩, q4⟩
theorem SetH.ofA {T : TypeId} {s : Nat} {l : List Ent} {Q : Asn} (h : Holds w0 F M (star (SetA T s l) Q)) : SetH w0 F M T s l Q := by
  obtain ⟨r, ⟨r1, r2, rfl, ⟨sv, r3, r4, rfl, q1, q2⟩, q3⟩, q4⟩ := h
  exact ⟨sv, _, ⟨r3, r4 ++ r2, by simp, q1, r4, r2, rfl, q2, q3⟩, q4⟩
theorem Holds.mdr3 {A B D E : Asn} (h : Holds w0 F M (star A (star B (star D E)))) : Holds w0 F M (star D (star A (star B E))) := by
  obtain ⟨F', h1, _, h3⟩ := h.last
  exact (h3 _ _ h1.rot).rot
/-- A slice is written no more. -/
theorem Holds.frSl {k : Nat} {Q : Asn} {s : SV} {l : List Value} (h : Holds w0 F M (star (SlKA k s l) Q)) : ∃ F', Mem.le F F' ∧ Holds w0 F' M Q ∧ SlK w0 F F' k s l := by
  obtain ⟨r, ⟨r1, r2, rfl, h1, h2⟩, h3⟩ := h
  have h4 := h3.perm List.perm_append_comm
  have h5 := h4.aside.1
  have hF : ∀ x ∈ r1, F x.1 = Option.none := fun x hx => (h3.at_ x (List.mem_append_left _ hx)).2.1
  refine ⟨ext F r1, le_ext hF, ⟨r2, h2, h5⟩, ?_⟩
  rcases h1 with ⟨rfl, hl, _⟩ | ⟨b, rest, e, e1, e2, e3, rfl⟩
  · rw [hl]; exact SlK.nil
  · have h6 := h3.at_ (b, l ++ rest, e) (by simp)
    refine .inr ⟨b, rest, e, e1, e2, e3, h6.2.1, h6.1, ?_⟩
    unfold ext
    simp
theorem Holds.frE {Q : Asn} {s : SV} {l : List Ent} (h : Holds w0 F M (star (Es s l) Q)) : ∃ F', Mem.le F F' ∧ Holds w0 F' M Q ∧ RdE w0 F' s l := by
  obtain ⟨F', h1, h2, h3⟩ := Holds.frSl h
  exact ⟨F', h1, h2, h3.rdE⟩
theorem Holds.emp0 : Holds w0 M M emp := ⟨[], rfl, Fit.nil (Mem.le_refl _)⟩
/-- Two sets as a join wants them. -/
theorem join_in {T : TypeId} {s t : Nat} {l m : List Ent} {Q : Asn} (h : Holds w0 F M (star (SetA T t m) (star (SetA T s l) Q))) : ∃ sv tv, Holds w0 F M (star (row1 t [SV.v tv] T) (star (Es tv m) (star (row1 s [SV.v sv] T) (star (Es sv l) Q)))) := by
  obtain ⟨r, ⟨r1, r2, rfl, ⟨tv, r3, r4, rfl, q1, q2⟩, r5, r6, rfl, ⟨sv, r7, r8, rfl, q3, q4⟩, q5⟩, q6⟩ := h
  exact ⟨sv, tv, _, ⟨r3, r4 ++ (r7 ++ (r8 ++ r6)), by simp, q1, r4, _, rfl, q2, r7, _, rfl, q3, r8, _, rfl, q4, q5⟩, q6⟩
theorem join_out {T : TypeId} {s t : Nat} {l m : List Ent} {sv tv : SV} {Q : Asn} (h : Holds w0 F M (star (row1 t [SV.v tv] T) (star (Es tv m) (star (row1 s [SV.v sv] T) (star (Es sv l) Q))))) : Holds w0 F M (star (SetA T t m) (star (SetA T s l) Q)) := by
  obtain ⟨r, ⟨r3, r4, rfl, q1, r5, r6, rfl, q2, r7, r8, rfl, q3, r9, r10, rfl, q4, q5⟩, q6⟩ := h
  exact ⟨_, ⟨r3 ++ r5, (r7 ++ r9) ++ r10, by simp, ⟨tv, r3, r5, rfl, q1, q2⟩, r7 ++ r9, r10, rfl, ⟨sv, r7, r9, rfl, q3, q4⟩, q5⟩, q6⟩
/-- A join, whether it is refused or not. -/
def Disj (l m : List Ent) : Prop := ∀ e ∈ m, fnd l e.2 = none
theorem not_disj {l m : List Ent} (h : ¬ Disj l m) : ∃ e ∈ m, (fnd l e.2).isSome = true := by
  apply Classical.byContradiction
  intro hn
  refine h fun e he => ?_
  cases hf : fnd l e.2 with
  | none => rfl
  | some i => exact absurd ⟨e, he, by rw [hf]; rfl⟩ hn
theorem disj_not {l m : List Ent} (h : Disj l m) : ¬ ∃ e ∈ m, (fnd l e.2).isSome = true := fun ⟨e, he, h2⟩ => by
  rw [h e he] at h2; cases h2
theorem mJoinA_ok {s t : Nat} {l m : List Ent} {Q : Asn} (h : Holds w0 F M (star (SetA tS t m) (star (SetA tS s l) Q))) (hb : l.length + m.length ≤ 10000)
    (h0 : ¬ Disj l m → ∀ M', Holds w0 F M' (star (SetA tS t m) (star (SetA tS s l) Q)) → R (.bool false) M')
    (h1 : Disj l m → ∀ M', Holds w0 F M' (star (SetA tS t []) (star (SetA tS s (insAll l m)) Q)) → R (.bool true) M') :
    C PP w0 Id.model_Set_Join #[.pointer (some ⟨s, 0, none⟩), .pointer (some ⟨t, 0, none⟩)] R M := by
  obtain ⟨sv, tv, h2⟩ := join_in h
  exact mJoin_ok h2 hb (fun hd M' sv' tv' h3 => h0 (fun hn => disj_not hn hd) M' (join_out h3)) fun hd M' sv' tv' h3 => h1 hd M' (join_out h3)
theorem rJoinA_ok {s t : Nat} {l m : List Ent} {Q : Asn} (h : Holds w0 F M (star (SetA tR t m) (star (SetA tR s l) Q))) (hsr : Srt l) (hb : l.length + m.length ≤ 10000)
    (h0 : ¬ Disj l m → ∀ M', Holds w0 F M' (star (SetA tR t m) (star (SetA tR s l) Q)) → R (.bool false) M')
    (h1 : Disj l m → ∀ M', Holds w0 F M' (star (SetA tR t []) (star (SetA tR s (insAll l m)) Q)) → R (.bool true) M') :
    C PP w0 Id.thicketref16_Set_Join #[.pointer (some ⟨s, 0, none⟩), .pointer (some ⟨t, 0, none⟩)] R M := by
  obtain ⟨sv, tv, h2⟩ := join_in h
  exact rJoin_ok h2 hsr hb (fun hd => h0 (fun hn => disj_not hn hd) M (join_out h2)) fun hd M' sv' tv' h3 => h1 hd M' (join_out h3)
theorem mJoinNil_ok {s : Nat} {l : List Ent} {Q : Asn} (h : SetH w0 F M tS s l Q) (hR : ∀ M', SetH w0 F M' tS s l Q → R (.bool false) M') : C PP w0 Id.model_Set_Join #[.pointer (some ⟨s, 0, none⟩), .pointer none] R M := by
  apply model_Set_Join.go
  intro pts H
  unfold model_Set_Join.T
  intro b hb0 hw0
  have h2 := h.le (Mem.le_set (.row [.pointer (some ⟨s, 0, none⟩)] 37) hb0)
  simp only [go_sem, Option.isNone_none, bs_true]
  exact hR _ h2
theorem mJoinSelf_ok {s : Nat} {l : List Ent} {Q : Asn} (h : SetH w0 F M tS s l Q) (hR : ∀ M', SetH w0 F M' tS s l Q → R (.bool false) M') : C PP w0 Id.model_Set_Join #[.pointer (some ⟨s, 0, none⟩), .pointer (some ⟨s, 0, none⟩)] R M := by
  apply model_Set_Join.go
  intro pts H
  unfold model_Set_Join.T
  intro b hb0 hw0
  obtain ⟨sv, h1⟩ := h
  have hN := Holds.new h1 hb0 hw0 [.pointer (some ⟨s, 0, none⟩)] 37
  obtain ⟨F1, hle1, hown, hH⟩ := Holds.freeze1 hN
  generalize M.set b _ = M1 at hH ⊢
  have e1 : rd w0 M1 ⟨b, 0, none⟩ = some (.pointer (some ⟨s, 0, none⟩)) := rd_own (o := 0) (hown.le hH.fr)
  simp only [go_sem, Option.isNone_some, bs_false, e1]
  rw [ptr_same (n := 0) Try.underlying37 (by kernel_rfl)]
  simp only [ob_v, shB_v, bs_true]
  exact hR _ (SetH.unfrm ⟨sv, hH⟩ hle1)

/-- One chapter's runs. -/
theorem Mknown_ok (hR : ∀ M', R (.bool true) M') : C PP w0 Id.thicketlaw16_known #[] R M := by
  apply thicketlaw16_known.go
  intro pts H
  unfold thicketlaw16_known.T
  refine mNew_ok (Holds.emp0 (w0 := w0) (M := M)) fun M1 s h1 _ => ?_
  have hb1 : (std PP w0).bld 40 [(0, .int .i64 5)] = some (.agg #[.int .i64 5, .int .i64 0]) := by kernel_rfl
  have hb2 : (std PP w0).bld 40 [(0, .int .i64 1)] = some (.agg #[.int .i64 1, .int .i64 0]) := by kernel_rfl
  have hb3 : (std PP w0).bld 40 [(0, .int .i64 5), (1, .int .i64 1)] = some (.agg #[.int .i64 5, .int .i64 1]) := by kernel_rfl
  simp only [go_sem, Option.isNone_some, bs_false, hb1, hb2, hb3]
  refine mInsert_ok (e := (5, 0)) h1 (by decide) (fun i hi => absurd hi (by simp [fnd])) fun _ M2 h2 => ?_
  rw [show ins [] (5, 0) = [(5, 0)] from rfl] at h2
  rw [shB_v, Bool.not_true, bs_false]
  refine mInsert_ok (e := (1, 0)) h2 (by decide) (fun i hi M3 h3 => ?_) fun hn => absurd hn (by simp [fnd])
  rw [shB_v, bs_false]
  refine mInsert_ok (e := (5, 1)) h3 (by decide) (fun i hi => absurd hi (by simp [fnd])) fun _ M4 h4 => ?_
  rw [show ins [(5, 0)] (5, 1) = [(5, 0), (5, 1)] from rfl] at h4
  rw [shB_v, Bool.not_true, bs_false, H.J1]
  unfold thicketlaw16_known.J1.T
  refine mMin_ok h4 (by decide) fun M5 h5 => ?_
  simp only [go_sem, List.headD_cons, List.isEmpty_cons, Bool.not_false]
  obtain ⟨sv, h6⟩ := h5
  refine boxE h6 5 0 fun b F1 M6 hle hH1 hbx => ?_
  have e1 := (hbx _ hH1.fr).2.2
  rw [bs_true, e1]
  simp only [go_sem, eqE, beq_self_eq_true, Bool.and_self, bs_true]
  refine mJoinSelf_ok ⟨sv, hH1⟩ fun M7 h7 => ?_
  rw [shB_v, Bool.not_false, bs_true]
  refine mJoinNil_ok h7 fun M8 h8 => ?_
  rw [shB_v, Bool.not_false, bs_true]
  refine mLen_ok h8 ?_
  rw [shI_v, show ((([(5, 0), (5, 1)] : List Ent).length : Int) == 2) = true from rfl, bs_true]
  refine mLower_ok h8 (by decide) fun M9 h9 => ?_
  rw [show lowE [(5, 0), (5, 1)] 1 2 = [(2, 1), (5, 0)] from by decide +kernel] at h9
  rw [shB_v, show lowB [(5, 0), (5, 1)] 1 2 = true from by decide +kernel, bs_true]
  refine mLower_ok h9 (by decide) fun M10 h10 => ?_
  rw [shB_v, show lowB [(2, 1), (5, 0)] 1 3 = false from by decide +kernel]
  exact hR _

theorem shA2 {a b : Value} {K : Value → Value → Prop} : shA (.agg #[a, b]) (fun l => shCons l fun u r => shCons r fun u2 r2 => shNil r2 (K u u2)) = K a b := propext Iff.rfl

/-- All come out in order, each once. -/
theorem ModelOrder_ok (hR : ∀ M', R (.bool true) M') {s : SV} {l : List Int} (hs : RdF w0 M 2 s l) : C PP w0 Id.thicketlaw16_ModelOrder #[SV.v s] R M := by
  apply thicketlaw16_ModelOrder.go
  intro pts H
  unfold thicketlaw16_ModelOrder.T
  refine mNew_ok (Holds.emp0 (w0 := w0) (M := M)) fun M1 t h1 _ => ?_
  simp only [go_sem, Option.isNone_some, bs_false]
  -- out they come
  have key3 : ∀ (k i : Nat) (z : List Ent) (zs : SV) (F' M' : Mem), z.length ≤ 40 → i ≤ z.length → z.length < i + k → RdE w0 F' zs z → SetH w0 F' M' tS t (z.drop i) emp → thicketlaw16_ModelOrder.L3 pts k (some ⟨t, 0, none⟩) zs (i : Int) M' := by
    intro k
    induction k with
    | zero => intro i z zs F' M' h1 h2 h3; omega
    | succ k ih =>
      intro i z zs F' M' hz hi hk hrd hS
      rw [H.L3]
      unfold thicketlaw16_ModelOrder.L3.T
      have hzn := hrd.len
      rw [bs_decide]
      split
      · have hlt : i < z.length := by omega
        have ey := List.getElem?_eq_getElem hlt
        have ed : z.drop i = z[i] :: z.drop (i + 1) := List.drop_eq_getElem_cons hlt
        generalize z[i] = y at ey ed
        rw [ed] at hS
        refine mPop_ok hS (by simp; omega) fun M2 h2 => ?_
        simp only [go_sem, List.headD_cons, List.isEmpty_cons, Bool.not_false, List.tail_cons] at h2 ⊢
        obtain ⟨sv, h2⟩ := h2
        refine boxE h2 y.1 y.2 fun b F1 M3 hle hH1 hbx => ?_
        have e1 := (hbx _ hH1.fr).2.2
        rw [Bool.not_true, bs_false, e1]
        simp only [go_sem]
        refine rdE (hrd.le hle) hH1.fr i rfl ey ?_
        simp only [neE, go_sem, beq_self_eq_true, Bool.and_self, Bool.not_true, bs_false]
        rw [i64_succ (by omega)]
        exact ih (i + 1) z zs F1 M3 hz (by omega) (by omega) (hrd.le hle) ⟨sv, hH1⟩
      · have hi' : i = z.length := by omega
        subst hi'
        rw [List.drop_length] at hS
        refine mPop_ok hS (by decide) fun M2 h2 => ?_
        simp only [go_sem, List.headD_nil, List.isEmpty_nil, Bool.not_true, List.tail_nil] at h2 ⊢
        obtain ⟨sv, h2⟩ := h2
        refine boxE h2 0 0 fun b F1 M3 hle hH1 hbx => ?_
        rw [Bool.not_false, bs_true]
        refine mLen_ok ⟨sv, hH1⟩ ?_
        rw [shI_v, show ((([] : List Ent).length : Int) == 0) = true from rfl, bs_true]
        refine Mknown_ok fun M4 => ?_
        rw [shB_v]; exact hR _
  -- what was put in
  have keyJ : ∀ (ent cur : List Ent) (is : SV) (M' : Mem), ent.length ≤ 40 → Srt cur → cur.Perm ent → Holds w0 M M' (star (SetA tS t cur) (star (Es is ent) emp)) → thicketlaw16_ModelOrder.J1 pts (some ⟨t, 0, none⟩) is M' := by
    intro ent cur is M' he hsr hp hH
    rw [H.J1]
    unfold thicketlaw16_ModelOrder.J1.T
    refine rSort_ok hH hH.right.rdE (by omega) fun M2 s2 z l2 h2 hz hpz => ?_
    rw [shS_sv]
    have hzc : z = cur := Srt.eq hz hsr (hpz.trans hp.symm)
    subst hzc
    obtain ⟨F1, hle, h3, h4⟩ := h2.frE
    have hl := hpz.length_eq
    refine ⟨z.length + 1, key3 (z.length + 1) 0 z s2 F1 M2 (by omega) (by omega) (by omega) h4 ?_⟩
    rw [List.drop_zero]
    exact SetH.ofA h3.skip2
  have key2 : ∀ (k i : Nat) (ent cur : List Ent) (is : SV) (M' : Mem), i ≤ s.n → i ≤ 40 → 40 < i + k → ent.length = i → (∀ x ∈ ent, x.2 < (i : Int)) → Srt cur → cur.Perm ent → Holds w0 M M' (star (SetA tS t cur) (star (Es is ent) emp)) →
      thicketlaw16_ModelOrder.L2 pts k s (some ⟨t, 0, none⟩) is (i : Int) M' := by
    intro k
    induction k with
    | zero => intro i ent cur is M' h1 h2 h3; omega
    | succ k ih =>
      intro i ent cur is M' hi h40 hk hlen hser hsr hp hH
      rw [H.L2]
      unfold thicketlaw16_ModelOrder.L2.T
      rw [bs_decide]
      split
      · rw [bs_decide]
        split
        · have hlt : i < s.n := by omega
          rw [H.J4]
          unfold thicketlaw16_ModelOrder.J4.T
          obtain ⟨x, ex, hx⟩ := hs.get (f := 0) hlt (by decide)
          refine rdf0L W.c2 hs hH.fr i rfl hlt ex ?_
          have hbd : (std PP w0).bld 40 [(0, .int .i64 x), (1, .int .i64 (i : Int))] = some (.agg #[.int .i64 x, .int .i64 (i : Int)]) := by kernel_rfl
          simp only [hbd, go_sem]
          refine boxE hH x i fun b F1 M3 hle hH1 hbx => ?_
          have e1 := (hbx _ hH1.fr).2.2
          rw [e1]
          simp only [go_sem]
          have hno : fnd cur (i : Int) = none := fnd_no fun y hy => by
            have := hser y (hp.mem_iff.1 hy)
            omega
          refine mInsert_ok (e := (x, (i : Int))) (SetH.ofA hH1) (by rw [hp.length_eq]; omega) (fun j hj => absurd (hno.symm.trans hj) (by simp)) fun _ M4 h4 => ?_
          rw [shB_v, Bool.not_true, bs_false]
          have e2 := (hbx _ h4.fr).2.2
          rw [e2]
          simp only [go_sem]
          refine newE h4.toA x i fun M5 s5 l5 h5 => ?_
          rw [shS_sv]
          refine appE h5.mdr3 h5.rdE (by simp; omega) fun M6 s6 h6 => ?_
          rw [shS_sv, i64_succ (by omega)]
          have h7 : Holds w0 F1 M6 (star (SetA tS t (ins cur (x, (i : Int)))) (star (Es s6 (ent ++ [(x, (i : Int))])) emp)) := by
            have := h6.skip2
            exact this.rot
          refine ih (i + 1) _ _ s6 M6 (by omega) (by omega) (by omega) (by simp [hlen]) (fun y hy => ?_) (ins_srt hsr) ?_ (h7.unfrm hle)
          · rcases List.mem_append.1 hy with hy | hy
            · have := hser y hy; omega
            · rw [List.mem_singleton.1 hy]; show (i : Int) < _; omega
          · exact (ins_perm _ _).trans ((List.Perm.cons _ hp).trans (List.perm_append_comm (l₁ := [(x, (i : Int))]) (l₂ := ent)))
        · exact keyJ ent cur is M' (by omega) hsr hp hH
      · exact keyJ ent cur is M' (by omega) hsr hp hH
  refine ⟨41, key2 41 0 [] [] ⟨none, 0, 0⟩ M1 (by omega) (by omega) (by omega) rfl (fun x hx => by cases hx) Srt.nil (List.Perm.refl _) ?_⟩
  exact (Holds.nilSlk (k := 2) h1.toA).rot

theorem insAll_nil (m : List Ent) : (insAll [] m).Perm m := insAll_perm m []

/-- What is joined holds all of both; a join that is refused changes nothing. -/
theorem ModelJoins_ok (hR : ∀ M', R (.bool true) M') {sa sb : SV} {la lb : List Int} (ha : RdI w0 M .i64 sa la) (hb : RdI w0 M .i64 sb lb) (same : Bool) : C PP w0 Id.thicketlaw16_ModelJoins #[SV.v sa, SV.v sb, .bool same] R M := by
  apply thicketlaw16_ModelJoins.go
  intro pts H
  unfold thicketlaw16_ModelJoins.T
  refine mNew_ok (Holds.emp0 (w0 := w0) (M := M)) fun M1 s h1 _ => ?_
  rw [shP_v]
  refine mNew_ok h1.toA fun M2 t h2 _ => ?_
  simp only [go_sem, Option.isNone_some, bs_false]
  rw [H.J1]
  unfold thicketlaw16_ModelJoins.J1.T
  -- the last part, where no join is refused
  have keyJ5 : ∀ (F' M' : Mem) (sl tl : List Ent) (x y : SV), sl.length ≤ 30 → tl.length ≤ 30 → Srt sl → Disj sl tl → RdE w0 F' x sl → RdE w0 F' y tl → Holds w0 F' M' (star (SetA tS t tl) (star (SetA tS s sl) emp)) → thicketlaw16_ModelJoins.J5 pts (some ⟨s, 0, none⟩) (some ⟨t, 0, none⟩) x y M' := by
    intro F' M' sl tl x y hl1 hl2 hsr hd hx hy hH
    rw [H.J5]
    unfold thicketlaw16_ModelJoins.J5.T
    refine mJoinA_ok hH (by omega) (fun hn => absurd hd hn) fun _ M3 h3 => ?_
    rw [shB_v, bs_true]
    refine mLen_ok (SetH.ofA h3) ?_
    rw [shI_v, show ((([] : List Ent).length : Int) == 0) = true from rfl, bs_true]
    have hlen : (insAll sl tl).length = sl.length + tl.length := by rw [(insAll_perm tl sl).length_eq, List.length_append]
    refine mAll_ok (SetH.ofA h3.rot) (by omega) fun M4 F4 a l4 h4 hra => ?_
    rw [shS_sv]
    refine newE0 h4.toA fun M5 s5 l5 _ h5 => ?_
    rw [shS_sv]
    refine appE h5 ((hx.le l4).le h5.fr) (by simp; omega) fun M6 s6 h6 => ?_
    rw [shS_sv]
    refine appE h6 ((hy.le l4).le h6.fr) (by simp; omega) fun M7 s7 h7 => ?_
    rw [shS_sv]
    refine rSort_ok h7 h7.rdE (by simp; omega) fun M8 s8 z l8 h8 hz hpz => ?_
    rw [shS_sv]
    have hzi : z = insAll sl tl := Srt.eq hz (insAll_srt tl hsr) (hpz.trans (insAll_perm tl sl).symm)
    subst hzi
    refine SameE_ok (hra.le h8.fr) h8.rdE (by omega) ?_
    rw [shB_v, decide_eq_true rfl, bs_true]
    refine Mknown_ok fun M9 => ?_
    rw [shB_v]; exact hR _
  obtain ⟨n, en, hn1, hn2⟩ : ∃ n : Nat, (if (30 : Int) < ((sa.n : Nat) : Int) then 30 else ((sa.n : Nat) : Int)) = (n : Int) ∧ n ≤ 30 ∧ n ≤ sa.n := by
    split
    · exact ⟨30, rfl, by omega, by omega⟩
    · exact ⟨sa.n, rfl, by omega, by omega⟩
  obtain ⟨m, em, hm1, hm2⟩ : ∃ m : Nat, (if (30 : Int) < ((sb.n : Nat) : Int) then 30 else ((sb.n : Nat) : Int)) = (m : Int) ∧ m ≤ 30 ∧ m ≤ sb.n := by
    split
    · exact ⟨30, rfl, by omega, by omega⟩
    · exact ⟨sb.n, rfl, by omega, by omega⟩
  rw [en]
  have hna := ha.len
  have hnb := hb.len
  have key3 : ∀ (k i : Nat) (F' M' : Mem) (sl tl : List Ent), Mem.le M F' → i ≤ m → m < i + k → sl.length = n → tl.length ≤ i → Srt sl → (∀ x ∈ sl, x.2 < (n : Int)) → (0 < n → ∃ x ∈ sl, x.2 = 0) → (∀ x ∈ tl, x.2 = 0 ∧ same = true ∧ i = m ∨ (n : Int) ≤ x.2) → (same = true → i = m → 0 < m → ∃ x ∈ tl, x.2 = 0) →
      Holds w0 F' M' (star (SetA tS t tl) (star (SetA tS s sl) emp)) → thicketlaw16_ModelJoins.L3 pts k sb same (some ⟨s, 0, none⟩) (some ⟨t, 0, none⟩) (n : Int) (m : Int) (i : Int) M' := by
    intro k
    induction k with
    | zero => intro i F' M' sl tl hF h1 h2; omega
    | succ k ih =>
      intro i F' M' sl tl hF hi hk hsl htl hsr hs1 hs2 ht1 ht2 hH
      rw [H.L3]
      unfold thicketlaw16_ModelJoins.L3.T
      rw [bs_decide]
      split
      · have hlt : i < m := by omega
        have keyJ4 : ∀ kk : Int, (kk = 0 ∧ same = true ∧ i + 1 = m ∨ (n : Int) ≤ kk) → (same = true → i + 1 = m → kk = 0) → thicketlaw16_ModelJoins.J4 pts k sb same (some ⟨s, 0, none⟩) (some ⟨t, 0, none⟩) (n : Int) (m : Int) (i : Int) kk M' := by
          intro kk hk1 hk2
          rw [H.J4]
          unfold thicketlaw16_ModelJoins.J4.T
          have ey : lb[i]? = some lb[i] := List.getElem?_eq_getElem (by omega)
          generalize lb[i] = y at ey
          refine rdx W.c2 hb (Mem.le_trans hF hH.fr) i rfl ey ?_
          have hbd : (std PP w0).bld 40 [(0, .int .i64 y), (1, .int .i64 kk)] = some (.agg #[.int .i64 y, .int .i64 kk]) := by kernel_rfl
          simp only [hbd, go_sem]
          refine mInsert_ok (e := (y, kk)) (SetH.ofA hH) (by omega) (fun j hj M3 h3 => ?_) fun hno M3 h3 => ?_
          · rw [shB_v, i64_succ (by omega)]
            refine ih (i + 1) F' M3 sl tl hF (by omega) (by omega) hsl (by omega) hsr hs1 hs2 (fun x hx => ?_) (fun q1 q2 _ => ?_) h3.toA
            · rcases ht1 x hx with ⟨_, _, q⟩ | q
              · omega
              · exact .inr q
            · obtain ⟨w, hw1, hw2, _⟩ := fnd_some hj
              exact ⟨w, List.mem_of_getElem? hw1, hw2.trans (hk2 q1 q2)⟩
          · rw [shB_v, i64_succ (by omega)]
            refine ih (i + 1) F' M3 sl (ins tl (y, kk)) hF (by omega) (by omega) hsl (by rw [ins_len]; omega) hsr hs1 hs2 (fun x hx => ?_) (fun q1 q2 _ => ⟨(y, kk), ins_mem.2 (.inl rfl), hk2 q1 q2⟩) h3.toA
            rcases ins_mem.1 hx with rfl | hx
            · exact hk1
            · rcases ht1 x hx with ⟨_, _, q⟩ | q
              · omega
              · exact .inr q
        cases same with
        | false =>
          rw [bs_false, w64_in (by omega)]
          exact keyJ4 _ (.inr (by omega)) (fun q => by cases q)
        | true =>
          rw [bs_true, bs_beq]
          split
          · rename_i q
            rw [w64_in (by omega)] at q
            exact keyJ4 _ (.inl ⟨rfl, rfl, by omega⟩) fun _ _ => rfl
          · rename_i q
            rw [w64_in (by omega)] at q
            rw [w64_in (by omega)]
            exact keyJ4 _ (.inr (by omega)) fun _ q2 => by omega
      · have him : i = m := by omega
        refine mAll_ok (SetH.ofA hH.rot) (by omega) fun M3 F3 x l3 h3 hx => ?_
        rw [shS_sv]
        refine mAll_ok (SetH.ofA h3.toA.rot) (by omega) fun M4 F4 y l4 h4 hy => ?_
        rw [shS_sv]
        have hx4 := hx.le l4
        have h4 := h4.toA
        by_cases hc : same = true ∧ 0 < m ∧ 0 < n
        · obtain ⟨rfl, hc1, hc2⟩ := hc
          have hnd : ¬ Disj sl tl := fun hd => by
            obtain ⟨w, hw1, hw2⟩ := ht2 rfl him hc1
            obtain ⟨v, hv1, hv2⟩ := hs2 hc2
            exact fnd_none (hd w hw1) v hv1 (by omega)
          rw [bs_true, bs_decide, if_pos (by omega), bs_decide, if_pos (by omega)]
          refine mJoinA_ok h4 (by omega) (fun _ M5 h5 => ?_) fun hd => absurd hd hnd
          rw [shB_v, Bool.not_false, bs_true]
          refine mAll_ok (SetH.ofA h5.rot) (by omega) fun M6 F6 x2 l6 h6 hx2 => ?_
          rw [shS_sv]
          refine SameE_ok (hx2.le h6.fr) ((hx4.le l6).le h6.fr) (by omega) ?_
          rw [shB_v, decide_eq_true rfl, bs_true]
          refine mAll_ok (SetH.ofA h6.toA.rot) (by omega) fun M7 F7 y2 l7 h7 hy2 => ?_
          rw [shS_sv]
          refine SameE_ok (hy2.le h7.fr) (((hy.le l6).le l7).le h7.fr) (by omega) ?_
          rw [shB_v, decide_eq_true rfl, bs_true]
          refine Mknown_ok fun M9 => ?_
          rw [shB_v]; exact hR _
        · have hd : Disj sl tl := fun e he => fnd_no fun v hv hq => by
            have h1 := hs1 v hv
            rcases ht1 e he with ⟨q1, q2, q3⟩ | q
            · refine hc ⟨q2, ?_, ?_⟩
              · have := List.length_pos_of_mem he; omega
              · have := List.length_pos_of_mem hv; omega
            · omega
          have key := keyJ5 F4 M4 sl tl x y (by omega) (by omega) hsr hd hx4 hy h4
          simp only [bs_decide]
          cases same with
          | false => rw [bs_false]; exact key
          | true =>
            rw [bs_true]
            split
            · split
              · exact absurd ⟨rfl, by omega, by omega⟩ hc
              · exact key
            · exact key
  have key2 : ∀ (k i : Nat) (M' : Mem) (sl : List Ent), i ≤ n → n < i + k → sl.length = i → Srt sl → (∀ x ∈ sl, x.2 < (i : Int)) → (0 < i → ∃ x ∈ sl, x.2 = 0) →
      Holds w0 M M' (star (SetA tS t []) (star (SetA tS s sl) emp)) → thicketlaw16_ModelJoins.L2 pts k sa sb same (some ⟨s, 0, none⟩) (some ⟨t, 0, none⟩) (n : Int) (i : Int) M' := by
    intro k
    induction k with
    | zero => intro i M' sl h1 h2; omega
    | succ k ih =>
      intro i M' sl hi hk hsl hsr hs1 hs2 hH
      rw [H.L2]
      unfold thicketlaw16_ModelJoins.L2.T
      rw [bs_decide]
      split
      · have hlt : i < n := by omega
        have ey : la[i]? = some la[i] := List.getElem?_eq_getElem (by omega)
        generalize la[i] = y at ey
        refine rdx W.c2 ha hH.fr i rfl ey ?_
        have hbd : (std PP w0).bld 40 [(0, .int .i64 y), (1, .int .i64 (i : Int))] = some (.agg #[.int .i64 y, .int .i64 (i : Int)]) := by kernel_rfl
        simp only [hbd, go_sem]
        have hno : fnd sl (i : Int) = none := fnd_no fun v hv => by
          have := hs1 v hv; omega
        refine mInsert_ok (e := (y, (i : Int))) (SetH.ofA hH.rot) (by omega) (fun j hj => absurd (hno.symm.trans hj) (by simp)) fun _ M3 h3 => ?_
        rw [shB_v, Bool.not_true, bs_false, i64_succ (by omega)]
        refine ih (i + 1) M3 _ (by omega) (by omega) (by rw [ins_len]; omega) (ins_srt hsr) (fun x hx => ?_) (fun _ => ?_) h3.toA.rot
        · rcases ins_mem.1 hx with rfl | hx
          · show (i : Int) < _; omega
          · have := hs1 x hx; omega
        · by_cases h0 : i = 0
          · subst h0; exact ⟨(y, ((0 : Nat) : Int)), ins_mem.2 (.inl rfl), rfl⟩
          · obtain ⟨x, hx1, hx2⟩ := hs2 (by omega)
            exact ⟨x, ins_mem.2 (.inr hx1), hx2⟩
      · have hin : i = n := by omega
        subst hin
        rw [em]
        exact ⟨m + 1, key3 (m + 1) 0 M M' sl [] (Mem.le_refl _) (by omega) (by omega) hsl (by simp) hsr hs1 hs2 (fun x hx => by cases hx) (fun _ q1 q2 => by omega) hH⟩
  exact ⟨n + 1, key2 (n + 1) 0 M2 [] (by omega) (by omega) rfl Srt.nil (fun x hx => by cases hx) (fun q => by omega) h2.toA⟩

end
end Go.Proofs.Ytgnfbodlpolibaa.HL
