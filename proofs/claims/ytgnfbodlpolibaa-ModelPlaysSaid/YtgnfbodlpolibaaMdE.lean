/-
  MdE: sets of entries: calls, against the document's set.
-/
import Derived.Test.YtgnfbodlpolibaaMdD
set_option linter.unusedVariables false
set_option linter.unusedSimpArgs false
set_option maxRecDepth 100000
namespace Go.Proofs.Ytgnfbodlpolibaa.HL
open Go.RowKit (Below)
open Go.Proofs

/-- One call. -/
structure AskV where
  kind : Int
  key : Int
  ser : Int
  arg : Int
  so : SV
  oth : List Ent
instance : Inhabited AskV := ⟨⟨0, 0, 0, 0, ⟨none, 0, 0⟩, []⟩⟩
def AskV.cells (a : AskV) : List Value := [.int .i64 a.kind, .int .i64 a.key, .int .i64 a.ser, .int .i64 a.arg, SV.v a.so]

/-- What a set must be for the two to agree. -/
structure SInv (n : Nat) (l : List Ent) : Prop where
  srt : Srt l
  nod : (l.map (·.2)).Nodup
  len : l.length ≤ n
theorem SInv.sub {n : Nat} {l m : List Ent} (h : SInv n l) (hs : m.Sublist l) : SInv n m := ⟨h.srt.sub hs, h.nod.sublist (hs.map _), Nat.le_trans hs.length_le h.len⟩
theorem SInv.more {n n' : Nat} {l : List Ent} (h : SInv n l) (hn : n ≤ n') : SInv n' l := ⟨h.srt, h.nod, Nat.le_trans h.len hn⟩
theorem SInv.nil {n : Nat} : SInv n [] := ⟨Srt.nil, List.nodup_nil, Nat.zero_le _⟩
theorem SInv.ins {n : Nat} {l : List Ent} {e : Ent} (h : SInv n l) (hf : fnd l e.2 = none) : SInv (n + 1) (ins l e) := by
  refine ⟨ins_srt h.srt, ?_, by rw [ins_len]; exact Nat.succ_le_succ h.len⟩
  refine (((ins_perm l e).map _).nodup_iff).2 ?_
  rw [List.map_cons]
  refine List.nodup_cons.2 ⟨fun hm => ?_, h.nod⟩
  obtain ⟨x, hx, he⟩ := List.mem_map.1 hm
  exact fnd_none hf x hx he
theorem rmv_sub (l : List Ent) (x : Int) : (rmv l x).Sublist l := by
  unfold rmv
  split
  · exact List.eraseIdx_sublist _ _
  · exact List.Sublist.refl _
theorem SInv.rmv {n : Nat} {l : List Ent} {x : Int} (h : SInv n l) : SInv n (rmv l x) := h.sub (rmv_sub l x)
theorem SInv.low {n : Nat} {l : List Ent} {x k : Int} (h : SInv n l) : SInv (n + 1) (lowE l x k) := by
  unfold lowE
  split
  · exact h.rmv.ins (rmv_none h.nod)
  · exact h.more (by omega)
theorem SInv.join {n m : Nat} {l o : List Ent} (h : SInv n l) (h2 : SInv m o) (hd : Disj l o) : SInv (n + m) (insAll l o) := by
  refine ⟨insAll_srt o h.srt, ?_, by rw [(insAll_perm o l).length_eq, List.length_append]; exact Nat.add_le_add h.len h2.len⟩
  refine (((insAll_perm o l).map _).nodup_iff).2 ?_
  rw [List.map_append]
  refine List.nodup_append.2 ⟨h.nod, h2.nod, fun a ha b hb hab => ?_⟩
  obtain ⟨x, hx, rfl⟩ := List.mem_map.1 ha
  obtain ⟨y, hy, rfl⟩ := List.mem_map.1 hb
  exact fnd_none (hd y hy) x hx hab

section
variable {w0 : World} {F M : Mem} {R : Value → Mem → Prop}

/-- Calls that are read. -/
structure RdA (w0 : World) (M0 : Mem) (s : SV) (l : List AskV) : Prop where
  len : s.n = l.length
  cells : ∀ (j : Nat) (a : AskV), l[j]? = some a → ∃ ad, s.a = some ad ∧ ∀ M, Mem.le M0 M → ∀ (f : Nat) v, a.cells[f]? = some v → rd w0 M ((ad.add (j * 5)).add f) = some v
  oth : ∀ a ∈ l, RdE w0 M0 a.so a.oth

theorem Holds.mdr3i {A B D E : Asn} (h : Holds w0 F M (star D (star A (star B E)))) : Holds w0 F M (star A (star B (star D E))) := h.mdr3.mdr3
theorem Holds.mdr4 {A B C D E : Asn} (h : Holds w0 F M (star A (star B (star C (star D E))))) : Holds w0 F M (star D (star A (star B (star C E)))) := by
  obtain ⟨F', h1, _, h3⟩ := h.last
  exact (h3 _ _ h1.mdr3).rot
theorem Holds.mdr4i {A B C D E : Asn} (h : Holds w0 F M (star D (star A (star B (star C E))))) : Holds w0 F M (star A (star B (star C (star D E)))) := h.mdr4.mdr4.mdr4
/-- An entry's place is written. -/
theorem stEnt {b : Nat} {c0 c1 : Value} {x y : Int} {Q : Asn} (h : Holds w0 F M (star (row1 b [c0, c1] 40) Q)) {K : Mem → Prop} (hK : ∀ M', Holds w0 F M' (star (row1 b [.int .i64 x, .int .i64 y] 40) Q) → K M') :
    (std PP w0).st 40 ⟨b, 0, none⟩ (.agg #[.int .i64 x, .int .i64 y]) (fun M' => K M') M := by
  refine st_agg (vs := [.int .i64 x, .int .i64 y]) W.g40 (Holds.own1 h) (by simp) (by intro v hv; simp only [List.mem_cons, List.not_mem_nil, or_false] at hv; rcases hv with rfl | rfl <;> rfl) ?_
  exact hK _ (Holds.upd1 h (cs' := over [c0, c1] 0 [.int .i64 x, .int .i64 y]) (e' := 40))
theorem stC {t : TypeId} (ht : cell1 PP t = true) {b o : Nat} {cs cs' : List Value} {e : TypeId} {v : Value} {Q : Asn} (h : Holds w0 F M (star (row1 b cs e) Q)) (ho : o < cs.length) (hv : onecell v = true) (hc : v.cells = #[v]) (he : cs.set o v = cs') {K : Mem → Prop} (hK : ∀ M', Holds w0 F M' (star (row1 b cs' e) Q) → K M') :
    (std PP w0).st t ⟨b, o, none⟩ v (fun M' => K M') M := by
  subst he
  exact st_one ht h.own1 ho hv hc (hK _ h.upd1)
theorem ldEnt {b : Nat} {x y : Int} (h : Own w0 F b [.int .i64 x, .int .i64 y] 40) (hl : Mem.le F M) : (std PP w0).ld 40 ⟨b, 0, none⟩ M = some (.agg #[.int .i64 x, .int .i64 y]) :=
  ld_agg (cs := [.int .i64 x, .int .i64 y]) W.g40 (fun j v hj => by rw [add_eq, rd_own (h.le hl), Nat.zero_add]; exact hj)

/-- All of one set are those of the other. -/
theorem allSame_ok {t o : Nat} {l : List Ent} {so : SV} {Q : Asn} (h : Holds w0 F M (star (SetA tS t l) (star (row1 o [SV.v so] tR) (star (Es so l) Q)))) (hb : l.length ≤ 10000) {K : Bool → Mem → Prop}
    (hK : ∀ M' F', Mem.le F F' → Holds w0 F' M' (star (SetA tS t l) (star (row1 o [SV.v so] tR) (star (Es so l) Q))) → K true M') :
    C PP w0 Id.model_Set_All #[.pointer (some ⟨t, 0, none⟩)] (fun v M1 => shS v fun s => ((std PP w0).ld 36 ⟨o, 0, none⟩ M1 = some (SV.v so)) ∧ C PP w0 Id.thicketbook_Sameapi_Entry #[SV.v s, SV.v so] (fun v M2 => shB v fun b => K b M2) M1) M := by
  refine mAll_ok (SetH.ofA h) hb fun M1 F1 x l1 h1 hx => ?_
  rw [shS_sv]
  have h2 := h1.toA
  refine ⟨by rw [ld_one W.c36]; exact rd_own (o := 0) h2.right.own1, ?_⟩
  refine SameE_ok (hx.le h2.fr) h2.right.right.rdE (by omega) ?_
  rw [shB_v, decide_eq_true rfl]
  exact hK M1 F1 l1 h2

theorem play_ok {sl : SV} {l : List AskV} (hl : RdA w0 M sl l) (hR : ∀ M', R (.bool true) M') : C PP w0 Id.thicketlaw16_play #[SV.v sl] R M := by
  apply thicketlaw16_play.go
  intro pts H
  unfold thicketlaw16_play.T
  refine mNew_ok (Holds.emp0 (w0 := w0) (M := M)) fun M1 s h1 _ => ?_
  have hbs : (std PP w0).bld 81 [] = some (.agg #[.slice none 0 0]) := by kernel_rfl
  have hbe : (std PP w0).bld 40 [] = some (.agg #[.int .i64 0, .int .i64 0]) := by kernel_rfl
  simp only [hbs, go_sem]
  intro m hm0 hmw
  have h2 := Holds.new (Holds.nilSlk (k := 2) h1.toA) hm0 hmw [SV.v ⟨none, 0, 0⟩] 81
  have h3 : Holds w0 M (M1.set m (.row [SV.v ⟨none, 0, 0⟩] 81)) (star (SetA tS s []) (star (SetA tR m []) emp)) := (SetH.toA ⟨_, h2⟩).rot
  refine ⟨61, ?_⟩
  generalize M1.set m _ = M2 at h3 ⊢
  have key : ∀ (k i : Nat) (cur : List Ent) (M' : Mem), i ≤ l.length → i ≤ 60 → 60 < i + k → SInv (8 * i) cur → Holds w0 M M' (star (SetA tS s cur) (star (SetA tR m cur) emp)) → thicketlaw16_play.L1 pts k sl (some ⟨s, 0, none⟩) (some ⟨m, 0, none⟩) (i : Int) M' := by
    intro k
    induction k with
    | zero => intro i cur M' h1 h2 h3; omega
    | succ k ih =>
      intro i cur M' hi h60 hk hinv hH
      have hln := hl.len
      have hcl := hinv.len
      rw [H.L1]
      unfold thicketlaw16_play.L1.T
      simp only [neq_nil Try.underlying37, go_sem, Option.isNone_some, Bool.not_false]
      rw [bs_decide]
      split
      · rw [bs_decide]
        split
        · -- the end of a round
          have keyJ4 : ∀ (F1 M1 : Mem) (a b : Nat) (x y : Int) (ok : Bool) (c : List Ent), Mem.le M F1 → SInv (8 * (i + 1)) c → Own w0 F1 a [.int .i64 x, .int .i64 y] 40 → Own w0 F1 b [.int .i64 x, .int .i64 y] 40 → Holds w0 F1 M1 (star (SetA tS s c) (star (SetA tR m c) emp)) →
              thicketlaw16_play.J4 pts k sl (some ⟨s, 0, none⟩) (some ⟨m, 0, none⟩) (i : Int) ⟨a, 0, none⟩ ⟨b, 0, none⟩ ok ok M1 := by
            intro F1 M1 a b x y ok c hF hc oa ob h4
            have hc9 := hc.len
            rw [H.J4]
            unfold thicketlaw16_play.J4.T
            refine mMin_ok (SetH.ofA h4) (by omega) fun M2 h5 => ?_
            simp only [go_sem]
            refine boxE h5.toA _ _ fun b1 F2 M3 l2 h6 hb1 => ?_
            refine rMin_ok (SetH.ofA h6.rot) (by omega) fun M4 h7 => ?_
            simp only [go_sem]
            refine boxE h7.toA _ _ fun b2 F3 M5 l3 h8 hb2 => ?_
            have e1 := (hb1 _ (Mem.le_trans l3 h8.fr)).2.2
            have e2 := (hb2 _ h8.fr).2.2
            have la := Mem.le_trans l2 (Mem.le_trans l3 h8.fr)
            rw [ldEnt oa la, ldEnt ob la, e1, e2]
            simp only [go_sem, neE, neq_bool Try.underlying4, beq_self_eq_true, Bool.and_self, Bool.not_true, bs_false]
            obtain ⟨so, h9⟩ := SetH.ofA h8
            have e3 : rd w0 M5 ⟨m, 0, none⟩ = some (SV.v so) := rd_own (o := 0) h9.own1
            have e4 := h9.right.lenE
            simp only [ld_one W.c36, e3, go_sem]
            have h10 := h9.mdr3
            refine mLen_ok (SetH.ofA h10) ?_
            rw [shI_v, bs_bne, if_pos (by omega), e3]
            simp only [go_sem]
            refine ⟨trivial, ?_⟩
            have h11 := allSame_ok h10 (by omega) (K := fun b317 M316 => bs (!b317) (R (.bool false) M316) (thicketlaw16_play.L1 pts k sl (some ⟨s, 0, none⟩) (some ⟨m, 0, none⟩) (w64 ((i : Int) + 1)) M316)) fun M6 F6 l6 h6 => ?_
            · simp only [ld_one W.c36] at h11
              exact h11
            · rw [Bool.not_true, bs_false, i64_succ (by omega)]
              refine ih (i + 1) c M6 (by omega) (by omega) (by omega) hc ?_
              have h12 : Holds w0 F6 M6 (star (SetA tS s c) (star (SetA tR m c) emp)) := (SetH.toA ⟨so, h6.mdr3i⟩).rot
              exact h12.unfrm (Mem.le_trans hF (Mem.le_trans l2 (Mem.le_trans l3 l6)))
          have hlt : i < l.length := by omega
          -- the calls
          have keyJ3 : ∀ (F1 M1 : Mem) (xb : Nat) (kd ke sr ag : Int) (so : SV) (oth : List Ent), Mem.le M F1 → Own w0 F1 xb [.int .i64 kd, .int .i64 ke, .int .i64 sr, .int .i64 ag, SV.v so] 55 → RdE w0 F1 so oth → Holds w0 F1 M1 (star (SetA tS s cur) (star (SetA tR m cur) emp)) →
              thicketlaw16_play.J3 pts k sl (some ⟨s, 0, none⟩) (some ⟨m, 0, none⟩) (i : Int) ⟨xb, 0, none⟩ M1 := by
            intro F1 M1 xb kd ke sr ag so oth hF ox hoth h4
            rw [H.J3]
            unfold thicketlaw16_play.J3.T
            simp only [hbe, go_sem]
            intro a ha0 haw
            have h5 := Holds.new h4 ha0 haw [.int .i64 0, .int .i64 0] 40
            generalize M1.set a _ = M2 at h5 ⊢
            intro b hb0 hbw
            have h6 := (Holds.new h5 hb0 hbw [.int .i64 0, .int .i64 0] 40).rot
            generalize M2.set b _ = M3 at h6 ⊢
            refine stEnt h6 fun M4 h7 => ?_
            refine stEnt h7.rot fun M5 h8 => ?_
            have h8 := h8.rot
            have lx := h8.fr
            have x0 : ∀ M', Mem.le F1 M' → rd w0 M' ⟨xb, 0, none⟩ = some (.int .i64 kd) := fun M' hl => rd_own (o := 0) (ox.le hl)
            have x1 : ∀ M', Mem.le F1 M' → rd w0 M' ⟨xb, 1, none⟩ = some (.int .i64 ke) := fun M' hl => rd_own (o := 1) (ox.le hl)
            have x3 : ∀ M', Mem.le F1 M' → rd w0 M' ⟨xb, 3, none⟩ = some (.int .i64 ag) := fun M' hl => rd_own (o := 3) (ox.le hl)
            have x4 : ∀ M', Mem.le F1 M' → rd w0 M' ⟨xb, 4, none⟩ = some (SV.v so) := fun M' hl => rd_own (o := 4) (ox.le hl)
            have x1a : ∀ M', Mem.le F1 M' → (std PP w0).ld 40 ⟨xb, 1, none⟩ M' = some (.agg #[.int .i64 ke, .int .i64 sr]) := fun M' hl => ld_agg (cs := [.int .i64 ke, .int .i64 sr]) W.g40 (fun j v hj => by
              rw [add_eq, rd_own (ox.le hl)]
              match j, hj with
              | 0, hj => exact hj
              | 1, hj => exact hj)
            have keyE : ∀ (M9 : Mem) (c : List Ent) (x y : Int) (ok : Bool), SInv (8 * (i + 1)) c → Holds w0 F1 M9 (star (row1 a [.int .i64 x, .int .i64 y] 40) (star (row1 b [.int .i64 x, .int .i64 y] 40) (star (SetA tS s c) (star (SetA tR m c) emp)))) →
                thicketlaw16_play.J4 pts k sl (some ⟨s, 0, none⟩) (some ⟨m, 0, none⟩) (i : Int) ⟨a, 0, none⟩ ⟨b, 0, none⟩ ok ok M9 := by
              intro M9 c x y ok hc h
              obtain ⟨F2, l2, o2, h13⟩ := Holds.freeze1 h
              obtain ⟨F3, l3, o3, h14⟩ := Holds.freeze1 h13
              exact keyJ4 F3 M9 a b x y ok c (Mem.le_trans hF (Mem.le_trans l2 l3)) hc (o2.le l3) o3 h14
            simp only [ld_one W.c3, x0 _ lx, go_sem]
            rw [bs_beq]
            split
            · refine mPop_ok (SetH.ofA h8.mdr3) (by omega) fun M6 h9 => ?_
              simp only [go_sem]
              refine stEnt h9.toA.mdr3i fun M7 h10 => ?_
              refine rPop_ok (SetH.ofA h10.mdr4) (by omega) fun M8 h11 => ?_
              simp only [go_sem]
              refine stEnt h11.toA.mdr4i.rot fun M9 h12 => ?_
              exact keyE M9 cur.tail _ _ _ ((hinv.sub (List.tail_sublist _)).more (by omega)) h12.rot
            · rw [bs_beq]
              split
              · simp only [ld_one W.c2, add_eq, Nat.zero_add, x3 _ lx, x1 _ lx, go_sem]
                refine mLower_ok (SetH.ofA h8.mdr3) (by omega) fun M6 h9 => ?_
                rw [shB_v]
                have h10 := h9.toA.mdr3i
                refine ⟨x3 _ h10.fr, x1 _ h10.fr, ?_⟩
                refine rLower_ok (SetH.ofA h10.mdr4) hinv.srt hinv.nod (by omega) fun M8 h11 => ?_
                rw [shB_v]
                exact keyE M8 _ _ _ _ (hinv.low.more (by omega)) h11.toA.mdr4i
              · rw [bs_beq]
                split
                · simp only [ld_one W.c2, add_eq, Nat.zero_add, x3 _ lx, go_sem]
                  refine mRemove_ok (SetH.ofA h8.mdr3) (by omega) fun M6 h9 => ?_
                  simp only [go_sem]
                  refine stEnt h9.toA.mdr3i fun M7 h10 => ?_
                  rw [x3 _ h10.fr]
                  simp only [go_sem]
                  refine rRemove_ok (SetH.ofA h10.mdr4) (by omega) fun M8 h11 => ?_
                  simp only [go_sem]
                  refine stEnt h11.toA.mdr4i.rot fun M9 h12 => ?_
                  exact keyE M9 _ _ _ _ (hinv.rmv.more (by omega)) h12.rot
                · rw [bs_beq]
                  split
                  · simp only [ld_one W.c2, add_eq, Nat.zero_add, x3 _ lx, go_sem]
                    refine mFind_ok (SetH.ofA h8.mdr3) (by omega) fun M6 h9 => ?_
                    simp only [go_sem]
                    refine stEnt h9.toA.mdr3i fun M7 h10 => ?_
                    rw [x3 _ h10.fr]
                    simp only [go_sem]
                    refine rFind_ok (SetH.ofA h10.mdr4) (by omega) fun M8 h11 => ?_
                    simp only [go_sem]
                    refine stEnt h11.toA.mdr4i.rot fun M9 h12 => ?_
                    exact keyE M9 _ _ _ _ (hinv.more (by omega)) h12.rot
                  · rw [bs_beq]
                    split
                    · -- another set
                      obtain ⟨F2, l2, o2, h13⟩ := Holds.freeze1 h8
                      obtain ⟨F3, l3, o3, h14⟩ := Holds.freeze1 h13
                      have l23 := Mem.le_trans l2 l3
                      refine mNew_ok h14 fun M6 t h15 _ => ?_
                      simp only [hbs, go_sem]
                      intro o ho0 how
                      have h16 := Holds.new (Holds.nilSlk (k := 2) h15.toA) ho0 how [SV.v ⟨none, 0, 0⟩] 81
                      have h17 : Holds w0 F3 (M6.set o (.row [SV.v ⟨none, 0, 0⟩] 81)) (star (SetA tS t []) (star (SetA tR o []) (star (SetA tS s cur) (star (SetA tR m cur) emp)))) := (SetH.toA ⟨_, h16⟩).rot
                      generalize M6.set o _ = M7 at h17 ⊢
                      simp only [go_sem, Option.isNone_some, bs_false]
                      refine ⟨9, ?_⟩
                      -- joined
                      have keyJ5 : ∀ (tl : List Ent) (M8 : Mem), SInv 8 tl → Holds w0 F3 M8 (star (SetA tS t tl) (star (SetA tR o tl) (star (SetA tS s cur) (star (SetA tR m cur) emp)))) →
                          thicketlaw16_play.J5 pts k sl (some ⟨s, 0, none⟩) (some ⟨m, 0, none⟩) (i : Int) ⟨a, 0, none⟩ ⟨b, 0, none⟩ (some ⟨t, 0, none⟩) (some ⟨o, 0, none⟩) M8 := by
                        intro tl M8 ht h18
                        have htl := ht.len
                        rw [H.J5]
                        unfold thicketlaw16_play.J5.T
                        -- what is left of both, and the end
                        have keyS : ∀ (M9 : Mem) (tl' c : List Ent) (ok : Bool), tl'.length ≤ 8 → SInv (8 * (i + 1)) c → Holds w0 F3 M9 (star (SetA tR o tl') (star (SetA tR m c) (star (SetA tS t tl') (star (SetA tS s c) emp)))) →
                            nc (some ⟨o, 0, none⟩) fun a324 => ob ((std PP w0).ld 36 a324 M9) fun v325 => shS v325 fun s326 => C PP w0 Id.model_Set_All #[.pointer (some ⟨t, 0, none⟩)] (fun v327 M328 => shS v327 fun s329 => ((std PP w0).ld 36 a324 M328 = some (SV.v s326)) ∧ C PP w0 Id.thicketbook_Sameapi_Entry #[SV.v s329, SV.v s326] (fun v330 M331 => shB v330 fun b332 => bs (!b332) (R (.bool false) M331) (thicketlaw16_play.J4 pts k sl (some ⟨s, 0, none⟩) (some ⟨m, 0, none⟩) (i : Int) ⟨a, 0, none⟩ ⟨b, 0, none⟩ ok ok M331)) M328) M9 := by
                          intro M9 tl' c ok h8' hc h19
                          obtain ⟨os, h20⟩ := SetH.ofA h19
                          have e3 : rd w0 M9 ⟨o, 0, none⟩ = some (SV.v os) := rd_own (o := 0) h20.own1
                          rw [nc_v, ld_one W.c36, e3, ob_v, shS_sv]
                          refine allSame_ok (K := fun b332 M331 => bs (!b332) (R (.bool false) M331) (thicketlaw16_play.J4 pts k sl (some ⟨s, 0, none⟩) (some ⟨m, 0, none⟩) (i : Int) ⟨a, 0, none⟩ ⟨b, 0, none⟩ ok ok M331)) (t := t) (l := tl') h20.mdr4 (by omega) fun M10 F10 l10 h21 => ?_
                          rw [Bool.not_true, bs_false]
                          refine keyJ4 F10 M10 a b 0 0 ok c (Mem.le_trans hF (Mem.le_trans l23 l10)) hc (o2.le (Mem.le_trans l3 l10)) (o3.le l10) ?_
                          exact h21.right.right.right.rot
                        have h19 : Holds w0 F3 M8 (star (SetA tS t tl) (star (SetA tS s cur) (star (SetA tR o tl) (star (SetA tR m cur) emp)))) := h18.mdr3.rot
                        by_cases hd : Disj cur tl
                        · refine mJoinA_ok h19 (by omega) (fun hn => absurd hd hn) fun _ M9 h20 => ?_
                          rw [shB_v]
                          refine rJoinA_ok h20.mdr4.mdr4 hinv.srt (by omega) (fun hn => absurd hd hn) fun _ M10 h21 => ?_
                          rw [shB_v]
                          exact keyS M10 [] _ true (by simp) ((hinv.join ht hd).more (by omega)) h21
                        · refine mJoinA_ok h19 (by omega) (fun _ M9 h20 => ?_) (fun hn => absurd hn hd)
                          rw [shB_v]
                          refine rJoinA_ok h20.mdr4.mdr4 hinv.srt (by omega) (fun _ M10 h21 => ?_) (fun hn => absurd hn hd)
                          rw [shB_v]
                          exact keyS M10 tl _ false htl (hinv.more (by omega)) h21
                      have hon := hoth.len
                      have keyL6 : ∀ (k' j0 : Nat) (tl : List Ent) (M8 : Mem), j0 ≤ oth.length → j0 ≤ 8 → 8 < j0 + k' → SInv j0 tl → Holds w0 F3 M8 (star (SetA tS t tl) (star (SetA tR o tl) (star (SetA tS s cur) (star (SetA tR m cur) emp)))) →
                          thicketlaw16_play.L6 pts k k' sl (some ⟨s, 0, none⟩) (some ⟨m, 0, none⟩) (i : Int) ⟨xb, 0, none⟩ ⟨a, 0, none⟩ ⟨b, 0, none⟩ (some ⟨t, 0, none⟩) (some ⟨o, 0, none⟩) (j0 : Int) M8 := by
                        intro k'
                        induction k' with
                        | zero => intro j0 tl M8 h1 h2 h3; omega
                        | succ k' ih2 =>
                          intro j0 tl M8 hj hj8 hk' ht h18
                          have htl := ht.len
                          have e4 := x4 M8 (Mem.le_trans l23 h18.fr)
                          rw [H.L6]
                          unfold thicketlaw16_play.L6.T
                          simp only [ld_one W.c36, add_eq, Nat.zero_add, e4, go_sem]
                          rw [bs_decide]
                          split
                          · rw [bs_decide]
                            split
                            · rw [H.J7]
                              unfold thicketlaw16_play.J7.T
                              simp only [ld_one W.c36, add_eq, Nat.zero_add, e4, go_sem]
                              have hjl : j0 < oth.length := by omega
                              have ey := List.getElem?_eq_getElem hjl
                              generalize oth[j0] = y at ey
                              refine rdE (hoth.le l23) h18.fr j0 rfl ey ?_
                              intro c hc0 hcw
                              have h19 := Holds.new h18 hc0 hcw [.int .i64 0, .int .i64 0] 40
                              generalize M8.set c _ = M9 at h19 ⊢
                              refine stEnt h19 fun M10 h20 => ?_
                              have e5 : rd w0 M10 ⟨c, 1, none⟩ = some (.int .i64 y.2) := rd_own (o := 1) h20.own1
                              simp only [ld_one W.c2, add_eq, Nat.zero_add, e5, go_sem]
                              refine ⟨trivial, by decide, ?_⟩
                              refine stC W.c2 h20 (by simp) rfl rfl (cs' := [.int .i64 y.1, .int .i64 (Int.tmod y.2 60)]) rfl fun M11 h21 => ?_
                              obtain ⟨F4, l4, o4, h22⟩ := Holds.freeze1 h21
                              rw [ldEnt o4 h22.fr]
                              simp only [go_sem]
                              cases hf : fnd tl (Int.tmod y.2 60) with
                              | some q =>
                                refine mInsert_ok (e := (y.1, Int.tmod y.2 60)) (SetH.ofA h22) (by omega) (fun j _ M12 h23 => ?_) fun hn => absurd (hf.symm.trans hn) (by simp)
                                rw [shB_v]
                                have h24 := h23.toA.rot
                                refine ⟨ldEnt o4 h24.fr, ?_⟩
                                refine rInsert_ok (e := (y.1, Int.tmod y.2 60)) (SetH.ofA h24) ht.srt (by omega) (fun j _ M13 h25 => ?_) fun hn => absurd (hf.symm.trans hn) (by simp)
                                simp only [neq_bool Try.underlying4, go_sem, beq_self_eq_true, Bool.not_true, bs_false]
                                rw [i64_succ (by omega)]
                                exact ih2 (j0 + 1) tl M13 (by omega) (by omega) (by omega) (ht.more (by omega)) (h25.toA.rot.unfrm l4)
                              | none =>
                                refine mInsert_ok (e := (y.1, Int.tmod y.2 60)) (SetH.ofA h22) (by omega) (fun j hj => absurd (hf.symm.trans hj) (by simp)) fun _ M12 h23 => ?_
                                rw [shB_v]
                                have h24 := h23.toA.rot
                                refine ⟨ldEnt o4 h24.fr, ?_⟩
                                refine rInsert_ok (e := (y.1, Int.tmod y.2 60)) (SetH.ofA h24) ht.srt (by omega) (fun j hj => absurd (hf.symm.trans hj) (by simp)) fun _ M13 h25 => ?_
                                simp only [neq_bool Try.underlying4, go_sem, beq_self_eq_true, Bool.not_true, bs_false]
                                rw [i64_succ (by omega)]
                                exact ih2 (j0 + 1) _ M13 (by omega) (by omega) (by omega) (ht.ins hf) (h25.toA.rot.unfrm l4)
                            · exact keyJ5 tl M8 (ht.more hj8) h18
                          · exact keyJ5 tl M8 (ht.more hj8) h18
                      exact keyL6 9 0 [] M7 (by omega) (by omega) (by omega) SInv.nil h17
                    · simp only [add_eq, Nat.zero_add, x1a _ lx, go_sem]
                      cases hf : fnd cur sr with
                      | some j =>
                        refine mInsert_ok (e := (ke, sr)) (SetH.ofA h8.mdr3) (by omega) (fun j _ M6 h9 => ?_) fun hn => absurd (hf.symm.trans hn) (by simp)
                        rw [shB_v]
                        have h10 := h9.toA.mdr3i
                        refine ⟨x1a _ h10.fr, ?_⟩
                        refine rInsert_ok (e := (ke, sr)) (SetH.ofA h10.mdr4) hinv.srt (by omega) (fun j _ M7 h11 => ?_) fun hn => absurd (hf.symm.trans hn) (by simp)
                        rw [shB_v]
                        exact keyE M7 _ _ _ _ (hinv.more (by omega)) h11.toA.mdr4i
                      | none =>
                        refine mInsert_ok (e := (ke, sr)) (SetH.ofA h8.mdr3) (by omega) (fun j hj => absurd (hf.symm.trans hj) (by simp)) fun _ M6 h9 => ?_
                        rw [shB_v]
                        have h10 := h9.toA.mdr3i
                        refine ⟨x1a _ h10.fr, ?_⟩
                        refine rInsert_ok (e := (ke, sr)) (SetH.ofA h10.mdr4) hinv.srt (by omega) (fun j hj => absurd (hf.symm.trans hj) (by simp)) fun _ M7 h11 => ?_
                        rw [shB_v]
                        exact keyE M7 _ _ _ _ ((hinv.ins hf).more (by omega)) h11.toA.mdr4i
          -- the call that is read
          rw [H.J2]
          unfold thicketlaw16_play.J2.T
          simp only [go_sem, Option.isNone_some, bs_false]
          have ex := List.getElem?_eq_getElem hlt
          have hmem : l[i] ∈ l := List.getElem_mem hlt
          generalize l[i] = x at ex hmem
          have hox := hl.oth x hmem
          obtain ⟨ad, ead, hcells⟩ := hl.cells i x ex
          have hld : (std PP w0).ld 55 (ad.add (i * 5)) M' = some (.agg #[.int .i64 x.kind, .int .i64 x.key, .int .i64 x.ser, .int .i64 x.arg, SV.v x.so]) := ld_agg (cs := x.cells) W.g55 (fun f v hv => hcells M' hH.fr f v hv)
          rw [ead, nc_v, Int.toNat_natCast, hld]
          simp only [go_sem]
          refine ⟨⟨by omega, by omega⟩, ?_⟩
          intro xb hx0 hxw
          have h5 := Holds.new hH hx0 hxw [.int .i64 0, .int .i64 0, .int .i64 0, .int .i64 0, .slice none 0 0] 55
          generalize M'.set xb _ = M3 at h5 ⊢
          refine st_agg (vs := x.cells) W.g55 (Holds.own1 h5) (by simp [AskV.cells]) (by intro v hv; simp only [AskV.cells, List.mem_cons, List.not_mem_nil, or_false] at hv; rcases hv with rfl | rfl | rfl | rfl | rfl <;> rfl) ?_
          have h6 : Holds w0 M (M3.set xb (.row (over [.int .i64 0, .int .i64 0, .int .i64 0, .int .i64 0, .slice none 0 0] 0 x.cells) 55)) (star (row1 xb [.int .i64 x.kind, .int .i64 x.key, .int .i64 x.ser, .int .i64 x.arg, SV.v x.so] 55) _) := Holds.upd1 h5 (cs' := over [.int .i64 0, .int .i64 0, .int .i64 0, .int .i64 0, .slice none 0 0] 0 x.cells) (e' := 55)
          generalize M3.set xb _ = M4 at h6 ⊢
          have e1 : rd w0 M4 ⟨xb, 1, none⟩ = some (.int .i64 x.key) := rd_own (o := 1) h6.own1
          have e2 : rd w0 M4 ⟨xb, 2, none⟩ = some (.int .i64 x.ser) := rd_own (o := 2) h6.own1
          have e3 : rd w0 M4 ⟨xb, 3, none⟩ = some (.int .i64 x.arg) := rd_own (o := 3) h6.own1
          simp only [ld_one W.c2, add_eq, Nat.zero_add, Nat.reduceAdd, e1, e2, e3, go_sem]
          refine ⟨trivial, by decide, ?_⟩
          rw [bs_bne]
          split
          · obtain ⟨F2, l2, o2, h7⟩ := Holds.freeze1 h6
            exact keyJ3 F2 M4 xb x.kind x.key x.ser x.arg x.so x.oth l2 o2 (hox.le l2) h7
          · refine ⟨trivial, by decide, trivial, by decide, trivial, by decide, ?_⟩
            refine stC (o := 1) W.c2 h6 (by simp) rfl rfl (cs' := [.int .i64 x.kind, .int .i64 (Int.tmod x.key 9), .int .i64 x.ser, .int .i64 x.arg, SV.v x.so]) rfl fun M5 h7 => ?_
            refine stC (o := 2) W.c2 h7 (by simp) rfl rfl (cs' := [.int .i64 x.kind, .int .i64 (Int.tmod x.key 9), .int .i64 (Int.tmod x.ser 20), .int .i64 x.arg, SV.v x.so]) rfl fun M6 h8 => ?_
            refine stC (o := 3) W.c2 h8 (by simp) rfl rfl (cs' := [.int .i64 x.kind, .int .i64 (Int.tmod x.key 9), .int .i64 (Int.tmod x.ser 20), .int .i64 (Int.tmod x.arg 20), SV.v x.so]) rfl fun M7 h9 => ?_
            obtain ⟨F2, l2, o2, h10⟩ := Holds.freeze1 h9
            exact keyJ3 F2 M7 xb _ _ _ _ x.so x.oth l2 o2 (hox.le l2) h10
        · exact hR _
      · exact hR _
  exact key 61 0 [] M2 (by omega) (by omega) (by omega) SInv.nil h3

end
end Go.Proofs.Ytgnfbodlpolibaa.HL
