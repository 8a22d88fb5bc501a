import Derived.Test.YtbkicgfgpmekeaaGreatXg
/-
  FbF: Fibonacci heaps: one of the tops is taken out.
-/
set_option linter.unusedVariables false
set_option linter.unusedSimpArgs false
set_option maxRecDepth 100000
namespace Go.Proofs.YtbkicgfgpmekeaaGreat.HL
open Go.RowKit (Below)
open Go.Proofs
open Go.Proofs.YtbkicgfgpmekeaaGreat.HL.LT

section
variable {w0 : World} {M F : Mem} {R : Value → Mem → Prop} {a : Nat} {α : AS}

theorem Holds.le_frame {P : Asn} {F' : Mem} (h : Holds w0 F' M P) (hl : Mem.le F F') : Holds w0 F M P := by
  obtain ⟨r, h1, h2⟩ := h
  exact ⟨r, h1, ⟨h2.nd, fun x hx => by obtain ⟨a1, a2, a3⟩ := h2.at_ x hx; exact ⟨a1, le_none hl a2, a3⟩, Mem.le_trans hl h2.fr⟩⟩
theorem Tops.nil (α : AS) : Tops α [] := ⟨fun t h => (by cases h), fun t h => (by cases h), List.nodup_nil, [], List.Perm.refl _, trivial⟩

theorem fpop_ok (hA : Holds w0 F M (arenaA a α)) {n i : Nat} {e : Ent} {m : Bool} {l : LT} {ts : List LT} (hT : Tops α (node n i e m l nil :: ts)) (hring : α.Ring n (ts.map rt1))
    (h : ∀ M' β (root : Int), Holds w0 F M' (arenaA a β) → Tops β (unl [] (row l ++ ts)) → (unl [] (row l ++ ts) = [] ∧ root = -1 ∨ ∃ x ∈ unl [] (row l ++ ts), root = (rt1 x : Int) ∧ ∀ y ∈ unl [] (row l ++ ts), y = x ∨ Bf (top x) (top y)) →
      AS.Eff (fun c => c ∈ cellsL (node n i e m l nil :: ts)) (· = n) (-1) (10 + 21 * (rk l : Int) + 20 * (ts.length : Int) - 5 * ((unl [] (row l ++ ts)).length : Int)) α β → β.get i 9 = -1 ∧ β.get i 7 = e.1 ∧ β.get i 8 = e.2 ∧ β.live i = true → R (.tuple #[.int .i64 root, .int .i64 (i : Int)]) M') :
    C PP w0 Id.fib_pop #[.pointer (some ⟨a, 0, none⟩), .int .i64 (n : Int)] R M := by
  apply fib_pop.go
  intro pts H
  unfold fib_pop.T
  have hI := hA.inv
  have h65 := hI.n
  have hr0 := hT.rep _ List.mem_cons_self
  obtain ⟨q1, q2, q3, q4, q5, q6, q7, _⟩ := hr0
  have hnd2 := hT.nd
  simp only [cellsL, List.flatMap_cons, cells, List.append_nil, List.cons_append, List.nodup_cons, List.mem_cons, List.mem_append, not_or] at hnd2
  obtain ⟨⟨ni, nl, nt⟩, ⟨il, it⟩, hlt⟩ := hnd2
  obtain ⟨hll, htt, hdis⟩ := List.nodup_append.1 hlt
  have hrt : RepL α (-1) ts := fun t ht => hT.rep t (List.mem_cons_of_mem _ ht)
  have hst : ∀ t ∈ ts, Sg t := fun t ht => hT.sg t (List.mem_cons_of_mem _ ht)
  have hsx : ∀ t ∈ row l ++ ts, Sg t := fun t ht => by
    rcases List.mem_append.1 ht with ht | ht
    · exact row_sg l t ht
    · exact hst t ht
  have hxc : cellsL (row l ++ ts) = cells l ++ cellsL ts := by
    simp only [cellsL, List.flatMap_append]
    rw [show (row l).flatMap cells = cells l from row_cells l]
  have hxm : (row l ++ ts).map rt1 = rts l ++ ts.map rt1 := by rw [List.map_append, rts_row]
  have hsub : ∀ c, c ∈ cells l ∨ c ∈ cellsL ts → c ∈ cellsL (node n i e m l nil :: ts) := fun c hc => by
    simp only [cellsL, List.flatMap_cons, cells, List.append_nil, List.cons_append, List.mem_cons, List.mem_append]
    rcases hc with hc | hc
    · exact .inr (.inr (.inl hc))
    · exact .inr (.inr (.inr hc))
  have hnS : n ∈ cellsL (node n i e m l nil :: ts) := by simp [cellsL, cells]
  have hiS : i ∈ cellsL (node n i e m l nil :: ts) := by simp [cellsL, cells]
  have hlv := hT.live
  have hrll : ∀ x ∈ rts l, x ∈ cells l := fun x hx => mem_nds (mem_rts hx)
  have hrtl : ∀ x ∈ ts.map rt1, x ∈ cellsL ts := fun x hx => by
    obtain ⟨t, ht, rfl⟩ := List.mem_map.1 hx
    exact rt1_cells ht _ (rt1_mem (hst t ht))
  have hin : i ≠ n := fun e => ni e.symm
  have hlenT : (cellsL (node n i e m l nil :: ts)).length ≤ α.n := nodup_len α.n _ hT.nd fun x hx => AS.live_lt hI (hlv x hx)
  rw [cellsL_len] at hlenT
  have hlenx : rk l + ts.length ≤ 32768 := by
    have h1 := len_itsL hst
    have h2 := rk_le l
    rw [sz_its] at h2
    have h3 : (itsL (node n i e m l nil :: ts)).length = (its l).length + 1 + (itsL ts).length := by simp [itsL, its]; omega
    omega
  have hsmall : ∀ x ∈ (row l ++ ts).map rt1, x < 65536 := fun x hx => by
    rw [hxm] at hx
    have : x ∈ cells l ∨ x ∈ cellsL ts := by
      rcases List.mem_append.1 hx with hx | hx
      · exact .inl (hrll x hx)
      · exact .inr (hrtl x hx)
    have := AS.live_lt hI (hlv x (hsub x this))
    omega
  -- the end
  have j3 : ∀ (F1 M1 : Mem) (γ : AS) (sl : SV), Mem.le F F1 → Holds w0 F1 M1 (arenaA a γ) → RdI w0 F1 .i64 sl (intsN ((row l ++ ts).map rt1)) → RepL γ (-1) (row l ++ ts) → γ.Nd n i e → AS.Chg (fun c => c ∈ cellsL (node n i e m l nil :: ts)) (7 + 2 * (rk l : Int) + (ts.length : Int)) α γ → fib_pop.J3 pts (some ⟨a, 0, none⟩) (n : Int) sl M1 := by
    intro F1 M1 γ sl hle hA1 hsl hrx hNd hch
    rw [H.J3]
    unfold fib_pop.J3.T
    refine End_ok hA1 hNd fun M2 δ hB hs => ?_
    rw [shI_v]
    have gd : ∀ c f, δ.get c f = if c = i ∧ f = 9 then -1 else γ.get c f := fun c f => by rw [hs.get]; rfl
    have ld : ∀ c, δ.live c = if c = n then false else γ.live c := fun c => by rw [hs.live]; rfl
    have hcx : ∀ c ∈ cellsL (row l ++ ts), c ≠ n ∧ c ≠ i := fun c hc => by
      rw [hxc] at hc
      rcases List.mem_append.1 hc with hc | hc
      · exact ⟨fun e => nl (e ▸ hc), fun e => il (e ▸ hc)⟩
      · exact ⟨fun e => nt (e ▸ hc), fun e => it (e ▸ hc)⟩
    have hnx : (cellsL (row l ++ ts)).Nodup := by rw [hxc]; exact hlt
    have hrd : RepL δ (-1) (row l ++ ts) := repL_congr hrx hsx hnx (fun c hc f _ => by rw [gd, if_neg (fun e => (hcx c hc).2 e.1)]) (fun c hc => by rw [ld, if_neg (hcx c hc).1])
    have he2 : AS.Eff (fun c => c ∈ cellsL (node n i e m l nil :: ts)) (· = n) (-1) (10 + 2 * (rk l : Int) + (ts.length : Int)) α δ := by
      have hIg : γ.Inv := hA1.inv
      have hln : (γ.put i 9 (-1)).live n = true := hNd.ln
      have h1 : AS.Eff (fun c => c ∈ cellsL (node n i e m l nil :: ts)) (· = n) 0 (7 + 2 * (rk l : Int) + (ts.length : Int)) α (γ.put i 9 (-1)) := hch.eff.put (c := i) (f := 9) (v := -1) hiS
      have h2 : AS.Eff (fun c => c ∈ cellsL (node n i e m l nil :: ts)) (· = n) (-1) 0 (γ.put i 9 (-1)) ((γ.put i 9 (-1)).unlive n) := AS.unlive_eff (AS.put_inv hIg i 9 (-1)) hln rfl
      exact ((h1.trans h2).trans hs.eff).mono (fun _ h => h) (fun _ h => h) (by omega) |>.to (by omega)
    have gi : ∀ f, f ≠ 9 → δ.get i f = γ.get i f := fun f hf => by rw [gd, if_neg (fun e => hf e.2)]
    have hi9 : δ.get i 9 = -1 ∧ δ.get i 7 = e.1 ∧ δ.get i 8 = e.2 ∧ δ.live i = true := ⟨by rw [gd, if_pos ⟨rfl, rfl⟩], (gi 7 (by omega)).trans hNd.k, (gi 8 (by omega)).trans hNd.s, by rw [ld, if_neg hin]; exact hNd.li⟩
    refine unlike_ok hB hsl hsx hrd hnx (fun h0 M3 hC => ?_) fun M3 ε x hC hTx hx hlx hc3 => ?_
    · rw [shI_v]
      have hu : unl [] (row l ++ ts) = [] := (unl_nil hsx).2 h0
      refine h M3 δ (-1) (Holds.le_frame hC hle) (by rw [hu]; exact Tops.nil δ) (.inl ⟨hu, rfl⟩) (he2.mono (fun _ h => h) (fun _ h => h) ?_) hi9
      have h9 : (row l ++ ts).length = 0 := by rw [h0]; rfl
      rw [hu]
      rw [List.length_append, row_len] at h9
      simp only [List.length_nil]; omega
    · rw [shI_v]
      have hic : ¬ i ∈ cellsL (row l ++ ts) := fun hc => (hcx i hc).2 rfl
      refine h M3 ε (rt1 x : Int) (Holds.le_frame hC hle) hTx (.inr ⟨x, hx, rfl, hlx⟩) ((he2.trans (hc3.mono (T := fun c => c ∈ cellsL (node n i e m l nil :: ts)) (fun c hc => hsub c (by rw [hxc] at hc; exact List.mem_append.1 hc)) (Int.le_refl _)).eff).mono (fun _ h => h) (fun _ h => h) ?_ |>.to (by omega)) ⟨by rw [hc3.get i hic]; exact hi9.1, by rw [hc3.get i hic]; exact hi9.2.1, by rw [hc3.get i hic]; exact hi9.2.2.1, by rw [hc3.live]; exact hi9.2.2.2⟩
      rw [List.length_append, row_len]; omega
  have hwf : ∀ (L : List Nat), (∀ x ∈ L, x < 65536) → ∀ c ∈ intsN L, (Lit.int .i64 c).wf = true := fun L hL c hc => by
    obtain ⟨z, hz, rfl⟩ := List.mem_map.1 hc
    have := hL z hz
    exact wf64 (by unfold In64; omega)
  -- those beside it
  have j1 : ∀ (F1 M1 : Mem) (γ : AS) (sl : SV), Mem.le F F1 → Holds w0 F1 M1 (star (SlA sl ((intsN (rts l)).map (Value.int .i64))) (arenaA a γ)) → RepL γ (-1) (row l) → RepL γ (-1) ts → γ.Nd n i e → γ.Ring n (ts.map rt1) → γ.live = α.live → γ.n = α.n → AS.Chg (fun c => c ∈ cellsL (node n i e m l nil :: ts)) (1 + 2 * (rk l : Int)) α γ → fib_pop.J1 pts (some ⟨a, 0, none⟩) (n : Int) sl M1 := by
    intro F1 M1 γ sl hle hH hrl hrts hNd hrg hlg hng hch
    rw [H.J1]
    unfold fib_pop.J1.T
    obtain ⟨F2, hA2, hle2, back2⟩ := hH.last
    have hslen : (rts l).length = rk l := rfl
    refine Out_ok hA2 hrg (fun h0 M2 β hB hs => ?_) fun y q hy M2 β hB hs => ?_
    · have ht0 : ts = [] := by simpa using h0
      rw [shI_v, bs_bne, if_pos rfl]
      obtain ⟨F3, hle3, hC, hsl⟩ := (back2 M2 _ hB).freeze (hwf _ fun x hx => hsmall x (by rw [hxm]; exact List.mem_append_left _ hx)) (by simp [intsN]; omega)
      refine j3 F3 M2 β sl (Mem.le_trans hle hle3) hC (by rw [hxm, ht0]; simpa using hsl) (fun t ht => ?_) ?_ ((hch.trans hs.chg).mono (fun _ h => h) (by omega))
      · rw [ht0, List.append_nil] at ht
        exact (repL_congr hrl (row_sg l) (by rw [row_cells]; exact hll) (fun c _ f _ => by rw [hs.get]) (fun c _ => by rw [hs.live])) t ht
      · exact hs.nd hNd
    · rw [shI_v, bs_bne, if_neg (by omega)]
      have hym : ∀ z ∈ y :: q, z ∈ cellsL ts := fun z hz => hrtl z (by rw [hy]; exact hz)
      have hlm := hym _ (AS.last_mem y q)
      have hyl := hym y List.mem_cons_self
      have gg : ∀ x f, β.get x f = if x = n ∧ f = 2 then (n : Int) else if x = n ∧ f = 3 then (n : Int) else if x = y ∧ f = 2 then ((q.getLastD y : Nat) : Int) else if x = q.getLastD y ∧ f = 3 then (y : Int) else γ.get x f := fun x f => by rw [hs.get]; rfl
      have hlb : β.live = γ.live := hs.live
      have gout : ∀ x f, ¬ ((x = n ∨ x ∈ ts.map rt1) ∧ (f = 2 ∨ f = 3)) → β.get x f = γ.get x f := fun x f hx => by
        have m1 : q.getLastD y ∈ ts.map rt1 := by rw [hy]; exact AS.last_mem y q
        have m2 : y ∈ ts.map rt1 := by rw [hy]; exact List.mem_cons_self
        rw [gg, if_neg (fun e : x = n ∧ f = 2 => hx ⟨.inl e.1, .inl e.2⟩), if_neg (fun e : x = n ∧ f = 3 => hx ⟨.inl e.1, .inr e.2⟩), if_neg (fun e : x = y ∧ f = 2 => hx ⟨.inr (by rw [e.1]; exact m2), .inl e.2⟩), if_neg (fun e : x = q.getLastD y ∧ f = 3 => hx ⟨.inr (by rw [e.1]; exact m1), .inr e.2⟩)]
      have hrg2 : β.Ring y q := by
        rw [hy] at hrg
        exact hs.ring (AS.ring_out hrg).1
      refine All_ok hB hrg2 fun M3 s3 δ hC hs3 => ?_
      have hH3 := back2 M3 _ hC
      rw [shS_sv]
      rw [← hy] at hH3
      refine appI hH3 (hH3.right.rdI' (fun x hx => by have := hsmall x (by rw [hxm]; exact List.mem_append_right _ hx); omega) (by rw [List.length_map]; omega)) (by simp [intsN]; omega) fun M4 s4 hH4 => ?_
      rw [shS_sv]
      rw [show intsN (rts l) ++ intsN (ts.map rt1) = intsN ((row l ++ ts).map rt1) from by rw [hxm]; simp [intsN]] at hH4
      obtain ⟨F4, hle4, hC4, hsl⟩ := hH4.freeze (hwf _ hsmall) (by simp [intsN, row_len]; omega)
      have hld : δ.live = γ.live := hs3.live.trans hlb
      have gd : ∀ x f, ¬ ((x = n ∨ x ∈ ts.map rt1) ∧ (f = 2 ∨ f = 3)) → δ.get x f = γ.get x f := fun x f hx => by rw [hs3.get]; exact gout x f hx
      have hnt2 : n ∉ ts.map rt1 := fun hm => nt (hrtl n hm)
      refine j3 F4 M4 δ s4 (Mem.le_trans hle hle4) hC4.right hsl (fun t ht => ?_) ?_ ((hch.trans ((((((AS.Chg.refl (S := fun c => c ∈ cellsL (node n i e m l nil :: ts)) (α := γ)).put (c := q.getLastD y) (f := 3) (v := (y : Int)) (hsub _ (.inr hlm))).put (c := y) (f := 2) (v := ((q.getLastD y : Nat) : Int)) (hsub _ (.inr hyl))).put (c := n) (f := 3) (v := (n : Int)) hnS).put (c := n) (f := 2) (v := (n : Int)) hnS).trans (hs.chg.trans hs3.chg))).mono (fun _ h => h) ?_)
      · rcases List.mem_append.1 ht with ht | ht
        · refine (repL_congr hrl (row_sg l) (by rw [row_cells]; exact hll) (fun c hc f _ => gd c f fun e => ?_) (fun c _ => by rw [hld])) t ht
          rw [row_cells] at hc
          rcases e.1 with e1 | e1
          · exact nl (e1 ▸ hc)
          · exact hdis c hc c (hrtl c e1) rfl
        · refine (repL_congr hrts hst htt (fun c hc f hf => gd c f fun e => ?_) (fun c _ => by rw [hld])) t ht
          rcases e.1 with e1 | e1
          · exact nt (e1 ▸ hc)
          · have := hf e1; omega
      · have hni2 : i ∉ ts.map rt1 := fun hm => it (hrtl i hm)
        have gi : ∀ f, δ.get i f = γ.get i f := fun f => gd i f fun e => by rcases e.1 with e1 | e1; exact hin e1; exact hni2 e1
        exact ⟨by rw [hld]; exact hNd.ln, by rw [hld]; exact hNd.li, (gd n 6 (by omega)).trans hNd.it, (gi 9).trans hNd.nd, (gi 7).trans hNd.k, (gi 8).trans hNd.s⟩
      · have : (ts.map rt1).length = q.length + 1 := by rw [hy]; rfl
        rw [List.length_map] at this
        omega
  refine Cell_ok hA fun M1 hA1 => ?_
  rw [show α.cellI (n : Int) 1 = l.root from AS.cellI_val hI (f := 1) q1.ln (by omega) q3 q7.rootv, shI_v, bs_bne]
  split
  · rename_i hl0
    have hl : l = nil := root_nil hl0
    subst hl
    exact j1 F M1 α.tick ⟨none, 0, 0⟩ (Mem.le_refl _) (Holds.nilSl hA1) (fun t ht => by cases ht) (fun t ht => (hrt t ht).same (by
      have := hlt
      obtain ⟨p, q, rfl⟩ := List.append_of_mem ht
      simp only [List.flatMap_append, List.flatMap_cons] at htt
      exact (List.nodup_append.1 (List.nodup_append.1 htt).2.1).1) (fun _ _ _ => rfl) (fun _ _ => rfl)) (q1.congr (fun _ => rfl) (fun _ => rfl) rfl rfl) (hring.congr (fun _ _ => rfl) (fun _ _ => rfl) (fun _ _ => rfl)) rfl rfl (AS.Chg.refl.tick.mono (fun _ h => h) (by simp [rk, rts]))
  · rename_i hl0
    obtain ⟨d, r, hdr⟩ : ∃ d r, rts l = d :: r := by
      cases l with
      | nil => exact absurd rfl hl0
      | node n2 i2 e2 m2 l2 r2 => exact ⟨n2, rts r2, rfl⟩
    have hroot : l.root = (d : Int) := by rw [root_hd, hdr]; rfl
    rw [hroot]
    have hrg1 : α.tick.Ring d r := by
      have := q6
      rw [hdr] at this
      exact AS.Ring.congr this (fun _ _ => rfl) (fun _ _ => rfl) (fun _ _ => rfl)
    refine All_ok hA1 hrg1 fun M2 s2 β hB hs => ?_
    rw [shS_sv]
    rw [← hdr] at hB
    obtain ⟨F1, hle1, hA2, hsl⟩ := hB.freeze (hwf _ fun x hx => hsmall x (by rw [hxm]; exact List.mem_append_left _ hx)) (by simp [intsN, ← hdr]; have : (rts l).length = rk l := rfl; omega)
    have hrk : rk l = r.length + 1 := by show (rts l).length = _; rw [hdr]; rfl
    have hs2n : s2.n = (rts l).length := by rw [hsl.len]; simp [intsN]
    have key : ∀ (k j : Nat) (sl : SV) (M3 : Mem) (γ : AS), j ≤ (rts l).length → (rts l).length < j + k → Holds w0 F1 M3 (star (SlA sl ((intsN ((rts l).take j)).map (Value.int .i64))) (arenaA a γ)) → (∀ x f, γ.get x f = if f = 0 ∧ x ∈ (rts l).take j then -1 else α.get x f) → γ.live = α.live → AS.Chg (fun c => c ∈ cellsL (node n i e m l nil :: ts)) (1 + (rk l : Int) + (j : Int)) α γ →
        fib_pop.L2 pts k (some ⟨a, 0, none⟩) (n : Int) sl s2 ((s2.n : Nat) : Int) (j : Int) M3 := by
      intro k
      induction k with
      | zero => intro j sl M3 γ h1 h2; omega
      | succ k ih =>
        intro j sl M3 γ hj1 hj2 hH hg hlg hch
        rw [H.L2]
        unfold fib_pop.L2.T
        rw [bs_decide]
        split
        · have hj : j < (rts l).length := by omega
          have e1 := List.getElem?_eq_getElem hj
          generalize (rts l)[j] = x at e1
          have hxm2 := List.mem_of_getElem? e1
          have hxl : α.live x = true := hlv x (hsub x (.inl (hrll x hxm2)))
          refine rdx (x := (x : Int)) W.c3 hsl hH.fr j rfl (by simp [intsN, e1]) ?_
          obtain ⟨F3, hA3, hle3, back3⟩ := hH.last
          refine Set_ok hA3 fun M4 hA4 => ?_
          rw [show γ.setI (x : Int) 0 (-1) = γ.put x 0 (-1) from AS.setI_live (f := 0) (by rw [hlg]; exact hxl) (by omega) _] at hA4
          simp only [shB_v]
          have hH4 := back3 M4 _ hA4
          refine push_ok (K := fun s28 M27 => fib_pop.L2 pts k (some ⟨a, 0, none⟩) (n : Int) s28 s2 ((s2.n : Nat) : Int) (w64 ((j : Int) + 1)) M27) hH4 (by simp [intsN]; have : (rts l).length = rk l := rfl; omega) fun M5 s5 hH5 => ?_
          have e2 : (rts l).take (j + 1) = (rts l).take j ++ [x] := by rw [List.take_add_one, e1]; rfl
          rw [i64_succ (by have : (rts l).length = rk l := rfl; omega)]
          rw [show intsN ((rts l).take j) ++ [(x : Int)] = intsN ((rts l).take (j + 1)) from by rw [e2]; simp [intsN]] at hH5
          refine ih (j + 1) s5 M5 _ (by omega) (by omega) hH5 (fun z f => ?_) hlg ((hch.put (c := x) (f := 0) (v := -1) (hsub x (.inl (hrll x hxm2)))).tick.mono (fun _ h => h) (by omega))
          show (if z = x ∧ f = 0 then (-1 : Int) else γ.get z f) = _
          rw [hg, e2]
          by_cases hf : f = 0
          · by_cases hz : z ∈ (rts l).take j
            · rw [if_pos (⟨hf, hz⟩ : f = 0 ∧ z ∈ (rts l).take j), if_pos (⟨hf, List.mem_append_left _ hz⟩ : f = 0 ∧ z ∈ (rts l).take j ++ [x])]
              simp
            · by_cases hzx : z = x
              · rw [if_pos ⟨hzx, hf⟩, if_pos (⟨hf, by simp [hzx]⟩ : f = 0 ∧ z ∈ (rts l).take j ++ [x])]
              · rw [if_neg (fun e => hzx e.1), if_neg (fun e : f = 0 ∧ z ∈ (rts l).take j => hz e.2), if_neg (fun e : f = 0 ∧ z ∈ (rts l).take j ++ [x] => by
                  rcases List.mem_append.1 e.2 with h | h
                  · exact hz h
                  · simp at h; exact hzx h)]
          · rw [if_neg (fun e => hf e.2), if_neg (fun e : f = 0 ∧ z ∈ (rts l).take j => hf e.1), if_neg (fun e : f = 0 ∧ z ∈ (rts l).take j ++ [x] => hf e.1)]
        · have hje : j = (rts l).length := by omega
          subst hje
          rw [List.take_length] at hH hg
          have hout : ∀ c f, c ∉ rts l → γ.get c f = α.get c f := fun c f hc => by rw [hg, if_neg (fun e => hc e.2)]
          have hnr : n ∉ rts l := fun hm => nl (hrll n hm)
          have hir : i ∉ rts l := fun hm => il (hrll i hm)
          refine j1 F1 M3 γ sl hle1 hH (fun t ht => ?_) (fun t ht => ?_) (q1.congr (fun f => hout n f hnr) (fun f => hout i f hir) (by rw [hlg]) (by rw [hlg])) (hring.congr (fun x _ => by rw [hg, if_neg (by omega)]) (fun x _ => by rw [hg, if_neg (by omega)]) (fun x _ => by rw [hlg])) hlg hch.n (hch.mono (fun _ h => h) ?_)
          · have hrt0 := rep_row.1 q7 t ht
            have hs0 := row_sg l t ht
            have hnt0 : (cellsL (row l)).Nodup := by rw [row_cells]; exact hll
            refine hrt0.above hs0 (by
              obtain ⟨p, q, hpq⟩ := List.append_of_mem ht
              rw [hpq] at hnt0
              simp only [cellsL, List.flatMap_append, List.flatMap_cons] at hnt0
              exact (List.nodup_append.1 (List.nodup_append.1 hnt0).2.1).1) (fun c hc => ?_) (fun c hc f hf => ?_) (fun c _ => by rw [hlg])
            · rw [root_sg hs0] at hc
              have : c = rt1 t := by omega
              subst this
              rw [hg, if_pos ⟨rfl, by rw [← rts_row]; exact List.mem_map_of_mem ht⟩]
            · rw [hg, if_neg]
              rintro ⟨e1, e2⟩
              rw [← rts_row] at e2
              obtain ⟨u, hu, rfl⟩ := List.mem_map.1 e2
              have e3 := cellsL_dis hnt0 u hu t ht (rt1 u) (rt1_mem (row_sg l u hu)) hc
              subst e3
              have := hf (root_sg hs0).symm
              omega
          · refine (repL_congr hrt hst htt (fun c hc f _ => hout c f fun hm => hdis c (hrll c hm) c hc rfl) (fun c _ => by rw [hlg])) t ht
          · have : (rts l).length = rk l := rfl
            omega
    refine ⟨(rts l).length + 1, key _ 0 ⟨none, 0, 0⟩ M2 β (by omega) (by omega) (Holds.nilSl hA2) (fun x f => ?_) (by rw [hs.live]; rfl) ?_⟩
    · rw [hs.get, if_neg (by simp)]; rfl
    · have h1 : AS.Chg (fun c => c ∈ cellsL (node n i e m l nil :: ts)) 1 α α.tick := AS.Chg.refl.tick.mono (fun _ h => h) (by omega)
      exact (h1.trans hs.chg).mono (fun _ h => h) (by omega)

end
end Go.Proofs.YtbkicgfgpmekeaaGreat.HL

/-
  FbG: Fibonacci heaps: a child that is cut off, and those above it that lost one ahead: the walk.
-/
set_option linter.unusedVariables false
set_option linter.unusedSimpArgs false
set_option maxRecDepth 100000
namespace Go.Proofs.YtbkicgfgpmekeaaGreat.HL
open Go.RowKit (Below)
open Go.Proofs
open Go.Proofs.YtbkicgfgpmekeaaGreat.HL.LT

namespace LT
def upOf : List Fr → Int
  | [] => -1
  | f :: _ => (f.n : Int)
def topN : List Fr → Nat → Nat
  | [], x => x
  | f :: fs, _ => topN fs f.n
def cellsC (fs : List Fr) : List Nat := fs.flatMap fun f => cells (f.less f.m)
theorem fills_rt1 : ∀ (fs : List Fr) (t : LT), rt1 (fills fs t) = topN fs (rt1 t)
  | [], _ => rfl
  | f :: fs, t => fills_rt1 fs (f.fill t)
theorem fills_cells : ∀ {fs : List Fr}, (∀ f ∈ fs, f.Ok) → ∀ {t : LT}, Sg t → (cells (fills fs t)).Perm (cells t ++ cellsC fs)
  | [], _, t, _ => by simp [fills, cellsC]
  | f :: fs, hf, t, ht => by
    have h1 := fills_cells (fs := fs) (fun g hg => hf g (List.mem_cons_of_mem _ hg)) (fill_sg f t)
    have h2 := (fill_its (hf f List.mem_cons_self) ht).2.2
    simp only [cellsC, List.flatMap_cons] at h1 ⊢
    rw [← List.append_assoc]
    exact h1.trans (h2.append_right _)
theorem topN_mem : ∀ {fs : List Fr} {x : Nat}, fs ≠ [] → topN fs x ∈ cellsC fs
  | [], _, h => absurd rfl h
  | [f], x, _ => by simp [topN, cellsC, Fr.less, cells]
  | f :: g :: fs, x, _ => by
    have := topN_mem (fs := g :: fs) (x := f.n) (by simp)
    simp only [cellsC, List.flatMap_cons] at this ⊢
    exact List.mem_append_right _ this

/-- A node above, in memory. -/
def RepF (α : AS) (up : Int) (f : Fr) (m : Bool) (ks : List Nat) : Prop :=
  α.Nd f.n f.i f.e ∧ α.get f.n 0 = up ∧ α.get f.n 1 = hd1 ks ∧ α.get f.n 4 = (ks.length : Int) ∧ α.get f.n 5 = (if m then 1 else 0) ∧ RgL α ks ∧ RepL α f.n (f.pre ++ f.post)
theorem rep_fill {α : AS} {up : Int} {f : Fr} (h : f.Ok) {t : LT} (ht : Sg t) : Rep α up (f.fill t) ↔ RepF α up f f.m (f.pre.map rt1 ++ rt1 t :: f.post.map rt1) ∧ Rep α f.n t := by
  have hg := Fr.sg h ht
  have e1 : rts (glue (f.pre ++ t :: f.post)) = f.pre.map rt1 ++ rt1 t :: f.post.map rt1 := by rw [rts_glue hg]; simp
  have e2 : rk (glue (f.pre ++ t :: f.post)) = (f.pre.map rt1 ++ rt1 t :: f.post.map rt1).length := by rw [rk_glue hg]; simp
  show (_ ∧ _ ∧ α.get f.n 1 = (glue (f.pre ++ t :: f.post)).root ∧ α.get f.n 4 = (rk (glue (f.pre ++ t :: f.post)) : Int) ∧ _ ∧ RgL α (rts (glue (f.pre ++ t :: f.post))) ∧ Rep α f.n (glue (f.pre ++ t :: f.post)) ∧ True) ↔ _
  rw [root_hd, e1, e2, rep_glue hg]
  constructor
  · rintro ⟨h1, h2, h3, h4, h5, h6, h7, _⟩
    exact ⟨⟨h1, h2, h3, h4, h5, h6, fun s hs => h7 s (by rcases List.mem_append.1 hs with hs | hs <;> simp [hs])⟩, h7 t (by simp)⟩
  · rintro ⟨⟨h1, h2, h3, h4, h5, h6, h7⟩, h8⟩
    refine ⟨h1, h2, h3, h4, h5, h6, fun s hs => ?_, trivial⟩
    rcases List.mem_append.1 hs with hs | hs
    · exact h7 s (List.mem_append_left _ hs)
    · rcases List.mem_cons.1 hs with rfl | hs
      · exact h8
      · exact h7 s (List.mem_append_right _ hs)
theorem rep_less {α : AS} {up : Int} {f : Fr} (h : f.Ok) {m : Bool} : Rep α up (f.less m) ↔ RepF α up f m (f.pre.map rt1 ++ f.post.map rt1) := by
  have e1 : rts (glue (f.pre ++ f.post)) = f.pre.map rt1 ++ f.post.map rt1 := by rw [rts_glue h]; simp
  have e2 : rk (glue (f.pre ++ f.post)) = (f.pre.map rt1 ++ f.post.map rt1).length := by rw [rk_glue h]; simp
  show (_ ∧ _ ∧ α.get f.n 1 = (glue (f.pre ++ f.post)).root ∧ α.get f.n 4 = (rk (glue (f.pre ++ f.post)) : Int) ∧ _ ∧ RgL α (rts (glue (f.pre ++ f.post))) ∧ Rep α f.n (glue (f.pre ++ f.post)) ∧ True) ↔ _
  rw [root_hd, e1, e2, rep_glue h]
  constructor
  · rintro ⟨h1, h2, h3, h4, h5, h6, h7, _⟩
    exact ⟨h1, h2, h3, h4, h5, h6, h7⟩
  · rintro ⟨h1, h2, h3, h4, h5, h6, h7⟩
    exact ⟨h1, h2, h3, h4, h5, h6, h7, trivial⟩
def RepC (α : AS) : List Fr → Nat → Prop
  | [], _ => True
  | f :: fs, x => RepF α (upOf fs) f f.m (f.pre.map rt1 ++ x :: f.post.map rt1) ∧ RepC α fs f.n
theorem rep_fills {α : AS} : ∀ {fs : List Fr}, (∀ f ∈ fs, f.Ok) → ∀ {t : LT}, Sg t → (Rep α (-1) (fills fs t) ↔ RepC α fs (rt1 t) ∧ Rep α (upOf fs) t)
  | [], _, t, _ => by simp [fills, RepC, upOf]
  | f :: fs, hf, t, ht => by
    have hof := hf f List.mem_cons_self
    show Rep α (-1) (fills fs (f.fill t)) ↔ _
    rw [rep_fills (fs := fs) (fun g hg => hf g (List.mem_cons_of_mem _ hg)) (fill_sg f t), rep_fill hof ht]
    show RepC α fs f.n ∧ _ ∧ _ ↔ (_ ∧ RepC α fs f.n) ∧ _
    constructor
    · rintro ⟨h1, h2, h3⟩; exact ⟨⟨h2, h1⟩, h3⟩
    · rintro ⟨⟨h2, h1⟩, h3⟩; exact ⟨h1, h2, h3⟩
theorem less_cells {f : Fr} (h : f.Ok) (m : Bool) : cells (f.less m) = f.n :: f.i :: cellsL (f.pre ++ f.post) := by
  simp only [Fr.less, cells, glue_cells h, List.append_nil]
theorem roots_less {f : Fr} (h : f.Ok) {c : Nat} (hc : c ∈ f.pre.map rt1 ++ f.post.map rt1) : c ∈ cellsL (f.pre ++ f.post) := by
  rw [← List.map_append] at hc
  obtain ⟨t, ht, rfl⟩ := List.mem_map.1 hc
  exact rt1_cells ht _ (rt1_mem (h t ht))
theorem RepC.congr {α β : AS} : ∀ {fs : List Fr} {x : Nat}, (∀ f ∈ fs, f.Ok) → (cellsC fs).Nodup → RepC α fs x → (∀ c ∈ cellsC fs, ∀ k, (c = topN fs x → k ≠ 2 ∧ k ≠ 3) → β.get c k = α.get c k) → (fs ≠ [] → β.get x 2 = α.get x 2 ∧ β.get x 3 = α.get x 3 ∧ β.live x = α.live x) → (∀ c ∈ cellsC fs, β.live c = α.live c) → RepC β fs x
  | [], _, _, _, _, _, _, _ => trivial
  | f :: fs, x, hf, hn, ⟨⟨h1, h2, h3, h4, h5, h6, h7⟩, h8⟩, hg, hx, hl => by
    have hof := hf f List.mem_cons_self
    have hn' := hn
    simp only [cellsC, List.flatMap_cons] at hn hg hl
    rw [less_cells hof] at hn hg hl
    obtain ⟨k1, k2, k3⟩ := List.nodup_append.1 hn
    simp only [List.nodup_cons, List.mem_cons, not_or] at k1
    obtain ⟨⟨ni, nl⟩, il, hll⟩ := k1
    simp only [List.mem_append, List.mem_cons] at hg hl
    have tn : topN (f :: fs) x = f.n ∨ topN (f :: fs) x ∈ cellsC fs := by
      cases fs with
      | nil => exact .inl rfl
      | cons g gs => exact .inr (topN_mem (x := f.n) (by simp))
    have gl : ∀ c ∈ cellsL (f.pre ++ f.post), ∀ k, β.get c k = α.get c k := fun c hc k => hg c (.inl (.inr (.inr hc))) k fun e => by
      rcases tn with h | h
      · exact absurd hc (by rw [e, h]; exact nl)
      · exact absurd rfl (k3 c (by simp [hc]) c (e ▸ h))
    have gi : ∀ k, β.get f.i k = α.get f.i k := fun k => hg f.i (.inl (.inr (.inl rfl))) k fun e => by
      rcases tn with h | h
      · exact absurd (e.trans h).symm ni
      · exact absurd rfl (k3 f.i (by simp) f.i (e ▸ h))
    have gn : ∀ k, k ≠ 2 → k ≠ 3 → β.get f.n k = α.get f.n k := fun k a b => hg f.n (.inl (.inl rfl)) k fun _ => ⟨a, b⟩
    have hxx := hx (by simp)
    refine ⟨⟨⟨(hl _ (.inl (.inl rfl))).trans h1.ln, (hl _ (.inl (.inr (.inl rfl)))).trans h1.li, (gn 6 (by decide) (by decide)).trans h1.it, (gi 9).trans h1.nd, (gi 7).trans h1.k, (gi 8).trans h1.s⟩, (gn 0 (by decide) (by decide)).trans h2, (gn 1 (by decide) (by decide)).trans h3, (gn 4 (by decide) (by decide)).trans h4, (gn 5 (by decide) (by decide)).trans h5, ?_, ?_⟩, ?_⟩
    · have key : ∀ c ∈ f.pre.map rt1 ++ x :: f.post.map rt1, c = x ∨ c ∈ cellsL (f.pre ++ f.post) := fun c hc => by
        rcases List.mem_append.1 hc with hc | hc
        · exact .inr (roots_less hof (List.mem_append_left _ hc))
        · rcases List.mem_cons.1 hc with rfl | hc
          · exact .inl rfl
          · exact .inr (roots_less hof (List.mem_append_right _ hc))
      refine h6.congr (fun c hc => ?_) (fun c hc => ?_) (fun c hc => ?_)
      · rcases key c hc with rfl | h
        · exact hxx.2.1
        · exact gl c h 3
      · rcases key c hc with rfl | h
        · exact hxx.1
        · exact gl c h 2
      · rcases key c hc with rfl | h
        · exact hxx.2.2
        · exact hl c (.inl (.inr (.inr h)))
    · exact repL_congr h7 hof hll (fun c hc k _ => gl c hc k) (fun c hc => hl c (.inl (.inr (.inr hc))))
    · refine RepC.congr (fun g hg => hf g (List.mem_cons_of_mem _ hg)) k2 h8 (fun c hc k hk => hg c (.inr hc) k hk) (fun he => ?_) (fun c hc => hl c (.inr hc))
      have hne : f.n ≠ topN (f :: fs) x := fun e => by
        have := topN_mem (x := f.n) he
        exact k3 f.n (by simp) f.n (by rw [e]; exact this) rfl
      exact ⟨hg f.n (.inl (.inl rfl)) 2 fun e => absurd e hne, hg f.n (.inl (.inl rfl)) 3 fun e => absurd e hne, hl f.n (.inl (.inl rfl))⟩
end LT

section
variable {w0 : World} {M F : Mem} {R : Value → Mem → Prop} {a : Nat} {α : AS}

theorem fcut_ok (hA : Holds w0 F M (arenaA a α)) {fs0 : List Fr} {t0 : LT} {us : List LT} {r0 : Nat} (hf0 : ∀ f ∈ fs0, f.Ok) (ht0 : Sg t0) (hT0 : Tops α (fills fs0 t0 :: us)) (hr0 : r0 ∈ (fills fs0 t0 :: us).map rt1) (hne : fs0 ≠ [])
    (h : ∀ M' β, Holds w0 F M' (arenaA a β) → Tops β ((casc fs0 t0).1 ++ (casc fs0 t0).2 :: us) → AS.Chg (fun c => c ∈ cellsL (fills fs0 t0 :: us)) (3 + 19 * ((casc fs0 t0).1.length : Int)) α β → R (.tuple #[]) M') :
    C PP w0 Id.fib_cut #[.pointer (some ⟨a, 0, none⟩), .int .i64 (r0 : Int), .int .i64 (rt1 t0 : Int)] R M := by
  apply fib_cut.go
  intro pts H
  unfold fib_cut.T
  have hI := hA.inv
  -- what is above the one that is looked at
  have upv : ∀ {γ : AS} {fs : List Fr} {t : LT}, γ.Inv → (∀ f ∈ fs, f.Ok) → Sg t → Rep γ (-1) (fills fs t) → γ.cellI (rt1 t : Int) 0 = upOf fs := by
    intro γ fs t hIg hf ht hr
    obtain ⟨h1, h2⟩ := (rep_fills hf ht).1 hr
    obtain ⟨n, i, e, m, l, rfl⟩ := sg_node ht
    cases fs with
    | nil => exact AS.cellI_neg (c := n) (f := 0) h2.1.ln (by omega) h2.2.1
    | cons f fs => exact AS.cellI_live (c := n) (f := 0) h2.1.ln (by omega) h2.2.1 (AS.live_lt hIg h1.1.1.ln)
  have key : ∀ (fs : List Fr) (k : Nat) (t : LT) (us : List LT) (M' : Mem) (γ : AS) (j : Nat), fs.length < k → (∀ f ∈ fs, f.Ok) → Sg t → Tops γ (fills fs t :: us) → r0 ∈ (fills fs t :: us).map rt1 → Holds w0 F M' (arenaA a γ) → j + fs.length ≤ γ.n →
      (∀ M'' β, Holds w0 F M'' (arenaA a β) → Tops β ((casc fs t).1 ++ (casc fs t).2 :: us) → AS.Chg (fun c => c ∈ cellsL (fills fs t :: us)) (2 + 19 * ((casc fs t).1.length : Int)) γ β → R (.tuple #[]) M'') →
      fib_cut.L1 pts k (some ⟨a, 0, none⟩) (r0 : Int) (rt1 t : Int) (upOf fs) (j : Int) M' := by
    intro fs
    induction fs with
    | nil =>
      intro k t us M' γ j hk hf ht hT hr hH hj hR
      obtain ⟨k, rfl⟩ : ∃ k', k = k' + 1 := ⟨k - 1, by simp at hk; omega⟩
      rw [H.L1]
      unfold fib_cut.L1.T
      rw [bs_bne, if_pos (show upOf [] = -1 from rfl)]
      exact hR M' γ hH (by simpa [casc, fills] using hT) (AS.Chg.refl.mono (fun _ h => h) (by simp [casc]))
    | cons f fs ih =>
      intro k t us M' γ j hk hf ht hT hr hH hj hR
      obtain ⟨k, rfl⟩ : ∃ k', k = k' + 1 := ⟨k - 1, by simp at hk; omega⟩
      rw [H.L1]
      unfold fib_cut.L1.T
      have hof := hf f List.mem_cons_self
      have hfs : ∀ g ∈ fs, g.Ok := fun g hg => hf g (List.mem_cons_of_mem _ hg)
      simp only [List.length_cons] at hk hj
      have hIg := hH.inv
      rw [bs_bne, if_neg (show ¬ upOf (f :: fs) = -1 from by show ¬ (f.n : Int) = -1; omega), show upOf (f :: fs) = (f.n : Int) from rfl]
      refine Cells_ok hH ?_
      rw [shI_v, bs_decide, if_pos (by omega), H.J2]
      unfold fib_cut.J2.T
      -- what stands where
      have hrep := hT.rep _ List.mem_cons_self
      obtain ⟨⟨⟨hNd, hu0, hu1, hu4, hu5, hrg, hrpp⟩, hRC⟩, hrt⟩ := (rep_fills (fs := f :: fs) hf ht).1 hrep
      have hcp := fills_cells (fs := f :: fs) hf ht
      have hcl : (cellsL (fills (f :: fs) t :: us)).Perm (cells t ++ (f.n :: f.i :: cellsL (f.pre ++ f.post)) ++ cellsC fs ++ cellsL us) := by
        simp only [cellsL, List.flatMap_cons, cellsC] at hcp ⊢
        rw [less_cells hof] at hcp
        rw [← List.append_assoc] at hcp
        exact hcp.append_right _
      have hnd := hcl.nodup_iff.1 hT.nd
      obtain ⟨n12, n3, d12⟩ := List.nodup_append.1 hnd
      obtain ⟨n1, n2, d1⟩ := List.nodup_append.1 n12
      obtain ⟨nT, nF, dT⟩ := List.nodup_append.1 n1
      have nF' := nF
      simp only [List.nodup_cons, List.mem_cons, not_or] at nF'
      obtain ⟨⟨fni, fnl⟩, fil, npp⟩ := nF'
      have htm := rt1_mem ht
      have hus : ∀ u ∈ us, Sg u := fun u hu => hT.sg u (List.mem_cons_of_mem _ hu)
      -- the tops
      obtain ⟨L, hL1, hL2⟩ := hT.rg
      obtain ⟨q, hq1, hq2⟩ := hL2.rot (hL1.mem_iff.2 hr)
      have htop : rt1 (fills (f :: fs) t) = topN fs f.n := fills_rt1 fs (f.fill t)
      have hqp : (r0 :: q).Perm (topN fs f.n :: us.map rt1) := by
        have := hq2.trans hL1
        rwa [List.map_cons, htop] at this
      have topF : topN fs f.n = f.n ∨ topN fs f.n ∈ cellsC fs := by
        cases fs with
        | nil => exact .inl rfl
        | cons g gs => exact .inr (topN_mem (x := f.n) (by simp))
      have husr : ∀ c ∈ us.map rt1, c ∈ cellsL us := fun c hc => by
        obtain ⟨u, hu, rfl⟩ := List.mem_map.1 hc
        exact rt1_cells hu _ (rt1_mem (hus u hu))
      have ks : ∀ c ∈ f.pre.map rt1 ++ rt1 t :: f.post.map rt1, c = rt1 t ∨ c ∈ cellsL (f.pre ++ f.post) := fun c hc => by
        rcases List.mem_append.1 hc with hc | hc
        · exact .inr (roots_less hof (List.mem_append_left _ hc))
        · rcases List.mem_cons.1 hc with rfl | hc
          · exact .inl rfl
          · exact .inr (roots_less hof (List.mem_append_right _ hc))
      -- where a cell is, it is not elsewhere
      have ksT : ∀ c ∈ f.pre.map rt1 ++ rt1 t :: f.post.map rt1, c ∈ cells t ++ (f.n :: f.i :: cellsL (f.pre ++ f.post)) ∧ c ≠ f.n := fun c hc => by
        rcases ks c hc with rfl | h
        · exact ⟨List.mem_append_left _ htm, fun e => dT _ htm f.n (by simp) e⟩
        · exact ⟨List.mem_append_right _ (by simp [h]), fun e => fnl (e ▸ h)⟩
      have tops_out : ∀ c ∈ cells t ++ (f.i :: cellsL (f.pre ++ f.post)), c ∉ r0 :: q := fun c hc hm => by
        have h1 := hqp.mem_iff.1 hm
        have hcn : c ≠ f.n := fun e => by
          rcases List.mem_append.1 hc with hc | hc
          · exact dT c hc f.n (by simp) e
          · rcases List.mem_cons.1 hc with rfl | hc
            · exact fni e.symm
            · exact fnl (e ▸ hc)
        have hc2 : c ∈ cells t ++ (f.n :: f.i :: cellsL (f.pre ++ f.post)) := by
          rcases List.mem_append.1 hc with hc | hc
          · exact List.mem_append_left _ hc
          · exact List.mem_append_right _ (List.mem_cons_of_mem _ hc)
        rcases List.mem_cons.1 h1 with rfl | h1
        · rcases topF with e | e
          · exact hcn e
          · exact d1 _ hc2 _ e rfl
        · exact d12 c (List.mem_append_left _ hc2) c (husr c h1) rfl
      have hdis : ∀ c ∈ f.pre.map rt1 ++ rt1 t :: f.post.map rt1, c ∉ r0 :: q := fun c hc => tops_out c (by
        rcases ks c hc with rfl | h
        · exact List.mem_append_left _ htm
        · exact List.mem_append_right _ (List.mem_cons_of_mem _ h))
      have hkl : (f.pre.map rt1 ++ rt1 t :: f.post.map rt1).length ≤ 65536 := by
        have h1 := nodup_len γ.n _ (ring_at hrg).nd fun x hx => AS.live_lt hIg ((ring_at hrg).live x hx)
        have h2 := hIg.n
        simp only [List.length_cons, List.length_append] at h1 ⊢
        omega
      refine leave_ok hH (u := f.n) (n := rt1 t) (k := ((f.pre.map rt1 ++ rt1 t :: f.post.map rt1).length : Int)) hNd.ln hu1 hu4 (by omega) (by omega) hrg hq1 hdis (fun hm => (ksT _ hm).2 rfl) fun M1 β hB b1 b2 b3 b4 b5 bg bc => ?_
      have hlb : β.live = γ.live := bc.live
      -- all is as it should be
      have gT : ∀ c ∈ cells t, ∀ k, (c = rt1 t → k ≠ 0 ∧ k ≠ 2 ∧ k ≠ 3) → β.get c k = γ.get c k := fun c hc k hk => bg c k (fun e => dT c hc f.n (by simp) e.1) (fun e => (hk e.1).1 e.2) (fun e => by
        rcases e.1 with e1 | e1
        · rcases ks c e1 with h | h
          · have := hk h; rcases e.2 with h | h <;> omega
          · exact dT c hc c (by simp [h]) rfl
        · exact tops_out c (List.mem_append_left _ hc) e1)
      have hrT : Rep β (-1) t := hrt.above ht nT (fun c hc => by
        have : c = rt1 t := by rw [root_sg ht] at hc; omega
        rw [this]; exact b4) (fun c hc k hk => gT c hc k fun e => hk (by rw [root_sg ht, e])) (fun c _ => by rw [hlb])
      have gP : ∀ c ∈ cellsL (f.pre ++ f.post), ∀ k, (c ∈ (f.pre ++ f.post).map rt1 → k ≠ 2 ∧ k ≠ 3) → β.get c k = γ.get c k := fun c hc k hk => bg c k (fun e => fnl (e.1 ▸ hc)) (fun e => dT (rt1 t) htm (rt1 t) (by rw [e.1] at hc; simp [hc]) rfl) (fun e => by
        rcases e.1 with e1 | e1
        · have h9 : c ∈ (f.pre ++ f.post).map rt1 := by
            rw [List.map_append]
            rcases List.mem_append.1 e1 with h | h
            · exact List.mem_append_left _ h
            · rcases List.mem_cons.1 h with h | h
              · exact absurd rfl (dT (rt1 t) htm (rt1 t) (by rw [h] at hc; simp [hc]))
              · exact List.mem_append_right _ h
          have := hk h9; rcases e.2 with h | h <;> omega
        · exact tops_out c (List.mem_append_right _ (List.mem_cons_of_mem _ hc)) e1)
      have gfn : ∀ k, k ≠ 1 → k ≠ 2 → k ≠ 3 → k ≠ 4 → β.get f.n k = γ.get f.n k := fun k h1 h2 h3 h4 => bg f.n k (by omega) (fun e => dT (rt1 t) htm f.n (by simp) e.1.symm) (by omega)
      have gfi : ∀ k, β.get f.i k = γ.get f.i k := fun k => bg f.i k (fun e => fni e.1.symm) (fun e => dT (rt1 t) htm f.i (by simp) e.1.symm) (fun e => by
        rcases e.1 with e1 | e1
        · rcases ks f.i e1 with h | h
          · exact dT (rt1 t) htm f.i (by simp) h.symm
          · exact fil h
        · exact tops_out f.i (by simp) e1)
      have hrF : RepF β (upOf fs) f f.m (f.pre.map rt1 ++ f.post.map rt1) := by
        refine ⟨⟨by rw [hlb]; exact hNd.ln, by rw [hlb]; exact hNd.li, (gfn 6 (by omega) (by omega) (by omega) (by omega)).trans hNd.it, (gfi 9).trans hNd.nd, (gfi 7).trans hNd.k, (gfi 8).trans hNd.s⟩, (gfn 0 (by omega) (by omega) (by omega) (by omega)).trans hu0, b2, ?_, (gfn 5 (by omega) (by omega) (by omega) (by omega)).trans hu5, b1, ?_⟩
        · rw [b3]; simp only [List.length_append, List.length_cons]; omega
        · exact repL_congr hrpp hof npp gP (fun c _ => by rw [hlb])
      have gC : ∀ c ∈ cellsC fs, ∀ k, (c = topN fs f.n → k ≠ 2 ∧ k ≠ 3) → β.get c k = γ.get c k := fun c hc k hk => bg c k (fun e => d1 f.n (by simp) c hc e.1.symm) (fun e => d1 (rt1 t) (List.mem_append_left _ htm) c hc e.1.symm) (fun e => by
        rcases e.1 with e1 | e1
        · exact d1 c (ksT c e1).1 c hc rfl
        · rcases List.mem_cons.1 (hqp.mem_iff.1 e1) with h | h
          · have := hk h; rcases e.2 with h | h <;> omega
          · exact d12 c (List.mem_append_right _ hc) c (husr c h) rfl)
      have hRC2 : RepC β fs f.n := hRC.congr hfs n2 gC (fun he => by
        have hnt : f.n ∉ r0 :: q := fun hm => by
          rcases List.mem_cons.1 (hqp.mem_iff.1 hm) with h | h
          · exact d1 f.n (by simp) f.n (by rw [h]; exact topN_mem he) rfl
          · exact d12 f.n (by simp) f.n (husr _ h) rfl
        have hg2 : ∀ k, k = 2 ∨ k = 3 → β.get f.n k = γ.get f.n k := fun k hk => bg f.n k (by omega) (fun e => dT (rt1 t) htm f.n (by simp) e.1.symm) (fun e => by
          rcases e.1 with e1 | e1
          · exact (ksT _ e1).2 rfl
          · exact hnt e1)
        exact ⟨hg2 2 (.inl rfl), hg2 3 (.inr rfl), by rw [hlb]⟩) (fun c _ => by rw [hlb])
      have gU : RepL β (-1) us := repL_congr (fun u hu => hT.rep u (List.mem_cons_of_mem _ hu)) hus n3 (fun c hc k hk => bg c k (fun e => d12 f.n (by simp) c hc e.1.symm) (fun e => d12 (rt1 t) (by simp [htm]) c hc e.1.symm) (fun e => by
        rcases e.1 with e1 | e1
        · exact d12 c (List.mem_append_left _ (ksT c e1).1) c hc rfl
        · rcases List.mem_cons.1 (hqp.mem_iff.1 e1) with h | h
          · rcases topF with e2 | e2
            · exact d12 f.n (by simp) c hc (h.trans e2).symm
            · exact d12 c (List.mem_append_right _ (h ▸ e2)) c hc rfl
          · have := hk h; rcases e.2 with h | h <;> omega)) (fun c _ => by rw [hlb])
      -- the tops from now on, whatever the mark
      have hcl2 : ∀ m, (cellsL (fills fs (f.less m) :: t :: us)).Perm (cellsL (fills (f :: fs) t :: us)) := fun m => by
        refine List.Perm.trans ?_ hcl.symm
        have h1 := fills_cells hfs (less_sg f m)
        rw [less_cells hof] at h1
        simp only [cellsL, List.flatMap_cons] at h1 ⊢
        rw [← List.append_assoc]
        refine List.Perm.append_right _ ((h1.append_right _).trans (List.perm_append_comm.trans ?_))
        rw [List.append_assoc]
      have hTops : ∀ (m : Bool) (δ : AS), RepF δ (upOf fs) f m (f.pre.map rt1 ++ f.post.map rt1) → RepC δ fs f.n → Rep δ (-1) t → RepL δ (-1) us → δ.Ring r0 (rt1 t :: q) → Tops δ (fills fs (f.less m) :: t :: us) := fun m δ h1 h2 h3 h4 h5 => by
        refine ⟨fun x hx => ?_, fun x hx => ?_, (hcl2 m).symm.nodup_iff.1 hT.nd, r0 :: rt1 t :: q, ?_, h5⟩
        · rcases List.mem_cons.1 hx with rfl | hx
          · exact fills_sg fs (less_sg f m)
          · rcases List.mem_cons.1 hx with rfl | hx
            · exact ht
            · exact hus x hx
        · rcases List.mem_cons.1 hx with rfl | hx
          · exact (rep_fills hfs (less_sg f m)).2 ⟨h2, (rep_less hof).2 h1⟩
          · rcases List.mem_cons.1 hx with rfl | hx
            · exact h3
            · exact h4 x hx
        · rw [List.map_cons, List.map_cons, fills_rt1]
          refine (List.Perm.swap _ _ _).trans ((List.Perm.cons _ hqp).trans ?_)
          exact List.Perm.swap _ _ _
      have hTb := hTops f.m β hrF hRC2 hrT gU b5
      have hbc : AS.Chg (fun c => c ∈ cellsL (fills (f :: fs) t :: us)) 16 γ β := bc.mono (fun c hc => hcl.mem_iff.2 (by
        rcases hc with rfl | hc | hc
        · simp
        · exact List.mem_append_left _ (List.mem_append_left _ (ksT c hc).1)
        · rcases List.mem_cons.1 (hqp.mem_iff.1 hc) with h | h
          · rcases topF with e | e
            · rw [h, e]; simp
            · exact List.mem_append_left _ (List.mem_append_right _ (h ▸ e))
          · exact List.mem_append_right _ (husr c h))) (Int.le_refl _)
      -- further up
      have hup : ∀ (M2 : Mem) (δ : AS) (kst : Int), Holds w0 F M2 (arenaA a δ) → AS.Sm kst β δ → 0 ≤ kst → kst ≤ 2 → (casc (f :: fs) t).1 = t :: (casc fs (f.less f.m)).1 → (casc (f :: fs) t).2 = (casc fs (f.less f.m)).2 → fib_cut.L1 pts k (some ⟨a, 0, none⟩) (r0 : Int) (f.n : Int) (upOf fs) (w64 ((j : Int) + 1)) M2 := by
        intro M2 δ kst hC hs hk0 hk2 e1 e2
        have hTd : Tops δ (fills fs (f.less f.m) :: t :: us) := by
          have hz : ∀ x ∈ fills fs (f.less f.m) :: t :: us, Sg x := hTb.sg
          refine ⟨hTb.sg, repL_congr hTb.rep hTb.sg hTb.nd (fun c _ k _ => by rw [hs.get]) (fun c _ => by rw [hs.live]), hTb.nd, r0 :: rt1 t :: q, ?_, hs.ring b5⟩
          rw [List.map_cons, List.map_cons, fills_rt1]
          exact (List.Perm.swap _ _ _).trans ((List.Perm.cons _ hqp).trans (List.Perm.swap _ _ _))
        have hj2 : w64 ((j : Int) + 1) = ((j + 1 : Nat) : Int) := i64_succ (by have := hIg.n; omega)
        rw [hj2]
        refine ih k (f.less f.m) (t :: us) M2 δ (j + 1) (by omega) hfs (less_sg f f.m) hTd ?_ hC (by rw [hs.n, bc.n]; omega) fun M3 ε hD hTe hce => ?_
        · have := hr
          rw [List.map_cons, htop] at this
          rw [List.map_cons, List.map_cons, fills_rt1]
          rcases List.mem_cons.1 this with h | h
          · rw [h]; exact List.mem_cons_self
          · exact List.mem_cons_of_mem _ (List.mem_cons_of_mem _ h)
        · refine hR M3 ε hD ?_ ((hbc.trans (hs.chg.trans (hce.mono (fun c hc => (hcl2 f.m).mem_iff.1 hc) (Int.le_refl _)))).mono (fun _ h => h) (by rw [e1]; simp only [List.length_cons]; omega))
          rw [e1, e2]
          refine hTe.perm ?_
          simp only [List.cons_append]
          exact ((List.Perm.swap _ _ _).append_left _).trans List.perm_middle
      have hfnl : β.live f.n = true := hrF.1.ln
      refine Cell_ok hB fun M2 hB2 => ?_
      have hupv : β.cellI (f.n : Int) 0 = upOf fs := by
        have := upv (γ := β) (fs := fs) (t := f.less f.m) hB.inv hfs (less_sg f f.m) (hTb.rep _ List.mem_cons_self)
        exact this
      rw [hupv, shI_v, bs_bne]
      split
      · rename_i h0
        have hfe : fs = [] := by
          cases fs with
          | nil => rfl
          | cons g gs => exfalso; simp only [upOf] at h0; omega
        exact hup M2 _ 1 hB2 AS.tick_sm (by omega) (by omega) (by simp [casc, hfe]) (by simp [casc, hfe])
      · rename_i h0
        have hfe : fs ≠ [] := fun e => h0 (by rw [e]; rfl)
        refine Get_ok hB2 fun M3 hB3 => ?_
        have hg5 : β.tick.getI (f.n : Int) 5 = (if f.m then 1 else 0) := (AS.getI_live (α := β.tick) (c := f.n) (f := 5) hfnl (by omega)).trans hrF.2.2.2.2.1
        rw [hg5, shI_v, bs_beq]
        cases hm : f.m with
        | true =>
          rw [if_neg (by simp)]
          exact hup M3 _ 2 hB3 ((AS.tick_sm.trans AS.tick_sm).mono (by omega)) (by omega) (by omega) (by simp [casc, hm]) (by simp [casc, hm])
        | false =>
          rw [if_pos (by simp)]
          refine Set_ok hB3 fun M4 hB4 => ?_
          rw [show β.tick.tick.setI (f.n : Int) 5 1 = β.tick.tick.put f.n 5 1 from AS.setI_live (α := β.tick.tick) (f := 5) hfnl (by omega) _] at hB4
          simp only [shB_v]
          have g5 : ∀ c k, (β.tick.tick.put f.n 5 1).tick.get c k = if c = f.n ∧ k = 5 then 1 else β.get c k := fun c k => rfl
          have ec : (casc (f :: fs) t).1 = [t] ∧ (casc (f :: fs) t).2 = fills fs (f.less true) := by
            simp only [casc]
            rw [if_neg (by rintro (h | h); exact hfe h; rw [hm] at h; cases h)]
            exact ⟨rfl, rfl⟩
          have hTc : Tops ((β.tick.tick.put f.n 5 1).tick) (fills fs (f.less true) :: t :: us) := by
            obtain ⟨p1, p2, p3, p4, p5, p6, p7⟩ := hrF
            refine hTops true _ ⟨⟨p1.ln, p1.li, (by rw [g5, if_neg (by omega)]; exact p1.it), (by rw [g5, if_neg (by omega)]; exact p1.nd), (by rw [g5, if_neg (by omega)]; exact p1.k), (by rw [g5, if_neg (by omega)]; exact p1.s)⟩, (by rw [g5, if_neg (by omega)]; exact p2), (by rw [g5, if_neg (by omega)]; exact p3), (by rw [g5, if_neg (by omega)]; exact p4), (by rw [g5, if_pos ⟨rfl, rfl⟩]; rfl), p6.congr (fun x _ => by rw [g5, if_neg (by omega)]) (fun x _ => by rw [g5, if_neg (by omega)]) (fun _ _ => rfl), ?_⟩ ?_ ?_ ?_ ?_
            · exact repL_congr p7 hof npp (fun c hc k _ => by rw [g5, if_neg (fun e : c = f.n ∧ k = 5 => fnl (e.1 ▸ hc))]) (fun _ _ => rfl)
            · exact hRC2.congr hfs n2 (fun c hc k _ => by rw [g5, if_neg (fun e : c = f.n ∧ k = 5 => d1 f.n (by simp) c hc e.1.symm)]) (fun _ => ⟨by rw [g5, if_neg (by omega)], by rw [g5, if_neg (by omega)], rfl⟩) (fun _ _ => rfl)
            · exact hrT.same nT (fun c hc k => by rw [g5, if_neg (fun e : c = f.n ∧ k = 5 => dT c hc f.n (by simp) e.1)]) (fun _ _ => rfl)
            · exact repL_congr gU hus n3 (fun c hc k _ => by rw [g5, if_neg (fun e : c = f.n ∧ k = 5 => d12 f.n (by simp) c hc e.1.symm)]) (fun _ _ => rfl)
            · exact b5.congr (fun x _ => by rw [g5, if_neg (by omega)]) (fun x _ => by rw [g5, if_neg (by omega)]) (fun _ _ => rfl)
          refine hR M4 _ hB4 ?_ ((((hbc.tick.tick).put (c := f.n) (f := 5) (v := 1) (hcl.mem_iff.2 (by simp))).tick).mono (fun _ h => h) ?_)
          · rw [ec.1, ec.2]
            exact hTc.perm (List.Perm.swap _ _ _)
          · rw [ec.1]; simp
  refine Cell_ok hA fun M1 hA1 => ?_
  rw [upv hI hf0 ht0 (hT0.rep _ List.mem_cons_self), shI_v]
  have hlen : fs0.length ≤ α.n := by
    have h1 : (cellsC fs0).Nodup := (List.nodup_append.1 ((fills_cells hf0 ht0).nodup_iff.1 (by
      have := hT0.nd
      simp only [cellsL, List.flatMap_cons] at this
      exact (List.nodup_append.1 this).1))).2.1
    have h2 := nodup_len α.n _ h1 fun x hx => AS.live_lt hI (hT0.live x (by
      simp only [cellsL, List.flatMap_cons]
      exact List.mem_append_left _ ((fills_cells hf0 ht0).mem_iff.2 (List.mem_append_right _ hx))))
    have h3 : ∀ (l : List Fr), l.length ≤ (cellsC l).length := fun l => by
      induction l with
      | nil => exact Nat.le_refl _
      | cons f l ih =>
        simp only [cellsC, List.flatMap_cons, List.length_append, List.length_cons] at ih ⊢
        have : 1 ≤ (cells (f.less f.m)).length := by simp [Fr.less, cells]
        omega
    have := h3 fs0
    omega
  have hTt : Tops α.tick (fills fs0 t0 :: us) := ⟨hT0.sg, repL_congr hT0.rep hT0.sg hT0.nd (fun _ _ _ _ => rfl) (fun _ _ => rfl), hT0.nd, by
    obtain ⟨L, h1, h2⟩ := hT0.rg
    exact ⟨L, h1, h2.congr (fun _ _ => rfl) (fun _ _ => rfl) (fun _ _ => rfl)⟩⟩
  refine ⟨fs0.length + 1, key fs0 _ t0 us M1 α.tick 0 (by omega) hf0 ht0 hTt hr0 hA1 (by show 0 + _ ≤ α.n; omega) fun M2 β hB hTb hcb => h M2 β hB hTb ?_⟩
  have h1 : AS.Chg (fun c => c ∈ cellsL (fills fs0 t0 :: us)) 1 α α.tick := AS.Chg.refl.tick.mono (fun _ h => h) (by omega)
  exact (h1.trans hcb).mono (fun _ h => h) (by omega)

end
end Go.Proofs.YtbkicgfgpmekeaaGreat.HL

/-
  FbH: Fibonacci heaps: the calls, in the words that the laws on heaps ask for: Push, Pop, Meld, Min.
-/
set_option linter.unusedVariables false
set_option linter.unusedSimpArgs false
set_option maxRecDepth 100000
namespace Go.Proofs.YtbkicgfgpmekeaaGreat.HL
open Go.RowKit (Below)
open Go.Proofs
open Go.Proofs.YtbkicgfgpmekeaaGreat.HL.LT

/-- A heap in memory. -/
structure Hp (α : AS) (r : Int) (t : LT) : Prop where
  r : r = t.root
  rep : LT.Rep α (-1) t
  rg : LT.RgL α (LT.rts t)
  nd : (LT.cells t).Nodup
  od : LT.Od t
  ko : LT.KO t
  least : ∀ x ∈ LT.its t, x = LT.top t ∨ Bf (LT.top t) x
/-- A heap of which one item has a lower key than it was. -/
def HpF (α : AS) (r : Int) (t : LT) (i : Nat) (e e' : Ent) : Prop :=
  ∃ pre post fs n m l, LT.row t = pre ++ LT.fills fs (LT.node n i e m l LT.nil) :: post ∧ (∀ f ∈ fs, f.Ok) ∧ r = t.root ∧ LT.RepL α (-1) (pre ++ LT.fills fs (LT.node n i e' m l LT.nil) :: post) ∧ LT.RgL α (LT.rts t) ∧ (LT.cells t).Nodup ∧ LT.Od t ∧ LT.KO t ∧ (∀ x ∈ LT.its t, x = LT.top t ∨ Bf (LT.top t) x) ∧ e'.1 ≤ e.1 ∧ e'.2 = e.2

/-- The heaps of this seat. -/
abbrev HT := LT
abbrev HT.nil : HT := LT.nil
abbrev HT.its (t : HT) : List Held := LT.its t
abbrev HT.nds (t : HT) : List Nat := LT.nds t
abbrev HT.cells (t : HT) : List Nat := LT.cells t
abbrev HT.root (t : HT) : Int := LT.root t
/-- What is saved up for later calls. -/
def potL (ts : List LT) : Int := 30 * (ts.length : Int) + 60 * (mktL ts : Int)
def HT.pot (t : HT) : Int := potL (LT.row t)
theorem HT.pot_ge (t : HT) : 0 ≤ HT.pot t := by unfold HT.pot potL; omega
/-- What a call may cost: all calls together. -/
def CostOk (x lim spent most : Int) : Prop := spent + x ≤ most + lim
theorem cost_of {x lim spent most P : Int} {t t' : HT} (h1 : x + HT.pot t' ≤ lim + HT.pot t) (h2 : spent + HT.pot t + P ≤ most) (h3 : 0 ≤ P) : CostOk x lim spent most := by
  unfold CostOk
  have := HT.pot_ge t'
  omega
theorem cost_ofM {x lim spent most : Int} {t u t' : HT} (h1 : x + HT.pot t' ≤ lim + HT.pot t + HT.pot u) (h2 : spent + HT.pot t + HT.pot u ≤ most) : CostOk x lim spent most := by
  unfold CostOk
  have := HT.pot_ge t'
  omega
theorem HT.pot_nil : HT.pot HT.nil = 0 := rfl
theorem HT.nil_its : HT.nil.its = [] := rfl
theorem HT.nil_cells : HT.nil.cells = [] := rfl
theorem HT.nds_len (t : HT) : t.nds.length = t.its.length := LT.nds_len t
theorem HT.mem_nds {t : HT} {x : Nat} (h : x ∈ t.nds) : x ∈ t.cells := LT.mem_nds h
theorem HT.mem_its {t : HT} {x : Held} (h : x ∈ t.its) : x.1 ∈ t.cells := LT.mem_its h
namespace LT
theorem its_nd : ∀ {t : LT}, (cells t).Nodup → ∀ x ∈ its t, ∀ y ∈ its t, x.1 = y.1 → x = y
  | nil, _, x, hx, _, _, _ => by cases hx
  | node n i e m l r, hn, x, hx, y, hy, hxy => by
    simp only [cells, List.nodup_cons, List.mem_cons, List.mem_append, not_or] at hn
    obtain ⟨_, ⟨il, ir⟩, hlr⟩ := hn
    obtain ⟨h1, h2, h3⟩ := List.nodup_append.1 hlr
    simp only [its, List.mem_cons, List.mem_append] at hx hy
    rcases hx with hx | hx | hx <;> rcases hy with hy | hy | hy
    · rw [hx, hy]
    · have h9 := mem_its hy
      rw [← hxy, hx] at h9; exact absurd h9 il
    · have h9 := mem_its hy
      rw [← hxy, hx] at h9; exact absurd h9 ir
    · have h9 := mem_its hx
      rw [hxy, hy] at h9; exact absurd h9 il
    · exact its_nd h1 x hx y hy hxy
    · exact absurd hxy (h3 _ (mem_its hx) _ (mem_its hy))
    · have h9 := mem_its hx
      rw [hxy, hy] at h9; exact absurd h9 ir
    · exact absurd hxy.symm (h3 _ (mem_its hy) _ (mem_its hx))
    · exact its_nd h2 x hx y hy hxy
theorem row_mkt : ∀ (t : LT), mktL (row t) = mkt t
  | nil => rfl
  | node n i e m l r => by
    have := row_mkt r
    simp only [mktL] at this
    simp only [row, mktL, List.map_cons, List.sum_cons, mkt, this]; omega
theorem mkt_le : ∀ (t : LT), mkt t ≤ mks t
  | nil => Nat.le_refl _
  | node n i e m l r => by
    have := mkt_le r
    simp only [mkt, mks]; omega
theorem mktL_perm {ts us : List LT} (h : ts.Perm us) : mktL ts = mktL us := sum_perm (h.map mkt)
theorem mktL_app (ts us : List LT) : mktL (ts ++ us) = mktL ts + mktL us := by simp [mktL]
theorem mktL_cons (t : LT) (us : List LT) : mktL (t :: us) = mkt t + mktL us := rfl
theorem sg_top {t : LT} (h : Sg t) : top t ∈ its t := top_mem h
theorem sz_le {ts : List LT} {t : LT} (h : t ∈ ts) : sz t ≤ (itsL ts).length := by rw [sz_its]; exact its_itsL h
theorem rk_bl {t : LT} {N : Nat} (hs : Sg t) (hk : KO t) (hn : sz t ≤ N) : rank t ≤ 2 * bl N := by
  cases t with
  | nil => exact hs.elim
  | node n i e m l r =>
    have h1 := (ko_sz hk.2.1 hk.1).1
    simp only [sz] at hn
    exact fb_bl (k := rk l) (n := N) (by omega)
end LT
theorem HT.its_nd {t : HT} (h : t.cells.Nodup) : ∀ x ∈ t.its, ∀ y ∈ t.its, x.1 = y.1 → x = y := LT.its_nd h
theorem HT.nil_of {t : HT} (h : t.its = []) : t = HT.nil := by
  cases t with
  | nil => rfl
  | node n i e m l r => simp [HT.its, LT.its] at h

section
variable {w0 : World} {M F : Mem} {R : Value → Mem → Prop} {a : Nat} {α : AS}

theorem Hp.congr {β : AS} {r : Int} {t : LT} (h : Hp α r t) (hg : ∀ c ∈ cells t, ∀ f, β.get c f = α.get c f) (hl : ∀ c ∈ cells t, β.live c = α.live c) : Hp β r t :=
  ⟨h.r, h.rep.same h.nd hg hl, h.rg.congr (fun x hx => hg x (mem_nds (mem_rts hx)) 3) (fun x hx => hg x (mem_nds (mem_rts hx)) 2) (fun x hx => hl x (mem_nds (mem_rts hx))), h.nd, h.od, h.ko, h.least⟩
theorem Hp.eff {β : AS} {S L : Nat → Prop} {d k : Int} {r : Int} {t : LT} (h : Hp α r t) (he : AS.Eff S L d k α β) (hS : ∀ c ∈ cells t, ¬ S c) (hL : ∀ c ∈ cells t, ¬ L c) : Hp β r t :=
  h.congr (fun c hc f => he.get c (hS c hc) f) (fun c hc => he.live c (hL c hc))
theorem Hp.live {r : Int} {t : LT} (h : Hp α r t) : ∀ c ∈ cells t, α.live c = true := h.rep.live
theorem Hp.nil : Hp α (-1) .nil := ⟨rfl, trivial, trivial, List.nodup_nil, trivial, trivial, fun x hx => (by cases hx)⟩
theorem Hp.nilH (β : AS) : Hp β (-1) HT.nil := Hp.nil
theorem Hp.size {r : Int} {t : LT} (h : Hp α r t) (hi : α.Inv) : 2 * (its t).length ≤ α.n := by
  have := nodup_len α.n _ h.nd fun x hx => AS.live_lt hi (h.live x hx)
  rwa [cells_len] at this
theorem Hp.root_nil {r : Int} {t : HT} (h : Hp α r t) : r = -1 ↔ t.its = [] := by
  rw [h.r]
  cases t with
  | nil => simp [LT.root, HT.its, LT.its]
  | node n i e m l s => simp only [LT.root, HT.its, LT.its]; constructor <;> intro h9 <;> first | omega | cases h9
theorem rep_nd : ∀ {t : LT} {up : Int}, Rep α up t → ∀ x ∈ its t, ∃ n, α.Nd n x.1 x.2
  | LT.nil, _, _, x, hx => by cases hx
  | LT.node n i e m l r, up, h, x, hx => by
    obtain ⟨h1, h2, h3, h4, h5, h6, h7, h8⟩ := h
    simp only [its, List.mem_cons, List.mem_append] at hx
    rcases hx with rfl | hx | hx
    · exact ⟨n, h1⟩
    · exact rep_nd h7 x hx
    · exact rep_nd h8 x hx
theorem HT.key_of {r : Int} {t : HT} (h : Hp α r t) {x : Held} (hx : x ∈ t.its) : α.get x.1 7 = x.2.1 := by
  obtain ⟨n, hn⟩ := rep_nd h.rep x hx
  exact hn.k
theorem HT.ser_of {r : Int} {t : HT} (h : Hp α r t) {x : Held} (hx : x ∈ t.its) : α.get x.1 8 = x.2.2 := by
  obtain ⟨n, hn⟩ := rep_nd h.rep x hx
  exact hn.s

/-- The tops of a heap. -/
theorem Hp.tops {r : Int} {t : LT} (h : Hp α r t) : Tops α (row t) := ⟨row_sg t, rep_row.1 h.rep, by rw [row_cells]; exact h.nd, rts t, by rw [rts_row], h.rg⟩
theorem tops_hp {β : AS} {ts : List LT} {x : LT} (hT : Tops β ts) (hx : x ∈ ts) (ho : ∀ t ∈ ts, Od t) (hk : ∀ t ∈ ts, KO t) (hl : ∀ y ∈ ts, y = x ∨ Bf (top x) (top y)) :
    ∃ t' : LT, Hp β t'.root t' ∧ t'.root = (rt1 x : Int) ∧ (its t').Perm (itsL ts) ∧ (cells t').Perm (cellsL ts) ∧ HT.pot t' = potL ts := by
  obtain ⟨us, hp, hr⟩ := hT.at hx
  have hT2 := hT.perm hp.symm
  have hrow := row_glue (x :: us) hT2.sg
  obtain ⟨n, i, e, m, l, rfl⟩ := sg_node (hT.sg x hx)
  refine ⟨glue (node n i e m l nil :: us), ⟨rfl, (rep_glue hT2.sg).2 hT2.rep, ?_, ?_, ?_, ?_, fun z hz => ?_⟩, rfl, ?_, ?_, ?_⟩
  · rw [rts_glue hT2.sg]; exact hr
  · rw [glue_cells hT2.sg]; exact hT2.nd
  · refine od_row fun s hs => ?_
    rw [hrow] at hs
    exact ho s (hp.mem_iff.1 hs)
  · refine ko_row fun s hs => ?_
    rw [hrow] at hs
    exact hk s (hp.mem_iff.1 hs)
  · rw [glue_its hT2.sg] at hz
    exact least_all hT2.sg (fun t ht => ho t (hp.mem_iff.1 ht)) (fun y hy => hl y (hp.mem_iff.1 hy)) z hz
  · rw [glue_its hT2.sg]; exact itsL_perm hp
  · rw [glue_cells hT2.sg]; exact cellsL_perm hp
  · unfold HT.pot potL
    rw [hrow, hp.length_eq, mktL_perm hp]
/-- The first one of a heap is before the others. -/
theorem Hp.first {n i : Nat} {e : Ent} {m : Bool} {l s : LT} {r : Int} (h : Hp α r (node n i e m l s)) : ∀ y ∈ row (node n i e m l s), y = node n i e m l LT.nil ∨ Bf (i, e) (top y) := fun y hy => by
  have hs := row_sg _ y hy
  have hm : top y ∈ its (node n i e m l s) := by
    rw [← row_its]
    exact List.mem_flatMap.2 ⟨y, hy, top_mem hs⟩
  rcases h.least _ hm with h1 | h1
  · refine .inl ?_
    have hc : (top y).1 = i := by rw [h1]; rfl
    refine cellsL_dis (by rw [row_cells]; exact h.nd) y hy (node n i e m l LT.nil) (by simp [row]) i (by rw [← hc]; exact mem_its (top_mem hs)) (by simp [cells])
  · exact .inr h1

theorem heap_push_ok (hA : Holds w0 F M (arenaA a α)) {r : Int} {t : HT} (hp : Hp α r t) {i : Nat} {e : Ent} (hi : α.live i = true) (hic : i ∉ t.cells) (h7 : α.get i 7 = e.1) (h8 : α.get i 8 = e.2)
    (h0 : α.next = none → ∀ M' β, Holds w0 F M' (arenaA a β) → AS.Sm 1 α β → R (.tuple #[.int .i64 r, .bool false]) M')
    (h1 : ∀ n, α.next = some n → α.live n = false → ∀ M' β (t' : HT), Holds w0 F M' (arenaA a β) → Hp β t'.root t' → t'.its.Perm ((i, e) :: t.its) → t'.cells.Perm (n :: i :: t.cells) → AS.Eff (fun c => c ∈ n :: i :: t.cells) (· = n) 1 (500 + HT.pot t - HT.pot t') α β → R (.tuple #[.int .i64 t'.root, .bool true]) M') :
    C PP w0 Id.fib_Push #[.pointer (some ⟨a, 0, none⟩), .int .i64 r, .int .i64 (i : Int)] R M := by
  apply fib_Push.go
  unfold fib_Push.T
  have hI := hA.inv
  simp only [go_sem, Option.isNone_some, bs_false]
  refine ndNew_ok hA hi (fun hnx M1 β hB hs => ?_) fun n hnx M1 γ hB2 hs2 => ?_
  · simp only [go_sem, Bool.not_false, bs_true]
    exact h0 hnx M1 β hB hs
  · simp only [go_sem, Bool.not_true, bs_false]
    obtain ⟨hnn, hnl, hnt⟩ := AS.next_some hI hnx
    have hnt2 : n ∉ cells t := fun hc => by have := hp.live n hc; rw [hnl] at this; cases this
    have hin : i ≠ n := fun e => by rw [e, hnl] at hi; cases hi
    obtain ⟨hfr, hfl⟩ := AS.take_fresh hI hnx
    have he2 : AS.Eff (fun c => c ∈ n :: i :: t.cells) (· = n) 1 3 α γ := ((((AS.take_eff (S := fun c => c ∈ n :: i :: t.cells) (L := (· = n)) hI hnx (by simp) rfl).put (f := 6) (v := (i : Int)) (c := n) (by simp)).put (f := 9) (v := (n : Int)) (c := i) (by simp)).trans hs2.eff).mono (fun _ h => h) (fun _ h => h) (by omega) |>.to (by omega)
    have g : ∀ x f, γ.get x f = if x = i ∧ f = 9 then (n : Int) else if x = n ∧ f = 6 then (i : Int) else α.take.get x f := fun x f => by rw [hs2.get]; rfl
    have gtk : ∀ x f, x ≠ n → α.take.get x f = α.get x f := fun x f hx => by
      rw [hnt]
      show (if x = n then AS.fresh f else α.get x f) = _
      rw [if_neg hx]
    have gl : ∀ x, γ.live x = if x = n then true else α.live x := fun x => by rw [hs2.live, show ((α.take.put n 6 (i : Int)).put i 9 (n : Int)).live = α.take.live from rfl, hnt]; rfl
    have go : ∀ c ∈ cells t, ∀ f, γ.get c f = α.get c f := fun c hc f => by rw [g, if_neg (fun e : c = i ∧ f = 9 => hic (e.1 ▸ hc)), if_neg (fun e : c = n ∧ f = 6 => hnt2 (e.1 ▸ hc)), gtk c f (fun e => hnt2 (e ▸ hc))]
    have hpg : Hp γ r t := hp.congr go fun c hc => by rw [gl, if_neg (fun e : c = n => hnt2 (e ▸ hc))]
    have gn : ∀ f, f ≠ 6 → γ.get n f = AS.fresh f := fun f h6 => by rw [g, if_neg (fun e : n = i ∧ f = 9 => hin e.1.symm), if_neg (fun e : n = n ∧ f = 6 => h6 e.2), hfr]
    have gi : ∀ f, f ≠ 9 → γ.get i f = α.get i f := fun f h9 => by rw [g, if_neg (fun e : i = i ∧ f = 9 => h9 e.2), if_neg (fun e : i = n ∧ f = 6 => hin e.1), gtk _ _ hin]
    have hNd : γ.Nd n i e := ⟨by rw [gl, if_pos rfl], by rw [gl, if_neg hin]; exact hi, by rw [g, if_neg (by omega), if_pos ⟨rfl, rfl⟩], by rw [g, if_pos ⟨rfl, rfl⟩], (gi 7 (by omega)).trans h7, (gi 8 (by omega)).trans h8⟩
    have hrs : Rep γ (-1) (node n i e false nil nil) := ⟨hNd, gn 0 (by omega), gn 1 (by omega), gn 4 (by omega), gn 5 (by omega), trivial, trivial, trivial⟩
    have hcc : (n :: i :: cells t).Nodup := by
      simp only [List.nodup_cons, List.mem_cons, not_or]
      exact ⟨⟨fun e => hin e.symm, hnt2⟩, hic, hp.nd⟩
    have hrow : cellsL (node n i e false nil nil :: row t) = n :: i :: cells t := by
      have := row_cells t
      simp only [cellsL] at this
      simp [cellsL, cells, this]
    have hrowi : itsL (node n i e false nil nil :: row t) = (i, e) :: its t := by
      have := row_its t
      simp only [itsL] at this
      simp [itsL, its, this]
    have hsgA : ∀ x ∈ node n i e false nil nil :: row t, Sg x := fun x hx => by
      rcases List.mem_cons.1 hx with rfl | hx
      · rfl
      · exact row_sg t x hx
    have hodA : ∀ x ∈ node n i e false nil nil :: row t, Od x := fun x hx => by
      rcases List.mem_cons.1 hx with rfl | hx
      · exact ⟨fun y hy => (by cases hy), trivial, trivial⟩
      · exact row_od hp.od x hx
    have hkoA : ∀ x ∈ node n i e false nil nil :: row t, KO x := fun x hx => by
      rcases List.mem_cons.1 hx with rfl | hx
      · exact ⟨Kf.nil, trivial, trivial⟩
      · exact row_ko hp.ko x hx
    have hrepA : RepL γ (-1) (node n i e false nil nil :: row t) := fun x hx => by
      rcases List.mem_cons.1 hx with rfl | hx
      · exact hrs
      · exact rep_row.1 hpg.rep x hx
    have hpot : potL (node n i e false nil nil :: row t) = 30 + HT.pot t := by
      unfold HT.pot potL
      rw [mktL_cons]
      show 30 * (((row t).length + 1 : Nat) : Int) + 60 * ((0 + 0 + mktL (row t) : Nat) : Int) = _
      omega
    refine One_ok hB2 hNd.ln fun M2 δ hB3 hs3 => ?_
    have gd : ∀ x k, ¬ (x = n ∧ (k = 2 ∨ k = 3)) → δ.get x k = γ.get x k := fun x k hx => by
      rw [hs3.get]
      show (if x = n ∧ k = 2 then _ else if x = n ∧ k = 3 then _ else γ.get x k) = _
      rw [if_neg (fun e => hx ⟨e.1, .inl e.2⟩), if_neg (fun e => hx ⟨e.1, .inr e.2⟩)]
    have hld : δ.live = γ.live := by rw [hs3.live]; rfl
    have he3 : AS.Eff (fun c => c ∈ n :: i :: t.cells) (· = n) 1 5 α δ := ((((he2.put (c := n) (f := 3) (v := (n : Int)) (by simp)).put (c := n) (f := 2) (v := (n : Int)) (by simp)).trans hs3.eff).mono (fun _ h => h) (fun _ h => h) (by omega)).to (by omega)
    have hnA : (cellsL (node n i e false nil nil :: row t)).Nodup := by rw [hrow]; exact hcc
    have hmapA : (node n i e false nil nil :: row t).map rt1 = n :: rts t := by rw [List.map_cons, rts_row]; rfl
    rw [bs_beq]
    cases t with
    | nil =>
      rw [if_pos (by rw [hp.r]; rfl)]
      have hT : Tops δ [node n i e false nil nil] := ⟨hsgA, repL_congr hrepA hsgA hnA (fun c hc k hk => gd c k fun e => by have := hk (by rw [e.1]; exact List.mem_cons_self); omega) (fun c _ => by rw [hld]), hnA, [n], by rw [show [node n i e false nil nil].map rt1 = [n] from rfl], hs3.ring (AS.ring_one hNd.ln)⟩
      obtain ⟨t', k1, k2, k3, k4, k5⟩ := tops_hp hT (x := node n i e false nil nil) (by simp) hodA hkoA (fun y hy => .inl (by simpa using hy))
      have := h1 n hnx hnl M2 δ t' hB3 k1 k3 k4 (he3.mono (fun _ h => h) (fun _ h => h) (by
        have h9 := hpot
        simp only [row] at h9
        rw [k5, h9]; omega))
      rwa [show HT.root t' = _ from k2] at this
    | node tn ti te tm tl tr =>
      have hrr : r = (tn : Int) := hp.r
      rw [if_neg (by omega), hrr]
      have hrg : γ.Ring tn (rts tr) := hpg.rg
      have hnr : n ∉ tn :: rts tr := fun hm => hnt2 (mem_nds (mem_rts hm))
      have hrgd : δ.Ring tn (rts tr) := hrg.congr (fun x hx => gd x 3 fun e => hnr (e.1 ▸ hx)) (fun x hx => gd x 2 fun e => hnr (e.1 ▸ hx)) (fun x _ => by rw [hld])
      have hnld : δ.live n = true := by rw [hld]; exact hNd.ln
      refine Put_ok hB3 hrgd hnld fun M3 ε hB4 hs4 => ?_
      have hhm : (rts tr).headD tn ∈ tn :: rts tr := by cases rts tr <;> simp
      have hle : ε.live = γ.live := by rw [hs4.live]; exact hld
      have ge : ∀ x k, ¬ (x ∈ n :: tn :: rts tr ∧ (k = 2 ∨ k = 3)) → ε.get x k = γ.get x k := fun x k hx => by
        rw [hs4.get]
        show (if x = (rts tr).headD tn ∧ k = 2 then _ else if x = n ∧ k = 3 then _ else if x = n ∧ k = 2 then _ else if x = tn ∧ k = 3 then _ else δ.get x k) = _
        rw [if_neg (fun e : x = (rts tr).headD tn ∧ k = 2 => hx ⟨by rw [e.1]; exact List.mem_cons_of_mem _ hhm, .inl e.2⟩), if_neg (fun e : x = n ∧ k = 3 => hx ⟨by simp [e.1], .inr e.2⟩), if_neg (fun e : x = n ∧ k = 2 => hx ⟨by simp [e.1], .inl e.2⟩), if_neg (fun e : x = tn ∧ k = 3 => hx ⟨by simp [e.1], .inr e.2⟩)]
        exact gd x k fun e => hx ⟨by simp [e.1], e.2⟩
      have hSm : ∀ x ∈ n :: tn :: rts tr, x ∈ n :: i :: cells (node tn ti te tm tl tr) := fun x hx => by
        rcases List.mem_cons.1 hx with rfl | hx
        · simp
        · exact List.mem_cons_of_mem _ (List.mem_cons_of_mem _ (mem_nds (mem_rts hx)))
      have he4 : AS.Eff (fun c => c ∈ n :: i :: cells (node tn ti te tm tl tr)) (· = n) 1 10 α ε := (((((he3.put (c := tn) (f := 3) (v := (n : Int)) (hSm tn (by simp))).put (c := n) (f := 2) (v := (tn : Int)) (hSm n (by simp))).put (c := n) (f := 3) (v := (((rts tr).headD tn : Nat) : Int)) (hSm n (by simp))).put (c := (rts tr).headD tn) (f := 2) (v := (n : Int)) (hSm _ (List.mem_cons_of_mem _ hhm))).trans hs4.eff |>.mono (fun _ h => h) (fun _ h => h) (by omega)).to (by omega)
      have hTe : Tops ε (node n i e false nil nil :: row (node tn ti te tm tl tr)) := ⟨hsgA, repL_congr hrepA hsgA hnA (fun c hc k hk => ge c k fun e => by have := hk (by rw [hmapA]; exact e.1); omega) (fun c _ => by rw [hle]), hnA, tn :: n :: rts tr, by rw [hmapA]; exact List.Perm.swap _ _ _, hs4.ring (AS.ring_put hrgd hnr hnld)⟩
      have hN1 := (hTe.rep _ List.mem_cons_self).1
      have hN2 := (hTe.rep (node tn ti te tm tl nil) (by simp [row])).1
      have hti : ti ≠ i := fun e => hic (by simp [e.symm, HT.cells, cells])
      refine lesser_ok hB4 hN2 hN1 fun M4 ζ hB5 hs5 => ?_
      simp only [go_sem]
      have hTz : Tops ζ (node n i e false nil nil :: row (node tn ti te tm tl tr)) := ⟨hsgA, repL_congr hTe.rep hsgA hnA (fun c _ k _ => by rw [hs5.get]) (fun c _ => by rw [hs5.live]), hnA, tn :: n :: rts tr, by rw [hmapA]; exact List.Perm.swap _ _ _, hs5.ring (hs4.ring (AS.ring_put hrgd hnr hnld))⟩
      have he5 : AS.Eff (fun c => c ∈ n :: i :: cells (node tn ti te tm tl tr)) (· = n) 1 16 α ζ := ((he4.trans hs5.eff).mono (fun _ h => h) (fun _ h => h) (by omega)).to (by omega)
      have fin : ∀ x ∈ node n i e false nil nil :: row (node tn ti te tm tl tr), (∀ y ∈ node n i e false nil nil :: row (node tn ti te tm tl tr), y = x ∨ Bf (top x) (top y)) → R (.tuple #[.int .i64 (rt1 x : Int), .bool true]) M4 := fun x hx hl => by
        obtain ⟨t', k1, k2, k3, k4, k5⟩ := tops_hp hTz hx hodA hkoA hl
        have := h1 n hnx hnl M4 ζ t' hB5 k1 (by rw [hrowi] at k3; exact k3) (by rw [hrow] at k4; exact k4) (he5.mono (fun _ h => h) (fun _ h => h) (by rw [k5, hpot]; omega))
        rwa [show HT.root t' = _ from k2] at this
      by_cases hb : Bf (i, e) (ti, te)
      · rw [if_pos hb]
        refine fin (node n i e false nil nil) List.mem_cons_self fun y hy => ?_
        rcases List.mem_cons.1 hy with h | h
        · exact .inl h
        · rcases hp.first y h with rfl | h
          · exact .inr hb
          · exact .inr (Bf.tr (y := (ti, te)) hb h)
      · rw [if_neg hb]
        refine fin (node tn ti te tm tl nil) (by simp [row]) fun y hy => ?_
        rcases List.mem_cons.1 hy with rfl | h
        · exact .inr (Bf.tot hb fun e => hti e.symm)
        · exact hp.first y h

/-- One of the tops is taken out: what is left is a heap. -/
theorem fpop_hp (hA : Holds w0 F M (arenaA a α)) {n i : Nat} {e : Ent} {m : Bool} {l : LT} {ts : List LT} (hT : Tops α (node n i e m l nil :: ts)) (ho : ∀ t ∈ node n i e m l nil :: ts, Od t) (hk : ∀ t ∈ node n i e m l nil :: ts, KO t) {N : Nat} (hN : (itsL (node n i e m l nil :: ts)).length ≤ N)
    (h : ∀ M' β (t' : HT), Holds w0 F M' (arenaA a β) → Hp β t'.root t' → t'.its.Perm (its l ++ itsL ts) → t'.cells.Perm (cells l ++ cellsL ts) →
      AS.Eff (fun c => c ∈ cellsL (node n i e m l nil :: ts)) (· = n) (-1) (35 + 92 * (bl N : Int) + 30 * (ts.length : Int) + 60 * (mktL (node n i e m l nil :: ts) : Int) - HT.pot t') α β → β.get i 9 = -1 ∧ β.get i 7 = e.1 ∧ β.get i 8 = e.2 ∧ β.live i = true → R (.tuple #[.int .i64 t'.root, .int .i64 (i : Int)]) M') :
    C PP w0 Id.fib_pop #[.pointer (some ⟨a, 0, none⟩), .int .i64 (n : Int)] R M := by
  obtain ⟨us, hp0, hr⟩ := hT.at (x := node n i e m l nil) List.mem_cons_self
  have hpu : us.Perm ts := List.Perm.cons_inv hp0
  have hTu := hT.perm hp0.symm
  have hcS : ∀ c, c ∈ cellsL (node n i e m l nil :: us) → c ∈ cellsL (node n i e m l nil :: ts) := fun c hc => (cellsL_perm hp0).mem_iff.1 hc
  have hsx : ∀ t ∈ row l ++ us, Sg t := fun t ht => by
    rcases List.mem_append.1 ht with ht | ht
    · exact row_sg l t ht
    · exact hTu.sg t (List.mem_cons_of_mem _ ht)
  have hon := ho _ List.mem_cons_self
  have hkn := hk _ List.mem_cons_self
  have hox : ∀ t ∈ row l ++ us, Od t := fun t ht => by
    rcases List.mem_append.1 ht with ht | ht
    · exact row_od hon.2.1 t ht
    · exact ho t (List.mem_cons_of_mem _ (hpu.mem_iff.1 ht))
  have hkx : ∀ t ∈ row l ++ us, KO t := fun t ht => by
    rcases List.mem_append.1 ht with ht | ht
    · exact row_ko hkn.2.1 t ht
    · exact hk t (List.mem_cons_of_mem _ (hpu.mem_iff.1 ht))
  have hxi : itsL (row l ++ us) = its l ++ itsL us := by
    simp only [itsL, List.flatMap_append]
    rw [show (row l).flatMap its = its l from row_its l]
  have hxc : cellsL (row l ++ us) = cells l ++ cellsL us := by
    simp only [cellsL, List.flatMap_append]
    rw [show (row l).flatMap cells = cells l from row_cells l]
  have hnx : (cellsL (row l ++ us)).Nodup := by
    have := hTu.nd
    simp only [cellsL, List.flatMap_cons, cells, List.append_nil, List.cons_append, List.nodup_cons] at this
    rw [hxc]; exact this.2.2
  obtain ⟨u1, u2, u3, u4, u5, u6⟩ := unl_ok (ts := []) (xs := row l ++ us) (fun t ht => by cases ht) hsx
  simp only [itsL, cellsL, ndsL, List.flatMap_nil, List.nil_append] at u1 u2 u3
  have hoU := unl_od (ts := []) (xs := row l ++ us) (fun t ht => by cases ht) hsx (fun t ht => by cases ht) hox (by simpa [cellsL] using hnx)
  have hkU := unl_ko (ts := []) (xs := row l ++ us) (fun t ht => by cases ht) hsx (fun t ht => by cases ht) hkx
  have hmU : mktL (unl [] (row l ++ us)) ≤ mktL (node n i e m l nil :: ts) := by
    have h1 : mktL ([] : List LT) = 0 := rfl
    rw [u5, h1, mktL_app, row_mkt, mktL_cons, mktL_perm hpu]
    have := mkt_le l
    simp only [mkt]; omega
  have hNl : (itsL (row l ++ us)).length + 1 ≤ N := by
    rw [hxi, List.length_append, (itsL_perm hpu).length_eq]
    have : (itsL (node n i e m l nil :: ts)).length = (its l).length + 1 + (itsL ts).length := by simp [itsL, its]; omega
    omega
  have hlenU : (unl [] (row l ++ us)).length ≤ 2 * bl N + 1 := few u4 hkU (unl_ranks (by simp)) fun t ht => by
    have h1 := sz_le ht
    have h2 := u1.length_eq
    simp only [itsL] at h1 hNl
    omega
  have hrkl : rk l ≤ 2 * bl N := rk_bl (t := node n i e m l nil) rfl hkn (by
    have := sz_le (ts := node n i e m l nil :: ts) (t := node n i e m l nil) List.mem_cons_self
    omega)
  refine fpop_ok hA hTu hr fun M' β root hB hTb hroot he hi9 => ?_
  have he' := he.mono hcS (fun _ h => h) (Int.le_refl _)
  rw [hpu.length_eq] at he'
  rcases hroot with ⟨hU, rfl⟩ | ⟨x, hx, rfl, hl⟩
  · have hx0 : row l ++ us = [] := (unl_nil hsx).1 hU
    have hl0 := congrArg itsL hx0
    have hc0 := congrArg cellsL hx0
    rw [hxi] at hl0
    rw [hxc] at hc0
    refine h M' β LT.nil hB (Hp.nilH β) ?_ ?_ (he'.mono (fun _ h => h) (fun _ h => h) ?_) hi9
    · show ([] : List Held).Perm _
      have := (itsL_perm hpu)
      have h2 : itsL us = [] := (List.append_eq_nil_iff.1 hl0).2
      have h1 : its l = [] := (List.append_eq_nil_iff.1 hl0).1
      rw [h1, List.nil_append]
      rw [h2] at this; exact this
    · show ([] : List Nat).Perm _
      have := (cellsL_perm hpu)
      have h2 : cellsL us = [] := (List.append_eq_nil_iff.1 hc0).2
      have h1 : cells l = [] := (List.append_eq_nil_iff.1 hc0).1
      rw [h1, List.nil_append]
      rw [h2] at this; exact this
    · rw [show HT.pot LT.nil = 0 from rfl]
      omega
  · obtain ⟨t', k1, k2, k3, k4, k5⟩ := tops_hp hTb hx hoU hkU hl
    rw [← k2]
    refine h M' β t' hB k1 (k3.trans (u1.trans ?_)) (k4.trans (u3.trans ?_)) (he'.mono (fun _ h => h) (fun _ h => h) ?_) hi9
    · rw [show (row l ++ us).flatMap its = its l ++ itsL us from hxi]
      exact (itsL_perm hpu).append_left _
    · rw [show (row l ++ us).flatMap cells = cells l ++ cellsL us from hxc]
      exact (cellsL_perm hpu).append_left _
    · rw [k5]
      unfold potL
      omega

theorem heap_pop_ok (hA : Holds w0 F M (arenaA a α)) {r : Int} {t : HT} (hp : Hp α r t)
    (h0 : t = HT.nil → R (.tuple #[.int .i64 (-1), .int .i64 (-1)]) M)
    (h : ∀ x L, t.its.Perm (x :: L) → (∀ y ∈ L, Bf x y) → ∀ M' β (t' : HT) n, n ∈ t.nds → Holds w0 F M' (arenaA a β) → Hp β t'.root t' → t'.its.Perm L → (∀ c ∈ t'.cells, c ∈ t.cells) → x.1 ∉ t'.cells → AS.Eff (fun c => c ∈ t.cells) (· = n) (-1) (limH (t.its.length) + HT.pot t - HT.pot t') α β → β.get x.1 9 = -1 ∧ β.get x.1 7 = x.2.1 ∧ β.get x.1 8 = x.2.2 ∧ β.live x.1 = true → R (.tuple #[.int .i64 t'.root, .int .i64 (x.1 : Int)]) M') :
    C PP w0 Id.fib_Pop #[.pointer (some ⟨a, 0, none⟩), .int .i64 r] R M := by
  rw [hp.r]
  apply fib_Pop.go
  intro pts H
  unfold fib_Pop.T
  simp only [go_sem, Option.isNone_some, bs_false]
  refine Live_ok hA ?_
  cases t with
  | nil =>
    rw [show α.liveI LT.nil.root = false from AS.liveI_neg]
    simp only [go_sem, Bool.not_false, bs_true]
    exact h0 rfl
  | node n i e m l s =>
    rw [show α.liveI (LT.node n i e m l s).root = true from by show α.liveI (n : Int) = true; rw [AS.liveI_nat]; exact hp.rep.1.ln]
    simp only [go_sem, Bool.not_true, bs_false]
    rw [H.J1]
    unfold fib_Pop.J1.T
    have hnd := hp.nd
    simp only [cells, List.nodup_cons, List.mem_cons, List.mem_append, not_or] at hnd
    obtain ⟨⟨ni, nl, ns⟩, ⟨il, is⟩, hls⟩ := hnd
    have eI : itsL (row s) = its s := row_its s
    have eC : cellsL (row s) = cells s := row_cells s
    have hT := hp.tops
    simp only [row] at hT
    have hIt : itsL (node n i e m l nil :: row s) = (i, e) :: (its l ++ its s) := by
      have h1 : itsL (node n i e m l nil :: row s) = its (node n i e m l nil) ++ itsL (row s) := rfl
      rw [h1, eI]; simp [its]
    have hCe : cellsL (node n i e m l nil :: row s) = n :: i :: (cells l ++ cells s) := by
      have h1 : cellsL (node n i e m l nil :: row s) = cells (node n i e m l nil) ++ cellsL (row s) := rfl
      rw [h1, eC]; simp [cells]
    refine fpop_hp hA hT (fun t ht => row_od hp.od t ht) (fun t ht => row_ko hp.ko t ht) (N := (its (node n i e m l s)).length) (by rw [hIt]; exact Nat.le_refl _) fun M1 β t' hB k1 k2 k3 he hi9 => ?_
    rw [eI] at k2
    rw [eC] at k3
    simp only [go_sem]
    have hsubc : ∀ c ∈ t'.cells, c ∈ cells l ∨ c ∈ cells s := fun c hc => List.mem_append.1 (k3.mem_iff.1 hc)
    refine h (i, e) (its l ++ its s) (by simp [its]) (fun y hy => ?_) M1 β t' n (by simp [nds]) hB k1 k2 (fun c hc => ?_) (fun hc => ?_) (he.mono (fun c hc => ?_) (fun _ h => h) ?_) hi9
    · rcases hp.least y (by simp only [its, List.mem_cons]; exact .inr hy) with h9 | h9
      · exfalso
        have : y.1 = i := by rw [h9]; rfl
        rcases List.mem_append.1 hy with hy | hy
        · exact il (this ▸ mem_its hy)
        · exact is (this ▸ mem_its hy)
      · exact h9
    · rcases hsubc c hc with hc | hc <;> simp [HT.cells, cells, hc]
    · rcases hsubc i hc with hc | hc
      · exact il hc
      · exact is hc
    · rw [hCe] at hc; exact hc
    · have e1 : HT.pot (node n i e m l s) = 30 * ((row s).length + 1 : Int) + 60 * (mktL (node n i e m l nil :: row s) : Int) := by
        unfold HT.pot potL
        simp only [row, List.length_cons]; omega
      show 35 + 92 * (bl ((its (node n i e m l s)).length) : Int) + 30 * ((row s).length : Int) + 60 * (mktL (node n i e m l nil :: row s) : Int) - HT.pot t' ≤ limH ((its (node n i e m l s)).length) + HT.pot (node n i e m l s) - HT.pot t'
      rw [e1]
      unfold limH
      omega

theorem heap_meld_ok (hA : Holds w0 F M (arenaA a α)) {r s : Int} {t u : HT} (hp : Hp α r t) (hq : Hp α s u) (hd : (t.cells ++ u.cells).Nodup)
    (h : ∀ M' β (t' : HT), Holds w0 F M' (arenaA a β) → Hp β t'.root t' → t'.its.Perm (t.its ++ u.its) → t'.cells.Perm (t.cells ++ u.cells) → AS.Eff (fun c => c ∈ t.cells ∨ c ∈ u.cells) (fun _ => False) 0 (500 + HT.pot t + HT.pot u - HT.pot t') α β → R (.int .i64 t'.root) M') :
    C PP w0 Id.fib_Meld #[.pointer (some ⟨a, 0, none⟩), .int .i64 r, .int .i64 s] R M := by
  apply fib_Meld.go
  intro pts H
  unfold fib_Meld.T
  simp only [go_sem, Option.isNone_some, bs_false]
  rw [hp.r, hq.r, bs_beq]
  cases t with
  | nil =>
    rw [if_pos (show LT.nil.root = -1 from rfl)]
    refine h M α u hA ⟨rfl, hq.rep, hq.rg, hq.nd, hq.od, hq.ko, hq.least⟩ (by simp [HT.its, its]) (by simp [HT.cells, cells]) (AS.Eff.mono (AS.Chg.refl (S := fun _ => False)).eff (fun _ h => h.elim) (fun _ h => h) ?_)
    rw [show HT.pot LT.nil = 0 from rfl]; omega
  | node tn ti te tm tl tr =>
    rw [if_neg (by simp only [root]; omega), bs_beq]
    cases u with
    | nil =>
      rw [if_pos (show LT.nil.root = -1 from rfl)]
      refine h M α _ hA ⟨rfl, hp.rep, hp.rg, hp.nd, hp.od, hp.ko, hp.least⟩ (by simp [HT.its, its]) (by simp [HT.cells, cells]) (AS.Eff.mono (AS.Chg.refl (S := fun _ => False)).eff (fun _ h => h.elim) (fun _ h => h) ?_)
      rw [show HT.pot LT.nil = 0 from rfl]; omega
    | node un ui ue um ul ur =>
      rw [if_neg (by simp only [root]; omega), bs_beq]
      obtain ⟨d1, d2, d3⟩ := List.nodup_append.1 hd
      have htu : tn ≠ un := fun e => d3 tn (by simp [HT.cells, cells]) un (by simp [HT.cells, cells]) e
      have hiu : ti ≠ ui := fun e => d3 ti (by simp [HT.cells, cells]) ui (by simp [HT.cells, cells]) e
      rw [if_neg (by simp only [root]; omega), H.J1]
      unfold fib_Meld.J1.T
      simp only [root]
      have hr1 : α.Ring tn (rts tr) := hp.rg
      have hr2 : α.Ring un (rts ur) := hq.rg
      have hrd : ∀ x ∈ un :: rts ur, x ∉ tn :: rts tr := fun x hx hy => d3 x (mem_nds (mem_rts (t := node tn ti te tm tl tr) hy)) x (mem_nds (mem_rts (t := node un ui ue um ul ur) hx)) rfl
      refine Join_ok hA hr1 hr2 fun M1 β hB hs => ?_
      have hA2 : row (node tn ti te tm tl tr) ++ row (node un ui ue um ul ur) = row (node tn ti te tm tl tr) ++ row (node un ui ue um ul ur) := rfl
      have hsg : ∀ x ∈ row (node tn ti te tm tl tr) ++ row (node un ui ue um ul ur), Sg x := fun x hx => by
        rcases List.mem_append.1 hx with hx | hx
        · exact row_sg _ x hx
        · exact row_sg _ x hx
      have hI2 : itsL (row (node tn ti te tm tl tr) ++ row (node un ui ue um ul ur)) = its (node tn ti te tm tl tr) ++ its (node un ui ue um ul ur) := by
        rw [← row_its (node tn ti te tm tl tr), ← row_its (node un ui ue um ul ur)]
        simp only [itsL, List.flatMap_append]
      have hC2 : cellsL (row (node tn ti te tm tl tr) ++ row (node un ui ue um ul ur)) = cells (node tn ti te tm tl tr) ++ cells (node un ui ue um ul ur) := by
        rw [← row_cells (node tn ti te tm tl tr), ← row_cells (node un ui ue um ul ur)]
        simp only [cellsL, List.flatMap_append]
      have hnA : (cellsL (row (node tn ti te tm tl tr) ++ row (node un ui ue um ul ur))).Nodup := by rw [hC2]; exact hd
      have hmap : (row (node tn ti te tm tl tr) ++ row (node un ui ue um ul ur)).map rt1 = (tn :: rts tr) ++ (un :: rts ur) := by rw [List.map_append, rts_row, rts_row]; rfl
      have hrep : RepL α (-1) (row (node tn ti te tm tl tr) ++ row (node un ui ue um ul ur)) := fun x hx => by
        rcases List.mem_append.1 hx with hx | hx
        · exact rep_row.1 hp.rep x hx
        · exact rep_row.1 hq.rep x hx
      have hm1 : (rts ur).getLastD un ∈ un :: rts ur := AS.last_mem un (rts ur)
      have hm2 : (rts tr).headD tn ∈ tn :: rts tr := by cases rts tr <;> simp
      have gb : ∀ x k, ¬ (x ∈ (tn :: rts tr) ++ (un :: rts ur) ∧ (k = 2 ∨ k = 3)) → β.get x k = α.get x k := fun x k hx => by
        rw [hs.get]
        show (if x = (rts tr).headD tn ∧ k = 2 then _ else if x = (rts ur).getLastD un ∧ k = 3 then _ else if x = un ∧ k = 2 then _ else if x = tn ∧ k = 3 then _ else α.get x k) = _
        rw [if_neg (fun e : x = (rts tr).headD tn ∧ k = 2 => hx ⟨by rw [e.1]; exact List.mem_append_left _ hm2, .inl e.2⟩), if_neg (fun e : x = (rts ur).getLastD un ∧ k = 3 => hx ⟨by rw [e.1]; exact List.mem_append_right _ hm1, .inr e.2⟩), if_neg (fun e : x = un ∧ k = 2 => hx ⟨by simp [e.1], .inl e.2⟩), if_neg (fun e : x = tn ∧ k = 3 => hx ⟨by simp [e.1], .inr e.2⟩)]
      have hring := hs.ring (AS.ring_join hr1 hr2 hrd)
      have hpm : (tn :: (un :: rts ur ++ rts tr)).Perm ((row (node tn ti te tm tl tr) ++ row (node un ui ue um ul ur)).map rt1) := by
        rw [hmap]
        exact List.Perm.cons _ List.perm_append_comm
      have hTb : Tops β (row (node tn ti te tm tl tr) ++ row (node un ui ue um ul ur)) := ⟨hsg, repL_congr hrep hsg hnA (fun c hc k hk => gb c k fun e => by have := hk (by rw [hmap]; exact e.1); omega) (fun c _ => by rw [hs.live]; rfl), hnA, _, hpm, hring⟩
      have m1 : node tn ti te tm tl nil ∈ row (node tn ti te tm tl tr) ++ row (node un ui ue um ul ur) := by simp [row]
      have m2 : node un ui ue um ul nil ∈ row (node tn ti te tm tl tr) ++ row (node un ui ue um ul ur) := by simp [row]
      refine lesser_ok hB (hTb.rep _ m1).1 (hTb.rep _ m2).1 fun M2 γ hC hs2 => ?_
      simp only [go_sem]
      have hTg : Tops γ (row (node tn ti te tm tl tr) ++ row (node un ui ue um ul ur)) := ⟨hsg, repL_congr hTb.rep hsg hnA (fun c _ k _ => by rw [hs2.get]) (fun c _ => by rw [hs2.live]), hnA, _, hpm, hs2.ring hring⟩
      have hcS : ∀ x ∈ (tn :: rts tr) ++ (un :: rts ur), x ∈ cells (node tn ti te tm tl tr) ∨ x ∈ cells (node un ui ue um ul ur) := fun x hx => by
        rcases List.mem_append.1 hx with hx | hx
        · exact .inl (mem_nds (mem_rts (t := node tn ti te tm tl tr) hx))
        · exact .inr (mem_nds (mem_rts (t := node un ui ue um ul ur) hx))
      have hch : AS.Chg (fun c => c ∈ cells (node tn ti te tm tl tr) ∨ c ∈ cells (node un ui ue um ul ur)) 12 α γ := ((((((AS.Chg.refl.put (c := tn) (f := 3) (v := (un : Int)) (hcS tn (by simp))).put (c := un) (f := 2) (v := (tn : Int)) (hcS un (by simp))).put (c := (rts ur).getLastD un) (f := 3) (v := (((rts tr).headD tn : Nat) : Int)) (hcS _ (List.mem_append_right _ hm1))).put (c := (rts tr).headD tn) (f := 2) (v := (((rts ur).getLastD un : Nat) : Int)) (hcS _ (List.mem_append_left _ hm2))).trans (hs.chg.trans hs2.chg))).mono (fun _ h => h) (by omega)
      have hpot : potL (row (node tn ti te tm tl tr) ++ row (node un ui ue um ul ur)) = HT.pot (node tn ti te tm tl tr) + HT.pot (node un ui ue um ul ur) := by
        unfold HT.pot potL
        rw [mktL_app, List.length_append]; omega
      have fin : ∀ x ∈ row (node tn ti te tm tl tr) ++ row (node un ui ue um ul ur), (∀ y ∈ row (node tn ti te tm tl tr) ++ row (node un ui ue um ul ur), y = x ∨ Bf (top x) (top y)) → R (.int .i64 (rt1 x : Int)) M2 := fun x hx hl => by
        obtain ⟨t', k1, k2, k3, k4, k5⟩ := tops_hp hTg hx (fun y hy => by
          rcases List.mem_append.1 hy with hy | hy
          · exact row_od hp.od y hy
          · exact row_od hq.od y hy) (fun y hy => by
          rcases List.mem_append.1 hy with hy | hy
          · exact row_ko hp.ko y hy
          · exact row_ko hq.ko y hy) hl
        have := h M2 γ t' hC k1 (by rw [hI2] at k3; exact k3) (by rw [hC2] at k4; exact k4) (AS.Eff.mono hch.eff (fun _ h => h) (fun _ h => h) (by rw [k5, hpot]; omega))
        rwa [show HT.root t' = _ from k2] at this
      by_cases hb : Bf (ui, ue) (ti, te)
      · rw [if_pos hb]
        refine fin (node un ui ue um ul nil) m2 fun y hy => ?_
        rcases List.mem_append.1 hy with hy | hy
        · rcases hp.first y hy with rfl | h
          · exact .inr hb
          · exact .inr (Bf.tr (y := (ti, te)) hb h)
        · exact hq.first y hy
      · rw [if_neg hb]
        have hb2 : Bf (ti, te) (ui, ue) := Bf.tot hb fun e => hiu e.symm
        refine fin (node tn ti te tm tl nil) m1 fun y hy => ?_
        rcases List.mem_append.1 hy with hy | hy
        · exact hp.first y hy
        · rcases hq.first y hy with rfl | h
          · exact .inr hb2
          · exact .inr (Bf.tr (y := (ui, ue)) hb2 h)

theorem heap_min_ok (hA : Holds w0 F M (arenaA a α)) {r : Int} {t : HT} (hp : Hp α r t)
    (h0 : t = HT.nil → ∀ M' β, Holds w0 F M' (arenaA a β) → AS.Sm 1 α β → R (.int .i64 (-1)) M')
    (h : ∀ x L, t.its.Perm (x :: L) → (∀ y ∈ L, Bf x y) → ∀ M' β, Holds w0 F M' (arenaA a β) → AS.Sm 1 α β → R (.int .i64 (x.1 : Int)) M') :
    C PP w0 Id.fib_Min #[.pointer (some ⟨a, 0, none⟩), .int .i64 r] R M := by
  apply fib_Min.go
  unfold fib_Min.T
  simp only [go_sem, Option.isNone_some, bs_false]
  rw [hp.r]
  refine Cell_ok hA fun M1 hA1 => ?_
  cases t with
  | nil =>
    rw [show LT.nil.root = -1 from rfl, AS.cellI_none AS.liveI_neg]
    simp only [go_sem]
    exact h0 rfl M1 _ hA1 AS.tick_sm
  | node n i e m l s =>
    rw [show α.cellI (LT.node n i e m l s).root 6 = (i : Int) from AS.cellI_live (c := n) (f := 6) hp.rep.1.ln (by omega) hp.rep.1.it (AS.live_lt hA.inv hp.rep.1.li)]
    simp only [go_sem]
    have hnd := hp.nd
    simp only [cells, List.nodup_cons, List.mem_cons, List.mem_append, not_or] at hnd
    obtain ⟨_, ⟨il, is⟩, _⟩ := hnd
    refine h (i, e) (its l ++ its s) (by simp [its]) (fun y hy => ?_) M1 _ hA1 AS.tick_sm
    rcases hp.least y (by simp only [its, List.mem_cons]; exact .inr hy) with h9 | h9
    · exfalso
      have : y.1 = i := by rw [h9]; rfl
      rcases List.mem_append.1 hy with hy | hy
      · exact il (this ▸ mem_its hy)
      · exact is (this ▸ mem_its hy)
    · exact h9

end
end Go.Proofs.YtbkicgfgpmekeaaGreat.HL

