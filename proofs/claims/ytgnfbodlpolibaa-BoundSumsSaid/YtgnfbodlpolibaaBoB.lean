/-
  BoB: a sum is that of its parts.
-/
import Derived.Test.YtgnfbodlpolibaaBoA
set_option linter.unusedVariables false
set_option linter.unusedSimpArgs false
set_option maxRecDepth 100000
namespace Go.Proofs.Ytgnfbodlpolibaa.HL
open Go.RowKit (Below)
open Go.Proofs

section
variable {w0 : World} {M M0 F : Mem} {R : Value → Mem → Prop}

/-- One use, written down. -/
theorem use_lit {p : Us} {K : SV → Mem → Prop} (h : ∀ M' s', Mem.le M M' → s'.n = 1 → (∀ B, Mem.le B M → SlK w0 B M' 3 s' ((flatU [p]).map (Value.int .i64))) → K s' M') :
    (std PP w0).bsl 30 1 [(0, .agg #[.int .i64 p.1, .int .i64 p.2.1, .int .i64 p.2.2])] (fun v M1 => shS v fun s1 => K s1 M1) M := by
  refine bsl_e (cells := #[.int .i64 p.1, .int .i64 p.2.1, .int .i64 p.2.2]) Try.underlying30 W.e34 (by decide) (by kernel_rfl) fun b hb hw => ?_
  rw [shS_v]
  refine h _ _ (Mem.le_set _ hb) rfl fun B hB => ?_
  exact SlK.new (n := 1) (le_none hB hb) (Own.new hw) (by simp [flatU])

theorem tame_ok {s : SV} {l : List Int} (hs : RdF w0 M 3 s l) (h : ∀ M' s' us, Mem.le M M' → RdF w0 M' 3 s' (flatU us) → us.length ≤ 30 → (∀ p ∈ us, okU p) → R s'.v M') : C PP w0 Id.thicketlaw19_tame #[SV.v s] R M := by
  apply thicketlaw19_tame.go
  intro pts H
  unfold thicketlaw19_tame.T
  have key : ∀ (k i : Nat) (out : SV) (us : List Us) (M' : Mem), 30 < i + k → i ≤ 30 → us.length = i → out.n = i → (∀ p ∈ us, okU p) → Mem.le M M' → SlK w0 M M' 3 out ((flatU us).map (Value.int .i64)) → thicketlaw19_tame.L1 pts k s out (i : Int) M' := by
    intro k
    induction k with
    | zero => intro i out us M' h1 h2; omega
    | succ k ih =>
      intro i out us M' h1 h2 hu hon hok hle hsl
      have hfin : R out.v M' := h M' out us hle (hsl.rdF (by decide) (flatU_wf hok) (by omega)) (by omega) hok
      rw [H.L1]
      unfold thicketlaw19_tame.L1.T
      simp only [bs_decide]
      split
      · split
        · rw [H.J2]
          unfold thicketlaw19_tame.J2.T
          have hi : i < s.n := by omega
          obtain ⟨x0, e0, b0⟩ := hs.get (f := 0) hi (by omega)
          obtain ⟨x1, e1, b1⟩ := hs.get (f := 1) hi (by omega)
          obtain ⟨x2, e2, b2⟩ := hs.get (f := 2) hi (by omega)
          obtain ⟨a, ea, hr0⟩ := hs.cell _ _ e0
          obtain ⟨a1, ea1, hr1⟩ := hs.cell _ _ e1
          obtain ⟨a2, ea2, hr2⟩ := hs.cell _ _ e2
          rw [ea] at ea1 ea2
          cases ea1; cases ea2
          rw [Nat.add_zero] at hr0
          have q0 : ∀ (t : TypeId), cell1 PP t = true → (std PP w0).ld t (a.add ((i : Int).toNat * 3)) M' = some (.int .i64 x0) := fun t ht => by rw [ld_one ht, Int.toNat_natCast]; exact hr0 M' hle
          have q1 : ∀ (t : TypeId), cell1 PP t = true → (std PP w0).ld t (Addr.add (a.add ((i : Int).toNat * 3)) 1) M' = some (.int .i64 x1) := fun t ht => by rw [ld_one ht, Int.toNat_natCast, add_add]; exact hr1 M' hle
          have q2 : ∀ (t : TypeId), cell1 PP t = true → (std PP w0).ld t (Addr.add (a.add ((i : Int).toNat * 3)) 2) M' = some (.int .i64 x2) := fun t ht => by rw [ld_one ht, Int.toNat_natCast, add_add]; exact hr2 M' hle
          have hbd : 0 ≤ (i : Int) ∧ (i : Int) < ((s.n : Nat) : Int) := by omega
          rw [ea]
          simp only [nc_v, q0 _ W.c3, q1 _ W.c3, q2 _ W.c3, ob_v, shI_v]
          refine ⟨hbd, hbd, hbd, ?_⟩
          refine Within_ok b0 (by omega) (by omega) (by omega) (by omega) fun k' hk1 hk2 => ?_
          simp only [shI_v, q1 _ W.c3, q2 _ W.c3]
          refine ⟨trivial, trivial, ?_⟩
          refine Within_ok b1 (by omega) (by omega) (by omega) (by omega) fun op ho1 ho2 => ?_
          simp only [shI_v, q2 _ W.c3]
          refine ⟨trivial, ?_⟩
          refine Within_ok b2 (by omega) (by omega) (by omega) (by omega) fun n hn1 hn2 => ?_
          simp only [go_sem]
          refine use_lit (p := (k', op, n)) fun M2 s2 l2 hn2' h2 => ?_
          refine app_slk (k := 3) Try.underlying30 W.e34 (Mem.le_trans hle l2) (hsl.le l2) (news := (flatU [(k', op, n)]).map (Value.int .i64)) (by simp [flatU, hn2']) (h2 M hle).cells (fun e => ((h2 M hle).none e).1) (ints_one _ _) (by decide) (by omega) fun M3 s3 l3 h3 hn3 => ?_
          rw [shS_sv, w64_in (by omega)]
          rw [← List.map_append, ← flatU_app] at h3
          refine ih (i + 1) s3 (us ++ [(k', op, n)]) M3 (by omega) (by omega) (by simp [hu]) (by omega) (fun p hp => ?_) l3 h3
          rcases List.mem_append.1 hp with hp | hp
          · exact hok p hp
          · simp at hp; subst hp
            exact ⟨hk1, hk2, ho1, ho2, hn1, hn2⟩
        · exact hfin
      · exact hfin
  exact ⟨31, key 31 0 ⟨none, 0, 0⟩ [] M (by omega) (by omega) rfl rfl (by simp) (Mem.le_refl _) SlK.nil⟩

theorem flat_cells {s : SV} {l : List Us} (h : RdF w0 M 3 s (flatU l)) {M' : Mem} (hl : Mem.le M M') : Cells w0 M' s.a ((flatU l).map (Value.int .i64)) := by
  intro j v hv
  rw [List.getElem?_map] at hv
  cases hx : (flatU l)[j]? with
  | none => rw [hx] at hv; cases hv
  | some x =>
    rw [hx] at hv; cases hv
    obtain ⟨a, ea, hr⟩ := h.cell j x hx
    exact ⟨a, ea, hr M' hl⟩
theorem flat_none {s : SV} {l : List Us} (h : RdF w0 M 3 s (flatU l)) (hn : s.a = none) : s.n = 0 := by
  have hl := h.len
  rw [flatU_len] at hl
  cases l with
  | nil => simp at hl; omega
  | cons p l =>
    obtain ⟨a, ea, _⟩ := h.cell 0 p.1 (by simp [flatU])
    rw [hn] at ea; cases ea

theorem bo_sums (hR : ∀ M, R (.bool true) M) {s x : SV} {l m : List Int} (hs : RdF w0 M 3 s l) (hx : RdF w0 M 3 x m) : C PP w0 Id.thicketlaw19_BoundSums #[SV.v s, SV.v x] R M := by
  apply thicketlaw19_BoundSums.go
  intro pts H
  unfold thicketlaw19_BoundSums.T
  have hend : ∀ M, (std PP w0).call Id.thicketlaw19_known #[] (fun v38 M39 => shB v38 fun b40 => R (.bool b40) M39) M := fun M => by
    refine known19_ok fun M' _ => ?_
    rw [shB_v]
    exact hR _
  refine tame_ok hs fun M1 s1 u1 l1 r1 n1 k1 => ?_
  rw [shS_sv]
  refine tame_ok (hx.le l1) fun M2 s2 u2 l2 r2 n2 k2 => ?_
  rw [shS_sv]
  refine Sum_ok (r1.le l2) (by omega) k1 fun M3 l3 => ?_
  rw [shI_v]
  refine Sum_ok (r2.le l3) (by omega) k2 fun M4 l4 => ?_
  rw [shI_v]
  have r1' := ((r1.le l2).le l3).le l4
  have r2' := (r2.le l3).le l4
  refine bsl_e (cells := #[]) Try.underlying30 W.e34 (n := 0) (by decide) (by kernel_rfl) fun b hb hw => ?_
  rw [shS_v]
  have h5 : SlK w0 M4 (M4.set b (.row (#[] : Array Value).toList 34)) 3 ⟨some ⟨b, 0, none⟩, 0, 0⟩ [] := SlK.new hb (Own.new hw) rfl
  have l5 : Mem.le M4 (M4.set b (.row (#[] : Array Value).toList 34)) := Mem.le_set _ hb
  generalize M4.set b (.row (#[] : Array Value).toList 34) = M5 at h5 l5 ⊢
  have s1n : s1.n = u1.length := by have := r1.len; rw [flatU_len] at this; omega
  have s2n : s2.n = u2.length := by have := r2.len; rw [flatU_len] at this; omega
  refine app_slk (k := 3) Try.underlying30 W.e34 l5 h5 (news := (flatU u1).map (Value.int .i64)) (by rw [List.length_map, flatU_len, s1n]) (flat_cells r1' l5) (flat_none r1') (ints_one _ _) (by decide) (by simp; omega) fun M6 s6 l6 h6 n6 => ?_
  rw [shS_sv]
  rw [List.nil_append] at h6
  refine app_slk (k := 3) Try.underlying30 W.e34 l6 h6 (news := (flatU u2).map (Value.int .i64)) (by rw [List.length_map, flatU_len, s2n]) (flat_cells r2' l6) (flat_none r2') (ints_one _ _) (by decide) (by simp at n6; omega) fun M7 s7 l7 h7 n7 => ?_
  rw [shS_sv]
  rw [← List.map_append, ← flatU_app] at h7
  have k7 : ∀ p ∈ u1 ++ u2, okU p := fun p hp => by
    rcases List.mem_append.1 hp with hp | hp
    · exact k1 p hp
    · exact k2 p hp
  simp only [Nat.zero_add] at n6
  refine Sum_ok (h7.rdF (by decide) (flatU_wf k7) (by omega)) (by simp; omega) k7 fun M8 l8 => ?_
  have b1 := sumU_bound k1
  have b2 := sumU_bound k2
  rw [shI_v, sumU_app, w64_in (by omega), bs_bne, if_pos rfl, bs_decide, if_neg (by omega), bs_decide, if_neg (by omega), H.J1]
  unfold thicketlaw19_BoundSums.J1.T
  have r8 := r1'.le (Mem.le_trans l7 l8)
  have key : ∀ (k i : Nat) (M' : Mem), u1.length < i + k → i ≤ u1.length → Mem.le M8 M' → thicketlaw19_BoundSums.L2 pts k s1 (sumU u1) (i : Int) M' := by
    intro k
    induction k with
    | zero => intro i M' h1 h2; omega
    | succ k ih =>
      intro i M' h1 h2 hle
      rw [H.L2]
      unfold thicketlaw19_BoundSums.L2.T
      rw [bs_decide]
      split
      · have hi : i < u1.length := by omega
        have ep := List.getElem?_eq_getElem hi
        have hp := k1 _ (List.getElem_mem hi)
        generalize u1[i] = p at ep hp
        refine rdfA (cs := [p.1, p.2.1, p.2.2]) W.g34 r8 hle i rfl (by omega) (by simp) (flatU_get ep) ?_
        simp only [List.map_cons, List.map_nil, shA_v, shCons_v, shI_v, shNil_v]
        refine use_lit (p := p) fun M9 s9 l9 n9 h9 => ?_
        have kp : ∀ q ∈ [p], okU q := fun q hq => by simp at hq; subst hq; exact hp
        refine Sum_ok ((h9 M' (Mem.le_refl _)).rdF (by decide) (flatU_wf kp) (by omega)) (by simp) kp fun M10 l10 => ?_
        rw [shI_v]
        have hle10 := Mem.le_trans hle (Mem.le_trans l9 l10)
        refine rdf0L W.c3 r8 hle10 i rfl (by omega) (flatU_get ep 0 _ rfl) ?_
        refine rdfL W.c3 r8 hle10 i rfl (by omega) (flatU_get ep 1 _ rfl) ?_
        refine rdfL W.c3 r8 hle10 i rfl (by omega) (flatU_get ep 2 _ rfl) ?_
        unfold okU at hp
        refine Shared_ok (by omega) (by omega) ?_
        have hs1 : sumU [p] = shI' p.1 p.2.1 p.2.2 := by simp [sumU]
        have hb1 := sh_bound (k := p.1) (op := p.2.1) (n := p.2.2) (by omega) (by omega)
        have hle1 : shI' p.1 p.2.1 p.2.2 ≤ sumU u1 := by
          have e := List.take_append_drop i u1
          rw [List.drop_eq_getElem_cons hi] at e
          rw [List.getElem?_eq_getElem hi] at ep
          rw [Option.some.inj ep] at e
          have c1 := sumU_bound (l := u1.take i) (fun q hq => k1 q (List.mem_of_mem_take hq))
          have c2 := sumU_bound (l := u1.drop (i + 1)) (fun q hq => k1 q (List.mem_of_mem_drop hq))
          rw [← e, sumU_app, sumU]
          omega
        rw [shI_v, hs1, bs_bne, if_pos rfl, bs_decide, if_neg (by omega), bs_decide, if_neg (by omega), w64_in (by omega)]
        exact ih (i + 1) M10 (by omega) (by omega) hle10
      · exact hend _
  exact ⟨u1.length + 1, key _ 0 M8 (by omega) (by omega) (Mem.le_refl _)⟩

end
end Go.Proofs.Ytgnfbodlpolibaa.HL
