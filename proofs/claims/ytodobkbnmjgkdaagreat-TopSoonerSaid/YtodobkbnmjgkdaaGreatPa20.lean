import Derived.Test.YtodobkbnmjgkdaaGreatPa19
set_option linter.unusedVariables false
set_option linter.unusedSimpArgs false
set_option maxRecDepth 100000
namespace Go.Proofs.YtodobkbnmjgkdaaGreat.HL
open Go.RowKit (Below)
open Go.Proofs
abbrev V3 := Int × Int × Int
abbrev V5 := Int × Int × Int × Int × Int
abbrev vc3 (v : V3) : List Value := [.int .i64 v.1, .int .i64 v.2.1, .int .i64 v.2.2]
abbrev vc5 (v : V5) : List Value := [.int .i64 v.1, .int .i64 v.2.1, .int .i64 v.2.2.1, .int .i64 v.2.2.2.1, .int .i64 v.2.2.2.2]
def z3 : V3 := (0, 0, 0)
def z5 : V5 := (0, 0, 0, 0, 0)
def pc3 (x : Plc V3) : List Value := .int .i64 x.g :: .bool x.t :: vc3 x.v
def pc5 (x : Plc V5) : List Value := .int .i64 x.g :: .bool x.t :: vc5 x.v
theorem pc3_len (x : Plc V3) : (pc3 x).length = 5 := rfl
theorem pc5_len (x : Plc V5) : (pc5 x).length = 7 := rfl
theorem pc3_one (x : Plc V3) : ∀ v ∈ pc3 x, onecell v = true := by
 intro v hv
 simp only [pc3, vc3, List.mem_cons, List.not_mem_nil, or_false] at hv
 rcases hv with rfl | rfl | rfl | rfl | rfl <;> rfl
theorem pc5_one (x : Plc V5) : ∀ v ∈ pc5 x, onecell v = true := by
 intro v hv
 simp only [pc5, vc5, List.mem_cons, List.not_mem_nil, or_false] at hv
 rcases hv with rfl | rfl | rfl | rfl | rfl | rfl | rfl <;> rfl
theorem vc3_one (x : V3) : ∀ v ∈ vc3 x, onecell v = true := by
 intro v hv
 simp only [vc3, List.mem_cons, List.not_mem_nil, or_false] at hv
 rcases hv with rfl | rfl | rfl <;> rfl
theorem vc5_one (x : V5) : ∀ v ∈ vc5 x, onecell v = true := by
 intro v hv
 simp only [vc5, List.mem_cons, List.not_mem_nil, or_false] at hv
 rcases hv with rfl | rfl | rfl | rfl | rfl <;> rfl
theorem flat_over {α : Type} {c : α → List Value} {k : Nat} (hc : ∀ x, (c x).length = k) {l : List α} {i : Nat} {x x' : α} {o : Nat} {A B B' : List Value} {rest : List Value} (hx : l[i]? = some x) (h1 : c x = A ++ B) (h2 : c x' = A ++ B') (hA : A.length = o) (hB : B'.length = B.length) :
  over (l.flatMap c ++ rest) (i * k + o) B' = (l.set i x').flatMap c ++ rest := by
 obtain ⟨hi, hxe⟩ := List.getElem?_eq_some_iff.1 hx
 have e1 : l = l.take i ++ x :: l.drop (i + 1) := by rw [← hxe, ← List.drop_eq_getElem_cons hi, List.take_append_drop]
 have e2 : l.set i x' = l.take i ++ x' :: l.drop (i + 1) := by rw [List.set_eq_take_append_cons_drop, if_pos hi]
 have hl : ((l.take i).flatMap c).length = i * k := by rw [flat_len hc, List.length_take, Nat.min_eq_left (by omega)]
 rw [e2]
 conv => lhs; rw [e1]
 rw [List.flatMap_append, List.flatMap_cons, List.flatMap_append, List.flatMap_cons, h1, h2]
 have := over_mid ((l.take i).flatMap c ++ A) B ((l.drop (i + 1)).flatMap c ++ rest) B' hB (o := i * k + o) (by rw [List.length_append, hl, hA])
 simp only [List.append_assoc] at this ⊢
 exact this
section
variable {w0 : World} {F M : Mem} {R : VP}
theorem stPart {α : Type} {c : α → List Value} {k : Nat} (hc : ∀ x, (c x).length = k) {t : TypeId} {vs : List Value} (hg : aggOf PP t vs.length = true) {s : SV} {l : List α} {Q : Asn} (h : Holds w0 F M (star (SlKA k s (l.flatMap c)) Q)) {i : Nat} {x x' : α} (hx : l[i]? = some x) {o : Nat} {A B : List Value} (h1 : c x = A ++ B) (h2 : c x' = A ++ vs) (hA : A.length = o) (hB : vs.length = B.length) (hone : ∀ v ∈ vs, onecell v = true)
  {blk : Nat} (ha : s.a = some ⟨blk, 0, none⟩) (hn : s.n = l.length) {K : Mem → Prop} (hK : ∀ M', Holds w0 F M' (star (SlKA k s ((l.set i x').flatMap c)) Q) → K M') : (std PP w0).st t ⟨blk, i * k + o, none⟩ (.agg vs.toArray) (fun M' => K M') M := by
 obtain ⟨hi, _⟩ := List.getElem?_eq_some_iff.1 hx
 obtain ⟨b, rest, e, ha', e1, e2, hR⟩ := SlKA.row h (by omega)
 rw [ha] at ha'; cases ha'
 have hk : (c x).length = k := hc x
 rw [h1, List.length_append] at hk
 have hik : (i + 1) * k ≤ l.length * k := Nat.mul_le_mul_right k (by omega)
 rw [Nat.succ_mul] at hik
 have hfl := flat_len hc l
 refine st_agg hg hR.own1 (by rw [List.length_append, hfl]; omega) hone ?_
 rw [flat_over hc hx h1 h2 hA hB]
 refine hK _ ?_
 have h3 := hR.upd1 (cs' := (l.set i x').flatMap c ++ rest) (e' := e)
 obtain ⟨s_a, s_n, s_c⟩ := s
 simp only at ha
 subst ha
 refine SlKA.ofRow h3 ?_ ?_
 ·rw [flat_len hc, List.length_set]; rw [hfl] at e1; exact e1
 ·rw [flat_len hc, List.length_set, ← hfl]; exact e2
end
end Go.Proofs.YtodobkbnmjgkdaaGreat.HL
set_option maxHeartbeats 1000000
namespace Go.Proofs.YtodobkbnmjgkdaaGreat.HL
open Go.RowKit (Below)
open Go.Proofs
section
variable {w0 : World} {F M : Mem} {R : VP} {p : Nat} {P : PS V3} {Q : Asn}
def PsH (p : Nat) (P : PS V3) : Asn := fun r => ∃ sL sF : SV, star (row1 p [.int .i64 P.most, SV.v sL, SV.v sF] 208) (star (SlKA 5 sL (P.l.flatMap pc3)) (SlKA 1 sF (vN P.free))) r
abbrev OpH (w0 : World) (F M : Mem) (p : Nat) (P : PS V3) (sL sF : SV) (Q : Asn) : Prop := Holds w0 F M (star (row1 p [.int .i64 P.most, SV.v sL, SV.v sF] 208) (star (SlKA 5 sL (P.l.flatMap pc3)) (star (SlKA 1 sF (vN P.free)) Q)))
theorem PsH.open_ (h : Holds w0 F M (star (PsH p P) Q)) : ∃ sL sF, OpH w0 F M p P sL sF Q := by
 obtain ⟨r, ⟨r1, r2, rfl, ⟨sL, sF, h1⟩, h2⟩, h3⟩ := h
 refine ⟨sL, sF, ?_⟩
 have : Holds w0 F M (star (star (row1 p [.int .i64 P.most, SV.v sL, SV.v sF] 208) (star (SlKA 5 sL (P.l.flatMap pc3)) (SlKA 1 sF (vN P.free)))) Q) := ⟨_, ⟨r1, r2, rfl, h1, h2⟩, h3⟩
 have h4 := Holds.assoc.1 this
 obtain ⟨F1, k1, _, k2⟩ := h4.last
 exact k2 _ _ (Holds.assoc.1 k1)
theorem OpH.close {sL sF : SV} (h : OpH w0 F M p P sL sF Q) : Holds w0 F M (star (PsH p P) Q) := by
 obtain ⟨F1, k1, _, k2⟩ := Holds.last h
 have h1 := k2 _ _ (Holds.assoc.2 k1)
 have h2 := Holds.assoc.2 h1
 obtain ⟨r, ⟨r1, r2, rfl, g1, g2⟩, g3⟩ := h2
 exact ⟨_, ⟨r1, r2, rfl, ⟨sL, sF, g1⟩, g2⟩, g3⟩
section
variable {sL sF : SV}
theorem OpH.r0 (h : OpH w0 F M p P sL sF Q) : rd w0 M ⟨p, 0, none⟩ = some (.int .i64 P.most) := rd_own (o := 0) h.own1
theorem OpH.r1 (h : OpH w0 F M p P sL sF Q) : rd w0 M ⟨p, 1, none⟩ = some (SV.v sL) := rd_own (o := 1) h.own1
theorem OpH.r2 (h : OpH w0 F M p P sL sF Q) : rd w0 M ⟨p, 2, none⟩ = some (SV.v sF) := rd_own (o := 2) h.own1
theorem OpH.nL (h : OpH w0 F M p P sL sF Q) : sL.n = P.l.length := Holds.nR pc3_len (by decide) h.right
theorem OpH.nF (h : OpH w0 F M p P sL sF Q) : sF.n = P.free.length := by
 have := vlen (k := 1) h.right.right
 rw [this]; simp [vN]
theorem OpH.el (h : OpH w0 F M p P sL sF Q) {i : Nat} {x : Plc V3} (hx : P.l[i]? = some x) : ∃ blk, sL.a = some ⟨blk, 0, none⟩ ∧ sL.n = P.l.length ∧ i < sL.n ∧ ∀ f v, (pc3 x)[f]? = some v → rd w0 M ⟨blk, i * 5 + f, none⟩ = some v := Holds.adR pc3_len (by decide) h.right hx
theorem OpH.focus (h : OpH w0 F M p P sL sF Q) : ∃ F5, Holds w0 F5 M Q ∧ Mem.le F F5 ∧ ∀ M' Q', Holds w0 F5 M' Q' → OpH w0 F M' p P sL sF Q' := by
 obtain ⟨F1, k1, l1, k2⟩ := Holds.last h
 obtain ⟨F2, k3, l2, k4⟩ := k1.last
 obtain ⟨F3, k5, l3, k6⟩ := k3.last
 exact ⟨F3, k5, Mem.le_trans l1 (Mem.le_trans l2 l3), fun M' Q' hh => k2 _ _ (k4 _ _ (k6 _ _ hh))⟩
end
theorem resH {b : Nat} {cs : List Value} {Pq : Asn} {v : V3} (h : Holds w0 F M (star (row1 b cs 149) Pq)) (hcs : cs.length = 3) {K : VP} (hK : ∀ M', Holds w0 F M' Pq → K (.agg #[.int .i64 v.1, .int .i64 v.2.1, .int .i64 v.2.2]) M') :
  (std PP w0).st 149 ⟨b, 0, none⟩ (.agg #[.int .i64 v.1, .int .i64 v.2.1, .int .i64 v.2.2]) (fun M1 => ob ((std PP w0).rdv 149 (.pointer (some ⟨b, 0, none⟩)) M1) fun v => K v M1) M := by
 refine st_agg (vs := vc3 v) W.g149 h.own1 (by rw [hcs]; exact Nat.le_refl _) (vc3_one v) ?_
 have h2 := h.upd1 (cs' := over cs 0 (vc3 v)) (e' := 149)
 have e0 : over cs 0 (vc3 v) = vc3 v := by
  have := over_mid [] cs [] (vc3 v) (by rw [hcs]; rfl) (o := 0) rfl
  simpa using this
 rw [e0] at h2 ⊢
 have o2 := h2.own1
 rw [rdv_ptr, ld_agg (cs := vc3 v) W.g149 (fun j u hj => by rw [add_eq, rd_own o2, Nat.zero_add]; exact hj), ob_v]
 exact hK _ h2.right
theorem ldVH {b o : Nat} {v : V3} {cs : List Value} {e : TypeId} (h : Own w0 M b cs e) (hc : ∀ j u, (vc3 v)[j]? = some u → cs[o + j]? = some u) : (std PP w0).ld 149 ⟨b, o, none⟩ M = some (.agg #[.int .i64 v.1, .int .i64 v.2.1, .int .i64 v.2.2]) :=
 ld_agg (cs := vc3 v) W.g149 (fun j u hj => by rw [add_eq, rd_own h]; exact hc j u hj)
theorem ldRfH {b : Nat} {x y : Int} {e : TypeId} (h : Own w0 M b [.int .i64 x, .int .i64 y] e) : (std PP w0).ld 33 ⟨b, 0, none⟩ M = some (.agg #[.int .i64 x, .int .i64 y]) :=
 ld_agg (cs := [.int .i64 x, .int .i64 y]) W.g33 (fun j u hj => by rw [add_eq, rd_own h, Nat.zero_add]; exact hj)
theorem findH_ok {sL sF : SV} {a g : Int} (h : OpH w0 F M p P sL sF Q) (hb : P.l.length ≤ 100000)
  (h1 : ∀ (i : Nat) v blk, a = (i : Int) → P.l[i]? = some ⟨g, true, v⟩ → P.find a g = some v → sL.a = some ⟨blk, 0, none⟩ → ∀ M', Mem.le M M' → R (.tuple #[.pointer (some ⟨blk, i * 5, none⟩), .int .i64 0]) M')
  (h0 : P.find a g = none → ∀ M' e, Mem.le M M' → e ≠ 0 → e = P.pl.look a g → R (.tuple #[.pointer none, .int .i64 e]) M') :
  C PP w0 Id.pP_find_sh #[.pointer (some ⟨p, 0, none⟩), .agg #[.int .i64 a, .int .i64 g]] R M := by
 apply pP_find_sh.go
 intro pts H
 unfold pP_find_sh.T nfz
 intro b1 hb1 hw1
 have l1 := Mem.le_set (M := M) (.row [.int .i64 a, .int .i64 g] 33) hb1
 have o1 : Own w0 (M.set b1 (.row [.int .i64 a, .int .i64 g] 33)) b1 [.int .i64 a, .int .i64 g] 33 := Own.new hw1
 generalize M.set b1 _ = M1 at l1 o1 ⊢
 have hO : OpH w0 F M1 p P sL sF Q := Holds.le h l1
 have f0 : rd w0 M1 ⟨b1, 0, none⟩ = some (.int .i64 a) := rd_own (o := 0) o1
 have f1 : rd w0 M1 ⟨b1, 1, none⟩ = some (.int .i64 g) := rd_own (o := 1) o1
 have fL := hO.r1
 have hn := hO.nL
 have hlk : ∀ e, P.pl.look a g = e → e ≠ 0 → P.find a g = none := fun e he hne => by
  cases hf : P.find a g with
  | none => rfl
  | some v =>
   have := PS.find_look.1 (show (P.find a g).isSome = true by rw [hf]; rfl)
   exact absurd (he ▸ this) hne
 have h22 : P.pl.look a g = 22 → R (.tuple #[.pointer none, .int .i64 22]) M1 := fun e => h0 (hlk 22 e (by decide)) M1 22 l1 (by decide) e.symm
 have h23 : P.pl.look a g = 23 → R (.tuple #[.pointer none, .int .i64 23]) M1 := fun e => h0 (hlk 23 e (by decide)) M1 23 l1 (by decide) e.symm
 have hlook : P.pl.look a g = if a < 0 ∨ (P.l.length : Int) ≤ a ∨ g < 1 ∨ (P.l.map (·.g)).getD a.toNat 0 < g then 22 else if g < (P.l.map (·.g)).getD a.toNat 0 ∨ (P.l.map (·.t)).getD a.toNat false = false then 23 else 0 := by
  unfold Pl.look PS.pl
  simp only [List.length_map]
 simp only [nc_v, ld_one W.c3, ld_one W.c206, add_eq, Nat.zero_add, f0, f1, fL, ob_v, zI_, shS_sv]
 rw [bD_]
 split
 ·rename_i ha
  exact h22 (by rw [hlook, if_pos (.inl ha)])
 ·rename_i ha
  rw [bD_]
  split
  ·exact h22 (by rw [hlook, if_pos (.inr (.inl (by omega)))])
  ·rename_i hal
   rw [bD_]
   split
   ·rename_i hg
    exact h22 (by rw [hlook, if_pos (.inr (.inr (.inl hg)))])
   ·rename_i hg
    obtain ⟨i, rfl⟩ : ∃ i : Nat, a = (i : Int) := ⟨a.toNat, by omega⟩
    have hil : i < P.l.length := by omega
    have hx := List.getElem?_eq_getElem hil
    generalize P.l[i] = x at hx
    obtain ⟨blk, ha2, hn2, hi2, hrd⟩ := hO.el hx
    have eg : (P.l.map (·.g)).getD (i : Int).toNat 0 = x.g := by rw [Int.toNat_natCast, List.getD_eq_getElem?_getD, List.getElem?_map, hx]; rfl
    have et : (P.l.map (·.t)).getD (i : Int).toNat false = x.t := by rw [Int.toNat_natCast, List.getD_eq_getElem?_getD, List.getElem?_map, hx]; rfl
    rw [eg, et] at hlook
    have r0 : rd w0 M1 ⟨blk, i * 5, none⟩ = some (.int .i64 x.g) := hrd 0 _ rfl
    have r1 : rd w0 M1 ⟨blk, i * 5 + 1, none⟩ = some (.bool x.t) := hrd 1 _ rfl
    simp only [ha2, nc_v, Int.toNat_natCast, add_eq, Nat.zero_add, r0, ob_v, zI_]
    refine ⟨⟨by omega, by omega⟩, ?_⟩
    rw [bD_]
    split
    ·rename_i hgg
     exact h22 (by rw [hlook, if_pos (.inr (.inr (.inr hgg)))])
    ·rename_i hgg
     have hno : ¬ ((i : Int) < 0 ∨ (P.l.length : Int) ≤ (i : Int) ∨ g < 1 ∨ x.g < g) := by omega
     rw [if_neg hno] at hlook
     refine Eq.mpr (H.J1 ..) ?_
     unfold pP_find_sh.J1.T nfz
     simp only [nc_v, ld_one W.c3, ld_one W.c4, ld_one W.c206, add_eq, Nat.zero_add, f0, f1, fL, ob_v, zI_, shS_sv, shB_v, ha2, Int.toNat_natCast, r0, r1]
     refine ⟨⟨by omega, by omega⟩, ?_⟩
     rw [bD_]
     split
     ·rename_i hlt
      exact h23 (by rw [hlook, if_pos (.inl hlt)])
     ·rename_i hlt
      cases ht : x.t with
      | false =>
       rw [Bool.not_false, bs_true]
       exact h23 (by rw [hlook, if_pos (.inr ht)])
      | true =>
       rw [Bool.not_true, bF_]
       have hgx : g = x.g := by omega
       have hx2 : P.l[i]? = some ⟨g, true, x.v⟩ := by
        rw [hx, hgx]
        obtain ⟨xg, xt, xv⟩ := x
        simp only at ht
        subst ht; rfl
       exact h1 i x.v blk rfl hx2 (PS.find_of hx2 (by omega)) ha2 M1 l1
theorem GetH_ok {a g : Int} (h : Holds w0 F M (star (PsH p P) Q)) (hb : P.l.length ≤ 100000)
  (h1 : ∀ v, P.find a g = some v → ∀ M', Mem.le M M' → R (.tuple #[.agg #[.int .i64 v.1, .int .i64 v.2.1, .int .i64 v.2.2], .int .i64 0]) M')
  (h0 : P.find a g = none → ∀ M' e, Mem.le M M' → e ≠ 0 → e = P.pl.look a g → R (.tuple #[.agg #[.int .i64 0, .int .i64 0, .int .i64 0], .int .i64 e]) M') :
  C PP w0 Id.pP_Get_sh #[.pointer (some ⟨p, 0, none⟩), .agg #[.int .i64 a, .int .i64 g]] R M := by
 apply pP_Get_sh.go
 unfold pP_Get_sh.T nfz
 obtain ⟨sL, sF, hO⟩ := PsH.open_ h
 intro b1 hb1 hw1
 have l1 := Mem.le_set (M := M) (.row [.int .i64 a, .int .i64 g] 33) hb1
 have o1 : Own w0 (M.set b1 (.row [.int .i64 a, .int .i64 g] 33)) b1 [.int .i64 a, .int .i64 g] 33 := Own.new hw1
 generalize M.set b1 _ = M1 at l1 o1 ⊢
 intro b3 hb3 hw3
 have n1 : Holds w0 M1 M1 (fun r => r = []) := ⟨[], rfl, Fit.nil (Mem.le_refl _)⟩
 have n3 : Holds w0 M1 _ (star (row1 b3 _ 149) _) := n1.new hb3 hw3 [.int .i64 0, .int .i64 0, .int .i64 0] 149
 generalize M1.set b3 _ = M2 at n3 ⊢
 have l2 := n3.fr
 rw [ldRfH (o1.le l2)]
 simp only [ob_v, sA_, sC_, zI_, zN_]
 have hO2 : OpH w0 F M2 p P sL sF Q := Holds.le hO (Mem.le_trans l1 l2)
 refine findH_ok hO2 hb (fun i v blk ea hx hf ha M3 l3 => ?_) fun hf M3 e l3 he hel => ?_
 ·simp only [sT_v, sC_, sP_v, zI_, zN_]
  rw [bs_bne, if_pos rfl, nc_v, add_eq]
  have hO3 : OpH w0 F M3 p P sL sF Q := Holds.le hO2 l3
  obtain ⟨blk', ha', hn', hi', hrd⟩ := hO3.el hx
  rw [ha] at ha'; cases ha'
  rw [ld_agg (cs := vc3 v) W.g149 (fun j u hj => by rw [add_eq, Nat.add_assoc]; exact hrd (2 + j) u (by rw [Nat.add_comm]; exact hj))]
  simp only [ob_v, sA_, sC_, zI_, zN_]
  refine resH (n3.le l3) rfl (K := fun v M => R (.tuple #[v, .int .i64 0]) M) fun M4 h4 => ?_
  exact h1 v hf M4 (Mem.le_trans l1 h4.fr)
 ·simp only [sT_v, sC_, sP_v, zI_, zN_]
  rw [bs_bne, if_neg he]
  intro b22 hb22 hw22
  have l4 := Mem.le_set (M := M3) (.row [.int .i64 0, .int .i64 0, .int .i64 0] 149) hb22
  have o4 : Own w0 (M3.set b22 (.row [.int .i64 0, .int .i64 0, .int .i64 0] 149)) b22 (vc3 z3) 149 := Own.new hw22
  generalize M3.set b22 _ = M4 at l4 o4 ⊢
  rw [ldVH (v := z3) (o := 0) o4 (fun j u hj => by rw [Nat.zero_add]; exact hj)]
  simp only [ob_v, sA_, sC_, zI_, zN_]
  refine resH (v := z3) (n3.le (Mem.le_trans l3 l4)) rfl (K := fun v M => R (.tuple #[v, .int .i64 e]) M) fun M5 h5 => ?_
  exact h0 hf M5 e (Mem.le_trans l1 h5.fr) he hel
theorem SetH_ok {a g : Int} {v w : V3} (h : Holds w0 F M (star (PsH p P) Q)) (hb : P.l.length ≤ 100000) (hw : P.find a g = some w)
  (h1 : ∀ M', Holds w0 F M' (star (PsH p (P.put a.toNat v)) Q) → R (.int .i64 0) M') :
  C PP w0 Id.pP_Set_sh #[.pointer (some ⟨p, 0, none⟩), .agg #[.int .i64 a, .int .i64 g], .agg #[.int .i64 v.1, .int .i64 v.2.1, .int .i64 v.2.2]] R M := by
 apply pP_Set_sh.go
 unfold pP_Set_sh.T nfz
 obtain ⟨sL, sF, hO⟩ := PsH.open_ h
 intro b1 hb1 hw1
 have l1 := Mem.le_set (M := M) (.row [.int .i64 a, .int .i64 g] 33) hb1
 have o1 : Own w0 (M.set b1 (.row [.int .i64 a, .int .i64 g] 33)) b1 [.int .i64 a, .int .i64 g] 33 := Own.new hw1
 generalize M.set b1 _ = M1 at l1 o1 ⊢
 intro b3 hb3 hw3
 have l2 := Mem.le_set (M := M1) (.row (vc3 v) 149) hb3
 have o3 : Own w0 (M1.set b3 (.row (vc3 v) 149)) b3 (vc3 v) 149 := Own.new hw3
 change _ at hb3
 generalize hM2 : M1.set b3 _ = M2
 have hM2' : M1.set b3 (.row (vc3 v) 149) = M2 := hM2
 rw [hM2'] at l2 o3
 rw [ldRfH (o1.le l2)]
 simp only [ob_v, sA_, sC_, zI_, zN_]
 have hO2 : OpH w0 F M2 p P sL sF Q := Holds.le hO (Mem.le_trans l1 l2)
 refine findH_ok hO2 hb (fun i v' blk ea hx hf ha M3 l3 => ?_) fun hf M3 e l3 he hel => ?_
 ·simp only [sT_v, sC_, sP_v, zI_, zN_]
  rw [bQ_, if_pos rfl, ldVH (v := v) (o := 0) (o3.le l3) (fun j u hj => by rw [Nat.zero_add]; exact hj)]
  simp only [ob_v, sA_, sC_, zI_, zN_, nc_v, add_eq]
  have hO3 : OpH w0 F M3 p P sL sF Q := Holds.le hO2 l3
  have hn := hO3.nL
  obtain ⟨F1, k1, _, k2⟩ := Holds.last hO3
  refine stPart pc3_len (vs := vc3 v) W.g149 k1 hx (x' := ⟨g, true, v⟩) (A := [.int .i64 g, .bool true]) (B := vc3 v') rfl rfl rfl rfl (vc3_one v) ha hn fun M4 h4 => ?_
  have h5 := k2 _ _ h4
  refine h1 M4 (OpH.close (sL := sL) (sF := sF) ?_)
  subst ea
  rw [Int.toNat_natCast]
  obtain ⟨e1, e2, e3⟩ := PS.put_l v hx
  unfold OpH
  rw [e1, e2, e3]
  exact h5
 ·rw [hw] at hf; cases hf
theorem TakeH_ok {v : V3} (h : Holds w0 F M (star (PsH p P) Q)) (hok : P.Ok) (hb : P.l.length ≤ 10000) (hfb : P.free.length ≤ 10000) (hg : ∀ x ∈ P.l, 0 ≤ x.g ∧ x.g ≤ 1000000) {a : Nat} (hat : P.at_ = some a)
  (h1 : ∀ M', Holds w0 F M' (star (PsH p (P.take z3 a v)) Q) → R (.tuple #[.agg #[.int .i64 (a : Int), .int .i64 (P.gen a)], .bool true]) M') :
  C PP w0 Id.pP_Take_sh #[.pointer (some ⟨p, 0, none⟩), .agg #[.int .i64 v.1, .int .i64 v.2.1, .int .i64 v.2.2]] R M := by
 apply pP_Take_sh.go
 intro pts H
 unfold pP_Take_sh.T nfz
 intro b1 hb1 hw1
 have g1 : Holds w0 F _ (star (row1 b1 (vc3 v) 149) (star (PsH p P) Q)) := h.new hb1 hw1 (vc3 v) 149
 generalize hM1 : M.set b1 _ = M1
 have hM1' : M.set b1 (.row (vc3 v) 149) = M1 := hM1
 rw [hM1'] at g1
 obtain ⟨F1, hle1, hown, g2⟩ := Holds.freeze1 g1
 intro b3 hb3 hw3
 have g3 : Holds w0 F1 _ (star (row1 b3 _ 33) (star (PsH p P) Q)) := g2.new hb3 hw3 [.int .i64 0, .int .i64 0] 33
 generalize M1.set b3 _ = M2 at g3 ⊢
 obtain ⟨sL, sF, hO⟩ := PsH.open_ g3.rot
 have keyJ1 : ∀ (M' : Mem) (P' : PS V3) (sL sF : SV) (x : Plc V3), OpH w0 F1 M' p P' sL sF (star (row1 b3 [.int .i64 0, .int .i64 0] 33) Q) → P'.l[a]? = some x → 0 ≤ x.g ∧ x.g ≤ 1000000 →
   (∀ M'', Holds w0 F1 M'' (star (PsH p { P' with l := P'.l.set a ⟨x.g + 1, true, v⟩ }) Q) → R (.tuple #[.agg #[.int .i64 (a : Int), .int .i64 (x.g + 1)], .bool true]) M'') →
   pP_Take_sh.J1 pts (some ⟨p, 0, none⟩) ⟨b1, 0, none⟩ ⟨b3, 0, none⟩ (a : Int) M' := by
  intro M' P' sL sF x hX hx hxg hR
  refine Eq.mpr (H.J1 ..) ?_
  unfold pP_Take_sh.J1.T nfz
  obtain ⟨blk, ha, hn, hi, hrd⟩ := hX.el hx
  have eL := hX.r1
  have r0 : rd w0 M' ⟨blk, a * 5, none⟩ = some (.int .i64 x.g) := hrd 0 _ rfl
  simp only [nc_v, ld_one W.c3, ld_one W.c206, add_eq, Nat.zero_add, eL, ob_v, shS_sv, ha, Int.toNat_natCast, r0, zI_]
  refine ⟨⟨by omega, by omega⟩, ?_⟩
  rw [w64_in (by omega)]
  obtain ⟨F2, k1, _, k2⟩ := Holds.last hX
  have hnl : ∀ y, (P'.l.set a y).length = P'.l.length := fun y => List.length_set
  refine Holds.stR (f := 0) pc3_len (by decide) W.c3 k1 hx (x' := { x with g := x.g + 1 }) (by decide) rfl rfl rfl ha fun M3 h3 => ?_
  have hX3 : OpH w0 F1 M3 p { P' with l := P'.l.set a { x with g := x.g + 1 } } sL sF (star (row1 b3 [.int .i64 0, .int .i64 0] 33) Q) := k2 _ _ h3
  rw [ldVH (v := v) (o := 0) (hown.le (Holds.fr hX3)) (fun j u hj => by rw [Nat.zero_add]; exact hj)]
  simp only [ob_v, sA_, sC_, zI_, zN_]
  have hal : a < P'.l.length := (List.getElem?_eq_some_iff.1 hx).1
  have hx3 : (P'.l.set a { x with g := x.g + 1 })[a]? = some { x with g := x.g + 1 } := List.getElem?_set_self hal
  obtain ⟨F3, k3, _, k4⟩ := Holds.last hX3
  refine Holds.stR (f := 1) pc3_len (by decide) W.c4 k3 hx3 (x' := ⟨x.g + 1, true, x.v⟩) (by decide) rfl rfl rfl ha fun M4 h4 => ?_
  have hX4 : OpH w0 F1 M4 p { P' with l := P'.l.set a ⟨x.g + 1, true, x.v⟩ } sL sF (star (row1 b3 [.int .i64 0, .int .i64 0] 33) Q) := by
   have := k4 _ _ h4
   rw [List.set_set] at this
   exact this
  refine ⟨ldVH (v := v) (o := 0) (hown.le (Holds.fr hX4)) (fun j u hj => by rw [Nat.zero_add]; exact hj), ?_⟩
  have hx4 : (P'.l.set a ⟨x.g + 1, true, x.v⟩)[a]? = some ⟨x.g + 1, true, x.v⟩ := List.getElem?_set_self hal
  obtain ⟨F4, k5, _, k6⟩ := Holds.last hX4
  refine stPart pc3_len (vs := vc3 v) W.g149 k5 hx4 (x' := ⟨x.g + 1, true, v⟩) (A := [.int .i64 (x.g + 1), .bool true]) (B := vc3 x.v) rfl rfl rfl rfl (vc3_one v) ha (by rw [hnl]; exact hn) fun M5 h5 => ?_
  have hX5 : OpH w0 F1 M5 p { P' with l := P'.l.set a ⟨x.g + 1, true, v⟩ } sL sF (star (row1 b3 [.int .i64 0, .int .i64 0] 33) Q) := by
   have := k6 _ _ h5
   rw [List.set_set] at this
   exact this
  have hx5 : (P'.l.set a ⟨x.g + 1, true, v⟩)[a]? = some ⟨x.g + 1, true, v⟩ := List.getElem?_set_self hal
  obtain ⟨blk5, ha5, hn5, hi5, hrd5⟩ := hX5.el hx5
  rw [ha] at ha5; cases ha5
  have r5 : rd w0 M5 ⟨blk, a * 5, none⟩ = some (.int .i64 (x.g + 1)) := hrd5 0 _ rfl
  have hbld : (std PP w0).bld 33 [(0, .int .i64 (a : Int)), (1, .int .i64 (x.g + 1))] = some (.agg #[.int .i64 (a : Int), .int .i64 (x.g + 1)]) := by kernel_rfl
  simp only [r5, ob_v, zI_, hbld, sA_, sC_, zN_]
  obtain ⟨F5, k7, _, k8⟩ := OpH.focus hX5
  refine resRef k7 (K := fun v M => R (.tuple #[v, .bool true]) M) fun M6 hback => ?_
  exact hR M6 (OpH.close (k8 _ _ (hback _ _ k7)))
 have eL := hO.r1
 have eF := hO.r2
 have e0 := hO.r0
 have nL := hO.nL
 have nF := hO.nF
 simp only [nc_v, ld_one W.c3, ld_one W.c53, ld_one W.c206, add_eq, Nat.zero_add, eL, eF, e0, ob_v, shS_sv, zI_]
 rw [bD_]
 split
 ·-- one that was given back
  rename_i hpos
  have hp2 : 0 < P.free.length := by
   apply Decidable.byContradiction
   intro hc
   have : sF.n = 0 := by omega
   rw [this] at hpos
   rw [show w64 (((0 : Nat) : Int) - 1) = -1 from by rw [w64_in (by omega)]; omega] at hpos
   omega
  obtain ⟨bs, x, hbs⟩ : ∃ bs x, P.free = bs ++ [x] := by
   rcases List.eq_nil_or_concat P.free with e | ⟨bs, x, e⟩
   ·rw [e] at hp2; simp at hp2
   ·exact ⟨bs, x, by rw [e, List.concat_eq_append]⟩
  have hlast : P.free.getLast? = some x := by rw [hbs]; simp
  have hax : a = x := by
   unfold PS.at_ at hat
   rw [hlast] at hat
   simpa using hat.symm
  subst hax
  have hfl : P.free.length = bs.length + 1 := by rw [hbs]; simp
  have hw : w64 (((sF.n : Nat) : Int) - 1) = ((bs.length : Nat) : Int) := by rw [w64_in (by omega)]; omega
  obtain ⟨F2, k1, _, k2⟩ := Holds.last hO
  obtain ⟨F3, k3, _, k4⟩ := k1.last
  have hc3 := slkCells k3
  obtain ⟨blk, rest, e, ha, q1, q2, q3⟩ := SlKA.row k3 (by omega)
  have hcap : sF.n ≤ sF.c := by rw [Nat.mul_one] at q1 q2; omega
  rw [hw]
  refine rdv hc3.1 (vlen (k := 1) k3) bs.length rfl (v := .int .i64 (a : Int)) (by unfold vN; rw [hbs, List.getElem?_map, List.getElem?_append_right (Nat.le_refl _)]; simp) ?_
  rw [zI_]
  refine ⟨⟨by omega, by omega, by omega⟩, ?_⟩
  have hsl : (Value.slice (if sF.c = (0 : Int).toNat then sF.a else sF.a.map (·.add ((0 : Int).toNat * 1))) (((bs.length : Nat) : Int).toNat - (0 : Int).toNat) (sF.c - (0 : Int).toNat)) = SV.v ⟨some ⟨blk, 0, none⟩, bs.length, sF.c⟩ := by
   rw [ha, Int.toNat_zero, Int.toNat_natCast, Nat.sub_zero, Nat.sub_zero, Nat.zero_mul]
   unfold SV.v
   simp only [Option.map_some, add_eq]
   split <;> rfl
  rw [hsl]
  refine st_one W.c53 (Holds.own1 hO) (by simp) rfl rfl ?_
  have h4 := Holds.upd1 hO (cs' := [.int .i64 P.most, SV.v sL, SV.v ⟨some ⟨blk, 0, none⟩, bs.length, sF.c⟩]) (e' := 208)
  have hvs : vN P.free ++ rest = vN bs ++ (.int .i64 (a : Int) :: rest) := by rw [hbs]; simp [vN]
  have hpl : ∀ (b' : Bool), True := fun _ => trivial
  obtain ⟨y, hy, hyt⟩ := hok.fr a (by rw [hbs]; simp)
  refine keyJ1 _ { P with free := bs } sL ⟨some ⟨blk, 0, none⟩, bs.length, sF.c⟩ y ?_ hy (hg y (List.mem_of_getElem? hy)) fun M5 h5 => ?_
  ·obtain ⟨F6, k6, _, k7⟩ := Holds.last h4
   obtain ⟨F8, k8, _, k9⟩ := k6.last
   refine k7 _ _ (k9 _ _ ?_)
   obtain ⟨blk', rest', e', ha', q1', q2', q3'⟩ := SlKA.row k8 (by omega)
   rw [ha] at ha'; cases ha'
   have hvs' : vN P.free ++ rest' = vN bs ++ (.int .i64 (a : Int) :: rest') := by rw [hbs]; simp [vN]
   rw [hvs'] at q3'
   have hvl : (vN bs).length = bs.length := by simp [vN]
   have hvl2 : (vN P.free).length = bs.length + 1 := by simp [vN, hfl]
   refine SlKA.ofRow q3' (by rw [hvl]; omega) ?_
   rw [hvl, List.length_cons]
   rw [hvl2] at q2'
   omega
  ·have hgen : P.gen a = y.g + 1 := by unfold PS.gen; rw [hy]
   have htk : P.take z3 a v = { P with free := bs, l := P.l.set a ⟨y.g + 1, true, v⟩ } := by
    unfold PS.take PS.grow
    rw [hlast, hgen]
    simp [hbs]
   rw [htk, hgen] at h1
   exact h1 M5 (h5.uF_ hle1)
 ·rename_i hpos
  have hp2 : P.free = [] := by
   apply List.eq_nil_of_length_eq_zero
   apply Decidable.byContradiction
   intro hc
   rw [show w64 (((sF.n : Nat) : Int) - 1) = ((sF.n : Nat) : Int) - 1 from w64_in (by omega)] at hpos
   omega
  have hlast : P.free.getLast? = none := by rw [hp2]; rfl
  have hat2 := hat
  unfold PS.at_ at hat2
  rw [hlast] at hat2
  simp only at hat2
  split at hat2
  ·cases hat2
  ·rename_i hm
   have hal : a = P.l.length := by simpa using hat2.symm
   rw [bD_, if_neg (by omega)]
   have hbld : (std PP w0).bld 213 [] = some (.agg #[.int .i64 0, .bool false, .int .i64 0, .int .i64 0, .int .i64 0]) := by kernel_rfl
   simp only [hbld, ob_v, sA_, sC_, zI_, shB_v, zN_]
   refine bsl_e (n := 1) (cells := #[.int .i64 0, .bool false, .int .i64 0, .int .i64 0, .int .i64 0]) Tryz.underlying206 W.e213 (by decide) (by kernel_rfl) fun bn hbn hwn => ?_
   rw [shS_v]
   have hNw : Holds w0 F1 _ (star (row1 bn (pc3 ⟨0, false, z3⟩) 213) _) := Holds.new hO hbn hwn (pc3 ⟨0, false, z3⟩) 213
   change Holds w0 F1 (M2.set bn (.row (#[.int .i64 0, .bool false, .int .i64 0, .int .i64 0, .int .i64 0] : Array Value).toList 213)) _ at hNw
   generalize M2.set bn _ = M3 at hNw ⊢
   obtain ⟨F2, hle2, hownN, hO3⟩ := Holds.freeze1 hNw
   obtain ⟨F3, k1, l3, k2⟩ := Holds.last hO3
   have hcap := Holds.capR pc3_len (by decide) k1
   refine appK (x := ⟨some ⟨bn, 0, none⟩, 1, 1⟩) (news := pc3 ⟨0, false, z3⟩) Tryz.underlying206 W.e213 k1 rfl (Cells.own (hownN.le hO3.fr) fun j u hj => by rw [Nat.zero_add]; exact hj) (fun e0 => by cases e0) (pc3_one _) (by decide) (by show sL.n + 1 ≤ _; omega) fun M4 s4 h4 => ?_
   rw [shS_sv]
   have h5 := k2 _ _ h4
   refine st_one W.c206 (Holds.own1 h5) (by simp) rfl rfl ?_
   have h6 := Holds.upd1 h5 (cs' := [.int .i64 P.most, SV.v s4, SV.v sF]) (e' := 208)
   rw [nL, ← hal]
   have hfm : P.l.flatMap pc3 ++ pc3 ⟨0, false, z3⟩ = (P.l ++ ([⟨0, false, z3⟩] : List (Plc V3))).flatMap pc3 := by simp
   refine keyJ1 _ { P with l := P.l ++ ([⟨0, false, z3⟩] : List (Plc V3)) } s4 sF ⟨0, false, z3⟩ ?_ (by rw [hal]; simp) ⟨by show (0 : Int) ≤ 0; omega, by show (0 : Int) ≤ 1000000; omega⟩ fun M7 h7 => ?_
   ·rw [hfm] at h6
    exact (Holds.uF_ h6 hle2)
   ·have hgen : P.gen a = 0 + 1 := by
     unfold PS.gen
     rw [hal, List.getElem?_eq_none (Nat.le_refl _)]
     rfl
    have htk : P.take z3 a v = { P with l := (P.l ++ ([⟨0, false, z3⟩] : List (Plc V3))).set a ⟨0 + 1, true, v⟩ } := by
     unfold PS.take PS.grow
     rw [hlast, hgen]
    rw [htk, hgen] at h1
    exact h1 M7 (h7.uF_ hle1)
theorem GiveH_ok {a g : Int} {v : V3} (h : Holds w0 F M (star (PsH p P) Q)) (hb : P.l.length ≤ 10000) (hfb : P.free.length ≤ 10000) (hw : P.find a g = some v)
  (h1 : ∀ M', Holds w0 F M' (star (PsH p (P.give z3 a.toNat)) Q) → R (.tuple #[.agg #[.int .i64 v.1, .int .i64 v.2.1, .int .i64 v.2.2], .int .i64 0]) M') :
  C PP w0 Id.pP_Give_sh #[.pointer (some ⟨p, 0, none⟩), .agg #[.int .i64 a, .int .i64 g]] R M := by
 apply pP_Give_sh.go
 unfold pP_Give_sh.T nfz
 obtain ⟨sL, sF, hO⟩ := PsH.open_ h
 intro b1 hb1 hw1
 have g1 : Holds w0 F _ (star (row1 b1 _ 33) _) := Holds.new hO hb1 hw1 [.int .i64 a, .int .i64 g] 33
 generalize M.set b1 _ = M1 at g1 ⊢
 obtain ⟨F1, hle1, o1, g2⟩ := Holds.freeze1 g1
 intro b3 hb3 hw3
 have g3 : Holds w0 F1 _ (star (row1 b3 _ 149) _) := Holds.new g2 hb3 hw3 [.int .i64 0, .int .i64 0, .int .i64 0] 149
 generalize M1.set b3 _ = M2 at g3 ⊢
 intro b5 hb5 hw5
 have g4 : Holds w0 F1 _ (star (row1 b5 _ 149) _) := Holds.new g3 hb5 hw5 (vc3 z3) 149
 generalize hM3 : M2.set b5 _ = M3
 have hM3' : M2.set b5 (.row (vc3 z3) 149) = M3 := hM3
 rw [hM3'] at g4
 obtain ⟨F2, hle2, o5, g5⟩ := Holds.freeze1 g4
 have oz : ∀ M', Mem.le F2 M' → (std PP w0).ld 149 ⟨b5, 0, none⟩ M' = some (.agg #[.int .i64 0, .int .i64 0, .int .i64 0]) := fun M' hM => ldVH (v := z3) (o := 0) (o5.le hM) (fun j u hj => by rw [Nat.zero_add]; exact hj)
 rw [ldRfH (o1.le (Mem.le_trans hle2 g5.fr))]
 simp only [ob_v, sA_, sC_, zI_, zN_]
 obtain ⟨F3, hO3, hle3, back3⟩ := g5.last
 refine findH_ok hO3 (by omega) (fun i v' blk ea hx hf ha M4 l4 => ?_) fun hf M4 e l4 he hel => ?_
 ·rw [hw] at hf
  cases hf
  have g6 := g5.le l4
  simp only [sT_v, sC_, sP_v, zI_, zN_]
  rw [bs_bne, if_pos rfl, nc_v, add_eq]
  have hO4 : OpH w0 F2 M4 p P sL sF (star (row1 b3 [.int .i64 0, .int .i64 0, .int .i64 0] 149) Q) := by
   obtain ⟨F4, q1, _, q2⟩ := Holds.last g6.rot
   exact q2 _ _ (by
    obtain ⟨F5, q3, _, q4⟩ := q1.rot.last
    exact q4 _ _ q3.rot)
  obtain ⟨blk', ha', hn', hi', hrd⟩ := hO4.el hx
  rw [ha] at ha'; cases ha'
  rw [ld_agg (cs := vc3 v) W.g149 (fun j u hj => by rw [add_eq, Nat.add_assoc]; exact hrd (2 + j) u (by rw [Nat.add_comm]; exact hj))]
  simp only [ob_v, sA_, sC_, zI_, zN_]
  intro b49 hb49 hw49
  have g7 : Holds w0 F2 _ (star (row1 b49 _ 149) _) := Holds.new hO4 hb49 hw49 [.int .i64 0, .int .i64 0, .int .i64 0] 149
  generalize M4.set b49 _ = M5 at g7 ⊢
  refine st_agg (vs := vc3 v) W.g149 g7.own1 (by exact Nat.le_refl _) (vc3_one v) ?_
  have g8 := g7.upd1 (cs' := over [.int .i64 0, .int .i64 0, .int .i64 0] 0 (vc3 v)) (e' := 149)
  have e0 : over [.int .i64 0, .int .i64 0, .int .i64 0] 0 (vc3 v) = vc3 v := by
   have := over_mid [] [.int .i64 0, .int .i64 0, .int .i64 0] [] (vc3 v) rfl (o := 0) rfl
   simpa using this
  rw [e0] at g8 ⊢
  generalize M5.set b49 _ = M6 at g8 ⊢
  obtain ⟨F4, hle4, o49, hO6⟩ := Holds.freeze1 g8
  rw [oz M6 (Mem.le_trans hle4 hO6.fr)]
  simp only [ob_v, sA_, sC_, zI_, zN_, nc_v, add_eq]
  have hil : i < P.l.length := (List.getElem?_eq_some_iff.1 hx).1
  have hnl : ∀ y, (P.l.set i y).length = P.l.length := fun y => List.length_set
  obtain ⟨F5, k1, _, k2⟩ := Holds.last hO6
  refine Holds.stR (f := 1) pc3_len (by decide) W.c4 k1 hx (x' := ⟨g, false, v⟩) (by decide) rfl rfl rfl ha fun M7 h7 => ?_
  have hO7 : OpH w0 F4 M7 p { P with l := P.l.set i ⟨g, false, v⟩ } sL sF (star (row1 b3 [.int .i64 0, .int .i64 0, .int .i64 0] 149) Q) := k2 _ _ h7
  refine ⟨oz M7 (Mem.le_trans hle4 (Holds.fr hO7)), ?_⟩
  have hx7 : (P.l.set i ⟨g, false, v⟩)[i]? = some ⟨g, false, v⟩ := List.getElem?_set_self hil
  obtain ⟨F6, k3, _, k4⟩ := Holds.last hO7
  refine stPart pc3_len (vs := vc3 z3) W.g149 k3 hx7 (x' := ⟨g, false, z3⟩) (A := [.int .i64 g, .bool false]) (B := vc3 v) rfl rfl rfl rfl (vc3_one _) ha (by rw [hnl]; exact hn') fun M8 h8 => ?_
  have hO8 : OpH w0 F4 M8 p { P with l := P.l.set i ⟨g, false, z3⟩ } sL sF (star (row1 b3 [.int .i64 0, .int .i64 0, .int .i64 0] 149) Q) := by
   have := k4 _ _ h8
   rw [List.set_set] at this
   exact this
  have e2 := hO8.r2
  have f1 : rd w0 M8 ⟨b1, 0, none⟩ = some (.int .i64 a) := rd_own (o := 0) (o1.le (Mem.le_trans (Mem.le_trans hle2 hle4) (Holds.fr hO8)))
  simp only [ld_one W.c3, ld_one W.c53, Nat.zero_add, e2, f1, ob_v, shS_sv, zI_]
  refine bsl_e (n := 1) (cells := #[.int .i64 a]) Tryz.underlying53 W.e3 (by decide) (by kernel_rfl) fun bn hbn hwn => ?_
  rw [shS_v]
  have hNw : Holds w0 F4 _ (star (row1 bn [.int .i64 a] 3) _) := Holds.new hO8 hbn hwn [.int .i64 a] 3
  change Holds w0 F4 (M8.set bn (.row (#[.int .i64 a] : Array Value).toList 3)) _ at hNw
  generalize M8.set bn _ = M9 at hNw ⊢
  obtain ⟨F7, hle7, hownN, hO9⟩ := Holds.freeze1 hNw
  have e9 : rd w0 M9 ⟨p, 2, none⟩ = some (SV.v sF) := rd_own (o := 2) (Holds.own1 hO9)
  refine ⟨e9, ?_⟩
  obtain ⟨F8, k5, l5, k6⟩ := Holds.last hO9
  obtain ⟨F9, k7, l7, k8⟩ := k5.last
  have hnF : sF.n = P.free.length := by have := vlen (k := 1) k7; rw [this]; simp [vN]
  refine appK (x := ⟨some ⟨bn, 0, none⟩, 1, 1⟩) (news := [.int .i64 a]) Tryz.underlying53 W.e3 k7 rfl (Cells.own (hownN.le hO9.fr) fun j u hj => by rw [Nat.zero_add]; exact hj) (fun e0 => by cases e0) (by intro u hu; rw [List.mem_singleton.1 hu]; rfl) (by decide) (by show sF.n + 1 ≤ _; omega) fun M10 s10 h10 => ?_
  rw [shS_sv]
  have h11 := k6 _ _ (k8 _ _ h10)
  refine st_one W.c53 (Holds.own1 h11) (by simp) rfl rfl ?_
  have h12 := Holds.upd1 h11 (cs' := [.int .i64 P.most, SV.v sL, SV.v s10]) (e' := 208)
  rw [show ([.int .i64 P.most, SV.v sL, SV.v sF] : List Value).set 2 (SV.v s10) = [.int .i64 P.most, SV.v sL, SV.v s10] from rfl]
  generalize Mem.set M10 p _ = M11 at h12 ⊢
  subst ea
  have hgv : P.give z3 i = { P with l := P.l.set i ⟨g, false, z3⟩, free := P.free ++ [i] } := by
   unfold PS.give
   rw [hx]
  have h13 : OpH w0 F7 M11 p (P.give z3 i) sL s10 (star (row1 b3 [.int .i64 0, .int .i64 0, .int .i64 0] 149) Q) := by
   rw [hgv]
   have hv : vN P.free ++ [.int .i64 (i : Int)] = vN (P.free ++ [i]) := by simp [vN]
   rw [hv] at h12
   exact h12
  rw [ldVH (v := v) (o := 0) (o49.le (Mem.le_trans hle7 (Holds.fr h13))) (fun j u hj => by rw [Nat.zero_add]; exact hj)]
  simp only [ob_v, sA_, sC_, zI_, zN_]
  have h14 := (OpH.close h13).rot
  refine resH h14 rfl (K := fun v M => R (.tuple #[v, .int .i64 0]) M) fun M12 h15 => ?_
  rw [Int.toNat_natCast] at h1
  exact h1 M12 ((((h15.uF_ hle7).uF_ hle4).uF_ hle2).uF_ hle1)
 ·rw [hw] at hf; cases hf
theorem NewH_ok {n : Int} (h : Holds w0 F M Q) (h0 : 0 ≤ n) (hn : n ≤ 65536) (hR : ∀ M' p, Holds w0 F M' (star (PsH p ⟨n, [], []⟩) Q) → R (.pointer (some ⟨p, 0, none⟩)) M') : C PP w0 Id.pool_Newslots_heap #[.int .i64 n] R M := by
 apply pool_Newslots_heap.go
 unfold pool_Newslots_heap.T nfz
 have e1 : (if 65536 < n then (65536 : Int) else n) = n := if_neg (by omega)
 have e2 : (if n > 0 then n else 0) = n := by split <;> omega
 rw [e1, e2]
 have hbld : (std PP w0).bld 208 [(0, .int .i64 n)] = some (.agg #[.int .i64 n, .slice none 0 0, .slice none 0 0]) := by kernel_rfl
 simp only [hbld, ob_v, sA_, sC_, zI_, shS_v, zN_]
 intro b hb hw
 have h1 : Holds w0 F _ (star (row1 b _ 208) _) := h.new hb hw [.int .i64 n, SV.v ⟨none, 0, 0⟩, SV.v ⟨none, 0, 0⟩] 208
 refine hR _ b (OpH.close (sL := ⟨none, 0, 0⟩) (sF := ⟨none, 0, 0⟩) ?_)
 obtain ⟨F1, k1, _, k2⟩ := h1.last
 exact k2 _ _ (Holds.nilSlk (Holds.nilSlk k1))
end
end Go.Proofs.YtodobkbnmjgkdaaGreat.HL
namespace Go.Proofs.YtodobkbnmjgkdaaGreat.HL
open Go.RowKit (Below)
open Go.Proofs
section
variable {w0 : World} {F M : Mem} {R : VP} {p : Nat} {P : PS V3} {Q : Asn}
def PsT (p : Nat) (P : PS V3) : Asn := fun r => ∃ sL sF : SV, star (row1 p [.int .i64 P.most, SV.v sL, SV.v sF] 211) (star (SlKA 5 sL (P.l.flatMap pc3)) (SlKA 1 sF (vN P.free))) r
abbrev OpT (w0 : World) (F M : Mem) (p : Nat) (P : PS V3) (sL sF : SV) (Q : Asn) : Prop := Holds w0 F M (star (row1 p [.int .i64 P.most, SV.v sL, SV.v sF] 211) (star (SlKA 5 sL (P.l.flatMap pc3)) (star (SlKA 1 sF (vN P.free)) Q)))
theorem PsT.open_ (h : Holds w0 F M (star (PsT p P) Q)) : ∃ sL sF, OpT w0 F M p P sL sF Q := by
 obtain ⟨r, ⟨r1, r2, rfl, ⟨sL, sF, h1⟩, h2⟩, h3⟩ := h
 refine ⟨sL, sF, ?_⟩
 have : Holds w0 F M (star (star (row1 p [.int .i64 P.most, SV.v sL, SV.v sF] 211) (star (SlKA 5 sL (P.l.flatMap pc3)) (SlKA 1 sF (vN P.free)))) Q) := ⟨_, ⟨r1, r2, rfl, h1, h2⟩, h3⟩
 have h4 := Holds.assoc.1 this
 obtain ⟨F1, k1, _, k2⟩ := h4.last
 exact k2 _ _ (Holds.assoc.1 k1)
theorem OpT.close {sL sF : SV} (h : OpT w0 F M p P sL sF Q) : Holds w0 F M (star (PsT p P) Q) := by
 obtain ⟨F1, k1, _, k2⟩ := Holds.last h
 have h1 := k2 _ _ (Holds.assoc.2 k1)
 have h2 := Holds.assoc.2 h1
 obtain ⟨r, ⟨r1, r2, rfl, g1, g2⟩, g3⟩ := h2
 exact ⟨_, ⟨r1, r2, rfl, ⟨sL, sF, g1⟩, g2⟩, g3⟩
section
variable {sL sF : SV}
theorem OpT.r0 (h : OpT w0 F M p P sL sF Q) : rd w0 M ⟨p, 0, none⟩ = some (.int .i64 P.most) := rd_own (o := 0) h.own1
theorem OpT.r1 (h : OpT w0 F M p P sL sF Q) : rd w0 M ⟨p, 1, none⟩ = some (SV.v sL) := rd_own (o := 1) h.own1
theorem OpT.r2 (h : OpT w0 F M p P sL sF Q) : rd w0 M ⟨p, 2, none⟩ = some (SV.v sF) := rd_own (o := 2) h.own1
theorem OpT.nL (h : OpT w0 F M p P sL sF Q) : sL.n = P.l.length := Holds.nR pc3_len (by decide) h.right
theorem OpT.nF (h : OpT w0 F M p P sL sF Q) : sF.n = P.free.length := by
 have := vlen (k := 1) h.right.right
 rw [this]; simp [vN]
theorem OpT.el (h : OpT w0 F M p P sL sF Q) {i : Nat} {x : Plc V3} (hx : P.l[i]? = some x) : ∃ blk, sL.a = some ⟨blk, 0, none⟩ ∧ sL.n = P.l.length ∧ i < sL.n ∧ ∀ f v, (pc3 x)[f]? = some v → rd w0 M ⟨blk, i * 5 + f, none⟩ = some v := Holds.adR pc3_len (by decide) h.right hx
theorem OpT.focus (h : OpT w0 F M p P sL sF Q) : ∃ F5, Holds w0 F5 M Q ∧ Mem.le F F5 ∧ ∀ M' Q', Holds w0 F5 M' Q' → OpT w0 F M' p P sL sF Q' := by
 obtain ⟨F1, k1, l1, k2⟩ := Holds.last h
 obtain ⟨F2, k3, l2, k4⟩ := k1.last
 obtain ⟨F3, k5, l3, k6⟩ := k3.last
 exact ⟨F3, k5, Mem.le_trans l1 (Mem.le_trans l2 l3), fun M' Q' hh => k2 _ _ (k4 _ _ (k6 _ _ hh))⟩
end
theorem resT {b : Nat} {cs : List Value} {Pq : Asn} {v : V3} (h : Holds w0 F M (star (row1 b cs 153) Pq)) (hcs : cs.length = 3) {K : VP} (hK : ∀ M', Holds w0 F M' Pq → K (.agg #[.int .i64 v.1, .int .i64 v.2.1, .int .i64 v.2.2]) M') :
  (std PP w0).st 153 ⟨b, 0, none⟩ (.agg #[.int .i64 v.1, .int .i64 v.2.1, .int .i64 v.2.2]) (fun M1 => ob ((std PP w0).rdv 153 (.pointer (some ⟨b, 0, none⟩)) M1) fun v => K v M1) M := by
 refine st_agg (vs := vc3 v) W.g153 h.own1 (by rw [hcs]; exact Nat.le_refl _) (vc3_one v) ?_
 have h2 := h.upd1 (cs' := over cs 0 (vc3 v)) (e' := 153)
 have e0 : over cs 0 (vc3 v) = vc3 v := by
  have := over_mid [] cs [] (vc3 v) (by rw [hcs]; rfl) (o := 0) rfl
  simpa using this
 rw [e0] at h2 ⊢
 have o2 := h2.own1
 rw [rdv_ptr, ld_agg (cs := vc3 v) W.g153 (fun j u hj => by rw [add_eq, rd_own o2, Nat.zero_add]; exact hj), ob_v]
 exact hK _ h2.right
theorem ldVT {b o : Nat} {v : V3} {cs : List Value} {e : TypeId} (h : Own w0 M b cs e) (hc : ∀ j u, (vc3 v)[j]? = some u → cs[o + j]? = some u) : (std PP w0).ld 153 ⟨b, o, none⟩ M = some (.agg #[.int .i64 v.1, .int .i64 v.2.1, .int .i64 v.2.2]) :=
 ld_agg (cs := vc3 v) W.g153 (fun j u hj => by rw [add_eq, rd_own h]; exact hc j u hj)
theorem ldRfT {b : Nat} {x y : Int} {e : TypeId} (h : Own w0 M b [.int .i64 x, .int .i64 y] e) : (std PP w0).ld 33 ⟨b, 0, none⟩ M = some (.agg #[.int .i64 x, .int .i64 y]) :=
 ld_agg (cs := [.int .i64 x, .int .i64 y]) W.g33 (fun j u hj => by rw [add_eq, rd_own h, Nat.zero_add]; exact hj)
theorem findT_ok {sL sF : SV} {a g : Int} (h : OpT w0 F M p P sL sF Q) (hb : P.l.length ≤ 100000)
  (h1 : ∀ (i : Nat) v blk, a = (i : Int) → P.l[i]? = some ⟨g, true, v⟩ → P.find a g = some v → sL.a = some ⟨blk, 0, none⟩ → ∀ M', Mem.le M M' → R (.tuple #[.pointer (some ⟨blk, i * 5, none⟩), .int .i64 0]) M')
  (h0 : P.find a g = none → ∀ M' e, Mem.le M M' → e ≠ 0 → e = P.pl.look a g → R (.tuple #[.pointer none, .int .i64 e]) M') :
  C PP w0 Id.pP_find_st #[.pointer (some ⟨p, 0, none⟩), .agg #[.int .i64 a, .int .i64 g]] R M := by
 apply pP_find_st.go
 intro pts H
 unfold pP_find_st.T nfz
 intro b1 hb1 hw1
 have l1 := Mem.le_set (M := M) (.row [.int .i64 a, .int .i64 g] 33) hb1
 have o1 : Own w0 (M.set b1 (.row [.int .i64 a, .int .i64 g] 33)) b1 [.int .i64 a, .int .i64 g] 33 := Own.new hw1
 generalize M.set b1 _ = M1 at l1 o1 ⊢
 have hO : OpT w0 F M1 p P sL sF Q := Holds.le h l1
 have f0 : rd w0 M1 ⟨b1, 0, none⟩ = some (.int .i64 a) := rd_own (o := 0) o1
 have f1 : rd w0 M1 ⟨b1, 1, none⟩ = some (.int .i64 g) := rd_own (o := 1) o1
 have fL := hO.r1
 have hn := hO.nL
 have hlk : ∀ e, P.pl.look a g = e → e ≠ 0 → P.find a g = none := fun e he hne => by
  cases hf : P.find a g with
  | none => rfl
  | some v =>
   have := PS.find_look.1 (show (P.find a g).isSome = true by rw [hf]; rfl)
   exact absurd (he ▸ this) hne
 have h22 : P.pl.look a g = 22 → R (.tuple #[.pointer none, .int .i64 22]) M1 := fun e => h0 (hlk 22 e (by decide)) M1 22 l1 (by decide) e.symm
 have h23 : P.pl.look a g = 23 → R (.tuple #[.pointer none, .int .i64 23]) M1 := fun e => h0 (hlk 23 e (by decide)) M1 23 l1 (by decide) e.symm
 have hlook : P.pl.look a g = if a < 0 ∨ (P.l.length : Int) ≤ a ∨ g < 1 ∨ (P.l.map (·.g)).getD a.toNat 0 < g then 22 else if g < (P.l.map (·.g)).getD a.toNat 0 ∨ (P.l.map (·.t)).getD a.toNat false = false then 23 else 0 := by
  unfold Pl.look PS.pl
  simp only [List.length_map]
 simp only [nc_v, ld_one W.c3, ld_one W.c209, add_eq, Nat.zero_add, f0, f1, fL, ob_v, zI_, shS_sv]
 rw [bD_]
 split
 ·rename_i ha
  exact h22 (by rw [hlook, if_pos (.inl ha)])
 ·rename_i ha
  rw [bD_]
  split
  ·exact h22 (by rw [hlook, if_pos (.inr (.inl (by omega)))])
  ·rename_i hal
   rw [bD_]
   split
   ·rename_i hg
    exact h22 (by rw [hlook, if_pos (.inr (.inr (.inl hg)))])
   ·rename_i hg
    obtain ⟨i, rfl⟩ : ∃ i : Nat, a = (i : Int) := ⟨a.toNat, by omega⟩
    have hil : i < P.l.length := by omega
    have hx := List.getElem?_eq_getElem hil
    generalize P.l[i] = x at hx
    obtain ⟨blk, ha2, hn2, hi2, hrd⟩ := hO.el hx
    have eg : (P.l.map (·.g)).getD (i : Int).toNat 0 = x.g := by rw [Int.toNat_natCast, List.getD_eq_getElem?_getD, List.getElem?_map, hx]; rfl
    have et : (P.l.map (·.t)).getD (i : Int).toNat false = x.t := by rw [Int.toNat_natCast, List.getD_eq_getElem?_getD, List.getElem?_map, hx]; rfl
    rw [eg, et] at hlook
    have r0 : rd w0 M1 ⟨blk, i * 5, none⟩ = some (.int .i64 x.g) := hrd 0 _ rfl
    have r1 : rd w0 M1 ⟨blk, i * 5 + 1, none⟩ = some (.bool x.t) := hrd 1 _ rfl
    simp only [ha2, nc_v, Int.toNat_natCast, add_eq, Nat.zero_add, r0, ob_v, zI_]
    refine ⟨⟨by omega, by omega⟩, ?_⟩
    rw [bD_]
    split
    ·rename_i hgg
     exact h22 (by rw [hlook, if_pos (.inr (.inr (.inr hgg)))])
    ·rename_i hgg
     have hno : ¬ ((i : Int) < 0 ∨ (P.l.length : Int) ≤ (i : Int) ∨ g < 1 ∨ x.g < g) := by omega
     rw [if_neg hno] at hlook
     refine Eq.mpr (H.J1 ..) ?_
     unfold pP_find_st.J1.T nfz
     simp only [nc_v, ld_one W.c3, ld_one W.c4, ld_one W.c209, add_eq, Nat.zero_add, f0, f1, fL, ob_v, zI_, shS_sv, shB_v, ha2, Int.toNat_natCast, r0, r1]
     refine ⟨⟨by omega, by omega⟩, ?_⟩
     rw [bD_]
     split
     ·rename_i hlt
      exact h23 (by rw [hlook, if_pos (.inl hlt)])
     ·rename_i hlt
      cases ht : x.t with
      | false =>
       rw [Bool.not_false, bs_true]
       exact h23 (by rw [hlook, if_pos (.inr ht)])
      | true =>
       rw [Bool.not_true, bF_]
       have hgx : g = x.g := by omega
       have hx2 : P.l[i]? = some ⟨g, true, x.v⟩ := by
        rw [hx, hgx]
        obtain ⟨xg, xt, xv⟩ := x
        simp only at ht
        subst ht; rfl
       exact h1 i x.v blk rfl hx2 (PS.find_of hx2 (by omega)) ha2 M1 l1
theorem GetT_ok {a g : Int} (h : Holds w0 F M (star (PsT p P) Q)) (hb : P.l.length ≤ 100000)
  (h1 : ∀ v, P.find a g = some v → ∀ M', Mem.le M M' → R (.tuple #[.agg #[.int .i64 v.1, .int .i64 v.2.1, .int .i64 v.2.2], .int .i64 0]) M')
  (h0 : P.find a g = none → ∀ M' e, Mem.le M M' → e ≠ 0 → e = P.pl.look a g → R (.tuple #[.agg #[.int .i64 0, .int .i64 0, .int .i64 0], .int .i64 e]) M') :
  C PP w0 Id.pP_Get_st #[.pointer (some ⟨p, 0, none⟩), .agg #[.int .i64 a, .int .i64 g]] R M := by
 apply pP_Get_st.go
 unfold pP_Get_st.T nfz
 obtain ⟨sL, sF, hO⟩ := PsT.open_ h
 intro b1 hb1 hw1
 have l1 := Mem.le_set (M := M) (.row [.int .i64 a, .int .i64 g] 33) hb1
 have o1 : Own w0 (M.set b1 (.row [.int .i64 a, .int .i64 g] 33)) b1 [.int .i64 a, .int .i64 g] 33 := Own.new hw1
 generalize M.set b1 _ = M1 at l1 o1 ⊢
 intro b3 hb3 hw3
 have n1 : Holds w0 M1 M1 (fun r => r = []) := ⟨[], rfl, Fit.nil (Mem.le_refl _)⟩
 have n3 : Holds w0 M1 _ (star (row1 b3 _ 153) _) := n1.new hb3 hw3 [.int .i64 0, .int .i64 0, .int .i64 0] 153
 generalize M1.set b3 _ = M2 at n3 ⊢
 have l2 := n3.fr
 rw [ldRfT (o1.le l2)]
 simp only [ob_v, sA_, sC_, zI_, zN_]
 have hO2 : OpT w0 F M2 p P sL sF Q := Holds.le hO (Mem.le_trans l1 l2)
 refine findT_ok hO2 hb (fun i v blk ea hx hf ha M3 l3 => ?_) fun hf M3 e l3 he hel => ?_
 ·simp only [sT_v, sC_, sP_v, zI_, zN_]
  rw [bs_bne, if_pos rfl, nc_v, add_eq]
  have hO3 : OpT w0 F M3 p P sL sF Q := Holds.le hO2 l3
  obtain ⟨blk', ha', hn', hi', hrd⟩ := hO3.el hx
  rw [ha] at ha'; cases ha'
  rw [ld_agg (cs := vc3 v) W.g153 (fun j u hj => by rw [add_eq, Nat.add_assoc]; exact hrd (2 + j) u (by rw [Nat.add_comm]; exact hj))]
  simp only [ob_v, sA_, sC_, zI_, zN_]
  refine resT (n3.le l3) rfl (K := fun v M => R (.tuple #[v, .int .i64 0]) M) fun M4 h4 => ?_
  exact h1 v hf M4 (Mem.le_trans l1 h4.fr)
 ·simp only [sT_v, sC_, sP_v, zI_, zN_]
  rw [bs_bne, if_neg he]
  intro b22 hb22 hw22
  have l4 := Mem.le_set (M := M3) (.row [.int .i64 0, .int .i64 0, .int .i64 0] 153) hb22
  have o4 : Own w0 (M3.set b22 (.row [.int .i64 0, .int .i64 0, .int .i64 0] 153)) b22 (vc3 z3) 153 := Own.new hw22
  generalize M3.set b22 _ = M4 at l4 o4 ⊢
  rw [ldVT (v := z3) (o := 0) o4 (fun j u hj => by rw [Nat.zero_add]; exact hj)]
  simp only [ob_v, sA_, sC_, zI_, zN_]
  refine resT (v := z3) (n3.le (Mem.le_trans l3 l4)) rfl (K := fun v M => R (.tuple #[v, .int .i64 e]) M) fun M5 h5 => ?_
  exact h0 hf M5 e (Mem.le_trans l1 h5.fr) he hel
theorem SetT_ok {a g : Int} {v w : V3} (h : Holds w0 F M (star (PsT p P) Q)) (hb : P.l.length ≤ 100000) (hw : P.find a g = some w)
  (h1 : ∀ M', Holds w0 F M' (star (PsT p (P.put a.toNat v)) Q) → R (.int .i64 0) M') :
  C PP w0 Id.pP_Set_st #[.pointer (some ⟨p, 0, none⟩), .agg #[.int .i64 a, .int .i64 g], .agg #[.int .i64 v.1, .int .i64 v.2.1, .int .i64 v.2.2]] R M := by
 apply pP_Set_st.go
 unfold pP_Set_st.T nfz
 obtain ⟨sL, sF, hO⟩ := PsT.open_ h
 intro b1 hb1 hw1
 have l1 := Mem.le_set (M := M) (.row [.int .i64 a, .int .i64 g] 33) hb1
 have o1 : Own w0 (M.set b1 (.row [.int .i64 a, .int .i64 g] 33)) b1 [.int .i64 a, .int .i64 g] 33 := Own.new hw1
 generalize M.set b1 _ = M1 at l1 o1 ⊢
 intro b3 hb3 hw3
 have l2 := Mem.le_set (M := M1) (.row (vc3 v) 153) hb3
 have o3 : Own w0 (M1.set b3 (.row (vc3 v) 153)) b3 (vc3 v) 153 := Own.new hw3
 change _ at hb3
 generalize hM2 : M1.set b3 _ = M2
 have hM2' : M1.set b3 (.row (vc3 v) 153) = M2 := hM2
 rw [hM2'] at l2 o3
 rw [ldRfT (o1.le l2)]
 simp only [ob_v, sA_, sC_, zI_, zN_]
 have hO2 : OpT w0 F M2 p P sL sF Q := Holds.le hO (Mem.le_trans l1 l2)
 refine findT_ok hO2 hb (fun i v' blk ea hx hf ha M3 l3 => ?_) fun hf M3 e l3 he hel => ?_
 ·simp only [sT_v, sC_, sP_v, zI_, zN_]
  rw [bQ_, if_pos rfl, ldVT (v := v) (o := 0) (o3.le l3) (fun j u hj => by rw [Nat.zero_add]; exact hj)]
  simp only [ob_v, sA_, sC_, zI_, zN_, nc_v, add_eq]
  have hO3 : OpT w0 F M3 p P sL sF Q := Holds.le hO2 l3
  have hn := hO3.nL
  obtain ⟨F1, k1, _, k2⟩ := Holds.last hO3
  refine stPart pc3_len (vs := vc3 v) W.g153 k1 hx (x' := ⟨g, true, v⟩) (A := [.int .i64 g, .bool true]) (B := vc3 v') rfl rfl rfl rfl (vc3_one v) ha hn fun M4 h4 => ?_
  have h5 := k2 _ _ h4
  refine h1 M4 (OpT.close (sL := sL) (sF := sF) ?_)
  subst ea
  rw [Int.toNat_natCast]
  obtain ⟨e1, e2, e3⟩ := PS.put_l v hx
  unfold OpT
  rw [e1, e2, e3]
  exact h5
 ·rw [hw] at hf; cases hf
theorem LenT_ok (h : Holds w0 F M (star (PsT p P) Q)) (hb : P.l.length ≤ 100000) (hf : P.free.length ≤ P.l.length) (hR : R (.int .i64 ((P.l.length - P.free.length : Nat) : Int)) M) :
  C PP w0 Id.pP_Len_st #[.pointer (some ⟨p, 0, none⟩)] R M := by
 apply pP_Len_st.go
 unfold pP_Len_st.T nfz
 obtain ⟨sL, sF, hO⟩ := PsT.open_ h
 simp only [nc_v, ld_one W.c209, ld_one W.c53, add_eq, Nat.zero_add, hO.r1, hO.r2, ob_v, shS_sv]
 rw [hO.nL, hO.nF, w64_in (by omega), show (P.l.length : Int) - (P.free.length : Int) = ((P.l.length - P.free.length : Nat) : Int) from by omega]
 exact hR
theorem PlacesT_ok (h : Holds w0 F M (star (PsT p P) Q)) (hR : R (.int .i64 P.most) M) :
  C PP w0 Id.pP_Places_st #[.pointer (some ⟨p, 0, none⟩)] R M := by
 apply pP_Places_st.go
 unfold pP_Places_st.T nfz
 obtain ⟨sL, sF, hO⟩ := PsT.open_ h
 simp only [nc_v, ld_one W.c3, hO.r0, ob_v, zI_]
 exact hR
theorem TakeT_ok {v : V3} (h : Holds w0 F M (star (PsT p P) Q)) (hok : P.Ok) (hb : P.l.length ≤ 10000) (hfb : P.free.length ≤ 10000) (hg : ∀ x ∈ P.l, 0 ≤ x.g ∧ x.g ≤ 1000000) {a : Nat} (hat : P.at_ = some a)
  (h1 : ∀ M', Holds w0 F M' (star (PsT p (P.take z3 a v)) Q) → R (.tuple #[.agg #[.int .i64 (a : Int), .int .i64 (P.gen a)], .bool true]) M') :
  C PP w0 Id.pP_Take_st #[.pointer (some ⟨p, 0, none⟩), .agg #[.int .i64 v.1, .int .i64 v.2.1, .int .i64 v.2.2]] R M := by
 apply pP_Take_st.go
 intro pts H
 unfold pP_Take_st.T nfz
 intro b1 hb1 hw1
 have g1 : Holds w0 F _ (star (row1 b1 (vc3 v) 153) (star (PsT p P) Q)) := h.new hb1 hw1 (vc3 v) 153
 generalize hM1 : M.set b1 _ = M1
 have hM1' : M.set b1 (.row (vc3 v) 153) = M1 := hM1
 rw [hM1'] at g1
 obtain ⟨F1, hle1, hown, g2⟩ := Holds.freeze1 g1
 intro b3 hb3 hw3
 have g3 : Holds w0 F1 _ (star (row1 b3 _ 33) (star (PsT p P) Q)) := g2.new hb3 hw3 [.int .i64 0, .int .i64 0] 33
 generalize M1.set b3 _ = M2 at g3 ⊢
 obtain ⟨sL, sF, hO⟩ := PsT.open_ g3.rot
 have keyJ1 : ∀ (M' : Mem) (P' : PS V3) (sL sF : SV) (x : Plc V3), OpT w0 F1 M' p P' sL sF (star (row1 b3 [.int .i64 0, .int .i64 0] 33) Q) → P'.l[a]? = some x → 0 ≤ x.g ∧ x.g ≤ 1000000 →
   (∀ M'', Holds w0 F1 M'' (star (PsT p { P' with l := P'.l.set a ⟨x.g + 1, true, v⟩ }) Q) → R (.tuple #[.agg #[.int .i64 (a : Int), .int .i64 (x.g + 1)], .bool true]) M'') →
   pP_Take_st.J1 pts (some ⟨p, 0, none⟩) ⟨b1, 0, none⟩ ⟨b3, 0, none⟩ (a : Int) M' := by
  intro M' P' sL sF x hX hx hxg hR
  refine Eq.mpr (H.J1 ..) ?_
  unfold pP_Take_st.J1.T nfz
  obtain ⟨blk, ha, hn, hi, hrd⟩ := hX.el hx
  have eL := hX.r1
  have r0 : rd w0 M' ⟨blk, a * 5, none⟩ = some (.int .i64 x.g) := hrd 0 _ rfl
  simp only [nc_v, ld_one W.c3, ld_one W.c209, add_eq, Nat.zero_add, eL, ob_v, shS_sv, ha, Int.toNat_natCast, r0, zI_]
  refine ⟨⟨by omega, by omega⟩, ?_⟩
  rw [w64_in (by omega)]
  obtain ⟨F2, k1, _, k2⟩ := Holds.last hX
  have hnl : ∀ y, (P'.l.set a y).length = P'.l.length := fun y => List.length_set
  refine Holds.stR (f := 0) pc3_len (by decide) W.c3 k1 hx (x' := { x with g := x.g + 1 }) (by decide) rfl rfl rfl ha fun M3 h3 => ?_
  have hX3 : OpT w0 F1 M3 p { P' with l := P'.l.set a { x with g := x.g + 1 } } sL sF (star (row1 b3 [.int .i64 0, .int .i64 0] 33) Q) := k2 _ _ h3
  rw [ldVT (v := v) (o := 0) (hown.le (Holds.fr hX3)) (fun j u hj => by rw [Nat.zero_add]; exact hj)]
  simp only [ob_v, sA_, sC_, zI_, zN_]
  have hal : a < P'.l.length := (List.getElem?_eq_some_iff.1 hx).1
  have hx3 : (P'.l.set a { x with g := x.g + 1 })[a]? = some { x with g := x.g + 1 } := List.getElem?_set_self hal
  obtain ⟨F3, k3, _, k4⟩ := Holds.last hX3
  refine Holds.stR (f := 1) pc3_len (by decide) W.c4 k3 hx3 (x' := ⟨x.g + 1, true, x.v⟩) (by decide) rfl rfl rfl ha fun M4 h4 => ?_
  have hX4 : OpT w0 F1 M4 p { P' with l := P'.l.set a ⟨x.g + 1, true, x.v⟩ } sL sF (star (row1 b3 [.int .i64 0, .int .i64 0] 33) Q) := by
   have := k4 _ _ h4
   rw [List.set_set] at this
   exact this
  refine ⟨ldVT (v := v) (o := 0) (hown.le (Holds.fr hX4)) (fun j u hj => by rw [Nat.zero_add]; exact hj), ?_⟩
  have hx4 : (P'.l.set a ⟨x.g + 1, true, x.v⟩)[a]? = some ⟨x.g + 1, true, x.v⟩ := List.getElem?_set_self hal
  obtain ⟨F4, k5, _, k6⟩ := Holds.last hX4
  refine stPart pc3_len (vs := vc3 v) W.g153 k5 hx4 (x' := ⟨x.g + 1, true, v⟩) (A := [.int .i64 (x.g + 1), .bool true]) (B := vc3 x.v) rfl rfl rfl rfl (vc3_one v) ha (by rw [hnl]; exact hn) fun M5 h5 => ?_
  have hX5 : OpT w0 F1 M5 p { P' with l := P'.l.set a ⟨x.g + 1, true, v⟩ } sL sF (star (row1 b3 [.int .i64 0, .int .i64 0] 33) Q) := by
   have := k6 _ _ h5
   rw [List.set_set] at this
   exact this
  have hx5 : (P'.l.set a ⟨x.g + 1, true, v⟩)[a]? = some ⟨x.g + 1, true, v⟩ := List.getElem?_set_self hal
  obtain ⟨blk5, ha5, hn5, hi5, hrd5⟩ := hX5.el hx5
  rw [ha] at ha5; cases ha5
  have r5 : rd w0 M5 ⟨blk, a * 5, none⟩ = some (.int .i64 (x.g + 1)) := hrd5 0 _ rfl
  have hbld : (std PP w0).bld 33 [(0, .int .i64 (a : Int)), (1, .int .i64 (x.g + 1))] = some (.agg #[.int .i64 (a : Int), .int .i64 (x.g + 1)]) := by kernel_rfl
  simp only [r5, ob_v, zI_, hbld, sA_, sC_, zN_]
  obtain ⟨F5, k7, _, k8⟩ := OpT.focus hX5
  refine resRef k7 (K := fun v M => R (.tuple #[v, .bool true]) M) fun M6 hback => ?_
  exact hR M6 (OpT.close (k8 _ _ (hback _ _ k7)))
 have eL := hO.r1
 have eF := hO.r2
 have e0 := hO.r0
 have nL := hO.nL
 have nF := hO.nF
 simp only [nc_v, ld_one W.c3, ld_one W.c53, ld_one W.c209, add_eq, Nat.zero_add, eL, eF, e0, ob_v, shS_sv, zI_]
 rw [bD_]
 split
 ·-- one that was given back
  rename_i hpos
  have hp2 : 0 < P.free.length := by
   apply Decidable.byContradiction
   intro hc
   have : sF.n = 0 := by omega
   rw [this] at hpos
   rw [show w64 (((0 : Nat) : Int) - 1) = -1 from by rw [w64_in (by omega)]; omega] at hpos
   omega
  obtain ⟨bs, x, hbs⟩ : ∃ bs x, P.free = bs ++ [x] := by
   rcases List.eq_nil_or_concat P.free with e | ⟨bs, x, e⟩
   ·rw [e] at hp2; simp at hp2
   ·exact ⟨bs, x, by rw [e, List.concat_eq_append]⟩
  have hlast : P.free.getLast? = some x := by rw [hbs]; simp
  have hax : a = x := by
   unfold PS.at_ at hat
   rw [hlast] at hat
   simpa using hat.symm
  subst hax
  have hfl : P.free.length = bs.length + 1 := by rw [hbs]; simp
  have hw : w64 (((sF.n : Nat) : Int) - 1) = ((bs.length : Nat) : Int) := by rw [w64_in (by omega)]; omega
  obtain ⟨F2, k1, _, k2⟩ := Holds.last hO
  obtain ⟨F3, k3, _, k4⟩ := k1.last
  have hc3 := slkCells k3
  obtain ⟨blk, rest, e, ha, q1, q2, q3⟩ := SlKA.row k3 (by omega)
  have hcap : sF.n ≤ sF.c := by rw [Nat.mul_one] at q1 q2; omega
  rw [hw]
  refine rdv hc3.1 (vlen (k := 1) k3) bs.length rfl (v := .int .i64 (a : Int)) (by unfold vN; rw [hbs, List.getElem?_map, List.getElem?_append_right (Nat.le_refl _)]; simp) ?_
  rw [zI_]
  refine ⟨⟨by omega, by omega, by omega⟩, ?_⟩
  have hsl : (Value.slice (if sF.c = (0 : Int).toNat then sF.a else sF.a.map (·.add ((0 : Int).toNat * 1))) (((bs.length : Nat) : Int).toNat - (0 : Int).toNat) (sF.c - (0 : Int).toNat)) = SV.v ⟨some ⟨blk, 0, none⟩, bs.length, sF.c⟩ := by
   rw [ha, Int.toNat_zero, Int.toNat_natCast, Nat.sub_zero, Nat.sub_zero, Nat.zero_mul]
   unfold SV.v
   simp only [Option.map_some, add_eq]
   split <;> rfl
  rw [hsl]
  refine st_one W.c53 (Holds.own1 hO) (by simp) rfl rfl ?_
  have h4 := Holds.upd1 hO (cs' := [.int .i64 P.most, SV.v sL, SV.v ⟨some ⟨blk, 0, none⟩, bs.length, sF.c⟩]) (e' := 211)
  have hvs : vN P.free ++ rest = vN bs ++ (.int .i64 (a : Int) :: rest) := by rw [hbs]; simp [vN]
  have hpl : ∀ (b' : Bool), True := fun _ => trivial
  obtain ⟨y, hy, hyt⟩ := hok.fr a (by rw [hbs]; simp)
  refine keyJ1 _ { P with free := bs } sL ⟨some ⟨blk, 0, none⟩, bs.length, sF.c⟩ y ?_ hy (hg y (List.mem_of_getElem? hy)) fun M5 h5 => ?_
  ·obtain ⟨F6, k6, _, k7⟩ := Holds.last h4
   obtain ⟨F8, k8, _, k9⟩ := k6.last
   refine k7 _ _ (k9 _ _ ?_)
   obtain ⟨blk', rest', e', ha', q1', q2', q3'⟩ := SlKA.row k8 (by omega)
   rw [ha] at ha'; cases ha'
   have hvs' : vN P.free ++ rest' = vN bs ++ (.int .i64 (a : Int) :: rest') := by rw [hbs]; simp [vN]
   rw [hvs'] at q3'
   have hvl : (vN bs).length = bs.length := by simp [vN]
   have hvl2 : (vN P.free).length = bs.length + 1 := by simp [vN, hfl]
   refine SlKA.ofRow q3' (by rw [hvl]; omega) ?_
   rw [hvl, List.length_cons]
   rw [hvl2] at q2'
   omega
  ·have hgen : P.gen a = y.g + 1 := by unfold PS.gen; rw [hy]
   have htk : P.take z3 a v = { P with free := bs, l := P.l.set a ⟨y.g + 1, true, v⟩ } := by
    unfold PS.take PS.grow
    rw [hlast, hgen]
    simp [hbs]
   rw [htk, hgen] at h1
   exact h1 M5 (h5.uF_ hle1)
 ·rename_i hpos
  have hp2 : P.free = [] := by
   apply List.eq_nil_of_length_eq_zero
   apply Decidable.byContradiction
   intro hc
   rw [show w64 (((sF.n : Nat) : Int) - 1) = ((sF.n : Nat) : Int) - 1 from w64_in (by omega)] at hpos
   omega
  have hlast : P.free.getLast? = none := by rw [hp2]; rfl
  have hat2 := hat
  unfold PS.at_ at hat2
  rw [hlast] at hat2
  simp only at hat2
  split at hat2
  ·cases hat2
  ·rename_i hm
   have hal : a = P.l.length := by simpa using hat2.symm
   rw [bD_, if_neg (by omega)]
   have hbld : (std PP w0).bld 259 [] = some (.agg #[.int .i64 0, .bool false, .int .i64 0, .int .i64 0, .int .i64 0]) := by kernel_rfl
   simp only [hbld, ob_v, sA_, sC_, zI_, shB_v, zN_]
   refine bsl_e (n := 1) (cells := #[.int .i64 0, .bool false, .int .i64 0, .int .i64 0, .int .i64 0]) Tryz.underlying209 W.e259 (by decide) (by kernel_rfl) fun bn hbn hwn => ?_
   rw [shS_v]
   have hNw : Holds w0 F1 _ (star (row1 bn (pc3 ⟨0, false, z3⟩) 259) _) := Holds.new hO hbn hwn (pc3 ⟨0, false, z3⟩) 259
   change Holds w0 F1 (M2.set bn (.row (#[.int .i64 0, .bool false, .int .i64 0, .int .i64 0, .int .i64 0] : Array Value).toList 259)) _ at hNw
   generalize M2.set bn _ = M3 at hNw ⊢
   obtain ⟨F2, hle2, hownN, hO3⟩ := Holds.freeze1 hNw
   obtain ⟨F3, k1, l3, k2⟩ := Holds.last hO3
   have hcap := Holds.capR pc3_len (by decide) k1
   refine appK (x := ⟨some ⟨bn, 0, none⟩, 1, 1⟩) (news := pc3 ⟨0, false, z3⟩) Tryz.underlying209 W.e259 k1 rfl (Cells.own (hownN.le hO3.fr) fun j u hj => by rw [Nat.zero_add]; exact hj) (fun e0 => by cases e0) (pc3_one _) (by decide) (by show sL.n + 1 ≤ _; omega) fun M4 s4 h4 => ?_
   rw [shS_sv]
   have h5 := k2 _ _ h4
   refine st_one W.c209 (Holds.own1 h5) (by simp) rfl rfl ?_
   have h6 := Holds.upd1 h5 (cs' := [.int .i64 P.most, SV.v s4, SV.v sF]) (e' := 211)
   rw [nL, ← hal]
   have hfm : P.l.flatMap pc3 ++ pc3 ⟨0, false, z3⟩ = (P.l ++ ([⟨0, false, z3⟩] : List (Plc V3))).flatMap pc3 := by simp
   refine keyJ1 _ { P with l := P.l ++ ([⟨0, false, z3⟩] : List (Plc V3)) } s4 sF ⟨0, false, z3⟩ ?_ (by rw [hal]; simp) ⟨by show (0 : Int) ≤ 0; omega, by show (0 : Int) ≤ 1000000; omega⟩ fun M7 h7 => ?_
   ·rw [hfm] at h6
    exact (Holds.uF_ h6 hle2)
   ·have hgen : P.gen a = 0 + 1 := by
     unfold PS.gen
     rw [hal, List.getElem?_eq_none (Nat.le_refl _)]
     rfl
    have htk : P.take z3 a v = { P with l := (P.l ++ ([⟨0, false, z3⟩] : List (Plc V3))).set a ⟨0 + 1, true, v⟩ } := by
     unfold PS.take PS.grow
     rw [hlast, hgen]
    rw [htk, hgen] at h1
    exact h1 M7 (h7.uF_ hle1)
theorem GiveT_ok {a g : Int} {v : V3} (h : Holds w0 F M (star (PsT p P) Q)) (hb : P.l.length ≤ 10000) (hfb : P.free.length ≤ 10000) (hw : P.find a g = some v)
  (h1 : ∀ M', Holds w0 F M' (star (PsT p (P.give z3 a.toNat)) Q) → R (.tuple #[.agg #[.int .i64 v.1, .int .i64 v.2.1, .int .i64 v.2.2], .int .i64 0]) M') :
  C PP w0 Id.pP_Give_st #[.pointer (some ⟨p, 0, none⟩), .agg #[.int .i64 a, .int .i64 g]] R M := by
 apply pP_Give_st.go
 unfold pP_Give_st.T nfz
 obtain ⟨sL, sF, hO⟩ := PsT.open_ h
 intro b1 hb1 hw1
 have g1 : Holds w0 F _ (star (row1 b1 _ 33) _) := Holds.new hO hb1 hw1 [.int .i64 a, .int .i64 g] 33
 generalize M.set b1 _ = M1 at g1 ⊢
 obtain ⟨F1, hle1, o1, g2⟩ := Holds.freeze1 g1
 intro b3 hb3 hw3
 have g3 : Holds w0 F1 _ (star (row1 b3 _ 153) _) := Holds.new g2 hb3 hw3 [.int .i64 0, .int .i64 0, .int .i64 0] 153
 generalize M1.set b3 _ = M2 at g3 ⊢
 intro b5 hb5 hw5
 have g4 : Holds w0 F1 _ (star (row1 b5 _ 153) _) := Holds.new g3 hb5 hw5 (vc3 z3) 153
 generalize hM3 : M2.set b5 _ = M3
 have hM3' : M2.set b5 (.row (vc3 z3) 153) = M3 := hM3
 rw [hM3'] at g4
 obtain ⟨F2, hle2, o5, g5⟩ := Holds.freeze1 g4
 have oz : ∀ M', Mem.le F2 M' → (std PP w0).ld 153 ⟨b5, 0, none⟩ M' = some (.agg #[.int .i64 0, .int .i64 0, .int .i64 0]) := fun M' hM => ldVT (v := z3) (o := 0) (o5.le hM) (fun j u hj => by rw [Nat.zero_add]; exact hj)
 rw [ldRfT (o1.le (Mem.le_trans hle2 g5.fr))]
 simp only [ob_v, sA_, sC_, zI_, zN_]
 obtain ⟨F3, hO3, hle3, back3⟩ := g5.last
 refine findT_ok hO3 (by omega) (fun i v' blk ea hx hf ha M4 l4 => ?_) fun hf M4 e l4 he hel => ?_
 ·rw [hw] at hf
  cases hf
  have g6 := g5.le l4
  simp only [sT_v, sC_, sP_v, zI_, zN_]
  rw [bs_bne, if_pos rfl, nc_v, add_eq]
  have hO4 : OpT w0 F2 M4 p P sL sF (star (row1 b3 [.int .i64 0, .int .i64 0, .int .i64 0] 153) Q) := by
   obtain ⟨F4, q1, _, q2⟩ := Holds.last g6.rot
   exact q2 _ _ (by
    obtain ⟨F5, q3, _, q4⟩ := q1.rot.last
    exact q4 _ _ q3.rot)
  obtain ⟨blk', ha', hn', hi', hrd⟩ := hO4.el hx
  rw [ha] at ha'; cases ha'
  rw [ld_agg (cs := vc3 v) W.g153 (fun j u hj => by rw [add_eq, Nat.add_assoc]; exact hrd (2 + j) u (by rw [Nat.add_comm]; exact hj))]
  simp only [ob_v, sA_, sC_, zI_, zN_]
  intro b49 hb49 hw49
  have g7 : Holds w0 F2 _ (star (row1 b49 _ 153) _) := Holds.new hO4 hb49 hw49 [.int .i64 0, .int .i64 0, .int .i64 0] 153
  generalize M4.set b49 _ = M5 at g7 ⊢
  refine st_agg (vs := vc3 v) W.g153 g7.own1 (by exact Nat.le_refl _) (vc3_one v) ?_
  have g8 := g7.upd1 (cs' := over [.int .i64 0, .int .i64 0, .int .i64 0] 0 (vc3 v)) (e' := 153)
  have e0 : over [.int .i64 0, .int .i64 0, .int .i64 0] 0 (vc3 v) = vc3 v := by
   have := over_mid [] [.int .i64 0, .int .i64 0, .int .i64 0] [] (vc3 v) rfl (o := 0) rfl
   simpa using this
  rw [e0] at g8 ⊢
  generalize M5.set b49 _ = M6 at g8 ⊢
  obtain ⟨F4, hle4, o49, hO6⟩ := Holds.freeze1 g8
  rw [oz M6 (Mem.le_trans hle4 hO6.fr)]
  simp only [ob_v, sA_, sC_, zI_, zN_, nc_v, add_eq]
  have hil : i < P.l.length := (List.getElem?_eq_some_iff.1 hx).1
  have hnl : ∀ y, (P.l.set i y).length = P.l.length := fun y => List.length_set
  obtain ⟨F5, k1, _, k2⟩ := Holds.last hO6
  refine Holds.stR (f := 1) pc3_len (by decide) W.c4 k1 hx (x' := ⟨g, false, v⟩) (by decide) rfl rfl rfl ha fun M7 h7 => ?_
  have hO7 : OpT w0 F4 M7 p { P with l := P.l.set i ⟨g, false, v⟩ } sL sF (star (row1 b3 [.int .i64 0, .int .i64 0, .int .i64 0] 153) Q) := k2 _ _ h7
  refine ⟨oz M7 (Mem.le_trans hle4 (Holds.fr hO7)), ?_⟩
  have hx7 : (P.l.set i ⟨g, false, v⟩)[i]? = some ⟨g, false, v⟩ := List.getElem?_set_self hil
  obtain ⟨F6, k3, _, k4⟩ := Holds.last hO7
  refine stPart pc3_len (vs := vc3 z3) W.g153 k3 hx7 (x' := ⟨g, false, z3⟩) (A := [.int .i64 g, .bool false]) (B := vc3 v) rfl rfl rfl rfl (vc3_one _) ha (by rw [hnl]; exact hn') fun M8 h8 => ?_
  have hO8 : OpT w0 F4 M8 p { P with l := P.l.set i ⟨g, false, z3⟩ } sL sF (star (row1 b3 [.int .i64 0, .int .i64 0, .int .i64 0] 153) Q) := by
   have := k4 _ _ h8
   rw [List.set_set] at this
   exact this
  have e2 := hO8.r2
  have f1 : rd w0 M8 ⟨b1, 0, none⟩ = some (.int .i64 a) := rd_own (o := 0) (o1.le (Mem.le_trans (Mem.le_trans hle2 hle4) (Holds.fr hO8)))
  simp only [ld_one W.c3, ld_one W.c53, Nat.zero_add, e2, f1, ob_v, shS_sv, zI_]
  refine bsl_e (n := 1) (cells := #[.int .i64 a]) Tryz.underlying53 W.e3 (by decide) (by kernel_rfl) fun bn hbn hwn => ?_
  rw [shS_v]
  have hNw : Holds w0 F4 _ (star (row1 bn [.int .i64 a] 3) _) := Holds.new hO8 hbn hwn [.int .i64 a] 3
  change Holds w0 F4 (M8.set bn (.row (#[.int .i64 a] : Array Value).toList 3)) _ at hNw
  generalize M8.set bn _ = M9 at hNw ⊢
  obtain ⟨F7, hle7, hownN, hO9⟩ := Holds.freeze1 hNw
  have e9 : rd w0 M9 ⟨p, 2, none⟩ = some (SV.v sF) := rd_own (o := 2) (Holds.own1 hO9)
  refine ⟨e9, ?_⟩
  obtain ⟨F8, k5, l5, k6⟩ := Holds.last hO9
  obtain ⟨F9, k7, l7, k8⟩ := k5.last
  have hnF : sF.n = P.free.length := by have := vlen (k := 1) k7; rw [this]; simp [vN]
  refine appK (x := ⟨some ⟨bn, 0, none⟩, 1, 1⟩) (news := [.int .i64 a]) Tryz.underlying53 W.e3 k7 rfl (Cells.own (hownN.le hO9.fr) fun j u hj => by rw [Nat.zero_add]; exact hj) (fun e0 => by cases e0) (by intro u hu; rw [List.mem_singleton.1 hu]; rfl) (by decide) (by show sF.n + 1 ≤ _; omega) fun M10 s10 h10 => ?_
  rw [shS_sv]
  have h11 := k6 _ _ (k8 _ _ h10)
  refine st_one W.c53 (Holds.own1 h11) (by simp) rfl rfl ?_
  have h12 := Holds.upd1 h11 (cs' := [.int .i64 P.most, SV.v sL, SV.v s10]) (e' := 211)
  rw [show ([.int .i64 P.most, SV.v sL, SV.v sF] : List Value).set 2 (SV.v s10) = [.int .i64 P.most, SV.v sL, SV.v s10] from rfl]
  generalize Mem.set M10 p _ = M11 at h12 ⊢
  subst ea
  have hgv : P.give z3 i = { P with l := P.l.set i ⟨g, false, z3⟩, free := P.free ++ [i] } := by
   unfold PS.give
   rw [hx]
  have h13 : OpT w0 F7 M11 p (P.give z3 i) sL s10 (star (row1 b3 [.int .i64 0, .int .i64 0, .int .i64 0] 153) Q) := by
   rw [hgv]
   have hv : vN P.free ++ [.int .i64 (i : Int)] = vN (P.free ++ [i]) := by simp [vN]
   rw [hv] at h12
   exact h12
  rw [ldVT (v := v) (o := 0) (o49.le (Mem.le_trans hle7 (Holds.fr h13))) (fun j u hj => by rw [Nat.zero_add]; exact hj)]
  simp only [ob_v, sA_, sC_, zI_, zN_]
  have h14 := (OpT.close h13).rot
  refine resT h14 rfl (K := fun v M => R (.tuple #[v, .int .i64 0]) M) fun M12 h15 => ?_
  rw [Int.toNat_natCast] at h1
  exact h1 M12 ((((h15.uF_ hle7).uF_ hle4).uF_ hle2).uF_ hle1)
 ·rw [hw] at hf; cases hf
theorem NewT_ok {n : Int} (h : Holds w0 F M Q) (h0 : 0 ≤ n) (hn : n ≤ 65536) (hR : ∀ M' p, Holds w0 F M' (star (PsT p ⟨n, [], []⟩) Q) → R (.pointer (some ⟨p, 0, none⟩)) M') : C PP w0 Id.pool_Newslots_thing #[.int .i64 n] R M := by
 apply pool_Newslots_thing.go
 unfold pool_Newslots_thing.T nfz
 have e1 : (if 65536 < n then (65536 : Int) else n) = n := if_neg (by omega)
 have e2 : (if n > 0 then n else 0) = n := by split <;> omega
 rw [e1, e2]
 have hbld : (std PP w0).bld 211 [(0, .int .i64 n)] = some (.agg #[.int .i64 n, .slice none 0 0, .slice none 0 0]) := by kernel_rfl
 simp only [hbld, ob_v, sA_, sC_, zI_, shS_v, zN_]
 intro b hb hw
 have h1 : Holds w0 F _ (star (row1 b _ 211) _) := h.new hb hw [.int .i64 n, SV.v ⟨none, 0, 0⟩, SV.v ⟨none, 0, 0⟩] 211
 refine hR _ b (OpT.close (sL := ⟨none, 0, 0⟩) (sF := ⟨none, 0, 0⟩) ?_)
 obtain ⟨F1, k1, _, k2⟩ := h1.last
 exact k2 _ _ (Holds.nilSlk (Holds.nilSlk k1))
end
end Go.Proofs.YtodobkbnmjgkdaaGreat.HL
namespace Go.Proofs.YtodobkbnmjgkdaaGreat.HL
open Go.RowKit (Below)
open Go.Proofs
section
variable {w0 : World} {F M : Mem} {R : VP} {p : Nat} {P : PS V5} {Q : Asn}
def PsJ (p : Nat) (P : PS V5) : Asn := fun r => ∃ sL sF : SV, star (row1 p [.int .i64 P.most, SV.v sL, SV.v sF] 239) (star (SlKA 7 sL (P.l.flatMap pc5)) (SlKA 1 sF (vN P.free))) r
abbrev OpJ (w0 : World) (F M : Mem) (p : Nat) (P : PS V5) (sL sF : SV) (Q : Asn) : Prop := Holds w0 F M (star (row1 p [.int .i64 P.most, SV.v sL, SV.v sF] 239) (star (SlKA 7 sL (P.l.flatMap pc5)) (star (SlKA 1 sF (vN P.free)) Q)))
theorem PsJ.open_ (h : Holds w0 F M (star (PsJ p P) Q)) : ∃ sL sF, OpJ w0 F M p P sL sF Q := by
 obtain ⟨r, ⟨r1, r2, rfl, ⟨sL, sF, h1⟩, h2⟩, h3⟩ := h
 refine ⟨sL, sF, ?_⟩
 have : Holds w0 F M (star (star (row1 p [.int .i64 P.most, SV.v sL, SV.v sF] 239) (star (SlKA 7 sL (P.l.flatMap pc5)) (SlKA 1 sF (vN P.free)))) Q) := ⟨_, ⟨r1, r2, rfl, h1, h2⟩, h3⟩
 have h4 := Holds.assoc.1 this
 obtain ⟨F1, k1, _, k2⟩ := h4.last
 exact k2 _ _ (Holds.assoc.1 k1)
theorem OpJ.close {sL sF : SV} (h : OpJ w0 F M p P sL sF Q) : Holds w0 F M (star (PsJ p P) Q) := by
 obtain ⟨F1, k1, _, k2⟩ := Holds.last h
 have h1 := k2 _ _ (Holds.assoc.2 k1)
 have h2 := Holds.assoc.2 h1
 obtain ⟨r, ⟨r1, r2, rfl, g1, g2⟩, g3⟩ := h2
 exact ⟨_, ⟨r1, r2, rfl, ⟨sL, sF, g1⟩, g2⟩, g3⟩
section
variable {sL sF : SV}
theorem OpJ.r0 (h : OpJ w0 F M p P sL sF Q) : rd w0 M ⟨p, 0, none⟩ = some (.int .i64 P.most) := rd_own (o := 0) h.own1
theorem OpJ.r1 (h : OpJ w0 F M p P sL sF Q) : rd w0 M ⟨p, 1, none⟩ = some (SV.v sL) := rd_own (o := 1) h.own1
theorem OpJ.r2 (h : OpJ w0 F M p P sL sF Q) : rd w0 M ⟨p, 2, none⟩ = some (SV.v sF) := rd_own (o := 2) h.own1
theorem OpJ.nL (h : OpJ w0 F M p P sL sF Q) : sL.n = P.l.length := Holds.nR pc5_len (by decide) h.right
theorem OpJ.nF (h : OpJ w0 F M p P sL sF Q) : sF.n = P.free.length := by
 have := vlen (k := 1) h.right.right
 rw [this]; simp [vN]
theorem OpJ.el (h : OpJ w0 F M p P sL sF Q) {i : Nat} {x : Plc V5} (hx : P.l[i]? = some x) : ∃ blk, sL.a = some ⟨blk, 0, none⟩ ∧ sL.n = P.l.length ∧ i < sL.n ∧ ∀ f v, (pc5 x)[f]? = some v → rd w0 M ⟨blk, i * 7 + f, none⟩ = some v := Holds.adR pc5_len (by decide) h.right hx
theorem OpJ.focus (h : OpJ w0 F M p P sL sF Q) : ∃ F5, Holds w0 F5 M Q ∧ Mem.le F F5 ∧ ∀ M' Q', Holds w0 F5 M' Q' → OpJ w0 F M' p P sL sF Q' := by
 obtain ⟨F1, k1, l1, k2⟩ := Holds.last h
 obtain ⟨F2, k3, l2, k4⟩ := k1.last
 obtain ⟨F3, k5, l3, k6⟩ := k3.last
 exact ⟨F3, k5, Mem.le_trans l1 (Mem.le_trans l2 l3), fun M' Q' hh => k2 _ _ (k4 _ _ (k6 _ _ hh))⟩
end
theorem resJ {b : Nat} {cs : List Value} {Pq : Asn} {v : V5} (h : Holds w0 F M (star (row1 b cs 138) Pq)) (hcs : cs.length = 5) {K : VP} (hK : ∀ M', Holds w0 F M' Pq → K (.agg #[.int .i64 v.1, .int .i64 v.2.1, .int .i64 v.2.2.1, .int .i64 v.2.2.2.1, .int .i64 v.2.2.2.2]) M') :
  (std PP w0).st 138 ⟨b, 0, none⟩ (.agg #[.int .i64 v.1, .int .i64 v.2.1, .int .i64 v.2.2.1, .int .i64 v.2.2.2.1, .int .i64 v.2.2.2.2]) (fun M1 => ob ((std PP w0).rdv 138 (.pointer (some ⟨b, 0, none⟩)) M1) fun v => K v M1) M := by
 refine st_agg (vs := vc5 v) W.g138 h.own1 (by rw [hcs]; exact Nat.le_refl _) (vc5_one v) ?_
 have h2 := h.upd1 (cs' := over cs 0 (vc5 v)) (e' := 138)
 have e0 : over cs 0 (vc5 v) = vc5 v := by
  have := over_mid [] cs [] (vc5 v) (by rw [hcs]; rfl) (o := 0) rfl
  simpa using this
 rw [e0] at h2 ⊢
 have o2 := h2.own1
 rw [rdv_ptr, ld_agg (cs := vc5 v) W.g138 (fun j u hj => by rw [add_eq, rd_own o2, Nat.zero_add]; exact hj), ob_v]
 exact hK _ h2.right
theorem ldVJ {b o : Nat} {v : V5} {cs : List Value} {e : TypeId} (h : Own w0 M b cs e) (hc : ∀ j u, (vc5 v)[j]? = some u → cs[o + j]? = some u) : (std PP w0).ld 138 ⟨b, o, none⟩ M = some (.agg #[.int .i64 v.1, .int .i64 v.2.1, .int .i64 v.2.2.1, .int .i64 v.2.2.2.1, .int .i64 v.2.2.2.2]) :=
 ld_agg (cs := vc5 v) W.g138 (fun j u hj => by rw [add_eq, rd_own h]; exact hc j u hj)
theorem ldRfJ {b : Nat} {x y : Int} {e : TypeId} (h : Own w0 M b [.int .i64 x, .int .i64 y] e) : (std PP w0).ld 33 ⟨b, 0, none⟩ M = some (.agg #[.int .i64 x, .int .i64 y]) :=
 ld_agg (cs := [.int .i64 x, .int .i64 y]) W.g33 (fun j u hj => by rw [add_eq, rd_own h, Nat.zero_add]; exact hj)
theorem findJ_ok {sL sF : SV} {a g : Int} (h : OpJ w0 F M p P sL sF Q) (hb : P.l.length ≤ 100000)
  (h1 : ∀ (i : Nat) v blk, a = (i : Int) → P.l[i]? = some ⟨g, true, v⟩ → P.find a g = some v → sL.a = some ⟨blk, 0, none⟩ → ∀ M', Mem.le M M' → R (.tuple #[.pointer (some ⟨blk, i * 7, none⟩), .int .i64 0]) M')
  (h0 : P.find a g = none → ∀ M' e, Mem.le M M' → e ≠ 0 → e = P.pl.look a g → R (.tuple #[.pointer none, .int .i64 e]) M') :
  C PP w0 Id.pP_find_jj #[.pointer (some ⟨p, 0, none⟩), .agg #[.int .i64 a, .int .i64 g]] R M := by
 apply pP_find_jj.go
 intro pts H
 unfold pP_find_jj.T nfz
 intro b1 hb1 hw1
 have l1 := Mem.le_set (M := M) (.row [.int .i64 a, .int .i64 g] 33) hb1
 have o1 : Own w0 (M.set b1 (.row [.int .i64 a, .int .i64 g] 33)) b1 [.int .i64 a, .int .i64 g] 33 := Own.new hw1
 generalize M.set b1 _ = M1 at l1 o1 ⊢
 have hO : OpJ w0 F M1 p P sL sF Q := Holds.le h l1
 have f0 : rd w0 M1 ⟨b1, 0, none⟩ = some (.int .i64 a) := rd_own (o := 0) o1
 have f1 : rd w0 M1 ⟨b1, 1, none⟩ = some (.int .i64 g) := rd_own (o := 1) o1
 have fL := hO.r1
 have hn := hO.nL
 have hlk : ∀ e, P.pl.look a g = e → e ≠ 0 → P.find a g = none := fun e he hne => by
  cases hf : P.find a g with
  | none => rfl
  | some v =>
   have := PS.find_look.1 (show (P.find a g).isSome = true by rw [hf]; rfl)
   exact absurd (he ▸ this) hne
 have h22 : P.pl.look a g = 22 → R (.tuple #[.pointer none, .int .i64 22]) M1 := fun e => h0 (hlk 22 e (by decide)) M1 22 l1 (by decide) e.symm
 have h23 : P.pl.look a g = 23 → R (.tuple #[.pointer none, .int .i64 23]) M1 := fun e => h0 (hlk 23 e (by decide)) M1 23 l1 (by decide) e.symm
 have hlook : P.pl.look a g = if a < 0 ∨ (P.l.length : Int) ≤ a ∨ g < 1 ∨ (P.l.map (·.g)).getD a.toNat 0 < g then 22 else if g < (P.l.map (·.g)).getD a.toNat 0 ∨ (P.l.map (·.t)).getD a.toNat false = false then 23 else 0 := by
  unfold Pl.look PS.pl
  simp only [List.length_map]
 simp only [nc_v, ld_one W.c3, ld_one W.c237, add_eq, Nat.zero_add, f0, f1, fL, ob_v, zI_, shS_sv]
 rw [bD_]
 split
 ·rename_i ha
  exact h22 (by rw [hlook, if_pos (.inl ha)])
 ·rename_i ha
  rw [bD_]
  split
  ·exact h22 (by rw [hlook, if_pos (.inr (.inl (by omega)))])
  ·rename_i hal
   rw [bD_]
   split
   ·rename_i hg
    exact h22 (by rw [hlook, if_pos (.inr (.inr (.inl hg)))])
   ·rename_i hg
    obtain ⟨i, rfl⟩ : ∃ i : Nat, a = (i : Int) := ⟨a.toNat, by omega⟩
    have hil : i < P.l.length := by omega
    have hx := List.getElem?_eq_getElem hil
    generalize P.l[i] = x at hx
    obtain ⟨blk, ha2, hn2, hi2, hrd⟩ := hO.el hx
    have eg : (P.l.map (·.g)).getD (i : Int).toNat 0 = x.g := by rw [Int.toNat_natCast, List.getD_eq_getElem?_getD, List.getElem?_map, hx]; rfl
    have et : (P.l.map (·.t)).getD (i : Int).toNat false = x.t := by rw [Int.toNat_natCast, List.getD_eq_getElem?_getD, List.getElem?_map, hx]; rfl
    rw [eg, et] at hlook
    have r0 : rd w0 M1 ⟨blk, i * 7, none⟩ = some (.int .i64 x.g) := hrd 0 _ rfl
    have r1 : rd w0 M1 ⟨blk, i * 7 + 1, none⟩ = some (.bool x.t) := hrd 1 _ rfl
    simp only [ha2, nc_v, Int.toNat_natCast, add_eq, Nat.zero_add, r0, ob_v, zI_]
    refine ⟨⟨by omega, by omega⟩, ?_⟩
    rw [bD_]
    split
    ·rename_i hgg
     exact h22 (by rw [hlook, if_pos (.inr (.inr (.inr hgg)))])
    ·rename_i hgg
     have hno : ¬ ((i : Int) < 0 ∨ (P.l.length : Int) ≤ (i : Int) ∨ g < 1 ∨ x.g < g) := by omega
     rw [if_neg hno] at hlook
     refine Eq.mpr (H.J1 ..) ?_
     unfold pP_find_jj.J1.T nfz
     simp only [nc_v, ld_one W.c3, ld_one W.c4, ld_one W.c237, add_eq, Nat.zero_add, f0, f1, fL, ob_v, zI_, shS_sv, shB_v, ha2, Int.toNat_natCast, r0, r1]
     refine ⟨⟨by omega, by omega⟩, ?_⟩
     rw [bD_]
     split
     ·rename_i hlt
      exact h23 (by rw [hlook, if_pos (.inl hlt)])
     ·rename_i hlt
      cases ht : x.t with
      | false =>
       rw [Bool.not_false, bs_true]
       exact h23 (by rw [hlook, if_pos (.inr ht)])
      | true =>
       rw [Bool.not_true, bF_]
       have hgx : g = x.g := by omega
       have hx2 : P.l[i]? = some ⟨g, true, x.v⟩ := by
        rw [hx, hgx]
        obtain ⟨xg, xt, xv⟩ := x
        simp only at ht
        subst ht; rfl
       exact h1 i x.v blk rfl hx2 (PS.find_of hx2 (by omega)) ha2 M1 l1
theorem GetJ_ok {a g : Int} (h : Holds w0 F M (star (PsJ p P) Q)) (hb : P.l.length ≤ 100000)
  (h1 : ∀ v, P.find a g = some v → ∀ M', Mem.le M M' → R (.tuple #[.agg #[.int .i64 v.1, .int .i64 v.2.1, .int .i64 v.2.2.1, .int .i64 v.2.2.2.1, .int .i64 v.2.2.2.2], .int .i64 0]) M')
  (h0 : P.find a g = none → ∀ M' e, Mem.le M M' → e ≠ 0 → e = P.pl.look a g → R (.tuple #[.agg #[.int .i64 0, .int .i64 0, .int .i64 0, .int .i64 0, .int .i64 0], .int .i64 e]) M') :
  C PP w0 Id.pP_Get_jj #[.pointer (some ⟨p, 0, none⟩), .agg #[.int .i64 a, .int .i64 g]] R M := by
 apply pP_Get_jj.go
 unfold pP_Get_jj.T nfz
 obtain ⟨sL, sF, hO⟩ := PsJ.open_ h
 intro b1 hb1 hw1
 have l1 := Mem.le_set (M := M) (.row [.int .i64 a, .int .i64 g] 33) hb1
 have o1 : Own w0 (M.set b1 (.row [.int .i64 a, .int .i64 g] 33)) b1 [.int .i64 a, .int .i64 g] 33 := Own.new hw1
 generalize M.set b1 _ = M1 at l1 o1 ⊢
 intro b3 hb3 hw3
 have n1 : Holds w0 M1 M1 (fun r => r = []) := ⟨[], rfl, Fit.nil (Mem.le_refl _)⟩
 have n3 : Holds w0 M1 _ (star (row1 b3 _ 138) _) := n1.new hb3 hw3 [.int .i64 0, .int .i64 0, .int .i64 0, .int .i64 0, .int .i64 0] 138
 generalize M1.set b3 _ = M2 at n3 ⊢
 have l2 := n3.fr
 rw [ldRfJ (o1.le l2)]
 simp only [ob_v, sA_, sC_, zI_, zN_]
 have hO2 : OpJ w0 F M2 p P sL sF Q := Holds.le hO (Mem.le_trans l1 l2)
 refine findJ_ok hO2 hb (fun i v blk ea hx hf ha M3 l3 => ?_) fun hf M3 e l3 he hel => ?_
 ·simp only [sT_v, sC_, sP_v, zI_, zN_]
  rw [bs_bne, if_pos rfl, nc_v, add_eq]
  have hO3 : OpJ w0 F M3 p P sL sF Q := Holds.le hO2 l3
  obtain ⟨blk', ha', hn', hi', hrd⟩ := hO3.el hx
  rw [ha] at ha'; cases ha'
  rw [ld_agg (cs := vc5 v) W.g138 (fun j u hj => by rw [add_eq, Nat.add_assoc]; exact hrd (2 + j) u (by rw [Nat.add_comm]; exact hj))]
  simp only [ob_v, sA_, sC_, zI_, zN_]
  refine resJ (n3.le l3) rfl (K := fun v M => R (.tuple #[v, .int .i64 0]) M) fun M4 h4 => ?_
  exact h1 v hf M4 (Mem.le_trans l1 h4.fr)
 ·simp only [sT_v, sC_, sP_v, zI_, zN_]
  rw [bs_bne, if_neg he]
  intro b22 hb22 hw22
  have l4 := Mem.le_set (M := M3) (.row [.int .i64 0, .int .i64 0, .int .i64 0, .int .i64 0, .int .i64 0] 138) hb22
  have o4 : Own w0 (M3.set b22 (.row [.int .i64 0, .int .i64 0, .int .i64 0, .int .i64 0, .int .i64 0] 138)) b22 (vc5 z5) 138 := Own.new hw22
  generalize M3.set b22 _ = M4 at l4 o4 ⊢
  rw [ldVJ (v := z5) (o := 0) o4 (fun j u hj => by rw [Nat.zero_add]; exact hj)]
  simp only [ob_v, sA_, sC_, zI_, zN_]
  refine resJ (v := z5) (n3.le (Mem.le_trans l3 l4)) rfl (K := fun v M => R (.tuple #[v, .int .i64 e]) M) fun M5 h5 => ?_
  exact h0 hf M5 e (Mem.le_trans l1 h5.fr) he hel
theorem SetJ_ok {a g : Int} {v w : V5} (h : Holds w0 F M (star (PsJ p P) Q)) (hb : P.l.length ≤ 100000) (hw : P.find a g = some w)
  (h1 : ∀ M', Holds w0 F M' (star (PsJ p (P.put a.toNat v)) Q) → R (.int .i64 0) M') :
  C PP w0 Id.pP_Set_jj #[.pointer (some ⟨p, 0, none⟩), .agg #[.int .i64 a, .int .i64 g], .agg #[.int .i64 v.1, .int .i64 v.2.1, .int .i64 v.2.2.1, .int .i64 v.2.2.2.1, .int .i64 v.2.2.2.2]] R M := by
 apply pP_Set_jj.go
 unfold pP_Set_jj.T nfz
 obtain ⟨sL, sF, hO⟩ := PsJ.open_ h
 intro b1 hb1 hw1
 have l1 := Mem.le_set (M := M) (.row [.int .i64 a, .int .i64 g] 33) hb1
 have o1 : Own w0 (M.set b1 (.row [.int .i64 a, .int .i64 g] 33)) b1 [.int .i64 a, .int .i64 g] 33 := Own.new hw1
 generalize M.set b1 _ = M1 at l1 o1 ⊢
 intro b3 hb3 hw3
 have l2 := Mem.le_set (M := M1) (.row (vc5 v) 138) hb3
 have o3 : Own w0 (M1.set b3 (.row (vc5 v) 138)) b3 (vc5 v) 138 := Own.new hw3
 change _ at hb3
 generalize hM2 : M1.set b3 _ = M2
 have hM2' : M1.set b3 (.row (vc5 v) 138) = M2 := hM2
 rw [hM2'] at l2 o3
 rw [ldRfJ (o1.le l2)]
 simp only [ob_v, sA_, sC_, zI_, zN_]
 have hO2 : OpJ w0 F M2 p P sL sF Q := Holds.le hO (Mem.le_trans l1 l2)
 refine findJ_ok hO2 hb (fun i v' blk ea hx hf ha M3 l3 => ?_) fun hf M3 e l3 he hel => ?_
 ·simp only [sT_v, sC_, sP_v, zI_, zN_]
  rw [bQ_, if_pos rfl, ldVJ (v := v) (o := 0) (o3.le l3) (fun j u hj => by rw [Nat.zero_add]; exact hj)]
  simp only [ob_v, sA_, sC_, zI_, zN_, nc_v, add_eq]
  have hO3 : OpJ w0 F M3 p P sL sF Q := Holds.le hO2 l3
  have hn := hO3.nL
  obtain ⟨F1, k1, _, k2⟩ := Holds.last hO3
  refine stPart pc5_len (vs := vc5 v) W.g138 k1 hx (x' := ⟨g, true, v⟩) (A := [.int .i64 g, .bool true]) (B := vc5 v') rfl rfl rfl rfl (vc5_one v) ha hn fun M4 h4 => ?_
  have h5 := k2 _ _ h4
  refine h1 M4 (OpJ.close (sL := sL) (sF := sF) ?_)
  subst ea
  rw [Int.toNat_natCast]
  obtain ⟨e1, e2, e3⟩ := PS.put_l v hx
  unfold OpJ
  rw [e1, e2, e3]
  exact h5
 ·rw [hw] at hf; cases hf
theorem LenJ_ok (h : Holds w0 F M (star (PsJ p P) Q)) (hb : P.l.length ≤ 100000) (hf : P.free.length ≤ P.l.length) (hR : R (.int .i64 ((P.l.length - P.free.length : Nat) : Int)) M) :
  C PP w0 Id.pP_Len_jj #[.pointer (some ⟨p, 0, none⟩)] R M := by
 apply pP_Len_jj.go
 unfold pP_Len_jj.T nfz
 obtain ⟨sL, sF, hO⟩ := PsJ.open_ h
 simp only [nc_v, ld_one W.c237, ld_one W.c53, add_eq, Nat.zero_add, hO.r1, hO.r2, ob_v, shS_sv]
 rw [hO.nL, hO.nF, w64_in (by omega), show (P.l.length : Int) - (P.free.length : Int) = ((P.l.length - P.free.length : Nat) : Int) from by omega]
 exact hR
theorem PlacesJ_ok (h : Holds w0 F M (star (PsJ p P) Q)) (hR : R (.int .i64 P.most) M) :
  C PP w0 Id.pP_Places_jj #[.pointer (some ⟨p, 0, none⟩)] R M := by
 apply pP_Places_jj.go
 unfold pP_Places_jj.T nfz
 obtain ⟨sL, sF, hO⟩ := PsJ.open_ h
 simp only [nc_v, ld_one W.c3, hO.r0, ob_v, zI_]
 exact hR
theorem TakeJ_ok {v : V5} (h : Holds w0 F M (star (PsJ p P) Q)) (hok : P.Ok) (hb : P.l.length ≤ 10000) (hfb : P.free.length ≤ 10000) (hg : ∀ x ∈ P.l, 0 ≤ x.g ∧ x.g ≤ 1000000) {a : Nat} (hat : P.at_ = some a)
  (h1 : ∀ M', Holds w0 F M' (star (PsJ p (P.take z5 a v)) Q) → R (.tuple #[.agg #[.int .i64 (a : Int), .int .i64 (P.gen a)], .bool true]) M') :
  C PP w0 Id.pP_Take_jj #[.pointer (some ⟨p, 0, none⟩), .agg #[.int .i64 v.1, .int .i64 v.2.1, .int .i64 v.2.2.1, .int .i64 v.2.2.2.1, .int .i64 v.2.2.2.2]] R M := by
 apply pP_Take_jj.go
 intro pts H
 unfold pP_Take_jj.T nfz
 intro b1 hb1 hw1
 have g1 : Holds w0 F _ (star (row1 b1 (vc5 v) 138) (star (PsJ p P) Q)) := h.new hb1 hw1 (vc5 v) 138
 generalize hM1 : M.set b1 _ = M1
 have hM1' : M.set b1 (.row (vc5 v) 138) = M1 := hM1
 rw [hM1'] at g1
 obtain ⟨F1, hle1, hown, g2⟩ := Holds.freeze1 g1
 intro b3 hb3 hw3
 have g3 : Holds w0 F1 _ (star (row1 b3 _ 33) (star (PsJ p P) Q)) := g2.new hb3 hw3 [.int .i64 0, .int .i64 0] 33
 generalize M1.set b3 _ = M2 at g3 ⊢
 obtain ⟨sL, sF, hO⟩ := PsJ.open_ g3.rot
 have keyJ1 : ∀ (M' : Mem) (P' : PS V5) (sL sF : SV) (x : Plc V5), OpJ w0 F1 M' p P' sL sF (star (row1 b3 [.int .i64 0, .int .i64 0] 33) Q) → P'.l[a]? = some x → 0 ≤ x.g ∧ x.g ≤ 1000000 →
   (∀ M'', Holds w0 F1 M'' (star (PsJ p { P' with l := P'.l.set a ⟨x.g + 1, true, v⟩ }) Q) → R (.tuple #[.agg #[.int .i64 (a : Int), .int .i64 (x.g + 1)], .bool true]) M'') →
   pP_Take_jj.J1 pts (some ⟨p, 0, none⟩) ⟨b1, 0, none⟩ ⟨b3, 0, none⟩ (a : Int) M' := by
  intro M' P' sL sF x hX hx hxg hR
  refine Eq.mpr (H.J1 ..) ?_
  unfold pP_Take_jj.J1.T nfz
  obtain ⟨blk, ha, hn, hi, hrd⟩ := hX.el hx
  have eL := hX.r1
  have r0 : rd w0 M' ⟨blk, a * 7, none⟩ = some (.int .i64 x.g) := hrd 0 _ rfl
  simp only [nc_v, ld_one W.c3, ld_one W.c237, add_eq, Nat.zero_add, eL, ob_v, shS_sv, ha, Int.toNat_natCast, r0, zI_]
  refine ⟨⟨by omega, by omega⟩, ?_⟩
  rw [w64_in (by omega)]
  obtain ⟨F2, k1, _, k2⟩ := Holds.last hX
  have hnl : ∀ y, (P'.l.set a y).length = P'.l.length := fun y => List.length_set
  refine Holds.stR (f := 0) pc5_len (by decide) W.c3 k1 hx (x' := { x with g := x.g + 1 }) (by decide) rfl rfl rfl ha fun M3 h3 => ?_
  have hX3 : OpJ w0 F1 M3 p { P' with l := P'.l.set a { x with g := x.g + 1 } } sL sF (star (row1 b3 [.int .i64 0, .int .i64 0] 33) Q) := k2 _ _ h3
  rw [ldVJ (v := v) (o := 0) (hown.le (Holds.fr hX3)) (fun j u hj => by rw [Nat.zero_add]; exact hj)]
  simp only [ob_v, sA_, sC_, zI_, zN_]
  have hal : a < P'.l.length := (List.getElem?_eq_some_iff.1 hx).1
  have hx3 : (P'.l.set a { x with g := x.g + 1 })[a]? = some { x with g := x.g + 1 } := List.getElem?_set_self hal
  obtain ⟨F3, k3, _, k4⟩ := Holds.last hX3
  refine Holds.stR (f := 1) pc5_len (by decide) W.c4 k3 hx3 (x' := ⟨x.g + 1, true, x.v⟩) (by decide) rfl rfl rfl ha fun M4 h4 => ?_
  have hX4 : OpJ w0 F1 M4 p { P' with l := P'.l.set a ⟨x.g + 1, true, x.v⟩ } sL sF (star (row1 b3 [.int .i64 0, .int .i64 0] 33) Q) := by
   have := k4 _ _ h4
   rw [List.set_set] at this
   exact this
  refine ⟨ldVJ (v := v) (o := 0) (hown.le (Holds.fr hX4)) (fun j u hj => by rw [Nat.zero_add]; exact hj), ?_⟩
  have hx4 : (P'.l.set a ⟨x.g + 1, true, x.v⟩)[a]? = some ⟨x.g + 1, true, x.v⟩ := List.getElem?_set_self hal
  obtain ⟨F4, k5, _, k6⟩ := Holds.last hX4
  refine stPart pc5_len (vs := vc5 v) W.g138 k5 hx4 (x' := ⟨x.g + 1, true, v⟩) (A := [.int .i64 (x.g + 1), .bool true]) (B := vc5 x.v) rfl rfl rfl rfl (vc5_one v) ha (by rw [hnl]; exact hn) fun M5 h5 => ?_
  have hX5 : OpJ w0 F1 M5 p { P' with l := P'.l.set a ⟨x.g + 1, true, v⟩ } sL sF (star (row1 b3 [.int .i64 0, .int .i64 0] 33) Q) := by
   have := k6 _ _ h5
   rw [List.set_set] at this
   exact this
  have hx5 : (P'.l.set a ⟨x.g + 1, true, v⟩)[a]? = some ⟨x.g + 1, true, v⟩ := List.getElem?_set_self hal
  obtain ⟨blk5, ha5, hn5, hi5, hrd5⟩ := hX5.el hx5
  rw [ha] at ha5; cases ha5
  have r5 : rd w0 M5 ⟨blk, a * 7, none⟩ = some (.int .i64 (x.g + 1)) := hrd5 0 _ rfl
  have hbld : (std PP w0).bld 33 [(0, .int .i64 (a : Int)), (1, .int .i64 (x.g + 1))] = some (.agg #[.int .i64 (a : Int), .int .i64 (x.g + 1)]) := by kernel_rfl
  simp only [r5, ob_v, zI_, hbld, sA_, sC_, zN_]
  obtain ⟨F5, k7, _, k8⟩ := OpJ.focus hX5
  refine resRef k7 (K := fun v M => R (.tuple #[v, .bool true]) M) fun M6 hback => ?_
  exact hR M6 (OpJ.close (k8 _ _ (hback _ _ k7)))
 have eL := hO.r1
 have eF := hO.r2
 have e0 := hO.r0
 have nL := hO.nL
 have nF := hO.nF
 simp only [nc_v, ld_one W.c3, ld_one W.c53, ld_one W.c237, add_eq, Nat.zero_add, eL, eF, e0, ob_v, shS_sv, zI_]
 rw [bD_]
 split
 ·-- one that was given back
  rename_i hpos
  have hp2 : 0 < P.free.length := by
   apply Decidable.byContradiction
   intro hc
   have : sF.n = 0 := by omega
   rw [this] at hpos
   rw [show w64 (((0 : Nat) : Int) - 1) = -1 from by rw [w64_in (by omega)]; omega] at hpos
   omega
  obtain ⟨bs, x, hbs⟩ : ∃ bs x, P.free = bs ++ [x] := by
   rcases List.eq_nil_or_concat P.free with e | ⟨bs, x, e⟩
   ·rw [e] at hp2; simp at hp2
   ·exact ⟨bs, x, by rw [e, List.concat_eq_append]⟩
  have hlast : P.free.getLast? = some x := by rw [hbs]; simp
  have hax : a = x := by
   unfold PS.at_ at hat
   rw [hlast] at hat
   simpa using hat.symm
  subst hax
  have hfl : P.free.length = bs.length + 1 := by rw [hbs]; simp
  have hw : w64 (((sF.n : Nat) : Int) - 1) = ((bs.length : Nat) : Int) := by rw [w64_in (by omega)]; omega
  obtain ⟨F2, k1, _, k2⟩ := Holds.last hO
  obtain ⟨F3, k3, _, k4⟩ := k1.last
  have hc3 := slkCells k3
  obtain ⟨blk, rest, e, ha, q1, q2, q3⟩ := SlKA.row k3 (by omega)
  have hcap : sF.n ≤ sF.c := by rw [Nat.mul_one] at q1 q2; omega
  rw [hw]
  refine rdv hc3.1 (vlen (k := 1) k3) bs.length rfl (v := .int .i64 (a : Int)) (by unfold vN; rw [hbs, List.getElem?_map, List.getElem?_append_right (Nat.le_refl _)]; simp) ?_
  rw [zI_]
  refine ⟨⟨by omega, by omega, by omega⟩, ?_⟩
  have hsl : (Value.slice (if sF.c = (0 : Int).toNat then sF.a else sF.a.map (·.add ((0 : Int).toNat * 1))) (((bs.length : Nat) : Int).toNat - (0 : Int).toNat) (sF.c - (0 : Int).toNat)) = SV.v ⟨some ⟨blk, 0, none⟩, bs.length, sF.c⟩ := by
   rw [ha, Int.toNat_zero, Int.toNat_natCast, Nat.sub_zero, Nat.sub_zero, Nat.zero_mul]
   unfold SV.v
   simp only [Option.map_some, add_eq]
   split <;> rfl
  rw [hsl]
  refine st_one W.c53 (Holds.own1 hO) (by simp) rfl rfl ?_
  have h4 := Holds.upd1 hO (cs' := [.int .i64 P.most, SV.v sL, SV.v ⟨some ⟨blk, 0, none⟩, bs.length, sF.c⟩]) (e' := 239)
  have hvs : vN P.free ++ rest = vN bs ++ (.int .i64 (a : Int) :: rest) := by rw [hbs]; simp [vN]
  have hpl : ∀ (b' : Bool), True := fun _ => trivial
  obtain ⟨y, hy, hyt⟩ := hok.fr a (by rw [hbs]; simp)
  refine keyJ1 _ { P with free := bs } sL ⟨some ⟨blk, 0, none⟩, bs.length, sF.c⟩ y ?_ hy (hg y (List.mem_of_getElem? hy)) fun M5 h5 => ?_
  ·obtain ⟨F6, k6, _, k7⟩ := Holds.last h4
   obtain ⟨F8, k8, _, k9⟩ := k6.last
   refine k7 _ _ (k9 _ _ ?_)
   obtain ⟨blk', rest', e', ha', q1', q2', q3'⟩ := SlKA.row k8 (by omega)
   rw [ha] at ha'; cases ha'
   have hvs' : vN P.free ++ rest' = vN bs ++ (.int .i64 (a : Int) :: rest') := by rw [hbs]; simp [vN]
   rw [hvs'] at q3'
   have hvl : (vN bs).length = bs.length := by simp [vN]
   have hvl2 : (vN P.free).length = bs.length + 1 := by simp [vN, hfl]
   refine SlKA.ofRow q3' (by rw [hvl]; omega) ?_
   rw [hvl, List.length_cons]
   rw [hvl2] at q2'
   omega
  ·have hgen : P.gen a = y.g + 1 := by unfold PS.gen; rw [hy]
   have htk : P.take z5 a v = { P with free := bs, l := P.l.set a ⟨y.g + 1, true, v⟩ } := by
    unfold PS.take PS.grow
    rw [hlast, hgen]
    simp [hbs]
   rw [htk, hgen] at h1
   exact h1 M5 (h5.uF_ hle1)
 ·rename_i hpos
  have hp2 : P.free = [] := by
   apply List.eq_nil_of_length_eq_zero
   apply Decidable.byContradiction
   intro hc
   rw [show w64 (((sF.n : Nat) : Int) - 1) = ((sF.n : Nat) : Int) - 1 from w64_in (by omega)] at hpos
   omega
  have hlast : P.free.getLast? = none := by rw [hp2]; rfl
  have hat2 := hat
  unfold PS.at_ at hat2
  rw [hlast] at hat2
  simp only at hat2
  split at hat2
  ·cases hat2
  ·rename_i hm
   have hal : a = P.l.length := by simpa using hat2.symm
   rw [bD_, if_neg (by omega)]
   have hbld : (std PP w0).bld 241 [] = some (.agg #[.int .i64 0, .bool false, .int .i64 0, .int .i64 0, .int .i64 0, .int .i64 0, .int .i64 0]) := by kernel_rfl
   simp only [hbld, ob_v, sA_, sC_, zI_, shB_v, zN_]
   refine bsl_e (n := 1) (cells := #[.int .i64 0, .bool false, .int .i64 0, .int .i64 0, .int .i64 0, .int .i64 0, .int .i64 0]) Tryz.underlying237 W.e241 (by decide) (by kernel_rfl) fun bn hbn hwn => ?_
   rw [shS_v]
   have hNw : Holds w0 F1 _ (star (row1 bn (pc5 ⟨0, false, z5⟩) 241) _) := Holds.new hO hbn hwn (pc5 ⟨0, false, z5⟩) 241
   change Holds w0 F1 (M2.set bn (.row (#[.int .i64 0, .bool false, .int .i64 0, .int .i64 0, .int .i64 0, .int .i64 0, .int .i64 0] : Array Value).toList 241)) _ at hNw
   generalize M2.set bn _ = M3 at hNw ⊢
   obtain ⟨F2, hle2, hownN, hO3⟩ := Holds.freeze1 hNw
   obtain ⟨F3, k1, l3, k2⟩ := Holds.last hO3
   have hcap := Holds.capR pc5_len (by decide) k1
   refine appK (x := ⟨some ⟨bn, 0, none⟩, 1, 1⟩) (news := pc5 ⟨0, false, z5⟩) Tryz.underlying237 W.e241 k1 rfl (Cells.own (hownN.le hO3.fr) fun j u hj => by rw [Nat.zero_add]; exact hj) (fun e0 => by cases e0) (pc5_one _) (by decide) (by show sL.n + 1 ≤ _; omega) fun M4 s4 h4 => ?_
   rw [shS_sv]
   have h5 := k2 _ _ h4
   refine st_one W.c237 (Holds.own1 h5) (by simp) rfl rfl ?_
   have h6 := Holds.upd1 h5 (cs' := [.int .i64 P.most, SV.v s4, SV.v sF]) (e' := 239)
   rw [nL, ← hal]
   have hfm : P.l.flatMap pc5 ++ pc5 ⟨0, false, z5⟩ = (P.l ++ ([⟨0, false, z5⟩] : List (Plc V5))).flatMap pc5 := by simp
   refine keyJ1 _ { P with l := P.l ++ ([⟨0, false, z5⟩] : List (Plc V5)) } s4 sF ⟨0, false, z5⟩ ?_ (by rw [hal]; simp) ⟨by show (0 : Int) ≤ 0; omega, by show (0 : Int) ≤ 1000000; omega⟩ fun M7 h7 => ?_
   ·rw [hfm] at h6
    exact (Holds.uF_ h6 hle2)
   ·have hgen : P.gen a = 0 + 1 := by
     unfold PS.gen
     rw [hal, List.getElem?_eq_none (Nat.le_refl _)]
     rfl
    have htk : P.take z5 a v = { P with l := (P.l ++ ([⟨0, false, z5⟩] : List (Plc V5))).set a ⟨0 + 1, true, v⟩ } := by
     unfold PS.take PS.grow
     rw [hlast, hgen]
    rw [htk, hgen] at h1
    exact h1 M7 (h7.uF_ hle1)
theorem GiveJ_ok {a g : Int} {v : V5} (h : Holds w0 F M (star (PsJ p P) Q)) (hb : P.l.length ≤ 10000) (hfb : P.free.length ≤ 10000) (hw : P.find a g = some v)
  (h1 : ∀ M', Holds w0 F M' (star (PsJ p (P.give z5 a.toNat)) Q) → R (.tuple #[.agg #[.int .i64 v.1, .int .i64 v.2.1, .int .i64 v.2.2.1, .int .i64 v.2.2.2.1, .int .i64 v.2.2.2.2], .int .i64 0]) M') :
  C PP w0 Id.pP_Give_jj #[.pointer (some ⟨p, 0, none⟩), .agg #[.int .i64 a, .int .i64 g]] R M := by
 apply pP_Give_jj.go
 unfold pP_Give_jj.T nfz
 obtain ⟨sL, sF, hO⟩ := PsJ.open_ h
 intro b1 hb1 hw1
 have g1 : Holds w0 F _ (star (row1 b1 _ 33) _) := Holds.new hO hb1 hw1 [.int .i64 a, .int .i64 g] 33
 generalize M.set b1 _ = M1 at g1 ⊢
 obtain ⟨F1, hle1, o1, g2⟩ := Holds.freeze1 g1
 intro b3 hb3 hw3
 have g3 : Holds w0 F1 _ (star (row1 b3 _ 138) _) := Holds.new g2 hb3 hw3 [.int .i64 0, .int .i64 0, .int .i64 0, .int .i64 0, .int .i64 0] 138
 generalize M1.set b3 _ = M2 at g3 ⊢
 intro b5 hb5 hw5
 have g4 : Holds w0 F1 _ (star (row1 b5 _ 138) _) := Holds.new g3 hb5 hw5 (vc5 z5) 138
 generalize hM3 : M2.set b5 _ = M3
 have hM3' : M2.set b5 (.row (vc5 z5) 138) = M3 := hM3
 rw [hM3'] at g4
 obtain ⟨F2, hle2, o5, g5⟩ := Holds.freeze1 g4
 have oz : ∀ M', Mem.le F2 M' → (std PP w0).ld 138 ⟨b5, 0, none⟩ M' = some (.agg #[.int .i64 0, .int .i64 0, .int .i64 0, .int .i64 0, .int .i64 0]) := fun M' hM => ldVJ (v := z5) (o := 0) (o5.le hM) (fun j u hj => by rw [Nat.zero_add]; exact hj)
 rw [ldRfJ (o1.le (Mem.le_trans hle2 g5.fr))]
 simp only [ob_v, sA_, sC_, zI_, zN_]
 obtain ⟨F3, hO3, hle3, back3⟩ := g5.last
 refine findJ_ok hO3 (by omega) (fun i v' blk ea hx hf ha M4 l4 => ?_) fun hf M4 e l4 he hel => ?_
 ·rw [hw] at hf
  cases hf
  have g6 := g5.le l4
  simp only [sT_v, sC_, sP_v, zI_, zN_]
  rw [bs_bne, if_pos rfl, nc_v, add_eq]
  have hO4 : OpJ w0 F2 M4 p P sL sF (star (row1 b3 [.int .i64 0, .int .i64 0, .int .i64 0, .int .i64 0, .int .i64 0] 138) Q) := by
   obtain ⟨F4, q1, _, q2⟩ := Holds.last g6.rot
   exact q2 _ _ (by
    obtain ⟨F5, q3, _, q4⟩ := q1.rot.last
    exact q4 _ _ q3.rot)
  obtain ⟨blk', ha', hn', hi', hrd⟩ := hO4.el hx
  rw [ha] at ha'; cases ha'
  rw [ld_agg (cs := vc5 v) W.g138 (fun j u hj => by rw [add_eq, Nat.add_assoc]; exact hrd (2 + j) u (by rw [Nat.add_comm]; exact hj))]
  simp only [ob_v, sA_, sC_, zI_, zN_]
  intro b49 hb49 hw49
  have g7 : Holds w0 F2 _ (star (row1 b49 _ 138) _) := Holds.new hO4 hb49 hw49 [.int .i64 0, .int .i64 0, .int .i64 0, .int .i64 0, .int .i64 0] 138
  generalize M4.set b49 _ = M5 at g7 ⊢
  refine st_agg (vs := vc5 v) W.g138 g7.own1 (by exact Nat.le_refl _) (vc5_one v) ?_
  have g8 := g7.upd1 (cs' := over [.int .i64 0, .int .i64 0, .int .i64 0, .int .i64 0, .int .i64 0] 0 (vc5 v)) (e' := 138)
  have e0 : over [.int .i64 0, .int .i64 0, .int .i64 0, .int .i64 0, .int .i64 0] 0 (vc5 v) = vc5 v := by
   have := over_mid [] [.int .i64 0, .int .i64 0, .int .i64 0, .int .i64 0, .int .i64 0] [] (vc5 v) rfl (o := 0) rfl
   simpa using this
  rw [e0] at g8 ⊢
  generalize M5.set b49 _ = M6 at g8 ⊢
  obtain ⟨F4, hle4, o49, hO6⟩ := Holds.freeze1 g8
  rw [oz M6 (Mem.le_trans hle4 hO6.fr)]
  simp only [ob_v, sA_, sC_, zI_, zN_, nc_v, add_eq]
  have hil : i < P.l.length := (List.getElem?_eq_some_iff.1 hx).1
  have hnl : ∀ y, (P.l.set i y).length = P.l.length := fun y => List.length_set
  obtain ⟨F5, k1, _, k2⟩ := Holds.last hO6
  refine Holds.stR (f := 1) pc5_len (by decide) W.c4 k1 hx (x' := ⟨g, false, v⟩) (by decide) rfl rfl rfl ha fun M7 h7 => ?_
  have hO7 : OpJ w0 F4 M7 p { P with l := P.l.set i ⟨g, false, v⟩ } sL sF (star (row1 b3 [.int .i64 0, .int .i64 0, .int .i64 0, .int .i64 0, .int .i64 0] 138) Q) := k2 _ _ h7
  refine ⟨oz M7 (Mem.le_trans hle4 (Holds.fr hO7)), ?_⟩
  have hx7 : (P.l.set i ⟨g, false, v⟩)[i]? = some ⟨g, false, v⟩ := List.getElem?_set_self hil
  obtain ⟨F6, k3, _, k4⟩ := Holds.last hO7
  refine stPart pc5_len (vs := vc5 z5) W.g138 k3 hx7 (x' := ⟨g, false, z5⟩) (A := [.int .i64 g, .bool false]) (B := vc5 v) rfl rfl rfl rfl (vc5_one _) ha (by rw [hnl]; exact hn') fun M8 h8 => ?_
  have hO8 : OpJ w0 F4 M8 p { P with l := P.l.set i ⟨g, false, z5⟩ } sL sF (star (row1 b3 [.int .i64 0, .int .i64 0, .int .i64 0, .int .i64 0, .int .i64 0] 138) Q) := by
   have := k4 _ _ h8
   rw [List.set_set] at this
   exact this
  have e2 := hO8.r2
  have f1 : rd w0 M8 ⟨b1, 0, none⟩ = some (.int .i64 a) := rd_own (o := 0) (o1.le (Mem.le_trans (Mem.le_trans hle2 hle4) (Holds.fr hO8)))
  simp only [ld_one W.c3, ld_one W.c53, Nat.zero_add, e2, f1, ob_v, shS_sv, zI_]
  refine bsl_e (n := 1) (cells := #[.int .i64 a]) Tryz.underlying53 W.e3 (by decide) (by kernel_rfl) fun bn hbn hwn => ?_
  rw [shS_v]
  have hNw : Holds w0 F4 _ (star (row1 bn [.int .i64 a] 3) _) := Holds.new hO8 hbn hwn [.int .i64 a] 3
  change Holds w0 F4 (M8.set bn (.row (#[.int .i64 a] : Array Value).toList 3)) _ at hNw
  generalize M8.set bn _ = M9 at hNw ⊢
  obtain ⟨F7, hle7, hownN, hO9⟩ := Holds.freeze1 hNw
  have e9 : rd w0 M9 ⟨p, 2, none⟩ = some (SV.v sF) := rd_own (o := 2) (Holds.own1 hO9)
  refine ⟨e9, ?_⟩
  obtain ⟨F8, k5, l5, k6⟩ := Holds.last hO9
  obtain ⟨F9, k7, l7, k8⟩ := k5.last
  have hnF : sF.n = P.free.length := by have := vlen (k := 1) k7; rw [this]; simp [vN]
  refine appK (x := ⟨some ⟨bn, 0, none⟩, 1, 1⟩) (news := [.int .i64 a]) Tryz.underlying53 W.e3 k7 rfl (Cells.own (hownN.le hO9.fr) fun j u hj => by rw [Nat.zero_add]; exact hj) (fun e0 => by cases e0) (by intro u hu; rw [List.mem_singleton.1 hu]; rfl) (by decide) (by show sF.n + 1 ≤ _; omega) fun M10 s10 h10 => ?_
  rw [shS_sv]
  have h11 := k6 _ _ (k8 _ _ h10)
  refine st_one W.c53 (Holds.own1 h11) (by simp) rfl rfl ?_
  have h12 := Holds.upd1 h11 (cs' := [.int .i64 P.most, SV.v sL, SV.v s10]) (e' := 239)
  rw [show ([.int .i64 P.most, SV.v sL, SV.v sF] : List Value).set 2 (SV.v s10) = [.int .i64 P.most, SV.v sL, SV.v s10] from rfl]
  generalize Mem.set M10 p _ = M11 at h12 ⊢
  subst ea
  have hgv : P.give z5 i = { P with l := P.l.set i ⟨g, false, z5⟩, free := P.free ++ [i] } := by
   unfold PS.give
   rw [hx]
  have h13 : OpJ w0 F7 M11 p (P.give z5 i) sL s10 (star (row1 b3 [.int .i64 0, .int .i64 0, .int .i64 0, .int .i64 0, .int .i64 0] 138) Q) := by
   rw [hgv]
   have hv : vN P.free ++ [.int .i64 (i : Int)] = vN (P.free ++ [i]) := by simp [vN]
   rw [hv] at h12
   exact h12
  rw [ldVJ (v := v) (o := 0) (o49.le (Mem.le_trans hle7 (Holds.fr h13))) (fun j u hj => by rw [Nat.zero_add]; exact hj)]
  simp only [ob_v, sA_, sC_, zI_, zN_]
  have h14 := (OpJ.close h13).rot
  refine resJ h14 rfl (K := fun v M => R (.tuple #[v, .int .i64 0]) M) fun M12 h15 => ?_
  rw [Int.toNat_natCast] at h1
  exact h1 M12 ((((h15.uF_ hle7).uF_ hle4).uF_ hle2).uF_ hle1)
 ·rw [hw] at hf; cases hf
theorem NewJ_ok {n : Int} (h : Holds w0 F M Q) (h0 : 0 ≤ n) (hn : n ≤ 65536) (hR : ∀ M' p, Holds w0 F M' (star (PsJ p ⟨n, [], []⟩) Q) → R (.pointer (some ⟨p, 0, none⟩)) M') : C PP w0 Id.pool_Newjobs_Job #[.int .i64 n] R M := by
 apply pool_Newjobs_Job.go
 unfold pool_Newjobs_Job.T nfz
 have e1 : (if 65536 < n then (65536 : Int) else n) = n := if_neg (by omega)
 have e2 : (if n > 0 then n else 0) = n := by split <;> omega
 rw [e1, e2]
 have hbld : (std PP w0).bld 239 [(0, .int .i64 n)] = some (.agg #[.int .i64 n, .slice none 0 0, .slice none 0 0]) := by kernel_rfl
 simp only [hbld, ob_v, sA_, sC_, zI_, shS_v, zN_]
 intro b hb hw
 have h1 : Holds w0 F _ (star (row1 b _ 239) _) := h.new hb hw [.int .i64 n, SV.v ⟨none, 0, 0⟩, SV.v ⟨none, 0, 0⟩] 239
 refine hR _ b (OpJ.close (sL := ⟨none, 0, 0⟩) (sF := ⟨none, 0, 0⟩) ?_)
 obtain ⟨F1, k1, _, k2⟩ := h1.last
 exact k2 _ _ (Holds.nilSlk (Holds.nilSlk k1))
end
end Go.Proofs.YtodobkbnmjgkdaaGreat.HL
namespace Go.Proofs.YtodobkbnmjgkdaaGreat.HL
open Go.RowKit (Below)
open Go.Proofs
def eV (e : Ent) : List Value := [.int .i64 e.1, .int .i64 e.2]
def esV (l : List Ent) : List Value := l.flatMap eV
theorem esV_cons (e : Ent) (l : List Ent) : esV (e :: l) = .int .i64 e.1 :: .int .i64 e.2 :: esV l := rfl
theorem esV_append (l m : List Ent) : esV (l ++ m) = esV l ++ esV m := by simp [esV]
theorem esV_len (l : List Ent) : (esV l).length = l.length * 2 := by
 induction l with
 | nil => rfl
 | cons e l ih => rw [esV_cons, List.length_cons, List.length_cons, List.length_cons, ih]; omega
theorem esV_get {l : List Ent} : ∀ {i : Nat} {e : Ent}, l[i]? = some e → (esV l)[i * 2]? = some (.int .i64 e.1) ∧ (esV l)[i * 2 + 1]? = some (.int .i64 e.2) := by
 induction l with
 | nil => intro i e h; simp at h
 | cons x l ih =>
  intro i e h
  cases i with
  | zero =>
   simp at h; subst h
   exact ⟨rfl, rfl⟩
  | succ i =>
   rw [List.getElem?_cons_succ] at h
   obtain ⟨h1, h2⟩ := ih h
   rw [esV_cons]
   refine ⟨?_, ?_⟩
   ·rw [show (i + 1) * 2 = (i * 2 + 1) + 1 from by omega, List.getElem?_cons_succ, List.getElem?_cons_succ]; exact h1
   ·rw [show (i + 1) * 2 + 1 = (i * 2 + 1 + 1) + 1 from by omega, List.getElem?_cons_succ, List.getElem?_cons_succ]; exact h2
theorem esV_one (l : List Ent) : ∀ v ∈ esV l, onecell v = true := by
 intro v hv
 obtain ⟨e, _, h⟩ := List.mem_flatMap.1 hv
 simp [eV] at h
 rcases h with rfl | rfl <;> rfl
theorem esV_take (l : List Ent) : ∀ (i : Nat), esV (l.take i) = (esV l).take (i * 2) := by
 induction l with
 | nil => intro i; simp [esV]
 | cons x l ih =>
  intro i
  cases i with
  | zero => simp [esV]
  | succ i => rw [List.take_succ_cons, esV_cons, esV_cons, ih, show (i + 1) * 2 = i * 2 + 1 + 1 from by omega]; rfl
theorem esV_drop (l : List Ent) : ∀ (i : Nat), esV (l.drop i) = (esV l).drop (i * 2) := by
 induction l with
 | nil => intro i; simp [esV]
 | cons x l ih =>
  intro i
  cases i with
  | zero => simp
  | succ i => rw [List.drop_succ_cons, ih, esV_cons, show (i + 1) * 2 = i * 2 + 1 + 1 from by omega]; rfl
structure RdE (w0 : World) (M0 : Mem) (s : SV) (l : List Ent) : Prop where
 len : s.n = l.length
 cap : s.n ≤ s.c
 nul : s.a = none → s.n = 0
 cells : ∀ M, Mem.le M0 M → Cells w0 M s.a (esV l)
def SV.cut (s : SV) (lo hi : Nat) : SV := ⟨if s.c = lo then s.a else s.a.map (·.add (lo * 2)), hi - lo, s.c - lo⟩
def Es (s : SV) (l : List Ent) : Asn := SlKA 2 s (esV l)
section
variable {w0 : World} {M M0 F : Mem} {R : VP}
theorem RdE.le {M1 : Mem} {s : SV} {l : List Ent} (h : RdE w0 M0 s l) (hl : Mem.le M0 M1) : RdE w0 M1 s l := ⟨h.len, h.cap, h.nul, fun M hM => h.cells M (Mem.le_trans hl hM)⟩
theorem RdE.nil : RdE w0 M0 ⟨none, 0, 0⟩ [] := ⟨rfl, Nat.le_refl _, fun _ => rfl, fun M _ j v h => by simp [esV] at h⟩
theorem RdE.cut {s : SV} {l : List Ent} (h : RdE w0 M0 s l) {lo hi : Nat} (h1 : lo ≤ hi) (h2 : hi ≤ l.length) : RdE w0 M0 (s.cut lo hi) ((l.take hi).drop lo) := by
 have hl := h.len
 have hc := h.cap
 refine ⟨by simp [SV.cut]; omega, by simp only [SV.cut]; omega, fun e => ?_, fun M hM => ?_⟩
 ·simp only [SV.cut] at e ⊢
  split at e
  ·have := h.nul e; omega
  ·have := h.nul (by simpa using e); omega
 ·have hcs := h.cells M hM
  intro j v hj
  have hj2 : (esV l)[lo * 2 + j]? = some v := by
   rw [esV_drop, esV_take, List.getElem?_drop] at hj
   have hlt := (List.getElem?_eq_some_iff.1 hj).1
   rw [List.getElem?_take] at hj
   split at hj
   ·exact hj
   ·cases hj
  obtain ⟨ad, ea, hr⟩ := hcs _ v hj2
  have hlt := (List.getElem?_eq_some_iff.1 hj2).1
  rw [esV_len] at hlt
  refine ⟨ad.add (lo * 2), ?_, ?_⟩
  ·simp only [SV.cut]
   rw [if_neg (by omega), ea]; rfl
  ·rw [add_add]; exact hr
theorem RdE.ad {s : SV} {l : List Ent} (h : RdE w0 M0 s l) {j : Nat} {x : Ent} (hj : l[j]? = some x) : ∃ a, s.a = some a ∧ ∀ M, Mem.le M0 M → rd w0 M (a.add (j * 2)) = some (.int .i64 x.1) ∧ rd w0 M (a.add (j * 2 + 1)) = some (.int .i64 x.2) := by
 obtain ⟨g1, g2⟩ := esV_get hj
 obtain ⟨a, ea, _⟩ := h.cells M0 (Mem.le_refl _) _ _ g1
 refine ⟨a, ea, fun M hM => ?_⟩
 obtain ⟨a1, ea1, hr1⟩ := h.cells M hM _ _ g1
 obtain ⟨a2, ea2, hr2⟩ := h.cells M hM _ _ g2
 rw [ea] at ea1 ea2; cases ea1; cases ea2
 exact ⟨hr1, hr2⟩
theorem RdE.ld {s : SV} {l : List Ent} (h : RdE w0 M0 s l) {j : Nat} {x : Ent} (hj : l[j]? = some x) : ∃ a, s.a = some a ∧ ∀ M, Mem.le M0 M → (std PP w0).ld 44 (a.add (j * 2)) M = some (.agg #[.int .i64 x.1, .int .i64 x.2]) := by
 obtain ⟨a, ea, hr⟩ := h.ad hj
 refine ⟨a, ea, fun M hM => ?_⟩
 obtain ⟨r1, r2⟩ := hr M hM
 exact ld_agg (cs := [.int .i64 x.1, .int .i64 x.2]) W.g44 (fun f v hv => by
  match f, hv with
  | 0, hv => simp at hv; subst hv; rw [add_add]; exact r1
  | 1, hv => simp at hv; subst hv; rw [add_add]; exact r2)
theorem rdE {s : SV} {l : List Ent} (h : RdE w0 M0 s l) (hl : Mem.le M0 M) {i : Int} (j : Nat) (e : i = (j : Int)) {x : Ent} (hj : l[j]? = some x) {K : Int → Int → Prop} (hK : K x.1 x.2) :
  nc s.a fun a => (0 ≤ i ∧ i < ((s.n : Nat) : Int)) ∧ ob ((std PP w0).ld 44 (a.add (i.toNat * 2)) M) fun v => shA v fun l5 => shCons l5 fun u6 r7 => shI .i64 u6 fun n8 => shCons r7 fun u9 r10 => shI .i64 u9 fun n11 => shNil r10 (K n8 n11) := by
 subst e
 obtain ⟨a, ea, hr⟩ := h.ld hj
 have hlt := (List.getElem?_eq_some_iff.1 hj).1
 have := h.len
 rw [ea, nc_v, Int.toNat_natCast, hr M hl]
 simp only [ob_v, sA_, sC_, zI_, zN_]
 exact ⟨⟨by omega, by omega⟩, hK⟩
theorem rdE1 {t : TypeId} (ht : cell1 PP t = true) {s : SV} {l : List Ent} (h : RdE w0 M0 s l) (hl : Mem.le M0 M) {i : Int} (j : Nat) (e : i = (j : Int)) {x : Ent} (hj : l[j]? = some x) {K : Int → Prop} (hK : K x.2) :
  nc s.a fun a => (0 ≤ i ∧ i < ((s.n : Nat) : Int)) ∧ ob ((std PP w0).ld t (Addr.add (a.add (i.toNat * 2)) 1) M) fun v => shI .i64 v fun n => K n := by
 subst e
 obtain ⟨a, ea, hr⟩ := h.ad hj
 have hlt := (List.getElem?_eq_some_iff.1 hj).1
 have := h.len
 rw [ea, nc_v, Int.toNat_natCast, ld_one ht, add_add, (hr M hl).2, ob_v, zI_]
 exact ⟨⟨by omega, by omega⟩, hK⟩
theorem SlK.rdE {s : SV} {l : List Ent} (h : SlK w0 M0 M 2 s (esV l)) : RdE w0 M s l := by
 refine ⟨?_, h.cap (by decide), fun e => (h.none e).1, fun M2 hM => (h.le hM).cells⟩
 have := h.len
 rw [esV_len] at this; omega
theorem Holds.rdE {s : SV} {l : List Ent} {Q : Asn} (h : Holds w0 F M (star (Es s l) Q)) : RdE w0 M s l := by
 obtain ⟨F', h1, _⟩ := Holds.slk h
 exact h1.rdE
end
end Go.Proofs.YtodobkbnmjgkdaaGreat.HL
namespace Go.Proofs.YtodobkbnmjgkdaaGreat.HL
open Go.RowKit (Below)
open Go.Proofs
def refsG {κ : Type} : Nat → List (Plc κ) → List Ent
 | _, [] => []
 | i, x :: l => if x.t = true then ((i : Int), x.g) :: refsG (i + 1) l else refsG (i + 1) l
def PS.refs {κ : Type} (p : PS κ) : List Ent := refsG 0 p.l
theorem refsG_app {κ : Type} : ∀ (l m : List (Plc κ)) (i : Nat), refsG i (l ++ m) = refsG i l ++ refsG (i + l.length) m
 | [], m, i => rfl
 | x :: l, m, i => by
  simp only [List.cons_append, refsG, refsG_app l m (i + 1), List.length_cons]
  rw [show i + 1 + l.length = i + (l.length + 1) from by omega]
  split <;> rfl
theorem refsG_len {κ : Type} : ∀ (l : List (Plc κ)) (i : Nat), (refsG i l).length ≤ l.length
 | [], i => Nat.le_refl _
 | x :: l, i => by
  have := refsG_len l (i + 1)
  simp only [refsG, List.length_cons]
  split
  ·rw [List.length_cons]; omega
  ·omega
theorem refsG_mem {κ : Type} : ∀ {l : List (Plc κ)} {i : Nat} {r : Ent}, r ∈ refsG i l ↔ ∃ (j : Nat) (x : Plc κ), l[j]? = some x ∧ x.t = true ∧ r = (((i + j : Nat) : Int), x.g)
 | [], i, r => by simp [refsG]
 | x :: l, i, r => by
  have ih : r ∈ refsG (i + 1) l ↔ _ := refsG_mem (l := l) (i := i + 1) (r := r)
  have key : (∃ (j : Nat) (y : Plc κ), (x :: l)[j]? = some y ∧ y.t = true ∧ r = (((i + j : Nat) : Int), y.g)) ↔ (x.t = true ∧ r = ((i : Int), x.g)) ∨ ∃ (j : Nat) (y : Plc κ), l[j]? = some y ∧ y.t = true ∧ r = (((i + 1 + j : Nat) : Int), y.g) := by
   constructor
   ·rintro ⟨j, y, h1, h2, h3⟩
    cases j with
    | zero =>
     simp only [List.getElem?_cons_zero, Option.some.injEq] at h1
     subst h1
     exact .inl ⟨h2, by rw [h3]; simp⟩
    | succ j => exact .inr ⟨j, y, by simpa using h1, h2, by rw [h3]; congr 2; omega⟩
   ·rintro (⟨h1, h2⟩ | ⟨j, y, h1, h2, h3⟩)
    ·exact ⟨0, x, rfl, h1, by rw [h2]; simp⟩
    ·exact ⟨j + 1, y, by simpa using h1, h2, by rw [h3]; congr 2; omega⟩
  rw [key]
  simp only [refsG]
  split
  ·rename_i ht
   rw [List.mem_cons, ih]
   exact ⟨fun h => h.imp (fun h => ⟨ht, h⟩) id, fun h => h.imp (fun h => h.2) id⟩
  ·rename_i ht
   rw [ih]
   exact ⟨fun h => .inr h, fun h => h.resolve_left fun h => ht h.1⟩
section
variable {w0 : World} {F M M0 : Mem} {R : VP} {Q : Asn}
theorem appRf {s x : SV} {l m : List Ent} {Q : Asn} (h : Holds w0 F M (star (Es s l) Q)) (hx : RdE w0 M x m) (hb : l.length + m.length ≤ 137438953472) {K : VP} (hK : ∀ M' s', Holds w0 F M' (star (Es s' (l ++ m)) Q) → K s'.v M') :
  (std PP w0).app #[30, 30] 30 [SV.v s, SV.v x] K M := by
 obtain ⟨F', h1, h2, h3⟩ := Holds.slk h
 have hl := h1.rdE.len
 refine app_slk (k := 2) Tryz.underlying30 W.e33 h2 h1 (news := esV m) (by rw [esV_len, hx.len]) (hx.cells M (Mem.le_refl _)) hx.nul (esV_one m) (by decide) (by rw [hl, hx.len]; exact hb) fun M' s' l1 l2 _ => ?_
 refine hK M' s' (h3 M' s' _ ?_ l1)
 rw [esV_append]; exact l2
theorem newRf {P : Asn} (h : Holds w0 F M P) (x y : Int) {K : VP} (hK : ∀ M' s', Mem.le M M' → Holds w0 F M' (star (Es s' [(x, y)]) P) → K s'.v M') : (std PP w0).bsl 30 1 [(0, .agg #[.int .i64 x, .int .i64 y])] K M := by
 refine bsl_e (n := 1) (cells := #[.int .i64 x, .int .i64 y]) Tryz.underlying30 W.e33 (by decide) (by kernel_rfl) fun b hb hw => ?_
 have l1 : Mem.le M (M.set b (.row (#[Value.int .i64 x, .int .i64 y] : Array Value).toList 33)) := Mem.le_set _ hb
 exact hK _ ⟨some ⟨b, 0, none⟩, 1, 1⟩ l1 (Holds.newSlk h l1 (SlK.new (n := 1) hb (Own.new hw) rfl))
theorem RdE.ldRf {s : SV} {l : List Ent} (h : RdE w0 M0 s l) {j : Nat} {x : Ent} (hj : l[j]? = some x) : ∃ a, s.a = some a ∧ ∀ M, Mem.le M0 M → (std PP w0).ld 33 (a.add (j * 2)) M = some (.agg #[.int .i64 x.1, .int .i64 x.2]) := by
 obtain ⟨a, ea, hr⟩ := h.ad hj
 refine ⟨a, ea, fun M hM => ?_⟩
 obtain ⟨r1, r2⟩ := hr M hM
 exact ld_agg (cs := [.int .i64 x.1, .int .i64 x.2]) W.g33 (fun f v hv => by
  match f, hv with
  | 0, hv => simp at hv; subst hv; rw [add_add]; exact r1
  | 1, hv => simp at hv; subst hv; rw [add_add]; exact r2)
theorem rdRf {s : SV} {l : List Ent} (h : RdE w0 M0 s l) (hl : Mem.le M0 M) {i : Int} (j : Nat) (e : i = (j : Int)) {x : Ent} (hj : l[j]? = some x) {K : Int → Int → Prop} (hK : K x.1 x.2) :
  nc s.a fun a => (0 ≤ i ∧ i < ((s.n : Nat) : Int)) ∧ ob ((std PP w0).ld 33 (a.add (i.toNat * 2)) M) fun v => shA v fun l5 => shCons l5 fun u6 r7 => shI .i64 u6 fun n8 => shCons r7 fun u9 r10 => shI .i64 u9 fun n11 => shNil r10 (K n8 n11) := by
 subst e
 obtain ⟨a, ea, hr⟩ := h.ldRf hj
 have hlt := (List.getElem?_eq_some_iff.1 hj).1
 have := h.len
 rw [ea, nc_v, Int.toNat_natCast, hr M hl]
 simp only [ob_v, sA_, sC_, zI_, zN_]
 exact ⟨⟨by omega, by omega⟩, hK⟩
theorem bldRef (x y : Int) : (std PP w0).bld 33 [(0, .int .i64 x), (1, .int .i64 y)] = some (.agg #[.int .i64 x, .int .i64 y]) := by kernel_rfl
theorem AllT_ok {p : Nat} {P : PS V3} (h : Holds w0 F M (star (PsT p P) Q)) (hb : P.l.length ≤ 100000)
  (hR : ∀ M' s', Mem.le M M' → Holds w0 F M' (star (Es s' P.refs) (star (PsT p P) Q)) → R s'.v M') :
  C PP w0 Id.pP_All_st #[.pointer (some ⟨p, 0, none⟩)] R M := by
 apply pP_All_st.go
 intro pts H
 unfold pP_All_st.T nfz
 obtain ⟨sL, sF, hO⟩ := PsT.open_ h
 have hn := hO.nL
 simp only [nc_v, ld_one W.c209, add_eq, Nat.zero_add, hO.r1, ob_v, shS_sv]
 have key : ∀ (B A : List (Plc V3)) (s : SV) (M1 : Mem) (k : Nat), P.l = A ++ B → Mem.le M M1 → Holds w0 M M1 (Es s (refsG 0 A)) → B.length < k → pP_All_st.L1 pts k s sL ((sL.n : Nat) : Int) (A.length : Int) M1 := by
  intro B
  induction B with
  | nil =>
   intro A s M1 k he hl hH hk
   obtain ⟨k, rfl⟩ : ∃ j, k = j + 1 := ⟨k - 1, by omega⟩
   rw [List.append_nil] at he
   refine Eq.mpr (H.L1 ..) ?_
   unfold pP_All_st.L1.T nfz
   rw [bD_, if_neg (by rw [hn, he]; omega)]
   refine hR M1 s hl ?_
   rw [← he] at hH
   exact h.beside hH
  | cons x B ih =>
   intro A s M1 k he hl hH hk
   obtain ⟨k, rfl⟩ : ∃ j, k = j + 1 := ⟨k - 1, by omega⟩
   have ll := congrArg List.length he
   simp only [List.length_append, List.length_cons] at ll hk
   have hx : P.l[A.length]? = some x := by rw [he]; simp
   have hO1 : OpT w0 F M1 p P sL sF Q := Holds.le hO hl
   obtain ⟨blk, ha, hn', hi, hrd⟩ := hO1.el hx
   refine Eq.mpr (H.L1 ..) ?_
   unfold pP_All_st.L1.T nfz
   rw [bD_, if_pos (by omega), ha, nc_v, Int.toNat_natCast, add_eq, Nat.zero_add, ld_agg (cs := pc3 x) W.g259 (fun j u hj => by rw [add_eq]; exact hrd j u hj)]
   unfold pc3 vc3
   simp only [ob_v, sA_, sC_, zI_, shB_v, zN_]
   refine ⟨⟨by omega, by omega⟩, ?_⟩
   intro b23 hb23 hw23
   have hN : Holds w0 M _ (star (row1 b23 _ 259) _) := hH.new hb23 hw23 [.int .i64 0, .bool false, .int .i64 0, .int .i64 0, .int .i64 0] 259
   refine st_agg (vs := pc3 x) W.g259 hN.own1 (by exact Nat.le_refl _) (pc3_one x) ?_
   have hN2 := hN.upd1 (cs' := over [.int .i64 0, .bool false, .int .i64 0, .int .i64 0, .int .i64 0] 0 (pc3 x)) (e' := 259)
   have e0 : over [.int .i64 0, .bool false, .int .i64 0, .int .i64 0, .int .i64 0] 0 (pc3 x) = pc3 x := by
    have := over_mid [] [.int .i64 0, .bool false, .int .i64 0, .int .i64 0, .int .i64 0] [] (pc3 x) rfl (o := 0) rfl
    simpa using this
   rw [e0] at hN2 ⊢
   generalize Mem.set _ b23 _ = M2 at hN2 ⊢
   have o2 := hN2.own1
   have f0 : rd w0 M2 ⟨b23, 0, none⟩ = some (.int .i64 x.g) := rd_own (o := 0) o2
   have f1 : rd w0 M2 ⟨b23, 1, none⟩ = some (.bool x.t) := rd_own (o := 1) o2
   simp only [ld_one W.c4, ld_one W.c3, add_eq, Nat.zero_add, f0, f1, ob_v, shB_v, zI_, bldRef, sA_, sC_, zN_]
   have hlr := refsG_len A 0
   cases ht : x.t with
   | true =>
    rw [bs_true]
    refine newRf hN2.right _ _ fun M3 s3 l3 h3 => ?_
    rw [shS_sv]
    have h3' : Holds w0 M M3 (star (Es s (refsG 0 A)) (Es s3 [((A.length : Int), x.g)])) := h3.comm
    refine appRf h3' h3.rdE (by simp; omega) fun M4 s4 h4 => ?_
    rw [shS_sv, i64_succ (by omega)]
    have := ih (A ++ [x]) s4 M4 k (by rw [he]; simp) h4.fr ?_ (by omega)
    ·rw [List.length_append, List.length_singleton] at this; exact this
    ·have e9 : refsG 0 (A ++ [x]) = refsG 0 A ++ [((A.length : Int), x.g)] := by
      rw [refsG_app]; simp [refsG, ht]
     rw [e9]
     exact h4.left
   | false =>
    rw [bF_, i64_succ (by omega)]
    have := ih (A ++ [x]) s M2 k (by rw [he]; simp) hN2.fr ?_ (by omega)
    ·rw [List.length_append, List.length_singleton] at this; exact this
    ·have e9 : refsG 0 (A ++ [x]) = refsG 0 A := by
      rw [refsG_app]; simp [refsG, ht]
     rw [e9]
     exact hN2.right
 refine ⟨P.l.length + 1, key P.l [] ⟨none, 0, 0⟩ M _ rfl (Mem.le_refl _) ?_ (by omega)⟩
 exact ⟨[], .inl ⟨rfl, rfl, rfl⟩, Fit.nil (Mem.le_refl _)⟩
theorem AllJ_ok {p : Nat} {P : PS V5} (h : Holds w0 F M (star (PsJ p P) Q)) (hb : P.l.length ≤ 100000)
  (hR : ∀ M' s', Mem.le M M' → Holds w0 F M' (star (Es s' P.refs) (star (PsJ p P) Q)) → R s'.v M') :
  C PP w0 Id.pP_All_jj #[.pointer (some ⟨p, 0, none⟩)] R M := by
 apply pP_All_jj.go
 intro pts H
 unfold pP_All_jj.T nfz
 obtain ⟨sL, sF, hO⟩ := PsJ.open_ h
 have hn := hO.nL
 simp only [nc_v, ld_one W.c237, add_eq, Nat.zero_add, hO.r1, ob_v, shS_sv]
 have key : ∀ (B A : List (Plc V5)) (s : SV) (M1 : Mem) (k : Nat), P.l = A ++ B → Mem.le M M1 → Holds w0 M M1 (Es s (refsG 0 A)) → B.length < k → pP_All_jj.L1 pts k s sL ((sL.n : Nat) : Int) (A.length : Int) M1 := by
  intro B
  induction B with
  | nil =>
   intro A s M1 k he hl hH hk
   obtain ⟨k, rfl⟩ : ∃ j, k = j + 1 := ⟨k - 1, by omega⟩
   rw [List.append_nil] at he
   refine Eq.mpr (H.L1 ..) ?_
   unfold pP_All_jj.L1.T nfz
   rw [bD_, if_neg (by rw [hn, he]; omega)]
   refine hR M1 s hl ?_
   rw [← he] at hH
   exact h.beside hH
  | cons x B ih =>
   intro A s M1 k he hl hH hk
   obtain ⟨k, rfl⟩ : ∃ j, k = j + 1 := ⟨k - 1, by omega⟩
   have ll := congrArg List.length he
   simp only [List.length_append, List.length_cons] at ll hk
   have hx : P.l[A.length]? = some x := by rw [he]; simp
   have hO1 : OpJ w0 F M1 p P sL sF Q := Holds.le hO hl
   obtain ⟨blk, ha, hn', hi, hrd⟩ := hO1.el hx
   refine Eq.mpr (H.L1 ..) ?_
   unfold pP_All_jj.L1.T nfz
   rw [bD_, if_pos (by omega), ha, nc_v, Int.toNat_natCast, add_eq, Nat.zero_add, ld_agg (cs := pc5 x) W.g241 (fun j u hj => by rw [add_eq]; exact hrd j u hj)]
   unfold pc5 vc5
   simp only [ob_v, sA_, sC_, zI_, shB_v, zN_]
   refine ⟨⟨by omega, by omega⟩, ?_⟩
   intro b23 hb23 hw23
   have hN : Holds w0 M _ (star (row1 b23 _ 241) _) := hH.new hb23 hw23 [.int .i64 0, .bool false, .int .i64 0, .int .i64 0, .int .i64 0, .int .i64 0, .int .i64 0] 241
   refine st_agg (vs := pc5 x) W.g241 hN.own1 (by exact Nat.le_refl _) (pc5_one x) ?_
   have hN2 := hN.upd1 (cs' := over [.int .i64 0, .bool false, .int .i64 0, .int .i64 0, .int .i64 0, .int .i64 0, .int .i64 0] 0 (pc5 x)) (e' := 241)
   have e0 : over [.int .i64 0, .bool false, .int .i64 0, .int .i64 0, .int .i64 0, .int .i64 0, .int .i64 0] 0 (pc5 x) = pc5 x := by
    have := over_mid [] [.int .i64 0, .bool false, .int .i64 0, .int .i64 0, .int .i64 0, .int .i64 0, .int .i64 0] [] (pc5 x) rfl (o := 0) rfl
    simpa using this
   rw [e0] at hN2 ⊢
   generalize Mem.set _ b23 _ = M2 at hN2 ⊢
   have o2 := hN2.own1
   have f0 : rd w0 M2 ⟨b23, 0, none⟩ = some (.int .i64 x.g) := rd_own (o := 0) o2
   have f1 : rd w0 M2 ⟨b23, 1, none⟩ = some (.bool x.t) := rd_own (o := 1) o2
   simp only [ld_one W.c4, ld_one W.c3, add_eq, Nat.zero_add, f0, f1, ob_v, shB_v, zI_, bldRef, sA_, sC_, zN_]
   have hlr := refsG_len A 0
   cases ht : x.t with
   | true =>
    rw [bs_true]
    refine newRf hN2.right _ _ fun M3 s3 l3 h3 => ?_
    rw [shS_sv]
    have h3' : Holds w0 M M3 (star (Es s (refsG 0 A)) (Es s3 [((A.length : Int), x.g)])) := h3.comm
    refine appRf h3' h3.rdE (by simp; omega) fun M4 s4 h4 => ?_
    rw [shS_sv, i64_succ (by omega)]
    have := ih (A ++ [x]) s4 M4 k (by rw [he]; simp) h4.fr ?_ (by omega)
    ·rw [List.length_append, List.length_singleton] at this; exact this
    ·have e9 : refsG 0 (A ++ [x]) = refsG 0 A ++ [((A.length : Int), x.g)] := by
      rw [refsG_app]; simp [refsG, ht]
     rw [e9]
     exact h4.left
   | false =>
    rw [bF_, i64_succ (by omega)]
    have := ih (A ++ [x]) s M2 k (by rw [he]; simp) hN2.fr ?_ (by omega)
    ·rw [List.length_append, List.length_singleton] at this; exact this
    ·have e9 : refsG 0 (A ++ [x]) = refsG 0 A := by
      rw [refsG_app]; simp [refsG, ht]
     rw [e9]
     exact hN2.right
 refine ⟨P.l.length + 1, key P.l [] ⟨none, 0, 0⟩ M _ rfl (Mem.le_refl _) ?_ (by omega)⟩
 exact ⟨[], .inl ⟨rfl, rfl, rfl⟩, Fit.nil (Mem.le_refl _)⟩
end
end Go.Proofs.YtodobkbnmjgkdaaGreat.HL
namespace Go.Proofs.YtodobkbnmjgkdaaGreat.HL
open Go.RowKit (Below)
open Go.Proofs
section
variable {P : Program} {w0 : World} {M F : Mem} {κ ν : Type} [DecidableEq κ]
abbrev Mes (κ ν : Type) := List ((κ × ν) × Nat)
def entG (kf : κ → Value) (vf : ν → Value) (x : (κ × ν) × Nat) : MapEntry := ⟨kf x.1.1, vf x.1.2, x.2⟩
def fIx (vf : ν → Value) (k : κ) : Mes κ ν → Nat → Option (Nat × Value)
 | [], _ => none
 | x :: l, i => if k = x.1.1 then some (i, vf x.1.2) else fIx vf k l (i + 1)
def getM (k : κ) (l : Mes κ ν) : Option ν := (l.find? fun x => decide (k = x.1.1)).map (·.1.2)
theorem fIx_none {vf : ν → Value} {k : κ} : ∀ {l : Mes κ ν} {i : Nat}, fIx vf k l i = none → ∀ x ∈ l, k ≠ x.1.1
 | [], _, _, x, hx => by cases hx
 | y :: l, i, h, x, hx => by
  unfold fIx at h
  split at h
  ·cases h
  ·rename_i hn
   rcases List.mem_cons.1 hx with rfl | hx
   ·exact hn
   ·exact fIx_none h x hx
theorem fIx_some {vf : ν → Value} {k : κ} : ∀ {l : Mes κ ν} {i : Nat} {r : Nat × Value}, fIx vf k l i = some r → ∃ A x B, l = A ++ x :: B ∧ r = (i + A.length, vf x.1.2) ∧ k = x.1.1 ∧ ∀ y ∈ A, k ≠ y.1.1
 | [], _, _, h => by cases h
 | y :: l, i, r, h => by
  unfold fIx at h
  split at h
  ·rename_i hn
   cases h
   exact ⟨[], y, l, rfl, rfl, hn, fun y hy => by cases hy⟩
  ·rename_i hn
   obtain ⟨A, x, B, rfl, rfl, h3, h4⟩ := fIx_some h
   refine ⟨y :: A, x, B, rfl, by rw [List.length_cons]; congr 1; omega, h3, fun z hz => ?_⟩
   rcases List.mem_cons.1 hz with rfl | hz
   ·exact hn
   ·exact h4 z hz
theorem getM_none {k : κ} {l : Mes κ ν} (h : ∀ x ∈ l, k ≠ x.1.1) : getM k l = none := by
 unfold getM
 rw [List.find?_eq_none.2 fun x hx => by simpa using h x hx]; rfl
theorem getM_mid {k : κ} {A B : Mes κ ν} {x : (κ × ν) × Nat} (h : ∀ y ∈ A, k ≠ y.1.1) (hk : k = x.1.1) : getM k (A ++ x :: B) = some x.1.2 := by
 unfold getM
 rw [List.find?_append, List.find?_eq_none.2 fun y hy => by simpa using h y hy, List.find?_cons]
 simp [hk]
theorem getM_other {k : κ} {A B : Mes κ ν} {x : (κ × ν) × Nat} (hk : k ≠ x.1.1) : getM k (A ++ x :: B) = getM k (A ++ B) := by
 unfold getM
 rw [List.find?_append, List.find?_append, List.find?_cons]
 simp [hk]
structure KeyOk (P : Program) (t : TypeId) (kf : κ → Value) : Prop where
 find : ∀ {ν : Type} (w0 : World) (M : Mem) (vf : ν → Value) (l : Mes κ ν) (k : κ), peek P w0 M (Instr.findKey t (kf k) (l.map (entG kf vf))) = some (fIx vf k l 0)
 chk : ∀ b k, pure? P (Instr.checkKey b 10000 t (kf k)) = some ()
 bits : ∀ k, Instr.sameBits 10000 (kf k) (kf k) = true
theorem key_intO {t : TypeId} (ht : P.underlying t = some (.int .i64)) (hc : ∀ b (k : Int), pure? P (Instr.checkKey b 10000 t (.int .i64 k)) = some ()) : KeyOk P t (Value.int .i64) := by
 refine ⟨fun w0 M vf l k => ?_, hc, fun k => by simp [Instr.sameBits]⟩
 have key : ∀ (l : Mes Int _) (i : Nat), Instr.findNow (.int .i64) (.int .i64 k) (l.map (entG (Value.int .i64) vf)) i = some (fIx vf k l i) := by
  intro l
  induction l with
  | nil => intro i; rfl
  | cons x l ih =>
   intro i
   simp only [List.map_cons, entG, Instr.findNow, Instr.sameNow, if_true, fIx]
   by_cases he : k = x.1.1
   ·rw [if_pos he, beq_iff_eq.2 he]
   ·rw [if_neg he, beq_eq_false_iff_ne.2 he]
    exact ih (i + 1)
 unfold Instr.findKey
 rw [peek_peek (peek_under ht), key l 0]
 rfl
theorem key_structO {t : TypeId} {fs : Array Field} {kf : κ → Value} (ht : P.underlying t = some (.struct fs)) (hk : ∀ k, ∃ cs, kf k = .agg cs) (he : ∀ k k', pure? P (Op.equal t (kf k) (kf k')) = some (decide (k = k')))
  (hc : ∀ b k, pure? P (Instr.checkKey b 10000 t (kf k)) = some ()) (hb : ∀ k, Instr.sameBits 10000 (kf k) (kf k) = true) : KeyOk P t kf := by
 refine ⟨fun w0 M vf l k => ?_, hc, hb⟩
 have ask : ∀ (l : Mes κ _) (i : Nat), peek P w0 M (Instr.findAsking t (kf k) (l.map (entG kf vf)) i) = some (fIx vf k l i) := by
  intro l
  induction l with
  | nil => intro i; rfl
  | cons x l ih =>
   intro i
   simp only [List.map_cons, entG, Instr.findAsking, fIx]
   rw [peek_peek (pure_peek (he k x.1.1))]
   by_cases h : k = x.1.1
   ·rw [if_pos h, decide_eq_true h]; rfl
   ·rw [if_neg h, decide_eq_false h]; exact ih (i + 1)
 unfold Instr.findKey
 rw [peek_peek (peek_under ht)]
 cases l with
 | nil => rfl
 | cons x l =>
  obtain ⟨cs, hcs⟩ := hk k
  have hn : Instr.findNow (.struct fs) (kf k) ((x :: l).map (entG kf vf)) 0 = none := by
   rw [hcs]; rfl
  rw [hn]
  exact ask (x :: l) 0
def MapF (kf : κ → Value) (vf : ν → Value) (m : κ → Option ν) (o : Obj) : Prop :=
 ∃ (l : Mes κ ν) (ck : Nat), o = .map (l.map (entG kf vf)).toArray ck ∧ (l.map (·.1.1)).Nodup ∧ ∀ k, m k = getM k l
def updM (m : κ → Option ν) (k : κ) (v : Option ν) : κ → Option ν := fun x => if x = k then v else m x
theorem mkmF {t : TypeId} {kf : κ → Value} {vf : ν → Value} {K : VP} (h : ∀ r o, M r = none → w0.heap.size ≤ r → MapF kf vf (fun _ => none) o → K (.map (some r)) (M.set r (.obj o))) : (std P w0).mkm t none K M := by
 show act P w0 (Instr.makeMap t none) K M
 exact ⟨rfl, fun b hb hw => h b _ hb hw ⟨[], 0, rfl, List.nodup_nil, fun k => rfl⟩⟩
section
variable {tm key elem : TypeId} {kf : κ → Value} {vf : ν → Value} {m : κ → Option ν} {o : Obj} {r : Nat} {k : κ}
theorem lkF {z : Value} {i : TypeInfo} (ht : P.underlying tm = some (.map key elem)) (hk : KeyOk P key kf) (hi : P.info? elem = some i) (hz : i.zero = some z) (hr : w0.heap.size ≤ r) (hm : M r = some (.obj o)) (ho : MapF kf vf m o) :
  (std P w0).lk tm (.map (some r)) (kf k) false M = some (((m k).map vf).getD z) ∧ (std P w0).lk tm (.map (some r)) (kf k) true M = some (.tuple #[((m k).map vf).getD z, .bool (m k).isSome]) := by
 obtain ⟨l, ck, rfl, hn, hmk⟩ := ho
 have key : ∀ c : Bool, (std P w0).lk tm (.map (some r)) (kf k) c M = some (if c then .tuple #[((m k).map vf).getD z, .bool (m k).isSome] else ((m k).map vf).getD z) := by
  intro c
  show peek P w0 M (Instr.lookup tm (.map (some r)) (kf k) c) = _
  unfold Instr.lookup
  rw [peek_peek (peek_under ht)]
  simp only
  rw [peek_peek (peek_obj hr hm rfl), peek_peek (s := pure _) (a := (l.map (entG kf vf)).toArray) rfl, peek_peek (pure_peek (hk.chk _ k)), peek_peek (by simpa using hk.find w0 M vf l k)]
  rw [hmk k]
  cases hf : fIx vf k l 0 with
  | none =>
   rw [getM_none (fIx_none hf)]
   simp only
   rw [peek_peek (peek_zero hi hz), peek_peek (s := pure _) (a := (z, false)) rfl]; rfl
  | some p =>
   obtain ⟨A, x, B, rfl, rfl, h3, h4⟩ := fIx_some hf
   rw [getM_mid h4 h3]
   simp only
   rw [peek_peek (s := pure _) (a := (vf x.1.2, true)) rfl]; rfl
 exact ⟨key false, key true⟩
theorem mod_mid {A B : List MapEntry} {x : MapEntry} (f : MapEntry → MapEntry) : (A ++ x :: B).toArray.modify A.length f = (A ++ f x :: B).toArray := by
 rw [List.modify_toArray]
 congr 1
 induction A with
 | nil => rfl
 | cons y A ih => simp [List.modify_succ_cons, ih]
theorem erase_mid {A B : List MapEntry} {x : MapEntry} : (A ++ x :: B).toArray.eraseIdxIfInBounds A.length = (A ++ B).toArray := by
 unfold Array.eraseIdxIfInBounds
 rw [dif_pos (by simp)]
 simp [List.eraseIdx_append_of_length_le]
theorem mupF {v : ν} (ht : P.underlying tm = some (.map key elem)) (hk : KeyOk P key kf) (hr : w0.heap.size ≤ r) (hm : M r = some (.obj o)) (ho : MapF kf vf m o) {K : Mem → Prop}
  (hK : ∀ o', MapF kf vf (updM m k (some v)) o' → K (M.set r (.obj o'))) : (std P w0).mup tm (.map (some r)) (kf k) (vf v) K M := by
 obtain ⟨l, ck, rfl, hn, hmk⟩ := ho
 show act P w0 (Instr.mapUpdate tm (.map (some r)) (kf k) (vf v)) _ M
 unfold Instr.mapUpdate
 rw [peek_act (peek_under ht)]
 simp only
 rw [peek_act (peek_obj hr hm rfl)]
 simp only
 rw [peek_act (pure_peek (hk.chk _ k)), peek_act (by simpa using hk.find w0 M vf l k)]
 cases hf : fIx vf k l 0 with
 | none =>
  have hno := fIx_none hf
  simp only
  have h1 := hK (.map ((l ++ [((k, v), ck)]).map (entG kf vf)).toArray (ck + 1)) ⟨_, _, rfl, ?_, fun x => ?_⟩
  ·have e : ((l.map (entG kf vf)).toArray.push ⟨kf k, vf v, ck⟩) = ((l ++ [((k, v), ck)]).map (entG kf vf)).toArray := by
    rw [List.push_toArray, List.map_append]; rfl
   rw [e]
   show (match M r with
    | some (.obj o') => Obj.plain o' = true ∧ _
    | _ => False)
   rw [hm]
   exact ⟨rfl, h1⟩
  ·rw [List.map_append, List.nodup_append]
   refine ⟨hn, by simp, fun a ha b hb e => ?_⟩
   obtain ⟨y, hy, rfl⟩ := List.mem_map.1 ha
   simp only [List.map_cons, List.map_nil, List.mem_singleton] at hb
   rw [hb] at e
   exact hno y hy e.symm
  ·unfold updM
   by_cases hx : x = k
   ·subst hx
    rw [if_pos rfl, getM_mid hno rfl]
   ·rw [if_neg hx, getM_other (k := x) (by exact hx), List.append_nil]; exact hmk x
 | some p =>
  obtain ⟨A, x, B, rfl, rfl, h3, h4⟩ := fIx_some hf
  simp only [Nat.zero_add]
  have hget : (((((A ++ x :: B).map (entG kf vf)).toArray)[A.length]?).map (·.key)).getD (kf k) = kf k := by
   rw [List.getElem?_toArray, List.getElem?_map, List.getElem?_append_right (Nat.le_refl _), Nat.sub_self]
   show kf x.1.1 = kf k
   rw [h3]
  rw [hget]
  have hks : peek P w0 M (Instr.keyThatStays (kf k) (kf k)) = some (kf k) := by
   unfold Instr.keyThatStays
   rw [if_pos (hk.bits k)]; rfl
  rw [peek_act hks]
  have e : ((A ++ x :: B).map (entG kf vf)).toArray.modify A.length (fun e => { e with key := kf k, val := vf v }) = ((A ++ ((k, v), x.2) :: B).map (entG kf vf)).toArray := by
   rw [List.map_append, List.map_cons]
   have := mod_mid (A := A.map (entG kf vf)) (x := entG kf vf x) (B := B.map (entG kf vf)) (fun e => { e with key := kf k, val := vf v })
   rw [List.length_map] at this
   rw [this, List.map_append, List.map_cons]; rfl
  rw [e]
  have h1 := hK (.map ((A ++ ((k, v), x.2) :: B).map (entG kf vf)).toArray ck) ⟨_, _, rfl, ?_, fun y => ?_⟩
  ·show (match M r with
    | some (.obj o') => Obj.plain o' = true ∧ _
    | _ => False)
   rw [hm]
   exact ⟨rfl, h1⟩
  ·rw [List.map_append, List.map_cons] at hn ⊢
   rw [h3]; exact hn
  ·unfold updM
   by_cases hy : y = k
   ·subst hy
    rw [if_pos rfl, getM_mid h4 rfl]
   ·rw [if_neg hy, getM_other (k := y) (by exact hy), hmk y, getM_other (k := y) (by rw [← h3]; exact hy)]
theorem delF {tys : Array TypeId} {ty : TypeId} (htys : tys[0]? = some tm) (ht : P.underlying tm = some (.map key elem)) (hk : KeyOk P key kf) (hr : w0.heap.size ≤ r) (hm : M r = some (.obj o)) (ho : MapF kf vf m o) {K : VP}
  (hK : ∀ o', MapF kf vf (updM m k none) o' → K (.tuple #[]) (M.set r (.obj o'))) : (std P w0).del tys ty [.map (some r), kf k] K M := by
 obtain ⟨l, ck, rfl, hn, hmk⟩ := ho
 show act P w0 (Builtin.delete_ tys ty #[.map (some r), kf k]) _ M
 unfold Builtin.delete_
 simp only [htys, List.getElem?_toArray, List.getElem?_cons_zero, List.getElem?_cons_succ]
 rw [peek_act (peek_under ht)]
 simp only [bind_assoc]
 rw [peek_act (peek_obj hr hm rfl)]
 simp only [bind_assoc]
 rw [peek_act (pure_peek (hk.chk _ k)), peek_act (by simpa using hk.find w0 M vf l k)]
 cases hf : fIx vf k l 0 with
 | none =>
  have hno := fIx_none hf
  simp only
  have h1 := hK (.map (l.map (entG kf vf)).toArray ck) ⟨l, ck, rfl, hn, fun x => ?_⟩
  ·show (match M r with
    | some (.obj o') => Obj.plain o' = true ∧ _
    | _ => False)
   rw [hm]
   exact ⟨rfl, h1⟩
  ·unfold updM
   split
   ·rename_i hx; subst hx; rw [getM_none hno]
   ·exact hmk x
 | some p =>
  obtain ⟨A, x, B, rfl, rfl, h3, h4⟩ := fIx_some hf
  simp only [Nat.zero_add]
  have e : ((A ++ x :: B).map (entG kf vf)).toArray.eraseIdxIfInBounds A.length = ((A ++ B).map (entG kf vf)).toArray := by
   rw [List.map_append, List.map_cons]
   have := erase_mid (A := A.map (entG kf vf)) (x := entG kf vf x) (B := B.map (entG kf vf))
   rw [List.length_map] at this
   rw [this, List.map_append]
  rw [e]
  rw [List.map_append, List.map_cons] at hn
  obtain ⟨n1, n2, n3⟩ := List.nodup_append.1 hn
  obtain ⟨n4, n5⟩ := List.nodup_cons.1 n2
  have h1 := hK (.map ((A ++ B).map (entG kf vf)).toArray ck) ⟨_, _, rfl, ?_, fun y => ?_⟩
  ·show (match M r with
    | some (.obj o') => Obj.plain o' = true ∧ _
    | _ => False)
   rw [hm]
   exact ⟨rfl, h1⟩
  ·rw [List.map_append, List.nodup_append]
   exact ⟨n1, n5, fun a ha b hb => n3 a ha b (List.mem_cons_of_mem _ hb)⟩
  ·unfold updM
   by_cases hy : y = k
   ·subst hy
    rw [if_pos rfl, getM_none]
    intro z hz e0
    rcases List.mem_append.1 hz with hz | hz
    ·exact h4 z hz e0
    ·exact n4 (List.mem_map.2 ⟨z, hz, by rw [← e0, h3]⟩)
   ·rw [if_neg hy, hmk y, getM_other (k := y) (by rw [← h3]; exact hy)]
end
abbrev Obs := List (Nat × Obj)
structure HO (w0 : World) (F M : Mem) (os : Obs) (A : Asn) : Prop where
 nd : (os.map (·.1)).Nodup
 at_ : ∀ x ∈ os, w0.heap.size ≤ x.1 ∧ F x.1 = none ∧ M x.1 = some (.obj x.2)
 h : Holds w0 F M A
theorem HO.aside : ∀ {os : Obs} {F M : Mem} {A : Asn}, HO w0 F M os A → ∃ F', Holds w0 F' M A ∧ Mem.le F F' ∧ ∀ M' A', Holds w0 F' M' A' → HO w0 F M' os A'
 | [], F, M, A, h => ⟨F, h.h, Mem.le_refl _, fun M' A' h' => ⟨List.nodup_nil, fun x hx => (by cases hx), h'⟩⟩
 | x :: os, F, M, A, h => by
  have hx := h.at_ x List.mem_cons_self
  obtain ⟨n1, n2⟩ := List.nodup_cons.1 h.nd
  obtain ⟨h1, h2⟩ := h.h.obj_in hx.2.2 hx.2.1
  have h3 : HO w0 (F.set x.1 (.obj x.2)) M os A := by
   refine ⟨n2, fun y hy => ?_, h1⟩
   obtain ⟨g1, g2, g3⟩ := h.at_ y (List.mem_cons_of_mem _ hy)
   refine ⟨g1, ?_, g3⟩
   rw [Mem.set_ne _ _ (show y.1 ≠ x.1 from fun e => n1 (List.mem_map.2 ⟨y, hy, e⟩))]
   exact g2
  obtain ⟨F', k1, k2, k3⟩ := HO.aside h3
  refine ⟨F', k1, Mem.le_trans h2 k2, fun M' A' h' => ?_⟩
  have k4 := k3 M' A' h'
  have k5 : M' x.1 = some (.obj x.2) := k4.h.fr _ _ (Mem.set_same _ _ _)
  have hle : Mem.le F M' := Mem.le_trans h2 k4.h.fr
  refine ⟨h.nd, fun y hy => ?_, ?_⟩
  ·rcases List.mem_cons.1 hy with rfl | hy
   ·exact ⟨hx.1, hx.2.1, k5⟩
   ·exact ⟨(k4.at_ y hy).1, (h.at_ y (List.mem_cons_of_mem _ hy)).2.1, (k4.at_ y hy).2.2⟩
  ·obtain ⟨q, q1, q2⟩ := k4.h
   refine ⟨q, q1, q2.nd, fun z hz => ?_, hle⟩
   obtain ⟨g1, g2, g3⟩ := q2.at_ z hz
   refine ⟨g1, ?_, g3⟩
   cases hF : F z.1 with
   | none => rfl
   | some o' => have h9 := h2 _ _ hF; rw [h9] at g2; cases g2
theorem HO.perm {os os' : Obs} {A : Asn} (h : HO w0 F M os A) (hp : os.Perm os') : HO w0 F M os' A :=
 ⟨(hp.map _).nodup_iff.1 h.nd, fun x hx => h.at_ x (hp.mem_iff.2 hx), h.h⟩
theorem HO.set {r : Nat} {o o' : Obj} {os : Obs} {A : Asn} (h : HO w0 F M ((r, o) :: os) A) : HO w0 F (M.set r (.obj o')) ((r, o') :: os) A := by
 obtain ⟨g1, g2, g3⟩ := h.at_ (r, o) List.mem_cons_self
 obtain ⟨n1, n2⟩ := List.nodup_cons.1 h.nd
 refine ⟨h.nd, fun x hx => ?_, h.h.obj_set g3 g2⟩
 rcases List.mem_cons.1 hx with rfl | hx
 ·exact ⟨g1, g2, Mem.set_same _ _ _⟩
 ·obtain ⟨k1, k2, k3⟩ := h.at_ x (List.mem_cons_of_mem _ hx)
  refine ⟨k1, k2, ?_⟩
  rw [Mem.set_ne _ _ (show x.1 ≠ r from fun e => n1 (List.mem_map.2 ⟨x, hx, e⟩))]
  exact k3
theorem HO.new {r : Nat} {o : Obj} {os : Obs} {A : Asn} (h : HO w0 F M os A) (hw : w0.heap.size ≤ r) (hm : M r = none) : HO w0 F (M.set r (.obj o)) ((r, o) :: os) A := by
 refine ⟨List.nodup_cons.2 ⟨fun hm' => ?_, h.nd⟩, fun x hx => ?_, h.h.obj_new hm⟩
 ·obtain ⟨y, hy, e⟩ := List.mem_map.1 hm'
  have := (h.at_ y hy).2.2
  rw [show y.1 = r from e, hm] at this; cases this
 ·rcases List.mem_cons.1 hx with rfl | hx
  ·exact ⟨hw, le_none h.h.fr hm, Mem.set_same _ _ _⟩
  ·obtain ⟨k1, k2, k3⟩ := h.at_ x hx
   refine ⟨k1, k2, ?_⟩
   rw [Mem.set_ne _ _ (fun e => by rw [e, hm] at k3; cases k3)]
   exact k3
theorem HO.of {A : Asn} (h : Holds w0 F M A) : HO w0 F M [] A := ⟨List.nodup_nil, fun x hx => (by cases hx), h⟩
abbrev RefK := Int × Int
def refK (r : RefK) : Value := .agg #[.int .i64 r.1, .int .i64 r.2]
end
theorem refK_eq (k k' : RefK) : pure? PP (Op.equal 33 (refK k) (refK k')) = some (decide (k = k')) := by
 have := equal_struct (P := PP) (d := 9999) (es := [k.1 == k'.1, k.2 == k'.2]) (xs := #[.int .i64 k.1, .int .i64 k.2]) (ys := #[.int .i64 k'.1, .int .i64 k'.2]) Tryz.underlying33 (by kernel_rfl)
  ⟨by decide, ⟨.int .i64 k.1, .int .i64 k'.1, by kernel_rfl, by kernel_rfl, equal_int Tryz.underlying3 k.1 k'.1⟩, by decide, ⟨.int .i64 k.2, .int .i64 k'.2, by kernel_rfl, by kernel_rfl, equal_int Tryz.underlying3 k.2 k'.2⟩, trivial⟩
 have e : ([k.1 == k'.1, k.2 == k'.2] : List Bool).all id = decide (k = k') := by
  rw [Bool.eq_iff_iff]
  simp only [List.all_cons, List.all_nil, id, Bool.and_true, Bool.and_eq_true, beq_iff_eq, decide_eq_true_eq]
  exact ⟨fun h => Prod.ext h.1 h.2, fun h => by rw [h]; exact ⟨rfl, rfl⟩⟩
 rw [← e]; exact this
theorem refK_ok : KeyOk PP 33 refK := by
 refine key_structO Tryz.underlying33 (fun k => ⟨_, rfl⟩) refK_eq (fun b k => ?_) fun k => ?_
 ·obtain ⟨a, g⟩ := k
  show pure? PP (Instr.checkKey b 10000 33 (.agg #[.int .i64 a, .int .i64 g])) = _
  kernel_rfl
 ·show Instr.sameBits (9998 + 1 + 1) (.agg #[.int .i64 k.1, .int .i64 k.2]) (.agg #[.int .i64 k.1, .int .i64 k.2]) = true
  simp [Instr.sameBits]
theorem intK_chk (b : Bool) (k : Int) : pure? PP (Instr.checkKey b 10000 3 (.int .i64 k)) = some () := by kernel_rfl
theorem intK_ok : KeyOk PP 3 (Value.int .i64) := key_intO Tryz.underlying3 intK_chk
end Go.Proofs.YtodobkbnmjgkdaaGreat.HL
namespace Go.Proofs.YtodobkbnmjgkdaaGreat.HL
open Go.RowKit (Below)
open Go.Proofs
section
variable {w0 : World} {F M M' : Mem} {os : Obs} {A B D E G : Asn}
theorem HO.le (h : HO w0 F M os A) (hl : Mem.le M M') : HO w0 F M' os A :=
 ⟨h.nd, fun x hx => ⟨(h.at_ x hx).1, (h.at_ x hx).2.1, hl _ _ (h.at_ x hx).2.2⟩, h.h.le hl⟩
theorem HO.fr (h : HO w0 F M os A) : Mem.le F M := h.h.fr
theorem HO.uF_ {F' : Mem} (h : HO w0 F' M os A) (hl : Mem.le F F') : HO w0 F M os A := by
 refine ⟨h.nd, fun x hx => ⟨(h.at_ x hx).1, ?_, (h.at_ x hx).2.2⟩, h.h.uF_ hl⟩
 cases hf : F x.1 with
 | none => rfl
 | some o => have := hl _ _ hf; rw [(h.at_ x hx).2.1] at this; cases this
theorem HO.mapH (h : HO w0 F M os A) (hi : Holds w0 F M A → Holds w0 F M B) : HO w0 F M os B := ⟨h.nd, h.at_, hi h.h⟩
theorem HO.get (h : HO w0 F M os A) {r : Nat} {o : Obj} (hm : (r, o) ∈ os) : w0.heap.size ≤ r ∧ M r = some (.obj o) := ⟨(h.at_ _ hm).1, (h.at_ _ hm).2.2⟩
theorem HO.newRow (h : HO w0 F M os A) {b : Nat} (hb : M b = none) (hw : w0.heap.size ≤ b) (cs : List Value) (e : TypeId) : HO w0 F (M.set b (.row cs e)) os (star (row1 b cs e) A) := by
 refine ⟨h.nd, fun x hx => ?_, h.h.new hb hw cs e⟩
 obtain ⟨g1, g2, g3⟩ := h.at_ x hx
 refine ⟨g1, g2, ?_⟩
 rw [Mem.set_ne _ _ (fun e => by rw [e, hb] at g3; cases g3)]
 exact g3
theorem HO.updRow {b : Nat} {cs cs' : List Value} {e e' : TypeId} (h : HO w0 F M os (star (row1 b cs e) A)) : HO w0 F (M.set b (.row cs' e')) os (star (row1 b cs' e') A) := by
 have ho := h.h.own1
 refine ⟨h.nd, fun x hx => ?_, h.h.upd1⟩
 obtain ⟨g1, g2, g3⟩ := h.at_ x hx
 refine ⟨g1, g2, ?_⟩
 rw [Mem.set_ne _ _ (fun e => by rw [e, ho.2] at g3; cases g3)]
 exact g3
theorem HO.freeze1 {b : Nat} {cs : List Value} {e : TypeId} (h : HO w0 F M os (star (row1 b cs e) A)) : ∃ F', Mem.le F F' ∧ Own w0 F' b cs e ∧ HO w0 F' M os A := by
 have ho := h.h.own1
 have hF : F b = none := by
  obtain ⟨r, ⟨r1, r2, rfl, h1, h2⟩, h3⟩ := h.h
  rw [h1] at h3
  exact (h3.at_ (b, cs, e) List.mem_cons_self).2.1
 have hne : ∀ x ∈ os, x.1 ≠ b := fun x hx e => by
  have := (h.at_ x hx).2.2
  rw [e, ho.2] at this; cases this
 refine ⟨F.set b (.row cs e), Mem.le_set _ hF, ⟨ho.1, Mem.set_same _ _ _⟩, h.nd, fun x hx => ?_, ?_⟩
 ·obtain ⟨g1, g2, g3⟩ := h.at_ x hx
  exact ⟨g1, by rw [Mem.set_ne _ _ (hne x hx)]; exact g2, g3⟩
 ·obtain ⟨r, ⟨r1, r2, rfl, h1, h2⟩, h3⟩ := h.h
  rw [h1] at h3
  have hnd := h3.nd
  simp only [List.cons_append, List.nil_append, List.map_cons, List.nodup_cons] at hnd
  refine ⟨r2, h2, hnd.2, fun x hx => ?_, fun y o hy => ?_⟩
  ·obtain ⟨g1, g2, g3⟩ := h3.at_ x (List.mem_cons_of_mem _ hx)
   refine ⟨g1, ?_, g3⟩
   rw [Mem.set_ne _ _ (show x.1 ≠ b from fun e => hnd.1 (List.mem_map.2 ⟨x, hx, e⟩))]
   exact g2
  ·by_cases e1 : y = b
   ·subst e1
    rw [Mem.set_same] at hy
    cases hy
    exact ho.2
   ·rw [Mem.set_ne _ _ e1] at hy
    exact h3.fr y o hy
theorem HO.foc0 (h : HO w0 F M os A) : ∃ F', Holds w0 F' M A ∧ Mem.le F F' ∧ ∀ M' A', Holds w0 F' M' A' → HO w0 F M' os A' := h.aside
theorem HO.foc1 (h : HO w0 F M os (star A B)) : ∃ F', Holds w0 F' M B ∧ Mem.le F F' ∧ ∀ M' B', Holds w0 F' M' B' → HO w0 F M' os (star A B') := by
 obtain ⟨F1, h1, l1, k1⟩ := h.aside
 obtain ⟨F2, h2, l2, k2⟩ := h1.last
 exact ⟨F2, h2, Mem.le_trans l1 l2, fun M' B' h' => k1 _ _ (k2 _ _ h')⟩
theorem HO.foc2 (h : HO w0 F M os (star A (star B D))) : ∃ F', Holds w0 F' M D ∧ Mem.le F F' ∧ ∀ M' D', Holds w0 F' M' D' → HO w0 F M' os (star A (star B D')) := by
 obtain ⟨F1, h1, l1, k1⟩ := h.foc1
 obtain ⟨F2, h2, l2, k2⟩ := h1.last
 exact ⟨F2, h2, Mem.le_trans l1 l2, fun M' B' h' => k1 _ _ (k2 _ _ h')⟩
theorem HO.foc3 (h : HO w0 F M os (star A (star B (star D E)))) : ∃ F', Holds w0 F' M E ∧ Mem.le F F' ∧ ∀ M' E', Holds w0 F' M' E' → HO w0 F M' os (star A (star B (star D E'))) := by
 obtain ⟨F1, h1, l1, k1⟩ := h.foc2
 obtain ⟨F2, h2, l2, k2⟩ := h1.last
 exact ⟨F2, h2, Mem.le_trans l1 l2, fun M' B' h' => k1 _ _ (k2 _ _ h')⟩
theorem nwB (h : HO w0 F M os A) {zs : List Value} {T : TypeId} {K : Nat → Mem → Prop} (hK : ∀ b M', Mem.le M M' → HO w0 F M' os (star (row1 b zs T) A) → K b M') : (std PP w0).nw zs T K M := fun b hb hw =>
 hK b _ (Mem.le_set _ hb) (h.newRow hb hw zs T)
theorem nwA (h : HO w0 F M os A) {zs : List Value} {T : TypeId} {K : Nat → Mem → Prop} (hK : ∀ b F' M', Mem.le F F' → Mem.le M M' → Own w0 F' b zs T → HO w0 F' M' os A → K b M') : (std PP w0).nw zs T K M := fun b hb hw => by
 obtain ⟨F', l1, o1, h1⟩ := (h.newRow hb hw zs T).freeze1
 exact hK b F' _ l1 (Mem.le_set _ hb) o1 h1
theorem stF {b : Nat} {zs vs : List Value} {T : TypeId} (hg : aggOf PP T vs.length = true) (hz : zs.length = vs.length) (hone : ∀ v ∈ vs, onecell v = true) (h : HO w0 F M os (star (row1 b zs T) A)) {K : Mem → Prop} (hK : ∀ F' M', Mem.le F F' → Own w0 F' b vs T → HO w0 F' M' os A → K M') :
  (std PP w0).st T ⟨b, 0, none⟩ (.agg vs.toArray) (fun M2 => K M2) M := by
 refine st_agg hg h.h.own1 (by omega) hone ?_
 have h2 := h.updRow (cs' := over zs 0 vs) (e' := T)
 have e0 : over zs 0 vs = vs := by
  have := over_mid [] zs [] vs hz.symm (o := 0) rfl
  simpa using this
 rw [e0] at h2 ⊢
 obtain ⟨F', l1, o1, h3⟩ := h2.freeze1
 exact hK F' _ l1 o1 h3
theorem stW {b : Nat} {zs vs : List Value} {T : TypeId} (hg : aggOf PP T vs.length = true) (hz : zs.length = vs.length) (hone : ∀ v ∈ vs, onecell v = true) (h : HO w0 F M os (star (row1 b zs T) A)) {K : Mem → Prop} (hK : ∀ M', HO w0 F M' os (star (row1 b vs T) A) → K M') :
  (std PP w0).st T ⟨b, 0, none⟩ (.agg vs.toArray) (fun M2 => K M2) M := by
 refine st_agg hg h.h.own1 (by omega) hone ?_
 have h2 := h.updRow (cs' := over zs 0 vs) (e' := T)
 have e0 : over zs 0 vs = vs := by
  have := over_mid [] zs [] vs hz.symm (o := 0) rfl
  simpa using this
 rw [e0] at h2 ⊢
 exact hK _ h2
theorem st1W {b o : Nat} {zs : List Value} {T t : TypeId} {v : Value} (ht : cell1 PP t = true) (ho : o < zs.length) (hv : onecell v = true) (hc : v.cells = #[v]) (h : HO w0 F M os (star (row1 b zs T) A)) {K : Mem → Prop} (hK : ∀ M', HO w0 F M' os (star (row1 b (zs.set o v) T) A) → K M') :
  (std PP w0).st t ⟨b, o, none⟩ v (fun M2 => K M2) M :=
 st_one ht h.h.own1 ho hv hc (hK _ h.updRow)
theorem boxF {zs vs : List Value} {T : TypeId} (hg : aggOf PP T vs.length = true) (hz : zs.length = vs.length) (hone : ∀ v ∈ vs, onecell v = true) (h : HO w0 F M os A) {K : Nat → Mem → Prop} (hK : ∀ b F' M', Mem.le F F' → Own w0 F' b vs T → HO w0 F' M' os A → K b M') :
  (std PP w0).nw zs T (fun b M1 => (std PP w0).st T ⟨b, 0, none⟩ (.agg vs.toArray) (fun M2 => K b M2) M1) M :=
 nwB h fun b M1 _ h1 => stF hg hz hone h1 fun F' M2 l2 o2 h2 => hK b F' M2 l2 o2 h2
theorem resB {b : Nat} {zs vs : List Value} {T : TypeId} (hg : aggOf PP T vs.length = true) (hz : zs.length = vs.length) (hone : ∀ v ∈ vs, onecell v = true) (h : HO w0 F M os (star (row1 b zs T) A)) {K : VP} (hK : ∀ M', HO w0 F M' os A → K (.agg vs.toArray) M') :
  (std PP w0).st T ⟨b, 0, none⟩ (.agg vs.toArray) (fun M1 => ob ((std PP w0).rdv T (.pointer (some ⟨b, 0, none⟩)) M1) fun v => K v M1) M := by
 refine stW hg hz hone h fun M1 h1 => ?_
 have o1 := h1.h.own1
 rw [rdv_ptr, ld_agg (cs := vs) hg (fun j u hj => by rw [add_eq, rd_own o1, Nat.zero_add]; exact hj), ob_v]
 exact hK M1 ⟨h1.nd, h1.at_, h1.h.right⟩
theorem lB_ {b : Nat} {vs : List Value} {T e : TypeId} (hg : aggOf PP T vs.length = true) (h : Own w0 M b vs e) : (std PP w0).ld T ⟨b, 0, none⟩ M = some (.agg vs.toArray) :=
 ld_agg (cs := vs) hg (fun j u hj => by rw [add_eq, rd_own h, Nat.zero_add]; exact hj)
theorem ldSub {b o : Nat} {cs vs : List Value} {T e : TypeId} (hg : aggOf PP T vs.length = true) (h : Own w0 M b cs e) (hc : ∀ j u, vs[j]? = some u → cs[o + j]? = some u) : (std PP w0).ld T ⟨b, o, none⟩ M = some (.agg vs.toArray) :=
 ld_agg (cs := vs) hg (fun j u hj => by rw [add_eq, rd_own h]; exact hc j u hj)
theorem ld1 {b o : Nat} {cs : List Value} {t e : TypeId} (ht : cell1 PP t = true) (h : Own w0 M b cs e) {v : Value} (hv : cs[o]? = some v) : (std PP w0).ld t ⟨b, o, none⟩ M = some v := by
 rw [ld_one ht, rd_own h]; exact hv
end
theorem one2 {x y : Int} : ∀ v ∈ ([.int .i64 x, .int .i64 y] : List Value), onecell v = true := by
 intro v hv
 simp only [List.mem_cons, List.not_mem_nil, or_false] at hv
 rcases hv with rfl | rfl <;> rfl
theorem one3 {x y z : Int} : ∀ v ∈ ([.int .i64 x, .int .i64 y, .int .i64 z] : List Value), onecell v = true := by
 intro v hv
 simp only [List.mem_cons, List.not_mem_nil, or_false] at hv
 rcases hv with rfl | rfl | rfl <;> rfl
theorem gRef : aggOf PP 33 2 = true := W.g33
theorem gHeap : aggOf PP 149 3 = true := W.g149
theorem gThing : aggOf PP 153 3 = true := W.g153
theorem gEnt : aggOf PP 44 2 = true := W.g44
section
variable {w0 : World} {F M : Mem} {R : VP} {p : Nat} {Q : Asn}
theorem GetH1 {P : PS V3} {a g : Int} {v : V3} (h : Holds w0 F M (star (PsH p P) Q)) (hb : P.l.length ≤ 100000) (hw : P.find a g = some v) (h1 : ∀ M', Mem.le M M' → R (.tuple #[.agg #[.int .i64 v.1, .int .i64 v.2.1, .int .i64 v.2.2], .int .i64 0]) M') :
  C PP w0 Id.pP_Get_sh #[.pointer (some ⟨p, 0, none⟩), .agg #[.int .i64 a, .int .i64 g]] R M :=
 GetH_ok h hb (fun v' hv => by rw [hw] at hv; cases hv; exact h1) (fun hf => by rw [hw] at hf; cases hf)
theorem GetT1 {P : PS V3} {a g : Int} {v : V3} (h : Holds w0 F M (star (PsT p P) Q)) (hb : P.l.length ≤ 100000) (hw : P.find a g = some v) (h1 : ∀ M', Mem.le M M' → R (.tuple #[.agg #[.int .i64 v.1, .int .i64 v.2.1, .int .i64 v.2.2], .int .i64 0]) M') :
  C PP w0 Id.pP_Get_st #[.pointer (some ⟨p, 0, none⟩), .agg #[.int .i64 a, .int .i64 g]] R M :=
 GetT_ok h hb (fun v' hv => by rw [hw] at hv; cases hv; exact h1) (fun hf => by rw [hw] at hf; cases hf)
end
end Go.Proofs.YtodobkbnmjgkdaaGreat.HL
namespace Go.Proofs.YtodobkbnmjgkdaaGreat.HL
open Go.RowKit (Below)
open Go.Proofs
namespace ST
theorem node_st {α β : AS} {m w : Tn} {k : Nat} (hm : StT α m) (hw : StT α w) (hn : (ndsT m ++ ndsT w).Nodup) (g1 : β.get w.n 1 = (m.n : Int)) (g4 : β.get w.n 4 = (k : Int)) (m0 : β.get m.n 0 = (w.n : Int)) (m3 : β.get m.n 3 = w.c.root)
  (hg : ∀ c g, (c ≠ w.n ∨ (g ≠ 1 ∧ g ≠ 4)) → (c ≠ m.n ∨ (g ≠ 0 ∧ g ≠ 3)) → β.get c g = α.get c g) : StT β ⟨w.n, k, node m.n m.k m.c w.c⟩ := by
 obtain ⟨n1, n2, n3⟩ := List.nodup_append.1 hn
 have hmw : m.n ≠ w.n := n3 m.n List.mem_cons_self w.n List.mem_cons_self
 obtain ⟨a1, a2⟩ := List.nodup_cons.1 n1
 obtain ⟨b1, b2⟩ := List.nodup_cons.1 n2
 refine ⟨g1, g4, m0, ?_, m3, ?_, ?_, ?_⟩
 ·rw [hg m.n 1 (.inl hmw) (.inr (by omega))]; exact hm.1
 ·rw [hg m.n 4 (.inl hmw) (.inr (by omega))]; exact hm.2.1
 ·refine hm.2.2.congr fun x hx f _ => hg x f (.inl fun e => ?_) (.inl fun e => a1 (e ▸ hx))
  exact n3 x (List.mem_cons_of_mem _ hx) w.n List.mem_cons_self e
 ·refine hw.2.2.congr fun x hx f _ => hg x f (.inl fun e => b1 (e ▸ hx)) (.inl fun e => ?_)
  exact n3 m.n List.mem_cons_self x (List.mem_cons_of_mem _ hx) e.symm
def lnk (f : Nat → Held) (t u : Tn) : Tn := if Bf (f u.n) (f t.n) then lk t u else lk u t
theorem lk_nds (m w : Tn) : (ndsT (lk m w)).Perm (ndsT m ++ ndsT w) := by
 show (w.n :: m.n :: (nds m.c ++ nds w.c)).Perm (m.n :: (nds m.c ++ w.n :: nds w.c))
 refine (List.Perm.swap _ _ _).trans (List.Perm.cons _ ?_)
 exact List.perm_middle.symm
theorem und_nds (m w : Tn) : (ndsT (und m w)).Perm (ndsT m ++ ndsT w) := lk_nds m w
theorem lnk_nds (f : Nat → Held) (t u : Tn) : (ndsT (lnk f t u)).Perm (ndsT t ++ ndsT u) := by
 unfold lnk; split
 ·exact lk_nds t u
 ·exact (lk_nds u t).trans List.perm_append_comm
theorem lnk_n (f : Nat → Held) (t u : Tn) : (lnk f t u).n = t.n ∨ (lnk f t u).n = u.n := by
 unfold lnk; split
 ·exact .inr rfl
 ·exact .inl rfl
theorem lnk_k (f : Nat → Held) {t u : Tn} (e : t.k = u.k) : (lnk f t u).k = t.k + 1 := by
 unfold lnk; split
 ·show u.k + 1 = _; omega
 ·rfl
theorem lnk_ok (f : Nat → Held) {z : Nat} {t u : Tn} (hz : 1 ≤ z) (h1 : OkT z t) (h2 : OkT z u) (e : t.k = u.k) : OkT z (lnk f t u) ∧ (trs (lnk f t u).c).length ≤ z * t.k + 1 := by
 unfold lnk; split
 ·have := okT_lk hz h1 h2 e; rw [e]; exact this
 ·exact okT_lk hz h2 h1 e.symm
theorem lnk_od {f : Nat → Held} {t u : Tn} (h1 : OdT f t) (h2 : OdT f u) (hne : (f t.n).1 ≠ (f u.n).1) : OdT f (lnk f t u) := by
 unfold lnk; split
 ·rename_i hb; exact odT_node h1 h2 hb
 ·rename_i hb; exact odT_node h2 h1 (Bf.tot hb fun e => hne e.symm)
theorem sw_lb {α β : AS} {k : Int} {f : Nat → Held} {N : List Nat} {n m : Nat} (h : Lb α f N) (hnd : (celF f N).Nodup) (hn : n ∈ N) (hm : m ∈ N) (hne : n ≠ m)
  (hs : AS.Sm k ((((α.put n 6 ((f m).1 : Int)).put (f m).1 9 (n : Int)).put m 6 ((f n).1 : Int)).put (f n).1 9 (m : Int)) β) : Lb β (sw f n m) N := by
 have hij : (f n).1 ≠ (f m).1 := fun e => hne (celF_inj hnd n hn m hm e)
 have g : ∀ c x, β.get c x = if c = (f n).1 ∧ x = 9 then (m : Int) else if c = m ∧ x = 6 then ((f n).1 : Int) else if c = (f m).1 ∧ x = 9 then (n : Int) else if c = n ∧ x = 6 then ((f m).1 : Int) else α.get c x := fun c x => by rw [hs.get]; rfl
 have gl : ∀ c, β.live c = α.live c := fun c => by rw [hs.live]; rfl
 intro x hx
 have hX := h x hx
 have hN := h n hn
 have hM := h m hm
 unfold sw
 by_cases e1 : x = n
 ·subst e1
  rw [if_pos rfl]
  refine ⟨(gl _).trans hX.ln, (gl _).trans hM.li, ?_, ?_, ?_, ?_⟩
  ·rw [g, if_neg (by omega), if_neg (by omega), if_neg (by omega), if_pos ⟨rfl, rfl⟩]
  ·rw [g, if_neg (fun e => hij e.1.symm), if_neg (by omega), if_pos ⟨rfl, rfl⟩]
  ·rw [g, if_neg (by omega), if_neg (by omega), if_neg (by omega), if_neg (by omega)]; exact hM.k
  ·rw [g, if_neg (by omega), if_neg (by omega), if_neg (by omega), if_neg (by omega)]; exact hM.s
 ·rw [if_neg e1]
  by_cases e2 : x = m
  ·subst e2
   rw [if_pos rfl]
   refine ⟨(gl _).trans hX.ln, (gl _).trans hN.li, ?_, ?_, ?_, ?_⟩
   ·rw [g, if_neg (by omega), if_pos ⟨rfl, rfl⟩]
   ·rw [g, if_pos ⟨rfl, rfl⟩]
   ·rw [g, if_neg (by omega), if_neg (by omega), if_neg (by omega), if_neg (by omega)]; exact hN.k
   ·rw [g, if_neg (by omega), if_neg (by omega), if_neg (by omega), if_neg (by omega)]; exact hN.s
  ·rw [if_neg e2]
   have i1 : (f x).1 ≠ (f n).1 := fun e => e1 (celF_inj hnd x hx n hn e)
   have i2 : (f x).1 ≠ (f m).1 := fun e => e2 (celF_inj hnd x hx m hm e)
   refine ⟨(gl _).trans hX.ln, (gl _).trans hX.li, ?_, ?_, ?_, ?_⟩
   ·rw [g, if_neg (by omega), if_neg (by omega), if_neg (by omega), if_neg (by omega)]; exact hX.it
   ·rw [g, if_neg (by omega), if_neg (by omega), if_neg (by omega), if_neg (by omega)]; exact hX.nd
   ·rw [g, if_neg (by omega), if_neg (by omega), if_neg (by omega), if_neg (by omega)]; exact hX.k
   ·rw [g, if_neg (by omega), if_neg (by omega), if_neg (by omega), if_neg (by omega)]; exact hX.s
end ST
section
variable {w0 : World} {M F : Mem} {R : VP} {a : Nat} {α : AS}
open Go.Proofs.YtodobkbnmjgkdaaGreat.HL.ST
theorem Under_ok (hA : Holds w0 F M (arenaA a α)) {n up : Nat} (hn : α.live n = true) (hu : α.live up = true) {v : Int} (hv : α.get up 1 = v) (hc : v = -1 ∨ ∃ y : Nat, v = (y : Int) ∧ α.live y = true)
  (h : ∀ M' β, Holds w0 F M' (arenaA a β) → AS.Sm 4 (((α.put n 3 v).put n 0 (up : Int)).put up 1 (n : Int)) β → R (.tuple #[]) M') : C PP w0 Id.trees_Under #[.pointer (some ⟨a, 0, none⟩), .int .i64 (n : Int), .int .i64 (up : Int)] R M := by
 apply trees_Under.go
 unfold trees_Under.T nfz
 refine Cell_ok hA fun M1 hA1 => ?_
 rw [show α.cellI (up : Int) 1 = v from AS.cellI_val hA.inv (f := 1) hu (by omega) hv hc]
 simp only [go_sem]
 refine Set_ok hA1 fun M2 hA2 => ?_
 rw [show α.tick.setI (n : Int) 3 v = α.tick.put n 3 v from AS.setI_live (α := α.tick) (f := 3) hn (by omega) _] at hA2
 simp only [go_sem]
 refine Set_ok hA2 fun M3 hA3 => ?_
 rw [show (α.tick.put n 3 v).tick.setI (n : Int) 0 (up : Int) = (α.tick.put n 3 v).tick.put n 0 (up : Int) from AS.setI_live (α := (α.tick.put n 3 v).tick) (f := 0) hn (by omega) _] at hA3
 simp only [go_sem]
 refine Set_ok hA3 fun M4 hA4 => ?_
 rw [show ((α.tick.put n 3 v).tick.put n 0 (up : Int)).tick.setI (up : Int) 1 (n : Int) = ((α.tick.put n 3 v).tick.put n 0 (up : Int)).tick.put up 1 (n : Int) from AS.setI_live (α := ((α.tick.put n 3 v).tick.put n 0 (up : Int)).tick) (f := 1) hu (by omega) _] at hA4
 simp only [go_sem]
 exact h M4 _ hA4 ((((((((AS.tick_sm (α := α)).put n 3 v).trans AS.tick_sm).put n 0 (up : Int)).trans AS.tick_sm).put up 1 (n : Int)).trans AS.tick_sm).mono (by omega))
theorem Link_ok (hA : Holds w0 F M (arenaA a α)) {f : Nat → Held} {t u : Tn} (ht : StT α t) (hu : StT α u) (hl : Lb α f (ndsT t ++ ndsT u)) (hn : (ndsT t ++ ndsT u).Nodup) (hk : t.k = u.k) (hk2 : t.k ≤ 1000000)
  (h : ∀ M' β, Holds w0 F M' (arenaA a β) → StT β (lnk f t u) → AS.Chg (fun c => c = t.n ∨ c = u.n) 11 α β → (∀ c g, 5 ≤ g → β.get c g = α.get c g) → (∀ g, g ≠ 1 → g ≠ 4 → β.get (lnk f t u).n g = α.get (lnk f t u).n g) → R (.int .i64 ((lnk f t u).n : Int)) M') :
  C PP w0 Id.trees_Link #[.pointer (some ⟨a, 0, none⟩), .int .i64 (t.n : Int), .int .i64 (u.n : Int), .int .i64 (t.k : Int)] R M := by
 apply trees_Link.go
 intro pts H
 unfold trees_Link.T nfz
 have nt := hl t.n (List.mem_append_left _ List.mem_cons_self)
 have nu := hl u.n (List.mem_append_right _ List.mem_cons_self)
 refine nBefore_ok hA nu nt fun M1 β1 hA1 s1 => ?_
 simp only [go_sem]
 have key : ∀ (w m : Tn), StT α m → StT α w → (ndsT m ++ ndsT w).Nodup → α.live w.n = true → α.live m.n = true → (∀ x ∈ nds w.c, α.live x = true) → w.k = t.k → lnk f t u = lk m w → (m.n = t.n ∨ m.n = u.n) → (w.n = t.n ∨ w.n = u.n) →
   trees_Link.J1 pts (some ⟨a, 0, none⟩) (w.n : Int) (m.n : Int) (t.k : Int) M1 := by
  intro w m hm hw hnd lw lm lwc hkw he h1 h2
  refine Eq.mpr (H.J1 ..) ?_
  unfold trees_Link.J1.T nfz
  have hwc : w.c.root = -1 ∨ ∃ y : Nat, w.c.root = (y : Int) ∧ β1.live y = true := by
   cases hc : w.c with
   | nil => exact .inl rfl
   | node y k c s => exact .inr ⟨y, rfl, by rw [s1.live]; exact lwc y (by rw [hc]; simp [nds])⟩
  refine Under_ok hA1 (n := m.n) (up := w.n) (by rw [s1.live]; exact lm) (by rw [s1.live]; exact lw) (v := w.c.root) (by rw [s1.get]; exact hw.1) hwc fun M2 β2 hA2 s2 => ?_
  refine Set_ok hA2 fun M3 hA3 => ?_
  rw [w64_in (by omega)] at hA3
  have lw2 : β2.live w.n = true := by rw [s2.live]; show β1.live w.n = true; rw [s1.live]; exact lw
  rw [show β2.setI (w.n : Int) 4 ((t.k : Int) + 1) = β2.put w.n 4 ((t.k : Int) + 1) from AS.setI_live (f := 4) lw2 (by omega) _] at hA3
  simp only [go_sem]
  have s3 : AS.Sm 11 ((((α.put m.n 3 w.c.root).put m.n 0 (w.n : Int)).put w.n 1 (m.n : Int)).put w.n 4 ((t.k : Int) + 1)) (β2.put w.n 4 ((t.k : Int) + 1)).tick :=
   ((((((s1.put m.n 3 w.c.root).put m.n 0 (w.n : Int)).put w.n 1 (m.n : Int)).trans s2).put w.n 4 ((t.k : Int) + 1)).trans AS.tick_sm).mono (by omega)
  have hmw : m.n ≠ w.n := (List.nodup_append.1 hnd).2.2 _ List.mem_cons_self _ List.mem_cons_self
  generalize (β2.put w.n 4 ((t.k : Int) + 1)).tick = γ at hA3 s3
  have g : ∀ c x, γ.get c x = if c = w.n ∧ x = 4 then (t.k : Int) + 1 else if c = w.n ∧ x = 1 then (m.n : Int) else if c = m.n ∧ x = 0 then (w.n : Int) else if c = m.n ∧ x = 3 then w.c.root else α.get c x := fun c x => by rw [s3.get]; rfl
  have hh := h M3 γ hA3
  rw [he] at hh
  refine hh ?_ ?_ (fun c x hx => ?_) fun x h1 h4 => ?_
  ·refine node_st hm hw hnd ?_ ?_ ?_ ?_ fun c x h1 h2 => ?_
   ·rw [g, if_neg (by omega), if_pos ⟨rfl, rfl⟩]
   ·rw [g, if_pos ⟨rfl, rfl⟩, hkw]; omega
   ·rw [g, if_neg (by omega), if_neg (by omega), if_pos ⟨rfl, rfl⟩]
   ·rw [g, if_neg (by omega), if_neg (by omega), if_neg (by omega), if_pos ⟨rfl, rfl⟩]
   ·rw [g, if_neg (by omega), if_neg (by omega), if_neg (by omega), if_neg (by omega)]
  ·refine ((((((AS.Chg.refl (S := fun c => c = t.n ∨ c = u.n) (α := α)).put h1).put h1).put h2).put h2).trans s3.chg).mono (fun _ h => h) (by omega)
  ·rw [g, if_neg (by omega), if_neg (by omega), if_neg (by omega), if_neg (by omega)]
  ·show γ.get w.n x = α.get w.n x
   rw [g, if_neg (by omega), if_neg (by omega), if_neg (by omega), if_neg (by omega)]
 have lt : ∀ x ∈ ndsT t, α.live x = true := fun x hx => (hl x (List.mem_append_left _ hx)).ln
 have lu : ∀ x ∈ ndsT u, α.live x = true := fun x hx => (hl x (List.mem_append_right _ hx)).ln
 by_cases hb : Bf (f u.n) (f t.n)
 ·rw [decide_eq_true hb, bs_true]
  exact key u t ht hu hn (lu _ List.mem_cons_self) (lt _ List.mem_cons_self) (fun x hx => lu x (List.mem_cons_of_mem _ hx)) hk.symm (by unfold lnk; rw [if_pos hb]) (.inl rfl) (.inr rfl)
 ·rw [decide_eq_false hb, bF_]
  exact key t u hu ht (List.perm_append_comm.nodup_iff.1 hn) (lt _ List.mem_cons_self) (lu _ List.mem_cons_self) (fun x hx => lt x (List.mem_cons_of_mem _ hx)) rfl (by unfold lnk; rw [if_neg hb]) (.inr rfl) (.inl rfl)
theorem ndRow_ok (hA : Holds w0 F M (arenaA a α)) {b : ST} {up : Int} (hs : St α up b) (hl : ∀ n ∈ nds b, α.live n = true) (hn : (nds b).Nodup)
  (h : ∀ M' s β, Holds w0 F M' (star (SlA s ((intsN ((trs b).map (·.n))).map (Value.int .i64))) (arenaA a β)) → AS.Sm ((trs b).length) α β → R s.v M') :
  C PP w0 Id.node_Row #[.pointer (some ⟨a, 0, none⟩), .int .i64 b.root, .int .i64 3] R M := by
 apply node_Row.go
 intro pts H
 unfold node_Row.T nfz
 have hI := hA.inv
 have hI65 := hI.n
 have hlen := nodup_len α.n _ hn fun x hx => AS.live_lt hI (hl x hx)
 have hne : ∀ (b : ST), (trs b).length ≤ (nds b).length := fun b => by
  induction b with
  | nil => simp [trs]
  | node n k c s _ ih => simp only [trs, nds, List.length_cons, List.length_append]; omega
 have key : ∀ (c : ST) (out : List Nat) (s : SV) (M1 : Mem) (β : AS) (k : Nat), (trs b).map (·.n) = out ++ (trs c).map (·.n) → St α up c → (∀ n ∈ nds c, α.live n = true) → Holds w0 F M1 (star (SlA s ((intsN out).map (Value.int .i64))) (arenaA a β)) → AS.Sm (out.length : Int) α β → (trs c).length < k →
   node_Row.L1 pts k (some ⟨a, 0, none⟩) c.root 3 s M1 := by
  intro c
  induction c with
  | nil =>
   intro out s M1 β k he hc hlc hB hsm hk
   obtain ⟨k, rfl⟩ : ∃ j, k = j + 1 := ⟨k - 1, by omega⟩
   refine Eq.mpr (H.L1 ..) ?_
   unfold node_Row.L1.T nfz
   refine Live_ok hB.right ?_
   rw [show ST.nil.root = -1 from rfl, AS.liveI_neg]
   simp only [shB_v, bF_]
   have e0 : (trs b).map (·.n) = out := by rw [he]; simp [trs]
   refine h M1 s β (by rw [e0]; exact hB) (hsm.mono ?_)
   have := congrArg List.length e0
   rw [List.length_map] at this; omega
  | node n kk c s _ ih =>
   intro out sO M1 β k he hc hlc hB hsm hk
   obtain ⟨k, rfl⟩ : ∃ j, k = j + 1 := ⟨k - 1, by omega⟩
   obtain ⟨h1, h2, h3, h4, h5, h6⟩ := hc
   have hln := hlc n (by simp [nds])
   have el := congrArg List.length he
   simp only [List.length_append, List.length_map, trs, List.length_cons] at el hk
   have hb := hne b
   refine Eq.mpr (H.L1 ..) ?_
   unfold node_Row.L1.T nfz
   refine Live_ok hB.right ?_
   rw [show (ST.node n kk c s).root = (n : Int) from rfl, AS.liveI_nat, hsm.live, hln]
   simp only [shB_v, bs_true]
   refine Cells_ok hB.right ?_
   rw [hsm.n]
   have e0 : sO.n = out.length := by rw [hB.cells.2]; simp [intsN]
   (rw [zI_, bD_, if_pos (by omega)]; refine Eq.mpr (H.J2 ..) ?_)
   unfold node_Row.J2.T nfz
   refine push_ok (K := fun s27 M26 => (std PP w0).call _ _ _ M26) hB (by simp [intsN]; omega) fun M2 sO' hB2 => ?_
   obtain ⟨F', hC, hle, back⟩ := hB2.last
   refine Cell_ok hC fun M3 hC3 => ?_
   rw [show β.cellI (n : Int) 3 = s.root from AS.cellI_val hC.inv (f := 3) (by rw [hsm.live]; exact hln) (by omega) (by rw [hsm.get]; exact h3) (by
    cases s with
    | nil => exact .inl rfl
    | node y k' c' s' => exact .inr ⟨y, rfl, by rw [hsm.live]; exact hlc y (by simp [nds])⟩)]
   rw [zI_]
   refine ih (out ++ [n]) sO' M3 β.tick k ?_ h6 (fun x hx => hlc x (by simp [nds, hx])) ?_ ((hsm.trans AS.tick_sm).mono ?_) (by omega)
   ·rw [he]; simp [trs]
   ·have := back M3 _ hC3
    rw [show intsN (out ++ [n]) = intsN out ++ [(n : Int)] from by simp [intsN]]
    exact this
   ·simp
 exact ⟨(trs b).length + 1, key b [] ⟨none, 0, 0⟩ M α _ (by simp) hs hl (Holds.nilSl hA) (AS.Sm.refl.mono (by simp)) (by omega)⟩
theorem List_ok (hA : Holds w0 F M (arenaA a α)) {b : ST} {up : Int} (hs : St α up b) (hl : ∀ n ∈ nds b, α.live n = true) (hn : (nds b).Nodup)
  (h : ∀ M' s β, Holds w0 F M' (star (SlA s ((intsN ((trs b).map (·.n))).map (Value.int .i64))) (arenaA a β)) → AS.Sm ((trs b).length) α β → R s.v M') :
  C PP w0 Id.trees_List #[.pointer (some ⟨a, 0, none⟩), .int .i64 b.root] R M := by
 apply trees_List.go
 unfold trees_List.T nfz
 refine ndRow_ok hA hs hl hn fun M1 s β hB hsm => ?_
 rw [shS_sv]
 exact h M1 s β hB hsm
theorem Kids_ok (hA : Holds w0 F M (arenaA a α)) {t : Tn} (hs : StT α t) (hl : ∀ n ∈ ndsT t, α.live n = true) (hn : (nds t.c).Nodup)
  (h : ∀ M' s β, Holds w0 F M' (star (SlA s ((intsN ((trs t.c).map (·.n))).map (Value.int .i64))) (arenaA a β)) → AS.Sm ((trs t.c).length + 1) α β → R s.v M') :
  C PP w0 Id.trees_Kids #[.pointer (some ⟨a, 0, none⟩), .int .i64 (t.n : Int)] R M := by
 apply trees_Kids.go
 unfold trees_Kids.T nfz
 refine Cell_ok hA fun M1 hA1 => ?_
 rw [show α.cellI (t.n : Int) 1 = t.c.root from AS.cellI_val hA.inv (f := 1) (hl _ List.mem_cons_self) (by omega) hs.1 (by
  cases hc : t.c with
  | nil => exact .inl rfl
  | node y k c s => exact .inr ⟨y, rfl, hl y (by unfold ndsT; rw [hc]; simp [nds])⟩)]
 rw [zI_]
 refine ndRow_ok hA1 (hs.2.2.sm AS.tick_sm) (fun x hx => hl x (List.mem_cons_of_mem _ hx)) hn fun M2 s β hB hsm => ?_
 rw [shS_sv]
 exact h M2 s β hB ((AS.tick_sm.trans hsm).mono (by omega))
theorem Row_ok (hA : Holds w0 F M (arenaA a α)) {l : List Tn} {s : SV} (hs : RdI w0 F .i64 s (intsN (l.map (·.n)))) (ht : ∀ t ∈ l, StT α t) (hl : ∀ t ∈ l, α.live t.n = true) (hn : (ndsL l).Nodup) (hb : l.length ≤ 100000)
  (h : ∀ M' β, Holds w0 F M' (arenaA a β) → St β (-1) (fo l) → AS.Chg (fun c => ∃ t ∈ l, c = t.n) (2 * l.length) α β → (∀ c g, 5 ≤ g → β.get c g = α.get c g) → R (.int .i64 (fo l).root) M') :
  C PP w0 Id.trees_Row #[.pointer (some ⟨a, 0, none⟩), SV.v s] R M := by
 apply trees_Row.go
 intro pts H
 unfold trees_Row.T nfz
 have hlen := hs.len
 simp only [intsN, List.length_map] at hlen
 have hnn : (l.map (·.n)).Nodup := by
  have hsub : ∀ (l : List Tn), (l.map (·.n)).Sublist (ndsL l) := fun l => by
   induction l with
   | nil => exact List.Sublist.refl _
   | cons t l ih => rw [ndsL_cons]; exact (ih.trans (List.sublist_append_right _ _)).cons_cons _
  exact hn.sublist (hsub l)
 have key : ∀ (A B : List Tn) (M1 : Mem) (β : AS) (k : Nat), l = A ++ B → Holds w0 F M1 (arenaA a β) → St β (-1) (fo B) → AS.Chg (fun c => ∃ t ∈ B, c = t.n) (2 * B.length) α β → (∀ c g, 5 ≤ g → β.get c g = α.get c g) → A.length < k →
   trees_Row.L1 pts k (some ⟨a, 0, none⟩) s (fo B).root ((A.length : Int) - 1) M1 := by
  intro A
  induction hA' : A.length generalizing A with
  | zero =>
   intro B M1 β k he hB hst hc hg hk
   have : A = [] := List.eq_nil_of_length_eq_zero hA'
   subst this
   obtain ⟨k, rfl⟩ : ∃ j, k = j + 1 := ⟨k - 1, by omega⟩
   refine Eq.mpr (H.L1 ..) ?_
   unfold trees_Row.L1.T nfz
   rw [bD_, if_neg (by omega)]
   rw [List.nil_append] at he
   subst he
   exact h M1 β hB hst hc hg
  | succ n ih =>
   intro B M1 β k he hB hst hc hg hk
   obtain ⟨A', t, rfl⟩ : ∃ A' t, A = A' ++ [t] := by
    rcases List.eq_nil_or_concat A with e | ⟨A', t, e⟩
    ·rw [e] at hA'; cases hA'
    ·exact ⟨A', t, by rw [e, List.concat_eq_append]⟩
   rw [List.length_append, List.length_singleton] at hA'
   have hA2 : A'.length = n := by omega
   obtain ⟨k, rfl⟩ : ∃ j, k = j + 1 := ⟨k - 1, by omega⟩
   have htl : t ∈ l := by rw [he]; simp
   have hlive : β.live t.n = true := by rw [hc.live]; exact hl t htl
   have hget : (intsN (l.map (·.n)))[A'.length]? = some (t.n : Int) := by
    rw [he]; simp [intsN]
   have ll := congrArg List.length he
   simp only [List.length_append, List.length_singleton] at ll
   refine Eq.mpr (H.L1 ..) ?_
   unfold trees_Row.L1.T nfz
   rw [bD_, if_pos (by omega)]
   refine rdx (x := (t.n : Int)) W.c3 hs hB.fr A'.length (by omega) hget ?_
   refine Set_ok hB fun M2 hB2 => ?_
   rw [show β.setI (t.n : Int) 3 (fo B).root = β.put t.n 3 (fo B).root from AS.setI_live (f := 3) hlive (by omega) _] at hB2
   rw [shB_v]
   refine rdx (x := (t.n : Int)) W.c3 hs hB2.fr A'.length (by omega) hget ?_
   refine Set_ok hB2 fun M3 hB3 => ?_
   rw [show (β.put t.n 3 (fo B).root).tick.setI (t.n : Int) 0 (-1) = (β.put t.n 3 (fo B).root).tick.put t.n 0 (-1) from AS.setI_live (α := (β.put t.n 3 (fo B).root).tick) (f := 0) hlive (by omega) _] at hB3
   rw [shB_v]
   refine rdx (x := (t.n : Int)) W.c3 hs hB3.fr A'.length (by omega) hget ?_
   have s3 : AS.Sm 2 ((β.put t.n 3 (fo B).root).put t.n 0 (-1)) ((β.put t.n 3 (fo B).root).tick.put t.n 0 (-1)).tick := (((AS.tick_sm (α := β.put t.n 3 (fo B).root)).put t.n 0 (-1)).trans AS.tick_sm).mono (by omega)
   generalize ((β.put t.n 3 (fo B).root).tick.put t.n 0 (-1)).tick = γ at hB3 s3
   have g : ∀ c x, γ.get c x = if c = t.n ∧ x = 0 then -1 else if c = t.n ∧ x = 3 then (fo B).root else β.get c x := fun c x => by rw [s3.get]; rfl
   have hnB : t.n ∉ ndsL B ∧ t.n ∉ nds t.c := by
    rw [he, ndsL_app, ndsL_app] at hn
    have h2 := (List.nodup_append.1 hn).2.2
    have h3 := (List.nodup_append.1 (List.nodup_append.1 hn).1).2.1
    refine ⟨fun hm => h2 t.n (by simp [ndsL, ndsT]) _ hm rfl, fun hm => ?_⟩
    have : ndsL [t] = t.n :: nds t.c := by simp [ndsL, ndsT]
    rw [this] at h3
    exact (List.nodup_cons.1 h3).1 hm
   have hcB : ∀ x ∈ nds t.c, β.get x = α.get x := fun x hx => by
    funext f
    refine hc.get x ?_ f
    rintro ⟨u, hu, e⟩
    rw [he, ndsL_app, ndsL_app] at hn
    exact (List.nodup_append.1 hn).2.2 x (by simp [ndsL, ndsT, hx]) u.n (mem_ndsL.2 ⟨u, hu, List.mem_cons_self⟩) e
   have htB : ∀ f, β.get t.n f = α.get t.n f := fun f => by
    refine hc.get t.n ?_ f
    rintro ⟨u, hu, e⟩
    exact hnB.1 (e ▸ mem_ndsL.2 ⟨u, hu, List.mem_cons_self⟩)
   obtain ⟨t1, t2, t3⟩ := ht t htl
   have := ih A' hA2 (t :: B) M3 γ k (by rw [he]; simp) hB3 ?_ ?_ (fun c x hx => ?_) (by omega)
   ·rw [show w64 (((n + 1 : Nat) : Int) - 1 - 1) = (n : Int) - 1 from by rw [w64_in (by omega)]; omega]
    exact this
   ·refine ⟨?_, ?_, ?_, ?_, ?_, ?_⟩
    ·rw [g, if_pos ⟨rfl, rfl⟩]
    ·rw [g, if_neg (by omega), if_neg (by omega), htB]; exact t1
    ·rw [g, if_neg (by omega), if_pos ⟨rfl, rfl⟩]
    ·rw [g, if_neg (by omega), if_neg (by omega), htB]; exact t2
    ·refine t3.congr fun x hx f _ => ?_
     rw [g, if_neg (fun e : x = t.n ∧ f = 0 => hnB.2 (e.1 ▸ hx)), if_neg (fun e : x = t.n ∧ f = 3 => hnB.2 (e.1 ▸ hx)), hcB x hx]
    ·refine hst.congr fun x hx f _ => ?_
     rw [nds_fo] at hx
     rw [g, if_neg (fun e : x = t.n ∧ f = 0 => hnB.1 (e.1 ▸ hx)), if_neg (fun e : x = t.n ∧ f = 3 => hnB.1 (e.1 ▸ hx))]
   ·refine ((((hc.mono (T := fun c => ∃ u ∈ t :: B, c = u.n) (fun c ⟨u, hu, e⟩ => ⟨u, List.mem_cons_of_mem _ hu, e⟩) (Int.le_refl _)).put (c := t.n) (f := 3) (v := (fo B).root) ⟨t, List.mem_cons_self, rfl⟩).put (c := t.n) (f := 0) (v := -1) ⟨t, List.mem_cons_self, rfl⟩).trans s3.chg).mono (fun _ h => h) ?_
    rw [List.length_cons]; omega
   ·rw [g, if_neg (by omega), if_neg (by omega)]; exact hg c x hx
 refine ⟨l.length + 1, ?_⟩
 rw [show w64 (((s.n : Nat) : Int) - 1) = (l.length : Int) - 1 from by rw [w64_in (by omega)]; omega]
 exact key l [] M α _ (by simp) hA trivial (AS.Chg.refl.mono (fun _ h => h) (by simp)) (fun _ _ _ => rfl) (by omega)
theorem Best_ok (hA : Holds w0 F M (arenaA a α)) {f : Nat → Held} {l : List Tn} {s : SV} (hs : RdI w0 F .i64 s (intsN (l.map (·.n)))) (hl : ∀ t ∈ l, α.Nd t.n (f t.n).1 (f t.n).2) (hd : ∀ t ∈ l, ∀ u ∈ l, (f t.n).1 = (f u.n).1 → t.n = u.n) (hb : l.length ≤ 100000)
  (h0 : l = [] → ∀ M' β, Holds w0 F M' (arenaA a β) → AS.Sm 0 α β → R (.int .i64 (-1)) M')
  (h : ∀ t ∈ l, (∀ u ∈ l, u.n ≠ t.n → Bf (f t.n) (f u.n)) → ∀ M' β, Holds w0 F M' (arenaA a β) → AS.Sm (6 * l.length) α β → R (.int .i64 (t.n : Int)) M') :
  C PP w0 Id.trees_Best #[.pointer (some ⟨a, 0, none⟩), SV.v s] R M := by
 apply trees_Best.go
 intro pts H
 unfold trees_Best.T nfz
 have hlen := hs.len
 simp only [intsN, List.length_map] at hlen
 have key : ∀ (B A : List Tn) (t : Tn) (M1 : Mem) (β : AS) (k : Nat), l = A ++ B → t ∈ A → (∀ u ∈ A, u.n ≠ t.n → Bf (f t.n) (f u.n)) → Holds w0 F M1 (arenaA a β) → AS.Sm (6 * A.length) α β → B.length < k →
   trees_Best.L1 pts k (some ⟨a, 0, none⟩) (t.n : Int) s ((s.n : Nat) : Int) (A.length : Int) M1 := by
  intro B
  induction B with
  | nil =>
   intro A t M1 β k he ht hbest hB hsm hk
   obtain ⟨k, rfl⟩ : ∃ j, k = j + 1 := ⟨k - 1, by omega⟩
   rw [List.append_nil] at he
   subst he
   refine Eq.mpr (H.L1 ..) ?_
   unfold trees_Best.L1.T nfz
   rw [bD_, if_neg (by omega)]
   exact h t ht hbest M1 β hB hsm
  | cons u B ih =>
   intro A t M1 β k he ht hbest hB hsm hk
   obtain ⟨k, rfl⟩ : ∃ j, k = j + 1 := ⟨k - 1, by omega⟩
   have ll := congrArg List.length he
   simp only [List.length_append, List.length_cons] at ll hk
   have htl : t ∈ l := by rw [he]; simp [ht]
   have hul : u ∈ l := by rw [he]; simp
   have hget : (intsN (l.map (·.n)))[A.length]? = some (u.n : Int) := by rw [he]; simp [intsN]
   refine Eq.mpr (H.L1 ..) ?_
   unfold trees_Best.L1.T nfz
   rw [bD_, if_pos (by omega)]
   refine rdx (x := (u.n : Int)) W.c3 hs hB.fr A.length rfl hget ?_
   rw [bQ_, if_neg (by omega)]
   refine nBefore_ok hB (hsm.nd (hl u hul)) (hsm.nd (hl t htl)) fun M2 γ hB2 s2 => ?_
   rw [shB_v, bD_]
   have hsm2 : AS.Sm (6 * ((A ++ [u]).length : Int)) α γ := (hsm.trans s2).mono (by simp; omega)
   have e1 : w64 ((A.length : Int) + 1) = ((A ++ [u]).length : Int) := by rw [w64_in (by omega)]; simp
   rw [e1]
   split
   ·rename_i hbf
    refine ih (A ++ [u]) u M2 γ k (by rw [he]; simp) (by simp) (fun v hv hne => ?_) hB2 hsm2 (by omega)
    rcases List.mem_append.1 hv with hv | hv
    ·by_cases e : v.n = t.n
     ·rw [e]; exact hbf
     ·exact hbf.tr (hbest v hv e)
    ·rw [List.mem_singleton.1 hv] at hne
     exact absurd rfl hne
   ·rename_i hbf
    refine ih (A ++ [u]) t M2 γ k (by rw [he]; simp) (by simp [ht]) (fun v hv hne => ?_) hB2 hsm2 (by omega)
    rcases List.mem_append.1 hv with hv | hv
    ·exact hbest v hv hne
    ·rw [List.mem_singleton.1 hv] at hne ⊢
     exact Bf.tot hbf fun e => hne (hd u hul t htl e)
 cases l with
 | nil =>
  refine ⟨1, ?_⟩
  refine Eq.mpr (H.L1 ..) ?_
  unfold trees_Best.L1.T nfz
  rw [bD_, if_neg (by simp at hlen; omega)]
  exact h0 rfl M α hA AS.Sm.refl
 | cons t l =>
  refine ⟨l.length + 2, ?_⟩
  simp only [List.length_cons] at hlen hb
  refine Eq.mpr (H.L1 ..) ?_
  unfold trees_Best.L1.T nfz
  rw [bD_, if_pos (by omega)]
  refine rdx (x := (t.n : Int)) W.c3 hs hA.fr 0 rfl (by simp [intsN]) ?_
  rw [bQ_, if_pos rfl]
  have e1 : w64 ((0 : Int) + 1) = (([t] : List Tn).length : Int) := by rw [w64_in (by omega)]; rfl
  rw [e1]
  exact key l [t] t M α _ rfl (by simp) (fun u hu hne => by rw [List.mem_singleton.1 hu] at hne; exact absurd rfl hne) hA (AS.Sm.refl.mono (by simp)) (by omega)
theorem Swap_ok (hA : Holds w0 F M (arenaA a α)) {n m i j : Nat} {e g : Ent} (h1 : α.Nd n i e) (h2 : α.Nd m j g)
  (h : ∀ M' β, Holds w0 F M' (arenaA a β) → AS.Sm 6 ((((α.put n 6 (j : Int)).put j 9 (n : Int)).put m 6 (i : Int)).put i 9 (m : Int)) β → R (.tuple #[]) M') : C PP w0 Id.item_Swap #[.pointer (some ⟨a, 0, none⟩), .int .i64 (n : Int), .int .i64 (m : Int)] R M := by
 apply item_Swap.go
 unfold item_Swap.T nfz
 simp only [go_sem, Option.isNone_some, bF_]
 refine Cell_ok hA fun M1 hA1 => ?_
 rw [show α.cellI (n : Int) 6 = (i : Int) from AS.cellI_live (f := 6) h1.ln (by omega) h1.it (AS.live_lt hA.inv h1.li)]
 simp only [go_sem]
 refine Cell_ok hA1 fun M2 hA2 => ?_
 rw [show α.tick.cellI (m : Int) 6 = (j : Int) from AS.cellI_live (α := α.tick) (f := 6) h2.ln (by omega) h2.it (AS.live_lt hA.inv h2.li)]
 simp only [go_sem]
 refine ItPut_ok hA2 h1.ln h2.li fun M3 β3 hA3 s3 => ?_
 refine ItPut_ok hA3 (by rw [s3.live]; exact h2.ln) (by rw [s3.live]; exact h1.li) fun M4 β4 hA4 s4 => ?_
 exact h M4 β4 hA4 (((((((((AS.tick_sm (α := α)).trans AS.tick_sm).put n 6 (j : Int)).put j 9 (n : Int)).trans s3).put m 6 (i : Int)).put i 9 (m : Int)).trans s4).mono (by omega))
theorem Rise_ok (hA : Holds w0 F M (arenaA a α)) (any : Bool) {b : ST} {f : Nat → Held} {x : Nat} (hst : St α (-1) b) (hlb : Lb α f (nds b)) (hnd : (celF f (nds b)).Nodup) (hx : x ∈ nds b) (hH : Hol f b x) (hD : any = false → HolD f b x) {m : Nat} (hm : (anc b x).length ≤ m)
  (h : ∀ M' β f' y, Holds w0 F M' (arenaA a β) → St β (-1) b → Lb β f' (nds b) → y ∈ nds b → f' y = f x → ((nds b).map f').Perm ((nds b).map f) → (any = true → anc b y = [] ∧ Hol f' b y) → (any = false → OdA f' b) → AS.Chg (fun c => c ∈ celF f (nds b)) (13 * m + 8) α β → R (.int .i64 (y : Int)) M') :
  C PP w0 Id.zR_ #[.pointer (some ⟨a, 0, none⟩), .int .i64 ((f x).1 : Int), .bool any] R M := by
 apply zR_.go
 intro pts H
 unfold zR_.T nfz
 have hI := hA.inv
 have hI65 := hI.n
 have hN := hlb x hx
 have hnn := celF_nd hnd
 have hlen := nodup_len α.n _ hnn fun y hy => AS.live_lt hI (hlb y hy).ln
 refine Node_ok hA fun M1 hA1 => ?_
 rw [show α.cellI ((f x).1 : Int) 9 = (x : Int) from AS.cellI_live (f := 9) hN.li (by omega) hN.nd (AS.live_lt hI hN.ln)]
 rw [zI_]
 have hanc : (anc b x).length ≤ (nds b).length := by
  have hs : ∀ (b : ST) (y : Nat), (anc b y).length ≤ (nds b).length := fun b => by
   induction b with
   | nil => intro y; simp [anc]
   | node n k c s ihc ihs =>
    intro y
    have h1 := ihc y
    have h2 := ihs y
    unfold anc
    simp only [nds, List.length_cons, List.length_append]
    split
    ·simp
    ·split
     ·rw [List.length_append, List.length_singleton]; omega
     ·omega
  exact hs b x
 have key : ∀ (l : List Nat) (y : Nat) (g : Nat → Held) (M2 : Mem) (β : AS) (j k : Nat), anc b y = l → y ∈ nds b → j + l.length = (anc b x).length → Holds w0 F M2 (arenaA a β) → St β (-1) b → Lb β g (nds b) → (celF g (nds b)).Nodup → g y = f x → ((nds b).map g).Perm ((nds b).map f) → Hol g b y → (any = false → HolD g b y) →
   AS.Chg (fun c => c ∈ celF f (nds b)) (13 * j + 1) α β → l.length < k → zR_.L1 pts k (some ⟨a, 0, none⟩) any (y : Int) (j : Int) M2 := by
  intro l
  induction l with
  | nil =>
   intro y g M2 β j k ha hy hj hB hs hl hgn hgy hp hho hhd hc hk
   obtain ⟨k, rfl⟩ : ∃ i, k = i + 1 := ⟨k - 1, by omega⟩
   refine Eq.mpr (H.L1 ..) ?_
   unfold zR_.L1.T nfz
   rw [bs_bne, if_neg (by omega)]
   refine Cells_ok hB ?_
   (rw [hc.n, zI_, bD_, if_pos (by simp at hj; omega)]; refine Eq.mpr (H.J2 ..) ?_)
   unfold zR_.J2.T nfz
   have hup := anc_up hs hy hnn
   rw [ha] at hup
   simp only at hup
   refine Cell_ok hB fun M3 hB3 => ?_
   rw [show β.cellI (y : Int) 0 = -1 from AS.cellI_neg (f := 0) (hl y hy).ln (by omega) hup, zI_, bQ_, if_pos rfl]
   refine h M3 β.tick g y hB3 (hs.sm AS.tick_sm) (hl.sm AS.tick_sm) hy hgy hp (fun _ => ⟨ha, hho⟩) (fun e => hho.done hnn (hhd e) fun p q hpq => by rw [ha] at hpq; cases hpq) (hc.tick.mono (fun _ h => h) ?_)
   simp at hj; omega
  | cons p l ih =>
   intro y g M2 β j k ha hy hj hB hs hl hgn hgy hp hho hhd hc hk
   obtain ⟨k, rfl⟩ : ∃ i, k = i + 1 := ⟨k - 1, by omega⟩
   simp only [List.length_cons] at hj hk
   have hpn : p ∈ nds b := anc_mem (x := y) (by rw [ha]; simp)
   have hpa : anc b p = l := anc_cons hnn ha
   have hpy : y ≠ p := fun e => anc_nin hnn (x := y) (by rw [ha, ← e]; simp)
   refine Eq.mpr (H.L1 ..) ?_
   unfold zR_.L1.T nfz
   rw [bs_bne, if_neg (by omega)]
   refine Cells_ok hB ?_
   (rw [hc.n, zI_, bD_, if_pos (by omega)]; refine Eq.mpr (H.J2 ..) ?_)
   unfold zR_.J2.T nfz
   have hup := anc_up hs hy hnn
   rw [ha] at hup
   simp only at hup
   refine Cell_ok hB fun M3 hB3 => ?_
   rw [show β.cellI (y : Int) 0 = (p : Int) from AS.cellI_live (f := 0) (hl y hy).ln (by omega) hup (AS.live_lt hB.inv (hl p hpn).ln), zI_, bQ_, if_neg (by omega)]
   have rise : ∀ (M4 : Mem) (γ : AS), Holds w0 F M4 (arenaA a γ) → AS.Sm 7 β γ → (any = false → Bf (g y) (g p)) → zR_.J3 pts k (some ⟨a, 0, none⟩) any (y : Int) (j : Int) (p : Int) M4 := by
    intro M4 γ hB4 s4 hbf
    refine Eq.mpr (H.J3 ..) ?_
    unfold zR_.J3.T nfz
    refine Swap_ok hB4 (s4.nd (hl y hy)) (s4.nd (hl p hpn)) fun M5 δ hB5 s5 => ?_
    rw [w64_in (by omega)]
    have hcel : ∀ z ∈ celF g (nds b), z ∈ celF f (nds b) := by
     intro z hz
     rcases List.mem_append.1 hz with hz | hz
     ·exact List.mem_append_left _ hz
     ·have h1 := (hp.map (·.1))
      rw [List.map_map, List.map_map] at h1
      exact List.mem_append_right _ (h1.mem_iff.1 hz)
    have cy : y ∈ celF f (nds b) := List.mem_append_left _ hy
    have cp : p ∈ celF f (nds b) := List.mem_append_left _ hpn
    have ciy : (g y).1 ∈ celF f (nds b) := hcel _ (List.mem_append_right _ (List.mem_map.2 ⟨y, hy, rfl⟩))
    have cip : (g p).1 ∈ celF f (nds b) := hcel _ (List.mem_append_right _ (List.mem_map.2 ⟨p, hpn, rfl⟩))
    have hst5 : St δ (-1) b := by
     refine hs.congr fun z hz x' hx' => ?_
     rw [s5.get]
     show (if z = (g y).1 ∧ x' = 9 then (p : Int) else if z = p ∧ x' = 6 then ((g y).1 : Int) else if z = (g p).1 ∧ x' = 9 then (y : Int) else if z = y ∧ x' = 6 then ((g p).1 : Int) else γ.get z x') = _
     rw [if_neg (fun e => celF_ni hgn z hz y hy e.1), if_neg (fun e => hx' e.2), if_neg (fun e => celF_ni hgn z hz p hpn e.1), if_neg (fun e => hx' e.2), s4.get]
    refine ih p (sw g y p) M5 δ (j + 1) k hpa hpn (by omega) hB5 hst5 (sw_lb (hl.sm s4) hgn hy hpn hpy s5) ?_ ?_ ((sw_map hnn hy hpn).trans hp) (hho.step hnn hy ha) (fun e => HolD.step hnn hy hho ha (hbf e)) ?_ (by omega)
    ·exact (sw_cel hnn hy hpn).nodup_iff.2 hgn
    ·rw [← hgy]; unfold sw; rw [if_neg (fun e => hpy e.symm), if_pos rfl]
    ·refine ((((((hc.trans s4.chg).put (f := 6) (v := ((g p).1 : Int)) cy).put (f := 9) (v := (y : Int)) cip).put (f := 6) (v := ((g y).1 : Int)) cp).put (f := 9) (v := (p : Int)) ciy).trans s5.chg).mono (fun _ h => h) ?_
     omega
   cases any with
   | true =>
    rw [Bool.not_true, bF_]
    exact rise M3 β.tick hB3 (AS.tick_sm.mono (by omega)) (fun e => by cases e)
   | false =>
    rw [Bool.not_false, bs_true]
    refine nBefore_ok hB3 (AS.tick_sm.nd (hl y hy)) (AS.tick_sm.nd (hl p hpn)) fun M4 γ hB4 s4 => ?_
    rw [shB_v]
    by_cases hbf : Bf (g y) (g p)
    ·rw [decide_eq_true hbf, Bool.not_true, bF_]
     exact rise M4 γ hB4 ((AS.tick_sm.trans s4).mono (by omega)) (fun _ => hbf)
    ·rw [decide_eq_false hbf, Bool.not_false, bs_true]
     have s5 : AS.Sm 7 β γ := (AS.tick_sm.trans s4).mono (by omega)
     refine h M4 γ g y hB4 (hs.sm s5) (hl.sm s5) hy hgy hp (fun e => by cases e) (fun _ => hho.done hnn (hhd rfl) fun q r hq => ?_) ((hc.trans s5.chg).mono (fun _ h => h) (by omega))
     rw [ha] at hq
     cases hq
     exact Bf.tot hbf fun e => hpy (celF_inj hgn y hy p hpn e)
 exact ⟨(anc b x).length + 1, key (anc b x) x f M1 α.tick 0 _ rfl hx (by omega) hA1 (hst.sm AS.tick_sm) (hlb.sm AS.tick_sm) hnd rfl (List.Perm.refl _) hH hD (AS.tick_sm.chg.mono (fun _ h => h) (by omega)) (by omega)⟩
end
end Go.Proofs.YtodobkbnmjgkdaaGreat.HL
namespace Go.Proofs.YtodobkbnmjgkdaaGreat.HL
open Go.RowKit (Below)
open Go.Proofs
section
variable {w0 : World} {M M0 F : Mem} {R : VP}
theorem Holds.lenE {s : SV} {l : List Ent} {Q : Asn} (h : Holds w0 F M (star (Es s l) Q)) : s.n = l.length := h.rdE.len
theorem RdE.tail {s : SV} {l : List Ent} (h : RdE w0 M s l) {i : Nat} (hi : i ≤ l.length) : Cells w0 M (if s.c = i then s.a else s.a.map (·.add (i * 2))) (esV (l.drop i)) := fun j v hj => by
 have h1 := h.cells M (Mem.le_refl _) (i * 2 + j) v (by rw [esV_drop, List.getElem?_drop] at hj; exact hj)
 obtain ⟨ad, ea, hr⟩ := h1
 have hjl := (List.getElem?_eq_some_iff.1 hj).1
 rw [esV_len, List.length_drop] at hjl
 have hlen := h.len
 have hcap := h.cap
 rw [if_neg (by omega), ea]
 exact ⟨_, rfl, by rw [add_add]; exact hr⟩
end
end Go.Proofs.YtodobkbnmjgkdaaGreat.HL
namespace Go.Proofs.YtodobkbnmjgkdaaGreat.HL
open Go.RowKit (Below)
open Go.Proofs
abbrev tRk : TypeId := 276
def SrtR (l : List Ent) : Prop := l.Pairwise fun a b => a.2 ≤ b.2
theorem bswp_get1 {P S T : List Ent} {x y : Ent} : (P ++ x :: (S ++ y :: T))[P.length]? = some x := by simp
theorem bswp_get2 {P S T : List Ent} {x y : Ent} : (P ++ x :: (S ++ y :: T))[P.length + 1 + S.length]? = some y := by
 rw [List.getElem?_append_right (by omega), show P.length + 1 + S.length - P.length = S.length + 1 from by omega, List.getElem?_cons_succ]
 simp
theorem bswp_bw {P S T : List Ent} {x y : Ent} : ((P ++ x :: (S ++ y :: T)).set (P.length + 1 + S.length) x).set P.length y = P ++ y :: (S ++ x :: T) := by
 rw [List.set_comm _ _ (by omega)]
 rw [List.set_append_right _ _ (Nat.le_refl _), Nat.sub_self, List.set_cons_zero, List.set_append_right _ _ (by omega), show P.length + 1 + S.length - P.length = S.length + 1 from by omega, List.set_cons_succ,
  List.set_append_right _ _ (Nat.le_refl _), Nat.sub_self, List.set_cons_zero]
section
variable {w0 : World} {M M0 F : Mem} {R : VP}
theorem RdE.ldR {s : SV} {l : List Ent} (h : RdE w0 M0 s l) {j : Nat} {x : Ent} (hj : l[j]? = some x) : ∃ a, s.a = some a ∧ ∀ M, Mem.le M0 M → (std PP w0).ld 276 (a.add (j * 2)) M = some (.agg #[.int .i64 x.1, .int .i64 x.2]) := by
 obtain ⟨a, ea, hr⟩ := h.ad hj
 refine ⟨a, ea, fun M hM => ?_⟩
 obtain ⟨r1, r2⟩ := hr M hM
 exact ld_agg (cs := [.int .i64 x.1, .int .i64 x.2]) W.g276 (fun f v hv => by
  match f, hv with
  | 0, hv => simp at hv; subst hv; rw [add_add]; exact r1
  | 1, hv => simp at hv; subst hv; rw [add_add]; exact r2)
theorem rdR {s : SV} {l : List Ent} (h : RdE w0 M0 s l) (hl : Mem.le M0 M) {i : Int} (j : Nat) (e : i = (j : Int)) {x : Ent} (hj : l[j]? = some x) {K : Int → Int → Prop} (hK : K x.1 x.2) :
  nc s.a fun a => (0 ≤ i ∧ i < ((s.n : Nat) : Int)) ∧ ob ((std PP w0).ld 276 (a.add (i.toNat * 2)) M) fun v => shA v fun l5 => shCons l5 fun u6 r7 => shI .i64 u6 fun n8 => shCons r7 fun u9 r10 => shI .i64 u9 fun n11 => shNil r10 (K n8 n11) := by
 subst e
 obtain ⟨a, ea, hr⟩ := h.ldR hj
 have hlt := (List.getElem?_eq_some_iff.1 hj).1
 have := h.len
 rw [ea, nc_v, Int.toNat_natCast, hr M hl]
 simp only [ob_v, sA_, sC_, zI_, zN_]
 exact ⟨⟨by omega, by omega⟩, hK⟩
theorem appR {s x : SV} {l m : List Ent} {Q : Asn} (h : Holds w0 F M (star (Es s l) Q)) (hx : RdE w0 M x m) (hb : l.length + m.length ≤ 137438953472) {K : VP} (hK : ∀ M' s', Holds w0 F M' (star (Es s' (l ++ m)) Q) → K s'.v M') :
  (std PP w0).app #[274, 274] 274 [SV.v s, SV.v x] K M := by
 obtain ⟨F', h1, h2, h3⟩ := Holds.slk h
 have hl := h1.rdE.len
 refine app_slk (k := 2) Tryz.underlying274 W.e276 h2 h1 (news := esV m) (by rw [esV_len, hx.len]) (hx.cells M (Mem.le_refl _)) hx.nul (esV_one m) (by decide) (by rw [hl, hx.len]; exact hb) fun M' s' l1 l2 _ => ?_
 refine hK M' s' (h3 M' s' _ ?_ l1)
 rw [esV_append]; exact l2
theorem newR {P : Asn} (h : Holds w0 F M P) (x y : Int) {K : VP} (hK : ∀ M' s', Mem.le M M' → Holds w0 F M' (star (Es s' [(x, y)]) P) → K s'.v M') : (std PP w0).bsl 274 1 [(0, .agg #[.int .i64 x, .int .i64 y])] K M := by
 refine bsl_e (n := 1) (cells := #[.int .i64 x, .int .i64 y]) Tryz.underlying274 W.e276 (by decide) (by kernel_rfl) fun b hb hw => ?_
 have l1 : Mem.le M (M.set b (.row (#[Value.int .i64 x, .int .i64 y] : Array Value).toList 276)) := Mem.le_set _ hb
 exact hK _ ⟨some ⟨b, 0, none⟩, 1, 1⟩ l1 (Holds.newSlk h l1 (SlK.new (n := 1) hb (Own.new hw) rfl))
theorem stR {s : SV} {l : List Ent} {Q : Asn} (h : Holds w0 F M (star (Es s l) Q)) {i : Int} (j : Nat) (e : i = (j : Int)) (hj : j < l.length) {x y : Int} {K : Mem → Prop} (hK : ∀ M', Holds w0 F M' (star (Es s (l.set j (x, y))) Q) → K M') :
  nc s.a fun a => (0 ≤ i ∧ i < ((s.n : Nat) : Int)) ∧ (std PP w0).st 276 (a.add (i.toNat * 2)) (.agg #[.int .i64 x, .int .i64 y]) (fun M' => K M') M := by
 subst e
 have hr := h.rdE
 obtain ⟨r, ⟨r1, r2, rfl, h1, h2⟩, h3⟩ := h
 rcases h1 with ⟨rfl, h0, _⟩ | ⟨b, rest, e, ha, hl, hl2, rfl⟩
 ·have := hr.len; simp at this; omega
 ·rw [ha, nc_v, Int.toNat_natCast, add_eq, Nat.zero_add]
  rw [esV_len] at hl hl2
  refine ⟨⟨by omega, by have := hr.len; omega⟩, ?_⟩
  refine st_agg (vs := [.int .i64 x, .int .i64 y]) W.g276 (h3.own List.mem_cons_self) (by rw [List.length_append, esV_len]; simp; omega) (fun v hv => by simp at hv; rcases hv with rfl | rfl <;> rfl) ?_
  refine hK _ ⟨_, ⟨_, r2, rfl, .inr ⟨b, rest, e, ha, by rw [esV_len, List.length_set]; exact hl, by rw [esV_len, List.length_set]; exact hl2, rfl⟩, h2⟩, ?_⟩
  have hov : over (esV l ++ rest) (j * 2) [.int .i64 x, .int .i64 y] = esV (l.set j (x, y)) ++ rest := by
   have h1 : l = l.take j ++ (l[j] :: l.drop (j + 1)) := by rw [← List.drop_eq_getElem_cons hj, List.take_append_drop]
   have h2 : l.set j (x, y) = l.take j ++ ((x, y) :: l.drop (j + 1)) := by rw [List.set_eq_take_append_cons_drop, if_pos hj]
   rw [h2, esV_append, esV_cons]
   conv => lhs; rw [h1, esV_append, esV_cons]
   have := over_mid (esV (l.take j)) [.int .i64 l[j].1, .int .i64 l[j].2] (esV (l.drop (j + 1)) ++ rest) [.int .i64 x, .int .i64 y] rfl (o := j * 2) (by rw [esV_len, List.length_take]; omega)
   simpa using this
  rw [hov]
  exact h3.upd
theorem swapR {s : SV} {l l' : List Ent} {Q : Asn} (h : Holds w0 F M (star (Es s l) Q)) {i1 i2 : Int} (p q : Nat) (e1 : i1 = (p : Int)) (e2 : i2 = (q : Int)) {x y : Ent} (hp : l[p]? = some x) (hq : l[q]? = some y) (hl : (l.set p y).set q x = l') {K : Mem → Prop} (hK : ∀ M', Holds w0 F M' (star (Es s l') Q) → K M') :
  nc s.a fun a2 => (0 ≤ i2 ∧ i2 < ((s.n : Nat) : Int)) ∧ ob ((std PP w0).ld 276 (a2.add (i2.toNat * 2)) M) fun v3 => shA v3 fun l4 => shCons l4 fun u5 r6 => shI .i64 u5 fun n7 => shCons r6 fun u8 r9 => shI .i64 u8 fun n10 => shNil r9
   (nc s.a fun a11 => (0 ≤ i1 ∧ i1 < ((s.n : Nat) : Int)) ∧ ob ((std PP w0).ld 276 (a11.add (i1.toNat * 2)) M) fun v12 => shA v12 fun l13 => shCons l13 fun u14 r15 => shI .i64 u14 fun n16 => shCons r15 fun u17 r18 => shI .i64 u17 fun n19 => shNil r18
    (nc s.a fun a20 => (0 ≤ i1 ∧ i1 < ((s.n : Nat) : Int)) ∧ (std PP w0).st 276 (a20.add (i1.toNat * 2)) (.agg #[.int .i64 n7, .int .i64 n10]) (fun M21 =>
     nc s.a fun a22 => (0 ≤ i2 ∧ i2 < ((s.n : Nat) : Int)) ∧ (std PP w0).st 276 (a22.add (i2.toNat * 2)) (.agg #[.int .i64 n16, .int .i64 n19]) (fun M23 => K M23) M21) M)) := by
 subst hl
 refine rdR h.rdE (Mem.le_refl _) q e2 hq ?_
 refine rdR h.rdE (Mem.le_refl _) p e1 hp ?_
 have hpl := (List.getElem?_eq_some_iff.1 hp).1
 have hql := (List.getElem?_eq_some_iff.1 hq).1
 refine stR h p e1 hpl fun M1 h1 => ?_
 refine stR h1 q e2 (by simpa using hql) fun M2 h2 => ?_
 exact hK M2 h2
theorem cmpR_ok {x y : Ent} (hx : 0 ≤ x.2 ∧ x.2 ≤ 1000000) (hy : 0 ≤ y.2 ∧ y.2 ≤ 1000000) (h : ∀ M' n, Mem.le M M' → (n < 0 ↔ x.2 < y.2) → R (.int .i64 n) M') : C PP w0 Id.tC__1 #[.agg #[.int .i64 x.1, .int .i64 x.2], .agg #[.int .i64 y.1, .int .i64 y.2]] R M := by
 apply tC__1.go
 unfold tC__1.T nfz
 intro b1 hb1 hw1
 intro b2 hb2 hw2
 have o1 : Own w0 (M.set b1 (.row [.int .i64 x.1, .int .i64 x.2] 276)) b1 [.int .i64 x.1, .int .i64 x.2] 276 := Own.new hw1
 have l2 := Mem.le_set (M := M.set b1 (.row [.int .i64 x.1, .int .i64 x.2] 276)) (.row [.int .i64 y.1, .int .i64 y.2] 276) hb2
 have o2 := o1.le l2
 have o3 : Own w0 ((M.set b1 (.row [.int .i64 x.1, .int .i64 x.2] 276)).set b2 (.row [.int .i64 y.1, .int .i64 y.2] 276)) b2 [.int .i64 y.1, .int .i64 y.2] 276 := Own.new hw2
 have e1 : rd w0 _ ⟨b1, 1, none⟩ = some (.int .i64 x.2) := rd_own (o := 1) o2
 have e3 : rd w0 _ ⟨b2, 1, none⟩ = some (.int .i64 y.2) := rd_own (o := 1) o3
 simp only [ld_one W.c2, add_eq, Nat.zero_add, e1, e3, ob_v, zI_]
 rw [w64_in (by omega)]
 refine h _ _ (Mem.le_trans (Mem.le_set _ hb1) l2) ?_
 by_cases h1 : (1 : Int) < x.2 - y.2
 ·simp only [if_pos h1]; split <;> omega
 ·simp only [if_neg h1]; split <;> omega
theorem insSortR_ok {s : SV} {Q : Asn} (A X B : List Ent) {a b : Int} (hrk : ∀ x ∈ X, 0 ≤ x.2 ∧ x.2 ≤ 1000000) (hb : (A ++ (X ++ B)).length ≤ 1000000) (h : Holds w0 F M (star (Es s (A ++ (X ++ B))) Q)) (ea : a = (A.length : Int)) (eb : b = ((A.length + X.length : Nat) : Int))
  (hR : ∀ M' Z, SrtR Z → Z.Perm X → Holds w0 F M' (star (Es s (A ++ (Z ++ B))) Q) → R (.tuple #[]) M') : Go.Proofs.YtodobkbnmjgkdaaGreat.HL.C PP w0 Id.iSF_ #[SV.v s, .int .i64 a, .int .i64 b, .func (.func Id.tC__1) #[] #[]] R M := by
 apply iSF_.go _ s a b (Id.tC__1, #[])
 intro pts H
 unfold iSF_.T nfz
 simp only [List.length_append] at hb
 subst ea eb
 have key : ∀ (k : Nat) (Z1 X2 : List Ent) (M' : Mem), X2.length < k → SrtR Z1 → (Z1 ++ X2).Perm X → Holds w0 F M' (star (Es s (A ++ (Z1 ++ (X2 ++ B)))) Q) →
   iSF_.L1 pts k s (A.length : Int) ((A.length + X.length : Nat) : Int) (Id.tC__1, #[]) ((A.length + Z1.length : Nat) : Int) M' := by
  intro k
  induction k with
  | zero => intro Z1 X2 M' h1; omega
  | succ k ih =>
   intro Z1 X2 M' hk hsr hp hH
   have hlen := hp.length_eq
   rw [List.length_append] at hlen
   refine Eq.mpr (H.L1 ..) ?_
   unfold iSF_.L1.T nfz
   rw [bD_]
   split
   ·match X2, hk, hp, hH, hlen with
    | [], _, _, _, hlen => simp at hlen; omega
    | x :: X2, hk, hp, hH, hlen =>
     simp only [List.length_cons] at hk hlen
     have hxr := hrk x (hp.mem_iff.1 (by simp))
     have key2 : ∀ (k' : Nat) (P S : List Ent) (M2 : Mem), P.length < k' → Z1 = P ++ S → (∀ y ∈ S, x.2 < y.2) → Holds w0 F M2 (star (Es s (A ++ (P ++ x :: (S ++ (X2 ++ B))))) Q) →
       iSF_.L2 pts k k' s (A.length : Int) ((A.length + X.length : Nat) : Int) (Id.tC__1, #[]) ((A.length + Z1.length : Nat) : Int) ((A.length + P.length : Nat) : Int) M2 := by
      intro k'
      induction k' with
      | zero => intro P S M2 h1; omega
      | succ k' ih2 =>
       intro P S M2 hk' hZ hS h2
       have hzl := congrArg List.length hZ
       rw [List.length_append] at hzl
       have fin : (∀ y ∈ P, y.2 ≤ x.2) → ∀ M3, Holds w0 F M3 (star (Es s (A ++ (P ++ x :: (S ++ (X2 ++ B))))) Q) → iSF_.L1 pts k s (A.length : Int) ((A.length + X.length : Nat) : Int) (Id.tC__1, #[]) (w64 (((A.length + Z1.length : Nat) : Int) + 1)) M3 := by
        intro hP M3 h3
        rw [i64_succ (by omega)]
        have := ih (P ++ x :: S) X2 M3 (by omega) (by
         rw [hZ] at hsr
         obtain ⟨q1, q2, q3⟩ := List.pairwise_append.1 hsr
         refine List.pairwise_append.2 ⟨q1, List.pairwise_cons.2 ⟨fun y hy => Int.le_of_lt (hS y hy), q2⟩, fun u hu v hv => ?_⟩
         rcases List.mem_cons.1 hv with rfl | hv
         ·exact hP u hu
         ·exact q3 u hu v hv) (by
         refine List.Perm.trans ?_ hp
         rw [hZ, List.append_assoc, List.append_assoc, List.cons_append]
         exact (List.perm_middle.symm).append_left P) (by
         rw [show A ++ ((P ++ x :: S) ++ (X2 ++ B)) = A ++ (P ++ x :: (S ++ (X2 ++ B))) from by simp]; exact h3)
        rw [show A.length + (P ++ x :: S).length = A.length + Z1.length + 1 from by rw [List.length_append, List.length_cons]; omega] at this
        exact this
       refine Eq.mpr (H.L2 ..) ?_
       unfold iSF_.L2.T nfz
       rw [bD_]
       split
       ·rcases List.eq_nil_or_concat P with rfl | ⟨P', y, hPe⟩
        ·simp at *
        ·rw [List.concat_eq_append] at hPe
         subst hPe
         rw [List.length_append, List.length_singleton] at hk' hzl
         have hyr := hrk y (hp.mem_iff.1 (by rw [hZ]; simp))
         have el : A ++ ((P' ++ [y]) ++ x :: (S ++ (X2 ++ B))) = (A ++ P') ++ y :: ([] ++ x :: (S ++ (X2 ++ B))) := by simp
         have e0 : ((A.length + (P' ++ [y]).length : Nat) : Int) = (((A ++ P').length + 1 + ([] : List Ent).length : Nat) : Int) := by simp only [List.length_append, List.length_singleton, List.length_nil]; omega
         have e1 : w64 (((A.length + (P' ++ [y]).length : Nat) : Int) - 1) = (((A ++ P').length : Nat) : Int) := by
          rw [w64_in (by simp only [List.length_append, List.length_singleton]; omega)]; simp only [List.length_append, List.length_singleton]; omega
         have h2' := h2
         rw [el] at h2'
         refine rdR h2'.rdE (Mem.le_refl _) _ e0 bswp_get2 ?_
         refine rdR h2'.rdE (Mem.le_refl _) _ e1 bswp_get1 ?_
         show Go.Proofs.YtodobkbnmjgkdaaGreat.HL.C PP w0 Id.tC__1 #[.agg #[.int .i64 x.1, .int .i64 x.2], .agg #[.int .i64 y.1, .int .i64 y.2]] _ _
         refine cmpR_ok hxr hyr fun M3 nn l3 hnn => ?_
         rw [zI_, bD_]
         split
         ·rename_i hlt
          refine Eq.mpr (H.J3 ..) ?_
          unfold iSF_.J3.T nfz
          refine swapR (h2'.le l3) (l' := (A ++ P') ++ x :: ([] ++ y :: (S ++ (X2 ++ B)))) _ _ e0 e1 bswp_get2 bswp_get1 bswp_bw fun M4 h4 => ?_
          rw [e1]
          have := ih2 P' (y :: S) M4 (by omega) (by rw [hZ]; simp) (fun z hz => ?_) (by
           rw [show A ++ (P' ++ x :: (y :: S ++ (X2 ++ B))) = (A ++ P') ++ x :: ([] ++ y :: (S ++ (X2 ++ B))) from by simp]; exact h4)
          ·rw [List.length_append]; exact this
          ·rcases List.mem_cons.1 hz with rfl | hz
           ·exact hnn.1 hlt
           ·exact hS z hz
         ·rename_i hlt
          have hxy : y.2 ≤ x.2 := by
           have : ¬ x.2 < y.2 := fun h => hlt (hnn.2 h)
           omega
          refine fin (fun z hz => ?_) M3 (h2.le l3)
          rcases List.mem_append.1 hz with hz | hz
          ·have : z.2 ≤ y.2 := by
            rw [hZ] at hsr
            exact (List.pairwise_append.1 (List.pairwise_append.1 hsr).1).2.2 z hz y (List.mem_singleton.2 rfl)
           omega
          ·rw [List.mem_singleton.1 hz]; exact hxy
       ·have hP : P = [] := List.length_eq_zero_iff.1 (by omega)
        subst hP
        exact fin (fun y hy => by cases hy) M2 h2
     exact ⟨Z1.length + 1, key2 (Z1.length + 1) Z1 [] M' (by omega) (by simp) (fun y hy => by cases hy) hH⟩
   ·have hX2 : X2 = [] := List.length_eq_zero_iff.1 (by omega)
    subst hX2
    rw [List.append_nil] at hp
    exact hR M' Z1 hsr hp hH
 cases X with
 | nil =>
  refine ⟨1, ?_⟩
  refine Eq.mpr (H.L1 ..) ?_
  unfold iSF_.L1.T nfz
  rw [i64_succ (by omega), bD_, if_neg (by simp only [List.length_nil]; omega)]
  exact hR M [] List.Pairwise.nil (List.Perm.refl _) h
 | cons x X =>
  have := key (X.length + 1) [x] X M (by omega) (List.pairwise_singleton _ _) (List.Perm.refl _) h
  rw [i64_succ (by simp at hb; omega)]
  exact ⟨X.length + 1, this⟩
theorem sortR_ok {s : SV} {Q : Asn} {l : List Ent} (hrk : ∀ x ∈ l, 0 ≤ x.2 ∧ x.2 ≤ 1000000) (hb : l.length ≤ 20) (h : Holds w0 F M (star (Es s l) Q))
  (hR : ∀ M' Z, SrtR Z → Z.Perm l → Holds w0 F M' (star (Es s Z) Q) → R (.tuple #[]) M') : Go.Proofs.YtodobkbnmjgkdaaGreat.HL.C PP w0 Id.sSF_ #[SV.v s, .func (.func Id.tC__1) #[] #[]] R M := by
 apply sSF_.go _ s (Id.tC__1, #[])
 unfold sSF_.T nfz
 have hsn := h.lenE
 apply sCF_.go _ s _ (Id.tC__1, #[])
 intro pts H
 unfold sCF_.T nfz
 have fin : ∀ (k : Nat) (A X : List Ent) (M1 : Mem) (b : Int), l.length = A.length + X.length → (l.length : Int) < b → (∀ x ∈ X, 0 ≤ x.2 ∧ x.2 ≤ 1000000) → Holds w0 F M1 (star (Es s (A ++ (X ++ []))) Q) → (∀ M' Z, SrtR Z → Z.Perm X → Holds w0 F M' (star (Es s (A ++ (Z ++ []))) Q) → R (.tuple #[]) M') →
   sCF_.L1 pts (k + 1) s ((s.n : Nat) : Int) (Id.tC__1, #[]) 20 (A.length : Int) b M1 := by
  intro k A X M1 b hl hbl hrX h1 hR1
  refine Eq.mpr (H.L1 ..) ?_
  unfold sCF_.L1.T nfz
  rw [bD_, if_neg (by omega)]
  refine insSortR_ok A X [] hrX (by simp; omega) h1 rfl (by omega) fun M2 Z hs hp h2 => ?_
  refine ⟨1, ?_⟩
  refine Eq.mpr (H.L2 ..) ?_
  unfold sCF_.L2.T nfz
  rw [bD_, if_neg (by omega)]
  exact hR1 M2 Z hs hp h2
 by_cases h20 : l.length = 20
 ·refine ⟨2, ?_⟩
  refine Eq.mpr (H.L1 ..) ?_
  unfold sCF_.L1.T nfz
  rw [bD_, if_pos (by omega)]
  refine insSortR_ok [] l [] hrk (by simp; omega) (by simpa using h) rfl (by simp; omega) fun M2 Z hs hp h2 => ?_
  rw [w64_in (by omega)]
  have hZl := hp.length_eq
  have := fin 0 Z [] M2 (20 + 20) (by simp; omega) (by omega) (fun x hx => by cases hx) (by simpa using h2) fun M3 Z2 _ hp2 h3 => by
   have : Z2 = [] := List.eq_nil_of_length_eq_zero (by rw [hp2.length_eq]; rfl)
   subst this
   exact hR M3 Z hs hp (by simpa using h3)
  rw [hZl, h20] at this
  exact this
 ·exact ⟨1, fin 0 [] l M 20 (by simp) (by omega) hrk (by simpa using h) fun M' Z hs hp h' => hR M' Z hs hp (by simpa using h')⟩
def EsO (s : SV) (l : List Ent) : Asn := fun r => (s.n = 0 ∧ s.c = 0 ∧ l = [] ∧ r = []) ∨ ∃ b pre rest e, s.a = some ⟨b, pre.length, none⟩ ∧ s.n = l.length ∧ l.length * 2 + rest.length = s.c * 2 ∧ r = [(b, pre ++ (esV l ++ rest), e)]
theorem EsO.of {s : SV} {l : List Ent} {Q : Asn} (h : Holds w0 F M (star (Es s l) Q)) : Holds w0 F M (star (EsO s l) Q) :=
 h.imp fun r ⟨r1, r2, e, h1, h2⟩ => ⟨r1, r2, e, by
  rcases h1 with ⟨rfl, h0, e0⟩ | ⟨b, rest, e', ha, hl, hl2, e1⟩
  ·have : l = [] := by
    cases l with
    | nil => rfl
    | cons x l => rw [esV_cons] at h0; cases h0
   exact .inl ⟨rfl, rfl, this, e0⟩
  ·rw [esV_len] at hl hl2
   exact .inr ⟨b, [], rest, e', ha, by omega, by omega, e1⟩, h2⟩
theorem EsO.rd {s : SV} {l : List Ent} {Q : Asn} (h : Holds w0 F M (star (EsO s l) Q)) : RdE w0 M s l := by
 obtain ⟨r, ⟨r1, r2, rfl, h1, h2⟩, h3⟩ := h
 rcases h1 with ⟨e1, e2, rfl, rfl⟩ | ⟨b, pre, rest, e, ha, hl, hl2, rfl⟩
 ·exact ⟨e1, by omega, fun _ => e1, fun M2 _ j v hj => by simp [esV] at hj⟩
 ·have ho := h3.own (b := b) (cs := pre ++ (esV l ++ rest)) (e := e) List.mem_cons_self
  refine ⟨hl, by omega, fun e0 => (by rw [ha] at e0; cases e0), fun M2 hM j v hj => ⟨⟨b, pre.length, none⟩, ha, ?_⟩⟩
  have hjl := (List.getElem?_eq_some_iff.1 hj).1
  rw [add_eq, rd_own (ho.le hM), List.getElem?_append_right (by omega), List.getElem?_append_left (by omega), show pre.length + j - pre.length = j from by omega]
  exact hj
theorem EsO.drop {s : SV} {l : List Ent} {Q : Asn} (h : Holds w0 F M (star (EsO s l) Q)) {m : Nat} (hm : m ≤ l.length) (h0 : 0 < m) : Holds w0 F M (star (EsO ⟨if s.c = m then s.a else s.a.map (·.add (m * 2)), s.n - m, s.c - m⟩ (l.drop m)) Q) := by
 obtain ⟨r, ⟨r1, r2, rfl, h1, h2⟩, h3⟩ := h
 rcases h1 with ⟨e1, e2, rfl, rfl⟩ | ⟨b, pre, rest, e, ha, hl, hl2, rfl⟩
 ·simp at hm; omega
 ·by_cases hc : s.c = m
  ·have : l.drop m = [] := List.drop_eq_nil_of_le (by omega)
   rw [this]
   refine ⟨[] ++ r2, ⟨[], r2, rfl, .inl ⟨by simp only; omega, by simp only; omega, rfl, rfl⟩, h2⟩, ?_⟩
   exact (h3.perm List.perm_append_comm).drop
  ·rw [if_neg hc, ha]
   refine ⟨_, ⟨_, r2, rfl, .inr ⟨b, pre ++ esV (l.take m), rest, e, ?_, by simp; omega, by simp; omega, rfl⟩, h2⟩, ?_⟩
   ·simp only [Option.map_some, add_eq, List.length_append, esV_len, List.length_take, Option.some.injEq, Addr.mk.injEq, true_and, and_true]
    omega
   ·have : pre ++ esV (l.take m) ++ (esV (l.drop m) ++ rest) = pre ++ (esV l ++ rest) := by
     rw [List.append_assoc, ← List.append_assoc (esV (l.take m)), ← esV_append, List.take_append_drop]
    rw [this]; exact h3
theorem cpyW {b o n c : Nat} {x : SV} {cs news : List Value} {e : TypeId} {Q : Asn} (h : Holds w0 F M (star (row1 b cs e) Q)) (m : Nat) (em : m = min x.n n) (hn : news.length = m * 2) (hcn : Cells w0 M x.a news) (hnn : x.a = none → m = 0) (hone : ∀ v ∈ news, onecell v = true) (hl : o + m * 2 ≤ cs.length)
  {K : VP} (hK : ∀ M', Holds w0 F M' (star (row1 b (over cs o news) e) Q) → K (.int .i64 (m : Int)) M') : (std PP w0).cpy #[274, 274] 3 [SV.v ⟨some ⟨b, o, none⟩, n, c⟩, SV.v x] K M := by
 obtain ⟨inf, hi, hz, hsz, _⟩ := W.e276
 refine cpy_ok (d := ⟨some ⟨b, o, none⟩, n, c⟩) Tryz.underlying274 hi m em (by rw [hsz]; exact hn) hcn hnn (fun e0 => by cases e0) fun a ea => ?_
 cases ea
 exact ⟨b, o, cs, e, rfl, h.own1, by omega, hone, hK _ h.upd1⟩
theorem rowO {b : Nat} {cs : List Value} {e : TypeId} {Q : Asn} (h : Holds w0 F M (star (row1 b cs e) Q)) {o : Nat} {news : List Value} (hg : ∀ j v, news[j]? = some v → cs[o + j]? = some v) : Cells w0 M (some ⟨b, o, none⟩) news := fun j v hj =>
 ⟨_, rfl, by rw [add_eq, rd_own h.own1]; exact hg j v hj⟩
theorem InsO_ok {Q : Asn} {s x : SV} {l : List Ent} {e : Ent} (h : Holds w0 F M (star (EsO s l) (star (Es x [e]) Q))) {i : Nat} (hi : i ≤ l.length) (hb : l.length ≤ 100000) (hR : ∀ M' s', Holds w0 F M' (star (EsO s' (l.take i ++ e :: l.drop i)) Q) → R s'.v M') :
  C PP w0 Id.sl_Inserttr__tr_ #[SV.v s, .int .i64 (i : Int), SV.v x] R M := by
 have hrs := EsO.rd h
 have hsn := hrs.len
 have hcap := hrs.cap
 have hrx := h.right.rdE
 have hxn : x.n = 1 := hrx.len
 have hx1 : x.a ≠ none := fun e9 => by have := hrx.nul e9; omega
 have hxc : Cells w0 M x.a (esV [e]) := hrx.cells M (Mem.le_refl _)
 have hQ : Holds w0 F M Q := h.right.right
 obtain ⟨inf, hinf, hzz, hsz, hzs, hb1, hb2⟩ := W.e276
 apply sl_Inserttr__tr_.go
 unfold sl_Inserttr__tr_.T nfz
 refine ⟨⟨by omega, by omega, by omega⟩, ?_⟩
 rw [bQ_, if_neg (by omega), bQ_]
 split
 ·rename_i hie
  have hil : i = l.length := by omega
  rw [hil, List.take_length, List.drop_length] at hR
  refine app_ok (s := s) (x := x) (olds := esV l) (news := esV [e]) Tryz.underlying274 hinf hzz (by rw [esV_len, hsz, hsn]) (hrs.cells M (Mem.le_refl _)) (fun e0 => ?_) (by rw [esV_len, hsz, hxn]; rfl) hxc (fun e0 => absurd e0 hx1) hb1 ?_ (fun _ e0 => by omega) (fun a ha hfit => ?_) (fun hgr b c hb0 hw0 hc => ?_)
  ·refine ⟨hrs.nul e0, ?_⟩
   obtain ⟨r, ⟨r1, r2, rfl, h1, h2⟩, h3⟩ := h
   rcases h1 with ⟨_, e2, _⟩ | ⟨b, pre, rest, e', ha, _⟩
   ·exact e2
   ·rw [ha] at e0; cases e0
  ·exact Nat.le_trans (Nat.mul_le_mul (show s.n + x.n ≤ 200000 by omega) hb2) (by decide)
  ·obtain ⟨r, ⟨r1, r2, rfl, h1, h2⟩, h3⟩ := h
   rcases h1 with ⟨e1, e2, _⟩ | ⟨b, pre, rest, e', ha', hl, hl2, rfl⟩
   ·omega
   ·rw [ha] at ha'; cases ha'
    have ho := h3.own (b := b) (cs := pre ++ (esV l ++ rest)) (e := e') List.mem_cons_self
    refine ⟨b, pre.length, _, e', rfl, ho, by rw [hsz]; simp only [List.length_append, esV_len]; omega, esV_one _, ?_⟩
    show shS (SV.v ⟨some ⟨b, pre.length, none⟩, s.n + x.n, s.c⟩) _
    rw [shS_sv]
    refine hR _ ⟨some ⟨b, pre.length, none⟩, s.n + x.n, s.c⟩ ?_
    obtain ⟨c0, c1, rest', hrest⟩ : ∃ c0 c1 rest', rest = c0 :: c1 :: rest' := by
     match rest, hl2 with
     | [], hl2 => simp at hl2; omega
     | [c0], hl2 => simp at hl2; omega
     | c0 :: c1 :: rest', _ => exact ⟨c0, c1, rest', rfl⟩
    have hov : over (pre ++ (esV l ++ rest)) (pre.length + s.n * inf.size) (esV [e]) = pre ++ (esV (l ++ [e]) ++ rest') := by
     rw [hrest, hsz]
     have := over_mid (pre ++ esV l) [c0, c1] rest' (esV [e]) rfl (o := pre.length + s.n * 2) (by rw [List.length_append, esV_len]; omega)
     rw [List.append_assoc] at this
     rw [show (esV l ++ c0 :: c1 :: rest') = esV l ++ ([c0, c1] ++ rest') from by simp, this, esV_append]
     simp
    rw [hov]
    obtain ⟨r3, r4, rfl, g1, g2⟩ := h2
    have h4 : Fit w0 F (M.set b (.row (pre ++ (esV (l ++ [e]) ++ rest')) e')) ((b, pre ++ (esV (l ++ [e]) ++ rest'), e') :: (r3 ++ r4)) := h3.upd (cs' := pre ++ (esV (l ++ [e]) ++ rest')) (e' := e')
    have hrl : rest'.length + 2 = rest.length := by rw [hrest]; simp
    refine ⟨[(b, pre ++ (esV (l ++ [e]) ++ rest'), e')] ++ r4, ⟨[(b, pre ++ (esV (l ++ [e]) ++ rest'), e')], r4, rfl, .inr ⟨b, pre, rest', e', rfl, ?_, ?_, rfl⟩, g2⟩, (h4.perm (r' := ([(b, pre ++ (esV (l ++ [e]) ++ rest'), e')] ++ r4) ++ r3) (List.Perm.cons _ List.perm_append_comm)).drop⟩
    ·rw [List.length_append, List.length_singleton]
     show s.n + x.n = _
     omega
    ·rw [List.length_append, List.length_singleton]
     show _ = s.c * 2
     omega
  ·show shS (SV.v ⟨some ⟨b, 0, none⟩, s.n + x.n, c⟩) _
   rw [shS_sv]
   refine hR _ ⟨some ⟨b, 0, none⟩, s.n + x.n, c⟩ ?_
   have hzlen : ∀ n, (zeros (.agg #[.int .i64 0, .int .i64 0]) n).length = n * 2 := fun n => by rw [zeros_length]; rfl
   have := hQ.newSlk (k := 2) (M' := M.set b (.row (esV l ++ esV [e] ++ zeros (.agg #[.int .i64 0, .int .i64 0]) (c - (s.n + x.n))) 276)) (s := ⟨some ⟨b, 0, none⟩, s.n + x.n, c⟩) (l := esV (l ++ [e])) (Mem.le_set _ hb0) (.inr ⟨b, zeros (.agg #[.int .i64 0, .int .i64 0]) (c - (s.n + x.n)), 276, rfl, by
     rw [esV_len, List.length_append]; simp only [List.length_singleton]; omega, by
     rw [esV_len, List.length_append, hzlen]; simp only [List.length_singleton]; omega, hb0, by
     rw [esV_append]; exact Own.new hw0⟩)
   exact EsO.of this
 ·rename_i hie
  have hil : i < l.length := by omega
  have w1 : w64 (((s.n : Nat) : Int) + ((x.n : Nat) : Int)) = ((l.length + 1 : Nat) : Int) := by rw [w64_in (by omega)]; omega
  have w2 : w64 ((i : Int) + ((x.n : Nat) : Int)) = ((i + 1 : Nat) : Int) := by rw [w64_in (by omega)]; omega
  have w3 : w64 (((l.length + 1 : Nat) : Int) - (i : Int)) = ((l.length + 1 - i : Nat) : Int) := by rw [w64_in (by omega)]; omega
  have adz : ∀ a : Addr, a.add 0 = a := fun a => by simp [Addr.add]
  have hz : (if s.c = (0 : Int).toNat then s.a else s.a.map (·.add ((0 : Int).toNat * 2))) = s.a := by
   split
   ·rfl
   ·cases s.a with
    | none => rfl
    | some a => show some (a.add 0) = some a; rw [adz]
  have t0 : (0 : Int).toNat = 0 := rfl
  simp only [w1, w2, w3, hz]
  rw [bD_]
  split
  ·rename_i hgr
   refine ⟨⟨by omega, by omega, by omega⟩, ?_⟩
   simp only [t0, Int.toNat_natCast, Nat.sub_zero]
   refine appz_ok (s := ⟨s.a, i, s.c⟩) (n := l.length + 1 - i) (olds := esV (l.take i)) Tryz.underlying274 Tryz.underlying3 hinf hzz (by rw [esV_len, List.length_take, hsz]; show min i l.length * 2 = i * 2; omega) (fun j v hj => ?_) (fun e9 => ?_) hb1 ?_ (by show s.c < i + (l.length + 1 - i); omega) (by rw [hsz]; omega) fun b c hb0 hw0 hc => ?_
   ·have hjl := (List.getElem?_eq_some_iff.1 hj).1
    refine hrs.cells M (Mem.le_refl _) j v ?_
    rw [esV_take, List.getElem?_take_of_lt (by rw [esV_len, List.length_take] at hjl; omega)] at hj
    exact hj
   ·have := hrs.nul e9
    show i = 0
    omega
   ·show (i + (l.length + 1 - i)) * inf.bytes ≤ _
    exact Nat.le_trans (Nat.mul_le_mul (show i + (l.length + 1 - i) ≤ 200000 by omega) hb2) (by decide)
   ·show shS (Value.slice (some ⟨b, 0, none⟩) (i + (l.length + 1 - i)) c) _
    have hlen1 : i + (l.length + 1 - i) = l.length + 1 := by omega
    have hc' : l.length + 1 ≤ c := by have : i + (l.length + 1 - i) ≤ c := hc; omega
    rw [hlen1, shS_v]
    simp only
    refine ⟨⟨by omega, by omega, by omega⟩, ?_⟩
    have hzlen : ∀ n, (zeros (.agg #[.int .i64 0, .int .i64 0]) n).length = n * 2 := fun n => by rw [zeros_length]; rfl
    have hH1 := h.new hb0 hw0 (esV (l.take i) ++ zeros (.agg #[.int .i64 0, .int .i64 0]) (l.length + 1 - i) ++ zeros (.agg #[.int .i64 0, .int .i64 0]) (c - (l.length + 1))) 276
    generalize M.set b _ = M1 at hH1 ⊢
    generalize hZ1 : zeros (.agg #[.int .i64 0, .int .i64 0]) (l.length + 1 - i) = Z1 at hH1
    generalize hZ2 : zeros (.agg #[.int .i64 0, .int .i64 0]) (c - (l.length + 1)) = Z2 at hH1
    have hz1 : Z1.length = (l.length + 1 - i) * 2 := by rw [← hZ1, hzlen]
    have hz2 : Z2.length = (c - (l.length + 1)) * 2 := by rw [← hZ2, hzlen]
    change Holds w0 F M1 (star (row1 b (esV (l.take i) ++ Z1 ++ Z2) 276) (star (EsO s l) (star (Es x [e]) Q))) at hH1
    obtain ⟨c0, c1, Z1', hZ1'⟩ : ∃ c0 c1 Z1', Z1 = c0 :: c1 :: Z1' := by
     match Z1, hz1 with
     | [], hz1 => simp at hz1; omega
     | [c0], hz1 => simp at hz1; omega
     | c0 :: c1 :: Z1', _ => exact ⟨c0, c1, Z1', rfl⟩
    have hz1' : Z1'.length = (l.length - i) * 2 := by rw [hZ1'] at hz1; simp only [List.length_cons] at hz1; omega
    have tk : i * 2 = (esV (l.take i)).length := by rw [esV_len, List.length_take]; omega
    have hrx1 := (hH1.right.right).rdE
    have e1 : (Value.slice (if c = i then some ⟨b, 0, none⟩ else (some (⟨b, 0, none⟩ : Addr)).map (·.add (i * 2))) (l.length + 1 - i) (c - i)) = SV.v ⟨some ⟨b, i * 2, none⟩, l.length + 1 - i, c - i⟩ := by
     rw [if_neg (by omega)]
     simp only [Option.map_some, add_eq, Nat.zero_add]; rfl
    rw [e1]
    have hm1 : 1 = min x.n (l.length + 1 - i) := by rw [hxn]; omega
    have hl1 : i * 2 + 1 * 2 ≤ (esV (l.take i) ++ Z1 ++ Z2).length := by simp only [List.length_append, ← tk, hz1, hz2]; omega
    have hca1 : Cells w0 M1 x.a (esV [e]) := hrx1.cells _ (Mem.le_refl _)
    refine cpyW (b := b) (o := i * 2) (n := l.length + 1 - i) (c := c - i) (x := x) (news := esV [e]) hH1 1 hm1 rfl hca1 (fun e9 => absurd e9 hx1) (esV_one _) hl1 fun M2 hH2 => ?_
    rw [zI_]
    refine ⟨⟨by omega, by omega, by omega⟩, ⟨by omega, by omega, by omega⟩, ?_⟩
    have o1 : over (esV (l.take i) ++ Z1 ++ Z2) (i * 2) (esV [e]) = (esV (l.take i) ++ esV [e]) ++ (Z1' ++ Z2) := by
     rw [hZ1', List.append_assoc]
     have := over_mid (esV (l.take i)) [c0, c1] (Z1' ++ Z2) (esV [e]) rfl tk
     simp only [List.cons_append, List.nil_append] at this ⊢
     rw [this, List.append_assoc]
    rw [o1] at hH2
    have hrs2 := EsO.rd hH2.right
    have e2 : (Value.slice (if c = i + 1 then some ⟨b, 0, none⟩ else (some (⟨b, 0, none⟩ : Addr)).map (·.add ((i + 1) * 2))) (l.length + 1 - (i + 1)) (c - (i + 1))) = SV.v ⟨some ⟨b, (i + 1) * 2, none⟩, l.length + 1 - (i + 1), c - (i + 1)⟩ := by
     rw [if_neg (by omega)]
     simp only [Option.map_some, add_eq, Nat.zero_add]; rfl
    have e3 : (Value.slice (if s.c = i then s.a else s.a.map (·.add (i * 2))) (s.n - i) (s.c - i)) = SV.v ⟨(if s.c = i then s.a else s.a.map (·.add (i * 2))), s.n - i, s.c - i⟩ := rfl
    rw [e2, e3]
    have hm2 : l.length - i = min (s.n - i) (l.length + 1 - (i + 1)) := by omega
    have hl2 : (i + 1) * 2 + (l.length - i) * 2 ≤ ((esV (l.take i) ++ esV [e]) ++ (Z1' ++ Z2)).length := by simp only [List.length_append, ← tk, hz1', hz2]; show _ ≤ i * 2 + 2 + _; omega
    refine cpyW (b := b) (o := (i + 1) * 2) (n := l.length + 1 - (i + 1)) (c := c - (i + 1)) (x := ⟨(if s.c = i then s.a else s.a.map (·.add (i * 2))), s.n - i, s.c - i⟩) (news := esV (l.drop i)) hH2 (l.length - i) hm2 (by rw [esV_len, List.length_drop]) (hrs2.tail (by omega)) (fun e9 => ?_) (esV_one _) hl2 fun M3 hH3 => ?_
    ·simp only at e9
     rw [if_neg (by omega)] at e9
     have : s.a = none := by simpa using e9
     have := hrs.nul this; omega
    ·rw [zI_]
     have o2 : over ((esV (l.take i) ++ esV [e]) ++ (Z1' ++ Z2)) ((i + 1) * 2) (esV (l.drop i)) = esV (l.take i ++ e :: l.drop i) ++ Z2 := by
      have := over_mid (esV (l.take i) ++ esV [e]) Z1' Z2 (esV (l.drop i)) (by rw [esV_len, List.length_drop, hz1']) (o := (i + 1) * 2) (by rw [List.length_append, ← tk]; show (i + 1) * 2 = i * 2 + 2; omega)
      rw [this, esV_append, List.append_assoc, List.append_assoc]
      show _ = esV (l.take i) ++ (esV ([e] ++ l.drop i) ++ Z2)
      rw [esV_append, List.append_assoc]
     rw [o2] at hH3
     have hlt : (l.take i ++ e :: l.drop i).length = l.length + 1 := by simp; omega
     refine hR M3 ⟨some ⟨b, 0, none⟩, l.length + 1, c⟩ ?_
     obtain ⟨r, ⟨r1, r2, rfl, q1, r3, r4, rfl, q2, r5, r6, rfl, q3, q4⟩, q5⟩ := hH3
     refine ⟨r1 ++ r6, ⟨r1, r6, rfl, .inr ⟨b, [], Z2, 276, rfl, hlt.symm, by rw [hlt]; simp only; omega, q1⟩, q4⟩, (q5.perm (r' := (r1 ++ r6) ++ (r3 ++ r5)) ?_).drop⟩
     rw [List.append_assoc]
     refine List.Perm.append_left r1 ?_
     rw [← List.append_assoc]
     exact List.perm_append_comm
  ·rename_i hgr
   refine ⟨⟨by omega, by omega, by omega⟩, ⟨by omega, by omega, by omega⟩, ?_⟩
   simp only [t0, Int.toNat_natCast, Nat.sub_zero]
   obtain ⟨r, ⟨r1, r2, rfl, q1, r3, r4, rfl, q2, q3⟩, q4⟩ := h
   rcases q1 with ⟨e1, e2, _⟩ | ⟨b, pre, rest, e9, ha, hl, hl2, rfl⟩
   ·omega
   ·have hnd := q4.nd
    rcases q2 with ⟨rfl, _⟩ | ⟨b2, rest2, e92, ha2, hl3, hl4, rfl⟩
    ·exact absurd rfl hx1
    ·have o1 := q4.own (b := b) (cs := pre ++ (esV l ++ rest)) (e := e9) (by simp)
     have o2 := q4.own (b := b2) (cs := esV [e] ++ rest2) (e := e92) (by simp)
     have hne : b2 ≠ b := fun e0 => by
      simp only [List.cons_append, List.nil_append, List.map_cons, List.nodup_cons, List.mem_cons, not_or] at hnd
      exact hnd.1.1 e0.symm
     have hH1 : Holds w0 F M (star (row1 b (pre ++ (esV l ++ rest)) e9) (star (row1 b2 (esV [e] ++ rest2) e92) Q)) := ⟨_, ⟨_, _, rfl, rfl, _, r4, rfl, rfl, q3⟩, q4⟩
     simp only [ha, Option.map_some, add_eq]
     have hc1 : ¬ s.c = i := by omega
     obtain ⟨c0, c1, rest', hrest⟩ : ∃ c0 c1 rest', rest = c0 :: c1 :: rest' := by
      match rest, hl2 with
      | [], hl2 => simp at hl2; omega
      | [c0], hl2 => simp at hl2; omega
      | c0 :: c1 :: rest', _ => exact ⟨c0, c1, rest', rfl⟩
     have hrl : rest'.length + 2 = rest.length := by rw [hrest]; simp
     have hov : ∀ (o' n' c' : Nat) (R' : VP), R' (.bool false) M → C PP w0 Id.sl_overlapstr_ #[SV.v x, .slice (some ⟨b, o', none⟩) n' c'] R' M := fun o' n' c' R' hR' => by
      obtain ⟨xa, xn, xc⟩ := x
      simp only at ha2
      subst ha2
      exact overlaps_ok (size := 2) (tS := 274) (tR := 4) (e := 276) (show PP.funcs[Id.sl_overlapstr_]? = some Tryz.f276 from Tryz.func276) (by kernel_rfl) (by kernel_rfl) (by kernel_rfl) (by kernel_rfl) Tryz.underlying274 (by kernel_rfl) hne o2 o1 (by
       intro e0
       have := congrArg List.length e0
       rw [List.length_append, List.length_append, esV_len] at this
       simp only [List.length_nil] at this
       omega) hR'
     have hc2 : ¬ s.c = i + 1 := by omega
     simp only [if_neg hc1, if_neg hc2]
     refine hov _ _ _ _ ?_
     rw [shB_v, Bool.not_false, bs_true]
     refine ⟨⟨by omega, by omega, by omega⟩, ⟨by omega, by omega, by omega⟩, ?_⟩
     have hsrc : ∀ (L : List Value) (M' : Mem), Holds w0 F M' (star (row1 b (pre ++ L) e9) (star (row1 b2 (esV [e] ++ rest2) e92) Q)) → ∀ news, (∀ j v, news[j]? = some v → L[i * 2 + j]? = some v) → Cells w0 M' (some ⟨b, pre.length + i * 2, none⟩) news := fun L M' h' news hn => rowO h' fun j v hj => by
      rw [Nat.add_assoc, List.getElem?_append_right (by omega), show pre.length + (i * 2 + j) - pre.length = i * 2 + j from by omega]
      exact hn j v hj
     have e2 : (Value.slice (some (⟨b, pre.length + i * 2, none⟩ : Addr)) (l.length + 1 - i) (s.c - i)) = SV.v ⟨some ⟨b, pre.length + i * 2, none⟩, l.length + 1 - i, s.c - i⟩ := rfl
     have e3 : (Value.slice (some (⟨b, pre.length + (i + 1) * 2, none⟩ : Addr)) (l.length + 1 - (i + 1)) (s.c - (i + 1))) = SV.v ⟨some ⟨b, pre.length + (i + 1) * 2, none⟩, l.length + 1 - (i + 1), s.c - (i + 1)⟩ := rfl
     rw [e2, e3]
     ·have hm3 : l.length - i = min (l.length + 1 - i) (l.length + 1 - (i + 1)) := by omega
      refine cpyW (news := esV (l.drop i)) hH1 (l.length - i) hm3 (by rw [esV_len, List.length_drop]) (hsrc _ _ hH1 _ fun j v hj => ?_) (fun e0 => by cases e0) (esV_one _) (by simp only [List.length_append, esV_len]; omega) fun M2 hH2 => ?_
      ·rw [esV_drop, List.getElem?_drop] at hj
       have := (List.getElem?_eq_some_iff.1 hj).1
       rw [List.getElem?_append_left this]; exact hj
      ·rw [zI_]
       refine ⟨⟨by omega, by omega, by omega⟩, ?_⟩
       have tk : (esV (l.take (i + 1))).length = (i + 1) * 2 := by rw [esV_len, List.length_take]; omega
       have tk0 : (esV (l.take i)).length = i * 2 := by rw [esV_len, List.length_take]; omega
       have o3 : over (pre ++ (esV l ++ rest)) (pre.length + (i + 1) * 2) (esV (l.drop i)) = pre ++ (esV (l.take (i + 1)) ++ (esV (l.drop i) ++ rest')) := by
        have h9 : pre ++ (esV l ++ rest) = (pre ++ esV (l.take (i + 1))) ++ ((esV (l.drop (i + 1)) ++ [c0, c1]) ++ rest') := by
         rw [hrest, List.append_assoc]
         congr 1
         rw [show esV l = esV (l.take (i + 1)) ++ esV (l.drop (i + 1)) from by rw [← esV_append, List.take_append_drop]]
         simp
        rw [h9, over_mid (pre ++ esV (l.take (i + 1))) (esV (l.drop (i + 1)) ++ [c0, c1]) rest' (esV (l.drop i)) (by rw [List.length_append, esV_len, esV_len, List.length_drop, List.length_drop]; simp; omega) (by rw [List.length_append, tk]), List.append_assoc]
       rw [o3] at hH2
       have hxr : Cells w0 M2 x.a (esV [e]) := by
        rw [ha2]
        refine rowO hH2.rot fun j v hj => ?_
        have := (List.getElem?_eq_some_iff.1 hj).1
        rw [Nat.zero_add, List.getElem?_append_left this]; exact hj
       have hxa : x.a = none → (1 : Nat) = 0 := fun e0 => absurd e0 hx1
       have hxm : (1 : Nat) = min x.n (l.length + 1 - i) := by rw [hxn]; omega
       refine cpyW (x := x) (news := esV [e]) hH2 1 hxm rfl hxr hxa (esV_one _) (by simp only [List.length_append, tk, esV_len, List.length_drop]; omega) fun M3 hH3 => ?_
       rw [zI_]
       have o4 : over (pre ++ (esV (l.take (i + 1)) ++ (esV (l.drop i) ++ rest'))) (pre.length + i * 2) (esV [e]) = pre ++ (esV (l.take i ++ e :: l.drop i) ++ rest') := by
        have h9 : pre ++ (esV (l.take (i + 1)) ++ (esV (l.drop i) ++ rest')) = (pre ++ esV (l.take i)) ++ (eV l[i] ++ (esV (l.drop i) ++ rest')) := by
         rw [List.take_succ_eq_append_getElem hil, esV_append]
         simp [esV]
        rw [h9, over_mid (pre ++ esV (l.take i)) (eV l[i]) (esV (l.drop i) ++ rest') (esV [e]) rfl (by rw [List.length_append, tk0]), esV_append, List.append_assoc]
        show _ = pre ++ (esV (l.take i) ++ esV ([e] ++ l.drop i) ++ rest')
        rw [esV_append]; simp
       rw [o4] at hH3
       have hlt : (l.take i ++ e :: l.drop i).length = l.length + 1 := by simp; omega
       refine hR M3 ⟨some ⟨b, pre.length, none⟩, l.length + 1, s.c⟩ ?_
       obtain ⟨r, ⟨r1, r2, rfl, g1, r3', r4', rfl, g2, g3⟩, g4⟩ := hH3
       refine ⟨r1 ++ r4', ⟨r1, r4', rfl, .inr ⟨b, pre, rest', e9, rfl, hlt.symm, by rw [hlt]; simp only; omega, g1⟩, g3⟩, (g4.perm (r' := (r1 ++ r4') ++ r3') ?_).drop⟩
       rw [List.append_assoc]
       exact List.perm_append_comm.append_left r1
end
end Go.Proofs.YtodobkbnmjgkdaaGreat.HL
namespace Go.Proofs.YtodobkbnmjgkdaaGreat.HL
open Go.RowKit (Below)
open Go.Proofs
theorem perm_map_inv {α β : Type} {f : α → β} {l : List α} {Z : List β} (h : Z.Perm (l.map f)) : ∃ W : List α, W.Perm l ∧ Z = W.map f := by
 have key : ∀ {Z Y : List β}, Z.Perm Y → ∀ l : List α, Y = l.map f → ∃ W : List α, W.Perm l ∧ Z = W.map f := by
  intro Z Y h
  induction h with
  | nil => intro l e; exact ⟨[], by cases l with | nil => exact List.Perm.refl _ | cons x l => simp at e, rfl⟩
  | cons x h ih =>
   intro l e
   match l, e with
   | [], e => simp at e
   | y :: l, e =>
    simp only [List.map_cons, List.cons.injEq] at e
    obtain ⟨W, h1, h2⟩ := ih l e.2
    exact ⟨y :: W, h1.cons y, by rw [h2, e.1]; rfl⟩
  | swap x y t =>
   intro l e
   match l, e with
   | [], e => simp at e
   | [u], e => simp at e
   | u :: v :: l, e =>
    simp only [List.map_cons, List.cons.injEq] at e
    exact ⟨v :: u :: l, List.Perm.swap _ _ _, by rw [e.1, e.2.1, e.2.2]; rfl⟩
  | trans h1 h2 ih1 ih2 =>
   intro l e
   obtain ⟨W, g1, g2⟩ := ih2 l e
   obtain ⟨W2, g3, g4⟩ := ih1 W g2
   exact ⟨W2, g3.trans g1, g4⟩
 exact key h l rfl
namespace ST
def rks (l : List Tn) : List Ent := l.map fun t => ((t.n : Int), (t.k : Int))
def SrtK (l : List Tn) : Prop := l.Pairwise fun a b => a.k ≤ b.k
theorem srt_rks {l : List Tn} (h : SrtR (rks l)) : SrtK l := by
 unfold SrtR rks at h
 rw [List.pairwise_map] at h
 exact h.imp fun h => by simpa using h
theorem insK_srt {l : List Tn} {w : Tn} {j : Nat} (h : SrtK l) (h1 : ∀ i x, i < j → l[i]? = some x → x.k < w.k) (h2 : ∀ x, l[j]? = some x → w.k ≤ x.k) : SrtK (l.take j ++ w :: l.drop j) := by
 unfold SrtK at *
 have hs : (l.take j ++ l.drop j).Pairwise fun a b => a.k ≤ b.k := by rw [List.take_append_drop]; exact h
 obtain ⟨q1, q2, q3⟩ := List.pairwise_append.1 hs
 have ht : ∀ x ∈ l.take j, x.k < w.k := fun x hx => by
  obtain ⟨i, hi⟩ := List.getElem?_of_mem hx
  have hlt := (List.getElem?_eq_some_iff.1 hi).1
  rw [List.length_take] at hlt
  rw [List.getElem?_take_of_lt (by omega)] at hi
  exact h1 i x (by omega) hi
 have hd : ∀ x ∈ l.drop j, w.k ≤ x.k := fun x hx => by
  cases hl : l.drop j with
  | nil => rw [hl] at hx; cases hx
  | cons y m =>
   have hy : l[j]? = some y := by
    have : (l.drop j)[0]? = some y := by rw [hl]; rfl
    rw [List.getElem?_drop] at this; simpa using this
   have hwy := h2 y hy
   rw [hl] at hx q2
   rcases List.mem_cons.1 hx with rfl | hx
   ·exact hwy
   ·exact Nat.le_trans hwy ((List.pairwise_cons.1 q2).1 x hx)
 refine List.pairwise_append.2 ⟨q1, List.pairwise_cons.2 ⟨hd, q2⟩, fun a ha b hb => ?_⟩
 rcases List.mem_cons.1 hb with rfl | hb
 ·exact Nat.le_of_lt (ht a ha)
 ·exact q3 a ha b hb
theorem rk_small {z : Nat} {t : Tn} (h : OkT z t) {n : Nat} (hn : (ndsT t).length ≤ n) : t.k ≤ n := by
 have h1 := okT_size h
 have h2 : t.k < 2 ^ t.k := Nat.lt_two_pow_self
 omega
end ST
section
variable {w0 : World} {M F : Mem} {R : VP} {a : Nat} {α : AS}
open Go.Proofs.YtodobkbnmjgkdaaGreat.HL.ST
theorem stBox {P : Asn} {b : Nat} {c0 c1 : Value} {x y : Int} (h : Holds w0 F M (star (row1 b [c0, c1] tRk) P)) {K : Mem → Prop} (hK : ∀ M', Holds w0 F M' (star (row1 b [.int .i64 x, .int .i64 y] tRk) P) → K M') :
  (std PP w0).st tRk ⟨b, 0, none⟩ (.agg #[.int .i64 x, .int .i64 y]) (fun M2 => K M2) M := by
 refine st_agg (vs := [.int .i64 x, .int .i64 y]) W.g276 h.own1 (by simp) (by intro v hv; simp only [List.mem_cons, List.not_mem_nil, or_false] at hv; rcases hv with rfl | rfl <;> rfl) ?_
 exact hK _ (h.upd1 (cs' := over [c0, c1] 0 [.int .i64 x, .int .i64 y]) (e' := tRk))
theorem bldR (x y : Int) : (std PP w0).bld tRk [(0, .int .i64 x), (1, .int .i64 y)] = some (.agg #[.int .i64 x, .int .i64 y]) := by kernel_rfl
theorem box0 {P : Asn} {b : Nat} {x y : Int} (h : Holds w0 F M (star (row1 b [.int .i64 x, .int .i64 y] tRk) P)) : (std PP w0).ld 3 ⟨b, 0, none⟩ M = some (.int .i64 x) := by
 rw [ld_one W.c3]; exact rd_own (o := 0) h.own1
theorem box1 {P : Asn} {b : Nat} {x y : Int} (h : Holds w0 F M (star (row1 b [.int .i64 x, .int .i64 y] tRk) P)) : (std PP w0).ld 2 (Addr.add ⟨b, 0, none⟩ 1) M = some (.int .i64 y) := by
 rw [ld_one W.c2, add_eq]; exact rd_own (o := 1) h.own1
theorem box01 {P : Asn} {b : Nat} {x y : Int} (h : Holds w0 F M (star (row1 b [.int .i64 x, .int .i64 y] tRk) P)) : (std PP w0).ld tRk ⟨b, 0, none⟩ M = some (.agg #[.int .i64 x, .int .i64 y]) := by
 have o := h.own1
 exact ld_agg (cs := [.int .i64 x, .int .i64 y]) W.g276 (fun j v hj => by rw [add_eq, rd_own o, Nat.zero_add]; exact hj)
theorem Carry_ok (hA : Holds w0 F M (arenaA a α)) {z : Nat} (hz : 1 ≤ z) {f : Nat → Held} {l : List Tn} {s : SV} (hs : RdI w0 F .i64 s (intsN (l.map (·.n)))) (hst : ∀ t ∈ l, StT α t) (hlb : Lb α f (ndsL l)) (hnd : (celF f (ndsL l)).Nodup) (hok : ∀ t ∈ l, OkT z t) (hod : ∀ t ∈ l, OdT f t) (hl20 : l.length ≤ 20)
  (h : ∀ M' β l', Holds w0 F M' (arenaA a β) → St β (-1) (fo l') → (ndsL l').Perm (ndsL l) → (∀ t ∈ l', OkT z t) → (∀ t ∈ l', OdT f t) → Rs l' → AS.Chg (fun c => c ∈ ndsL l) (14 * l.length) α β → (∀ c g, 5 ≤ g → β.get c g = α.get c g) → R (.int .i64 (fo l').root) M') :
  C PP w0 Id.tC_ #[.pointer (some ⟨a, 0, none⟩), SV.v s] R M := by
 apply tC_.go
 intro pts H
 unfold tC_.T nfz
 have hI := hA.inv
 have hI65 := hI.n
 have hnn := celF_nd hnd
 have hsn := hs.len
 simp only [intsN, List.length_map] at hsn
 have hsz := nodup_len α.n _ hnn fun y hy => AS.live_lt hI (hlb y hy).ln
 have hmemn : ∀ t ∈ l, t.n ∈ ndsL l := fun t ht => mem_ndsL.2 ⟨t, ht, List.mem_cons_self⟩
 have key2 : ∀ (m : Nat) (W out : List Tn) (sW sO : SV) (M1 : Mem) (β : AS) (k : Nat), W.length = m → Holds w0 F M1 (star (EsO sW (rks W)) (star (SlA sO ((intsN (out.map (·.n))).map (Value.int .i64))) (arenaA a β))) → (∀ t ∈ out ++ W, StT β t) → (ndsL (out ++ W)).Perm (ndsL l) → (∀ t ∈ out ++ W, OkT z t) → (∀ t ∈ out ++ W, OdT f t) →
   Rs out → SrtK W → (∀ x ∈ out, ∀ y ∈ W, x.k < y.k) → out.length + W.length ≤ l.length → AS.Chg (fun c => c ∈ ndsL l) ((l.length : Int) + 11 * ((l.length : Int) - (out.length + W.length))) α β → (∀ c g, 5 ≤ g → β.get c g = α.get c g) → W.length < k →
   tC_.L2 pts k (some ⟨a, 0, none⟩) sW sO M1 := by
  intro m
  induction m with
  | zero =>
   intro W out sW sO M1 β k hW hH hst1 hp hok1 hod1 hrs hsr hlt hlen hc hg hk
   have : W = [] := List.eq_nil_of_length_eq_zero hW
   subst this
   obtain ⟨k, rfl⟩ : ∃ j, k = j + 1 := ⟨k - 1, by omega⟩
   have hWn := (EsO.rd hH).len
   simp only [rks, List.map_nil, List.length_nil] at hWn
   simp only [List.append_nil] at hst1 hp hok1 hod1
   refine Eq.mpr (H.L2 ..) ?_
   unfold tC_.L2.T nfz
   rw [bD_, if_neg (by omega)]
   have hnl : (ndsL out).Nodup := hp.nodup_iff.2 hnn
   have hlive : ∀ t ∈ out, β.live t.n = true := fun t ht => by
    rw [hc.live]; exact (hlb t.n (hp.mem_iff.1 (mem_ndsL.2 ⟨t, ht, List.mem_cons_self⟩))).ln
   have hlw : ∀ n ∈ intsN (out.map (·.n)), (Lit.int .i64 n).wf = true := fun n hn => by
    obtain ⟨x, hx, rfl⟩ := List.mem_map.1 hn
    obtain ⟨t, ht, rfl⟩ := List.mem_map.1 hx
    have := AS.live_lt hI (hlb t.n (hp.mem_iff.1 (mem_ndsL.2 ⟨t, ht, List.mem_cons_self⟩))).ln
    exact wf64 (by unfold In64; omega)
   obtain ⟨F', hle, hB, hro⟩ := hH.right.freeze hlw (by simp [intsN]; simp at hlen; omega)
   refine Row_ok hB hro hst1 hlive hnl (by simp at hlen; omega) fun M2 γ hB2 hst2 hc2 hg2 => ?_
   rw [zI_]
   refine h M2 γ out (hB2.uF_ hle) hst2 hp hok1 hod1 hrs ((hc.trans (hc2.mono (T := fun c => c ∈ ndsL l) (fun c ⟨t, ht, e⟩ => by rw [e]; exact hp.mem_iff.1 (mem_ndsL.2 ⟨t, ht, List.mem_cons_self⟩)) (Int.le_refl _))).mono (fun _ h => h) (by simp at hlen ⊢; omega)) (fun c g hx => (hg2 c g hx).trans (hg c g hx))
  | succ m ih =>
   intro W out sW sO M1 β k hW hH hst1 hp hok1 hod1 hrs hsr hlt hlen hc hg hk
   obtain ⟨x, W', rfl⟩ : ∃ x W', W = x :: W' := by
    cases W with
    | nil => simp at hW
    | cons x W' => exact ⟨x, W', rfl⟩
   obtain ⟨k, rfl⟩ : ∃ j, k = j + 1 := ⟨k - 1, by omega⟩
   simp only [List.length_cons] at hW hlen hk
   have hWrd := EsO.rd hH
   have hWn := hWrd.len
   have hWc := hWrd.cap
   simp only [rks, List.map_cons, List.length_cons, List.length_map] at hWn
   have hxm : x ∈ out ++ x :: W' := by simp
   have alone : ∀ (M2 : Mem) (Q : Asn), (∀ y ∈ W', x.k < y.k) → Holds w0 F M2 (star (EsO sW (rks (x :: W'))) (star (SlA sO ((intsN (out.map (·.n))).map (Value.int .i64))) (arenaA a β))) →
     (std PP w0).bsl 53 1 [(0, .int .i64 (x.n : Int))] (fun v39 M40 => shS v39 fun s41 => (std PP w0).app #[53, 53] 53 [SV.v sO, SV.v s41] (fun v42 M43 => shS v42 fun s44 => tC_.L2 pts k (some ⟨a, 0, none⟩) ⟨(if sW.c = (1 : Int).toNat then sW.a else sW.a.map (·.add ((1 : Int).toNat * 2))), (((sW.n : Nat) : Int).toNat - (1 : Int).toNat), (sW.c - (1 : Int).toNat)⟩ s44 M43) M40) M2 := by
    intro M2 Q hx h2
    refine push_ok (K := fun s27 M26 => tC_.L2 pts k _ _ s27 M26) h2.rot (by simp [intsN]; omega) fun M3 sO' h3 => ?_
    have e1 : (⟨(if sW.c = (1 : Int).toNat then sW.a else sW.a.map (·.add ((1 : Int).toNat * 2))), (((sW.n : Nat) : Int).toNat - (1 : Int).toNat), (sW.c - (1 : Int).toNat)⟩ : SV) = ⟨if sW.c = 1 then sW.a else sW.a.map (·.add (1 * 2)), sW.n - 1, sW.c - 1⟩ := rfl
    rw [e1]
    have h4 := EsO.drop h3.rot (m := 1) (by simp [rks]) (by decide)
    refine ih W' (out ++ [x]) _ sO' M3 β k (by omega) ?_ (by simpa using hst1) (by simpa using hp) (by simpa using hok1) (by simpa using hod1) ?_ (List.pairwise_cons.1 hsr).2 ?_ (by simp; omega) (hc.mono (fun _ h => h) (by simp; omega)) hg (by omega)
    ·rw [show intsN ((out ++ [x]).map (·.n)) = intsN (out.map (·.n)) ++ [(x.n : Int)] from by simp [intsN]]
     exact h4
    ·refine List.pairwise_append.2 ⟨hrs, List.pairwise_singleton _ _, fun u hu v hv => ?_⟩
     rw [List.mem_singleton.1 hv]; exact hlt u hu x List.mem_cons_self
    ·intro u hu v hv
     rcases List.mem_append.1 hu with hu | hu
     ·exact hlt u hu v (List.mem_cons_of_mem _ hv)
     ·rw [List.mem_singleton.1 hu]; exact hx v hv
   refine Eq.mpr (H.L2 ..) ?_
   unfold tC_.L2.T nfz
   rw [bD_, if_pos (by omega)]
   refine rdR (x := ((x.n : Int), (x.k : Int))) hWrd (Mem.le_refl _) 0 rfl rfl ?_
   intro bx hbx hwx
   have hX0 : Holds w0 F _ (star (row1 bx _ tRk) _) := hH.new hbx hwx [.int .i64 0, .int .i64 0] tRk
   refine stBox hX0 fun M2 hX => ?_
   simp only [box0 hX, ob_v, zI_]
   rw [bQ_]
   split
   ·rename_i h1
    have hW0 : W' = [] := List.eq_nil_of_length_eq_zero (by omega)
    refine ⟨⟨by omega, by omega, by omega⟩, ?_⟩
    exact alone M2 (fun _ => True) (fun y hy => by rw [hW0] at hy; cases hy) hX.right
   ·rename_i h1
    obtain ⟨y, W2, rfl⟩ : ∃ y W2, W' = y :: W2 := by
     cases W' with
     | nil => simp at hWn; omega
     | cons y W2 => exact ⟨y, W2, rfl⟩
    simp only [List.length_cons] at hW hlen hk hWn
    have hrd2 := EsO.rd hX.right
    refine rdE1 W.c2 (x := ((y.n : Int), (y.k : Int))) hrd2 (Mem.le_refl _) 1 rfl rfl ?_
    simp only [box1 hX, ob_v, zI_]
    rw [bs_bne]
    obtain ⟨sr1, sr2⟩ := List.pairwise_cons.1 hsr
    obtain ⟨sr3, sr4⟩ := List.pairwise_cons.1 sr2
    split
    rotate_left
    ·rename_i hxy
     refine ⟨⟨by omega, by omega, by omega⟩, ?_⟩
     refine alone M2 (fun _ => True) (fun u hu => ?_) hX.right
     have h2 := sr1 y List.mem_cons_self
     have h3 : x.k < y.k := by
      have : ¬ ((y.k : Int) = (x.k : Int)) := hxy
      omega
     rcases List.mem_cons.1 hu with rfl | hu
     ·exact h3
     ·exact Nat.lt_of_lt_of_le h3 (sr3 u hu)
    ·rename_i hxy
     have hkk : x.k = y.k := by
      have : (y.k : Int) = (x.k : Int) := hxy
      omega
     refine Eq.mpr (H.J3 ..) ?_
     unfold tC_.J3.T nfz
     have hym : y ∈ out ++ x :: y :: W2 := by simp
     have hxn : ∀ c ∈ ndsT x, c ∈ ndsL l := fun c hc => hp.mem_iff.1 (mem_ndsL.2 ⟨x, hxm, hc⟩)
     have hyn : ∀ c ∈ ndsT y, c ∈ ndsL l := fun c hc => hp.mem_iff.1 (mem_ndsL.2 ⟨y, hym, hc⟩)
     have hpn : (ndsL (out ++ x :: y :: W2)).Nodup := hp.nodup_iff.2 hnn
     have hsplit : (ndsL (out ++ x :: y :: W2)).Perm ((ndsT x ++ ndsT y) ++ ndsL (out ++ W2)) := by
      have : (ndsL (out ++ x :: y :: W2)).Perm (ndsL (x :: y :: (out ++ W2))) := ndsL_perm (by
       refine List.perm_middle.trans (List.Perm.cons _ ?_)
       exact List.perm_middle)
      refine this.trans ?_
      show ((ndsT x) ++ ((ndsT y) ++ ndsL (out ++ W2))).Perm _
      rw [List.append_assoc]
     have hnd3 := hsplit.nodup_iff.1 hpn
     obtain ⟨nd1, nd2, nd3⟩ := List.nodup_append.1 hnd3
     have hlb1 : Lb β f (ndsT x ++ ndsT y) := (hlb.congr (fun c _ g hg' => hg c g (by omega)) (fun c _ => by rw [hc.live])).sub fun n hn => by
      rcases List.mem_append.1 hn with hn | hn
      ·exact hxn n hn
      ·exact hyn n hn
     have hxk : x.k ≤ 65536 := rk_small (hok1 x hxm) (Nat.le_trans (ndsT_le hxm) (by rw [hp.length_eq]; omega))
     have hne : (f x.n).1 ≠ (f y.n).1 := fun e => by
      have := celF_inj hnd x.n (hxn _ List.mem_cons_self) y.n (hyn _ List.mem_cons_self) e
      exact (List.nodup_append.1 nd1).2.2 x.n List.mem_cons_self y.n List.mem_cons_self this
     have fin : ∀ (M3 : Mem) (γ : AS) (by_ : Nat) (Q : Asn), Holds w0 F M3 (star (row1 by_ [.int .i64 ((lnk f x y).n : Int), .int .i64 ((x.k : Int) + 1)] tRk) (star (EsO sW (rks (x :: y :: W2))) (star (SlA sO ((intsN (out.map (·.n))).map (Value.int .i64))) (arenaA a γ)))) →
       StT γ (lnk f x y) → AS.Chg (fun c => c = x.n ∨ c = y.n) 11 β γ → (∀ c g, 5 ≤ g → γ.get c g = β.get c g) →
       ∃ k84, tC_.L5 pts k k84 (some ⟨a, 0, none⟩) ⟨(if sW.c = (2 : Int).toNat then sW.a else sW.a.map (·.add ((2 : Int).toNat * 2))), (((sW.n : Nat) : Int).toNat - (2 : Int).toNat), (sW.c - (2 : Int).toNat)⟩ sO ⟨by_, 0, none⟩ 0 M3 := by
      intro M3 γ by_ Q hY hstw hcγ hgγ
      have e1 : (⟨(if sW.c = (2 : Int).toNat then sW.a else sW.a.map (·.add ((2 : Int).toNat * 2))), (((sW.n : Nat) : Int).toNat - (2 : Int).toNat), (sW.c - (2 : Int).toNat)⟩ : SV) = ⟨if sW.c = 2 then sW.a else sW.a.map (·.add (2 * 2)), sW.n - 2, sW.c - 2⟩ := rfl
      rw [e1]
      have hY1 := (EsO.drop hY.rot (m := 2) (by simp [rks]) (by decide)).rot
      rw [show (rks (x :: y :: W2)).drop 2 = rks W2 from rfl] at hY1
      have hWk := lnk_k f hkk
      generalize hsW2 : (⟨if sW.c = 2 then sW.a else sW.a.map (·.add (2 * 2)), sW.n - 2, sW.c - 2⟩ : SV) = sW2 at hY1 ⊢
      have hrdW := EsO.rd hY1.rot
      have hlW := hrdW.len
      simp only [rks, List.length_map] at hlW
      have put : ∀ j, j ≤ W2.length → (∀ i u, i < j → W2[i]? = some u → u.k < (lnk f x y).k) → (∀ u, W2[j]? = some u → (lnk f x y).k ≤ u.k) → tC_.J4 pts k (some ⟨a, 0, none⟩) sW2 sO ⟨by_, 0, none⟩ (j : Int) M3 := by
       intro j hj hlo hhi
       refine Eq.mpr (H.J4 ..) ?_
       unfold tC_.J4.T nfz
       simp only [box01 hY1, ob_v, sA_, sC_, zI_, zN_]
       refine newR hY1.right _ _ fun M4 s4 l4 h4 => ?_
       rw [shS_sv]
       refine InsO_ok (i := j) (e := (((lnk f x y).n : Int), (x.k : Int) + 1)) h4.rot (by simp [rks]; omega) (by simp [rks]; omega) fun M5 s5 h5 => ?_
       rw [shS_sv]
       have ew : (rks W2).take j ++ (((lnk f x y).n : Int), (x.k : Int) + 1) :: (rks W2).drop j = rks (W2.take j ++ lnk f x y :: W2.drop j) := by
        unfold rks
        rw [List.map_append, List.map_cons, List.map_take, List.map_drop, hWk]; rfl
       rw [ew] at h5
       have hperm : (W2.take j ++ lnk f x y :: W2.drop j).Perm (lnk f x y :: W2) := List.perm_middle.trans (List.Perm.cons _ (by rw [List.take_append_drop]))
       have hwl : (W2.take j ++ lnk f x y :: W2.drop j).length = W2.length + 1 := by rw [hperm.length_eq, List.length_cons]
       have hmem : ∀ t, t ∈ out ++ (W2.take j ++ lnk f x y :: W2.drop j) → t = lnk f x y ∨ t ∈ out ++ W2 := fun t ht => by
        rcases List.mem_append.1 ht with ht | ht
        ·exact .inr (by simp [ht])
        ·rcases List.mem_cons.1 (hperm.mem_iff.1 ht) with ht | ht
         ·exact .inl ht
         ·exact .inr (by simp [ht])
       have hold : ∀ t ∈ out ++ W2, t ∈ out ++ x :: y :: W2 := fun t ht => by
        rcases List.mem_append.1 ht with ht | ht <;> simp [ht]
       have hwok := lnk_ok f hz (hok1 x hxm) (hok1 y hym) hkk
       refine ih (W2.take j ++ lnk f x y :: W2.drop j) out s5 sO M5 γ k (by omega) h5 (fun t ht => ?_) ?_ (fun t ht => ?_) (fun t ht => ?_) hrs (insK_srt sr4 hlo hhi) ?_ (by omega) ((hc.trans (hcγ.mono (T := fun c => c ∈ ndsL l) (fun c hc' => by rcases hc' with rfl | rfl; exact hxn _ List.mem_cons_self; exact hyn _ List.mem_cons_self) (Int.le_refl _))).mono (fun _ h => h) (by rw [hwl]; simp only [List.length_cons]; omega)) (fun c g hx => (hgγ c g hx).trans (hg c g hx)) (by omega)
       ·rcases hmem t ht with rfl | ht
        ·exact hstw
        ·refine (hst1 t (hold t ht)).chg hcγ fun c hct hcS => ?_
         have hcm : c ∈ ndsL (out ++ W2) := mem_ndsL.2 ⟨t, ht, hct⟩
         rcases hcS with rfl | rfl
         ·exact nd3 x.n (by simp [ndsT]) _ hcm rfl
         ·exact nd3 y.n (by simp [ndsT]) _ hcm rfl
       ·refine List.Perm.trans ?_ hp
        refine List.Perm.trans ?_ hsplit.symm
        have h6 : (ndsL (out ++ (W2.take j ++ lnk f x y :: W2.drop j))).Perm (ndsL (lnk f x y :: (out ++ W2))) := ndsL_perm ((hperm.append_left out).trans List.perm_middle)
        refine h6.trans ?_
        show (ndsT (lnk f x y) ++ ndsL (out ++ W2)).Perm _
        exact (lnk_nds f x y).append_right _
       ·rcases hmem t ht with rfl | ht
        ·exact hwok.1
        ·exact hok1 t (hold t ht)
       ·rcases hmem t ht with rfl | ht
        ·exact lnk_od (hod1 x hxm) (hod1 y hym) hne
        ·exact hod1 t (hold t ht)
       ·intro u hu v hv
        have h6 := hlt u hu x (by simp)
        rcases List.mem_cons.1 (hperm.mem_iff.1 hv) with rfl | hv
        ·rw [hWk]; omega
        ·exact hlt u hu v (by simp [hv])
      have key5 : ∀ (d j k5 : Nat), j + d = W2.length → (∀ i u, i < j → W2[i]? = some u → u.k < (lnk f x y).k) → d < k5 → tC_.L5 pts k k5 (some ⟨a, 0, none⟩) sW2 sO ⟨by_, 0, none⟩ (j : Int) M3 := by
       intro d
       induction d with
       | zero =>
        intro j k5 hj hlo hk5
        obtain ⟨k5, rfl⟩ : ∃ i, k5 = i + 1 := ⟨k5 - 1, by omega⟩
        refine Eq.mpr (H.L5 ..) ?_
        unfold tC_.L5.T nfz
        rw [bD_, if_neg (by omega)]
        exact put j (by omega) hlo fun u hu => by
         have := (List.getElem?_eq_some_iff.1 hu).1
         omega
       | succ d ihd =>
        intro j k5 hj hlo hk5
        obtain ⟨k5, rfl⟩ : ∃ i, k5 = i + 1 := ⟨k5 - 1, by omega⟩
        have hjl : j < W2.length := by omega
        have hget : (rks W2)[j]? = some ((W2[j].n : Int), (W2[j].k : Int)) := by
         unfold rks
         rw [List.getElem?_map, List.getElem?_eq_getElem hjl]; rfl
        refine Eq.mpr (H.L5 ..) ?_
        unfold tC_.L5.T nfz
        rw [bD_, if_pos (by omega)]
        refine rdE1 W.c2 (x := ((W2[j].n : Int), (W2[j].k : Int))) hrdW (Mem.le_refl _) j rfl hget ?_
        simp only [box1 hY1, ob_v, zI_]
        rw [bD_]
        split
        ·rename_i hlt5
         rw [i64_succ (by omega)]
         refine ihd (j + 1) k5 (by omega) (fun i u hi hu => ?_) (by omega)
         by_cases e : i = j
         ·subst e
          rw [List.getElem?_eq_getElem hjl] at hu
          cases hu
          rw [hWk]
          have : (W2[i].k : Int) < (x.k : Int) + 1 := hlt5
          omega
         ·exact hlo i u (by omega) hu
        ·rename_i hlt5
         refine put j (by omega) hlo fun u hu => ?_
         rw [List.getElem?_eq_getElem hjl] at hu
         cases hu
         rw [hWk]
         have : ¬ ((W2[j].k : Int) < (x.k : Int) + 1) := hlt5
         omega
      exact ⟨W2.length + 1, key5 W2.length 0 _ (by omega) (fun i u hi => absurd hi (by omega)) (by omega)⟩
     have hlk : ∀ {F2 M3 : Mem} {γ : AS} {K : VP}, Holds w0 F2 M3 (arenaA a β) → (∀ M' γ, Holds w0 F2 M' (arenaA a γ) → StT γ (lnk f x y) → AS.Chg (fun c => c = x.n ∨ c = y.n) 11 β γ → (∀ c g, 5 ≤ g → γ.get c g = β.get c g) → K (.int .i64 ((lnk f x y).n : Int)) M') → C PP w0 Id.trees_Link #[.pointer (some ⟨a, 0, none⟩), .int .i64 (x.n : Int), .int .i64 (y.n : Int), .int .i64 (x.k : Int)] K M3 := by
      intro F2 M3 γ K hB hK
      refine Link_ok hB (hst1 x hxm) (hst1 y hym) hlb1 nd1 hkk (by omega) fun M' γ h1 h2 h3 h4 _ => ?_
      exact hK M' γ h1 h2 h3 h4
     obtain ⟨ad, ea, hr⟩ := hrd2.ad (j := 1) (x := ((y.n : Int), (y.k : Int))) rfl
     have hr1 : ∀ M3, Mem.le M2 M3 → (std PP w0).ld 3 (ad.add ((1 : Int).toNat * 2)) M3 = some (.int .i64 (y.n : Int)) := fun M3 h3 => by
      rw [ld_one W.c3]; exact (hr M3 h3).1
     have hw1 : w64 ((x.k : Int) + 1) = (x.k : Int) + 1 := w64_in (by omega)
     rw [ea]
     have hb0 := box0 hX
     have hb1 := box1 hX
     simp only [nc_v, hb0, hb1, hr1 M2 (Mem.le_refl _), ob_v, zI_, hw1]
     refine ⟨⟨by omega, by omega⟩, ?_, ?_⟩
     ·-- the link first
      obtain ⟨F2, hB, hle, back⟩ := hX.last4
      refine hlk (γ := β) hB fun M3 γ hB3 g1 g2 g3 => ?_
      have hX3 := back M3 _ hB3
      simp only [zI_, bldR, ob_v, sA_, sC_, zN_]
      refine ⟨box1 hX3, fun by_ hb hw => ?_⟩
      have hY0 := hX3.new hb hw [.int .i64 0, .int .i64 0] tRk
      refine ⟨box1 (hY0.le (Mem.le_refl _)).right, ?_⟩
      refine stBox hY0 fun M4 hY => ?_
      refine ⟨⟨by omega, by omega, by omega⟩, ?_⟩
      have hfin := fin M4 γ by_ (fun _ => True) hY.rot.right g1 g2 g3
      rw [ea] at hfin
      exact hfin
     ·-- its place first
      intro by_ hb hw
      have hY0 := hX.new hb hw [.int .i64 0, .int .i64 0] tRk
      have lX : Mem.le M2 (M2.set by_ (.row [.int .i64 0, .int .i64 0] tRk)) := Mem.le_set _ hb
      generalize M2.set by_ _ = M2' at hY0 lX ⊢
      change Holds w0 F M2' (star (row1 by_ [.int .i64 0, .int .i64 0] tRk) _) at hY0
      refine ⟨box0 hY0.right, hr1 _ lX, box1 hY0.right, box1 hY0.right, ?_⟩
      obtain ⟨F1, hX1, hle1, back1⟩ := hY0.last
      obtain ⟨F2, hB, hle, back⟩ := hX1.last4
      refine hlk (γ := β) hB fun M3 γ hB3 g1 g2 g3 => ?_
      have hX3 := back1 M3 _ (back M3 _ hB3)
      simp only [zI_, bldR, ob_v, sA_, sC_, zN_]
      refine ⟨box1 hX3.right, ?_⟩
      refine stBox hX3 fun M4 hY => ?_
      refine ⟨⟨by omega, by omega, by omega⟩, ?_⟩
      have hfin := fin M4 γ by_ (fun _ => True) hY.rot.right g1 g2 g3
      rw [ea] at hfin
      exact hfin
 have key1 : ∀ (A B : List Tn) (s1 : SV) (M1 : Mem) (β : AS) (k : Nat), B.length < k → l = A ++ B → Holds w0 F M1 (star (Es s1 (rks A)) (arenaA a β)) → AS.Sm A.length α β → tC_.L1 pts k (some ⟨a, 0, none⟩) s1 s ((s.n : Nat) : Int) (A.length : Int) M1 := by
  intro A B
  induction B generalizing A with
  | nil =>
   intro s1 M1 β k hk he hH hsm
   obtain ⟨k, rfl⟩ : ∃ j, k = j + 1 := ⟨k - 1, by omega⟩
   rw [List.append_nil] at he
   subst he
   refine Eq.mpr (H.L1 ..) ?_
   unfold tC_.L1.T nfz
   rw [bD_, if_neg (by omega)]
   refine sortR_ok (l := rks l) (fun x hx => ?_) (by simp [rks]; omega) hH fun M2 Z hZs hZp hH2 => ?_
   ·obtain ⟨t, ht, rfl⟩ := List.mem_map.1 hx
    have := rk_small (hok t ht) (Nat.le_trans (ndsT_le ht) hsz)
    simp only; omega
   ·obtain ⟨W, hWp, rfl⟩ := perm_map_inv hZp
    change SrtR (rks W) at hZs
    change Holds w0 F M2 (star (Es s1 (rks W)) (arenaA a β)) at hH2
    have hWl := hWp.length_eq
    refine ⟨W.length + 1, key2 W.length W [] s1 ⟨none, 0, 0⟩ M2 β (W.length + 1) rfl ?_ ?_ ?_ ?_ ?_ List.Pairwise.nil (srt_rks hZs) (fun x hx => by cases hx) (by simp; omega) (hsm.chg.mono (fun _ h => h) (by simp; omega)) (fun c g _ => by rw [hsm.get]) (by omega)⟩
    ·obtain ⟨F2, hB, hle, back⟩ := (EsO.of hH2).last
     exact back M2 _ (Holds.nilSl hB)
    ·intro t ht
     exact (hst t (hWp.mem_iff.1 (by simpa using ht))).sm hsm
    ·simpa using ndsL_perm hWp
    ·exact fun t ht => hok t (hWp.mem_iff.1 (by simpa using ht))
    ·exact fun t ht => hod t (hWp.mem_iff.1 (by simpa using ht))
  | cons t B ih =>
   intro s1 M1 β k hk he hH hsm
   obtain ⟨k, rfl⟩ : ∃ j, k = j + 1 := ⟨k - 1, by omega⟩
   have ll := congrArg List.length he
   simp only [List.length_append, List.length_cons] at ll hk
   have htl : t ∈ l := by rw [he]; simp
   have hget : (intsN (l.map (·.n)))[A.length]? = some (t.n : Int) := by rw [he]; simp [intsN]
   have hlive := (hlb t.n (hmemn t htl)).ln
   refine Eq.mpr (H.L1 ..) ?_
   unfold tC_.L1.T nfz
   rw [bD_, if_pos (by omega)]
   refine rdx (x := (t.n : Int)) W.c3 hs hH.fr A.length rfl hget ?_
   obtain ⟨F2, hB, hle, back⟩ := hH.last
   refine Get_ok hB fun M2 hB2 => ?_
   have hH2 := back M2 _ hB2
   rw [show β.getI (t.n : Int) 4 = (t.k : Int) from by
    rw [show β.getI (t.n : Int) 4 = β.get t.n 4 from AS.getI_live (f := 4) (by rw [hsm.live]; exact hlive) (by omega), hsm.get]
    exact (hst t htl).2.1]
   simp only [zI_, bldR, ob_v, sA_, sC_, zN_]
   refine newR hH2 _ _ fun M3 s3 l3 h3 => ?_
   rw [shS_sv]
   refine appR h3.rot h3.rdE (by simp [rks]; omega) fun M4 s4 h4 => ?_
   rw [shS_sv, i64_succ (by omega)]
   have := ih (A ++ [t]) s4 M4 β.tick k (by omega) (by rw [he]; simp) ?_ ((hsm.trans AS.tick_sm).mono (by simp))
   ·rw [List.length_append, List.length_singleton] at this
    exact this
   ·rw [show rks (A ++ [t]) = rks A ++ [((t.n : Int), (t.k : Int))] from by simp [rks]]
    exact h4.rot.right
 exact ⟨l.length + 1, key1 [] l ⟨none, 0, 0⟩ M α _ (by omega) rfl (Holds.nilSlk hA) (AS.Sm.refl.mono (by simp))⟩
end
end Go.Proofs.YtodobkbnmjgkdaaGreat.HL
namespace Go.Proofs.YtodobkbnmjgkdaaGreat.HL
open Go.RowKit (Below)
open Go.Proofs
section
variable {w0 : World} {M F : Mem} {R : VP} {a : Nat} {α : AS}
open Go.Proofs.YtodobkbnmjgkdaaGreat.HL.ST
theorem ConI_ok {s : SV} {l : List Int} {v : Int} (hs : RdI w0 M .i64 s l) (hv : v ∈ l) (hb : l.length ≤ 1000000) (h : R (.bool true) M) : C PP w0 Id.sl_Contains_int_int #[SV.v s, .int .i64 v] R M := by
 apply sl_Contains_int_int.go
 unfold sl_Contains_int_int.T nfz
 apply iXi_.go
 intro pts H
 unfold iXi_.T nfz
 have hsn := hs.len
 have key : ∀ (B A : List Int) (k : Nat), l = A ++ B → v ∈ B → B.length < k → iXi_.L1 pts k s v ((s.n : Nat) : Int) (A.length : Int) M := by
  intro B
  induction B with
  | nil => intro A k _ hm; cases hm
  | cons x B ih =>
   intro A k he hm hk
   obtain ⟨k, rfl⟩ : ∃ j, k = j + 1 := ⟨k - 1, by omega⟩
   have ll := congrArg List.length he
   simp only [List.length_append, List.length_cons] at ll hk
   refine Eq.mpr (H.L1 ..) ?_
   unfold iXi_.L1.T nfz
   rw [bD_, if_pos (by omega)]
   refine rdx (x := x) W.c3 hs (Mem.le_refl _) A.length rfl (by rw [he]; simp) ?_
   rw [bQ_]
   split
   ·show shI .i64 (.int .i64 (A.length : Int)) _
    rw [zI_, decide_eq_true (by omega)]; exact h
   ·rename_i hne
    rw [i64_succ (by omega)]
    have := ih (A ++ [x]) k (by rw [he]; simp) ((List.mem_cons.1 hm).resolve_left hne) (by omega)
    rw [List.length_append, List.length_singleton] at this
    exact this
 exact ⟨l.length + 1, key l [] _ rfl hv (by omega)⟩
theorem DelF_ok {kf : FuncId × Array Value} {Q : Asn} {s : SV} {A B : List Int} {x : Int} (h : Holds w0 F M (star (SlA s ((A ++ x :: B).map (Value.int .i64))) Q)) (hwf : ∀ y ∈ A ++ x :: B, (Lit.int .i64 y).wf = true) (hA : x ∉ A) (hB : x ∉ B) (hb : (A ++ x :: B).length ≤ 100000)
  (hp : ∀ (y : Int) (M' : Mem) (R' : VP), Mem.le F M' → R' (.bool (y == x)) M' → C PP w0 kf.1 ((([.int .i64 y] : List Value) ++ kf.2.toList).toArray) R' M')
  (hR : ∀ M' s', Holds w0 F M' (star (SlA s' ((A ++ B).map (Value.int .i64))) Q) → R s'.v M') : C PP w0 Id.dFi_ #[SV.v s, .func (.func kf.1) #[] kf.2] R M := by
 refine dFi_.go _ s kf ?_
 intro pts H
 unfold dFi_.T nfz
 have hrd : ∀ {M' : Mem} {L : List Int}, (∀ y ∈ L, (Lit.int .i64 y).wf = true) → L.length ≤ 100000 → Holds w0 F M' (star (SlA s (L.map (Value.int .i64))) Q) → RdI w0 M' .i64 s L := fun hw hl h' => by
  obtain ⟨F1, g1, g2, g3⟩ := h'.sl
  exact g1.rdI hw (by omega)
 simp only [List.length_append, List.length_cons] at hb
 have hr0 := hrd hwf (by simp only [List.length_append, List.length_cons]; omega) h
 have hsn := hr0.len
 have hscap := hr0.cap
 simp only [List.length_append, List.length_cons] at hsn
 have idx : ∀ (K : VP), K (.int .i64 (A.length : Int)) M → C PP w0 Id.iFi_ #[SV.v s, .func (.func kf.1) #[] kf.2] K M := by
  intro K hK
  refine iFi_.go _ s kf ?_
  intro pts H
  unfold iFi_.T nfz
  have key : ∀ (A2 A1 : List Int) (k : Nat), A = A1 ++ A2 → A2.length < k → iFi_.L1 pts k s kf ((s.n : Nat) : Int) (A1.length : Int) M := by
   intro A2
   induction A2 with
   | nil =>
    intro A1 k he hk
    obtain ⟨k, rfl⟩ : ∃ j, k = j + 1 := ⟨k - 1, by omega⟩
    rw [List.append_nil] at he
    subst he
    refine Eq.mpr (H.L1 ..) ?_
    unfold iFi_.L1.T nfz
    rw [bD_, if_pos (by omega)]
    refine rdx (x := x) W.c3 hr0 (Mem.le_refl _) A.length rfl (by simp) ?_
    refine hp x M _ h.fr ?_
    rw [shB_v, beq_self_eq_true, bs_true]; exact hK
   | cons y A2 ih =>
    intro A1 k he hk
    obtain ⟨k, rfl⟩ : ∃ j, k = j + 1 := ⟨k - 1, by omega⟩
    have ll := congrArg List.length he
    simp only [List.length_append, List.length_cons] at ll hk
    have hne : y ≠ x := fun e => hA (by rw [he, ← e]; simp)
    refine Eq.mpr (H.L1 ..) ?_
    unfold iFi_.L1.T nfz
    rw [bD_, if_pos (by omega)]
    refine rdx (x := y) W.c3 hr0 (Mem.le_refl _) A1.length rfl (by rw [he]; simp) ?_
    refine hp y M _ h.fr ?_
    rw [shB_v, beq_eq_false_iff_ne.2 hne, bF_, i64_succ (by omega)]
    have := ih (A1 ++ [y]) k (by rw [he]; simp) (by omega)
    rw [List.length_append, List.length_singleton] at this
    exact this
  exact ⟨A.length + 1, key A [] _ rfl (by omega)⟩
 refine idx _ ?_
 rw [zI_, bQ_, if_neg (by omega)]
 have key : ∀ (B2 B1 : List Int) (c : Int) (M' : Mem) (k : Nat), B = B1 ++ B2 → (Lit.int .i64 c).wf = true → Holds w0 F M' (star (SlA s (((A ++ B1) ++ c :: B2).map (Value.int .i64))) Q) → B2.length < k →
   dFi_.L1 pts k s kf ((A.length + B1.length : Nat) : Int) ((A.length + B1.length + 1 : Nat) : Int) M' := by
  intro B2
  induction B2 with
  | nil =>
   intro B1 c M' k he hc hH hk
   obtain ⟨k, rfl⟩ : ∃ j, k = j + 1 := ⟨k - 1, by omega⟩
   rw [List.append_nil] at he
   subst he
   refine Eq.mpr (H.L1 ..) ?_
   unfold dFi_.L1.T nfz
   rw [bD_, if_neg (by omega)]
   refine ⟨⟨by omega, by omega, by omega⟩, ?_⟩
   obtain ⟨inf, hi', hz, hsz, hzs, hb1, hb2⟩ := W.e3
   obtain ⟨r, ⟨r1, r2, rfl, h1, h2⟩, h3⟩ := hH
   rcases h1 with ⟨rfl, h0, _⟩ | ⟨b, rest, e, hs, rfl⟩
   ·simp at h0
   ·have ho := h3.own (b := b) (cs := ((A ++ B) ++ [c]).map (Value.int .i64) ++ rest) (e := e) List.mem_cons_self
    have hcap : s.c = A.length + B.length + 1 + rest.length := by rw [hs]; simp; omega
    have hsa : s.a = some ⟨b, 0, none⟩ := by rw [hs]
    have hz1 : zeros (Value.int .i64 0) 1 = [Value.int .i64 0] := by kernel_rfl
    rw [hsa, if_neg (by omega)]
    simp only [Option.map_some, Int.toNat_natCast, add_eq, Nat.zero_add, Nat.mul_one]
    rw [show s.n - (A.length + B.length) = 1 from by omega]
    refine clr1_ok Tryz.underlying53 hi' hz (n := 1) (by decide) ho (by rw [hz1]; simp; omega) (by rw [hz1]; intro v hv; rw [List.mem_singleton.1 hv]; rfl) ?_
    rw [hz1]
    refine ⟨⟨by omega, by omega, by omega⟩, ?_⟩
    have hov : over (((A ++ B) ++ [c]).map (Value.int .i64) ++ rest) (A.length + B.length) [Value.int .i64 0] = (A ++ B).map (Value.int .i64) ++ (Value.int .i64 0 :: rest) := by
     have := over_mid ((A ++ B).map (Value.int .i64)) [Value.int .i64 c] rest [Value.int .i64 0] rfl (o := A.length + B.length) (by simp)
     rw [List.map_append, List.append_assoc]
     exact this
    rw [hov]
    have h4 : Fit w0 F (M'.set b (.row ((A ++ B).map (Value.int .i64) ++ (Value.int .i64 0 :: rest)) e)) ((b, (A ++ B).map (Value.int .i64) ++ (Value.int .i64 0 :: rest), e) :: r2) := h3.upd
    have hfin := hR _ ⟨some ⟨b, 0, none⟩, A.length + B.length, s.c⟩ ⟨_, ⟨[_], r2, rfl, .inr ⟨b, Value.int .i64 0 :: rest, e, ?_, rfl⟩, h2⟩, h4⟩
    ·have : (if s.c = (0 : Int).toNat then some (⟨b, 0, none⟩ : Addr) else some ⟨b, (0 : Int).toNat, none⟩) = some ⟨b, 0, none⟩ := by split <;> rfl
     simp only [Int.toNat_zero, Nat.sub_zero] at this ⊢
     rw [this]
     exact hfin
    ·simp only [SV.mk.injEq, true_and, List.length_map, List.length_append, List.length_cons]
     omega
  | cons y B2 ih =>
   intro B1 c M' k he hc hH hk
   obtain ⟨k, rfl⟩ : ∃ j, k = j + 1 := ⟨k - 1, by omega⟩
   have ll := congrArg List.length he
   simp only [List.length_append, List.length_cons] at ll hk
   have hne : y ≠ x := fun e => hB (by rw [he, ← e]; simp)
   have hyw : (Lit.int .i64 y).wf = true := hwf y (by rw [he]; simp)
   have hcur : ∀ u ∈ (A ++ B1) ++ c :: y :: B2, (Lit.int .i64 u).wf = true := fun u hu => by
    simp only [List.mem_append, List.mem_cons] at hu
    rcases hu with (hu | hu) | rfl | rfl | hu
    ·exact hwf u (by simp [hu])
    ·exact hwf u (by rw [he]; simp [hu])
    ·exact hc
    ·exact hyw
    ·exact hwf u (by rw [he]; simp [hu])
   have hr := hrd hcur (by simp only [List.length_append, List.length_cons]; omega) hH
   refine Eq.mpr (H.L1 ..) ?_
   unfold dFi_.L1.T nfz
   rw [bD_, if_pos (by omega)]
   refine rdx (x := y) W.c3 hr (Mem.le_refl _) (A.length + B1.length + 1) rfl (by
    rw [List.getElem?_append_right (by simp), List.length_append, show A.length + B1.length + 1 - (A.length + B1.length) = 1 from by omega]; rfl) ?_
   refine hp y M' _ hH.fr ?_
   rw [shB_v, beq_eq_false_iff_ne.2 hne, Bool.not_false, bs_true]
   refine st1 W.c3 hH (A.length + B1.length) rfl (by simp) rfl rfl fun M2 hH2 => ?_
   rw [i64_succ (by omega), i64_succ (by omega)]
   have e2 : (((A ++ B1) ++ c :: y :: B2).map (Value.int .i64)).set (A.length + B1.length) (.int .i64 y) = ((A ++ (B1 ++ [y])) ++ y :: B2).map (Value.int .i64) := by
    rw [List.map_append, List.map_cons, List.set_append_right _ _ (by simp), List.length_map, List.length_append, Nat.sub_self, List.set_cons_zero]
    simp
   rw [e2] at hH2
   have := ih (B1 ++ [y]) y M2 k (by rw [he]; simp) hyw hH2 (by omega)
   rw [List.length_append, List.length_singleton] at this
   exact this
 rw [i64_succ (by omega)]
 exact ⟨B.length + 1, key B [] x M _ rfl (hwf x (by simp)) (by simpa using h) (by omega)⟩
theorem Single_ok (hA : Holds w0 F M (arenaA a α)) {f : Nat → Held} {l : List Tn} {n : Nat} (hst : St α (-1) (fo l)) (hn1 : α.get n 1 = -1) (hn4 : α.get n 4 = 0) (hlb : Lb α f (n :: ndsL l)) (hnd : (celF f (n :: ndsL l)).Nodup) (hok : ∀ t ∈ l, OkT 2 t) (hod : ∀ t ∈ l, OdT f t) (hwk : Wk l)
  (h : ∀ M' β f' l', Holds w0 F M' (arenaA a β) → St β (-1) (fo l') → Lb β f' (n :: ndsL l) → (ndsL l').Perm (n :: ndsL l) → ((n :: ndsL l).map f').Perm ((n :: ndsL l).map f) → (∀ x, x ∉ n :: ndsL l → f' x = f x) → (∀ t ∈ l', OkT 2 t) → (∀ t ∈ l', OdT f' t) → Wk l' → AS.Chg (fun c => c ∈ celF f (n :: ndsL l)) 40 α β → R (.int .i64 (fo l').root) M') :
  C PP w0 Id.zG_ #[.pointer (some ⟨a, 0, none⟩), .int .i64 (fo l).root, .int .i64 (n : Int)] R M := by
 apply zG_.go
 intro pts H
 unfold zG_.T nfz
 have hI := hA.inv
 have hI65 := hI.n
 have hnn := celF_nd hnd
 obtain ⟨hn0, hnl⟩ := List.nodup_cons.1 hnn
 have hsz := nodup_len α.n _ hnn fun y hy => AS.live_lt hI (hlb y hy).ln
 have hNn := hlb n List.mem_cons_self
 have hcn : n ∈ celF f (n :: ndsL l) := List.mem_append_left _ List.mem_cons_self
 have hcl : ∀ c ∈ ndsL l, c ∈ celF f (n :: ndsL l) := fun c hc => List.mem_append_left _ (List.mem_cons_of_mem _ hc)
 have front : Rs l → ∀ (M1 : Mem) (β : AS), Holds w0 F M1 (arenaA a β) → AS.Sm 3 α β → C PP w0 Id.aA_Set #[.pointer (some ⟨a, 0, none⟩), .int .i64 (n : Int), .int .i64 3, .int .i64 (fo l).root] (fun v7 M8 => shB v7 fun b9 => C PP w0 Id.aA_Set #[.pointer (some ⟨a, 0, none⟩), .int .i64 (n : Int), .int .i64 0, .int .i64 (-1)] (fun v10 M11 => shB v10 fun b12 => R (.int .i64 (n : Int)) M11) M8) M1 := by
  intro hrs M1 β hB hsm
  refine Set_ok hB fun M2 hB2 => ?_
  rw [show β.setI (n : Int) 3 (fo l).root = β.put n 3 (fo l).root from AS.setI_live (f := 3) (by rw [hsm.live]; exact hNn.ln) (by omega) _] at hB2
  rw [shB_v]
  refine Set_ok hB2 fun M3 hB3 => ?_
  rw [show (β.put n 3 (fo l).root).tick.setI (n : Int) 0 (-1) = (β.put n 3 (fo l).root).tick.put n 0 (-1) from AS.setI_live (α := (β.put n 3 (fo l).root).tick) (f := 0) (by show β.live n = true; rw [hsm.live]; exact hNn.ln) (by omega) _] at hB3
  rw [shB_v]
  have s3 : AS.Sm 5 ((α.put n 3 (fo l).root).put n 0 (-1)) ((β.put n 3 (fo l).root).tick.put n 0 (-1)).tick := ((((hsm.put n 3 (fo l).root).trans AS.tick_sm).put n 0 (-1)).trans AS.tick_sm).mono (by omega)
  generalize ((β.put n 3 (fo l).root).tick.put n 0 (-1)).tick = γ at hB3 s3
  have g : ∀ c x, γ.get c x = if c = n ∧ x = 0 then -1 else if c = n ∧ x = 3 then (fo l).root else α.get c x := fun c x => by rw [s3.get]; rfl
  have gl : ∀ c, γ.live c = α.live c := fun c => by rw [s3.live]; rfl
  refine h M3 γ f (⟨n, 0, .nil⟩ :: l) hB3 ⟨?_, ?_, ?_, ?_, trivial, ?_⟩ (hlb.congr (fun c _ x hx => by rw [g, if_neg (by omega), if_neg (by omega)]) (fun c _ => gl c)) (List.Perm.refl _) (List.Perm.refl _) (fun _ _ => rfl) (fun t ht => ?_) (fun t ht => ?_) ⟨hrs, fun x _ => Nat.zero_le _⟩
   (((((AS.Chg.refl (S := fun c => c ∈ celF f (n :: ndsL l)) (α := α)).put hcn).put hcn).trans s3.chg).mono (fun _ h => h) (by omega))
  ·rw [g, if_pos ⟨rfl, rfl⟩]
  ·rw [g, if_neg (by omega), if_neg (by omega)]; exact hn1
  ·rw [g, if_neg (by omega), if_pos ⟨rfl, rfl⟩]
  ·rw [g, if_neg (by omega), if_neg (by omega)]; exact hn4
  ·refine hst.congr fun x hx y _ => ?_
   rw [nds_fo] at hx
   have hne : x ≠ n := fun e => hn0 (e ▸ hx)
   rw [g, if_neg (fun e : x = n ∧ y = 0 => hne e.1), if_neg (fun e : x = n ∧ y = 3 => hne e.1)]
  ·rcases List.mem_cons.1 ht with rfl | ht
   ·exact okT_one
   ·exact hok t ht
  ·rcases List.mem_cons.1 ht with rfl | ht
   ·exact ⟨fun x hx => (by cases hx), trivial⟩
   ·exact hod t ht
 match l, hst, hlb, hnd, hok, hod, hwk, h, hnn, hn0, hnl, hcn, hcl, front, hsz, hNn with
 | [], hst, hlb, hnd, hok, hod, hwk, h, hnn, hn0, hnl, hcn, hcl, front, hsz, hNn =>
  (rw [show (fo []).root = -1 from rfl, bs_bne, if_pos rfl]; refine Eq.mpr (H.J1 ..) ?_)
  unfold zG_.J1.T nfz
  refine Get_ok hA fun M1 hA1 => ?_
  rw [zI_, bQ_, if_pos rfl]
  exact front List.Pairwise.nil M1 _ hA1 (AS.tick_sm.mono (by omega))
 | [t], hst, hlb, hnd, hok, hod, hwk, h, hnn, hn0, hnl, hcn, hcl, front, hsz, hNn =>
  have hlt : α.live t.n = true := (hlb t.n (by simp [ndsL, ndsT])).ln
  rw [show (fo [t]).root = (t.n : Int) from rfl, bs_bne, if_neg (by omega)]
  refine Cell_ok hA fun M1 hA1 => ?_
  (rw [show α.cellI (t.n : Int) 3 = -1 from AS.cellI_neg (f := 3) hlt (by omega) hst.2.2.1, zI_]; refine Eq.mpr (H.J1 ..) ?_)
  unfold zG_.J1.T nfz
  refine Get_ok hA1 fun M2 hA2 => ?_
  rw [zI_, bQ_, if_pos rfl]
  exact front (List.pairwise_singleton _ _) M2 _ hA2 ((AS.tick_sm.trans AS.tick_sm).mono (by omega))
 | t :: u :: rest, hst, hlb, hnd, hok, hod, hwk, h, hnn, hn0, hnl, hcn, hcl, front, hsz, hNn =>
  have hlt : α.live t.n = true := (hlb t.n (by simp [ndsL, ndsT])).ln
  have hlu : α.live u.n = true := (hlb u.n (by simp [ndsL, ndsT])).ln
  rw [show (fo (t :: u :: rest)).root = (t.n : Int) from rfl, bs_bne, if_neg (by omega)]
  obtain ⟨t0, t1, t3, t4, t5, u0, u1, u3, u4, u5, hrest⟩ := hst
  refine Cell_ok hA fun M1 hA1 => ?_
  (rw [show α.cellI (t.n : Int) 3 = (u.n : Int) from AS.cellI_live (f := 3) hlt (by omega) t3 (AS.live_lt hI hlu), zI_]; refine Eq.mpr (H.J1 ..) ?_)
  unfold zG_.J1.T nfz
  refine Get_ok hA1 fun M2 hA2 => ?_
  rw [show α.tick.getI (t.n : Int) 4 = (t.k : Int) from (AS.getI_live (α := α.tick) (f := 4) hlt (by omega)).trans t4, zI_, bQ_, if_neg (by omega)]
  refine Get_ok hA2 fun M3 hA3 => ?_
  rw [show α.tick.tick.getI (u.n : Int) 4 = (u.k : Int) from (AS.getI_live (α := α.tick.tick) (f := 4) hlu (by omega)).trans u4, zI_, bs_bne]
  have s3 : AS.Sm 3 α α.tick.tick.tick := ((AS.tick_sm.trans AS.tick_sm).trans AS.tick_sm).mono (by omega)
  obtain ⟨wk1, wk2⟩ := hwk
  have htu := wk2 u List.mem_cons_self
  split
  rotate_left
  ·rename_i hne
   have hlt' : t.k < u.k := by
    have : ¬ ((u.k : Int) = (t.k : Int)) := hne
    omega
   refine front (List.pairwise_cons.2 ⟨fun x hx => ?_, wk1⟩) M3 _ hA3 s3
   rcases List.mem_cons.1 hx with rfl | hx
   ·exact hlt'
   ·exact Nat.lt_trans hlt' ((List.pairwise_cons.1 wk1).1 x hx)
  ·rename_i heq
   have hkk : t.k = u.k := by
    have : (u.k : Int) = (t.k : Int) := heq
    omega
   refine Eq.mpr (H.J2 ..) ?_
   unfold zG_.J2.T nfz
   generalize hα3 : α.tick.tick.tick = α3 at hA3 s3
   have hrl : (fo rest).root = -1 ∨ ∃ y : Nat, (fo rest).root = (y : Int) ∧ α.live y = true := by
    cases rest with
    | nil => exact .inl rfl
    | cons v rest => exact .inr ⟨v.n, rfl, (hlb v.n (by simp [ndsL, ndsT])).ln⟩
   refine Cell_ok hA3 fun M4 hA4 => ?_
   rw [show α3.cellI (u.n : Int) 3 = (fo rest).root from AS.cellI_val hA3.inv (f := 3) (by rw [s3.live]; exact hlu) (by omega) (by rw [s3.get]; exact u3) (by rw [s3.live]; exact hrl), zI_]
   have s4 : AS.Sm 4 α α3.tick := (s3.trans AS.tick_sm).mono (by omega)
   generalize α3.tick = α4 at hA4 s4
   have hNl : ndsL (t :: u :: rest) = ndsT t ++ (ndsT u ++ ndsL rest) := rfl
   have hnl2 := hnl
   rw [hNl, ← List.append_assoc] at hnl2
   obtain ⟨q1, q2, q3⟩ := List.nodup_append.1 hnl2
   have hlb4 : Lb α4 f (n :: ndsL (t :: u :: rest)) := hlb.sm s4
   have htk : t.k ≤ 65536 := rk_small (hok t (by simp)) (Nat.le_trans (ndsT_le (l := t :: u :: rest) (by simp)) (by simp only [List.length_cons] at hsz; omega))
   refine Link_ok hA4 (t := t) (u := u) (StT.sm (t := t) ⟨t1, t4, t5⟩ s4) (StT.sm (t := u) ⟨u1, u4, u5⟩ s4) (hlb4.sub fun x hx => by
    refine List.mem_cons_of_mem _ ?_
    rw [hNl, ← List.append_assoc]
    exact List.mem_append_left _ hx) q1 hkk (by omega) fun M5 β hB hstw hcβ hgβ hwβ => ?_
   rw [zI_]
   have hwok := lnk_ok f (by decide) (hok t (by simp)) (hok u (by simp)) hkk
   have hwk' := lnk_k f hkk
   have hwn := lnk_nds f t u
   have hwod : OdT f (lnk f t u) := lnk_od (hod t (by simp)) (hod u (by simp)) fun e => by
    have := celF_inj hnd t.n (by simp [ndsL, ndsT]) u.n (by simp [ndsL, ndsT]) e
    exact (List.nodup_append.1 q1).2.2 t.n List.mem_cons_self u.n List.mem_cons_self this
   have hw0 : β.get (lnk f t u).n 0 = -1 := by
    rw [hwβ 0 (by decide) (by decide), s4.get]
    rcases lnk_n f t u with e | e
    ·rw [e]; exact t0
    ·rw [e]; exact u0
   generalize hw : lnk f t u = w at hstw hwβ hwok hwk' hwn hwod hw0 ⊢
   have hwmem : ∀ c ∈ ndsT w, c ∈ ndsL (t :: u :: rest) := fun c hc => by
    rw [hNl, ← List.append_assoc]
    exact List.mem_append_left _ (hwn.mem_iff.1 hc)
   have hnw : n ∉ ndsT w := fun hc => hn0 (hwmem n hc)
   have hnw' : n ≠ w.n := fun e => hnw (e ▸ List.mem_cons_self)
   have hnt : n ≠ t.n := fun e => hn0 (by rw [e]; simp [ndsL, ndsT])
   have hnu : n ≠ u.n := fun e => hn0 (by rw [e]; simp [ndsL, ndsT])
   have hlbβ : Lb β f (n :: ndsL (t :: u :: rest)) := hlb4.congr (fun c _ x hx => hgβ c x (by omega)) (fun c _ => by rw [hcβ.live])
   have hwin : w.n ∈ n :: ndsL (t :: u :: rest) := List.mem_cons_of_mem _ (hwmem _ List.mem_cons_self)
   have gβ : ∀ x, x ≠ t.n → x ≠ u.n → ∀ y, β.get x y = α.get x y := fun x h1 h2 y => by
    rw [hcβ.get x (by rintro (e | e); exact h1 e; exact h2 e), s4.get]
   have hβlive : ∀ x, β.live x = α.live x := fun x => by rw [hcβ.live, s4.live]
   have hcβ' : AS.Chg (fun c => c ∈ celF f (n :: ndsL (t :: u :: rest))) 15 α β := (s4.chg.trans (hcβ.mono (T := fun c => c ∈ celF f (n :: ndsL (t :: u :: rest))) (fun c hc => by
    rcases hc with rfl | rfl
    ·exact hcl _ (by simp [ndsL, ndsT])
    ·exact hcl _ (by simp [ndsL, ndsT])) (Int.le_refl _))).mono (fun _ h => h) (by omega)
   refine nBefore_ok hB (hlbβ n List.mem_cons_self) (hlbβ w.n hwin) fun M6 γ hC s6 => ?_
   rw [shB_v]
   have fin : ∀ (f' : Nat → Held) (M7 : Mem) (δ : AS), Holds w0 F M7 (arenaA a δ) → Lb δ f' (n :: ndsL (t :: u :: rest)) → ((n :: ndsL (t :: u :: rest)).map f').Perm ((n :: ndsL (t :: u :: rest)).map f) → (∀ x, x ≠ n → x ≠ w.n → f' x = f x) → Bf (f' w.n) (f' n) → (∀ x ∈ nds w.c, Bf (f' w.n) (f x)) →
     (∀ x ∈ n :: ndsL (t :: u :: rest), ∀ y, y ≠ 6 → δ.get x y = β.get x y) → AS.Chg (fun c => c ∈ celF f (n :: ndsL (t :: u :: rest))) 27 α δ → zG_.J3 pts (some ⟨a, 0, none⟩) (n : Int) (fo rest).root (w.n : Int) M7 := by
    intro f' M7 δ hD hlb' hpf hff hb1 hb2 hgδ hcδ
    refine Eq.mpr (H.J3 ..) ?_
    unfold zG_.J3.T nfz
    have hwcr : w.c.root = -1 ∨ ∃ y : Nat, w.c.root = (y : Int) ∧ δ.live y = true := by
     cases hc : w.c with
     | nil => exact .inl rfl
     | node y k c s => exact .inr ⟨y, rfl, (hlb' y (List.mem_cons_of_mem _ (hwmem y (by unfold ndsT; rw [hc]; simp [nds])))).ln⟩
    refine Under_ok hD (n := n) (up := w.n) (hlb' n List.mem_cons_self).ln (hlb' w.n hwin).ln (v := w.c.root) (by rw [hgδ w.n hwin 1 (by decide)]; exact hstw.1) hwcr fun M8 ε hE s8 => ?_
    refine Set_ok hE fun M9 hE9 => ?_
    have hεw : ε.live w.n = true := by rw [s8.live]; exact (hlb' w.n hwin).ln
    rw [show ε.setI (w.n : Int) 3 (fo rest).root = ε.put w.n 3 (fo rest).root from AS.setI_live (f := 3) hεw (by omega) _] at hE9
    rw [shB_v]
    have s9 : AS.Sm 5 ((((δ.put n 3 w.c.root).put n 0 (w.n : Int)).put w.n 1 (n : Int)).put w.n 3 (fo rest).root) (ε.put w.n 3 (fo rest).root).tick := ((s8.put w.n 3 (fo rest).root).trans AS.tick_sm).mono (by omega)
    generalize (ε.put w.n 3 (fo rest).root).tick = ζ at hE9 s9
    have g : ∀ c x, ζ.get c x = if c = w.n ∧ x = 3 then (fo rest).root else if c = w.n ∧ x = 1 then (n : Int) else if c = n ∧ x = 0 then (w.n : Int) else if c = n ∧ x = 3 then w.c.root else δ.get c x := fun c x => by rw [s9.get]; rfl
    have hodw : OdT f' (und ⟨n, 0, .nil⟩ w) := by
     refine odT_node (m := ⟨n, 0, .nil⟩) ⟨fun x hx => (by cases hx), trivial⟩ ⟨fun x hx => ?_, ?_⟩ hb1
     ·rw [hff x (fun e => hnw (e ▸ List.mem_cons_of_mem _ hx)) (fun e => (List.nodup_cons.1 (hwn.nodup_iff.2 q1)).1 (e ▸ hx))]
      exact hb2 x hx
     ·exact hwod.2.congr fun x hx => hff x (fun e => hnw (e ▸ List.mem_cons_of_mem _ hx)) (fun e => (List.nodup_cons.1 (hwn.nodup_iff.2 q1)).1 (e ▸ hx))
    refine h M9 ζ f' (und ⟨n, 0, .nil⟩ w :: rest) hE9 ?_ (hlb'.congr (fun c _ x hx => by rw [g, if_neg (by omega), if_neg (by omega), if_neg (by omega), if_neg (by omega)]) (fun c _ => by rw [s9.live]; rfl)) ?_ hpf ?_ (fun v hv => ?_) (fun v hv => ?_) ⟨(List.pairwise_cons.1 wk1).2, fun x hx => ?_⟩ ?_
    ·refine ⟨?_, ?_, ?_, ?_, ?_, ?_⟩
     ·show ζ.get w.n 0 = -1
      rw [g, if_neg (by omega), if_neg (by omega), if_neg (by omega), if_neg (by omega), hgδ w.n hwin 0 (by decide)]; exact hw0
     ·show ζ.get w.n 1 = (n : Int)
      rw [g, if_neg (by omega), if_pos ⟨rfl, rfl⟩]
     ·show ζ.get w.n 3 = _
      rw [g, if_pos ⟨rfl, rfl⟩]
     ·show ζ.get w.n 4 = (w.k : Int)
      rw [g, if_neg (by omega), if_neg (by omega), if_neg (by omega), if_neg (by omega), hgδ w.n hwin 4 (by decide)]; exact hstw.2.1
     ·refine ⟨?_, ?_, ?_, ?_, trivial, ?_⟩
      ·show ζ.get n 0 = (w.n : Int)
       rw [g, if_neg (by omega), if_neg (by omega), if_pos ⟨rfl, rfl⟩]
      ·show ζ.get n 1 = -1
       rw [g, if_neg (by omega), if_neg (by omega), if_neg (by omega), if_neg (by omega), hgδ n List.mem_cons_self 1 (by decide), gβ n hnt hnu]; exact hn1
      ·show ζ.get n 3 = _
       rw [g, if_neg (by omega), if_neg (by omega), if_neg (by omega), if_pos ⟨rfl, rfl⟩]
      ·show ζ.get n 4 = 0
       rw [g, if_neg (by omega), if_neg (by omega), if_neg (by omega), if_neg (by omega), hgδ n List.mem_cons_self 4 (by decide), gβ n hnt hnu]; exact hn4
      ·refine hstw.2.2.congr fun x hx y hy => ?_
       have h1 : x ≠ w.n := fun e => (List.nodup_cons.1 (hwn.nodup_iff.2 q1)).1 (e ▸ hx)
       have h2 : x ≠ n := fun e => hnw (e ▸ List.mem_cons_of_mem _ hx)
       rw [g, if_neg (fun e : x = w.n ∧ y = 3 => h1 e.1), if_neg (fun e : x = w.n ∧ y = 1 => h1 e.1), if_neg (fun e : x = n ∧ y = 0 => h2 e.1), if_neg (fun e : x = n ∧ y = 3 => h2 e.1)]
       exact hgδ x (List.mem_cons_of_mem _ (hwmem x (List.mem_cons_of_mem _ hx))) y hy
     ·refine hrest.congr fun x hx y hy => ?_
      rw [nds_fo] at hx
      have h1 : x ≠ w.n := fun e => q3 w.n (hwn.mem_iff.1 List.mem_cons_self) x hx e.symm
      have h2 : x ≠ n := fun e => hn0 (by rw [← e, hNl, ← List.append_assoc]; exact List.mem_append_right _ hx)
      rw [g, if_neg (fun e : x = w.n ∧ y = 3 => h1 e.1), if_neg (fun e : x = w.n ∧ y = 1 => h1 e.1), if_neg (fun e : x = n ∧ y = 0 => h2 e.1), if_neg (fun e : x = n ∧ y = 3 => h2 e.1)]
      rw [hgδ x (List.mem_cons_of_mem _ (by rw [hNl, ← List.append_assoc]; exact List.mem_append_right _ hx)) y hy]
      exact gβ x (fun e => q3 t.n (by simp [ndsT]) x hx e.symm) (fun e => q3 u.n (by simp [ndsT]) x hx e.symm) y
    ·show (ndsT (und ⟨n, 0, .nil⟩ w) ++ ndsL rest).Perm _
     refine ((und_nds ⟨n, 0, .nil⟩ w).append_right _).trans ?_
     show (n :: (ndsT w ++ ndsL rest)).Perm _
     refine List.Perm.cons _ ?_
     rw [hNl, ← List.append_assoc]
     exact hwn.append_right _
    ·intro x hx
     exact hff x (fun e => hx (e ▸ List.mem_cons_self)) (fun e => hx (e ▸ hwin))
    ·rcases List.mem_cons.1 hv with rfl | hv
     ·exact okT_und hwok.1 rfl rfl (by rw [hwk']; have := hwok.2; omega)
     ·exact hok v (by simp [hv])
    ·rcases List.mem_cons.1 hv with rfl | hv
     ·exact hodw
     ·refine (hod v (by simp [hv])).congr fun x hx => hff x (fun e => hn0 ?_) (fun e => ?_)
      ·rw [← e]; exact mem_ndsL.2 ⟨v, by simp [hv], hx⟩
      ·exact q3 w.n (hwn.mem_iff.1 List.mem_cons_self) x (mem_ndsL.2 ⟨v, hv, hx⟩) e.symm
    ·show w.k ≤ x.k
     have := (List.pairwise_cons.1 wk1).1 x hx
     rw [hwk']; omega
    ·have cw : w.n ∈ celF f (n :: ndsL (t :: u :: rest)) := List.mem_append_left _ hwin
     exact (((((hcδ.put (f := 3) (v := w.c.root) hcn).put (f := 0) (v := (w.n : Int)) hcn).put (f := 1) (v := (n : Int)) cw).put (f := 3) (v := (fo rest).root) cw).trans s9.chg).mono (fun _ h => h) (by omega)
   have hwcn : ∀ x ∈ nds w.c, Bf (f w.n) (f x) := hwod.1
   by_cases hbf : Bf (f n) (f w.n)
   ·rw [decide_eq_true hbf, bs_true]
    have hlbγ := hlbβ.sm s6
    refine Swap_ok hC (hlbγ n List.mem_cons_self) (hlbγ w.n hwin) fun M7 δ hD s7 => ?_
    have hiw : ∀ c, c = (f n).1 ∨ c = (f w.n).1 → c ∈ celF f (n :: ndsL (t :: u :: rest)) := fun c hc => by
     rcases hc with rfl | rfl
     ·exact List.mem_append_right _ (List.mem_map.2 ⟨n, List.mem_cons_self, rfl⟩)
     ·exact List.mem_append_right _ (List.mem_map.2 ⟨w.n, hwin, rfl⟩)
    refine fin (sw f n w.n) M7 δ hD (sw_lb hlbγ hnd List.mem_cons_self hwin hnw' s7) (sw_map hnn List.mem_cons_self hwin) (fun x h1 h2 => by unfold sw; rw [if_neg h1, if_neg h2]) ?_ (fun x hx => ?_) (fun x hx y hy => ?_) ?_
    ·have e1 : sw f n w.n w.n = f n := by unfold sw; rw [if_neg (fun e => hnw' e.symm), if_pos rfl]
     have e2 : sw f n w.n n = f w.n := by unfold sw; rw [if_pos rfl]
     rw [e1, e2]; exact hbf
    ·have e1 : sw f n w.n w.n = f n := by unfold sw; rw [if_neg (fun e => hnw' e.symm), if_pos rfl]
     rw [e1]; exact hbf.tr (hwcn x hx)
    ·rw [s7.get]
     show (if x = (f n).1 ∧ y = 9 then (w.n : Int) else if x = w.n ∧ y = 6 then ((f n).1 : Int) else if x = (f w.n).1 ∧ y = 9 then (n : Int) else if x = n ∧ y = 6 then ((f w.n).1 : Int) else γ.get x y) = _
     rw [if_neg (fun e => celF_ni hnd x hx n List.mem_cons_self e.1), if_neg (fun e => hy e.2), if_neg (fun e => celF_ni hnd x hx w.n hwin e.1), if_neg (fun e => hy e.2), s6.get]
    ·exact ((((((hcβ'.trans s6.chg).put (f := 6) (v := ((f w.n).1 : Int)) hcn).put (f := 9) (v := (n : Int)) (hiw _ (.inr rfl))).put (f := 6) (v := ((f n).1 : Int)) (List.mem_append_left _ hwin)).put (f := 9) (v := (w.n : Int)) (hiw _ (.inl rfl))).trans s7.chg).mono (fun _ h => h) (by omega)
   ·rw [decide_eq_false hbf, bF_]
    refine fin f M6 γ hC (hlbβ.sm s6) (List.Perm.refl _) (fun _ _ _ => rfl) (Bf.tot hbf fun e => hnw' (celF_inj hnd n List.mem_cons_self w.n hwin e)) hwcn (fun x _ y _ => by rw [s6.get]) ((hcβ'.trans s6.chg).mono (fun _ h => h) (by omega))
end
end Go.Proofs.YtodobkbnmjgkdaaGreat.HL
