import Derived.Test.YtodobkbnmjgkdaaGreatPb19
namespace Go.Proofs.YtodobkbnmjgkdaaGreat
open Go.RowKit (Below)
set_option linter.unusedVariables false
set_option linter.unusedSimpArgs false
set_option maxRecDepth 100000
namespace HL
abbrev V3 := Int × Int × Int
abbrev V5 := Int × Int × Int × Int × Int
abbrev mV (v : V3) : List Value := [.int .i64 v.1, .int .i64 v.2.1, .int .i64 v.2.2]
abbrev jY (v : V5) : List Value := [.int .i64 v.1, .int .i64 v.2.1, .int .i64 v.2.2.1, .int .i64 v.2.2.2.1, .int .i64 v.2.2.2.2]
def z3 : V3 := (0, 0, 0)
def z5 : V5 := (0, 0, 0, 0, 0)
def xR (x : rO V3) : List Value := .int .i64 x.g :: .bool x.t :: mV x.v
def pc5 (x : rO V5) : List Value := .int .i64 x.g :: .bool x.t :: jY x.v
theorem jG (x : rO V3) : (xR x).length = 5 := rfl
theorem qH (x : rO V5) : (pc5 x).length = 7 := rfl
theorem aCr (x : rO V3) : ∀ v ∈ xR x, bQ v = true := by
 intro v hv
 simp only [xR, mV, List.mem_cons, List.not_mem_nil, or_false] at hv
 rcases hv with rfl | rfl | rfl | rfl | rfl <;> rfl
theorem aEG (x : rO V5) : ∀ v ∈ pc5 x, bQ v = true := by
 intro v hv
 simp only [pc5, jY, List.mem_cons, List.not_mem_nil, or_false] at hv
 rcases hv with rfl | rfl | rfl | rfl | rfl | rfl | rfl <;> rfl
theorem pQ (x : V3) : ∀ v ∈ mV x, bQ v = true := by
 intro v hv
 simp only [mV, List.mem_cons, List.not_mem_nil, or_false] at hv
 rcases hv with rfl | rfl | rfl <;> rfl
theorem dI (x : V5) : ∀ v ∈ jY x, bQ v = true := by
 intro v hv
 simp only [jY, List.mem_cons, List.not_mem_nil, or_false] at hv
 rcases hv with rfl | rfl | rfl | rfl | rfl <;> rfl
theorem aGe {α : Type} {c : α → List Value} {k : Nat} (hc : ∀ x, (c x).length = k) {l : List α} {i : Nat} {x x' : α} {o : Nat} {A B B' : List Value} {rest : List Value} (hx : l[i]? = some x) (h1 : c x = A ++ B) (h2 : c x' = A ++ B') (hA : A.length = o) (hB : B'.length = B.length) :
  eH (l.flatMap c ++ rest) (i * k + o) B' = (l.set i x').flatMap c ++ rest := by
 obtain ⟨hi, hxe⟩ := List.getElem?_eq_some_iff.1 hx
 have e1 : l = l.take i ++ x :: l.drop (i + 1) := by rw [← hxe, ← List.drop_eq_getElem_cons hi, List.take_append_drop]
 have e2 : l.set i x' = l.take i ++ x' :: l.drop (i + 1) := by rw [List.set_eq_take_append_cons_drop, if_pos hi]
 have hl : ((l.take i).flatMap c).length = i * k := by rw [rC hc, List.length_take, Nat.min_eq_left (by omega)]
 rw [e2]
 conv => lhs; rw [e1]
 rw [List.flatMap_append, List.flatMap_cons, List.flatMap_append, List.flatMap_cons, h1, h2]
 have := eM ((l.take i).flatMap c ++ A) B ((l.drop (i + 1)).flatMap c ++ rest) B' hB (o := i * k + o) (by rw [List.length_append, hl, hA])
 simp only [List.append_assoc] at this ⊢
 exact this
section
variable {w0 : World} {F M : Mem} {R : VP}
theorem tZ {α : Type} {c : α → List Value} {k : Nat} (hc : ∀ x, (c x).length = k) {t : TypeId} {vs : List Value} (hg : gM PP t vs.length = true) {s : SV} {l : List α} {Q : cY} (h : aA w0 F M (star (dP k s (l.flatMap c)) Q)) {i : Nat} {x x' : α} (hx : l[i]? = some x) {o : Nat} {A B : List Value} (h1 : c x = A ++ B) (h2 : c x' = A ++ vs) (hA : A.length = o) (hB : vs.length = B.length) (hone : ∀ v ∈ vs, bQ v = true)
  {blk : Nat} (ha : s.a = some ⟨blk, 0, none⟩) (hn : s.n = l.length) {K : Mem → Prop} (hK : ∀ M', aA w0 F M' (star (dP k s ((l.set i x').flatMap c)) Q) → K M') : (aH PP w0).st t ⟨blk, i * k + o, none⟩ (.agg vs.toArray) (fun M' => K M') M := by
 obtain ⟨hi, _⟩ := List.getElem?_eq_some_iff.1 hx
 obtain ⟨b, rest, e, ha', e1, e2, hR⟩ := dP.row h (by omega)
 rw [ha] at ha'; cases ha'
 have hk : (c x).length = k := hc x
 rw [h1, List.length_append] at hk
 have hik : (i + 1) * k ≤ l.length * k := Nat.mul_le_mul_right k (by omega)
 rw [Nat.succ_mul] at hik
 have hfl := rC hc l
 refine gZ hg hR.bA (by rw [List.length_append, hfl]; omega) hone ?_
 rw [aGe hc hx h1 h2 hA hB]
 refine hK _ ?_
 have h3 := hR.kZ (cs' := (l.set i x').flatMap c ++ rest) (e' := e)
 obtain ⟨s_a, s_n, s_c⟩ := s
 simp only at ha
 subst ha
 refine dP.ofRow h3 ?_ ?_
 ·rw [rC hc, List.length_set]; rw [hfl] at e1; exact e1
 ·rw [rC hc, List.length_set, ← hfl]; exact e2
end
end HL
set_option maxHeartbeats 1000000
namespace HL
section
variable {w0 : World} {F M : Mem} {R : VP} {p : Nat} {P : PS V3} {Q : cY}
def wP (p : Nat) (P : PS V3) : cY := fun r => ∃ sL sF : SV, star (aY p [.int .i64 P.most, SV.v sL, SV.v sF] 208) (star (dP 5 sL (P.l.flatMap xR)) (dP 1 sF (vN P.free))) r
abbrev uR (w0 : World) (F M : Mem) (p : Nat) (P : PS V3) (sL sF : SV) (Q : cY) : Prop := aA w0 F M (star (aY p [.int .i64 P.most, SV.v sL, SV.v sF] 208) (star (dP 5 sL (P.l.flatMap xR)) (star (dP 1 sF (vN P.free)) Q)))
theorem wP.open_ (h : aA w0 F M (star (wP p P) Q)) : ∃ sL sF, uR w0 F M p P sL sF Q := by
 obtain ⟨r, ⟨r1, r2, rfl, ⟨sL, sF, h1⟩, h2⟩, h3⟩ := h
 refine ⟨sL, sF, ?_⟩
 have : aA w0 F M (star (star (aY p [.int .i64 P.most, SV.v sL, SV.v sF] 208) (star (dP 5 sL (P.l.flatMap xR)) (dP 1 sF (vN P.free)))) Q) := ⟨_, ⟨r1, r2, rfl, h1, h2⟩, h3⟩
 have h4 := aA.assoc.1 this
 obtain ⟨F1, k1, _, k2⟩ := h4.last
 exact k2 _ _ (aA.assoc.1 k1)
theorem uR.close {sL sF : SV} (h : uR w0 F M p P sL sF Q) : aA w0 F M (star (wP p P) Q) := by
 obtain ⟨F1, k1, _, k2⟩ := aA.last h
 have h1 := k2 _ _ (aA.assoc.2 k1)
 have h2 := aA.assoc.2 h1
 obtain ⟨r, ⟨r1, r2, rfl, g1, g2⟩, g3⟩ := h2
 exact ⟨_, ⟨r1, r2, rfl, ⟨sL, sF, g1⟩, g2⟩, g3⟩
section
variable {sL sF : SV}
theorem uR.r0 (h : uR w0 F M p P sL sF Q) : rd w0 M ⟨p, 0, none⟩ = some (.int .i64 P.most) := aM (o := 0) h.bA
theorem uR.r1 (h : uR w0 F M p P sL sF Q) : rd w0 M ⟨p, 1, none⟩ = some (SV.v sL) := aM (o := 1) h.bA
theorem uR.r2 (h : uR w0 F M p P sL sF Q) : rd w0 M ⟨p, 2, none⟩ = some (SV.v sF) := aM (o := 2) h.bA
theorem uR.nL (h : uR w0 F M p P sL sF Q) : sL.n = P.l.length := aA.nR jG (by decide) h.right
theorem uR.nF (h : uR w0 F M p P sL sF Q) : sF.n = P.free.length := by
 have := uI (k := 1) h.right.right
 rw [this]; simp [vN]
theorem uR.el (h : uR w0 F M p P sL sF Q) {i : Nat} {x : rO V3} (hx : P.l[i]? = some x) : ∃ blk, sL.a = some ⟨blk, 0, none⟩ ∧ sL.n = P.l.length ∧ i < sL.n ∧ ∀ f v, (xR x)[f]? = some v → rd w0 M ⟨blk, i * 5 + f, none⟩ = some v := aA.adR jG (by decide) h.right hx
theorem uR.focus (h : uR w0 F M p P sL sF Q) : ∃ F5, aA w0 F5 M Q ∧ Mem.le F F5 ∧ ∀ M' Q', aA w0 F5 M' Q' → uR w0 F M' p P sL sF Q' := by
 obtain ⟨F1, k1, l1, k2⟩ := aA.last h
 obtain ⟨F2, k3, l2, k4⟩ := k1.last
 obtain ⟨F3, k5, l3, k6⟩ := k3.last
 exact ⟨F3, k5, Mem.le_trans l1 (Mem.le_trans l2 l3), fun M' Q' hh => k2 _ _ (k4 _ _ (k6 _ _ hh))⟩
end
theorem aKt {b : Nat} {cs : List Value} {Pq : cY} {v : V3} (h : aA w0 F M (star (aY b cs 149) Pq)) (hcs : cs.length = 3) {K : VP} (hK : ∀ M', aA w0 F M' Pq → K (.agg #[.int .i64 v.1, .int .i64 v.2.1, .int .i64 v.2.2]) M') :
  (aH PP w0).st 149 ⟨b, 0, none⟩ (.agg #[.int .i64 v.1, .int .i64 v.2.1, .int .i64 v.2.2]) (fun M1 => ob ((aH PP w0).rdv 149 (.pointer (some ⟨b, 0, none⟩)) M1) fun v => K v M1) M := by
 refine gZ (vs := mV v) W.aBe h.bA (by rw [hcs]; exact Nat.le_refl _) (pQ v) ?_
 have h2 := h.kZ (cs' := eH cs 0 (mV v)) (e' := 149)
 have e0 : eH cs 0 (mV v) = mV v := by
  have := eM [] cs [] (mV v) (by rw [hcs]; rfl) (o := 0) rfl
  simpa using this
 rw [e0] at h2 ⊢
 have o2 := h2.bA
 rw [qF, c9 (cs := mV v) W.aBe (fun j u hj => by rw [add_eq, aM o2, Nat.zero_add]; exact hj), aC]
 exact hK _ h2.right
theorem aFL {b o : Nat} {v : V3} {cs : List Value} {e : TypeId} (h : cM w0 M b cs e) (hc : ∀ j u, (mV v)[j]? = some u → cs[o + j]? = some u) : (aH PP w0).ld 149 ⟨b, o, none⟩ M = some (.agg #[.int .i64 v.1, .int .i64 v.2.1, .int .i64 v.2.2]) :=
 c9 (cs := mV v) W.aBe (fun j u hj => by rw [add_eq, aM h]; exact hc j u hj)
theorem aHc {b : Nat} {x y : Int} {e : TypeId} (h : cM w0 M b [.int .i64 x, .int .i64 y] e) : (aH PP w0).ld 33 ⟨b, 0, none⟩ M = some (.agg #[.int .i64 x, .int .i64 y]) :=
 c9 (cs := [.int .i64 x, .int .i64 y]) W.g33 (fun j u hj => by rw [add_eq, aM h, Nat.zero_add]; exact hj)
theorem aA6 {sL sF : SV} {a g : Int} (h : uR w0 F M p P sL sF Q) (hb : P.l.length ≤ 100000)
  (h1 : ∀ (i : Nat) v blk, a = (i : Int) → P.l[i]? = some ⟨g, true, v⟩ → P.find a g = some v → sL.a = some ⟨blk, 0, none⟩ → ∀ M', Mem.le M M' → R (.tuple #[.pointer (some ⟨blk, i * 5, none⟩), .int .i64 0]) M')
  (h0 : P.find a g = none → ∀ M' e, Mem.le M M' → e ≠ 0 → e = P.pl.look a g → R (.tuple #[.pointer none, .int .i64 e]) M') :
  C PP w0 Id.cU #[.pointer (some ⟨p, 0, none⟩), .agg #[.int .i64 a, .int .i64 g]] R M := by
 apply cU.go
 intro aB H
 unfold cU.T aJ
 intro b1 hb1 hw1
 have l1 := Mem.fN (M := M) (.row [.int .i64 a, .int .i64 g] 33) hb1
 have o1 : cM w0 (M.set b1 (.row [.int .i64 a, .int .i64 g] 33)) b1 [.int .i64 a, .int .i64 g] 33 := cM.new hw1
 generalize M.set b1 _ = M1 at l1 o1 ⊢
 have hO : uR w0 F M1 p P sL sF Q := aA.le h l1
 have f0 : rd w0 M1 ⟨b1, 0, none⟩ = some (.int .i64 a) := aM (o := 0) o1
 have f1 : rd w0 M1 ⟨b1, 1, none⟩ = some (.int .i64 g) := aM (o := 1) o1
 have fL := hO.r1
 have hn := hO.nL
 have hlk : ∀ e, P.pl.look a g = e → e ≠ 0 → P.find a g = none := fun e he eE => by
  cases hf : P.find a g with
  | none => rfl
  | some v =>
   have := PS.pJ.1 (show (P.find a g).isSome = true by rw [hf]; rfl)
   exact absurd (he ▸ this) eE
 have h22 : P.pl.look a g = 22 → R (.tuple #[.pointer none, .int .i64 22]) M1 := fun e => h0 (hlk 22 e (by decide)) M1 22 l1 (by decide) e.symm
 have h23 : P.pl.look a g = 23 → R (.tuple #[.pointer none, .int .i64 23]) M1 := fun e => h0 (hlk 23 e (by decide)) M1 23 l1 (by decide) e.symm
 have hlook : P.pl.look a g = if a < 0 ∨ (P.l.length : Int) ≤ a ∨ g < 1 ∨ (P.l.map (·.g)).getD a.toNat 0 < g then 22 else if g < (P.l.map (·.g)).getD a.toNat 0 ∨ (P.l.map (·.t)).getD a.toNat false = false then 23 else 0 := by
  unfold Pl.look PS.pl
  simp only [List.length_map]
 simp only [aX, aP W.c3, aP W.aHz, add_eq, Nat.zero_add, f0, f1, fL, aC, aL, aR]
 rw [eO]
 split
 ·rename_i ha
  exact h22 (by rw [hlook, if_pos (.inl ha)])
 ·rename_i ha
  rw [eO]
  split
  ·exact h22 (by rw [hlook, if_pos (.inr (.inl (by omega)))])
  ·rename_i hal
   rw [eO]
   split
   ·rename_i hg
    exact h22 (by rw [hlook, if_pos (.inr (.inr (.inl hg)))])
   ·rename_i hg
    obtain ⟨i, rfl⟩ : ∃ i : Nat, a = (i : Int) := ⟨a.toNat, by omega⟩
    have hil : i < P.l.length := by omega
    have hx := List.getElem?_eq_getElem hil
    generalize P.l[i] = x at hx
    obtain ⟨blk, ha2, hn2, hi2, hrd⟩ := hO.el hx
    have eg : (P.l.map (·.g)).getD (i : Int).toNat 0 = x.g := by rw [Int.toNat_natCast, List.getD_eq_getElem?_getD, List.getElem?_map, hx]; rfl
    have et : (P.l.map (·.t)).getD (i : Int).toNat false = x.t := by rw [Int.toNat_natCast, List.getD_eq_getElem?_getD, List.getElem?_map, hx]; rfl
    rw [eg, et] at hlook
    have r0 : rd w0 M1 ⟨blk, i * 5, none⟩ = some (.int .i64 x.g) := hrd 0 _ rfl
    have r1 : rd w0 M1 ⟨blk, i * 5 + 1, none⟩ = some (.bool x.t) := hrd 1 _ rfl
    simp only [ha2, aX, Int.toNat_natCast, add_eq, Nat.zero_add, r0, aC, aL]
    refine ⟨⟨by omega, by omega⟩, ?_⟩
    rw [eO]
    split
    ·rename_i hgg
     exact h22 (by rw [hlook, if_pos (.inr (.inr (.inr hgg)))])
    ·rename_i hgg
     have hno : ¬ ((i : Int) < 0 ∨ (P.l.length : Int) ≤ (i : Int) ∨ g < 1 ∨ x.g < g) := by omega
     rw [if_neg hno] at hlook
     refine Eq.mpr (H.J1 ..) ?_
     unfold cU.J1.T aJ
     simp only [aX, aP W.c3, aP W.c4, aP W.aHz, add_eq, Nat.zero_add, f0, f1, fL, aC, aL, aR, bU, ha2, Int.toNat_natCast, r0, r1]
     refine ⟨⟨by omega, by omega⟩, ?_⟩
     rw [eO]
     split
     ·rename_i hlt
      exact h23 (by rw [hlook, if_pos (.inl hlt)])
     ·rename_i hlt
      cases ht : x.t with
      | false =>
       rw [Bool.not_false, dU]
       exact h23 (by rw [hlook, if_pos (.inr ht)])
      | true =>
       rw [Bool.not_true, mT]
       have hgx : g = x.g := by omega
       have hx2 : P.l[i]? = some ⟨g, true, x.v⟩ := by
        rw [hx, hgx]
        obtain ⟨xg, xt, xv⟩ := x
        simp only at ht
        subst ht; rfl
       exact h1 i x.v blk rfl hx2 (PS.jS hx2 (by omega)) ha2 M1 l1
theorem aI8 {a g : Int} (h : aA w0 F M (star (wP p P) Q)) (hb : P.l.length ≤ 100000)
  (h1 : ∀ v, P.find a g = some v → ∀ M', Mem.le M M' → R (.tuple #[.agg #[.int .i64 v.1, .int .i64 v.2.1, .int .i64 v.2.2], .int .i64 0]) M')
  (h0 : P.find a g = none → ∀ M' e, Mem.le M M' → e ≠ 0 → e = P.pl.look a g → R (.tuple #[.agg #[.int .i64 0, .int .i64 0, .int .i64 0], .int .i64 e]) M') :
  C PP w0 Id.jO #[.pointer (some ⟨p, 0, none⟩), .agg #[.int .i64 a, .int .i64 g]] R M := by
 apply jO.go
 unfold jO.T aJ
 obtain ⟨sL, sF, hO⟩ := wP.open_ h
 intro b1 hb1 hw1
 have l1 := Mem.fN (M := M) (.row [.int .i64 a, .int .i64 g] 33) hb1
 have o1 : cM w0 (M.set b1 (.row [.int .i64 a, .int .i64 g] 33)) b1 [.int .i64 a, .int .i64 g] 33 := cM.new hw1
 generalize M.set b1 _ = M1 at l1 o1 ⊢
 intro b3 hb3 hw3
 have n1 : aA w0 M1 M1 (fun r => r = []) := ⟨[], rfl, Fit.nil (Mem.le_refl _)⟩
 have n3 : aA w0 M1 _ (star (aY b3 _ 149) _) := n1.new hb3 hw3 [.int .i64 0, .int .i64 0, .int .i64 0] 149
 generalize M1.set b3 _ = M2 at n3 ⊢
 have l2 := n3.fr
 rw [aHc (o1.le l2)]
 simp only [aC, a9, aU, aL, aT]
 have hO2 : uR w0 F M2 p P sL sF Q := aA.le hO (Mem.le_trans l1 l2)
 refine aA6 hO2 hb (fun i v blk ea hx hf ha M3 l3 => ?_) fun hf M3 e l3 he hel => ?_
 ·simp only [cA, aU, bK, aL, aT]
  rw [cD, if_pos rfl, aX, add_eq]
  have hO3 : uR w0 F M3 p P sL sF Q := aA.le hO2 l3
  obtain ⟨blk', ha', hn', hi', hrd⟩ := hO3.el hx
  rw [ha] at ha'; cases ha'
  rw [c9 (cs := mV v) W.aBe (fun j u hj => by rw [add_eq, Nat.add_assoc]; exact hrd (2 + j) u (by rw [Nat.add_comm]; exact hj))]
  simp only [aC, a9, aU, aL, aT]
  refine aKt (n3.le l3) rfl (K := fun v M => R (.tuple #[v, .int .i64 0]) M) fun M4 h4 => ?_
  exact h1 v hf M4 (Mem.le_trans l1 h4.fr)
 ·simp only [cA, aU, bK, aL, aT]
  rw [cD, if_neg he]
  intro b22 hb22 hw22
  have l4 := Mem.fN (M := M3) (.row [.int .i64 0, .int .i64 0, .int .i64 0] 149) hb22
  have o4 : cM w0 (M3.set b22 (.row [.int .i64 0, .int .i64 0, .int .i64 0] 149)) b22 (mV z3) 149 := cM.new hw22
  generalize M3.set b22 _ = M4 at l4 o4 ⊢
  rw [aFL (v := z3) (o := 0) o4 (fun j u hj => by rw [Nat.zero_add]; exact hj)]
  simp only [aC, a9, aU, aL, aT]
  refine aKt (v := z3) (n3.le (Mem.le_trans l3 l4)) rfl (K := fun v M => R (.tuple #[v, .int .i64 e]) M) fun M5 h5 => ?_
  exact h0 hf M5 e (Mem.le_trans l1 h5.fr) he hel
theorem aIs {a g : Int} {v w : V3} (h : aA w0 F M (star (wP p P) Q)) (hb : P.l.length ≤ 100000) (hw : P.find a g = some w)
  (h1 : ∀ M', aA w0 F M' (star (wP p (P.put a.toNat v)) Q) → R (.int .i64 0) M') :
  C PP w0 Id.j0 #[.pointer (some ⟨p, 0, none⟩), .agg #[.int .i64 a, .int .i64 g], .agg #[.int .i64 v.1, .int .i64 v.2.1, .int .i64 v.2.2]] R M := by
 apply j0.go
 unfold j0.T aJ
 obtain ⟨sL, sF, hO⟩ := wP.open_ h
 intro b1 hb1 hw1
 have l1 := Mem.fN (M := M) (.row [.int .i64 a, .int .i64 g] 33) hb1
 have o1 : cM w0 (M.set b1 (.row [.int .i64 a, .int .i64 g] 33)) b1 [.int .i64 a, .int .i64 g] 33 := cM.new hw1
 generalize M.set b1 _ = M1 at l1 o1 ⊢
 intro b3 hb3 hw3
 have l2 := Mem.fN (M := M1) (.row (mV v) 149) hb3
 have o3 : cM w0 (M1.set b3 (.row (mV v) 149)) b3 (mV v) 149 := cM.new hw3
 change _ at hb3
 generalize hM2 : M1.set b3 _ = M2
 have hM2' : M1.set b3 (.row (mV v) 149) = M2 := hM2
 rw [hM2'] at l2 o3
 rw [aHc (o1.le l2)]
 simp only [aC, a9, aU, aL, aT]
 have hO2 : uR w0 F M2 p P sL sF Q := aA.le hO (Mem.le_trans l1 l2)
 refine aA6 hO2 hb (fun i v' blk ea hx hf ha M3 l3 => ?_) fun hf M3 e l3 he hel => ?_
 ·simp only [cA, aU, bK, aL, aT]
  rw [eW, if_pos rfl, aFL (v := v) (o := 0) (o3.le l3) (fun j u hj => by rw [Nat.zero_add]; exact hj)]
  simp only [aC, a9, aU, aL, aT, aX, add_eq]
  have hO3 : uR w0 F M3 p P sL sF Q := aA.le hO2 l3
  have hn := hO3.nL
  obtain ⟨F1, k1, _, k2⟩ := aA.last hO3
  refine tZ jG (vs := mV v) W.aBe k1 hx (x' := ⟨g, true, v⟩) (A := [.int .i64 g, .bool true]) (B := mV v') rfl rfl rfl rfl (pQ v) ha hn fun M4 h4 => ?_
  have h5 := k2 _ _ h4
  refine h1 M4 (uR.close (sL := sL) (sF := sF) ?_)
  subst ea
  rw [Int.toNat_natCast]
  obtain ⟨e1, e2, e3⟩ := PS.uT v hx
  unfold uR
  rw [e1, e2, e3]
  exact h5
 ·rw [hw] at hf; cases hf
theorem aGu {v : V3} (h : aA w0 F M (star (wP p P) Q)) (hok : P.Ok) (hb : P.l.length ≤ 10000) (hfb : P.free.length ≤ 10000) (hg : ∀ x ∈ P.l, 0 ≤ x.g ∧ x.g ≤ 1000000) {a : Nat} (hat : P.at_ = some a)
  (h1 : ∀ M', aA w0 F M' (star (wP p (P.take z3 a v)) Q) → R (.tuple #[.agg #[.int .i64 (a : Int), .int .i64 (P.gen a)], .bool true]) M') :
  C PP w0 Id.cQ #[.pointer (some ⟨p, 0, none⟩), .agg #[.int .i64 v.1, .int .i64 v.2.1, .int .i64 v.2.2]] R M := by
 apply cQ.go
 intro aB H
 unfold cQ.T aJ
 intro b1 hb1 hw1
 have g1 : aA w0 F _ (star (aY b1 (mV v) 149) (star (wP p P) Q)) := h.new hb1 hw1 (mV v) 149
 generalize hM1 : M.set b1 _ = M1
 have hM1' : M.set b1 (.row (mV v) 149) = M1 := hM1
 rw [hM1'] at g1
 obtain ⟨F1, hle1, hown, g2⟩ := aA.fQ g1
 intro b3 hb3 hw3
 have g3 : aA w0 F1 _ (star (aY b3 _ 33) (star (wP p P) Q)) := g2.new hb3 hw3 [.int .i64 0, .int .i64 0] 33
 generalize M1.set b3 _ = M2 at g3 ⊢
 obtain ⟨sL, sF, hO⟩ := wP.open_ g3.dT
 have keyJ1 : ∀ (M' : Mem) (P' : PS V3) (sL sF : SV) (x : rO V3), uR w0 F1 M' p P' sL sF (star (aY b3 [.int .i64 0, .int .i64 0] 33) Q) → P'.l[a]? = some x → 0 ≤ x.g ∧ x.g ≤ 1000000 →
   (∀ M'', aA w0 F1 M'' (star (wP p { P' with l := P'.l.set a ⟨x.g + 1, true, v⟩ }) Q) → R (.tuple #[.agg #[.int .i64 (a : Int), .int .i64 (x.g + 1)], .bool true]) M'') →
   cQ.J1 aB (some ⟨p, 0, none⟩) ⟨b1, 0, none⟩ ⟨b3, 0, none⟩ (a : Int) M' := by
  intro M' P' sL sF x hX hx hxg hR
  refine Eq.mpr (H.J1 ..) ?_
  unfold cQ.J1.T aJ
  obtain ⟨blk, ha, hn, hi, hrd⟩ := hX.el hx
  have eL := hX.r1
  have r0 : rd w0 M' ⟨blk, a * 5, none⟩ = some (.int .i64 x.g) := hrd 0 _ rfl
  simp only [aX, aP W.c3, aP W.aHz, add_eq, Nat.zero_add, eL, aC, aR, ha, Int.toNat_natCast, r0, aL]
  refine ⟨⟨by omega, by omega⟩, ?_⟩
  rw [bC (by omega)]
  obtain ⟨F2, k1, _, k2⟩ := aA.last hX
  have hnl : ∀ y, (P'.l.set a y).length = P'.l.length := fun y => List.length_set
  refine aA.stR (f := 0) jG (by decide) W.c3 k1 hx (x' := { x with g := x.g + 1 }) (by decide) rfl rfl rfl ha fun M3 h3 => ?_
  have hX3 : uR w0 F1 M3 p { P' with l := P'.l.set a { x with g := x.g + 1 } } sL sF (star (aY b3 [.int .i64 0, .int .i64 0] 33) Q) := k2 _ _ h3
  rw [aFL (v := v) (o := 0) (hown.le (aA.fr hX3)) (fun j u hj => by rw [Nat.zero_add]; exact hj)]
  simp only [aC, a9, aU, aL, aT]
  have hal : a < P'.l.length := (List.getElem?_eq_some_iff.1 hx).1
  have hx3 : (P'.l.set a { x with g := x.g + 1 })[a]? = some { x with g := x.g + 1 } := List.getElem?_set_self hal
  obtain ⟨F3, k3, _, k4⟩ := aA.last hX3
  refine aA.stR (f := 1) jG (by decide) W.c4 k3 hx3 (x' := ⟨x.g + 1, true, x.v⟩) (by decide) rfl rfl rfl ha fun M4 h4 => ?_
  have hX4 : uR w0 F1 M4 p { P' with l := P'.l.set a ⟨x.g + 1, true, x.v⟩ } sL sF (star (aY b3 [.int .i64 0, .int .i64 0] 33) Q) := by
   have := k4 _ _ h4
   rw [List.set_set] at this
   exact this
  refine ⟨aFL (v := v) (o := 0) (hown.le (aA.fr hX4)) (fun j u hj => by rw [Nat.zero_add]; exact hj), ?_⟩
  have hx4 : (P'.l.set a ⟨x.g + 1, true, x.v⟩)[a]? = some ⟨x.g + 1, true, x.v⟩ := List.getElem?_set_self hal
  obtain ⟨F4, k5, _, k6⟩ := aA.last hX4
  refine tZ jG (vs := mV v) W.aBe k5 hx4 (x' := ⟨x.g + 1, true, v⟩) (A := [.int .i64 (x.g + 1), .bool true]) (B := mV x.v) rfl rfl rfl rfl (pQ v) ha (by rw [hnl]; exact hn) fun M5 h5 => ?_
  have hX5 : uR w0 F1 M5 p { P' with l := P'.l.set a ⟨x.g + 1, true, v⟩ } sL sF (star (aY b3 [.int .i64 0, .int .i64 0] 33) Q) := by
   have := k6 _ _ h5
   rw [List.set_set] at this
   exact this
  have hx5 : (P'.l.set a ⟨x.g + 1, true, v⟩)[a]? = some ⟨x.g + 1, true, v⟩ := List.getElem?_set_self hal
  obtain ⟨blk5, ha5, hn5, hi5, hrd5⟩ := hX5.el hx5
  rw [ha] at ha5; cases ha5
  have r5 : rd w0 M5 ⟨blk, a * 5, none⟩ = some (.int .i64 (x.g + 1)) := hrd5 0 _ rfl
  have hbld : (aH PP w0).nM 33 [(0, .int .i64 (a : Int)), (1, .int .i64 (x.g + 1))] = some (.agg #[.int .i64 (a : Int), .int .i64 (x.g + 1)]) := by kernel_rfl
  simp only [r5, aC, aL, hbld, a9, aU, aT]
  obtain ⟨F5, k7, _, k8⟩ := uR.focus hX5
  refine aAN k7 (K := fun v M => R (.tuple #[v, .bool true]) M) fun M6 hback => ?_
  exact hR M6 (uR.close (k8 _ _ (hback _ _ k7)))
 have eL := hO.r1
 have eF := hO.r2
 have e0 := hO.r0
 have nL := hO.nL
 have nF := hO.nF
 simp only [aX, aP W.c3, aP W.c53, aP W.aHz, add_eq, Nat.zero_add, eL, eF, e0, aC, aR, aL]
 rw [eO]
 split
 ·-- one that was given back
  rename_i hpos
  have hp2 : 0 < P.free.length := by
   apply Decidable.byContradiction
   intro hc
   have : sF.n = 0 := by omega
   rw [this] at hpos
   rw [show p4 (((0 : Nat) : Int) - 1) = -1 from by rw [bC (by omega)]; omega] at hpos
   omega
  obtain ⟨bs, x, hbs⟩ : ∃ bs x, P.free = bs ++ [x] := by
   rcases List.eq_nil_or_concat P.free with e | ⟨bs, x, e⟩
   ·rw [e] at hp2; simp at hp2
   ·exact ⟨bs, x, by rw [e, List.concat_eq_append]⟩
  have hlast : P.free.getLast? = some x := by rw [hbs]; simp
  have hax : a = x := by
   unfold PS.at_ at hat
   rw [hlast] at hat
   simpa using hat.symm
  subst hax
  have hfl : P.free.length = bs.length + 1 := by rw [hbs]; simp
  have hw : p4 (((sF.n : Nat) : Int) - 1) = ((bs.length : Nat) : Int) := by rw [bC (by omega)]; omega
  obtain ⟨F2, k1, _, k2⟩ := aA.last hO
  obtain ⟨F3, k3, _, k4⟩ := k1.last
  have hc3 := dN k3
  obtain ⟨blk, rest, e, ha, q1, q2, q3⟩ := dP.row k3 (by omega)
  have hcap : sF.n ≤ sF.c := by rw [Nat.mul_one] at q1 q2; omega
  rw [hw]
  refine rdv hc3.1 (uI (k := 1) k3) bs.length rfl (v := .int .i64 (a : Int)) (by unfold vN; rw [hbs, List.getElem?_map, List.getElem?_append_right (Nat.le_refl _)]; simp) ?_
  rw [aL]
  refine ⟨⟨by omega, by omega, by omega⟩, ?_⟩
  have hsl : (Value.slice (if sF.c = (0 : Int).toNat then sF.a else sF.a.map (·.add ((0 : Int).toNat * 1))) (((bs.length : Nat) : Int).toNat - (0 : Int).toNat) (sF.c - (0 : Int).toNat)) = SV.v ⟨some ⟨blk, 0, none⟩, bs.length, sF.c⟩ := by
   rw [ha, Int.toNat_zero, Int.toNat_natCast, Nat.sub_zero, Nat.sub_zero, Nat.zero_mul]
   unfold SV.v
   simp only [Option.map_some, add_eq]
   split <;> rfl
  rw [hsl]
  refine gF W.c53 (aA.bA hO) (by simp) rfl rfl ?_
  have h4 := aA.kZ hO (cs' := [.int .i64 P.most, SV.v sL, SV.v ⟨some ⟨blk, 0, none⟩, bs.length, sF.c⟩]) (e' := 208)
  have hvs : vN P.free ++ rest = vN bs ++ (.int .i64 (a : Int) :: rest) := by rw [hbs]; simp [vN]
  have uV : ∀ (b' : Bool), True := fun _ => trivial
  obtain ⟨y, hy, hyt⟩ := hok.fr a (by rw [hbs]; simp)
  refine keyJ1 _ { P with free := bs } sL ⟨some ⟨blk, 0, none⟩, bs.length, sF.c⟩ y ?_ hy (hg y (List.mem_of_getElem? hy)) fun M5 h5 => ?_
  ·obtain ⟨F6, k6, _, k7⟩ := aA.last h4
   obtain ⟨F8, k8, _, k9⟩ := k6.last
   refine k7 _ _ (k9 _ _ ?_)
   obtain ⟨blk', rest', e', ha', q1', q2', q3'⟩ := dP.row k8 (by omega)
   rw [ha] at ha'; cases ha'
   have hvs' : vN P.free ++ rest' = vN bs ++ (.int .i64 (a : Int) :: rest') := by rw [hbs]; simp [vN]
   rw [hvs'] at q3'
   have hvl : (vN bs).length = bs.length := by simp [vN]
   have hvl2 : (vN P.free).length = bs.length + 1 := by simp [vN, hfl]
   refine dP.ofRow q3' (by rw [hvl]; omega) ?_
   rw [hvl, List.length_cons]
   rw [hvl2] at q2'
   omega
  ·have hgen : P.gen a = y.g + 1 := by unfold PS.gen; rw [hy]
   have htk : P.take z3 a v = { P with free := bs, l := P.l.set a ⟨y.g + 1, true, v⟩ } := by
    unfold PS.take PS.grow
    rw [hlast, hgen]
    simp [hbs]
   rw [htk, hgen] at h1
   exact h1 M5 (h5.fJ hle1)
 ·rename_i hpos
  have hp2 : P.free = [] := by
   apply List.eq_nil_of_length_eq_zero
   apply Decidable.byContradiction
   intro hc
   rw [show p4 (((sF.n : Nat) : Int) - 1) = ((sF.n : Nat) : Int) - 1 from bC (by omega)] at hpos
   omega
  have hlast : P.free.getLast? = none := by rw [hp2]; rfl
  have hat2 := hat
  unfold PS.at_ at hat2
  rw [hlast] at hat2
  simp only at hat2
  split at hat2
  ·cases hat2
  ·rename_i hm
   have hal : a = P.l.length := by simpa using hat2.symm
   rw [eO, if_neg (by omega)]
   have hbld : (aH PP w0).nM 213 [] = some (.agg #[.int .i64 0, .bool false, .int .i64 0, .int .i64 0, .int .i64 0]) := by kernel_rfl
   simp only [hbld, aC, a9, aU, aL, bU, aT]
   refine sU (n := 1) (cells := #[.int .i64 0, .bool false, .int .i64 0, .int .i64 0, .int .i64 0]) Tryz.underlying206 W.aLg (by decide) (by kernel_rfl) fun bn hbn hwn => ?_
   rw [rF]
   have hNw : aA w0 F1 _ (star (aY bn (xR ⟨0, false, z3⟩) 213) _) := aA.new hO hbn hwn (xR ⟨0, false, z3⟩) 213
   change aA w0 F1 (M2.set bn (.row (#[.int .i64 0, .bool false, .int .i64 0, .int .i64 0, .int .i64 0] : Array Value).toList 213)) _ at hNw
   generalize M2.set bn _ = M3 at hNw ⊢
   obtain ⟨F2, hle2, hownN, hO3⟩ := aA.fQ hNw
   obtain ⟨F3, k1, l3, k2⟩ := aA.last hO3
   have hcap := aA.aIx jG (by decide) k1
   refine uD (x := ⟨some ⟨bn, 0, none⟩, 1, 1⟩) (news := xR ⟨0, false, z3⟩) Tryz.underlying206 W.aLg k1 rfl (gK.own (hownN.le hO3.fr) fun j u hj => by rw [Nat.zero_add]; exact hj) (fun e0 => by cases e0) (aCr _) (by decide) (by show sL.n + 1 ≤ _; omega) fun M4 s4 h4 => ?_
   rw [aR]
   have h5 := k2 _ _ h4
   refine gF W.aHz (aA.bA h5) (by simp) rfl rfl ?_
   have h6 := aA.kZ h5 (cs' := [.int .i64 P.most, SV.v s4, SV.v sF]) (e' := 208)
   rw [nL, ← hal]
   have hfm : P.l.flatMap xR ++ xR ⟨0, false, z3⟩ = (P.l ++ ([⟨0, false, z3⟩] : List (rO V3))).flatMap xR := by simp
   refine keyJ1 _ { P with l := P.l ++ ([⟨0, false, z3⟩] : List (rO V3)) } s4 sF ⟨0, false, z3⟩ ?_ (by rw [hal]; simp) ⟨by show (0 : Int) ≤ 0; omega, by show (0 : Int) ≤ 1000000; omega⟩ fun M7 h7 => ?_
   ·rw [hfm] at h6
    exact (aA.fJ h6 hle2)
   ·have hgen : P.gen a = 0 + 1 := by
     unfold PS.gen
     rw [hal, List.getElem?_eq_none (Nat.le_refl _)]
     rfl
    have htk : P.take z3 a v = { P with l := (P.l ++ ([⟨0, false, z3⟩] : List (rO V3))).set a ⟨0 + 1, true, v⟩ } := by
     unfold PS.take PS.grow
     rw [hlast, hgen]
    rw [htk, hgen] at h1
    exact h1 M7 (h7.fJ hle1)
theorem aH4 {a g : Int} {v : V3} (h : aA w0 F M (star (wP p P) Q)) (hb : P.l.length ≤ 10000) (hfb : P.free.length ≤ 10000) (hw : P.find a g = some v)
  (h1 : ∀ M', aA w0 F M' (star (wP p (P.fZ z3 a.toNat)) Q) → R (.tuple #[.agg #[.int .i64 v.1, .int .i64 v.2.1, .int .i64 v.2.2], .int .i64 0]) M') :
  C PP w0 Id.iS #[.pointer (some ⟨p, 0, none⟩), .agg #[.int .i64 a, .int .i64 g]] R M := by
 apply iS.go
 unfold iS.T aJ
 obtain ⟨sL, sF, hO⟩ := wP.open_ h
 intro b1 hb1 hw1
 have g1 : aA w0 F _ (star (aY b1 _ 33) _) := aA.new hO hb1 hw1 [.int .i64 a, .int .i64 g] 33
 generalize M.set b1 _ = M1 at g1 ⊢
 obtain ⟨F1, hle1, o1, g2⟩ := aA.fQ g1
 intro b3 hb3 hw3
 have g3 : aA w0 F1 _ (star (aY b3 _ 149) _) := aA.new g2 hb3 hw3 [.int .i64 0, .int .i64 0, .int .i64 0] 149
 generalize M1.set b3 _ = M2 at g3 ⊢
 intro b5 hb5 hw5
 have g4 : aA w0 F1 _ (star (aY b5 _ 149) _) := aA.new g3 hb5 hw5 (mV z3) 149
 generalize hM3 : M2.set b5 _ = M3
 have hM3' : M2.set b5 (.row (mV z3) 149) = M3 := hM3
 rw [hM3'] at g4
 obtain ⟨F2, hle2, o5, g5⟩ := aA.fQ g4
 have oz : ∀ M', Mem.le F2 M' → (aH PP w0).ld 149 ⟨b5, 0, none⟩ M' = some (.agg #[.int .i64 0, .int .i64 0, .int .i64 0]) := fun M' hM => aFL (v := z3) (o := 0) (o5.le hM) (fun j u hj => by rw [Nat.zero_add]; exact hj)
 rw [aHc (o1.le (Mem.le_trans hle2 g5.fr))]
 simp only [aC, a9, aU, aL, aT]
 obtain ⟨F3, hO3, hle3, lO⟩ := g5.last
 refine aA6 hO3 (by omega) (fun i v' blk ea hx hf ha M4 l4 => ?_) fun hf M4 e l4 he hel => ?_
 ·rw [hw] at hf
  cases hf
  have g6 := g5.le l4
  simp only [cA, aU, bK, aL, aT]
  rw [cD, if_pos rfl, aX, add_eq]
  have hO4 : uR w0 F2 M4 p P sL sF (star (aY b3 [.int .i64 0, .int .i64 0, .int .i64 0] 149) Q) := by
   obtain ⟨F4, q1, _, q2⟩ := aA.last g6.dT
   exact q2 _ _ (by
    obtain ⟨F5, q3, _, q4⟩ := q1.dT.last
    exact q4 _ _ q3.dT)
  obtain ⟨blk', ha', hn', hi', hrd⟩ := hO4.el hx
  rw [ha] at ha'; cases ha'
  rw [c9 (cs := mV v) W.aBe (fun j u hj => by rw [add_eq, Nat.add_assoc]; exact hrd (2 + j) u (by rw [Nat.add_comm]; exact hj))]
  simp only [aC, a9, aU, aL, aT]
  intro b49 hb49 hw49
  have g7 : aA w0 F2 _ (star (aY b49 _ 149) _) := aA.new hO4 hb49 hw49 [.int .i64 0, .int .i64 0, .int .i64 0] 149
  generalize M4.set b49 _ = M5 at g7 ⊢
  refine gZ (vs := mV v) W.aBe g7.bA (by exact Nat.le_refl _) (pQ v) ?_
  have g8 := g7.kZ (cs' := eH [.int .i64 0, .int .i64 0, .int .i64 0] 0 (mV v)) (e' := 149)
  have e0 : eH [.int .i64 0, .int .i64 0, .int .i64 0] 0 (mV v) = mV v := by
   have := eM [] [.int .i64 0, .int .i64 0, .int .i64 0] [] (mV v) rfl (o := 0) rfl
   simpa using this
  rw [e0] at g8 ⊢
  generalize M5.set b49 _ = M6 at g8 ⊢
  obtain ⟨F4, hle4, o49, hO6⟩ := aA.fQ g8
  rw [oz M6 (Mem.le_trans hle4 hO6.fr)]
  simp only [aC, a9, aU, aL, aT, aX, add_eq]
  have hil : i < P.l.length := (List.getElem?_eq_some_iff.1 hx).1
  have hnl : ∀ y, (P.l.set i y).length = P.l.length := fun y => List.length_set
  obtain ⟨F5, k1, _, k2⟩ := aA.last hO6
  refine aA.stR (f := 1) jG (by decide) W.c4 k1 hx (x' := ⟨g, false, v⟩) (by decide) rfl rfl rfl ha fun M7 h7 => ?_
  have hO7 : uR w0 F4 M7 p { P with l := P.l.set i ⟨g, false, v⟩ } sL sF (star (aY b3 [.int .i64 0, .int .i64 0, .int .i64 0] 149) Q) := k2 _ _ h7
  refine ⟨oz M7 (Mem.le_trans hle4 (aA.fr hO7)), ?_⟩
  have hx7 : (P.l.set i ⟨g, false, v⟩)[i]? = some ⟨g, false, v⟩ := List.getElem?_set_self hil
  obtain ⟨F6, k3, _, k4⟩ := aA.last hO7
  refine tZ jG (vs := mV z3) W.aBe k3 hx7 (x' := ⟨g, false, z3⟩) (A := [.int .i64 g, .bool false]) (B := mV v) rfl rfl rfl rfl (pQ _) ha (by rw [hnl]; exact hn') fun M8 h8 => ?_
  have hO8 : uR w0 F4 M8 p { P with l := P.l.set i ⟨g, false, z3⟩ } sL sF (star (aY b3 [.int .i64 0, .int .i64 0, .int .i64 0] 149) Q) := by
   have := k4 _ _ h8
   rw [List.set_set] at this
   exact this
  have e2 := hO8.r2
  have f1 : rd w0 M8 ⟨b1, 0, none⟩ = some (.int .i64 a) := aM (o := 0) (o1.le (Mem.le_trans (Mem.le_trans hle2 hle4) (aA.fr hO8)))
  simp only [aP W.c3, aP W.c53, Nat.zero_add, e2, f1, aC, aR, aL]
  refine sU (n := 1) (cells := #[.int .i64 a]) Tryz.underlying53 W.e3 (by decide) (by kernel_rfl) fun bn hbn hwn => ?_
  rw [rF]
  have hNw : aA w0 F4 _ (star (aY bn [.int .i64 a] 3) _) := aA.new hO8 hbn hwn [.int .i64 a] 3
  change aA w0 F4 (M8.set bn (.row (#[.int .i64 a] : Array Value).toList 3)) _ at hNw
  generalize M8.set bn _ = M9 at hNw ⊢
  obtain ⟨F7, hle7, hownN, hO9⟩ := aA.fQ hNw
  have e9 : rd w0 M9 ⟨p, 2, none⟩ = some (SV.v sF) := aM (o := 2) (aA.bA hO9)
  refine ⟨e9, ?_⟩
  obtain ⟨F8, k5, l5, k6⟩ := aA.last hO9
  obtain ⟨F9, k7, l7, k8⟩ := k5.last
  have hnF : sF.n = P.free.length := by have := uI (k := 1) k7; rw [this]; simp [vN]
  refine uD (x := ⟨some ⟨bn, 0, none⟩, 1, 1⟩) (news := [.int .i64 a]) Tryz.underlying53 W.e3 k7 rfl (gK.own (hownN.le hO9.fr) fun j u hj => by rw [Nat.zero_add]; exact hj) (fun e0 => by cases e0) (by intro u hu; rw [List.mem_singleton.1 hu]; rfl) (by decide) (by show sF.n + 1 ≤ _; omega) fun M10 s10 h10 => ?_
  rw [aR]
  have h11 := k6 _ _ (k8 _ _ h10)
  refine gF W.c53 (aA.bA h11) (by simp) rfl rfl ?_
  have h12 := aA.kZ h11 (cs' := [.int .i64 P.most, SV.v sL, SV.v s10]) (e' := 208)
  rw [show ([.int .i64 P.most, SV.v sL, SV.v sF] : List Value).set 2 (SV.v s10) = [.int .i64 P.most, SV.v sL, SV.v s10] from rfl]
  generalize Mem.set M10 p _ = M11 at h12 ⊢
  subst ea
  have hgv : P.fZ z3 i = { P with l := P.l.set i ⟨g, false, z3⟩, free := P.free ++ [i] } := by
   unfold PS.fZ
   rw [hx]
  have h13 : uR w0 F7 M11 p (P.fZ z3 i) sL s10 (star (aY b3 [.int .i64 0, .int .i64 0, .int .i64 0] 149) Q) := by
   rw [hgv]
   have hv : vN P.free ++ [.int .i64 (i : Int)] = vN (P.free ++ [i]) := by simp [vN]
   rw [hv] at h12
   exact h12
  rw [aFL (v := v) (o := 0) (o49.le (Mem.le_trans hle7 (aA.fr h13))) (fun j u hj => by rw [Nat.zero_add]; exact hj)]
  simp only [aC, a9, aU, aL, aT]
  have h14 := (uR.close h13).dT
  refine aKt h14 rfl (K := fun v M => R (.tuple #[v, .int .i64 0]) M) fun M12 h15 => ?_
  rw [Int.toNat_natCast] at h1
  exact h1 M12 ((((h15.fJ hle7).fJ hle4).fJ hle2).fJ hle1)
 ·rw [hw] at hf; cases hf
theorem aIT {n : Int} (h : aA w0 F M Q) (h0 : 0 ≤ n) (hn : n ≤ 65536) (hR : ∀ M' p, aA w0 F M' (star (wP p ⟨n, [], []⟩) Q) → R (.pointer (some ⟨p, 0, none⟩)) M') : C PP w0 Id.cO #[.int .i64 n] R M := by
 apply cO.go
 unfold cO.T aJ
 have e1 : (if 65536 < n then (65536 : Int) else n) = n := if_neg (by omega)
 have e2 : (if n > 0 then n else 0) = n := by split <;> omega
 rw [e1, e2]
 have hbld : (aH PP w0).nM 208 [(0, .int .i64 n)] = some (.agg #[.int .i64 n, .slice none 0 0, .slice none 0 0]) := by kernel_rfl
 simp only [hbld, aC, a9, aU, aL, rF, aT]
 intro b hb hw
 have h1 : aA w0 F _ (star (aY b _ 208) _) := h.new hb hw [.int .i64 n, SV.v ⟨none, 0, 0⟩, SV.v ⟨none, 0, 0⟩] 208
 refine hR _ b (uR.close (sL := ⟨none, 0, 0⟩) (sF := ⟨none, 0, 0⟩) ?_)
 obtain ⟨F1, k1, _, k2⟩ := h1.last
 exact k2 _ _ (aA.pB (aA.pB k1))
end
end HL
namespace HL
section
variable {w0 : World} {F M : Mem} {R : VP} {p : Nat} {P : PS V3} {Q : cY}
def q9 (p : Nat) (P : PS V3) : cY := fun r => ∃ sL sF : SV, star (aY p [.int .i64 P.most, SV.v sL, SV.v sF] 211) (star (dP 5 sL (P.l.flatMap xR)) (dP 1 sF (vN P.free))) r
abbrev tU (w0 : World) (F M : Mem) (p : Nat) (P : PS V3) (sL sF : SV) (Q : cY) : Prop := aA w0 F M (star (aY p [.int .i64 P.most, SV.v sL, SV.v sF] 211) (star (dP 5 sL (P.l.flatMap xR)) (star (dP 1 sF (vN P.free)) Q)))
theorem q9.open_ (h : aA w0 F M (star (q9 p P) Q)) : ∃ sL sF, tU w0 F M p P sL sF Q := by
 obtain ⟨r, ⟨r1, r2, rfl, ⟨sL, sF, h1⟩, h2⟩, h3⟩ := h
 refine ⟨sL, sF, ?_⟩
 have : aA w0 F M (star (star (aY p [.int .i64 P.most, SV.v sL, SV.v sF] 211) (star (dP 5 sL (P.l.flatMap xR)) (dP 1 sF (vN P.free)))) Q) := ⟨_, ⟨r1, r2, rfl, h1, h2⟩, h3⟩
 have h4 := aA.assoc.1 this
 obtain ⟨F1, k1, _, k2⟩ := h4.last
 exact k2 _ _ (aA.assoc.1 k1)
theorem tU.close {sL sF : SV} (h : tU w0 F M p P sL sF Q) : aA w0 F M (star (q9 p P) Q) := by
 obtain ⟨F1, k1, _, k2⟩ := aA.last h
 have h1 := k2 _ _ (aA.assoc.2 k1)
 have h2 := aA.assoc.2 h1
 obtain ⟨r, ⟨r1, r2, rfl, g1, g2⟩, g3⟩ := h2
 exact ⟨_, ⟨r1, r2, rfl, ⟨sL, sF, g1⟩, g2⟩, g3⟩
section
variable {sL sF : SV}
theorem tU.r0 (h : tU w0 F M p P sL sF Q) : rd w0 M ⟨p, 0, none⟩ = some (.int .i64 P.most) := aM (o := 0) h.bA
theorem tU.r1 (h : tU w0 F M p P sL sF Q) : rd w0 M ⟨p, 1, none⟩ = some (SV.v sL) := aM (o := 1) h.bA
theorem tU.r2 (h : tU w0 F M p P sL sF Q) : rd w0 M ⟨p, 2, none⟩ = some (SV.v sF) := aM (o := 2) h.bA
theorem tU.nL (h : tU w0 F M p P sL sF Q) : sL.n = P.l.length := aA.nR jG (by decide) h.right
theorem tU.nF (h : tU w0 F M p P sL sF Q) : sF.n = P.free.length := by
 have := uI (k := 1) h.right.right
 rw [this]; simp [vN]
theorem tU.el (h : tU w0 F M p P sL sF Q) {i : Nat} {x : rO V3} (hx : P.l[i]? = some x) : ∃ blk, sL.a = some ⟨blk, 0, none⟩ ∧ sL.n = P.l.length ∧ i < sL.n ∧ ∀ f v, (xR x)[f]? = some v → rd w0 M ⟨blk, i * 5 + f, none⟩ = some v := aA.adR jG (by decide) h.right hx
theorem tU.focus (h : tU w0 F M p P sL sF Q) : ∃ F5, aA w0 F5 M Q ∧ Mem.le F F5 ∧ ∀ M' Q', aA w0 F5 M' Q' → tU w0 F M' p P sL sF Q' := by
 obtain ⟨F1, k1, l1, k2⟩ := aA.last h
 obtain ⟨F2, k3, l2, k4⟩ := k1.last
 obtain ⟨F3, k5, l3, k6⟩ := k3.last
 exact ⟨F3, k5, Mem.le_trans l1 (Mem.le_trans l2 l3), fun M' Q' hh => k2 _ _ (k4 _ _ (k6 _ _ hh))⟩
end
theorem aKo {b : Nat} {cs : List Value} {Pq : cY} {v : V3} (h : aA w0 F M (star (aY b cs 153) Pq)) (hcs : cs.length = 3) {K : VP} (hK : ∀ M', aA w0 F M' Pq → K (.agg #[.int .i64 v.1, .int .i64 v.2.1, .int .i64 v.2.2]) M') :
  (aH PP w0).st 153 ⟨b, 0, none⟩ (.agg #[.int .i64 v.1, .int .i64 v.2.1, .int .i64 v.2.2]) (fun M1 => ob ((aH PP w0).rdv 153 (.pointer (some ⟨b, 0, none⟩)) M1) fun v => K v M1) M := by
 refine gZ (vs := mV v) W.aBg h.bA (by rw [hcs]; exact Nat.le_refl _) (pQ v) ?_
 have h2 := h.kZ (cs' := eH cs 0 (mV v)) (e' := 153)
 have e0 : eH cs 0 (mV v) = mV v := by
  have := eM [] cs [] (mV v) (by rw [hcs]; rfl) (o := 0) rfl
  simpa using this
 rw [e0] at h2 ⊢
 have o2 := h2.bA
 rw [qF, c9 (cs := mV v) W.aBg (fun j u hj => by rw [add_eq, aM o2, Nat.zero_add]; exact hj), aC]
 exact hK _ h2.right
theorem aFI {b o : Nat} {v : V3} {cs : List Value} {e : TypeId} (h : cM w0 M b cs e) (hc : ∀ j u, (mV v)[j]? = some u → cs[o + j]? = some u) : (aH PP w0).ld 153 ⟨b, o, none⟩ M = some (.agg #[.int .i64 v.1, .int .i64 v.2.1, .int .i64 v.2.2]) :=
 c9 (cs := mV v) W.aBg (fun j u hj => by rw [add_eq, aM h]; exact hc j u hj)
theorem aHX {b : Nat} {x y : Int} {e : TypeId} (h : cM w0 M b [.int .i64 x, .int .i64 y] e) : (aH PP w0).ld 33 ⟨b, 0, none⟩ M = some (.agg #[.int .i64 x, .int .i64 y]) :=
 c9 (cs := [.int .i64 x, .int .i64 y]) W.g33 (fun j u hj => by rw [add_eq, aM h, Nat.zero_add]; exact hj)
theorem aAS {sL sF : SV} {a g : Int} (h : tU w0 F M p P sL sF Q) (hb : P.l.length ≤ 100000)
  (h1 : ∀ (i : Nat) v blk, a = (i : Int) → P.l[i]? = some ⟨g, true, v⟩ → P.find a g = some v → sL.a = some ⟨blk, 0, none⟩ → ∀ M', Mem.le M M' → R (.tuple #[.pointer (some ⟨blk, i * 5, none⟩), .int .i64 0]) M')
  (h0 : P.find a g = none → ∀ M' e, Mem.le M M' → e ≠ 0 → e = P.pl.look a g → R (.tuple #[.pointer none, .int .i64 e]) M') :
  C PP w0 Id.cT #[.pointer (some ⟨p, 0, none⟩), .agg #[.int .i64 a, .int .i64 g]] R M := by
 apply cT.go
 intro aB H
 unfold cT.T aJ
 intro b1 hb1 hw1
 have l1 := Mem.fN (M := M) (.row [.int .i64 a, .int .i64 g] 33) hb1
 have o1 : cM w0 (M.set b1 (.row [.int .i64 a, .int .i64 g] 33)) b1 [.int .i64 a, .int .i64 g] 33 := cM.new hw1
 generalize M.set b1 _ = M1 at l1 o1 ⊢
 have hO : tU w0 F M1 p P sL sF Q := aA.le h l1
 have f0 : rd w0 M1 ⟨b1, 0, none⟩ = some (.int .i64 a) := aM (o := 0) o1
 have f1 : rd w0 M1 ⟨b1, 1, none⟩ = some (.int .i64 g) := aM (o := 1) o1
 have fL := hO.r1
 have hn := hO.nL
 have hlk : ∀ e, P.pl.look a g = e → e ≠ 0 → P.find a g = none := fun e he eE => by
  cases hf : P.find a g with
  | none => rfl
  | some v =>
   have := PS.pJ.1 (show (P.find a g).isSome = true by rw [hf]; rfl)
   exact absurd (he ▸ this) eE
 have h22 : P.pl.look a g = 22 → R (.tuple #[.pointer none, .int .i64 22]) M1 := fun e => h0 (hlk 22 e (by decide)) M1 22 l1 (by decide) e.symm
 have h23 : P.pl.look a g = 23 → R (.tuple #[.pointer none, .int .i64 23]) M1 := fun e => h0 (hlk 23 e (by decide)) M1 23 l1 (by decide) e.symm
 have hlook : P.pl.look a g = if a < 0 ∨ (P.l.length : Int) ≤ a ∨ g < 1 ∨ (P.l.map (·.g)).getD a.toNat 0 < g then 22 else if g < (P.l.map (·.g)).getD a.toNat 0 ∨ (P.l.map (·.t)).getD a.toNat false = false then 23 else 0 := by
  unfold Pl.look PS.pl
  simp only [List.length_map]
 simp only [aX, aP W.c3, aP W.aEd, add_eq, Nat.zero_add, f0, f1, fL, aC, aL, aR]
 rw [eO]
 split
 ·rename_i ha
  exact h22 (by rw [hlook, if_pos (.inl ha)])
 ·rename_i ha
  rw [eO]
  split
  ·exact h22 (by rw [hlook, if_pos (.inr (.inl (by omega)))])
  ·rename_i hal
   rw [eO]
   split
   ·rename_i hg
    exact h22 (by rw [hlook, if_pos (.inr (.inr (.inl hg)))])
   ·rename_i hg
    obtain ⟨i, rfl⟩ : ∃ i : Nat, a = (i : Int) := ⟨a.toNat, by omega⟩
    have hil : i < P.l.length := by omega
    have hx := List.getElem?_eq_getElem hil
    generalize P.l[i] = x at hx
    obtain ⟨blk, ha2, hn2, hi2, hrd⟩ := hO.el hx
    have eg : (P.l.map (·.g)).getD (i : Int).toNat 0 = x.g := by rw [Int.toNat_natCast, List.getD_eq_getElem?_getD, List.getElem?_map, hx]; rfl
    have et : (P.l.map (·.t)).getD (i : Int).toNat false = x.t := by rw [Int.toNat_natCast, List.getD_eq_getElem?_getD, List.getElem?_map, hx]; rfl
    rw [eg, et] at hlook
    have r0 : rd w0 M1 ⟨blk, i * 5, none⟩ = some (.int .i64 x.g) := hrd 0 _ rfl
    have r1 : rd w0 M1 ⟨blk, i * 5 + 1, none⟩ = some (.bool x.t) := hrd 1 _ rfl
    simp only [ha2, aX, Int.toNat_natCast, add_eq, Nat.zero_add, r0, aC, aL]
    refine ⟨⟨by omega, by omega⟩, ?_⟩
    rw [eO]
    split
    ·rename_i hgg
     exact h22 (by rw [hlook, if_pos (.inr (.inr (.inr hgg)))])
    ·rename_i hgg
     have hno : ¬ ((i : Int) < 0 ∨ (P.l.length : Int) ≤ (i : Int) ∨ g < 1 ∨ x.g < g) := by omega
     rw [if_neg hno] at hlook
     refine Eq.mpr (H.J1 ..) ?_
     unfold cT.J1.T aJ
     simp only [aX, aP W.c3, aP W.c4, aP W.aEd, add_eq, Nat.zero_add, f0, f1, fL, aC, aL, aR, bU, ha2, Int.toNat_natCast, r0, r1]
     refine ⟨⟨by omega, by omega⟩, ?_⟩
     rw [eO]
     split
     ·rename_i hlt
      exact h23 (by rw [hlook, if_pos (.inl hlt)])
     ·rename_i hlt
      cases ht : x.t with
      | false =>
       rw [Bool.not_false, dU]
       exact h23 (by rw [hlook, if_pos (.inr ht)])
      | true =>
       rw [Bool.not_true, mT]
       have hgx : g = x.g := by omega
       have hx2 : P.l[i]? = some ⟨g, true, x.v⟩ := by
        rw [hx, hgx]
        obtain ⟨xg, xt, xv⟩ := x
        simp only at ht
        subst ht; rfl
       exact h1 i x.v blk rfl hx2 (PS.jS hx2 (by omega)) ha2 M1 l1
theorem aIr {a g : Int} (h : aA w0 F M (star (q9 p P) Q)) (hb : P.l.length ≤ 100000)
  (h1 : ∀ v, P.find a g = some v → ∀ M', Mem.le M M' → R (.tuple #[.agg #[.int .i64 v.1, .int .i64 v.2.1, .int .i64 v.2.2], .int .i64 0]) M')
  (h0 : P.find a g = none → ∀ M' e, Mem.le M M' → e ≠ 0 → e = P.pl.look a g → R (.tuple #[.agg #[.int .i64 0, .int .i64 0, .int .i64 0], .int .i64 e]) M') :
  C PP w0 Id.jQ #[.pointer (some ⟨p, 0, none⟩), .agg #[.int .i64 a, .int .i64 g]] R M := by
 apply jQ.go
 unfold jQ.T aJ
 obtain ⟨sL, sF, hO⟩ := q9.open_ h
 intro b1 hb1 hw1
 have l1 := Mem.fN (M := M) (.row [.int .i64 a, .int .i64 g] 33) hb1
 have o1 : cM w0 (M.set b1 (.row [.int .i64 a, .int .i64 g] 33)) b1 [.int .i64 a, .int .i64 g] 33 := cM.new hw1
 generalize M.set b1 _ = M1 at l1 o1 ⊢
 intro b3 hb3 hw3
 have n1 : aA w0 M1 M1 (fun r => r = []) := ⟨[], rfl, Fit.nil (Mem.le_refl _)⟩
 have n3 : aA w0 M1 _ (star (aY b3 _ 153) _) := n1.new hb3 hw3 [.int .i64 0, .int .i64 0, .int .i64 0] 153
 generalize M1.set b3 _ = M2 at n3 ⊢
 have l2 := n3.fr
 rw [aHX (o1.le l2)]
 simp only [aC, a9, aU, aL, aT]
 have hO2 : tU w0 F M2 p P sL sF Q := aA.le hO (Mem.le_trans l1 l2)
 refine aAS hO2 hb (fun i v blk ea hx hf ha M3 l3 => ?_) fun hf M3 e l3 he hel => ?_
 ·simp only [cA, aU, bK, aL, aT]
  rw [cD, if_pos rfl, aX, add_eq]
  have hO3 : tU w0 F M3 p P sL sF Q := aA.le hO2 l3
  obtain ⟨blk', ha', hn', hi', hrd⟩ := hO3.el hx
  rw [ha] at ha'; cases ha'
  rw [c9 (cs := mV v) W.aBg (fun j u hj => by rw [add_eq, Nat.add_assoc]; exact hrd (2 + j) u (by rw [Nat.add_comm]; exact hj))]
  simp only [aC, a9, aU, aL, aT]
  refine aKo (n3.le l3) rfl (K := fun v M => R (.tuple #[v, .int .i64 0]) M) fun M4 h4 => ?_
  exact h1 v hf M4 (Mem.le_trans l1 h4.fr)
 ·simp only [cA, aU, bK, aL, aT]
  rw [cD, if_neg he]
  intro b22 hb22 hw22
  have l4 := Mem.fN (M := M3) (.row [.int .i64 0, .int .i64 0, .int .i64 0] 153) hb22
  have o4 : cM w0 (M3.set b22 (.row [.int .i64 0, .int .i64 0, .int .i64 0] 153)) b22 (mV z3) 153 := cM.new hw22
  generalize M3.set b22 _ = M4 at l4 o4 ⊢
  rw [aFI (v := z3) (o := 0) o4 (fun j u hj => by rw [Nat.zero_add]; exact hj)]
  simp only [aC, a9, aU, aL, aT]
  refine aKo (v := z3) (n3.le (Mem.le_trans l3 l4)) rfl (K := fun v M => R (.tuple #[v, .int .i64 e]) M) fun M5 h5 => ?_
  exact h0 hf M5 e (Mem.le_trans l1 h5.fr) he hel
theorem aIG {a g : Int} {v w : V3} (h : aA w0 F M (star (q9 p P) Q)) (hb : P.l.length ≤ 100000) (hw : P.find a g = some w)
  (h1 : ∀ M', aA w0 F M' (star (q9 p (P.put a.toNat v)) Q) → R (.int .i64 0) M') :
  C PP w0 Id.j5 #[.pointer (some ⟨p, 0, none⟩), .agg #[.int .i64 a, .int .i64 g], .agg #[.int .i64 v.1, .int .i64 v.2.1, .int .i64 v.2.2]] R M := by
 apply j5.go
 unfold j5.T aJ
 obtain ⟨sL, sF, hO⟩ := q9.open_ h
 intro b1 hb1 hw1
 have l1 := Mem.fN (M := M) (.row [.int .i64 a, .int .i64 g] 33) hb1
 have o1 : cM w0 (M.set b1 (.row [.int .i64 a, .int .i64 g] 33)) b1 [.int .i64 a, .int .i64 g] 33 := cM.new hw1
 generalize M.set b1 _ = M1 at l1 o1 ⊢
 intro b3 hb3 hw3
 have l2 := Mem.fN (M := M1) (.row (mV v) 153) hb3
 have o3 : cM w0 (M1.set b3 (.row (mV v) 153)) b3 (mV v) 153 := cM.new hw3
 change _ at hb3
 generalize hM2 : M1.set b3 _ = M2
 have hM2' : M1.set b3 (.row (mV v) 153) = M2 := hM2
 rw [hM2'] at l2 o3
 rw [aHX (o1.le l2)]
 simp only [aC, a9, aU, aL, aT]
 have hO2 : tU w0 F M2 p P sL sF Q := aA.le hO (Mem.le_trans l1 l2)
 refine aAS hO2 hb (fun i v' blk ea hx hf ha M3 l3 => ?_) fun hf M3 e l3 he hel => ?_
 ·simp only [cA, aU, bK, aL, aT]
  rw [eW, if_pos rfl, aFI (v := v) (o := 0) (o3.le l3) (fun j u hj => by rw [Nat.zero_add]; exact hj)]
  simp only [aC, a9, aU, aL, aT, aX, add_eq]
  have hO3 : tU w0 F M3 p P sL sF Q := aA.le hO2 l3
  have hn := hO3.nL
  obtain ⟨F1, k1, _, k2⟩ := aA.last hO3
  refine tZ jG (vs := mV v) W.aBg k1 hx (x' := ⟨g, true, v⟩) (A := [.int .i64 g, .bool true]) (B := mV v') rfl rfl rfl rfl (pQ v) ha hn fun M4 h4 => ?_
  have h5 := k2 _ _ h4
  refine h1 M4 (tU.close (sL := sL) (sF := sF) ?_)
  subst ea
  rw [Int.toNat_natCast]
  obtain ⟨e1, e2, e3⟩ := PS.uT v hx
  unfold tU
  rw [e1, e2, e3]
  exact h5
 ·rw [hw] at hf; cases hf
theorem aEL (h : aA w0 F M (star (q9 p P) Q)) (hb : P.l.length ≤ 100000) (hf : P.free.length ≤ P.l.length) (hR : R (.int .i64 ((P.l.length - P.free.length : Nat) : Int)) M) :
  C PP w0 Id.kD #[.pointer (some ⟨p, 0, none⟩)] R M := by
 apply kD.go
 unfold kD.T aJ
 obtain ⟨sL, sF, hO⟩ := q9.open_ h
 simp only [aX, aP W.aEd, aP W.c53, add_eq, Nat.zero_add, hO.r1, hO.r2, aC, aR]
 rw [hO.nL, hO.nF, bC (by omega), show (P.l.length : Int) - (P.free.length : Int) = ((P.l.length - P.free.length : Nat) : Int) from by omega]
 exact hR
theorem aDT (h : aA w0 F M (star (q9 p P) Q)) (hR : R (.int .i64 P.most) M) :
  C PP w0 Id.gE #[.pointer (some ⟨p, 0, none⟩)] R M := by
 apply gE.go
 unfold gE.T aJ
 obtain ⟨sL, sF, hO⟩ := q9.open_ h
 simp only [aX, aP W.c3, hO.r0, aC, aL]
 exact hR
theorem aC7 {v : V3} (h : aA w0 F M (star (q9 p P) Q)) (hok : P.Ok) (hb : P.l.length ≤ 10000) (hfb : P.free.length ≤ 10000) (hg : ∀ x ∈ P.l, 0 ≤ x.g ∧ x.g ≤ 1000000) {a : Nat} (hat : P.at_ = some a)
  (h1 : ∀ M', aA w0 F M' (star (q9 p (P.take z3 a v)) Q) → R (.tuple #[.agg #[.int .i64 (a : Int), .int .i64 (P.gen a)], .bool true]) M') :
  C PP w0 Id.cP #[.pointer (some ⟨p, 0, none⟩), .agg #[.int .i64 v.1, .int .i64 v.2.1, .int .i64 v.2.2]] R M := by
 apply cP.go
 intro aB H
 unfold cP.T aJ
 intro b1 hb1 hw1
 have g1 : aA w0 F _ (star (aY b1 (mV v) 153) (star (q9 p P) Q)) := h.new hb1 hw1 (mV v) 153
 generalize hM1 : M.set b1 _ = M1
 have hM1' : M.set b1 (.row (mV v) 153) = M1 := hM1
 rw [hM1'] at g1
 obtain ⟨F1, hle1, hown, g2⟩ := aA.fQ g1
 intro b3 hb3 hw3
 have g3 : aA w0 F1 _ (star (aY b3 _ 33) (star (q9 p P) Q)) := g2.new hb3 hw3 [.int .i64 0, .int .i64 0] 33
 generalize M1.set b3 _ = M2 at g3 ⊢
 obtain ⟨sL, sF, hO⟩ := q9.open_ g3.dT
 have keyJ1 : ∀ (M' : Mem) (P' : PS V3) (sL sF : SV) (x : rO V3), tU w0 F1 M' p P' sL sF (star (aY b3 [.int .i64 0, .int .i64 0] 33) Q) → P'.l[a]? = some x → 0 ≤ x.g ∧ x.g ≤ 1000000 →
   (∀ M'', aA w0 F1 M'' (star (q9 p { P' with l := P'.l.set a ⟨x.g + 1, true, v⟩ }) Q) → R (.tuple #[.agg #[.int .i64 (a : Int), .int .i64 (x.g + 1)], .bool true]) M'') →
   cP.J1 aB (some ⟨p, 0, none⟩) ⟨b1, 0, none⟩ ⟨b3, 0, none⟩ (a : Int) M' := by
  intro M' P' sL sF x hX hx hxg hR
  refine Eq.mpr (H.J1 ..) ?_
  unfold cP.J1.T aJ
  obtain ⟨blk, ha, hn, hi, hrd⟩ := hX.el hx
  have eL := hX.r1
  have r0 : rd w0 M' ⟨blk, a * 5, none⟩ = some (.int .i64 x.g) := hrd 0 _ rfl
  simp only [aX, aP W.c3, aP W.aEd, add_eq, Nat.zero_add, eL, aC, aR, ha, Int.toNat_natCast, r0, aL]
  refine ⟨⟨by omega, by omega⟩, ?_⟩
  rw [bC (by omega)]
  obtain ⟨F2, k1, _, k2⟩ := aA.last hX
  have hnl : ∀ y, (P'.l.set a y).length = P'.l.length := fun y => List.length_set
  refine aA.stR (f := 0) jG (by decide) W.c3 k1 hx (x' := { x with g := x.g + 1 }) (by decide) rfl rfl rfl ha fun M3 h3 => ?_
  have hX3 : tU w0 F1 M3 p { P' with l := P'.l.set a { x with g := x.g + 1 } } sL sF (star (aY b3 [.int .i64 0, .int .i64 0] 33) Q) := k2 _ _ h3
  rw [aFI (v := v) (o := 0) (hown.le (aA.fr hX3)) (fun j u hj => by rw [Nat.zero_add]; exact hj)]
  simp only [aC, a9, aU, aL, aT]
  have hal : a < P'.l.length := (List.getElem?_eq_some_iff.1 hx).1
  have hx3 : (P'.l.set a { x with g := x.g + 1 })[a]? = some { x with g := x.g + 1 } := List.getElem?_set_self hal
  obtain ⟨F3, k3, _, k4⟩ := aA.last hX3
  refine aA.stR (f := 1) jG (by decide) W.c4 k3 hx3 (x' := ⟨x.g + 1, true, x.v⟩) (by decide) rfl rfl rfl ha fun M4 h4 => ?_
  have hX4 : tU w0 F1 M4 p { P' with l := P'.l.set a ⟨x.g + 1, true, x.v⟩ } sL sF (star (aY b3 [.int .i64 0, .int .i64 0] 33) Q) := by
   have := k4 _ _ h4
   rw [List.set_set] at this
   exact this
  refine ⟨aFI (v := v) (o := 0) (hown.le (aA.fr hX4)) (fun j u hj => by rw [Nat.zero_add]; exact hj), ?_⟩
  have hx4 : (P'.l.set a ⟨x.g + 1, true, x.v⟩)[a]? = some ⟨x.g + 1, true, x.v⟩ := List.getElem?_set_self hal
  obtain ⟨F4, k5, _, k6⟩ := aA.last hX4
  refine tZ jG (vs := mV v) W.aBg k5 hx4 (x' := ⟨x.g + 1, true, v⟩) (A := [.int .i64 (x.g + 1), .bool true]) (B := mV x.v) rfl rfl rfl rfl (pQ v) ha (by rw [hnl]; exact hn) fun M5 h5 => ?_
  have hX5 : tU w0 F1 M5 p { P' with l := P'.l.set a ⟨x.g + 1, true, v⟩ } sL sF (star (aY b3 [.int .i64 0, .int .i64 0] 33) Q) := by
   have := k6 _ _ h5
   rw [List.set_set] at this
   exact this
  have hx5 : (P'.l.set a ⟨x.g + 1, true, v⟩)[a]? = some ⟨x.g + 1, true, v⟩ := List.getElem?_set_self hal
  obtain ⟨blk5, ha5, hn5, hi5, hrd5⟩ := hX5.el hx5
  rw [ha] at ha5; cases ha5
  have r5 : rd w0 M5 ⟨blk, a * 5, none⟩ = some (.int .i64 (x.g + 1)) := hrd5 0 _ rfl
  have hbld : (aH PP w0).nM 33 [(0, .int .i64 (a : Int)), (1, .int .i64 (x.g + 1))] = some (.agg #[.int .i64 (a : Int), .int .i64 (x.g + 1)]) := by kernel_rfl
  simp only [r5, aC, aL, hbld, a9, aU, aT]
  obtain ⟨F5, k7, _, k8⟩ := tU.focus hX5
  refine aAN k7 (K := fun v M => R (.tuple #[v, .bool true]) M) fun M6 hback => ?_
  exact hR M6 (tU.close (k8 _ _ (hback _ _ k7)))
 have eL := hO.r1
 have eF := hO.r2
 have e0 := hO.r0
 have nL := hO.nL
 have nF := hO.nF
 simp only [aX, aP W.c3, aP W.c53, aP W.aEd, add_eq, Nat.zero_add, eL, eF, e0, aC, aR, aL]
 rw [eO]
 split
 ·-- one that was given back
  rename_i hpos
  have hp2 : 0 < P.free.length := by
   apply Decidable.byContradiction
   intro hc
   have : sF.n = 0 := by omega
   rw [this] at hpos
   rw [show p4 (((0 : Nat) : Int) - 1) = -1 from by rw [bC (by omega)]; omega] at hpos
   omega
  obtain ⟨bs, x, hbs⟩ : ∃ bs x, P.free = bs ++ [x] := by
   rcases List.eq_nil_or_concat P.free with e | ⟨bs, x, e⟩
   ·rw [e] at hp2; simp at hp2
   ·exact ⟨bs, x, by rw [e, List.concat_eq_append]⟩
  have hlast : P.free.getLast? = some x := by rw [hbs]; simp
  have hax : a = x := by
   unfold PS.at_ at hat
   rw [hlast] at hat
   simpa using hat.symm
  subst hax
  have hfl : P.free.length = bs.length + 1 := by rw [hbs]; simp
  have hw : p4 (((sF.n : Nat) : Int) - 1) = ((bs.length : Nat) : Int) := by rw [bC (by omega)]; omega
  obtain ⟨F2, k1, _, k2⟩ := aA.last hO
  obtain ⟨F3, k3, _, k4⟩ := k1.last
  have hc3 := dN k3
  obtain ⟨blk, rest, e, ha, q1, q2, q3⟩ := dP.row k3 (by omega)
  have hcap : sF.n ≤ sF.c := by rw [Nat.mul_one] at q1 q2; omega
  rw [hw]
  refine rdv hc3.1 (uI (k := 1) k3) bs.length rfl (v := .int .i64 (a : Int)) (by unfold vN; rw [hbs, List.getElem?_map, List.getElem?_append_right (Nat.le_refl _)]; simp) ?_
  rw [aL]
  refine ⟨⟨by omega, by omega, by omega⟩, ?_⟩
  have hsl : (Value.slice (if sF.c = (0 : Int).toNat then sF.a else sF.a.map (·.add ((0 : Int).toNat * 1))) (((bs.length : Nat) : Int).toNat - (0 : Int).toNat) (sF.c - (0 : Int).toNat)) = SV.v ⟨some ⟨blk, 0, none⟩, bs.length, sF.c⟩ := by
   rw [ha, Int.toNat_zero, Int.toNat_natCast, Nat.sub_zero, Nat.sub_zero, Nat.zero_mul]
   unfold SV.v
   simp only [Option.map_some, add_eq]
   split <;> rfl
  rw [hsl]
  refine gF W.c53 (aA.bA hO) (by simp) rfl rfl ?_
  have h4 := aA.kZ hO (cs' := [.int .i64 P.most, SV.v sL, SV.v ⟨some ⟨blk, 0, none⟩, bs.length, sF.c⟩]) (e' := 211)
  have hvs : vN P.free ++ rest = vN bs ++ (.int .i64 (a : Int) :: rest) := by rw [hbs]; simp [vN]
  have uV : ∀ (b' : Bool), True := fun _ => trivial
  obtain ⟨y, hy, hyt⟩ := hok.fr a (by rw [hbs]; simp)
  refine keyJ1 _ { P with free := bs } sL ⟨some ⟨blk, 0, none⟩, bs.length, sF.c⟩ y ?_ hy (hg y (List.mem_of_getElem? hy)) fun M5 h5 => ?_
  ·obtain ⟨F6, k6, _, k7⟩ := aA.last h4
   obtain ⟨F8, k8, _, k9⟩ := k6.last
   refine k7 _ _ (k9 _ _ ?_)
   obtain ⟨blk', rest', e', ha', q1', q2', q3'⟩ := dP.row k8 (by omega)
   rw [ha] at ha'; cases ha'
   have hvs' : vN P.free ++ rest' = vN bs ++ (.int .i64 (a : Int) :: rest') := by rw [hbs]; simp [vN]
   rw [hvs'] at q3'
   have hvl : (vN bs).length = bs.length := by simp [vN]
   have hvl2 : (vN P.free).length = bs.length + 1 := by simp [vN, hfl]
   refine dP.ofRow q3' (by rw [hvl]; omega) ?_
   rw [hvl, List.length_cons]
   rw [hvl2] at q2'
   omega
  ·have hgen : P.gen a = y.g + 1 := by unfold PS.gen; rw [hy]
   have htk : P.take z3 a v = { P with free := bs, l := P.l.set a ⟨y.g + 1, true, v⟩ } := by
    unfold PS.take PS.grow
    rw [hlast, hgen]
    simp [hbs]
   rw [htk, hgen] at h1
   exact h1 M5 (h5.fJ hle1)
 ·rename_i hpos
  have hp2 : P.free = [] := by
   apply List.eq_nil_of_length_eq_zero
   apply Decidable.byContradiction
   intro hc
   rw [show p4 (((sF.n : Nat) : Int) - 1) = ((sF.n : Nat) : Int) - 1 from bC (by omega)] at hpos
   omega
  have hlast : P.free.getLast? = none := by rw [hp2]; rfl
  have hat2 := hat
  unfold PS.at_ at hat2
  rw [hlast] at hat2
  simp only at hat2
  split at hat2
  ·cases hat2
  ·rename_i hm
   have hal : a = P.l.length := by simpa using hat2.symm
   rw [eO, if_neg (by omega)]
   have hbld : (aH PP w0).nM 259 [] = some (.agg #[.int .i64 0, .bool false, .int .i64 0, .int .i64 0, .int .i64 0]) := by kernel_rfl
   simp only [hbld, aC, a9, aU, aL, bU, aT]
   refine sU (n := 1) (cells := #[.int .i64 0, .bool false, .int .i64 0, .int .i64 0, .int .i64 0]) Tryz.underlying209 W.aK3 (by decide) (by kernel_rfl) fun bn hbn hwn => ?_
   rw [rF]
   have hNw : aA w0 F1 _ (star (aY bn (xR ⟨0, false, z3⟩) 259) _) := aA.new hO hbn hwn (xR ⟨0, false, z3⟩) 259
   change aA w0 F1 (M2.set bn (.row (#[.int .i64 0, .bool false, .int .i64 0, .int .i64 0, .int .i64 0] : Array Value).toList 259)) _ at hNw
   generalize M2.set bn _ = M3 at hNw ⊢
   obtain ⟨F2, hle2, hownN, hO3⟩ := aA.fQ hNw
   obtain ⟨F3, k1, l3, k2⟩ := aA.last hO3
   have hcap := aA.aIx jG (by decide) k1
   refine uD (x := ⟨some ⟨bn, 0, none⟩, 1, 1⟩) (news := xR ⟨0, false, z3⟩) Tryz.underlying209 W.aK3 k1 rfl (gK.own (hownN.le hO3.fr) fun j u hj => by rw [Nat.zero_add]; exact hj) (fun e0 => by cases e0) (aCr _) (by decide) (by show sL.n + 1 ≤ _; omega) fun M4 s4 h4 => ?_
   rw [aR]
   have h5 := k2 _ _ h4
   refine gF W.aEd (aA.bA h5) (by simp) rfl rfl ?_
   have h6 := aA.kZ h5 (cs' := [.int .i64 P.most, SV.v s4, SV.v sF]) (e' := 211)
   rw [nL, ← hal]
   have hfm : P.l.flatMap xR ++ xR ⟨0, false, z3⟩ = (P.l ++ ([⟨0, false, z3⟩] : List (rO V3))).flatMap xR := by simp
   refine keyJ1 _ { P with l := P.l ++ ([⟨0, false, z3⟩] : List (rO V3)) } s4 sF ⟨0, false, z3⟩ ?_ (by rw [hal]; simp) ⟨by show (0 : Int) ≤ 0; omega, by show (0 : Int) ≤ 1000000; omega⟩ fun M7 h7 => ?_
   ·rw [hfm] at h6
    exact (aA.fJ h6 hle2)
   ·have hgen : P.gen a = 0 + 1 := by
     unfold PS.gen
     rw [hal, List.getElem?_eq_none (Nat.le_refl _)]
     rfl
    have htk : P.take z3 a v = { P with l := (P.l ++ ([⟨0, false, z3⟩] : List (rO V3))).set a ⟨0 + 1, true, v⟩ } := by
     unfold PS.take PS.grow
     rw [hlast, hgen]
    rw [htk, hgen] at h1
    exact h1 M7 (h7.fJ hle1)
theorem aCN {a g : Int} {v : V3} (h : aA w0 F M (star (q9 p P) Q)) (hb : P.l.length ≤ 10000) (hfb : P.free.length ≤ 10000) (hw : P.find a g = some v)
  (h1 : ∀ M', aA w0 F M' (star (q9 p (P.fZ z3 a.toNat)) Q) → R (.tuple #[.agg #[.int .i64 v.1, .int .i64 v.2.1, .int .i64 v.2.2], .int .i64 0]) M') :
  C PP w0 Id.iQ #[.pointer (some ⟨p, 0, none⟩), .agg #[.int .i64 a, .int .i64 g]] R M := by
 apply iQ.go
 unfold iQ.T aJ
 obtain ⟨sL, sF, hO⟩ := q9.open_ h
 intro b1 hb1 hw1
 have g1 : aA w0 F _ (star (aY b1 _ 33) _) := aA.new hO hb1 hw1 [.int .i64 a, .int .i64 g] 33
 generalize M.set b1 _ = M1 at g1 ⊢
 obtain ⟨F1, hle1, o1, g2⟩ := aA.fQ g1
 intro b3 hb3 hw3
 have g3 : aA w0 F1 _ (star (aY b3 _ 153) _) := aA.new g2 hb3 hw3 [.int .i64 0, .int .i64 0, .int .i64 0] 153
 generalize M1.set b3 _ = M2 at g3 ⊢
 intro b5 hb5 hw5
 have g4 : aA w0 F1 _ (star (aY b5 _ 153) _) := aA.new g3 hb5 hw5 (mV z3) 153
 generalize hM3 : M2.set b5 _ = M3
 have hM3' : M2.set b5 (.row (mV z3) 153) = M3 := hM3
 rw [hM3'] at g4
 obtain ⟨F2, hle2, o5, g5⟩ := aA.fQ g4
 have oz : ∀ M', Mem.le F2 M' → (aH PP w0).ld 153 ⟨b5, 0, none⟩ M' = some (.agg #[.int .i64 0, .int .i64 0, .int .i64 0]) := fun M' hM => aFI (v := z3) (o := 0) (o5.le hM) (fun j u hj => by rw [Nat.zero_add]; exact hj)
 rw [aHX (o1.le (Mem.le_trans hle2 g5.fr))]
 simp only [aC, a9, aU, aL, aT]
 obtain ⟨F3, hO3, hle3, lO⟩ := g5.last
 refine aAS hO3 (by omega) (fun i v' blk ea hx hf ha M4 l4 => ?_) fun hf M4 e l4 he hel => ?_
 ·rw [hw] at hf
  cases hf
  have g6 := g5.le l4
  simp only [cA, aU, bK, aL, aT]
  rw [cD, if_pos rfl, aX, add_eq]
  have hO4 : tU w0 F2 M4 p P sL sF (star (aY b3 [.int .i64 0, .int .i64 0, .int .i64 0] 153) Q) := by
   obtain ⟨F4, q1, _, q2⟩ := aA.last g6.dT
   exact q2 _ _ (by
    obtain ⟨F5, q3, _, q4⟩ := q1.dT.last
    exact q4 _ _ q3.dT)
  obtain ⟨blk', ha', hn', hi', hrd⟩ := hO4.el hx
  rw [ha] at ha'; cases ha'
  rw [c9 (cs := mV v) W.aBg (fun j u hj => by rw [add_eq, Nat.add_assoc]; exact hrd (2 + j) u (by rw [Nat.add_comm]; exact hj))]
  simp only [aC, a9, aU, aL, aT]
  intro b49 hb49 hw49
  have g7 : aA w0 F2 _ (star (aY b49 _ 153) _) := aA.new hO4 hb49 hw49 [.int .i64 0, .int .i64 0, .int .i64 0] 153
  generalize M4.set b49 _ = M5 at g7 ⊢
  refine gZ (vs := mV v) W.aBg g7.bA (by exact Nat.le_refl _) (pQ v) ?_
  have g8 := g7.kZ (cs' := eH [.int .i64 0, .int .i64 0, .int .i64 0] 0 (mV v)) (e' := 153)
  have e0 : eH [.int .i64 0, .int .i64 0, .int .i64 0] 0 (mV v) = mV v := by
   have := eM [] [.int .i64 0, .int .i64 0, .int .i64 0] [] (mV v) rfl (o := 0) rfl
   simpa using this
  rw [e0] at g8 ⊢
  generalize M5.set b49 _ = M6 at g8 ⊢
  obtain ⟨F4, hle4, o49, hO6⟩ := aA.fQ g8
  rw [oz M6 (Mem.le_trans hle4 hO6.fr)]
  simp only [aC, a9, aU, aL, aT, aX, add_eq]
  have hil : i < P.l.length := (List.getElem?_eq_some_iff.1 hx).1
  have hnl : ∀ y, (P.l.set i y).length = P.l.length := fun y => List.length_set
  obtain ⟨F5, k1, _, k2⟩ := aA.last hO6
  refine aA.stR (f := 1) jG (by decide) W.c4 k1 hx (x' := ⟨g, false, v⟩) (by decide) rfl rfl rfl ha fun M7 h7 => ?_
  have hO7 : tU w0 F4 M7 p { P with l := P.l.set i ⟨g, false, v⟩ } sL sF (star (aY b3 [.int .i64 0, .int .i64 0, .int .i64 0] 153) Q) := k2 _ _ h7
  refine ⟨oz M7 (Mem.le_trans hle4 (aA.fr hO7)), ?_⟩
  have hx7 : (P.l.set i ⟨g, false, v⟩)[i]? = some ⟨g, false, v⟩ := List.getElem?_set_self hil
  obtain ⟨F6, k3, _, k4⟩ := aA.last hO7
  refine tZ jG (vs := mV z3) W.aBg k3 hx7 (x' := ⟨g, false, z3⟩) (A := [.int .i64 g, .bool false]) (B := mV v) rfl rfl rfl rfl (pQ _) ha (by rw [hnl]; exact hn') fun M8 h8 => ?_
  have hO8 : tU w0 F4 M8 p { P with l := P.l.set i ⟨g, false, z3⟩ } sL sF (star (aY b3 [.int .i64 0, .int .i64 0, .int .i64 0] 153) Q) := by
   have := k4 _ _ h8
   rw [List.set_set] at this
   exact this
  have e2 := hO8.r2
  have f1 : rd w0 M8 ⟨b1, 0, none⟩ = some (.int .i64 a) := aM (o := 0) (o1.le (Mem.le_trans (Mem.le_trans hle2 hle4) (aA.fr hO8)))
  simp only [aP W.c3, aP W.c53, Nat.zero_add, e2, f1, aC, aR, aL]
  refine sU (n := 1) (cells := #[.int .i64 a]) Tryz.underlying53 W.e3 (by decide) (by kernel_rfl) fun bn hbn hwn => ?_
  rw [rF]
  have hNw : aA w0 F4 _ (star (aY bn [.int .i64 a] 3) _) := aA.new hO8 hbn hwn [.int .i64 a] 3
  change aA w0 F4 (M8.set bn (.row (#[.int .i64 a] : Array Value).toList 3)) _ at hNw
  generalize M8.set bn _ = M9 at hNw ⊢
  obtain ⟨F7, hle7, hownN, hO9⟩ := aA.fQ hNw
  have e9 : rd w0 M9 ⟨p, 2, none⟩ = some (SV.v sF) := aM (o := 2) (aA.bA hO9)
  refine ⟨e9, ?_⟩
  obtain ⟨F8, k5, l5, k6⟩ := aA.last hO9
  obtain ⟨F9, k7, l7, k8⟩ := k5.last
  have hnF : sF.n = P.free.length := by have := uI (k := 1) k7; rw [this]; simp [vN]
  refine uD (x := ⟨some ⟨bn, 0, none⟩, 1, 1⟩) (news := [.int .i64 a]) Tryz.underlying53 W.e3 k7 rfl (gK.own (hownN.le hO9.fr) fun j u hj => by rw [Nat.zero_add]; exact hj) (fun e0 => by cases e0) (by intro u hu; rw [List.mem_singleton.1 hu]; rfl) (by decide) (by show sF.n + 1 ≤ _; omega) fun M10 s10 h10 => ?_
  rw [aR]
  have h11 := k6 _ _ (k8 _ _ h10)
  refine gF W.c53 (aA.bA h11) (by simp) rfl rfl ?_
  have h12 := aA.kZ h11 (cs' := [.int .i64 P.most, SV.v sL, SV.v s10]) (e' := 211)
  rw [show ([.int .i64 P.most, SV.v sL, SV.v sF] : List Value).set 2 (SV.v s10) = [.int .i64 P.most, SV.v sL, SV.v s10] from rfl]
  generalize Mem.set M10 p _ = M11 at h12 ⊢
  subst ea
  have hgv : P.fZ z3 i = { P with l := P.l.set i ⟨g, false, z3⟩, free := P.free ++ [i] } := by
   unfold PS.fZ
   rw [hx]
  have h13 : tU w0 F7 M11 p (P.fZ z3 i) sL s10 (star (aY b3 [.int .i64 0, .int .i64 0, .int .i64 0] 153) Q) := by
   rw [hgv]
   have hv : vN P.free ++ [.int .i64 (i : Int)] = vN (P.free ++ [i]) := by simp [vN]
   rw [hv] at h12
   exact h12
  rw [aFI (v := v) (o := 0) (o49.le (Mem.le_trans hle7 (aA.fr h13))) (fun j u hj => by rw [Nat.zero_add]; exact hj)]
  simp only [aC, a9, aU, aL, aT]
  have h14 := (tU.close h13).dT
  refine aKo h14 rfl (K := fun v M => R (.tuple #[v, .int .i64 0]) M) fun M12 h15 => ?_
  rw [Int.toNat_natCast] at h1
  exact h1 M12 ((((h15.fJ hle7).fJ hle4).fJ hle2).fJ hle1)
 ·rw [hw] at hf; cases hf
theorem aI6 {n : Int} (h : aA w0 F M Q) (h0 : 0 ≤ n) (hn : n ≤ 65536) (hR : ∀ M' p, aA w0 F M' (star (q9 p ⟨n, [], []⟩) Q) → R (.pointer (some ⟨p, 0, none⟩)) M') : C PP w0 Id.cG #[.int .i64 n] R M := by
 apply cG.go
 unfold cG.T aJ
 have e1 : (if 65536 < n then (65536 : Int) else n) = n := if_neg (by omega)
 have e2 : (if n > 0 then n else 0) = n := by split <;> omega
 rw [e1, e2]
 have hbld : (aH PP w0).nM 211 [(0, .int .i64 n)] = some (.agg #[.int .i64 n, .slice none 0 0, .slice none 0 0]) := by kernel_rfl
 simp only [hbld, aC, a9, aU, aL, rF, aT]
 intro b hb hw
 have h1 : aA w0 F _ (star (aY b _ 211) _) := h.new hb hw [.int .i64 n, SV.v ⟨none, 0, 0⟩, SV.v ⟨none, 0, 0⟩] 211
 refine hR _ b (tU.close (sL := ⟨none, 0, 0⟩) (sF := ⟨none, 0, 0⟩) ?_)
 obtain ⟨F1, k1, _, k2⟩ := h1.last
 exact k2 _ _ (aA.pB (aA.pB k1))
end
end HL
namespace HL
section
variable {w0 : World} {F M : Mem} {R : VP} {p : Nat} {P : PS V5} {Q : cY}
def oY (p : Nat) (P : PS V5) : cY := fun r => ∃ sL sF : SV, star (aY p [.int .i64 P.most, SV.v sL, SV.v sF] 239) (star (dP 7 sL (P.l.flatMap pc5)) (dP 1 sF (vN P.free))) r
abbrev uG (w0 : World) (F M : Mem) (p : Nat) (P : PS V5) (sL sF : SV) (Q : cY) : Prop := aA w0 F M (star (aY p [.int .i64 P.most, SV.v sL, SV.v sF] 239) (star (dP 7 sL (P.l.flatMap pc5)) (star (dP 1 sF (vN P.free)) Q)))
theorem oY.open_ (h : aA w0 F M (star (oY p P) Q)) : ∃ sL sF, uG w0 F M p P sL sF Q := by
 obtain ⟨r, ⟨r1, r2, rfl, ⟨sL, sF, h1⟩, h2⟩, h3⟩ := h
 refine ⟨sL, sF, ?_⟩
 have : aA w0 F M (star (star (aY p [.int .i64 P.most, SV.v sL, SV.v sF] 239) (star (dP 7 sL (P.l.flatMap pc5)) (dP 1 sF (vN P.free)))) Q) := ⟨_, ⟨r1, r2, rfl, h1, h2⟩, h3⟩
 have h4 := aA.assoc.1 this
 obtain ⟨F1, k1, _, k2⟩ := h4.last
 exact k2 _ _ (aA.assoc.1 k1)
theorem uG.close {sL sF : SV} (h : uG w0 F M p P sL sF Q) : aA w0 F M (star (oY p P) Q) := by
 obtain ⟨F1, k1, _, k2⟩ := aA.last h
 have h1 := k2 _ _ (aA.assoc.2 k1)
 have h2 := aA.assoc.2 h1
 obtain ⟨r, ⟨r1, r2, rfl, g1, g2⟩, g3⟩ := h2
 exact ⟨_, ⟨r1, r2, rfl, ⟨sL, sF, g1⟩, g2⟩, g3⟩
section
variable {sL sF : SV}
theorem uG.r0 (h : uG w0 F M p P sL sF Q) : rd w0 M ⟨p, 0, none⟩ = some (.int .i64 P.most) := aM (o := 0) h.bA
theorem uG.r1 (h : uG w0 F M p P sL sF Q) : rd w0 M ⟨p, 1, none⟩ = some (SV.v sL) := aM (o := 1) h.bA
theorem uG.r2 (h : uG w0 F M p P sL sF Q) : rd w0 M ⟨p, 2, none⟩ = some (SV.v sF) := aM (o := 2) h.bA
theorem uG.nL (h : uG w0 F M p P sL sF Q) : sL.n = P.l.length := aA.nR qH (by decide) h.right
theorem uG.nF (h : uG w0 F M p P sL sF Q) : sF.n = P.free.length := by
 have := uI (k := 1) h.right.right
 rw [this]; simp [vN]
theorem uG.el (h : uG w0 F M p P sL sF Q) {i : Nat} {x : rO V5} (hx : P.l[i]? = some x) : ∃ blk, sL.a = some ⟨blk, 0, none⟩ ∧ sL.n = P.l.length ∧ i < sL.n ∧ ∀ f v, (pc5 x)[f]? = some v → rd w0 M ⟨blk, i * 7 + f, none⟩ = some v := aA.adR qH (by decide) h.right hx
theorem uG.focus (h : uG w0 F M p P sL sF Q) : ∃ F5, aA w0 F5 M Q ∧ Mem.le F F5 ∧ ∀ M' Q', aA w0 F5 M' Q' → uG w0 F M' p P sL sF Q' := by
 obtain ⟨F1, k1, l1, k2⟩ := aA.last h
 obtain ⟨F2, k3, l2, k4⟩ := k1.last
 obtain ⟨F3, k5, l3, k6⟩ := k3.last
 exact ⟨F3, k5, Mem.le_trans l1 (Mem.le_trans l2 l3), fun M' Q' hh => k2 _ _ (k4 _ _ (k6 _ _ hh))⟩
end
theorem aKz {b : Nat} {cs : List Value} {Pq : cY} {v : V5} (h : aA w0 F M (star (aY b cs 138) Pq)) (hcs : cs.length = 5) {K : VP} (hK : ∀ M', aA w0 F M' Pq → K (.agg #[.int .i64 v.1, .int .i64 v.2.1, .int .i64 v.2.2.1, .int .i64 v.2.2.2.1, .int .i64 v.2.2.2.2]) M') :
  (aH PP w0).st 138 ⟨b, 0, none⟩ (.agg #[.int .i64 v.1, .int .i64 v.2.1, .int .i64 v.2.2.1, .int .i64 v.2.2.2.1, .int .i64 v.2.2.2.2]) (fun M1 => ob ((aH PP w0).rdv 138 (.pointer (some ⟨b, 0, none⟩)) M1) fun v => K v M1) M := by
 refine gZ (vs := jY v) W.aBf h.bA (by rw [hcs]; exact Nat.le_refl _) (dI v) ?_
 have h2 := h.kZ (cs' := eH cs 0 (jY v)) (e' := 138)
 have e0 : eH cs 0 (jY v) = jY v := by
  have := eM [] cs [] (jY v) (by rw [hcs]; rfl) (o := 0) rfl
  simpa using this
 rw [e0] at h2 ⊢
 have o2 := h2.bA
 rw [qF, c9 (cs := jY v) W.aBf (fun j u hj => by rw [add_eq, aM o2, Nat.zero_add]; exact hj), aC]
 exact hK _ h2.right
theorem aGk {b o : Nat} {v : V5} {cs : List Value} {e : TypeId} (h : cM w0 M b cs e) (hc : ∀ j u, (jY v)[j]? = some u → cs[o + j]? = some u) : (aH PP w0).ld 138 ⟨b, o, none⟩ M = some (.agg #[.int .i64 v.1, .int .i64 v.2.1, .int .i64 v.2.2.1, .int .i64 v.2.2.2.1, .int .i64 v.2.2.2.2]) :=
 c9 (cs := jY v) W.aBf (fun j u hj => by rw [add_eq, aM h]; exact hc j u hj)
theorem aG7 {b : Nat} {x y : Int} {e : TypeId} (h : cM w0 M b [.int .i64 x, .int .i64 y] e) : (aH PP w0).ld 33 ⟨b, 0, none⟩ M = some (.agg #[.int .i64 x, .int .i64 y]) :=
 c9 (cs := [.int .i64 x, .int .i64 y]) W.g33 (fun j u hj => by rw [add_eq, aM h, Nat.zero_add]; exact hj)
theorem x3 {sL sF : SV} {a g : Int} (h : uG w0 F M p P sL sF Q) (hb : P.l.length ≤ 100000)
  (h1 : ∀ (i : Nat) v blk, a = (i : Int) → P.l[i]? = some ⟨g, true, v⟩ → P.find a g = some v → sL.a = some ⟨blk, 0, none⟩ → ∀ M', Mem.le M M' → R (.tuple #[.pointer (some ⟨blk, i * 7, none⟩), .int .i64 0]) M')
  (h0 : P.find a g = none → ∀ M' e, Mem.le M M' → e ≠ 0 → e = P.pl.look a g → R (.tuple #[.pointer none, .int .i64 e]) M') :
  C PP w0 Id.cS #[.pointer (some ⟨p, 0, none⟩), .agg #[.int .i64 a, .int .i64 g]] R M := by
 apply cS.go
 intro aB H
 unfold cS.T aJ
 intro b1 hb1 hw1
 have l1 := Mem.fN (M := M) (.row [.int .i64 a, .int .i64 g] 33) hb1
 have o1 : cM w0 (M.set b1 (.row [.int .i64 a, .int .i64 g] 33)) b1 [.int .i64 a, .int .i64 g] 33 := cM.new hw1
 generalize M.set b1 _ = M1 at l1 o1 ⊢
 have hO : uG w0 F M1 p P sL sF Q := aA.le h l1
 have f0 : rd w0 M1 ⟨b1, 0, none⟩ = some (.int .i64 a) := aM (o := 0) o1
 have f1 : rd w0 M1 ⟨b1, 1, none⟩ = some (.int .i64 g) := aM (o := 1) o1
 have fL := hO.r1
 have hn := hO.nL
 have hlk : ∀ e, P.pl.look a g = e → e ≠ 0 → P.find a g = none := fun e he eE => by
  cases hf : P.find a g with
  | none => rfl
  | some v =>
   have := PS.pJ.1 (show (P.find a g).isSome = true by rw [hf]; rfl)
   exact absurd (he ▸ this) eE
 have h22 : P.pl.look a g = 22 → R (.tuple #[.pointer none, .int .i64 22]) M1 := fun e => h0 (hlk 22 e (by decide)) M1 22 l1 (by decide) e.symm
 have h23 : P.pl.look a g = 23 → R (.tuple #[.pointer none, .int .i64 23]) M1 := fun e => h0 (hlk 23 e (by decide)) M1 23 l1 (by decide) e.symm
 have hlook : P.pl.look a g = if a < 0 ∨ (P.l.length : Int) ≤ a ∨ g < 1 ∨ (P.l.map (·.g)).getD a.toNat 0 < g then 22 else if g < (P.l.map (·.g)).getD a.toNat 0 ∨ (P.l.map (·.t)).getD a.toNat false = false then 23 else 0 := by
  unfold Pl.look PS.pl
  simp only [List.length_map]
 simp only [aX, aP W.c3, aP W.aD0, add_eq, Nat.zero_add, f0, f1, fL, aC, aL, aR]
 rw [eO]
 split
 ·rename_i ha
  exact h22 (by rw [hlook, if_pos (.inl ha)])
 ·rename_i ha
  rw [eO]
  split
  ·exact h22 (by rw [hlook, if_pos (.inr (.inl (by omega)))])
  ·rename_i hal
   rw [eO]
   split
   ·rename_i hg
    exact h22 (by rw [hlook, if_pos (.inr (.inr (.inl hg)))])
   ·rename_i hg
    obtain ⟨i, rfl⟩ : ∃ i : Nat, a = (i : Int) := ⟨a.toNat, by omega⟩
    have hil : i < P.l.length := by omega
    have hx := List.getElem?_eq_getElem hil
    generalize P.l[i] = x at hx
    obtain ⟨blk, ha2, hn2, hi2, hrd⟩ := hO.el hx
    have eg : (P.l.map (·.g)).getD (i : Int).toNat 0 = x.g := by rw [Int.toNat_natCast, List.getD_eq_getElem?_getD, List.getElem?_map, hx]; rfl
    have et : (P.l.map (·.t)).getD (i : Int).toNat false = x.t := by rw [Int.toNat_natCast, List.getD_eq_getElem?_getD, List.getElem?_map, hx]; rfl
    rw [eg, et] at hlook
    have r0 : rd w0 M1 ⟨blk, i * 7, none⟩ = some (.int .i64 x.g) := hrd 0 _ rfl
    have r1 : rd w0 M1 ⟨blk, i * 7 + 1, none⟩ = some (.bool x.t) := hrd 1 _ rfl
    simp only [ha2, aX, Int.toNat_natCast, add_eq, Nat.zero_add, r0, aC, aL]
    refine ⟨⟨by omega, by omega⟩, ?_⟩
    rw [eO]
    split
    ·rename_i hgg
     exact h22 (by rw [hlook, if_pos (.inr (.inr (.inr hgg)))])
    ·rename_i hgg
     have hno : ¬ ((i : Int) < 0 ∨ (P.l.length : Int) ≤ (i : Int) ∨ g < 1 ∨ x.g < g) := by omega
     rw [if_neg hno] at hlook
     refine Eq.mpr (H.J1 ..) ?_
     unfold cS.J1.T aJ
     simp only [aX, aP W.c3, aP W.c4, aP W.aD0, add_eq, Nat.zero_add, f0, f1, fL, aC, aL, aR, bU, ha2, Int.toNat_natCast, r0, r1]
     refine ⟨⟨by omega, by omega⟩, ?_⟩
     rw [eO]
     split
     ·rename_i hlt
      exact h23 (by rw [hlook, if_pos (.inl hlt)])
     ·rename_i hlt
      cases ht : x.t with
      | false =>
       rw [Bool.not_false, dU]
       exact h23 (by rw [hlook, if_pos (.inr ht)])
      | true =>
       rw [Bool.not_true, mT]
       have hgx : g = x.g := by omega
       have hx2 : P.l[i]? = some ⟨g, true, x.v⟩ := by
        rw [hx, hgx]
        obtain ⟨xg, xt, xv⟩ := x
        simp only at ht
        subst ht; rfl
       exact h1 i x.v blk rfl hx2 (PS.jS hx2 (by omega)) ha2 M1 l1
theorem aAc {a g : Int} (h : aA w0 F M (star (oY p P) Q)) (hb : P.l.length ≤ 100000)
  (h1 : ∀ v, P.find a g = some v → ∀ M', Mem.le M M' → R (.tuple #[.agg #[.int .i64 v.1, .int .i64 v.2.1, .int .i64 v.2.2.1, .int .i64 v.2.2.2.1, .int .i64 v.2.2.2.2], .int .i64 0]) M')
  (h0 : P.find a g = none → ∀ M' e, Mem.le M M' → e ≠ 0 → e = P.pl.look a g → R (.tuple #[.agg #[.int .i64 0, .int .i64 0, .int .i64 0, .int .i64 0, .int .i64 0], .int .i64 e]) M') :
  C PP w0 Id.jP #[.pointer (some ⟨p, 0, none⟩), .agg #[.int .i64 a, .int .i64 g]] R M := by
 apply jP.go
 unfold jP.T aJ
 obtain ⟨sL, sF, hO⟩ := oY.open_ h
 intro b1 hb1 hw1
 have l1 := Mem.fN (M := M) (.row [.int .i64 a, .int .i64 g] 33) hb1
 have o1 : cM w0 (M.set b1 (.row [.int .i64 a, .int .i64 g] 33)) b1 [.int .i64 a, .int .i64 g] 33 := cM.new hw1
 generalize M.set b1 _ = M1 at l1 o1 ⊢
 intro b3 hb3 hw3
 have n1 : aA w0 M1 M1 (fun r => r = []) := ⟨[], rfl, Fit.nil (Mem.le_refl _)⟩
 have n3 : aA w0 M1 _ (star (aY b3 _ 138) _) := n1.new hb3 hw3 [.int .i64 0, .int .i64 0, .int .i64 0, .int .i64 0, .int .i64 0] 138
 generalize M1.set b3 _ = M2 at n3 ⊢
 have l2 := n3.fr
 rw [aG7 (o1.le l2)]
 simp only [aC, a9, aU, aL, aT]
 have hO2 : uG w0 F M2 p P sL sF Q := aA.le hO (Mem.le_trans l1 l2)
 refine x3 hO2 hb (fun i v blk ea hx hf ha M3 l3 => ?_) fun hf M3 e l3 he hel => ?_
 ·simp only [cA, aU, bK, aL, aT]
  rw [cD, if_pos rfl, aX, add_eq]
  have hO3 : uG w0 F M3 p P sL sF Q := aA.le hO2 l3
  obtain ⟨blk', ha', hn', hi', hrd⟩ := hO3.el hx
  rw [ha] at ha'; cases ha'
  rw [c9 (cs := jY v) W.aBf (fun j u hj => by rw [add_eq, Nat.add_assoc]; exact hrd (2 + j) u (by rw [Nat.add_comm]; exact hj))]
  simp only [aC, a9, aU, aL, aT]
  refine aKz (n3.le l3) rfl (K := fun v M => R (.tuple #[v, .int .i64 0]) M) fun M4 h4 => ?_
  exact h1 v hf M4 (Mem.le_trans l1 h4.fr)
 ·simp only [cA, aU, bK, aL, aT]
  rw [cD, if_neg he]
  intro b22 hb22 hw22
  have l4 := Mem.fN (M := M3) (.row [.int .i64 0, .int .i64 0, .int .i64 0, .int .i64 0, .int .i64 0] 138) hb22
  have o4 : cM w0 (M3.set b22 (.row [.int .i64 0, .int .i64 0, .int .i64 0, .int .i64 0, .int .i64 0] 138)) b22 (jY z5) 138 := cM.new hw22
  generalize M3.set b22 _ = M4 at l4 o4 ⊢
  rw [aGk (v := z5) (o := 0) o4 (fun j u hj => by rw [Nat.zero_add]; exact hj)]
  simp only [aC, a9, aU, aL, aT]
  refine aKz (v := z5) (n3.le (Mem.le_trans l3 l4)) rfl (K := fun v M => R (.tuple #[v, .int .i64 e]) M) fun M5 h5 => ?_
  exact h0 hf M5 e (Mem.le_trans l1 h5.fr) he hel
theorem aFa {a g : Int} {v w : V5} (h : aA w0 F M (star (oY p P) Q)) (hb : P.l.length ≤ 100000) (hw : P.find a g = some w)
  (h1 : ∀ M', aA w0 F M' (star (oY p (P.put a.toNat v)) Q) → R (.int .i64 0) M') :
  C PP w0 Id.kH #[.pointer (some ⟨p, 0, none⟩), .agg #[.int .i64 a, .int .i64 g], .agg #[.int .i64 v.1, .int .i64 v.2.1, .int .i64 v.2.2.1, .int .i64 v.2.2.2.1, .int .i64 v.2.2.2.2]] R M := by
 apply kH.go
 unfold kH.T aJ
 obtain ⟨sL, sF, hO⟩ := oY.open_ h
 intro b1 hb1 hw1
 have l1 := Mem.fN (M := M) (.row [.int .i64 a, .int .i64 g] 33) hb1
 have o1 : cM w0 (M.set b1 (.row [.int .i64 a, .int .i64 g] 33)) b1 [.int .i64 a, .int .i64 g] 33 := cM.new hw1
 generalize M.set b1 _ = M1 at l1 o1 ⊢
 intro b3 hb3 hw3
 have l2 := Mem.fN (M := M1) (.row (jY v) 138) hb3
 have o3 : cM w0 (M1.set b3 (.row (jY v) 138)) b3 (jY v) 138 := cM.new hw3
 change _ at hb3
 generalize hM2 : M1.set b3 _ = M2
 have hM2' : M1.set b3 (.row (jY v) 138) = M2 := hM2
 rw [hM2'] at l2 o3
 rw [aG7 (o1.le l2)]
 simp only [aC, a9, aU, aL, aT]
 have hO2 : uG w0 F M2 p P sL sF Q := aA.le hO (Mem.le_trans l1 l2)
 refine x3 hO2 hb (fun i v' blk ea hx hf ha M3 l3 => ?_) fun hf M3 e l3 he hel => ?_
 ·simp only [cA, aU, bK, aL, aT]
  rw [eW, if_pos rfl, aGk (v := v) (o := 0) (o3.le l3) (fun j u hj => by rw [Nat.zero_add]; exact hj)]
  simp only [aC, a9, aU, aL, aT, aX, add_eq]
  have hO3 : uG w0 F M3 p P sL sF Q := aA.le hO2 l3
  have hn := hO3.nL
  obtain ⟨F1, k1, _, k2⟩ := aA.last hO3
  refine tZ qH (vs := jY v) W.aBf k1 hx (x' := ⟨g, true, v⟩) (A := [.int .i64 g, .bool true]) (B := jY v') rfl rfl rfl rfl (dI v) ha hn fun M4 h4 => ?_
  have h5 := k2 _ _ h4
  refine h1 M4 (uG.close (sL := sL) (sF := sF) ?_)
  subst ea
  rw [Int.toNat_natCast]
  obtain ⟨e1, e2, e3⟩ := PS.uT v hx
  unfold uG
  rw [e1, e2, e3]
  exact h5
 ·rw [hw] at hf; cases hf
theorem aFc (h : aA w0 F M (star (oY p P) Q)) (hb : P.l.length ≤ 100000) (hf : P.free.length ≤ P.l.length) (hR : R (.int .i64 ((P.l.length - P.free.length : Nat) : Int)) M) :
  C PP w0 Id.kJ #[.pointer (some ⟨p, 0, none⟩)] R M := by
 apply kJ.go
 unfold kJ.T aJ
 obtain ⟨sL, sF, hO⟩ := oY.open_ h
 simp only [aX, aP W.aD0, aP W.c53, add_eq, Nat.zero_add, hO.r1, hO.r2, aC, aR]
 rw [hO.nL, hO.nF, bC (by omega), show (P.l.length : Int) - (P.free.length : Int) = ((P.l.length - P.free.length : Nat) : Int) from by omega]
 exact hR
theorem aEq (h : aA w0 F M (star (oY p P) Q)) (hR : R (.int .i64 P.most) M) :
  C PP w0 Id.gG #[.pointer (some ⟨p, 0, none⟩)] R M := by
 apply gG.go
 unfold gG.T aJ
 obtain ⟨sL, sF, hO⟩ := oY.open_ h
 simp only [aX, aP W.c3, hO.r0, aC, aL]
 exact hR
theorem aDq {v : V5} (h : aA w0 F M (star (oY p P) Q)) (hok : P.Ok) (hb : P.l.length ≤ 10000) (hfb : P.free.length ≤ 10000) (hg : ∀ x ∈ P.l, 0 ≤ x.g ∧ x.g ≤ 1000000) {a : Nat} (hat : P.at_ = some a)
  (h1 : ∀ M', aA w0 F M' (star (oY p (P.take z5 a v)) Q) → R (.tuple #[.agg #[.int .i64 (a : Int), .int .i64 (P.gen a)], .bool true]) M') :
  C PP w0 Id.cN #[.pointer (some ⟨p, 0, none⟩), .agg #[.int .i64 v.1, .int .i64 v.2.1, .int .i64 v.2.2.1, .int .i64 v.2.2.2.1, .int .i64 v.2.2.2.2]] R M := by
 apply cN.go
 intro aB H
 unfold cN.T aJ
 intro b1 hb1 hw1
 have g1 : aA w0 F _ (star (aY b1 (jY v) 138) (star (oY p P) Q)) := h.new hb1 hw1 (jY v) 138
 generalize hM1 : M.set b1 _ = M1
 have hM1' : M.set b1 (.row (jY v) 138) = M1 := hM1
 rw [hM1'] at g1
 obtain ⟨F1, hle1, hown, g2⟩ := aA.fQ g1
 intro b3 hb3 hw3
 have g3 : aA w0 F1 _ (star (aY b3 _ 33) (star (oY p P) Q)) := g2.new hb3 hw3 [.int .i64 0, .int .i64 0] 33
 generalize M1.set b3 _ = M2 at g3 ⊢
 obtain ⟨sL, sF, hO⟩ := oY.open_ g3.dT
 have keyJ1 : ∀ (M' : Mem) (P' : PS V5) (sL sF : SV) (x : rO V5), uG w0 F1 M' p P' sL sF (star (aY b3 [.int .i64 0, .int .i64 0] 33) Q) → P'.l[a]? = some x → 0 ≤ x.g ∧ x.g ≤ 1000000 →
   (∀ M'', aA w0 F1 M'' (star (oY p { P' with l := P'.l.set a ⟨x.g + 1, true, v⟩ }) Q) → R (.tuple #[.agg #[.int .i64 (a : Int), .int .i64 (x.g + 1)], .bool true]) M'') →
   cN.J1 aB (some ⟨p, 0, none⟩) ⟨b1, 0, none⟩ ⟨b3, 0, none⟩ (a : Int) M' := by
  intro M' P' sL sF x hX hx hxg hR
  refine Eq.mpr (H.J1 ..) ?_
  unfold cN.J1.T aJ
  obtain ⟨blk, ha, hn, hi, hrd⟩ := hX.el hx
  have eL := hX.r1
  have r0 : rd w0 M' ⟨blk, a * 7, none⟩ = some (.int .i64 x.g) := hrd 0 _ rfl
  simp only [aX, aP W.c3, aP W.aD0, add_eq, Nat.zero_add, eL, aC, aR, ha, Int.toNat_natCast, r0, aL]
  refine ⟨⟨by omega, by omega⟩, ?_⟩
  rw [bC (by omega)]
  obtain ⟨F2, k1, _, k2⟩ := aA.last hX
  have hnl : ∀ y, (P'.l.set a y).length = P'.l.length := fun y => List.length_set
  refine aA.stR (f := 0) qH (by decide) W.c3 k1 hx (x' := { x with g := x.g + 1 }) (by decide) rfl rfl rfl ha fun M3 h3 => ?_
  have hX3 : uG w0 F1 M3 p { P' with l := P'.l.set a { x with g := x.g + 1 } } sL sF (star (aY b3 [.int .i64 0, .int .i64 0] 33) Q) := k2 _ _ h3
  rw [aGk (v := v) (o := 0) (hown.le (aA.fr hX3)) (fun j u hj => by rw [Nat.zero_add]; exact hj)]
  simp only [aC, a9, aU, aL, aT]
  have hal : a < P'.l.length := (List.getElem?_eq_some_iff.1 hx).1
  have hx3 : (P'.l.set a { x with g := x.g + 1 })[a]? = some { x with g := x.g + 1 } := List.getElem?_set_self hal
  obtain ⟨F3, k3, _, k4⟩ := aA.last hX3
  refine aA.stR (f := 1) qH (by decide) W.c4 k3 hx3 (x' := ⟨x.g + 1, true, x.v⟩) (by decide) rfl rfl rfl ha fun M4 h4 => ?_
  have hX4 : uG w0 F1 M4 p { P' with l := P'.l.set a ⟨x.g + 1, true, x.v⟩ } sL sF (star (aY b3 [.int .i64 0, .int .i64 0] 33) Q) := by
   have := k4 _ _ h4
   rw [List.set_set] at this
   exact this
  refine ⟨aGk (v := v) (o := 0) (hown.le (aA.fr hX4)) (fun j u hj => by rw [Nat.zero_add]; exact hj), ?_⟩
  have hx4 : (P'.l.set a ⟨x.g + 1, true, x.v⟩)[a]? = some ⟨x.g + 1, true, x.v⟩ := List.getElem?_set_self hal
  obtain ⟨F4, k5, _, k6⟩ := aA.last hX4
  refine tZ qH (vs := jY v) W.aBf k5 hx4 (x' := ⟨x.g + 1, true, v⟩) (A := [.int .i64 (x.g + 1), .bool true]) (B := jY x.v) rfl rfl rfl rfl (dI v) ha (by rw [hnl]; exact hn) fun M5 h5 => ?_
  have hX5 : uG w0 F1 M5 p { P' with l := P'.l.set a ⟨x.g + 1, true, v⟩ } sL sF (star (aY b3 [.int .i64 0, .int .i64 0] 33) Q) := by
   have := k6 _ _ h5
   rw [List.set_set] at this
   exact this
  have hx5 : (P'.l.set a ⟨x.g + 1, true, v⟩)[a]? = some ⟨x.g + 1, true, v⟩ := List.getElem?_set_self hal
  obtain ⟨blk5, ha5, hn5, hi5, hrd5⟩ := hX5.el hx5
  rw [ha] at ha5; cases ha5
  have r5 : rd w0 M5 ⟨blk, a * 7, none⟩ = some (.int .i64 (x.g + 1)) := hrd5 0 _ rfl
  have hbld : (aH PP w0).nM 33 [(0, .int .i64 (a : Int)), (1, .int .i64 (x.g + 1))] = some (.agg #[.int .i64 (a : Int), .int .i64 (x.g + 1)]) := by kernel_rfl
  simp only [r5, aC, aL, hbld, a9, aU, aT]
  obtain ⟨F5, k7, _, k8⟩ := uG.focus hX5
  refine aAN k7 (K := fun v M => R (.tuple #[v, .bool true]) M) fun M6 hback => ?_
  exact hR M6 (uG.close (k8 _ _ (hback _ _ k7)))
 have eL := hO.r1
 have eF := hO.r2
 have e0 := hO.r0
 have nL := hO.nL
 have nF := hO.nF
 simp only [aX, aP W.c3, aP W.c53, aP W.aD0, add_eq, Nat.zero_add, eL, eF, e0, aC, aR, aL]
 rw [eO]
 split
 ·-- one that was given back
  rename_i hpos
  have hp2 : 0 < P.free.length := by
   apply Decidable.byContradiction
   intro hc
   have : sF.n = 0 := by omega
   rw [this] at hpos
   rw [show p4 (((0 : Nat) : Int) - 1) = -1 from by rw [bC (by omega)]; omega] at hpos
   omega
  obtain ⟨bs, x, hbs⟩ : ∃ bs x, P.free = bs ++ [x] := by
   rcases List.eq_nil_or_concat P.free with e | ⟨bs, x, e⟩
   ·rw [e] at hp2; simp at hp2
   ·exact ⟨bs, x, by rw [e, List.concat_eq_append]⟩
  have hlast : P.free.getLast? = some x := by rw [hbs]; simp
  have hax : a = x := by
   unfold PS.at_ at hat
   rw [hlast] at hat
   simpa using hat.symm
  subst hax
  have hfl : P.free.length = bs.length + 1 := by rw [hbs]; simp
  have hw : p4 (((sF.n : Nat) : Int) - 1) = ((bs.length : Nat) : Int) := by rw [bC (by omega)]; omega
  obtain ⟨F2, k1, _, k2⟩ := aA.last hO
  obtain ⟨F3, k3, _, k4⟩ := k1.last
  have hc3 := dN k3
  obtain ⟨blk, rest, e, ha, q1, q2, q3⟩ := dP.row k3 (by omega)
  have hcap : sF.n ≤ sF.c := by rw [Nat.mul_one] at q1 q2; omega
  rw [hw]
  refine rdv hc3.1 (uI (k := 1) k3) bs.length rfl (v := .int .i64 (a : Int)) (by unfold vN; rw [hbs, List.getElem?_map, List.getElem?_append_right (Nat.le_refl _)]; simp) ?_
  rw [aL]
  refine ⟨⟨by omega, by omega, by omega⟩, ?_⟩
  have hsl : (Value.slice (if sF.c = (0 : Int).toNat then sF.a else sF.a.map (·.add ((0 : Int).toNat * 1))) (((bs.length : Nat) : Int).toNat - (0 : Int).toNat) (sF.c - (0 : Int).toNat)) = SV.v ⟨some ⟨blk, 0, none⟩, bs.length, sF.c⟩ := by
   rw [ha, Int.toNat_zero, Int.toNat_natCast, Nat.sub_zero, Nat.sub_zero, Nat.zero_mul]
   unfold SV.v
   simp only [Option.map_some, add_eq]
   split <;> rfl
  rw [hsl]
  refine gF W.c53 (aA.bA hO) (by simp) rfl rfl ?_
  have h4 := aA.kZ hO (cs' := [.int .i64 P.most, SV.v sL, SV.v ⟨some ⟨blk, 0, none⟩, bs.length, sF.c⟩]) (e' := 239)
  have hvs : vN P.free ++ rest = vN bs ++ (.int .i64 (a : Int) :: rest) := by rw [hbs]; simp [vN]
  have uV : ∀ (b' : Bool), True := fun _ => trivial
  obtain ⟨y, hy, hyt⟩ := hok.fr a (by rw [hbs]; simp)
  refine keyJ1 _ { P with free := bs } sL ⟨some ⟨blk, 0, none⟩, bs.length, sF.c⟩ y ?_ hy (hg y (List.mem_of_getElem? hy)) fun M5 h5 => ?_
  ·obtain ⟨F6, k6, _, k7⟩ := aA.last h4
   obtain ⟨F8, k8, _, k9⟩ := k6.last
   refine k7 _ _ (k9 _ _ ?_)
   obtain ⟨blk', rest', e', ha', q1', q2', q3'⟩ := dP.row k8 (by omega)
   rw [ha] at ha'; cases ha'
   have hvs' : vN P.free ++ rest' = vN bs ++ (.int .i64 (a : Int) :: rest') := by rw [hbs]; simp [vN]
   rw [hvs'] at q3'
   have hvl : (vN bs).length = bs.length := by simp [vN]
   have hvl2 : (vN P.free).length = bs.length + 1 := by simp [vN, hfl]
   refine dP.ofRow q3' (by rw [hvl]; omega) ?_
   rw [hvl, List.length_cons]
   rw [hvl2] at q2'
   omega
  ·have hgen : P.gen a = y.g + 1 := by unfold PS.gen; rw [hy]
   have htk : P.take z5 a v = { P with free := bs, l := P.l.set a ⟨y.g + 1, true, v⟩ } := by
    unfold PS.take PS.grow
    rw [hlast, hgen]
    simp [hbs]
   rw [htk, hgen] at h1
   exact h1 M5 (h5.fJ hle1)
 ·rename_i hpos
  have hp2 : P.free = [] := by
   apply List.eq_nil_of_length_eq_zero
   apply Decidable.byContradiction
   intro hc
   rw [show p4 (((sF.n : Nat) : Int) - 1) = ((sF.n : Nat) : Int) - 1 from bC (by omega)] at hpos
   omega
  have hlast : P.free.getLast? = none := by rw [hp2]; rfl
  have hat2 := hat
  unfold PS.at_ at hat2
  rw [hlast] at hat2
  simp only at hat2
  split at hat2
  ·cases hat2
  ·rename_i hm
   have hal : a = P.l.length := by simpa using hat2.symm
   rw [eO, if_neg (by omega)]
   have hbld : (aH PP w0).nM 241 [] = some (.agg #[.int .i64 0, .bool false, .int .i64 0, .int .i64 0, .int .i64 0, .int .i64 0, .int .i64 0]) := by kernel_rfl
   simp only [hbld, aC, a9, aU, aL, bU, aT]
   refine sU (n := 1) (cells := #[.int .i64 0, .bool false, .int .i64 0, .int .i64 0, .int .i64 0, .int .i64 0, .int .i64 0]) Tryz.underlying237 W.aKX (by decide) (by kernel_rfl) fun bn hbn hwn => ?_
   rw [rF]
   have hNw : aA w0 F1 _ (star (aY bn (pc5 ⟨0, false, z5⟩) 241) _) := aA.new hO hbn hwn (pc5 ⟨0, false, z5⟩) 241
   change aA w0 F1 (M2.set bn (.row (#[.int .i64 0, .bool false, .int .i64 0, .int .i64 0, .int .i64 0, .int .i64 0, .int .i64 0] : Array Value).toList 241)) _ at hNw
   generalize M2.set bn _ = M3 at hNw ⊢
   obtain ⟨F2, hle2, hownN, hO3⟩ := aA.fQ hNw
   obtain ⟨F3, k1, l3, k2⟩ := aA.last hO3
   have hcap := aA.aIx qH (by decide) k1
   refine uD (x := ⟨some ⟨bn, 0, none⟩, 1, 1⟩) (news := pc5 ⟨0, false, z5⟩) Tryz.underlying237 W.aKX k1 rfl (gK.own (hownN.le hO3.fr) fun j u hj => by rw [Nat.zero_add]; exact hj) (fun e0 => by cases e0) (aEG _) (by decide) (by show sL.n + 1 ≤ _; omega) fun M4 s4 h4 => ?_
   rw [aR]
   have h5 := k2 _ _ h4
   refine gF W.aD0 (aA.bA h5) (by simp) rfl rfl ?_
   have h6 := aA.kZ h5 (cs' := [.int .i64 P.most, SV.v s4, SV.v sF]) (e' := 239)
   rw [nL, ← hal]
   have hfm : P.l.flatMap pc5 ++ pc5 ⟨0, false, z5⟩ = (P.l ++ ([⟨0, false, z5⟩] : List (rO V5))).flatMap pc5 := by simp
   refine keyJ1 _ { P with l := P.l ++ ([⟨0, false, z5⟩] : List (rO V5)) } s4 sF ⟨0, false, z5⟩ ?_ (by rw [hal]; simp) ⟨by show (0 : Int) ≤ 0; omega, by show (0 : Int) ≤ 1000000; omega⟩ fun M7 h7 => ?_
   ·rw [hfm] at h6
    exact (aA.fJ h6 hle2)
   ·have hgen : P.gen a = 0 + 1 := by
     unfold PS.gen
     rw [hal, List.getElem?_eq_none (Nat.le_refl _)]
     rfl
    have htk : P.take z5 a v = { P with l := (P.l ++ ([⟨0, false, z5⟩] : List (rO V5))).set a ⟨0 + 1, true, v⟩ } := by
     unfold PS.take PS.grow
     rw [hlast, hgen]
    rw [htk, hgen] at h1
    exact h1 M7 (h7.fJ hle1)
theorem aDf {a g : Int} {v : V5} (h : aA w0 F M (star (oY p P) Q)) (hb : P.l.length ≤ 10000) (hfb : P.free.length ≤ 10000) (hw : P.find a g = some v)
  (h1 : ∀ M', aA w0 F M' (star (oY p (P.fZ z5 a.toNat)) Q) → R (.tuple #[.agg #[.int .i64 v.1, .int .i64 v.2.1, .int .i64 v.2.2.1, .int .i64 v.2.2.2.1, .int .i64 v.2.2.2.2], .int .i64 0]) M') :
  C PP w0 Id.gB #[.pointer (some ⟨p, 0, none⟩), .agg #[.int .i64 a, .int .i64 g]] R M := by
 apply gB.go
 unfold gB.T aJ
 obtain ⟨sL, sF, hO⟩ := oY.open_ h
 intro b1 hb1 hw1
 have g1 : aA w0 F _ (star (aY b1 _ 33) _) := aA.new hO hb1 hw1 [.int .i64 a, .int .i64 g] 33
 generalize M.set b1 _ = M1 at g1 ⊢
 obtain ⟨F1, hle1, o1, g2⟩ := aA.fQ g1
 intro b3 hb3 hw3
 have g3 : aA w0 F1 _ (star (aY b3 _ 138) _) := aA.new g2 hb3 hw3 [.int .i64 0, .int .i64 0, .int .i64 0, .int .i64 0, .int .i64 0] 138
 generalize M1.set b3 _ = M2 at g3 ⊢
 intro b5 hb5 hw5
 have g4 : aA w0 F1 _ (star (aY b5 _ 138) _) := aA.new g3 hb5 hw5 (jY z5) 138
 generalize hM3 : M2.set b5 _ = M3
 have hM3' : M2.set b5 (.row (jY z5) 138) = M3 := hM3
 rw [hM3'] at g4
 obtain ⟨F2, hle2, o5, g5⟩ := aA.fQ g4
 have oz : ∀ M', Mem.le F2 M' → (aH PP w0).ld 138 ⟨b5, 0, none⟩ M' = some (.agg #[.int .i64 0, .int .i64 0, .int .i64 0, .int .i64 0, .int .i64 0]) := fun M' hM => aGk (v := z5) (o := 0) (o5.le hM) (fun j u hj => by rw [Nat.zero_add]; exact hj)
 rw [aG7 (o1.le (Mem.le_trans hle2 g5.fr))]
 simp only [aC, a9, aU, aL, aT]
 obtain ⟨F3, hO3, hle3, lO⟩ := g5.last
 refine x3 hO3 (by omega) (fun i v' blk ea hx hf ha M4 l4 => ?_) fun hf M4 e l4 he hel => ?_
 ·rw [hw] at hf
  cases hf
  have g6 := g5.le l4
  simp only [cA, aU, bK, aL, aT]
  rw [cD, if_pos rfl, aX, add_eq]
  have hO4 : uG w0 F2 M4 p P sL sF (star (aY b3 [.int .i64 0, .int .i64 0, .int .i64 0, .int .i64 0, .int .i64 0] 138) Q) := by
   obtain ⟨F4, q1, _, q2⟩ := aA.last g6.dT
   exact q2 _ _ (by
    obtain ⟨F5, q3, _, q4⟩ := q1.dT.last
    exact q4 _ _ q3.dT)
  obtain ⟨blk', ha', hn', hi', hrd⟩ := hO4.el hx
  rw [ha] at ha'; cases ha'
  rw [c9 (cs := jY v) W.aBf (fun j u hj => by rw [add_eq, Nat.add_assoc]; exact hrd (2 + j) u (by rw [Nat.add_comm]; exact hj))]
  simp only [aC, a9, aU, aL, aT]
  intro b49 hb49 hw49
  have g7 : aA w0 F2 _ (star (aY b49 _ 138) _) := aA.new hO4 hb49 hw49 [.int .i64 0, .int .i64 0, .int .i64 0, .int .i64 0, .int .i64 0] 138
  generalize M4.set b49 _ = M5 at g7 ⊢
  refine gZ (vs := jY v) W.aBf g7.bA (by exact Nat.le_refl _) (dI v) ?_
  have g8 := g7.kZ (cs' := eH [.int .i64 0, .int .i64 0, .int .i64 0, .int .i64 0, .int .i64 0] 0 (jY v)) (e' := 138)
  have e0 : eH [.int .i64 0, .int .i64 0, .int .i64 0, .int .i64 0, .int .i64 0] 0 (jY v) = jY v := by
   have := eM [] [.int .i64 0, .int .i64 0, .int .i64 0, .int .i64 0, .int .i64 0] [] (jY v) rfl (o := 0) rfl
   simpa using this
  rw [e0] at g8 ⊢
  generalize M5.set b49 _ = M6 at g8 ⊢
  obtain ⟨F4, hle4, o49, hO6⟩ := aA.fQ g8
  rw [oz M6 (Mem.le_trans hle4 hO6.fr)]
  simp only [aC, a9, aU, aL, aT, aX, add_eq]
  have hil : i < P.l.length := (List.getElem?_eq_some_iff.1 hx).1
  have hnl : ∀ y, (P.l.set i y).length = P.l.length := fun y => List.length_set
  obtain ⟨F5, k1, _, k2⟩ := aA.last hO6
  refine aA.stR (f := 1) qH (by decide) W.c4 k1 hx (x' := ⟨g, false, v⟩) (by decide) rfl rfl rfl ha fun M7 h7 => ?_
  have hO7 : uG w0 F4 M7 p { P with l := P.l.set i ⟨g, false, v⟩ } sL sF (star (aY b3 [.int .i64 0, .int .i64 0, .int .i64 0, .int .i64 0, .int .i64 0] 138) Q) := k2 _ _ h7
  refine ⟨oz M7 (Mem.le_trans hle4 (aA.fr hO7)), ?_⟩
  have hx7 : (P.l.set i ⟨g, false, v⟩)[i]? = some ⟨g, false, v⟩ := List.getElem?_set_self hil
  obtain ⟨F6, k3, _, k4⟩ := aA.last hO7
  refine tZ qH (vs := jY z5) W.aBf k3 hx7 (x' := ⟨g, false, z5⟩) (A := [.int .i64 g, .bool false]) (B := jY v) rfl rfl rfl rfl (dI _) ha (by rw [hnl]; exact hn') fun M8 h8 => ?_
  have hO8 : uG w0 F4 M8 p { P with l := P.l.set i ⟨g, false, z5⟩ } sL sF (star (aY b3 [.int .i64 0, .int .i64 0, .int .i64 0, .int .i64 0, .int .i64 0] 138) Q) := by
   have := k4 _ _ h8
   rw [List.set_set] at this
   exact this
  have e2 := hO8.r2
  have f1 : rd w0 M8 ⟨b1, 0, none⟩ = some (.int .i64 a) := aM (o := 0) (o1.le (Mem.le_trans (Mem.le_trans hle2 hle4) (aA.fr hO8)))
  simp only [aP W.c3, aP W.c53, Nat.zero_add, e2, f1, aC, aR, aL]
  refine sU (n := 1) (cells := #[.int .i64 a]) Tryz.underlying53 W.e3 (by decide) (by kernel_rfl) fun bn hbn hwn => ?_
  rw [rF]
  have hNw : aA w0 F4 _ (star (aY bn [.int .i64 a] 3) _) := aA.new hO8 hbn hwn [.int .i64 a] 3
  change aA w0 F4 (M8.set bn (.row (#[.int .i64 a] : Array Value).toList 3)) _ at hNw
  generalize M8.set bn _ = M9 at hNw ⊢
  obtain ⟨F7, hle7, hownN, hO9⟩ := aA.fQ hNw
  have e9 : rd w0 M9 ⟨p, 2, none⟩ = some (SV.v sF) := aM (o := 2) (aA.bA hO9)
  refine ⟨e9, ?_⟩
  obtain ⟨F8, k5, l5, k6⟩ := aA.last hO9
  obtain ⟨F9, k7, l7, k8⟩ := k5.last
  have hnF : sF.n = P.free.length := by have := uI (k := 1) k7; rw [this]; simp [vN]
  refine uD (x := ⟨some ⟨bn, 0, none⟩, 1, 1⟩) (news := [.int .i64 a]) Tryz.underlying53 W.e3 k7 rfl (gK.own (hownN.le hO9.fr) fun j u hj => by rw [Nat.zero_add]; exact hj) (fun e0 => by cases e0) (by intro u hu; rw [List.mem_singleton.1 hu]; rfl) (by decide) (by show sF.n + 1 ≤ _; omega) fun M10 s10 h10 => ?_
  rw [aR]
  have h11 := k6 _ _ (k8 _ _ h10)
  refine gF W.c53 (aA.bA h11) (by simp) rfl rfl ?_
  have h12 := aA.kZ h11 (cs' := [.int .i64 P.most, SV.v sL, SV.v s10]) (e' := 239)
  rw [show ([.int .i64 P.most, SV.v sL, SV.v sF] : List Value).set 2 (SV.v s10) = [.int .i64 P.most, SV.v sL, SV.v s10] from rfl]
  generalize Mem.set M10 p _ = M11 at h12 ⊢
  subst ea
  have hgv : P.fZ z5 i = { P with l := P.l.set i ⟨g, false, z5⟩, free := P.free ++ [i] } := by
   unfold PS.fZ
   rw [hx]
  have h13 : uG w0 F7 M11 p (P.fZ z5 i) sL s10 (star (aY b3 [.int .i64 0, .int .i64 0, .int .i64 0, .int .i64 0, .int .i64 0] 138) Q) := by
   rw [hgv]
   have hv : vN P.free ++ [.int .i64 (i : Int)] = vN (P.free ++ [i]) := by simp [vN]
   rw [hv] at h12
   exact h12
  rw [aGk (v := v) (o := 0) (o49.le (Mem.le_trans hle7 (aA.fr h13))) (fun j u hj => by rw [Nat.zero_add]; exact hj)]
  simp only [aC, a9, aU, aL, aT]
  have h14 := (uG.close h13).dT
  refine aKz h14 rfl (K := fun v M => R (.tuple #[v, .int .i64 0]) M) fun M12 h15 => ?_
  rw [Int.toNat_natCast] at h1
  exact h1 M12 ((((h15.fJ hle7).fJ hle4).fJ hle2).fJ hle1)
 ·rw [hw] at hf; cases hf
theorem aII {n : Int} (h : aA w0 F M Q) (h0 : 0 ≤ n) (hn : n ≤ 65536) (hR : ∀ M' p, aA w0 F M' (star (oY p ⟨n, [], []⟩) Q) → R (.pointer (some ⟨p, 0, none⟩)) M') : C PP w0 Id.dM #[.int .i64 n] R M := by
 apply dM.go
 unfold dM.T aJ
 have e1 : (if 65536 < n then (65536 : Int) else n) = n := if_neg (by omega)
 have e2 : (if n > 0 then n else 0) = n := by split <;> omega
 rw [e1, e2]
 have hbld : (aH PP w0).nM 239 [(0, .int .i64 n)] = some (.agg #[.int .i64 n, .slice none 0 0, .slice none 0 0]) := by kernel_rfl
 simp only [hbld, aC, a9, aU, aL, rF, aT]
 intro b hb hw
 have h1 : aA w0 F _ (star (aY b _ 239) _) := h.new hb hw [.int .i64 n, SV.v ⟨none, 0, 0⟩, SV.v ⟨none, 0, 0⟩] 239
 refine hR _ b (uG.close (sL := ⟨none, 0, 0⟩) (sF := ⟨none, 0, 0⟩) ?_)
 obtain ⟨F1, k1, _, k2⟩ := h1.last
 exact k2 _ _ (aA.pB (aA.pB k1))
end
end HL
namespace HL
def eV (e : cW) : List Value := [.int .i64 e.1, .int .i64 e.2]
def gA (l : List cW) : List Value := l.flatMap eV
theorem pU (e : cW) (l : List cW) : gA (e :: l) = .int .i64 e.1 :: .int .i64 e.2 :: gA l := rfl
theorem gO (l m : List cW) : gA (l ++ m) = gA l ++ gA m := by simp [gA]
theorem dW (l : List cW) : (gA l).length = l.length * 2 := by
 induction l with
 | nil => rfl
 | cons e l ih => rw [pU, List.length_cons, List.length_cons, List.length_cons, ih]; omega
theorem aJi {l : List cW} : ∀ {i : Nat} {e : cW}, l[i]? = some e → (gA l)[i * 2]? = some (.int .i64 e.1) ∧ (gA l)[i * 2 + 1]? = some (.int .i64 e.2) := by
 induction l with
 | nil => intro i e h; simp at h
 | cons x l ih =>
  intro i e h
  cases i with
  | zero =>
   simp at h; subst h
   exact ⟨rfl, rfl⟩
  | succ i =>
   rw [List.getElem?_cons_succ] at h
   obtain ⟨h1, h2⟩ := ih h
   rw [pU]
   refine ⟨?_, ?_⟩
   ·rw [show (i + 1) * 2 = (i * 2 + 1) + 1 from by omega, List.getElem?_cons_succ, List.getElem?_cons_succ]; exact h1
   ·rw [show (i + 1) * 2 + 1 = (i * 2 + 1 + 1) + 1 from by omega, List.getElem?_cons_succ, List.getElem?_cons_succ]; exact h2
theorem tX (l : List cW) : ∀ v ∈ gA l, bQ v = true := by
 intro v hv
 obtain ⟨e, _, h⟩ := List.mem_flatMap.1 hv
 simp [eV] at h
 rcases h with rfl | rfl <;> rfl
theorem aDp (l : List cW) : ∀ (i : Nat), gA (l.take i) = (gA l).take (i * 2) := by
 induction l with
 | nil => intro i; simp [gA]
 | cons x l ih =>
  intro i
  cases i with
  | zero => simp [gA]
  | succ i => rw [List.take_succ_cons, pU, pU, ih, show (i + 1) * 2 = i * 2 + 1 + 1 from by omega]; rfl
theorem aA0 (l : List cW) : ∀ (i : Nat), gA (l.drop i) = (gA l).drop (i * 2) := by
 induction l with
 | nil => intro i; simp [gA]
 | cons x l ih =>
  intro i
  cases i with
  | zero => simp
  | succ i => rw [List.drop_succ_cons, ih, pU, show (i + 1) * 2 = i * 2 + 1 + 1 from by omega]; rfl
structure yY (w0 : World) (M0 : Mem) (s : SV) (l : List cW) : Prop where
 len : s.n = l.length
 cap : s.n ≤ s.c
 nul : s.a = none → s.n = 0
 cells : ∀ M, Mem.le M0 M → gK w0 M s.a (gA l)
def SV.cut (s : SV) (lo hi : Nat) : SV := ⟨if s.c = lo then s.a else s.a.map (·.add (lo * 2)), hi - lo, s.c - lo⟩
def Es (s : SV) (l : List cW) : cY := dP 2 s (gA l)
section
variable {w0 : World} {M M0 F : Mem} {R : VP}
theorem yY.le {M1 : Mem} {s : SV} {l : List cW} (h : yY w0 M0 s l) (hl : Mem.le M0 M1) : yY w0 M1 s l := ⟨h.len, h.cap, h.nul, fun M hM => h.cells M (Mem.le_trans hl hM)⟩
theorem yY.nil : yY w0 M0 ⟨none, 0, 0⟩ [] := ⟨rfl, Nat.le_refl _, fun _ => rfl, fun M _ j v h => by simp [gA] at h⟩
theorem yY.cut {s : SV} {l : List cW} (h : yY w0 M0 s l) {lo hi : Nat} (h1 : lo ≤ hi) (h2 : hi ≤ l.length) : yY w0 M0 (s.cut lo hi) ((l.take hi).drop lo) := by
 have hl := h.len
 have hc := h.cap
 refine ⟨by simp [SV.cut]; omega, by simp only [SV.cut]; omega, fun e => ?_, fun M hM => ?_⟩
 ·simp only [SV.cut] at e ⊢
  split at e
  ·have := h.nul e; omega
  ·have := h.nul (by simpa using e); omega
 ·have hcs := h.cells M hM
  intro j v hj
  have hj2 : (gA l)[lo * 2 + j]? = some v := by
   rw [aA0, aDp, List.getElem?_drop] at hj
   have hlt := (List.getElem?_eq_some_iff.1 hj).1
   rw [List.getElem?_take] at hj
   split at hj
   ·exact hj
   ·cases hj
  obtain ⟨ad, ea, hr⟩ := hcs _ v hj2
  have hlt := (List.getElem?_eq_some_iff.1 hj2).1
  rw [dW] at hlt
  refine ⟨ad.add (lo * 2), ?_, ?_⟩
  ·simp only [SV.cut]
   rw [if_neg (by omega), ea]; rfl
  ·rw [add_add]; exact hr
theorem yY.ad {s : SV} {l : List cW} (h : yY w0 M0 s l) {j : Nat} {x : cW} (hj : l[j]? = some x) : ∃ a, s.a = some a ∧ ∀ M, Mem.le M0 M → rd w0 M (a.add (j * 2)) = some (.int .i64 x.1) ∧ rd w0 M (a.add (j * 2 + 1)) = some (.int .i64 x.2) := by
 obtain ⟨g1, g2⟩ := aJi hj
 obtain ⟨a, ea, _⟩ := h.cells M0 (Mem.le_refl _) _ _ g1
 refine ⟨a, ea, fun M hM => ?_⟩
 obtain ⟨a1, ea1, hr1⟩ := h.cells M hM _ _ g1
 obtain ⟨a2, ea2, hr2⟩ := h.cells M hM _ _ g2
 rw [ea] at ea1 ea2; cases ea1; cases ea2
 exact ⟨hr1, hr2⟩
theorem yY.ld {s : SV} {l : List cW} (h : yY w0 M0 s l) {j : Nat} {x : cW} (hj : l[j]? = some x) : ∃ a, s.a = some a ∧ ∀ M, Mem.le M0 M → (aH PP w0).ld 44 (a.add (j * 2)) M = some (.agg #[.int .i64 x.1, .int .i64 x.2]) := by
 obtain ⟨a, ea, hr⟩ := h.ad hj
 refine ⟨a, ea, fun M hM => ?_⟩
 obtain ⟨r1, r2⟩ := hr M hM
 exact c9 (cs := [.int .i64 x.1, .int .i64 x.2]) W.g44 (fun f v hv => by
  match f, hv with
  | 0, hv => simp at hv; subst hv; rw [add_add]; exact r1
  | 1, hv => simp at hv; subst hv; rw [add_add]; exact r2)
theorem xS {s : SV} {l : List cW} (h : yY w0 M0 s l) (hl : Mem.le M0 M) {i : Int} (j : Nat) (e : i = (j : Int)) {x : cW} (hj : l[j]? = some x) {K : Int → Int → Prop} (hK : K x.1 x.2) :
  nc s.a fun a => (0 ≤ i ∧ i < ((s.n : Nat) : Int)) ∧ ob ((aH PP w0).ld 44 (a.add (i.toNat * 2)) M) fun v => shA v fun l5 => dA l5 fun u6 r7 => nA .i64 u6 fun n8 => dA r7 fun u9 r10 => nA .i64 u9 fun n11 => qB r10 (K n8 n11) := by
 subst e
 obtain ⟨a, ea, hr⟩ := h.ld hj
 have hlt := (List.getElem?_eq_some_iff.1 hj).1
 have := h.len
 rw [ea, aX, Int.toNat_natCast, hr M hl]
 simp only [aC, a9, aU, aL, aT]
 exact ⟨⟨by omega, by omega⟩, hK⟩
theorem aK8 {t : TypeId} (ht : gP PP t = true) {s : SV} {l : List cW} (h : yY w0 M0 s l) (hl : Mem.le M0 M) {i : Int} (j : Nat) (e : i = (j : Int)) {x : cW} (hj : l[j]? = some x) {K : Int → Prop} (hK : K x.2) :
  nc s.a fun a => (0 ≤ i ∧ i < ((s.n : Nat) : Int)) ∧ ob ((aH PP w0).ld t (Addr.add (a.add (i.toNat * 2)) 1) M) fun v => nA .i64 v fun n => K n := by
 subst e
 obtain ⟨a, ea, hr⟩ := h.ad hj
 have hlt := (List.getElem?_eq_some_iff.1 hj).1
 have := h.len
 rw [ea, aX, Int.toNat_natCast, aP ht, add_add, (hr M hl).2, aC, aL]
 exact ⟨⟨by omega, by omega⟩, hK⟩
theorem vZ.xS {s : SV} {l : List cW} (h : vZ w0 M0 M 2 s (gA l)) : yY w0 M s l := by
 refine ⟨?_, h.cap (by decide), fun e => (h.none e).1, fun M2 hM => (h.le hM).cells⟩
 have := h.len
 rw [dW] at this; omega
theorem aA.xS {s : SV} {l : List cW} {Q : cY} (h : aA w0 F M (star (Es s l) Q)) : yY w0 M s l := by
 obtain ⟨F', h1, _⟩ := aA.slk h
 exact h1.xS
end
end HL
namespace HL
section
variable {w0 : World} {M M0 F : Mem} {R : VP}
theorem aCL {a0 a1 b0 b1 : Int} {K : Nat → Nat → Mem → Prop} (h : ∀ x1 x2 M', Mem.le M M' → (aH PP w0).ld 44 ⟨x1, 0, none⟩ M' = some (.agg #[.int .i64 a0, .int .i64 a1]) → (aH PP w0).ld 44 ⟨x2, 0, none⟩ M' = some (.agg #[.int .i64 b0, .int .i64 b1]) →
  rd w0 M' ⟨x1, 0, none⟩ = some (.int .i64 a0) → rd w0 M' ⟨x1, 1, none⟩ = some (.int .i64 a1) → rd w0 M' ⟨x2, 0, none⟩ = some (.int .i64 b0) → rd w0 M' ⟨x2, 1, none⟩ = some (.int .i64 b1) → cM w0 M' x1 [.int .i64 a0, .int .i64 a1] 44 → cM w0 M' x2 [.int .i64 b0, .int .i64 b1] 44 → K x1 x2 M') :
  (aH PP w0).nw [.int .i64 a0, .int .i64 a1] 44 (fun b1' M2 => (aH PP w0).nw [.int .i64 b0, .int .i64 b1] 44 (fun b3 M4 => K b1' b3 M4) M2) M := by
 intro x1 hx1 hw1
 intro x2 hx2 hw2
 have f1 := ((Fit.nil (w0 := w0) (Mem.le_refl M)).new hx1 hw1 (cs := [.int .i64 a0, .int .i64 a1]) (e := 44)).new hx2 hw2 (cs := [.int .i64 b0, .int .i64 b1]) (e := 44)
 have o2 := f1.own List.mem_cons_self
 have o1 := f1.own (List.mem_cons_of_mem _ List.mem_cons_self)
 refine h x1 x2 _ f1.fr ?_ ?_ (aM (o := 0) o1) (aM (o := 1) o1) (aM (o := 0) o2) (aM (o := 1) o2) o1 o2
 ·exact c9 (cs := [.int .i64 a0, .int .i64 a1]) W.g44 (fun j v hj => by rw [add_eq, aM o1, Nat.zero_add]; exact hj)
 ·exact c9 (cs := [.int .i64 b0, .int .i64 b1]) W.g44 (fun j v hj => by rw [add_eq, aM o2, Nat.zero_add]; exact hj)
theorem aA5 {a b : cW} (h : ∀ M', Mem.le M M' → R (.bool (decide (Lt a b))) M') : C PP w0 Id.iA #[.agg #[.int .i64 a.1, .int .i64 a.2], .agg #[.int .i64 b.1, .int .i64 b.2]] R M := by
 apply iA.go
 unfold iA.T aJ
 refine aCL fun x1 x2 M1 l1 e1 e2 r1 r2 r3 r4 o1 o2 => ?_
 have hh := h M1 l1
 have g : ∀ b1 : Bool, b1 = decide (Lt a b) → R (.bool b1) M1 := fun b1 e => by rw [e]; exact hh
 simp only [go_sem, add_eq, Nat.zero_add, r1, r2, r3, r4, eO]
 split
 ·rename_i h1
  exact g true (decide_eq_true (Or.inl h1)).symm
 ·rename_i h1
  rw [eW]
  split
  ·rename_i h2
   refine g _ ?_
   by_cases h3 : a.2 < b.2
   ·rw [decide_eq_true h3]; exact (decide_eq_true (show Lt a b from Or.inr ⟨h2, h3⟩)).symm
   ·rw [decide_eq_false h3]; exact (decide_eq_false (show ¬ Lt a b from fun h4 => by unfold Lt at h4; omega)).symm
  ·rename_i h2
   exact g false (decide_eq_false (by unfold Lt; omega)).symm
end
end HL
namespace HL
def jC {κ : Type} : Nat → List (rO κ) → List cW
 | _, [] => []
 | i, x :: l => if x.t = true then ((i : Int), x.g) :: jC (i + 1) l else jC (i + 1) l
def PS.refs {κ : Type} (p : PS κ) : List cW := jC 0 p.l
theorem tH {κ : Type} : ∀ (l m : List (rO κ)) (i : Nat), jC i (l ++ m) = jC i l ++ jC (i + l.length) m
 | [], m, i => rfl
 | x :: l, m, i => by
  simp only [List.cons_append, jC, tH l m (i + 1), List.length_cons]
  rw [show i + 1 + l.length = i + (l.length + 1) from by omega]
  split <;> rfl
theorem pE {κ : Type} : ∀ (l : List (rO κ)) (i : Nat), (jC i l).length ≤ l.length
 | [], i => Nat.le_refl _
 | x :: l, i => by
  have := pE l (i + 1)
  simp only [jC, List.length_cons]
  split
  ·rw [List.length_cons]; omega
  ·omega
theorem qL {κ : Type} : ∀ {l : List (rO κ)} {i : Nat} {r : cW}, r ∈ jC i l ↔ ∃ (j : Nat) (x : rO κ), l[j]? = some x ∧ x.t = true ∧ r = (((i + j : Nat) : Int), x.g)
 | [], i, r => by simp [jC]
 | x :: l, i, r => by
  have ih : r ∈ jC (i + 1) l ↔ _ := qL (l := l) (i := i + 1) (r := r)
  have key : (∃ (j : Nat) (y : rO κ), (x :: l)[j]? = some y ∧ y.t = true ∧ r = (((i + j : Nat) : Int), y.g)) ↔ (x.t = true ∧ r = ((i : Int), x.g)) ∨ ∃ (j : Nat) (y : rO κ), l[j]? = some y ∧ y.t = true ∧ r = (((i + 1 + j : Nat) : Int), y.g) := by
   constructor
   ·rintro ⟨j, y, h1, h2, h3⟩
    cases j with
    | zero =>
     simp only [List.getElem?_cons_zero, Option.some.injEq] at h1
     subst h1
     exact .inl ⟨h2, by rw [h3]; simp⟩
    | succ j => exact .inr ⟨j, y, by simpa using h1, h2, by rw [h3]; congr 2; omega⟩
   ·rintro (⟨h1, h2⟩ | ⟨j, y, h1, h2, h3⟩)
    ·exact ⟨0, x, rfl, h1, by rw [h2]; simp⟩
    ·exact ⟨j + 1, y, by simpa using h1, h2, by rw [h3]; congr 2; omega⟩
  rw [key]
  simp only [jC]
  split
  ·rename_i ht
   rw [List.mem_cons, ih]
   exact ⟨fun h => h.imp (fun h => ⟨ht, h⟩) id, fun h => h.imp (fun h => h.2) id⟩
  ·rename_i ht
   rw [ih]
   exact ⟨fun h => .inr h, fun h => h.resolve_left fun h => ht h.1⟩
section
variable {w0 : World} {F M M0 : Mem} {R : VP} {Q : cY}
theorem aE0 {s x : SV} {l m : List cW} {Q : cY} (h : aA w0 F M (star (Es s l) Q)) (hx : yY w0 M x m) (hb : l.length + m.length ≤ 137438953472) {K : VP} (hK : ∀ M' s', aA w0 F M' (star (Es s' (l ++ m)) Q) → K s'.v M') :
  (aH PP w0).app #[30, 30] 30 [SV.v s, SV.v x] K M := by
 obtain ⟨F', h1, h2, h3⟩ := aA.slk h
 have hl := h1.xS.len
 refine aCh (k := 2) Tryz.underlying30 W.e33 h2 h1 (news := gA m) (by rw [dW, hx.len]) (hx.cells M (Mem.le_refl _)) hx.nul (tX m) (by decide) (by rw [hl, hx.len]; exact hb) fun M' s' l1 l2 _ => ?_
 refine hK M' s' (h3 M' s' _ ?_ l1)
 rw [gO]; exact l2
theorem aE3 {P : cY} (h : aA w0 F M P) (x y : Int) {K : VP} (hK : ∀ M' s', Mem.le M M' → aA w0 F M' (star (Es s' [(x, y)]) P) → K s'.v M') : (aH PP w0).bsl 30 1 [(0, .agg #[.int .i64 x, .int .i64 y])] K M := by
 refine sU (n := 1) (cells := #[.int .i64 x, .int .i64 y]) Tryz.underlying30 W.e33 (by decide) (by kernel_rfl) fun b hb hw => ?_
 have l1 : Mem.le M (M.set b (.row (#[Value.int .i64 x, .int .i64 y] : Array Value).toList 33)) := Mem.fN _ hb
 exact hK _ ⟨some ⟨b, 0, none⟩, 1, 1⟩ l1 (aA.xO h l1 (vZ.new (n := 1) hb (cM.new hw) rfl))
theorem yY.aLM {s : SV} {l : List cW} (h : yY w0 M0 s l) {j : Nat} {x : cW} (hj : l[j]? = some x) : ∃ a, s.a = some a ∧ ∀ M, Mem.le M0 M → (aH PP w0).ld 33 (a.add (j * 2)) M = some (.agg #[.int .i64 x.1, .int .i64 x.2]) := by
 obtain ⟨a, ea, hr⟩ := h.ad hj
 refine ⟨a, ea, fun M hM => ?_⟩
 obtain ⟨r1, r2⟩ := hr M hM
 exact c9 (cs := [.int .i64 x.1, .int .i64 x.2]) W.g33 (fun f v hv => by
  match f, hv with
  | 0, hv => simp at hv; subst hv; rw [add_add]; exact r1
  | 1, hv => simp at hv; subst hv; rw [add_add]; exact r2)
theorem aFM {s : SV} {l : List cW} (h : yY w0 M0 s l) (hl : Mem.le M0 M) {i : Int} (j : Nat) (e : i = (j : Int)) {x : cW} (hj : l[j]? = some x) {K : Int → Int → Prop} (hK : K x.1 x.2) :
  nc s.a fun a => (0 ≤ i ∧ i < ((s.n : Nat) : Int)) ∧ ob ((aH PP w0).ld 33 (a.add (i.toNat * 2)) M) fun v => shA v fun l5 => dA l5 fun u6 r7 => nA .i64 u6 fun n8 => dA r7 fun u9 r10 => nA .i64 u9 fun n11 => qB r10 (K n8 n11) := by
 subst e
 obtain ⟨a, ea, hr⟩ := h.aLM hj
 have hlt := (List.getElem?_eq_some_iff.1 hj).1
 have := h.len
 rw [ea, aX, Int.toNat_natCast, hr M hl]
 simp only [aC, a9, aU, aL, aT]
 exact ⟨⟨by omega, by omega⟩, hK⟩
theorem aGV (x y : Int) : (aH PP w0).nM 33 [(0, .int .i64 x), (1, .int .i64 y)] = some (.agg #[.int .i64 x, .int .i64 y]) := by kernel_rfl
theorem aJd {p : Nat} {P : PS V3} (h : aA w0 F M (star (q9 p P) Q)) (hb : P.l.length ≤ 100000)
  (hR : ∀ M' s', Mem.le M M' → aA w0 F M' (star (Es s' P.refs) (star (q9 p P) Q)) → R s'.v M') :
  C PP w0 Id.dC #[.pointer (some ⟨p, 0, none⟩)] R M := by
 apply dC.go
 intro aB H
 unfold dC.T aJ
 obtain ⟨sL, sF, hO⟩ := q9.open_ h
 have hn := hO.nL
 simp only [aX, aP W.aEd, add_eq, Nat.zero_add, hO.r1, aC, aR]
 have key : ∀ (B A : List (rO V3)) (s : SV) (M1 : Mem) (k : Nat), P.l = A ++ B → Mem.le M M1 → aA w0 M M1 (Es s (jC 0 A)) → B.length < k → dC.L1 aB k s sL ((sL.n : Nat) : Int) (A.length : Int) M1 := by
  intro B
  induction B with
  | nil =>
   intro A s M1 k he hl hH hk
   obtain ⟨k, rfl⟩ : ∃ j, k = j + 1 := ⟨k - 1, by omega⟩
   rw [List.append_nil] at he
   refine Eq.mpr (H.L1 ..) ?_
   unfold dC.L1.T aJ
   rw [eO, if_neg (by rw [hn, he]; omega)]
   refine hR M1 s hl ?_
   rw [← he] at hH
   exact h.beside hH
  | cons x B ih =>
   intro A s M1 k he hl hH hk
   obtain ⟨k, rfl⟩ : ∃ j, k = j + 1 := ⟨k - 1, by omega⟩
   have ll := congrArg List.length he
   simp only [List.length_append, List.length_cons] at ll hk
   have hx : P.l[A.length]? = some x := by rw [he]; simp
   have hO1 : tU w0 F M1 p P sL sF Q := aA.le hO hl
   obtain ⟨blk, ha, hn', hi, hrd⟩ := hO1.el hx
   refine Eq.mpr (H.L1 ..) ?_
   unfold dC.L1.T aJ
   rw [eO, if_pos (by omega), ha, aX, Int.toNat_natCast, add_eq, Nat.zero_add, c9 (cs := xR x) W.aLc (fun j u hj => by rw [add_eq]; exact hrd j u hj)]
   unfold xR mV
   simp only [aC, a9, aU, aL, bU, aT]
   refine ⟨⟨by omega, by omega⟩, ?_⟩
   intro b23 hb23 hw23
   have hN : aA w0 M _ (star (aY b23 _ 259) _) := hH.new hb23 hw23 [.int .i64 0, .bool false, .int .i64 0, .int .i64 0, .int .i64 0] 259
   refine gZ (vs := xR x) W.aLc hN.bA (by exact Nat.le_refl _) (aCr x) ?_
   have hN2 := hN.kZ (cs' := eH [.int .i64 0, .bool false, .int .i64 0, .int .i64 0, .int .i64 0] 0 (xR x)) (e' := 259)
   have e0 : eH [.int .i64 0, .bool false, .int .i64 0, .int .i64 0, .int .i64 0] 0 (xR x) = xR x := by
    have := eM [] [.int .i64 0, .bool false, .int .i64 0, .int .i64 0, .int .i64 0] [] (xR x) rfl (o := 0) rfl
    simpa using this
   rw [e0] at hN2 ⊢
   generalize Mem.set _ b23 _ = M2 at hN2 ⊢
   have o2 := hN2.bA
   have f0 : rd w0 M2 ⟨b23, 0, none⟩ = some (.int .i64 x.g) := aM (o := 0) o2
   have f1 : rd w0 M2 ⟨b23, 1, none⟩ = some (.bool x.t) := aM (o := 1) o2
   simp only [aP W.c4, aP W.c3, add_eq, Nat.zero_add, f0, f1, aC, bU, aL, aGV, a9, aU, aT]
   have hlr := pE A 0
   cases ht : x.t with
   | true =>
    rw [dU]
    refine aE3 hN2.right _ _ fun M3 s3 l3 h3 => ?_
    rw [aR]
    have h3' : aA w0 M M3 (star (Es s (jC 0 A)) (Es s3 [((A.length : Int), x.g)])) := h3.comm
    refine aE0 h3' h3.xS (by simp; omega) fun M4 s4 h4 => ?_
    rw [aR, cR (by omega)]
    have := ih (A ++ [x]) s4 M4 k (by rw [he]; simp) h4.fr ?_ (by omega)
    ·rw [List.length_append, List.length_singleton] at this; exact this
    ·have e9 : jC 0 (A ++ [x]) = jC 0 A ++ [((A.length : Int), x.g)] := by
      rw [tH]; simp [jC, ht]
     rw [e9]
     exact h4.left
   | false =>
    rw [mT, cR (by omega)]
    have := ih (A ++ [x]) s M2 k (by rw [he]; simp) hN2.fr ?_ (by omega)
    ·rw [List.length_append, List.length_singleton] at this; exact this
    ·have e9 : jC 0 (A ++ [x]) = jC 0 A := by
      rw [tH]; simp [jC, ht]
     rw [e9]
     exact hN2.right
 refine ⟨P.l.length + 1, key P.l [] ⟨none, 0, 0⟩ M _ rfl (Mem.le_refl _) ?_ (by omega)⟩
 exact ⟨[], .inl ⟨rfl, rfl, rfl⟩, Fit.nil (Mem.le_refl _)⟩
theorem aFo {p : Nat} {P : PS V5} (h : aA w0 F M (star (oY p P) Q)) (hb : P.l.length ≤ 100000)
  (hR : ∀ M' s', Mem.le M M' → aA w0 F M' (star (Es s' P.refs) (star (oY p P) Q)) → R s'.v M') :
  C PP w0 Id.dE #[.pointer (some ⟨p, 0, none⟩)] R M := by
 apply dE.go
 intro aB H
 unfold dE.T aJ
 obtain ⟨sL, sF, hO⟩ := oY.open_ h
 have hn := hO.nL
 simp only [aX, aP W.aD0, add_eq, Nat.zero_add, hO.r1, aC, aR]
 have key : ∀ (B A : List (rO V5)) (s : SV) (M1 : Mem) (k : Nat), P.l = A ++ B → Mem.le M M1 → aA w0 M M1 (Es s (jC 0 A)) → B.length < k → dE.L1 aB k s sL ((sL.n : Nat) : Int) (A.length : Int) M1 := by
  intro B
  induction B with
  | nil =>
   intro A s M1 k he hl hH hk
   obtain ⟨k, rfl⟩ : ∃ j, k = j + 1 := ⟨k - 1, by omega⟩
   rw [List.append_nil] at he
   refine Eq.mpr (H.L1 ..) ?_
   unfold dE.L1.T aJ
   rw [eO, if_neg (by rw [hn, he]; omega)]
   refine hR M1 s hl ?_
   rw [← he] at hH
   exact h.beside hH
  | cons x B ih =>
   intro A s M1 k he hl hH hk
   obtain ⟨k, rfl⟩ : ∃ j, k = j + 1 := ⟨k - 1, by omega⟩
   have ll := congrArg List.length he
   simp only [List.length_append, List.length_cons] at ll hk
   have hx : P.l[A.length]? = some x := by rw [he]; simp
   have hO1 : uG w0 F M1 p P sL sF Q := aA.le hO hl
   obtain ⟨blk, ha, hn', hi, hrd⟩ := hO1.el hx
   refine Eq.mpr (H.L1 ..) ?_
   unfold dE.L1.T aJ
   rw [eO, if_pos (by omega), ha, aX, Int.toNat_natCast, add_eq, Nat.zero_add, c9 (cs := pc5 x) W.aLn (fun j u hj => by rw [add_eq]; exact hrd j u hj)]
   unfold pc5 jY
   simp only [aC, a9, aU, aL, bU, aT]
   refine ⟨⟨by omega, by omega⟩, ?_⟩
   intro b23 hb23 hw23
   have hN : aA w0 M _ (star (aY b23 _ 241) _) := hH.new hb23 hw23 [.int .i64 0, .bool false, .int .i64 0, .int .i64 0, .int .i64 0, .int .i64 0, .int .i64 0] 241
   refine gZ (vs := pc5 x) W.aLn hN.bA (by exact Nat.le_refl _) (aEG x) ?_
   have hN2 := hN.kZ (cs' := eH [.int .i64 0, .bool false, .int .i64 0, .int .i64 0, .int .i64 0, .int .i64 0, .int .i64 0] 0 (pc5 x)) (e' := 241)
   have e0 : eH [.int .i64 0, .bool false, .int .i64 0, .int .i64 0, .int .i64 0, .int .i64 0, .int .i64 0] 0 (pc5 x) = pc5 x := by
    have := eM [] [.int .i64 0, .bool false, .int .i64 0, .int .i64 0, .int .i64 0, .int .i64 0, .int .i64 0] [] (pc5 x) rfl (o := 0) rfl
    simpa using this
   rw [e0] at hN2 ⊢
   generalize Mem.set _ b23 _ = M2 at hN2 ⊢
   have o2 := hN2.bA
   have f0 : rd w0 M2 ⟨b23, 0, none⟩ = some (.int .i64 x.g) := aM (o := 0) o2
   have f1 : rd w0 M2 ⟨b23, 1, none⟩ = some (.bool x.t) := aM (o := 1) o2
   simp only [aP W.c4, aP W.c3, add_eq, Nat.zero_add, f0, f1, aC, bU, aL, aGV, a9, aU, aT]
   have hlr := pE A 0
   cases ht : x.t with
   | true =>
    rw [dU]
    refine aE3 hN2.right _ _ fun M3 s3 l3 h3 => ?_
    rw [aR]
    have h3' : aA w0 M M3 (star (Es s (jC 0 A)) (Es s3 [((A.length : Int), x.g)])) := h3.comm
    refine aE0 h3' h3.xS (by simp; omega) fun M4 s4 h4 => ?_
    rw [aR, cR (by omega)]
    have := ih (A ++ [x]) s4 M4 k (by rw [he]; simp) h4.fr ?_ (by omega)
    ·rw [List.length_append, List.length_singleton] at this; exact this
    ·have e9 : jC 0 (A ++ [x]) = jC 0 A ++ [((A.length : Int), x.g)] := by
      rw [tH]; simp [jC, ht]
     rw [e9]
     exact h4.left
   | false =>
    rw [mT, cR (by omega)]
    have := ih (A ++ [x]) s M2 k (by rw [he]; simp) hN2.fr ?_ (by omega)
    ·rw [List.length_append, List.length_singleton] at this; exact this
    ·have e9 : jC 0 (A ++ [x]) = jC 0 A := by
      rw [tH]; simp [jC, ht]
     rw [e9]
     exact hN2.right
 refine ⟨P.l.length + 1, key P.l [] ⟨none, 0, 0⟩ M _ rfl (Mem.le_refl _) ?_ (by omega)⟩
 exact ⟨[], .inl ⟨rfl, rfl, rfl⟩, Fit.nil (Mem.le_refl _)⟩
end
end HL
namespace HL
section
variable {P : Program} {w0 : World} {M F : Mem} {κ ν : Type} [DecidableEq κ]
abbrev Mes (κ ν : Type) := List ((κ × ν) × Nat)
def p8 (kf : κ → Value) (vf : ν → Value) (x : (κ × ν) × Nat) : MapEntry := ⟨kf x.1.1, vf x.1.2, x.2⟩
def fIx (vf : ν → Value) (k : κ) : Mes κ ν → Nat → Option (Nat × Value)
 | [], _ => none
 | x :: l, i => if k = x.1.1 then some (i, vf x.1.2) else fIx vf k l (i + 1)
def getM (k : κ) (l : Mes κ ν) : Option ν := (l.find? fun x => decide (k = x.1.1)).map (·.1.2)
theorem yO {vf : ν → Value} {k : κ} : ∀ {l : Mes κ ν} {i : Nat}, fIx vf k l i = none → ∀ x ∈ l, k ≠ x.1.1
 | [], _, _, x, hx => by cases hx
 | y :: l, i, h, x, hx => by
  unfold fIx at h
  split at h
  ·cases h
  ·rename_i hn
   rcases List.mem_cons.1 hx with rfl | hx
   ·exact hn
   ·exact yO h x hx
theorem x6 {vf : ν → Value} {k : κ} : ∀ {l : Mes κ ν} {i : Nat} {r : Nat × Value}, fIx vf k l i = some r → ∃ A x B, l = A ++ x :: B ∧ r = (i + A.length, vf x.1.2) ∧ k = x.1.1 ∧ ∀ y ∈ A, k ≠ y.1.1
 | [], _, _, h => by cases h
 | y :: l, i, r, h => by
  unfold fIx at h
  split at h
  ·rename_i hn
   cases h
   exact ⟨[], y, l, rfl, rfl, hn, fun y hy => by cases hy⟩
  ·rename_i hn
   obtain ⟨A, x, B, rfl, rfl, h3, h4⟩ := x6 h
   refine ⟨y :: A, x, B, rfl, by rw [List.length_cons]; congr 1; omega, h3, fun z hz => ?_⟩
   rcases List.mem_cons.1 hz with rfl | hz
   ·exact hn
   ·exact h4 z hz
theorem getM_none {k : κ} {l : Mes κ ν} (h : ∀ x ∈ l, k ≠ x.1.1) : getM k l = none := by
 unfold getM
 rw [List.find?_eq_none.2 fun x hx => by simpa using h x hx]; rfl
theorem aAj {k : κ} {A B : Mes κ ν} {x : (κ × ν) × Nat} (h : ∀ y ∈ A, k ≠ y.1.1) (hk : k = x.1.1) : getM k (A ++ x :: B) = some x.1.2 := by
 unfold getM
 rw [List.find?_append, List.find?_eq_none.2 fun y hy => by simpa using h y hy, List.find?_cons]
 simp [hk]
theorem uL {k : κ} {A B : Mes κ ν} {x : (κ × ν) × Nat} (hk : k ≠ x.1.1) : getM k (A ++ x :: B) = getM k (A ++ B) := by
 unfold getM
 rw [List.find?_append, List.find?_append, List.find?_cons]
 simp [hk]
structure aAR (P : Program) (t : TypeId) (kf : κ → Value) : Prop where
 find : ∀ {ν : Type} (w0 : World) (M : Mem) (vf : ν → Value) (l : Mes κ ν) (k : κ), eU P w0 M (Instr.findKey t (kf k) (l.map (p8 kf vf))) = some (fIx vf k l 0)
 chk : ∀ b k, dQ P (Instr.checkKey b 10000 t (kf k)) = some ()
 bits : ∀ k, Instr.sameBits 10000 (kf k) (kf k) = true
theorem aGw {t : TypeId} (ht : P.underlying t = some (.int .i64)) (hc : ∀ b (k : Int), dQ P (Instr.checkKey b 10000 t (.int .i64 k)) = some ()) : aAR P t (Value.int .i64) := by
 refine ⟨fun w0 M vf l k => ?_, hc, fun k => by simp [Instr.sameBits]⟩
 have key : ∀ (l : Mes Int _) (i : Nat), Instr.findNow (.int .i64) (.int .i64 k) (l.map (p8 (Value.int .i64) vf)) i = some (fIx vf k l i) := by
  intro l
  induction l with
  | nil => intro i; rfl
  | cons x l ih =>
   intro i
   simp only [List.map_cons, p8, Instr.findNow, Instr.sameNow, if_true, fIx]
   by_cases he : k = x.1.1
   ·rw [if_pos he, beq_iff_eq.2 he]
   ·rw [if_neg he, beq_eq_false_iff_ne.2 he]
    exact ih (i + 1)
 unfold Instr.findKey
 rw [eP (eD ht), key l 0]
 rfl
theorem aDt {t : TypeId} {fs : Array Field} {kf : κ → Value} (ht : P.underlying t = some (.struct fs)) (hk : ∀ k, ∃ cs, kf k = .agg cs) (he : ∀ k k', dQ P (Op.equal t (kf k) (kf k')) = some (decide (k = k')))
  (hc : ∀ b k, dQ P (Instr.checkKey b 10000 t (kf k)) = some ()) (hb : ∀ k, Instr.sameBits 10000 (kf k) (kf k) = true) : aAR P t kf := by
 refine ⟨fun w0 M vf l k => ?_, hc, hb⟩
 have ask : ∀ (l : Mes κ _) (i : Nat), eU P w0 M (Instr.findAsking t (kf k) (l.map (p8 kf vf)) i) = some (fIx vf k l i) := by
  intro l
  induction l with
  | nil => intro i; rfl
  | cons x l ih =>
   intro i
   simp only [List.map_cons, p8, Instr.findAsking, fIx]
   rw [eP (vV (he k x.1.1))]
   by_cases h : k = x.1.1
   ·rw [if_pos h, decide_eq_true h]; rfl
   ·rw [if_neg h, decide_eq_false h]; exact ih (i + 1)
 unfold Instr.findKey
 rw [eP (eD ht)]
 cases l with
 | nil => rfl
 | cons x l =>
  obtain ⟨cs, hcs⟩ := hk k
  have hn : Instr.findNow (.struct fs) (kf k) ((x :: l).map (p8 kf vf)) 0 = none := by
   rw [hcs]; rfl
  rw [hn]
  exact ask (x :: l) 0
def dF (kf : κ → Value) (vf : ν → Value) (m : κ → Option ν) (o : Obj) : Prop :=
 ∃ (l : Mes κ ν) (ck : Nat), o = .map (l.map (p8 kf vf)).toArray ck ∧ (l.map (·.1.1)).Nodup ∧ ∀ k, m k = getM k l
def fT (m : κ → Option ν) (k : κ) (v : Option ν) : κ → Option ν := fun x => if x = k then v else m x
theorem aIZ {t : TypeId} {kf : κ → Value} {vf : ν → Value} {K : VP} (h : ∀ r o, M r = none → w0.heap.size ≤ r → dF kf vf (fun _ => none) o → K (.map (some r)) (M.set r (.obj o))) : (aH P w0).mkm t none K M := by
 show act P w0 (Instr.makeMap t none) K M
 exact ⟨rfl, fun b hb hw => h b _ hb hw ⟨[], 0, rfl, List.nodup_nil, fun k => rfl⟩⟩
section
variable {tm key elem : TypeId} {kf : κ → Value} {vf : ν → Value} {m : κ → Option ν} {o : Obj} {r : Nat} {k : κ}
theorem lkF {z : Value} {i : TypeInfo} (ht : P.underlying tm = some (.map key elem)) (hk : aAR P key kf) (hi : P.info? elem = some i) (hz : i.zero = some z) (hr : w0.heap.size ≤ r) (hm : M r = some (.obj o)) (ho : dF kf vf m o) :
  (aH P w0).lk tm (.map (some r)) (kf k) false M = some (((m k).map vf).getD z) ∧ (aH P w0).lk tm (.map (some r)) (kf k) true M = some (.tuple #[((m k).map vf).getD z, .bool (m k).isSome]) := by
 obtain ⟨l, ck, rfl, hn, hmk⟩ := ho
 have key : ∀ c : Bool, (aH P w0).lk tm (.map (some r)) (kf k) c M = some (if c then .tuple #[((m k).map vf).getD z, .bool (m k).isSome] else ((m k).map vf).getD z) := by
  intro c
  show eU P w0 M (Instr.lookup tm (.map (some r)) (kf k) c) = _
  unfold Instr.lookup
  rw [eP (eD ht)]
  simp only
  rw [eP (aAT hr hm rfl), eP (s := pure _) (a := (l.map (p8 kf vf)).toArray) rfl, eP (vV (hk.chk _ k)), eP (by simpa using hk.find w0 M vf l k)]
  rw [hmk k]
  cases hf : fIx vf k l 0 with
  | none =>
   rw [getM_none (yO hf)]
   simp only
   rw [eP (qK hi hz), eP (s := pure _) (a := (z, false)) rfl]; rfl
  | some p =>
   obtain ⟨A, x, B, rfl, rfl, h3, h4⟩ := x6 hf
   rw [aAj h4 h3]
   simp only
   rw [eP (s := pure _) (a := (vf x.1.2, true)) rfl]; rfl
 exact ⟨key false, key true⟩
theorem aIW {A B : List MapEntry} {x : MapEntry} (f : MapEntry → MapEntry) : (A ++ x :: B).toArray.modify A.length f = (A ++ f x :: B).toArray := by
 rw [List.modify_toArray]
 congr 1
 induction A with
 | nil => rfl
 | cons y A ih => simp [List.modify_succ_cons, ih]
theorem aFO {A B : List MapEntry} {x : MapEntry} : (A ++ x :: B).toArray.eraseIdxIfInBounds A.length = (A ++ B).toArray := by
 unfold Array.eraseIdxIfInBounds
 rw [dif_pos (by simp)]
 simp [List.eraseIdx_append_of_length_le]
theorem aF2 {v : ν} (ht : P.underlying tm = some (.map key elem)) (hk : aAR P key kf) (hr : w0.heap.size ≤ r) (hm : M r = some (.obj o)) (ho : dF kf vf m o) {K : Mem → Prop}
  (hK : ∀ o', dF kf vf (fT m k (some v)) o' → K (M.set r (.obj o'))) : (aH P w0).mup tm (.map (some r)) (kf k) (vf v) K M := by
 obtain ⟨l, ck, rfl, hn, hmk⟩ := ho
 show act P w0 (Instr.mapUpdate tm (.map (some r)) (kf k) (vf v)) _ M
 unfold Instr.mapUpdate
 rw [bW (eD ht)]
 simp only
 rw [bW (aAT hr hm rfl)]
 simp only
 rw [bW (vV (hk.chk _ k)), bW (by simpa using hk.find w0 M vf l k)]
 cases hf : fIx vf k l 0 with
 | none =>
  have hno := yO hf
  simp only
  have h1 := hK (.map ((l ++ [((k, v), ck)]).map (p8 kf vf)).toArray (ck + 1)) ⟨_, _, rfl, ?_, fun x => ?_⟩
  ·have e : ((l.map (p8 kf vf)).toArray.push ⟨kf k, vf v, ck⟩) = ((l ++ [((k, v), ck)]).map (p8 kf vf)).toArray := by
    rw [List.push_toArray, List.map_append]; rfl
   rw [e]
   show (match M r with
    | some (.obj o') => Obj.plain o' = true ∧ _
    | _ => False)
   rw [hm]
   exact ⟨rfl, h1⟩
  ·rw [List.map_append, List.nodup_append]
   refine ⟨hn, by simp, fun a ha b hb e => ?_⟩
   obtain ⟨y, hy, rfl⟩ := List.mem_map.1 ha
   simp only [List.map_cons, List.map_nil, List.mem_singleton] at hb
   rw [hb] at e
   exact hno y hy e.symm
  ·unfold fT
   by_cases hx : x = k
   ·subst hx
    rw [if_pos rfl, aAj hno rfl]
   ·rw [if_neg hx, uL (k := x) (by exact hx), List.append_nil]; exact hmk x
 | some p =>
  obtain ⟨A, x, B, rfl, rfl, h3, h4⟩ := x6 hf
  simp only [Nat.zero_add]
  have hget : (((((A ++ x :: B).map (p8 kf vf)).toArray)[A.length]?).map (·.key)).getD (kf k) = kf k := by
   rw [List.getElem?_toArray, List.getElem?_map, List.getElem?_append_right (Nat.le_refl _), Nat.sub_self]
   show kf x.1.1 = kf k
   rw [h3]
  rw [hget]
  have hks : eU P w0 M (Instr.keyThatStays (kf k) (kf k)) = some (kf k) := by
   unfold Instr.keyThatStays
   rw [if_pos (hk.bits k)]; rfl
  rw [bW hks]
  have e : ((A ++ x :: B).map (p8 kf vf)).toArray.modify A.length (fun e => { e with key := kf k, val := vf v }) = ((A ++ ((k, v), x.2) :: B).map (p8 kf vf)).toArray := by
   rw [List.map_append, List.map_cons]
   have := aIW (A := A.map (p8 kf vf)) (x := p8 kf vf x) (B := B.map (p8 kf vf)) (fun e => { e with key := kf k, val := vf v })
   rw [List.length_map] at this
   rw [this, List.map_append, List.map_cons]; rfl
  rw [e]
  have h1 := hK (.map ((A ++ ((k, v), x.2) :: B).map (p8 kf vf)).toArray ck) ⟨_, _, rfl, ?_, fun y => ?_⟩
  ·show (match M r with
    | some (.obj o') => Obj.plain o' = true ∧ _
    | _ => False)
   rw [hm]
   exact ⟨rfl, h1⟩
  ·rw [List.map_append, List.map_cons] at hn ⊢
   rw [h3]; exact hn
  ·unfold fT
   by_cases hy : y = k
   ·subst hy
    rw [if_pos rfl, aAj h4 rfl]
   ·rw [if_neg hy, uL (k := y) (by exact hy), hmk y, uL (k := y) (by rw [← h3]; exact hy)]
theorem aHW {tys : Array TypeId} {ty : TypeId} (htys : tys[0]? = some tm) (ht : P.underlying tm = some (.map key elem)) (hk : aAR P key kf) (hr : w0.heap.size ≤ r) (hm : M r = some (.obj o)) (ho : dF kf vf m o) {K : VP}
  (hK : ∀ o', dF kf vf (fT m k none) o' → K (.tuple #[]) (M.set r (.obj o'))) : (aH P w0).del tys ty [.map (some r), kf k] K M := by
 obtain ⟨l, ck, rfl, hn, hmk⟩ := ho
 show act P w0 (Builtin.delete_ tys ty #[.map (some r), kf k]) _ M
 unfold Builtin.delete_
 simp only [htys, List.getElem?_toArray, List.getElem?_cons_zero, List.getElem?_cons_succ]
 rw [bW (eD ht)]
 simp only [bind_assoc]
 rw [bW (aAT hr hm rfl)]
 simp only [bind_assoc]
 rw [bW (vV (hk.chk _ k)), bW (by simpa using hk.find w0 M vf l k)]
 cases hf : fIx vf k l 0 with
 | none =>
  have hno := yO hf
  simp only
  have h1 := hK (.map (l.map (p8 kf vf)).toArray ck) ⟨l, ck, rfl, hn, fun x => ?_⟩
  ·show (match M r with
    | some (.obj o') => Obj.plain o' = true ∧ _
    | _ => False)
   rw [hm]
   exact ⟨rfl, h1⟩
  ·unfold fT
   split
   ·rename_i hx; subst hx; rw [getM_none hno]
   ·exact hmk x
 | some p =>
  obtain ⟨A, x, B, rfl, rfl, h3, h4⟩ := x6 hf
  simp only [Nat.zero_add]
  have e : ((A ++ x :: B).map (p8 kf vf)).toArray.eraseIdxIfInBounds A.length = ((A ++ B).map (p8 kf vf)).toArray := by
   rw [List.map_append, List.map_cons]
   have := aFO (A := A.map (p8 kf vf)) (x := p8 kf vf x) (B := B.map (p8 kf vf))
   rw [List.length_map] at this
   rw [this, List.map_append]
  rw [e]
  rw [List.map_append, List.map_cons] at hn
  obtain ⟨n1, n2, n3⟩ := List.nodup_append.1 hn
  obtain ⟨n4, n5⟩ := List.nodup_cons.1 n2
  have h1 := hK (.map ((A ++ B).map (p8 kf vf)).toArray ck) ⟨_, _, rfl, ?_, fun y => ?_⟩
  ·show (match M r with
    | some (.obj o') => Obj.plain o' = true ∧ _
    | _ => False)
   rw [hm]
   exact ⟨rfl, h1⟩
  ·rw [List.map_append, List.nodup_append]
   exact ⟨n1, n5, fun a ha b hb => n3 a ha b (List.mem_cons_of_mem _ hb)⟩
  ·unfold fT
   by_cases hy : y = k
   ·subst hy
    rw [if_pos rfl, getM_none]
    intro z hz e0
    rcases List.mem_append.1 hz with hz | hz
    ·exact h4 z hz e0
    ·exact n4 (List.mem_map.2 ⟨z, hz, by rw [← e0, h3]⟩)
   ·rw [if_neg hy, hmk y, uL (k := y) (by rw [← h3]; exact hy)]
end
abbrev uX := List (Nat × Obj)
structure HO (w0 : World) (F M : Mem) (os : uX) (A : cY) : Prop where
 nd : (os.map (·.1)).Nodup
 at_ : ∀ x ∈ os, w0.heap.size ≤ x.1 ∧ F x.1 = none ∧ M x.1 = some (.obj x.2)
 h : aA w0 F M A
theorem HO.aside : ∀ {os : uX} {F M : Mem} {A : cY}, HO w0 F M os A → ∃ F', aA w0 F' M A ∧ Mem.le F F' ∧ ∀ M' A', aA w0 F' M' A' → HO w0 F M' os A'
 | [], F, M, A, h => ⟨F, h.h, Mem.le_refl _, fun M' A' h' => ⟨List.nodup_nil, fun x hx => (by cases hx), h'⟩⟩
 | x :: os, F, M, A, h => by
  have hx := h.at_ x List.mem_cons_self
  obtain ⟨n1, n2⟩ := List.nodup_cons.1 h.nd
  obtain ⟨h1, h2⟩ := h.h.aKN hx.2.2 hx.2.1
  have h3 : HO w0 (F.set x.1 (.obj x.2)) M os A := by
   refine ⟨n2, fun y hy => ?_, h1⟩
   obtain ⟨g1, g2, g3⟩ := h.at_ y (List.mem_cons_of_mem _ hy)
   refine ⟨g1, ?_, g3⟩
   rw [Mem.mX _ _ (show y.1 ≠ x.1 from fun e => n1 (List.mem_map.2 ⟨y, hy, e⟩))]
   exact g2
  obtain ⟨F', k1, k2, k3⟩ := HO.aside h3
  refine ⟨F', k1, Mem.le_trans h2 k2, fun M' A' h' => ?_⟩
  have k4 := k3 M' A' h'
  have k5 : M' x.1 = some (.obj x.2) := k4.h.fr _ _ (Mem.lT _ _ _)
  have hle : Mem.le F M' := Mem.le_trans h2 k4.h.fr
  refine ⟨h.nd, fun y hy => ?_, ?_⟩
  ·rcases List.mem_cons.1 hy with rfl | hy
   ·exact ⟨hx.1, hx.2.1, k5⟩
   ·exact ⟨(k4.at_ y hy).1, (h.at_ y (List.mem_cons_of_mem _ hy)).2.1, (k4.at_ y hy).2.2⟩
  ·obtain ⟨q, q1, q2⟩ := k4.h
   refine ⟨q, q1, q2.nd, fun z hz => ?_, hle⟩
   obtain ⟨g1, g2, g3⟩ := q2.at_ z hz
   refine ⟨g1, ?_, g3⟩
   cases hF : F z.1 with
   | none => rfl
   | some o' => have h9 := h2 _ _ hF; rw [h9] at g2; cases g2
theorem HO.perm {os os' : uX} {A : cY} (h : HO w0 F M os A) (hp : os.Perm os') : HO w0 F M os' A :=
 ⟨(hp.map _).nodup_iff.1 h.nd, fun x hx => h.at_ x (hp.mem_iff.2 hx), h.h⟩
theorem HO.set {r : Nat} {o o' : Obj} {os : uX} {A : cY} (h : HO w0 F M ((r, o) :: os) A) : HO w0 F (M.set r (.obj o')) ((r, o') :: os) A := by
 obtain ⟨g1, g2, g3⟩ := h.at_ (r, o) List.mem_cons_self
 obtain ⟨n1, n2⟩ := List.nodup_cons.1 h.nd
 refine ⟨h.nd, fun x hx => ?_, h.h.aI7 g3 g2⟩
 rcases List.mem_cons.1 hx with rfl | hx
 ·exact ⟨g1, g2, Mem.lT _ _ _⟩
 ·obtain ⟨k1, k2, k3⟩ := h.at_ x (List.mem_cons_of_mem _ hx)
  refine ⟨k1, k2, ?_⟩
  rw [Mem.mX _ _ (show x.1 ≠ r from fun e => n1 (List.mem_map.2 ⟨x, hx, e⟩))]
  exact k3
theorem HO.new {r : Nat} {o : Obj} {os : uX} {A : cY} (h : HO w0 F M os A) (hw : w0.heap.size ≤ r) (hm : M r = none) : HO w0 F (M.set r (.obj o)) ((r, o) :: os) A := by
 refine ⟨List.nodup_cons.2 ⟨fun hm' => ?_, h.nd⟩, fun x hx => ?_, h.h.aIP hm⟩
 ·obtain ⟨y, hy, e⟩ := List.mem_map.1 hm'
  have := (h.at_ y hy).2.2
  rw [show y.1 = r from e, hm] at this; cases this
 ·rcases List.mem_cons.1 hx with rfl | hx
  ·exact ⟨hw, le_none h.h.fr hm, Mem.lT _ _ _⟩
  ·obtain ⟨k1, k2, k3⟩ := h.at_ x hx
   refine ⟨k1, k2, ?_⟩
   rw [Mem.mX _ _ (fun e => by rw [e, hm] at k3; cases k3)]
   exact k3
theorem HO.of {A : cY} (h : aA w0 F M A) : HO w0 F M [] A := ⟨List.nodup_nil, fun x hx => (by cases hx), h⟩
abbrev dG := Int × Int
def bX (r : dG) : Value := .agg #[.int .i64 r.1, .int .i64 r.2]
end
theorem aEN (k k' : dG) : dQ PP (Op.equal 33 (bX k) (bX k')) = some (decide (k = k')) := by
 have := qC (P := PP) (d := 9999) (es := [k.1 == k'.1, k.2 == k'.2]) (xs := #[.int .i64 k.1, .int .i64 k.2]) (ys := #[.int .i64 k'.1, .int .i64 k'.2]) Tryz.underlying33 (by kernel_rfl)
  ⟨by decide, ⟨.int .i64 k.1, .int .i64 k'.1, by kernel_rfl, by kernel_rfl, lI Tryz.underlying3 k.1 k'.1⟩, by decide, ⟨.int .i64 k.2, .int .i64 k'.2, by kernel_rfl, by kernel_rfl, lI Tryz.underlying3 k.2 k'.2⟩, trivial⟩
 have e : ([k.1 == k'.1, k.2 == k'.2] : List Bool).all id = decide (k = k') := by
  rw [Bool.eq_iff_iff]
  simp only [List.all_cons, List.all_nil, id, Bool.and_true, Bool.and_eq_true, beq_iff_eq, decide_eq_true_eq]
  exact ⟨fun h => Prod.ext h.1 h.2, fun h => by rw [h]; exact ⟨rfl, rfl⟩⟩
 rw [← e]; exact this
theorem oR : aAR PP 33 bX := by
 refine aDt Tryz.underlying33 (fun k => ⟨_, rfl⟩) aEN (fun b k => ?_) fun k => ?_
 ·obtain ⟨a, g⟩ := k
  show dQ PP (Instr.checkKey b 10000 33 (.agg #[.int .i64 a, .int .i64 g])) = _
  kernel_rfl
 ·show Instr.sameBits (9998 + 1 + 1) (.agg #[.int .i64 k.1, .int .i64 k.2]) (.agg #[.int .i64 k.1, .int .i64 k.2]) = true
  simp [Instr.sameBits]
theorem aGX (b : Bool) (k : Int) : dQ PP (Instr.checkKey b 10000 3 (.int .i64 k)) = some () := by kernel_rfl
theorem aAd : aAR PP 3 (Value.int .i64) := aGw Tryz.underlying3 aGX
end HL
namespace HL
section
variable {w0 : World} {F M M' : Mem} {os : uX} {A B D E G : cY}
theorem HO.le (h : HO w0 F M os A) (hl : Mem.le M M') : HO w0 F M' os A :=
 ⟨h.nd, fun x hx => ⟨(h.at_ x hx).1, (h.at_ x hx).2.1, hl _ _ (h.at_ x hx).2.2⟩, h.h.le hl⟩
theorem HO.fr (h : HO w0 F M os A) : Mem.le F M := h.h.fr
theorem HO.fJ {F' : Mem} (h : HO w0 F' M os A) (hl : Mem.le F F') : HO w0 F M os A := by
 refine ⟨h.nd, fun x hx => ⟨(h.at_ x hx).1, ?_, (h.at_ x hx).2.2⟩, h.h.fJ hl⟩
 cases hf : F x.1 with
 | none => rfl
 | some o => have := hl _ _ hf; rw [(h.at_ x hx).2.1] at this; cases this
theorem HO.aW (h : HO w0 F M os A) (hi : aA w0 F M A → aA w0 F M B) : HO w0 F M os B := ⟨h.nd, h.at_, hi h.h⟩
theorem HO.get (h : HO w0 F M os A) {r : Nat} {o : Obj} (hm : (r, o) ∈ os) : w0.heap.size ≤ r ∧ M r = some (.obj o) := ⟨(h.at_ _ hm).1, (h.at_ _ hm).2.2⟩
theorem HO.newRow (h : HO w0 F M os A) {b : Nat} (hb : M b = none) (hw : w0.heap.size ≤ b) (cs : List Value) (e : TypeId) : HO w0 F (M.set b (.row cs e)) os (star (aY b cs e) A) := by
 refine ⟨h.nd, fun x hx => ?_, h.h.new hb hw cs e⟩
 obtain ⟨g1, g2, g3⟩ := h.at_ x hx
 refine ⟨g1, g2, ?_⟩
 rw [Mem.mX _ _ (fun e => by rw [e, hb] at g3; cases g3)]
 exact g3
theorem HO.aBZ {b : Nat} {cs cs' : List Value} {e e' : TypeId} (h : HO w0 F M os (star (aY b cs e) A)) : HO w0 F (M.set b (.row cs' e')) os (star (aY b cs' e') A) := by
 have ho := h.h.bA
 refine ⟨h.nd, fun x hx => ?_, h.h.kZ⟩
 obtain ⟨g1, g2, g3⟩ := h.at_ x hx
 refine ⟨g1, g2, ?_⟩
 rw [Mem.mX _ _ (fun e => by rw [e, ho.2] at g3; cases g3)]
 exact g3
theorem HO.fQ {b : Nat} {cs : List Value} {e : TypeId} (h : HO w0 F M os (star (aY b cs e) A)) : ∃ F', Mem.le F F' ∧ cM w0 F' b cs e ∧ HO w0 F' M os A := by
 have ho := h.h.bA
 have hF : F b = none := by
  obtain ⟨r, ⟨r1, r2, rfl, h1, h2⟩, h3⟩ := h.h
  rw [h1] at h3
  exact (h3.at_ (b, cs, e) List.mem_cons_self).2.1
 have eE : ∀ x ∈ os, x.1 ≠ b := fun x hx e => by
  have := (h.at_ x hx).2.2
  rw [e, ho.2] at this; cases this
 refine ⟨F.set b (.row cs e), Mem.fN _ hF, ⟨ho.1, Mem.lT _ _ _⟩, h.nd, fun x hx => ?_, ?_⟩
 ·obtain ⟨g1, g2, g3⟩ := h.at_ x hx
  exact ⟨g1, by rw [Mem.mX _ _ (eE x hx)]; exact g2, g3⟩
 ·obtain ⟨r, ⟨r1, r2, rfl, h1, h2⟩, h3⟩ := h.h
  rw [h1] at h3
  have fO := h3.nd
  simp only [List.cons_append, List.nil_append, List.map_cons, List.nodup_cons] at fO
  refine ⟨r2, h2, fO.2, fun x hx => ?_, fun y o hy => ?_⟩
  ·obtain ⟨g1, g2, g3⟩ := h3.at_ x (List.mem_cons_of_mem _ hx)
   refine ⟨g1, ?_, g3⟩
   rw [Mem.mX _ _ (show x.1 ≠ b from fun e => fO.1 (List.mem_map.2 ⟨x, hx, e⟩))]
   exact g2
  ·by_cases e1 : y = b
   ·subst e1
    rw [Mem.lT] at hy
    cases hy
    exact ho.2
   ·rw [Mem.mX _ _ e1] at hy
    exact h3.fr y o hy
theorem HO.xJ (h : HO w0 F M os A) : ∃ F', aA w0 F' M A ∧ Mem.le F F' ∧ ∀ M' A', aA w0 F' M' A' → HO w0 F M' os A' := h.aside
theorem HO.aAG (h : HO w0 F M os (star A B)) : ∃ F', aA w0 F' M B ∧ Mem.le F F' ∧ ∀ M' B', aA w0 F' M' B' → HO w0 F M' os (star A B') := by
 obtain ⟨F1, h1, l1, k1⟩ := h.aside
 obtain ⟨F2, h2, l2, k2⟩ := h1.last
 exact ⟨F2, h2, Mem.le_trans l1 l2, fun M' B' h' => k1 _ _ (k2 _ _ h')⟩
theorem HO.aKG (h : HO w0 F M os (star A (star B D))) : ∃ F', aA w0 F' M D ∧ Mem.le F F' ∧ ∀ M' D', aA w0 F' M' D' → HO w0 F M' os (star A (star B D')) := by
 obtain ⟨F1, h1, l1, k1⟩ := h.aAG
 obtain ⟨F2, h2, l2, k2⟩ := h1.last
 exact ⟨F2, h2, Mem.le_trans l1 l2, fun M' B' h' => k1 _ _ (k2 _ _ h')⟩
theorem HO.aJ5 (h : HO w0 F M os (star A (star B (star D E)))) : ∃ F', aA w0 F' M E ∧ Mem.le F F' ∧ ∀ M' E', aA w0 F' M' E' → HO w0 F M' os (star A (star B (star D E'))) := by
 obtain ⟨F1, h1, l1, k1⟩ := h.aKG
 obtain ⟨F2, h2, l2, k2⟩ := h1.last
 exact ⟨F2, h2, Mem.le_trans l1 l2, fun M' B' h' => k1 _ _ (k2 _ _ h')⟩
theorem jI (h : HO w0 F M os A) {zs : List Value} {T : TypeId} {K : Nat → Mem → Prop} (hK : ∀ b M', Mem.le M M' → HO w0 F M' os (star (aY b zs T) A) → K b M') : (aH PP w0).nw zs T K M := fun b hb hw =>
 hK b _ (Mem.fN _ hb) (h.newRow hb hw zs T)
theorem rQ (h : HO w0 F M os A) {zs : List Value} {T : TypeId} {K : Nat → Mem → Prop} (hK : ∀ b F' M', Mem.le F F' → Mem.le M M' → cM w0 F' b zs T → HO w0 F' M' os A → K b M') : (aH PP w0).nw zs T K M := fun b hb hw => by
 obtain ⟨F', l1, o1, h1⟩ := (h.newRow hb hw zs T).fQ
 exact hK b F' _ l1 (Mem.fN _ hb) o1 h1
theorem vY {b : Nat} {zs vs : List Value} {T : TypeId} (hg : gM PP T vs.length = true) (hz : zs.length = vs.length) (hone : ∀ v ∈ vs, bQ v = true) (h : HO w0 F M os (star (aY b zs T) A)) {K : Mem → Prop} (hK : ∀ F' M', Mem.le F F' → cM w0 F' b vs T → HO w0 F' M' os A → K M') :
  (aH PP w0).st T ⟨b, 0, none⟩ (.agg vs.toArray) (fun M2 => K M2) M := by
 refine gZ hg h.h.bA (by omega) hone ?_
 have h2 := h.aBZ (cs' := eH zs 0 vs) (e' := T)
 have e0 : eH zs 0 vs = vs := by
  have := eM [] zs [] vs hz.symm (o := 0) rfl
  simpa using this
 rw [e0] at h2 ⊢
 obtain ⟨F', l1, o1, h3⟩ := h2.fQ
 exact hK F' _ l1 o1 h3
theorem stW {b : Nat} {zs vs : List Value} {T : TypeId} (hg : gM PP T vs.length = true) (hz : zs.length = vs.length) (hone : ∀ v ∈ vs, bQ v = true) (h : HO w0 F M os (star (aY b zs T) A)) {K : Mem → Prop} (hK : ∀ M', HO w0 F M' os (star (aY b vs T) A) → K M') :
  (aH PP w0).st T ⟨b, 0, none⟩ (.agg vs.toArray) (fun M2 => K M2) M := by
 refine gZ hg h.h.bA (by omega) hone ?_
 have h2 := h.aBZ (cs' := eH zs 0 vs) (e' := T)
 have e0 : eH zs 0 vs = vs := by
  have := eM [] zs [] vs hz.symm (o := 0) rfl
  simpa using this
 rw [e0] at h2 ⊢
 exact hK _ h2
theorem aBi {b o : Nat} {zs : List Value} {T t : TypeId} {v : Value} (ht : gP PP t = true) (ho : o < zs.length) (hv : bQ v = true) (hc : v.cells = #[v]) (h : HO w0 F M os (star (aY b zs T) A)) {K : Mem → Prop} (hK : ∀ M', HO w0 F M' os (star (aY b (zs.set o v) T) A) → K M') :
  (aH PP w0).st t ⟨b, o, none⟩ v (fun M2 => K M2) M :=
 gF ht h.h.bA ho hv hc (hK _ h.aBZ)
theorem j9 {zs vs : List Value} {T : TypeId} (hg : gM PP T vs.length = true) (hz : zs.length = vs.length) (hone : ∀ v ∈ vs, bQ v = true) (h : HO w0 F M os A) {K : Nat → Mem → Prop} (hK : ∀ b F' M', Mem.le F F' → cM w0 F' b vs T → HO w0 F' M' os A → K b M') :
  (aH PP w0).nw zs T (fun b M1 => (aH PP w0).st T ⟨b, 0, none⟩ (.agg vs.toArray) (fun M2 => K b M2) M1) M :=
 jI h fun b M1 _ h1 => vY hg hz hone h1 fun F' M2 l2 o2 h2 => hK b F' M2 l2 o2 h2
theorem jJ {b : Nat} {zs vs : List Value} {T : TypeId} (hg : gM PP T vs.length = true) (hz : zs.length = vs.length) (hone : ∀ v ∈ vs, bQ v = true) (h : HO w0 F M os (star (aY b zs T) A)) {K : VP} (hK : ∀ M', HO w0 F M' os A → K (.agg vs.toArray) M') :
  (aH PP w0).st T ⟨b, 0, none⟩ (.agg vs.toArray) (fun M1 => ob ((aH PP w0).rdv T (.pointer (some ⟨b, 0, none⟩)) M1) fun v => K v M1) M := by
 refine stW hg hz hone h fun M1 h1 => ?_
 have o1 := h1.h.bA
 rw [qF, c9 (cs := vs) hg (fun j u hj => by rw [add_eq, aM o1, Nat.zero_add]; exact hj), aC]
 exact hK M1 ⟨h1.nd, h1.at_, h1.h.right⟩
theorem fB {b : Nat} {vs : List Value} {T e : TypeId} (hg : gM PP T vs.length = true) (h : cM w0 M b vs e) : (aH PP w0).ld T ⟨b, 0, none⟩ M = some (.agg vs.toArray) :=
 c9 (cs := vs) hg (fun j u hj => by rw [add_eq, aM h, Nat.zero_add]; exact hj)
theorem kE {b o : Nat} {cs vs : List Value} {T e : TypeId} (hg : gM PP T vs.length = true) (h : cM w0 M b cs e) (hc : ∀ j u, vs[j]? = some u → cs[o + j]? = some u) : (aH PP w0).ld T ⟨b, o, none⟩ M = some (.agg vs.toArray) :=
 c9 (cs := vs) hg (fun j u hj => by rw [add_eq, aM h]; exact hc j u hj)
theorem lR {b o : Nat} {cs : List Value} {t e : TypeId} (ht : gP PP t = true) (h : cM w0 M b cs e) {v : Value} (hv : cs[o]? = some v) : (aH PP w0).ld t ⟨b, o, none⟩ M = some v := by
 rw [aP ht, aM h]; exact hv
end
theorem iL {x y : Int} : ∀ v ∈ ([.int .i64 x, .int .i64 y] : List Value), bQ v = true := by
 intro v hv
 simp only [List.mem_cons, List.not_mem_nil, or_false] at hv
 rcases hv with rfl | rfl <;> rfl
theorem sX {x y z : Int} : ∀ v ∈ ([.int .i64 x, .int .i64 y, .int .i64 z] : List Value), bQ v = true := by
 intro v hv
 simp only [List.mem_cons, List.not_mem_nil, or_false] at hv
 rcases hv with rfl | rfl | rfl <;> rfl
theorem aZ : gM PP 33 2 = true := W.g33
theorem u7 : gM PP 149 3 = true := W.aBe
theorem rD : gM PP 153 3 = true := W.aBg
theorem aCo : gM PP 44 2 = true := W.g44
section
variable {w0 : World} {F M : Mem} {R : VP} {p : Nat} {Q : cY}
theorem w6 {P : PS V3} {a g : Int} {v : V3} (h : aA w0 F M (star (wP p P) Q)) (hb : P.l.length ≤ 100000) (hw : P.find a g = some v) (h1 : ∀ M', Mem.le M M' → R (.tuple #[.agg #[.int .i64 v.1, .int .i64 v.2.1, .int .i64 v.2.2], .int .i64 0]) M') :
  C PP w0 Id.jO #[.pointer (some ⟨p, 0, none⟩), .agg #[.int .i64 a, .int .i64 g]] R M :=
 aI8 h hb (fun v' hv => by rw [hw] at hv; cases hv; exact h1) (fun hf => by rw [hw] at hf; cases hf)
theorem zK {P : PS V3} {a g : Int} {v : V3} (h : aA w0 F M (star (q9 p P) Q)) (hb : P.l.length ≤ 100000) (hw : P.find a g = some v) (h1 : ∀ M', Mem.le M M' → R (.tuple #[.agg #[.int .i64 v.1, .int .i64 v.2.1, .int .i64 v.2.2], .int .i64 0]) M') :
  C PP w0 Id.jQ #[.pointer (some ⟨p, 0, none⟩), .agg #[.int .i64 a, .int .i64 g]] R M :=
 aIr h hb (fun v' hv => by rw [hw] at hv; cases hv; exact h1) (fun hf => by rw [hw] at hf; cases hf)
end
end HL
namespace HL
namespace ST
theorem aJo {α β : AS} {m w : Tn} {k : Nat} (hm : yW α m) (hw : yW α w) (hn : (eN m ++ eN w).Nodup) (g1 : β.get w.n 1 = (m.n : Int)) (g4 : β.get w.n 4 = (k : Int)) (m0 : β.get m.n 0 = (w.n : Int)) (m3 : β.get m.n 3 = w.c.root)
  (hg : ∀ c g, (c ≠ w.n ∨ (g ≠ 1 ∧ g ≠ 4)) → (c ≠ m.n ∨ (g ≠ 0 ∧ g ≠ 3)) → β.get c g = α.get c g) : yW β ⟨w.n, k, node m.n m.k m.c w.c⟩ := by
 obtain ⟨n1, n2, n3⟩ := List.nodup_append.1 hn
 have hmw : m.n ≠ w.n := n3 m.n List.mem_cons_self w.n List.mem_cons_self
 obtain ⟨a1, a2⟩ := List.nodup_cons.1 n1
 obtain ⟨b1, b2⟩ := List.nodup_cons.1 n2
 refine ⟨g1, g4, m0, ?_, m3, ?_, ?_, ?_⟩
 ·rw [hg m.n 1 (.inl hmw) (.inr (by omega))]; exact hm.1
 ·rw [hg m.n 4 (.inl hmw) (.inr (by omega))]; exact hm.2.1
 ·refine hm.2.2.congr fun x hx f _ => hg x f (.inl fun e => ?_) (.inl fun e => a1 (e ▸ hx))
  exact n3 x (List.mem_cons_of_mem _ hx) w.n List.mem_cons_self e
 ·refine hw.2.2.congr fun x hx f _ => hg x f (.inl fun e => b1 (e ▸ hx)) (.inl fun e => ?_)
  exact n3 m.n List.mem_cons_self x (List.mem_cons_of_mem _ hx) e.symm
def sT (f : Nat → cC) (t u : Tn) : Tn := if Bf (f u.n) (f t.n) then lk t u else lk u t
theorem aEr (m w : Tn) : (eN (lk m w)).Perm (eN m ++ eN w) := by
 show (w.n :: m.n :: (aO m.c ++ aO w.c)).Perm (m.n :: (aO m.c ++ w.n :: aO w.c))
 refine (List.Perm.swap _ _ _).trans (List.Perm.cons _ ?_)
 exact List.perm_middle.symm
theorem aIk (m w : Tn) : (eN (und m w)).Perm (eN m ++ eN w) := aEr m w
theorem aFi (f : Nat → cC) (t u : Tn) : (eN (sT f t u)).Perm (eN t ++ eN u) := by
 unfold sT; split
 ·exact aEr t u
 ·exact (aEr u t).trans List.perm_append_comm
theorem aLf (f : Nat → cC) (t u : Tn) : (sT f t u).n = t.n ∨ (sT f t u).n = u.n := by
 unfold sT; split
 ·exact .inr rfl
 ·exact .inl rfl
theorem aJD (f : Nat → cC) {t u : Tn} (e : t.k = u.k) : (sT f t u).k = t.k + 1 := by
 unfold sT; split
 ·show u.k + 1 = _; omega
 ·rfl
theorem aHx (f : Nat → cC) {z : Nat} {t u : Tn} (hz : 1 ≤ z) (h1 : wQ z t) (h2 : wQ z u) (e : t.k = u.k) : wQ z (sT f t u) ∧ (cV (sT f t u).c).length ≤ z * t.k + 1 := by
 unfold sT; split
 ·have := aGF hz h1 h2 e; rw [e]; exact this
 ·exact aGF hz h2 h1 e.symm
theorem aHA {f : Nat → cC} {t u : Tn} (h1 : yB f t) (h2 : yB f u) (eE : (f t.n).1 ≠ (f u.n).1) : yB f (sT f t u) := by
 unfold sT; split
 ·rename_i hb; exact aAW h1 h2 hb
 ·rename_i hb; exact aAW h2 h1 (Bf.tot hb fun e => eE e.symm)
theorem aJE {α β : AS} {k : Int} {f : Nat → cC} {N : List Nat} {n m : Nat} (h : Lb α f N) (fO : (bE f N).Nodup) (hn : n ∈ N) (hm : m ∈ N) (eE : n ≠ m)
  (hs : AS.Sm k ((((α.put n 6 ((f m).1 : Int)).put (f m).1 9 (n : Int)).put m 6 ((f n).1 : Int)).put (f n).1 9 (m : Int)) β) : Lb β (sw f n m) N := by
 have hij : (f n).1 ≠ (f m).1 := fun e => eE (kQ fO n hn m hm e)
 have g : ∀ c x, β.get c x = if c = (f n).1 ∧ x = 9 then (m : Int) else if c = m ∧ x = 6 then ((f n).1 : Int) else if c = (f m).1 ∧ x = 9 then (n : Int) else if c = n ∧ x = 6 then ((f m).1 : Int) else α.get c x := fun c x => by rw [hs.get]; rfl
 have gl : ∀ c, β.live c = α.live c := fun c => by rw [hs.live]; rfl
 intro x hx
 have hX := h x hx
 have hN := h n hn
 have hM := h m hm
 unfold sw
 by_cases e1 : x = n
 ·subst e1
  rw [if_pos rfl]
  refine ⟨(gl _).trans hX.ln, (gl _).trans hM.li, ?_, ?_, ?_, ?_⟩
  ·rw [g, if_neg (by omega), if_neg (by omega), if_neg (by omega), if_pos ⟨rfl, rfl⟩]
  ·rw [g, if_neg (fun e => hij e.1.symm), if_neg (by omega), if_pos ⟨rfl, rfl⟩]
  ·rw [g, if_neg (by omega), if_neg (by omega), if_neg (by omega), if_neg (by omega)]; exact hM.k
  ·rw [g, if_neg (by omega), if_neg (by omega), if_neg (by omega), if_neg (by omega)]; exact hM.s
 ·rw [if_neg e1]
  by_cases e2 : x = m
  ·subst e2
   rw [if_pos rfl]
   refine ⟨(gl _).trans hX.ln, (gl _).trans hN.li, ?_, ?_, ?_, ?_⟩
   ·rw [g, if_neg (by omega), if_pos ⟨rfl, rfl⟩]
   ·rw [g, if_pos ⟨rfl, rfl⟩]
   ·rw [g, if_neg (by omega), if_neg (by omega), if_neg (by omega), if_neg (by omega)]; exact hN.k
   ·rw [g, if_neg (by omega), if_neg (by omega), if_neg (by omega), if_neg (by omega)]; exact hN.s
  ·rw [if_neg e2]
   have i1 : (f x).1 ≠ (f n).1 := fun e => e1 (kQ fO x hx n hn e)
   have i2 : (f x).1 ≠ (f m).1 := fun e => e2 (kQ fO x hx m hm e)
   refine ⟨(gl _).trans hX.ln, (gl _).trans hX.li, ?_, ?_, ?_, ?_⟩
   ·rw [g, if_neg (by omega), if_neg (by omega), if_neg (by omega), if_neg (by omega)]; exact hX.it
   ·rw [g, if_neg (by omega), if_neg (by omega), if_neg (by omega), if_neg (by omega)]; exact hX.nd
   ·rw [g, if_neg (by omega), if_neg (by omega), if_neg (by omega), if_neg (by omega)]; exact hX.k
   ·rw [g, if_neg (by omega), if_neg (by omega), if_neg (by omega), if_neg (by omega)]; exact hX.s
end ST
section
variable {w0 : World} {M F : Mem} {R : VP} {a : Nat} {α : AS}
open Go.Proofs.YtodobkbnmjgkdaaGreat.HL.ST
theorem aDy (hA : aA w0 F M (aE a α)) {n up : Nat} (hn : α.live n = true) (hu : α.live up = true) {v : Int} (hv : α.get up 1 = v) (hc : v = -1 ∨ ∃ y : Nat, v = (y : Int) ∧ α.live y = true)
  (h : ∀ M' β, aA w0 F M' (aE a β) → AS.Sm 4 (((α.put n 3 v).put n 0 (up : Int)).put up 1 (n : Int)) β → R (.tuple #[]) M') : C PP w0 Id.gY #[.pointer (some ⟨a, 0, none⟩), .int .i64 (n : Int), .int .i64 (up : Int)] R M := by
 apply gY.go
 unfold gY.T aJ
 refine eQ hA fun M1 hA1 => ?_
 rw [show α.fH (up : Int) 1 = v from AS.kG hA.inv (f := 1) hu (by omega) hv hc]
 simp only [go_sem]
 refine gS hA1 fun M2 hA2 => ?_
 rw [show α.tick.lP (n : Int) 3 v = α.tick.put n 3 v from AS.cL (α := α.tick) (f := 3) hn (by omega) _] at hA2
 simp only [go_sem]
 refine gS hA2 fun M3 hA3 => ?_
 rw [show (α.tick.put n 3 v).tick.lP (n : Int) 0 (up : Int) = (α.tick.put n 3 v).tick.put n 0 (up : Int) from AS.cL (α := (α.tick.put n 3 v).tick) (f := 0) hn (by omega) _] at hA3
 simp only [go_sem]
 refine gS hA3 fun M4 hA4 => ?_
 rw [show ((α.tick.put n 3 v).tick.put n 0 (up : Int)).tick.lP (up : Int) 1 (n : Int) = ((α.tick.put n 3 v).tick.put n 0 (up : Int)).tick.put up 1 (n : Int) from AS.cL (α := ((α.tick.put n 3 v).tick.put n 0 (up : Int)).tick) (f := 1) hu (by omega) _] at hA4
 simp only [go_sem]
 exact h M4 _ hA4 ((((((((AS.aN (α := α)).put n 3 v).trans AS.aN).put n 0 (up : Int)).trans AS.aN).put up 1 (n : Int)).trans AS.aN).mono (by omega))
theorem aED (hA : aA w0 F M (aE a α)) {f : Nat → cC} {t u : Tn} (ht : yW α t) (hu : yW α u) (hl : Lb α f (eN t ++ eN u)) (hn : (eN t ++ eN u).Nodup) (hk : t.k = u.k) (hk2 : t.k ≤ 1000000)
  (h : ∀ M' β, aA w0 F M' (aE a β) → yW β (sT f t u) → AS.nH (fun c => c = t.n ∨ c = u.n) 11 α β → (∀ c g, 5 ≤ g → β.get c g = α.get c g) → (∀ g, g ≠ 1 → g ≠ 4 → β.get (sT f t u).n g = α.get (sT f t u).n g) → R (.int .i64 ((sT f t u).n : Int)) M') :
  C PP w0 Id.cI #[.pointer (some ⟨a, 0, none⟩), .int .i64 (t.n : Int), .int .i64 (u.n : Int), .int .i64 (t.k : Int)] R M := by
 apply cI.go
 intro aB H
 unfold cI.T aJ
 have nt := hl t.n (List.mem_append_left _ List.mem_cons_self)
 have nu := hl u.n (List.mem_append_right _ List.mem_cons_self)
 refine qS hA nu nt fun M1 β1 hA1 s1 => ?_
 simp only [go_sem]
 have key : ∀ (w m : Tn), yW α m → yW α w → (eN m ++ eN w).Nodup → α.live w.n = true → α.live m.n = true → (∀ x ∈ aO w.c, α.live x = true) → w.k = t.k → sT f t u = lk m w → (m.n = t.n ∨ m.n = u.n) → (w.n = t.n ∨ w.n = u.n) →
   cI.J1 aB (some ⟨a, 0, none⟩) (w.n : Int) (m.n : Int) (t.k : Int) M1 := by
  intro w m hm hw fO lw lm lwc hkw he h1 h2
  refine Eq.mpr (H.J1 ..) ?_
  unfold cI.J1.T aJ
  have hwc : w.c.root = -1 ∨ ∃ y : Nat, w.c.root = (y : Int) ∧ β1.live y = true := by
   cases hc : w.c with
   | nil => exact .inl rfl
   | node y k c s => exact .inr ⟨y, rfl, by rw [s1.live]; exact lwc y (by rw [hc]; simp [aO])⟩
  refine aDy hA1 (n := m.n) (up := w.n) (by rw [s1.live]; exact lm) (by rw [s1.live]; exact lw) (v := w.c.root) (by rw [s1.get]; exact hw.1) hwc fun M2 β2 hA2 s2 => ?_
  refine gS hA2 fun M3 hA3 => ?_
  rw [bC (by omega)] at hA3
  have lw2 : β2.live w.n = true := by rw [s2.live]; show β1.live w.n = true; rw [s1.live]; exact lw
  rw [show β2.lP (w.n : Int) 4 ((t.k : Int) + 1) = β2.put w.n 4 ((t.k : Int) + 1) from AS.cL (f := 4) lw2 (by omega) _] at hA3
  simp only [go_sem]
  have s3 : AS.Sm 11 ((((α.put m.n 3 w.c.root).put m.n 0 (w.n : Int)).put w.n 1 (m.n : Int)).put w.n 4 ((t.k : Int) + 1)) (β2.put w.n 4 ((t.k : Int) + 1)).tick :=
   ((((((s1.put m.n 3 w.c.root).put m.n 0 (w.n : Int)).put w.n 1 (m.n : Int)).trans s2).put w.n 4 ((t.k : Int) + 1)).trans AS.aN).mono (by omega)
  have hmw : m.n ≠ w.n := (List.nodup_append.1 fO).2.2 _ List.mem_cons_self _ List.mem_cons_self
  generalize (β2.put w.n 4 ((t.k : Int) + 1)).tick = γ at hA3 s3
  have g : ∀ c x, γ.get c x = if c = w.n ∧ x = 4 then (t.k : Int) + 1 else if c = w.n ∧ x = 1 then (m.n : Int) else if c = m.n ∧ x = 0 then (w.n : Int) else if c = m.n ∧ x = 3 then w.c.root else α.get c x := fun c x => by rw [s3.get]; rfl
  have hh := h M3 γ hA3
  rw [he] at hh
  refine hh ?_ ?_ (fun c x hx => ?_) fun x h1 h4 => ?_
  ·refine aJo hm hw fO ?_ ?_ ?_ ?_ fun c x h1 h2 => ?_
   ·rw [g, if_neg (by omega), if_pos ⟨rfl, rfl⟩]
   ·rw [g, if_pos ⟨rfl, rfl⟩, hkw]; omega
   ·rw [g, if_neg (by omega), if_neg (by omega), if_pos ⟨rfl, rfl⟩]
   ·rw [g, if_neg (by omega), if_neg (by omega), if_neg (by omega), if_pos ⟨rfl, rfl⟩]
   ·rw [g, if_neg (by omega), if_neg (by omega), if_neg (by omega), if_neg (by omega)]
  ·refine ((((((AS.nH.refl (S := fun c => c = t.n ∨ c = u.n) (α := α)).put h1).put h1).put h2).put h2).trans s3.lJ).mono (fun _ h => h) (by omega)
  ·rw [g, if_neg (by omega), if_neg (by omega), if_neg (by omega), if_neg (by omega)]
  ·show γ.get w.n x = α.get w.n x
   rw [g, if_neg (by omega), if_neg (by omega), if_neg (by omega), if_neg (by omega)]
 have lt : ∀ x ∈ eN t, α.live x = true := fun x hx => (hl x (List.mem_append_left _ hx)).ln
 have lu : ∀ x ∈ eN u, α.live x = true := fun x hx => (hl x (List.mem_append_right _ hx)).ln
 by_cases hb : Bf (f u.n) (f t.n)
 ·rw [decide_eq_true hb, dU]
  exact key u t ht hu hn (lu _ List.mem_cons_self) (lt _ List.mem_cons_self) (fun x hx => lu x (List.mem_cons_of_mem _ hx)) hk.symm (by unfold sT; rw [if_pos hb]) (.inl rfl) (.inr rfl)
 ·rw [decide_eq_false hb, mT]
  exact key t u hu ht (List.perm_append_comm.nodup_iff.1 hn) (lt _ List.mem_cons_self) (lu _ List.mem_cons_self) (fun x hx => lt x (List.mem_cons_of_mem _ hx)) rfl (by unfold sT; rw [if_neg hb]) (.inr rfl) (.inl rfl)
theorem aDb (hA : aA w0 F M (aE a α)) {b : ST} {up : Int} (hs : St α up b) (hl : ∀ n ∈ aO b, α.live n = true) (hn : (aO b).Nodup)
  (h : ∀ M' s β, aA w0 F M' (star (oZ s ((aS ((cV b).map (·.n))).map (Value.int .i64))) (aE a β)) → AS.Sm ((cV b).length) α β → R s.v M') :
  C PP w0 Id.cJ #[.pointer (some ⟨a, 0, none⟩), .int .i64 b.root, .int .i64 3] R M := by
 apply cJ.go
 intro aB H
 unfold cJ.T aJ
 have hI := hA.inv
 have hI65 := hI.n
 have hlen := mR α.n _ hn fun x hx => AS.cE hI (hl x hx)
 have eE : ∀ (b : ST), (cV b).length ≤ (aO b).length := fun b => by
  induction b with
  | nil => simp [cV]
  | node n k c s _ ih => simp only [cV, aO, List.length_cons, List.length_append]; omega
 have key : ∀ (c : ST) (out : List Nat) (s : SV) (M1 : Mem) (β : AS) (k : Nat), (cV b).map (·.n) = out ++ (cV c).map (·.n) → St α up c → (∀ n ∈ aO c, α.live n = true) → aA w0 F M1 (star (oZ s ((aS out).map (Value.int .i64))) (aE a β)) → AS.Sm (out.length : Int) α β → (cV c).length < k →
   cJ.L1 aB k (some ⟨a, 0, none⟩) c.root 3 s M1 := by
  intro c
  induction c with
  | nil =>
   intro out s M1 β k he hc hlc hB hsm hk
   obtain ⟨k, rfl⟩ : ∃ j, k = j + 1 := ⟨k - 1, by omega⟩
   refine Eq.mpr (H.L1 ..) ?_
   unfold cJ.L1.T aJ
   refine wE hB.right ?_
   rw [show ST.nil.root = -1 from rfl, AS.wM]
   simp only [bU, mT]
   have e0 : (cV b).map (·.n) = out := by rw [he]; simp [cV]
   refine h M1 s β (by rw [e0]; exact hB) (hsm.mono ?_)
   have := congrArg List.length e0
   rw [List.length_map] at this; omega
  | node n kk c s _ ih =>
   intro out sO M1 β k he hc hlc hB hsm hk
   obtain ⟨k, rfl⟩ : ∃ j, k = j + 1 := ⟨k - 1, by omega⟩
   obtain ⟨h1, h2, h3, h4, h5, h6⟩ := hc
   have hln := hlc n (by simp [aO])
   have el := congrArg List.length he
   simp only [List.length_append, List.length_map, cV, List.length_cons] at el hk
   have hb := eE b
   refine Eq.mpr (H.L1 ..) ?_
   unfold cJ.L1.T aJ
   refine wE hB.right ?_
   rw [show (ST.node n kk c s).root = (n : Int) from rfl, AS.sS, hsm.live, hln]
   simp only [bU, dU]
   refine vQ hB.right ?_
   rw [hsm.n]
   have e0 : sO.n = out.length := by rw [hB.cells.2]; simp [aS]
   (rw [aL, eO, if_pos (by omega)]; refine Eq.mpr (H.J2 ..) ?_)
   unfold cJ.J2.T aJ
   refine yL (K := fun s27 M26 => (aH PP w0).call _ _ _ M26) hB (by simp [aS]; omega) fun M2 sO' hB2 => ?_
   obtain ⟨F', hC, hle, back⟩ := hB2.last
   refine eQ hC fun M3 hC3 => ?_
   rw [show β.fH (n : Int) 3 = s.root from AS.kG hC.inv (f := 3) (by rw [hsm.live]; exact hln) (by omega) (by rw [hsm.get]; exact h3) (by
    cases s with
    | nil => exact .inl rfl
    | node y k' c' s' => exact .inr ⟨y, rfl, by rw [hsm.live]; exact hlc y (by simp [aO])⟩)]
   rw [aL]
   refine ih (out ++ [n]) sO' M3 β.tick k ?_ h6 (fun x hx => hlc x (by simp [aO, hx])) ?_ ((hsm.trans AS.aN).mono ?_) (by omega)
   ·rw [he]; simp [cV]
   ·have := back M3 _ hC3
    rw [show aS (out ++ [n]) = aS out ++ [(n : Int)] from by simp [aS]]
    exact this
   ·simp
 exact ⟨(cV b).length + 1, key b [] ⟨none, 0, 0⟩ M α _ (by simp) hs hl (aA.aEI hA) (AS.Sm.refl.mono (by simp)) (by omega)⟩
theorem nT (hA : aA w0 F M (aE a α)) {b : ST} {up : Int} (hs : St α up b) (hl : ∀ n ∈ aO b, α.live n = true) (hn : (aO b).Nodup)
  (h : ∀ M' s β, aA w0 F M' (star (oZ s ((aS ((cV b).map (·.n))).map (Value.int .i64))) (aE a β)) → AS.Sm ((cV b).length) α β → R s.v M') :
  C PP w0 Id.iX #[.pointer (some ⟨a, 0, none⟩), .int .i64 b.root] R M := by
 apply iX.go
 unfold iX.T aJ
 refine aDb hA hs hl hn fun M1 s β hB hsm => ?_
 rw [aR]
 exact h M1 s β hB hsm
theorem aFl (hA : aA w0 F M (aE a α)) {t : Tn} (hs : yW α t) (hl : ∀ n ∈ eN t, α.live n = true) (hn : (aO t.c).Nodup)
  (h : ∀ M' s β, aA w0 F M' (star (oZ s ((aS ((cV t.c).map (·.n))).map (Value.int .i64))) (aE a β)) → AS.Sm ((cV t.c).length + 1) α β → R s.v M') :
  C PP w0 Id.iZ #[.pointer (some ⟨a, 0, none⟩), .int .i64 (t.n : Int)] R M := by
 apply iZ.go
 unfold iZ.T aJ
 refine eQ hA fun M1 hA1 => ?_
 rw [show α.fH (t.n : Int) 1 = t.c.root from AS.kG hA.inv (f := 1) (hl _ List.mem_cons_self) (by omega) hs.1 (by
  cases hc : t.c with
  | nil => exact .inl rfl
  | node y k c s => exact .inr ⟨y, rfl, hl y (by unfold eN; rw [hc]; simp [aO])⟩)]
 rw [aL]
 refine aDb hA1 (hs.2.2.sm AS.aN) (fun x hx => hl x (List.mem_cons_of_mem _ hx)) hn fun M2 s β hB hsm => ?_
 rw [aR]
 exact h M2 s β hB ((AS.aN.trans hsm).mono (by omega))
theorem aKh (hA : aA w0 F M (aE a α)) {l : List Tn} {s : SV} (hs : pW w0 F .i64 s (aS (l.map (·.n)))) (ht : ∀ t ∈ l, yW α t) (hl : ∀ t ∈ l, α.live t.n = true) (hn : (aQ l).Nodup) (hb : l.length ≤ 100000)
  (h : ∀ M' β, aA w0 F M' (aE a β) → St β (-1) (fo l) → AS.nH (fun c => ∃ t ∈ l, c = t.n) (2 * l.length) α β → (∀ c g, 5 ≤ g → β.get c g = α.get c g) → R (.int .i64 (fo l).root) M') :
  C PP w0 Id.dD #[.pointer (some ⟨a, 0, none⟩), SV.v s] R M := by
 apply dD.go
 intro aB H
 unfold dD.T aJ
 have hlen := hs.len
 simp only [aS, List.length_map] at hlen
 have hnn : (l.map (·.n)).Nodup := by
  have hsub : ∀ (l : List Tn), (l.map (·.n)).Sublist (aQ l) := fun l => by
   induction l with
   | nil => exact List.Sublist.refl _
   | cons t l ih => rw [mQ]; exact (ih.trans (List.sublist_append_right _ _)).cons_cons _
  exact hn.sublist (hsub l)
 have key : ∀ (A B : List Tn) (M1 : Mem) (β : AS) (k : Nat), l = A ++ B → aA w0 F M1 (aE a β) → St β (-1) (fo B) → AS.nH (fun c => ∃ t ∈ B, c = t.n) (2 * B.length) α β → (∀ c g, 5 ≤ g → β.get c g = α.get c g) → A.length < k →
   dD.L1 aB k (some ⟨a, 0, none⟩) s (fo B).root ((A.length : Int) - 1) M1 := by
  intro A
  induction hA' : A.length generalizing A with
  | zero =>
   intro B M1 β k he hB hst hc hg hk
   have : A = [] := List.eq_nil_of_length_eq_zero hA'
   subst this
   obtain ⟨k, rfl⟩ : ∃ j, k = j + 1 := ⟨k - 1, by omega⟩
   refine Eq.mpr (H.L1 ..) ?_
   unfold dD.L1.T aJ
   rw [eO, if_neg (by omega)]
   rw [List.nil_append] at he
   subst he
   exact h M1 β hB hst hc hg
  | succ n ih =>
   intro B M1 β k he hB hst hc hg hk
   obtain ⟨A', t, rfl⟩ : ∃ A' t, A = A' ++ [t] := by
    rcases List.eq_nil_or_concat A with e | ⟨A', t, e⟩
    ·rw [e] at hA'; cases hA'
    ·exact ⟨A', t, by rw [e, List.concat_eq_append]⟩
   rw [List.length_append, List.length_singleton] at hA'
   have hA2 : A'.length = n := by omega
   obtain ⟨k, rfl⟩ : ∃ j, k = j + 1 := ⟨k - 1, by omega⟩
   have htl : t ∈ l := by rw [he]; simp
   have hlive : β.live t.n = true := by rw [hc.live]; exact hl t htl
   have hget : (aS (l.map (·.n)))[A'.length]? = some (t.n : Int) := by
    rw [he]; simp [aS]
   have ll := congrArg List.length he
   simp only [List.length_append, List.length_singleton] at ll
   refine Eq.mpr (H.L1 ..) ?_
   unfold dD.L1.T aJ
   rw [eO, if_pos (by omega)]
   refine rdx (x := (t.n : Int)) W.c3 hs hB.fr A'.length (by omega) hget ?_
   refine gS hB fun M2 hB2 => ?_
   rw [show β.lP (t.n : Int) 3 (fo B).root = β.put t.n 3 (fo B).root from AS.cL (f := 3) hlive (by omega) _] at hB2
   rw [bU]
   refine rdx (x := (t.n : Int)) W.c3 hs hB2.fr A'.length (by omega) hget ?_
   refine gS hB2 fun M3 hB3 => ?_
   rw [show (β.put t.n 3 (fo B).root).tick.lP (t.n : Int) 0 (-1) = (β.put t.n 3 (fo B).root).tick.put t.n 0 (-1) from AS.cL (α := (β.put t.n 3 (fo B).root).tick) (f := 0) hlive (by omega) _] at hB3
   rw [bU]
   refine rdx (x := (t.n : Int)) W.c3 hs hB3.fr A'.length (by omega) hget ?_
   have s3 : AS.Sm 2 ((β.put t.n 3 (fo B).root).put t.n 0 (-1)) ((β.put t.n 3 (fo B).root).tick.put t.n 0 (-1)).tick := (((AS.aN (α := β.put t.n 3 (fo B).root)).put t.n 0 (-1)).trans AS.aN).mono (by omega)
   generalize ((β.put t.n 3 (fo B).root).tick.put t.n 0 (-1)).tick = γ at hB3 s3
   have g : ∀ c x, γ.get c x = if c = t.n ∧ x = 0 then -1 else if c = t.n ∧ x = 3 then (fo B).root else β.get c x := fun c x => by rw [s3.get]; rfl
   have hnB : t.n ∉ aQ B ∧ t.n ∉ aO t.c := by
    rw [he, lB, lB] at hn
    have h2 := (List.nodup_append.1 hn).2.2
    have h3 := (List.nodup_append.1 (List.nodup_append.1 hn).1).2.1
    refine ⟨fun hm => h2 t.n (by simp [aQ, eN]) _ hm rfl, fun hm => ?_⟩
    have : aQ [t] = t.n :: aO t.c := by simp [aQ, eN]
    rw [this] at h3
    exact (List.nodup_cons.1 h3).1 hm
   have hcB : ∀ x ∈ aO t.c, β.get x = α.get x := fun x hx => by
    funext f
    refine hc.get x ?_ f
    rintro ⟨u, hu, e⟩
    rw [he, lB, lB] at hn
    exact (List.nodup_append.1 hn).2.2 x (by simp [aQ, eN, hx]) u.n (eB.2 ⟨u, hu, List.mem_cons_self⟩) e
   have htB : ∀ f, β.get t.n f = α.get t.n f := fun f => by
    refine hc.get t.n ?_ f
    rintro ⟨u, hu, e⟩
    exact hnB.1 (e ▸ eB.2 ⟨u, hu, List.mem_cons_self⟩)
   obtain ⟨t1, t2, t3⟩ := ht t htl
   have := ih A' hA2 (t :: B) M3 γ k (by rw [he]; simp) hB3 ?_ ?_ (fun c x hx => ?_) (by omega)
   ·rw [show p4 (((n + 1 : Nat) : Int) - 1 - 1) = (n : Int) - 1 from by rw [bC (by omega)]; omega]
    exact this
   ·refine ⟨?_, ?_, ?_, ?_, ?_, ?_⟩
    ·rw [g, if_pos ⟨rfl, rfl⟩]
    ·rw [g, if_neg (by omega), if_neg (by omega), htB]; exact t1
    ·rw [g, if_neg (by omega), if_pos ⟨rfl, rfl⟩]
    ·rw [g, if_neg (by omega), if_neg (by omega), htB]; exact t2
    ·refine t3.congr fun x hx f _ => ?_
     rw [g, if_neg (fun e : x = t.n ∧ f = 0 => hnB.2 (e.1 ▸ hx)), if_neg (fun e : x = t.n ∧ f = 3 => hnB.2 (e.1 ▸ hx)), hcB x hx]
    ·refine hst.congr fun x hx f _ => ?_
     rw [p9] at hx
     rw [g, if_neg (fun e : x = t.n ∧ f = 0 => hnB.1 (e.1 ▸ hx)), if_neg (fun e : x = t.n ∧ f = 3 => hnB.1 (e.1 ▸ hx))]
   ·refine ((((hc.mono (T := fun c => ∃ u ∈ t :: B, c = u.n) (fun c ⟨u, hu, e⟩ => ⟨u, List.mem_cons_of_mem _ hu, e⟩) (Int.le_refl _)).put (c := t.n) (f := 3) (v := (fo B).root) ⟨t, List.mem_cons_self, rfl⟩).put (c := t.n) (f := 0) (v := -1) ⟨t, List.mem_cons_self, rfl⟩).trans s3.lJ).mono (fun _ h => h) ?_
    rw [List.length_cons]; omega
   ·rw [g, if_neg (by omega), if_neg (by omega)]; exact hg c x hx
 refine ⟨l.length + 1, ?_⟩
 rw [show p4 (((s.n : Nat) : Int) - 1) = (l.length : Int) - 1 from by rw [bC (by omega)]; omega]
 exact key l [] M α _ (by simp) hA trivial (AS.nH.refl.mono (fun _ h => h) (by simp)) (fun _ _ _ => rfl) (by omega)
theorem z8 (hA : aA w0 F M (aE a α)) {f : Nat → cC} {l : List Tn} {s : SV} (hs : pW w0 F .i64 s (aS (l.map (·.n)))) (hl : ∀ t ∈ l, α.Nd t.n (f t.n).1 (f t.n).2) (hd : ∀ t ∈ l, ∀ u ∈ l, (f t.n).1 = (f u.n).1 → t.n = u.n) (hb : l.length ≤ 100000)
  (h0 : l = [] → ∀ M' β, aA w0 F M' (aE a β) → AS.Sm 0 α β → R (.int .i64 (-1)) M')
  (h : ∀ t ∈ l, (∀ u ∈ l, u.n ≠ t.n → Bf (f t.n) (f u.n)) → ∀ M' β, aA w0 F M' (aE a β) → AS.Sm (6 * l.length) α β → R (.int .i64 (t.n : Int)) M') :
  C PP w0 Id.bZ #[.pointer (some ⟨a, 0, none⟩), SV.v s] R M := by
 apply bZ.go
 intro aB H
 unfold bZ.T aJ
 have hlen := hs.len
 simp only [aS, List.length_map] at hlen
 have key : ∀ (B A : List Tn) (t : Tn) (M1 : Mem) (β : AS) (k : Nat), l = A ++ B → t ∈ A → (∀ u ∈ A, u.n ≠ t.n → Bf (f t.n) (f u.n)) → aA w0 F M1 (aE a β) → AS.Sm (6 * A.length) α β → B.length < k →
   bZ.L1 aB k (some ⟨a, 0, none⟩) (t.n : Int) s ((s.n : Nat) : Int) (A.length : Int) M1 := by
  intro B
  induction B with
  | nil =>
   intro A t M1 β k he ht hbest hB hsm hk
   obtain ⟨k, rfl⟩ : ∃ j, k = j + 1 := ⟨k - 1, by omega⟩
   rw [List.append_nil] at he
   subst he
   refine Eq.mpr (H.L1 ..) ?_
   unfold bZ.L1.T aJ
   rw [eO, if_neg (by omega)]
   exact h t ht hbest M1 β hB hsm
  | cons u B ih =>
   intro A t M1 β k he ht hbest hB hsm hk
   obtain ⟨k, rfl⟩ : ∃ j, k = j + 1 := ⟨k - 1, by omega⟩
   have ll := congrArg List.length he
   simp only [List.length_append, List.length_cons] at ll hk
   have htl : t ∈ l := by rw [he]; simp [ht]
   have hul : u ∈ l := by rw [he]; simp
   have hget : (aS (l.map (·.n)))[A.length]? = some (u.n : Int) := by rw [he]; simp [aS]
   refine Eq.mpr (H.L1 ..) ?_
   unfold bZ.L1.T aJ
   rw [eO, if_pos (by omega)]
   refine rdx (x := (u.n : Int)) W.c3 hs hB.fr A.length rfl hget ?_
   rw [eW, if_neg (by omega)]
   refine qS hB (hsm.nd (hl u hul)) (hsm.nd (hl t htl)) fun M2 γ hB2 s2 => ?_
   rw [bU, eO]
   have hsm2 : AS.Sm (6 * ((A ++ [u]).length : Int)) α γ := (hsm.trans s2).mono (by simp; omega)
   have e1 : p4 ((A.length : Int) + 1) = ((A ++ [u]).length : Int) := by rw [bC (by omega)]; simp
   rw [e1]
   split
   ·rename_i hbf
    refine ih (A ++ [u]) u M2 γ k (by rw [he]; simp) (by simp) (fun v hv eE => ?_) hB2 hsm2 (by omega)
    rcases List.mem_append.1 hv with hv | hv
    ·by_cases e : v.n = t.n
     ·rw [e]; exact hbf
     ·exact hbf.tr (hbest v hv e)
    ·rw [List.mem_singleton.1 hv] at eE
     exact absurd rfl eE
   ·rename_i hbf
    refine ih (A ++ [u]) t M2 γ k (by rw [he]; simp) (by simp [ht]) (fun v hv eE => ?_) hB2 hsm2 (by omega)
    rcases List.mem_append.1 hv with hv | hv
    ·exact hbest v hv eE
    ·rw [List.mem_singleton.1 hv] at eE ⊢
     exact Bf.tot hbf fun e => eE (hd u hul t htl e)
 cases l with
 | nil =>
  refine ⟨1, ?_⟩
  refine Eq.mpr (H.L1 ..) ?_
  unfold bZ.L1.T aJ
  rw [eO, if_neg (by simp at hlen; omega)]
  exact h0 rfl M α hA AS.Sm.refl
 | cons t l =>
  refine ⟨l.length + 2, ?_⟩
  simp only [List.length_cons] at hlen hb
  refine Eq.mpr (H.L1 ..) ?_
  unfold bZ.L1.T aJ
  rw [eO, if_pos (by omega)]
  refine rdx (x := (t.n : Int)) W.c3 hs hA.fr 0 rfl (by simp [aS]) ?_
  rw [eW, if_pos rfl]
  have e1 : p4 ((0 : Int) + 1) = (([t] : List Tn).length : Int) := by rw [bC (by omega)]; rfl
  rw [e1]
  exact key l [t] t M α _ rfl (by simp) (fun u hu eE => by rw [List.mem_singleton.1 hu] at eE; exact absurd rfl eE) hA (AS.Sm.refl.mono (by simp)) (by omega)
theorem aE2 (hA : aA w0 F M (aE a α)) {n m i j : Nat} {e g : cW} (h1 : α.Nd n i e) (h2 : α.Nd m j g)
  (h : ∀ M' β, aA w0 F M' (aE a β) → AS.Sm 6 ((((α.put n 6 (j : Int)).put j 9 (n : Int)).put m 6 (i : Int)).put i 9 (m : Int)) β → R (.tuple #[]) M') : C PP w0 Id.kK #[.pointer (some ⟨a, 0, none⟩), .int .i64 (n : Int), .int .i64 (m : Int)] R M := by
 apply kK.go
 unfold kK.T aJ
 simp only [go_sem, Option.isNone_some, mT]
 refine eQ hA fun M1 hA1 => ?_
 rw [show α.fH (n : Int) 6 = (i : Int) from AS.dB (f := 6) h1.ln (by omega) h1.it (AS.cE hA.inv h1.li)]
 simp only [go_sem]
 refine eQ hA1 fun M2 hA2 => ?_
 rw [show α.tick.fH (m : Int) 6 = (j : Int) from AS.dB (α := α.tick) (f := 6) h2.ln (by omega) h2.it (AS.cE hA.inv h2.li)]
 simp only [go_sem]
 refine aAI hA2 h1.ln h2.li fun M3 β3 hA3 s3 => ?_
 refine aAI hA3 (by rw [s3.live]; exact h2.ln) (by rw [s3.live]; exact h1.li) fun M4 β4 hA4 s4 => ?_
 exact h M4 β4 hA4 (((((((((AS.aN (α := α)).trans AS.aN).put n 6 (j : Int)).put j 9 (n : Int)).trans s3).put m 6 (i : Int)).put i 9 (m : Int)).trans s4).mono (by omega))
theorem aAe (hA : aA w0 F M (aE a α)) (any : Bool) {b : ST} {f : Nat → cC} {x : Nat} (hst : St α (-1) b) (hlb : Lb α f (aO b)) (fO : (bE f (aO b)).Nodup) (hx : x ∈ aO b) (hH : Hol f b x) (hD : any = false → aC6 f b x) {m : Nat} (hm : (mW b x).length ≤ m)
  (h : ∀ M' β f' y, aA w0 F M' (aE a β) → St β (-1) b → Lb β f' (aO b) → y ∈ aO b → f' y = f x → ((aO b).map f').Perm ((aO b).map f) → (any = true → mW b y = [] ∧ Hol f' b y) → (any = false → OdA f' b) → AS.nH (fun c => c ∈ bE f (aO b)) (13 * m + 8) α β → R (.int .i64 (y : Int)) M') :
  C PP w0 Id.sK #[.pointer (some ⟨a, 0, none⟩), .int .i64 ((f x).1 : Int), .bool any] R M := by
 apply sK.go
 intro aB H
 unfold sK.T aJ
 have hI := hA.inv
 have hI65 := hI.n
 have hN := hlb x hx
 have hnn := iB fO
 have hlen := mR α.n _ hnn fun y hy => AS.cE hI (hlb y hy).ln
 refine yD hA fun M1 hA1 => ?_
 rw [show α.fH ((f x).1 : Int) 9 = (x : Int) from AS.dB (f := 9) hN.li (by omega) hN.nd (AS.cE hI hN.ln)]
 rw [aL]
 have hanc : (mW b x).length ≤ (aO b).length := by
  have hs : ∀ (b : ST) (y : Nat), (mW b y).length ≤ (aO b).length := fun b => by
   induction b with
   | nil => intro y; simp [mW]
   | node n k c s ihc ihs =>
    intro y
    have h1 := ihc y
    have h2 := ihs y
    unfold mW
    simp only [aO, List.length_cons, List.length_append]
    split
    ·simp
    ·split
     ·rw [List.length_append, List.length_singleton]; omega
     ·omega
  exact hs b x
 have key : ∀ (l : List Nat) (y : Nat) (g : Nat → cC) (M2 : Mem) (β : AS) (j k : Nat), mW b y = l → y ∈ aO b → j + l.length = (mW b x).length → aA w0 F M2 (aE a β) → St β (-1) b → Lb β g (aO b) → (bE g (aO b)).Nodup → g y = f x → ((aO b).map g).Perm ((aO b).map f) → Hol g b y → (any = false → aC6 g b y) →
   AS.nH (fun c => c ∈ bE f (aO b)) (13 * j + 1) α β → l.length < k → sK.L1 aB k (some ⟨a, 0, none⟩) any (y : Int) (j : Int) M2 := by
  intro l
  induction l with
  | nil =>
   intro y g M2 β j k ha hy hj hB hs hl hgn hgy hp hho hhd hc hk
   obtain ⟨k, rfl⟩ : ∃ i, k = i + 1 := ⟨k - 1, by omega⟩
   refine Eq.mpr (H.L1 ..) ?_
   unfold sK.L1.T aJ
   rw [cD, if_neg (by omega)]
   refine vQ hB ?_
   (rw [hc.n, aL, eO, if_pos (by simp at hj; omega)]; refine Eq.mpr (H.J2 ..) ?_)
   unfold sK.J2.T aJ
   have hup := aB9 hs hy hnn
   rw [ha] at hup
   simp only at hup
   refine eQ hB fun M3 hB3 => ?_
   rw [show β.fH (y : Int) 0 = -1 from AS.y6 (f := 0) (hl y hy).ln (by omega) hup, aL, eW, if_pos rfl]
   refine h M3 β.tick g y hB3 (hs.sm AS.aN) (hl.sm AS.aN) hy hgy hp (fun _ => ⟨ha, hho⟩) (fun e => hho.done hnn (hhd e) fun p q hpq => by rw [ha] at hpq; cases hpq) (hc.tick.mono (fun _ h => h) ?_)
   simp at hj; omega
  | cons p l ih =>
   intro y g M2 β j k ha hy hj hB hs hl hgn hgy hp hho hhd hc hk
   obtain ⟨k, rfl⟩ : ∃ i, k = i + 1 := ⟨k - 1, by omega⟩
   simp only [List.length_cons] at hj hk
   have hpn : p ∈ aO b := oA (x := y) (by rw [ha]; simp)
   have hpa : mW b p = l := aA8 hnn ha
   have hpy : y ≠ p := fun e => nY hnn (x := y) (by rw [ha, ← e]; simp)
   refine Eq.mpr (H.L1 ..) ?_
   unfold sK.L1.T aJ
   rw [cD, if_neg (by omega)]
   refine vQ hB ?_
   (rw [hc.n, aL, eO, if_pos (by omega)]; refine Eq.mpr (H.J2 ..) ?_)
   unfold sK.J2.T aJ
   have hup := aB9 hs hy hnn
   rw [ha] at hup
   simp only at hup
   refine eQ hB fun M3 hB3 => ?_
   rw [show β.fH (y : Int) 0 = (p : Int) from AS.dB (f := 0) (hl y hy).ln (by omega) hup (AS.cE hB.inv (hl p hpn).ln), aL, eW, if_neg (by omega)]
   have rise : ∀ (M4 : Mem) (γ : AS), aA w0 F M4 (aE a γ) → AS.Sm 7 β γ → (any = false → Bf (g y) (g p)) → sK.J3 aB k (some ⟨a, 0, none⟩) any (y : Int) (j : Int) (p : Int) M4 := by
    intro M4 γ hB4 s4 hbf
    refine Eq.mpr (H.J3 ..) ?_
    unfold sK.J3.T aJ
    refine aE2 hB4 (s4.nd (hl y hy)) (s4.nd (hl p hpn)) fun M5 δ hB5 s5 => ?_
    rw [bC (by omega)]
    have hcel : ∀ z ∈ bE g (aO b), z ∈ bE f (aO b) := by
     intro z hz
     rcases List.mem_append.1 hz with hz | hz
     ·exact List.mem_append_left _ hz
     ·have h1 := (hp.map (·.1))
      rw [List.map_map, List.map_map] at h1
      exact List.mem_append_right _ (h1.mem_iff.1 hz)
    have cy : y ∈ bE f (aO b) := List.mem_append_left _ hy
    have cp : p ∈ bE f (aO b) := List.mem_append_left _ hpn
    have ciy : (g y).1 ∈ bE f (aO b) := hcel _ (List.mem_append_right _ (List.mem_map.2 ⟨y, hy, rfl⟩))
    have cip : (g p).1 ∈ bE f (aO b) := hcel _ (List.mem_append_right _ (List.mem_map.2 ⟨p, hpn, rfl⟩))
    have hst5 : St δ (-1) b := by
     refine hs.congr fun z hz x' hx' => ?_
     rw [s5.get]
     show (if z = (g y).1 ∧ x' = 9 then (p : Int) else if z = p ∧ x' = 6 then ((g y).1 : Int) else if z = (g p).1 ∧ x' = 9 then (y : Int) else if z = y ∧ x' = 6 then ((g p).1 : Int) else γ.get z x') = _
     rw [if_neg (fun e => rS hgn z hz y hy e.1), if_neg (fun e => hx' e.2), if_neg (fun e => rS hgn z hz p hpn e.1), if_neg (fun e => hx' e.2), s4.get]
    refine ih p (sw g y p) M5 δ (j + 1) k hpa hpn (by omega) hB5 hst5 (aJE (hl.sm s4) hgn hy hpn hpy s5) ?_ ?_ ((aDY hnn hy hpn).trans hp) (hho.step hnn hy ha) (fun e => aC6.step hnn hy hho ha (hbf e)) ?_ (by omega)
    ·exact (aKE hnn hy hpn).nodup_iff.2 hgn
    ·rw [← hgy]; unfold sw; rw [if_neg (fun e => hpy e.symm), if_pos rfl]
    ·refine ((((((hc.trans s4.lJ).put (f := 6) (v := ((g p).1 : Int)) cy).put (f := 9) (v := (y : Int)) cip).put (f := 6) (v := ((g y).1 : Int)) cp).put (f := 9) (v := (p : Int)) ciy).trans s5.lJ).mono (fun _ h => h) ?_
     omega
   cases any with
   | true =>
    rw [Bool.not_true, mT]
    exact rise M3 β.tick hB3 (AS.aN.mono (by omega)) (fun e => by cases e)
   | false =>
    rw [Bool.not_false, dU]
    refine qS hB3 (AS.aN.nd (hl y hy)) (AS.aN.nd (hl p hpn)) fun M4 γ hB4 s4 => ?_
    rw [bU]
    by_cases hbf : Bf (g y) (g p)
    ·rw [decide_eq_true hbf, Bool.not_true, mT]
     exact rise M4 γ hB4 ((AS.aN.trans s4).mono (by omega)) (fun _ => hbf)
    ·rw [decide_eq_false hbf, Bool.not_false, dU]
     have s5 : AS.Sm 7 β γ := (AS.aN.trans s4).mono (by omega)
     refine h M4 γ g y hB4 (hs.sm s5) (hl.sm s5) hy hgy hp (fun e => by cases e) (fun _ => hho.done hnn (hhd rfl) fun q r hq => ?_) ((hc.trans s5.lJ).mono (fun _ h => h) (by omega))
     rw [ha] at hq
     cases hq
     exact Bf.tot hbf fun e => hpy (kQ hgn y hy p hpn e)
 exact ⟨(mW b x).length + 1, key (mW b x) x f M1 α.tick 0 _ rfl hx (by omega) hA1 (hst.sm AS.aN) (hlb.sm AS.aN) fO rfl (List.Perm.refl _) hH hD (AS.aN.lJ.mono (fun _ h => h) (by omega)) (by omega)⟩
end
end HL
namespace HL
section
variable {w0 : World} {M M0 F : Mem} {R : VP}
theorem aA.aLQ {s : SV} {l : List cW} {Q : cY} (h : aA w0 F M (star (Es s l) Q)) : s.n = l.length := h.xS.len
theorem yY.tail {s : SV} {l : List cW} (h : yY w0 M s l) {i : Nat} (hi : i ≤ l.length) : gK w0 M (if s.c = i then s.a else s.a.map (·.add (i * 2))) (gA (l.drop i)) := fun j v hj => by
 have h1 := h.cells M (Mem.le_refl _) (i * 2 + j) v (by rw [aA0, List.getElem?_drop] at hj; exact hj)
 obtain ⟨ad, ea, hr⟩ := h1
 have hjl := (List.getElem?_eq_some_iff.1 hj).1
 rw [dW, List.length_drop] at hjl
 have hlen := h.len
 have hcap := h.cap
 rw [if_neg (by omega), ea]
 exact ⟨_, rfl, by rw [add_add]; exact hr⟩
end
end HL
namespace HL
abbrev tRk : TypeId := 276
def aDS (l : List cW) : Prop := l.Pairwise fun a b => a.2 ≤ b.2
theorem aBv {P S T : List cW} {x y : cW} : (P ++ x :: (S ++ y :: T))[P.length]? = some x := by simp
theorem aBq {P S T : List cW} {x y : cW} : (P ++ x :: (S ++ y :: T))[P.length + 1 + S.length]? = some y := by
 rw [List.getElem?_append_right (by omega), show P.length + 1 + S.length - P.length = S.length + 1 from by omega, List.getElem?_cons_succ]
 simp
theorem aIt {P S T : List cW} {x y : cW} : ((P ++ x :: (S ++ y :: T)).set (P.length + 1 + S.length) x).set P.length y = P ++ y :: (S ++ x :: T) := by
 rw [List.set_comm _ _ (by omega)]
 rw [List.set_append_right _ _ (Nat.le_refl _), Nat.sub_self, List.set_cons_zero, List.set_append_right _ _ (by omega), show P.length + 1 + S.length - P.length = S.length + 1 from by omega, List.set_cons_succ,
  List.set_append_right _ _ (Nat.le_refl _), Nat.sub_self, List.set_cons_zero]
section
variable {w0 : World} {M M0 F : Mem} {R : VP}
theorem yY.ldR {s : SV} {l : List cW} (h : yY w0 M0 s l) {j : Nat} {x : cW} (hj : l[j]? = some x) : ∃ a, s.a = some a ∧ ∀ M, Mem.le M0 M → (aH PP w0).ld 276 (a.add (j * 2)) M = some (.agg #[.int .i64 x.1, .int .i64 x.2]) := by
 obtain ⟨a, ea, hr⟩ := h.ad hj
 refine ⟨a, ea, fun M hM => ?_⟩
 obtain ⟨r1, r2⟩ := hr M hM
 exact c9 (cs := [.int .i64 x.1, .int .i64 x.2]) W.aJt (fun f v hv => by
  match f, hv with
  | 0, hv => simp at hv; subst hv; rw [add_add]; exact r1
  | 1, hv => simp at hv; subst hv; rw [add_add]; exact r2)
theorem rdR {s : SV} {l : List cW} (h : yY w0 M0 s l) (hl : Mem.le M0 M) {i : Int} (j : Nat) (e : i = (j : Int)) {x : cW} (hj : l[j]? = some x) {K : Int → Int → Prop} (hK : K x.1 x.2) :
  nc s.a fun a => (0 ≤ i ∧ i < ((s.n : Nat) : Int)) ∧ ob ((aH PP w0).ld 276 (a.add (i.toNat * 2)) M) fun v => shA v fun l5 => dA l5 fun u6 r7 => nA .i64 u6 fun n8 => dA r7 fun u9 r10 => nA .i64 u9 fun n11 => qB r10 (K n8 n11) := by
 subst e
 obtain ⟨a, ea, hr⟩ := h.ldR hj
 have hlt := (List.getElem?_eq_some_iff.1 hj).1
 have := h.len
 rw [ea, aX, Int.toNat_natCast, hr M hl]
 simp only [aC, a9, aU, aL, aT]
 exact ⟨⟨by omega, by omega⟩, hK⟩
theorem aLs {s x : SV} {l m : List cW} {Q : cY} (h : aA w0 F M (star (Es s l) Q)) (hx : yY w0 M x m) (hb : l.length + m.length ≤ 137438953472) {K : VP} (hK : ∀ M' s', aA w0 F M' (star (Es s' (l ++ m)) Q) → K s'.v M') :
  (aH PP w0).app #[274, 274] 274 [SV.v s, SV.v x] K M := by
 obtain ⟨F', h1, h2, h3⟩ := aA.slk h
 have hl := h1.xS.len
 refine aCh (k := 2) Tryz.underlying274 W.aJb h2 h1 (news := gA m) (by rw [dW, hx.len]) (hx.cells M (Mem.le_refl _)) hx.nul (tX m) (by decide) (by rw [hl, hx.len]; exact hb) fun M' s' l1 l2 _ => ?_
 refine hK M' s' (h3 M' s' _ ?_ l1)
 rw [gO]; exact l2
theorem aKQ {P : cY} (h : aA w0 F M P) (x y : Int) {K : VP} (hK : ∀ M' s', Mem.le M M' → aA w0 F M' (star (Es s' [(x, y)]) P) → K s'.v M') : (aH PP w0).bsl 274 1 [(0, .agg #[.int .i64 x, .int .i64 y])] K M := by
 refine sU (n := 1) (cells := #[.int .i64 x, .int .i64 y]) Tryz.underlying274 W.aJb (by decide) (by kernel_rfl) fun b hb hw => ?_
 have l1 : Mem.le M (M.set b (.row (#[Value.int .i64 x, .int .i64 y] : Array Value).toList 276)) := Mem.fN _ hb
 exact hK _ ⟨some ⟨b, 0, none⟩, 1, 1⟩ l1 (aA.xO h l1 (vZ.new (n := 1) hb (cM.new hw) rfl))
theorem stR {s : SV} {l : List cW} {Q : cY} (h : aA w0 F M (star (Es s l) Q)) {i : Int} (j : Nat) (e : i = (j : Int)) (hj : j < l.length) {x y : Int} {K : Mem → Prop} (hK : ∀ M', aA w0 F M' (star (Es s (l.set j (x, y))) Q) → K M') :
  nc s.a fun a => (0 ≤ i ∧ i < ((s.n : Nat) : Int)) ∧ (aH PP w0).st 276 (a.add (i.toNat * 2)) (.agg #[.int .i64 x, .int .i64 y]) (fun M' => K M') M := by
 subst e
 have hr := h.xS
 obtain ⟨r, ⟨r1, r2, rfl, h1, h2⟩, h3⟩ := h
 rcases h1 with ⟨rfl, h0, _⟩ | ⟨b, rest, e, ha, hl, hl2, rfl⟩
 ·have := hr.len; simp at this; omega
 ·rw [ha, aX, Int.toNat_natCast, add_eq, Nat.zero_add]
  rw [dW] at hl hl2
  refine ⟨⟨by omega, by have := hr.len; omega⟩, ?_⟩
  refine gZ (vs := [.int .i64 x, .int .i64 y]) W.aJt (h3.own List.mem_cons_self) (by rw [List.length_append, dW]; simp; omega) (fun v hv => by simp at hv; rcases hv with rfl | rfl <;> rfl) ?_
  refine hK _ ⟨_, ⟨_, r2, rfl, .inr ⟨b, rest, e, ha, by rw [dW, List.length_set]; exact hl, by rw [dW, List.length_set]; exact hl2, rfl⟩, h2⟩, ?_⟩
  have hov : eH (gA l ++ rest) (j * 2) [.int .i64 x, .int .i64 y] = gA (l.set j (x, y)) ++ rest := by
   have h1 : l = l.take j ++ (l[j] :: l.drop (j + 1)) := by rw [← List.drop_eq_getElem_cons hj, List.take_append_drop]
   have h2 : l.set j (x, y) = l.take j ++ ((x, y) :: l.drop (j + 1)) := by rw [List.set_eq_take_append_cons_drop, if_pos hj]
   rw [h2, gO, pU]
   conv => lhs; rw [h1, gO, pU]
   have := eM (gA (l.take j)) [.int .i64 l[j].1, .int .i64 l[j].2] (gA (l.drop (j + 1)) ++ rest) [.int .i64 x, .int .i64 y] rfl (o := j * 2) (by rw [dW, List.length_take]; omega)
   simpa using this
  rw [hov]
  exact h3.upd
theorem aLl {s : SV} {l l' : List cW} {Q : cY} (h : aA w0 F M (star (Es s l) Q)) {i1 i2 : Int} (p q : Nat) (e1 : i1 = (p : Int)) (e2 : i2 = (q : Int)) {x y : cW} (hp : l[p]? = some x) (hq : l[q]? = some y) (hl : (l.set p y).set q x = l') {K : Mem → Prop} (hK : ∀ M', aA w0 F M' (star (Es s l') Q) → K M') :
  nc s.a fun a2 => (0 ≤ i2 ∧ i2 < ((s.n : Nat) : Int)) ∧ ob ((aH PP w0).ld 276 (a2.add (i2.toNat * 2)) M) fun v3 => shA v3 fun l4 => dA l4 fun u5 r6 => nA .i64 u5 fun n7 => dA r6 fun u8 r9 => nA .i64 u8 fun n10 => qB r9
   (nc s.a fun a11 => (0 ≤ i1 ∧ i1 < ((s.n : Nat) : Int)) ∧ ob ((aH PP w0).ld 276 (a11.add (i1.toNat * 2)) M) fun v12 => shA v12 fun l13 => dA l13 fun u14 r15 => nA .i64 u14 fun n16 => dA r15 fun u17 r18 => nA .i64 u17 fun n19 => qB r18
    (nc s.a fun a20 => (0 ≤ i1 ∧ i1 < ((s.n : Nat) : Int)) ∧ (aH PP w0).st 276 (a20.add (i1.toNat * 2)) (.agg #[.int .i64 n7, .int .i64 n10]) (fun M21 =>
     nc s.a fun a22 => (0 ≤ i2 ∧ i2 < ((s.n : Nat) : Int)) ∧ (aH PP w0).st 276 (a22.add (i2.toNat * 2)) (.agg #[.int .i64 n16, .int .i64 n19]) (fun M23 => K M23) M21) M)) := by
 subst hl
 refine rdR h.xS (Mem.le_refl _) q e2 hq ?_
 refine rdR h.xS (Mem.le_refl _) p e1 hp ?_
 have uV := (List.getElem?_eq_some_iff.1 hp).1
 have hql := (List.getElem?_eq_some_iff.1 hq).1
 refine stR h p e1 uV fun M1 h1 => ?_
 refine stR h1 q e2 (by simpa using hql) fun M2 h2 => ?_
 exact hK M2 h2
theorem aIK {x y : cW} (hx : 0 ≤ x.2 ∧ x.2 ≤ 1000000) (hy : 0 ≤ y.2 ∧ y.2 ≤ 1000000) (h : ∀ M' n, Mem.le M M' → (n < 0 ↔ x.2 < y.2) → R (.int .i64 n) M') : C PP w0 Id.m5 #[.agg #[.int .i64 x.1, .int .i64 x.2], .agg #[.int .i64 y.1, .int .i64 y.2]] R M := by
 apply m5.go
 unfold m5.T aJ
 intro b1 hb1 hw1
 intro b2 hb2 hw2
 have o1 : cM w0 (M.set b1 (.row [.int .i64 x.1, .int .i64 x.2] 276)) b1 [.int .i64 x.1, .int .i64 x.2] 276 := cM.new hw1
 have l2 := Mem.fN (M := M.set b1 (.row [.int .i64 x.1, .int .i64 x.2] 276)) (.row [.int .i64 y.1, .int .i64 y.2] 276) hb2
 have o2 := o1.le l2
 have o3 : cM w0 ((M.set b1 (.row [.int .i64 x.1, .int .i64 x.2] 276)).set b2 (.row [.int .i64 y.1, .int .i64 y.2] 276)) b2 [.int .i64 y.1, .int .i64 y.2] 276 := cM.new hw2
 have e1 : rd w0 _ ⟨b1, 1, none⟩ = some (.int .i64 x.2) := aM (o := 1) o2
 have e3 : rd w0 _ ⟨b2, 1, none⟩ = some (.int .i64 y.2) := aM (o := 1) o3
 simp only [aP W.c2, add_eq, Nat.zero_add, e1, e3, aC, aL]
 rw [bC (by omega)]
 refine h _ _ (Mem.le_trans (Mem.fN _ hb1) l2) ?_
 by_cases h1 : (1 : Int) < x.2 - y.2
 ·simp only [if_pos h1]; split <;> omega
 ·simp only [if_neg h1]; split <;> omega
theorem zT {s : SV} {Q : cY} (A X B : List cW) {a b : Int} (hrk : ∀ x ∈ X, 0 ≤ x.2 ∧ x.2 ≤ 1000000) (hb : (A ++ (X ++ B)).length ≤ 1000000) (h : aA w0 F M (star (Es s (A ++ (X ++ B))) Q)) (ea : a = (A.length : Int)) (eb : b = ((A.length + X.length : Nat) : Int))
  (hR : ∀ M' Z, aDS Z → Z.Perm X → aA w0 F M' (star (Es s (A ++ (Z ++ B))) Q) → R (.tuple #[]) M') : Go.Proofs.YtodobkbnmjgkdaaGreat.HL.C PP w0 Id.jX #[SV.v s, .int .i64 a, .int .i64 b, .func (.func Id.m5) #[] #[]] R M := by
 apply jX.go _ s a b (Id.m5, #[])
 intro aB H
 unfold jX.T aJ
 simp only [List.length_append] at hb
 subst ea eb
 have key : ∀ (k : Nat) (Z1 X2 : List cW) (M' : Mem), X2.length < k → aDS Z1 → (Z1 ++ X2).Perm X → aA w0 F M' (star (Es s (A ++ (Z1 ++ (X2 ++ B)))) Q) →
   jX.L1 aB k s (A.length : Int) ((A.length + X.length : Nat) : Int) (Id.m5, #[]) ((A.length + Z1.length : Nat) : Int) M' := by
  intro k
  induction k with
  | zero => intro Z1 X2 M' h1; omega
  | succ k ih =>
   intro Z1 X2 M' hk hsr hp hH
   have hlen := hp.length_eq
   rw [List.length_append] at hlen
   refine Eq.mpr (H.L1 ..) ?_
   unfold jX.L1.T aJ
   rw [eO]
   split
   ·match X2, hk, hp, hH, hlen with
    | [], _, _, _, hlen => simp at hlen; omega
    | x :: X2, hk, hp, hH, hlen =>
     simp only [List.length_cons] at hk hlen
     have hxr := hrk x (hp.mem_iff.1 (by simp))
     have key2 : ∀ (k' : Nat) (P S : List cW) (M2 : Mem), P.length < k' → Z1 = P ++ S → (∀ y ∈ S, x.2 < y.2) → aA w0 F M2 (star (Es s (A ++ (P ++ x :: (S ++ (X2 ++ B))))) Q) →
       jX.L2 aB k k' s (A.length : Int) ((A.length + X.length : Nat) : Int) (Id.m5, #[]) ((A.length + Z1.length : Nat) : Int) ((A.length + P.length : Nat) : Int) M2 := by
      intro k'
      induction k' with
      | zero => intro P S M2 h1; omega
      | succ k' ih2 =>
       intro P S M2 hk' hZ hS h2
       have hzl := congrArg List.length hZ
       rw [List.length_append] at hzl
       have fin : (∀ y ∈ P, y.2 ≤ x.2) → ∀ M3, aA w0 F M3 (star (Es s (A ++ (P ++ x :: (S ++ (X2 ++ B))))) Q) → jX.L1 aB k s (A.length : Int) ((A.length + X.length : Nat) : Int) (Id.m5, #[]) (p4 (((A.length + Z1.length : Nat) : Int) + 1)) M3 := by
        intro hP M3 h3
        rw [cR (by omega)]
        have := ih (P ++ x :: S) X2 M3 (by omega) (by
         rw [hZ] at hsr
         obtain ⟨q1, q2, q3⟩ := List.pairwise_append.1 hsr
         refine List.pairwise_append.2 ⟨q1, List.pairwise_cons.2 ⟨fun y hy => Int.le_of_lt (hS y hy), q2⟩, fun u hu v hv => ?_⟩
         rcases List.mem_cons.1 hv with rfl | hv
         ·exact hP u hu
         ·exact q3 u hu v hv) (by
         refine List.Perm.trans ?_ hp
         rw [hZ, List.append_assoc, List.append_assoc, List.cons_append]
         exact (List.perm_middle.symm).append_left P) (by
         rw [show A ++ ((P ++ x :: S) ++ (X2 ++ B)) = A ++ (P ++ x :: (S ++ (X2 ++ B))) from by simp]; exact h3)
        rw [show A.length + (P ++ x :: S).length = A.length + Z1.length + 1 from by rw [List.length_append, List.length_cons]; omega] at this
        exact this
       refine Eq.mpr (H.L2 ..) ?_
       unfold jX.L2.T aJ
       rw [eO]
       split
       ·rcases List.eq_nil_or_concat P with rfl | ⟨P', y, hPe⟩
        ·simp at *
        ·rw [List.concat_eq_append] at hPe
         subst hPe
         rw [List.length_append, List.length_singleton] at hk' hzl
         have hyr := hrk y (hp.mem_iff.1 (by rw [hZ]; simp))
         have el : A ++ ((P' ++ [y]) ++ x :: (S ++ (X2 ++ B))) = (A ++ P') ++ y :: ([] ++ x :: (S ++ (X2 ++ B))) := by simp
         have e0 : ((A.length + (P' ++ [y]).length : Nat) : Int) = (((A ++ P').length + 1 + ([] : List cW).length : Nat) : Int) := by simp only [List.length_append, List.length_singleton, List.length_nil]; omega
         have e1 : p4 (((A.length + (P' ++ [y]).length : Nat) : Int) - 1) = (((A ++ P').length : Nat) : Int) := by
          rw [bC (by simp only [List.length_append, List.length_singleton]; omega)]; simp only [List.length_append, List.length_singleton]; omega
         have h2' := h2
         rw [el] at h2'
         refine rdR h2'.xS (Mem.le_refl _) _ e0 aBq ?_
         refine rdR h2'.xS (Mem.le_refl _) _ e1 aBv ?_
         show Go.Proofs.YtodobkbnmjgkdaaGreat.HL.C PP w0 Id.m5 #[.agg #[.int .i64 x.1, .int .i64 x.2], .agg #[.int .i64 y.1, .int .i64 y.2]] _ _
         refine aIK hxr hyr fun M3 nn l3 hnn => ?_
         rw [aL, eO]
         split
         ·rename_i hlt
          refine Eq.mpr (H.J3 ..) ?_
          unfold jX.J3.T aJ
          refine aLl (h2'.le l3) (l' := (A ++ P') ++ x :: ([] ++ y :: (S ++ (X2 ++ B)))) _ _ e0 e1 aBq aBv aIt fun M4 h4 => ?_
          rw [e1]
          have := ih2 P' (y :: S) M4 (by omega) (by rw [hZ]; simp) (fun z hz => ?_) (by
           rw [show A ++ (P' ++ x :: (y :: S ++ (X2 ++ B))) = (A ++ P') ++ x :: ([] ++ y :: (S ++ (X2 ++ B))) from by simp]; exact h4)
          ·rw [List.length_append]; exact this
          ·rcases List.mem_cons.1 hz with rfl | hz
           ·exact hnn.1 hlt
           ·exact hS z hz
         ·rename_i hlt
          have hxy : y.2 ≤ x.2 := by
           have : ¬ x.2 < y.2 := fun h => hlt (hnn.2 h)
           omega
          refine fin (fun z hz => ?_) M3 (h2.le l3)
          rcases List.mem_append.1 hz with hz | hz
          ·have : z.2 ≤ y.2 := by
            rw [hZ] at hsr
            exact (List.pairwise_append.1 (List.pairwise_append.1 hsr).1).2.2 z hz y (List.mem_singleton.2 rfl)
           omega
          ·rw [List.mem_singleton.1 hz]; exact hxy
       ·have hP : P = [] := List.length_eq_zero_iff.1 (by omega)
        subst hP
        exact fin (fun y hy => by cases hy) M2 h2
     exact ⟨Z1.length + 1, key2 (Z1.length + 1) Z1 [] M' (by omega) (by simp) (fun y hy => by cases hy) hH⟩
   ·have hX2 : X2 = [] := List.length_eq_zero_iff.1 (by omega)
    subst hX2
    rw [List.append_nil] at hp
    exact hR M' Z1 hsr hp hH
 cases X with
 | nil =>
  refine ⟨1, ?_⟩
  refine Eq.mpr (H.L1 ..) ?_
  unfold jX.L1.T aJ
  rw [cR (by omega), eO, if_neg (by simp only [List.length_nil]; omega)]
  exact hR M [] List.Pairwise.nil (List.Perm.refl _) h
 | cons x X =>
  have := key (X.length + 1) [x] X M (by omega) (List.pairwise_singleton _ _) (List.Perm.refl _) h
  rw [cR (by simp at hb; omega)]
  exact ⟨X.length + 1, this⟩
theorem aHJ {s : SV} {Q : cY} {l : List cW} (hrk : ∀ x ∈ l, 0 ≤ x.2 ∧ x.2 ≤ 1000000) (hb : l.length ≤ 20) (h : aA w0 F M (star (Es s l) Q))
  (hR : ∀ M' Z, aDS Z → Z.Perm l → aA w0 F M' (star (Es s Z) Q) → R (.tuple #[]) M') : Go.Proofs.YtodobkbnmjgkdaaGreat.HL.C PP w0 Id.aAB #[SV.v s, .func (.func Id.m5) #[] #[]] R M := by
 apply aAB.go _ s (Id.m5, #[])
 unfold aAB.T aJ
 have hsn := h.aLQ
 apply nD.go _ s _ (Id.m5, #[])
 intro aB H
 unfold nD.T aJ
 have fin : ∀ (k : Nat) (A X : List cW) (M1 : Mem) (b : Int), l.length = A.length + X.length → (l.length : Int) < b → (∀ x ∈ X, 0 ≤ x.2 ∧ x.2 ≤ 1000000) → aA w0 F M1 (star (Es s (A ++ (X ++ []))) Q) → (∀ M' Z, aDS Z → Z.Perm X → aA w0 F M' (star (Es s (A ++ (Z ++ []))) Q) → R (.tuple #[]) M') →
   nD.L1 aB (k + 1) s ((s.n : Nat) : Int) (Id.m5, #[]) 20 (A.length : Int) b M1 := by
  intro k A X M1 b hl hbl hrX h1 hR1
  refine Eq.mpr (H.L1 ..) ?_
  unfold nD.L1.T aJ
  rw [eO, if_neg (by omega)]
  refine zT A X [] hrX (by simp; omega) h1 rfl (by omega) fun M2 Z hs hp h2 => ?_
  refine ⟨1, ?_⟩
  refine Eq.mpr (H.L2 ..) ?_
  unfold nD.L2.T aJ
  rw [eO, if_neg (by omega)]
  exact hR1 M2 Z hs hp h2
 by_cases h20 : l.length = 20
 ·refine ⟨2, ?_⟩
  refine Eq.mpr (H.L1 ..) ?_
  unfold nD.L1.T aJ
  rw [eO, if_pos (by omega)]
  refine zT [] l [] hrk (by simp; omega) (by simpa using h) rfl (by simp; omega) fun M2 Z hs hp h2 => ?_
  rw [bC (by omega)]
  have hZl := hp.length_eq
  have := fin 0 Z [] M2 (20 + 20) (by simp; omega) (by omega) (fun x hx => by cases hx) (by simpa using h2) fun M3 Z2 _ hp2 h3 => by
   have : Z2 = [] := List.eq_nil_of_length_eq_zero (by rw [hp2.length_eq]; rfl)
   subst this
   exact hR M3 Z hs hp (by simpa using h3)
  rw [hZl, h20] at this
  exact this
 ·exact ⟨1, fin 0 [] l M 20 (by simp) (by omega) hrk (by simpa using h) fun M' Z hs hp h' => hR M' Z hs hp (by simpa using h')⟩
def EsO (s : SV) (l : List cW) : cY := fun r => (s.n = 0 ∧ s.c = 0 ∧ l = [] ∧ r = []) ∨ ∃ b pre rest e, s.a = some ⟨b, pre.length, none⟩ ∧ s.n = l.length ∧ l.length * 2 + rest.length = s.c * 2 ∧ r = [(b, pre ++ (gA l ++ rest), e)]
theorem EsO.of {s : SV} {l : List cW} {Q : cY} (h : aA w0 F M (star (Es s l) Q)) : aA w0 F M (star (EsO s l) Q) :=
 h.imp fun r ⟨r1, r2, e, h1, h2⟩ => ⟨r1, r2, e, by
  rcases h1 with ⟨rfl, h0, e0⟩ | ⟨b, rest, e', ha, hl, hl2, e1⟩
  ·have : l = [] := by
    cases l with
    | nil => rfl
    | cons x l => rw [pU] at h0; cases h0
   exact .inl ⟨rfl, rfl, this, e0⟩
  ·rw [dW] at hl hl2
   exact .inr ⟨b, [], rest, e', ha, by omega, by omega, e1⟩, h2⟩
theorem EsO.rd {s : SV} {l : List cW} {Q : cY} (h : aA w0 F M (star (EsO s l) Q)) : yY w0 M s l := by
 obtain ⟨r, ⟨r1, r2, rfl, h1, h2⟩, h3⟩ := h
 rcases h1 with ⟨e1, e2, rfl, rfl⟩ | ⟨b, pre, rest, e, ha, hl, hl2, rfl⟩
 ·exact ⟨e1, by omega, fun _ => e1, fun M2 _ j v hj => by simp [gA] at hj⟩
 ·have ho := h3.own (b := b) (cs := pre ++ (gA l ++ rest)) (e := e) List.mem_cons_self
  refine ⟨hl, by omega, fun e0 => (by rw [ha] at e0; cases e0), fun M2 hM j v hj => ⟨⟨b, pre.length, none⟩, ha, ?_⟩⟩
  have hjl := (List.getElem?_eq_some_iff.1 hj).1
  rw [add_eq, aM (ho.le hM), List.getElem?_append_right (by omega), List.getElem?_append_left (by omega), show pre.length + j - pre.length = j from by omega]
  exact hj
theorem EsO.drop {s : SV} {l : List cW} {Q : cY} (h : aA w0 F M (star (EsO s l) Q)) {m : Nat} (hm : m ≤ l.length) (h0 : 0 < m) : aA w0 F M (star (EsO ⟨if s.c = m then s.a else s.a.map (·.add (m * 2)), s.n - m, s.c - m⟩ (l.drop m)) Q) := by
 obtain ⟨r, ⟨r1, r2, rfl, h1, h2⟩, h3⟩ := h
 rcases h1 with ⟨e1, e2, rfl, rfl⟩ | ⟨b, pre, rest, e, ha, hl, hl2, rfl⟩
 ·simp at hm; omega
 ·by_cases hc : s.c = m
  ·have : l.drop m = [] := List.drop_eq_nil_of_le (by omega)
   rw [this]
   refine ⟨[] ++ r2, ⟨[], r2, rfl, .inl ⟨by simp only; omega, by simp only; omega, rfl, rfl⟩, h2⟩, ?_⟩
   exact (h3.perm List.perm_append_comm).drop
  ·rw [if_neg hc, ha]
   refine ⟨_, ⟨_, r2, rfl, .inr ⟨b, pre ++ gA (l.take m), rest, e, ?_, by simp; omega, by simp; omega, rfl⟩, h2⟩, ?_⟩
   ·simp only [Option.map_some, add_eq, List.length_append, dW, List.length_take, Option.some.injEq, Addr.mk.injEq, true_and, and_true]
    omega
   ·have : pre ++ gA (l.take m) ++ (gA (l.drop m) ++ rest) = pre ++ (gA l ++ rest) := by
     rw [List.append_assoc, ← List.append_assoc (gA (l.take m)), ← gO, List.take_append_drop]
    rw [this]; exact h3
theorem aIv {b o n c : Nat} {x : SV} {cs news : List Value} {e : TypeId} {Q : cY} (h : aA w0 F M (star (aY b cs e) Q)) (m : Nat) (em : m = min x.n n) (hn : news.length = m * 2) (hcn : gK w0 M x.a news) (hnn : x.a = none → m = 0) (hone : ∀ v ∈ news, bQ v = true) (hl : o + m * 2 ≤ cs.length)
  {K : VP} (hK : ∀ M', aA w0 F M' (star (aY b (eH cs o news) e) Q) → K (.int .i64 (m : Int)) M') : (aH PP w0).cpy #[274, 274] 3 [SV.v ⟨some ⟨b, o, none⟩, n, c⟩, SV.v x] K M := by
 obtain ⟨inf, hi, hz, hsz, _⟩ := W.aJb
 refine aJ8 (d := ⟨some ⟨b, o, none⟩, n, c⟩) Tryz.underlying274 hi m em (by rw [hsz]; exact hn) hcn hnn (fun e0 => by cases e0) fun a ea => ?_
 cases ea
 exact ⟨b, o, cs, e, rfl, h.bA, by omega, hone, hK _ h.kZ⟩
theorem aLd {b : Nat} {cs : List Value} {e : TypeId} {Q : cY} (h : aA w0 F M (star (aY b cs e) Q)) {o : Nat} {news : List Value} (hg : ∀ j v, news[j]? = some v → cs[o + j]? = some v) : gK w0 M (some ⟨b, o, none⟩) news := fun j v hj =>
 ⟨_, rfl, by rw [add_eq, aM h.bA]; exact hg j v hj⟩
theorem aJe {Q : cY} {s x : SV} {l : List cW} {e : cW} (h : aA w0 F M (star (EsO s l) (star (Es x [e]) Q))) {i : Nat} (hi : i ≤ l.length) (hb : l.length ≤ 100000) (hR : ∀ M' s', aA w0 F M' (star (EsO s' (l.take i ++ e :: l.drop i)) Q) → R s'.v M') :
  C PP w0 Id.dO #[SV.v s, .int .i64 (i : Int), SV.v x] R M := by
 have hrs := EsO.rd h
 have hsn := hrs.len
 have hcap := hrs.cap
 have hrx := h.right.xS
 have hxn : x.n = 1 := hrx.len
 have hx1 : x.a ≠ none := fun e9 => by have := hrx.nul e9; omega
 have hxc : gK w0 M x.a (gA [e]) := hrx.cells M (Mem.le_refl _)
 have hQ : aA w0 F M Q := h.right.right
 obtain ⟨inf, hinf, hzz, hsz, hzs, hb1, hb2⟩ := W.aJb
 apply dO.go
 unfold dO.T aJ
 refine ⟨⟨by omega, by omega, by omega⟩, ?_⟩
 rw [eW, if_neg (by omega), eW]
 split
 ·rename_i hie
  have hil : i = l.length := by omega
  rw [hil, List.take_length, List.drop_length] at hR
  refine aD5 (s := s) (x := x) (olds := gA l) (news := gA [e]) Tryz.underlying274 hinf hzz (by rw [dW, hsz, hsn]) (hrs.cells M (Mem.le_refl _)) (fun e0 => ?_) (by rw [dW, hsz, hxn]; rfl) hxc (fun e0 => absurd e0 hx1) hb1 ?_ (fun _ e0 => by omega) (fun a ha hfit => ?_) (fun hgr b c hb0 hw0 hc => ?_)
  ·refine ⟨hrs.nul e0, ?_⟩
   obtain ⟨r, ⟨r1, r2, rfl, h1, h2⟩, h3⟩ := h
   rcases h1 with ⟨_, e2, _⟩ | ⟨b, pre, rest, e', ha, _⟩
   ·exact e2
   ·rw [ha] at e0; cases e0
  ·exact Nat.le_trans (Nat.mul_le_mul (show s.n + x.n ≤ 200000 by omega) hb2) (by decide)
  ·obtain ⟨r, ⟨r1, r2, rfl, h1, h2⟩, h3⟩ := h
   rcases h1 with ⟨e1, e2, _⟩ | ⟨b, pre, rest, e', ha', hl, hl2, rfl⟩
   ·omega
   ·rw [ha] at ha'; cases ha'
    have ho := h3.own (b := b) (cs := pre ++ (gA l ++ rest)) (e := e') List.mem_cons_self
    refine ⟨b, pre.length, _, e', rfl, ho, by rw [hsz]; simp only [List.length_append, dW]; omega, tX _, ?_⟩
    show shS (SV.v ⟨some ⟨b, pre.length, none⟩, s.n + x.n, s.c⟩) _
    rw [aR]
    refine hR _ ⟨some ⟨b, pre.length, none⟩, s.n + x.n, s.c⟩ ?_
    obtain ⟨c0, c1, rest', hrest⟩ : ∃ c0 c1 rest', rest = c0 :: c1 :: rest' := by
     match rest, hl2 with
     | [], hl2 => simp at hl2; omega
     | [c0], hl2 => simp at hl2; omega
     | c0 :: c1 :: rest', _ => exact ⟨c0, c1, rest', rfl⟩
    have hov : eH (pre ++ (gA l ++ rest)) (pre.length + s.n * inf.size) (gA [e]) = pre ++ (gA (l ++ [e]) ++ rest') := by
     rw [hrest, hsz]
     have := eM (pre ++ gA l) [c0, c1] rest' (gA [e]) rfl (o := pre.length + s.n * 2) (by rw [List.length_append, dW]; omega)
     rw [List.append_assoc] at this
     rw [show (gA l ++ c0 :: c1 :: rest') = gA l ++ ([c0, c1] ++ rest') from by simp, this, gO]
     simp
    rw [hov]
    obtain ⟨r3, r4, rfl, g1, g2⟩ := h2
    have h4 : Fit w0 F (M.set b (.row (pre ++ (gA (l ++ [e]) ++ rest')) e')) ((b, pre ++ (gA (l ++ [e]) ++ rest'), e') :: (r3 ++ r4)) := h3.upd (cs' := pre ++ (gA (l ++ [e]) ++ rest')) (e' := e')
    have hrl : rest'.length + 2 = rest.length := by rw [hrest]; simp
    refine ⟨[(b, pre ++ (gA (l ++ [e]) ++ rest'), e')] ++ r4, ⟨[(b, pre ++ (gA (l ++ [e]) ++ rest'), e')], r4, rfl, .inr ⟨b, pre, rest', e', rfl, ?_, ?_, rfl⟩, g2⟩, (h4.perm (r' := ([(b, pre ++ (gA (l ++ [e]) ++ rest'), e')] ++ r4) ++ r3) (List.Perm.cons _ List.perm_append_comm)).drop⟩
    ·rw [List.length_append, List.length_singleton]
     show s.n + x.n = _
     omega
    ·rw [List.length_append, List.length_singleton]
     show _ = s.c * 2
     omega
  ·show shS (SV.v ⟨some ⟨b, 0, none⟩, s.n + x.n, c⟩) _
   rw [aR]
   refine hR _ ⟨some ⟨b, 0, none⟩, s.n + x.n, c⟩ ?_
   have hzlen : ∀ n, (iF (.agg #[.int .i64 0, .int .i64 0]) n).length = n * 2 := fun n => by rw [oD]; rfl
   have := hQ.xO (k := 2) (M' := M.set b (.row (gA l ++ gA [e] ++ iF (.agg #[.int .i64 0, .int .i64 0]) (c - (s.n + x.n))) 276)) (s := ⟨some ⟨b, 0, none⟩, s.n + x.n, c⟩) (l := gA (l ++ [e])) (Mem.fN _ hb0) (.inr ⟨b, iF (.agg #[.int .i64 0, .int .i64 0]) (c - (s.n + x.n)), 276, rfl, by
     rw [dW, List.length_append]; simp only [List.length_singleton]; omega, by
     rw [dW, List.length_append, hzlen]; simp only [List.length_singleton]; omega, hb0, by
     rw [gO]; exact cM.new hw0⟩)
   exact EsO.of this
 ·rename_i hie
  have hil : i < l.length := by omega
  have w1 : p4 (((s.n : Nat) : Int) + ((x.n : Nat) : Int)) = ((l.length + 1 : Nat) : Int) := by rw [bC (by omega)]; omega
  have w2 : p4 ((i : Int) + ((x.n : Nat) : Int)) = ((i + 1 : Nat) : Int) := by rw [bC (by omega)]; omega
  have w3 : p4 (((l.length + 1 : Nat) : Int) - (i : Int)) = ((l.length + 1 - i : Nat) : Int) := by rw [bC (by omega)]; omega
  have adz : ∀ a : Addr, a.add 0 = a := fun a => by simp [Addr.add]
  have hz : (if s.c = (0 : Int).toNat then s.a else s.a.map (·.add ((0 : Int).toNat * 2))) = s.a := by
   split
   ·rfl
   ·cases s.a with
    | none => rfl
    | some a => show some (a.add 0) = some a; rw [adz]
  have t0 : (0 : Int).toNat = 0 := rfl
  simp only [w1, w2, w3, hz]
  rw [eO]
  split
  ·rename_i hgr
   refine ⟨⟨by omega, by omega, by omega⟩, ?_⟩
   simp only [t0, Int.toNat_natCast, Nat.sub_zero]
   refine aJl (s := ⟨s.a, i, s.c⟩) (n := l.length + 1 - i) (olds := gA (l.take i)) Tryz.underlying274 Tryz.underlying3 hinf hzz (by rw [dW, List.length_take, hsz]; show min i l.length * 2 = i * 2; omega) (fun j v hj => ?_) (fun e9 => ?_) hb1 ?_ (by show s.c < i + (l.length + 1 - i); omega) (by rw [hsz]; omega) fun b c hb0 hw0 hc => ?_
   ·have hjl := (List.getElem?_eq_some_iff.1 hj).1
    refine hrs.cells M (Mem.le_refl _) j v ?_
    rw [aDp, List.getElem?_take_of_lt (by rw [dW, List.length_take] at hjl; omega)] at hj
    exact hj
   ·have := hrs.nul e9
    show i = 0
    omega
   ·show (i + (l.length + 1 - i)) * inf.bytes ≤ _
    exact Nat.le_trans (Nat.mul_le_mul (show i + (l.length + 1 - i) ≤ 200000 by omega) hb2) (by decide)
   ·show shS (Value.slice (some ⟨b, 0, none⟩) (i + (l.length + 1 - i)) c) _
    have hlen1 : i + (l.length + 1 - i) = l.length + 1 := by omega
    have hc' : l.length + 1 ≤ c := by have : i + (l.length + 1 - i) ≤ c := hc; omega
    rw [hlen1, rF]
    simp only
    refine ⟨⟨by omega, by omega, by omega⟩, ?_⟩
    have hzlen : ∀ n, (iF (.agg #[.int .i64 0, .int .i64 0]) n).length = n * 2 := fun n => by rw [oD]; rfl
    have hH1 := h.new hb0 hw0 (gA (l.take i) ++ iF (.agg #[.int .i64 0, .int .i64 0]) (l.length + 1 - i) ++ iF (.agg #[.int .i64 0, .int .i64 0]) (c - (l.length + 1))) 276
    generalize M.set b _ = M1 at hH1 ⊢
    generalize hZ1 : iF (.agg #[.int .i64 0, .int .i64 0]) (l.length + 1 - i) = Z1 at hH1
    generalize hZ2 : iF (.agg #[.int .i64 0, .int .i64 0]) (c - (l.length + 1)) = Z2 at hH1
    have hz1 : Z1.length = (l.length + 1 - i) * 2 := by rw [← hZ1, hzlen]
    have hz2 : Z2.length = (c - (l.length + 1)) * 2 := by rw [← hZ2, hzlen]
    change aA w0 F M1 (star (aY b (gA (l.take i) ++ Z1 ++ Z2) 276) (star (EsO s l) (star (Es x [e]) Q))) at hH1
    obtain ⟨c0, c1, Z1', hZ1'⟩ : ∃ c0 c1 Z1', Z1 = c0 :: c1 :: Z1' := by
     match Z1, hz1 with
     | [], hz1 => simp at hz1; omega
     | [c0], hz1 => simp at hz1; omega
     | c0 :: c1 :: Z1', _ => exact ⟨c0, c1, Z1', rfl⟩
    have hz1' : Z1'.length = (l.length - i) * 2 := by rw [hZ1'] at hz1; simp only [List.length_cons] at hz1; omega
    have tk : i * 2 = (gA (l.take i)).length := by rw [dW, List.length_take]; omega
    have hrx1 := (hH1.right.right).xS
    have e1 : (Value.slice (if c = i then some ⟨b, 0, none⟩ else (some (⟨b, 0, none⟩ : Addr)).map (·.add (i * 2))) (l.length + 1 - i) (c - i)) = SV.v ⟨some ⟨b, i * 2, none⟩, l.length + 1 - i, c - i⟩ := by
     rw [if_neg (by omega)]
     simp only [Option.map_some, add_eq, Nat.zero_add]; rfl
    rw [e1]
    have hm1 : 1 = min x.n (l.length + 1 - i) := by rw [hxn]; omega
    have hl1 : i * 2 + 1 * 2 ≤ (gA (l.take i) ++ Z1 ++ Z2).length := by simp only [List.length_append, ← tk, hz1, hz2]; omega
    have hca1 : gK w0 M1 x.a (gA [e]) := hrx1.cells _ (Mem.le_refl _)
    refine aIv (b := b) (o := i * 2) (n := l.length + 1 - i) (c := c - i) (x := x) (news := gA [e]) hH1 1 hm1 rfl hca1 (fun e9 => absurd e9 hx1) (tX _) hl1 fun M2 hH2 => ?_
    rw [aL]
    refine ⟨⟨by omega, by omega, by omega⟩, ⟨by omega, by omega, by omega⟩, ?_⟩
    have o1 : eH (gA (l.take i) ++ Z1 ++ Z2) (i * 2) (gA [e]) = (gA (l.take i) ++ gA [e]) ++ (Z1' ++ Z2) := by
     rw [hZ1', List.append_assoc]
     have := eM (gA (l.take i)) [c0, c1] (Z1' ++ Z2) (gA [e]) rfl tk
     simp only [List.cons_append, List.nil_append] at this ⊢
     rw [this, List.append_assoc]
    rw [o1] at hH2
    have hrs2 := EsO.rd hH2.right
    have e2 : (Value.slice (if c = i + 1 then some ⟨b, 0, none⟩ else (some (⟨b, 0, none⟩ : Addr)).map (·.add ((i + 1) * 2))) (l.length + 1 - (i + 1)) (c - (i + 1))) = SV.v ⟨some ⟨b, (i + 1) * 2, none⟩, l.length + 1 - (i + 1), c - (i + 1)⟩ := by
     rw [if_neg (by omega)]
     simp only [Option.map_some, add_eq, Nat.zero_add]; rfl
    have e3 : (Value.slice (if s.c = i then s.a else s.a.map (·.add (i * 2))) (s.n - i) (s.c - i)) = SV.v ⟨(if s.c = i then s.a else s.a.map (·.add (i * 2))), s.n - i, s.c - i⟩ := rfl
    rw [e2, e3]
    have hm2 : l.length - i = min (s.n - i) (l.length + 1 - (i + 1)) := by omega
    have hl2 : (i + 1) * 2 + (l.length - i) * 2 ≤ ((gA (l.take i) ++ gA [e]) ++ (Z1' ++ Z2)).length := by simp only [List.length_append, ← tk, hz1', hz2]; show _ ≤ i * 2 + 2 + _; omega
    refine aIv (b := b) (o := (i + 1) * 2) (n := l.length + 1 - (i + 1)) (c := c - (i + 1)) (x := ⟨(if s.c = i then s.a else s.a.map (·.add (i * 2))), s.n - i, s.c - i⟩) (news := gA (l.drop i)) hH2 (l.length - i) hm2 (by rw [dW, List.length_drop]) (hrs2.tail (by omega)) (fun e9 => ?_) (tX _) hl2 fun M3 hH3 => ?_
    ·simp only at e9
     rw [if_neg (by omega)] at e9
     have : s.a = none := by simpa using e9
     have := hrs.nul this; omega
    ·rw [aL]
     have o2 : eH ((gA (l.take i) ++ gA [e]) ++ (Z1' ++ Z2)) ((i + 1) * 2) (gA (l.drop i)) = gA (l.take i ++ e :: l.drop i) ++ Z2 := by
      have := eM (gA (l.take i) ++ gA [e]) Z1' Z2 (gA (l.drop i)) (by rw [dW, List.length_drop, hz1']) (o := (i + 1) * 2) (by rw [List.length_append, ← tk]; show (i + 1) * 2 = i * 2 + 2; omega)
      rw [this, gO, List.append_assoc, List.append_assoc]
      show _ = gA (l.take i) ++ (gA ([e] ++ l.drop i) ++ Z2)
      rw [gO, List.append_assoc]
     rw [o2] at hH3
     have hlt : (l.take i ++ e :: l.drop i).length = l.length + 1 := by simp; omega
     refine hR M3 ⟨some ⟨b, 0, none⟩, l.length + 1, c⟩ ?_
     obtain ⟨r, ⟨r1, r2, rfl, q1, r3, r4, rfl, q2, r5, r6, rfl, q3, q4⟩, q5⟩ := hH3
     refine ⟨r1 ++ r6, ⟨r1, r6, rfl, .inr ⟨b, [], Z2, 276, rfl, hlt.symm, by rw [hlt]; simp only; omega, q1⟩, q4⟩, (q5.perm (r' := (r1 ++ r6) ++ (r3 ++ r5)) ?_).drop⟩
     rw [List.append_assoc]
     refine List.Perm.append_left r1 ?_
     rw [← List.append_assoc]
     exact List.perm_append_comm
  ·rename_i hgr
   refine ⟨⟨by omega, by omega, by omega⟩, ⟨by omega, by omega, by omega⟩, ?_⟩
   simp only [t0, Int.toNat_natCast, Nat.sub_zero]
   obtain ⟨r, ⟨r1, r2, rfl, q1, r3, r4, rfl, q2, q3⟩, q4⟩ := h
   rcases q1 with ⟨e1, e2, _⟩ | ⟨b, pre, rest, e9, ha, hl, hl2, rfl⟩
   ·omega
   ·have fO := q4.nd
    rcases q2 with ⟨rfl, _⟩ | ⟨b2, rest2, e92, ha2, hl3, hl4, rfl⟩
    ·exact absurd rfl hx1
    ·have o1 := q4.own (b := b) (cs := pre ++ (gA l ++ rest)) (e := e9) (by simp)
     have o2 := q4.own (b := b2) (cs := gA [e] ++ rest2) (e := e92) (by simp)
     have eE : b2 ≠ b := fun e0 => by
      simp only [List.cons_append, List.nil_append, List.map_cons, List.nodup_cons, List.mem_cons, not_or] at fO
      exact fO.1.1 e0.symm
     have hH1 : aA w0 F M (star (aY b (pre ++ (gA l ++ rest)) e9) (star (aY b2 (gA [e] ++ rest2) e92) Q)) := ⟨_, ⟨_, _, rfl, rfl, _, r4, rfl, rfl, q3⟩, q4⟩
     simp only [ha, Option.map_some, add_eq]
     have hc1 : ¬ s.c = i := by omega
     obtain ⟨c0, c1, rest', hrest⟩ : ∃ c0 c1 rest', rest = c0 :: c1 :: rest' := by
      match rest, hl2 with
      | [], hl2 => simp at hl2; omega
      | [c0], hl2 => simp at hl2; omega
      | c0 :: c1 :: rest', _ => exact ⟨c0, c1, rest', rfl⟩
     have hrl : rest'.length + 2 = rest.length := by rw [hrest]; simp
     have hov : ∀ (o' n' c' : Nat) (R' : VP), R' (.bool false) M → C PP w0 Id.uY #[SV.v x, .slice (some ⟨b, o', none⟩) n' c'] R' M := fun o' n' c' R' hR' => by
      obtain ⟨xa, xn, xc⟩ := x
      simp only at ha2
      subst ha2
      exact aCY (size := 2) (tS := 274) (tR := 4) (e := 276) (show PP.funcs[Id.uY]? = some Tryz.f276 from Tryz.func276) (by kernel_rfl) (by kernel_rfl) (by kernel_rfl) (by kernel_rfl) Tryz.underlying274 (by kernel_rfl) eE o2 o1 (by
       intro e0
       have := congrArg List.length e0
       rw [List.length_append, List.length_append, dW] at this
       simp only [List.length_nil] at this
       omega) hR'
     have hc2 : ¬ s.c = i + 1 := by omega
     simp only [if_neg hc1, if_neg hc2]
     refine hov _ _ _ _ ?_
     rw [bU, Bool.not_false, dU]
     refine ⟨⟨by omega, by omega, by omega⟩, ⟨by omega, by omega, by omega⟩, ?_⟩
     have hsrc : ∀ (L : List Value) (M' : Mem), aA w0 F M' (star (aY b (pre ++ L) e9) (star (aY b2 (gA [e] ++ rest2) e92) Q)) → ∀ news, (∀ j v, news[j]? = some v → L[i * 2 + j]? = some v) → gK w0 M' (some ⟨b, pre.length + i * 2, none⟩) news := fun L M' h' news hn => aLd h' fun j v hj => by
      rw [Nat.add_assoc, List.getElem?_append_right (by omega), show pre.length + (i * 2 + j) - pre.length = i * 2 + j from by omega]
      exact hn j v hj
     have e2 : (Value.slice (some (⟨b, pre.length + i * 2, none⟩ : Addr)) (l.length + 1 - i) (s.c - i)) = SV.v ⟨some ⟨b, pre.length + i * 2, none⟩, l.length + 1 - i, s.c - i⟩ := rfl
     have e3 : (Value.slice (some (⟨b, pre.length + (i + 1) * 2, none⟩ : Addr)) (l.length + 1 - (i + 1)) (s.c - (i + 1))) = SV.v ⟨some ⟨b, pre.length + (i + 1) * 2, none⟩, l.length + 1 - (i + 1), s.c - (i + 1)⟩ := rfl
     rw [e2, e3]
     ·have hm3 : l.length - i = min (l.length + 1 - i) (l.length + 1 - (i + 1)) := by omega
      refine aIv (news := gA (l.drop i)) hH1 (l.length - i) hm3 (by rw [dW, List.length_drop]) (hsrc _ _ hH1 _ fun j v hj => ?_) (fun e0 => by cases e0) (tX _) (by simp only [List.length_append, dW]; omega) fun M2 hH2 => ?_
      ·rw [aA0, List.getElem?_drop] at hj
       have := (List.getElem?_eq_some_iff.1 hj).1
       rw [List.getElem?_append_left this]; exact hj
      ·rw [aL]
       refine ⟨⟨by omega, by omega, by omega⟩, ?_⟩
       have tk : (gA (l.take (i + 1))).length = (i + 1) * 2 := by rw [dW, List.length_take]; omega
       have tk0 : (gA (l.take i)).length = i * 2 := by rw [dW, List.length_take]; omega
       have o3 : eH (pre ++ (gA l ++ rest)) (pre.length + (i + 1) * 2) (gA (l.drop i)) = pre ++ (gA (l.take (i + 1)) ++ (gA (l.drop i) ++ rest')) := by
        have h9 : pre ++ (gA l ++ rest) = (pre ++ gA (l.take (i + 1))) ++ ((gA (l.drop (i + 1)) ++ [c0, c1]) ++ rest') := by
         rw [hrest, List.append_assoc]
         congr 1
         rw [show gA l = gA (l.take (i + 1)) ++ gA (l.drop (i + 1)) from by rw [← gO, List.take_append_drop]]
         simp
        rw [h9, eM (pre ++ gA (l.take (i + 1))) (gA (l.drop (i + 1)) ++ [c0, c1]) rest' (gA (l.drop i)) (by rw [List.length_append, dW, dW, List.length_drop, List.length_drop]; simp; omega) (by rw [List.length_append, tk]), List.append_assoc]
       rw [o3] at hH2
       have hxr : gK w0 M2 x.a (gA [e]) := by
        rw [ha2]
        refine aLd hH2.dT fun j v hj => ?_
        have := (List.getElem?_eq_some_iff.1 hj).1
        rw [Nat.zero_add, List.getElem?_append_left this]; exact hj
       have hxa : x.a = none → (1 : Nat) = 0 := fun e0 => absurd e0 hx1
       have hxm : (1 : Nat) = min x.n (l.length + 1 - i) := by rw [hxn]; omega
       refine aIv (x := x) (news := gA [e]) hH2 1 hxm rfl hxr hxa (tX _) (by simp only [List.length_append, tk, dW, List.length_drop]; omega) fun M3 hH3 => ?_
       rw [aL]
       have o4 : eH (pre ++ (gA (l.take (i + 1)) ++ (gA (l.drop i) ++ rest'))) (pre.length + i * 2) (gA [e]) = pre ++ (gA (l.take i ++ e :: l.drop i) ++ rest') := by
        have h9 : pre ++ (gA (l.take (i + 1)) ++ (gA (l.drop i) ++ rest')) = (pre ++ gA (l.take i)) ++ (eV l[i] ++ (gA (l.drop i) ++ rest')) := by
         rw [List.take_succ_eq_append_getElem hil, gO]
         simp [gA]
        rw [h9, eM (pre ++ gA (l.take i)) (eV l[i]) (gA (l.drop i) ++ rest') (gA [e]) rfl (by rw [List.length_append, tk0]), gO, List.append_assoc]
        show _ = pre ++ (gA (l.take i) ++ gA ([e] ++ l.drop i) ++ rest')
        rw [gO]; simp
       rw [o4] at hH3
       have hlt : (l.take i ++ e :: l.drop i).length = l.length + 1 := by simp; omega
       refine hR M3 ⟨some ⟨b, pre.length, none⟩, l.length + 1, s.c⟩ ?_
       obtain ⟨r, ⟨r1, r2, rfl, g1, r3', r4', rfl, g2, g3⟩, g4⟩ := hH3
       refine ⟨r1 ++ r4', ⟨r1, r4', rfl, .inr ⟨b, pre, rest', e9, rfl, hlt.symm, by rw [hlt]; simp only; omega, g1⟩, g3⟩, (g4.perm (r' := (r1 ++ r4') ++ r3') ?_).drop⟩
       rw [List.append_assoc]
       exact List.perm_append_comm.append_left r1
end
end HL
namespace HL
theorem aCp {α β : Type} {f : α → β} {l : List α} {Z : List β} (h : Z.Perm (l.map f)) : ∃ W : List α, W.Perm l ∧ Z = W.map f := by
 have key : ∀ {Z Y : List β}, Z.Perm Y → ∀ l : List α, Y = l.map f → ∃ W : List α, W.Perm l ∧ Z = W.map f := by
  intro Z Y h
  induction h with
  | nil => intro l e; exact ⟨[], by cases l with | nil => exact List.Perm.refl _ | cons x l => simp at e, rfl⟩
  | cons x h ih =>
   intro l e
   match l, e with
   | [], e => simp at e
   | y :: l, e =>
    simp only [List.map_cons, List.cons.injEq] at e
    obtain ⟨W, h1, h2⟩ := ih l e.2
    exact ⟨y :: W, h1.cons y, by rw [h2, e.1]; rfl⟩
  | swap x y t =>
   intro l e
   match l, e with
   | [], e => simp at e
   | [u], e => simp at e
   | u :: v :: l, e =>
    simp only [List.map_cons, List.cons.injEq] at e
    exact ⟨v :: u :: l, List.Perm.swap _ _ _, by rw [e.1, e.2.1, e.2.2]; rfl⟩
  | trans h1 h2 ih1 ih2 =>
   intro l e
   obtain ⟨W, g1, g2⟩ := ih2 l e
   obtain ⟨W2, g3, g4⟩ := ih1 W g2
   exact ⟨W2, g3.trans g1, g4⟩
 exact key h l rfl
namespace ST
def yS (l : List Tn) : List cW := l.map fun t => ((t.n : Int), (t.k : Int))
def aHD (l : List Tn) : Prop := l.Pairwise fun a b => a.k ≤ b.k
theorem aJk {l : List Tn} (h : aDS (yS l)) : aHD l := by
 unfold aDS yS at h
 rw [List.pairwise_map] at h
 exact h.imp fun h => by simpa using h
theorem aG9 {l : List Tn} {w : Tn} {j : Nat} (h : aHD l) (h1 : ∀ i x, i < j → l[i]? = some x → x.k < w.k) (h2 : ∀ x, l[j]? = some x → w.k ≤ x.k) : aHD (l.take j ++ w :: l.drop j) := by
 unfold aHD at *
 have hs : (l.take j ++ l.drop j).Pairwise fun a b => a.k ≤ b.k := by rw [List.take_append_drop]; exact h
 obtain ⟨q1, q2, q3⟩ := List.pairwise_append.1 hs
 have ht : ∀ x ∈ l.take j, x.k < w.k := fun x hx => by
  obtain ⟨i, hi⟩ := List.getElem?_of_mem hx
  have hlt := (List.getElem?_eq_some_iff.1 hi).1
  rw [List.length_take] at hlt
  rw [List.getElem?_take_of_lt (by omega)] at hi
  exact h1 i x (by omega) hi
 have hd : ∀ x ∈ l.drop j, w.k ≤ x.k := fun x hx => by
  cases hl : l.drop j with
  | nil => rw [hl] at hx; cases hx
  | cons y m =>
   have hy : l[j]? = some y := by
    have : (l.drop j)[0]? = some y := by rw [hl]; rfl
    rw [List.getElem?_drop] at this; simpa using this
   have hwy := h2 y hy
   rw [hl] at hx q2
   rcases List.mem_cons.1 hx with rfl | hx
   ·exact hwy
   ·exact Nat.le_trans hwy ((List.pairwise_cons.1 q2).1 x hx)
 refine List.pairwise_append.2 ⟨q1, List.pairwise_cons.2 ⟨hd, q2⟩, fun a ha b hb => ?_⟩
 rcases List.mem_cons.1 hb with rfl | hb
 ·exact Nat.le_of_lt (ht a ha)
 ·exact q3 a ha b hb
theorem aAC {z : Nat} {t : Tn} (h : wQ z t) {n : Nat} (hn : (eN t).length ≤ n) : t.k ≤ n := by
 have h1 := yP h
 have h2 : t.k < 2 ^ t.k := Nat.lt_two_pow_self
 omega
end ST
section
variable {w0 : World} {M F : Mem} {R : VP} {a : Nat} {α : AS}
open Go.Proofs.YtodobkbnmjgkdaaGreat.HL.ST
theorem aIh {P : cY} {b : Nat} {c0 c1 : Value} {x y : Int} (h : aA w0 F M (star (aY b [c0, c1] tRk) P)) {K : Mem → Prop} (hK : ∀ M', aA w0 F M' (star (aY b [.int .i64 x, .int .i64 y] tRk) P) → K M') :
  (aH PP w0).st tRk ⟨b, 0, none⟩ (.agg #[.int .i64 x, .int .i64 y]) (fun M2 => K M2) M := by
 refine gZ (vs := [.int .i64 x, .int .i64 y]) W.aJt h.bA (by simp) (by intro v hv; simp only [List.mem_cons, List.not_mem_nil, or_false] at hv; rcases hv with rfl | rfl <;> rfl) ?_
 exact hK _ (h.kZ (cs' := eH [c0, c1] 0 [.int .i64 x, .int .i64 y]) (e' := tRk))
theorem aKq (x y : Int) : (aH PP w0).nM tRk [(0, .int .i64 x), (1, .int .i64 y)] = some (.agg #[.int .i64 x, .int .i64 y]) := by kernel_rfl
theorem aKF {P : cY} {b : Nat} {x y : Int} (h : aA w0 F M (star (aY b [.int .i64 x, .int .i64 y] tRk) P)) : (aH PP w0).ld 3 ⟨b, 0, none⟩ M = some (.int .i64 x) := by
 rw [aP W.c3]; exact aM (o := 0) h.bA
theorem aDx {P : cY} {b : Nat} {x y : Int} (h : aA w0 F M (star (aY b [.int .i64 x, .int .i64 y] tRk) P)) : (aH PP w0).ld 2 (Addr.add ⟨b, 0, none⟩ 1) M = some (.int .i64 y) := by
 rw [aP W.c2, add_eq]; exact aM (o := 1) h.bA
theorem aKV {P : cY} {b : Nat} {x y : Int} (h : aA w0 F M (star (aY b [.int .i64 x, .int .i64 y] tRk) P)) : (aH PP w0).ld tRk ⟨b, 0, none⟩ M = some (.agg #[.int .i64 x, .int .i64 y]) := by
 have o := h.bA
 exact c9 (cs := [.int .i64 x, .int .i64 y]) W.aJt (fun j v hj => by rw [add_eq, aM o, Nat.zero_add]; exact hj)
theorem uZ (hA : aA w0 F M (aE a α)) {z : Nat} (hz : 1 ≤ z) {f : Nat → cC} {l : List Tn} {s : SV} (hs : pW w0 F .i64 s (aS (l.map (·.n)))) (hst : ∀ t ∈ l, yW α t) (hlb : Lb α f (aQ l)) (fO : (bE f (aQ l)).Nodup) (hok : ∀ t ∈ l, wQ z t) (hod : ∀ t ∈ l, yB f t) (hl20 : l.length ≤ 20)
  (h : ∀ M' β l', aA w0 F M' (aE a β) → St β (-1) (fo l') → (aQ l').Perm (aQ l) → (∀ t ∈ l', wQ z t) → (∀ t ∈ l', yB f t) → Rs l' → AS.nH (fun c => c ∈ aQ l) (14 * l.length) α β → (∀ c g, 5 ≤ g → β.get c g = α.get c g) → R (.int .i64 (fo l').root) M') :
  C PP w0 Id.m9 #[.pointer (some ⟨a, 0, none⟩), SV.v s] R M := by
 apply m9.go
 intro aB H
 unfold m9.T aJ
 have hI := hA.inv
 have hI65 := hI.n
 have hnn := iB fO
 have hsn := hs.len
 simp only [aS, List.length_map] at hsn
 have hsz := mR α.n _ hnn fun y hy => AS.cE hI (hlb y hy).ln
 have hmemn : ∀ t ∈ l, t.n ∈ aQ l := fun t ht => eB.2 ⟨t, ht, List.mem_cons_self⟩
 have key2 : ∀ (m : Nat) (W out : List Tn) (sW sO : SV) (M1 : Mem) (β : AS) (k : Nat), W.length = m → aA w0 F M1 (star (EsO sW (yS W)) (star (oZ sO ((aS (out.map (·.n))).map (Value.int .i64))) (aE a β))) → (∀ t ∈ out ++ W, yW β t) → (aQ (out ++ W)).Perm (aQ l) → (∀ t ∈ out ++ W, wQ z t) → (∀ t ∈ out ++ W, yB f t) →
   Rs out → aHD W → (∀ x ∈ out, ∀ y ∈ W, x.k < y.k) → out.length + W.length ≤ l.length → AS.nH (fun c => c ∈ aQ l) ((l.length : Int) + 11 * ((l.length : Int) - (out.length + W.length))) α β → (∀ c g, 5 ≤ g → β.get c g = α.get c g) → W.length < k →
   m9.L2 aB k (some ⟨a, 0, none⟩) sW sO M1 := by
  intro m
  induction m with
  | zero =>
   intro W out sW sO M1 β k hW hH hst1 hp hok1 hod1 hrs hsr hlt hlen hc hg hk
   have : W = [] := List.eq_nil_of_length_eq_zero hW
   subst this
   obtain ⟨k, rfl⟩ : ∃ j, k = j + 1 := ⟨k - 1, by omega⟩
   have hWn := (EsO.rd hH).len
   simp only [yS, List.map_nil, List.length_nil] at hWn
   simp only [List.append_nil] at hst1 hp hok1 hod1
   refine Eq.mpr (H.L2 ..) ?_
   unfold m9.L2.T aJ
   rw [eO, if_neg (by omega)]
   have hnl : (aQ out).Nodup := hp.nodup_iff.2 hnn
   have hlive : ∀ t ∈ out, β.live t.n = true := fun t ht => by
    rw [hc.live]; exact (hlb t.n (hp.mem_iff.1 (eB.2 ⟨t, ht, List.mem_cons_self⟩))).ln
   have hlw : ∀ n ∈ aS (out.map (·.n)), (Lit.int .i64 n).wf = true := fun n hn => by
    obtain ⟨x, hx, rfl⟩ := List.mem_map.1 hn
    obtain ⟨t, ht, rfl⟩ := List.mem_map.1 hx
    have := AS.cE hI (hlb t.n (hp.mem_iff.1 (eB.2 ⟨t, ht, List.mem_cons_self⟩))).ln
    exact aHv (by unfold fR; omega)
   obtain ⟨F', hle, hB, hro⟩ := hH.right.freeze hlw (by simp [aS]; simp at hlen; omega)
   refine aKh hB hro hst1 hlive hnl (by simp at hlen; omega) fun M2 γ hB2 hst2 hc2 hg2 => ?_
   rw [aL]
   refine h M2 γ out (hB2.fJ hle) hst2 hp hok1 hod1 hrs ((hc.trans (hc2.mono (T := fun c => c ∈ aQ l) (fun c ⟨t, ht, e⟩ => by rw [e]; exact hp.mem_iff.1 (eB.2 ⟨t, ht, List.mem_cons_self⟩)) (Int.le_refl _))).mono (fun _ h => h) (by simp at hlen ⊢; omega)) (fun c g hx => (hg2 c g hx).trans (hg c g hx))
  | succ m ih =>
   intro W out sW sO M1 β k hW hH hst1 hp hok1 hod1 hrs hsr hlt hlen hc hg hk
   obtain ⟨x, W', rfl⟩ : ∃ x W', W = x :: W' := by
    cases W with
    | nil => simp at hW
    | cons x W' => exact ⟨x, W', rfl⟩
   obtain ⟨k, rfl⟩ : ∃ j, k = j + 1 := ⟨k - 1, by omega⟩
   simp only [List.length_cons] at hW hlen hk
   have hWrd := EsO.rd hH
   have hWn := hWrd.len
   have hWc := hWrd.cap
   simp only [yS, List.map_cons, List.length_cons, List.length_map] at hWn
   have hxm : x ∈ out ++ x :: W' := by simp
   have alone : ∀ (M2 : Mem) (Q : cY), (∀ y ∈ W', x.k < y.k) → aA w0 F M2 (star (EsO sW (yS (x :: W'))) (star (oZ sO ((aS (out.map (·.n))).map (Value.int .i64))) (aE a β))) →
     (aH PP w0).bsl 53 1 [(0, .int .i64 (x.n : Int))] (fun v39 M40 => shS v39 fun s41 => (aH PP w0).app #[53, 53] 53 [SV.v sO, SV.v s41] (fun v42 M43 => shS v42 fun s44 => m9.L2 aB k (some ⟨a, 0, none⟩) ⟨(if sW.c = (1 : Int).toNat then sW.a else sW.a.map (·.add ((1 : Int).toNat * 2))), (((sW.n : Nat) : Int).toNat - (1 : Int).toNat), (sW.c - (1 : Int).toNat)⟩ s44 M43) M40) M2 := by
    intro M2 Q hx h2
    refine yL (K := fun s27 M26 => m9.L2 aB k _ _ s27 M26) h2.dT (by simp [aS]; omega) fun M3 sO' h3 => ?_
    have e1 : (⟨(if sW.c = (1 : Int).toNat then sW.a else sW.a.map (·.add ((1 : Int).toNat * 2))), (((sW.n : Nat) : Int).toNat - (1 : Int).toNat), (sW.c - (1 : Int).toNat)⟩ : SV) = ⟨if sW.c = 1 then sW.a else sW.a.map (·.add (1 * 2)), sW.n - 1, sW.c - 1⟩ := rfl
    rw [e1]
    have h4 := EsO.drop h3.dT (m := 1) (by simp [yS]) (by decide)
    refine ih W' (out ++ [x]) _ sO' M3 β k (by omega) ?_ (by simpa using hst1) (by simpa using hp) (by simpa using hok1) (by simpa using hod1) ?_ (List.pairwise_cons.1 hsr).2 ?_ (by simp; omega) (hc.mono (fun _ h => h) (by simp; omega)) hg (by omega)
    ·rw [show aS ((out ++ [x]).map (·.n)) = aS (out.map (·.n)) ++ [(x.n : Int)] from by simp [aS]]
     exact h4
    ·refine List.pairwise_append.2 ⟨hrs, List.pairwise_singleton _ _, fun u hu v hv => ?_⟩
     rw [List.mem_singleton.1 hv]; exact hlt u hu x List.mem_cons_self
    ·intro u hu v hv
     rcases List.mem_append.1 hu with hu | hu
     ·exact hlt u hu v (List.mem_cons_of_mem _ hv)
     ·rw [List.mem_singleton.1 hu]; exact hx v hv
   refine Eq.mpr (H.L2 ..) ?_
   unfold m9.L2.T aJ
   rw [eO, if_pos (by omega)]
   refine rdR (x := ((x.n : Int), (x.k : Int))) hWrd (Mem.le_refl _) 0 rfl rfl ?_
   intro bx hbx hwx
   have hX0 : aA w0 F _ (star (aY bx _ tRk) _) := hH.new hbx hwx [.int .i64 0, .int .i64 0] tRk
   refine aIh hX0 fun M2 hX => ?_
   simp only [aKF hX, aC, aL]
   rw [eW]
   split
   ·rename_i h1
    have hW0 : W' = [] := List.eq_nil_of_length_eq_zero (by omega)
    refine ⟨⟨by omega, by omega, by omega⟩, ?_⟩
    exact alone M2 (fun _ => True) (fun y hy => by rw [hW0] at hy; cases hy) hX.right
   ·rename_i h1
    obtain ⟨y, W2, rfl⟩ : ∃ y W2, W' = y :: W2 := by
     cases W' with
     | nil => simp at hWn; omega
     | cons y W2 => exact ⟨y, W2, rfl⟩
    simp only [List.length_cons] at hW hlen hk hWn
    have hrd2 := EsO.rd hX.right
    refine aK8 W.c2 (x := ((y.n : Int), (y.k : Int))) hrd2 (Mem.le_refl _) 1 rfl rfl ?_
    simp only [aDx hX, aC, aL]
    rw [cD]
    obtain ⟨sr1, sr2⟩ := List.pairwise_cons.1 hsr
    obtain ⟨sr3, sr4⟩ := List.pairwise_cons.1 sr2
    split
    rotate_left
    ·rename_i hxy
     refine ⟨⟨by omega, by omega, by omega⟩, ?_⟩
     refine alone M2 (fun _ => True) (fun u hu => ?_) hX.right
     have h2 := sr1 y List.mem_cons_self
     have h3 : x.k < y.k := by
      have : ¬ ((y.k : Int) = (x.k : Int)) := hxy
      omega
     rcases List.mem_cons.1 hu with rfl | hu
     ·exact h3
     ·exact Nat.lt_of_lt_of_le h3 (sr3 u hu)
    ·rename_i hxy
     have hkk : x.k = y.k := by
      have : (y.k : Int) = (x.k : Int) := hxy
      omega
     refine Eq.mpr (H.J3 ..) ?_
     unfold m9.J3.T aJ
     have hym : y ∈ out ++ x :: y :: W2 := by simp
     have hxn : ∀ c ∈ eN x, c ∈ aQ l := fun c hc => hp.mem_iff.1 (eB.2 ⟨x, hxm, hc⟩)
     have hyn : ∀ c ∈ eN y, c ∈ aQ l := fun c hc => hp.mem_iff.1 (eB.2 ⟨y, hym, hc⟩)
     have hpn : (aQ (out ++ x :: y :: W2)).Nodup := hp.nodup_iff.2 hnn
     have hsplit : (aQ (out ++ x :: y :: W2)).Perm ((eN x ++ eN y) ++ aQ (out ++ W2)) := by
      have : (aQ (out ++ x :: y :: W2)).Perm (aQ (x :: y :: (out ++ W2))) := tG (by
       refine List.perm_middle.trans (List.Perm.cons _ ?_)
       exact List.perm_middle)
      refine this.trans ?_
      show ((eN x) ++ ((eN y) ++ aQ (out ++ W2))).Perm _
      rw [List.append_assoc]
     have hnd3 := hsplit.nodup_iff.1 hpn
     obtain ⟨nd1, nd2, nd3⟩ := List.nodup_append.1 hnd3
     have hlb1 : Lb β f (eN x ++ eN y) := (hlb.congr (fun c _ g hg' => hg c g (by omega)) (fun c _ => by rw [hc.live])).sub fun n hn => by
      rcases List.mem_append.1 hn with hn | hn
      ·exact hxn n hn
      ·exact hyn n hn
     have hxk : x.k ≤ 65536 := aAC (hok1 x hxm) (Nat.le_trans (rX hxm) (by rw [hp.length_eq]; omega))
     have eE : (f x.n).1 ≠ (f y.n).1 := fun e => by
      have := kQ fO x.n (hxn _ List.mem_cons_self) y.n (hyn _ List.mem_cons_self) e
      exact (List.nodup_append.1 nd1).2.2 x.n List.mem_cons_self y.n List.mem_cons_self this
     have fin : ∀ (M3 : Mem) (γ : AS) (nS : Nat) (Q : cY), aA w0 F M3 (star (aY nS [.int .i64 ((sT f x y).n : Int), .int .i64 ((x.k : Int) + 1)] tRk) (star (EsO sW (yS (x :: y :: W2))) (star (oZ sO ((aS (out.map (·.n))).map (Value.int .i64))) (aE a γ)))) →
       yW γ (sT f x y) → AS.nH (fun c => c = x.n ∨ c = y.n) 11 β γ → (∀ c g, 5 ≤ g → γ.get c g = β.get c g) →
       ∃ k84, m9.L5 aB k k84 (some ⟨a, 0, none⟩) ⟨(if sW.c = (2 : Int).toNat then sW.a else sW.a.map (·.add ((2 : Int).toNat * 2))), (((sW.n : Nat) : Int).toNat - (2 : Int).toNat), (sW.c - (2 : Int).toNat)⟩ sO ⟨nS, 0, none⟩ 0 M3 := by
      intro M3 γ nS Q hY hstw hcγ hgγ
      have e1 : (⟨(if sW.c = (2 : Int).toNat then sW.a else sW.a.map (·.add ((2 : Int).toNat * 2))), (((sW.n : Nat) : Int).toNat - (2 : Int).toNat), (sW.c - (2 : Int).toNat)⟩ : SV) = ⟨if sW.c = 2 then sW.a else sW.a.map (·.add (2 * 2)), sW.n - 2, sW.c - 2⟩ := rfl
      rw [e1]
      have hY1 := (EsO.drop hY.dT (m := 2) (by simp [yS]) (by decide)).dT
      rw [show (yS (x :: y :: W2)).drop 2 = yS W2 from rfl] at hY1
      have hWk := aJD f hkk
      generalize hsW2 : (⟨if sW.c = 2 then sW.a else sW.a.map (·.add (2 * 2)), sW.n - 2, sW.c - 2⟩ : SV) = sW2 at hY1 ⊢
      have hrdW := EsO.rd hY1.dT
      have hlW := hrdW.len
      simp only [yS, List.length_map] at hlW
      have put : ∀ j, j ≤ W2.length → (∀ i u, i < j → W2[i]? = some u → u.k < (sT f x y).k) → (∀ u, W2[j]? = some u → (sT f x y).k ≤ u.k) → m9.J4 aB k (some ⟨a, 0, none⟩) sW2 sO ⟨nS, 0, none⟩ (j : Int) M3 := by
       intro j hj hlo hhi
       refine Eq.mpr (H.J4 ..) ?_
       unfold m9.J4.T aJ
       simp only [aKV hY1, aC, a9, aU, aL, aT]
       refine aKQ hY1.right _ _ fun M4 s4 l4 h4 => ?_
       rw [aR]
       refine aJe (i := j) (e := (((sT f x y).n : Int), (x.k : Int) + 1)) h4.dT (by simp [yS]; omega) (by simp [yS]; omega) fun M5 s5 h5 => ?_
       rw [aR]
       have ew : (yS W2).take j ++ (((sT f x y).n : Int), (x.k : Int) + 1) :: (yS W2).drop j = yS (W2.take j ++ sT f x y :: W2.drop j) := by
        unfold yS
        rw [List.map_append, List.map_cons, List.map_take, List.map_drop, hWk]; rfl
       rw [ew] at h5
       have hperm : (W2.take j ++ sT f x y :: W2.drop j).Perm (sT f x y :: W2) := List.perm_middle.trans (List.Perm.cons _ (by rw [List.take_append_drop]))
       have hwl : (W2.take j ++ sT f x y :: W2.drop j).length = W2.length + 1 := by rw [hperm.length_eq, List.length_cons]
       have hmem : ∀ t, t ∈ out ++ (W2.take j ++ sT f x y :: W2.drop j) → t = sT f x y ∨ t ∈ out ++ W2 := fun t ht => by
        rcases List.mem_append.1 ht with ht | ht
        ·exact .inr (by simp [ht])
        ·rcases List.mem_cons.1 (hperm.mem_iff.1 ht) with ht | ht
         ·exact .inl ht
         ·exact .inr (by simp [ht])
       have hold : ∀ t ∈ out ++ W2, t ∈ out ++ x :: y :: W2 := fun t ht => by
        rcases List.mem_append.1 ht with ht | ht <;> simp [ht]
       have hwok := aHx f hz (hok1 x hxm) (hok1 y hym) hkk
       refine ih (W2.take j ++ sT f x y :: W2.drop j) out s5 sO M5 γ k (by omega) h5 (fun t ht => ?_) ?_ (fun t ht => ?_) (fun t ht => ?_) hrs (aG9 sr4 hlo hhi) ?_ (by omega) ((hc.trans (hcγ.mono (T := fun c => c ∈ aQ l) (fun c hc' => by rcases hc' with rfl | rfl; exact hxn _ List.mem_cons_self; exact hyn _ List.mem_cons_self) (Int.le_refl _))).mono (fun _ h => h) (by rw [hwl]; simp only [List.length_cons]; omega)) (fun c g hx => (hgγ c g hx).trans (hg c g hx)) (by omega)
       ·rcases hmem t ht with rfl | ht
        ·exact hstw
        ·refine (hst1 t (hold t ht)).lJ hcγ fun c hct hcS => ?_
         have hcm : c ∈ aQ (out ++ W2) := eB.2 ⟨t, ht, hct⟩
         rcases hcS with rfl | rfl
         ·exact nd3 x.n (by simp [eN]) _ hcm rfl
         ·exact nd3 y.n (by simp [eN]) _ hcm rfl
       ·refine List.Perm.trans ?_ hp
        refine List.Perm.trans ?_ hsplit.symm
        have h6 : (aQ (out ++ (W2.take j ++ sT f x y :: W2.drop j))).Perm (aQ (sT f x y :: (out ++ W2))) := tG ((hperm.append_left out).trans List.perm_middle)
        refine h6.trans ?_
        show (eN (sT f x y) ++ aQ (out ++ W2)).Perm _
        exact (aFi f x y).append_right _
       ·rcases hmem t ht with rfl | ht
        ·exact hwok.1
        ·exact hok1 t (hold t ht)
       ·rcases hmem t ht with rfl | ht
        ·exact aHA (hod1 x hxm) (hod1 y hym) eE
        ·exact hod1 t (hold t ht)
       ·intro u hu v hv
        have h6 := hlt u hu x (by simp)
        rcases List.mem_cons.1 (hperm.mem_iff.1 hv) with rfl | hv
        ·rw [hWk]; omega
        ·exact hlt u hu v (by simp [hv])
      have key5 : ∀ (d j k5 : Nat), j + d = W2.length → (∀ i u, i < j → W2[i]? = some u → u.k < (sT f x y).k) → d < k5 → m9.L5 aB k k5 (some ⟨a, 0, none⟩) sW2 sO ⟨nS, 0, none⟩ (j : Int) M3 := by
       intro d
       induction d with
       | zero =>
        intro j k5 hj hlo hk5
        obtain ⟨k5, rfl⟩ : ∃ i, k5 = i + 1 := ⟨k5 - 1, by omega⟩
        refine Eq.mpr (H.L5 ..) ?_
        unfold m9.L5.T aJ
        rw [eO, if_neg (by omega)]
        exact put j (by omega) hlo fun u hu => by
         have := (List.getElem?_eq_some_iff.1 hu).1
         omega
       | succ d ihd =>
        intro j k5 hj hlo hk5
        obtain ⟨k5, rfl⟩ : ∃ i, k5 = i + 1 := ⟨k5 - 1, by omega⟩
        have hjl : j < W2.length := by omega
        have hget : (yS W2)[j]? = some ((W2[j].n : Int), (W2[j].k : Int)) := by
         unfold yS
         rw [List.getElem?_map, List.getElem?_eq_getElem hjl]; rfl
        refine Eq.mpr (H.L5 ..) ?_
        unfold m9.L5.T aJ
        rw [eO, if_pos (by omega)]
        refine aK8 W.c2 (x := ((W2[j].n : Int), (W2[j].k : Int))) hrdW (Mem.le_refl _) j rfl hget ?_
        simp only [aDx hY1, aC, aL]
        rw [eO]
        split
        ·rename_i hlt5
         rw [cR (by omega)]
         refine ihd (j + 1) k5 (by omega) (fun i u hi hu => ?_) (by omega)
         by_cases e : i = j
         ·subst e
          rw [List.getElem?_eq_getElem hjl] at hu
          cases hu
          rw [hWk]
          have : (W2[i].k : Int) < (x.k : Int) + 1 := hlt5
          omega
         ·exact hlo i u (by omega) hu
        ·rename_i hlt5
         refine put j (by omega) hlo fun u hu => ?_
         rw [List.getElem?_eq_getElem hjl] at hu
         cases hu
         rw [hWk]
         have : ¬ ((W2[j].k : Int) < (x.k : Int) + 1) := hlt5
         omega
      exact ⟨W2.length + 1, key5 W2.length 0 _ (by omega) (fun i u hi => absurd hi (by omega)) (by omega)⟩
     have hlk : ∀ {F2 M3 : Mem} {γ : AS} {K : VP}, aA w0 F2 M3 (aE a β) → (∀ M' γ, aA w0 F2 M' (aE a γ) → yW γ (sT f x y) → AS.nH (fun c => c = x.n ∨ c = y.n) 11 β γ → (∀ c g, 5 ≤ g → γ.get c g = β.get c g) → K (.int .i64 ((sT f x y).n : Int)) M') → C PP w0 Id.cI #[.pointer (some ⟨a, 0, none⟩), .int .i64 (x.n : Int), .int .i64 (y.n : Int), .int .i64 (x.k : Int)] K M3 := by
      intro F2 M3 γ K hB hK
      refine aED hB (hst1 x hxm) (hst1 y hym) hlb1 nd1 hkk (by omega) fun M' γ h1 h2 h3 h4 _ => ?_
      exact hK M' γ h1 h2 h3 h4
     obtain ⟨ad, ea, hr⟩ := hrd2.ad (j := 1) (x := ((y.n : Int), (y.k : Int))) rfl
     have hr1 : ∀ M3, Mem.le M2 M3 → (aH PP w0).ld 3 (ad.add ((1 : Int).toNat * 2)) M3 = some (.int .i64 (y.n : Int)) := fun M3 h3 => by
      rw [aP W.c3]; exact (hr M3 h3).1
     have hw1 : p4 ((x.k : Int) + 1) = (x.k : Int) + 1 := bC (by omega)
     rw [ea]
     have hb0 := aKF hX
     have hb1 := aDx hX
     simp only [aX, hb0, hb1, hr1 M2 (Mem.le_refl _), aC, aL, hw1]
     refine ⟨⟨by omega, by omega⟩, ?_, ?_⟩
     ·-- the link first
      obtain ⟨F2, hB, hle, back⟩ := hX.aJy
      refine hlk (γ := β) hB fun M3 γ hB3 g1 g2 g3 => ?_
      have hX3 := back M3 _ hB3
      simp only [aL, aKq, aC, a9, aU, aT]
      refine ⟨aDx hX3, fun nS hb hw => ?_⟩
      have hY0 := hX3.new hb hw [.int .i64 0, .int .i64 0] tRk
      refine ⟨aDx (hY0.le (Mem.le_refl _)).right, ?_⟩
      refine aIh hY0 fun M4 hY => ?_
      refine ⟨⟨by omega, by omega, by omega⟩, ?_⟩
      have hfin := fin M4 γ nS (fun _ => True) hY.dT.right g1 g2 g3
      rw [ea] at hfin
      exact hfin
     ·-- bV place first
      intro nS hb hw
      have hY0 := hX.new hb hw [.int .i64 0, .int .i64 0] tRk
      have lX : Mem.le M2 (M2.set nS (.row [.int .i64 0, .int .i64 0] tRk)) := Mem.fN _ hb
      generalize M2.set nS _ = M2' at hY0 lX ⊢
      change aA w0 F M2' (star (aY nS [.int .i64 0, .int .i64 0] tRk) _) at hY0
      refine ⟨aKF hY0.right, hr1 _ lX, aDx hY0.right, aDx hY0.right, ?_⟩
      obtain ⟨F1, hX1, hle1, back1⟩ := hY0.last
      obtain ⟨F2, hB, hle, back⟩ := hX1.aJy
      refine hlk (γ := β) hB fun M3 γ hB3 g1 g2 g3 => ?_
      have hX3 := back1 M3 _ (back M3 _ hB3)
      simp only [aL, aKq, aC, a9, aU, aT]
      refine ⟨aDx hX3.right, ?_⟩
      refine aIh hX3 fun M4 hY => ?_
      refine ⟨⟨by omega, by omega, by omega⟩, ?_⟩
      have hfin := fin M4 γ nS (fun _ => True) hY.dT.right g1 g2 g3
      rw [ea] at hfin
      exact hfin
 have key1 : ∀ (A B : List Tn) (s1 : SV) (M1 : Mem) (β : AS) (k : Nat), B.length < k → l = A ++ B → aA w0 F M1 (star (Es s1 (yS A)) (aE a β)) → AS.Sm A.length α β → m9.L1 aB k (some ⟨a, 0, none⟩) s1 s ((s.n : Nat) : Int) (A.length : Int) M1 := by
  intro A B
  induction B generalizing A with
  | nil =>
   intro s1 M1 β k hk he hH hsm
   obtain ⟨k, rfl⟩ : ∃ j, k = j + 1 := ⟨k - 1, by omega⟩
   rw [List.append_nil] at he
   subst he
   refine Eq.mpr (H.L1 ..) ?_
   unfold m9.L1.T aJ
   rw [eO, if_neg (by omega)]
   refine aHJ (l := yS l) (fun x hx => ?_) (by simp [yS]; omega) hH fun M2 Z hZs hZp hH2 => ?_
   ·obtain ⟨t, ht, rfl⟩ := List.mem_map.1 hx
    have := aAC (hok t ht) (Nat.le_trans (rX ht) hsz)
    simp only; omega
   ·obtain ⟨W, hWp, rfl⟩ := aCp hZp
    change aDS (yS W) at hZs
    change aA w0 F M2 (star (Es s1 (yS W)) (aE a β)) at hH2
    have hWl := hWp.length_eq
    refine ⟨W.length + 1, key2 W.length W [] s1 ⟨none, 0, 0⟩ M2 β (W.length + 1) rfl ?_ ?_ ?_ ?_ ?_ List.Pairwise.nil (aJk hZs) (fun x hx => by cases hx) (by simp; omega) (hsm.lJ.mono (fun _ h => h) (by simp; omega)) (fun c g _ => by rw [hsm.get]) (by omega)⟩
    ·obtain ⟨F2, hB, hle, back⟩ := (EsO.of hH2).last
     exact back M2 _ (aA.aEI hB)
    ·intro t ht
     exact (hst t (hWp.mem_iff.1 (by simpa using ht))).sm hsm
    ·simpa using tG hWp
    ·exact fun t ht => hok t (hWp.mem_iff.1 (by simpa using ht))
    ·exact fun t ht => hod t (hWp.mem_iff.1 (by simpa using ht))
  | cons t B ih =>
   intro s1 M1 β k hk he hH hsm
   obtain ⟨k, rfl⟩ : ∃ j, k = j + 1 := ⟨k - 1, by omega⟩
   have ll := congrArg List.length he
   simp only [List.length_append, List.length_cons] at ll hk
   have htl : t ∈ l := by rw [he]; simp
   have hget : (aS (l.map (·.n)))[A.length]? = some (t.n : Int) := by rw [he]; simp [aS]
   have hlive := (hlb t.n (hmemn t htl)).ln
   refine Eq.mpr (H.L1 ..) ?_
   unfold m9.L1.T aJ
   rw [eO, if_pos (by omega)]
   refine rdx (x := (t.n : Int)) W.c3 hs hH.fr A.length rfl hget ?_
   obtain ⟨F2, hB, hle, back⟩ := hH.last
   refine p3 hB fun M2 hB2 => ?_
   have hH2 := back M2 _ hB2
   rw [show β.jK (t.n : Int) 4 = (t.k : Int) from by
    rw [show β.jK (t.n : Int) 4 = β.get t.n 4 from AS.iM (f := 4) (by rw [hsm.live]; exact hlive) (by omega), hsm.get]
    exact (hst t htl).2.1]
   simp only [aL, aKq, aC, a9, aU, aT]
   refine aKQ hH2 _ _ fun M3 s3 l3 h3 => ?_
   rw [aR]
   refine aLs h3.dT h3.xS (by simp [yS]; omega) fun M4 s4 h4 => ?_
   rw [aR, cR (by omega)]
   have := ih (A ++ [t]) s4 M4 β.tick k (by omega) (by rw [he]; simp) ?_ ((hsm.trans AS.aN).mono (by simp))
   ·rw [List.length_append, List.length_singleton] at this
    exact this
   ·rw [show yS (A ++ [t]) = yS A ++ [((t.n : Int), (t.k : Int))] from by simp [yS]]
    exact h4.dT.right
 exact ⟨l.length + 1, key1 [] l ⟨none, 0, 0⟩ M α _ (by omega) rfl (aA.pB hA) (AS.Sm.refl.mono (by simp))⟩
end
end HL
namespace HL
section
variable {w0 : World} {M F : Mem} {R : VP} {a : Nat} {α : AS}
open Go.Proofs.YtodobkbnmjgkdaaGreat.HL.ST
theorem aFg {s : SV} {l : List Int} {v : Int} (hs : pW w0 M .i64 s l) (hv : v ∈ l) (hb : l.length ≤ 1000000) (h : R (.bool true) M) : C PP w0 Id.cF #[SV.v s, .int .i64 v] R M := by
 apply cF.go
 unfold cF.T aJ
 apply rP.go
 intro aB H
 unfold rP.T aJ
 have hsn := hs.len
 have key : ∀ (B A : List Int) (k : Nat), l = A ++ B → v ∈ B → B.length < k → rP.L1 aB k s v ((s.n : Nat) : Int) (A.length : Int) M := by
  intro B
  induction B with
  | nil => intro A k _ hm; cases hm
  | cons x B ih =>
   intro A k he hm hk
   obtain ⟨k, rfl⟩ : ∃ j, k = j + 1 := ⟨k - 1, by omega⟩
   have ll := congrArg List.length he
   simp only [List.length_append, List.length_cons] at ll hk
   refine Eq.mpr (H.L1 ..) ?_
   unfold rP.L1.T aJ
   rw [eO, if_pos (by omega)]
   refine rdx (x := x) W.c3 hs (Mem.le_refl _) A.length rfl (by rw [he]; simp) ?_
   rw [eW]
   split
   ·show nA .i64 (.int .i64 (A.length : Int)) _
    rw [aL, decide_eq_true (by omega)]; exact h
   ·rename_i eE
    rw [cR (by omega)]
    have := ih (A ++ [x]) k (by rw [he]; simp) ((List.mem_cons.1 hm).resolve_left eE) (by omega)
    rw [List.length_append, List.length_singleton] at this
    exact this
 exact ⟨l.length + 1, key l [] _ rfl hv (by omega)⟩
theorem aJm {kf : FuncId × Array Value} {Q : cY} {s : SV} {A B : List Int} {x : Int} (h : aA w0 F M (star (oZ s ((A ++ x :: B).map (Value.int .i64))) Q)) (hwf : ∀ y ∈ A ++ x :: B, (Lit.int .i64 y).wf = true) (hA : x ∉ A) (hB : x ∉ B) (hb : (A ++ x :: B).length ≤ 100000)
  (hp : ∀ (y : Int) (M' : Mem) (R' : VP), Mem.le F M' → R' (.bool (y == x)) M' → C PP w0 kf.1 ((([.int .i64 y] : List Value) ++ kf.2.toList).toArray) R' M')
  (hR : ∀ M' s', aA w0 F M' (star (oZ s' ((A ++ B).map (Value.int .i64))) Q) → R s'.v M') : C PP w0 Id.p6 #[SV.v s, .func (.func kf.1) #[] kf.2] R M := by
 refine p6.go _ s kf ?_
 intro aB H
 unfold p6.T aJ
 have hrd : ∀ {M' : Mem} {L : List Int}, (∀ y ∈ L, (Lit.int .i64 y).wf = true) → L.length ≤ 100000 → aA w0 F M' (star (oZ s (L.map (Value.int .i64))) Q) → pW w0 M' .i64 s L := fun hw hl h' => by
  obtain ⟨F1, g1, g2, g3⟩ := h'.sl
  exact g1.rdI hw (by omega)
 simp only [List.length_append, List.length_cons] at hb
 have hr0 := hrd hwf (by simp only [List.length_append, List.length_cons]; omega) h
 have hsn := hr0.len
 have hscap := hr0.cap
 simp only [List.length_append, List.length_cons] at hsn
 have idx : ∀ (K : VP), K (.int .i64 (A.length : Int)) M → C PP w0 Id.qG #[SV.v s, .func (.func kf.1) #[] kf.2] K M := by
  intro K hK
  refine qG.go _ s kf ?_
  intro aB H
  unfold qG.T aJ
  have key : ∀ (A2 A1 : List Int) (k : Nat), A = A1 ++ A2 → A2.length < k → qG.L1 aB k s kf ((s.n : Nat) : Int) (A1.length : Int) M := by
   intro A2
   induction A2 with
   | nil =>
    intro A1 k he hk
    obtain ⟨k, rfl⟩ : ∃ j, k = j + 1 := ⟨k - 1, by omega⟩
    rw [List.append_nil] at he
    subst he
    refine Eq.mpr (H.L1 ..) ?_
    unfold qG.L1.T aJ
    rw [eO, if_pos (by omega)]
    refine rdx (x := x) W.c3 hr0 (Mem.le_refl _) A.length rfl (by simp) ?_
    refine hp x M _ h.fr ?_
    rw [bU, beq_self_eq_true, dU]; exact hK
   | cons y A2 ih =>
    intro A1 k he hk
    obtain ⟨k, rfl⟩ : ∃ j, k = j + 1 := ⟨k - 1, by omega⟩
    have ll := congrArg List.length he
    simp only [List.length_append, List.length_cons] at ll hk
    have eE : y ≠ x := fun e => hA (by rw [he, ← e]; simp)
    refine Eq.mpr (H.L1 ..) ?_
    unfold qG.L1.T aJ
    rw [eO, if_pos (by omega)]
    refine rdx (x := y) W.c3 hr0 (Mem.le_refl _) A1.length rfl (by rw [he]; simp) ?_
    refine hp y M _ h.fr ?_
    rw [bU, beq_eq_false_iff_ne.2 eE, mT, cR (by omega)]
    have := ih (A1 ++ [y]) k (by rw [he]; simp) (by omega)
    rw [List.length_append, List.length_singleton] at this
    exact this
  exact ⟨A.length + 1, key A [] _ rfl (by omega)⟩
 refine idx _ ?_
 rw [aL, eW, if_neg (by omega)]
 have key : ∀ (B2 B1 : List Int) (c : Int) (M' : Mem) (k : Nat), B = B1 ++ B2 → (Lit.int .i64 c).wf = true → aA w0 F M' (star (oZ s (((A ++ B1) ++ c :: B2).map (Value.int .i64))) Q) → B2.length < k →
   p6.L1 aB k s kf ((A.length + B1.length : Nat) : Int) ((A.length + B1.length + 1 : Nat) : Int) M' := by
  intro B2
  induction B2 with
  | nil =>
   intro B1 c M' k he hc hH hk
   obtain ⟨k, rfl⟩ : ∃ j, k = j + 1 := ⟨k - 1, by omega⟩
   rw [List.append_nil] at he
   subst he
   refine Eq.mpr (H.L1 ..) ?_
   unfold p6.L1.T aJ
   rw [eO, if_neg (by omega)]
   refine ⟨⟨by omega, by omega, by omega⟩, ?_⟩
   obtain ⟨inf, hi', hz, hsz, hzs, hb1, hb2⟩ := W.e3
   obtain ⟨r, ⟨r1, r2, rfl, h1, h2⟩, h3⟩ := hH
   rcases h1 with ⟨rfl, h0, _⟩ | ⟨b, rest, e, hs, rfl⟩
   ·simp at h0
   ·have ho := h3.own (b := b) (cs := ((A ++ B) ++ [c]).map (Value.int .i64) ++ rest) (e := e) List.mem_cons_self
    have hcap : s.c = A.length + B.length + 1 + rest.length := by rw [hs]; simp; omega
    have hsa : s.a = some ⟨b, 0, none⟩ := by rw [hs]
    have hz1 : iF (Value.int .i64 0) 1 = [Value.int .i64 0] := by kernel_rfl
    rw [hsa, if_neg (by omega)]
    simp only [Option.map_some, Int.toNat_natCast, add_eq, Nat.zero_add, Nat.mul_one]
    rw [show s.n - (A.length + B.length) = 1 from by omega]
    refine aIF Tryz.underlying53 hi' hz (n := 1) (by decide) ho (by rw [hz1]; simp; omega) (by rw [hz1]; intro v hv; rw [List.mem_singleton.1 hv]; rfl) ?_
    rw [hz1]
    refine ⟨⟨by omega, by omega, by omega⟩, ?_⟩
    have hov : eH (((A ++ B) ++ [c]).map (Value.int .i64) ++ rest) (A.length + B.length) [Value.int .i64 0] = (A ++ B).map (Value.int .i64) ++ (Value.int .i64 0 :: rest) := by
     have := eM ((A ++ B).map (Value.int .i64)) [Value.int .i64 c] rest [Value.int .i64 0] rfl (o := A.length + B.length) (by simp)
     rw [List.map_append, List.append_assoc]
     exact this
    rw [hov]
    have h4 : Fit w0 F (M'.set b (.row ((A ++ B).map (Value.int .i64) ++ (Value.int .i64 0 :: rest)) e)) ((b, (A ++ B).map (Value.int .i64) ++ (Value.int .i64 0 :: rest), e) :: r2) := h3.upd
    have hfin := hR _ ⟨some ⟨b, 0, none⟩, A.length + B.length, s.c⟩ ⟨_, ⟨[_], r2, rfl, .inr ⟨b, Value.int .i64 0 :: rest, e, ?_, rfl⟩, h2⟩, h4⟩
    ·have : (if s.c = (0 : Int).toNat then some (⟨b, 0, none⟩ : Addr) else some ⟨b, (0 : Int).toNat, none⟩) = some ⟨b, 0, none⟩ := by split <;> rfl
     simp only [Int.toNat_zero, Nat.sub_zero] at this ⊢
     rw [this]
     exact hfin
    ·simp only [SV.mk.injEq, true_and, List.length_map, List.length_append, List.length_cons]
     omega
  | cons y B2 ih =>
   intro B1 c M' k he hc hH hk
   obtain ⟨k, rfl⟩ : ∃ j, k = j + 1 := ⟨k - 1, by omega⟩
   have ll := congrArg List.length he
   simp only [List.length_append, List.length_cons] at ll hk
   have eE : y ≠ x := fun e => hB (by rw [he, ← e]; simp)
   have hyw : (Lit.int .i64 y).wf = true := hwf y (by rw [he]; simp)
   have hcur : ∀ u ∈ (A ++ B1) ++ c :: y :: B2, (Lit.int .i64 u).wf = true := fun u hu => by
    simp only [List.mem_append, List.mem_cons] at hu
    rcases hu with (hu | hu) | rfl | rfl | hu
    ·exact hwf u (by simp [hu])
    ·exact hwf u (by rw [he]; simp [hu])
    ·exact hc
    ·exact hyw
    ·exact hwf u (by rw [he]; simp [hu])
   have hr := hrd hcur (by simp only [List.length_append, List.length_cons]; omega) hH
   refine Eq.mpr (H.L1 ..) ?_
   unfold p6.L1.T aJ
   rw [eO, if_pos (by omega)]
   refine rdx (x := y) W.c3 hr (Mem.le_refl _) (A.length + B1.length + 1) rfl (by
    rw [List.getElem?_append_right (by simp), List.length_append, show A.length + B1.length + 1 - (A.length + B1.length) = 1 from by omega]; rfl) ?_
   refine hp y M' _ hH.fr ?_
   rw [bU, beq_eq_false_iff_ne.2 eE, Bool.not_false, dU]
   refine st1 W.c3 hH (A.length + B1.length) rfl (by simp) rfl rfl fun M2 hH2 => ?_
   rw [cR (by omega), cR (by omega)]
   have e2 : (((A ++ B1) ++ c :: y :: B2).map (Value.int .i64)).set (A.length + B1.length) (.int .i64 y) = ((A ++ (B1 ++ [y])) ++ y :: B2).map (Value.int .i64) := by
    rw [List.map_append, List.map_cons, List.set_append_right _ _ (by simp), List.length_map, List.length_append, Nat.sub_self, List.set_cons_zero]
    simp
   rw [e2] at hH2
   have := ih (B1 ++ [y]) y M2 k (by rw [he]; simp) hyw hH2 (by omega)
   rw [List.length_append, List.length_singleton] at this
   exact this
 rw [cR (by omega)]
 exact ⟨B.length + 1, key B [] x M _ rfl (hwf x (by simp)) (by simpa using h) (by omega)⟩
theorem aBX (hA : aA w0 F M (aE a α)) {f : Nat → cC} {l : List Tn} {n : Nat} (hst : St α (-1) (fo l)) (hn1 : α.get n 1 = -1) (hn4 : α.get n 4 = 0) (hlb : Lb α f (n :: aQ l)) (fO : (bE f (n :: aQ l)).Nodup) (hok : ∀ t ∈ l, wQ 2 t) (hod : ∀ t ∈ l, yB f t) (hwk : Wk l)
  (h : ∀ M' β f' l', aA w0 F M' (aE a β) → St β (-1) (fo l') → Lb β f' (n :: aQ l) → (aQ l').Perm (n :: aQ l) → ((n :: aQ l).map f').Perm ((n :: aQ l).map f) → (∀ x, x ∉ n :: aQ l → f' x = f x) → (∀ t ∈ l', wQ 2 t) → (∀ t ∈ l', yB f' t) → Wk l' → AS.nH (fun c => c ∈ bE f (n :: aQ l)) 40 α β → R (.int .i64 (fo l').root) M') :
  C PP w0 Id.sN #[.pointer (some ⟨a, 0, none⟩), .int .i64 (fo l).root, .int .i64 (n : Int)] R M := by
 apply sN.go
 intro aB H
 unfold sN.T aJ
 have hI := hA.inv
 have hI65 := hI.n
 have hnn := iB fO
 obtain ⟨hn0, hnl⟩ := List.nodup_cons.1 hnn
 have hsz := mR α.n _ hnn fun y hy => AS.cE hI (hlb y hy).ln
 have hNn := hlb n List.mem_cons_self
 have hcn : n ∈ bE f (n :: aQ l) := List.mem_append_left _ List.mem_cons_self
 have hcl : ∀ c ∈ aQ l, c ∈ bE f (n :: aQ l) := fun c hc => List.mem_append_left _ (List.mem_cons_of_mem _ hc)
 have front : Rs l → ∀ (M1 : Mem) (β : AS), aA w0 F M1 (aE a β) → AS.Sm 3 α β → C PP w0 Id.pN #[.pointer (some ⟨a, 0, none⟩), .int .i64 (n : Int), .int .i64 3, .int .i64 (fo l).root] (fun v7 M8 => shB v7 fun b9 => C PP w0 Id.pN #[.pointer (some ⟨a, 0, none⟩), .int .i64 (n : Int), .int .i64 0, .int .i64 (-1)] (fun v10 M11 => shB v10 fun b12 => R (.int .i64 (n : Int)) M11) M8) M1 := by
  intro hrs M1 β hB hsm
  refine gS hB fun M2 hB2 => ?_
  rw [show β.lP (n : Int) 3 (fo l).root = β.put n 3 (fo l).root from AS.cL (f := 3) (by rw [hsm.live]; exact hNn.ln) (by omega) _] at hB2
  rw [bU]
  refine gS hB2 fun M3 hB3 => ?_
  rw [show (β.put n 3 (fo l).root).tick.lP (n : Int) 0 (-1) = (β.put n 3 (fo l).root).tick.put n 0 (-1) from AS.cL (α := (β.put n 3 (fo l).root).tick) (f := 0) (by show β.live n = true; rw [hsm.live]; exact hNn.ln) (by omega) _] at hB3
  rw [bU]
  have s3 : AS.Sm 5 ((α.put n 3 (fo l).root).put n 0 (-1)) ((β.put n 3 (fo l).root).tick.put n 0 (-1)).tick := ((((hsm.put n 3 (fo l).root).trans AS.aN).put n 0 (-1)).trans AS.aN).mono (by omega)
  generalize ((β.put n 3 (fo l).root).tick.put n 0 (-1)).tick = γ at hB3 s3
  have g : ∀ c x, γ.get c x = if c = n ∧ x = 0 then -1 else if c = n ∧ x = 3 then (fo l).root else α.get c x := fun c x => by rw [s3.get]; rfl
  have gl : ∀ c, γ.live c = α.live c := fun c => by rw [s3.live]; rfl
  refine h M3 γ f (⟨n, 0, .nil⟩ :: l) hB3 ⟨?_, ?_, ?_, ?_, trivial, ?_⟩ (hlb.congr (fun c _ x hx => by rw [g, if_neg (by omega), if_neg (by omega)]) (fun c _ => gl c)) (List.Perm.refl _) (List.Perm.refl _) (fun _ _ => rfl) (fun t ht => ?_) (fun t ht => ?_) ⟨hrs, fun x _ => Nat.zero_le _⟩
   (((((AS.nH.refl (S := fun c => c ∈ bE f (n :: aQ l)) (α := α)).put hcn).put hcn).trans s3.lJ).mono (fun _ h => h) (by omega))
  ·rw [g, if_pos ⟨rfl, rfl⟩]
  ·rw [g, if_neg (by omega), if_neg (by omega)]; exact hn1
  ·rw [g, if_neg (by omega), if_pos ⟨rfl, rfl⟩]
  ·rw [g, if_neg (by omega), if_neg (by omega)]; exact hn4
  ·refine hst.congr fun x hx y _ => ?_
   rw [p9] at hx
   have eE : x ≠ n := fun e => hn0 (e ▸ hx)
   rw [g, if_neg (fun e : x = n ∧ y = 0 => eE e.1), if_neg (fun e : x = n ∧ y = 3 => eE e.1)]
  ·rcases List.mem_cons.1 ht with rfl | ht
   ·exact aEP
   ·exact hok t ht
  ·rcases List.mem_cons.1 ht with rfl | ht
   ·exact ⟨fun x hx => (by cases hx), trivial⟩
   ·exact hod t ht
 match l, hst, hlb, fO, hok, hod, hwk, h, hnn, hn0, hnl, hcn, hcl, front, hsz, hNn with
 | [], hst, hlb, fO, hok, hod, hwk, h, hnn, hn0, hnl, hcn, hcl, front, hsz, hNn =>
  (rw [show (fo []).root = -1 from rfl, cD, if_pos rfl]; refine Eq.mpr (H.J1 ..) ?_)
  unfold sN.J1.T aJ
  refine p3 hA fun M1 hA1 => ?_
  rw [aL, eW, if_pos rfl]
  exact front List.Pairwise.nil M1 _ hA1 (AS.aN.mono (by omega))
 | [t], hst, hlb, fO, hok, hod, hwk, h, hnn, hn0, hnl, hcn, hcl, front, hsz, hNn =>
  have hlt : α.live t.n = true := (hlb t.n (by simp [aQ, eN])).ln
  rw [show (fo [t]).root = (t.n : Int) from rfl, cD, if_neg (by omega)]
  refine eQ hA fun M1 hA1 => ?_
  (rw [show α.fH (t.n : Int) 3 = -1 from AS.y6 (f := 3) hlt (by omega) hst.2.2.1, aL]; refine Eq.mpr (H.J1 ..) ?_)
  unfold sN.J1.T aJ
  refine p3 hA1 fun M2 hA2 => ?_
  rw [aL, eW, if_pos rfl]
  exact front (List.pairwise_singleton _ _) M2 _ hA2 ((AS.aN.trans AS.aN).mono (by omega))
 | t :: u :: rest, hst, hlb, fO, hok, hod, hwk, h, hnn, hn0, hnl, hcn, hcl, front, hsz, hNn =>
  have hlt : α.live t.n = true := (hlb t.n (by simp [aQ, eN])).ln
  have hlu : α.live u.n = true := (hlb u.n (by simp [aQ, eN])).ln
  rw [show (fo (t :: u :: rest)).root = (t.n : Int) from rfl, cD, if_neg (by omega)]
  obtain ⟨t0, t1, t3, t4, t5, u0, u1, u3, u4, u5, hrest⟩ := hst
  refine eQ hA fun M1 hA1 => ?_
  (rw [show α.fH (t.n : Int) 3 = (u.n : Int) from AS.dB (f := 3) hlt (by omega) t3 (AS.cE hI hlu), aL]; refine Eq.mpr (H.J1 ..) ?_)
  unfold sN.J1.T aJ
  refine p3 hA1 fun M2 hA2 => ?_
  rw [show α.tick.jK (t.n : Int) 4 = (t.k : Int) from (AS.iM (α := α.tick) (f := 4) hlt (by omega)).trans t4, aL, eW, if_neg (by omega)]
  refine p3 hA2 fun M3 hA3 => ?_
  rw [show α.tick.tick.jK (u.n : Int) 4 = (u.k : Int) from (AS.iM (α := α.tick.tick) (f := 4) hlu (by omega)).trans u4, aL, cD]
  have s3 : AS.Sm 3 α α.tick.tick.tick := ((AS.aN.trans AS.aN).trans AS.aN).mono (by omega)
  obtain ⟨wk1, wk2⟩ := hwk
  have htu := wk2 u List.mem_cons_self
  split
  rotate_left
  ·rename_i eE
   have hlt' : t.k < u.k := by
    have : ¬ ((u.k : Int) = (t.k : Int)) := eE
    omega
   refine front (List.pairwise_cons.2 ⟨fun x hx => ?_, wk1⟩) M3 _ hA3 s3
   rcases List.mem_cons.1 hx with rfl | hx
   ·exact hlt'
   ·exact Nat.lt_trans hlt' ((List.pairwise_cons.1 wk1).1 x hx)
  ·rename_i heq
   have hkk : t.k = u.k := by
    have : (u.k : Int) = (t.k : Int) := heq
    omega
   refine Eq.mpr (H.J2 ..) ?_
   unfold sN.J2.T aJ
   generalize hα3 : α.tick.tick.tick = α3 at hA3 s3
   have hrl : (fo rest).root = -1 ∨ ∃ y : Nat, (fo rest).root = (y : Int) ∧ α.live y = true := by
    cases rest with
    | nil => exact .inl rfl
    | cons v rest => exact .inr ⟨v.n, rfl, (hlb v.n (by simp [aQ, eN])).ln⟩
   refine eQ hA3 fun M4 hA4 => ?_
   rw [show α3.fH (u.n : Int) 3 = (fo rest).root from AS.kG hA3.inv (f := 3) (by rw [s3.live]; exact hlu) (by omega) (by rw [s3.get]; exact u3) (by rw [s3.live]; exact hrl), aL]
   have s4 : AS.Sm 4 α α3.tick := (s3.trans AS.aN).mono (by omega)
   generalize α3.tick = α4 at hA4 s4
   have hNl : aQ (t :: u :: rest) = eN t ++ (eN u ++ aQ rest) := rfl
   have hnl2 := hnl
   rw [hNl, ← List.append_assoc] at hnl2
   obtain ⟨q1, q2, q3⟩ := List.nodup_append.1 hnl2
   have hlb4 : Lb α4 f (n :: aQ (t :: u :: rest)) := hlb.sm s4
   have htk : t.k ≤ 65536 := aAC (hok t (by simp)) (Nat.le_trans (rX (l := t :: u :: rest) (by simp)) (by simp only [List.length_cons] at hsz; omega))
   refine aED hA4 (t := t) (u := u) (yW.sm (t := t) ⟨t1, t4, t5⟩ s4) (yW.sm (t := u) ⟨u1, u4, u5⟩ s4) (hlb4.sub fun x hx => by
    refine List.mem_cons_of_mem _ ?_
    rw [hNl, ← List.append_assoc]
    exact List.mem_append_left _ hx) q1 hkk (by omega) fun M5 β hB hstw hcβ hgβ hwβ => ?_
   rw [aL]
   have hwok := aHx f (by decide) (hok t (by simp)) (hok u (by simp)) hkk
   have hwk' := aJD f hkk
   have hwn := aFi f t u
   have hwod : yB f (sT f t u) := aHA (hod t (by simp)) (hod u (by simp)) fun e => by
    have := kQ fO t.n (by simp [aQ, eN]) u.n (by simp [aQ, eN]) e
    exact (List.nodup_append.1 q1).2.2 t.n List.mem_cons_self u.n List.mem_cons_self this
   have hw0 : β.get (sT f t u).n 0 = -1 := by
    rw [hwβ 0 (by decide) (by decide), s4.get]
    rcases aLf f t u with e | e
    ·rw [e]; exact t0
    ·rw [e]; exact u0
   generalize hw : sT f t u = w at hstw hwβ hwok hwk' hwn hwod hw0 ⊢
   have hwmem : ∀ c ∈ eN w, c ∈ aQ (t :: u :: rest) := fun c hc => by
    rw [hNl, ← List.append_assoc]
    exact List.mem_append_left _ (hwn.mem_iff.1 hc)
   have hnw : n ∉ eN w := fun hc => hn0 (hwmem n hc)
   have hnw' : n ≠ w.n := fun e => hnw (e ▸ List.mem_cons_self)
   have hnt : n ≠ t.n := fun e => hn0 (by rw [e]; simp [aQ, eN])
   have hnu : n ≠ u.n := fun e => hn0 (by rw [e]; simp [aQ, eN])
   have hlbβ : Lb β f (n :: aQ (t :: u :: rest)) := hlb4.congr (fun c _ x hx => hgβ c x (by omega)) (fun c _ => by rw [hcβ.live])
   have hwin : w.n ∈ n :: aQ (t :: u :: rest) := List.mem_cons_of_mem _ (hwmem _ List.mem_cons_self)
   have gβ : ∀ x, x ≠ t.n → x ≠ u.n → ∀ y, β.get x y = α.get x y := fun x h1 h2 y => by
    rw [hcβ.get x (by rintro (e | e); exact h1 e; exact h2 e), s4.get]
   have hβlive : ∀ x, β.live x = α.live x := fun x => by rw [hcβ.live, s4.live]
   have hcβ' : AS.nH (fun c => c ∈ bE f (n :: aQ (t :: u :: rest))) 15 α β := (s4.lJ.trans (hcβ.mono (T := fun c => c ∈ bE f (n :: aQ (t :: u :: rest))) (fun c hc => by
    rcases hc with rfl | rfl
    ·exact hcl _ (by simp [aQ, eN])
    ·exact hcl _ (by simp [aQ, eN])) (Int.le_refl _))).mono (fun _ h => h) (by omega)
   refine qS hB (hlbβ n List.mem_cons_self) (hlbβ w.n hwin) fun M6 γ hC s6 => ?_
   rw [bU]
   have fin : ∀ (f' : Nat → cC) (M7 : Mem) (δ : AS), aA w0 F M7 (aE a δ) → Lb δ f' (n :: aQ (t :: u :: rest)) → ((n :: aQ (t :: u :: rest)).map f').Perm ((n :: aQ (t :: u :: rest)).map f) → (∀ x, x ≠ n → x ≠ w.n → f' x = f x) → Bf (f' w.n) (f' n) → (∀ x ∈ aO w.c, Bf (f' w.n) (f x)) →
     (∀ x ∈ n :: aQ (t :: u :: rest), ∀ y, y ≠ 6 → δ.get x y = β.get x y) → AS.nH (fun c => c ∈ bE f (n :: aQ (t :: u :: rest))) 27 α δ → sN.J3 aB (some ⟨a, 0, none⟩) (n : Int) (fo rest).root (w.n : Int) M7 := by
    intro f' M7 δ hD hlb' hpf hff hb1 hb2 hgδ hcδ
    refine Eq.mpr (H.J3 ..) ?_
    unfold sN.J3.T aJ
    have hwcr : w.c.root = -1 ∨ ∃ y : Nat, w.c.root = (y : Int) ∧ δ.live y = true := by
     cases hc : w.c with
     | nil => exact .inl rfl
     | node y k c s => exact .inr ⟨y, rfl, (hlb' y (List.mem_cons_of_mem _ (hwmem y (by unfold eN; rw [hc]; simp [aO])))).ln⟩
    refine aDy hD (n := n) (up := w.n) (hlb' n List.mem_cons_self).ln (hlb' w.n hwin).ln (v := w.c.root) (by rw [hgδ w.n hwin 1 (by decide)]; exact hstw.1) hwcr fun M8 ε hE s8 => ?_
    refine gS hE fun M9 hE9 => ?_
    have hεw : ε.live w.n = true := by rw [s8.live]; exact (hlb' w.n hwin).ln
    rw [show ε.lP (w.n : Int) 3 (fo rest).root = ε.put w.n 3 (fo rest).root from AS.cL (f := 3) hεw (by omega) _] at hE9
    rw [bU]
    have s9 : AS.Sm 5 ((((δ.put n 3 w.c.root).put n 0 (w.n : Int)).put w.n 1 (n : Int)).put w.n 3 (fo rest).root) (ε.put w.n 3 (fo rest).root).tick := ((s8.put w.n 3 (fo rest).root).trans AS.aN).mono (by omega)
    generalize (ε.put w.n 3 (fo rest).root).tick = ζ at hE9 s9
    have g : ∀ c x, ζ.get c x = if c = w.n ∧ x = 3 then (fo rest).root else if c = w.n ∧ x = 1 then (n : Int) else if c = n ∧ x = 0 then (w.n : Int) else if c = n ∧ x = 3 then w.c.root else δ.get c x := fun c x => by rw [s9.get]; rfl
    have hodw : yB f' (und ⟨n, 0, .nil⟩ w) := by
     refine aAW (m := ⟨n, 0, .nil⟩) ⟨fun x hx => (by cases hx), trivial⟩ ⟨fun x hx => ?_, ?_⟩ hb1
     ·rw [hff x (fun e => hnw (e ▸ List.mem_cons_of_mem _ hx)) (fun e => (List.nodup_cons.1 (hwn.nodup_iff.2 q1)).1 (e ▸ hx))]
      exact hb2 x hx
     ·exact hwod.2.congr fun x hx => hff x (fun e => hnw (e ▸ List.mem_cons_of_mem _ hx)) (fun e => (List.nodup_cons.1 (hwn.nodup_iff.2 q1)).1 (e ▸ hx))
    refine h M9 ζ f' (und ⟨n, 0, .nil⟩ w :: rest) hE9 ?_ (hlb'.congr (fun c _ x hx => by rw [g, if_neg (by omega), if_neg (by omega), if_neg (by omega), if_neg (by omega)]) (fun c _ => by rw [s9.live]; rfl)) ?_ hpf ?_ (fun v hv => ?_) (fun v hv => ?_) ⟨(List.pairwise_cons.1 wk1).2, fun x hx => ?_⟩ ?_
    ·refine ⟨?_, ?_, ?_, ?_, ?_, ?_⟩
     ·show ζ.get w.n 0 = -1
      rw [g, if_neg (by omega), if_neg (by omega), if_neg (by omega), if_neg (by omega), hgδ w.n hwin 0 (by decide)]; exact hw0
     ·show ζ.get w.n 1 = (n : Int)
      rw [g, if_neg (by omega), if_pos ⟨rfl, rfl⟩]
     ·show ζ.get w.n 3 = _
      rw [g, if_pos ⟨rfl, rfl⟩]
     ·show ζ.get w.n 4 = (w.k : Int)
      rw [g, if_neg (by omega), if_neg (by omega), if_neg (by omega), if_neg (by omega), hgδ w.n hwin 4 (by decide)]; exact hstw.2.1
     ·refine ⟨?_, ?_, ?_, ?_, trivial, ?_⟩
      ·show ζ.get n 0 = (w.n : Int)
       rw [g, if_neg (by omega), if_neg (by omega), if_pos ⟨rfl, rfl⟩]
      ·show ζ.get n 1 = -1
       rw [g, if_neg (by omega), if_neg (by omega), if_neg (by omega), if_neg (by omega), hgδ n List.mem_cons_self 1 (by decide), gβ n hnt hnu]; exact hn1
      ·show ζ.get n 3 = _
       rw [g, if_neg (by omega), if_neg (by omega), if_neg (by omega), if_pos ⟨rfl, rfl⟩]
      ·show ζ.get n 4 = 0
       rw [g, if_neg (by omega), if_neg (by omega), if_neg (by omega), if_neg (by omega), hgδ n List.mem_cons_self 4 (by decide), gβ n hnt hnu]; exact hn4
      ·refine hstw.2.2.congr fun x hx y hy => ?_
       have h1 : x ≠ w.n := fun e => (List.nodup_cons.1 (hwn.nodup_iff.2 q1)).1 (e ▸ hx)
       have h2 : x ≠ n := fun e => hnw (e ▸ List.mem_cons_of_mem _ hx)
       rw [g, if_neg (fun e : x = w.n ∧ y = 3 => h1 e.1), if_neg (fun e : x = w.n ∧ y = 1 => h1 e.1), if_neg (fun e : x = n ∧ y = 0 => h2 e.1), if_neg (fun e : x = n ∧ y = 3 => h2 e.1)]
       exact hgδ x (List.mem_cons_of_mem _ (hwmem x (List.mem_cons_of_mem _ hx))) y hy
     ·refine hrest.congr fun x hx y hy => ?_
      rw [p9] at hx
      have h1 : x ≠ w.n := fun e => q3 w.n (hwn.mem_iff.1 List.mem_cons_self) x hx e.symm
      have h2 : x ≠ n := fun e => hn0 (by rw [← e, hNl, ← List.append_assoc]; exact List.mem_append_right _ hx)
      rw [g, if_neg (fun e : x = w.n ∧ y = 3 => h1 e.1), if_neg (fun e : x = w.n ∧ y = 1 => h1 e.1), if_neg (fun e : x = n ∧ y = 0 => h2 e.1), if_neg (fun e : x = n ∧ y = 3 => h2 e.1)]
      rw [hgδ x (List.mem_cons_of_mem _ (by rw [hNl, ← List.append_assoc]; exact List.mem_append_right _ hx)) y hy]
      exact gβ x (fun e => q3 t.n (by simp [eN]) x hx e.symm) (fun e => q3 u.n (by simp [eN]) x hx e.symm) y
    ·show (eN (und ⟨n, 0, .nil⟩ w) ++ aQ rest).Perm _
     refine ((aIk ⟨n, 0, .nil⟩ w).append_right _).trans ?_
     show (n :: (eN w ++ aQ rest)).Perm _
     refine List.Perm.cons _ ?_
     rw [hNl, ← List.append_assoc]
     exact hwn.append_right _
    ·intro x hx
     exact hff x (fun e => hx (e ▸ List.mem_cons_self)) (fun e => hx (e ▸ hwin))
    ·rcases List.mem_cons.1 hv with rfl | hv
     ·exact aI0 hwok.1 rfl rfl (by rw [hwk']; have := hwok.2; omega)
     ·exact hok v (by simp [hv])
    ·rcases List.mem_cons.1 hv with rfl | hv
     ·exact hodw
     ·refine (hod v (by simp [hv])).congr fun x hx => hff x (fun e => hn0 ?_) (fun e => ?_)
      ·rw [← e]; exact eB.2 ⟨v, by simp [hv], hx⟩
      ·exact q3 w.n (hwn.mem_iff.1 List.mem_cons_self) x (eB.2 ⟨v, hv, hx⟩) e.symm
    ·show w.k ≤ x.k
     have := (List.pairwise_cons.1 wk1).1 x hx
     rw [hwk']; omega
    ·have cw : w.n ∈ bE f (n :: aQ (t :: u :: rest)) := List.mem_append_left _ hwin
     exact (((((hcδ.put (f := 3) (v := w.c.root) hcn).put (f := 0) (v := (w.n : Int)) hcn).put (f := 1) (v := (n : Int)) cw).put (f := 3) (v := (fo rest).root) cw).trans s9.lJ).mono (fun _ h => h) (by omega)
   have hwcn : ∀ x ∈ aO w.c, Bf (f w.n) (f x) := hwod.1
   by_cases hbf : Bf (f n) (f w.n)
   ·rw [decide_eq_true hbf, dU]
    have hlbγ := hlbβ.sm s6
    refine aE2 hC (hlbγ n List.mem_cons_self) (hlbγ w.n hwin) fun M7 δ hD s7 => ?_
    have hiw : ∀ c, c = (f n).1 ∨ c = (f w.n).1 → c ∈ bE f (n :: aQ (t :: u :: rest)) := fun c hc => by
     rcases hc with rfl | rfl
     ·exact List.mem_append_right _ (List.mem_map.2 ⟨n, List.mem_cons_self, rfl⟩)
     ·exact List.mem_append_right _ (List.mem_map.2 ⟨w.n, hwin, rfl⟩)
    refine fin (sw f n w.n) M7 δ hD (aJE hlbγ fO List.mem_cons_self hwin hnw' s7) (aDY hnn List.mem_cons_self hwin) (fun x h1 h2 => by unfold sw; rw [if_neg h1, if_neg h2]) ?_ (fun x hx => ?_) (fun x hx y hy => ?_) ?_
    ·have e1 : sw f n w.n w.n = f n := by unfold sw; rw [if_neg (fun e => hnw' e.symm), if_pos rfl]
     have e2 : sw f n w.n n = f w.n := by unfold sw; rw [if_pos rfl]
     rw [e1, e2]; exact hbf
    ·have e1 : sw f n w.n w.n = f n := by unfold sw; rw [if_neg (fun e => hnw' e.symm), if_pos rfl]
     rw [e1]; exact hbf.tr (hwcn x hx)
    ·rw [s7.get]
     show (if x = (f n).1 ∧ y = 9 then (w.n : Int) else if x = w.n ∧ y = 6 then ((f n).1 : Int) else if x = (f w.n).1 ∧ y = 9 then (n : Int) else if x = n ∧ y = 6 then ((f w.n).1 : Int) else γ.get x y) = _
     rw [if_neg (fun e => rS fO x hx n List.mem_cons_self e.1), if_neg (fun e => hy e.2), if_neg (fun e => rS fO x hx w.n hwin e.1), if_neg (fun e => hy e.2), s6.get]
    ·exact ((((((hcβ'.trans s6.lJ).put (f := 6) (v := ((f w.n).1 : Int)) hcn).put (f := 9) (v := (n : Int)) (hiw _ (.inr rfl))).put (f := 6) (v := ((f n).1 : Int)) (List.mem_append_left _ hwin)).put (f := 9) (v := (w.n : Int)) (hiw _ (.inl rfl))).trans s7.lJ).mono (fun _ h => h) (by omega)
   ·rw [decide_eq_false hbf, mT]
    refine fin f M6 γ hC (hlbβ.sm s6) (List.Perm.refl _) (fun _ _ _ => rfl) (Bf.tot hbf fun e => hnw' (kQ fO n List.mem_cons_self w.n hwin e)) hwcn (fun x _ y _ => by rw [s6.get]) ((hcβ'.trans s6.lJ).mono (fun _ h => h) (by omega))
end
end HL
end Go.Proofs.YtodobkbnmjgkdaaGreat
