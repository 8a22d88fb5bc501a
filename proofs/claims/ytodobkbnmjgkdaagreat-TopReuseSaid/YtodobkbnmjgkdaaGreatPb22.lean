import Derived.Test.YtodobkbnmjgkdaaGreatPb21
namespace Go.Proofs.YtodobkbnmjgkdaaGreat
open Go.RowKit (Below)
set_option linter.unusedVariables false
set_option linter.unusedSimpArgs false
set_option maxRecDepth 100000
set_option maxHeartbeats 1000000
namespace HL
def rJ (S S' : QS) (k : Int) : Prop := 0 ≤ S.α.steps ∧ S.α.steps ≤ 9223372036854775807 → S'.α.steps ≤ 9223372036854775807 ∧ S.α.steps ≤ S'.α.steps ∧ S'.α.steps ≤ S.α.steps + k
theorem rJ.trans {S1 S2 S3 : QS} {k j : Int} (h : rJ S1 S2 k) (h2 : rJ S2 S3 j) : rJ S1 S3 (k + j) := fun h0 => by
 have h1 := h h0
 have h3 := h2 ⟨by omega, h1.1⟩
 omega
theorem rJ.of {S S' : QS} {k : Int} {β : AS} (hs : AS.Sm 0 S.α β) (h : ∃ Sx Lx d, AS.lE Sx Lx d k β S'.α) : rJ S S' k := fun h0 => by
 obtain ⟨Sx, Lx, d, h⟩ := h
 have h1 := (hs.o0 (S := fun _ => True) (L := fun _ => True)).steps h0
 have h3 := h.steps ⟨by omega, h1.1⟩
 omega
section
variable {w0 : World} {F M : Mem} {R : VP} {os : uX} {q a t bh bi ma me : Nat} {S : QS} {Q : cY} {I : List mY} {H : List Hv} {tm most next : Int} {oa oe : Obj}
theorem aBy (h : HO w0 F M os (QA q a t bh bi me S Q)) (hK : R (.int .i64 S.α.steps) M) : C PP w0 Id.lZ #[.pointer (some ⟨q, 0, none⟩)] R M := by
 apply lZ.go
 unfold lZ.T aJ
 simp only [aX, add_eq, Nat.zero_add, Q1 h.qo, aC, bK]
 obtain ⟨F1, hA, l1, back1⟩ := h.uJ
 refine aDw hA fun p hp => ?_
 rw [bK]
 refine hp _ ?_
 rw [aL]
 exact hK
theorem uM {k g1 g2 p1 p2 s1 s2 key : Int} (oT : cM w0 F t (wS bh bi ma) wN) (hv : dR S I H tm) (htm : tm ≤ 900000) (hk1 : 1 ≤ k) (hk3 : k ≤ 3) (hH : H.length < 64) (h : HO w0 F M os (QA q a t bh bi me S Q))
  (hK : ∀ M' S' r, HO w0 F M' os (QA q a t bh bi me S' Q) → dR S' I (H ++ [⟨r, k, -1, []⟩]) (tm + 1) → dX I r = [] → S'.most = S.most → S'.next = S.next → S'.ip = S.ip → S'.at_ = S.at_ → S'.en = S.en → rJ S S' 0 → R (.agg (kX 0 r.1 r.2 0 0 0 0 0).toArray) M') :
  C PP w0 Id.iK #[.pointer (some ⟨q, 0, none⟩), .agg (m8 1 k g1 g2 p1 p2 s1 s2 key).toArray] R M := by
 apply iK.go
 unfold iK.T aJ
 refine rQ h fun b1 F1 M1 l1 lm1 o1 h1 => ?_
 have oT1 := oT.le l1
 refine jI h1 fun b3 M2 lm2 h2' => ?_
 have h2 := h2'.aW aA.dp
 simp only [aX, add_eq, Nat.zero_add, Q1 h2.qo, aC, bK]
 obtain ⟨F3, hA3, l3, lO⟩ := h2.uJ
 refine iJ hA3 fun p hp => ?_
 rw [bK]
 refine hp _ fun M3 β hB3 hs => ?_
 have hβ := hB3.inv
 have hvβ := hv.sm hs hβ
 have h3 := lO M3 _ hB3
 simp only [lR W.c3 (o1.le h3.fr) (o := 0) rfl, aC, aL]
 rw [eW, if_pos rfl]
 obtain ⟨hl1, hl2⟩ := hv.uV
 obtain ⟨i, hat⟩ := hv.aLG hH
 obtain ⟨hv', hnil⟩ := hvβ.make hk1 hk3 hat
 have hgi : ∀ x ∈ S.hp.l, 0 ≤ x.g ∧ x.g ≤ 1000000 := fun x hx => by have := hv.hg x hx; omega
 simp only [aX, add_eq, Nat.zero_add, Q2 h3.h.right.right.bA, lR W.c3 (o1.le h3.fr) (o := 1) rfl, aC, aL, bK]
 refine ⟨?_, ?_⟩
 rotate_left
 refine jI h3 fun b4 M4' lm4 h4' => ?_
 refine ⟨Q2 h4'.h.right.right.right.bA, lR W.c3 (o1.le h4'.fr) (o := 1) rfl, ?_⟩
 refine aDB oT1 (h4'.aW aA.dT) ⟨hk1, by omega⟩ hv.ho hl1 hl2 hgi hat fun M4 h4 => ?_
 simp only [cA, aU, a9, aL, aT]
 refine vY aZ (by rfl) iL (h4.aW aA.dT) fun F5 M5 l5 o5 h5 => ?_
 rotate_left
 refine aDB oT1 h3 ⟨hk1, by omega⟩ hv.ho hl1 hl2 hgi hat fun M4 h4 => ?_
 simp only [cA, aU, a9, aL, aT]
 refine j9 aZ (by rfl) iL h4 fun b4 F5 M5 l5 o5 h5 => ?_
 all_goals
  have hbl : (aH PP w0).nM aAQ [(1, .agg #[.int .i64 (i : Int), .int .i64 (S.hp.gen i)]), (0, .int .i64 0)] = some (.agg (kX 0 i (S.hp.gen i) 0 0 0 0 0).toArray) := by kernel_rfl
  simp only [fB aZ (o5.le h5.fr), aC, a9, aU, aL, aT, hbl]
  refine jJ pX (by rfl) dS (h5.aW aA.up) fun M9 h9 => ?_
  exact hK M9 ⟨S.most, S.next, β, S.hp.take z3 i (k, -1, 0), S.ip, S.at_, S.en⟩ ((i : Int), S.hp.gen i) ((h9.fJ l5).fJ l1) hv' hnil rfl rfl rfl rfl rfl (fun h0 => by have := (hs.o0 (S := fun _ => True) (L := fun _ => True)).steps h0; show β.steps ≤ _ ∧ _ ≤ β.steps ∧ β.steps ≤ _; omega)
theorem tL {A B : List Hv} {y : Hv} {k p1 p2 s1 s2 key : Int} (oT : cM w0 F t (wS bh bi ma) wN) (hv : dR S I (A ++ y :: B) tm) (htm : tm ≤ 900000) (hlen : (I.length : Int) < S.most)
  (hfa : dF (Value.int .i64) bX S.at_ oa) (hfe : dF bX mJ S.en oe) (h : HO w0 F M ((ma, oa) :: (me, oe) :: os) (QA q a t bh bi me S Q))
  (hK : ∀ M' S' oa' oe' i y', S.ip.at_ = some i → dF (Value.int .i64) bX S'.at_ oa' → dF bX mJ S'.en oe' → HO w0 F M' ((ma, oa') :: (me, oe') :: os) (QA q a t bh bi me S' Q) →
   y'.h = y.h → y'.k = y.k → (∃ c, dR S' (I ++ [⟨((i : Int), S.ip.gen i), y.h, c, (key, S.next)⟩]) (A ++ y' :: B) (tm + 1)) → S'.most = S.most → S'.next = S.next + 1 → S'.ip.pl = S.ip.pl.take i 0 → rJ S S' (3 + dJ (I.length + 1)) →
   R (.agg (kX 0 0 0 i (S.ip.gen i) key S.next 0).toArray) M') :
  C PP w0 Id.iK #[.pointer (some ⟨q, 0, none⟩), .agg (m8 2 k y.h.1 y.h.2 p1 p2 s1 s2 key).toArray] R M := by
 apply iK.go
 unfold iK.T aJ
 refine rQ h fun b1 F1 M1 l1 lm1 o1 h1 => ?_
 have oT1 := oT.le l1
 refine jI h1 fun b3 M2 lm2 h2' => ?_
 have h2 := h2'.aW aA.dp
 simp only [aX, add_eq, Nat.zero_add, Q1 h2.qo, aC, bK]
 obtain ⟨F3, hA3, l3, lO⟩ := h2.uJ
 refine iJ hA3 fun p hp => ?_
 rw [bK]
 refine hp _ fun M3 β hB3 hs => ?_
 have hβ := hB3.inv
 have hvβ := hv.sm hs hβ
 have h3 := lO M3 _ hB3
 simp only [lR W.c3 (o1.le h3.fr) (o := 0) rfl, aC, aL]
 rw [eW, if_neg (by decide), eW, if_pos rfl]
 simp only [fB (vs := m8 2 k y.h.1 y.h.2 p1 p2 s1 s2 key) aJz (o1.le h3.fr), aC, a9, aU, aL, aT]
 refine aDL (S := { S with α := β }) oT1 hvβ htm hlen hfa hfe h3 fun M4 S' oa' oe' i y' hat hfa' hfe' h4 e1 e2 hv' e3 e4 e5 hst => ?_
 simp only [a9, aU, aL, aT]
 refine jJ pX (by rfl) dS (h4.aW aA.up) fun M9 h9 => ?_
 exact hK M9 S' oa' oe' i y' hat hfa' hfe' (h9.fJ l1) e1 e2 hv' e3 e4 e5 (rJ.of hs hst)
theorem xZ {A B : List Hv} {y : Hv} {k p1 p2 s1 s2 key : Int} (oT : cM w0 F t (wS bh bi ma) wN) (hv : dR S I (A ++ y :: B) tm) (hno : dX I y.h = []) (h : HO w0 F M os (QA q a t bh bi me S Q))
  (hK : ∀ M' S', HO w0 F M' os (QA q a t bh bi me S' Q) → dR S' I (A ++ y :: B) tm → S'.most = S.most → S'.next = S.next → S'.ip = S.ip → S'.at_ = S.at_ → S'.en = S.en → rJ S S' 0 → R (.agg (kX 27 0 0 0 0 0 0 0).toArray) M') :
  C PP w0 Id.iK #[.pointer (some ⟨q, 0, none⟩), .agg (m8 3 k y.h.1 y.h.2 p1 p2 s1 s2 key).toArray] R M := by
 apply iK.go
 unfold iK.T aJ
 refine rQ h fun b1 F1 M1 l1 lm1 o1 h1 => ?_
 have oT1 := oT.le l1
 refine jI h1 fun b3 M2 lm2 h2' => ?_
 have h2 := h2'.aW aA.dp
 simp only [aX, add_eq, Nat.zero_add, Q1 h2.qo, aC, bK]
 obtain ⟨F3, hA3, l3, lO⟩ := h2.uJ
 refine iJ hA3 fun p hp => ?_
 rw [bK]
 refine hp _ fun M3 β hB3 hs => ?_
 have hβ := hB3.inv
 have hvβ := hv.sm hs hβ
 have h3 := lO M3 _ hB3
 simp only [lR W.c3 (o1.le h3.fr) (o := 0) rfl, aC, aL]
 rw [eW, if_neg (by decide), eW, if_neg (by decide), eW, if_pos rfl]
 simp only [add_eq, Nat.zero_add, kE (o := 2) (vs := [.int .i64 y.h.1, .int .i64 y.h.2]) aZ (o1.le h3.fr) (qE rfl rfl), aC, a9, aU, aL, aT]
 refine aFG (S := { S with α := β }) oT1 hvβ hno h3 fun M4 h4 => ?_
 simp only [a9, aU, aL, aT]
 refine jJ pX (by rfl) dS (h4.aW aA.up) fun M9 h9 => ?_
 exact hK M9 { S with α := β } (h9.fJ l1) hvβ rfl rfl rfl rfl rfl (fun h0 => by have := (hs.o0 (S := fun _ => True) (L := fun _ => True)).steps h0; show β.steps ≤ _ ∧ _ ≤ β.steps ∧ β.steps ≤ _; omega)
theorem xF {A B : List Hv} {y : Hv} {k p1 p2 s1 s2 key : Int} (oT : cM w0 F t (wS bh bi ma) wN) (hv : dR S I (A ++ y :: B) tm) (eE : dX I y.h ≠ []) (hfa : dF (Value.int .i64) bX S.at_ oa) (hfe : dF bX mJ S.en oe) (h : HO w0 F M ((ma, oa) :: (me, oe) :: os) (QA q a t bh bi me S Q))
  (hK : ∀ M' S' x, x ∈ I → x.h = y.h → (∀ z ∈ I, z.h = y.h → z.c ≠ x.c → Bf x.held z.held) → dF (Value.int .i64) bX S'.at_ oa → dF bX mJ S'.en oe → HO w0 F M' ((ma, oa) :: (me, oe) :: os) (QA q a t bh bi me S' Q) → dR S' I (A ++ y :: B) tm → S'.most = S.most → S'.next = S.next → S'.ip = S.ip → rJ S S' (dJ I.length) → R (.agg (kX 0 0 0 x.r.1 x.r.2 x.e.1 x.e.2 0).toArray) M') :
  C PP w0 Id.iK #[.pointer (some ⟨q, 0, none⟩), .agg (m8 3 k y.h.1 y.h.2 p1 p2 s1 s2 key).toArray] R M := by
 apply iK.go
 unfold iK.T aJ
 refine rQ h fun b1 F1 M1 l1 lm1 o1 h1 => ?_
 have oT1 := oT.le l1
 refine jI h1 fun b3 M2 lm2 h2' => ?_
 have h2 := h2'.aW aA.dp
 simp only [aX, add_eq, Nat.zero_add, Q1 h2.qo, aC, bK]
 obtain ⟨F3, hA3, l3, lO⟩ := h2.uJ
 refine iJ hA3 fun p hp => ?_
 rw [bK]
 refine hp _ fun M3 β hB3 hs => ?_
 have hβ := hB3.inv
 have hvβ := hv.sm hs hβ
 have h3 := lO M3 _ hB3
 simp only [lR W.c3 (o1.le h3.fr) (o := 0) rfl, aC, aL]
 rw [eW, if_neg (by decide), eW, if_neg (by decide), eW, if_pos rfl]
 simp only [add_eq, Nat.zero_add, kE (o := 2) (vs := [.int .i64 y.h.1, .int .i64 y.h.2]) aZ (o1.le h3.fr) (qE rfl rfl), aC, a9, aU, aL, aT]
 refine aHh (S := { S with α := β }) oT1 hvβ eE hfa hfe h3 fun M4 γ x hx hxy hb hsg hγ h4 => ?_
 simp only [a9, aU, aL, aT]
 refine jJ pX (by rfl) dS (h4.aW aA.up) fun M9 h9 => ?_
 exact hK M9 { S with α := γ } x hx hxy hb hfa hfe (h9.fJ l1) (hvβ.sm hsg hγ) rfl rfl rfl (rJ.of hs ⟨fun _ => True, fun _ => True, 0, hsg.o0⟩)
theorem aCw {A B : List Hv} {y : Hv} {k p1 p2 s1 s2 key : Int} (oT : cM w0 F t (wS bh bi ma) wN) (hv : dR S I (A ++ y :: B) tm) (eE : dX I y.h ≠ []) (hfa : dF (Value.int .i64) bX S.at_ oa) (hfe : dF bX mJ S.en oe) (h : HO w0 F M ((ma, oa) :: (me, oe) :: os) (QA q a t bh bi me S Q))
  (hK : ∀ M' S' oa' oe' y' IA x IB, I = IA ++ x :: IB → x.h = y.h → (∀ z ∈ I, z.h = y.h → z.c ≠ x.c → Bf x.held z.held) → dF (Value.int .i64) bX S'.at_ oa' → dF bX mJ S'.en oe' → HO w0 F M' ((ma, oa') :: (me, oe') :: os) (QA q a t bh bi me S' Q) →
   y'.h = y.h → y'.k = y.k → dR S' (IA ++ IB) (A ++ y' :: B) (tm + 1) → S'.most = S.most → S'.next = S.next → S'.ip.pl = S.ip.pl.fZ x.r.1.toNat → rJ S S' (dJ I.length + 1) →
   R (.agg (kX 0 0 0 x.r.1 x.r.2 x.e.1 x.e.2 0).toArray) M') :
  C PP w0 Id.iK #[.pointer (some ⟨q, 0, none⟩), .agg (m8 4 k y.h.1 y.h.2 p1 p2 s1 s2 key).toArray] R M := by
 apply iK.go
 unfold iK.T aJ
 refine rQ h fun b1 F1 M1 l1 lm1 o1 h1 => ?_
 have oT1 := oT.le l1
 refine jI h1 fun b3 M2 lm2 h2' => ?_
 have h2 := h2'.aW aA.dp
 simp only [aX, add_eq, Nat.zero_add, Q1 h2.qo, aC, bK]
 obtain ⟨F3, hA3, l3, lO⟩ := h2.uJ
 refine iJ hA3 fun p hp => ?_
 rw [bK]
 refine hp _ fun M3 β hB3 hs => ?_
 have hβ := hB3.inv
 have hvβ := hv.sm hs hβ
 have h3 := lO M3 _ hB3
 simp only [lR W.c3 (o1.le h3.fr) (o := 0) rfl, aC, aL]
 rw [eW, if_neg (by decide), eW, if_neg (by decide), eW, if_neg (by decide), eW, if_pos rfl]
 simp only [add_eq, Nat.zero_add, kE (o := 2) (vs := [.int .i64 y.h.1, .int .i64 y.h.2]) aZ (o1.le h3.fr) (qE rfl rfl), aC, a9, aU, aL, aT]
 refine aHF (S := { S with α := β }) oT1 hvβ eE hfa hfe h3 fun M4 S' oa' oe' y' IA x IB hI hxy hb hfa' hfe' h4 e1 e2 hv' e3 e4 e5 hst => ?_
 simp only [a9, aU, aL, aT]
 refine jJ pX (by rfl) dS (h4.aW aA.up) fun M9 h9 => ?_
 exact hK M9 S' oa' oe' y' IA x IB hI hxy hb hfa' hfe' (h9.fJ l1) e1 e2 hv' e3 e4 e5 (rJ.of hs hst)
theorem aAL {IA IB : List mY} {x : mY} {A B : List Hv} {y : Hv} {k g1 g2 p1 p2 key : Int} (oT : cM w0 F t (wS bh bi ma) wN) (hv : dR S (IA ++ x :: IB) (A ++ y :: B) tm) (hxy : x.h = y.h) (hkey : key ≤ x.e.1)
  (hfa : dF (Value.int .i64) bX S.at_ oa) (hfe : dF bX mJ S.en oe) (h : HO w0 F M ((ma, oa) :: (me, oe) :: os) (QA q a t bh bi me S Q))
  (hK : ∀ M' S' oe' y', dF (Value.int .i64) bX S'.at_ oa → dF bX mJ S'.en oe' → HO w0 F M' ((ma, oa) :: (me, oe') :: os) (QA q a t bh bi me S' Q) →
   y'.h = y.h → y'.k = y.k → dR S' (IA ++ { x with e := (key, x.e.2) } :: IB) (A ++ y' :: B) tm → S'.most = S.most → S'.next = S.next → S'.ip = S.ip → rJ S S' (2 + dJ (IA ++ x :: IB).length) →
   R (.agg (kX 0 0 0 0 0 key x.e.2 0).toArray) M') :
  C PP w0 Id.iK #[.pointer (some ⟨q, 0, none⟩), .agg (m8 5 k g1 g2 p1 p2 x.r.1 x.r.2 key).toArray] R M := by
 apply iK.go
 unfold iK.T aJ
 refine rQ h fun b1 F1 M1 l1 lm1 o1 h1 => ?_
 have oT1 := oT.le l1
 refine jI h1 fun b3 M2 lm2 h2' => ?_
 have h2 := h2'.aW aA.dp
 simp only [aX, add_eq, Nat.zero_add, Q1 h2.qo, aC, bK]
 obtain ⟨F3, hA3, l3, lO⟩ := h2.uJ
 refine iJ hA3 fun p hp => ?_
 rw [bK]
 refine hp _ fun M3 β hB3 hs => ?_
 have hβ := hB3.inv
 have hvβ := hv.sm hs hβ
 have h3 := lO M3 _ hB3
 simp only [lR W.c3 (o1.le h3.fr) (o := 0) rfl, aC, aL]
 rw [eW, if_neg (by decide), eW, if_neg (by decide), eW, if_neg (by decide), eW, if_neg (by decide), eW, if_pos rfl]
 simp only [fB (vs := m8 5 k g1 g2 p1 p2 x.r.1 x.r.2 key) aJz (o1.le h3.fr), aC, a9, aU, aL, aT]
 refine aCu (S := { S with α := β }) oT1 hvβ hxy hkey hfa hfe h3 fun M4 S' oe' y' hfa' hfe' h4 e1 e2 hv' e3 e4 e5 hst => ?_
 simp only [a9, aU, aL, aT]
 refine jJ pX (by rfl) dS (h4.aW aA.up) fun M9 h9 => ?_
 exact hK M9 S' oe' y' hfa' hfe' (h9.fJ l1) e1 e2 hv' e3 e4 e5 (rJ.of hs hst)
theorem aCK {IA IB : List mY} {x : mY} {A B : List Hv} {y : Hv} {k g1 g2 p1 p2 key : Int} (oT : cM w0 F t (wS bh bi ma) wN) (hv : dR S (IA ++ x :: IB) (A ++ y :: B) tm) (hxy : x.h = y.h)
  (hfa : dF (Value.int .i64) bX S.at_ oa) (hfe : dF bX mJ S.en oe) (h : HO w0 F M ((ma, oa) :: (me, oe) :: os) (QA q a t bh bi me S Q))
  (hK : ∀ M' S' oa' oe' y', dF (Value.int .i64) bX S'.at_ oa' → dF bX mJ S'.en oe' → HO w0 F M' ((ma, oa') :: (me, oe') :: os) (QA q a t bh bi me S' Q) →
   y'.h = y.h → y'.k = y.k → dR S' (IA ++ IB) (A ++ y' :: B) (tm + 1) → S'.most = S.most → S'.next = S.next → S'.ip.pl = S.ip.pl.fZ x.r.1.toNat → rJ S S' (dJ (IA ++ x :: IB).length + 1) →
   R (.agg (kX 0 0 0 0 0 x.e.1 x.e.2 0).toArray) M') :
  C PP w0 Id.iK #[.pointer (some ⟨q, 0, none⟩), .agg (m8 6 k g1 g2 p1 p2 x.r.1 x.r.2 key).toArray] R M := by
 apply iK.go
 unfold iK.T aJ
 refine rQ h fun b1 F1 M1 l1 lm1 o1 h1 => ?_
 have oT1 := oT.le l1
 refine jI h1 fun b3 M2 lm2 h2' => ?_
 have h2 := h2'.aW aA.dp
 simp only [aX, add_eq, Nat.zero_add, Q1 h2.qo, aC, bK]
 obtain ⟨F3, hA3, l3, lO⟩ := h2.uJ
 refine iJ hA3 fun p hp => ?_
 rw [bK]
 refine hp _ fun M3 β hB3 hs => ?_
 have hβ := hB3.inv
 have hvβ := hv.sm hs hβ
 have h3 := lO M3 _ hB3
 simp only [lR W.c3 (o1.le h3.fr) (o := 0) rfl, aC, aL]
 rw [eW, if_neg (by decide), eW, if_neg (by decide), eW, if_neg (by decide), eW, if_neg (by decide), eW, if_neg (by decide), eW, if_pos rfl]
 simp only [add_eq, Nat.zero_add, kE (o := 6) (vs := [.int .i64 x.r.1, .int .i64 x.r.2]) aZ (o1.le h3.fr) (qE rfl rfl), aC, a9, aU, aL, aT]
 refine aEu (S := { S with α := β }) oT1 hvβ hxy hfa hfe h3 fun M4 S' oa' oe' y' hfa' hfe' h4 e1 e2 hv' e3 e4 e5 hst => ?_
 simp only [a9, aU, aL, aT]
 refine jJ pX (by rfl) dS (h4.aW aA.up) fun M9 h9 => ?_
 exact hK M9 S' oa' oe' y' hfa' hfe' (h9.fJ l1) e1 e2 hv' e3 e4 e5 (rJ.of hs hst)
theorem aEy {B : List Hv} {y y2 : Hv} {k s1 s2 key : Int} (oT : cM w0 F t (wS bh bi ma) wN) (hv : dR S I (y :: y2 :: B) tm) (htm : tm ≤ 900000) (hkk : y2.k = y.k) (h : HO w0 F M os (QA q a t bh bi me S Q))
  (hK : ∀ M' S' y', HO w0 F M' os (QA q a t bh bi me S' Q) → y'.h = y.h → y'.k = y.k → dR S' (I.map (uN y2.h y.h)) (y' :: B) tm → S'.most = S.most → S'.next = S.next → S'.ip.pl = S.ip.pl → S'.at_ = S.at_ → S'.en = S.en → rJ S S' (dJ I.length) →
   R (.agg (kX 0 0 0 0 0 0 0 (((dX I y.h).length : Int) + (dX I y2.h).length)).toArray) M') :
  C PP w0 Id.iK #[.pointer (some ⟨q, 0, none⟩), .agg (m8 7 k y.h.1 y.h.2 y2.h.1 y2.h.2 s1 s2 key).toArray] R M := by
 apply iK.go
 unfold iK.T aJ
 refine rQ h fun b1 F1 M1 l1 lm1 o1 h1 => ?_
 have oT1 := oT.le l1
 refine jI h1 fun b3 M2 lm2 h2' => ?_
 have h2 := h2'.aW aA.dp
 simp only [aX, add_eq, Nat.zero_add, Q1 h2.qo, aC, bK]
 obtain ⟨F3, hA3, l3, lO⟩ := h2.uJ
 refine iJ hA3 fun p hp => ?_
 rw [bK]
 refine hp _ fun M3 β hB3 hs => ?_
 have hβ := hB3.inv
 have hvβ := hv.sm hs hβ
 have h3 := lO M3 _ hB3
 simp only [lR W.c3 (o1.le h3.fr) (o := 0) rfl, aC, aL]
 rw [eW, if_neg (by decide), eW, if_neg (by decide), eW, if_neg (by decide), eW, if_neg (by decide), eW, if_neg (by decide), eW, if_neg (by decide), eW, if_pos rfl]
 simp only [add_eq, Nat.zero_add, kE (o := 2) (vs := [.int .i64 y.h.1, .int .i64 y.h.2]) aZ (o1.le h3.fr) (qE rfl rfl), kE (o := 4) (vs := [.int .i64 y2.h.1, .int .i64 y2.h.2]) aZ (o1.le h3.fr) (qE rfl rfl), aC, a9, aU, aL, aT]
 refine aGI (S := { S with α := β }) oT1 hvβ htm hkk h3 fun M4 S' y' h4 e1 e2 hv' e3 e4 e5 e6 e7 hst => ?_
 simp only [a9, aU, aL, aT]
 refine jJ pX (by rfl) dS (h4.aW aA.up) fun M9 h9 => ?_
 exact hK M9 S' y' (h9.fJ l1) e1 e2 hv' e3 e4 e5 e6 e7 (rJ.of hs hst)
end
end HL
namespace HL
abbrev tJt : TypeId := 199
abbrev tJo : TypeId := 138
abbrev jtV (pj mb : Nat) : List Value := [.pointer (some ⟨pj, 0, none⟩), .map (some mb)]
def oX (v : V5) : Value := .agg #[.int .i64 v.1, .int .i64 v.2.1, .int .i64 v.2.2.1, .int .i64 v.2.2.2.1, .int .i64 v.2.2.2.2]
theorem fV : gM PP tJo 5 = true := W.aBf
section
variable {w0 : World} {F M : Mem} {R : VP} {os : uX} {jt pj mb : Nat} {P : PS V5} {Q : cY} {ob_ : Obj} {nS : dG → Option dG}
theorem J0 (o : cM w0 F jt (jtV pj mb) tJt) (hl : Mem.le F M) : (aH PP w0).ld 196 ⟨jt, 0, none⟩ M = some (.pointer (some ⟨pj, 0, none⟩)) := lR (by kernel_rfl) (o.le hl) rfl
theorem J1 (o : cM w0 F jt (jtV pj mb) tJt) (hl : Mem.le F M) : (aH PP w0).ld 197 ⟨jt, 1, none⟩ M = some (.map (some mb)) := lR (by kernel_rfl) (o.le hl) rfl
theorem lkR {A : cY} {r : dG} (h : HO w0 F M os A) (hm : (mb, ob_) ∈ os) (hf : dF bX bX nS ob_) :
  (aH PP w0).lk 197 (.map (some mb)) (.agg #[.int .i64 r.1, .int .i64 r.2]) true M = some (.tuple #[.agg #[.int .i64 ((nS r).getD (0, 0)).1, .int .i64 ((nS r).getD (0, 0)).2], .bool (nS r).isSome]) := by
 obtain ⟨inf, hi, hz, _⟩ := W.e33
 obtain ⟨g1, g2⟩ := h.get hm
 have hlk := (lkF (k := r) Tryz.underlying197 oR hi hz g1 g2 hf).2
 cases e : nS r with
 | none => rw [e] at hlk; exact hlk
 | some x => rw [e] at hlk; exact hlk
theorem aER (oJ : cM w0 F jt (jtV pj mb) tJt) (h : HO w0 F M os (star (oY pj P) Q)) (hb : P.l.length ≤ 100000) (hf : P.free.length ≤ P.l.length) (hK : R (.int .i64 ((P.l.length - P.free.length : Nat) : Int)) M) :
  C PP w0 Id.qP #[.pointer (some ⟨jt, 0, none⟩)] R M := by
 apply qP.go
 unfold qP.T aJ
 simp only [aX, add_eq, Nat.zero_add, J0 oJ h.fr, aC, bK]
 refine aFc h.h hb hf ?_
 rw [aL]
 exact hK
theorem aE6 {a g : Int} (oJ : cM w0 F jt (jtV pj mb) tJt) (h : HO w0 F M os (star (oY pj P) Q)) (hb : P.l.length ≤ 100000)
  (h1 : ∀ v, P.find a g = some v → ∀ M', HO w0 F M' os (star (oY pj P) Q) → R (.tuple #[oX v, .int .i64 0]) M')
  (h0 : P.find a g = none → ∀ M' e, HO w0 F M' os (star (oY pj P) Q) → e ≠ 0 → e = P.pl.look a g → R (.tuple #[oX z5, .int .i64 e]) M') :
  C PP w0 Id.pL #[.pointer (some ⟨jt, 0, none⟩), .agg #[.int .i64 a, .int .i64 g]] R M := by
 apply pL.go
 unfold pL.T aJ
 refine rQ h fun b1 F1 M1 l1 lm1 o1 h1' => ?_
 have oJ1 := oJ.le l1
 refine jI h1' fun b3 M2 lm2 h2 => ?_
 simp only [aX, add_eq, Nat.zero_add, J0 oJ1 h2.fr, aC, bK, fB aZ (o1.le h2.fr), a9, aU, aL, aT]
 refine aAc h2.h.right hb (fun v hv M3 l3 => ?_) fun hf M3 e l3 he hel => ?_
 ·simp only [cA, aU, a9, aL, aT]
  exact jJ (vs := jY v) (K := fun v M => R (.tuple #[v, .int .i64 0]) M) fV (by rfl) (dI v) (h2.le l3) fun M4 h4 => h1 v hv M4 (h4.fJ l1)
 ·simp only [cA, aU, a9, aL, aT]
  exact jJ (vs := jY z5) (K := fun v M => R (.tuple #[v, .int .i64 e]) M) fV (by rfl) (dI z5) (h2.le l3) fun M4 h4 => h0 hf M4 e (h4.fJ l1) he hel
theorem aHR {A : cY} {r x : dG} (oJ : cM w0 F jt (jtV pj mb) tJt) (h : HO w0 F M os A) (hm : (mb, ob_) ∈ os) (hf : dF bX bX nS ob_) (hx : nS r = some x)
  (hK : ∀ M', HO w0 F M' os A → R (.tuple #[.agg #[.int .i64 x.1, .int .i64 x.2], .bool true]) M') :
  C PP w0 Id.vG #[.pointer (some ⟨jt, 0, none⟩), .agg #[.int .i64 r.1, .int .i64 r.2]] R M := by
 apply vG.go
 unfold vG.T aJ
 refine rQ h fun b1 F1 M1 l1 lm1 o1 h1 => ?_
 have oJ1 := oJ.le l1
 refine jI h1 fun b3 M2 lm2 h2 => ?_
 have hlk : ∀ {M' : Mem} {F' : Mem} {A : cY}, HO w0 F' M' os A → (aH PP w0).lk 197 (.map (some mb)) (.agg #[.int .i64 r.1, .int .i64 r.2]) true M' = some (.tuple #[.agg #[.int .i64 x.1, .int .i64 x.2], .bool true]) := fun h => by
  have := lkR (r := r) h hm hf
  rw [hx] at this; exact this
 simp only [aX, add_eq, Nat.zero_add, J1 oJ1 h2.fr, aC, fB aZ (o1.le h2.fr), a9, aU, aL, bU, aT, hlk h2, cA]
 refine jI h2 fun b4 M3 lm3 h3 => ?_
 refine ⟨J1 oJ1 h3.fr, fB aZ (o1.le h3.fr), hlk h3, ?_⟩
 refine vY aZ (by rfl) iL h3 fun F4 M4 l4 o4 h4 => ?_
 simp only [fB aZ (o4.le h4.fr), aC, a9, aU, aL, aT]
 refine jJ (K := fun v M => R (.tuple #[v, .bool true]) M) aZ (by rfl) iL h4 fun M5 h5 => ?_
 exact hK M5 ((h5.fJ l4).fJ l1)
theorem aE9 {v : V5} {i : Nat} (oJ : cM w0 F jt (jtV pj mb) tJt) (h : HO w0 F M ((mb, ob_) :: os) (star (oY pj P) Q)) (hf : dF bX bX nS ob_) (hok : P.Ok) (hb : P.l.length ≤ 10000) (hfb : P.free.length ≤ 10000) (hlen : P.free.length ≤ P.l.length) (hg : ∀ x ∈ P.l, 0 ≤ x.g ∧ x.g ≤ 1000000) (hat : P.at_ = some i) (hroom : ((P.l.length - P.free.length : Nat) : Int) ≠ P.most) (hno : nS (v.2.2.2.1, v.2.2.2.2) = none)
  (hK : ∀ M' ob', dF bX bX (fT nS (v.2.2.2.1, v.2.2.2.2) (some ((i : Int), P.gen i))) ob' → HO w0 F M' ((mb, ob') :: os) (star (oY pj (P.take z5 i v)) Q) → R (.tuple #[.agg #[.int .i64 (i : Int), .int .i64 (P.gen i)], .int .i64 0]) M') :
  C PP w0 Id.qY #[.pointer (some ⟨jt, 0, none⟩), oX v] R M := by
 obtain ⟨v1, v2, v3, v4, v5⟩ := v
 apply qY.go
 unfold qY.T aJ
 refine rQ h fun b1 F1 M1 l1 lm1 o1 h1 => ?_
 have oJ1 := oJ.le l1
 refine jI h1 fun b3 M2 lm2 h2' => ?_
 have h2 := h2'.aW aA.dT
 have hR : ∀ {M' : Mem} {e : TypeId}, cM w0 M' b1 [.int .i64 v1, .int .i64 v2, .int .i64 v3, .int .i64 v4, .int .i64 v5] e → (aH PP w0).ld 33 ⟨b1, 3, none⟩ M' = some (.agg #[.int .i64 v4, .int .i64 v5]) := fun o => kE (vs := [.int .i64 v4, .int .i64 v5]) aZ o (qE rfl rfl)
 have hlk : ∀ {M' : Mem} {F' : Mem} {A : cY} {os' : uX}, HO w0 F' M' ((mb, ob_) :: os') A → (aH PP w0).lk 197 (.map (some mb)) (.agg #[.int .i64 v4, .int .i64 v5]) true M' = some (.tuple #[.agg #[.int .i64 0, .int .i64 0], .bool false]) := fun h => by
  have := lkR (r := (v4, v5)) h List.mem_cons_self hf
  rw [hno] at this; exact this
 simp only [aX, add_eq, Nat.zero_add, J1 oJ1 h2.fr, aC, hR (o1.le h2.fr), a9, aU, aL, bU, aT, hlk h2, cA]
 refine jI h2 fun b4 M3 lm3 h3 => ?_
 refine ⟨J1 oJ1 h3.fr, hR (o1.le h3.fr), hlk h3, ?_⟩
 refine vY aZ (by rfl) iL h3 fun F4 M4 l4 o4 h4 => ?_
 have oJ4 := oJ1.le l4
 have o14 := o1.le l4
 simp only [aX, add_eq, Nat.zero_add, J0 oJ4 h4.fr, aC, bK]
 refine aFc h4.h (by omega) hlen ?_
 rw [aL]
 refine ⟨J0 oJ4 h4.fr, ?_⟩
 refine aEq h4.h ?_
 rw [aL, eW, if_neg hroom, mT]
 simp only [aX, add_eq, Nat.zero_add, J0 oJ4 h4.fr, aC, bK, fB fV (o14.le h4.fr), a9, aU, aL, aT]
 refine ⟨?_, ?_⟩
 rotate_left
 refine jI h4 fun b5 M5' l5' h5' => ?_
 refine ⟨J0 oJ4 h5'.fr, fB fV (o14.le h5'.fr), ?_⟩
 obtain ⟨F5, hB, l5, back⟩ := (h5'.aW aA.dT).aW aA.dT |>.aAG
 refine aDq (v := (v1, v2, v3, v4, v5)) hB hok hb hfb hg hat fun M5 hC => ?_
 have h5 := back M5 _ hC
 simp only [cA, aU, a9, aL, bU, aT]
 refine vY aZ (by rfl) iL h5 fun F6 M6 l6 o6 h6 => ?_
 rotate_left
 obtain ⟨F5, hB, l5, back⟩ := h4.xJ
 refine aDq (v := (v1, v2, v3, v4, v5)) hB hok hb hfb hg hat fun M5 hC => ?_
 have h5 := back M5 _ hC
 simp only [cA, aU, a9, aL, bU, aT]
 refine j9 aZ (by rfl) iL h5 fun b5 F6 M6 l6 o6 h6 => ?_
 all_goals
  simp only [aX, add_eq, Nat.zero_add, J1 (oJ4.le l6) h6.fr, aC, hR ((o14.le l6).le h6.fr), fB aZ (o6.le h6.fr), a9, aU, aL, aT]
  obtain ⟨g1, g2⟩ := h6.get List.mem_cons_self
  refine aF2 (kf := bX) (vf := bX) (k := (v4, v5)) (v := ((i : Int), P.gen i)) Tryz.underlying197 oR g1 g2 hf fun ob' hf' => ?_
  have h7 := h6.set (o' := ob')
  generalize Mem.set M6 mb _ = M7 at h7 ⊢
  simp only [fB aZ (o6.le h7.fr), aC, a9, aU, aL, aT]
  refine jJ (K := fun v M => R (.tuple #[v, .int .i64 0]) M) aZ (by rfl) iL (h7.aW aA.dT) fun M8 h8 => ?_
  exact hK M8 ob' hf' (((h8.fJ l6).fJ l4).fJ l1)
end
end HL
namespace HL
section
variable {w0 : World} {F M : Mem} {R : VP} {os : uX} {jt pj mb : Nat} {P : PS V5} {Q : cY} {ob_ : Obj} {nS : dG → Option dG}
theorem aJY {a g b k : Int} {X Y : Operand} : (aH PP w0).bq .neq 33 X Y (.agg #[.int .i64 a, .int .i64 g]) (.agg #[.int .i64 b, .int .i64 k]) = some (.bool (!decide ((a, g) = (b, k)))) :=
 aAl (fun op => by
  show dQ PP (if !(op matches .eql | .neq) then return () else _) = some ()
  cases op <;> first | rfl | (show dQ PP (program >>= fun p => if !(p.eqGuardType p.depth 33) then return () else _) = some (); rw [wJ, show (PP.eqGuardType PP.depth 33) = false from by kernel_rfl]; rfl)) rfl (aEN (a, g) (b, k))
theorem aIw {r : dG} {v w : V5} (oJ : cM w0 F jt (jtV pj mb) tJt) (h : HO w0 F M ((mb, ob_) :: os) (star (oY pj P) Q)) (hf : dF bX bX nS ob_) (hb : P.l.length ≤ 10000) (hw : P.find r.1 r.2 = some w) (hwv : w.2.2.2 = v.2.2.2) (hby : nS v.2.2.2 = some r)
  (hK : ∀ M' ob', dF bX bX nS ob' → HO w0 F M' ((mb, ob') :: os) (star (oY pj (P.put r.1.toNat v)) Q) → R (.int .i64 0) M') :
  C PP w0 Id.iN #[.pointer (some ⟨jt, 0, none⟩), .agg #[.int .i64 r.1, .int .i64 r.2], oX v] R M := by
 obtain ⟨v1, v2, v3, v4, v5⟩ := v
 obtain ⟨w1, w2, w3, w4, w5⟩ := w
 cases hwv
 simp only at hby
 apply iN.go
 intro aB H
 unfold iN.T aJ
 refine rQ h fun b1 F1 M1 l1 lm1 o1 h1 => ?_
 refine rQ h1 fun b2 F2 M2 l2 lm2 o2 h2 => ?_
 have oJ2 := (oJ.le l1).le l2
 have o12 := o1.le l2
 have hlk : ∀ {M' : Mem} {F' : Mem} {A : cY} {os' : uX}, HO w0 F' M' ((mb, ob_) :: os') A → (aH PP w0).lk 197 (.map (some mb)) (.agg #[.int .i64 v4, .int .i64 v5]) true M' = some (.tuple #[.agg #[.int .i64 r.1, .int .i64 r.2], .bool true]) := fun h => by
  have := lkR (r := (v4, v5)) h List.mem_cons_self hf
  rw [hby] at this; exact this
 simp only [aX, add_eq, Nat.zero_add, J0 oJ2 h2.fr, aC, bK, fB aZ (o12.le h2.fr), a9, aU, aL, aT]
 have key : ∀ (b3 : Nat) (F3 M3 : Mem), Mem.le F2 F3 → cM w0 F3 b3 (jY (w1, w2, w3, v4, v5)) tJo → HO w0 F3 M3 ((mb, ob_) :: os) (star (oY pj P) Q) → iN.J1 aB (some ⟨jt, 0, none⟩) ⟨b1, 0, none⟩ ⟨b2, 0, none⟩ ⟨b3, 0, none⟩ M3 := by
  intro b3 F3 M3 l3 o3 h3
  refine Eq.mpr (H.J1 ..) ?_
  unfold iN.J1.T aJ
  have hvb : ∀ {M' : Mem} {e : TypeId}, cM w0 M' b3 (jY (w1, w2, w3, v4, v5)) e → (aH PP w0).ld 33 ⟨b3, 3, none⟩ M' = some (.agg #[.int .i64 v4, .int .i64 v5]) := fun o => kE (vs := [.int .i64 v4, .int .i64 v5]) aZ o (qE rfl rfl)
  have hjb : ∀ {M' : Mem} {e : TypeId}, cM w0 M' b2 (jY (v1, v2, v3, v4, v5)) e → (aH PP w0).ld 33 ⟨b2, 3, none⟩ M' = some (.agg #[.int .i64 v4, .int .i64 v5]) := fun o => kE (vs := [.int .i64 v4, .int .i64 v5]) aZ o (qE rfl rfl)
  have oJ3 := oJ2.le l3
  have o13 := o12.le l3
  have o23 := o2.le l3
  simp only [aX, add_eq, Nat.zero_add, J1 oJ3 h3.fr, aC, hvb (o3.le h3.fr), a9, aU, aL, aT]
  obtain ⟨g1, g2⟩ := h3.get List.mem_cons_self
  refine aHW (k := (v4, v5)) rfl Tryz.underlying197 oR g1 g2 hf fun oa hfa => ?_
  have h4 := h3.set (o' := oa)
  generalize Mem.set M3 mb _ = M4 at h4 ⊢
  simp only [aX, add_eq, Nat.zero_add, J1 oJ3 h4.fr, aC, hjb (o23.le h4.fr), fB aZ (o13.le h4.fr), a9, aU, aL, aT]
  obtain ⟨g3, g4⟩ := h4.get List.mem_cons_self
  refine aF2 (kf := bX) (vf := bX) (k := (v4, v5)) (v := r) Tryz.underlying197 oR g3 g4 hfa fun ob' hf' => ?_
  have h5 := h4.set (o' := ob')
  generalize Mem.set M4 mb _ = M5 at h5 ⊢
  have hup : fT (fT nS (v4, v5) none) (v4, v5) (some r) = nS := by
   funext k
   unfold fT
   by_cases e : k = (v4, v5)
   ·rw [if_pos e, e, hby]
   ·rw [if_neg e, if_neg e]
  rw [hup] at hf'
  simp only [aX, add_eq, Nat.zero_add, J0 oJ3 h5.fr, aC, bK, fB fV (o23.le h5.fr), fB aZ (o13.le h5.fr), a9, aU, aL, aT]
  obtain ⟨F6, hB, l6, back6⟩ := h5.xJ
  refine aFa (v := (v1, v2, v3, v4, v5)) hB (by omega) hw fun M6 hC => ?_
  rw [aL]
  exact hK M6 ob' hf' ((((back6 M6 _ hC).fJ l3).fJ l2).fJ l1)
 refine ⟨?_, ?_⟩
 rotate_left
 refine jI h2 fun b3 M3 lm3 h3 => ?_
 refine ⟨J0 oJ2 h3.fr, fB aZ (o12.le h3.fr), ?_⟩
 refine aAc h3.h.right (by omega) (fun v hv M4 l4 => ?_) (fun hf => by rw [hw] at hf; cases hf)
 rw [hw] at hv; cases hv
 simp only [cA, aU, a9, aL, aT]
 refine vY (vs := jY (w1, w2, w3, v4, v5)) fV (by rfl) (dI _) (h3.le l4) fun F5 M5 l5 o5 h5 => ?_
 rotate_left
 refine aAc h2.h (by omega) (fun v hv M4 l4 => ?_) (fun hf => by rw [hw] at hf; cases hf)
 rw [hw] at hv; cases hv
 simp only [cA, aU, a9, aL, aT]
 refine j9 (vs := jY (w1, w2, w3, v4, v5)) fV (by rfl) (dI _) (h2.le l4) fun b3 F5 M5 l5 o5 h5 => ?_
 all_goals
  rw [cD, if_pos rfl]
  have hjb : ∀ {M' : Mem} {e : TypeId}, cM w0 M' b2 (jY (v1, v2, v3, v4, v5)) e → (aH PP w0).ld 33 ⟨b2, 3, none⟩ M' = some (.agg #[.int .i64 v4, .int .i64 v5]) := fun o => kE (vs := [.int .i64 v4, .int .i64 v5]) aZ o (qE rfl rfl)
  have oJ5 := oJ2.le l5
  have o15 := o12.le l5
  have o25 := o2.le l5
  simp only [aX, add_eq, Nat.zero_add, J1 oJ5 h5.fr, aC, hjb (o25.le h5.fr), hlk h5, cA, a9, aU, aL, bU, aT]
  refine jI h5 fun b6 M6 lm6 h6 => ?_
  refine ⟨J1 oJ5 h6.fr, hjb (o25.le h6.fr), hlk h6, ?_⟩
  refine vY aZ (by rfl) iL h6 fun F7 M7 l7 o7 h7 => ?_
  rw [dU]
  simp only [fB aZ (o7.le h7.fr), fB aZ ((o15.le l7).le h7.fr), aC, a9, aU, aL, aT, aJY, bU]
  simp only [decide_true, Bool.not_true, mT]
  exact key b3 F7 M7 (Mem.le_trans l5 l7) (o5.le l7) h7
theorem aC9 {p : Nat} {a g : Int} (h : aA w0 F M (star (oY p P) Q)) (hb : P.l.length ≤ 10000) (hw : P.find a g = none)
  (h1 : ∀ M' e, aA w0 F M' (star (oY p P) Q) → e ≠ 0 → e = P.pl.look a g → R (.tuple #[oX z5, .int .i64 e]) M') :
  C PP w0 Id.gB #[.pointer (some ⟨p, 0, none⟩), .agg #[.int .i64 a, .int .i64 g]] R M := by
 apply gB.go
 unfold gB.T aJ
 refine rQ (HO.of h) fun b1 F1 M1 l1 lm1 o1 h1' => ?_
 refine jI h1' fun b3 M2 lm2 h2 => ?_
 refine rQ h2 fun b5 F3 M3 l3 lm3 o5 h3 => ?_
 simp only [fB aZ ((o1.le l3).le h3.fr), aC, a9, aU, aL, aT]
 obtain ⟨sL, sF, hO⟩ := oY.open_ h3.h.right
 refine x3 hO (by omega) (fun i v blk _ _ hf _ M4 l4 => by rw [hw] at hf; cases hf) fun hf M4 e l4 he hel => ?_
 simp only [cA, aU, bK, aL, aT]
 rw [cD, if_neg he]
 have h4 := h3.le l4
 simp only [fB (vs := jY z5) fV (o5.le h4.fr), aC, a9, aU, aL, aT]
 exact jJ (vs := jY z5) (K := fun v M => R (.tuple #[v, .int .i64 e]) M) fV (by rfl) (dI z5) h4 fun M5 h5 => h1 M5 e ((h5.fJ l3).fJ l1).h he hel
theorem aDj {r : dG} {v : V5} (oJ : cM w0 F jt (jtV pj mb) tJt) (h : HO w0 F M ((mb, ob_) :: os) (star (oY pj P) Q)) (hf : dF bX bX nS ob_) (hb : P.l.length ≤ 10000) (hfb : P.free.length ≤ 10000) (hw : P.find r.1 r.2 = some v)
  (hK : ∀ M' ob', dF bX bX (fT nS v.2.2.2 none) ob' → HO w0 F M' ((mb, ob') :: os) (star (oY pj (P.fZ z5 r.1.toNat)) Q) → R (.tuple #[oX v, .int .i64 0]) M') :
  C PP w0 Id.lL #[.pointer (some ⟨jt, 0, none⟩), .agg #[.int .i64 r.1, .int .i64 r.2]] R M := by
 apply lL.go
 unfold lL.T aJ
 refine rQ h fun b1 F1 M1 l1 lm1 o1 h1 => ?_
 have oJ1 := oJ.le l1
 refine jI h1 fun b3 M2 lm2 h2' => ?_
 have h2 := h2'.aW aA.dT
 simp only [aX, add_eq, Nat.zero_add, J0 oJ1 h2.fr, aC, bK, fB aZ (o1.le h2.fr), a9, aU, aL, aT]
 refine ⟨?_, ?_⟩
 rotate_left
 refine jI h2 fun b4 M3' l3' h3' => ?_
 refine ⟨J0 oJ1 h3'.fr, fB aZ (o1.le h3'.fr), ?_⟩
 obtain ⟨F3, hB, l3, back⟩ := (h3'.aW aA.dT).aW aA.dT |>.aAG
 refine aDf hB hb hfb hw fun M3 hC => ?_
 have h3 := back M3 _ hC
 simp only [cA, aU, a9, aL, aT]
 refine vY (vs := jY v) fV (by rfl) (dI v) h3 fun F4 M4 l4 o4 h4 => ?_
 rotate_left
 obtain ⟨F3, hB, l3, back⟩ := h2.xJ
 refine aDf hB hb hfb hw fun M3 hC => ?_
 have h3 := back M3 _ hC
 simp only [cA, aU, a9, aL, aT]
 refine j9 (vs := jY v) fV (by rfl) (dI v) h3 fun b4 F4 M4 l4 o4 h4 => ?_
 all_goals
  rw [eW, if_pos rfl]
  have hvb : ∀ {M' : Mem} {e : TypeId}, cM w0 M' b4 (jY v) e → (aH PP w0).ld 33 ⟨b4, 3, none⟩ M' = some (.agg #[.int .i64 v.2.2.2.1, .int .i64 v.2.2.2.2]) := fun o => kE (vs := [.int .i64 v.2.2.2.1, .int .i64 v.2.2.2.2]) aZ o (qE rfl rfl)
  simp only [aX, add_eq, Nat.zero_add, J1 (oJ1.le l4) h4.fr, aC, hvb (o4.le h4.fr), a9, aU, aL, aT]
  obtain ⟨g1, g2⟩ := h4.get List.mem_cons_self
  refine aHW (k := v.2.2.2) rfl Tryz.underlying197 oR g1 g2 hf fun ob' hf' => ?_
  have h5 := h4.set (o' := ob')
  generalize Mem.set M4 mb _ = M5 at h5 ⊢
  simp only [fB (vs := jY v) fV (o4.le h5.fr), aC, a9, aU, aL, aT]
  refine jJ (vs := jY v) (K := fun v M => R (.tuple #[v, .int .i64 0]) M) fV (by rfl) (dI v) (h5.aW aA.dT) fun M6 h6 => ?_
  exact hK M6 ob' hf' ((h6.fJ l4).fJ l1)
theorem aAt {r : dG} (oJ : cM w0 F jt (jtV pj mb) tJt) (h : HO w0 F M os (star (oY pj P) Q)) (hb : P.l.length ≤ 10000) (hw : P.find r.1 r.2 = none)
  (hK : ∀ M' e, HO w0 F M' os (star (oY pj P) Q) → e ≠ 0 → e = P.pl.look r.1 r.2 → R (.tuple #[oX z5, .int .i64 e]) M') :
  C PP w0 Id.lL #[.pointer (some ⟨jt, 0, none⟩), .agg #[.int .i64 r.1, .int .i64 r.2]] R M := by
 apply lL.go
 unfold lL.T aJ
 refine rQ h fun b1 F1 M1 l1 lm1 o1 h1 => ?_
 have oJ1 := oJ.le l1
 refine jI h1 fun b3 M2 lm2 h2' => ?_
 have h2 := h2'.aW aA.dT
 simp only [aX, add_eq, Nat.zero_add, J0 oJ1 h2.fr, aC, bK, fB aZ (o1.le h2.fr), a9, aU, aL, aT]
 refine ⟨?_, ?_⟩
 rotate_left
 refine jI h2 fun b4 M3' l3' h3' => ?_
 refine ⟨J0 oJ1 h3'.fr, fB aZ (o1.le h3'.fr), ?_⟩
 obtain ⟨F3, hB, l3, back⟩ := (h3'.aW aA.dT).aW aA.dT |>.aAG
 refine aC9 hB hb hw fun M3 e hC he hel => ?_
 have h3 := back M3 _ hC
 simp only [oX, cA, aU, a9, aL, aT]
 refine vY (vs := jY z5) fV (by rfl) (dI z5) h3 fun F4 M4 l4 o4 h4 => ?_
 rotate_left
 obtain ⟨F3, hB, l3, back⟩ := h2.xJ
 refine aC9 hB hb hw fun M3 e hC he hel => ?_
 have h3 := back M3 _ hC
 simp only [oX, cA, aU, a9, aL, aT]
 refine j9 (vs := jY z5) fV (by rfl) (dI z5) h3 fun b4 F4 M4 l4 o4 h4 => ?_
 all_goals
  rw [eW, if_neg he]
  simp only [fB (vs := jY z5) fV (o4.le h4.fr), aC, a9, aU, aL, aT]
  refine jJ (vs := jY z5) (K := fun v M => R (.tuple #[v, .int .i64 e]) M) fV (by rfl) (dI z5) (h4.aW aA.dT) fun M6 h6 => ?_
  exact hK M6 e ((h6.fJ l4).fJ l1) he hel
end
end HL
namespace HL
def qOf (P : PS V5) (r : cW) : Int := match P.find r.1 r.2 with
 | some v => v.1
 | none => 0
def zY (P : PS V5) (q : Int) (l : List cW) : Nat := l.countP fun r => decide (qOf P r = q)
theorem aAn {P : PS V5} {q : Int} {A : List cW} {r : cW} : zY P q (A ++ [r]) = zY P q A + if qOf P r = q then 1 else 0 := by
 unfold zY
 rw [List.countP_append, List.countP_singleton]
 simp only [decide_eq_true_eq]
theorem aEB {P : PS V5} {q : Int} (A : List cW) : zY P q A ≤ A.length := List.countP_le_length
theorem xE {ip : PS V5} (hg1 : ∀ x ∈ ip.l, x.t = true → 1 ≤ x.g) {r : cW} (hr : r ∈ ip.refs) : ∃ v, ip.find r.1 r.2 = some v := by
 obtain ⟨j, x, h1, h2, rfl⟩ := qL.1 hr
 refine ⟨x.v, ?_⟩
 simp only [Nat.zero_add]
 refine PS.jS (v := x.v) ?_ (hg1 x (List.mem_of_getElem? h1) h2)
 rw [h1, ← h2]
def xQ (P : PS V5) (A : List cW) (f t : Int) : PS V5 := { P with l := P.l.mapIdx fun j x => if ((j : Int), x.g) ∈ A ∧ x.v.1 = f then { x with v := (t, x.v.2) } else x }
theorem rU (P : PS V5) (A : List cW) (f t : Int) (j : Nat) : (xQ P A f t).l[j]? = (P.l[j]?).map fun x => if ((j : Int), x.g) ∈ A ∧ x.v.1 = f then { x with v := (t, x.v.2) } else x := by
 unfold xQ
 rw [List.getElem?_mapIdx]
theorem aJc (P : PS V5) (A : List cW) (f t : Int) : (xQ P A f t).l.length = P.l.length := by unfold xQ; simp
theorem aJu (P : PS V5) (f t : Int) : xQ P [] f t = P := by
 unfold xQ
 have : (P.l.mapIdx fun j x => if ((j : Int), x.g) ∈ ([] : List cW) ∧ x.v.1 = f then { x with v := (t, x.v.2) } else x) = P.l := by
  apply List.ext_getElem?
  intro j
  rw [List.getElem?_mapIdx]
  simp
 rw [this]
theorem aA9 {P : PS V5} {A : List cW} {f t b k : Int} {v : V5} (h : P.find b k = some v) : (xQ P A f t).find b k = some (if (b, k) ∈ A ∧ v.1 = f then (t, v.2) else v) := by
 obtain ⟨j, rfl, hj, hk⟩ := PS.bH h
 refine PS.jS ?_ hk
 rw [rU, hj, Option.map_some]
 by_cases hc : ((j : Int), k) ∈ A ∧ v.1 = f
 ·rw [if_pos hc, if_pos hc]
 ·rw [if_neg hc, if_neg hc]
theorem aKH (P : PS V5) (A : List cW) (f t : Int) : (xQ P A f t).pl = P.pl := by
 have key : ∀ {β : Type} (g : rO V5 → β), (∀ x v, g { x with v := v } = g x) → (xQ P A f t).l.map g = P.l.map g := by
  intro β g hf
  apply List.ext_getElem?
  intro j
  rw [List.getElem?_map, List.getElem?_map, rU]
  cases P.l[j]? with
  | none => rfl
  | some x =>
   simp only [Option.map_some]
   split
   ·rw [hf]
   ·rfl
 unfold PS.pl
 rw [key (·.g) (fun _ _ => rfl), key (·.t) (fun _ _ => rfl), key (fun _ => (0 : Int)) (fun _ _ => rfl)]
 rfl
theorem aIq {P : PS V5} {A : List cW} {f t : Int} {r : cW} {v : V5} (hv : P.find r.1 r.2 = some v) (hrA : ∀ x ∈ A, x.1 < r.1) (hvf : v.1 = f) : (xQ P A f t).put r.1.toNat (t, v.2) = xQ P (A ++ [r]) f t := by
 have hrnA : (r.1, r.2) ∉ A := fun hm => by have := hrA _ hm; simp only at this; omega
 have hvA : (xQ P A f t).find r.1 r.2 = some v := by rw [aA9 hv, if_neg (fun h => hrnA h.1)]
 obtain ⟨j, hj, hjl, hj1⟩ := PS.bH hv
 obtain ⟨j2, hj2, hjl2, _⟩ := PS.bH hvA
 have hjj : r.1.toNat = j := by rw [hj]; exact Int.toNat_natCast j
 have hj22 : j2 = j := by omega
 subst hj22
 unfold PS.put
 rw [hjj, hjl2]
 show ({ xQ P A f t with l := (xQ P A f t).l.set j2 ⟨r.2, true, (t, v.2)⟩ } : PS V5) = _
 have hl : (xQ P A f t).l.set j2 ⟨r.2, true, (t, v.2)⟩ = (xQ P (A ++ [r]) f t).l := by
  apply List.ext_getElem?
  intro i
  by_cases hi : j2 = i
  ·subst hi
   rw [List.getElem?_set_self (List.getElem?_eq_some_iff.1 hjl2).1, rU, hjl, Option.map_some, if_pos (by
    have : ((j2 : Int), r.2) = r := Prod.ext hj.symm rfl
    rw [this]; exact ⟨by simp, hvf⟩)]
  ·rw [List.getElem?_set_ne hi, rU, rU]
   cases hx : P.l[i]? with
   | none => rfl
   | some x =>
    simp only [Option.map_some]
    have : ((i : Int), x.g) ∈ A ++ [r] ↔ ((i : Int), x.g) ∈ A := by
     rw [List.mem_append, List.mem_singleton]
     constructor
     ·rintro (h | h)
      ·exact h
      ·have := congrArg Prod.fst h
       simp only at this
       omega
     ·exact .inl
    by_cases hc : ((i : Int), x.g) ∈ A ∧ x.v.1 = f
    ·rw [if_pos hc, if_pos ⟨this.2 hc.1, hc.2⟩]
    ·rw [if_neg hc, if_neg (fun h => hc ⟨this.1 h.1, h.2⟩)]
 rw [hl]; rfl
theorem aHI {P : PS V5} {A : List cW} {f t : Int} {r : cW} {v : V5} (hv : P.find r.1 r.2 = some v) (hvf : v.1 ≠ f) : xQ P (A ++ [r]) f t = xQ P A f t := by
 obtain ⟨j, hj, hjl, hj1⟩ := PS.bH hv
 have hl : (xQ P (A ++ [r]) f t).l = (xQ P A f t).l := by
  apply List.ext_getElem?
  intro i
  rw [rU, rU]
  cases hx : P.l[i]? with
  | none => rfl
  | some x =>
   simp only [Option.map_some]
   have : (((i : Int), x.g) ∈ A ++ [r] ∧ x.v.1 = f) ↔ (((i : Int), x.g) ∈ A ∧ x.v.1 = f) := by
    rw [List.mem_append, List.mem_singleton]
    constructor
    ·rintro ⟨h | h, h2⟩
     ·exact ⟨h, h2⟩
     ·have h1 := congrArg Prod.fst h
      simp only at h1
      have hij : i = j := by omega
      subst hij
      rw [hx] at hjl
      cases hjl
      exact absurd h2 hvf
    ·rintro ⟨h, h2⟩; exact ⟨.inl h, h2⟩
   by_cases hc : ((i : Int), x.g) ∈ A ∧ x.v.1 = f
   ·rw [if_pos hc, if_pos (this.2 hc)]
   ·rw [if_neg hc, if_neg (fun h => hc (this.1 h))]
 show ({ P with l := (xQ P (A ++ [r]) f t).l } : PS V5) = { P with l := (xQ P A f t).l }
 rw [hl]
section
variable {w0 : World} {F M : Mem} {R : VP} {os : uX} {jt pj mb : Nat} {P : PS V5} {Q : cY} {ob_ : Obj} {nS : dG → Option dG}
theorem aFe {a g : Int} {v : V5} {p : Nat} (h : aA w0 F M (star (oY p P) Q)) (hb : P.l.length ≤ 100000) (hw : P.find a g = some v) (h1 : ∀ M', Mem.le M M' → R (.tuple #[oX v, .int .i64 0]) M') :
  C PP w0 Id.jP #[.pointer (some ⟨p, 0, none⟩), .agg #[.int .i64 a, .int .i64 g]] R M :=
 aAc h hb (fun v' hv => by rw [hw] at hv; cases hv; exact h1) (fun hf => by rw [hw] at hf; cases hf)
theorem aFy {q : Int} (oJ : cM w0 F jt (jtV pj mb) tJt) (h : HO w0 F M os (star (oY pj P) Q)) (hb : P.l.length ≤ 10000) (hg1 : ∀ x ∈ P.l, x.t = true → 1 ≤ x.g)
  (hK : ∀ M', HO w0 F M' os (star (oY pj P) Q) → R (.int .i64 (zY P q P.refs)) M') :
  C PP w0 Id.eK #[.pointer (some ⟨jt, 0, none⟩), .int .i64 q] R M := by
 apply eK.go
 intro aB H
 unfold eK.T aJ
 have hrl : P.refs.length ≤ 10000 := Nat.le_trans (pE P.l 0) hb
 have key : ∀ (B A : List cW) (s : SV) (F3 M3 : Mem) (kk : Nat), P.refs = A ++ B → Mem.le F F3 → HO w0 F3 M3 os (star (Es s P.refs) (star (oY pj P) Q)) → B.length < kk → eK.L1 aB kk (some ⟨jt, 0, none⟩) q (zY P q A : Int) s ((s.n : Nat) : Int) (A.length : Int) M3 := by
  intro B
  induction B with
  | nil =>
   intro A s F3 M3 kk he l3 h3 hk
   obtain ⟨kk, rfl⟩ : ∃ j, kk = j + 1 := ⟨kk - 1, by omega⟩
   rw [List.append_nil] at he
   have hsn := h3.h.xS.len
   refine Eq.mpr (H.L1 ..) ?_
   unfold eK.L1.T aJ
   rw [eO, if_neg (by rw [hsn, he]; omega), ← he]
   exact hK M3 ((h3.aW fun h => h.right).fJ l3)
  | cons r B ih =>
   intro A s F3 M3 kk he l3 h3 hk
   obtain ⟨kk, rfl⟩ : ∃ j, kk = j + 1 := ⟨kk - 1, by omega⟩
   have ll := congrArg List.length he
   simp only [List.length_append, List.length_cons] at ll hk
   have hsn := h3.h.xS.len
   have hget : (P.refs)[A.length]? = some r := by rw [he]; simp
   have hrm : r ∈ P.refs := by rw [he]; simp
   obtain ⟨v, hv⟩ := xE hg1 hrm
   have hqv : qOf P r = v.1 := by unfold qOf; rw [hv]
   have hcl := aEB (P := P) (q := q) A
   refine Eq.mpr (H.L1 ..) ?_
   unfold eK.L1.T aJ
   rw [eO, if_pos (by omega)]
   refine aFM (x := r) h3.h.xS (Mem.le_refl _) A.length rfl hget ?_
   refine j9 aZ (by rfl) iL h3 fun b4 F4 M4 l4 o4 h4 => ?_
   have oJ4 := (oJ.le l3).le l4
   simp only [aX, add_eq, Nat.zero_add, J0 oJ4 h4.fr, aC, bK, fB aZ (o4.le h4.fr), a9, aU, aL, aT]
   refine ⟨?_, ?_⟩
   rotate_left
   refine jI h4 fun b5 M5 l5 h5 => ?_
   refine ⟨J0 oJ4 h5.fr, fB aZ (o4.le h5.fr), ?_⟩
   refine aFe h5.h.right.right (by omega) hv fun M6 l6 => ?_
   simp only [oX, cA, aU, a9, aL, aT]
   refine vY (vs := jY v) fV (by rfl) (dI v) (h5.le l6) fun F7 M7 l7 o7 h7 => ?_
   rotate_left
   refine aFe h4.h.right (by omega) hv fun M6 l6 => ?_
   simp only [oX, cA, aU, a9, aL, aT]
   refine j9 (vs := jY v) fV (by rfl) (dI v) (h4.le l6) fun b5 F7 M7 l7 o7 h7 => ?_
   all_goals
    simp only [lR W.c3 (o7.le h7.fr) (o := 0) rfl, aC, aL, cR (show A.length < 4611686018427387904 by omega), cR (show zY P q A < 4611686018427387904 by omega)]
    have := ih (A ++ [r]) s F7 M7 kk (by rw [he]; simp) (Mem.le_trans l3 (Mem.le_trans l4 l7)) h7 (by omega)
    rw [List.length_append, List.length_singleton, aAn, hqv] at this
    rw [eW]
    split
    ·rename_i hc
     rw [if_pos hc] at this
     exact this
    ·rename_i hc
     rw [if_neg hc, Nat.add_zero] at this
     exact this
 simp only [aX, add_eq, Nat.zero_add, J0 oJ h.fr, aC, bK]
 obtain ⟨F1, hB, l1, back⟩ := h.xJ
 refine aFo hB (by omega) fun M2 s2 lm2 h2 => ?_
 rw [aR]
 have := key P.refs [] s2 F M2 (P.refs.length + 1) rfl (Mem.le_refl _) (back M2 _ h2) (by omega)
 exact ⟨_, this⟩
theorem aGB {f t : Int} (oJ : cM w0 F jt (jtV pj mb) tJt) (h : HO w0 F M os (star (oY pj P) Q)) (hb : P.l.length ≤ 10000) (hg1 : ∀ x ∈ P.l, x.t = true → 1 ≤ x.g)
  (hK : ∀ M', HO w0 F M' os (star (oY pj (xQ P P.refs f t)) Q) → R (.int .i64 (zY P f P.refs)) M') :
  C PP w0 Id.fY #[.pointer (some ⟨jt, 0, none⟩), .int .i64 f, .int .i64 t] R M := by
 apply fY.go
 intro aB H
 unfold fY.T aJ
 have hrl : P.refs.length ≤ 10000 := Nat.le_trans (pE P.l 0) hb
 have hrn := yC P.l 0
 change (P.refs).Pairwise _ at hrn
 have key : ∀ (B A : List cW) (s : SV) (F3 M3 : Mem) (kk : Nat), P.refs = A ++ B → Mem.le F F3 → HO w0 F3 M3 os (star (Es s P.refs) (star (oY pj (xQ P A f t)) Q)) → B.length < kk → fY.L1 aB kk (some ⟨jt, 0, none⟩) f t (zY P f A : Int) s ((s.n : Nat) : Int) (A.length : Int) M3 := by
  intro B
  induction B with
  | nil =>
   intro A s F3 M3 kk he l3 h3 hk
   obtain ⟨kk, rfl⟩ : ∃ j, kk = j + 1 := ⟨kk - 1, by omega⟩
   rw [List.append_nil] at he
   have hsn := h3.h.xS.len
   refine Eq.mpr (H.L1 ..) ?_
   unfold fY.L1.T aJ
   rw [eO, if_neg (by rw [hsn, he]; omega)]
   rw [← he] at h3 ⊢
   exact hK M3 ((h3.aW fun h => h.right).fJ l3)
  | cons r B ih =>
   intro A s F3 M3 kk he l3 h3 hk
   obtain ⟨kk, rfl⟩ : ∃ j, kk = j + 1 := ⟨kk - 1, by omega⟩
   have ll := congrArg List.length he
   simp only [List.length_append, List.length_cons] at ll hk
   have hsn := h3.h.xS.len
   have hget : (P.refs)[A.length]? = some r := by rw [he]; simp
   have hrm : r ∈ P.refs := by rw [he]; simp
   obtain ⟨v, hv⟩ := xE hg1 hrm
   have hqv : qOf P r = v.1 := by unfold qOf; rw [hv]
   have hcl := aEB (P := P) (q := f) A
   have hrA : ∀ x ∈ A, x.1 < r.1 := fun x hx => by
    rw [he] at hrn
    exact (List.pairwise_append.1 hrn).2.2 x hx r List.mem_cons_self
   have hrnA : (r.1, r.2) ∉ A := fun hm => by have := hrA _ hm; simp only at this; omega
   have hvA : (xQ P A f t).find r.1 r.2 = some v := by rw [aA9 hv, if_neg (fun h => hrnA h.1)]
   have hlA : (xQ P A f t).l.length ≤ 10000 := by rw [aJc]; omega
   refine Eq.mpr (H.L1 ..) ?_
   unfold fY.L1.T aJ
   rw [eO, if_pos (by omega)]
   refine aFM (x := r) h3.h.xS (Mem.le_refl _) A.length rfl hget ?_
   refine j9 aZ (by rfl) iL h3 fun b4 F4 M4 l4 o4 h4 => ?_
   have oJ4 := (oJ.le l3).le l4
   simp only [aX, add_eq, Nat.zero_add, J0 oJ4 h4.fr, aC, bK, fB aZ (o4.le h4.fr), a9, aU, aL, aT]
   refine ⟨?_, ?_⟩
   rotate_left
   refine jI h4 fun b5 M5 l5 h5 => ?_
   refine ⟨J0 oJ4 h5.fr, fB aZ (o4.le h5.fr), ?_⟩
   refine aFe h5.h.right.right (by omega) hvA fun M6 l6 => ?_
   simp only [oX, cA, aU, a9, aL, aT]
   refine stW (vs := jY v) fV (by rfl) (dI v) (h5.le l6) fun M7 h7 => ?_
   rotate_left
   refine aFe h4.h.right (by omega) hvA fun M6 l6 => ?_
   simp only [oX, cA, aU, a9, aL, aT]
   refine jI (h4.le l6) fun b5 M5 l5 h5 => ?_
   refine stW (vs := jY v) fV (by rfl) (dI v) h5 fun M7 h7 => ?_
   all_goals
    simp only [lR W.c3 h7.h.bA (o := 0) rfl, aC, aL, cR (show A.length < 4611686018427387904 by omega), cR (show zY P f A < 4611686018427387904 by omega)]
    rw [eW]
    split
    ·rename_i hc
     refine aBi (o := 0) W.c3 (by simp) rfl rfl h7 fun M8 h8 => ?_
     change HO w0 F4 M8 _ (star (aY b5 (jY (t, v.2)) _) _) at h8
     simp only [aX, add_eq, Nat.zero_add, J0 oJ4 h8.fr, aC, bK, fB aZ (o4.le h8.fr), fB (vs := jY (t, v.2)) fV h8.h.bA, a9, aU, aL, aT]
     obtain ⟨F9, hB, l9, back9⟩ := h8.aKG (A := aY b5 _ _) (B := Es s P.refs)
     refine aFa (v := (t, v.2)) hB (by omega) hvA fun M9 hC => ?_
     rw [aL]
     have h9 := (back9 M9 _ hC).aW fun h => h.right
     rw [aIq hv hrA hc] at h9
     have := ih (A ++ [r]) s F4 M9 kk (by rw [he]; simp) (Mem.le_trans l3 l4) h9 (by omega)
     rw [List.length_append, List.length_singleton, aAn, hqv, if_pos hc] at this
     exact this
    ·rename_i hc
     have h8 := h7.aW fun h => h.right
     rw [← aHI (A := A) (t := t) hv hc] at h8
     have := ih (A ++ [r]) s F4 M7 kk (by rw [he]; simp) (Mem.le_trans l3 l4) h8 (by omega)
     rw [List.length_append, List.length_singleton, aAn, hqv, if_neg hc, Nat.add_zero] at this
     exact this
 simp only [aX, add_eq, Nat.zero_add, J0 oJ h.fr, aC, bK]
 obtain ⟨F1, hB, l1, back⟩ := h.xJ
 refine aFo hB (by omega) fun M2 s2 lm2 h2 => ?_
 rw [aR]
 have := key P.refs [] s2 F M2 (P.refs.length + 1) rfl (Mem.le_refl _) (by rw [aJu]; exact back M2 _ h2) (by omega)
 exact ⟨_, this⟩
end
end HL
namespace HL
section
variable {w0 : World} {F M : Mem} {R : VP}
theorem aGU {P : cY} (h : aA w0 F M P) {K : VP} (hK : ∀ M' s', Mem.le M M' → aA w0 F M' (star (dP 6 s' []) P) → K s'.v M') : (aH PP w0).bsl 71 0 [] K M := by
 refine sU (cells := #[]) Tryz.underlying71 W.aBl (by decide) (by kernel_rfl) fun b hb hw => ?_
 have l1 : Mem.le M (M.set b (.row (#[] : Array Value).toList 130)) := Mem.fN _ hb
 exact hK _ ⟨some ⟨b, 0, none⟩, 0, 0⟩ l1 (aA.xO h l1 (vZ.new (n := 0) hb (cM.new hw) rfl))
theorem aGD {P : cY} (h : aA w0 F M P) (q d k s a g : Int) {K : VP} (hK : ∀ M' s', Mem.le M M' → aA w0 F M' (star (dP 6 s' [.int .i64 q, .int .i64 d, .int .i64 k, .int .i64 s, .int .i64 a, .int .i64 g]) P) → K s'.v M') :
  (aH PP w0).bsl 71 1 [(0, .agg #[.int .i64 q, .int .i64 d, .int .i64 k, .int .i64 s, .int .i64 a, .int .i64 g])] K M := by
 refine sU (n := 1) (cells := #[.int .i64 q, .int .i64 d, .int .i64 k, .int .i64 s, .int .i64 a, .int .i64 g]) Tryz.underlying71 W.aBl (by decide) (by kernel_rfl) fun b hb hw => ?_
 have l1 : Mem.le M (M.set b (.row (#[.int .i64 q, .int .i64 d, .int .i64 k, .int .i64 s, .int .i64 a, .int .i64 g] : Array Value).toList 130)) := Mem.fN _ hb
 exact hK _ ⟨some ⟨b, 0, none⟩, 1, 1⟩ l1 (aA.xO h l1 (vZ.new (n := 1) hb (cM.new hw) rfl))
theorem aIc {b : Nat} {j : Jb} {cs : List Value} {M : Mem} (o : cM w0 M b cs tJb) (hc : cs = w8 j) : (aH PP w0).ld tJb ⟨b, 0, none⟩ M = some j.v ∧ (aH PP w0).ld 33 ⟨b, 4, none⟩ M = some (.agg #[.int .i64 j.at_, .int .i64 j.gen]) ∧ rd w0 M ⟨b, 2, none⟩ = some (.int .i64 j.key) ∧ rd w0 M ⟨b, 1, none⟩ = some (.int .i64 j.data) := by
 subst hc
 refine ⟨c9 (cs := w8 j) W.aF0 (fun f v hf => by rw [add_eq, aM o, Nat.zero_add]; exact hf), c9 (cs := [.int .i64 j.at_, .int .i64 j.gen]) W.g33 (fun f v hf => ?_), aM (o := 2) o, aM (o := 1) o⟩
 rw [add_eq, aM o]
 match f, hf with
 | 0, hf => exact hf
 | 1, hf => exact hf
section
variable {d : Nat} {x : rN} {Q : cY}
theorem aES {k : Nat} {j : Jb} (h : aA w0 F M (star (eR d x) Q)) (hok : DOk x) (hj : x.l[k]? = some j) (hR : ∀ M', aA w0 F M' (star (eR d (x.out k)) Q) → R j.v M') :
  C PP w0 Id.nU #[.pointer (some ⟨d, 0, none⟩), .int .i64 (k : Int)] R M := by
 apply nU.go
 unfold nU.T aJ
 have hL := hok.ll
 have hk := (List.getElem?_eq_some_iff.1 hj).1
 intro b1 hb0 hbw
 have g1 := (aA.new h hb0 hbw [.int .i64 0, .int .i64 0, .int .i64 0, .int .i64 0, .int .i64 0, .int .i64 0] tJb).dT
 change aA w0 F (M.set b1 (.row [.int .i64 0, .int .i64 0, .int .i64 0, .int .i64 0, .int .i64 0, .int .i64 0] tJb)) (star (eR d x) (star (aY b1 [.int .i64 0, .int .i64 0, .int .i64 0, .int .i64 0, .int .i64 0, .int .i64 0] tJb) Q)) at g1
 generalize M.set b1 _ = M1 at g1 ⊢
 obtain ⟨p, s, hs⟩ := eR.open_ g1
 obtain ⟨blk, hsa, hns, hin, hrd⟩ := hs.job hj
 have ldj : (aH PP w0).ld tJb ⟨blk, k * 6, none⟩ M1 = some j.v := c9 (cs := w8 j) W.aF0 (fun f v hf => by rw [add_eq]; exact hrd f v hf)
 simp only [aX, aP W.c71, add_eq, Nat.zero_add, hs.rl, aC, aR, hsa, Int.toNat_natCast, ldj]
 refine ⟨⟨by omega, by omega⟩, ?_⟩
 unfold Jb.v
 simp only [a9, aU, aL, aT]
 intro b2 hb2 hbw2
 have g2 := (aA.new hs.close hb2 hbw2 [.int .i64 0, .int .i64 0, .int .i64 0, .int .i64 0, .int .i64 0, .int .i64 0] tJb)
 change aA w0 F (M1.set b2 (.row [.int .i64 0, .int .i64 0, .int .i64 0, .int .i64 0, .int .i64 0, .int .i64 0] tJb)) (star (aY b2 [.int .i64 0, .int .i64 0, .int .i64 0, .int .i64 0, .int .i64 0, .int .i64 0] tJb) _) at g2
 generalize M1.set b2 _ = M2 at g2 ⊢
 refine gZ (vs := w8 j) W.aF0 g2.bA (by simp [w8]) (x4 j) ?_
 have g3 := g2.kZ (cs' := eH [.int .i64 0, .int .i64 0, .int .i64 0, .int .i64 0, .int .i64 0, .int .i64 0] 0 (w8 j)) (e' := tJb)
 have hov : eH [.int .i64 0, .int .i64 0, .int .i64 0, .int .i64 0, .int .i64 0, .int .i64 0] 0 (w8 j) = w8 j := rfl
 rw [hov] at g3 ⊢
 generalize M2.set b2 _ = M3 at g3 ⊢
 have g4 : aA w0 F M3 (star (eR d x) (star (aY b2 (w8 j) tJb) (star (aY b1 [.int .i64 0, .int .i64 0, .int .i64 0, .int .i64 0, .int .i64 0, .int .i64 0] tJb) Q))) := g3.dT
 obtain ⟨p, s, hs⟩ := eR.open_ g4
 have hn := hs.n
 have hw : p4 ((k : Int) + 1) = ((k + 1 : Nat) : Int) := cR (by omega)
 have hcap := aA.aIx xT (by decide) hs.right
 simp only [aX, aP W.c71, add_eq, Nat.zero_add, hs.rl, aC, aR, hw]
 refine ⟨⟨by omega, by omega, by omega⟩, ⟨by omega, by omega, by omega⟩, ?_⟩
 refine aGU hs fun M4 s38 l4 h4 => ?_
 rw [aR]
 refine ⟨aM (o := 4) h4.right.bA, aM (o := 4) h4.right.bA, ?_⟩
 have e4 := dN h4.right.right
 have n38 : s38.n = 0 := by have := (dN h4).2.1; simp at this; omega
 have hx1 : (Value.slice (if s.c = (0 : Int).toNat then s.a else s.a.map (·.add ((0 : Int).toNat * 6))) (k - (0 : Int).toNat) (s.c - (0 : Int).toNat)) = SV.v ⟨if s.c = 0 then s.a else s.a.map (·.add 0), k, s.c⟩ := by
  unfold SV.v
  simp only [Int.toNat_zero, Nat.zero_mul, Nat.sub_zero, Int.toNat_natCast]
 rw [hx1]
 refine uD (news := jdV (x.l.take k)) Tryz.underlying71 W.aBl h4 (by rw [pR, List.length_take]; simp only; omega) (by rw [aHE]; exact aGh e4.1) (fun hh => ?_) (yV _) (by decide) (by simp only; omega) fun M5 s41 h5 => ?_
 ·simp only at hh ⊢
  obtain ⟨blk5, hsa5, _⟩ := hs.job hj
  rw [hsa5] at hh
  split at hh <;> cases hh
 rw [aR]
 refine ⟨aM (o := 4) h5.right.bA, ?_⟩
 have e5 := dN h5.right.right
 have n41 : s41.n = k := by
  have := (dN h5).2.1
  rw [List.nil_append, pR, List.length_take] at this; omega
 have hx2 : (Value.slice (if s.c = ((k + 1 : Nat) : Int).toNat then s.a else s.a.map (·.add (((k + 1 : Nat) : Int).toNat * 6))) (s.n - ((k + 1 : Nat) : Int).toNat) (s.c - ((k + 1 : Nat) : Int).toNat)) = SV.v ⟨if s.c = k + 1 then s.a else s.a.map (·.add ((k + 1) * 6)), s.n - (k + 1), s.c - (k + 1)⟩ := by
  unfold SV.v
  simp only [Int.toNat_natCast]
 rw [hx2]
 refine uD (news := jdV (x.l.drop (k + 1))) Tryz.underlying71 W.aBl h5 (by rw [pR, List.length_drop]; simp only; omega) (by rw [aHw]; exact aGf e5.1 e5.2.1 (by omega)) (fun hh => ?_) (yV _) (by decide) (by simp only; omega) fun M6 s44 h6 => ?_
 ·simp only at hh ⊢
  obtain ⟨blk5, hsa5, _⟩ := hs.job hj
  rw [hsa5] at hh
  split at hh <;> cases hh
 rw [aR]
 have h7 := h6.dT
 refine gF W.c71 h7.bA (by simp) rfl rfl ?_
 have h8 := h7.kZ (cs' := [.int .i64 x.most, .int .i64 x.now, .int .i64 x.next, .pointer (some ⟨p, 0, none⟩), SV.v s44]) (e' := tD)
 rw [show ([.int .i64 x.most, .int .i64 x.now, .int .i64 x.next, .pointer (some ⟨p, 0, none⟩), SV.v s] : List Value).set 4 (SV.v s44) = [.int .i64 x.most, .int .i64 x.now, .int .i64 x.next, .pointer (some ⟨p, 0, none⟩), SV.v s44] from rfl]
 generalize M6.set d _ = M7 at h8 ⊢
 have her : [] ++ jdV (x.l.take k) ++ jdV (x.l.drop (k + 1)) = jdV (x.l.eraseIdx k) := by
  rw [List.nil_append, List.eraseIdx_eq_take_drop_succ]
  simp [List.flatMap_append]
 rw [her] at h8
 have h9 : DH w0 F M7 d { x with l := x.l.eraseIdx k } p s44 (star (aY b2 (w8 j) tJb) (star (aY b1 [.int .i64 0, .int .i64 0, .int .i64 0, .int .i64 0, .int .i64 0, .int .i64 0] tJb) Q)) := by
  obtain ⟨F1, k1, _, k2⟩ := h8.last
  obtain ⟨F2, k3, _, k4⟩ := k1.last
  exact k2 _ _ (k4 _ _ k3.right)
 have ob2 := h9.right.right.right.bA
 simp only [aX, aP W.c52, add_eq, Nat.zero_add, h9.rp, (aIc ob2 rfl).2.1, aC, bK, a9, aU, aL, aT]
 obtain ⟨F1, hp, back⟩ := h9.bT
 have hlk : x.bT.look j.at_ j.gen = 0 := hok.lk j (List.mem_of_getElem? hj)
 refine aH1 (l := x.bT) hp hok.pl hok.bl (fun hh => absurd hlk hh) fun n hn _ M8 h8 => ?_
 have h10 := back M8 _ _ h8
 simp only [cA, aU, aL, aT]
 have ob3 := h10.right.right.right.bA
 rw [(aIc ob3 rfl).1]
 unfold Jb.v
 simp only [aC, a9, aU, aL, aT]
 have hout : x.out k = { x with l := x.l.eraseIdx k, bT := x.bT.fZ n } := by
  unfold rN.out
  rw [hj]
  simp only
  rw [show j.at_.toNat = n from by omega]
 have h11 : aA w0 F M8 (star (aY b1 [.int .i64 0, .int .i64 0, .int .i64 0, .int .i64 0, .int .i64 0, .int .i64 0] tJb) (star (eR d (x.out k)) Q)) := by
  rw [hout]
  have := DH.close (x := { x with l := x.l.eraseIdx k, bT := x.bT.fZ n }) h10
  obtain ⟨F1, k1, _, k2⟩ := this.last
  exact (k2 _ _ k1.right).dT
 refine gZ (vs := w8 j) W.aF0 h11.bA (by simp [w8]) (x4 j) ?_
 have h12 := h11.kZ (cs' := eH [.int .i64 0, .int .i64 0, .int .i64 0, .int .i64 0, .int .i64 0, .int .i64 0] 0 (w8 j)) (e' := tJb)
 rw [hov] at h12 ⊢
 generalize M8.set b1 _ = M9 at h12 ⊢
 rw [qF, (aIc h12.bA rfl).1, aC]
 exact hR M9 h12.right
end
end
end HL
namespace HL
def qI (c : tK) : Prop := (c.kind = 1 ∨ c.kind = 5 ∨ c.kind = 6 ∨ c.kind = 7) ∧ (c.queue < 0 ∨ 2 ≤ c.queue)
section
variable {w0 : World} {F M : Mem} {R : VP}
theorem aA.aLH {A B D E : cY} (h : aA w0 F M (star A (star B (star D E)))) : aA w0 F M (star D (star A (star B E))) := by
 obtain ⟨F', h1, _, h3⟩ := h.last
 exact (h3 _ _ h1.dT).dT
theorem aKW (d : Nat) (a g b k : Int) : dQ PP (Op.equalIn (d + 1 + 1) 33 (.agg #[.int .i64 a, .int .i64 g]) (.agg #[.int .i64 b, .int .i64 k])) = some (a == b && g == k) := by
 have := qC (P := PP) (d := d + 1) (es := [a == b, g == k]) (xs := #[.int .i64 a, .int .i64 g]) (ys := #[.int .i64 b, .int .i64 k]) Tryz.underlying33 (by kernel_rfl)
  ⟨by decide, ⟨.int .i64 a, .int .i64 b, by kernel_rfl, by kernel_rfl, lI Tryz.underlying3 a b⟩, by decide, ⟨.int .i64 g, .int .i64 k, by kernel_rfl, by kernel_rfl, lI Tryz.underlying3 g k⟩, trivial⟩
 rw [show ([a == b, g == k] : List Bool).all id = (a == b && g == k) from by simp [List.all]] at this
 exact this
theorem aLy (r s : eZ) : ([r.why == s.why, (r.at_ == s.at_ && r.gen == s.gen), r.time == s.time, r.data == s.data, r.n == s.n] : List Bool).all id = decide (r = s) := by
 rw [Bool.eq_iff_iff]
 simp only [List.all_cons, List.all_nil, id, Bool.and_eq_true, beq_iff_eq, decide_eq_true_eq, and_true]
 cases r; cases s
 simp only [eZ.mk.injEq]
 constructor
 ·rintro ⟨h1, ⟨h2, h3⟩, h4, h5, h6⟩; exact ⟨h1, h2, h3, h4, h5, h6⟩
 ·rintro ⟨h1, h2, h3, h4, h5, h6⟩; exact ⟨h1, ⟨h2, h3⟩, h4, h5, h6⟩
theorem aLa {X Y : Operand} (r s : eZ) : (aH PP w0).bq .neq iI X Y r.v s.v = some (.bool (!decide (r = s))) := by
 rw [← aLy]
 exact aEx (es := [r.why == s.why, (r.at_ == s.at_ && r.gen == s.gen), r.time == s.time, r.data == s.data, r.n == s.n]) Tryz.underlying65 (by kernel_rfl) (by kernel_rfl)
  ⟨by decide, ⟨.int .i64 r.why, .int .i64 s.why, by kernel_rfl, by kernel_rfl, lI Tryz.underlying25 r.why s.why⟩,
   by decide, ⟨.agg #[.int .i64 r.at_, .int .i64 r.gen], .agg #[.int .i64 s.at_, .int .i64 s.gen], by kernel_rfl, by kernel_rfl, aKW 9997 r.at_ r.gen s.at_ s.gen⟩,
   by decide, ⟨.int .i64 r.time, .int .i64 s.time, by kernel_rfl, by kernel_rfl, lI Tryz.underlying2 r.time s.time⟩,
   by decide, ⟨.int .i64 r.data, .int .i64 s.data, by kernel_rfl, by kernel_rfl, lI Tryz.underlying3 r.data s.data⟩,
   by decide, ⟨.int .i64 r.n, .int .i64 s.n, by kernel_rfl, by kernel_rfl, lI Tryz.underlying3 r.n s.n⟩, trivial⟩
theorem aJ6 {X Y : Operand} (a0 a1 a2 a3 a4 a5 b0 b1 b2 b3 b4 b5 : Int) : (aH PP w0).bq .neq iI X Y (.agg #[.int .i64 a0, .int .i64 a1, .int .i64 a2, .int .i64 a3, .int .i64 a4, .int .i64 a5]) (.agg #[.int .i64 b0, .int .i64 b1, .int .i64 b2, .int .i64 b3, .int .i64 b4, .int .i64 b5]) = some (.bool (!decide ((⟨a0, a1, a2, a3, a4, a5⟩ : eZ) = ⟨b0, b1, b2, b3, b4, b5⟩))) := aLa ⟨a0, a1, a2, a3, a4, a5⟩ ⟨b0, b1, b2, b3, b4, b5⟩
theorem bR0 (x : Int) : (aH PP w0).nM iI [(0, .int .i64 x)] = some (.agg #[.int .i64 x, .int .i64 0, .int .i64 0, .int .i64 0, .int .i64 0, .int .i64 0]) := by kernel_rfl
theorem bR2 (x : Int) : (aH PP w0).nM iI [(2, .int .i64 x)] = some (.agg #[.int .i64 0, .int .i64 0, .int .i64 0, .int .i64 x, .int .i64 0, .int .i64 0]) := by kernel_rfl
theorem bR4 (x : Int) : (aH PP w0).nM iI [(4, .int .i64 x)] = some (.agg #[.int .i64 0, .int .i64 0, .int .i64 0, .int .i64 0, .int .i64 0, .int .i64 x]) := by kernel_rfl
theorem aKB (x y : Int) : (aH PP w0).nM iI [(2, .int .i64 x), (3, .int .i64 y)] = some (.agg #[.int .i64 0, .int .i64 0, .int .i64 0, .int .i64 x, .int .i64 y, .int .i64 0]) := by kernel_rfl
theorem aJI (a g x y : Int) : (aH PP w0).nM iI [(1, .agg #[.int .i64 a, .int .i64 g]), (2, .int .i64 x), (3, .int .i64 y)] = some (.agg #[.int .i64 0, .int .i64 a, .int .i64 g, .int .i64 x, .int .i64 y, .int .i64 0]) := by kernel_rfl
theorem aLw (x y : Int) : (aH PP w0).nM 44 [(0, .int .i64 x), (1, .int .i64 y)] = some (.agg #[.int .i64 x, .int .i64 y]) := by kernel_rfl
end
end HL
namespace HL
section
variable {x : rN} {c : tK}
theorem vM (h : qI c) : fC x c = (x, { why := 1 }) := by unfold qI at h; unfold fC; rw [if_pos h]
theorem aAH (h : ¬ qI c) (k : c.kind = 1) : fC x c = match x.bT.at_ with
  | none => (x, { why := 13 })
  | some a => ({ x with bT := x.bT.take a 0, l := x.l ++ [⟨c.queue, c.data, c.time, x.next, (a : Int), x.bT.gen a⟩], next := x.next + 1 }, { at_ := (a : Int), gen := x.bT.gen a, time := c.time, data := c.data }) := by
 unfold qI at h; unfold fC; rw [if_neg h, if_pos k] <;> rfl
theorem yK (k : c.kind = 2 ∨ c.kind = 3) : fC x c = if x.bT.look c.at_ c.gen ≠ 0 then (x, { why := x.bT.look c.at_ c.gen })
  else match atD x.l c.at_ c.gen with
   | none => (x, {})
   | some k => match x.l[k]? with
    | none => (x, {})
    | some j =>
     if c.kind = 3 then (x.out k, { time := j.key, data := j.data })
     else if j.key < c.time then (x, { why := 26 })
     else ({ x with l := x.l.set k { j with key := c.time } }, { time := c.time, data := j.data }) := by
 unfold fC; rw [if_neg (fun h => by omega), if_neg (by omega), if_pos k] <;> rfl
theorem aCq (k : c.kind = 4) : fC x c = if c.time < 0 then (x, { why := 1 }) else ({ x with now := jW x.now c.time }, { time := jW x.now c.time }) := by
 unfold fC; rw [if_neg (fun h => by omega), if_neg (by omega), if_neg (by omega), if_pos k]
theorem xN (h : ¬ qI c) (k : c.kind = 5) : fC x c = match pD x.l c.queue with
  | none => (x, { why := 28 })
  | some y => if x.now < y.2.1 then (x, { why := 28 }) else
   match x.l[y.1]? with
   | none => (x, {})
   | some j => (x.out y.1, { at_ := j.at_, gen := j.gen, time := j.key, data := j.data }) := by
 unfold qI at h; unfold fC; rw [if_neg h, if_neg (by omega), if_neg (by omega), if_neg (by omega), if_pos k] <;> rfl
theorem aAo (h : ¬ qI c) (k : c.kind = 6) : fC x c = if c.queue = 0 then (x, { why := 25 })
  else ({ x with l := x.l.map fun j => if j.queue = 1 then { j with queue := 0 } else j }, { n := (jA 1 x.l : Int) }) := by
 unfold qI at h; unfold fC; rw [if_neg h, if_neg (by omega), if_neg (by omega), if_neg (by omega), if_neg (by omega), if_pos k]
theorem aCz (h : ¬ qI c) (k : c.kind = 7) : fC x c = (x, { n := (jA c.queue x.l : Int) }) := by
 unfold qI at h; unfold fC; rw [if_neg h, if_neg (by omega), if_neg (by omega), if_neg (by omega), if_neg (by omega), if_neg (by omega), if_pos k]
theorem aB5 (k : c.kind < 1 ∨ 7 < c.kind) : fC x c = (x, { why := 12 }) := by
 unfold fC; rw [if_neg (fun h => by omega), if_neg (by omega), if_neg (by omega), if_neg (by omega), if_neg (by omega), if_neg (by omega), if_neg (by omega)]
end
section
variable {w0 : World} {F M : Mem} {R : VP}
theorem aHO {b : Nat} {cs : List Value} {P : cY} {a0 a1 a2 a3 a4 a5 : Int} (h : aA w0 F M (star (aY b cs iI) P)) (hcs : cs.length = 6) {K : VP} (hK : ∀ M', aA w0 F M' P → K (.agg #[.int .i64 a0, .int .i64 a1, .int .i64 a2, .int .i64 a3, .int .i64 a4, .int .i64 a5]) M') :
  (aH PP w0).st iI ⟨b, 0, none⟩ (.agg #[.int .i64 a0, .int .i64 a1, .int .i64 a2, .int .i64 a3, .int .i64 a4, .int .i64 a5]) (fun M14 => ob ((aH PP w0).rdv iI (.pointer (some ⟨b, 0, none⟩)) M14) fun v15 => K v15 M14) M := by
 refine gZ (vs := [.int .i64 a0, .int .i64 a1, .int .i64 a2, .int .i64 a3, .int .i64 a4, .int .i64 a5]) W.g65 h.bA (by simp [hcs]) (by intro v hv; simp only [List.mem_cons, List.not_mem_nil, or_false] at hv; rcases hv with rfl | rfl | rfl | rfl | rfl | rfl <;> rfl) ?_
 have hP2 := h.kZ (cs' := eH cs 0 [.int .i64 a0, .int .i64 a1, .int .i64 a2, .int .i64 a3, .int .i64 a4, .int .i64 a5]) (e' := iI)
 have o2 := hP2.bA
 have ho : eH cs 0 [.int .i64 a0, .int .i64 a1, .int .i64 a2, .int .i64 a3, .int .i64 a4, .int .i64 a5] = [.int .i64 a0, .int .i64 a1, .int .i64 a2, .int .i64 a3, .int .i64 a4, .int .i64 a5] := by
  match cs, hcs with
  | [_, _, _, _, _, _], _ => rfl
 rw [ho] at o2
 rw [qF, c9 (cs := [.int .i64 a0, .int .i64 a1, .int .i64 a2, .int .i64 a3, .int .i64 a4, .int .i64 a5]) W.g65 (fun j v hj => by rw [ho, add_eq, aM o2, Nat.zero_add]; exact hj), aC]
 exact hK _ hP2.right
section
variable {d : Nat} {x : rN} {Q : cY}
theorem DH.set {p : Nat} {s : SV} (h : DH w0 F M d x p s Q) {t : TypeId} (ht : gP PP t = true) {i : Nat} {j j' : Jb} (hj : x.l[i]? = some j) {f : Nat} (hf : f < 6) {v : Value} (hv : bQ v = true) (hcv : v.cells = #[v]) (he : (w8 j).set f v = w8 j')
  {blk : Nat} (ha : s.a = some ⟨blk, 0, none⟩) {K : Mem → Prop} (hK : ∀ M', DH w0 F M' d { x with l := x.l.set i j' } p s Q → K M') : (aH PP w0).st t ⟨blk, i * 6 + f, none⟩ v (fun M' => K M') M := by
 refine aA.stR (P := PP) (c := w8) (l := x.l) xT (by decide) ht h.dT hj hf hv hcv he ha fun M' h' => hK M' h'.dT
abbrev zR : List Value := [.int .i64 0, .int .i64 0, .int .i64 0, .int .i64 0, .int .i64 0, .int .i64 0]
theorem aFV {c : tK} (h : aA w0 F M (star (eR d x) Q)) (hok : DOk x) (hq : c.queue = 0 ∨ c.queue = 1) (hk : c.kind = 1 ∨ c.kind = 5 ∨ c.kind = 6 ∨ c.kind = 7)
  (hR : ∀ M', aA w0 F M' (star (eR d (fC x c).1) Q) → R (fC x c).2.v M') :
  C PP w0 Id.bR #[.pointer (some ⟨d, 0, none⟩), c.v] R M := by
 apply bR.go
 intro aB H
 unfold bR.T aJ
 have hL := hok.ll
 have hbq : ¬ qI c := by unfold qI; omega
 intro b1 hb0 hbw
 have g1 := (aA.new h hb0 hbw [.int .i64 c.kind, .int .i64 c.queue, .int .i64 c.at_, .int .i64 c.gen, .int .i64 c.time, .int .i64 c.data] qA).dT
 change aA w0 F (M.set b1 (.row [.int .i64 c.kind, .int .i64 c.queue, .int .i64 c.at_, .int .i64 c.gen, .int .i64 c.time, .int .i64 c.data] qA)) (star (eR d x) (star (aY b1 [.int .i64 c.kind, .int .i64 c.queue, .int .i64 c.at_, .int .i64 c.gen, .int .i64 c.time, .int .i64 c.data] qA) Q)) at g1
 generalize M.set b1 _ = M1 at g1 ⊢
 intro b3 hb3 hbw3
 have g3 := (aA.new g1 hb3 hbw3 [.int .i64 0, .int .i64 0, .int .i64 0, .int .i64 0, .int .i64 0, .int .i64 0] iI).dT
 change aA w0 F (M1.set b3 (.row [.int .i64 0, .int .i64 0, .int .i64 0, .int .i64 0, .int .i64 0, .int .i64 0] iI)) (star (eR d x) (star (aY b3 zR iI) (star (aY b1 [.int .i64 c.kind, .int .i64 c.queue, .int .i64 c.at_, .int .i64 c.gen, .int .i64 c.time, .int .i64 c.data] qA) Q))) at g3
 generalize M1.set b3 _ = M2 at g3 ⊢
 have LC : ∀ {M' : Mem}, cM w0 M' b1 [.int .i64 c.kind, .int .i64 c.queue, .int .i64 c.at_, .int .i64 c.gen, .int .i64 c.time, .int .i64 c.data] qA → rd w0 M' ⟨b1, 0, none⟩ = some (.int .i64 c.kind) ∧ rd w0 M' ⟨b1, 1, none⟩ = some (.int .i64 c.queue) ∧ rd w0 M' ⟨b1, 4, none⟩ = some (.int .i64 c.time) ∧ rd w0 M' ⟨b1, 5, none⟩ = some (.int .i64 c.data) := fun o => ⟨aM (o := 0) o, aM (o := 1) o, aM (o := 4) o, aM (o := 5) o⟩
 have fin : ∀ (M4 : Mem) (x' : rN) (r : eZ), fC x c = (x', r) → aA w0 F M4 (star (eR d x') (star (aY b3 zR iI) (star (aY b1 [.int .i64 c.kind, .int .i64 c.queue, .int .i64 c.at_, .int .i64 c.gen, .int .i64 c.time, .int .i64 c.data] qA) Q))) →
   (aH PP w0).st iI ⟨b3, 0, none⟩ (.agg #[.int .i64 r.why, .int .i64 r.at_, .int .i64 r.gen, .int .i64 r.time, .int .i64 r.data, .int .i64 r.n]) (fun M14 => ob ((aH PP w0).rdv iI (.pointer (some ⟨b3, 0, none⟩)) M14) fun v15 => R v15 M14) M4 := by
  intro M4 x' r hd g
  refine aHO g.dT rfl fun M5 g5 => ?_
  rw [hd] at hR
  refine hR M5 ?_
  obtain ⟨F', k1, _, k2⟩ := g5.last
  exact k2 _ _ k1.right
 have o1 := g3.right.right.bA
 simp only [aP W.c3, (LC o1).1, aC, aL]
 rw [eW]
 split
 ·-- Schedule
  rename_i k
  have hd := aAH (x := x) hbq k
  obtain ⟨p, s, hs⟩ := eR.open_ g3
  simp only [aX, aP W.c52, add_eq, Nat.zero_add, hs.rp, aC, bK]
  obtain ⟨F1, hp, back⟩ := hs.bT
  refine aGv hp hok.pl hok.gl hok.bl hok.gv (fun hn M3 h3 => ?_) fun a ha M3 h3 => ?_
  ·rw [hn] at hd
   have h4 := (back M3 _ _ h3).close
   simp only [cA, aU, a9, aL, bU, aT]
   intro b5 hb5 hbw5
   have g5 := aA.new h4 hb5 hbw5 [.int .i64 0, .int .i64 0] 33
   generalize M3.set b5 _ = M4 at g5 ⊢
   refine gZ (vs := [.int .i64 0, .int .i64 0]) W.g33 g5.bA (by simp) (by intro v hv; simp only [List.mem_cons, List.not_mem_nil, or_false] at hv; rcases hv with rfl | rfl <;> rfl) ?_
   have g6 := g5.kZ (cs' := eH [.int .i64 0, .int .i64 0] 0 [.int .i64 0, .int .i64 0]) (e' := 33)
   rw [Bool.not_false, dU, bR0]
   simp only [aC, a9, aU, aL, aT]
   exact fin _ x { why := 13 } hd g6.right
  ·rw [ha] at hd
   simp only at hd
   have h4 := back M3 _ _ h3
   simp only [cA, aU, a9, aL, bU, aT]
   intro b5 hb5 hbw5
   have g5 := aA.new h4.close hb5 hbw5 [.int .i64 0, .int .i64 0] 33
   generalize M3.set b5 _ = M4 at g5 ⊢
   generalize hgg : x.bT.gen a = g at hd ⊢
   refine gZ (vs := [.int .i64 (a : Int), .int .i64 g]) W.g33 g5.bA (by simp) (by intro v hv; simp only [List.mem_cons, List.not_mem_nil, or_false] at hv; rcases hv with rfl | rfl <;> rfl) ?_
   have g6 := g5.kZ (cs' := eH [.int .i64 0, .int .i64 0] 0 [.int .i64 (a : Int), .int .i64 g]) (e' := 33)
   have hov : eH [.int .i64 0, .int .i64 0] 0 [.int .i64 (a : Int), .int .i64 g] = [Value.int .i64 (a : Int), .int .i64 g] := rfl
   rw [hov] at g6 ⊢
   generalize M4.set b5 _ = M5 at g6 ⊢
   rw [Bool.not_true, mT]
   obtain ⟨p2, s2, hs2⟩ := eR.open_ g6.dT
   have LR : ∀ {M' : Mem}, cM w0 M' b5 [.int .i64 (a : Int), .int .i64 g] 33 → (aH PP w0).ld 33 ⟨b5, 0, none⟩ M' = some (.agg #[.int .i64 (a : Int), .int .i64 g]) := fun o => c9 (cs := [.int .i64 (a : Int), .int .i64 g]) W.g33 (fun j v hj => by rw [add_eq, aM o, Nat.zero_add]; exact hj)
   have hns := hs2.n
   simp only at hns
   have q5 := hs2.right.right.right.bA
   have q1 := hs2.right.right.right.right.right.bA
   have hbJ : (aH PP w0).nM tJb [(0, .int .i64 c.queue), (1, .int .i64 c.data), (2, .agg #[.int .i64 c.time, .int .i64 x.next]), (3, .agg #[.int .i64 (a : Int), .int .i64 g])] = some (.agg #[.int .i64 c.queue, .int .i64 c.data, .int .i64 c.time, .int .i64 x.next, .int .i64 (a : Int), .int .i64 g]) := by kernel_rfl
   have rx2 : rd w0 M5 ⟨d, 2, none⟩ = some (.int .i64 x.next) := hs2.rx
   simp only [aX, aP W.c71, aP W.c3, aP W.c2, add_eq, Nat.zero_add, hs2.rl, rx2, (LC q1).2.1, (LC q1).2.2.1, (LC q1).2.2.2, LR q5, aC, aR, a9, aU, aL, aT, aLw, hbJ]
   have one : ∀ v ∈ [Value.int .i64 c.queue, .int .i64 c.data, .int .i64 c.time, .int .i64 x.next, .int .i64 (a : Int), .int .i64 g], bQ v = true := fun v hv => by
    simp only [List.mem_cons, List.not_mem_nil, or_false] at hv
    rcases hv with rfl | rfl | rfl | rfl | rfl | rfl <;> rfl
   have put : ∀ (M9 : Mem) (s' : SV) (X : cY), aA w0 F M9 (star (dP 6 s' ([] ++ jdV x.l ++ [.int .i64 c.queue, .int .i64 c.data, .int .i64 c.time, .int .i64 x.next, .int .i64 (a : Int), .int .i64 g])) (star X (star (aY d [.int .i64 x.most, .int .i64 x.now, .int .i64 x.next, .pointer (some ⟨p2, 0, none⟩), SV.v s2] tD) (star (dP 6 s2 (jdV x.l)) (star (lC p2 (x.bT.take a 0)) (star (aY b5 [.int .i64 (a : Int), .int .i64 g] 33) (star (aY b3 zR iI) (star (aY b1 [.int .i64 c.kind, .int .i64 c.queue, .int .i64 c.at_, .int .i64 c.gen, .int .i64 c.time, .int .i64 c.data] qA) Q)))))))) →
     (aH PP w0).st 71 ⟨d, 4, none⟩ (SV.v s') (fun M111 => ob (rd w0 M111 ⟨d, 2, none⟩) fun v113 => nA .i64 v113 fun n114 => (aH PP w0).st 2 ⟨d, 2, none⟩ (.int .i64 (p4 (n114 + 1))) (fun M116 => ob ((aH PP w0).ld 33 ⟨b5, 0, none⟩ M116) fun v117 => shA v117 fun l118 => dA l118 fun u119 r120 => nA .i64 u119 fun n121 => dA r120 fun u122 r123 => nA .i64 u122 fun n124 => qB r123
      (ob (rd w0 M116 ⟨b1, 4, none⟩) fun v125 => nA .i64 v125 fun n126 => ob (rd w0 M116 ⟨b1, 5, none⟩) fun v127 => nA .i64 v127 fun n128 => ob ((aH PP w0).nM iI [(1, .agg #[.int .i64 n121, .int .i64 n124]), (2, .int .i64 n126), (3, .int .i64 n128)]) fun v129 => shA v129 fun l130 => dA l130 fun u131 r132 => nA .i64 u131 fun n133 => dA r132 fun u134 r135 => nA .i64 u134 fun n136 => dA r135 fun u137 r138 => nA .i64 u137 fun n139 => dA r138 fun u140 r141 => nA .i64 u140 fun n142 => dA r141 fun u143 r144 => nA .i64 u143 fun n145 => dA r144 fun u146 r147 => nA .i64 u146 fun n148 => qB r147
       ((aH PP w0).st iI ⟨b3, 0, none⟩ (.agg #[.int .i64 n133, .int .i64 n136, .int .i64 n139, .int .i64 n142, .int .i64 n145, .int .i64 n148]) (fun M149 => ob ((aH PP w0).rdv iI (.pointer (some ⟨b3, 0, none⟩)) M149) fun v150 => R v150 M149) M116))) M111) M9 := by
    intro M9 s' X h9
    have h10 := h9.aLH
    refine gF W.c71 h10.bA (by simp) rfl rfl ?_
    have h11 := h10.kZ (cs' := [.int .i64 x.most, .int .i64 x.now, .int .i64 x.next, .pointer (some ⟨p2, 0, none⟩), SV.v s']) (e' := tD)
    rw [show ([.int .i64 x.most, .int .i64 x.now, .int .i64 x.next, .pointer (some ⟨p2, 0, none⟩), SV.v s2] : List Value).set 4 (SV.v s') = [.int .i64 x.most, .int .i64 x.now, .int .i64 x.next, .pointer (some ⟨p2, 0, none⟩), SV.v s'] from rfl]
    generalize M9.set d _ = M10 at h11 ⊢
    have rxx : rd w0 M10 ⟨d, 2, none⟩ = some (.int .i64 x.next) := aM (o := 2) h11.bA
    rw [rxx]
    simp only [aC, aL]
    have hnx := hok.nx
    rw [bC (show -9223372036854775808 ≤ x.next + 1 ∧ x.next + 1 ≤ 9223372036854775807 by omega)]
    refine gF W.c2 h11.bA (by simp) rfl rfl ?_
    have h12 := h11.kZ (cs' := [.int .i64 x.most, .int .i64 x.now, .int .i64 (x.next + 1), .pointer (some ⟨p2, 0, none⟩), SV.v s']) (e' := tD)
    rw [show ([.int .i64 x.most, .int .i64 x.now, .int .i64 x.next, .pointer (some ⟨p2, 0, none⟩), SV.v s'] : List Value).set 2 (.int .i64 (x.next + 1)) = [.int .i64 x.most, .int .i64 x.now, .int .i64 (x.next + 1), .pointer (some ⟨p2, 0, none⟩), SV.v s'] from rfl]
    generalize M10.set d _ = M11 at h12 ⊢
    have t5 := h12.right.right.right.right.right.bA
    have t1 := h12.right.right.right.right.right.right.right.bA
    simp only [LR t5, (LC t1).2.2.1, (LC t1).2.2.2, aC, a9, aU, aL, aT, aJI]
    refine fin M11 _ _ hd ?_
    refine DH.close (p := p2) (s := s') ?_
    show aA w0 F _ (star _ (star (dP 6 s' (jdV (x.l ++ [⟨c.queue, c.data, c.time, x.next, (a : Int), g⟩]))) (star (lC p2 (x.bT.take a 0)) _)))
    rw [List.nil_append] at h12
    rw [show jdV (x.l ++ [⟨c.queue, c.data, c.time, x.next, (a : Int), g⟩]) = jdV x.l ++ [.int .i64 c.queue, .int .i64 c.data, .int .i64 c.time, .int .i64 x.next, .int .i64 (a : Int), .int .i64 g] from by simp [List.flatMap_append, w8]]
    obtain ⟨F1, k1, _, k2⟩ := h12.last
    refine k2 _ _ ?_
    obtain ⟨F2, k3, _, k4⟩ := k1.last
    refine k4 _ _ ?_
    obtain ⟨F3, k5, _, k6⟩ := (k3.right.right).last
    exact k6 _ _ k5.right
   have hln : s2.n ≤ 10000 := by omega
   refine ⟨?_, ?_⟩
   ·refine aGU hs2 fun M6 s363 l6 h6 => ?_
    rw [aR]
    have r5 := h6.right.right.right.right.bA
    have r1 := h6.right.right.right.right.right.right.bA
    refine ⟨aM (o := 4) h6.right.bA, (LC r1).2.1, (LC r1).2.2.2, (LC r1).2.2.1, aM (o := 2) h6.right.bA, LR r5, ?_, ?_⟩
    ·have e6 := dN h6.right.right
     have n363 : s363.n = 0 := by have := (dN h6).2.1; simp at this; omega
     refine uD Tryz.underlying71 W.aBl h6 e6.2.1 e6.1 e6.2.2 (yV _) (by decide) (by omega) fun M7 s366 h7 => ?_
     rw [aR]
     have t5 := h7.right.right.right.right.bA
     have t1 := h7.right.right.right.right.right.right.bA
     refine ⟨(LC t1).2.1, (LC t1).2.2.2, (LC t1).2.2.1, aM (o := 2) h7.right.bA, LR t5, ?_⟩
     refine aGD h7 _ _ _ _ _ _ fun M8 s369 l8 h8 => ?_
     rw [aR]
     have e8 := dN h8
     have n366 : s366.n = s2.n := by
      have := (dN h8.right).2.1
      rw [List.nil_append, pR] at this
      simp only at this; omega
     refine uD Tryz.underlying71 W.aBl h8.dT e8.2.1 e8.1 e8.2.2 one (by decide) (by have := e8.2.1; simp at this; omega) fun M9 s372 h9 => ?_
     rw [aR]
     exact put M9 s372 _ h9
    ·refine aGD h6 _ _ _ _ _ _ fun M7 s377 l7 h7 => ?_
     rw [aR]
     refine ⟨aM (o := 4) h7.right.right.bA, ?_⟩
     have e6 := dN h7.right.right.right
     have n363 : s363.n = 0 := by have := (dN h6).2.1; simp at this; omega
     refine uD Tryz.underlying71 W.aBl h7.dT e6.2.1 e6.1 e6.2.2 (yV _) (by decide) (by omega) fun M8 s380 h8 => ?_
     rw [aR]
     have e8 := dN h8.right
     have n380 : s380.n = s2.n := by
      have := (dN h8).2.1
      rw [List.nil_append, pR] at this
      simp only at this; omega
     refine uD Tryz.underlying71 W.aBl h8 e8.2.1 e8.1 e8.2.2 one (by decide) (by have := e8.2.1; simp at this; omega) fun M9 s383 h9 => ?_
     rw [aR]
     exact put M9 s383 _ h9
   ·refine aGD hs2 _ _ _ _ _ _ fun M6 s388 l6 h6 => ?_
    rw [aR]
    refine ⟨aM (o := 4) h6.right.bA, ?_⟩
    refine aGU h6 fun M7 s391 l7 h7 => ?_
    rw [aR]
    refine ⟨aM (o := 4) h7.right.right.bA, ?_⟩
    have e6 := dN h7.right.right.right
    have n391 : s391.n = 0 := by have := (dN h7).2.1; simp at this; omega
    refine uD Tryz.underlying71 W.aBl h7 e6.2.1 e6.1 e6.2.2 (yV _) (by decide) (by omega) fun M8 s394 h8 => ?_
    rw [aR]
    have e8 := dN h8.right
    have n394 : s394.n = s2.n := by
     have := (dN h8).2.1
     rw [List.nil_append, pR] at this
     simp only at this; omega
    refine uD Tryz.underlying71 W.aBl h8 e8.2.1 e8.1 e8.2.2 one (by decide) (by have := e8.2.1; simp at this; omega) fun M9 s397 h9 => ?_
    rw [aR]
    exact put M9 s397 _ h9
 ·rename_i k1
  rw [eW]
  split
  ·-- Fire
   rename_i k
   have hd := xN (x := x) hbq k
   simp only [aP W.c3, add_eq, Nat.zero_add, (LC o1).2.1, aC, aL]
   refine aGc g3 hL fun M3 l3 => ?_
   have g4 := g3.le l3
   rw [aL, eO]
   cases hf : pD x.l c.queue with
   | none =>
    rw [hf] at hd
    rw [if_pos (show aEg none < 0 by decide), bR0]
    simp only [aC, a9, aU, aL, aT]
    exact fin M3 x { why := 28 } hd g4
   | some y =>
    obtain ⟨j, hj, hjq, hye, _⟩ := zL hf
    obtain ⟨y1, y2⟩ := y
    simp only at hj hye
    subst hye
    rw [hf] at hd
    simp only [hj] at hd
    have hacc : aEg (some (y1, j.e)) = (y1 : Int) := rfl
    rw [hacc, if_neg (by omega)]
    obtain ⟨p, s, hs⟩ := eR.open_ g4
    obtain ⟨blk, hsa, hns, hin, hrd⟩ := hs.job hj
    have ek : rd w0 M3 ⟨blk, y1 * 6 + 2, none⟩ = some (.int .i64 j.key) := hrd 2 _ rfl
    simp only [aX, aP W.c71, aP W.c2, add_eq, Nat.zero_add, hs.rl, hs.rn, aC, aR, hsa, Int.toNat_natCast, ek, aL]
    refine ⟨⟨by omega, by omega⟩, ?_⟩
    rw [eO]
    split
    ·rename_i hdue
     rw [if_pos (show x.now < j.e.1 from hdue)] at hd
     rw [bR0]
     simp only [aC, a9, aU, aL, aT]
     exact fin M3 x { why := 28 } hd g4
    ·rename_i hdue
     rw [if_neg (show ¬ x.now < j.e.1 from hdue)] at hd
     refine Eq.mpr (H.J1 ..) ?_
     unfold bR.J1.T aJ
     refine aES g4 hok hj fun M4 h4 => ?_
     unfold Jb.v
     simp only [a9, aU, aL, aT]
     intro b5 hb5 hbw5
     have g5 := aA.new h4 hb5 hbw5 [.int .i64 0, .int .i64 0, .int .i64 0, .int .i64 0, .int .i64 0, .int .i64 0] tJb
     generalize M4.set b5 _ = M5 at g5 ⊢
     refine gZ (vs := w8 j) W.aF0 g5.bA (by simp [w8]) (x4 j) ?_
     have g6 := g5.kZ (cs' := eH [.int .i64 0, .int .i64 0, .int .i64 0, .int .i64 0, .int .i64 0, .int .i64 0] 0 (w8 j)) (e' := tJb)
     have hov : eH [.int .i64 0, .int .i64 0, .int .i64 0, .int .i64 0, .int .i64 0, .int .i64 0] 0 (w8 j) = w8 j := rfl
     rw [hov] at g6 ⊢
     generalize M5.set b5 _ = M6 at g6 ⊢
     have hb6 := aIc g6.bA rfl
     simp only [aP W.c3, aP W.c2, add_eq, Nat.zero_add, hb6.2.1, hb6.2.2.1, hb6.2.2.2, aC, a9, aU, aL, aT, aJI]
     exact fin M6 _ _ hd g6.right
  ·rename_i k5
   rw [eW]
   split
   ·-- Merge
    rename_i k
    have hd := aAo (x := x) hbq k
    simp only [aP W.c3, add_eq, Nat.zero_add, (LC o1).2.1, aC, aL]
    rw [eW]
    split
    ·rename_i hz
     rw [if_pos hz] at hd
     rw [bR0]
     simp only [aC, a9, aU, aL, aT]
     exact fin M2 x { why := 25 } hd g3
    ·rename_i hz
     rw [if_neg hz] at hd
     have key : ∀ (n i : Nat) (l' : List Jb) (M' : Mem), i ≤ x.l.length → x.l.length < i + n → l'.length = x.l.length → (∀ a, a < i → l'[a]? = (x.l[a]?).map fun j => if j.queue = 1 then { j with queue := 0 } else j) → (∀ a, i ≤ a → l'[a]? = x.l[a]?) →
       aA w0 F M' (star (eR d { x with l := l' }) (star (aY b3 zR iI) (star (aY b1 [.int .i64 c.kind, .int .i64 c.queue, .int .i64 c.at_, .int .i64 c.gen, .int .i64 c.time, .int .i64 c.data] qA) Q))) →
       bR.L2 aB n (some ⟨d, 0, none⟩) ⟨b3, 0, none⟩ ((jA 1 (x.l.take i) : Nat) : Int) (i : Int) M' := by
      intro n
      induction n with
      | zero => intro i l' M' e1 e2; omega
      | succ n ih =>
       intro i l' M' e1 e2 e3 e4 e5 g
       refine Eq.mpr (H.L2 ..) ?_
       unfold bR.L2.T aJ
       obtain ⟨p, s, hs⟩ := eR.open_ g
       have ns := hs.n
       simp only at ns
       simp only [aX, aP W.c71, aP W.c3, add_eq, Nat.zero_add, hs.rl, aC, aR]
       rw [eO]
       split
       ·have hlt : i < x.l.length := by omega
        have hj := List.getElem?_eq_getElem hlt
        have htk : x.l.take (i + 1) = x.l.take i ++ [x.l[i]] := by rw [List.take_add_one, hj]; rfl
        generalize x.l[i] = j at hj htk
        have hj' : l'[i]? = some j := by rw [e5 i (Nat.le_refl _), hj]
        obtain ⟨blk, hsa, _, hin, hrd⟩ := hs.job (x := { x with l := l' }) hj'
        have eq : rd w0 M' ⟨blk, i * 6, none⟩ = some (.int .i64 j.queue) := hrd 0 _ rfl
        simp only [hsa, aX, Int.toNat_natCast, add_eq, Nat.zero_add, eq, aC, aL]
        have hbd : 0 ≤ (i : Int) ∧ (i : Int) < ((s.n : Nat) : Int) := ⟨by omega, by omega⟩
        refine ⟨hbd, ?_⟩
        have hle : jA 1 (x.l.take i) ≤ x.l.length := Nat.le_trans List.countP_le_length (by rw [List.length_take]; omega)
        have hct : jA 1 (x.l.take (i + 1)) = jA 1 (x.l.take i) + (if j.queue = 1 then 1 else 0) := by
         rw [htk]; unfold jA
         rw [List.countP_append, List.countP_singleton]
         simp
        rw [eW, cR (i := i) (by omega), cR (by omega)]
        split
        ·rename_i hq1
         rw [if_pos hq1] at hct
         refine ⟨hbd, ?_⟩
         have := DH.set (x := { x with l := l' }) hs W.c3 (i := i) (j' := { j with queue := 0 }) hj' (f := 0) (by decide) (v := .int .i64 0) rfl rfl rfl hsa (K := fun M435 => bR.L2 aB n (some ⟨d, 0, none⟩) ⟨b3, 0, none⟩ ((jA 1 (x.l.take i) + 1 : Nat) : Int) ((i + 1 : Nat) : Int) M435) fun M4 h4 => by
          rw [← hct]
          refine ih (i + 1) (l'.set i { j with queue := 0 }) M4 (by omega) (by omega) (by rw [List.length_set, e3]) (fun a ha => ?_) (fun a ha => ?_) (DH.close h4)
          ·by_cases hai : a = i
           ·subst hai
            rw [List.getElem?_set_self (by omega), hj]
            simp only [Option.map_some, if_pos hq1]
           ·rw [List.getElem?_set_ne (Ne.symm hai)]; exact e4 a (by omega)
          ·rw [List.getElem?_set_ne (by omega)]; exact e5 a (by omega)
         exact this
        ·rename_i hq1
         rw [if_neg hq1] at hct
         rw [show jA 1 (x.l.take i) = jA 1 (x.l.take (i + 1)) from by omega]
         refine ih (i + 1) l' M' (by omega) (by omega) e3 (fun a ha => ?_) (fun a ha => e5 a (by omega)) g
         by_cases hai : a = i
         ·subst hai
          rw [hj', hj]
          simp only [Option.map_some, if_neg hq1]
         ·exact e4 a (by omega)
       ·have hii : i = x.l.length := by omega
        have hl' : l' = x.l.map fun j => if j.queue = 1 then { j with queue := 0 } else j := List.ext_getElem? fun a => by
         rw [List.getElem?_map]
         by_cases ha : a < i
         ·exact e4 a ha
         ·rw [e5 a (by omega), List.getElem?_eq_none (by omega)]; rfl
        subst hii
        rw [List.take_length, bR4]
        simp only [aC, a9, aU, aL, aT]
        rw [hl'] at g
        exact fin M' _ _ hd g
     exact ⟨_, key (x.l.length + 1) 0 x.l M2 (by omega) (by omega) rfl (fun a ha => by omega) (fun a _ => rfl) g3⟩
   ·-- Count
    rename_i k6
    have k : c.kind = 7 := by omega
    have hd := aCz (x := x) hbq k
    simp only [aP W.c3, add_eq, Nat.zero_add, (LC o1).2.1, aC, aL]
    refine aFH g3 hL ?_
    simp only [aL]
    rw [bR4]
    simp only [aC, a9, aU, aL, aT]
    exact fin M2 _ _ hd g3
end
end
end HL
namespace HL
section
variable {w0 : World} {F M : Mem} {R : VP} {d : Nat} {x : rN} {Q : cY}
def rN.new (n : Int) : rN := ⟨n, 0, 0, ⟨n, [], [], [], []⟩, []⟩
theorem aIV {n : Int} (h : aA w0 F M Q) (h0 : 0 ≤ n) (h1 : n ≤ 65536) (hR : ∀ M' d, aA w0 F M' (star (eR d (rN.new n)) Q) → R (.pointer (some ⟨d, 0, none⟩)) M') : C PP w0 Id.p7 #[.int .i64 n] R M := by
 apply p7.go
 unfold p7.T aJ
 refine aH6 h h0 h1 fun M1 p g1 => ?_
 rw [bK]
 have hb : (aH PP w0).nM tD [(0, .int .i64 n), (3, .pointer (some ⟨p, 0, none⟩))] = some (.agg #[.int .i64 n, .int .i64 0, .int .i64 0, .pointer (some ⟨p, 0, none⟩), .slice none 0 0]) := by kernel_rfl
 rw [hb]
 simp only [aC, a9, aU, aL, bK, rF, aT]
 intro d hd0 hdw
 have g := aA.new g1 hd0 hdw [.int .i64 n, .int .i64 0, .int .i64 0, .pointer (some ⟨p, 0, none⟩), SV.v ⟨none, 0, 0⟩] tD
 refine hR _ d ?_
 obtain ⟨F1, k1, _, k2⟩ := g.last
 have : DH w0 F _ d (rN.new n) p ⟨none, 0, 0⟩ Q := k2 _ _ (aA.pB (k := 6) k1)
 exact this.close
theorem aKj {c : tK} (h : aA w0 F M (star (eR d x) Q)) (hok : DOk x) (hn : fR x.now) (hct : fR c.time)
  (hR : ∀ M', aA w0 F M' (star (eR d (fC x c).1) Q) → R (fC x c).2.v M') :
  C PP w0 Id.fA #[.pointer (some ⟨d, 0, none⟩), c.v] R M := by
 apply fA.go
 intro aB H
 unfold fA.T aJ
 have hL := hok.ll
 intro b1 hb0 hbw
 have g1 := (aA.new h hb0 hbw [.int .i64 c.kind, .int .i64 c.queue, .int .i64 c.at_, .int .i64 c.gen, .int .i64 c.time, .int .i64 c.data] qA).dT
 change aA w0 F (M.set b1 (.row [.int .i64 c.kind, .int .i64 c.queue, .int .i64 c.at_, .int .i64 c.gen, .int .i64 c.time, .int .i64 c.data] qA)) (star (eR d x) (star (aY b1 [.int .i64 c.kind, .int .i64 c.queue, .int .i64 c.at_, .int .i64 c.gen, .int .i64 c.time, .int .i64 c.data] qA) Q)) at g1
 generalize M.set b1 _ = M1 at g1 ⊢
 intro b3 hb3 hbw3
 have g3 := (aA.new g1 hb3 hbw3 [.int .i64 0, .int .i64 0, .int .i64 0, .int .i64 0, .int .i64 0, .int .i64 0] iI).dT
 change aA w0 F (M1.set b3 (.row [.int .i64 0, .int .i64 0, .int .i64 0, .int .i64 0, .int .i64 0, .int .i64 0] iI)) (star (eR d x) (star (aY b3 zR iI) (star (aY b1 [.int .i64 c.kind, .int .i64 c.queue, .int .i64 c.at_, .int .i64 c.gen, .int .i64 c.time, .int .i64 c.data] qA) Q))) at g3
 generalize M1.set b3 _ = M2 at g3 ⊢
 have LC : ∀ {M' : Mem}, cM w0 M' b1 [.int .i64 c.kind, .int .i64 c.queue, .int .i64 c.at_, .int .i64 c.gen, .int .i64 c.time, .int .i64 c.data] qA → rd w0 M' ⟨b1, 0, none⟩ = some (.int .i64 c.kind) ∧ rd w0 M' ⟨b1, 1, none⟩ = some (.int .i64 c.queue) ∧ rd w0 M' ⟨b1, 4, none⟩ = some (.int .i64 c.time) ∧ (aH PP w0).ld qA ⟨b1, 0, none⟩ M' = some (.agg #[.int .i64 c.kind, .int .i64 c.queue, .int .i64 c.at_, .int .i64 c.gen, .int .i64 c.time, .int .i64 c.data]) ∧ (aH PP w0).ld 33 ⟨b1, 2, none⟩ M' = some (.agg #[.int .i64 c.at_, .int .i64 c.gen]) := fun o =>
  ⟨aM (o := 0) o, aM (o := 1) o, aM (o := 4) o, c9 (cs := c.cells) W.g68 (fun j v hj => by rw [add_eq, aM o, Nat.zero_add]; exact hj), c9 (cs := [.int .i64 c.at_, .int .i64 c.gen]) W.g33 (fun j v hj => by
   rw [add_eq, aM o]
   match j, hj with
   | 0, hj => exact hj
   | 1, hj => exact hj)⟩
 have strip : ∀ {M5 : Mem} {x' : rN}, aA w0 F M5 (star (eR d x') (star (aY b1 [.int .i64 c.kind, .int .i64 c.queue, .int .i64 c.at_, .int .i64 c.gen, .int .i64 c.time, .int .i64 c.data] qA) Q)) → aA w0 F M5 (star (eR d x') Q) := fun g5 => by
  obtain ⟨F', k1, _, k2⟩ := g5.last
  exact k2 _ _ k1.right
 have fin : ∀ (M4 : Mem) (x' : rN) (r : eZ), fC x c = (x', r) → aA w0 F M4 (star (eR d x') (star (aY b3 zR iI) (star (aY b1 [.int .i64 c.kind, .int .i64 c.queue, .int .i64 c.at_, .int .i64 c.gen, .int .i64 c.time, .int .i64 c.data] qA) Q))) →
   (aH PP w0).st iI ⟨b3, 0, none⟩ (.agg #[.int .i64 r.why, .int .i64 r.at_, .int .i64 r.gen, .int .i64 r.time, .int .i64 r.data, .int .i64 r.n]) (fun M14 => ob ((aH PP w0).rdv iI (.pointer (some ⟨b3, 0, none⟩)) M14) fun v15 => R v15 M14) M4 := by
  intro M4 x' r hd g
  refine aHO g.dT rfl fun M5 g5 => ?_
  rw [hd] at hR
  exact hR M5 (strip g5)
 have o1 := g3.right.right.bA
 have keyJ2 : ¬ (c.kind = 1 ∨ c.kind = 5 ∨ c.kind = 6 ∨ c.kind = 7) → ∀ t : Bool, (t = true ↔ (c.kind = 2 ∨ c.kind = 3)) → fA.J2 aB (some ⟨d, 0, none⟩) ⟨b1, 0, none⟩ ⟨b3, 0, none⟩ c.kind t M2 := by
  intro hnq t ht
  refine Eq.mpr (H.J2 ..) ?_
  unfold fA.J2.T aJ
  cases t with
  | true =>
   have hk := ht.1 rfl
   have hd := yK (x := x) hk
   rw [dU]
   obtain ⟨p, s, hs⟩ := eR.open_ g3
   simp only [aX, aP W.c52, add_eq, Nat.zero_add, hs.rp, (LC o1).2.2.2.2, aC, bK, a9, aU, aL, aT]
   obtain ⟨F1, hp, _⟩ := hs.bT
   refine aCX hp hok.pl fun M3 l3 => ?_
   have g4 := g3.le l3
   have o4 := g4.right.right.bA
   rw [aL, cD]
   split
   ·rename_i hz
    rw [if_neg (fun hh => hh hz)] at hd
    obtain ⟨k, hat⟩ := hok.look _ _ hz
    simp only [(LC o4).2.2.2.2, aC, a9, aU, aL, aT]
    refine aKu g4 hL fun M5 l5 => ?_
    rw [hat] at hd ⊢
    have hkl : k < x.l.length := (List.findIdx?_eq_some_iff_getElem.1 hat).1
    have hj := List.getElem?_eq_getElem hkl
    generalize x.l[k] = j at hj
    simp only [hj] at hd
    have g5 := g4.le l5
    have o5 := g5.right.right.bA
    simp only [aP W.c3, (LC o5).1, aC, aL]
    rw [eW]
    split
    ·rename_i k3
     rw [if_pos k3] at hd
     refine aES g5 hok hj fun M6 h6 => ?_
     unfold Jb.v
     simp only [a9, aU, aL, aT]
     intro b5 hb5 hbw5
     have g6 := aA.new h6 hb5 hbw5 [.int .i64 0, .int .i64 0, .int .i64 0, .int .i64 0, .int .i64 0, .int .i64 0] tJb
     generalize M6.set b5 _ = M7 at g6 ⊢
     refine gZ (vs := w8 j) W.aF0 g6.bA (by simp [w8]) (x4 j) ?_
     have g7 := g6.kZ (cs' := eH [.int .i64 0, .int .i64 0, .int .i64 0, .int .i64 0, .int .i64 0, .int .i64 0] 0 (w8 j)) (e' := tJb)
     have hov : eH [.int .i64 0, .int .i64 0, .int .i64 0, .int .i64 0, .int .i64 0, .int .i64 0] 0 (w8 j) = w8 j := rfl
     rw [hov] at g7 ⊢
     generalize M7.set b5 _ = M8 at g7 ⊢
     have hb7 := aIc g7.bA rfl
     simp only [aP W.c3, aP W.c2, add_eq, Nat.zero_add, hb7.2.2.1, hb7.2.2.2, aC, a9, aU, aL, aT, aKB]
     exact fin M8 _ _ hd g7.right
    ·rename_i k3
     rw [if_neg k3] at hd
     obtain ⟨p, s, hs5⟩ := eR.open_ g5
     obtain ⟨blk, hsa, hns, hin, hrd⟩ := hs5.job hj
     have hbd : 0 ≤ (k : Int) ∧ (k : Int) < ((s.n : Nat) : Int) := ⟨by omega, by omega⟩
     have ek : rd w0 M5 ⟨blk, k * 6 + 2, none⟩ = some (.int .i64 j.key) := hrd 2 _ rfl
     simp only [aX, aP W.c71, aP W.c2, add_eq, Nat.zero_add, hs5.rl, (LC o5).2.2.1, aC, aR, hsa, Int.toNat_natCast, ek, aL]
     refine ⟨hbd, ?_⟩
     rw [eO]
     split
     ·rename_i hk2
      rw [if_pos (show j.key < c.time from hk2)] at hd
      rw [bR0]
      simp only [aC, a9, aU, aL, aT]
      exact fin M5 x { why := 26 } hd g5
     ·rename_i hk2
      rw [if_neg (show ¬ j.key < c.time from hk2)] at hd
      refine ⟨hbd, ?_⟩
      refine DH.set hs5 W.c2 (j' := { j with key := c.time }) hj (by decide) rfl rfl rfl hsa fun M6 h6 => ?_
      have o6 := h6.right.right.right.right.bA
      obtain ⟨blk', hsa', _, _, hrd6⟩ := DH.job (x := { x with l := x.l.set k { j with key := c.time } }) h6 (i := k) (j := { j with key := c.time }) (List.getElem?_set_self hkl)
      rw [hsa] at hsa'; cases hsa'
      have ed : rd w0 M6 ⟨blk, k * 6 + 1, none⟩ = some (.int .i64 j.data) := hrd6 1 _ rfl
      have rl6 : rd w0 M6 ⟨d, 4, none⟩ = some (SV.v s) := h6.rl
      simp only [aX, aP W.c71, aP W.c3, aP W.c2, add_eq, Nat.zero_add, rl6, (LC o6).2.2.1, aC, aR, hsa, Int.toNat_natCast, ed, a9, aU, aL, aT, aKB]
      refine ⟨hbd, ?_⟩
      exact fin M6 _ _ hd (DH.close (x := { x with l := x.l.set k { j with key := c.time } }) h6)
   ·rename_i hz
    rw [if_pos hz] at hd
    rw [bR0]
    simp only [aC, a9, aU, aL, aT]
    exact fin M3 _ _ hd g4
  | false =>
   have hk : ¬ (c.kind = 2 ∨ c.kind = 3) := fun hh => by have := ht.2 hh; cases this
   rw [mT, eW]
   split
   ·rename_i k
    have hd := aCq (x := x) k
    simp only [aP W.c2, add_eq, Nat.zero_add, (LC o1).2.2.1, aC, aL]
    rw [eO]
    split
    ·rename_i ht
     rw [if_pos ht] at hd
     rw [bR0]
     simp only [aC, a9, aU, aL, aT]
     exact fin M2 _ _ hd g3
    ·rename_i ht
     rw [if_neg ht] at hd
     obtain ⟨p, s, hs⟩ := eR.open_ g3
     simp only [aX, aP W.c2, add_eq, Nat.zero_add, hs.rn, aC, aL]
     refine aIN hn hct ?_
     simp only [aL]
     refine gF W.c2 hs.bA (by simp) rfl rfl ?_
     have h6 := hs.kZ (cs' := [.int .i64 x.most, .int .i64 (jW x.now c.time), .int .i64 x.next, .pointer (some ⟨p, 0, none⟩), SV.v s]) (e' := tD)
     rw [show ([.int .i64 x.most, .int .i64 x.now, .int .i64 x.next, .pointer (some ⟨p, 0, none⟩), SV.v s] : List Value).set 1 (.int .i64 (jW x.now c.time)) = [.int .i64 x.most, .int .i64 (jW x.now c.time), .int .i64 x.next, .pointer (some ⟨p, 0, none⟩), SV.v s] from rfl]
     generalize M2.set d _ = M6 at h6 ⊢
     have en6 : rd w0 M6 ⟨d, 1, none⟩ = some (.int .i64 (jW x.now c.time)) := aM (o := 1) h6.bA
     simp only [en6, aC, a9, aU, aL, aT, bR2]
     exact fin M6 _ _ hd (DH.close (x := { x with now := jW x.now c.time }) h6)
   ·rename_i k
    have hd := aB5 (x := x) (c := c) (by omega)
    rw [bR0]
    simp only [aC, a9, aU, aL, aT]
    exact fin M2 _ _ hd g3
 have keyJ1 : ∀ t : Bool, (t = true ↔ (c.kind = 1 ∨ c.kind = 5 ∨ c.kind = 6 ∨ c.kind = 7)) → fA.J1 aB (some ⟨d, 0, none⟩) ⟨b1, 0, none⟩ ⟨b3, 0, none⟩ c.kind t M2 := by
  intro t ht
  refine Eq.mpr (H.J1 ..) ?_
  unfold fA.J1.T aJ
  cases t with
  | true =>
   have hk := ht.1 rfl
   rw [dU]
   have hcall : (c.queue = 0 ∨ c.queue = 1) → C PP w0 Id.bR #[.pointer (some ⟨d, 0, none⟩), c.v] (fun v53 M54 => shA v53 fun l55 => dA l55 fun u56 r57 => nA .i64 u56 fun n58 => dA r57 fun u59 r60 => nA .i64 u59 fun n61 => dA r60 fun u62 r63 => nA .i64 u62 fun n64 => dA r63 fun u65 r66 => nA .i64 u65 fun n67 => dA r66 fun u68 r69 => nA .i64 u68 fun n70 => dA r69 fun u71 r72 => nA .i64 u71 fun n73 => qB r72 ((aH PP w0).st iI ⟨b3, 0, none⟩ (.agg #[.int .i64 n58, .int .i64 n61, .int .i64 n64, .int .i64 n67, .int .i64 n70, .int .i64 n73]) (fun M74 => ob ((aH PP w0).rdv iI (.pointer (some ⟨b3, 0, none⟩)) M74) fun v75 => R v75 M74) M54)) M2 := fun hq => by
    refine aFV g3 hok hq hk fun M5 h5 => ?_
    unfold eZ.v
    simp only [a9, aU, aL, aT]
    exact fin M5 _ _ rfl h5
   simp only [aP W.c3, add_eq, Nat.zero_add, (LC o1).2.1, (LC o1).2.2.2.1, aC, a9, aU, aL, aT]
   rw [cD]
   split
   ·rename_i hq
    exact hcall (.inl hq)
   ·rename_i hq
    rw [cD]
    split
    ·rename_i hq1
     exact hcall (.inr hq1)
    ·rename_i hq1
     rw [bR0]
     simp only [aC, a9, aU, aL, aT]
     exact fin M2 _ _ (vM ⟨hk, by omega⟩) g3
  | false =>
   have hk : ¬ (c.kind = 1 ∨ c.kind = 5 ∨ c.kind = 6 ∨ c.kind = 7) := fun hh => by have := ht.2 hh; cases this
   rw [mT, eW]
   split
   ·rename_i k
    exact keyJ2 hk _ (by rw [k]; simp)
   ·rename_i k
    refine keyJ2 hk _ ?_
    simp only [beq_iff_eq]
    constructor
    ·intro hh; exact .inr hh
    ·intro hh; omega
 simp only [aP W.c3, (LC o1).1, aC, aL]
 rw [eW]
 split
 ·rename_i k; exact keyJ1 _ (by rw [k]; simp)
 ·rename_i k1
  rw [eW]
  split
  ·rename_i k; exact keyJ1 _ (by rw [k]; simp)
  ·rename_i k2
   rw [eW]
   split
   ·rename_i k; exact keyJ1 _ (by rw [k]; simp)
   ·rename_i k3
    refine keyJ1 _ ?_
    simp only [beq_iff_eq]
    constructor
    ·intro hh; exact .inr (.inr (.inr hh))
    ·intro hh; omega
end
end HL
namespace HL
namespace PS
variable {κ κ' : Type} {p : PS κ} {p' : PS κ'}
theorem aAs (h : p.pl = p'.pl) : p.most = p'.most ∧ p.free = p'.free ∧ p.l.length = p'.l.length ∧ (∀ j : Nat, (p.l[j]?).map (·.g) = (p'.l[j]?).map (·.g)) ∧ ∀ j : Nat, (p.l[j]?).map (·.t) = (p'.l[j]?).map (·.t) := by
 unfold pl at h
 simp only [Pl.mk.injEq] at h
 obtain ⟨h1, h2, h3, h4, h5⟩ := h
 refine ⟨h1, h5, ?_, fun j => ?_, fun j => ?_⟩
 ·have := congrArg List.length h2
  simpa using this
 ·rw [← List.getElem?_map, ← List.getElem?_map, h2]
 ·rw [← List.getElem?_map, ← List.getElem?_map, h3]
theorem aH3 (h : p.pl = p'.pl) {j : Nat} {x : rO κ} (hx : p.l[j]? = some x) : ∃ y, p'.l[j]? = some y ∧ y.g = x.g ∧ y.t = x.t := by
 obtain ⟨_, _, _, h4, h5⟩ := aAs h
 have a := h4 j
 have b := h5 j
 rw [hx] at a b
 cases hy : p'.l[j]? with
 | none => rw [hy] at a; cases a
 | some y =>
  rw [hy] at a b
  simp only [Option.map_some, Option.some.injEq] at a b
  exact ⟨y, rfl, a.symm, b.symm⟩
theorem aKP (h : p.pl = p'.pl) (hok : p'.Ok) : p.Ok := by
 obtain ⟨_, h2, _, _, _⟩ := aAs h
 refine ⟨by rw [h2]; exact hok.nd, fun a ha => ?_⟩
 rw [h2] at ha
 obtain ⟨y, hy, ht⟩ := hok.fr a ha
 obtain ⟨x, hx, _, hxt⟩ := aH3 h.symm hy
 exact ⟨x, hx, by rw [hxt]; exact ht⟩
theorem aH7 (h : p.pl = p'.pl) {x : rO κ} (hx : x ∈ p.l) : ∃ y ∈ p'.l, y.g = x.g ∧ y.t = x.t := by
 obtain ⟨j, hj⟩ := List.getElem?_of_mem hx
 obtain ⟨y, hy, h1⟩ := aH3 h hj
 exact ⟨y, List.mem_of_getElem? hy, h1⟩
theorem aI4 (hok : p.Ok) : aEh p.pl := by
 refine ⟨by unfold pl; simp, by unfold pl; simp, fun a ha => ?_, hok.nd⟩
 obtain ⟨x, hx, ht⟩ := hok.fr a ha
 have := (List.getElem?_eq_some_iff.1 hx).1
 unfold pl
 simp only [List.length_map, List.getElem?_map, hx, Option.map_some, ht]
 exact ⟨this, trivial⟩
theorem aBk {z v : κ} (hok : p.Ok) {a : Nat} (ha : p.at_ = some a) {b g : Int} {w : κ} (h : (p.take z a v).find b g = some w) : (b = (a : Int) ∧ g = p.gen a) ∨ p.find b g = some w := by
 obtain ⟨t1, t2, _⟩ := zD hok ha z v
 obtain ⟨k, rfl, hk, hg⟩ := bH h
 by_cases e : k = a
 ·subst e
  rw [t1] at hk
  cases hk
  exact .inl ⟨rfl, rfl⟩
 ·rw [t2 k e] at hk
  exact .inr (jS hk hg)
theorem aBc {z : κ} {a : Nat} {x : rO κ} (hx : p.l[a]? = some x) {b g : Int} {w : κ} (h : (p.fZ z a).find b g = some w) : b ≠ (a : Int) ∧ p.find b g = some w := by
 obtain ⟨h1, _⟩ := vC z hx
 obtain ⟨k, rfl, hk, hg⟩ := bH h
 rw [h1] at hk
 by_cases e : a = k
 ·subst e
  rw [List.getElem?_set_self (List.getElem?_eq_some_iff.1 hx).1] at hk
  cases hk
 ·rw [List.getElem?_set_ne e] at hk
  exact ⟨by omega, jS hk hg⟩
theorem aB4 {a : Nat} {v : κ} {x : rO κ} (hx : p.l[a]? = some x) {b g : Int} {w : κ} (h : (p.put a v).find b g = some w) : ∃ w', p.find b g = some w' := by
 obtain ⟨h1, _⟩ := uT v hx
 obtain ⟨k, rfl, hk, hg⟩ := bH h
 rw [h1] at hk
 by_cases e : a = k
 ·subst e
  rw [List.getElem?_set_self (List.getElem?_eq_some_iff.1 hx).1] at hk
  obtain ⟨xg, xt, xv⟩ := x
  cases hk
  exact ⟨_, jS hx hg⟩
 ·rw [List.getElem?_set_ne e] at hk
  exact ⟨_, jS hk hg⟩
end PS
theorem aCs {P : PS V5} {A : List cW} {f t b g : Int} {w : V5} (h : (xQ P A f t).find b g = some w) : ∃ w', P.find b g = some w' := by
 obtain ⟨k, rfl, hk, hg⟩ := PS.bH h
 rw [rU] at hk
 cases hx : P.l[k]? with
 | none => rw [hx] at hk; cases hk
 | some x =>
  rw [hx, Option.map_some] at hk
  refine ⟨x.v, PS.jS ?_ hg⟩
  rw [hx]
  split at hk <;> (obtain ⟨xg, xt, xv⟩ := x; cases hk; rfl)
structure DSt where
 K : Int
 S : QS
 I : List mY
 y0 : Hv
 y1 : Hv
 P : PS V5
 nS : dG → Option dG
 wh : dG → Option Int
 now : Int
 gI : Int
 last : Int
 top : Int
def yX (y0 y1 : Hv) (q : Int) : dG := if q = 0 then y0.h else y1.h
def Jb.r (j : Jb) : dG := (j.at_, j.gen)
def jk (y0 y1 : Hv) (j : Jb) : dG × dG × cW := (j.r, yX y0 y1 j.queue, j.e)
def ik (x : mY) : dG × dG × cW := (x.r, x.h, x.e)
def Jb.v5 (j : Jb) : V5 := (j.queue, j.key, j.data, j.at_, j.gen)
structure dH (Y : DSt) (d : rN) (tm : Int) : Prop where
 q : dR Y.S Y.I [Y.y0, Y.y1] tm
 K3 : 1 ≤ Y.K ∧ Y.K ≤ 3
 k0 : Y.y0.k = Y.K
 k1 : Y.y1.k = Y.K
 pk : Y.P.pl = d.bT
 ipk : Y.S.ip.pl = d.bT
 most : Y.S.most = d.most
 now : Y.now = d.now
 aCD : fR d.now
 nx : Y.S.next = d.next
 par : Y.I.map ik = d.l.map (jk Y.y0 Y.y1)
 qr : ∀ j ∈ d.l, j.queue = 0 ∨ j.queue = 1
 jf : ∀ j ∈ d.l, Y.P.find j.at_ j.gen = some j.v5
 jb : ∀ j ∈ d.l, Y.nS j.r = some j.r
 jb2 : ∀ r x, Y.nS r = some x → ∃ j ∈ d.l, j.r = r
 jw : ∀ j ∈ d.l, Y.wh j.r = some j.ser
 lv : ∀ a g v, Y.P.find a g = some v → ∃ j ∈ d.l, j.at_ = a ∧ j.gen = g
 sn : (d.l.map (·.ser)).Nodup
 sl : ∀ j ∈ d.l, 0 ≤ j.ser ∧ j.ser < d.next
section
variable {Y : DSt} {d : rN} {tm : Int}
theorem dH.pp (h : dH Y d tm) : Y.P.pl = Y.S.ip.pl := h.pk.trans h.ipk.symm
theorem dH.pok (h : dH Y d tm) : Y.P.Ok := PS.aKP h.pp h.q.io
theorem dH.pg (h : dH Y d tm) : ∀ x ∈ Y.P.l, 0 ≤ x.g ∧ x.g ≤ tm := fun x hx => by
 obtain ⟨y, hy, e, _⟩ := PS.aH7 h.pp hx
 have := h.q.ig y hy
 omega
theorem dH.pg1 (h : dH Y d tm) : ∀ x ∈ Y.P.l, x.t = true → 1 ≤ x.g := fun x hx ht => by
 obtain ⟨y, hy, e, et⟩ := PS.aH7 h.pp hx
 have := h.q.ig1 y hy (by rw [et]; exact ht)
 omega
theorem dH.len (h : dH Y d tm) : Y.I.length = d.l.length := by
 have := congrArg List.length h.par
 simpa using this
theorem dH.wT (h : dH Y d tm) : Y.P.l.length = Y.P.free.length + d.l.length ∧ (Y.P.l.length : Int) ≤ d.most ∧ Y.P.most = d.most ∧ d.most ≤ 300 ∧ 1 ≤ d.most := by
 obtain ⟨e1, e2, e3, _⟩ := PS.aAs h.pp
 have := h.q.il
 have := h.q.ill
 have := h.q.im
 have := h.q.m2
 have := h.q.m1
 have := h.most
 have := h.len
 refine ⟨by rw [e3, e2]; omega, by rw [e3]; omega, by rw [e1]; omega, by omega, by omega⟩
theorem dH.refs (h : dH Y d tm) : Y.I.map (·.r) = d.l.map Jb.r := by
 have := congrArg (List.map Prod.fst) h.par
 rw [List.map_map, List.map_map] at this
 exact this
theorem dH.rnd (h : dH Y d tm) : (d.l.map Jb.r).Nodup := by rw [← h.refs]; exact h.q.ind
theorem dH.ok (h : dH Y d tm) (htm : tm ≤ 900000) : DOk d := by
 obtain ⟨e1, e2, e3, e4, e5⟩ := h.wT
 have hp : d.bT = Y.P.pl := h.pk.symm
 have hnx := h.q.nx
 have := h.nx
 refine ⟨by rw [hp]; exact PS.aI4 h.pok, fun a g hl => ?_, fun j hj => ?_, ?_, ?_, fun g hg => ?_, ?_, ?_⟩
 ·rw [hp, ← PS.pJ] at hl
  obtain ⟨v, hv⟩ := Option.isSome_iff_exists.1 hl
  obtain ⟨j, hj, ea, eg⟩ := h.lv a g v hv
  cases hk : HL.atD d.l a g with
  | some k => exact ⟨k, rfl⟩
  | none =>
   have := List.findIdx?_eq_none_iff.1 hk j hj
   simp [ea, eg] at this
 ·rw [hp, ← PS.pJ, h.jf j hj]; rfl
 ·rw [hp]; show Y.P.free.length ≤ 10000; omega
 ·rw [hp]; show (Y.P.l.map (·.g)).length ≤ 10000; rw [List.length_map]; omega
 ·rw [hp] at hg
  obtain ⟨x, hx, rfl⟩ := List.mem_map.1 hg
  have := h.pg x hx
  omega
 ·omega
 ·omega
theorem dH.split (h : dH Y d tm) {A B : List Jb} {j : Jb} (hd : d.l = A ++ j :: B) : ∃ IA x IB, Y.I = IA ++ x :: IB ∧ IA.map ik = A.map (jk Y.y0 Y.y1) ∧ x.r = j.r ∧ x.h = yX Y.y0 Y.y1 j.queue ∧ x.e = j.e ∧ IB.map ik = B.map (jk Y.y0 Y.y1) := by
 have hp := h.par
 rw [hd, List.map_append, List.map_cons] at hp
 obtain ⟨IA, I2, e1, e2, e3⟩ := List.map_eq_append_iff.1 hp
 obtain ⟨x, IB, e4, e5, e6⟩ := List.map_eq_cons_iff.1 e3
 subst e4
 have e7 : (x.r, x.h, x.e) = (j.r, yX Y.y0 Y.y1 j.queue, j.e) := e5
 simp only [Prod.mk.injEq] at e7
 exact ⟨IA, x, IB, e1, e2, e7.1, e7.2.1, e7.2.2, e6⟩
theorem dH.aEJ (h : dH Y d tm) {x : mY} (hx : x ∈ Y.I) : ∃ j ∈ d.l, x.r = j.r ∧ x.h = yX Y.y0 Y.y1 j.queue ∧ x.e = j.e := by
 have : ik x ∈ Y.I.map ik := List.mem_map.2 ⟨x, hx, rfl⟩
 rw [h.par] at this
 obtain ⟨j, hj, e⟩ := List.mem_map.1 this
 have e7 : (j.r, yX Y.y0 Y.y1 j.queue, j.e) = (x.r, x.h, x.e) := e
 simp only [Prod.mk.injEq] at e7
 exact ⟨j, hj, e7.1.symm, e7.2.1.symm, e7.2.2.symm⟩
theorem dH.eE (h : dH Y d tm) : Y.y0.h ≠ Y.y1.h := fun e => by
 have := h.q.fO
 simp [e] at this
theorem aFd (h : dH Y d tm) {p q : Int} (hp : p = 0 ∨ p = 1) (hq : q = 0 ∨ q = 1) (e : yX Y.y0 Y.y1 p = yX Y.y0 Y.y1 q) : p = q := by
 have eE := h.eE
 unfold yX at e
 rcases hp with rfl | rfl <;> rcases hq with rfl | rfl <;> first | rfl | (simp at e; exact absurd e (by first | exact eE | exact eE.symm))
theorem dH.atD (h : dH Y d tm) {a g : Int} {k : Nat} (hk : atD d.l a g = some k) : ∃ j, d.l[k]? = some j ∧ j.at_ = a ∧ j.gen = g ∧ ∃ A B, d.l = A ++ j :: B ∧ A.length = k := by
 obtain ⟨h1, h2, _⟩ := List.findIdx?_eq_some_iff_getElem.1 hk
 refine ⟨d.l[k], List.getElem?_eq_getElem h1, ?_⟩
 have h3 : d.l[k].at_ = a ∧ d.l[k].gen = g := by simpa using h2
 refine ⟨h3.1, h3.2, d.l.take k, d.l.drop (k + 1), ?_, ?_⟩
 ·rw [← List.drop_eq_getElem_cons h1, List.take_append_drop]
 ·rw [List.length_take, Nat.min_eq_left (by omega)]
theorem aG0 {l : List Jb} {k : Nat} {j : Jb} (h : l[k]? = some j) : ∃ A B, l = A ++ j :: B ∧ A.length = k := by
 obtain ⟨h1, rfl⟩ := List.getElem?_eq_some_iff.1 h
 refine ⟨l.take k, l.drop (k + 1), ?_, ?_⟩
 ·rw [← List.drop_eq_getElem_cons h1, List.take_append_drop]
 ·rw [List.length_take, Nat.min_eq_left (by omega)]
theorem aA3 {y0 y1 y0' y1' : Hv} (h0 : y0'.h = y0.h) (h1 : y1'.h = y1.h) : jk y0' y1' = jk y0 y1 := by
 funext j
 unfold jk yX
 rw [h0, h1]
theorem dH.add (h : dH Y d tm) {S' : QS} {y0' y1' : Hv} {a : Nat} {cc : Nat} {q t da : Int} (hq : q = 0 ∨ q = 1) (hat : d.bT.at_ = some a)
  (hS : dR S' (Y.I ++ [⟨((a : Int), d.bT.gen a), yX Y.y0 Y.y1 q, cc, (t, d.next)⟩]) [y0', y1'] (tm + 1)) (h0 : y0'.h = Y.y0.h) (h1 : y1'.h = Y.y1.h) (k0 : y0'.k = Y.y0.k) (k1 : y1'.k = Y.y1.k) (hm : S'.most = Y.S.most) (hn : S'.next = Y.S.next + 1) (hip : S'.ip.pl = Y.S.ip.pl.take a 0) :
  dH ⟨Y.K, S', Y.I ++ [⟨((a : Int), d.bT.gen a), yX Y.y0 Y.y1 q, cc, (t, d.next)⟩], y0', y1', Y.P.take z5 a (q, t, da, (a : Int), d.bT.gen a), fT Y.nS ((a : Int), d.bT.gen a) (some ((a : Int), d.bT.gen a)), fT Y.wh ((a : Int), d.bT.gen a) (some d.next), Y.now, Y.gI, Y.last, Y.top⟩
   { d with bT := d.bT.take a 0, l := d.l ++ [⟨q, da, t, d.next, (a : Int), d.bT.gen a⟩], next := d.next + 1 } (tm + 1) := by
 have hatP : Y.P.at_ = some a := by rw [← PS.aGP, h.pk]; exact hat
 have hg : d.bT.gen a = Y.P.gen a := by rw [← h.pk]; exact (PS.aCl _ hatP h.pok.lt).1
 have hg1 := PS.aCH h.pg h.q.tm0 a
 obtain ⟨f1, f2⟩ := PS.zH h.pok hatP z5 (q, t, da, (a : Int), d.bT.gen a) hg1.1
 rw [← hg] at f1
 have hno : ∀ j ∈ d.l, j.r ≠ ((a : Int), d.bT.gen a) := fun j hj e => by
  have h1 := h.jf j hj
  have e1 : j.at_ = (a : Int) := congrArg Prod.fst e
  have e2 : j.gen = d.bT.gen a := congrArg Prod.snd e
  rw [e1, e2, h.pok.aCP hatP] at h1; cases h1
 have hnx := h.q.nx
 have hnn := h.nx
 refine ⟨hS, h.K3, k0.trans h.k0, k1.trans h.k1, ?_, ?_, hm.trans h.most, h.now, h.aCD, ?_, ?_, fun j hj => ?_, fun j hj => ?_, fun j hj => ?_, fun r x hx => ?_, fun j hj => ?_, fun b g v hv => ?_, ?_, fun j hj => ?_⟩
 ·show (Y.P.take z5 a _).pl = d.bT.take a 0
  rw [PS.aE1 _ _ _ hatP h.pok.lt, h.pk]
 ·show S'.ip.pl = d.bT.take a 0
  rw [hip, h.ipk]
 ·show S'.next = d.next + 1
  omega
 ·show (Y.I ++ _).map ik = (d.l ++ _).map (jk y0' y1')
  rw [aA3 h0 h1, List.map_append, List.map_append, h.par]; rfl
 ·rcases List.mem_append.1 hj with hj | hj
  ·exact h.qr j hj
  ·rw [List.mem_singleton.1 hj]; exact hq
 ·rcases List.mem_append.1 hj with hj | hj
  ·exact f2 _ _ _ (h.jf j hj)
  ·rw [List.mem_singleton.1 hj]; exact f1
 ·show fT Y.nS _ _ j.r = some j.r
  unfold fT
  rcases List.mem_append.1 hj with hj | hj
  ·rw [if_neg (hno j hj)]; exact h.jb j hj
  ·rw [List.mem_singleton.1 hj]; exact if_pos rfl
 ·have hx' : fT Y.nS _ _ r = some x := hx
  unfold fT at hx'
  split at hx'
  ·rename_i e
   exact ⟨_, List.mem_append_right _ List.mem_cons_self, e.symm⟩
  ·obtain ⟨j, hj, e⟩ := h.jb2 r x hx'
   exact ⟨j, List.mem_append_left _ hj, e⟩
 ·show fT Y.wh _ _ j.r = some j.ser
  unfold fT
  rcases List.mem_append.1 hj with hj | hj
  ·rw [if_neg (hno j hj)]; exact h.jw j hj
  ·rw [List.mem_singleton.1 hj]; exact if_pos rfl
 ·rcases PS.aBk h.pok hatP hv with ⟨e1, e2⟩ | hv
  ·exact ⟨_, List.mem_append_right _ List.mem_cons_self, e1.symm, by rw [e2, ← hg]⟩
  ·obtain ⟨j, hj, e⟩ := h.lv b g v hv
   exact ⟨j, List.mem_append_left _ hj, e⟩
 ·rw [List.map_append, List.nodup_append]
  refine ⟨h.sn, by simp, fun u hu v hv e => ?_⟩
  obtain ⟨j, hj, rfl⟩ := List.mem_map.1 hu
  simp only [List.map_cons, List.map_nil, List.mem_singleton] at hv
  have := h.sl j hj
  omega
 ·show 0 ≤ j.ser ∧ j.ser < d.next + 1
  rcases List.mem_append.1 hj with hj | hj
  ·have := h.sl j hj; omega
  ·rw [List.mem_singleton.1 hj]
   show 0 ≤ d.next ∧ d.next < d.next + 1
   omega
theorem dH.out (h : dH Y d tm) {A B : List Jb} {j : Jb} (hd : d.l = A ++ j :: B) {IA IB : List mY} {x : mY} (hI : Y.I = IA ++ x :: IB) (hA : IA.map ik = A.map (jk Y.y0 Y.y1)) (hB : IB.map ik = B.map (jk Y.y0 Y.y1)) {S' : QS} {y0' y1' : Hv}
  (hS : dR S' (IA ++ IB) [y0', y1'] (tm + 1)) (h0 : y0'.h = Y.y0.h) (h1 : y1'.h = Y.y1.h) (k0 : y0'.k = Y.y0.k) (k1 : y1'.k = Y.y1.k) (hm : S'.most = Y.S.most) (hn : S'.next = Y.S.next) (hip : S'.ip.pl = Y.S.ip.pl.fZ j.at_.toNat) :
  dH ⟨Y.K, S', IA ++ IB, y0', y1', Y.P.fZ z5 j.at_.toNat, fT Y.nS j.r none, fT Y.wh j.r none, Y.now, Y.gI, Y.last, Y.top⟩ (d.out A.length) (tm + 1) := by
 have hdA : d.l[A.length]? = some j := by rw [hd]; simp
 have hout : d.out A.length = { d with l := A ++ B, bT := d.bT.fZ j.at_.toNat } := by
  unfold rN.out
  rw [hdA, hd, List.eraseIdx_append_of_length_le (Nat.le_refl _), Nat.sub_self]
  rfl
 have hjM : j ∈ d.l := by rw [hd]; simp
 have hold : ∀ z ∈ A ++ B, z ∈ d.l := fun z hz => by rw [hd]; rcases List.mem_append.1 hz with h | h <;> simp [h]
 have hrn := h.rnd
 rw [hd, List.map_append, List.map_cons] at hrn
 obtain ⟨n1, n2, n3⟩ := kO hrn
 have eE : ∀ z ∈ A ++ B, z.r ≠ j.r := fun z hz e => by
  rcases List.mem_append.1 hz with h | h
  ·exact n2 (List.mem_map.2 ⟨z, h, e⟩)
  ·exact n3 (List.mem_map.2 ⟨z, h, e⟩)
 obtain ⟨kj, kj1, kj2, kj3⟩ := PS.bH (h.jf j hjM)
 have hkj : j.at_.toNat = kj := by rw [kj1, Int.toNat_natCast]
 have hat : ∀ z ∈ A ++ B, z.at_ ≠ (kj : Int) := fun z hz e => by
  obtain ⟨kz, kz1, kz2, kz3⟩ := PS.bH (h.jf z (hold z hz))
  have : kz = kj := by omega
  subst this
  rw [kz2] at kj2
  have hg : z.gen = j.gen := by injection kj2 with kj2; injection kj2
  exact eE z hz (Prod.ext (by show z.at_ = j.at_; omega) hg)
 have hcas : ∀ z ∈ d.l, z = j ∨ z ∈ A ++ B := fun z hz => by
  rw [hd] at hz
  rcases List.mem_append.1 hz with hz | hz
  ·exact .inr (List.mem_append_left _ hz)
  ·rcases List.mem_cons.1 hz with hz | hz
   ·exact .inl hz
   ·exact .inr (List.mem_append_right _ hz)
 rw [hout, hkj]
 refine ⟨hS, h.K3, k0.trans h.k0, k1.trans h.k1, ?_, ?_, hm.trans h.most, h.now, h.aCD, hn.trans h.nx, ?_, fun z hz => h.qr z (hold z hz), fun z hz => ?_, fun z hz => ?_, fun r x hx => ?_, fun z hz => ?_, fun b g v hv => ?_, ?_, fun z hz => h.sl z (hold z hz)⟩
 ·show (Y.P.fZ z5 kj).pl = d.bT.fZ kj
  rw [PS.aCg _ _ (List.getElem?_eq_some_iff.1 kj2).1, h.pk]
 ·show S'.ip.pl = d.bT.fZ kj
  rw [hip, h.ipk, hkj]
 ·show (IA ++ IB).map ik = (A ++ B).map (jk y0' y1')
  rw [aA3 h0 h1, List.map_append, List.map_append, hA, hB]
 ·exact PS.vX z5 kj2 _ _ _ (hat z hz) (h.jf z (hold z hz))
 ·show fT Y.nS _ _ z.r = some z.r
  unfold fT
  rw [if_neg (eE z hz)]; exact h.jb z (hold z hz)
 ·have hx' : fT Y.nS _ _ r = some x := hx
  unfold fT at hx'
  split at hx'
  ·cases hx'
  ·rename_i e
   obtain ⟨z, hz, e2⟩ := h.jb2 r x hx'
   rcases hcas z hz with rfl | hz
   ·exact absurd e2.symm e
   ·exact ⟨z, hz, e2⟩
 ·show fT Y.wh _ _ z.r = some z.ser
  unfold fT
  rw [if_neg (eE z hz)]; exact h.jw z (hold z hz)
 ·obtain ⟨hb, hv⟩ := PS.aBc kj2 hv
  obtain ⟨z, hz, e1, e2⟩ := h.lv b g v hv
  rcases hcas z hz with rfl | hz
  ·exact absurd (e1.symm.trans kj1) hb
  ·exact ⟨z, hz, e1, e2⟩
 ·have := h.sn
  rw [hd, List.map_append, List.map_cons] at this
  rw [List.map_append]
  exact (kO this).1
theorem dH.aKg (h : dH Y d tm) {A B : List Jb} {j : Jb} (hd : d.l = A ++ j :: B) {IA IB : List mY} {x : mY} {t : Int} (hI : Y.I = IA ++ x :: IB) (hx1 : x.r = j.r) (hx2 : x.h = yX Y.y0 Y.y1 j.queue) (hx3 : x.e = j.e) (hA : IA.map ik = A.map (jk Y.y0 Y.y1)) (hB : IB.map ik = B.map (jk Y.y0 Y.y1)) {S' : QS} {y0' y1' : Hv}
  (hS : dR S' (IA ++ { x with e := (t, x.e.2) } :: IB) [y0', y1'] tm) (h0 : y0'.h = Y.y0.h) (h1 : y1'.h = Y.y1.h) (k0 : y0'.k = Y.y0.k) (k1 : y1'.k = Y.y1.k) (hm : S'.most = Y.S.most) (hn : S'.next = Y.S.next) (hip : S'.ip = Y.S.ip) :
  dH ⟨Y.K, S', IA ++ { x with e := (t, x.e.2) } :: IB, y0', y1', Y.P.put j.at_.toNat (j.queue, t, j.data, j.at_, j.gen), Y.nS, Y.wh, Y.now, Y.gI, Y.last, Y.top⟩ { d with l := d.l.set A.length { j with key := t } } tm := by
 have hset : d.l.set A.length { j with key := t } = A ++ { j with key := t } :: B := by
  rw [hd, List.set_append_right _ _ (Nat.le_refl _), Nat.sub_self]; rfl
 have hjM : j ∈ d.l := by rw [hd]; simp
 have hold : ∀ z ∈ A ++ B, z ∈ d.l := fun z hz => by rw [hd]; rcases List.mem_append.1 hz with h | h <;> simp [h]
 have hrn := h.rnd
 rw [hd, List.map_append, List.map_cons] at hrn
 obtain ⟨n1, n2, n3⟩ := kO hrn
 have eE : ∀ z ∈ A ++ B, z.r ≠ j.r := fun z hz e => by
  rcases List.mem_append.1 hz with h | h
  ·exact n2 (List.mem_map.2 ⟨z, h, e⟩)
  ·exact n3 (List.mem_map.2 ⟨z, h, e⟩)
 obtain ⟨kj, kj1, kj2, kj3⟩ := PS.bH (h.jf j hjM)
 have hkj : j.at_.toNat = kj := by rw [kj1, Int.toNat_natCast]
 have hat : ∀ z ∈ A ++ B, z.at_ ≠ j.at_ := fun z hz e => by
  obtain ⟨kz, kz1, kz2, kz3⟩ := PS.bH (h.jf z (hold z hz))
  have : kz = kj := by omega
  subst this
  rw [kz2] at kj2
  have hg : z.gen = j.gen := by injection kj2 with kj2; injection kj2
  exact eE z hz (Prod.ext e hg)
 have hcas : ∀ z ∈ A ++ { j with key := t } :: B, z = { j with key := t } ∨ z ∈ A ++ B := fun z hz => by
  rcases List.mem_append.1 hz with hz | hz
  ·exact .inr (List.mem_append_left _ hz)
  ·rcases List.mem_cons.1 hz with hz | hz
   ·exact .inl hz
   ·exact .inr (List.mem_append_right _ hz)
 have hcas2 : ∀ z ∈ d.l, z = j ∨ z ∈ A ++ B := fun z hz => by
  rw [hd] at hz
  rcases List.mem_append.1 hz with hz | hz
  ·exact .inr (List.mem_append_left _ hz)
  ·rcases List.mem_cons.1 hz with hz | hz
   ·exact .inl hz
   ·exact .inr (List.mem_append_right _ hz)
 have hin : ∀ z ∈ A ++ B, z ∈ A ++ { j with key := t } :: B := fun z hz => by rcases List.mem_append.1 hz with h | h <;> simp [h]
 obtain ⟨p1, p2⟩ := PS.aAO (j.queue, t, j.data, j.at_, j.gen) (h.jf j hjM)
 rw [hset]
 refine ⟨hS, h.K3, k0.trans h.k0, k1.trans h.k1, (PS.aJP _ _ _).trans h.pk, by rw [hip]; exact h.ipk, hm.trans h.most, h.now, h.aCD, hn.trans h.nx, ?_, fun z hz => ?_, fun z hz => ?_, fun z hz => ?_, fun r x hx => ?_, fun z hz => ?_, fun b g v hv => ?_, ?_, fun z hz => ?_⟩
 ·show (IA ++ { x with e := (t, x.e.2) } :: IB).map ik = (A ++ { j with key := t } :: B).map (jk y0' y1')
  rw [aA3 h0 h1, List.map_append, List.map_append, List.map_cons, List.map_cons, hA, hB]
  congr 2
  show (x.r, x.h, (t, x.e.2)) = (j.r, yX Y.y0 Y.y1 j.queue, (t, j.ser))
  rw [hx1, hx2, hx3]; rfl
 ·rcases hcas z hz with rfl | hz
  ·exact h.qr j hjM
  ·exact h.qr z (hold z hz)
 ·rcases hcas z hz with rfl | hz
  ·exact p1
  ·exact p2 _ _ _ (hat z hz) (h.jf z (hold z hz))
 ·rcases hcas z hz with rfl | hz
  ·exact h.jb j hjM
  ·exact h.jb z (hold z hz)
 ·obtain ⟨z, hz, e2⟩ := h.jb2 r x hx
  rcases hcas2 z hz with rfl | hz
  ·exact ⟨_, List.mem_append_right _ List.mem_cons_self, e2⟩
  ·exact ⟨z, hin z hz, e2⟩
 ·rcases hcas z hz with rfl | hz
  ·exact h.jw j hjM
  ·exact h.jw z (hold z hz)
 ·obtain ⟨w', hv⟩ := PS.aB4 (by rw [hkj]; exact kj2) hv
  obtain ⟨z, hz, e2⟩ := h.lv b g w' hv
  rcases hcas2 z hz with rfl | hz
  ·exact ⟨_, List.mem_append_right _ List.mem_cons_self, e2⟩
  ·exact ⟨z, hin z hz, e2⟩
 ·have := h.sn
  rw [hd] at this
  simp only [List.map_append, List.map_cons] at this ⊢
  exact this
 ·rcases hcas z hz with rfl | hz
  ·exact h.sl j hjM
  ·exact h.sl z (hold z hz)
theorem dH.go (h : dH Y d tm) {n : Int} (hn : fR n) : dH { Y with now := n } { d with now := n } tm :=
 ⟨h.q, h.K3, h.k0, h.k1, h.pk, h.ipk, h.most, rfl, hn, h.nx, h.par, h.qr, h.jf, h.jb, h.jb2, h.jw, h.lv, h.sn, h.sl⟩
theorem dH.uU (h : dH Y d tm) {tm' : Int} (ht : tm ≤ tm') : dH Y d tm' :=
 ⟨h.q.uU ht, h.K3, h.k0, h.k1, h.pk, h.ipk, h.most, h.now, h.aCD, h.nx, h.par, h.qr, h.jf, h.jb, h.jb2, h.jw, h.lv, h.sn, h.sl⟩
end
end HL
namespace HL
theorem aI3 {β : Type} [DecidableEq β] {a b : List β} (ha : a.Nodup) (hb : b.Nodup) (h : ∀ x, x ∈ a ↔ x ∈ b) : a.Perm b := by
 rw [List.perm_iff_count]
 intro x
 rw [ha.count, hb.count]
 by_cases hx : x ∈ a
 ·rw [if_pos hx, if_pos ((h x).1 hx)]
 ·rw [if_neg hx, if_neg fun hb => hx ((h x).2 hb)]
theorem aDo {l : List Jb} {q : Int} (h : pD l q = none) : ∀ j ∈ l, j.queue ≠ q := (zQ h).2
section
variable {Y : DSt} {d : rN} {tm : Int}
theorem dH.aDu (h : dH Y d tm) {j : Jb} (hj : j ∈ d.l) : (j.at_, j.gen) ∈ Y.P.refs := by
 obtain ⟨k, q1, q2, q3⟩ := PS.bH (h.jf j hj)
 refine qL.2 ⟨k, _, q2, rfl, ?_⟩
 simp [q1]
theorem dH.aKU (h : dH Y d tm) : Y.P.refs.Perm (d.l.map Jb.r) := by
 refine aI3 ?_ h.rnd fun r => ⟨fun hr => ?_, fun hr => ?_⟩
 ·exact (yC Y.P.l 0).imp fun hlt e => by rw [e] at hlt; omega
 ·obtain ⟨v, hv⟩ := xE h.pg1 hr
  obtain ⟨j, hj, e1, e2⟩ := h.lv _ _ _ hv
  exact List.mem_map.2 ⟨j, hj, Prod.ext e1 e2⟩
 ·obtain ⟨j, hj, rfl⟩ := List.mem_map.1 hr
  exact h.aDu hj
theorem dH.cnt (h : dH Y d tm) (q : Int) : zY Y.P q Y.P.refs = jA q d.l := by
 unfold zY jA
 rw [h.aKU.countP_eq, List.countP_map]
 refine List.countP_congr fun j hj => ?_
 have : qOf Y.P j.r = j.queue := by
  unfold qOf
  rw [show Y.P.find j.r.1 j.r.2 = some j.v5 from h.jf j hj]; rfl
 simp [this]
theorem dH.aDZ (h : dH Y d tm) {q : Int} (hq : q = 0 ∨ q = 1) (hf : pD d.l q = none) : dX Y.I (yX Y.y0 Y.y1 q) = [] := by
 unfold dX
 rw [List.map_eq_nil_iff, List.filter_eq_nil_iff]
 intro x hx e
 obtain ⟨j, hj, _, e2, _⟩ := h.aEJ hx
 have e3 : x.h = yX Y.y0 Y.y1 q := by simpa using e
 exact aDo hf j hj (aFd h (h.qr j hj) hq (e2.symm.trans e3))
theorem dH.first (h : dH Y d tm) {q : Int} (hq : q = 0 ∨ q = 1) {x : Nat × cW} (hf : pD d.l q = some x) : ∃ j A B, d.l = A ++ j :: B ∧ A.length = x.1 ∧ j.queue = q ∧ x.2 = j.e ∧ dX Y.I (yX Y.y0 Y.y1 q) ≠ [] ∧
  ∀ z ∈ Y.I, z.h = yX Y.y0 Y.y1 q → (∀ w ∈ Y.I, w.h = yX Y.y0 Y.y1 q → w.c ≠ z.c → Bf z.held w.held) → z.r = j.r ∧ z.e = j.e := by
 obtain ⟨j, hj, hjq, hje, hleast⟩ := zL hf
 obtain ⟨A, B, hd, hA⟩ := aG0 hj
 obtain ⟨IA, w, IB, hI, _, hw1, hw2, hw3, _⟩ := h.split hd
 have hwI : w ∈ Y.I := by rw [hI]; simp
 rw [hjq] at hw2
 refine ⟨j, A, B, hd, hA, hjq, hje, fun e => ?_, fun z hz hzh hz2 => ?_⟩
 ·have : w.held ∈ dX Y.I (yX Y.y0 Y.y1 q) := qJ.2 ⟨w, hwI, hw2, rfl⟩
  rw [e] at this; cases this
 ·by_cases hc : w.c = z.c
  ·have : w = z := xH h.q.icd w hwI z hz hc
   rw [← this]
   exact ⟨hw1, hw3⟩
  ·obtain ⟨jz, hjz, e1, e2, e3⟩ := h.aEJ hz
   have hqz : jz.queue = q := aFd h (h.qr jz hjz) hq (e2.symm.trans hzh)
   rcases hz2 w hwI hw2 hc with hlt | ⟨he, _⟩
   ·have hlt' : Lt z.e w.e := hlt
    rw [e3, hw3] at hlt'
    exact absurd hlt' (hleast jz hjz hqz)
   ·have he' : z.e = w.e := he
    rw [e3, hw3] at he'
    have hser : jz.ser = j.ser := congrArg Prod.snd he'
    have : jz = j := xH h.sn jz hjz j (by rw [hd]; simp) hser
    rw [e1, e3, this]; exact ⟨rfl, rfl⟩
def mvJ (j : Jb) : Jb := if j.queue = 1 then { j with queue := 0 } else j
theorem uS (j : Jb) : (mvJ j).r = j.r ∧ (mvJ j).e = j.e ∧ (mvJ j).ser = j.ser ∧ (mvJ j).at_ = j.at_ ∧ (mvJ j).gen = j.gen := by
 unfold mvJ; split <;> exact ⟨rfl, rfl, rfl, rfl, rfl⟩
theorem dH.merge (h : dH Y d tm) {S2 : QS} {y0' y1' : Hv} (hS : dR S2 (Y.I.map (uN Y.y1.h Y.y0.h)) [y0', y1'] (tm + 1)) (h0 : y0'.h = Y.y0.h) (k0 : y0'.k = Y.y0.k) (k1 : y1'.k = Y.y1.k) (hm : S2.most = Y.S.most) (hn : S2.next = Y.S.next) (hip : S2.ip.pl = Y.S.ip.pl) :
  dH ⟨Y.K, S2, Y.I.map (uN Y.y1.h Y.y0.h), y0', y1', xQ Y.P Y.P.refs 1 0, Y.nS, Y.wh, Y.now, Y.gI, Y.last, Y.top⟩ { d with l := d.l.map fun j => if j.queue = 1 then { j with queue := 0 } else j } (tm + 1) := by
 have hmv : (d.l.map fun j => if j.queue = 1 then { j with queue := 0 } else j) = d.l.map mvJ := rfl
 rw [hmv]
 have eE := h.eE
 refine ⟨hS, h.K3, k0.trans h.k0, k1.trans h.k1, (aKH _ _ _ _).trans h.pk, hip.trans h.ipk, hm.trans h.most, h.now, h.aCD, hn.trans h.nx, ?_, fun z hz => ?_, fun z hz => ?_, fun z hz => ?_, fun r x hx => ?_, fun z hz => ?_, fun b g v hv => ?_, ?_, fun z hz => ?_⟩
 ·show (Y.I.map (uN Y.y1.h Y.y0.h)).map ik = (d.l.map mvJ).map (jk y0' y1')
  have hp := congrArg (List.map fun x : dG × dG × cW => (x.1, (if x.2.1 = Y.y1.h then Y.y0.h else x.2.1), x.2.2)) h.par
  rw [List.map_map, List.map_map] at hp ⊢
  refine Eq.trans ?_ (hp.trans ?_)
  ·refine List.map_congr_left fun x _ => ?_
   show ik (uN Y.y1.h Y.y0.h x) = (x.r, (if x.h = Y.y1.h then Y.y0.h else x.h), x.e)
   unfold ik uN
   split <;> rfl
  ·refine List.map_congr_left fun j hj => ?_
   show (j.r, (if yX Y.y0 Y.y1 j.queue = Y.y1.h then Y.y0.h else yX Y.y0 Y.y1 j.queue), j.e) = ((mvJ j).r, yX y0' y1' (mvJ j).queue, (mvJ j).e)
   rw [(uS j).1, (uS j).2.1]
   rcases h.qr j hj with e | e
   ·have : (mvJ j).queue = 0 := by unfold mvJ; rw [if_neg (by omega)]; exact e
    rw [this, e]
    unfold yX
    rw [if_pos rfl, if_pos rfl, if_neg eE, h0]
   ·have : (mvJ j).queue = 0 := by unfold mvJ; rw [if_pos e]
    rw [this, e]
    simp [yX, h0]
 ·obtain ⟨j, hj, rfl⟩ := List.mem_map.1 hz
  unfold mvJ
  split
  ·exact .inl rfl
  ·exact h.qr j hj
 ·obtain ⟨j, hj, rfl⟩ := List.mem_map.1 hz
  rw [(uS j).2.2.2.1, (uS j).2.2.2.2]
  show (xQ _ _ _ _).find _ _ = _
  rw [aA9 (h.jf j hj)]
  unfold mvJ
  by_cases e : j.queue = 1
  ·rw [if_pos ⟨h.aDu hj, e⟩, if_pos e]; rfl
  ·rw [if_neg (fun hh => e hh.2), if_neg e]
 ·obtain ⟨j, hj, rfl⟩ := List.mem_map.1 hz
  rw [(uS j).1]; exact h.jb j hj
 ·obtain ⟨j, hj, e⟩ := h.jb2 r x hx
  exact ⟨_, List.mem_map.2 ⟨j, hj, rfl⟩, by rw [(uS j).1]; exact e⟩
 ·obtain ⟨j, hj, rfl⟩ := List.mem_map.1 hz
  rw [(uS j).1, (uS j).2.2.1]; exact h.jw j hj
 ·obtain ⟨w', hv⟩ := aCs hv
  obtain ⟨j, hj, e1, e2⟩ := h.lv b g w' hv
  exact ⟨_, List.mem_map.2 ⟨j, hj, rfl⟩, by rw [(uS j).2.2.2.1]; exact e1, by rw [(uS j).2.2.2.2]; exact e2⟩
 ·have := h.sn
  rw [List.map_map]
  have e : (Jb.ser ∘ mvJ) = Jb.ser := funext fun j => (uS j).2.2.1
  show (d.l.map (Jb.ser ∘ mvJ)).Nodup
  rw [e]; exact this
 ·obtain ⟨j, hj, rfl⟩ := List.mem_map.1 hz
  rw [(uS j).2.2.1]; exact h.sl j hj
end
end HL
namespace HL
section
variable {w0 : World} {F M : Mem}
theorem aA.yG {X A B C D E G H Q : cY} (h : aA w0 F M (star X (star A (star B (star C (star D (star E (star G (star H Q))))))))) : aA w0 F M (star A (star B (star C (star D (star E (star G (star H (star X Q)))))))) :=
 h.dT.oG fun _ _ h => h.dT.oG fun _ _ h => h.dT.oG fun _ _ h => h.dT.oG fun _ _ h => h.dT.oG fun _ _ h => h.dT.oG fun _ _ h => h.dT
theorem aA.wD {X A B C D E G H Q : cY} (h : aA w0 F M (star A (star B (star C (star D (star E (star G (star H (star X Q))))))))) : aA w0 F M (star X (star A (star B (star C (star D (star E (star G (star H Q)))))))) :=
 (h.oG fun _ _ h => (h.oG fun _ _ h => (h.oG fun _ _ h => (h.oG fun _ _ h => (h.oG fun _ _ h => (h.oG fun _ _ h => h.dT).dT).dT).dT).dT).dT).dT
end
abbrev tDi : TypeId := 125
abbrev aCc : TypeId := 202
structure wO where
 d : Nat
 q : Nat
 a : Nat
 t : Nat
 bh : Nat
 bi : Nat
 me : Nat
 ma : Nat
 jt : Nat
 pj : Nat
 mb : Nat
 mw : Nat
 bc : Nat
abbrev dV (X : wO) (K most : Int) (r0 r1 : dG) (b l tp : Int) : List Value :=
 [.int .i64 K, .int .i64 most, .pointer (some ⟨X.q, 0, none⟩), .int .i64 r0.1, .int .i64 r0.2, .int .i64 r1.1, .int .i64 r1.2, .pointer (some ⟨X.jt, 0, none⟩), .map (some X.mw), .pointer (some ⟨X.bc, 0, none⟩), .int .i64 b, .int .i64 l, .int .i64 tp]
abbrev DB (X : wO) (S : QS) (P : PS V5) (now K most : Int) (r0 r1 : dG) (b l tp : Int) (Q : cY) : cY :=
 QA X.q X.a X.t X.bh X.bi X.me S (star (oY X.pj P) (star (aY X.bc [.int .i64 now] aCc) (star (aY X.d (dV X K most r0 r1 b l tp) tDi) Q)))
abbrev DO (X : wO) (oa oe ob ow : Obj) (os : uX) : uX := (X.ma, oa) :: (X.me, oe) :: (X.mb, ob) :: (X.mw, ow) :: os
def lQ (w0 : World) (F M : Mem) (os : uX) (X : wO) (Y : DSt) (Q : cY) : Prop :=
 ∃ oa oe ob ow, dF (Value.int .i64) bX Y.S.at_ oa ∧ dF bX mJ Y.S.en oe ∧ dF bX bX Y.nS ob ∧ dF bX (Value.int .i64) Y.wh ow ∧ HO w0 F M (DO X oa oe ob ow os) (DB X Y.S Y.P Y.now Y.K Y.S.most Y.y0.h Y.y1.h Y.gI Y.last Y.top Q)
structure xK (w0 : World) (F : Mem) (X : wO) : Prop where
 t : cM w0 F X.t (wS X.bh X.bi X.ma) wN
 j : cM w0 F X.jt (jtV X.pj X.mb) tJt
theorem xK.le {w0 : World} {F F' : Mem} {X : wO} (h : xK w0 F X) (hl : Mem.le F F') : xK w0 F' X := ⟨h.t.le hl, h.j.le hl⟩
section
variable {w0 : World} {F M : Mem} {R : VP} {os : uX} {X : wO} {Y : DSt} {S : QS} {P : PS V5} {Q : cY} {now K most b l tp : Int} {r0 r1 : dG} {oa oe ob ow : Obj} {d : rN} {tm : Int} {c : tK}
theorem HO.di (h : HO w0 F M os (DB X S P now K most r0 r1 b l tp Q)) : cM w0 M X.d (dV X K most r0 r1 b l tp) tDi := h.h.right.right.right.right.right.right.bA
theorem HO.ck (h : HO w0 F M os (DB X S P now K most r0 r1 b l tp Q)) : cM w0 M X.bc [.int .i64 now] aCc := h.h.right.right.right.right.right.bA
theorem D0 (o : cM w0 M X.d (dV X K most r0 r1 b l tp) tDi) : (aH PP w0).ld 3 ⟨X.d, 0, none⟩ M = some (.int .i64 K) := lR W.c3 o rfl
theorem D1 (o : cM w0 M X.d (dV X K most r0 r1 b l tp) tDi) : (aH PP w0).ld 3 ⟨X.d, 1, none⟩ M = some (.int .i64 most) := lR W.c3 o rfl
theorem D2 (o : cM w0 M X.d (dV X K most r0 r1 b l tp) tDi) : (aH PP w0).ld 24 ⟨X.d, 2, none⟩ M = some (.pointer (some ⟨X.q, 0, none⟩)) := lR (by kernel_rfl) o rfl
theorem D7 (o : cM w0 M X.d (dV X K most r0 r1 b l tp) tDi) : (aH PP w0).ld 121 ⟨X.d, 7, none⟩ M = some (.pointer (some ⟨X.jt, 0, none⟩)) := lR (by kernel_rfl) o rfl
theorem D8 (o : cM w0 M X.d (dV X K most r0 r1 b l tp) tDi) : (aH PP w0).ld 122 ⟨X.d, 8, none⟩ M = some (.map (some X.mw)) := lR (by kernel_rfl) o rfl
theorem D9 (o : cM w0 M X.d (dV X K most r0 r1 b l tp) tDi) : (aH PP w0).ld 123 ⟨X.d, 9, none⟩ M = some (.pointer (some ⟨X.bc, 0, none⟩)) := lR (by kernel_rfl) o rfl
theorem D3 (o : cM w0 M X.d (dV X K most r0 r1 b l tp) tDi) : (aH PP w0).ld 33 ⟨X.d, 3, none⟩ M = some (.agg #[.int .i64 r0.1, .int .i64 r0.2]) := kE (o := 3) (vs := [.int .i64 r0.1, .int .i64 r0.2]) aZ o (qE rfl rfl)
theorem D5 (o : cM w0 M X.d (dV X K most r0 r1 b l tp) tDi) : (aH PP w0).ld 33 ⟨X.d, 5, none⟩ M = some (.agg #[.int .i64 r1.1, .int .i64 r1.2]) := kE (o := 5) (vs := [.int .i64 r1.1, .int .i64 r1.2]) aZ o (qE rfl rfl)
theorem D35 {y0 y1 : Hv} {q : Int} (hq : q = 0 ∨ q = 1) (o : cM w0 M X.d (dV X K most y0.h y1.h b l tp) tDi) : (aH PP w0).ld 33 ⟨X.d, 3 + q.toNat * 2, none⟩ M = some (.agg #[.int .i64 (yX y0 y1 q).1, .int .i64 (yX y0 y1 q).2]) := by
 rcases hq with rfl | rfl
 ·exact D3 o
 ·exact D5 o
theorem lD : gM PP iI 6 = true := W.g65
theorem hU (r : eZ) : ∀ v ∈ r.cells, bQ v = true := by
 intro v hv
 simp only [eZ.cells, List.mem_cons, List.not_mem_nil, or_false] at hv
 rcases hv with rfl | rfl | rfl | rfl | rfl | rfl <;> rfl
theorem aEz {α : Type} (x y a : α) (l : List α) : (x :: y :: a :: l).Perm (a :: x :: y :: l) := List.perm_middle (l₁ := [x, y])
theorem aE7 {α : Type} (x y z a : α) (l : List α) : (x :: y :: z :: a :: l).Perm (a :: x :: y :: z :: l) := List.perm_middle (l₁ := [x, y, z])
theorem HO.toJ (h : HO w0 F M (DO X oa oe ob ow os) (DB X S P now K most r0 r1 b l tp Q)) : HO w0 F M ((X.mb, ob) :: (X.ma, oa) :: (X.me, oe) :: (X.mw, ow) :: os) (star (oY X.pj P) (QA X.q X.a X.t X.bh X.bi X.me S (star (aY X.bc [.int .i64 now] aCc) (star (aY X.d (dV X K most r0 r1 b l tp) tDi) Q)))) :=
 (h.perm (aEz _ _ _ _)).aW aA.up
theorem HO.ofJ (h : HO w0 F M ((X.mb, ob) :: (X.ma, oa) :: (X.me, oe) :: (X.mw, ow) :: os) (star (oY X.pj P) (QA X.q X.a X.t X.bh X.bi X.me S (star (aY X.bc [.int .i64 now] aCc) (star (aY X.d (dV X K most r0 r1 b l tp) tDi) Q))))) : HO w0 F M (DO X oa oe ob ow os) (DB X S P now K most r0 r1 b l tp Q) :=
 (h.aW aA.dp).perm (aEz _ _ _ _).symm
theorem aB8 {A : cY} {v : V5} (h : HO w0 F M os A) (hK : ∀ M', HO w0 F M' os A → R (eZ.v { time := v.2.1, data := v.2.2.1 }) M') : C PP w0 Id.fM #[oX v] R M := by
 obtain ⟨v1, v2, v3, v4, v5⟩ := v
 apply fM.go
 unfold fM.T aJ
 refine rQ h fun b1 F1 M1 l1 lm1 o1 h1 => ?_
 refine jI h1 fun b3 M2 lm2 h2 => ?_
 simp only [add_eq, Nat.zero_add, lR W.c2 (o1.le h2.fr) (o := 1) rfl, lR W.c3 (o1.le h2.fr) (o := 2) rfl, aC, aL, aKB, a9, aU, aT]
 refine jJ (vs := (eZ.mk 0 0 0 v2 v3 0).cells) lD (by rfl) (hU _) h2 fun M3 h3 => ?_
 exact hK M3 (h3.fJ l1)
theorem pF {A : cY} {why : Int} (h : HO w0 F M os A) (hK : ∀ M', HO w0 F M' os A → R (eZ.v { why := why }) M') : C PP w0 Id.cB #[.int .i64 why] R M := by
 apply cB.go
 unfold cB.T aJ
 refine jI h fun b1 M1 lm1 h1 => ?_
 simp only [bR0, aC, aL, a9, aU, aT]
 refine jJ (vs := (eZ.mk why 0 0 0 0 0).cells) lD (by rfl) (hU _) h1 fun M2 h2 => ?_
 exact hK M2 h2
theorem pick {y0 y1 : Hv} {q : Int} (hq : q = 0 ∨ q = 1) : ∃ A y B, [y0, y1] = A ++ y :: B ∧ y.h = yX y0 y1 q ∧ ∀ y' : Hv, y'.h = y.h → y'.k = y.k → ∃ y0' y1', A ++ y' :: B = [y0', y1'] ∧ y0'.h = y0.h ∧ y1'.h = y1.h ∧ y0'.k = y0.k ∧ y1'.k = y1.k := by
 rcases hq with rfl | rfl
 ·exact ⟨[], y0, [y1], rfl, rfl, fun y' e1 e2 => ⟨y', y1, rfl, e1, rfl, e2, rfl⟩⟩
 ·exact ⟨[y0], y1, [], rfl, rfl, fun y' e1 e2 => ⟨y0, y', rfl, rfl, e1, rfl, e2⟩⟩
structure rY (Y Y' : DSt) (k : Int) : Prop where
 b : Y'.gI = Y.gI
 l : Y'.last = Y.last
 t : Y'.top = Y.top
 s : rJ Y.S Y'.S k
theorem dH.room (h : dH Y d tm) : (d.bT.at_ = none ↔ d.most ≤ (d.l.length : Int)) ∧ ∀ i, d.bT.at_ = some i → Y.P.at_ = some i ∧ Y.S.ip.at_ = some i ∧ Y.P.gen i = d.bT.gen i ∧ Y.S.ip.gen i = d.bT.gen i := by
 obtain ⟨e1, e2, e3, e4, e5⟩ := h.wT
 have ha : d.bT.at_ = Y.P.at_ := by rw [← h.pk, PS.aGP]
 have hb : d.bT.at_ = Y.S.ip.at_ := by rw [← h.ipk, PS.aGP]
 refine ⟨?_, fun i hi => ⟨ha.symm.trans hi, hb.symm.trans hi, ?_, ?_⟩⟩
 ·rw [ha]
  unfold PS.at_
  cases hl : Y.P.free.getLast? with
  | some a =>
   have : Y.P.free ≠ [] := fun e => by rw [e] at hl; cases hl
   have := List.length_pos_iff.2 this
   simp only [reduceCtorEq, false_iff]
   omega
  | none =>
   have hf : Y.P.free = [] := List.getLast?_eq_none_iff.1 hl
   rw [hf] at e1
   simp only [List.length_nil] at e1
   simp only
   split
   ·simp only [true_iff]; omega
   ·simp only [reduceCtorEq, false_iff]; omega
 ·rw [← h.pk]; exact (PS.aCl _ (ha.symm.trans hi) h.pok.lt).1.symm
 ·rw [← h.ipk]; exact (PS.aCl _ (hb.symm.trans hi) h.q.io.lt).1.symm
theorem aBG {c : tK} (hq : c.queue = 0 ∨ c.queue = 1) : ¬ qI c := by
 rintro ⟨_, h⟩; omega
theorem aBJ {k : Int} {h : dG} {t : Int} : (aH PP w0).nM aAh [(0, .int .i64 k), (2, .agg #[.int .i64 h.1, .int .i64 h.2]), (5, .int .i64 t)] = some (.agg (m8 k 0 h.1 h.2 0 0 0 0 t).toArray) := by kernel_rfl
theorem rY.qD {k : Int} (hk : 0 ≤ k) : rY Y Y k := ⟨rfl, rfl, rfl, fun h0 => by omega⟩
theorem lQ.of {Y' : DSt} (hfa : dF (Value.int .i64) bX Y'.S.at_ oa) (hfe : dF bX mJ Y'.S.en oe) (hfb : dF bX bX Y'.nS ob) (hfw : dF bX (Value.int .i64) Y'.wh ow) (h : HO w0 F M (DO X oa oe ob ow os) (DB X Y'.S Y'.P Y'.now Y'.K most r0 r1 Y'.gI Y'.last Y'.top Q)) (em : Y'.S.most = most) (e0 : Y'.y0.h = r0) (e1 : Y'.y1.h = r1) : lQ w0 F M os X Y' Q := by
 subst em e0 e1
 exact ⟨oa, oe, ob, ow, hfa, hfe, hfb, hfw, h⟩
theorem dH.fresh (h : dH Y d tm) {i : Nat} (hat : d.bT.at_ = some i) : Y.nS ((i : Int), d.bT.gen i) = none := by
 cases e : Y.nS ((i : Int), d.bT.gen i) with
 | none => rfl
 | some x =>
  obtain ⟨j, hj, hr⟩ := h.jb2 _ _ e
  have h1 := h.jf j hj
  have e1 : j.at_ = (i : Int) := congrArg Prod.fst hr
  rw [e1, h.pok.aCP (h.room.2 i hat).1] at h1; cases h1
theorem aCR (hX : xK w0 F X) (hD : lQ w0 F M os X Y Q) (hv : dH Y d tm) (htm : tm ≤ 900000) (hk : c.kind = 1) (hq : c.queue = 0 ∨ c.queue = 1)
  (hK : ∀ M' Y', lQ w0 F M' os X Y' Q → dH Y' (fC d c).1 (tm + 1) → rY Y Y' (3 + dJ (d.l.length + 1)) → R (fC d c).2.v M') :
  C PP w0 Id.gW #[.pointer (some ⟨X.d, 0, none⟩), c.v] R M := by
 obtain ⟨oa, oe, ob, ow, hfa, hfe, hfb, hfw, h⟩ := hD
 obtain ⟨ck, cq, ca, cg, ct, cd⟩ := c
 simp only at hk hq
 subst hk
 apply gW.go
 unfold gW.T aJ
 refine rQ h fun b1 F1 M1 l1 lm1 o1 h1 => ?_
 have hX1 := hX.le l1
 refine jI h1 fun b3 M2 lm2 h2' => ?_
 have h2 := h2'.aW aA.yG
 obtain ⟨e1, e2, e3, e4, e5⟩ := hv.wT
 simp (config := { maxSteps := 10000000 }) only [aX, add_eq, Nat.zero_add, D7 h2.di, D1 h2.di, aC, bK, aL]
 refine aER hX1.j h2.toJ (by omega) (by omega) ?_
 rw [aL]
 refine ⟨D1 h2.di, ?_⟩
 rw [eO]
 rw [aAH (aBG hq) rfl] at hK
 obtain ⟨r1, r2⟩ := hv.room
 have hnl : (Y.P.l.length - Y.P.free.length : Nat) = d.l.length := by omega
 have hmo := hv.most
 cases hat : d.bT.at_ with
 | none =>
  rw [hat] at hK
  rw [if_pos (by have := r1.1 hat; omega)]
  refine pF h2 fun M3 h3 => ?_
  simp only [eZ.v, a9, aU, aL, aT]
  refine jJ (vs := (eZ.mk 13 0 0 0 0 0).cells) lD (by rfl) (hU _) (h3.aW aA.wD) fun M4 h4 => ?_
  exact hK M4 Y ⟨oa, oe, ob, ow, hfa, hfe, hfb, hfw, h4.fJ l1⟩ (hv.uU (by omega)) (rY.qD (by unfold dJ; omega))
 | some i =>
  rw [hat] at hK
  have hlen : (d.l.length : Int) < d.most := by
   by_cases hh : d.most ≤ (d.l.length : Int)
   ·have := r1.2 hh; rw [hat] at this; cases this
   ·omega
  rw [if_neg (by omega)]
  obtain ⟨hP1, hP2, hP3, hP4⟩ := r2 i hat
  have hc1 : ∀ {M' : Mem} {e : TypeId}, cM w0 M' b1 [.int .i64 1, .int .i64 cq, .int .i64 ca, .int .i64 cg, .int .i64 ct, .int .i64 cd] e → (aH PP w0).ld 3 ⟨b1, 1, none⟩ M' = some (.int .i64 cq) := fun o => lR W.c3 o rfl
  have hc4 : ∀ {M' : Mem} {e : TypeId}, cM w0 M' b1 [.int .i64 1, .int .i64 cq, .int .i64 ca, .int .i64 cg, .int .i64 ct, .int .i64 cd] e → (aH PP w0).ld 2 ⟨b1, 4, none⟩ M' = some (.int .i64 ct) := fun o => lR W.c2 o rfl
  have hc5 : ∀ {M' : Mem} {e : TypeId}, cM w0 M' b1 [.int .i64 1, .int .i64 cq, .int .i64 ca, .int .i64 cg, .int .i64 ct, .int .i64 cd] e → (aH PP w0).ld 3 ⟨b1, 5, none⟩ M' = some (.int .i64 cd) := fun o => lR W.c3 o rfl
  simp only [D2 h2.di, hc1 (o1.le h2.fr), aC, bK, aL]
  refine ⟨⟨by omega, by omega⟩, ?_⟩
  simp only [D35 hq h2.di, hc4 (o1.le h2.fr), aC, aL, a9, aU, aT, aBJ]
  obtain ⟨A, y, B, hAB, hyh, hrep⟩ := pick (y0 := Y.y0) (y1 := Y.y1) hq
  have hvq := hv.q
  rw [hAB] at hvq
  have hIl := hv.len
  rw [← hyh]
  refine ⟨?_, ?_⟩
  rotate_left
  refine jI h2 fun b4 M3 lm3 h3 => ?_
  have o3 := (h3.aW fun h => h.right).di
  refine ⟨D2 o3, hc1 (o1.le h3.fr), (by rw [hyh]; exact D35 hq o3), hc4 (o1.le h3.fr), ?_⟩
  refine tL hX1.t hvq htm (by omega) hfa hfe (h3.aW aA.yG) fun M4 S' oa' oe' i' y' hat' hfa' hfe' h4' ey1 ey2 hv' em en eip hst => ?_
  obtain rfl : i' = i := by rw [hP2] at hat'; cases hat'; rfl
  have h4 := h4'.aW aA.wD
  simp only [a9, aU, aL, aT]
  refine vY (vs := kX 0 0 0 i' (Y.S.ip.gen i') ct Y.S.next 0) pX (by rfl) dS h4 fun F5 M5 l5 o5 h5 => ?_
  rotate_left
  refine tL hX1.t hvq htm (by omega) hfa hfe h2 fun M4 S' oa' oe' i' y' hat' hfa' hfe' h4 ey1 ey2 hv' em en eip hst => ?_
  obtain rfl : i' = i := by rw [hP2] at hat'; cases hat'; rfl
  simp only [a9, aU, aL, aT]
  refine j9 (vs := kX 0 0 0 i' (Y.S.ip.gen i') ct Y.S.next 0) pX (by rfl) dS h4 fun b4 F5 M5 l5 o5 h5 => ?_
  all_goals
   obtain ⟨cc, hv'⟩ := hv'
   rw [hP4] at o5 hv'
   rw [hyh, hv.nx] at hv'
   have hX5 := hX1.le l5
   have o15 := o1.le l5
   have hbj : (aH PP w0).nM tJo [(0, .int .i64 cq), (1, .int .i64 ct), (2, .int .i64 cd), (3, .agg #[.int .i64 (i' : Int), .int .i64 (d.bT.gen i')])] = some (.agg #[.int .i64 cq, .int .i64 ct, .int .i64 cd, .int .i64 (i' : Int), .int .i64 (d.bT.gen i')]) := by kernel_rfl
   simp only [hc1 (o15.le h5.fr), hc4 (o15.le h5.fr), hc5 (o15.le h5.fr), kE (o := 3) (vs := [.int .i64 (i' : Int), .int .i64 (d.bT.gen i')]) aZ (o5.le h5.fr) (qE rfl rfl), aC, aL, a9, aU, aT, hbj]
   refine j9 (vs := jY (cq, ct, cd, (i' : Int), d.bT.gen i')) fV (by rfl) (dI _) h5 fun b5 F6 M6 l6 o6 h6 => ?_
   have hX6 := hX5.le l6
   have o56 := o5.le l6
   have hl3 := hv.pg
   have hgP : ∀ x ∈ Y.P.l, 0 ≤ x.g ∧ x.g ≤ 1000000 := fun x hx => by have := hv.pg x hx; omega
   have hro : ((Y.P.l.length - Y.P.free.length : Nat) : Int) ≠ Y.P.most := by omega
   simp only [D7 h6.di, fB (vs := jY (cq, ct, cd, (i' : Int), d.bT.gen i')) fV (o6.le h6.fr), aC, bK, aL, a9, aU, aT]
   refine ⟨?_, ?_⟩
   rotate_left
   refine jI h6 fun b7 M7' lm7 h7' => ?_
   have o7' := (h7'.aW fun h => h.right).di
   refine ⟨D7 o7', fB (vs := jY (cq, ct, cd, (i' : Int), d.bT.gen i')) fV (o6.le h7'.fr), ?_⟩
   refine aE9 (v := (cq, ct, cd, (i' : Int), d.bT.gen i')) hX6.j (h7'.aW aA.yG).toJ hfb hv.pok (by omega) (by omega) (by omega) hgP hP1 hro (hv.fresh hat) fun M7 ob' hfb' h8' => ?_
   rw [hP3] at hfb' ⊢
   have h8 := h8'.ofJ.aW aA.wD
   simp only [cA, a9, aU, aL, aT]
   refine vY aZ (by rfl) iL h8 fun F9 M9 l9 o9 h9 => ?_
   rotate_left
   refine aE9 (v := (cq, ct, cd, (i' : Int), d.bT.gen i')) hX6.j h6.toJ hfb hv.pok (by omega) (by omega) (by omega) hgP hP1 hro (hv.fresh hat) fun M7 ob' hfb' h8' => ?_
   rw [hP3] at hfb' ⊢
   have h8 := h8'.ofJ
   simp only [cA, a9, aU, aL, aT]
   refine j9 aZ (by rfl) iL h8 fun b7 F9 M9 l9 o9 h9 => ?_
   all_goals
    simp only [D8 h9.di, fB aZ (o9.le h9.fr), lR W.c2 ((o56.le l9).le h9.fr) (o := 5 + 1) rfl, aC, aL, a9, aU, aT]
    have h9p := h9.perm (aE7 _ _ _ _ _)
    obtain ⟨g1, g2⟩ := h9p.get List.mem_cons_self
    refine aF2 (kf := bX) (vf := Value.int .i64) (k := ((i' : Int), d.bT.gen i')) (v := Y.S.next) Tryz.underlying122 oR g1 g2 hfw fun ow' hfw' => ?_
    have h10 := (h9p.set (o' := ow')).perm (aE7 _ _ _ _ _).symm
    generalize Mem.set M9 X.mw _ = M10 at h10 ⊢
    simp only [fB (vs := jY (cq, ct, cd, (i' : Int), d.bT.gen i')) fV ((o6.le l9).le h10.fr), aC, aL, a9, aU, aT]
    refine aB8 (v := (cq, ct, cd, (i' : Int), d.bT.gen i')) h10 fun M11 h11 => ?_
    simp only [eZ.v, a9, aU, aL, aT]
    refine jI h11 fun b12 M12' lm12 h12' => ?_
    refine stW (vs := (eZ.mk 0 0 0 ct cd 0).cells) lD (by rfl) (hU _) h12' fun M12 h12 => ?_
    simp only [fB aZ (o9.le h12.fr), aC, aL, a9, aU, aT]
    refine aGm (o := 1) aZ (by exact (by decide : 3 ≤ 6)) iL h12 fun M13 h13 => ?_
    have hov : eH (eZ.mk 0 0 0 ct cd 0).cells 1 [.int .i64 (i' : Int), .int .i64 (d.bT.gen i')] = (eZ.mk 0 i' (d.bT.gen i') ct cd 0).cells := by
     have := eM [.int .i64 0] [.int .i64 0, .int .i64 0] [.int .i64 ct, .int .i64 cd, .int .i64 0] [.int .i64 (i' : Int), .int .i64 (d.bT.gen i')] rfl (o := 1) rfl
     simpa [eZ.cells] using this
    rw [hov] at h13
    simp only [fB (vs := (eZ.mk 0 i' (d.bT.gen i') ct cd 0).cells) lD h13.h.bA, aC, aL, a9, aU, aT]
    refine jJ (vs := (eZ.mk 0 i' (d.bT.gen i') ct cd 0).cells) lD (by rfl) (hU _) ((h13.aW fun h => h.right).aW aA.wD) fun M14 h14 => ?_
    obtain ⟨y0', y1', hrep1, e0, e1', k0, k1⟩ := hrep y' ey1 ey2
    rw [hrep1] at hv'
    have hadd := hv.add (t := ct) (da := cd) hq hat hv' e0 e1' k0 k1 em en (by rw [eip])
    rw [hv.nx] at hfw'
    refine hK M14 _ (lQ.of (Y' := ⟨Y.K, S', Y.I ++ [⟨((i' : Int), d.bT.gen i'), yX Y.y0 Y.y1 cq, cc, (ct, d.next)⟩], y0', y1', Y.P.take z5 i' (cq, ct, cd, (i' : Int), d.bT.gen i'), fT Y.nS ((i' : Int), d.bT.gen i') (some ((i' : Int), d.bT.gen i')), fT Y.wh ((i' : Int), d.bT.gen i') (some d.next), Y.now, Y.gI, Y.last, Y.top⟩) hfa' hfe' hfb' hfw' ((((h14.fJ l9).fJ l6).fJ l5).fJ l1) em e0 e1') hadd ⟨rfl, rfl, rfl, ?_⟩
    rw [← hIl]; exact hst
end
end HL
namespace HL
section
variable {w0 : World} {F M : Mem} {R : VP} {os : uX} {X : wO} {Y : DSt} {S : QS} {P : PS V5} {Q : cY} {now K most b l tp : Int} {r0 r1 : dG} {oa oe ob ow : Obj} {d : rN} {tm : Int} {c : tK} {nS : dG → Option dG} {wh : dG → Option Int}
theorem aFD {k : Int} {i : dG} {t : Int} : (aH PP w0).nM aAh [(0, .int .i64 k), (4, .agg #[.int .i64 i.1, .int .i64 i.2]), (5, .int .i64 t)] = some (.agg (m8 k 0 0 0 0 0 i.1 i.2 t).toArray) := by kernel_rfl
theorem aEF {A : cY} {os : uX} {jt pj mb : Nat} {P : PS V5} {a g : Int} {v : V5} (oJ : cM w0 F jt (jtV pj mb) tJt) (h : HO w0 F M os (star (oY pj P) A)) (hb : P.l.length ≤ 100000) (hw : P.find a g = some v)
  (h1 : ∀ M', HO w0 F M' os (star (oY pj P) A) → R (.tuple #[oX v, .int .i64 0]) M') : C PP w0 Id.pL #[.pointer (some ⟨jt, 0, none⟩), .agg #[.int .i64 a, .int .i64 g]] R M :=
 aE6 oJ h hb (fun v' hv => by rw [hw] at hv; cases hv; exact h1) (fun hf => by rw [hw] at hf; cases hf)
theorem aCB {A : cY} {os : uX} {jt pj mb : Nat} {P : PS V5} {a g : Int} (oJ : cM w0 F jt (jtV pj mb) tJt) (h : HO w0 F M os (star (oY pj P) A)) (hb : P.l.length ≤ 100000) (hw : P.find a g = none)
  (h1 : ∀ M' e, HO w0 F M' os (star (oY pj P) A) → e ≠ 0 → e = P.pl.look a g → R (.tuple #[oX z5, .int .i64 e]) M') : C PP w0 Id.pL #[.pointer (some ⟨jt, 0, none⟩), .agg #[.int .i64 a, .int .i64 g]] R M :=
 aE6 oJ h hb (fun v' hv => by rw [hw] at hv; cases hv) (fun _ => h1)
theorem aF6 (hX : xK w0 F X) (hD : lQ w0 F M os X Y Q) (hv : dH Y d tm) (htm : tm ≤ 900000) (hk : c.kind = 2)
  (hK : ∀ M' Y', lQ w0 F M' os X Y' Q → dH Y' (fC d c).1 tm → rY Y Y' (2 + dJ d.l.length) → R (fC d c).2.v M') :
  C PP w0 Id.kU #[.pointer (some ⟨X.d, 0, none⟩), c.v] R M := by
 obtain ⟨oa, oe, ob, ow, hfa, hfe, hfb, hfw, h⟩ := hD
 obtain ⟨ck, cq, ca, cg, ct, cd⟩ := c
 simp only at hk
 subst hk
 rw [yK (.inl rfl)] at hK
 obtain ⟨e1, e2, e3, e4, e5⟩ := hv.wT
 have hok := hv.ok htm
 apply kU.go
 unfold kU.T aJ
 refine rQ h fun b1 F1 M1 l1 lm1 o1 h1 => ?_
 have hX1 := hX.le l1
 refine jI h1 fun b3 M2 lm2 h2' => ?_
 have h2 := h2'.aW aA.yG
 have hc2 : ∀ {M' : Mem} {e : TypeId}, cM w0 M' b1 [.int .i64 2, .int .i64 cq, .int .i64 ca, .int .i64 cg, .int .i64 ct, .int .i64 cd] e → (aH PP w0).ld 33 ⟨b1, 2, none⟩ M' = some (.agg #[.int .i64 ca, .int .i64 cg]) := fun o => kE (vs := [.int .i64 ca, .int .i64 cg]) aZ o (qE rfl rfl)
 have hc4 : ∀ {M' : Mem} {e : TypeId}, cM w0 M' b1 [.int .i64 2, .int .i64 cq, .int .i64 ca, .int .i64 cg, .int .i64 ct, .int .i64 cd] e → (aH PP w0).ld 2 ⟨b1, 4, none⟩ M' = some (.int .i64 ct) := fun o => lR W.c2 o rfl
 simp (config := { maxSteps := 10000000 }) only [aX, add_eq, Nat.zero_add, D7 h2.di, hc2 (o1.le h2.fr), aC, bK, aL, a9, aU, aT]
 have hpkl : ∀ e, e = Y.P.pl.look ca cg → e = d.bT.look ca cg := fun e he => by rw [he, hv.pk]
 cases hfnd : Y.P.find ca cg with
 | none =>
  refine ⟨?_, ?_⟩
  rotate_left
  refine jI h2 fun b4 M4' lm4 h4' => ?_
  have o4' := (h4'.aW fun h => h.right).di
  refine ⟨D7 o4', hc2 (o1.le h4'.fr), ?_⟩
  refine aCB hX1.j (h4'.aW aA.yG).toJ (by omega) hfnd fun M4 e h4 he hel => ?_
  simp only [oX, cA, a9, aU, aL, aT]
  refine stW (vs := jY z5) fV (by rfl) (dI _) (h4.ofJ.aW aA.wD) fun M5 h5 => ?_
  rotate_left
  refine aCB hX1.j h2.toJ (by omega) hfnd fun M4 e h4 he hel => ?_
  simp only [oX, cA, a9, aU, aL, aT]
  refine jI h4.ofJ fun b4 M5' lm5 h5' => ?_
  refine stW (vs := jY z5) fV (by rfl) (dI _) h5' fun M5 h5 => ?_
  all_goals
   have hlk := hpkl e hel
   rw [if_pos (by rw [← hlk]; exact he), ← hlk] at hK
   rw [cD, if_neg he]
   refine pF h5 fun M6 h6 => ?_
   simp only [eZ.v, a9, aU, aL, aT]
   refine jJ (vs := (eZ.mk e 0 0 0 0 0).cells) lD (by rfl) (hU _) ((h6.aW fun h => h.right).aW aA.wD) fun M7 h7 => ?_
   exact hK M7 Y ⟨oa, oe, ob, ow, hfa, hfe, hfb, hfw, h7.fJ l1⟩ hv (rY.qD (by unfold dJ; omega))
 | some v =>
  have hl0 : d.bT.look ca cg = 0 := by
   rw [← hv.pk]
   exact PS.pJ.1 (by rw [hfnd]; rfl)
  obtain ⟨kk, hkk⟩ := hok.look ca cg hl0
  obtain ⟨j, hj1, hja, hjg, A, B, hd, hA⟩ := hv.atD hkk
  subst hA
  have hjM : j ∈ d.l := by rw [hd]; simp
  have hvj : v = j.v5 := by
   have := hv.jf j hjM
   rw [hja, hjg, hfnd] at this
   cases this; rfl
  subst hvj
  rw [if_neg (by rw [hl0]; simp), hkk] at hK
  simp only [hj1] at hK
  rw [if_neg (by decide)] at hK
  refine ⟨?_, ?_⟩
  rotate_left
  refine jI h2 fun b4 M4' lm4 h4' => ?_
  have o4' := (h4'.aW fun h => h.right).di
  refine ⟨D7 o4', hc2 (o1.le h4'.fr), ?_⟩
  refine aEF hX1.j (h4'.aW aA.yG).toJ (by omega) hfnd fun M4 h4 => ?_
  simp only [oX, cA, a9, aU, aL, aT]
  refine stW (vs := jY j.v5) fV (by rfl) (dI _) (h4.ofJ.aW aA.wD) fun M5 h5 => ?_
  rotate_left
  refine aEF hX1.j h2.toJ (by omega) hfnd fun M4 h4 => ?_
  simp only [oX, cA, a9, aU, aL, aT]
  refine jI h4.ofJ fun b4 M5' lm5 h5' => ?_
  refine stW (vs := jY j.v5) fV (by rfl) (dI _) h5' fun M5 h5 => ?_
  all_goals
   rw [cD, if_pos rfl]
   simp only [hc4 (o1.le h5.fr), lR W.c2 h5.h.bA (o := 1) rfl, aC, aL]
   rw [eO]
   by_cases hlt : j.key < ct
   ·rw [if_pos hlt] at hK
    rw [if_pos (show ct > j.v5.2.1 from hlt)]
    refine pF h5 fun M6 h6 => ?_
    simp only [eZ.v, a9, aU, aL, aT]
    refine jJ (vs := (eZ.mk 26 0 0 0 0 0).cells) lD (by rfl) (hU _) ((h6.aW fun h => h.right).aW aA.wD) fun M7 h7 => ?_
    exact hK M7 Y ⟨oa, oe, ob, ow, hfa, hfe, hfb, hfw, h7.fJ l1⟩ hv (rY.qD (by unfold dJ; omega))
   ·rw [if_neg hlt] at hK
    rw [if_neg (show ¬ ct > j.v5.2.1 from hlt)]
    have o5 := (h5.aW fun h => h.right).di
    have hit : ∀ {M' : Mem} {e : TypeId} {t : Int}, cM w0 M' b4 (jY (j.queue, t, j.data, j.at_, j.gen)) e → (aH PP w0).ld 33 ⟨b4, 3, none⟩ M' = some (.agg #[.int .i64 j.at_, .int .i64 j.gen]) := fun o => kE (vs := [.int .i64 j.at_, .int .i64 j.gen]) aZ o (qE rfl rfl)
    simp only [D2 o5, hit (t := j.key) h5.h.bA, hc4 (o1.le h5.fr), aC, bK, aL, a9, aU, aT, aFD (i := (j.at_, j.gen))]
    obtain ⟨IA, x, IB, hI, hIA, hx1, hx2, hx3, hIB⟩ := hv.split hd
    obtain ⟨A', y, B', hAB, hyh, hrep⟩ := pick (y0 := Y.y0) (y1 := Y.y1) (hv.qr j hjM)
    have hvq := hv.q
    rw [hAB, hI] at hvq
    have hjr : (j.at_, j.gen) = x.r := hx1.symm
    rw [show j.at_ = x.r.1 from congrArg Prod.fst hjr, show j.gen = x.r.2 from congrArg Prod.snd hjr]
    have hke : ct ≤ x.e.1 := by rw [hx3]; show ct ≤ j.key; omega
    refine aAL hX1.t hvq (hx2.trans hyh.symm) hke hfa hfe (h5.aW aA.yG) fun M6 S' oe' y' hfa' hfe' h6' ey1 ey2 hv' em en eip hst => ?_
    have h6 := h6'.aW aA.wD
    simp only [a9, aU, aL, aT, hc4 (o1.le h6.fr), aC]
    refine aBi (o := 1) W.c2 (by simp [jY]) rfl rfl h6 fun M7 h7 => ?_
    change HO w0 F1 M7 _ (star (aY b4 (jY (j.queue, ct, j.data, j.at_, j.gen)) _) (DB X S' Y.P Y.now Y.K Y.S.most Y.y0.h Y.y1.h Y.gI Y.last Y.top _)) at h7
    have o7 := (h7.aW fun h => h.right).di
    simp only [D7 o7, hc2 (o1.le h7.fr), fB (vs := jY (j.queue, ct, j.data, j.at_, j.gen)) fV h7.h.bA, aC, bK, aL, a9, aU, aT]
    refine aIw (r := (ca, cg)) (v := (j.queue, ct, j.data, j.at_, j.gen)) (w := j.v5) hX1.j (h7.aW aA.yG).toJ hfb (by omega) hfnd rfl (by rw [hja, hjg]; have := hv.jb j hjM; unfold Jb.r at this; rw [hja, hjg] at this; exact this) fun M8 ob' hfb' h8' => ?_
    have h8 := h8'.ofJ.aW aA.wD
    simp only [aL, fB (vs := jY (j.queue, ct, j.data, j.at_, j.gen)) fV h8.h.bA, aC, a9, aU, aT]
    refine aB8 (v := (j.queue, ct, j.data, j.at_, j.gen)) (h8.aW fun h => h.right) fun M9 h9 => ?_
    simp only [eZ.v, a9, aU, aL, aT]
    refine jJ (vs := (eZ.mk 0 0 0 ct j.data 0).cells) lD (by rfl) (hU _) (h9.aW aA.wD) fun M10 h10 => ?_
    obtain ⟨y0', y1', hrep1, e0, e1', k0, k1⟩ := hrep y' ey1 ey2
    rw [hrep1] at hv'
    have hso := hv.aKg hd hI hx1 hx2 hx3 hIA hIB hv' e0 e1' k0 k1 em en eip
    have hdl : (IA ++ x :: IB).length = d.l.length := by rw [← hI]; exact hv.len
    refine hK M10 _ (lQ.of (Y' := ⟨Y.K, S', IA ++ { x with e := (ct, x.e.2) } :: IB, y0', y1', Y.P.put j.at_.toNat (j.queue, ct, j.data, j.at_, j.gen), Y.nS, Y.wh, Y.now, Y.gI, Y.last, Y.top⟩) hfa' hfe' hfb' hfw ?_ em e0 e1') hso ⟨rfl, rfl, rfl, ?_⟩
    ·have hh := h10.fJ l1
     rw [show ((ca, cg) : dG).1.toNat = j.at_.toNat from by rw [hja]] at hh
     exact hh
    ·rw [← hdl]; exact hst
theorem aEQ {r : dG} {v : V5} (hX : xK w0 F X) (hb : P.l.length ≤ 10000) (hfb' : P.free.length ≤ 10000) (hfb : dF bX bX nS ob) (hfw : dF bX (Value.int .i64) wh ow) (hw : P.find r.1 r.2 = some v) (h : HO w0 F M (DO X oa oe ob ow os) (DB X S P now K most r0 r1 b l tp Q))
  (hK : ∀ M' ob' ow', dF bX bX (fT nS v.2.2.2 none) ob' → dF bX (Value.int .i64) (fT wh r none) ow' → HO w0 F M' (DO X oa oe ob' ow' os) (DB X S (P.fZ z5 r.1.toNat) now K most r0 r1 b l tp Q) → R (eZ.v { time := v.2.1, data := v.2.2.1 }) M') :
  C PP w0 Id.lN #[.pointer (some ⟨X.d, 0, none⟩), .agg #[.int .i64 r.1, .int .i64 r.2]] R M := by
 apply lN.go
 unfold lN.T aJ
 refine rQ h fun b1 F1 M1 l1 lm1 o1 h1 => ?_
 have hX1 := hX.le l1
 refine jI h1 fun b3 M2 lm2 h2' => ?_
 have h2 := h2'.aW aA.yG
 simp (config := { maxSteps := 10000000 }) only [aX, add_eq, Nat.zero_add, D7 h2.di, fB aZ (o1.le h2.fr), aC, bK, aL, a9, aU, aT]
 refine ⟨?_, ?_⟩
 rotate_left
 refine jI h2 fun b4 M3' lm3 h3' => ?_
 have o3' := (h3'.aW fun h => h.right).di
 refine ⟨D7 o3', fB aZ (o1.le h3'.fr), ?_⟩
 refine aDj hX1.j (h3'.aW aA.yG).toJ hfb hb hfb' hw fun M3 ob' hfb2 h3 => ?_
 simp only [oX, cA, a9, aU, aL, aT]
 refine vY (vs := jY v) fV (by rfl) (dI _) (h3.ofJ.aW aA.wD) fun F4 M4 l4 o4 h4 => ?_
 rotate_left
 refine aDj hX1.j h2.toJ hfb hb hfb' hw fun M3 ob' hfb2 h3 => ?_
 simp only [oX, cA, a9, aU, aL, aT]
 refine j9 (vs := jY v) fV (by rfl) (dI _) h3.ofJ fun b4 F4 M4 l4 o4 h4 => ?_
 all_goals
  rw [cD, if_pos rfl]
  simp only [D8 h4.di, fB aZ ((o1.le l4).le h4.fr), aC, a9, aU, aL, aT]
  have h4p := h4.perm (aE7 _ _ _ _ _)
  obtain ⟨g1, g2⟩ := h4p.get List.mem_cons_self
  refine aHW (k := r) rfl Tryz.underlying122 oR g1 g2 hfw fun ow' hfw' => ?_
  have h5 := (h4p.set (o' := ow')).perm (aE7 _ _ _ _ _).symm
  generalize Mem.set M4 X.mw _ = M5 at h5 ⊢
  simp only [fB (vs := jY v) fV (o4.le h5.fr), aC, a9, aU, aL, aT]
  refine aB8 (v := v) h5 fun M6 h6 => ?_
  simp only [eZ.v, a9, aU, aL, aT]
  refine jJ (vs := (eZ.mk 0 0 0 v.2.1 v.2.2.1 0).cells) lD (by rfl) (hU _) (h6.aW aA.wD) fun M7 h7 => ?_
  exact hK M7 ob' ow' hfb2 hfw' ((h7.fJ l4).fJ l1)
theorem aFW {r : dG} (hX : xK w0 F X) (hb : P.l.length ≤ 10000) (hw : P.find r.1 r.2 = none) (h : HO w0 F M (DO X oa oe ob ow os) (DB X S P now K most r0 r1 b l tp Q))
  (hK : ∀ M', HO w0 F M' (DO X oa oe ob ow os) (DB X S P now K most r0 r1 b l tp Q) → R (eZ.v { why := P.pl.look r.1 r.2 }) M') :
  C PP w0 Id.lN #[.pointer (some ⟨X.d, 0, none⟩), .agg #[.int .i64 r.1, .int .i64 r.2]] R M := by
 apply lN.go
 unfold lN.T aJ
 refine rQ h fun b1 F1 M1 l1 lm1 o1 h1 => ?_
 have hX1 := hX.le l1
 refine jI h1 fun b3 M2 lm2 h2' => ?_
 have h2 := h2'.aW aA.yG
 simp (config := { maxSteps := 10000000 }) only [aX, add_eq, Nat.zero_add, D7 h2.di, fB aZ (o1.le h2.fr), aC, bK, aL, a9, aU, aT]
 refine ⟨?_, ?_⟩
 rotate_left
 refine jI h2 fun b4 M3' lm3 h3' => ?_
 have o3' := (h3'.aW fun h => h.right).di
 refine ⟨D7 o3', fB aZ (o1.le h3'.fr), ?_⟩
 refine aAt hX1.j (h3'.aW aA.yG).toJ hb hw fun M3 e h3 he hel => ?_
 simp only [oX, cA, a9, aU, aL, aT]
 refine vY (vs := jY z5) fV (by rfl) (dI _) (h3.ofJ.aW aA.wD) fun F4 M4 l4 o4 h4 => ?_
 rotate_left
 refine aAt hX1.j h2.toJ hb hw fun M3 e h3 he hel => ?_
 simp only [oX, cA, a9, aU, aL, aT]
 refine j9 (vs := jY z5) fV (by rfl) (dI _) h3.ofJ fun b4 F4 M4 l4 o4 h4 => ?_
 all_goals
  rw [cD, if_neg he]
  refine pF h4 fun M6 h6 => ?_
  simp only [eZ.v, a9, aU, aL, aT]
  refine jJ (vs := (eZ.mk e 0 0 0 0 0).cells) lD (by rfl) (hU _) (h6.aW aA.wD) fun M7 h7 => ?_
  rw [hel]
  exact hK M7 ((h7.fJ l4).fJ l1)
end
end HL
namespace HL
section
variable {w0 : World} {F M : Mem}
theorem aA.sev {A B C D E G H Q : cY} (h : aA w0 F M (star A (star B (star C (star D (star E (star G (star H Q)))))))) : aA w0 F M (star H (star A (star B (star C (star D (star E (star G Q))))))) :=
 (h.oG fun _ _ h => (h.oG fun _ _ h => (h.oG fun _ _ h => (h.oG fun _ _ h => (h.oG fun _ _ h => h.dT).dT).dT).dT).dT).dT
theorem aA.bck {A B C D E G H Q : cY} (h : aA w0 F M (star H (star A (star B (star C (star D (star E (star G Q)))))))) : aA w0 F M (star A (star B (star C (star D (star E (star G (star H Q))))))) :=
 h.dT.oG fun _ _ h => h.dT.oG fun _ _ h => h.dT.oG fun _ _ h => h.dT.oG fun _ _ h => h.dT.oG fun _ _ h => h.dT
end
section
variable {w0 : World} {F M : Mem} {R : VP} {os : uX} {X : wO} {Y : DSt} {S : QS} {P : PS V5} {Q : cY} {now K most b l tp : Int} {r0 r1 : dG} {oa oe ob ow : Obj} {d : rN} {tm : Int} {c : tK} {nS : dG → Option dG} {wh : dG → Option Int}
theorem aEf {k : Int} {i : dG} : (aH PP w0).nM aAh [(0, .int .i64 k), (4, .agg #[.int .i64 i.1, .int .i64 i.2])] = some (.agg (m8 k 0 0 0 0 0 i.1 i.2 0).toArray) := by kernel_rfl
theorem y5 {k : Int} {i : dG} : (aH PP w0).nM aAh [(0, .int .i64 k), (2, .agg #[.int .i64 i.1, .int .i64 i.2])] = some (.agg (m8 k 0 i.1 i.2 0 0 0 0 0).toArray) := by kernel_rfl
theorem aEj {k : Int} {i j : dG} : (aH PP w0).nM aAh [(0, .int .i64 k), (2, .agg #[.int .i64 i.1, .int .i64 i.2]), (3, .agg #[.int .i64 j.1, .int .i64 j.2])] = some (.agg (m8 k 0 i.1 i.2 j.1 j.2 0 0 0).toArray) := by kernel_rfl
theorem wF {k x : Int} : (aH PP w0).nM aAh [(0, .int .i64 k), (1, .int .i64 x)] = some (.agg (m8 k x 0 0 0 0 0 0 0).toArray) := by kernel_rfl
theorem dH.aJU (h : dH Y d tm) {S' : QS} (hS : dR S' Y.I [Y.y0, Y.y1] tm) (hm : S'.most = Y.S.most) (hn : S'.next = Y.S.next) (hip : S'.ip = Y.S.ip) : dH { Y with S := S' } d tm :=
 ⟨hS, h.K3, h.k0, h.k1, h.pk, by show S'.ip.pl = d.bT; rw [hip]; exact h.ipk, hm.trans h.most, h.now, h.aCD, hn.trans h.nx, h.par, h.qr, h.jf, h.jb, h.jb2, h.jw, h.lv, h.sn, h.sl⟩
theorem aIu {x : Int} (o : cM w0 M X.bc [.int .i64 now] aCc) (h : R (.bool (decide (x ≤ now))) M) : C PP w0 Id.eC #[.pointer (some ⟨X.bc, 0, none⟩), .int .i64 x] R M := by
 apply eC.go
 unfold eC.T aJ
 simp only [aX, add_eq, Nat.zero_add, lR W.c2 o (o := 0) rfl, aC, aL]
 exact h
theorem aFZ (hX : xK w0 F X) (hD : lQ w0 F M os X Y Q) (hv : dH Y d tm) (htm : tm ≤ 900000) (hk : c.kind = 3)
  (hK : ∀ M' Y', lQ w0 F M' os X Y' Q → dH Y' (fC d c).1 (tm + 1) → rY Y Y' (dJ d.l.length + 1) → R (fC d c).2.v M') :
  C PP w0 Id.j6 #[.pointer (some ⟨X.d, 0, none⟩), .agg #[.int .i64 c.at_, .int .i64 c.gen]] R M := by
 obtain ⟨oa, oe, ob, ow, hfa, hfe, hfb, hfw, h⟩ := hD
 obtain ⟨ck, cq, ca, cg, ct, cd⟩ := c
 simp only at hk
 subst hk
 rw [yK (.inr rfl)] at hK
 obtain ⟨e1, e2, e3, e4, e5⟩ := hv.wT
 have hok := hv.ok htm
 apply j6.go
 unfold j6.T aJ
 refine rQ h fun b1 F1 M1 l1 lm1 o1 h1 => ?_
 have hX1 := hX.le l1
 refine jI h1 fun b3 M2 lm2 h2' => ?_
 have h2 := h2'.aW aA.yG
 simp (config := { maxSteps := 10000000 }) only [aX, add_eq, Nat.zero_add, D7 h2.di, fB aZ (o1.le h2.fr), aC, bK, aL, a9, aU, aT]
 have hpkl : ∀ e, e = Y.P.pl.look ca cg → e = d.bT.look ca cg := fun e he => by rw [he, hv.pk]
 cases hfnd : Y.P.find ca cg with
 | none =>
  refine ⟨?_, ?_⟩
  rotate_left
  refine jI h2 fun b4 M4' lm4 h4' => ?_
  have o4' := (h4'.aW fun h => h.right).di
  refine ⟨D7 o4', fB aZ (o1.le h4'.fr), ?_⟩
  refine aCB hX1.j (h4'.aW aA.yG).toJ (by omega) hfnd fun M4 e h4 he hel => ?_
  simp only [oX, cA, a9, aU, aL, aT]
  refine vY (vs := jY z5) fV (by rfl) (dI _) (h4.ofJ.aW aA.wD) fun F5 M5 l5 o5 h5 => ?_
  rotate_left
  refine aCB hX1.j h2.toJ (by omega) hfnd fun M4 e h4 he hel => ?_
  simp only [oX, cA, a9, aU, aL, aT]
  refine j9 (vs := jY z5) fV (by rfl) (dI _) h4.ofJ fun b4 F5 M5 l5 o5 h5 => ?_
  all_goals
   have hlk := hpkl e hel
   rw [if_pos (by rw [← hlk]; exact he), ← hlk] at hK
   rw [eW, if_neg he]
   simp only [fB aZ ((o1.le l5).le h5.fr), aC, a9, aU, aL, aT]
   refine aFW (r := (ca, cg)) (hX1.le l5) (by omega) hfnd h5 fun M6 h6 => ?_
   rw [show Y.P.pl.look ((ca, cg) : dG).1 ((ca, cg) : dG).2 = e from hel.symm]
   simp only [eZ.v, a9, aU, aL, aT]
   refine jJ (vs := (eZ.mk e 0 0 0 0 0).cells) lD (by rfl) (hU _) (h6.aW aA.wD) fun M7 h7 => ?_
   exact hK M7 Y ⟨oa, oe, ob, ow, hfa, hfe, hfb, hfw, (h7.fJ l5).fJ l1⟩ (hv.uU (by omega)) (rY.qD (by unfold dJ; omega))
 | some v =>
  have hl0 : d.bT.look ca cg = 0 := by
   rw [← hv.pk]
   exact PS.pJ.1 (by rw [hfnd]; rfl)
  obtain ⟨kk, hkk⟩ := hok.look ca cg hl0
  obtain ⟨j, hj1, hja, hjg, A, B, hd, hA⟩ := hv.atD hkk
  subst hA
  have hjM : j ∈ d.l := by rw [hd]; simp
  have hvj : v = j.v5 := by
   have := hv.jf j hjM
   rw [hja, hjg, hfnd] at this
   cases this; rfl
  subst hvj
  rw [if_neg (by rw [hl0]; simp), hkk] at hK
  simp only [hj1] at hK
  rw [if_pos trivial] at hK
  refine ⟨?_, ?_⟩
  rotate_left
  refine jI h2 fun b4 M4' lm4 h4' => ?_
  have o4' := (h4'.aW fun h => h.right).di
  refine ⟨D7 o4', fB aZ (o1.le h4'.fr), ?_⟩
  refine aEF hX1.j (h4'.aW aA.yG).toJ (by omega) hfnd fun M4 h4 => ?_
  simp only [oX, cA, a9, aU, aL, aT]
  refine vY (vs := jY j.v5) fV (by rfl) (dI _) (h4.ofJ.aW aA.wD) fun F5 M5 l5 o5 h5 => ?_
  rotate_left
  refine aEF hX1.j h2.toJ (by omega) hfnd fun M4 h4 => ?_
  simp only [oX, cA, a9, aU, aL, aT]
  refine j9 (vs := jY j.v5) fV (by rfl) (dI _) h4.ofJ fun b4 F5 M5 l5 o5 h5 => ?_
  all_goals
   rw [eW, if_pos rfl]
   have hX5 := hX1.le l5
   have hit : ∀ {M' : Mem} {e : TypeId}, cM w0 M' b4 (jY j.v5) e → (aH PP w0).ld 33 ⟨b4, 3, none⟩ M' = some (.agg #[.int .i64 j.at_, .int .i64 j.gen]) := fun o => kE (vs := [.int .i64 j.at_, .int .i64 j.gen]) aZ o (qE rfl rfl)
   simp only [aX, add_eq, Nat.zero_add, D2 h5.di, hit (o5.le h5.fr), aC, bK, aL, a9, aU, aT, aEf (i := (j.at_, j.gen))]
   obtain ⟨IA, x, IB, hI, hIA, hx1, hx2, hx3, hIB⟩ := hv.split hd
   obtain ⟨A', y, B', hAB, hyh, hrep⟩ := pick (y0 := Y.y0) (y1 := Y.y1) (hv.qr j hjM)
   have hvq := hv.q
   rw [hAB, hI] at hvq
   have hjr : (j.at_, j.gen) = x.r := hx1.symm
   rw [show j.at_ = x.r.1 from congrArg Prod.fst hjr, show j.gen = x.r.2 from congrArg Prod.snd hjr]
   refine aCK hX5.t hvq (hx2.trans hyh.symm) hfa hfe h5 fun M6 S' oa' oe' y' hfa' hfe' h6 ey1 ey2 hv' em en eip hst => ?_
   simp only [a9, aU, aL, aT, fB aZ ((o1.le l5).le h6.fr), aC]
   refine aEQ (r := (ca, cg)) hX5 (by omega) (by omega) hfb hfw hfnd h6 fun M7 ob' ow' hfb' hfw' h7 => ?_
   simp only [eZ.v, a9, aU, aL, aT]
   refine jJ (vs := (eZ.mk 0 0 0 j.key j.data 0).cells) lD (by rfl) (hU _) (h7.aW aA.wD) fun M8 h8 => ?_
   obtain ⟨y0', y1', hrep1, e0, e1', k0, k1⟩ := hrep y' ey1 ey2
   rw [hrep1] at hv'
   have hxa : x.r.1.toNat = j.at_.toNat := by rw [hx1]; rfl
   have hou := hv.out hd hI hIA hIB hv' e0 e1' k0 k1 em en (by rw [eip, hxa])
   have hdl : (IA ++ x :: IB).length = d.l.length := by rw [← hI]; exact hv.len
   have hr : ((ca, cg) : dG) = j.r := Prod.ext hja.symm hjg.symm
   rw [hr] at hfw'
   refine hK M8 _ (lQ.of (Y' := ⟨Y.K, S', IA ++ IB, y0', y1', Y.P.fZ z5 j.at_.toNat, fT Y.nS j.r none, fT Y.wh j.r none, Y.now, Y.gI, Y.last, Y.top⟩) hfa' hfe' hfb' hfw' ?_ em e0 e1') hou ⟨rfl, rfl, rfl, ?_⟩
   ·have hh := (h8.fJ l5).fJ l1
    rw [show ((ca, cg) : dG).1.toNat = j.at_.toNat from by rw [hja]] at hh
    exact hh
   ·rw [← hdl]; exact hst
theorem aHM (hX : xK w0 F X) (hD : lQ w0 F M os X Y Q) (hv : dH Y d tm) (htm : tm ≤ 900000) (hk : c.kind = 6) (hq : c.queue = 1)
  (hK : ∀ M' Y', lQ w0 F M' os X Y' Q → dH Y' (fC d c).1 (tm + 1) → rY Y Y' (dJ d.l.length) → R (fC d c).2.v M') :
  C PP w0 Id.mH #[.pointer (some ⟨X.d, 0, none⟩)] R M := by
 obtain ⟨oa, oe, ob, ow, hfa, hfe, hfb, hfw, h⟩ := hD
 rw [aAo (aBG (.inr hq)) hk, if_neg (by omega)] at hK
 obtain ⟨e1, e2, e3, e4, e5⟩ := hv.wT
 apply mH.go
 unfold mH.T aJ
 refine jI h fun b3 M2 lm2 h2' => ?_
 have h2 := h2'.aW aA.yG
 simp (config := { maxSteps := 10000000 }) only [aX, add_eq, Nat.zero_add, D2 h2.di, aC, bK]
 refine ⟨⟨by omega, by omega⟩, ?_⟩
 rw [show (aH PP w0).ld 33 ⟨X.d, 3 + Int.toNat 0 * 2, none⟩ M2 = _ from D3 h2.di]
 simp only [aC, a9, aU, aL, aT]
 refine ⟨⟨by omega, by omega⟩, ?_⟩
 rw [show (aH PP w0).ld 33 ⟨X.d, 3 + Int.toNat 1 * 2, none⟩ M2 = _ from D5 h2.di]
 simp only [aC, a9, aU, aL, aT, aEj]
 refine aEy hX.t hv.q htm (hv.k1.trans hv.k0.symm) h2 fun M3 S1 y0' h3 ey1 ey2 hv1 em en eip eat een hst => ?_
 simp only [a9, aU, aL, aT, D2 h3.di, D0 h3.di, aC, bK, wF]
 refine uM hX.t hv1 htm hv.K3.1 hv.K3.2 (by simp) h3 fun M4 S2 r h4 hv2 hnil em2 en2 eip2 eat2 een2 hst2 => ?_
 simp only [a9, aU, aL, aT]
 refine ⟨⟨by omega, by omega⟩, ?_⟩
 refine aGm (o := 5) aZ (by exact (by decide : 7 ≤ 13)) iL (h4.aW aA.sev) fun M5 h5' => ?_
 have hov : eH (dV X Y.K Y.S.most Y.y0.h Y.y1.h Y.gI Y.last Y.top) 5 [.int .i64 r.1, .int .i64 r.2] = dV X Y.K Y.S.most Y.y0.h r Y.gI Y.last Y.top := by
  have := eM [.int .i64 Y.K, .int .i64 Y.S.most, .pointer (some ⟨X.q, 0, none⟩), .int .i64 Y.y0.h.1, .int .i64 Y.y0.h.2] [.int .i64 Y.y1.h.1, .int .i64 Y.y1.h.2] [.pointer (some ⟨X.jt, 0, none⟩), .map (some X.mw), .pointer (some ⟨X.bc, 0, none⟩), .int .i64 Y.gI, .int .i64 Y.last, .int .i64 Y.top] [.int .i64 r.1, .int .i64 r.2] rfl (o := 5) rfl
  simpa using this
 rw [hov] at h5'
 have h5 : HO w0 F M5 (DO X oa oe ob ow os) (DB X S2 Y.P Y.now Y.K Y.S.most Y.y0.h r Y.gI Y.last Y.top (star (aY b3 _ _) Q)) := h5'.aW aA.bck
 simp only [D7 h5.di, aC, bK]
 refine aGB hX.j h5.toJ (by omega) hv.pg1 fun M6 h6' => ?_
 have h6 := h6'.ofJ
 rw [hv.cnt 1]
 simp only [aL, bR4, aC, a9, aU, aT]
 refine jJ (vs := (eZ.mk 0 0 0 0 0 (jA 1 d.l)).cells) lD (by rfl) (hU _) (h6.aW aA.wD) fun M7 h7 => ?_
 have hme := hv.merge (y0' := y0') (y1' := ⟨r, Y.K, -1, []⟩) hv2 ey1 ey2 hv.k1.symm (em2.trans em) (en2.trans en) (by rw [eip2, eip])
 rw [← eat, ← eat2] at hfa
 rw [← een, ← een2] at hfe
 refine hK M7 _ (lQ.of (Y' := ⟨Y.K, S2, Y.I.map (uN Y.y1.h Y.y0.h), y0', ⟨r, Y.K, -1, []⟩, xQ Y.P Y.P.refs 1 0, Y.nS, Y.wh, Y.now, Y.gI, Y.last, Y.top⟩) hfa hfe hfb hfw h7 (em2.trans em) ey1 rfl) hme ⟨rfl, rfl, rfl, ?_⟩
 have := hst.trans hst2
 rw [hv.len, Int.add_zero] at this
 exact this
end
end HL
namespace HL
section
variable {w0 : World} {F M : Mem} {R : VP} {os : uX} {X : wO} {Y : DSt} {S : QS} {P : PS V5} {Q : cY} {now K most b l tp : Int} {r0 r1 : dG} {oa oe ob ow : Obj} {d : rN} {tm : Int} {c : tK} {nS : dG → Option dG} {wh : dG → Option Int}
theorem aBT : ∀ {A A2 B B2 : List mY} {x x2 : mY}, ((A ++ x :: B).map (·.r)).Nodup → A ++ x :: B = A2 ++ x2 :: B2 → x.r = x2.r → A = A2 ∧ x = x2 ∧ B = B2
 | [], [], B, B2, x, x2, hn, he, hr => by
  simp only [List.nil_append, List.cons.injEq] at he
  exact ⟨rfl, he.1, he.2⟩
 | [], a :: A2, B, B2, x, x2, hn, he, hr => by
  simp only [List.nil_append, List.cons_append, List.cons.injEq] at he
  obtain ⟨h1, h2⟩ := he
  subst h1
  rw [h2] at hn
  simp only [List.nil_append, List.map_cons, List.map_append, List.nodup_cons] at hn
  exact absurd (List.mem_append_right _ (by rw [hr]; exact List.mem_cons_self)) hn.1
 | a :: A, [], B, B2, x, x2, hn, he, hr => by
  simp only [List.nil_append, List.cons_append, List.cons.injEq] at he
  obtain ⟨h1, h2⟩ := he
  subst h1
  simp only [List.cons_append, List.map_cons, List.map_append, List.nodup_cons] at hn
  exact absurd (List.mem_append_right _ (by rw [← hr]; exact List.mem_cons_self)) hn.1
 | a :: A, a2 :: A2, B, B2, x, x2, hn, he, hr => by
  simp only [List.cons_append, List.cons.injEq] at he
  obtain ⟨h1, h2⟩ := he
  simp only [List.cons_append, List.map_cons, List.nodup_cons] at hn
  obtain ⟨q1, q2, q3⟩ := aBT hn.2 h2 hr
  exact ⟨by rw [h1, q1], q2, q3⟩
theorem aID (hX : xK w0 F X) (hD : lQ w0 F M os X Y Q) (hv : dH Y d tm) (htm : tm ≤ 900000) (hk : c.kind = 5) (hq : c.queue = 0 ∨ c.queue = 1)
  (hK : ∀ M' Y', lQ w0 F M' os X Y' Q → dH Y' (fC d c).1 (tm + 1) → rY Y Y' (2 * dJ d.l.length + 1) → R (fC d c).2.v M') :
  C PP w0 Id.gJ #[.pointer (some ⟨X.d, 0, none⟩), .int .i64 c.queue] R M := by
 obtain ⟨oa, oe, ob, ow, hfa, hfe, hfb, hfw, h⟩ := hD
 obtain ⟨ck, cq, ca, cg, ct, cd⟩ := c
 simp only at hk hq
 subst hk
 rw [xN (aBG hq) rfl] at hK
 obtain ⟨e1, e2, e3, e4, e5⟩ := hv.wT
 have hl0 : 0 ≤ dJ d.l.length := by unfold dJ; omega
 apply gJ.go
 intro aB H
 unfold gJ.T aJ
 refine jI h fun b3 M2 lm2 h2' => ?_
 have h2 := h2'.aW aA.yG
 simp (config := { maxSteps := 10000000 }) only [aX, add_eq, Nat.zero_add, D35 hq h2.di, aC, a9, aU, aL, aT]
 refine ⟨⟨by omega, by omega⟩, ?_⟩
 refine j9 aZ (by rfl) iL h2 fun b4 F3 M3 l3 o3 h3 => ?_
 have hX3 := hX.le l3
 simp only [D2 h3.di, fB aZ (o3.le h3.fr), aC, bK, a9, aU, aL, aT, y5]
 obtain ⟨A', y, B', hAB, hyh, hrep⟩ := pick (y0 := Y.y0) (y1 := Y.y1) hq
 have hvq := hv.q
 rw [hAB] at hvq
 have hIl := hv.len
 rw [← hyh]
 have none_ok : ∀ (F5 M5 : Mem) (b5 : Nat) (S1 : QS) (A : List Value), fC d ⟨5, cq, ca, cg, ct, cd⟩ = (d, { why := 28 }) → Mem.le F3 F5 → dH { Y with S := S1 } d tm → rJ Y.S S1 (dJ d.l.length) → dF (Value.int .i64) bX S1.at_ oa → dF bX mJ S1.en oe → S1.most = Y.S.most →
   HO w0 F5 M5 (DO X oa oe ob ow os) (star (aY b5 A aAQ) (DB X S1 Y.P Y.now Y.K Y.S.most Y.y0.h Y.y1.h Y.gI Y.last Y.top (star (aY b3 [.int .i64 0, .int .i64 0, .int .i64 0, .int .i64 0, .int .i64 0, .int .i64 0] iI) Q))) →
   C PP w0 Id.cB #[.int .i64 28] (fun v M => shA v fun n => dA n fun u r => nA .i64 u fun n => dA r fun u r => nA .i64 u fun n_22 => dA r fun u r => nA .i64 u fun n_23 => dA r fun u r => nA .i64 u fun n_24 => dA r fun u r => nA .i64 u fun n_25 => dA r fun u r => nA .i64 u fun n_26 => qB r ((aH PP w0).st iI ⟨b3, 0, none⟩ (.agg #[.int .i64 n, .int .i64 n_22, .int .i64 n_23, .int .i64 n_24, .int .i64 n_25, .int .i64 n_26]) (fun M => HL.ob ((aH PP w0).rdv iI (.pointer (some ⟨b3, 0, none⟩)) M) fun v => R v M) M)) M5 := by
  intro F5 M5 b5 S1 A hdo l5 hv1 hst hfa1 hfe1 hm h5
  refine pF h5 fun M6 h6 => ?_
  simp only [eZ.v, a9, aU, aL, aT]
  refine jJ (vs := (eZ.mk 28 0 0 0 0 0).cells) lD (by rfl) (hU _) ((h6.aW fun h => h.right).aW aA.wD) fun M7 h7 => ?_
  rw [← xN (aBG hq) rfl, hdo] at hK
  refine hK M7 { Y with S := S1 } (lQ.of (Y' := { Y with S := S1 }) hfa1 hfe1 hfb hfw ((h7.fJ l5).fJ l3) hm rfl rfl) (hv1.uU (by omega)) ⟨rfl, rfl, rfl, fun h0 => by
   obtain ⟨a1, a2, a3⟩ := hst h0
   exact ⟨a1, a2, by show S1.α.steps ≤ Y.S.α.steps + _; omega⟩⟩
 have fire_ok : ∀ (F5 M5 : Mem) (b5 : Nat) (S1 : QS) (A0 : List Value) (x0 : Nat × cW), A0.length = 8 → pD d.l cq = some x0 → ¬ d.now < x0.2.1 → Mem.le F3 F5 → dH { Y with S := S1 } d tm → rJ Y.S S1 (dJ d.l.length) → dF (Value.int .i64) bX S1.at_ oa → dF bX mJ S1.en oe → S1.most = Y.S.most →
   HO w0 F5 M5 (DO X oa oe ob ow os) (star (aY b5 A0 aAQ) (DB X S1 Y.P Y.now Y.K Y.S.most Y.y0.h Y.y1.h Y.gI Y.last Y.top (star (aY b3 [.int .i64 0, .int .i64 0, .int .i64 0, .int .i64 0, .int .i64 0, .int .i64 0] iI) Q))) →
   gJ.J1 aB (some ⟨X.d, 0, none⟩) ⟨b3, 0, none⟩ ⟨b4, 0, none⟩ ⟨b5, 0, none⟩ M5 := by
  intro F5 M5 b5 S1 A0 x0 hA0 hf hdue l5 hv1 hst hfa1 hfe1 hm h5
  rw [hf] at hK
  simp only at hK
  rw [if_neg hdue] at hK
  obtain ⟨j, A, B, hd, hAl, hjq, hje, eE, huniq⟩ := hv1.first hq hf
  have hjM : j ∈ d.l := by rw [hd]; simp
  have hj1 : d.l[x0.1]? = some j := by rw [hd, ← hAl]; simp
  rw [hj1] at hK
  simp only at hK
  refine Eq.mpr (H.J1 ..) ?_
  unfold gJ.J1.T aJ
  have hX5 := hX3.le l5
  have hq1 := hv1.q
  have o5 := (h5.aW fun h => h.right).di
  simp (config := { maxSteps := 10000000 }) only [aX, add_eq, Nat.zero_add, D2 o5, fB aZ ((o3.le l5).le h5.fr), aC, bK, a9, aU, aL, aT, y5]
  change dR S1 Y.I [Y.y0, Y.y1] tm at hq1
  rw [hAB] at hq1
  have hne' : dX Y.I y.h ≠ [] := by rw [hyh]; exact eE
  rw [← hyh]
  refine aCw hX5.t hq1 hne' hfa1 hfe1 (h5.aW aA.yG) fun M6 S' oa' oe' y' IA x IB hI hxy hb hfa' hfe' h6' ey1 ey2 hv' em en eip hst2 => ?_
  have hxI : x ∈ Y.I := by rw [hI]; simp
  obtain ⟨hx1, hx3⟩ := huniq x hxI (hxy.trans hyh) (fun w hw hwh hwc => hb w hw (hwh.trans hyh.symm) hwc)
  have h6 := h6'.aW aA.wD
  simp only [a9, aU, aL, aT]
  refine vY (vs := kX 0 0 0 x.r.1 x.r.2 x.e.1 x.e.2 0) pX (by rw [hA0]; rfl) dS h6 fun F7 M7 l7 o7 h7 => ?_
  have hX7 := hX5.le l7
  rw [show x.r.1 = j.at_ from congrArg Prod.fst hx1, show x.r.2 = j.gen from congrArg Prod.snd hx1] at o7
  have hit : ∀ {M' : Mem} {e : TypeId}, cM w0 M' b5 (kX 0 0 0 j.at_ j.gen x.e.1 x.e.2 0) e → (aH PP w0).ld 33 ⟨b5, 3, none⟩ M' = some (.agg #[.int .i64 j.at_, .int .i64 j.gen]) := fun o => kE (vs := [.int .i64 j.at_, .int .i64 j.gen]) aZ o (qE rfl rfl)
  have hby := hv.jb j hjM
  simp only [D7 h7.di, hit (o7.le h7.fr), aC, bK, a9, aU, aL, aT]
  refine ⟨?_, ?_⟩
  rotate_left
  refine jI h7 fun b8 M8' lm8 h8' => ?_
  have o8' := (h8'.aW fun h => h.right).di
  refine ⟨D7 o8', hit (o7.le h8'.fr), ?_⟩
  refine aHR (r := j.r) (x := j.r) hX7.j h8' (by simp) hfb hby fun M8 h8 => ?_
  simp only [cA, a9, aU, aL, bU, aT]
  refine vY aZ (by rfl) iL h8 fun F9 M9 l9 o9 h9 => ?_
  rotate_left
  refine aHR (r := j.r) (x := j.r) hX7.j h7 (by simp) hfb hby fun M8 h8 => ?_
  simp only [cA, a9, aU, aL, bU, aT]
  refine j9 aZ (by rfl) iL h8 fun b8 F9 M9 l9 o9 h9 => ?_
  all_goals
   have hX9 := hX7.le l9
   simp only [fB aZ (o9.le h9.fr), aC, a9, aU, aL, aT]
   refine aEQ (r := j.r) (v := j.v5) hX9 (by omega) (by omega) hfb hfw (hv.jf j hjM) h9 fun M10 ob' ow' hfb' hfw' h10 => ?_
   simp only [eZ.v, a9, aU, aL, aT]
   refine jI h10 fun b12 M12' lm12 h12' => ?_
   refine stW (vs := (eZ.mk 0 0 0 j.key j.data 0).cells) lD (by rfl) (hU _) h12' fun M12 h12 => ?_
   simp only [fB aZ (o9.le h12.fr), aC, aL, a9, aU, aT]
   refine aGm (o := 1) aZ (by exact (by decide : 3 ≤ 6)) iL h12 fun M13 h13 => ?_
   have hov : eH (eZ.mk 0 0 0 j.key j.data 0).cells 1 [.int .i64 j.r.1, .int .i64 j.r.2] = (eZ.mk 0 j.at_ j.gen j.key j.data 0).cells := by
    have := eM [.int .i64 0] [.int .i64 0, .int .i64 0] [.int .i64 j.key, .int .i64 j.data, .int .i64 0] [.int .i64 j.r.1, .int .i64 j.r.2] rfl (o := 1) rfl
    simpa [eZ.cells, Jb.r] using this
   rw [hov] at h13
   simp only [fB (vs := (eZ.mk 0 j.at_ j.gen j.key j.data 0).cells) lD h13.h.bA, aC, aL, a9, aU, aT]
   refine jJ (vs := (eZ.mk 0 j.at_ j.gen j.key j.data 0).cells) lD (by rfl) (hU _) ((h13.aW fun h => h.right).aW aA.wD) fun M14 h14 => ?_
   obtain ⟨y0', y1', hrep1, e0, e1', k0, k1⟩ := hrep y' ey1 ey2
   rw [hrep1] at hv'
   have hxa : x.r.1.toNat = j.at_.toNat := by rw [hx1]; rfl
   obtain ⟨IA2, x2, IB2, hI2, hIA, hy1, hy2, hy3, hIB⟩ := hv1.split hd
   have hsame : IA = IA2 ∧ x = x2 ∧ IB = IB2 := aBT (by rw [← hI]; exact hv.q.ind) (hI.symm.trans hI2) (hx1.trans hy1.symm)
   obtain ⟨hs1, hs2, hs3⟩ := hsame
   subst hs1 hs2 hs3
   have hou := hv1.out hd hI2 hIA hIB hv' e0 e1' k0 k1 em en (by rw [eip, hxa])
   rw [hAl] at hou
   refine hK M14 _ (lQ.of (Y' := ⟨Y.K, S', IA ++ IB, y0', y1', Y.P.fZ z5 j.at_.toNat, fT Y.nS j.r none, fT Y.wh j.r none, Y.now, Y.gI, Y.last, Y.top⟩) hfa' hfe' hfb' hfw' ((((h14.fJ l9).fJ l7).fJ l5).fJ l3) (em.trans hm) e0 e1') hou ⟨rfl, rfl, rfl, fun h0 => ?_⟩
   have hh := (hst.trans hst2) h0
   rw [hIl] at hh
   exact ⟨hh.1, hh.2.1, by have := hh.2.2; show S'.α.steps ≤ Y.S.α.steps + _; omega⟩
 cases hf : pD d.l cq with
 | none =>
  have hno := hv.aDZ hq hf
  rw [← hyh] at hno
  have hdo : fC d ⟨5, cq, ca, cg, ct, cd⟩ = (d, { why := 28 }) := by
   rw [xN (aBG hq) rfl]
   show (match pD d.l cq with | none => _ | some y => _) = _
   rw [hf]
  refine ⟨?_, ?_⟩
  rotate_left
  refine jI h3 fun b5 M4' lm4 h4' => ?_
  have o4' := (h4'.aW fun h => h.right).di
  refine ⟨D2 o4', (by rw [hyh]; exact fB aZ (o3.le h4'.fr)), ?_⟩
  refine xZ hX3.t hvq hno (h4'.aW aA.yG) fun M4 S1 h4 hv1 em en eip eat een hst => ?_
  simp only [a9, aU, aL, aT]
  refine stW (vs := kX 27 0 0 0 0 0 0 0) pX (by rfl) dS (h4.aW aA.wD) fun M5 h5 => ?_
  rotate_left
  refine xZ hX3.t hvq hno h3 fun M4 S1 h4 hv1 em en eip eat een hst => ?_
  simp only [a9, aU, aL, aT]
  refine jI h4 fun b5 M5' lm5 h5' => ?_
  refine stW (vs := kX 27 0 0 0 0 0 0 0) pX (by rfl) dS h5' fun M5 h5 => ?_
  all_goals
   simp only [lR W.c25 h5.h.bA (o := 0) rfl, aC, aL]
   rw [cD, if_neg (by decide)]
   rw [← hAB] at hv1
   exact none_ok F3 M5 b5 S1 _ hdo (Mem.le_refl _) (hv.aJU hv1 em en eip) (fun h0 => by have := hst h0; omega) (by rw [eat]; exact hfa) (by rw [een]; exact hfe) em h5
 | some x0 =>
  obtain ⟨j, A, B, hd, hAl, hjq, hje, eE, huniq⟩ := hv.first hq hf
  rw [← hyh] at eE
  refine ⟨?_, ?_⟩
  rotate_left
  refine jI h3 fun b5 M4' lm4 h4' => ?_
  have o4' := (h4'.aW fun h => h.right).di
  refine ⟨D2 o4', (by rw [hyh]; exact fB aZ (o3.le h4'.fr)), ?_⟩
  refine xF hX3.t hvq eE hfa hfe (h4'.aW aA.yG) fun M4 S1 x hxI hxy hb hfa1 hfe1 h4 hv1 em en eip hst => ?_
  simp only [a9, aU, aL, aT]
  refine stW (vs := kX 0 0 0 x.r.1 x.r.2 x.e.1 x.e.2 0) pX (by rfl) dS (h4.aW aA.wD) fun M5 h5 => ?_
  rotate_left
  refine xF hX3.t hvq eE hfa hfe h3 fun M4 S1 x hxI hxy hb hfa1 hfe1 h4 hv1 em en eip hst => ?_
  simp only [a9, aU, aL, aT]
  refine jI h4 fun b5 M5' lm5 h5' => ?_
  refine stW (vs := kX 0 0 0 x.r.1 x.r.2 x.e.1 x.e.2 0) pX (by rfl) dS h5' fun M5 h5 => ?_
  all_goals
   obtain ⟨hx1, hx3⟩ := huniq x hxI (hxy.trans hyh) (fun w hw hwh hwc => hb w hw (hwh.trans hyh.symm) hwc)
   rw [← hAB] at hv1
   rw [hIl] at hst
   have hkey : x.e.1 = x0.2.1 := by rw [hx3, hje]
   have o5 := (h5.aW fun h => h.right).di
   have c5 := (h5.aW fun h => h.right).ck
   simp only [lR W.c25 h5.h.bA (o := 0) rfl, lR W.c2 h5.h.bA (o := 5) rfl, D9 o5, aC, aL, bK]
   rw [cD, if_pos rfl]
   refine aIu c5 ?_
   rw [bU, vH, eO]
   by_cases hdue : d.now < x0.2.1
   ·rw [if_neg (by have := hv.now; omega)]
    refine none_ok F3 M5 b5 S1 _ ?_ (Mem.le_refl _) (hv.aJU hv1 em en eip) hst hfa1 hfe1 em h5
    rw [xN (aBG hq) rfl]
    show (match pD d.l cq with | none => _ | some y => _) = _
    rw [hf]
    simp only
    rw [if_pos hdue]
   ·rw [if_pos (by have := hv.now; omega)]
    exact fire_ok F3 M5 b5 S1 _ x0 (by rfl) hf hdue (Mem.le_refl _) (hv.aJU hv1 em en eip) hst hfa1 hfe1 em h5
end
end HL
namespace HL
section
variable {w0 : World} {F M : Mem} {R : VP} {os : uX} {X : wO} {Y : DSt} {S : QS} {P : PS V5} {Q : cY} {now K most b l tp : Int} {r0 r1 : dG} {oa oe ob ow : Obj} {d : rN} {tm : Int} {c : tK} {nS : dG → Option dG} {wh : dG → Option Int}
theorem rY.mono {Y' : DSt} {k j : Int} (h : rY Y Y' k) (hk : k ≤ j) : rY Y Y' j := ⟨h.b, h.l, h.t, fun h0 => by have := h.s h0; omega⟩
theorem aJv (o : cM w0 M X.bc [.int .i64 now] aCc) (h : R (.int .i64 now) M) : C PP w0 Id.dZ #[.pointer (some ⟨X.bc, 0, none⟩)] R M := by
 apply dZ.go
 unfold dZ.T aJ
 simp only [aX, add_eq, Nat.zero_add, lR W.c2 o (o := 0) rfl, aC, aL]
 exact h
theorem aKC {x : Int} (hn : fR now) (hx : fR x) (h : HO w0 F M (DO X oa oe ob ow os) (DB X S P now K most r0 r1 b l tp Q))
  (h0 : x < 0 → R (.int .i64 1) M) (h1 : 0 ≤ x → ∀ M', HO w0 F M' (DO X oa oe ob ow os) (DB X S P (jW now x) K most r0 r1 b l tp Q) → R (.int .i64 0) M') :
  C PP w0 Id.eT #[.pointer (some ⟨X.bc, 0, none⟩), .int .i64 x] R M := by
 apply eT.go
 unfold eT.T aJ
 rw [eO]
 split
 ·exact h0 (by assumption)
 ·simp only [aX, add_eq, Nat.zero_add, lR W.c2 h.ck (o := 0) rfl, aC, aL]
  refine tO hn hx ?_
  simp only [aL]
  have h2 : HO w0 F M (DO X oa oe ob ow os) (star (aY X.bc [.int .i64 now] aCc) (star (wP X.bh S.hp) (star (q9 X.bi S.ip) (star (aY X.q (qV X.a X.t X.me S.most S.next) tQs) (star (aE X.a S.α) (star (oY X.pj P) (star (aY X.d (dV X K most r0 r1 b l tp) tDi) Q))))))) :=
   h.aW fun h => (h.oG fun _ _ h => (h.oG fun _ _ h => (h.oG fun _ _ h => (h.oG fun _ _ h => h.dT).dT).dT).dT).dT
  refine aBi (o := 0) W.c2 (by simp) rfl rfl h2 fun M3 h3 => ?_
  refine h1 (by omega) M3 (h3.aW fun h => h.dT.oG fun _ _ h => h.dT.oG fun _ _ h => h.dT.oG fun _ _ h => h.dT.oG fun _ _ h => h.dT)
theorem aH5 {F1 : Mem} {b3 : Nat} {z : List Value} {rp : eZ} (l1 : Mem.le F F1) (hz : z.length = 6) (hD : lQ w0 F1 M os X Y (star (aY b3 z iI) Q)) {K : VP} (hK : ∀ M', lQ w0 F M' os X Y Q → K rp.v M') :
  (aH PP w0).st iI ⟨b3, 0, none⟩ (.agg #[.int .i64 rp.why, .int .i64 rp.at_, .int .i64 rp.gen, .int .i64 rp.time, .int .i64 rp.data, .int .i64 rp.n]) (fun M1 => HL.ob ((aH PP w0).rdv iI (.pointer (some ⟨b3, 0, none⟩)) M1) fun v => K v M1) M := by
 obtain ⟨oa, oe, ob, ow, hfa, hfe, hfb, hfw, h⟩ := hD
 refine jJ (vs := rp.cells) lD (by rw [hz]; rfl) (hU _) (h.aW aA.wD) fun M2 h2 => ?_
 exact hK M2 ⟨oa, oe, ob, ow, hfa, hfe, hfb, hfw, h2.fJ l1⟩
theorem wK {why : Int} (hD : lQ w0 F M os X Y Q) (hK : ∀ M', lQ w0 F M' os X Y Q → R (eZ.v { why := why }) M') : C PP w0 Id.cB #[.int .i64 why] R M := by
 obtain ⟨oa, oe, ob, ow, hfa, hfe, hfb, hfw, h⟩ := hD
 exact pF h fun M' h' => hK M' ⟨oa, oe, ob, ow, hfa, hfe, hfb, hfw, h'⟩
theorem lQ.fr (hD : lQ w0 F M os X Y Q) : Mem.le F M := by
 obtain ⟨oa, oe, ob, ow, hfa, hfe, hfb, hfw, h⟩ := hD
 exact h.fr
def aAY (n : Nat) : Int := 2 * dJ (n + 1) + 10
theorem aJ7 (hX : xK w0 F X) (hD : lQ w0 F M os X Y Q) (hv : dH Y d tm) (htm : tm ≤ 900000) (hct : fR c.time)
  (hK : ∀ M' Y', lQ w0 F M' os X Y' Q → dH Y' (fC d c).1 (tm + 1) → rY Y Y' (aAY d.l.length) → R (fC d c).2.v M') :
  C PP w0 Id.fK #[.pointer (some ⟨X.d, 0, none⟩), c.v] R M := by
 have hl1 : dJ d.l.length ≤ dJ (d.l.length + 1) := pC (by omega)
 have hl0 : 0 ≤ dJ d.l.length := by unfold dJ; omega
 have hsm : ∀ k : Int, k ≤ 2 * dJ (d.l.length + 1) + 10 → k ≤ aAY d.l.length := fun k hk => hk
 apply fK.go
 intro aB H
 unfold fK.T aJ
 have hD0 := hD
 obtain ⟨oa, oe, ob, ow, hfa, hfe, hfb, hfw, h⟩ := hD0
 refine rQ h fun b1 F1 M1 l1 lm1 o1 h1 => ?_
 have hX1 := hX.le l1
 refine jI h1 fun b3 M2 lm2 h2' => ?_
 have h2 := h2'.aW aA.yG
 have hD2 : lQ w0 F1 M2 os X Y (star (aY b3 [.int .i64 0, .int .i64 0, .int .i64 0, .int .i64 0, .int .i64 0, .int .i64 0] iI) Q) := ⟨oa, oe, ob, ow, hfa, hfe, hfb, hfw, h2⟩
 have hc0 : ∀ {M' : Mem}, Mem.le F1 M' → (aH PP w0).ld 3 ⟨b1, 0, none⟩ M' = some (.int .i64 c.kind) := fun hl => lR W.c3 (o1.le hl) rfl
 have hc1 : ∀ {M' : Mem}, Mem.le F1 M' → (aH PP w0).ld 3 ⟨b1, 1, none⟩ M' = some (.int .i64 c.queue) := fun hl => lR W.c3 (o1.le hl) rfl
 have hc2 : ∀ {M' : Mem}, Mem.le F1 M' → (aH PP w0).ld 33 ⟨b1, 2, none⟩ M' = some (.agg #[.int .i64 c.at_, .int .i64 c.gen]) := fun hl => kE (vs := [.int .i64 c.at_, .int .i64 c.gen]) aZ (o1.le hl) (qE rfl rfl)
 have hc4 : ∀ {M' : Mem}, Mem.le F1 M' → (aH PP w0).ld 2 ⟨b1, 4, none⟩ M' = some (.int .i64 c.time) := fun hl => lR W.c2 (o1.le hl) rfl
 have hcc : ∀ {M' : Mem}, Mem.le F1 M' → (aH PP w0).ld qA ⟨b1, 0, none⟩ M' = some c.v := fun hl => fB (vs := c.cells) W.g68 (o1.le hl)
 have key2 : ∀ M3, ¬ qI c → lQ w0 F1 M3 os X Y (star (aY b3 [.int .i64 0, .int .i64 0, .int .i64 0, .int .i64 0, .int .i64 0, .int .i64 0] iI) Q) → fK.J2 aB (some ⟨X.d, 0, none⟩) ⟨b1, 0, none⟩ ⟨b3, 0, none⟩ M3 := by
  intro M3 hnb hD3
  have fin : ∀ (M5 : Mem) (Y' : DSt) (k : Int), lQ w0 F1 M5 os X Y' (star (aY b3 [.int .i64 0, .int .i64 0, .int .i64 0, .int .i64 0, .int .i64 0, .int .i64 0] iI) Q) → dH Y' (fC d c).1 (tm + 1) → rY Y Y' k → k ≤ 2 * dJ (d.l.length + 1) + 10 →
    (aH PP w0).st iI ⟨b3, 0, none⟩ (.agg #[.int .i64 (fC d c).2.why, .int .i64 (fC d c).2.at_, .int .i64 (fC d c).2.gen, .int .i64 (fC d c).2.time, .int .i64 (fC d c).2.data, .int .i64 (fC d c).2.n]) (fun M1 => HL.ob ((aH PP w0).rdv iI (.pointer (some ⟨b3, 0, none⟩)) M1) fun v => R v M1) M5 :=
   fun M5 Y' k hD5 hv5 hst hk => aH5 l1 (by rfl) hD5 fun M' h' => hK M' Y' h' hv5 (hst.mono hk)
  refine Eq.mpr (H.J2 ..) ?_
  unfold fK.J2.T aJ
  simp (config := { maxSteps := 10000000 }) only [aX, add_eq, Nat.zero_add, hc0 hD3.fr, aC, aL]
  rw [eW]
  split
  ·rename_i hk
   have hq : c.queue = 0 ∨ c.queue = 1 := by unfold qI at hnb; omega
   simp only [hcc hD3.fr, tK.v, aC, a9, aU, aL, aT]
   refine aCR hX1 hD3 hv htm hk hq fun M5 Y' hD5 hv5 hst => ?_
   simp only [eZ.v, a9, aU, aL, aT]
   exact fin M5 Y' _ hD5 hv5 hst (by omega)
  rename_i hk1
  rw [eW]
  split
  ·rename_i hk
   simp only [hcc hD3.fr, tK.v, aC, a9, aU, aL, aT]
   refine aF6 hX1 hD3 hv htm hk fun M5 Y' hD5 hv5 hst => ?_
   simp only [eZ.v, a9, aU, aL, aT]
   exact fin M5 Y' _ hD5 (hv5.uU (by omega)) hst (by omega)
  rename_i hk2
  rw [eW]
  split
  ·rename_i hk
   simp only [hc2 hD3.fr, aC, a9, aU, aL, aT]
   refine aFZ hX1 hD3 hv htm hk fun M5 Y' hD5 hv5 hst => ?_
   simp only [eZ.v, a9, aU, aL, aT]
   exact fin M5 Y' _ hD5 hv5 hst (by omega)
  rename_i hk3
  rw [eW]
  split
  ·rename_i hk
   rw [aCq hk] at fin
   obtain ⟨oa3, oe3, ob3, ow3, gfa, gfe, gfb, gfw, g3⟩ := hD3
   simp only [D9 g3.di, hc4 g3.fr, aC, bK, aL]
   have hn64 : fR Y.now := by rw [hv.now]; exact hv.aCD
   refine aKC hn64 hct g3 (fun hneg => ?_) fun hpos M4 g4 => ?_
   ·rw [if_pos hneg] at fin
    rw [aL, cD, if_neg (by decide)]
    refine wK (Y := Y) ⟨oa3, oe3, ob3, ow3, gfa, gfe, gfb, gfw, g3⟩ fun M5 hD5 => ?_
    simp only [eZ.v, a9, aU, aL, aT]
    exact fin M5 Y 0 hD5 (hv.uU (by omega)) (rY.qD (Int.le_refl _)) (by omega)
   ·rw [if_neg (by omega)] at fin
    rw [aL, cD, if_pos rfl]
    simp only [D9 g4.di, aC, bK]
    refine aJv g4.ck ?_
    rw [hv.now] at g4 ⊢
    simp only [aL, bR2, aC, a9, aU, aT]
    exact fin M4 { Y with now := jW d.now c.time } 0 ⟨oa3, oe3, ob3, ow3, gfa, gfe, gfb, gfw, g4⟩ ((hv.go aCF).uU (by omega)) ⟨rfl, rfl, rfl, fun h0 => by
     show Y.S.α.steps ≤ _ ∧ Y.S.α.steps ≤ Y.S.α.steps ∧ Y.S.α.steps ≤ Y.S.α.steps + 0; omega⟩ (by omega)
  rename_i hk4
  rw [eW]
  split
  ·rename_i hk
   have hq : c.queue = 0 ∨ c.queue = 1 := by unfold qI at hnb; omega
   simp only [hc1 hD3.fr, aC, aL]
   refine aID hX1 hD3 hv htm hk hq fun M5 Y' hD5 hv5 hst => ?_
   simp only [eZ.v, a9, aU, aL, aT]
   exact fin M5 Y' _ hD5 hv5 hst (by omega)
  rename_i hk5
  rw [eW]
  split
  ·rename_i hk
   have hq : c.queue = 0 ∨ c.queue = 1 := by unfold qI at hnb; omega
   simp only [hc1 hD3.fr, aC, aL]
   rw [eW]
   split
   ·rename_i hq0
    rw [aAo hnb hk, if_pos hq0] at fin
    refine wK hD3 fun M5 hD5 => ?_
    simp only [eZ.v, a9, aU, aL, aT]
    exact fin M5 Y 0 hD5 (hv.uU (by omega)) (rY.qD (Int.le_refl _)) (by omega)
   ·rename_i hq0
    refine aHM hX1 hD3 hv htm hk (by omega) fun M5 Y' hD5 hv5 hst => ?_
    simp only [eZ.v, a9, aU, aL, aT]
    exact fin M5 Y' _ hD5 hv5 hst (by omega)
  rename_i hk6
  rw [eW]
  split
  ·rename_i hk
   rw [aCz hnb hk] at fin
   obtain ⟨oa3, oe3, ob3, ow3, gfa, gfe, gfb, gfw, g3⟩ := hD3
   obtain ⟨e1, e2, e3, e4, e5⟩ := hv.wT
   simp only [D7 g3.di, hc1 g3.fr, aC, aL, bK]
   refine aFy hX1.j g3.toJ (by omega) hv.pg1 fun M4 g4' => ?_
   have g4 := g4'.ofJ
   rw [hv.cnt]
   simp only [aL, bR4, aC, a9, aU, aT]
   exact fin M4 Y 0 ⟨oa3, oe3, ob3, ow3, gfa, gfe, gfb, gfw, g4⟩ (hv.uU (by omega)) (rY.qD (Int.le_refl _)) (by omega)
  ·rw [aB5 (by omega)] at fin
   refine wK hD3 fun M5 hD5 => ?_
   simp only [eZ.v, a9, aU, aL, aT]
   exact fin M5 Y 0 hD5 (hv.uU (by omega)) (rY.qD (Int.le_refl _)) (by omega)
 have key1 : ∀ M3 (rt : Bool), (rt = true ↔ (0 ≤ c.queue ∧ c.queue < 2)) → lQ w0 F1 M3 os X Y (star (aY b3 [.int .i64 0, .int .i64 0, .int .i64 0, .int .i64 0, .int .i64 0, .int .i64 0] iI) Q) → fK.J1 aB (some ⟨X.d, 0, none⟩) ⟨b1, 0, none⟩ ⟨b3, 0, none⟩ rt M3 := by
  intro M3 rt hrt hD3
  have bad : qI c → C PP w0 Id.cB #[.int .i64 1] (fun v M => shA v fun n => dA n fun u r => nA .i64 u fun n => dA r fun u r => nA .i64 u fun n_1 => dA r fun u r => nA .i64 u fun n_2 => dA r fun u r => nA .i64 u fun n_3 => dA r fun u r => nA .i64 u fun n_4 => dA r fun u r => nA .i64 u fun n_5 => qB r ((aH PP w0).st iI ⟨b3, 0, none⟩ (.agg #[.int .i64 n, .int .i64 n_1, .int .i64 n_2, .int .i64 n_3, .int .i64 n_4, .int .i64 n_5]) (fun M => HL.ob ((aH PP w0).rdv iI (.pointer (some ⟨b3, 0, none⟩)) M) fun v => R v M) M)) M3 := by
   intro hb
   rw [vM hb] at hK
   refine wK hD3 fun M5 hD5 => ?_
   simp only [eZ.v, a9, aU, aL, aT]
   exact aH5 (rp := { why := 1 }) l1 (by rfl) hD5 fun M' h' => hK M' Y h' (hv.uU (by omega)) (rY.qD (by unfold aAY; omega))
  refine Eq.mpr (H.J1 ..) ?_
  unfold fK.J1.T aJ
  simp only [hc0 hD3.fr, aC, aL, eW, vH]
  cases hr : rt with
  | true =>
   have hnb : ¬ qI c := by have := hrt.1 hr; unfold qI; omega
   simp only [dU, ite_self]
   exact key2 M3 hnb hD3
  | false =>
   have hq : c.queue < 0 ∨ 2 ≤ c.queue := by
    have : ¬ (0 ≤ c.queue ∧ c.queue < 2) := fun h => by rw [hrt.2 h] at hr; cases hr
    omega
   simp only [mT]
   by_cases h1 : c.kind = 1
   ·rw [if_pos h1, if_pos h1]; exact bad ⟨.inl h1, hq⟩
   ·rw [if_neg h1]
    by_cases h5 : c.kind = 5
    ·rw [if_pos h5, if_pos h5]; exact bad ⟨.inr (.inl h5), hq⟩
    ·rw [if_neg h5]
     by_cases h6 : c.kind = 6
     ·rw [if_pos h6, if_pos h6]; exact bad ⟨.inr (.inr (.inl h6)), hq⟩
     ·rw [if_neg h6]
      by_cases h7 : c.kind = 7
      ·rw [if_pos h7]; exact bad ⟨.inr (.inr (.inr h7)), hq⟩
      ·rw [if_neg h7]; exact key2 M3 (by unfold qI; omega) hD3
 simp only [add_eq, Nat.zero_add, hc1 hD2.fr, aC, aL]
 rw [eO]
 split
 ·exact key1 M2 _ (by rw [decide_eq_true_eq]; omega) hD2
 ·exact key1 M2 _ (by constructor; (intro h; cases h); omega) hD2
end
end HL
namespace HL
structure aHZ (Y : DSt) : Prop where
 b : Y.gI = 2000 + 1600 * (bl (Y.S.most.toNat + 1) : Int)
 l : Y.last ≤ Y.gI
 t0 : 0 ≤ Y.top
 t : Y.top ≤ Y.gI
section
variable {w0 : World} {F M : Mem} {R : VP} {os : uX} {X : wO} {Y : DSt} {S : QS} {P : PS V5} {Q : cY} {now K most b l tp : Int} {r0 r1 : dG} {oa oe ob ow : Obj} {d : rN} {tm : Int} {c : tK} {nS : dG → Option dG} {wh : dG → Option Int}
theorem D10 (o : cM w0 M X.d (dV X K most r0 r1 b l tp) tDi) : (aH PP w0).ld 2 ⟨X.d, 10, none⟩ M = some (.int .i64 b) := lR W.c2 o rfl
theorem D11 (o : cM w0 M X.d (dV X K most r0 r1 b l tp) tDi) : (aH PP w0).ld 2 ⟨X.d, 11, none⟩ M = some (.int .i64 l) := lR W.c2 o rfl
theorem D12 (o : cM w0 M X.d (dV X K most r0 r1 b l tp) tDi) : (aH PP w0).ld 2 ⟨X.d, 12, none⟩ M = some (.int .i64 tp) := lR W.c2 o rfl
theorem aLV {v : Int} (h : HO w0 F M (DO X oa oe ob ow os) (DB X S P now K most r0 r1 b l tp Q)) {K' : Mem → Prop} (hK : ∀ M', HO w0 F M' (DO X oa oe ob ow os) (DB X S P now K most r0 r1 b v tp Q) → K' M') : (aH PP w0).st 2 ⟨X.d, 11, none⟩ (.int .i64 v) (fun M' => K' M') M :=
 aBi (o := 11) W.c2 (by simp) rfl rfl (h.aW aA.sev) fun M' h' => hK M' (h'.aW aA.bck)
theorem aLN {v : Int} (h : HO w0 F M (DO X oa oe ob ow os) (DB X S P now K most r0 r1 b l tp Q)) {K' : Mem → Prop} (hK : ∀ M', HO w0 F M' (DO X oa oe ob ow os) (DB X S P now K most r0 r1 b l v Q) → K' M') : (aH PP w0).st 2 ⟨X.d, 12, none⟩ (.int .i64 v) (fun M' => K' M') M :=
 aBi (o := 12) W.c2 (by simp) rfl rfl (h.aW aA.sev) fun M' h' => hK M' (h'.aW aA.bck)
theorem aF7 {c : tK} : (fC d c).1.most = d.most := by
 have ho : ∀ k, (d.out k).most = d.most := fun k => by unfold rN.out; split <;> rfl
 by_cases hb : qI c
 ·rw [vM hb]
 ·rcases (by omega : c.kind = 1 ∨ (c.kind = 2 ∨ c.kind = 3) ∨ c.kind = 4 ∨ c.kind = 5 ∨ c.kind = 6 ∨ c.kind = 7 ∨ (c.kind < 1 ∨ 7 < c.kind)) with h | h | h | h | h | h | h
  ·rw [aAH hb h]; split <;> rfl
  ·rw [yK h]
   split
   ·rfl
   ·split
    ·rfl
    ·split
     ·rfl
     ·split
      ·exact ho _
      ·split <;> rfl
  ·rw [aCq h]; split <;> rfl
  ·rw [xN hb h]
   split
   ·rfl
   ·split
    ·rfl
    ·split
     ·rfl
     ·exact ho _
  ·rw [aAo hb h]; split <;> rfl
  ·rw [aCz hb h]
  ·rw [aB5 h]
theorem aJT (hX : xK w0 F X) (hD : lQ w0 F M os X Y Q) (hv : dH Y d tm) (hb : aHZ Y) (htm : tm ≤ 900000) (hct : fR c.time)
  (hK : ∀ M' Y', lQ w0 F M' os X Y' Q → dH Y' (fC d c).1 (tm + 1) → aHZ Y' → Y'.gI = Y.gI → R (fC d c).2.v M') :
  C PP w0 Id.vT #[.pointer (some ⟨X.d, 0, none⟩), c.v] R M := by
 obtain ⟨oa, oe, ob, ow, hfa, hfe, hfb, hfw, h⟩ := hD
 obtain ⟨e1, e2, e3, e4, e5⟩ := hv.wT
 have hst0 := hv.q.inv.steps
 apply vT.go
 unfold vT.T aJ
 refine rQ h fun b1 F1 M1 l1 lm1 o1 h1 => ?_
 have hX1 := hX.le l1
 refine jI h1 fun b3 M2 lm2 h2' => ?_
 have h2 := h2'.aW aA.yG
 simp (config := { maxSteps := 10000000 }) only [aX, add_eq, Nat.zero_add, D2 h2.di, aC, bK]
 refine aBy h2 ?_
 have hcc : ∀ {M' : Mem}, Mem.le F1 M' → (aH PP w0).ld qA ⟨b1, 0, none⟩ M' = some c.v := fun hl => fB (vs := c.cells) W.g68 (o1.le hl)
 simp only [aL, hcc h2.fr, tK.v, aC, a9, aU, aT]
 refine aJ7 hX1 ⟨oa, oe, ob, ow, hfa, hfe, hfb, hfw, h2⟩ hv htm hct fun M3 Y' hD3 hv3 hstp => ?_
 obtain ⟨oa', oe', ob', ow', gfa, gfe, gfb, gfw, g3⟩ := hD3
 simp only [eZ.v, a9, aU, aL, aT]
 refine j9 (vs := (fC d c).2.cells) lD (by rfl) (hU _) g3 fun b4 F4 M4 l4 o4 g4 => ?_
 simp only [D2 g4.di, aC, bK]
 refine aBy g4 ?_
 have hs := hstp.s ⟨hst0.1, hst0.2.2⟩
 have hm' : Y'.S.most = Y.S.most := by
  have a1 := hv3.most
  have a2 := hv.most
  have a3 : (fC d c).1.most = d.most := aF7
  omega
 have hbu : aAY d.l.length ≤ Y.gI := by
  rw [hb.b]
  unfold aAY dJ
  have hb1 : bl (d.l.length + 1) ≤ bl (Y.S.most.toNat + 1) := aB1 (by have := hv.most; omega)
  omega
 have hw : p4 (Y'.S.α.steps - Y.S.α.steps) = Y'.S.α.steps - Y.S.α.steps := bC (by omega)
 simp only [aL, hw]
 refine aLV g4 fun M5 g5 => ?_
 simp only [D12 g5.di, D11 g5.di, aC, aL]
 refine aLN g5 fun M6 g6 => ?_
 simp only [D11 g6.di, D10 g6.di, aC, aL]
 rw [eO, if_neg (by have := hstp.b; omega)]
 simp only [fB (vs := (fC d c).2.cells) lD (o4.le g6.fr), aC, a9, aU, aL, aT]
 refine jJ (vs := (fC d c).2.cells) lD (by rfl) (hU _) (g6.aW aA.wD) fun M7 g7 => ?_
 have htop := hstp.t
 have hbb := hstp.b
 refine hK M7 { Y' with last := Y'.S.α.steps - Y.S.α.steps, top := if Y'.S.α.steps - Y.S.α.steps > Y'.top then Y'.S.α.steps - Y.S.α.steps else Y'.top } ⟨oa', oe', ob', ow', gfa, gfe, gfb, gfw, (g7.fJ l4).fJ l1⟩ ⟨hv3.q, hv3.K3, hv3.k0, hv3.k1, hv3.pk, hv3.ipk, hv3.most, hv3.now, hv3.aCD, hv3.nx, hv3.par, hv3.qr, hv3.jf, hv3.jb, hv3.jb2, hv3.jw, hv3.lv, hv3.sn, hv3.sl⟩ ⟨?_, ?_, ?_, ?_⟩ hstp.b
 ·show Y'.gI = 2000 + 1600 * (bl (Y'.S.most.toNat + 1) : Int)
  rw [hbb, hb.b, hm']
 ·show Y'.S.α.steps - Y.S.α.steps ≤ Y'.gI
  omega
 ·show 0 ≤ if Y'.S.α.steps - Y.S.α.steps > Y'.top then Y'.S.α.steps - Y.S.α.steps else Y'.top
  have := hb.t0
  split <;> omega
 ·show (if Y'.S.α.steps - Y.S.α.steps > Y'.top then Y'.S.α.steps - Y.S.α.steps else Y'.top) ≤ Y'.gI
  have := hb.t
  split <;> omega
theorem aJn (hX : xK w0 F X) (hD : lQ w0 F M os X Y Q) (hv : dH Y d tm) (hK : R (.int .i64 d.l.length) M) : C PP w0 Id.rA #[.pointer (some ⟨X.d, 0, none⟩)] R M := by
 obtain ⟨oa, oe, ob, ow, hfa, hfe, hfb, hfw, h⟩ := hD
 obtain ⟨e1, e2, e3, e4, e5⟩ := hv.wT
 apply rA.go
 unfold rA.T aJ
 simp only [aX, add_eq, Nat.zero_add, D7 h.di, aC, bK]
 refine aER hX.j h.toJ (by omega) (by omega) ?_
 rw [aL, show (Y.P.l.length - Y.P.free.length : Nat) = d.l.length from by omega]
 exact hK
theorem HO.beside {A B : cY} {M' : Mem} (h : HO w0 F M os A) (h2 : aA w0 M M' B) : HO w0 F M' os (star B A) :=
 ⟨h.nd, fun x hx => ⟨(h.at_ x hx).1, (h.at_ x hx).2.1, h2.fr _ _ (h.at_ x hx).2.2⟩, h.h.beside h2⟩
theorem aIi {A : cY} {n : Int} (h : HO w0 F M os A) (h1 : 1 ≤ n) (h2 : n ≤ 300)
  (hK : ∀ F' M' t bh bi ma oa, Mem.le F F' → cM w0 F' t (wS bh bi ma) wN → dF (Value.int .i64) bX (fun _ => none) oa → HO w0 F' M' ((ma, oa) :: os) (star (wP bh ⟨64, [], []⟩) (star (q9 bi ⟨n, [], []⟩) A)) → R (.pointer (some ⟨t, 0, none⟩)) M') :
  C PP w0 Id.kL #[.int .i64 n] R M := by
 apply kL.go
 unfold kL.T aJ
 obtain ⟨F1, hB, l1, back⟩ := h.xJ
 refine aIT hB (by omega) (by omega) fun M1 bh h1' => ?_
 have g1 := back M1 _ h1'
 rw [bK, show (if (if 16384 < n then (16384 : Int) else n) > 1 then (if 16384 < n then (16384 : Int) else n) else 1) = n from by rw [if_neg (by omega : ¬ 16384 < n)]; split <;> omega]
 obtain ⟨F2, hB2, l2, back2⟩ := g1.xJ
 refine aI6 hB2 (by omega) (by omega) fun M2 bi h2' => ?_
 have g2 := back2 M2 _ h2'
 rw [bK]
 refine aIZ (kf := Value.int .i64) (vf := bX) fun ma oa hm hw hf => ?_
 have g3 := g2.new hw hm (o := oa)
 generalize Mem.set M2 ma _ = M3 at g3 ⊢
 have hbld : (aH PP w0).nM 156 [(0, .pointer (some ⟨bh, 0, none⟩)), (1, .pointer (some ⟨bi, 0, none⟩)), (2, .map (some ma))] = some (.agg #[.pointer (some ⟨bh, 0, none⟩), .pointer (some ⟨bi, 0, none⟩), .map (some ma)]) := by kernel_rfl
 simp only [hbld, aC, a9, aU, bK, aT]
 refine rQ g3 fun t F4 M4 l4 lm4 o4 g4 => ?_
 exact hK F4 M4 t bh bi ma oa l4 o4 hf (g4.aW aA.dT)
theorem aFq {A : cY} {n : Nat} (h : HO w0 F M os A) (h1 : 1 ≤ n) (h2 : n ≤ 300)
  (hK : ∀ F' M' q a t bh bi ma me oa oe, Mem.le F F' → cM w0 F' t (wS bh bi ma) wN → dF (Value.int .i64) bX (fun _ => none) oa → dF bX mJ (fun _ => none) oe →
   HO w0 F' M' ((ma, oa) :: (me, oe) :: os) (QA q a t bh bi me ⟨n, 0, AS.new (2 * n), ⟨64, [], []⟩, ⟨n, [], []⟩, fun _ => none, fun _ => none⟩ A) → R (.tuple #[.pointer (some ⟨q, 0, none⟩), .int .i64 0]) M') :
  C PP w0 Id.jN #[.int .i64 n] R M := by
 apply jN.go
 intro aB H
 unfold jN.T aJ
 (rw [eO, if_neg (by omega), eO, if_neg (by omega)]; refine Eq.mpr (H.J1 ..) ?_)
 unfold jN.J1.T aJ
 rw [show p4 (2 * (n : Int)) = ((2 * n : Nat) : Int) from by rw [bC (by omega)]; omega]
 refine aJX fun M1 a hA => ?_
 rw [show (if (if 65536 < ((2 * n : Nat) : Int) then (65536 : Int) else ((2 * n : Nat) : Int)) > 0 then (if 65536 < ((2 * n : Nat) : Int) then (65536 : Int) else ((2 * n : Nat) : Int)) else 0).toNat = 2 * n from by
  rw [if_neg (by omega : ¬ 65536 < ((2 * n : Nat) : Int))]; split <;> omega] at hA
 have g1 := h.beside hA
 rw [bK]
 refine aIi g1 (by omega) (by omega) fun F2 M2 t bh bi ma oa l2 o2 hfa g2 => ?_
 rw [bK]
 refine aIZ (kf := bX) (vf := mJ) fun me oe hm hw hf => ?_
 have g3 := g2.new hw hm (o := oe)
 generalize Mem.set M2 me _ = M3 at g3 ⊢
 have hbld : (aH PP w0).nM tQs [(0, .int .i64 n), (1, .pointer (some ⟨a, 0, none⟩)), (2, .pointer (some ⟨t, 0, none⟩)), (3, .map (some me))] = some (.agg #[.int .i64 n, .pointer (some ⟨a, 0, none⟩), .pointer (some ⟨t, 0, none⟩), .map (some me), .int .i64 0]) := by kernel_rfl
 simp only [hbld, aC, a9, aU, bK, aL, aT]
 refine jI g3 fun q M4 lm4 g4 => ?_
 refine hK F2 M4 q a t bh bi ma me oa oe l2 o2 hfa hf ((g4.aW fun h => h.dT.oG fun _ _ h => h.dT).perm (List.Perm.swap _ _ _))
end
end HL
namespace HL
section
variable {w0 : World} {F M : Mem}
theorem aA.dp5 {X A B C D E Q : cY} (h : aA w0 F M (star X (star A (star B (star C (star D (star E Q))))))) : aA w0 F M (star A (star B (star C (star D (star E (star X Q)))))) :=
 h.dT.oG fun _ _ h => h.dT.oG fun _ _ h => h.dT.oG fun _ _ h => h.dT.oG fun _ _ h => h.dT
theorem aA.dp6 {X A B C D E G Q : cY} (h : aA w0 F M (star X (star A (star B (star C (star D (star E (star G Q)))))))) : aA w0 F M (star A (star B (star C (star D (star E (star G (star X Q))))))) :=
 h.dT.oG fun _ _ h => h.dT.oG fun _ _ h => h.dT.oG fun _ _ h => h.dT.oG fun _ _ h => h.dT.oG fun _ _ h => h.dT
end
section
variable {w0 : World} {F M : Mem} {R : VP} {os : uX} {A : cY}
theorem aJf {n : Int} (h : HO w0 F M os A) (h1 : 1 ≤ n) (h2 : n ≤ 300)
  (hK : ∀ F' M' jt pj mb ob, Mem.le F F' → cM w0 F' jt (jtV pj mb) tJt → dF bX bX (fun _ => none) ob → HO w0 F' M' ((mb, ob) :: os) (star (oY pj ⟨n, [], []⟩) A) → R (.pointer (some ⟨jt, 0, none⟩)) M') :
  C PP w0 Id.mL #[.int .i64 n] R M := by
 apply mL.go
 unfold mL.T aJ
 obtain ⟨F1, hB, l1, back⟩ := h.xJ
 rw [show (if (if 4096 < n then (4096 : Int) else n) > 1 then (if 4096 < n then (4096 : Int) else n) else 1) = n from by rw [if_neg (by omega : ¬ 4096 < n)]; split <;> omega]
 refine aII hB (by omega) (by omega) fun M1 pj h1' => ?_
 have g1 := back M1 _ h1'
 rw [bK]
 refine aIZ (kf := bX) (vf := bX) fun mb ob hm hw hf => ?_
 have g3 := g1.new hw hm (o := ob)
 generalize Mem.set M1 mb _ = M3 at g3 ⊢
 have hbld : (aH PP w0).nM tJt [(0, .pointer (some ⟨pj, 0, none⟩)), (1, .map (some mb))] = some (.agg #[.pointer (some ⟨pj, 0, none⟩), .map (some mb)]) := by kernel_rfl
 simp only [hbld, aC, a9, aU, bK, aT]
 refine rQ g3 fun jt F4 M4 l4 lm4 o4 g4 => ?_
 exact hK F4 M4 jt pj mb ob l4 o4 hf g4
theorem aJr (h : HO w0 F M os A) (hK : ∀ M' bc, HO w0 F M' os (star (aY bc [.int .i64 0] aCc) A) → R (.pointer (some ⟨bc, 0, none⟩)) M') : C PP w0 Id.kF #[] R M := by
 apply kF.go
 unfold kF.T aJ
 have hbld : (aH PP w0).nM aCc [] = some (.agg #[.int .i64 0]) := by kernel_rfl
 simp only [hbld, aC, a9, aU, aL, aT]
 exact jI h fun bc M' lm h' => hK M' bc h'
theorem aIA {k : Int} {n : Nat} (h : HO w0 F M os A) (hk1 : 1 ≤ k) (hk3 : k ≤ 3) (h1 : 1 ≤ n) (h2 : n ≤ 300)
  (hK : ∀ F' M' X Y, Mem.le F F' → xK w0 F' X → lQ w0 F' M' os X Y A → dH Y (rN.new n) 2 → aHZ Y → R (.tuple #[.pointer (some ⟨X.d, 0, none⟩), .int .i64 0]) M') :
  C PP w0 Id.bG #[.int .i64 k, .int .i64 n] R M := by
 apply bG.go
 intro aB H
 unfold bG.T aJ
 have hw : rZ k := ⟨hk1, hk3⟩
 refine aAx ?_
 rw [bU, decide_eq_true hw, Bool.not_true, mT]
 refine aGa hw (by omega) (by omega) ?_
 rw [Int.toNat_natCast]
 simp only [cA, aU, aL, bU, aT, Bool.not_true, mT]
 refine aFq h h1 h2 fun F1 M1 q a t bh bi ma me oa oe l1 oT hfa hfe g1 => ?_
 simp only [cA, aU, bK, aL, aT]
 refine aJf g1 (by omega) (by omega) fun F2 M2 jt pj mb ob l2 oJ hfb g2 => ?_
 rw [bK]
 refine aIZ (kf := bX) (vf := Value.int .i64) fun mw ow hm hw2 hfw => ?_
 have g3 := (g2.new hw2 hm (o := ow)).aW aA.dp
 generalize Mem.set M2 mw _ = M3 at g3 ⊢
 refine aJr g3 fun M4 bc g4' => ?_
 have g4 := g4'.aW aA.dp5
 have hbld : (aH PP w0).nM tDi [(0, .int .i64 k), (1, .int .i64 n), (2, .pointer (some ⟨q, 0, none⟩)), (4, .pointer (some ⟨jt, 0, none⟩)), (5, .map (some mw)), (6, .pointer (some ⟨bc, 0, none⟩)), (7, .int .i64 (2000 + 1600 * (bl (n + 1) : Int)))] =
   some (.agg #[.int .i64 k, .int .i64 n, .pointer (some ⟨q, 0, none⟩), .int .i64 0, .int .i64 0, .int .i64 0, .int .i64 0, .pointer (some ⟨jt, 0, none⟩), .map (some mw), .pointer (some ⟨bc, 0, none⟩), .int .i64 (2000 + 1600 * (bl (n + 1) : Int)), .int .i64 0, .int .i64 0]) := by kernel_rfl
 simp only [bK, hbld, aC, a9, aU, aL, aT]
 refine jI g4 fun dd M5 lm5 g5' => ?_
 have hperm : ((mw, ow) :: (mb, ob) :: (ma, oa) :: (me, oe) :: os).Perm ((ma, oa) :: (me, oe) :: (mb, ob) :: (mw, ow) :: os) := by
  refine (aEz (mw, ow) (mb, ob) (ma, oa) ((me, oe) :: os)).trans (List.Perm.cons _ ?_)
  refine (aEz (mw, ow) (mb, ob) (me, oe) os).trans (List.Perm.cons _ ?_)
  exact List.Perm.swap _ _ _
 let X : wO := ⟨dd, q, a, t, bh, bi, me, ma, jt, pj, mb, mw, bc⟩
 have g5 : HO w0 F2 M5 (DO X oa oe ob ow os) (DB X ⟨n, 0, AS.new (2 * n), ⟨64, [], []⟩, ⟨n, [], []⟩, fun _ => none, fun _ => none⟩ ⟨n, [], []⟩ 0 k n (0, 0) (0, 0) (2000 + 1600 * (bl (n + 1) : Int)) 0 0 A) :=
  (g5'.aW aA.dp6).perm hperm
 have oT2 := oT.le l2
 have hv0 := dR.aKY h1 h2
 refine ⟨3, ?_⟩
 show bG.L1 aB (2 + 1) k (some ⟨q, 0, none⟩) (some ⟨dd, 0, none⟩) 0 M5
 refine Eq.mpr (H.L1 ..) ?_
 unfold bG.L1.T aJ
 rw [eO, if_pos (by omega)]
 simp only [aX, add_eq, Nat.zero_add, wF, aC, a9, aU, aL, aT]
 refine uM oT2 hv0 (by omega) hk1 hk3 (by simp) g5 fun M6 S1 r g6 hv1 hnil1 em en eip eat een hst => ?_
 simp only [a9, aU, aL, aT]
 refine ⟨⟨by omega, by omega⟩, ?_⟩
 refine aGm (o := 3) aZ (by exact (by decide : 5 ≤ 13)) iL (g6.aW aA.sev) fun M7 g7' => ?_
 have hov : eH (dV X k n (0, 0) (0, 0) (2000 + 1600 * (bl (n + 1) : Int)) 0 0) 3 [.int .i64 r.1, .int .i64 r.2] = dV X k n r (0, 0) (2000 + 1600 * (bl (n + 1) : Int)) 0 0 := by
  have := eM [.int .i64 k, .int .i64 n, .pointer (some ⟨X.q, 0, none⟩)] [.int .i64 0, .int .i64 0] [.int .i64 0, .int .i64 0, .pointer (some ⟨X.jt, 0, none⟩), .map (some X.mw), .pointer (some ⟨X.bc, 0, none⟩), .int .i64 (2000 + 1600 * (bl (n + 1) : Int)), .int .i64 0, .int .i64 0] [.int .i64 r.1, .int .i64 r.2] rfl (o := 3) rfl
  simpa using this
 rw [hov] at g7'
 have g7 : HO w0 F2 M7 (DO X oa oe ob ow os) (DB X S1 ⟨n, [], []⟩ 0 k n r (0, 0) (2000 + 1600 * (bl (n + 1) : Int)) 0 0 A) := g7'.aW aA.bck
 show bG.L1 aB (1 + 1) k (some ⟨q, 0, none⟩) (some ⟨dd, 0, none⟩) (p4 (0 + 1)) M7
 (rw [show p4 (0 + 1) = 1 from rfl]; refine Eq.mpr (H.L1 ..) ?_)
 unfold bG.L1.T aJ
 rw [eO, if_pos (by omega)]
 simp only [aX, add_eq, Nat.zero_add, wF, aC, a9, aU, aL, aT]
 refine uM oT2 hv1 (by omega) hk1 hk3 (by simp) g7 fun M8 S2 r2 g8 hv2 hnil2 em2 en2 eip2 eat2 een2 hst2 => ?_
 simp only [a9, aU, aL, aT]
 refine ⟨⟨by omega, by omega⟩, ?_⟩
 refine aGm (o := 5) aZ (by exact (by decide : 7 ≤ 13)) iL (g8.aW aA.sev) fun M9 g9' => ?_
 have hov2 : eH (dV X k n r (0, 0) (2000 + 1600 * (bl (n + 1) : Int)) 0 0) 5 [.int .i64 r2.1, .int .i64 r2.2] = dV X k n r r2 (2000 + 1600 * (bl (n + 1) : Int)) 0 0 := by
  have := eM [.int .i64 k, .int .i64 n, .pointer (some ⟨X.q, 0, none⟩), .int .i64 r.1, .int .i64 r.2] [.int .i64 0, .int .i64 0] [.pointer (some ⟨X.jt, 0, none⟩), .map (some X.mw), .pointer (some ⟨X.bc, 0, none⟩), .int .i64 (2000 + 1600 * (bl (n + 1) : Int)), .int .i64 0, .int .i64 0] [.int .i64 r2.1, .int .i64 r2.2] rfl (o := 5) rfl
  simpa using this
 rw [hov2] at g9'
 have g9 : HO w0 F2 M9 (DO X oa oe ob ow os) (DB X S2 ⟨n, [], []⟩ 0 k n r r2 (2000 + 1600 * (bl (n + 1) : Int)) 0 0 A) := g9'.aW aA.bck
 show bG.L1 aB (0 + 1) k (some ⟨q, 0, none⟩) (some ⟨dd, 0, none⟩) (p4 (1 + 1)) M9
 (rw [show p4 (1 + 1) = 2 from rfl]; refine Eq.mpr (H.L1 ..) ?_)
 unfold bG.L1.T aJ
 rw [eO, if_neg (by omega)]
 have hmo : S2.most = (n : Int) := em2.trans em
 have hfa2 : dF (Value.int .i64) bX S2.at_ oa := by rw [eat2, eat]; exact hfa
 have hfe2 : dF bX mJ S2.en oe := by rw [een2, een]; exact hfe
 have hbl0 : (0 : Int) ≤ 2000 + 1600 * (bl (n + 1) : Int) := by omega
 refine hK F2 M9 X ⟨k, S2, [], ⟨r, k, -1, []⟩, ⟨r2, k, -1, []⟩, ⟨n, [], []⟩, fun _ => none, fun _ => none, 0, 2000 + 1600 * (bl (n + 1) : Int), 0, 0⟩ (Mem.le_trans l1 l2) ⟨oT2, oJ⟩ (lQ.of hfa2 hfe2 hfb hfw g9 hmo rfl rfl)
  ⟨hv2, ⟨hk1, hk3⟩, rfl, rfl, rfl, by show S2.ip.pl = _; rw [eip2, eip]; rfl, hmo, rfl, by show fR 0; unfold fR; omega, en2.trans en, rfl, fun j hj => (by cases hj), fun j hj => (by cases hj), fun j hj => (by cases hj), fun r x hx => (by cases hx), fun j hj => (by cases hj), fun b g v hv => ?_, List.nodup_nil, fun j hj => (by cases hj)⟩
  ⟨by show _ = 2000 + 1600 * (bl (S2.most.toNat + 1) : Int); rw [hmo, Int.toNat_natCast], hbl0, Int.le_refl _, hbl0⟩
 ·obtain ⟨j, q1, q2, q3⟩ := PS.bH hv
  simp at q2
end
end HL
namespace HL
section
variable {w0 : World} {M M0 F : Mem} {R : VP}
def emp : cY := fun r => r = []
end
end HL
namespace HL
section
variable {w0 : World} {F M : Mem} {R : VP} {os : uX} {A : cY}
theorem aA.aLb : aA w0 M M emp := ⟨[], rfl, Fit.nil (Mem.le_refl _)⟩
theorem aD3 {n lo hi : Int} (h1 : lo ≤ n) (h2 : n ≤ hi) (h : R (.int .i64 n) M) : C PP w0 Id.cK #[.int .i64 n, .int .i64 lo, .int .i64 hi] R M := by
 apply cK.go
 intro aB H
 unfold cK.T aJ
 simp only [eO]
 rw [if_pos (by omega), if_pos (by omega)]
 exact h
theorem aKK (h : R (.int .i64 500) M) : C PP w0 Id.eX #[.int .i64 1, .int .i64 1, .int .i64 0] R M := by
 apply eX.go
 intro aB H
 unfold eX.T aJ
 refine aBQ ?_
 rw [bU, decide_eq_true (by decide), dU, eW, if_neg (by decide)]
 refine aAx ?_
 (rw [bU, decide_eq_true (show rZ 1 by unfold rZ; omega), Bool.not_true, mT]; refine Eq.mpr (H.J1 ..) ?_)
 unfold eX.J1.T aJ
 simp only [eW]
 rw [if_neg (by decide), if_neg (by decide), if_neg (by decide), if_neg (by decide), if_neg (by decide), if_neg (by decide)]
 exact h
theorem aHu (hK : ∀ M', R (.bool true) M') : C PP w0 Id.eS #[] R M := by
 apply eS.go
 intro aB H
 unfold eS.T aJ
 refine aFq (n := 2) (HO.of (aA.aLb (w0 := w0) (M := M))) (by decide) (by decide) fun F1 M1 q a t bh bi ma me oa oe l1 oT hfa hfe g1 => ?_
 simp only [cA, aU, bK, aL, aT, z2 Tryz.underlying24, aC, bU, Option.isNone_some, mT]
 rw [cD, if_pos rfl]
 show eS.J1 aB (some ⟨q, 0, none⟩) M1
 refine Eq.mpr (H.J1 ..) ?_
 unfold eS.J1.T aJ
 have hv0 := dR.aKY (most := 2) (by decide) (by decide)
 simp only [aX, add_eq, Nat.zero_add, wF, aC, a9, aU, aL, aT]
 refine uM oT hv0 (by omega) (by omega) (by omega) (by simp) g1 fun M2 S1 r g2 hv1 hnil em en eip eat een hst => ?_
 simp only [a9, aU, aL, aT]
 refine j9 (vs := kX 0 r.1 r.2 0 0 0 0 0) pX (by rfl) dS g2 fun b3 F3 M3 l3 o3 g3 => ?_
 have hr3 : ∀ {M' : Mem} {e : TypeId}, cM w0 M' b3 (kX 0 r.1 r.2 0 0 0 0 0) e → (aH PP w0).ld 33 ⟨b3, 1, none⟩ M' = some (.agg #[.int .i64 r.1, .int .i64 r.2]) := fun o => kE (vs := [.int .i64 r.1, .int .i64 r.2]) aZ o (qE rfl rfl)
 simp only [hr3 (o3.le g3.fr), aC, a9, aU, aL, aT, aBJ (h := r)]
 have hfa1 : dF (Value.int .i64) bX S1.at_ oa := by rw [eat]; exact hfa
 have hfe1 : dF bX mJ S1.en oe := by rw [een]; exact hfe
 refine tL (A := []) (B := []) (y := ⟨r, 1, -1, []⟩) (oT.le l3) hv1 (by omega) (by rw [em]; decide) hfa1 hfe1 g3 fun M4 S2 oa2 oe2 i y2 hat hfa2 hfe2 g4 ey1 ey2 hv2 em2 en2 eip2 hst2 => ?_
 obtain ⟨cc, hv2⟩ := hv2
 simp only [a9, aU, aL, aT]
 refine j9 (vs := kX 0 0 0 i (S1.ip.gen i) 5 S1.next 0) pX (by rfl) dS g4 fun b5 F5 M5 l5 o5 g5 => ?_
 have o35 := o3.le l5
 simp only [hr3 (o35.le g5.fr), aC, a9, aU, aL, aT, y5 (i := r)]
 have eE : dX ([] ++ [(⟨((i : Int), S1.ip.gen i), (⟨r, 1, -1, []⟩ : Hv).h, cc, (5, S1.next)⟩ : mY)]) y2.h ≠ [] := by
  rw [ey1, List.nil_append, tI rfl]; simp
 have hyr : y2.h = r := ey1
 rw [← hyr]
 refine xF (A := []) (B := []) (y := y2) ((oT.le l3).le l5) hv2 eE hfa2 hfe2 g5 fun M6 S3 x hx hxy hb hfa3 hfe3 g6 hv3 em3 en3 eip3 hst3 => ?_
 have hxe : x = ⟨((i : Int), S1.ip.gen i), (⟨r, 1, -1, []⟩ : Hv).h, cc, (5, S1.next)⟩ := by simpa using hx
 subst hxe
 simp only [a9, aU, aL, aT]
 refine j9 (vs := kX 0 0 0 i (S1.ip.gen i) 5 S1.next 0) pX (by rfl) dS g6 fun b7 F7 M7 l7 o7 g7 => ?_
 have hi : ∀ {b : Nat} {M' : Mem} {e : TypeId}, cM w0 M' b (kX 0 0 0 i (S1.ip.gen i) 5 S1.next 0) e → (aH PP w0).ld 33 ⟨b, 3, none⟩ M' = some (.agg #[.int .i64 (i : Int), .int .i64 (S1.ip.gen i)]) := fun o => kE (vs := [.int .i64 (i : Int), .int .i64 (S1.ip.gen i)]) aZ o (qE rfl rfl)
 simp only [lR W.c25 ((o35.le l7).le g7.fr) (o := 0) rfl, lR W.c25 ((o5.le l7).le g7.fr) (o := 0) rfl, lR W.c2 (o7.le g7.fr) (o := 5) rfl, hi (o7.le g7.fr), hi ((o5.le l7).le g7.fr), aC, aL, a9, aU, aT, aAr, bU]
 rw [eW, if_pos rfl, eW, if_pos rfl, eW, if_pos rfl]
 simp only [BEq.rfl, Bool.and_self, dU]
 refine aKK ?_
 rw [aL]
 exact hK M7
section
variable {X : wO} {Y : DSt} {dm : Nat} {x : rN} {c : tK}
theorem aKv (hD : lQ w0 F M os X Y (star (eR dm x) A)) (hok : DOk x) (hn : fR x.now) (hct : fR c.time) (hK : ∀ M', lQ w0 F M' os X Y (star (eR dm (fC x c).1) A) → R (fC x c).2.v M') :
  C PP w0 Id.fA #[.pointer (some ⟨dm, 0, none⟩), c.v] R M := by
 obtain ⟨oa, oe, ob, ow, hfa, hfe, hfb, hfw, h⟩ := hD
 obtain ⟨F1, hB, l1, back⟩ := (h.aW aA.wD).xJ
 refine aKj hB hok hn hct fun M' hC => ?_
 exact hK M' ⟨oa, oe, ob, ow, hfa, hfe, hfb, hfw, (back M' _ hC).aW aA.yG⟩
theorem aIY {k j : Int} (hk : fR k) (hj : fR j) (h : HO w0 F M os A)
  (hK : ∀ F' M' X Y dm (n : Nat), 1 ≤ n → n ≤ 60 → (1 ≤ j → j ≤ 60 → (n : Int) = j) → Mem.le F F' → xK w0 F' X → lQ w0 F' M' os X Y (star (eR dm (rN.new n)) A) → dH Y (rN.new n) 2 → aHZ Y → R (.tuple #[.pointer (some ⟨X.d, 0, none⟩), .pointer (some ⟨dm, 0, none⟩)]) M') :
  C PP w0 Id.fI #[.int .i64 k, .int .i64 j] R M := by
 apply fI.go
 unfold fI.T aJ
 have main : ∀ m : Int, 1 ≤ m → m ≤ 60 → (1 ≤ j → j ≤ 60 → m = j) → C PP w0 Id.cK #[.int .i64 k, .int .i64 1, .int .i64 3] (fun v M => nA .i64 v fun n_1 => (aH PP w0).call Id.bG #[.int .i64 n_1, .int .i64 m] (fun v M => shT v fun n_2 => dA n_2 fun u r => shP u fun n_3 => dA r fun u r => nA .i64 u fun n_4 => qB r (HL.ob ((aH PP w0).bq .eql 60 (.tmp 18) (.const (.pointer none)) (.pointer n_3) (.pointer none)) fun v => shB v fun n_5 => bs n_5 (R (.tuple #[.pointer none, .pointer none]) M) (bs (n_4 != 0) (R (.tuple #[.pointer none, .pointer none]) M) ((aH PP w0).call Id.p7 #[.int .i64 m] (fun v M => shP v fun n => R (.tuple #[.pointer n_3, .pointer n]) M) M)))) M) M := by
  intro m m1 m2 m3
  refine vW hk (by omega) (by omega) (by omega) (by omega) fun kk k1 k2 => ?_
  rw [aL]
  obtain ⟨n, rfl⟩ : ∃ n : Nat, m = (n : Int) := ⟨m.toNat, by omega⟩
  refine aIA h (by omega) (by omega) (by omega) (by omega) fun F1 M1 X Y l1 hX hD hv hb => ?_
  simp only [cA, aU, bK, aL, aT, z2 Tryz.underlying60, aC, bU, Option.isNone_some, mT]
  rw [cD, if_pos rfl]
  obtain ⟨oa, oe, ob, ow, hfa, hfe, hfb, hfw, h1⟩ := hD
  obtain ⟨F2, hB, l2, back⟩ := h1.xJ
  refine aIV hB (by omega) (by omega) fun M2 dm hC => ?_
  rw [bK]
  exact hK F1 M2 X Y dm n (by omega) (by omega) m3 l1 hX ⟨oa, oe, ob, ow, hfa, hfe, hfb, hfw, (back M2 _ hC).aW aA.yG⟩ hv hb
 by_cases hin : 1 ≤ j ∧ j ≤ 60
 ·refine aD3 hin.1 hin.2 ?_
  rw [aL]
  exact main j hin.1 hin.2 fun _ _ => rfl
 ·refine vW hj (by omega) (by omega) (by omega) (by omega) fun m m1 m2 => ?_
  rw [aL]
  exact main m m1 m2 fun a b => absurd ⟨a, b⟩ hin
end
end
end HL
namespace HL
section
variable {w0 : World} {F M : Mem} {R : VP} {os : uX} {A Q : cY}
section
variable {X : wO} {Y : DSt} {d : rN} {tm : Int} {s : SV} {l : List cW}
theorem lQ.aKI (hD : lQ w0 F M os X Y Q) : lQ w0 F M os X Y (star (Es ⟨none, 0, 0⟩ []) Q) := by
 obtain ⟨oa, oe, ob, ow, hfa, hfe, hfb, hfw, h⟩ := hD
 obtain ⟨F1, hB, l1, back⟩ := h.xJ
 exact ⟨oa, oe, ob, ow, hfa, hfe, hfb, hfw, (back M _ (aA.xO hB (Mem.le_refl _) vZ.nil)).aW aA.yG⟩
theorem lQ.rdL (hD : lQ w0 F M os X Y (star (Es s l) Q)) : yY w0 M s l := by
 obtain ⟨oa, oe, ob, ow, hfa, hfe, hfb, hfw, h⟩ := hD
 exact (h.aW aA.wD).h.xS
theorem lQ.aLA (hD : lQ w0 F M os X Y (star (Es s l) Q)) (hb : l.length ≤ 1000) {x y : Int} {K : SV → Mem → Prop} (hK : ∀ M' s', lQ w0 F M' os X Y (star (Es s' (l ++ [(x, y)])) Q) → K s' M') :
  (aH PP w0).bsl 30 1 [(0, .agg #[.int .i64 x, .int .i64 y])] (fun v M1 => shS v fun s1 => (aH PP w0).app #[30, 30] 30 [SV.v s, SV.v s1] (fun v M2 => shS v fun s2 => K s2 M2) M1) M := by
 obtain ⟨oa, oe, ob, ow, hfa, hfe, hfb, hfw, h⟩ := hD
 obtain ⟨F1, hB, l1, back⟩ := (h.aW aA.wD).xJ
 refine aE3 hB x y fun M1 s1 lm1 h1 => ?_
 rw [aR]
 refine aE0 h1.right h1.xS (by simp; omega) fun M2 s2 h2 => ?_
 rw [aR]
 exact hK M2 s2 ⟨oa, oe, ob, ow, hfa, hfe, hfb, hfw, (back M2 _ h2).aW aA.yG⟩
theorem lQ.box {rp : eZ} (hD : lQ w0 F M os X Y Q) {K : Nat → Mem → Prop} (hK : ∀ b F' M', Mem.le F F' → cM w0 F' b rp.cells iI → lQ w0 F' M' os X Y Q → K b M') :
  (aH PP w0).nw [.int .i64 0, .int .i64 0, .int .i64 0, .int .i64 0, .int .i64 0, .int .i64 0] iI (fun b M1 => (aH PP w0).st iI ⟨b, 0, none⟩ (.agg #[.int .i64 rp.why, .int .i64 rp.at_, .int .i64 rp.gen, .int .i64 rp.time, .int .i64 rp.data, .int .i64 rp.n]) (fun M2 => K b M2) M1) M := by
 obtain ⟨oa, oe, ob, ow, hfa, hfe, hfb, hfw, h⟩ := hD
 exact j9 (vs := rp.cells) lD (by rfl) (hU _) h fun b F' M' l' o' h' => hK b F' M' l' o' ⟨oa, oe, ob, ow, hfa, hfe, hfb, hfw, h'⟩
theorem aJN {b : Nat} {rp : eZ} {e : TypeId} (o : cM w0 M b rp.cells e) : (aH PP w0).ld 33 ⟨b, 1, none⟩ M = some (.agg #[.int .i64 rp.at_, .int .i64 rp.gen]) := kE (o := 1) (vs := [.int .i64 rp.at_, .int .i64 rp.gen]) aZ o (qE rfl rfl)
theorem aLh {b : Nat} {rp : eZ} {e : TypeId} (o : cM w0 M b rp.cells e) : (aH PP w0).ld 25 ⟨b, 0, none⟩ M = some (.int .i64 rp.why) := lR W.c25 o rfl
end
end
end HL
namespace HL
section
variable {w0 : World} {F M : Mem} {R : VP}
theorem aIl (t x : Int) : (aH PP w0).nM qA [(0, .int .i64 1), (3, .int .i64 t), (4, .int .i64 x)] = some (tK.v ⟨1, 0, 0, 0, t, x⟩) := by kernel_rfl
theorem aIn (a g : Int) : (aH PP w0).nM qA [(0, .int .i64 3), (2, .agg #[.int .i64 a, .int .i64 g])] = some (tK.v ⟨3, 0, a, g, 0, 0⟩) := by kernel_rfl
theorem aIO (t : Int) : (aH PP w0).nM qA [(0, .int .i64 4), (3, .int .i64 t)] = some (tK.v ⟨4, 0, 0, 0, t, 0⟩) := by kernel_rfl
end
end HL
namespace HL
def GLe (p p' : Pl) : Prop := ∀ (j : Nat) g, p.iH[j]? = some g → ∃ g', p'.iH[j]? = some g' ∧ g ≤ g'
theorem GLe.qD {p : Pl} : GLe p p := fun j g h => ⟨g, h, Int.le_refl _⟩
theorem aHt (p : Pl) (a : Nat) (v : Int) : GLe p (p.take a v) := by
 intro j g h
 have hgr : p.grow.iH[j]? = some g := by
  unfold Pl.grow
  split
  ·exact h
  ·have hj := (List.getElem?_eq_some_iff.1 h).1
   show (p.iH ++ [0])[j]? = some g
   rw [List.getElem?_append_left hj]; exact h
 show ∃ g', (p.grow.iH.set a (p.grow.iH.getD a 0 + 1))[j]? = some g' ∧ g ≤ g'
 have hj := (List.getElem?_eq_some_iff.1 hgr).1
 by_cases e : a = j
 ·subst e
  rw [List.getElem?_set_self hj]
  refine ⟨_, rfl, ?_⟩
  rw [List.getD_eq_getElem?_getD, hgr]
  show g ≤ g + 1
  omega
 ·rw [List.getElem?_set_ne e]
  exact ⟨g, hgr, Int.le_refl _⟩
theorem aFf (d : rN) (k : Nat) : GLe d.bT (d.out k).bT := by
 unfold rN.out
 split
 ·exact GLe.qD
 ·exact fun j g h => ⟨g, h, Int.le_refl _⟩
theorem aGO (d : rN) (c : tK) : GLe d.bT (fC d c).1.bT := by
 by_cases hb : qI c
 ·rw [vM hb]; exact GLe.qD
 ·rcases (by omega : c.kind = 1 ∨ (c.kind = 2 ∨ c.kind = 3) ∨ c.kind = 4 ∨ c.kind = 5 ∨ c.kind = 6 ∨ c.kind = 7 ∨ (c.kind < 1 ∨ 7 < c.kind)) with h | h | h | h | h | h | h
  ·rw [aAH hb h]
   split
   ·exact GLe.qD
   ·exact aHt _ _ _
  ·rw [yK h]
   split
   ·exact GLe.qD
   ·split
    ·exact GLe.qD
    ·split
     ·exact GLe.qD
     ·split
      ·exact aFf _ _
      ·split <;> exact GLe.qD
  ·rw [aCq h]; split <;> exact GLe.qD
  ·rw [xN hb h]
   split
   ·exact GLe.qD
   ·split
    ·exact GLe.qD
    ·split
     ·exact GLe.qD
     ·exact aFf _ _
  ·rw [aAo hb h]; split <;> exact GLe.qD
  ·rw [aCz hb h]; exact GLe.qD
  ·rw [aB5 h]; exact GLe.qD
def aFX (T : List cW) (d : rN) : Prop := ∀ r ∈ T, ∃ (j : Nat) (g : Int), r.1 = (j : Int) ∧ d.bT.iH[j]? = some g ∧ r.2 ≤ g
theorem aFX.step {T : List cW} {d : rN} (h : aFX T d) (c : tK) : aFX T (fC d c).1 := fun r hr => by
 obtain ⟨j, g, h1, h2, h3⟩ := h r hr
 obtain ⟨g', h4, h5⟩ := aGO d c j g h2
 exact ⟨j, g', h1, h4, by omega⟩
theorem aHV {T : List cW} {d : rN} (hp : aEh d.bT) (h : aFX T d) {c : tK} (hk : c.kind = 1) (hw : (fC d c).2.why = 0) :
  ((fC d c).2.at_, (fC d c).2.gen) ∉ T ∧ aFX (T ++ [((fC d c).2.at_, (fC d c).2.gen)]) (fC d c).1 := by
 have hb : ¬ qI c := fun hb => by rw [vM hb] at hw; cases hw
 have hst := h.step c
 rw [aAH hb hk] at hw hst ⊢
 cases ha : d.bT.at_ with
 | none => rw [ha] at hw; cases hw
 | some a =>
  rw [ha] at hst
  have hgen : ∀ g, d.bT.iH[a]? = some g → g < d.bT.gen a := fun g hg => by
   unfold Pl.gen Pl.grow
   split
   ·rw [List.getD_eq_getElem?_getD, hg]; show g < g + 1; omega
   ·have hj := (List.getElem?_eq_some_iff.1 hg).1
    show g < (d.bT.iH ++ [0]).getD a 0 + 1
    rw [List.getD_eq_getElem?_getD, List.getElem?_append_left hj, hg]
    show g < g + 1; omega
  have hlt : a < d.bT.grow.iH.length := by
   unfold Pl.at_ at ha
   unfold Pl.grow
   cases hl : d.bT.back.getLast? with
   | some x =>
    rw [hl] at ha
    simp only [Option.some.injEq] at ha
    subst ha
    exact (hp.bk x (tF hl)).1
   | none =>
    rw [hl] at ha
    simp only at ha
    split at ha
    ·cases ha
    ·cases ha; simp
  refine ⟨fun hm => ?_, fun r hr => ?_⟩
  ·obtain ⟨j, g, h1, h2, h3⟩ := h _ hm
   have hj : a = j := by have : ((a : Nat) : Int) = (j : Int) := h1; omega
   subst hj
   have := hgen g h2
   have h3' : d.bT.gen a ≤ g := h3
   omega
  ·rcases List.mem_append.1 hr with hr | hr
   ·exact hst r hr
   ·rw [List.mem_singleton.1 hr]
    refine ⟨a, d.bT.gen a, rfl, ?_, Int.le_refl _⟩
    show (d.bT.grow.iH.set a (d.bT.grow.iH.getD a 0 + 1))[a]? = some (d.bT.gen a)
    rw [List.getElem?_set_self hlt]
    rfl
section
variable {w0 : World} {F M : Mem} {R : VP} {os : uX} {X : wO} {Y : DSt} {Q Q' : cY} {dm : Nat} {d : rN}
theorem lQ.aDF (hD : lQ w0 F M os X Y Q) (f : ∀ F M, aA w0 F M Q → aA w0 F M Q') : lQ w0 F M os X Y Q' := by
 obtain ⟨oa, oe, ob, ow, hfa, hfe, hfb, hfw, h⟩ := hD
 exact ⟨oa, oe, ob, ow, hfa, hfe, hfb, hfw, h.aW fun h => h.oG fun _ _ h => h.oG fun _ _ h => h.oG fun _ _ h => h.oG fun _ _ h => h.oG fun _ _ h => h.oG fun _ _ h => h.oG fun F M h => f F M h⟩
theorem lQ.nwC (hD : lQ w0 F M os X Y Q) {zs : List Value} {T : TypeId} {K : Nat → Mem → Prop} (hK : ∀ b M', Mem.le M M' → lQ w0 F M' os X Y (star (aY b zs T) Q) → K b M') : (aH PP w0).nw zs T K M := by
 obtain ⟨oa, oe, ob, ow, hfa, hfe, hfb, hfw, h⟩ := hD
 exact jI h fun b M' lm h' => hK b M' lm ⟨oa, oe, ob, ow, hfa, hfe, hfb, hfw, h'.aW aA.yG⟩
theorem lQ.stC {b : Nat} {zs vs : List Value} {T : TypeId} (hg : gM PP T vs.length = true) (hz : zs.length = vs.length) (hone : ∀ v ∈ vs, bQ v = true) (hD : lQ w0 F M os X Y (star (aY b zs T) Q)) {K : Mem → Prop} (hK : ∀ M', lQ w0 F M' os X Y (star (aY b vs T) Q) → K M') :
  (aH PP w0).st T ⟨b, 0, none⟩ (.agg vs.toArray) (fun M2 => K M2) M := by
 obtain ⟨oa, oe, ob, ow, hfa, hfe, hfb, hfw, h⟩ := hD
 exact stW hg hz hone (h.aW aA.wD) fun M' h' => hK M' ⟨oa, oe, ob, ow, hfa, hfe, hfb, hfw, h'.aW aA.yG⟩
theorem lQ.aLJ {b o : Nat} {zs : List Value} {T t : TypeId} {v : Value} (ht : gP PP t = true) (ho : o < zs.length) (hv : bQ v = true) (hc : v.cells = #[v]) (hD : lQ w0 F M os X Y (star (aY b zs T) Q)) {K : Mem → Prop} (hK : ∀ M', lQ w0 F M' os X Y (star (aY b (zs.set o v) T) Q) → K M') :
  (aH PP w0).st t ⟨b, o, none⟩ v (fun M2 => K M2) M := by
 obtain ⟨oa, oe, ob, ow, hfa, hfe, hfb, hfw, h⟩ := hD
 exact aBi ht ho hv hc (h.aW aA.wD) fun M' h' => hK M' ⟨oa, oe, ob, ow, hfa, hfe, hfb, hfw, h'.aW aA.yG⟩
theorem lQ.aLv {b : Nat} {zs : List Value} {T : TypeId} (hD : lQ w0 F M os X Y (star (aY b zs T) Q)) : ∃ F', Mem.le F F' ∧ cM w0 F' b zs T ∧ lQ w0 F' M os X Y Q := by
 obtain ⟨oa, oe, ob, ow, hfa, hfe, hfb, hfw, h⟩ := hD
 obtain ⟨F', l, o, h'⟩ := (h.aW aA.wD).fQ
 exact ⟨F', l, o, oa, oe, ob, ow, hfa, hfe, hfb, hfw, h'⟩
theorem lQ.aLO (hD : lQ w0 F M os X Y (star (eR dm d) Q)) : ∃ s : SV, (aH PP w0).ld 71 ⟨dm, 4, none⟩ M = some (SV.v s) ∧ s.n = d.l.length := by
 obtain ⟨oa, oe, ob, ow, hfa, hfe, hfb, hfw, h⟩ := hD
 obtain ⟨p, s, hd⟩ := eR.open_ (h.aW aA.wD).h
 exact ⟨s, lR W.c71 hd.bA rfl, hd.n⟩
theorem aB7 (c : tK) : ∀ v ∈ c.cells, bQ v = true := by
 intro v hv
 simp only [tK.cells, List.mem_cons, List.not_mem_nil, or_false] at hv
 rcases hv with rfl | rfl | rfl | rfl | rfl | rfl <;> rfl
theorem aFm : gM PP qA 6 = true := W.g68
end
end HL
namespace HL
section
variable {w0 : World} {F M : Mem} {R : VP}
theorem aCd (hR : ∀ M, R (.bool true) M) {k : Int} (hk : fR k) {s : SV} {ls : List Int} (hs : pW w0 M .i64 s ls) : C PP w0 Id.aK #[.int .i64 k, SV.v s] R M := by
 apply aK.go
 intro aB H
 unfold aK.T aJ
 refine aIY hk (by unfold fR; omega) (HO.of (aA.aLb (w0 := w0) (M := M))) fun F1 M1 X Y dm n n1 n2 n3 l1 hX hD hv hb => ?_
 simp only [cA, aU, bK, aT, z2 Tryz.underlying60, aC, bU, Option.isNone_some, mT]
 have hmax := hs.max
 have hlen := hs.len
 have lM : ∀ {F6 M6 : Mem} {Y6 : DSt} {Q : cY}, Mem.le F1 F6 → lQ w0 F6 M6 [] X Y6 Q → Mem.le M M6 := fun l h => Mem.le_trans l1 (Mem.le_trans l h.fr)
 have key1 : ∀ (F6 M6 : Mem) (Y6 : DSt) (tm : Int) (st : SV) (told : List cW) (d : rN), Mem.le F1 F6 → lQ w0 F6 M6 [] X Y6 (star (Es st told) (star (eR dm d) emp)) → dH Y6 d tm → aK.J1 aB (some ⟨X.d, 0, none⟩) (some ⟨dm, 0, none⟩) M6 := by
  intro F6 M6 Y6 tm st told d l6 hD6 hv6
  refine Eq.mpr (H.J1 ..) ?_
  unfold aK.J1.T aJ
  obtain ⟨sl, e1, e2⟩ := (hD6.aDF fun _ _ h => h.dT).aLO
  simp only [aX, add_eq, Nat.zero_add, e1, aC, aR]
  refine aJn (hX.le l6) hD6 hv6 ?_
  rw [aL, eW, if_pos (by omega)]
  refine ⟨e1, ?_⟩
  refine aHu fun M8 => ?_
  rw [bU]
  exact hR M8
 have loop : ∀ (r i : Nat) (kk : Nat) (F6 M6 : Mem) (Y6 : DSt) (tm : Int) (st : SV) (told : List cW) (d : rN), Mem.le F1 F6 → lQ w0 F6 M6 [] X Y6 (star (Es st told) (star (eR dm d) emp)) → dH Y6 d tm → aHZ Y6 → aFX told d → told.length ≤ i → tm + r ≤ 300000 → i + r = 100 → r < kk →
   aK.L2 aB kk s (some ⟨X.d, 0, none⟩) (some ⟨dm, 0, none⟩) st (i : Int) M6 := by
  intro r
  induction r with
  | zero =>
   intro i kk F6 M6 Y6 tm st told d l6 hD6 hv6 hb6 hT hTl htm hir hkk
   obtain ⟨kk, rfl⟩ : ∃ j, kk = j + 1 := ⟨kk - 1, by omega⟩
   refine Eq.mpr (H.L2 ..) ?_
   unfold aK.L2.T aJ
   have := key1 F6 M6 Y6 tm st told d l6 hD6 hv6
   rw [eO]
   split
   ·rw [eO, if_neg (by omega)]; exact this
   ·exact this
  | succ r ih =>
   intro i kk F6 M6 Y6 tm st told d l6 hD6 hv6 hb6 hT hTl htm hir hkk
   obtain ⟨kk, rfl⟩ : ∃ j, kk = j + 1 := ⟨kk - 1, by omega⟩
   have hw : p4 ((i : Int) + 1) = ((i + 1 : Nat) : Int) := by rw [bC (by omega)]; omega
   have key4 : ∀ (F7 M7 : Mem) (b : Nat) (c : tK), Mem.le F6 F7 → cM w0 F7 b c.cells qA → fR c.time → lQ w0 F7 M7 [] X Y6 (star (Es st told) (star (eR dm d) emp)) → aK.J4 aB kk s (some ⟨X.d, 0, none⟩) (some ⟨dm, 0, none⟩) st (i : Int) ⟨b, 0, none⟩ M7 := by
    intro F7 M7 b c l7 oc hct hD7
    refine Eq.mpr (H.J4 ..) ?_
    unfold aK.J4.T aJ
    have hX7 := (hX.le l6).le l7
    have hcc : ∀ {M' : Mem}, Mem.le F7 M' → (aH PP w0).ld qA ⟨b, 0, none⟩ M' = some c.v := fun hl => fB (vs := c.cells) aFm (oc.le hl)
    have hck : ∀ {M' : Mem}, Mem.le F7 M' → (aH PP w0).ld 3 ⟨b, 0, none⟩ M' = some (.int .i64 c.kind) := fun hl => lR W.c3 (oc.le hl) rfl
    simp only [aX, add_eq, Nat.zero_add, hcc hD7.fr, tK.v, aC, a9, aU, aL, aT]
    refine aJT (c := c) hX7 hD7 hv6 hb6 (by omega) hct fun M8 Y8 hD8 hv8 hb8 _ => ?_
    simp only [eZ.v, a9, aU, aL, aT]
    refine hD8.box (rp := (fC d c).2) fun br F9 M9 l9 o9 hD9 => ?_
    simp only [fB (vs := (fC d c).2.cells) lD (o9.le hD9.fr), hcc (Mem.le_trans l9 hD9.fr), tK.v, aC, a9, aU, aL, aT]
    refine aKv (c := c) (hD9.aDF fun _ _ h => h.dT) (hv6.ok (by omega)) hv6.aCD hct fun M10 hD10' => ?_
    have hD10 := hD10'.aDF fun _ _ h => h.dT
    simp only [eZ.v, a9, aU, aL, aT, aJ6, aC, bU, decide_true, Bool.not_true, mT]
    refine ⟨fB (vs := (fC d c).2.cells) lD (o9.le hD10.fr), ?_⟩
    simp only [hck (Mem.le_trans l9 hD10.fr), aLh (o9.le hD10.fr), aC, aL]
    have l69 : Mem.le F1 F9 := Mem.le_trans l6 (Mem.le_trans l7 l9)
    rw [eW]
    split
    ·rename_i hk1
     rw [eW]
     split
     ·rename_i hwhy
      obtain ⟨hno, hT2⟩ := aHV (hv6.ok (by omega)).pl hT hk1 hwhy
      have l5 : ∀ (m n2 k2 : Nat) (M11 : Mem), lQ w0 F9 M11 [] X Y8 (star (Es st told) (star (eR dm (fC d c).1) emp)) → n2 + m = told.length → m < k2 → aK.L5 aB kk k2 s (some ⟨X.d, 0, none⟩) (some ⟨dm, 0, none⟩) st (i : Int) ⟨br, 0, none⟩ (n2 : Int) M11 := by
       intro m
       induction m with
       | zero =>
        intro n2 k2 M11 hD11 hn2 hk2
        obtain ⟨k2, rfl⟩ : ∃ j, k2 = j + 1 := ⟨k2 - 1, by omega⟩
        have hsl := hD11.rdL.len
        refine Eq.mpr (H.L5 ..) ?_
        unfold aK.L5.T aJ
        rw [eO, if_neg (by omega)]
        simp only [aX, add_eq, Nat.zero_add, aJN (o9.le hD11.fr), aC, a9, aU, aL, aT]
        refine hD11.aLA (by omega) fun M12 s12 hD12 => ?_
        rw [hw]
        exact ih (i + 1) kk F9 M12 Y8 (tm + 1) s12 _ _ l69 hD12 hv8 hb8 hT2 (by rw [List.length_append, List.length_singleton]; omega) (by omega) (by omega) (by omega)
       | succ m ihm =>
        intro n2 k2 M11 hD11 hn2 hk2
        obtain ⟨k2, rfl⟩ : ∃ j, k2 = j + 1 := ⟨k2 - 1, by omega⟩
        have hsl := hD11.rdL.len
        have hn2l : n2 < told.length := by omega
        have e1 := List.getElem?_eq_getElem hn2l
        have hmem := List.getElem_mem hn2l
        generalize told[n2] = u at e1 hmem
        refine Eq.mpr (H.L5 ..) ?_
        unfold aK.L5.T aJ
        rw [eO, if_pos (by omega)]
        refine aFM hD11.rdL (Mem.le_refl _) n2 rfl e1 ?_
        simp only [aX, add_eq, Nat.zero_add, aJN (o9.le hD11.fr), aC, a9, aU, aL, aT, aAr, bU]
        have eE : (u.1 == (fC d c).2.at_ && u.2 == (fC d c).2.gen) = false := by
         rw [Bool.eq_false_iff]
         intro h0
         simp only [Bool.and_eq_true, beq_iff_eq] at h0
         exact hno (by rw [← h0.1, ← h0.2]; exact hmem)
        rw [eE, mT, cR (show n2 < 4611686018427387904 by omega)]
        exact ihm (n2 + 1) k2 M11 hD11 (by omega) (by omega)
      exact ⟨told.length + 1, l5 told.length 0 (told.length + 1) M10 hD10 (by omega) (by omega)⟩
     ·rw [hw]
      exact ih (i + 1) kk F9 M10 Y8 (tm + 1) st told _ l69 hD10 hv8 hb8 (hT.step c) (by omega) (by omega) (by omega) (by omega)
    ·rw [hw]
     exact ih (i + 1) kk F9 M10 Y8 (tm + 1) st told _ l69 hD10 hv8 hb8 (hT.step c) (by omega) (by omega) (by omega) (by omega)
   refine Eq.mpr (H.L2 ..) ?_
   unfold aK.L2.T aJ
   rw [eO]
   split
   ·rename_i hin
    rw [eO, if_pos (by omega)]
    show aK.J3 aB kk s (some ⟨X.d, 0, none⟩) (some ⟨dm, 0, none⟩) st (i : Int) M6
    refine Eq.mpr (H.J3 ..) ?_
    unfold aK.J3.T aJ
    have hil : i < ls.length := by omega
    have e1 := List.getElem?_eq_getElem hil
    have hu0 := hs.aLE hil
    generalize ls[i] = u at e1 hu0
    have hu : fR u := hu0
    refine rdx W.c3 hs (lM l6 hD6) i rfl e1 ?_
    refine ⟨rfl, by decide, ?_⟩
    have hmod1 : Int.tmod u 9 < 9 := Int.tmod_lt_of_pos u (by omega)
    have hmod2 : -9 < Int.tmod u 9 := by
     have := Int.tmod_lt_of_pos (-u) (show 0 < (9 : Int) by omega)
     rw [Int.neg_tmod] at this; omega
    generalize Int.tmod u 9 = v at hmod1 hmod2
    simp only [aIl, tK.v, aC, a9, aU, aL, aT]
    refine hD6.nwC fun b M7 lm7 hD7' => ?_
    refine hD7'.stC (vs := (tK.mk 1 0 0 0 v i).cells) aFm (by rfl) (aB7 _) fun M7b hD7 => ?_
    refine rdx W.c3 hs (lM l6 hD7) i rfl e1 ?_
    refine vW hu (by omega) (by omega) (by omega) (by omega) fun x x1 x2 => ?_
    rw [aL]
    refine ⟨trivial, by decide, ?_⟩
    have fin : ∀ (M8 : Mem) (c : tK), fR c.time → lQ w0 F6 M8 [] X Y6 (star (aY b c.cells qA) (star (Es st told) (star (eR dm d) emp))) → aK.J4 aB kk s (some ⟨X.d, 0, none⟩) (some ⟨dm, 0, none⟩) st (i : Int) ⟨b, 0, none⟩ M8 := by
     intro M8 c hct hD8
     obtain ⟨F8, l8, o8, hD8'⟩ := hD8.aLv
     exact key4 F8 M8 b c l8 o8 hct hD8'
    rw [eW]
    split
    ·refine hD7.aLJ (o := 0) (v := .int .i64 5) W.c3 (by simp [tK.cells]) rfl rfl fun M8 hD8 => ?_
     exact fin M8 ⟨5, 0, 0, 0, v, i⟩ (by unfold fR; simp only; omega) hD8
    rw [eW]
    split
    ·simp only [aIO, tK.v, aC, a9, aU, aL, aT]
     refine hD7.stC (vs := (tK.mk 4 0 0 0 3 0).cells) aFm (by rfl) (aB7 _) fun M8 hD8 => ?_
     exact fin M8 ⟨4, 0, 0, 0, 3, 0⟩ (by unfold fR; simp only; omega) hD8
    rw [eW]
    split
    ·have hrl := (hD7.aDF fun _ _ h => h.dT).rdL
     have hsl := hrl.len
     rw [eO]
     split
     ·rename_i hpos
      refine rdx W.c3 hs (lM l6 hD7) i rfl e1 ?_
      rw [bC (n := ((st.n : Nat) : Int) - 1) (by omega)]
      refine vW hu (by omega) (by omega) (by omega) (by omega) fun y y1 y2 => ?_
      rw [aL]
      have hyl : y.toNat < told.length := by omega
      have e2 := List.getElem?_eq_getElem hyl
      generalize told[y.toNat] = tt at e2
      refine aFM hrl (Mem.le_refl _) y.toNat (by omega) e2 ?_
      simp only [aIn, tK.v, aC, a9, aU, aL, aT]
      refine hD7.stC (vs := (tK.mk 3 0 tt.1 tt.2 0 0).cells) aFm (by rfl) (aB7 _) fun M8 hD8 => ?_
      exact fin M8 ⟨3, 0, tt.1, tt.2, 0, 0⟩ (by unfold fR; simp only; omega) hD8
     ·exact fin M7b ⟨1, 0, 0, 0, v, i⟩ (by unfold fR; simp only; omega) hD7
    ·exact fin M7b ⟨1, 0, 0, 0, v, i⟩ (by unfold fR; simp only; omega) hD7
   ·exact key1 F6 M6 Y6 tm st told d l6 hD6 hv6
 exact ⟨101, loop 100 0 101 F1 M1 Y 2 ⟨none, 0, 0⟩ [] _ (Mem.le_refl _) hD.aKI hv hb (fun r hr => (by cases hr)) (by simp) (by omega) (by omega) (by omega)⟩
end
end HL
end Go.Proofs.YtodobkbnmjgkdaaGreat
