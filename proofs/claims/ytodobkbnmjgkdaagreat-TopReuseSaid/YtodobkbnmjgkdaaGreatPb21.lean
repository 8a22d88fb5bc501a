import Derived.Test.YtodobkbnmjgkdaaGreatPb20
namespace Go.Proofs.YtodobkbnmjgkdaaGreat
open Go.RowKit (Below)
set_option linter.unusedVariables false
set_option linter.unusedSimpArgs false
set_option maxRecDepth 100000
set_option maxHeartbeats 1000000
namespace HL
namespace ST
theorem aFb {k n : Nat} (h : 2 ^ k ≤ n) (hn : n ≤ 301) : k ≤ 8 := by
 apply Decidable.byContradiction
 intro hc
 have : 2 ^ 9 ≤ 2 ^ k := Nat.pow_le_pow_right (by decide) (by omega)
 omega
theorem aIB {z : Nat} {l : List Tn} (h : Rs l) (ho : ∀ t ∈ l, wQ z t) (hs : (aQ l).length ≤ 300) : l.length ≤ 8 := by
 have h1 := aCf (j := 0) h fun t ht => ⟨ho t ht, Nat.zero_le _⟩
 rw [Nat.zero_add, Nat.pow_zero] at h1
 exact aFb h1 (by omega)
theorem v8 {z : Nat} {l : List Tn} (h : Wk l) (ho : ∀ t ∈ l, wQ z t) (hs : (aQ l).length ≤ 300) : l.length ≤ 9 := by
 cases l with
 | nil => simp
 | cons t l =>
  rw [mQ, List.length_cons, List.length_append] at hs
  have := aIB h.1 (fun x hx => ho x (List.mem_cons_of_mem _ hx)) (by omega)
  rw [List.length_cons]; omega
theorem sY {f g : Nat → cC} {N N' : List Nat} (h1 : N.Perm N') (h2 : (N.map f).Perm (N'.map g)) : (bE f N).Perm (bE g N') := by
 unfold bE
 refine h1.append ?_
 have := h2.map (·.1)
 rw [List.map_map, List.map_map] at this
 exact this
theorem iE {l : List Tn} {t : Tn} (h : t ∈ l) : t.n ∈ aQ l := eB.2 ⟨t, h, List.mem_cons_self⟩
theorem pZ (A B : List Tn) (t : Tn) : (aQ (A ++ t :: B)).Perm (t.n :: (aQ (A ++ B) ++ aO t.c)) := by
 have h : (aQ (A ++ t :: B)).Perm (aQ (t :: (A ++ B))) := tG List.perm_middle
 refine h.trans ?_
 rw [mQ]
 exact List.Perm.cons _ List.perm_append_comm
theorem aAm {l : List Tn} (h : (aQ l).Nodup) : (l.map (·.n)).Nodup := by
 have hsub : ∀ (l : List Tn), (l.map (·.n)).Sublist (aQ l) := fun l => by
  induction l with
  | nil => exact List.Sublist.refl _
  | cons t l ih => rw [mQ]; exact (ih.trans (List.sublist_append_right _ _)).cons_cons _
 exact h.sublist (hsub l)
end ST
section
variable {w0 : World} {M F : Mem} {R : VP} {a : Nat} {α : AS}
open Go.Proofs.YtodobkbnmjgkdaaGreat.HL.ST
theorem mO {l : List Nat} (h : ∀ x ∈ l, x < 1000000) : ∀ n ∈ aS l, (Lit.int .i64 n).wf = true := fun n hn => by
 obtain ⟨x, hx, rfl⟩ := List.mem_map.1 hn
 exact aHv (by have := h x hx; unfold fR; omega)
structure m4 (z : Nat) (α : AS) (f : Nat → cC) (A : List Tn) (t : Tn) (B : List Tn) : Prop where
 st : ∀ u ∈ A ++ t :: B, yW α u
 lb : Lb α f (aQ (A ++ t :: B))
 nd : (bE f (aQ (A ++ t :: B))).Nodup
 ok : ∀ u ∈ A ++ t :: B, wQ z u
 od : ∀ u ∈ A ++ B, yB f u
 odt : Od f t.c
 wk : Wk (A ++ t :: B)
 sz : (aQ (A ++ t :: B)).length ≤ 300
section
variable {z : Nat} {f : Nat → cC} {A B : List Tn} {t : Tn}
theorem m4.sm {k : Int} {β : AS} (h : m4 z α f A t B) (hs : AS.Sm k α β) : m4 z β f A t B := ⟨fun u hu => (h.st u hu).sm hs, h.lb.sm hs, h.nd, h.ok, h.od, h.odt, h.wk, h.sz⟩
theorem m4.mem (h : m4 z α f A t B) : t ∈ A ++ t :: B := by simp
theorem m4.tn (h : m4 z α f A t B) : α.Nd t.n (f t.n).1 (f t.n).2 := h.lb _ (iE h.mem)
theorem m4.nn (h : m4 z α f A t B) : (t.n :: (aQ (A ++ B) ++ aO t.c)).Nodup := (pZ A B t).nodup_iff.1 (iB h.nd)
theorem m4.small (h : m4 z α f A t B) (hi : α.Inv) : ∀ x ∈ aQ (A ++ t :: B), x < 1000000 := fun x hx => by
 have := AS.cE hi (h.lb x hx).ln
 have := hi.n
 omega
theorem m4.cel (h : m4 z α f A t B) : (bE f (aQ (A ++ t :: B))).Perm (bE f (t.n :: (aQ (A ++ B) ++ aO t.c))) := j3 (pZ A B t)
theorem m4.apart (h : m4 z α f A t B) : ∀ c ∈ bE f (aQ (A ++ B) ++ aO t.c), c ≠ t.n ∧ c ≠ (f t.n).1 := by
 have hn := h.cel.nodup_iff.1 h.nd
 unfold bE at hn
 rw [List.map_cons, List.nodup_append] at hn
 obtain ⟨n1, n2, n3⟩ := hn
 intro c hc
 rcases List.mem_append.1 hc with hc | hc
 ·exact ⟨fun e => (List.nodup_cons.1 n1).1 (e ▸ hc), n3 c (List.mem_cons_of_mem _ hc) _ List.mem_cons_self⟩
 ·exact ⟨fun e => n3 t.n List.mem_cons_self c (List.mem_cons_of_mem _ hc) e.symm, fun e => (List.nodup_cons.1 n2).1 (e ▸ hc)⟩
theorem m4.sub (h : m4 z α f A t B) : ∀ c ∈ bE f (aQ (A ++ B) ++ aO t.c), c ∈ bE f (aQ (A ++ t :: B)) := fun c hc => by
 refine h.cel.mem_iff.2 ?_
 rcases List.mem_append.1 hc with hc | hc
 ·exact List.mem_append_left _ (List.mem_cons_of_mem _ hc)
 ·refine List.mem_append_right _ ?_
  rw [List.map_cons]
  exact List.mem_cons_of_mem _ hc
theorem m4.ended (h : m4 z α f A t B) (hi : α.Inv) {k : Int} {β : AS} (hs : AS.Sm k ((α.put (f t.n).1 9 (-1)).kC t.n) β) : AS.lE (fun c => c ∈ bE f (aQ (A ++ t :: B))) (· = t.n) (-1) k α β ∧ β.get (f t.n).1 9 = -1 ∧
  (∀ c ∈ bE f (aQ (A ++ B) ++ aO t.c), (∀ g, β.get c g = α.get c g) ∧ β.live c = α.live c) := by
 have hci : (f t.n).1 ∈ bE f (aQ (A ++ t :: B)) := List.mem_append_right _ (List.mem_map.2 ⟨t.n, iE h.mem, rfl⟩)
 refine ⟨?_, ?_, fun c hc => ⟨fun g => ?_, ?_⟩⟩
 ·have e1 : AS.lE (fun c => c ∈ bE f (aQ (A ++ t :: B))) (· = t.n) 0 0 α (α.put (f t.n).1 9 (-1)) := AS.aCE hci
  have hi1 : AS.Inv (α.put (f t.n).1 9 (-1)) := AS.aB2 hi _ _ _
  have e2 := AS.pG (S := fun c => c ∈ bE f (aQ (A ++ t :: B))) (L := (· = t.n)) hi1 (n := t.n) h.tn.ln rfl
  exact (((e1.trans e2).trans hs.o0).mono (fun _ h => h) (fun _ h => h) (by omega)).to (by omega)
 ·rw [hs.get]
  show (if (f t.n).1 = (f t.n).1 ∧ 9 = 9 then (-1 : Int) else _) = -1
  rw [if_pos ⟨rfl, rfl⟩]
 ·rw [hs.get]
  show (if c = (f t.n).1 ∧ g = 9 then (-1 : Int) else α.get c g) = _
  rw [if_neg (fun e : c = (f t.n).1 ∧ g = 9 => (h.apart c hc).2 e.1)]
 ·rw [hs.live]
  show (if c = t.n then false else α.live c) = _
  rw [if_neg (h.apart c hc).1]
theorem m4.del (h : m4 z α f A t B) : ((t.n : Int) ∉ aS (A.map (·.n))) ∧ ((t.n : Int) ∉ aS (B.map (·.n))) := by
 have h1 := aAm (iB h.nd)
 rw [List.map_append, List.map_cons] at h1
 obtain ⟨n1, n2, n3⟩ := List.nodup_append.1 h1
 refine ⟨fun hm => ?_, fun hm => ?_⟩
 ·obtain ⟨x, hx, e⟩ := List.mem_map.1 hm
  have : x = t.n := by omega
  subst this
  exact n3 _ hx _ List.mem_cons_self rfl
 ·obtain ⟨x, hx, e⟩ := List.mem_map.1 hm
  have : x = t.n := by omega
  subst this
  exact (List.nodup_cons.1 n2).1 hx
theorem m4.lens (h : m4 z α f A t B) {m : Nat} (hm : (aQ (A ++ t :: B)).length ≤ m) : A.length + B.length ≤ 8 ∧ t.k ≤ 8 ∧ A.length + B.length ≤ bl m ∧ t.k + 1 ≤ bl m ∧ (cV t.c).length ≤ z * t.k ∧ (cV t.c).countP (fun t => t.k != 0) ≤ t.k := by
 have h1 := v8 h.wk h.ok h.sz
 have h2 := uQ h.wk h.ok hm
 rw [List.length_append, List.length_cons] at h1 h2
 have h3 := h.ok t h.mem
 have h4 := rX h.mem
 refine ⟨by omega, aFb (yP h3) (by have := h.sz; omega), by omega, ST.x7 h3 (by omega), h3.1.2.2.1, h3.1.2.2.2⟩
theorem m4.rest {kf : FuncId × Array Value} {s : SV} (h : m4 z α f A t B) (hH : aA w0 F M (star (oZ s ((aS ((A ++ t :: B).map (·.n))).map (Value.int .i64))) (aE a α))) (hp : ∀ (y : Int) (M' : Mem) (R' : VP), Mem.le F M' → R' (.bool (y == (t.n : Int))) M' → C PP w0 kf.1 ((([.int .i64 y] : List Value) ++ kf.2.toList).toArray) R' M')
  (hR : ∀ M' s', aA w0 F M' (star (oZ s' ((aS ((A ++ B).map (·.n))).map (Value.int .i64))) (aE a α)) → R s'.v M') : C PP w0 Id.p6 #[SV.v s, .func (.func kf.1) #[] kf.2] R M := by
 have hi := hH.right.inv
 have e1 : aS ((A ++ t :: B).map (·.n)) = aS (A.map (·.n)) ++ (t.n : Int) :: aS (B.map (·.n)) := by simp [aS]
 have hwf : ∀ y ∈ aS ((A ++ t :: B).map (·.n)), (Lit.int .i64 y).wf = true := mO fun x hx => by
  obtain ⟨u, hu, rfl⟩ := List.mem_map.1 hx
  exact h.small hi _ (iE hu)
 have hl := (h.lens (Nat.le_refl _)).1
 rw [e1] at hH hwf
 refine aJm hH hwf h.del.1 h.del.2 (by simp [aS]; omega) hp fun M' s' h' => hR M' s' ?_
 rw [show aS ((A ++ B).map (·.n)) = aS (A.map (·.n)) ++ aS (B.map (·.n)) from by simp [aS]]
 exact h'
end
theorem wU {s : SV} {f : Nat → cC} {A B : List Tn} {t : Tn} (hA : aA w0 F M (star (oZ s ((aS ((A ++ t :: B).map (·.n))).map (Value.int .i64))) (aE a α))) (hG : m4 1 α f A t B) {m : Nat} (hm : (aQ (A ++ t :: B)).length ≤ m)
  (h : ∀ M' β f' l', aA w0 F M' (aE a β) → St β (-1) (fo l') → Lb β f' (aQ l') → (aQ l').Perm (aQ (A ++ B) ++ aO t.c) → ((aQ l').map f').Perm ((aQ (A ++ B) ++ aO t.c).map f) → (∀ u ∈ l', wQ 1 u) → (∀ u ∈ l', yB f' u) → Wk l' → AS.lE (fun c => c ∈ bE f (aQ (A ++ t :: B))) (· = t.n) (-1) (200 * bl m + 100) α β → β.get (f t.n).1 9 = -1 → R (.tuple #[.int .i64 (fo l').root, .int .i64 ((f t.n).1 : Int)]) M') :
  C PP w0 Id.jB #[.pointer (some ⟨a, 0, none⟩), SV.v s, .int .i64 (t.n : Int)] R M := by
 apply jB.go
 unfold jB.T aJ
 obtain ⟨b1, b2, b3, b4, b5, b6⟩ := hG.lens hm
 intro bx hbx hwx
 have h1 : aA w0 F _ (star (aY bx [.int .i64 (t.n : Int)] 3) _) := hA.new hbx hwx [.int .i64 (t.n : Int)] 3
 generalize M.set bx _ = M1 at h1 ⊢
 obtain ⟨F1, hle1, hown, h2⟩ := aA.fQ h1
 have hld : ∀ M', Mem.le F1 M' → (aH PP w0).ld 3 ⟨bx, 0, none⟩ M' = some (.int .i64 (t.n : Int)) := fun M' hM => by
  rw [aP W.c3]; exact aM (o := 0) (hown.le hM)
 refine hG.rest (kf := (Id.fS, #[.pointer (some ⟨bx, 0, none⟩)])) h2 (fun y M' R' hM hR' => ?_) fun M2 s2 h3 => ?_
 ·show C PP w0 Id.fS #[.int .i64 y, .pointer (some ⟨bx, 0, none⟩)] R' M'
  apply fS.go
  unfold fS.T aJ
  rw [hld M' hM, aC, aL]
  exact hR'
 ·rw [aR, hld M2 h3.fr, aC, aL]
  obtain ⟨F2, hB, hle2, back⟩ := h3.last
  have hnc : (aO t.c).Nodup := (List.nodup_append.1 (List.nodup_cons.1 hG.nn).2).2.1
  have htl : ∀ n ∈ eN t, α.live n = true := fun n hn => (hG.lb n (eB.2 ⟨t, hG.mem, hn⟩)).ln
  refine aFl hB (hG.st t hG.mem) htl hnc fun M3 s3 β hB3 hsm3 => ?_
  have h4 := back M3 _ hB3
  rw [aR]
  have hi := hA.right.inv
  have hrk : pW w0 M3 .i64 s3 (aS ((cV t.c).map (·.n))) := h4.right.aIM (fun x hx => by
   obtain ⟨u, hu, rfl⟩ := List.mem_map.1 hx
   have h5 := AS.cE hi (htl u.n (List.mem_cons_of_mem _ (by rw [← bP]; exact iE hu)))
   have := hi.n
   omega) (by simp; omega)
  refine aI9 h4 hrk (by simp [aS]; omega) fun M4 s4 h5 => ?_
  rw [aR, hld M4 h5.fr, aC, aL]
  have h6 : aA w0 F1 M4 (star (oZ s4 ((aS (((A ++ B) ++ cV t.c).map (·.n))).map (Value.int .i64))) (aE a β)) := by
   rw [show aS (((A ++ B) ++ cV t.c).map (·.n)) = aS ((A ++ B).map (·.n)) ++ aS ((cV t.c).map (·.n)) from by simp [aS]]
   exact h5.dT.right
  have hGβ := hG.sm hsm3
  obtain ⟨F3, hB6, hle6, back6⟩ := h6.last
  refine aD7 hB6 hGβ.tn fun M5 γ hB7 hs7 => ?_
  have h7 := back6 M5 _ hB7
  rw [aL]
  have hNr : aQ ((A ++ B) ++ cV t.c) = aQ (A ++ B) ++ aO t.c := by rw [lB, bP]
  obtain ⟨e1, e2, e3⟩ := hGβ.ended h6.right.inv hs7
  have hmem : ∀ u ∈ (A ++ B) ++ cV t.c, ∀ x ∈ eN u, x ∈ bE f (aQ (A ++ B) ++ aO t.c) := fun u hu x hx => List.mem_append_left _ (by rw [← hNr]; exact eB.2 ⟨u, hu, hx⟩)
  have hstγ : ∀ u ∈ (A ++ B) ++ cV t.c, yW γ u := fun u hu => by
   have h8 : yW β u := by
    rcases List.mem_append.1 hu with h | h
    ·exact hGβ.st u (by rcases List.mem_append.1 h with h | h <;> simp [h])
    ·exact (hGβ.st t hG.mem).2.2.cV u h
   refine ⟨?_, ?_, h8.2.2.congr fun x hx y _ => (e3 x (hmem u hu x (List.mem_cons_of_mem _ hx))).1 y⟩
   ·rw [(e3 u.n (hmem u hu u.n List.mem_cons_self)).1]; exact h8.1
   ·rw [(e3 u.n (hmem u hu u.n List.mem_cons_self)).1]; exact h8.2.1
  have hlbγ : Lb γ f (aQ ((A ++ B) ++ cV t.c)) := by
   rw [hNr]
   refine (hGβ.lb.sub fun x hx => ?_).congr (fun c hc g _ => (e3 c hc).1 g) (fun c hc => (e3 c hc).2)
   exact (pZ A B t).mem_iff.2 (List.mem_cons_of_mem _ hx)
  have hsubcel : ∀ c ∈ aQ ((A ++ B) ++ cV t.c), c ∈ bE f (aQ (A ++ t :: B)) := fun c hc => hG.sub c (List.mem_append_left _ (by rw [← hNr]; exact hc))
  obtain ⟨F4, hle8, hB8, hr8⟩ := h7.freeze (mO fun x hx => by
   obtain ⟨u, hu, rfl⟩ := List.mem_map.1 hx
   have := AS.cE h7.right.inv (hlbγ u.n (iE hu)).ln
   have := h7.right.inv.n
   omega) (by simp [aS]; omega)
  have hndr : (bE f (aQ ((A ++ B) ++ cV t.c))).Nodup := by
   rw [hNr]
   have := hG.cel.nodup_iff.1 hG.nd
   unfold bE at this ⊢
   rw [List.map_cons, List.nodup_append] at this
   obtain ⟨n1, n2, n3⟩ := this
   exact List.nodup_append.2 ⟨(List.nodup_cons.1 n1).2, (List.nodup_cons.1 n2).2, fun x hx y hy => n3 x (List.mem_cons_of_mem _ hx) y (List.mem_cons_of_mem _ hy)⟩
  have hokr : ∀ u ∈ (A ++ B) ++ cV t.c, wQ 1 u := fun u hu => by
   rcases List.mem_append.1 hu with h | h
   ·exact hG.ok u (by rcases List.mem_append.1 h with h | h <;> simp [h])
   ·exact fU.1 (hG.ok t hG.mem).2 u h
  have hodr : ∀ u ∈ (A ++ B) ++ cV t.c, yB f u := fun u hu => by
   rcases List.mem_append.1 hu with h | h
   ·exact hG.od u h
   ·exact pI.1 hG.odt u h
  have hln : ((A ++ B) ++ cV t.c).length ≤ 8 + t.k := by rw [List.length_append, List.length_append]; omega
  refine uZ hB8 (by decide) hr8 hstγ hlbγ hndr hokr hodr (by omega) fun M6 δ l' hC hst' hp' hok' hod' hrs' hc' hg' => ?_
  rw [aL]
  refine h M6 δ f l' ((hC.fJ hle8).fJ hle1) hst' ?_ (by rw [← hNr]; exact hp') (by rw [← hNr]; exact hp'.map f) hok' hod' hrs'.wk ?_ ?_
  ·refine (hlbγ.sub fun x hx => hp'.mem_iff.1 hx).congr (fun c _ g hx => hg' c g (by omega)) (fun c _ => by rw [hc'.live])
  ·refine (((hsm3.o0.trans e1).trans ((hc'.mono hsubcel (Int.le_refl _)).o0)).mono (fun _ h => h) (fun _ h => h) ?_).to (by omega)
   rw [List.length_append, List.length_append] at *
   omega
  ·rw [hg' _ 9 (by decide)]; exact e2
end
end HL
namespace HL
namespace ST
def kA (l : List Tn) : List Tn := l.filter fun t => t.k != 0
def k0 (l : List Tn) : List Tn := l.filter fun t => t.k == 0
theorem aGS (l : List Tn) : (kA l ++ k0 l).Perm l := by
 unfold kA k0
 induction l with
 | nil => exact List.Perm.refl _
 | cons t l ih =>
  by_cases h : t.k = 0
  ·rw [List.filter_cons_of_neg (by simp [h]), List.filter_cons_of_pos (by simp [h])]
   exact List.perm_middle.trans (ih.cons t)
  ·rw [List.filter_cons_of_pos (by simp [h]), List.filter_cons_of_neg (by simp [h])]
   exact ih.cons t
theorem aHr (l : List Tn) : (kA l).length = l.countP fun t => t.k != 0 := by
 unfold kA; rw [List.countP_eq_length_filter]
end ST
section
variable {w0 : World} {M F : Mem} {R : VP} {a : Nat} {α : AS}
open Go.Proofs.YtodobkbnmjgkdaaGreat.HL.ST
theorem aGy {s : SV} {f : Nat → cC} {A B : List Tn} {t : Tn} (hA : aA w0 F M (star (oZ s ((aS ((A ++ t :: B).map (·.n))).map (Value.int .i64))) (aE a α))) (hG : m4 2 α f A t B) {m : Nat} (hm : (aQ (A ++ t :: B)).length ≤ m)
  (h : ∀ M' β f' l', aA w0 F M' (aE a β) → St β (-1) (fo l') → Lb β f' (aQ l') → (aQ l').Perm (aQ (A ++ B) ++ aO t.c) → ((aQ l').map f').Perm ((aQ (A ++ B) ++ aO t.c).map f) → (∀ u ∈ l', wQ 2 u) → (∀ u ∈ l', yB f' u) → Wk l' → AS.lE (fun c => c ∈ bE f (aQ (A ++ t :: B))) (· = t.n) (-1) (200 * bl m + 100) α β → β.get (f t.n).1 9 = -1 → R (.tuple #[.int .i64 (fo l').root, .int .i64 ((f t.n).1 : Int)]) M') :
  C PP w0 Id.uW #[.pointer (some ⟨a, 0, none⟩), SV.v s, .int .i64 (t.n : Int)] R M := by
 apply uW.go
 intro aB H
 unfold uW.T aJ
 obtain ⟨b1, b2, b3, b4, b5, b6⟩ := hG.lens hm
 intro bx hbx hwx
 have h1 : aA w0 F _ (star (aY bx [.int .i64 (t.n : Int)] 3) _) := hA.new hbx hwx [.int .i64 (t.n : Int)] 3
 generalize M.set bx _ = M1 at h1 ⊢
 obtain ⟨F1, hle1, hown, h2⟩ := aA.fQ h1
 have hld : ∀ M', Mem.le F1 M' → (aH PP w0).ld 3 ⟨bx, 0, none⟩ M' = some (.int .i64 (t.n : Int)) := fun M' hM => by
  rw [aP W.c3]; exact aM (o := 0) (hown.le hM)
 refine hG.rest (kf := (Id.uO, #[.pointer (some ⟨bx, 0, none⟩)])) h2 (fun y M' R' hM hR' => ?_) fun M2 s2 h3 => ?_
 ·show C PP w0 Id.uO #[.int .i64 y, .pointer (some ⟨bx, 0, none⟩)] R' M'
  apply uO.go
  unfold uO.T aJ
  rw [hld M' hM, aC, aL]
  exact hR'
 ·rw [aR, hld M2 h3.fr, aC, aL]
  obtain ⟨F2, hB, hle2, back⟩ := h3.last
  have hnc : (aO t.c).Nodup := (List.nodup_append.1 (List.nodup_cons.1 hG.nn).2).2.1
  have htl : ∀ n ∈ eN t, α.live n = true := fun n hn => (hG.lb n (eB.2 ⟨t, hG.mem, hn⟩)).ln
  refine aFl hB (hG.st t hG.mem) htl hnc fun M3 s3 β hB3 hsm3 => ?_
  have h4 := back M3 _ hB3
  rw [aR]
  have hi := hA.right.inv
  have htk : ∀ u ∈ cV t.c, u.n ∈ eN t := fun u hu => List.mem_cons_of_mem _ (by rw [← bP]; exact iE hu)
  obtain ⟨F3, hle3, h5, hrk⟩ := (h4.dT).freeze (mO fun x hx => by
   obtain ⟨u, hu, rfl⟩ := List.mem_map.1 hx
   have h5 := AS.cE hi (htl u.n (htk u hu))
   have := hi.n
   omega) (by simp [aS]; omega)
  have hGβ := hG.sm hsm3
  have hkn := hrk.len
  simp only [aS, List.length_map] at hkn
  have fin : ∀ (M4 : Mem) (sR sA : SV) (γ : AS), aA w0 F3 M4 (star (oZ sA ((aS ((k0 (cV t.c)).map (·.n))).map (Value.int .i64))) (star (oZ sR ((aS (((A ++ B) ++ kA (cV t.c)).map (·.n))).map (Value.int .i64))) (aE a γ))) → AS.Sm (2 * (cV t.c).length + 1) α γ →
    ob ((aH PP w0).ld 3 ⟨bx, 0, none⟩ M4) fun v30 => nA .i64 v30 fun n31 => C PP w0 Id.lA #[.pointer (some ⟨a, 0, none⟩), .int .i64 n31] (fun v32 M33 => nA .i64 v32 fun n34 => C PP w0 Id.m9 #[.pointer (some ⟨a, 0, none⟩), SV.v sR] (fun v35 M36 => nA .i64 v35 fun n37 => ∃ k38, uW.L2 aB k38 (some ⟨a, 0, none⟩) n34 n37 sA ((sA.n : Nat) : Int) 0 M36) M33) M4 := by
   intro M4 sR sA γ hH hsm
   have hGγ := hG.sm hsm
   rw [hld M4 (Mem.le_trans hle3 hH.fr), aC, aL]
   have hiγ := hH.right.right.inv
   have hkmem : ∀ u, u ∈ kA (cV t.c) ∨ u ∈ k0 (cV t.c) → u ∈ cV t.c := fun u hu => (aGS (cV t.c)).mem_iff.1 (List.mem_append.2 hu)
   obtain ⟨F4, hle4, h6, hrA⟩ := hH.freeze (mO fun x hx => by
    obtain ⟨u, hu, rfl⟩ := List.mem_map.1 hx
    have h5 := AS.cE hi (htl u.n (htk u (hkmem u (.inr hu))))
    have := hi.n
    omega) (by have := (aGS (cV t.c)).length_eq; rw [List.length_append] at this; simp [aS]; omega)
   have hsAn := hrA.len
   simp only [aS, List.length_map] at hsAn
   obtain ⟨F5, hB5, hle5, back5⟩ := h6.last
   refine aD7 hB5 hGγ.tn fun M5 δ hB6 hs6 => ?_
   have h7 := back5 M5 _ hB6
   rw [aL]
   obtain ⟨e1, e2, e3⟩ := hGγ.ended hiγ hs6
   have hperm : (aQ ((A ++ B) ++ kA (cV t.c)) ++ aQ (k0 (cV t.c))).Perm (aQ (A ++ B) ++ aO t.c) := by
    rw [lB, List.append_assoc]
    refine List.Perm.append_left _ ?_
    rw [← lB, ← bP]
    exact tG (aGS _)
   have hrn : (bE f (aQ ((A ++ B) ++ kA (cV t.c)) ++ aQ (k0 (cV t.c)))).Nodup := by
    refine (j3 hperm).nodup_iff.2 ?_
    have := hG.cel.nodup_iff.1 hG.nd
    unfold bE at this ⊢
    rw [List.map_cons, List.nodup_append] at this
    obtain ⟨n1, n2, n3⟩ := this
    exact List.nodup_append.2 ⟨(List.nodup_cons.1 n1).2, (List.nodup_cons.1 n2).2, fun x hx y hy => n3 x (List.mem_cons_of_mem _ hx) y (List.mem_cons_of_mem _ hy)⟩
   have hrest : ∀ x ∈ aQ ((A ++ B) ++ kA (cV t.c)) ++ aQ (k0 (cV t.c)), x ∈ bE f (aQ (A ++ B) ++ aO t.c) := fun x hx => List.mem_append_left _ (hperm.mem_iff.1 hx)
   have hlbδ : Lb δ f (aQ ((A ++ B) ++ kA (cV t.c)) ++ aQ (k0 (cV t.c))) := by
    have h9 : Lb δ f (aQ (A ++ B) ++ aO t.c) := (hGγ.lb.sub fun x hx => (pZ A B t).mem_iff.2 (List.mem_cons_of_mem _ hx)).congr (fun c hc g _ => (e3 c hc).1 g) (fun c hc => (e3 c hc).2)
    exact h9.sub fun x hx => hperm.mem_iff.1 hx
   have hst1 : ∀ u, (u ∈ A ++ B ∨ u ∈ cV t.c) → yW γ u := fun u hu => by
    rcases hu with h | h
    ·exact hGγ.st u (by rcases List.mem_append.1 h with h | h <;> simp [h])
    ·exact (hGγ.st t hG.mem).2.2.cV u h
   have hmem : ∀ u, (u ∈ A ++ B ∨ u ∈ cV t.c) → ∀ x ∈ eN u, x ∈ bE f (aQ (A ++ B) ++ aO t.c) := fun u hu x hx => by
    refine List.mem_append_left _ (List.mem_append.2 ?_)
    rcases hu with h | h
    ·exact .inl (eB.2 ⟨u, h, hx⟩)
    ·exact .inr (by rw [← bP]; exact eB.2 ⟨u, h, hx⟩)
   have hstδ : ∀ u, (u ∈ A ++ B ∨ u ∈ cV t.c) → yW δ u := fun u hu => by
    have h8 := hst1 u hu
    refine ⟨?_, ?_, h8.2.2.congr fun x hx y _ => (e3 x (hmem u hu x (List.mem_cons_of_mem _ hx))).1 y⟩
    ·rw [(e3 u.n (hmem u hu u.n List.mem_cons_self)).1]; exact h8.1
    ·rw [(e3 u.n (hmem u hu u.n List.mem_cons_self)).1]; exact h8.2.1
   have hcls : ∀ u, u ∈ (A ++ B) ++ kA (cV t.c) → (u ∈ A ++ B ∨ u ∈ cV t.c) := fun u hu => by
    rcases List.mem_append.1 hu with h | h
    ·exact .inl h
    ·exact .inr (hkmem u (.inl h))
   have hokr : ∀ u, (u ∈ A ++ B ∨ u ∈ cV t.c) → wQ 2 u := fun u hu => by
    rcases hu with h | h
    ·exact hG.ok u (by rcases List.mem_append.1 h with h | h <;> simp [h])
    ·exact fU.1 (hG.ok t hG.mem).2 u h
   have hodr : ∀ u, (u ∈ A ++ B ∨ u ∈ cV t.c) → yB f u := fun u hu => by
    rcases hu with h | h
    ·exact hG.od u h
    ·exact pI.1 hG.odt u h
   obtain ⟨F6, hle6, hB7, hr7⟩ := h7.freeze (mO fun x hx => by
    obtain ⟨u, hu, rfl⟩ := List.mem_map.1 hx
    have := AS.cE h7.right.inv (hlbδ u.n (List.mem_append_left _ (iE hu))).ln
    have := h7.right.inv.n
    omega) (by have := aHr (cV t.c); simp [aS]; omega)
   have hln : ((A ++ B) ++ kA (cV t.c)).length ≤ 8 + t.k := by rw [List.length_append, List.length_append, aHr]; omega
   have hc1 : (bE f (aQ ((A ++ B) ++ kA (cV t.c)))).Nodup := ((yM f _ _).nodup_iff.1 hrn |> List.nodup_append.1).1
   refine uZ hB7 (by decide) hr7 (fun u hu => hstδ u (hcls u hu)) (hlbδ.sub fun x hx => List.mem_append_left _ hx) hc1 (fun u hu => hokr u (hcls u hu)) (fun u hu => hodr u (hcls u hu)) (by omega) fun M6 ε l1 hC hst' hp' hok' hod' hrs' hc' hg' => ?_
   rw [aL]
   have hrA6 : pW w0 F6 .i64 sA (aS ((k0 (cV t.c)).map (·.n))) := (hrA.le (M1 := F6) hle6)
   have hnnr := iB hrn
   have key : ∀ (P2 P1 : List Tn) (M7 : Mem) (ζ : AS) (f1 : Nat → cC) (l2 : List Tn) (k : Nat), k0 (cV t.c) = P1 ++ P2 → aA w0 F6 M7 (aE a ζ) → St ζ (-1) (fo l2) → Lb ζ f1 (aQ l2) → (aQ l2).Perm (aQ ((A ++ B) ++ kA (cV t.c)) ++ aQ P1) → ((aQ l2).map f1).Perm ((aQ ((A ++ B) ++ kA (cV t.c)) ++ aQ P1).map f) → (∀ x, x ∉ aQ l2 → f1 x = f x) →
     (∀ u ∈ l2, wQ 2 u) → (∀ u ∈ l2, yB f1 u) → Wk l2 → AS.nH (fun c => c ∈ bE f (aQ ((A ++ B) ++ kA (cV t.c)) ++ aQ P1)) (14 * (8 + t.k) + 40 * P1.length) δ ζ → P2.length < k → uW.L2 aB k (some ⟨a, 0, none⟩) ((f t.n).1 : Int) (fo l2).root sA ((sA.n : Nat) : Int) (P1.length : Int) M7 := by
    intro P2
    induction P2 with
    | nil =>
     intro P1 M7 ζ f1 l2 k he hZ hsz hlz hpz hmz hfz hokz hodz hwkz hcz hk
     obtain ⟨k, rfl⟩ : ∃ j, k = j + 1 := ⟨k - 1, by omega⟩
     rw [List.append_nil] at he
     refine Eq.mpr (H.L2 ..) ?_
     unfold uW.L2.T aJ
     have hPl : P1.length = (k0 (cV t.c)).length := by rw [he]
     rw [eO, if_neg (by omega)]
     rw [← he] at hpz hmz hcz
     refine h M7 ζ f1 l2 ((((hZ.fJ hle6).fJ hle4).fJ hle3).fJ hle1) hsz hlz (hpz.trans hperm) (hmz.trans (hperm.map f)) hokz hodz hwkz ?_ ?_
     ·have hk0l : (k0 (cV t.c)).length ≤ (cV t.c).length := List.length_filter_le _ _
      refine (((hsm.o0.trans e1).trans ((hcz.mono (T := fun c => c ∈ bE f (aQ (A ++ t :: B))) (fun c hc => hG.sub c ((j3 hperm).mem_iff.1 hc)) (Int.le_refl _)).o0)).mono (fun _ h => h) (fun _ h => h) ?_).to (by omega)
      omega
     ·rw [hcz.get _ (fun hc => (hG.apart _ ((j3 hperm).mem_iff.1 hc)).2 rfl)]; exact e2
    | cons u P2 ih =>
     intro P1 M7 ζ f1 l2 k he hZ hsz hlz hpz hmz hfz hokz hodz hwkz hcz hk
     obtain ⟨k, rfl⟩ : ∃ j, k = j + 1 := ⟨k - 1, by omega⟩
     have ll := congrArg List.length he
     simp only [List.length_append, List.length_cons] at ll hk
     have hu0 : u ∈ k0 (cV t.c) := by rw [he]; simp
     have hk0l : (k0 (cV t.c)).length ≤ (cV t.c).length := List.length_filter_le _ _
     have hut : u ∈ cV t.c := hkmem u (.inr hu0)
     have huk : u.k = 0 := by
      have := (List.mem_filter.1 hu0).2
      simpa using this
     have huc : u.c = .nil := aHo (hokr u (.inr hut)) huk
     have hun : eN u = [u.n] := by unfold eN; rw [huc]; rfl
     refine Eq.mpr (H.L2 ..) ?_
     unfold uW.L2.T aJ
     rw [eO, if_pos (by omega)]
     refine rdx (x := (u.n : Int)) W.c3 hrA6 hZ.fr P1.length rfl (by rw [he]; simp [aS]) ?_
     have hbig : (aQ ((A ++ B) ++ kA (cV t.c)) ++ aQ (P1 ++ u :: P2)).Nodup := by rw [← he]; exact hnnr
     have hsub2 : (aQ ((A ++ B) ++ kA (cV t.c)) ++ (aQ P1 ++ (u.n :: aQ P2))) = aQ ((A ++ B) ++ kA (cV t.c)) ++ aQ (P1 ++ u :: P2) := by
      rw [lB P1]
      show _ = _ ++ (aQ P1 ++ (eN u ++ aQ P2))
      rw [hun]; rfl
     have hcelu : (bE f (u.n :: (aQ ((A ++ B) ++ kA (cV t.c)) ++ aQ P1))).Nodup := by
      have h8 := hrn
      rw [he, ← hsub2, ← List.append_assoc] at h8
      have h9 : ((aQ ((A ++ B) ++ kA (cV t.c)) ++ aQ P1) ++ u.n :: aQ P2).Perm ((u.n :: (aQ ((A ++ B) ++ kA (cV t.c)) ++ aQ P1)) ++ aQ P2) := List.perm_middle
      have h10 := (j3 (f := f) h9).nodup_iff.1 h8
      exact (List.nodup_append.1 ((yM f _ _).nodup_iff.1 h10)).1
     have hun2 : u.n ∉ aQ l2 := fun hm => (List.nodup_cons.1 (iB hcelu)).1 (hpz.mem_iff.1 hm)
     have hf1u : f1 u.n = f u.n := hfz u.n hun2
     have hP1 : (u.n :: aQ l2).Perm (u.n :: (aQ ((A ++ B) ++ kA (cV t.c)) ++ aQ P1)) := hpz.cons _
     have hM1 : ((u.n :: aQ l2).map f1).Perm ((u.n :: (aQ ((A ++ B) ++ kA (cV t.c)) ++ aQ P1)).map f) := by
      rw [List.map_cons, List.map_cons, hf1u]
      exact hmz.cons _
     have hcel2 := sY hP1 hM1
     have hnoS : ∀ c, (c = u.n ∨ c = (f u.n).1) → c ∉ bE f (aQ ((A ++ B) ++ kA (cV t.c)) ++ aQ P1) := fun c hc hm => by
      have h8 := hcelu
      unfold bE at h8 hm
      rw [List.map_cons, List.nodup_append] at h8
      obtain ⟨n1, n2, n3⟩ := h8
      rcases hc with rfl | rfl
      ·rcases List.mem_append.1 hm with hm | hm
       ·exact (List.nodup_cons.1 n1).1 hm
       ·exact n3 u.n List.mem_cons_self u.n (List.mem_cons_of_mem _ hm) rfl
      ·rcases List.mem_append.1 hm with hm | hm
       ·exact n3 _ (List.mem_cons_of_mem _ hm) _ List.mem_cons_self rfl
       ·exact (List.nodup_cons.1 n2).1 hm
     have hud := hstδ u (.inr hut)
     have hζu : ∀ y, ζ.get u.n y = δ.get u.n y := hcz.get u.n (hnoS _ (.inl rfl))
     have hlbu : Lb ζ f1 (u.n :: aQ l2) := fun x hx => by
      rcases List.mem_cons.1 hx with rfl | hx
      ·rw [hf1u]
       have h8 := hlbδ u.n (List.mem_append_right _ (iE hu0))
       exact h8.congr hζu (hcz.get _ (hnoS _ (.inr rfl))) (by rw [hcz.live]) (by rw [hcz.live])
      ·exact hlz x hx
     refine aBX hZ (n := u.n) hsz ?_ ?_ hlbu (hcel2.nodup_iff.2 hcelu) hokz hodz hwkz fun M8 η f2 l3 hE hs3 hl3 hp3 hm3 hf3 hok3 hod3 hwk3 hc3 => ?_
     ·rw [hζu, hud.1, huc]; rfl
     ·rw [hζu, hud.2.1, huk]; rfl
     ·rw [aL, cR (by omega)]
      have hpn : (aQ ((A ++ B) ++ kA (cV t.c)) ++ aQ (P1 ++ [u])).Perm (u.n :: (aQ ((A ++ B) ++ kA (cV t.c)) ++ aQ P1)) := by
       rw [lB P1, show aQ [u] = [u.n] from by simp [aQ, hun], ← List.append_assoc]
       exact List.perm_append_comm
      have := ih (P1 ++ [u]) M8 η f2 l3 k (by rw [he]; simp) hE hs3 (hl3.sub fun x hx => hp3.mem_iff.1 hx) ((hp3.trans hP1).trans hpn.symm) (((hp3.map f2).trans hm3).trans (hM1.trans (hpn.map f).symm)) (fun x hx => ?_) hok3 hod3 hwk3 ?_ (by omega)
      ·rw [List.length_append, List.length_singleton] at this
       exact this
      ·have h8 : x ∉ u.n :: aQ l2 := fun hm => hx (hp3.mem_iff.2 hm)
       rw [hf3 x h8]
       exact hfz x fun hm => h8 (List.mem_cons_of_mem _ hm)
      ·refine ((hcz.mono (T := fun c => c ∈ bE f (aQ ((A ++ B) ++ kA (cV t.c)) ++ aQ (P1 ++ [u]))) (fun c hc => (j3 hpn).mem_iff.2 ?_) (Int.le_refl _)).trans (hc3.mono (fun c hc => (j3 hpn).mem_iff.2 (hcel2.mem_iff.1 hc)) (Int.le_refl _))).mono (fun _ h => h) (by simp; omega)
       unfold bE at hc ⊢
       rw [List.map_cons]
       rcases List.mem_append.1 hc with hc | hc
       ·exact List.mem_append_left _ (List.mem_cons_of_mem _ hc)
       ·exact List.mem_append_right _ (List.mem_cons_of_mem _ hc)
   refine ⟨(k0 (cV t.c)).length + 1, key (k0 (cV t.c)) [] M6 ε f l1 _ rfl hC hst' ?_ ?_ ?_ (fun _ _ => rfl) hok' hod' hrs'.wk ?_ (by omega)⟩
   ·refine (hlbδ.sub fun x hx => List.mem_append_left _ (hp'.mem_iff.1 hx)).congr (fun c _ g hx => hg' c g (by omega)) (fun c _ => by rw [hc'.live])
   ·simpa [aQ] using hp'
   ·simpa [aQ] using hp'.map f
   ·refine hc'.mono (fun c hc => List.mem_append_left _ (List.mem_append_left _ hc)) ?_
    have h9 := hln
    simp only [List.length_append, List.length_nil] at h9 ⊢
    omega
  have key : ∀ (K2 K1 : List Tn) (sR sA : SV) (M4 : Mem) (γ : AS) (k : Nat), cV t.c = K1 ++ K2 → aA w0 F3 M4 (star (oZ sA ((aS ((k0 K1).map (·.n))).map (Value.int .i64))) (star (oZ sR ((aS (((A ++ B) ++ kA K1).map (·.n))).map (Value.int .i64))) (aE a γ))) → AS.Sm ((cV t.c).length + 1 + K1.length) α γ → K2.length < k →
    uW.L1 aB k (some ⟨a, 0, none⟩) ⟨bx, 0, none⟩ sR sA s3 ((s3.n : Nat) : Int) (K1.length : Int) M4 := by
   intro K2
   induction K2 with
   | nil =>
    intro K1 sR sA M4 γ k he hH hsm hk
    obtain ⟨k, rfl⟩ : ∃ j, k = j + 1 := ⟨k - 1, by omega⟩
    rw [List.append_nil] at he
    refine Eq.mpr (H.L1 ..) ?_
    unfold uW.L1.T aJ
    have : K1.length = (cV t.c).length := by rw [he]
    rw [eO, if_neg (by omega)]
    rw [← he] at hH
    exact fin M4 sR sA γ hH (hsm.mono (by omega))
   | cons u K2 ih =>
    intro K1 sR sA M4 γ k he hH hsm hk
    obtain ⟨k, rfl⟩ : ∃ j, k = j + 1 := ⟨k - 1, by omega⟩
    have ll := congrArg List.length he
    simp only [List.length_append, List.length_cons] at ll hk
    have hut : u ∈ cV t.c := by rw [he]; simp
    have hlu : γ.live u.n = true := by rw [hsm.live]; exact htl u.n (htk u hut)
    have hkA : (kA K1).length ≤ K1.length := List.length_filter_le _ _
    have hk0 : (k0 K1).length ≤ K1.length := List.length_filter_le _ _
    refine Eq.mpr (H.L1 ..) ?_
    unfold uW.L1.T aJ
    rw [eO, if_pos (by omega)]
    refine rdx (x := (u.n : Int)) W.c3 hrk hH.fr K1.length rfl (by rw [he]; simp [aS]) ?_
    obtain ⟨F4, hB4, hle4, back4⟩ := hH.aJF
    refine p3 hB4 fun M5 hB5 => ?_
    have h6 := back4 M5 _ hB5
    rw [show γ.jK (u.n : Int) 4 = (u.k : Int) from by
     rw [show γ.jK (u.n : Int) 4 = γ.get u.n 4 from AS.iM (f := 4) hlu (by omega), hsm.get]
     exact ((hG.st t hG.mem).2.2.cV u hut).2.1]
    rw [aL, eW]
    have hsm' : AS.Sm ((cV t.c).length + 1 + ((K1 ++ [u]).length : Int)) α γ.tick := (hsm.trans AS.aN).mono (by simp; omega)
    split
    ·rename_i hz
     have hz' : u.k = 0 := by omega
     refine yL (K := fun s27 M26 => uW.L1 aB k _ _ _ s27 _ _ _ M26) h6 (by simp [aS]; omega) fun M6 s6 h7 => ?_
     rw [cR (by omega)]
     have := ih (K1 ++ [u]) sR s6 M6 γ.tick k (by rw [he]; simp) ?_ hsm' (by omega)
     ·rw [List.length_append, List.length_singleton] at this; exact this
     ·rw [show k0 (K1 ++ [u]) = k0 K1 ++ [u] from by simp [k0, hz'], show kA (K1 ++ [u]) = kA K1 from by simp [kA, hz'], show aS ((k0 K1 ++ [u]).map (·.n)) = aS ((k0 K1).map (·.n)) ++ [(u.n : Int)] from by simp [aS]]
      exact h7
    ·rename_i hz
     have hz' : ¬ u.k = 0 := by omega
     refine yL (K := fun s27 M26 => uW.L1 aB k _ _ s27 _ _ _ _ M26) h6.dT (by simp [aS]; omega) fun M6 s6 h7 => ?_
     rw [cR (by omega)]
     have := ih (K1 ++ [u]) s6 sA M6 γ.tick k (by rw [he]; simp) ?_ hsm' (by omega)
     ·rw [List.length_append, List.length_singleton] at this; exact this
     ·rw [show k0 (K1 ++ [u]) = k0 K1 from by simp [k0, hz'], show kA (K1 ++ [u]) = kA K1 ++ [u] from by simp [kA, hz'], show aS (((A ++ B) ++ (kA K1 ++ [u])).map (·.n)) = aS (((A ++ B) ++ kA K1).map (·.n)) ++ [(u.n : Int)] from by simp [aS]]
      exact h7.dT
  refine ⟨(cV t.c).length + 1, key (cV t.c) [] s2 ⟨none, 0, 0⟩ M3 β _ rfl ?_ (hsm3.mono (by simp)) (by omega)⟩
  have h8 : aA w0 F3 M3 (star (oZ s2 ((aS (((A ++ B) ++ kA []).map (·.n))).map (Value.int .i64))) (aE a β)) := by
   simpa [kA] using h5
  exact aA.aEI h8
end
end HL
namespace HL
--COMMON
section
variable {w0 : World} {M F : Mem} {R : VP} {a : Nat} {α : AS}
open Go.Proofs.YtodobkbnmjgkdaaGreat.HL.ST
theorem aA.aEX {Q : cY} {s : SV} {l : List Int} (h : aA w0 F M (star (oZ s (l.map (Value.int .i64))) Q)) (hw : ∀ n ∈ l, (Lit.int .i64 n).wf = true) (hm : l.length ≤ 1000000) : ∃ F', aA w0 F' M Q ∧ Mem.le F F' ∧ pW w0 F' .i64 s l ∧ ∀ M' Q', aA w0 F' M' Q' → aA w0 F M' (star (oZ s (l.map (Value.int .i64))) Q') := by
 obtain ⟨r, ⟨r1, r2, rfl, h1, h2⟩, h3⟩ := h
 have h4 := h3.perm List.perm_append_comm
 obtain ⟨h5, h6⟩ := h4.aside
 have hF : ∀ x ∈ r1, F x.1 = Option.none := fun x hx => (h3.at_ x (List.mem_append_left _ hx)).2.1
 refine ⟨ext F r1, ⟨r2, h2, h5⟩, xC hF, ?_, fun M' Q' ⟨r', g1, g2⟩ => ⟨r1 ++ r', ⟨r1, r', rfl, h1, g1⟩, (h6 M' r' g2).perm List.perm_append_comm⟩⟩
 have hs : Sl w0 F (ext F r1) s (l.map (Value.int .i64)) := by
  rcases h1 with ⟨rfl, hl, _⟩ | ⟨b, rest, e, e1, rfl⟩
  ·rw [hl]; exact Sl.nil
  ·have h6 := h3.at_ (b, l.map (Value.int .i64) ++ rest, e) (by simp)
   refine .inr ⟨b, rest, e, e1, h6.2.1, h6.1, ?_⟩
   unfold ext
   simp
 exact hs.rdI hw (by omega)
theorem jT {m : Nat} {j : Int} (h : j ≤ 400 * (bl m : Int) + 400) : j ≤ dJ m := by unfold dJ; omega
theorem x9 {f : Nat → cC} {b : ST} {t : Tn} (ht : t ∈ cV b) (hn : (aO b).Nodup) (ho : Od f b) (hb : ∀ u ∈ cV b, u.n ≠ t.n → Bf (f t.n) (f u.n)) : ∀ x ∈ aO b, x ≠ t.n → Bf (f t.n) (f x) := by
 intro x hx hxt
 rw [← bP] at hx
 obtain ⟨u, hu, hxu⟩ := eB.1 hx
 by_cases e : u.n = t.n
 ·have hod := pI.1 ho u hu
  rcases List.mem_cons.1 hxu with rfl | hxu
  ·exact absurd e hxt
  ·rw [← e]; exact hod.1 x hxu
 ·exact (pI.1 ho u hu).le (hb u hu e) x hxu
theorem xP.gone {z : Nat} {r : Int} {f : Nat → cC} {b : ST} {A B : List Tn} {t : Tn} (h : xP z α r f b) (he : cV b = A ++ t :: B) (hs : (aO b).length ≤ 300) : m4 z α f A t B := by
 have hN : aQ (A ++ t :: B) = aO b := by rw [← he, bP]
 refine ⟨fun u hu => h.st.cV u (by rw [he]; exact hu), by rw [hN]; exact h.lb, by rw [hN]; exact h.nd, fun u hu => fU.1 h.ok u (by rw [he]; exact hu), fun u hu => pI.1 h.od u (by rw [he]; rcases List.mem_append.1 hu with hu | hu <;> simp [hu]), (pI.1 h.od t (by rw [he]; simp)).2, by rw [← he]; exact h.wk, by rw [hN]; exact hs⟩
theorem dK {b : ST} {t : Tn} (h : t ∈ cV b) : t.n ∈ aO b := by rw [← bP]; exact iE h
theorem sQ {b : ST} (h : ∀ n ∈ aO b, n < 1000000) : ∀ n ∈ aS ((cV b).map (·.n)), (Lit.int .i64 n).wf = true := mO fun x hx => by
 obtain ⟨t, ht, rfl⟩ := List.mem_map.1 hx
 exact h _ (dK ht)
theorem xP.small {z : Nat} {r : Int} {f : Nat → cC} {b : ST} (h : xP z α r f b) (hi : α.Inv) : ∀ n ∈ aO b, n < 1000000 := fun n hn => by
 have := AS.cE hi (h.lb n hn).ln
 have := hi.n
 omega
theorem xA (b : ST) : (cV b).length ≤ (aO b).length := by
 induction b with
 | nil => simp [cV]
 | node n k c s _ ih => simp only [cV, aO, List.length_cons, List.length_append]; omega
theorem zP {z : Nat} {k : Int} (hk : k = 2 ∨ k = 3) (hz : z = if k = 2 then 1 else 2) {f' : Nat → cC} {l' : List Tn} {N : List Nat} {L : List cC} (hst : St α (-1) (fo l')) (hlb : Lb α f' (aQ l')) (hp : (aQ l').Perm N) (hm : ((aQ l').map f').Perm L) (fO : (fD L N).Nodup) (hok : ∀ u ∈ l', wQ z u) (hod : ∀ u ∈ l', yB f' u) (hwk : Wk l') : KH k α (fo l').root L N := by
 refine .inr ⟨hk, f', fo l', ⟨rfl, hst, by rw [p9]; exact hlb, ?_, by rw [← hz]; exact aG8.2 hok, by rw [aHN]; exact hwk, aHC.2 hod⟩, by rw [p9]; exact hm, by rw [p9]; exact hp⟩
 rw [p9]
 exact (pP (b := fo l') (by rw [p9]; exact hm) (by rw [p9]; exact hp) |>.nodup_iff.2 fO |> fun h => by rw [p9] at h; exact h)
end
--END
section
variable {w0 : World} {M F : Mem} {R : VP} {a : Nat} {α : AS} {r : Int} {f : Nat → cC} {b : ST}
open Go.Proofs.YtodobkbnmjgkdaaGreat.HL.ST
theorem aFB (hA : aA w0 F M (aE a α)) (hp : xP 1 α r f b)
  (h : ∀ x, x ∈ gQ f (aO b) → (∀ y ∈ gQ f (aO b), y.1 ≠ x.1 → Bf x y) → ∀ M' β, aA w0 F M' (aE a β) → AS.Sm (dJ (aO b).length) α β → R (.int .i64 (x.1 : Int)) M') (eE : aO b ≠ []) :
  C PP w0 Id.qR #[.pointer (some ⟨a, 0, none⟩), .int .i64 r] R M := by
 apply qR.go
 unfold qR.T aJ
 have hI := hA.inv
 simp only [go_sem, Option.isNone_some, mT]
 rw [hp.r]
 have hnn := iB hp.nd
 have hwb := uQ hp.wk (fU.1 hp.ok) (m := (aO b).length) (by rw [bP]; exact Nat.le_refl _)
 have hlen := mR α.n _ hnn fun y hy => AS.cE hI (hp.lb y hy).ln
 have hI65 := hI.n
 have htl := xA b
 refine nT hA hp.st (fun n hn => (hp.lb n hn).ln) hnn fun M1 s β hB hs => ?_
 simp only [go_sem]
 obtain ⟨F', hle, hB1, hr⟩ := hB.freeze (sQ (hp.small hI)) (by simp [aS]; omega)
 refine z8 hB1 hr (fun t ht => hs.nd (hp.lb t.n (dK ht))) (fun t ht u hu e => kQ hp.nd _ (dK ht) _ (dK hu) e) (by omega) (fun e => ?_) fun t ht hb M2 γ hC hs2 => ?_
 ·cases b with
  | nil => exact absurd rfl eE
  | node n k c s => simp [cV] at e
 ·simp only [go_sem]
  have hNt := (hs.trans hs2).nd (hp.lb t.n (dK ht))
  refine eQ hC fun M3 hC3 => ?_
  rw [show γ.fH (t.n : Int) 6 = ((f t.n).1 : Int) from AS.dB (f := 6) hNt.ln (by omega) hNt.it (AS.cE hC.inv hNt.li)]
  simp only [go_sem]
  refine h (f t.n) (List.mem_map.2 ⟨t.n, dK ht, rfl⟩) (fun y hy hyn => ?_) M3 _ (hC3.fJ hle) (((hs.trans hs2).trans AS.aN).mono (jT (by omega)))
  obtain ⟨x, hx, rfl⟩ := List.mem_map.1 hy
  exact x9 ht hnn hp.od hb x hx fun e => hyn (by rw [e])
theorem aF4 (hA : aA w0 F M (aE a α)) (hp : xP 1 α r f b) (eE : aO b ≠ []) (h300 : (aO b).length ≤ 300)
  (h : ∀ x ∈ aO b, (∀ y ∈ aO b, y ≠ x → Bf (f x) (f y)) → ∀ L N, (gQ f (aO b)).Perm (f x :: L) → (aO b).Perm (x :: N) → ∀ M' β r', aA w0 F M' (aE a β) → KH 2 β r' L N → AS.lE (fun c => c ∈ bE f (aO b)) (· = x) (-1) (dJ (aO b).length) α β → β.get (f x).1 9 = -1 → R (.tuple #[.int .i64 r', .int .i64 ((f x).1 : Int)]) M') :
  C PP w0 Id.jM #[.pointer (some ⟨a, 0, none⟩), .int .i64 r] R M := by
 apply jM.go
 intro aB H
 unfold jM.T aJ
 have hI := hA.inv
 simp only [go_sem, Option.isNone_some, mT]
 have hnn := iB hp.nd
 have hroot : ∃ n : Nat, r = (n : Int) ∧ n ∈ aO b := by
  rw [hp.r]
  cases b with
  | nil => exact absurd rfl eE
  | node n k c s => exact ⟨n, rfl, by simp [aO]⟩
 obtain ⟨n, hrn, hnb⟩ := hroot
 refine wE hA ?_
 (rw [hrn, AS.sS, (hp.lb n hnb).ln, bU, Bool.not_true, mT, ← hrn]; refine Eq.mpr (H.J1 ..) ?_)
 unfold jM.J1.T aJ
 rw [hp.r]
 have hwb := uQ hp.wk (fU.1 hp.ok) (m := (aO b).length) (by rw [bP]; exact Nat.le_refl _)
 have htl := xA b
 refine nT hA hp.st (fun n hn => (hp.lb n hn).ln) hnn fun M1 s β hB hs => ?_
 rw [aR]
 obtain ⟨F', hB1, hle, hr, back⟩ := hB.aEX (sQ (hp.small hI)) (by simp [aS]; omega)
 refine z8 hB1 hr (fun t ht => hs.nd (hp.lb t.n (dK ht))) (fun t ht u hu e => kQ hp.nd _ (dK ht) _ (dK hu) e) (by omega) (fun e => ?_) fun t ht hb M2 γ hC hs2 => ?_
 ·cases b with
  | nil => exact absurd rfl eE
  | node n k c s => simp [cV] at e
 ·rw [aL]
  have h2 := back M2 _ hC
  obtain ⟨A, B, hAB⟩ := List.append_of_mem ht
  have hG : m4 1 γ f A t B := (hp.gone hAB h300).sm (hs.trans hs2)
  have hN : aQ (A ++ t :: B) = aO b := by rw [← hAB, bP]
  rw [hAB] at h2
  refine wU h2 hG (m := (aO b).length) (by rw [hN]; exact Nat.le_refl _) fun M3 δ f' l' hD hst' hlb' hp' hm' hok' hod' hwk' he' hg' => ?_
  simp only [go_sem]
  have hpn : (aO b).Perm (t.n :: (aQ (A ++ B) ++ aO t.c)) := by rw [← hN]; exact pZ A B t
  have hpi : (gQ f (aO b)).Perm (f t.n :: (aQ (A ++ B) ++ aO t.c).map f) := hpn.map f
  rw [hN] at he'
  have hck : (fD ((aQ (A ++ B) ++ aO t.c).map f) (aQ (A ++ B) ++ aO t.c)).Nodup := by
   have h3 := (j3 (f := f) hpn).nodup_iff.1 hp.nd
   unfold bE at h3
   unfold fD
   rw [List.map_cons, List.nodup_append] at h3
   obtain ⟨n1, n2, n3⟩ := h3
   rw [List.map_map]
   exact List.nodup_append.2 ⟨(List.nodup_cons.1 n1).2, (List.nodup_cons.1 n2).2, fun x hx y hy => n3 x (List.mem_cons_of_mem _ hx) y (List.mem_cons_of_mem _ hy)⟩
  refine h t.n (dK ht) (x9 ht hnn hp.od hb) _ _ hpi hpn M3 δ _ hD (zP (.inl rfl) rfl hst' hlb' hp' hm' hck hok' hod' hwk') (((((hs.trans hs2).o0 (S := fun c => c ∈ bE f (aO b)) (L := (· = t.n))).trans he').mono (fun _ h => h) (fun _ h => h) (jT ?_)).to (by omega)) hg'
  omega
theorem aDJ (hA : aA w0 F M (aE a α)) {s : Int} {g : Nat → cC} {c : ST} (hp : xP 1 α r f b) (hq : xP 1 α s g c) (hd : (bE f (aO b) ++ bE g (aO c)).Nodup) (h300 : (aO b).length + (aO c).length ≤ 300)
  (h : ∀ M' β r', aA w0 F M' (aE a β) → KH 2 β r' (gQ f (aO b) ++ gQ g (aO c)) (aO b ++ aO c) → AS.lE (fun x => x ∈ bE f (aO b) ∨ x ∈ bE g (aO c)) (fun _ => False) 0 (dJ ((aO b).length + (aO c).length)) α β → R (.int .i64 r') M') :
  C PP w0 Id.nP #[.pointer (some ⟨a, 0, none⟩), .int .i64 r, .int .i64 s] R M := by
 apply nP.go
 unfold nP.T aJ
 have hI := hA.inv
 simp only [go_sem, Option.isNone_some, mT]
 obtain ⟨d1, d2, d3⟩ := List.nodup_append.1 hd
 rw [eW]
 split
 ·rename_i hrs
  have hb0 : b = .nil ∧ c = .nil := by
   rw [hp.r, hq.r] at hrs
   cases b with
   | nil =>
    cases c with
    | nil => exact ⟨rfl, rfl⟩
    | node n k c s => simp only [root] at hrs; omega
   | node n k c0 s0 =>
    cases c with
    | nil => simp only [root] at hrs; omega
    | node n' k' c' s' =>
     simp only [root] at hrs
     have : n = n' := by omega
     exact absurd this (d3 n (List.mem_append_left _ (by simp [aO])) n' (List.mem_append_left _ (by simp [aO])))
  obtain ⟨rfl, rfl⟩ := hb0
  refine h M α r hA (.inr ⟨.inl rfl, f, .nil, hp, List.Perm.refl _, List.Perm.refl _⟩) (AS.Sm.refl.o0.mono (fun _ h => h) (fun _ h => h) (jT (by omega)))
 ·have hnb := iB hp.nd
  have hncc := iB hq.nd
  have hwb := uQ hp.wk (fU.1 hp.ok) (m := (aO b).length + (aO c).length) (by rw [bP]; omega)
  have hwc := uQ hq.wk (fU.1 hq.ok) (m := (aO b).length + (aO c).length) (by rw [bP]; omega)
  have h9b := v8 hp.wk (fU.1 hp.ok) (by rw [bP]; omega)
  have h9c := v8 hq.wk (fU.1 hq.ok) (by rw [bP]; omega)
  rw [hp.r]
  refine nT hA hp.st (fun n hn => (hp.lb n hn).ln) hnb fun M1 s1 β hB hs1 => ?_
  rw [aR, hq.r]
  obtain ⟨F1, hB1, hle1, back1⟩ := hB.last
  refine nT hB1 (hq.st.sm hs1) (fun n hn => by rw [hs1.live]; exact (hq.lb n hn).ln) hncc fun M2 s2 γ hC hs2 => ?_
  have h2 := back1 M2 _ hC
  rw [aR]
  have hrc : pW w0 M2 .i64 s2 (aS ((cV c).map (·.n))) := h2.right.aIM (fun x hx => by
   obtain ⟨t, ht, rfl⟩ := List.mem_map.1 hx
   exact hq.small hI _ (dK ht)) (by simp; omega)
  refine aI9 h2 hrc (by simp [aS]; omega) fun M3 s3 h3 => ?_
  rw [aR]
  have h4 : aA w0 F M3 (star (oZ s3 ((aS ((cV b ++ cV c).map (·.n))).map (Value.int .i64))) (aE a γ)) := by
   rw [show aS ((cV b ++ cV c).map (·.n)) = aS ((cV b).map (·.n)) ++ aS ((cV c).map (·.n)) from by simp [aS]]
   exact h3.dT.right
  have hN : aQ (cV b ++ cV c) = aO b ++ aO c := by rw [lB, bP, bP]
  let hh : Nat → cC := fun x => if x ∈ aO b then f x else g x
  have ehb : ∀ x ∈ aO b, hh x = f x := fun x hx => if_pos hx
  have ehc : ∀ x ∈ aO c, hh x = g x := fun x hx => if_neg fun hxb => d3 x (List.mem_append_left _ hxb) x (List.mem_append_left _ hx) rfl
  have hs3 := hs1.trans hs2
  have hlb : Lb γ hh (aQ (cV b ++ cV c)) := by
   rw [hN]
   intro x hx
   rcases List.mem_append.1 hx with hx | hx
   ·rw [ehb x hx]; exact hs3.nd (hp.lb x hx)
   ·rw [ehc x hx]; exact hs3.nd (hq.lb x hx)
  have hcel : (bE hh (aO b ++ aO c)).Perm (bE f (aO b) ++ bE g (aO c)) := by
   refine (yM hh _ _).trans ?_
   rw [uH ehb, uH ehc]
  have hits : (aO b ++ aO c).map hh = gQ f (aO b) ++ gQ g (aO c) := by
   rw [List.map_append]
   show gQ hh (aO b) ++ gQ hh (aO c) = _
   rw [qO ehb, qO ehc]
  obtain ⟨F4, hle4, hB4, hr4⟩ := h4.freeze (mO fun x hx => by
   obtain ⟨t, ht, rfl⟩ := List.mem_map.1 hx
   rcases List.mem_append.1 ht with ht | ht
   ·exact hp.small hI _ (dK ht)
   ·exact hq.small hI _ (dK ht)) (by simp [aS]; omega)
  refine uZ hB4 (z := 1) (f := hh) (by decide) hr4 (fun t ht => ?_) hlb (by rw [hN]; exact hcel.nodup_iff.2 hd) (fun t ht => ?_) (fun t ht => ?_) (by rw [List.length_append]; omega) fun M5 δ l' hD hst' hp' hok' hod' hrs' hc' hg' => ?_
  ·rcases List.mem_append.1 ht with ht | ht
   ·exact (hp.st.cV t ht).sm hs3
   ·exact (hq.st.cV t ht).sm hs3
  ·rcases List.mem_append.1 ht with ht | ht
   ·exact fU.1 hp.ok t ht
   ·exact fU.1 hq.ok t ht
  ·rcases List.mem_append.1 ht with ht | ht
   ·exact (pI.1 hp.od t ht).congr fun x hx => ehb x (by rw [← bP]; exact eB.2 ⟨t, ht, hx⟩)
   ·exact (pI.1 hq.od t ht).congr fun x hx => ehc x (by rw [← bP]; exact eB.2 ⟨t, ht, hx⟩)
  ·rw [aL]
   rw [hN] at hp'
   have hm' : ((aQ l').map hh).Perm (gQ f (aO b) ++ gQ g (aO c)) := by rw [← hits]; exact hp'.map hh
   refine h M5 δ _ (hD.fJ hle4) (zP (.inl rfl) rfl hst' ?_ hp' hm' ?_ hok' hod' hrs'.wk) ?_
   ·refine (hlb.sub fun x hx => by rw [hN]; exact hp'.mem_iff.1 hx).congr (fun x _ y hy => hg' x y (by omega)) (fun x _ => by rw [hc'.live])
   ·rw [← hits]
    unfold fD
    rw [List.map_map]
    exact hcel.nodup_iff.2 hd
   ·refine ((hs3.o0.trans (hc'.mono (T := fun x => x ∈ bE f (aO b) ∨ x ∈ bE g (aO c)) (fun x hx => ?_) (Int.le_refl _)).o0).mono (fun _ h => h) (fun _ h => h) (jT ?_)).to (by omega)
    ·rw [hN] at hx
     rcases List.mem_append.1 hx with hx | hx
     ·exact .inl (List.mem_append_left _ hx)
     ·exact .inr (List.mem_append_left _ hx)
    ·rw [List.length_append]; omega
theorem aDM (hA : aA w0 F M (aE a α)) {α0 : AS} (hp : xP 1 α0 r f b) {x : Nat} {e' : cW} {j : Int} (hx : x ∈ aO b) (hle : e'.1 ≤ (f x).2.1) (hs2 : e'.2 = (f x).2.2) (hs : AS.Sm j (α0.put (f x).1 7 e'.1) α)
  (h : ∀ L, (gQ f (aO b)).Perm (f x :: L) → ∀ M' β, aA w0 F M' (aE a β) → KH 2 β r (((f x).1, e') :: L) (aO b) → AS.lE (fun c => c ∈ bE f (aO b)) (fun _ => False) 0 (dJ (aO b).length) α β → R (.int .i64 r) M') :
  C PP w0 Id.nX #[.pointer (some ⟨a, 0, none⟩), .int .i64 r, .int .i64 ((f x).1 : Int)] R M := by
 apply nX.go
 unfold nX.T aJ
 simp only [go_sem, Option.isNone_some, mT]
 have hnn := iB hp.nd
 let f' : Nat → cC := fun y => if y = x then ((f x).1, e') else f y
 have e1 : f' x = ((f x).1, e') := if_pos rfl
 have e2 : ∀ y, y ≠ x → f' y = f y := fun y hy => if_neg hy
 have e3 : ∀ y, (f' y).1 = (f y).1 := fun y => by
  by_cases e : y = x
  ·subst e; rw [e1]
  ·rw [e2 y e]
 have ecel : bE f' (aO b) = bE f (aO b) := by
  unfold bE
  rw [List.map_congr_left fun y _ => e3 y]
 have g : ∀ c y, α.get c y = if c = (f x).1 ∧ y = 7 then e'.1 else α0.get c y := fun c y => by rw [hs.get]; rfl
 have gl : ∀ c, α.live c = α0.live c := fun c => by rw [hs.live]; rfl
 have hst : St α (-1) b := hp.st.congr fun n hn y _ => by
  rw [g, if_neg (fun e : n = (f x).1 ∧ y = 7 => rS hp.nd n hn x hx e.1)]
 have hlb : Lb α f' (aO b) := fun n hn => by
  have h1 := hp.lb n hn
  by_cases e : n = x
  ·subst e
   rw [e1]
   refine ⟨(gl _).trans h1.ln, (gl _).trans h1.li, ?_, ?_, ?_, ?_⟩
   ·rw [g, if_neg (by omega)]; exact h1.it
   ·rw [g, if_neg (by omega)]; exact h1.nd
   ·rw [g, if_pos ⟨rfl, rfl⟩]
   ·rw [g, if_neg (by omega)]; rw [hs2]; exact h1.s
  ·rw [e2 n e]
   refine h1.congr (fun y => ?_) (fun y => ?_) (gl _) (gl _)
   ·rw [g, if_neg (fun e : n = (f x).1 ∧ y = 7 => rS hp.nd n hn x hx e.1)]
   ·rw [g, if_neg (fun e' : (f n).1 = (f x).1 ∧ y = 7 => e (kQ hp.nd n hn x hx e'.1))]
 have hda := (rM hnn).1 hp.od
 have hH : Hol f' b x := fun y hy w hw hyx hwx => by rw [e2 y hyx, e2 w hwx]; exact hda y hy w hw
 have hD : aC6 f' b x := fun y hy hxy => by
  have hyx : y ≠ x := fun e => by rw [e] at hxy; exact nY hnn hxy
  rw [e1, e2 y hyx]
  have h1 := hda y hy x hxy
  rcases h1 with h1 | ⟨h1, h2⟩
  ·refine .inl ?_
   unfold Lt at h1 ⊢
   simp only
   omega
  ·by_cases h9 : e'.1 = (f x).2.1
   ·have : e' = (f x).2 := Prod.ext h9 hs2
    rw [this]; exact .inr ⟨h1, h2⟩
   ·refine .inl ?_
    unfold Lt
    rw [← h1]
    simp only
    omega
 obtain ⟨t, ht, hal⟩ := wL hp.ok hx
 have hkb := ST.x7 (fU.1 hp.ok t ht) (m := (aO b).length) (by rw [← bP b]; exact rX ht)
 have := aAe hA false (f := f') (x := x) hst hlb (by rw [ecel]; exact hp.nd) hx hH (fun _ => hD) (m := bl (aO b).length) (by omega) (R := fun v M => nA .i64 v fun n5 => R (.int .i64 r) M) fun M1 β f2 y hB hst2 hlb2 hy hfy hpm _ hod2 hc => ?_
 ·rw [e3 x] at this
  exact this
 ·rw [aL]
  obtain ⟨L, hL⟩ : ∃ L, (gQ f (aO b)).Perm (f x :: L) ∧ ((aO b).map f').Perm (((f x).1, e') :: L) := by
   have h1 := List.perm_cons_erase hx
   refine ⟨((aO b).erase x).map f, h1.map f, ?_⟩
   refine (h1.map f').trans ?_
   rw [List.map_cons, e1]
   rw [List.map_congr_left fun y hy => e2 y fun e => by
    have := h1.nodup_iff.1 hnn
    exact (List.nodup_cons.1 this).1 (e ▸ hy)]
  rw [ecel] at hc
  refine h L hL.1 M1 β hB (.inr ⟨.inl rfl, f2, b, ⟨hp.r, hst2, hlb2, ?_, hp.ok, hp.wk, (rM hnn).2 (hod2 rfl)⟩, hpm.trans hL.2, List.Perm.refl _⟩) (hc.o0.mono (fun _ h => h) (fun _ h => h) (jT (by omega)))
  have := sY (f := f2) (g := f') (List.Perm.refl (aO b)) hpm
  rw [ecel] at this
  exact this.nodup_iff.2 hp.nd
theorem aFP (hA : aA w0 F M (aE a α)) (hp : xP 1 α r f b) {x : Nat} (hx : x ∈ aO b) (h300 : (aO b).length ≤ 300)
  (h : ∀ L, (gQ f (aO b)).Perm (f x :: L) → ∀ n N, (aO b).Perm (n :: N) → ∀ M' β r', aA w0 F M' (aE a β) → KH 2 β r' L N → AS.lE (fun c => c ∈ bE f (aO b)) (· = n) (-1) (dJ (aO b).length) α β → β.get (f x).1 9 = -1 → R (.int .i64 r') M') :
  C PP w0 Id.rE #[.pointer (some ⟨a, 0, none⟩), .int .i64 r, .int .i64 ((f x).1 : Int)] R M := by
 apply rE.go
 unfold rE.T aJ
 have hI := hA.inv
 simp only [go_sem, Option.isNone_some, mT]
 have hnn := iB hp.nd
 have hNx := hp.lb x hx
 refine yD hA fun M1 hA1 => ?_
 rw [show α.fH ((f x).1 : Int) 9 = (x : Int) from AS.dB (f := 9) hNx.li (by omega) hNx.nd (AS.cE hI hNx.ln), aL, eW, if_neg (by omega)]
 have hda := (rM hnn).1 hp.od
 obtain ⟨t0, ht0, hal⟩ := wL hp.ok hx
 have hkb := ST.x7 (fU.1 hp.ok t0 ht0) (m := (aO b).length) (by rw [← bP b]; exact rX ht0)
 refine aAe hA1 true (f := f) (x := x) (hp.st.sm AS.aN) (hp.lb.sm AS.aN) hp.nd hx (fun y hy w hw _ _ => hda y hy w hw) (fun e => by cases e) (m := bl (aO b).length) (by omega) fun M2 β f2 y hB hst2 hlb2 hy hfy hpm hany _ hc => ?_
 obtain ⟨hroot, hHol⟩ := hany rfl
 obtain ⟨t, ht, htn⟩ := aAM hy hnn hroot
 subst htn
 rw [aL, hp.r]
 have hcel2 := sY (f := f2) (g := f) (List.Perm.refl (aO b)) hpm
 have htl := xA b
 have hwb := uQ hp.wk (fU.1 hp.ok) (m := (aO b).length) (by rw [bP]; exact Nat.le_refl _)
 refine nT hB hst2 (fun n hn => (hlb2 n hn).ln) hnn fun M3 s γ hC hs3 => ?_
 rw [aR]
 obtain ⟨F', hC1, hle, hr, back⟩ := hC.aEX (sQ (hp.small hI)) (by simp [aS]; omega)
 have hr3 : pW w0 M3 .i64 s (aS ((cV b).map (·.n))) := hr.le hC1.fr
 refine aFg hr3 (List.mem_map.2 ⟨t.n, List.mem_map.2 ⟨t, ht, rfl⟩, rfl⟩) (by simp [aS]; omega) ?_
 rw [bU, Bool.not_true, mT]
 obtain ⟨A, B, hAB⟩ := List.append_of_mem ht
 have hN : aQ (A ++ t :: B) = aO b := by rw [← hAB, bP]
 obtain ⟨k1, k2⟩ := hHol.kids hnn ht
 have hroots : (((cV b).map (·.n))).Nodup := aAm (by rw [bP]; exact hnn)
 have hG : m4 1 γ f2 A t B := by
  refine ⟨fun u hu => (hst2.cV u (by rw [hAB]; exact hu)).sm hs3, by rw [hN]; exact hlb2.sm hs3, by rw [hN]; exact hcel2.nodup_iff.2 hp.nd, fun u hu => fU.1 hp.ok u (by rw [hAB]; exact hu), fun u hu => ?_, k1, by rw [← hAB]; exact hp.wk, by rw [hN]; exact h300⟩
  rw [hAB, List.map_append, List.map_cons] at hroots
  obtain ⟨n1, n2, n3⟩ := List.nodup_append.1 hroots
  refine k2 u (by rw [hAB]; rcases List.mem_append.1 hu with hu | hu <;> simp [hu]) fun e => ?_
  rcases List.mem_append.1 hu with hu | hu
  ·exact n3 u.n (List.mem_map.2 ⟨u, hu, rfl⟩) t.n List.mem_cons_self e
  ·exact (List.nodup_cons.1 n2).1 (List.mem_map.2 ⟨u, hu, e⟩)
 rw [hAB] at hC
 refine wU hC hG (m := (aO b).length) (by rw [hN]; exact Nat.le_refl _) fun M4 δ f' l' hD hst' hlb' hp' hm' hok' hod' hwk' he' hg' => ?_
 simp only [go_sem]
 have hpn : (aO b).Perm (t.n :: (aQ (A ++ B) ++ aO t.c)) := by rw [← hN]; exact pZ A B t
 have hpi : ((aO b).map f2).Perm (f x :: (aQ (A ++ B) ++ aO t.c).map f2) := by rw [← hfy]; exact hpn.map f2
 rw [hN] at he'
 have hck : (fD ((aQ (A ++ B) ++ aO t.c).map f2) (aQ (A ++ B) ++ aO t.c)).Nodup := by
  have h3 := (j3 (f := f2) hpn).nodup_iff.1 (hcel2.nodup_iff.2 hp.nd)
  unfold bE at h3
  unfold fD
  rw [List.map_cons, List.nodup_append] at h3
  obtain ⟨n1, n2, n3⟩ := h3
  rw [List.map_map]
  exact List.nodup_append.2 ⟨(List.nodup_cons.1 n1).2, (List.nodup_cons.1 n2).2, fun x hx y hy => n3 x (List.mem_cons_of_mem _ hx) y (List.mem_cons_of_mem _ hy)⟩
 rw [hfy] at hg'
 refine h _ (hpm.symm.trans hpi) t.n _ hpn M4 δ _ hD (zP (.inl rfl) rfl hst' hlb' hp' hm' hck hok' hod' hwk') ?_ hg'
 refine (((((AS.aN.lJ.trans hc).o0 (L := (· = t.n))).trans (hs3.o0)).trans (he'.mono (S' := fun c => c ∈ bE f (aO b)) (fun c hc => hcel2.mem_iff.1 hc) (fun _ h => h) (Int.le_refl _))).mono (fun _ h => h) (fun _ h => h) (jT ?_)).to (by omega)
 omega
end
end HL
namespace HL
section
variable {w0 : World} {M F : Mem} {R : VP} {a : Nat} {α : AS} {r : Int} {f : Nat → cC} {b : ST}
open Go.Proofs.YtodobkbnmjgkdaaGreat.HL.ST
theorem aGo (hA : aA w0 F M (aE a α)) (hp : xP 2 α r f b)
  (h : ∀ x, x ∈ gQ f (aO b) → (∀ y ∈ gQ f (aO b), y.1 ≠ x.1 → Bf x y) → ∀ M' β, aA w0 F M' (aE a β) → AS.Sm (dJ (aO b).length) α β → R (.int .i64 (x.1 : Int)) M') (eE : aO b ≠ []) :
  C PP w0 Id.lS #[.pointer (some ⟨a, 0, none⟩), .int .i64 r] R M := by
 apply lS.go
 unfold lS.T aJ
 have hI := hA.inv
 simp only [go_sem, Option.isNone_some, mT]
 rw [hp.r]
 have hnn := iB hp.nd
 have hwb := uQ hp.wk (fU.1 hp.ok) (m := (aO b).length) (by rw [bP]; exact Nat.le_refl _)
 have hlen := mR α.n _ hnn fun y hy => AS.cE hI (hp.lb y hy).ln
 have hI65 := hI.n
 have htl := xA b
 refine nT hA hp.st (fun n hn => (hp.lb n hn).ln) hnn fun M1 s β hB hs => ?_
 simp only [go_sem]
 obtain ⟨F', hle, hB1, hr⟩ := hB.freeze (sQ (hp.small hI)) (by simp [aS]; omega)
 refine z8 hB1 hr (fun t ht => hs.nd (hp.lb t.n (dK ht))) (fun t ht u hu e => kQ hp.nd _ (dK ht) _ (dK hu) e) (by omega) (fun e => ?_) fun t ht hb M2 γ hC hs2 => ?_
 ·cases b with
  | nil => exact absurd rfl eE
  | node n k c s => simp [cV] at e
 ·simp only [go_sem]
  have hNt := (hs.trans hs2).nd (hp.lb t.n (dK ht))
  refine eQ hC fun M3 hC3 => ?_
  rw [show γ.fH (t.n : Int) 6 = ((f t.n).1 : Int) from AS.dB (f := 6) hNt.ln (by omega) hNt.it (AS.cE hC.inv hNt.li)]
  simp only [go_sem]
  refine h (f t.n) (List.mem_map.2 ⟨t.n, dK ht, rfl⟩) (fun y hy hyn => ?_) M3 _ (hC3.fJ hle) (((hs.trans hs2).trans AS.aN).mono (jT (by omega)))
  obtain ⟨x, hx, rfl⟩ := List.mem_map.1 hy
  exact x9 ht hnn hp.od hb x hx fun e => hyn (by rw [e])
theorem aGn (hA : aA w0 F M (aE a α)) (hp : xP 2 α r f b) (eE : aO b ≠ []) (h300 : (aO b).length ≤ 300)
  (h : ∀ x ∈ aO b, (∀ y ∈ aO b, y ≠ x → Bf (f x) (f y)) → ∀ L N, (gQ f (aO b)).Perm (f x :: L) → (aO b).Perm (x :: N) → ∀ M' β r', aA w0 F M' (aE a β) → KH 3 β r' L N → AS.lE (fun c => c ∈ bE f (aO b)) (· = x) (-1) (dJ (aO b).length) α β → β.get (f x).1 9 = -1 → R (.tuple #[.int .i64 r', .int .i64 ((f x).1 : Int)]) M') :
  C PP w0 Id.eY #[.pointer (some ⟨a, 0, none⟩), .int .i64 r] R M := by
 apply eY.go
 intro aB H
 unfold eY.T aJ
 have hI := hA.inv
 simp only [go_sem, Option.isNone_some, mT]
 have hnn := iB hp.nd
 have hroot : ∃ n : Nat, r = (n : Int) ∧ n ∈ aO b := by
  rw [hp.r]
  cases b with
  | nil => exact absurd rfl eE
  | node n k c s => exact ⟨n, rfl, by simp [aO]⟩
 obtain ⟨n, hrn, hnb⟩ := hroot
 refine wE hA ?_
 (rw [hrn, AS.sS, (hp.lb n hnb).ln, bU, Bool.not_true, mT, ← hrn]; refine Eq.mpr (H.J1 ..) ?_)
 unfold eY.J1.T aJ
 rw [hp.r]
 have hwb := uQ hp.wk (fU.1 hp.ok) (m := (aO b).length) (by rw [bP]; exact Nat.le_refl _)
 have htl := xA b
 refine nT hA hp.st (fun n hn => (hp.lb n hn).ln) hnn fun M1 s β hB hs => ?_
 rw [aR]
 obtain ⟨F', hB1, hle, hr, back⟩ := hB.aEX (sQ (hp.small hI)) (by simp [aS]; omega)
 refine z8 hB1 hr (fun t ht => hs.nd (hp.lb t.n (dK ht))) (fun t ht u hu e => kQ hp.nd _ (dK ht) _ (dK hu) e) (by omega) (fun e => ?_) fun t ht hb M2 γ hC hs2 => ?_
 ·cases b with
  | nil => exact absurd rfl eE
  | node n k c s => simp [cV] at e
 ·rw [aL]
  have h2 := back M2 _ hC
  obtain ⟨A, B, hAB⟩ := List.append_of_mem ht
  have hG : m4 2 γ f A t B := (hp.gone hAB h300).sm (hs.trans hs2)
  have hN : aQ (A ++ t :: B) = aO b := by rw [← hAB, bP]
  rw [hAB] at h2
  refine aGy h2 hG (m := (aO b).length) (by rw [hN]; exact Nat.le_refl _) fun M3 δ f' l' hD hst' hlb' hp' hm' hok' hod' hwk' he' hg' => ?_
  simp only [go_sem]
  have hpn : (aO b).Perm (t.n :: (aQ (A ++ B) ++ aO t.c)) := by rw [← hN]; exact pZ A B t
  have hpi : (gQ f (aO b)).Perm (f t.n :: (aQ (A ++ B) ++ aO t.c).map f) := hpn.map f
  rw [hN] at he'
  have hck : (fD ((aQ (A ++ B) ++ aO t.c).map f) (aQ (A ++ B) ++ aO t.c)).Nodup := by
   have h3 := (j3 (f := f) hpn).nodup_iff.1 hp.nd
   unfold bE at h3
   unfold fD
   rw [List.map_cons, List.nodup_append] at h3
   obtain ⟨n1, n2, n3⟩ := h3
   rw [List.map_map]
   exact List.nodup_append.2 ⟨(List.nodup_cons.1 n1).2, (List.nodup_cons.1 n2).2, fun x hx y hy => n3 x (List.mem_cons_of_mem _ hx) y (List.mem_cons_of_mem _ hy)⟩
  refine h t.n (dK ht) (x9 ht hnn hp.od hb) _ _ hpi hpn M3 δ _ hD (zP (.inr rfl) rfl hst' hlb' hp' hm' hck hok' hod' hwk') (((((hs.trans hs2).o0 (S := fun c => c ∈ bE f (aO b)) (L := (· = t.n))).trans he').mono (fun _ h => h) (fun _ h => h) (jT ?_)).to (by omega)) hg'
  omega
theorem aDQ (hA : aA w0 F M (aE a α)) {s : Int} {g : Nat → cC} {c : ST} (hp : xP 2 α r f b) (hq : xP 2 α s g c) (hd : (bE f (aO b) ++ bE g (aO c)).Nodup) (h300 : (aO b).length + (aO c).length ≤ 300)
  (h : ∀ M' β r', aA w0 F M' (aE a β) → KH 3 β r' (gQ f (aO b) ++ gQ g (aO c)) (aO b ++ aO c) → AS.lE (fun x => x ∈ bE f (aO b) ∨ x ∈ bE g (aO c)) (fun _ => False) 0 (dJ ((aO b).length + (aO c).length)) α β → R (.int .i64 r') M') :
  C PP w0 Id.j8 #[.pointer (some ⟨a, 0, none⟩), .int .i64 r, .int .i64 s] R M := by
 apply j8.go
 unfold j8.T aJ
 have hI := hA.inv
 simp only [go_sem, Option.isNone_some, mT]
 obtain ⟨d1, d2, d3⟩ := List.nodup_append.1 hd
 rw [eW]
 split
 ·rename_i hrs
  have hb0 : b = .nil ∧ c = .nil := by
   rw [hp.r, hq.r] at hrs
   cases b with
   | nil =>
    cases c with
    | nil => exact ⟨rfl, rfl⟩
    | node n k c s => simp only [root] at hrs; omega
   | node n k c0 s0 =>
    cases c with
    | nil => simp only [root] at hrs; omega
    | node n' k' c' s' =>
     simp only [root] at hrs
     have : n = n' := by omega
     exact absurd this (d3 n (List.mem_append_left _ (by simp [aO])) n' (List.mem_append_left _ (by simp [aO])))
  obtain ⟨rfl, rfl⟩ := hb0
  refine h M α r hA (.inr ⟨.inr rfl, f, .nil, hp, List.Perm.refl _, List.Perm.refl _⟩) (AS.Sm.refl.o0.mono (fun _ h => h) (fun _ h => h) (jT (by omega)))
 ·have hnb := iB hp.nd
  have hncc := iB hq.nd
  have hwb := uQ hp.wk (fU.1 hp.ok) (m := (aO b).length + (aO c).length) (by rw [bP]; omega)
  have hwc := uQ hq.wk (fU.1 hq.ok) (m := (aO b).length + (aO c).length) (by rw [bP]; omega)
  have h9b := v8 hp.wk (fU.1 hp.ok) (by rw [bP]; omega)
  have h9c := v8 hq.wk (fU.1 hq.ok) (by rw [bP]; omega)
  rw [hp.r]
  refine nT hA hp.st (fun n hn => (hp.lb n hn).ln) hnb fun M1 s1 β hB hs1 => ?_
  rw [aR, hq.r]
  obtain ⟨F1, hB1, hle1, back1⟩ := hB.last
  refine nT hB1 (hq.st.sm hs1) (fun n hn => by rw [hs1.live]; exact (hq.lb n hn).ln) hncc fun M2 s2 γ hC hs2 => ?_
  have h2 := back1 M2 _ hC
  rw [aR]
  have hrc : pW w0 M2 .i64 s2 (aS ((cV c).map (·.n))) := h2.right.aIM (fun x hx => by
   obtain ⟨t, ht, rfl⟩ := List.mem_map.1 hx
   exact hq.small hI _ (dK ht)) (by simp; omega)
  refine aI9 h2 hrc (by simp [aS]; omega) fun M3 s3 h3 => ?_
  rw [aR]
  have h4 : aA w0 F M3 (star (oZ s3 ((aS ((cV b ++ cV c).map (·.n))).map (Value.int .i64))) (aE a γ)) := by
   rw [show aS ((cV b ++ cV c).map (·.n)) = aS ((cV b).map (·.n)) ++ aS ((cV c).map (·.n)) from by simp [aS]]
   exact h3.dT.right
  have hN : aQ (cV b ++ cV c) = aO b ++ aO c := by rw [lB, bP, bP]
  let hh : Nat → cC := fun x => if x ∈ aO b then f x else g x
  have ehb : ∀ x ∈ aO b, hh x = f x := fun x hx => if_pos hx
  have ehc : ∀ x ∈ aO c, hh x = g x := fun x hx => if_neg fun hxb => d3 x (List.mem_append_left _ hxb) x (List.mem_append_left _ hx) rfl
  have hs3 := hs1.trans hs2
  have hlb : Lb γ hh (aQ (cV b ++ cV c)) := by
   rw [hN]
   intro x hx
   rcases List.mem_append.1 hx with hx | hx
   ·rw [ehb x hx]; exact hs3.nd (hp.lb x hx)
   ·rw [ehc x hx]; exact hs3.nd (hq.lb x hx)
  have hcel : (bE hh (aO b ++ aO c)).Perm (bE f (aO b) ++ bE g (aO c)) := by
   refine (yM hh _ _).trans ?_
   rw [uH ehb, uH ehc]
  have hits : (aO b ++ aO c).map hh = gQ f (aO b) ++ gQ g (aO c) := by
   rw [List.map_append]
   show gQ hh (aO b) ++ gQ hh (aO c) = _
   rw [qO ehb, qO ehc]
  obtain ⟨F4, hle4, hB4, hr4⟩ := h4.freeze (mO fun x hx => by
   obtain ⟨t, ht, rfl⟩ := List.mem_map.1 hx
   rcases List.mem_append.1 ht with ht | ht
   ·exact hp.small hI _ (dK ht)
   ·exact hq.small hI _ (dK ht)) (by simp [aS]; omega)
  refine uZ hB4 (z := 2) (f := hh) (by decide) hr4 (fun t ht => ?_) hlb (by rw [hN]; exact hcel.nodup_iff.2 hd) (fun t ht => ?_) (fun t ht => ?_) (by rw [List.length_append]; omega) fun M5 δ l' hD hst' hp' hok' hod' hrs' hc' hg' => ?_
  ·rcases List.mem_append.1 ht with ht | ht
   ·exact (hp.st.cV t ht).sm hs3
   ·exact (hq.st.cV t ht).sm hs3
  ·rcases List.mem_append.1 ht with ht | ht
   ·exact fU.1 hp.ok t ht
   ·exact fU.1 hq.ok t ht
  ·rcases List.mem_append.1 ht with ht | ht
   ·exact (pI.1 hp.od t ht).congr fun x hx => ehb x (by rw [← bP]; exact eB.2 ⟨t, ht, hx⟩)
   ·exact (pI.1 hq.od t ht).congr fun x hx => ehc x (by rw [← bP]; exact eB.2 ⟨t, ht, hx⟩)
  ·rw [aL]
   rw [hN] at hp'
   have hm' : ((aQ l').map hh).Perm (gQ f (aO b) ++ gQ g (aO c)) := by rw [← hits]; exact hp'.map hh
   refine h M5 δ _ (hD.fJ hle4) (zP (.inr rfl) rfl hst' ?_ hp' hm' ?_ hok' hod' hrs'.wk) ?_
   ·refine (hlb.sub fun x hx => by rw [hN]; exact hp'.mem_iff.1 hx).congr (fun x _ y hy => hg' x y (by omega)) (fun x _ => by rw [hc'.live])
   ·rw [← hits]
    unfold fD
    rw [List.map_map]
    exact hcel.nodup_iff.2 hd
   ·refine ((hs3.o0.trans (hc'.mono (T := fun x => x ∈ bE f (aO b) ∨ x ∈ bE g (aO c)) (fun x hx => ?_) (Int.le_refl _)).o0).mono (fun _ h => h) (fun _ h => h) (jT ?_)).to (by omega)
    ·rw [hN] at hx
     rcases List.mem_append.1 hx with hx | hx
     ·exact .inl (List.mem_append_left _ hx)
     ·exact .inr (List.mem_append_left _ hx)
    ·rw [List.length_append]; omega
theorem aD9 (hA : aA w0 F M (aE a α)) {α0 : AS} (hp : xP 2 α0 r f b) {x : Nat} {e' : cW} {j : Int} (hx : x ∈ aO b) (hle : e'.1 ≤ (f x).2.1) (hs2 : e'.2 = (f x).2.2) (hs : AS.Sm j (α0.put (f x).1 7 e'.1) α)
  (h : ∀ L, (gQ f (aO b)).Perm (f x :: L) → ∀ M' β, aA w0 F M' (aE a β) → KH 3 β r (((f x).1, e') :: L) (aO b) → AS.lE (fun c => c ∈ bE f (aO b)) (fun _ => False) 0 (dJ (aO b).length) α β → R (.int .i64 r) M') :
  C PP w0 Id.kI #[.pointer (some ⟨a, 0, none⟩), .int .i64 r, .int .i64 ((f x).1 : Int)] R M := by
 apply kI.go
 unfold kI.T aJ
 simp only [go_sem, Option.isNone_some, mT]
 have hnn := iB hp.nd
 let f' : Nat → cC := fun y => if y = x then ((f x).1, e') else f y
 have e1 : f' x = ((f x).1, e') := if_pos rfl
 have e2 : ∀ y, y ≠ x → f' y = f y := fun y hy => if_neg hy
 have e3 : ∀ y, (f' y).1 = (f y).1 := fun y => by
  by_cases e : y = x
  ·subst e; rw [e1]
  ·rw [e2 y e]
 have ecel : bE f' (aO b) = bE f (aO b) := by
  unfold bE
  rw [List.map_congr_left fun y _ => e3 y]
 have g : ∀ c y, α.get c y = if c = (f x).1 ∧ y = 7 then e'.1 else α0.get c y := fun c y => by rw [hs.get]; rfl
 have gl : ∀ c, α.live c = α0.live c := fun c => by rw [hs.live]; rfl
 have hst : St α (-1) b := hp.st.congr fun n hn y _ => by
  rw [g, if_neg (fun e : n = (f x).1 ∧ y = 7 => rS hp.nd n hn x hx e.1)]
 have hlb : Lb α f' (aO b) := fun n hn => by
  have h1 := hp.lb n hn
  by_cases e : n = x
  ·subst e
   rw [e1]
   refine ⟨(gl _).trans h1.ln, (gl _).trans h1.li, ?_, ?_, ?_, ?_⟩
   ·rw [g, if_neg (by omega)]; exact h1.it
   ·rw [g, if_neg (by omega)]; exact h1.nd
   ·rw [g, if_pos ⟨rfl, rfl⟩]
   ·rw [g, if_neg (by omega)]; rw [hs2]; exact h1.s
  ·rw [e2 n e]
   refine h1.congr (fun y => ?_) (fun y => ?_) (gl _) (gl _)
   ·rw [g, if_neg (fun e : n = (f x).1 ∧ y = 7 => rS hp.nd n hn x hx e.1)]
   ·rw [g, if_neg (fun e' : (f n).1 = (f x).1 ∧ y = 7 => e (kQ hp.nd n hn x hx e'.1))]
 have hda := (rM hnn).1 hp.od
 have hH : Hol f' b x := fun y hy w hw hyx hwx => by rw [e2 y hyx, e2 w hwx]; exact hda y hy w hw
 have hD : aC6 f' b x := fun y hy hxy => by
  have hyx : y ≠ x := fun e => by rw [e] at hxy; exact nY hnn hxy
  rw [e1, e2 y hyx]
  have h1 := hda y hy x hxy
  rcases h1 with h1 | ⟨h1, h2⟩
  ·refine .inl ?_
   unfold Lt at h1 ⊢
   simp only
   omega
  ·by_cases h9 : e'.1 = (f x).2.1
   ·have : e' = (f x).2 := Prod.ext h9 hs2
    rw [this]; exact .inr ⟨h1, h2⟩
   ·refine .inl ?_
    unfold Lt
    rw [← h1]
    simp only
    omega
 obtain ⟨t, ht, hal⟩ := wL hp.ok hx
 have hkb := ST.x7 (fU.1 hp.ok t ht) (m := (aO b).length) (by rw [← bP b]; exact rX ht)
 have := aAe hA false (f := f') (x := x) hst hlb (by rw [ecel]; exact hp.nd) hx hH (fun _ => hD) (m := bl (aO b).length) (by omega) (R := fun v M => nA .i64 v fun n5 => R (.int .i64 r) M) fun M1 β f2 y hB hst2 hlb2 hy hfy hpm _ hod2 hc => ?_
 ·rw [e3 x] at this
  exact this
 ·rw [aL]
  obtain ⟨L, hL⟩ : ∃ L, (gQ f (aO b)).Perm (f x :: L) ∧ ((aO b).map f').Perm (((f x).1, e') :: L) := by
   have h1 := List.perm_cons_erase hx
   refine ⟨((aO b).erase x).map f, h1.map f, ?_⟩
   refine (h1.map f').trans ?_
   rw [List.map_cons, e1]
   rw [List.map_congr_left fun y hy => e2 y fun e => by
    have := h1.nodup_iff.1 hnn
    exact (List.nodup_cons.1 this).1 (e ▸ hy)]
  rw [ecel] at hc
  refine h L hL.1 M1 β hB (.inr ⟨.inr rfl, f2, b, ⟨hp.r, hst2, hlb2, ?_, hp.ok, hp.wk, (rM hnn).2 (hod2 rfl)⟩, hpm.trans hL.2, List.Perm.refl _⟩) (hc.o0.mono (fun _ h => h) (fun _ h => h) (jT (by omega)))
  have := sY (f := f2) (g := f') (List.Perm.refl (aO b)) hpm
  rw [ecel] at this
  exact this.nodup_iff.2 hp.nd
theorem aFN (hA : aA w0 F M (aE a α)) (hp : xP 2 α r f b) {x : Nat} (hx : x ∈ aO b) (h300 : (aO b).length ≤ 300)
  (h : ∀ L, (gQ f (aO b)).Perm (f x :: L) → ∀ n N, (aO b).Perm (n :: N) → ∀ M' β r', aA w0 F M' (aE a β) → KH 3 β r' L N → AS.lE (fun c => c ∈ bE f (aO b)) (· = n) (-1) (dJ (aO b).length) α β → β.get (f x).1 9 = -1 → R (.int .i64 r') M') :
  C PP w0 Id.mG #[.pointer (some ⟨a, 0, none⟩), .int .i64 r, .int .i64 ((f x).1 : Int)] R M := by
 apply mG.go
 unfold mG.T aJ
 have hI := hA.inv
 simp only [go_sem, Option.isNone_some, mT]
 have hnn := iB hp.nd
 have hNx := hp.lb x hx
 refine yD hA fun M1 hA1 => ?_
 rw [show α.fH ((f x).1 : Int) 9 = (x : Int) from AS.dB (f := 9) hNx.li (by omega) hNx.nd (AS.cE hI hNx.ln), aL, eW, if_neg (by omega)]
 have hda := (rM hnn).1 hp.od
 obtain ⟨t0, ht0, hal⟩ := wL hp.ok hx
 have hkb := ST.x7 (fU.1 hp.ok t0 ht0) (m := (aO b).length) (by rw [← bP b]; exact rX ht0)
 refine aAe hA1 true (f := f) (x := x) (hp.st.sm AS.aN) (hp.lb.sm AS.aN) hp.nd hx (fun y hy w hw _ _ => hda y hy w hw) (fun e => by cases e) (m := bl (aO b).length) (by omega) fun M2 β f2 y hB hst2 hlb2 hy hfy hpm hany _ hc => ?_
 obtain ⟨hroot, hHol⟩ := hany rfl
 obtain ⟨t, ht, htn⟩ := aAM hy hnn hroot
 subst htn
 rw [aL, hp.r]
 have hcel2 := sY (f := f2) (g := f) (List.Perm.refl (aO b)) hpm
 have htl := xA b
 have hwb := uQ hp.wk (fU.1 hp.ok) (m := (aO b).length) (by rw [bP]; exact Nat.le_refl _)
 refine nT hB hst2 (fun n hn => (hlb2 n hn).ln) hnn fun M3 s γ hC hs3 => ?_
 rw [aR]
 obtain ⟨F', hC1, hle, hr, back⟩ := hC.aEX (sQ (hp.small hI)) (by simp [aS]; omega)
 have hr3 : pW w0 M3 .i64 s (aS ((cV b).map (·.n))) := hr.le hC1.fr
 refine aFg hr3 (List.mem_map.2 ⟨t.n, List.mem_map.2 ⟨t, ht, rfl⟩, rfl⟩) (by simp [aS]; omega) ?_
 rw [bU, Bool.not_true, mT]
 obtain ⟨A, B, hAB⟩ := List.append_of_mem ht
 have hN : aQ (A ++ t :: B) = aO b := by rw [← hAB, bP]
 obtain ⟨k1, k2⟩ := hHol.kids hnn ht
 have hroots : (((cV b).map (·.n))).Nodup := aAm (by rw [bP]; exact hnn)
 have hG : m4 2 γ f2 A t B := by
  refine ⟨fun u hu => (hst2.cV u (by rw [hAB]; exact hu)).sm hs3, by rw [hN]; exact hlb2.sm hs3, by rw [hN]; exact hcel2.nodup_iff.2 hp.nd, fun u hu => fU.1 hp.ok u (by rw [hAB]; exact hu), fun u hu => ?_, k1, by rw [← hAB]; exact hp.wk, by rw [hN]; exact h300⟩
  rw [hAB, List.map_append, List.map_cons] at hroots
  obtain ⟨n1, n2, n3⟩ := List.nodup_append.1 hroots
  refine k2 u (by rw [hAB]; rcases List.mem_append.1 hu with hu | hu <;> simp [hu]) fun e => ?_
  rcases List.mem_append.1 hu with hu | hu
  ·exact n3 u.n (List.mem_map.2 ⟨u, hu, rfl⟩) t.n List.mem_cons_self e
  ·exact (List.nodup_cons.1 n2).1 (List.mem_map.2 ⟨u, hu, e⟩)
 rw [hAB] at hC
 refine aGy hC hG (m := (aO b).length) (by rw [hN]; exact Nat.le_refl _) fun M4 δ f' l' hD hst' hlb' hp' hm' hok' hod' hwk' he' hg' => ?_
 simp only [go_sem]
 have hpn : (aO b).Perm (t.n :: (aQ (A ++ B) ++ aO t.c)) := by rw [← hN]; exact pZ A B t
 have hpi : ((aO b).map f2).Perm (f x :: (aQ (A ++ B) ++ aO t.c).map f2) := by rw [← hfy]; exact hpn.map f2
 rw [hN] at he'
 have hck : (fD ((aQ (A ++ B) ++ aO t.c).map f2) (aQ (A ++ B) ++ aO t.c)).Nodup := by
  have h3 := (j3 (f := f2) hpn).nodup_iff.1 (hcel2.nodup_iff.2 hp.nd)
  unfold bE at h3
  unfold fD
  rw [List.map_cons, List.nodup_append] at h3
  obtain ⟨n1, n2, n3⟩ := h3
  rw [List.map_map]
  exact List.nodup_append.2 ⟨(List.nodup_cons.1 n1).2, (List.nodup_cons.1 n2).2, fun x hx y hy => n3 x (List.mem_cons_of_mem _ hx) y (List.mem_cons_of_mem _ hy)⟩
 rw [hfy] at hg'
 refine h _ (hpm.symm.trans hpi) t.n _ hpn M4 δ _ hD (zP (.inr rfl) rfl hst' hlb' hp' hm' hck hok' hod' hwk') ?_ hg'
 refine (((((AS.aN.lJ.trans hc).o0 (L := (· = t.n))).trans (hs3.o0)).trans (he'.mono (S' := fun c => c ∈ bE f (aO b)) (fun c hc => hcel2.mem_iff.1 hc) (fun _ h => h) (Int.le_refl _))).mono (fun _ h => h) (fun _ h => h) (jT ?_)).to (by omega)
 omega
end
end HL
namespace HL
section
variable {w0 : World} {M F : Mem} {R : VP} {a : Nat} {α : AS} {r : Int} {f : Nat → cC} {b : ST}
open Go.Proofs.YtodobkbnmjgkdaaGreat.HL.ST
theorem aC4 {z : Nat} (hI : α.Inv) (hp : xP z α r f b) {i n : Nat} {e : cW} (hi : α.live i = true) (hic : i ∉ bE f (aO b)) (h7 : α.get i 7 = e.1) (h8 : α.get i 8 = e.2) (hnx : α.next = some n) {β : AS} (hs : AS.Sm 3 ((α.take.put n 6 i).put i 9 n) β) :
  α.live n = false ∧ n ∉ bE f (aO b) ∧ n ≠ i ∧ AS.lE (fun c => c ∈ n :: i :: bE f (aO b)) (· = n) 1 3 α β ∧ xP z β r f b ∧ β.Nd n i e ∧ β.get n 1 = -1 ∧ β.get n 4 = 0 := by
 obtain ⟨hnn, hnl, hnt⟩ := AS.kS hI hnx
 have hnt2 : n ∉ bE f (aO b) := fun hc => by have := hp.live n hc; rw [hnl] at this; cases this
 have hin : i ≠ n := fun e => by rw [e, hnl] at hi; cases hi
 obtain ⟨hfr, hfl⟩ := AS.xD hI hnx
 have he2 : AS.lE (fun c => c = n ∨ c = i) (· = n) 1 3 α β := ((((AS.vU (S := fun c => c = n ∨ c = i) (L := (· = n)) hI hnx (.inl rfl) rfl).put (f := 6) (v := (i : Int)) (c := n) (.inl rfl)).put (f := 9) (v := (n : Int)) (c := i) (.inr rfl)).trans hs.o0).mono (fun _ h => h) (fun _ h => h) (by omega) |>.to (by omega)
 have g : ∀ x y, β.get x y = if x = i ∧ y = 9 then (n : Int) else if x = n ∧ y = 6 then (i : Int) else α.take.get x y := fun x y => by rw [hs.get]; rfl
 have gtk : ∀ x y, x ≠ n → α.take.get x y = α.get x y := fun x y hx => by
  rw [hnt]
  show (if x = n then AS.fresh y else α.get x y) = _
  rw [if_neg hx]
 have gl : ∀ x, β.live x = if x = n then true else α.live x := fun x => by rw [hs.live, show ((α.take.put n 6 (i : Int)).put i 9 (n : Int)).live = α.take.live from rfl, hnt]; rfl
 have gn : ∀ y, y ≠ 6 → β.get n y = AS.fresh y := fun y h6 => by rw [g, if_neg (fun e : n = i ∧ y = 9 => hin e.1.symm), if_neg (fun e : n = n ∧ y = 6 => h6 e.2), hfr]
 refine ⟨hnl, hnt2, fun e => hin e.symm, he2.mono (fun c hc => by rcases hc with rfl | rfl <;> simp) (fun _ h => h) (Int.le_refl _), hp.congr (fun c hc y => he2.get c (by rintro (h | h); exact hnt2 (h ▸ hc); exact hic (h ▸ hc)) y) (fun c hc => he2.live c (fun e => hnt2 (e ▸ hc))), ⟨by rw [gl, if_pos rfl], by rw [gl, if_neg hin]; exact hi, ?_, ?_, ?_, ?_⟩, ?_, ?_⟩
 ·rw [g, if_neg (by omega), if_pos ⟨rfl, rfl⟩]
 ·rw [g, if_pos ⟨rfl, rfl⟩]
 ·rw [g, if_neg (by omega), if_neg (by omega), gtk _ _ hin]; exact h7
 ·rw [g, if_neg (by omega), if_neg (by omega), gtk _ _ hin]; exact h8
 ·rw [gn 1 (by omega)]; rfl
 ·rw [gn 4 (by omega)]; rfl
theorem aBz {z : Nat} (hp : xP z α r f b) {i n : Nat} {e : cW} (hic : i ∉ bE f (aO b)) (hnc : n ∉ bE f (aO b)) (hni : n ≠ i) (hN : α.Nd n i e) : ∃ g : Nat → cC, g n = (i, e) ∧ (∀ x ∈ aO b, g x = f x) ∧ Lb α g (n :: aO b) ∧ (bE g (n :: aO b)).Nodup ∧ (bE g (n :: aO b)).Perm (n :: i :: bE f (aO b)) ∧ (n :: aO b).map g = (i, e) :: gQ f (aO b) := by
 have e1 : ∀ x ∈ aO b, x ≠ n := fun x hx e => hnc (e ▸ List.mem_append_left _ hx)
 let g : Nat → cC := fun x => if x = n then (i, e) else f x
 have hgn : g n = (i, e) := if_pos rfl
 have hg : ∀ x ∈ aO b, g x = f x := fun x hx => if_neg (e1 x hx)
 have hcel : (bE g (n :: aO b)).Perm (n :: i :: bE f (aO b)) := by
  unfold bE
  rw [List.map_cons, hgn, List.cons_append]
  refine List.Perm.cons _ (List.perm_middle.trans (List.Perm.cons _ ?_))
  rw [List.map_congr_left fun x hx => by rw [hg x hx]]
 refine ⟨g, hgn, hg, fun x hx => ?_, hcel.nodup_iff.2 ?_, hcel, ?_⟩
 ·rcases List.mem_cons.1 hx with rfl | hx
  ·rw [hgn]; exact hN
  ·rw [hg x hx]; exact hp.lb x hx
 ·rw [List.nodup_cons, List.nodup_cons, List.mem_cons, not_or]
  exact ⟨⟨hni, hnc⟩, hic, hp.nd⟩
 ·rw [List.map_cons, hgn]
  exact congrArg _ (qO hg)
theorem aDa (g : Nat → cC) (N : List Nat) : fD (N.map g) N = bE g N := by
 unfold fD bE
 rw [List.map_map]; rfl
theorem aDX (hA : aA w0 F M (aE a α)) (hp : xP 1 α r f b) {i : Nat} {e : cW} (hi : α.live i = true) (hic : i ∉ bE f (aO b)) (h7 : α.get i 7 = e.1) (h8 : α.get i 8 = e.2) (h300 : (aO b).length ≤ 300)
  (h0 : α.next = none → ∀ M' β, aA w0 F M' (aE a β) → AS.Sm 1 α β → R (.tuple #[.int .i64 r, .bool false]) M')
  (h1 : ∀ n, α.next = some n → α.live n = false → ∀ M' β r', aA w0 F M' (aE a β) → KH 2 β r' ((i, e) :: gQ f (aO b)) (n :: aO b) → AS.lE (fun c => c ∈ n :: i :: bE f (aO b)) (· = n) 1 (dJ ((aO b).length + 1)) α β → R (.tuple #[.int .i64 r', .bool true]) M') :
  C PP w0 Id.n6 #[.pointer (some ⟨a, 0, none⟩), .int .i64 r, .int .i64 (i : Int)] R M := by
 apply n6.go
 unfold n6.T aJ
 have hI := hA.inv
 simp only [go_sem, Option.isNone_some, mT]
 refine aAU hA hi (fun hnx M1 β hB hs => ?_) fun n hnx M1 β hB hs => ?_
 ·simp only [go_sem, Bool.not_false, dU]
  exact h0 hnx M1 β hB hs
 ·simp only [go_sem, Bool.not_true, mT]
  obtain ⟨hnl, hnc, hni, heff, hpβ, hNd, hn1, hn4⟩ := aC4 hI hp hi hic h7 h8 hnx hs
  obtain ⟨g, hgn, hg, hlb, fO, hcel, hits⟩ := aBz hpβ hic hnc hni hNd
  have hnn := iB hpβ.nd
  have hwb := uQ hp.wk (fU.1 hp.ok) (m := (aO b).length + 1) (by rw [bP]; omega)
  have h9b := v8 hp.wk (fU.1 hp.ok) (by rw [bP]; omega)
  have htl := xA b
  refine aAE (k := .i64) (l := [(n : Int)]) (Mem.le_refl M1) Tryz.underlying53 W.e3 (n := 1) (by decide) (by kernel_rfl) rfl fun M2 o l1 _ h2 => ?_
  rw [aR]
  have hH : aA w0 F M2 (star (oZ o ([(n : Int)].map (Value.int .i64))) (aE a β)) := hB.aLp l1 h2
  obtain ⟨F1, hB1, hle1, back1⟩ := hH.last
  rw [hp.r]
  refine nT hB1 hpβ.st (fun n hn => (hpβ.lb n hn).ln) hnn fun M3 s1 γ hC hs1 => ?_
  rw [aR]
  have h3 := back1 M3 _ hC
  have hrc : pW w0 M3 .i64 s1 (aS ((cV b).map (·.n))) := h3.right.aIM (fun x hx => by
   obtain ⟨t, ht, rfl⟩ := List.mem_map.1 hx
   exact hp.small hI _ (dK ht)) (by simp; omega)
  refine aI9 h3 hrc (by simp [aS]; omega) fun M4 s4 h4 => ?_
  rw [aR]
  have hN : aQ (⟨n, 0, .nil⟩ :: cV b) = n :: aO b := by rw [mQ, bP]; rfl
  have h5 : aA w0 F M4 (star (oZ s4 ((aS ((⟨n, 0, .nil⟩ :: cV b : List Tn).map (·.n))).map (Value.int .i64))) (aE a γ)) := by
   rw [show aS ((⟨n, 0, .nil⟩ :: cV b : List Tn).map (·.n)) = [(n : Int)] ++ aS ((cV b).map (·.n)) from by simp [aS]]
   exact h4.dT.right
  have hnlt := AS.cE hB.inv hNd.ln
  have hn65 := hB.inv.n
  obtain ⟨F4, hle4, hB4, hr4⟩ := h5.freeze (mO fun x hx => by
   obtain ⟨t, ht, rfl⟩ := List.mem_map.1 hx
   rcases List.mem_cons.1 ht with rfl | ht
   ·show n < _; omega
   ·exact hp.small hI _ (dK ht)) (by simp [aS]; omega)
  refine uZ hB4 (z := 1) (f := g) (by decide) hr4 (fun t ht => ?_) (by rw [hN]; exact hlb.sm hs1) (by rw [hN]; exact fO) (fun t ht => ?_) (fun t ht => ?_) (by rw [List.length_cons]; omega) fun M5 δ l' hD hst' hp' hok' hod' hrs' hc' hg' => ?_
  ·rcases List.mem_cons.1 ht with rfl | ht
   ·exact (show yW β ⟨n, 0, .nil⟩ from ⟨hn1, hn4, trivial⟩).sm hs1
   ·exact (hpβ.st.cV t ht).sm hs1
  ·rcases List.mem_cons.1 ht with rfl | ht
   ·exact aEP
   ·exact fU.1 hp.ok t ht
  ·rcases List.mem_cons.1 ht with rfl | ht
   ·exact ⟨fun x hx => (by cases hx), trivial⟩
   ·exact (pI.1 hp.od t ht).congr fun x hx => hg x (by rw [← bP]; exact eB.2 ⟨t, ht, hx⟩)
  ·rw [aL]
   rw [hN] at hp'
   have hm' : ((aQ l').map g).Perm ((i, e) :: gQ f (aO b)) := by rw [← hits]; exact hp'.map g
   refine h1 n hnx hnl M5 δ _ (hD.fJ hle4) (zP (.inl rfl) rfl hst' ?_ hp' hm' ?_ hok' hod' hrs'.wk) ?_
   ·refine ((hlb.sm hs1).sub fun x hx => hp'.mem_iff.1 hx).congr (fun x _ y hy => hg' x y (by omega)) (fun x _ => by rw [hc'.live])
   ·rw [← hits, aDa]; exact fO
   ·refine (((heff.trans hs1.o0).trans (hc'.mono (T := fun c => c ∈ n :: i :: bE f (aO b)) (fun x hx => ?_) (Int.le_refl _)).o0).mono (fun _ h => h) (fun _ h => h) (jT ?_)).to (by omega)
    ·rw [hN] at hx
     exact hcel.mem_iff.1 (List.mem_append_left _ hx)
    ·rw [List.length_cons]; omega
theorem aDW (hA : aA w0 F M (aE a α)) (hp : xP 2 α r f b) {i : Nat} {e : cW} (hi : α.live i = true) (hic : i ∉ bE f (aO b)) (h7 : α.get i 7 = e.1) (h8 : α.get i 8 = e.2)
  (h0 : α.next = none → ∀ M' β, aA w0 F M' (aE a β) → AS.Sm 1 α β → R (.tuple #[.int .i64 r, .bool false]) M')
  (h1 : ∀ n, α.next = some n → α.live n = false → ∀ M' β r', aA w0 F M' (aE a β) → KH 3 β r' ((i, e) :: gQ f (aO b)) (n :: aO b) → AS.lE (fun c => c ∈ n :: i :: bE f (aO b)) (· = n) 1 (dJ ((aO b).length + 1)) α β → R (.tuple #[.int .i64 r', .bool true]) M') :
  C PP w0 Id.jZ #[.pointer (some ⟨a, 0, none⟩), .int .i64 r, .int .i64 (i : Int)] R M := by
 apply jZ.go
 unfold jZ.T aJ
 have hI := hA.inv
 simp only [go_sem, Option.isNone_some, mT]
 refine aAU hA hi (fun hnx M1 β hB hs => ?_) fun n hnx M1 β hB hs => ?_
 ·simp only [go_sem, Bool.not_false, dU]
  exact h0 hnx M1 β hB hs
 ·simp only [go_sem, Bool.not_true, mT]
  obtain ⟨hnl, hnc, hni, heff, hpβ, hNd, hn1, hn4⟩ := aC4 hI hp hi hic h7 h8 hnx hs
  obtain ⟨g, hgn, hg, hlb, fO, hcel, hits⟩ := aBz hpβ hic hnc hni hNd
  rw [hp.r]
  have hfb : fo (cV b) = b := aAZ b
  have hNb : aQ (cV b) = aO b := bP b
  have := aBX (R := fun v M => nA .i64 v fun n14 => R (.tuple #[.int .i64 n14, .bool true]) M) hB (f := g) (l := cV b) (n := n) (by rw [hfb]; exact hpβ.st) hn1 hn4 (by rw [hNb]; exact hlb) (by rw [hNb]; exact fO) (fun t ht => fU.1 hp.ok t ht) (fun t ht => (pI.1 hp.od t ht).congr fun x hx => hg x (by rw [← bP]; exact eB.2 ⟨t, ht, hx⟩)) hp.wk fun M5 δ g' l' hD hst' hlb' hp' hm' _ hok' hod' hwk' hc' => ?_
  ·rw [hfb] at this; exact this
  ·rw [aL]
   rw [hNb] at hp' hm' hc' hlb'
   have hm2 : ((aQ l').map g').Perm ((i, e) :: gQ f (aO b)) := by rw [← hits]; exact (hp'.map g').trans hm'
   refine h1 n hnx hnl M5 δ _ hD (zP (.inr rfl) rfl hst' (hlb'.sub fun x hx => hp'.mem_iff.1 hx) hp' hm2 ?_ hok' hod' hwk') ?_
   ·rw [← hits, aDa]; exact fO
   ·refine ((heff.trans (hc'.mono (T := fun c => c ∈ n :: i :: bE f (aO b)) (fun x hx => hcel.mem_iff.1 hx) (Int.le_refl _)).o0).mono (fun _ h => h) (fun _ h => h) (jT ?_)).to (by omega)
    omega
end
end HL
namespace HL
section
variable {w0 : World} {M F : Mem} {R : VP} {a : Nat} {α : AS} {k r : Int} {L : List cC} {N : List Nat}
theorem aBQ {k : Int} (h : R (.bool (decide (1 ≤ k ∧ k ≤ 5))) M) : C PP w0 Id.jE #[.int .i64 k] R M := by
 apply jE.go
 unfold jE.T aJ
 rw [eO]
 split
 ·rw [show decide (1 ≤ k ∧ k ≤ 5) = decide (k ≤ 5) from by rw [decide_eq_decide]; omega] at h; exact h
 ·rw [decide_eq_false (by omega)] at h; exact h
theorem aHK (hA : aA w0 F M (aE a α)) (hp : KH k α r L N) {i : Nat} {e : cW} (hi : α.live i = true) (hic : i ∉ fD L N) (h7 : α.get i 7 = e.1) (h8 : α.get i 8 = e.2) (h300 : L.length ≤ 300) (hnx : α.next ≠ none)
  (h : ∀ n, α.next = some n → α.live n = false → ∀ M' β r' N', aA w0 F M' (aE a β) → KH k β r' ((i, e) :: L) N' → (∀ c ∈ fD ((i, e) :: L) N', c = n ∨ c = i ∨ c ∈ fD L N) → AS.lE (fun c => c = n ∨ c = i ∨ c ∈ fD L N) (· = n) 1 (dJ (L.length + 1)) α β → R (.tuple #[.int .i64 r', .bool true]) M') :
  C PP w0 Id.j4 #[.int .i64 k, .pointer (some ⟨a, 0, none⟩), .int .i64 r, .int .i64 (i : Int)] R M := by
 apply j4.go
 unfold j4.T aJ
 rcases hp with ⟨hk, t, g1, g2, g3⟩ | ⟨hk, f, b, g1, g2, g3⟩
 ·rw [eW, if_pos hk]
  have hcel := lK g2 g3
  refine aEt hA g1 hi (fun hc => hic (hcel.mem_iff.1 hc)) h7 h8 (fun e0 => absurd e0 hnx) fun n hn hnl M1 β t' hB hp' hits hcel' heff => ?_
  simp only [go_sem]
  have hL : (LT.bV t').Perm ((i, e) :: L) := hits.trans (g2.cons _)
  have hc2 := lK (t := t') (L := (i, e) :: L) (N := LT.aO t') hL (List.Perm.refl _)
  have hsub : ∀ c, c ∈ n :: i :: LT.cells t ↔ c = n ∨ c = i ∨ c ∈ fD L N := fun c => by rw [List.mem_cons, List.mem_cons, hcel.mem_iff]
  refine h n hn hnl M1 β _ (LT.aO t') hB (.inl ⟨hk, t', hp', hL, List.Perm.refl _⟩) (fun c hc => (hsub c).1 (hcel'.mem_iff.1 (hc2.mem_iff.2 hc))) (heff.mono (fun c hc => (hsub c).1 hc) (fun _ h => h) ?_)
  rw [g2.length_eq]; exact Int.le_refl _
 ·have hcel := pP g2 g3
  have hl : (ST.aO b).length = L.length := by rw [← g2.length_eq]; simp [ST.gQ]
  have hsub : ∀ n c, c ∈ n :: i :: ST.bE f (ST.aO b) ↔ c = n ∨ c = i ∨ c ∈ fD L N := fun n c => by rw [List.mem_cons, List.mem_cons, hcel.mem_iff]
  have fin : ∀ (n : Nat) (hn : α.next = some n) (hnl : α.live n = false) (M1 : Mem) (β : AS) (r' : Int), aA w0 F M1 (aE a β) → KH k β r' ((i, e) :: ST.gQ f (ST.aO b)) (n :: ST.aO b) → AS.lE (fun c => c ∈ n :: i :: ST.bE f (ST.aO b)) (· = n) 1 (dJ ((ST.aO b).length + 1)) α β → R (.tuple #[.int .i64 r', .bool true]) M1 := by
   intro n hn hnl M1 β r' hB hkh heff
   refine h n hn hnl M1 β r' (n :: N) hB (hkh.perm (g2.cons _) (g3.cons _)) (fun c hc => ?_) (heff.mono (fun c hc => (hsub n c).1 hc) (fun _ h => h) ?_)
   ·unfold fD at hc ⊢
    simp only [List.map_cons, List.cons_append, List.mem_cons, List.mem_append] at hc ⊢
    rcases hc with hc | hc | hc | hc
    ·exact .inl hc
    ·exact .inr (.inr (.inl hc))
    ·exact .inr (.inl hc)
    ·exact .inr (.inr (.inr hc))
   ·rw [hl]; exact Int.le_refl _
  rw [eW, if_neg (by omega)]
  rcases hk with hk | hk
  ·subst hk
   rw [eW, if_pos rfl]
   refine aDX hA g1 hi (fun hc => hic (hcel.mem_iff.1 hc)) h7 h8 (by omega) (fun e0 => absurd e0 hnx) fun n hn hnl M1 β r' hB hkh heff => ?_
   simp only [go_sem]
   exact fin n hn hnl M1 β r' hB hkh heff
  ·subst hk
   rw [eW, if_neg (by omega), eW, if_pos rfl]
   refine aDW hA g1 hi (fun hc => hic (hcel.mem_iff.1 hc)) h7 h8 (fun e0 => absurd e0 hnx) fun n hn hnl M1 β r' hB hkh heff => ?_
   simp only [go_sem]
   exact fin n hn hnl M1 β r' hB hkh heff
theorem aEA (hA : aA w0 F M (aE a α)) (hp : KH k α r L N) (eE : L ≠ [])
  (h : ∀ x, x ∈ L → (∀ y ∈ L, y.1 ≠ x.1 → Bf x y) → ∀ M' β, aA w0 F M' (aE a β) → AS.Sm (dJ L.length) α β → R (.int .i64 (x.1 : Int)) M') :
  C PP w0 Id.mM #[.int .i64 k, .pointer (some ⟨a, 0, none⟩), .int .i64 r] R M := by
 apply mM.go
 unfold mM.T aJ
 rcases hp with ⟨hk, t, g1, g2, g3⟩ | ⟨hk, f, b, g1, g2, g3⟩
 ·rw [eW, if_pos hk]
  refine aFK hA g1 (fun e0 => ?_) fun x L' hL hx M1 β hB hs => ?_
  ·subst e0
   exact absurd (List.nil_perm.1 g2) eE
  ·simp only [go_sem]
   have hP : L.Perm (x :: L') := g2.symm.trans hL
   refine h x (hP.mem_iff.2 List.mem_cons_self) (fun y hy hyx => ?_) M1 β hB (hs.mono (by unfold dJ; omega))
   rcases List.mem_cons.1 (hP.mem_iff.1 hy) with rfl | hy
   ·exact absurd rfl hyx
   ·exact hx y hy
 ·have hl : (ST.aO b).length = L.length := by rw [← g2.length_eq]; simp [ST.gQ]
  have hn0 : ST.aO b ≠ [] := fun e0 => eE (List.eq_nil_of_length_eq_zero (by rw [← hl, e0]; rfl))
  rw [eW, if_neg (by omega)]
  rcases hk with hk | hk
  ·subst hk
   rw [eW, if_pos rfl]
   refine aFB hA g1 (fun x hx hb M1 β hB hs => ?_) hn0
   simp only [go_sem]
   exact h x (g2.mem_iff.1 hx) (fun y hy => hb y (g2.mem_iff.2 hy)) M1 β hB (by rw [← hl]; exact hs)
  ·subst hk
   rw [eW, if_neg (by omega), eW, if_pos rfl]
   refine aGo hA g1 (fun x hx hb M1 β hB hs => ?_) hn0
   simp only [go_sem]
   exact h x (g2.mem_iff.1 hx) (fun y hy => hb y (g2.mem_iff.2 hy)) M1 β hB (by rw [← hl]; exact hs)
def aHY (L' : List cC) (N' : List Nat) (L : List cC) (N : List Nat) : Prop := ∀ c ∈ fD L' N', c ∈ fD L N
theorem aFj {x : cC} {n : Nat} {L L1 : List cC} {N N1 : List Nat} (h : (fD L N).Perm (fD (x :: L1) (n :: N1))) (hn : (fD L N).Nodup) : x.1 ∉ fD L1 N1 := by
 have h1 := h.nodup_iff.1 hn
 unfold fD at h1 ⊢
 rw [List.map_cons, List.cons_append] at h1
 have h2 := (List.perm_middle.nodup_iff.1 (List.nodup_cons.1 h1).2)
 exact (List.nodup_cons.1 h2).1
theorem aI5 (hA : aA w0 F M (aE a α)) (hp : KH k α r L N) (eE : L ≠ []) (h300 : L.length ≤ 300)
  (h : ∀ x L', L.Perm (x :: L') → (∀ y ∈ L, y.1 ≠ x.1 → Bf x y) → ∀ n ∈ N, ∀ M' β r' N', aA w0 F M' (aE a β) → KH k β r' L' N' → aHY L' N' L N → x.1 ∉ fD L' N' → AS.lE (fun c => c ∈ fD L N) (· = n) (-1) (dJ L.length) α β → R (.tuple #[.int .i64 r', .int .i64 (x.1 : Int)]) M') :
  C PP w0 Id.lV #[.int .i64 k, .pointer (some ⟨a, 0, none⟩), .int .i64 r] R M := by
 have fO := hp.nd
 apply lV.go
 unfold lV.T aJ
 rcases hp with ⟨hk, t, g1, g2, g3⟩ | ⟨hk, f, b, g1, g2, g3⟩
 ·rw [eW, if_pos hk]
  have hcel := lK g2 g3
  refine aFF hA g1 (fun e0 => ?_) fun x L' hL hx M1 β t' n hn hB hp' hits hsub hxn heff hg => ?_
  ·subst e0
   exact absurd (List.nil_perm.1 g2) eE
  ·simp only [go_sem]
   have hP : L.Perm (x :: L') := g2.symm.trans hL
   have hc2 := lK (t := t') (L := L') (N := LT.aO t') hits (List.Perm.refl _)
   refine h x L' hP (fun y hy hyx => ?_) n (g3.mem_iff.1 hn) M1 β _ (LT.aO t') hB (.inl ⟨hk, t', hp', hits, List.Perm.refl _⟩) (fun c hc => hcel.mem_iff.1 (hsub c (hc2.mem_iff.2 hc))) (fun hc => hxn (hc2.mem_iff.2 hc)) (heff.mono (fun c hc => hcel.mem_iff.1 hc) (fun _ h => h) ?_)
   ·rcases List.mem_cons.1 (hP.mem_iff.1 hy) with rfl | hy
    ·exact absurd rfl hyx
    ·exact hx y hy
   ·rw [g2.length_eq]; exact Int.le_refl _
 ·have hcel := pP g2 g3
  have hl : (ST.aO b).length = L.length := by rw [← g2.length_eq]; simp [ST.gQ]
  have hn0 : ST.aO b ≠ [] := fun e0 => eE (List.eq_nil_of_length_eq_zero (by rw [← hl, e0]; rfl))
  have fin : ∀ x ∈ ST.aO b, (∀ y ∈ ST.aO b, y ≠ x → Bf (f x) (f y)) → ∀ L1 N1, (ST.gQ f (ST.aO b)).Perm (f x :: L1) → (ST.aO b).Perm (x :: N1) → ∀ M' β r', aA w0 F M' (aE a β) → KH k β r' L1 N1 → AS.lE (fun c => c ∈ ST.bE f (ST.aO b)) (· = x) (-1) (dJ (ST.aO b).length) α β → R (.tuple #[.int .i64 r', .int .i64 ((f x).1 : Int)]) M' := by
   intro x hx hbx L1 N1 hL1 hN1 M' β r' hB hkh heff
   refine h (f x) L1 (g2.symm.trans hL1) (fun y hy hyx => ?_) x (g3.mem_iff.1 hx) M' β r' N1 hB hkh (fun c hc => ?_) (aFj (jR (g2.symm.trans hL1) (g3.symm.trans hN1)) fO) (heff.mono (fun c hc => hcel.mem_iff.1 hc) (fun _ h => h) (by rw [hl]; exact Int.le_refl _))
   ·obtain ⟨z, hz, rfl⟩ := List.mem_map.1 (g2.mem_iff.2 hy)
    exact hbx z hz fun e => hyx (by rw [e])
   ·refine (jR (g2.symm.trans hL1) (g3.symm.trans hN1)).mem_iff.2 ?_
    unfold fD at hc ⊢
    rcases List.mem_append.1 hc with hc | hc
    ·exact List.mem_append_left _ (List.mem_cons_of_mem _ hc)
    ·exact List.mem_append_right _ (by rw [List.map_cons]; exact List.mem_cons_of_mem _ hc)
  rw [eW, if_neg (by omega)]
  rcases hk with hk | hk
  ·subst hk
   rw [eW, if_pos rfl]
   refine aF4 hA g1 hn0 (by omega) fun x hx hbx L1 N1 hL1 hN1 M' β r' hB hkh heff _ => ?_
   simp only [go_sem]
   exact fin x hx hbx L1 N1 hL1 hN1 M' β r' hB hkh heff
  ·subst hk
   rw [eW, if_neg (by omega), eW, if_pos rfl]
   refine aGn hA g1 hn0 (by omega) fun x hx hbx L1 N1 hL1 hN1 M' β r' hB hkh heff _ => ?_
   simp only [go_sem]
   exact fin x hx hbx L1 N1 hL1 hN1 M' β r' hB hkh heff
theorem aH9 (hA : aA w0 F M (aE a α)) {α0 : AS} {i : Nat} {e e' : cW} {j : Int} (hp : KH k α0 r ((i, e) :: L) N) (hle : e'.1 ≤ e.1) (hs2 : e'.2 = e.2) (hs : AS.Sm j (α0.put i 7 e'.1) α)
  (h : ∀ M' β r' N', aA w0 F M' (aE a β) → KH k β r' ((i, e') :: L) N' → aHY ((i, e') :: L) N' ((i, e) :: L) N → AS.lE (fun c => c ∈ fD ((i, e) :: L) N) (fun _ => False) 0 (dJ (L.length + 1)) α β → R (.int .i64 r') M') :
  C PP w0 Id.kT #[.int .i64 k, .pointer (some ⟨a, 0, none⟩), .int .i64 r, .int .i64 (i : Int)] R M := by
 apply kT.go
 unfold kT.T aJ
 have hceq : ∀ (N' : List Nat), fD ((i, e') :: L) N' = fD ((i, e) :: L) N' := fun N' => by unfold fD; rfl
 rcases hp with ⟨hk, t, g1, g2, g3⟩ | ⟨hk, f, b, g1, g2, g3⟩
 ·rw [eW, if_pos hk]
  have hcel := lK g2 g3
  have hF : HpF α r t i e e' := by
   obtain ⟨cs, n, l, s, q1, q2, q3, q4, q5, q6, q7⟩ := g1.lower (g2.mem_iff.2 List.mem_cons_self) hle hs2
   exact ⟨cs, n, l, s, q1, q2, q3.congr (fun c _ f => by rw [hs.get]) (fun c _ => by rw [hs.live]), q4, q5, q6, q7⟩
  refine aDR hA hF fun M1 β t' hB hp' hits hcel' heff => ?_
  simp only [go_sem]
  have hL := hits L g2
  have hc2 := lK (t := t') (N := LT.aO t') hL (List.Perm.refl _)
  refine h M1 β _ (LT.aO t') hB (.inl ⟨hk, t', hp', hL, List.Perm.refl _⟩) (fun c hc => hcel.mem_iff.1 (hcel'.mem_iff.1 (hc2.mem_iff.2 hc))) (heff.mono (fun c hc => hcel.mem_iff.1 hc) (fun _ h => h) ?_)
  rw [g2.length_eq]; exact Int.le_refl _
 ·have hcel := pP g2 g3
  have hl : (ST.aO b).length = L.length + 1 := by rw [← List.length_cons, ← g2.length_eq]; simp [ST.gQ]
  obtain ⟨x, hx, hfx⟩ := List.mem_map.1 (g2.mem_iff.2 List.mem_cons_self)
  have e1 : (f x).1 = i := by rw [hfx]
  have e2 : (f x).2 = e := by rw [hfx]
  rw [← e2] at hle hs2
  rw [← e1] at hs
  have fin : ∀ L1, (ST.gQ f (ST.aO b)).Perm (f x :: L1) → ∀ M' β, aA w0 F M' (aE a β) → KH k β r (((f x).1, e') :: L1) (ST.aO b) → AS.lE (fun c => c ∈ ST.bE f (ST.aO b)) (fun _ => False) 0 (dJ (ST.aO b).length) α β → R (.int .i64 r) M' := by
   intro L1 hL1 M' β hB hkh heff
   have hLL : L1.Perm L := by
    rw [hfx] at hL1
    exact List.Perm.cons_inv (hL1.symm.trans g2)
   rw [e1] at hkh
   refine h M' β r N hB (hkh.perm (hLL.cons _) g3) (fun c hc => by rw [hceq] at hc; exact hc) (heff.mono (fun c hc => hcel.mem_iff.1 hc) (fun _ h => h) (by rw [hl]; exact Int.le_refl _))
  rw [eW, if_neg (by omega), ← e1]
  rcases hk with hk | hk
  ·subst hk
   rw [eW, if_pos rfl]
   refine aDM hA g1 hx hle hs2 hs fun L1 hL1 M' β hB hkh heff => ?_
   simp only [go_sem]
   exact fin L1 hL1 M' β hB hkh heff
  ·subst hk
   rw [eW, if_neg (by omega), eW, if_pos rfl]
   refine aD9 hA g1 hx hle hs2 hs fun L1 hL1 M' β hB hkh heff => ?_
   simp only [go_sem]
   exact fin L1 hL1 M' β hB hkh heff
theorem aJh (hA : aA w0 F M (aE a α)) {i : Nat} {e : cW} (hp : KH k α r ((i, e) :: L) N) (h300 : L.length < 300)
  (h : ∀ n ∈ N, ∀ M' β r' N', aA w0 F M' (aE a β) → KH k β r' L N' → aHY L N' ((i, e) :: L) N → i ∉ fD L N' → AS.lE (fun c => c ∈ fD ((i, e) :: L) N) (· = n) (-1) (dJ (L.length + 1)) α β → R (.int .i64 r') M') :
  C PP w0 Id.lY #[.int .i64 k, .pointer (some ⟨a, 0, none⟩), .int .i64 r, .int .i64 (i : Int)] R M := by
 have fO := hp.nd
 apply lY.go
 unfold lY.T aJ
 rcases hp with ⟨hk, t, g1, g2, g3⟩ | ⟨hk, f, b, g1, g2, g3⟩
 ·rw [eW, if_pos hk]
  have hcel := lK g2 g3
  refine aGd hA g1 (g2.mem_iff.2 List.mem_cons_self) fun L1 hL1 M1 β t' n hn hB hp' hits hsub hin hnn heff hg => ?_
  simp only [go_sem]
  have hLL : L1.Perm L := List.Perm.cons_inv (hL1.symm.trans g2)
  have hL : (LT.bV t').Perm L := hits.trans hLL
  have hc2 := lK (t := t') (N := LT.aO t') hL (List.Perm.refl _)
  refine h n (g3.mem_iff.1 hn) M1 β _ (LT.aO t') hB (.inl ⟨hk, t', hp', hL, List.Perm.refl _⟩) (fun c hc => hcel.mem_iff.1 (hsub c (hc2.mem_iff.2 hc))) (fun hc => hin (hc2.mem_iff.2 hc)) (heff.mono (fun c hc => hcel.mem_iff.1 hc) (fun _ h => h) ?_)
  rw [g2.length_eq]; exact Int.le_refl _
 ·have hcel := pP g2 g3
  have hl : (ST.aO b).length = L.length + 1 := by rw [← List.length_cons, ← g2.length_eq]; simp [ST.gQ]
  obtain ⟨x, hx, hfx⟩ := List.mem_map.1 (g2.mem_iff.2 List.mem_cons_self)
  have e1 : (f x).1 = i := by rw [hfx]
  have fin : ∀ L1, (ST.gQ f (ST.aO b)).Perm (f x :: L1) → ∀ n N1, (ST.aO b).Perm (n :: N1) → ∀ M' β r', aA w0 F M' (aE a β) → KH k β r' L1 N1 → AS.lE (fun c => c ∈ ST.bE f (ST.aO b)) (· = n) (-1) (dJ (ST.aO b).length) α β → R (.int .i64 r') M' := by
   intro L1 hL1 n N1 hN1 M' β r' hB hkh heff
   have hLL : L1.Perm L := by
    rw [hfx] at hL1
    exact List.Perm.cons_inv (hL1.symm.trans g2)
   refine h n (g3.mem_iff.1 (hN1.mem_iff.2 List.mem_cons_self)) M' β r' N1 hB (hkh.perm hLL (List.Perm.refl _)) (fun c hc => ?_) (aFj (x := (i, e)) (jR (List.Perm.refl _) (g3.symm.trans hN1)) fO) (heff.mono (fun c hc => hcel.mem_iff.1 hc) (fun _ h => h) (by rw [hl]; exact Int.le_refl _))
   refine (jR (List.Perm.refl _) (g3.symm.trans hN1)).mem_iff.2 ?_
   unfold fD at hc ⊢
   rcases List.mem_append.1 hc with hc | hc
   ·exact List.mem_append_left _ (List.mem_cons_of_mem _ hc)
   ·exact List.mem_append_right _ (by rw [List.map_cons]; exact List.mem_cons_of_mem _ hc)
  rw [eW, if_neg (by omega), ← e1]
  rcases hk with hk | hk
  ·subst hk
   rw [eW, if_pos rfl]
   refine aFP hA g1 hx (by omega) fun L1 hL1 n N1 hN1 M' β r' hB hkh heff _ => ?_
   simp only [go_sem]
   exact fin L1 hL1 n N1 hN1 M' β r' hB hkh heff
  ·subst hk
   rw [eW, if_neg (by omega), eW, if_pos rfl]
   refine aFN hA g1 hx (by omega) fun L1 hL1 n N1 hN1 M' β r' hB hkh heff _ => ?_
   simp only [go_sem]
   exact fin L1 hL1 n N1 hN1 M' β r' hB hkh heff
theorem aHQ (hA : aA w0 F M (aE a α)) {s : Int} {L2 : List cC} {N2 : List Nat} (hp : KH k α r L N) (hq : KH k α s L2 N2) (hd : (fD L N ++ fD L2 N2).Nodup) (h300 : L.length + L2.length ≤ 300)
  (h : ∀ M' β r' N', aA w0 F M' (aE a β) → KH k β r' (L ++ L2) N' → (∀ c ∈ fD (L ++ L2) N', c ∈ fD L N ∨ c ∈ fD L2 N2) → AS.lE (fun c => c ∈ fD L N ∨ c ∈ fD L2 N2) (fun _ => False) 0 (dJ (L.length + L2.length)) α β → R (.int .i64 r') M') :
  C PP w0 Id.kN #[.int .i64 k, .pointer (some ⟨a, 0, none⟩), .int .i64 r, .int .i64 s] R M := by
 apply kN.go
 unfold kN.T aJ
 rcases hp with ⟨hk, t, g1, g2, g3⟩ | ⟨hk, f, b, g1, g2, g3⟩
 ·rcases hq with ⟨_, u, q1, q2, q3⟩ | ⟨hk2, _⟩
  ·rw [eW, if_pos hk]
   have hcel := lK g2 g3
   have hcel2 := lK q2 q3
   refine aDU hA g1 q1 ((hcel.append hcel2).nodup_iff.2 hd) fun M1 β t' hB hp' hits hcel' heff => ?_
   simp only [go_sem]
   have hL : (LT.bV t').Perm (L ++ L2) := hits.trans (g2.append q2)
   have hc2 := lK (t := t') (N := LT.aO t') hL (List.Perm.refl _)
   refine h M1 β _ (LT.aO t') hB (.inl ⟨hk, t', hp', hL, List.Perm.refl _⟩) (fun c hc => ?_) (heff.mono (fun c hc => ?_) (fun _ h => h) ?_)
   ·rcases List.mem_append.1 (hcel'.mem_iff.1 (hc2.mem_iff.2 hc)) with hc | hc
    ·exact .inl (hcel.mem_iff.1 hc)
    ·exact .inr (hcel2.mem_iff.1 hc)
   ·rcases hc with hc | hc
    ·exact .inl (hcel.mem_iff.1 hc)
    ·exact .inr (hcel2.mem_iff.1 hc)
   ·rw [g2.length_eq, q2.length_eq]; exact Int.le_refl _
  ·omega
 ·rcases hq with ⟨hk2, _⟩ | ⟨_, g, c, q1, q2, q3⟩
  ·omega
  ·have hcel := pP g2 g3
   have hcel2 := pP q2 q3
   have hl : (ST.aO b).length = L.length := by rw [← g2.length_eq]; simp [ST.gQ]
   have hl2 : (ST.aO c).length = L2.length := by rw [← q2.length_eq]; simp [ST.gQ]
   have fin : ∀ M' β r', aA w0 F M' (aE a β) → KH k β r' (ST.gQ f (ST.aO b) ++ ST.gQ g (ST.aO c)) (ST.aO b ++ ST.aO c) → AS.lE (fun x => x ∈ ST.bE f (ST.aO b) ∨ x ∈ ST.bE g (ST.aO c)) (fun _ => False) 0 (dJ ((ST.aO b).length + (ST.aO c).length)) α β → R (.int .i64 r') M' := by
    intro M' β r' hB hkh heff
    refine h M' β r' (N ++ N2) hB (hkh.perm (g2.append q2) (g3.append q3)) (fun c hc => ?_) (heff.mono (fun c hc => ?_) (fun _ h => h) (by rw [hl, hl2]; exact Int.le_refl _))
    ·unfold fD at hc ⊢
     simp only [List.map_append, List.mem_append] at hc ⊢
     rcases hc with (hc | hc) | hc | hc
     ·exact .inl (.inl hc)
     ·exact .inr (.inl hc)
     ·exact .inl (.inr hc)
     ·exact .inr (.inr hc)
    ·rcases hc with hc | hc
     ·exact .inl (hcel.mem_iff.1 hc)
     ·exact .inr (hcel2.mem_iff.1 hc)
   rw [eW, if_neg (by omega)]
   rcases hk with hk | hk
   ·subst hk
    rw [eW, if_pos rfl]
    refine aDJ hA g1 q1 ((hcel.append hcel2).nodup_iff.2 hd) (by omega) fun M' β r' hB hkh heff => ?_
    simp only [go_sem]
    exact fin M' β r' hB hkh heff
   ·subst hk
    rw [eW, if_neg (by omega), eW, if_pos rfl]
    refine aDQ hA g1 q1 ((hcel.append hcel2).nodup_iff.2 hd) (by omega) fun M' β r' hB hkh heff => ?_
    simp only [go_sem]
    exact fin M' β r' hB hkh heff
end
end HL
namespace HL
abbrev wN : TypeId := 156
abbrev wS (bh bi ma : Nat) : List Value := [.pointer (some ⟨bh, 0, none⟩), .pointer (some ⟨bi, 0, none⟩), .map (some ma)]
section
variable {w0 : World} {F M : Mem} {R : VP} {os : uX} {t bh bi ma : Nat} {hp ip : PS V3} {Q : cY}
theorem Tb0 (o : cM w0 F t (wS bh bi ma) wN) (hl : Mem.le F M) : (aH PP w0).ld 146 ⟨t, 0, none⟩ M = some (.pointer (some ⟨bh, 0, none⟩)) := lR W.aLR (o.le hl) rfl
theorem Tb1 (o : cM w0 F t (wS bh bi ma) wN) (hl : Mem.le F M) : (aH PP w0).ld 150 ⟨t, 1, none⟩ M = some (.pointer (some ⟨bi, 0, none⟩)) := lR W.aLI (o.le hl) rfl
theorem Tb2 (o : cM w0 F t (wS bh bi ma) wN) (hl : Mem.le F M) : (aH PP w0).ld 154 ⟨t, 2, none⟩ M = some (.map (some ma)) := lR (by kernel_rfl) (o.le hl) rfl
theorem pS {a g : Int} {v : V3} (oT : cM w0 F t (wS bh bi ma) wN) (h : HO w0 F M os (star (wP bh hp) Q)) (hb : hp.l.length ≤ 100000) (hw : hp.find a g = some v)
  (hK : ∀ M', HO w0 F M' os (star (wP bh hp) Q) → R (.tuple #[.int .i64 v.1, .int .i64 v.2.1, .int .i64 v.2.2, .int .i64 0]) M') :
  C PP w0 Id.oV #[.pointer (some ⟨t, 0, none⟩), .agg #[.int .i64 a, .int .i64 g]] R M := by
 apply oV.go
 unfold oV.T aJ
 refine rQ h fun b1 F1 M1 l1 lm1 o1 h1 => ?_
 have oT1 := oT.le l1
 simp only [aX, Tb0 oT1 h1.fr, aC, bK, fB aZ (o1.le h1.fr), a9, aU, aL, aT]
 refine ⟨?_, ?_⟩
 rotate_left
 ·refine jI h1 fun b2 M2 l2 h2 => ?_
  refine ⟨Tb0 oT1 h2.fr, fB aZ (o1.le h2.fr), ?_⟩
  refine w6 h2.h.right hb hw fun M3 l3 => ?_
  simp only [cA, aU, a9, aL, aT]
  refine vY u7 (by rfl) sX (h2.le l3) fun F2 M4 l4 o4 h4 => ?_
  simp only [add_eq, Nat.zero_add, lR W.c3 (o4.le h4.fr) (o := 0) rfl, lR W.c3 (o4.le h4.fr) (o := 1) rfl, lR W.c3 (o4.le h4.fr) (o := 2) rfl, aC, aL, true_and]
  exact hK M4 ((h4.fJ l4).fJ l1)
 ·refine w6 h1.h hb hw fun M3 l3 => ?_
  simp only [cA, aU, a9, aL, aT]
  refine j9 u7 (by rfl) sX (h1.le l3) fun b2 F2 M4 l4 o4 h4 => ?_
  simp only [add_eq, Nat.zero_add, lR W.c3 (o4.le h4.fr) (o := 0) rfl, lR W.c3 (o4.le h4.fr) (o := 1) rfl, lR W.c3 (o4.le h4.fr) (o := 2) rfl, aC, aL, true_and]
  exact hK M4 ((h4.fJ l4).fJ l1)
theorem aC8 {a g : Int} {v : V3} (oT : cM w0 F t (wS bh bi ma) wN) (h : HO w0 F M os (star (q9 bi ip) Q)) (hb : ip.l.length ≤ 100000) (hw : ip.find a g = some v)
  (hK : ∀ M', HO w0 F M' os (star (q9 bi ip) Q) → R (.tuple #[.int .i64 v.1, .int .i64 0]) M') :
  C PP w0 Id.oO #[.pointer (some ⟨t, 0, none⟩), .agg #[.int .i64 a, .int .i64 g]] R M := by
 apply oO.go
 unfold oO.T aJ
 refine rQ h fun b1 F1 M1 l1 lm1 o1 h1 => ?_
 have oT1 := oT.le l1
 simp only [aX, add_eq, Nat.zero_add, Tb1 oT1 h1.fr, aC, bK, fB aZ (o1.le h1.fr), a9, aU, aL, aT]
 refine ⟨?_, ?_⟩
 rotate_left
 ·refine jI h1 fun b2 M2 l2 h2 => ?_
  refine ⟨Tb1 oT1 h2.fr, fB aZ (o1.le h2.fr), ?_⟩
  refine zK h2.h.right hb hw fun M3 l3 => ?_
  simp only [cA, aU, a9, aL, aT]
  refine vY rD (by rfl) sX (h2.le l3) fun F2 M4 l4 o4 h4 => ?_
  simp only [lR W.c3 (o4.le h4.fr) (o := 0) rfl, aC, aL]
  exact hK M4 ((h4.fJ l4).fJ l1)
 ·refine zK h1.h hb hw fun M3 l3 => ?_
  simp only [cA, aU, a9, aL, aT]
  refine j9 rD (by rfl) sX (h1.le l3) fun b2 F2 M4 l4 o4 h4 => ?_
  simp only [lR W.c3 (o4.le h4.fr) (o := 0) rfl, aC, aL]
  exact hK M4 ((h4.fJ l4).fJ l1)
theorem aCI {a g : Int} {v : V3} (oT : cM w0 F t (wS bh bi ma) wN) (h : HO w0 F M os (star (q9 bi ip) Q)) (hb : ip.l.length ≤ 100000) (hw : ip.find a g = some v)
  (hK : ∀ M', HO w0 F M' os (star (q9 bi ip) Q) → R (.tuple #[.agg #[.int .i64 v.2.1, .int .i64 v.2.2], .int .i64 0]) M') :
  C PP w0 Id.vP #[.pointer (some ⟨t, 0, none⟩), .agg #[.int .i64 a, .int .i64 g]] R M := by
 apply vP.go
 unfold vP.T aJ
 refine rQ h fun b1 F1 M1 l1 lm1 o1 h1 => ?_
 refine jI h1 fun b3 M1' l1' h1' => ?_
 have oT1 := oT.le l1
 simp only [aX, add_eq, Nat.zero_add, Tb1 oT1 h1'.fr, aC, bK, fB aZ (o1.le h1'.fr), a9, aU, aL, aT]
 refine ⟨?_, ?_⟩
 rotate_left
 ·refine jI h1' fun b2 M2 l2 h2 => ?_
  refine ⟨Tb1 oT1 h2.fr, fB aZ (o1.le h2.fr), ?_⟩
  refine zK h2.h.right.right hb hw fun M3 l3 => ?_
  simp only [cA, aU, a9, aL, aT]
  refine vY rD (by rfl) sX (h2.le l3) fun F2 M4 l4 o4 h4 => ?_
  simp only [kE (o := 1) (vs := [.int .i64 v.2.1, .int .i64 v.2.2]) aZ (o4.le h4.fr) (fun j u hj => by rw [Nat.add_comm]; exact hj), aC, a9, aU, aL, aT]
  refine jJ (K := fun v M => R (.tuple #[v, .int .i64 0]) M) aZ (by rfl) iL h4 fun M5 h5 => ?_
  exact hK M5 ((h5.fJ l4).fJ l1)
 ·refine zK h1'.h.right hb hw fun M3 l3 => ?_
  simp only [cA, aU, a9, aL, aT]
  refine j9 rD (by rfl) sX (h1'.le l3) fun b2 F2 M4 l4 o4 h4 => ?_
  simp only [kE (o := 1) (vs := [.int .i64 v.2.1, .int .i64 v.2.2]) aZ (o4.le h4.fr) (fun j u hj => by rw [Nat.add_comm]; exact hj), aC, a9, aU, aL, aT]
  refine jJ (K := fun v M => R (.tuple #[v, .int .i64 0]) M) aZ (by rfl) iL h4 fun M5 h5 => ?_
  exact hK M5 ((h5.fJ l4).fJ l1)
theorem vF {a g r n : Int} {v : V3} (oT : cM w0 F t (wS bh bi ma) wN) (h : HO w0 F M os (star (wP bh hp) Q)) (hb : hp.l.length ≤ 100000) (hw : hp.find a g = some v)
  (hK : ∀ M', HO w0 F M' os (star (wP bh (hp.put a.toNat (v.1, r, n))) Q) → R (.int .i64 0) M') :
  C PP w0 Id.nQ #[.pointer (some ⟨t, 0, none⟩), .agg #[.int .i64 a, .int .i64 g], .int .i64 r, .int .i64 n] R M := by
 apply nQ.go
 unfold nQ.T aJ
 refine rQ h fun b1 F1 M1 l1 lm1 o1 h1 => ?_
 have oT1 := oT.le l1
 simp only [aX, Tb0 oT1 h1.fr, aC, bK, fB aZ (o1.le h1.fr), a9, aU, aL, aT]
 refine ⟨?_, ?_⟩
 rotate_left
 refine jI h1 fun b2 M2 l2 h2 => ?_
 refine ⟨Tb0 oT1 h2.fr, fB aZ (o1.le h2.fr), ?_⟩
 refine w6 h2.h.right hb hw fun M3 l3 => ?_
 simp only [cA, aU, a9, aL, aT]
 refine stW u7 (by rfl) sX (h2.le l3) fun M4 h4 => ?_
 rotate_left
 refine w6 h1.h hb hw fun M3 l3 => ?_
 simp only [cA, aU, a9, aL, aT]
 refine jI (h1.le l3) fun b2 M2 l2 h2 => ?_
 refine stW u7 (by rfl) sX h2 fun M4 h4 => ?_
 all_goals
  rw [eW, if_pos rfl]
  simp only [add_eq, Nat.zero_add]
  refine aBi (o := 1) W.c3 (by simp) rfl rfl h4 fun M5 h5 => ?_
  refine aBi (o := 2) W.c3 (by simp) rfl rfl h5 fun M6 h6 => ?_
  change HO w0 F1 M6 os (star (aY b2 [.int .i64 v.1, .int .i64 r, .int .i64 n] 149) _) at h6
  simp only [aX, Tb0 oT1 h6.fr, aC, bK, fB aZ (o1.le h6.fr), fB u7 h6.h.bA, a9, aU, aL, aT]
  obtain ⟨F2, hB, l7, back⟩ := h6.aAG
  refine aIs (v := (v.1, r, n)) hB hb hw fun M7 hC => ?_
  rw [aL]
  have h8 := back M7 _ hC
  exact hK M7 ((h8.aW fun h => h.right).fJ l1)
theorem aB3 {c : Int} {r : dG} {oa : Obj} {m : Int → Option dG} (oT : cM w0 F t (wS bh bi ma) wN) (h : HO w0 F M os Q) (hm : (ma, oa) ∈ os) (hf : dF (Value.int .i64) bX m oa) (hw : m c = some r)
  (hK : ∀ M', HO w0 F M' os Q → R (.tuple #[.agg #[.int .i64 r.1, .int .i64 r.2], .bool true]) M') :
  C PP w0 Id.vJ #[.pointer (some ⟨t, 0, none⟩), .int .i64 c] R M := by
 apply vJ.go
 unfold vJ.T aJ
 refine jI h fun b1 M1 l1 h1 => ?_
 obtain ⟨inf, hi, hz, _⟩ := W.e33
 have hlk := (lkF (k := c) Tryz.underlying154 aAd hi hz (h1.get hm).1 (h1.get hm).2 hf).2
 rw [hw] at hlk
 simp only [Option.map_some, Option.getD_some, Option.isSome_some, bX] at hlk
 simp only [aX, add_eq, Nat.zero_add, Tb2 oT h1.fr, aC, hlk, cA, aU, a9, aL, bU, aT]
 refine j9 aZ (by rfl) iL h1 fun b2 F2 M4 l4 o4 h4 => ?_
 simp only [fB aZ (o4.le h4.fr), aC, a9, aU, aL, aT]
 refine jJ (K := fun v M => R (.tuple #[v, .bool true]) M) aZ (by rfl) iL h4 fun M5 h5 => ?_
 exact hK M5 (h5.fJ l4)
theorem aF9 (oT : cM w0 F t (wS bh bi ma) wN) (h : HO w0 F M os (star (q9 bi ip) Q)) (hb : ip.l.length ≤ 100000) (hf : ip.free.length ≤ ip.l.length) (hK : R (.int .i64 ((ip.l.length - ip.free.length : Nat) : Int)) M) :
  C PP w0 Id.mA #[.pointer (some ⟨t, 0, none⟩)] R M := by
 apply mA.go
 unfold mA.T aJ
 simp only [aX, add_eq, Nat.zero_add, Tb1 oT h.fr, aC, bK]
 refine aEL h.h hb hf ?_
 rw [aL]
 exact hK
theorem aHl {a g : Int} {v : V3} {oa : Obj} {m : Int → Option dG} (oT : cM w0 F t (wS bh bi ma) wN) (h : HO w0 F M ((ma, oa) :: os) (star (q9 bi ip) Q)) (hb : ip.l.length ≤ 10000) (hfb : ip.free.length ≤ 10000) (hf : dF (Value.int .i64) bX m oa) (hw : ip.find a g = some v)
  (hK : ∀ M' oa', dF (Value.int .i64) bX (fT m v.1 none) oa' → HO w0 F M' ((ma, oa') :: os) (star (q9 bi (ip.fZ z3 a.toNat)) Q) → R (.tuple #[.int .i64 v.1, .int .i64 0]) M') :
  C PP w0 Id.oK #[.pointer (some ⟨t, 0, none⟩), .agg #[.int .i64 a, .int .i64 g]] R M := by
 apply oK.go
 unfold oK.T aJ
 refine rQ h fun b1 F1 M1 l1 lm1 o1 h1 => ?_
 have oT1 := oT.le l1
 simp only [aX, add_eq, Nat.zero_add, Tb1 oT1 h1.fr, aC, bK, fB aZ (o1.le h1.fr), a9, aU, aL, aT]
 refine ⟨?_, ?_⟩
 rotate_left
 refine jI h1 fun b2 M2 l2 h2 => ?_
 refine ⟨Tb1 oT1 h2.fr, fB aZ (o1.le h2.fr), ?_⟩
 obtain ⟨F2, hB, l3, back⟩ := h2.aAG
 refine aCN hB hb hfb hw fun M3 hC => ?_
 have h3 := back M3 _ hC
 simp only [cA, aU, a9, aL, aT]
 refine vY rD (by rfl) sX h3 fun F3 M4 l4 o4 h4 => ?_
 rotate_left
 obtain ⟨F2, hB, l3, back⟩ := h1.xJ
 refine aCN hB hb hfb hw fun M3 hC => ?_
 have h3 := back M3 _ hC
 simp only [cA, aU, a9, aL, aT]
 refine j9 rD (by rfl) sX h3 fun b2 F3 M4 l4 o4 h4 => ?_
 all_goals
  rw [eW, if_pos rfl]
  simp only [aX, add_eq, Nat.zero_add, Tb2 (oT1.le l4) h4.fr, aC, lR W.c3 (o4.le h4.fr) (o := 0) rfl, aL]
  obtain ⟨g1, g2⟩ := h4.get List.mem_cons_self
  refine aHW (k := v.1) rfl Tryz.underlying154 aAd g1 g2 hf fun oa' hf' => ?_
  have h5 := h4.set (o' := oa')
  generalize Mem.set M4 ma _ = M5 at h5 ⊢
  simp only [lR W.c3 (o4.le h5.fr) (o := 0) rfl, aC, aL]
  exact hK M5 oa' hf' ((h5.fJ l4).fJ l1)
end
end HL
namespace HL
structure eZ where
 why : Int := 0
 at_ : Int := 0
 gen : Int := 0
 time : Int := 0
 data : Int := 0
 n : Int := 0
deriving DecidableEq
structure tK where
 kind : Int
 queue : Int
 at_ : Int
 gen : Int
 time : Int
 data : Int
abbrev iI : TypeId := 65
abbrev qA : TypeId := 68
def eZ.v (r : eZ) : Value := .agg #[.int .i64 r.why, .int .i64 r.at_, .int .i64 r.gen, .int .i64 r.time, .int .i64 r.data, .int .i64 r.n]
def eZ.cells (r : eZ) : List Value := [.int .i64 r.why, .int .i64 r.at_, .int .i64 r.gen, .int .i64 r.time, .int .i64 r.data, .int .i64 r.n]
def tK.v (c : tK) : Value := .agg #[.int .i64 c.kind, .int .i64 c.queue, .int .i64 c.at_, .int .i64 c.gen, .int .i64 c.time, .int .i64 c.data]
def tK.cells (c : tK) : List Value := [.int .i64 c.kind, .int .i64 c.queue, .int .i64 c.at_, .int .i64 c.gen, .int .i64 c.time, .int .i64 c.data]
end HL
namespace HL
structure Jb where
 queue : Int
 data : Int
 key : Int
 ser : Int
 at_ : Int
 gen : Int
def Jb.e (j : Jb) : cW := (j.key, j.ser)
structure rN where
 most : Int
 now : Int
 next : Int
 bT : Pl
 l : List Jb
def atD (l : List Jb) (a g : Int) : Option Nat := l.findIdx? fun j => decide (j.at_ = a ∧ j.gen = g)
def aDe : Option (Nat × cW) → cW → Bool
 | none, _ => true
 | some x, e => decide (Lt e x.2)
def sE (q : Int) : Nat → List Jb → Option (Nat × cW) → Option (Nat × cW)
 | _, [], acc => acc
 | i, j :: t, acc => sE q (i + 1) t (if j.queue = q ∧ aDe acc j.e = true then some (i, j.e) else acc)
def pD (l : List Jb) (q : Int) : Option (Nat × cW) := sE q 0 l none
def jA (q : Int) (l : List Jb) : Nat := l.countP fun j => decide (j.queue = q)
def rN.out (d : rN) (k : Nat) : rN := match d.l[k]? with
 | none => d
 | some j => { d with l := d.l.eraseIdx k, bT := d.bT.fZ j.at_.toNat }
def fC (d : rN) (c : tK) : rN × eZ :=
 if (c.kind = 1 ∨ c.kind = 5 ∨ c.kind = 6 ∨ c.kind = 7) ∧ (c.queue < 0 ∨ 2 ≤ c.queue) then (d, { why := 1 })
 else if c.kind = 1 then
  match d.bT.at_ with
  | none => (d, { why := 13 })
  | some a => ({ d with bT := d.bT.take a 0, l := d.l ++ [⟨c.queue, c.data, c.time, d.next, (a : Int), d.bT.gen a⟩], next := d.next + 1 }, { at_ := (a : Int), gen := d.bT.gen a, time := c.time, data := c.data })
 else if c.kind = 2 ∨ c.kind = 3 then
  if d.bT.look c.at_ c.gen ≠ 0 then (d, { why := d.bT.look c.at_ c.gen })
  else match atD d.l c.at_ c.gen with
   | none => (d, {})
   | some k => match d.l[k]? with
    | none => (d, {})
    | some j =>
     if c.kind = 3 then (d.out k, { time := j.key, data := j.data })
     else if j.key < c.time then (d, { why := 26 })
     else ({ d with l := d.l.set k { j with key := c.time } }, { time := c.time, data := j.data })
 else if c.kind = 4 then
  if c.time < 0 then (d, { why := 1 }) else ({ d with now := jW d.now c.time }, { time := jW d.now c.time })
 else if c.kind = 5 then
  match pD d.l c.queue with
  | none => (d, { why := 28 })
  | some x => if d.now < x.2.1 then (d, { why := 28 }) else
   match d.l[x.1]? with
   | none => (d, {})
   | some j => (d.out x.1, { at_ := j.at_, gen := j.gen, time := j.key, data := j.data })
 else if c.kind = 6 then
  if c.queue = 0 then (d, { why := 25 })
  else ({ d with l := d.l.map fun j => if j.queue = 1 then { j with queue := 0 } else j }, { n := (jA 1 d.l : Int) })
 else if c.kind = 7 then (d, { n := (jA c.queue d.l : Int) })
 else (d, { why := 12 })
structure DOk (d : rN) : Prop where
 pl : aEh d.bT
 look : ∀ a g, d.bT.look a g = 0 → ∃ k, atD d.l a g = some k
 lk : ∀ j ∈ d.l, d.bT.look j.at_ j.gen = 0
 bl : d.bT.back.length ≤ 10000
 gl : d.bT.iH.length ≤ 10000
 gv : ∀ g ∈ d.bT.iH, 0 ≤ g ∧ g ≤ 1000000
 ll : d.l.length ≤ 10000
 nx : 0 ≤ d.next ∧ d.next ≤ 1000000
theorem zU {q : Int} : ∀ {l : List Jb} {i : Nat} {acc : Option (Nat × cW)} {P : Nat × cW → Prop}, (∀ x, acc = some x → P x) → (∀ (n : Nat) j, l[n]? = some j → j.queue = q → P (i + n, j.e)) → ∀ x, sE q i l acc = some x → P x
 | [], i, acc, P, h0, _, x, hx => h0 x hx
 | j :: l, i, acc, P, h0, h1, x, hx => by
  rw [sE] at hx
  refine zU (P := P) (fun y hy => ?_) (fun n k hk hq => ?_) x hx
  ·split at hy
   ·rename_i hc
    cases hy
    exact h1 0 j rfl hc.1
   ·exact h0 y hy
  ·have := h1 (n + 1) k (by simpa using hk) hq
   rw [show i + 1 + n = i + (n + 1) from by omega]; exact this
theorem yA {q : Int} : ∀ {l : List Jb} {i : Nat} {acc : Option (Nat × cW)} {x : Nat × cW}, sE q i l acc = some x → (∀ y, acc = some y → ¬ Lt y.2 x.2) ∧ ∀ j ∈ l, j.queue = q → ¬ Lt j.e x.2
 | [], i, acc, x, hx => ⟨fun y hy => by
   have : acc = some x := hx
   rw [this] at hy; cases hy; exact Lt.irr, fun j hj => by cases hj⟩
 | j :: l, i, acc, x, hx => by
  rw [sE] at hx
  obtain ⟨h1, h2⟩ := yA hx
  by_cases hc : j.queue = q ∧ aDe acc j.e = true
  ·rw [if_pos hc] at h1
   have hj := h1 _ rfl
   refine ⟨fun y hy => ?_, fun k hk hq => ?_⟩
   ·subst hy
    intro hh
    have := hc.2
    simp only [aDe, decide_eq_true_eq] at this
    exact hj (Lt.tr this hh)
   ·rcases List.mem_cons.1 hk with rfl | hk
    ·exact hj
    ·exact h2 k hk hq
  ·rw [if_neg hc] at h1
   refine ⟨h1, fun k hk hq => ?_⟩
   rcases List.mem_cons.1 hk with rfl | hk
   ·cases acc with
    | none => exact absurd ⟨hq, rfl⟩ hc
    | some y =>
     have hny : ¬ Lt k.e y.2 := fun hh => hc ⟨hq, by simp only [aDe, decide_eq_true_eq]; exact hh⟩
     have hyx := h1 y rfl
     exact fun hh => (nLt.tr hyx hny) hh
   ·exact h2 k hk hq
theorem zQ {q : Int} : ∀ {l : List Jb} {i : Nat} {acc : Option (Nat × cW)}, sE q i l acc = none → acc = none ∧ ∀ j ∈ l, j.queue ≠ q
 | [], i, acc, hx => ⟨hx, fun j hj => by cases hj⟩
 | j :: l, i, acc, hx => by
  rw [sE] at hx
  obtain ⟨h1, h2⟩ := zQ hx
  split at h1
  ·cases h1
  ·rename_i hc
   subst h1
   refine ⟨rfl, fun k hk hq => ?_⟩
   rcases List.mem_cons.1 hk with rfl | hk
   ·exact hc ⟨hq, rfl⟩
   ·exact h2 k hk hq
theorem zL {l : List Jb} {q : Int} {x : Nat × cW} (h : pD l q = some x) : ∃ j, l[x.1]? = some j ∧ j.queue = q ∧ x.2 = j.e ∧ ∀ k ∈ l, k.queue = q → ¬ Lt k.e j.e := by
 have h1 := zU (q := q) (l := l) (i := 0) (acc := none) (P := fun y => ∃ j, l[y.1]? = some j ∧ j.queue = q ∧ y.2 = j.e) (fun y hy => by cases hy) (fun n j hj hq => ⟨j, by rw [Nat.zero_add]; exact hj, hq, rfl⟩) x h
 obtain ⟨j, h2, h3, h4⟩ := h1
 refine ⟨j, h2, h3, h4, fun k hk hq => ?_⟩
 rw [← h4]
 exact (yA h).2 k hk hq
end HL
namespace HL
section
variable {w0 : World} {M F : Mem} {R : VP}
theorem aIN {a b : Int} (ha : fR a) (hb : fR b) (h : R (.int .i64 (jW a b)) M) : C PP w0 Id.iP #[.int .i64 a, .int .i64 b] R M := by
 apply iP.go
 intro aB H
 unfold iP.T aJ
 unfold fR at ha hb
 unfold jW at h
 have hj : (a < 0 ∨ ¬ (9223372036854775807 < a + b)) → iP.J1 aB a b M := by
  intro hc
  refine Eq.mpr (H.J1 ..) ?_
  unfold iP.J1.T aJ
  rw [eO]
  split
  ·rw [bC (n := (-9223372036854775808) - a) (by omega), eO]
   split
   ·rw [if_neg (by omega), if_pos (by omega)] at h; exact h
   ·rw [if_neg (by omega), if_neg (by omega)] at h
    rw [bC (by omega)]; exact h
  ·rw [if_neg (by omega), if_neg (by omega)] at h
   rw [bC (by omega)]; exact h
 rw [eO]
 split
 ·rw [bC (by omega), eO]
  split
  ·rw [if_pos (by omega)] at h; exact h
  ·exact hj (.inr (by omega))
 ·by_cases h0 : a < 0
  ·exact hj (.inl h0)
  ·exact hj (.inr (by omega))
end
end HL
namespace HL
abbrev tD : TypeId := 73
abbrev tJb : TypeId := 130
def w8 (j : Jb) : List Value := [.int .i64 j.queue, .int .i64 j.data, .int .i64 j.key, .int .i64 j.ser, .int .i64 j.at_, .int .i64 j.gen]
theorem xT (j : Jb) : (w8 j).length = 6 := rfl
theorem x4 (j : Jb) : ∀ v ∈ w8 j, bQ v = true := by
 intro v hv
 simp only [w8, List.mem_cons, List.not_mem_nil, or_false] at hv
 rcases hv with rfl | rfl | rfl | rfl | rfl | rfl <;> rfl
abbrev jdV (l : List Jb) : List Value := l.flatMap w8
theorem pR (l : List Jb) : (jdV l).length = l.length * 6 := rC xT l
theorem yV (l : List Jb) : ∀ v ∈ jdV l, bQ v = true := aHk x4 _
def Jb.v (j : Jb) : Value := .agg #[.int .i64 j.queue, .int .i64 j.data, .int .i64 j.key, .int .i64 j.ser, .int .i64 j.at_, .int .i64 j.gen]
theorem aHE (l : List Jb) (i : Nat) : jdV (l.take i) = (jdV l).take (i * 6) := by
 by_cases hi : i ≤ l.length
 ·have h : jdV l = jdV (l.take i) ++ jdV (l.drop i) := by rw [← List.flatMap_append, List.take_append_drop]
  rw [h]; exact (List.take_left' (by rw [pR, List.length_take]; omega)).symm
 ·rw [List.take_of_length_le (by omega), List.take_of_length_le (by rw [pR]; omega)]
theorem aHw (l : List Jb) (i : Nat) : jdV (l.drop i) = (jdV l).drop (i * 6) := by
 by_cases hi : i ≤ l.length
 ·have h : jdV l = jdV (l.take i) ++ jdV (l.drop i) := by rw [← List.flatMap_append, List.take_append_drop]
  rw [h]; exact (List.drop_left' (by rw [pR, List.length_take]; omega)).symm
 ·rw [List.drop_of_length_le (by omega), List.drop_of_length_le (by rw [pR]; omega)]; rfl
section
variable {w0 : World} {F M : Mem} {R : VP}
theorem aAr {X Y : Operand} (a g b k : Int) : (aH PP w0).bq .eql 33 X Y (.agg #[.int .i64 a, .int .i64 g]) (.agg #[.int .i64 b, .int .i64 k]) = some (.bool (a == b && g == k)) := by
 have := aEp (P := PP) (w0 := w0) (X := X) (Y := Y) (es := [a == b, g == k]) (xs := #[.int .i64 a, .int .i64 g]) (ys := #[.int .i64 b, .int .i64 k]) Tryz.underlying33 (by kernel_rfl) (by kernel_rfl)
  ⟨by decide, ⟨.int .i64 a, .int .i64 b, by kernel_rfl, by kernel_rfl, lI Tryz.underlying3 a b⟩, by decide, ⟨.int .i64 g, .int .i64 k, by kernel_rfl, by kernel_rfl, lI Tryz.underlying3 g k⟩, trivial⟩
 rw [show ([a == b, g == k] : List Bool).all id = (a == b && g == k) from by simp [List.all]] at this
 exact this
theorem aGf {s : SV} {cs : List Value} {k i : Nat} (hc : gK w0 M s.a cs) (hl : cs.length = s.n * k) (hcap : s.n ≤ s.c) : gK w0 M (if s.c = i then s.a else s.a.map (·.add (i * k))) (cs.drop (i * k)) := fun j v hj => by
 rw [List.getElem?_drop] at hj
 obtain ⟨ad, ha, hr⟩ := hc _ v hj
 have hlt := (List.getElem?_eq_some_iff.1 hj).1
 rw [if_neg (fun e => by
  have : s.n * k ≤ i * k := Nat.mul_le_mul_right k (by omega)
  omega)]
 refine ⟨ad.add (i * k), by rw [ha]; rfl, ?_⟩
 rw [add_add]; exact hr
theorem aGh {s : SV} {cs : List Value} {m : Nat} (hc : gK w0 M s.a cs) : gK w0 M (if s.c = 0 then s.a else s.a.map (·.add 0)) (cs.take m) := fun j v hj => by
 have hj2 : cs[j]? = some v := by
  rw [List.getElem?_take] at hj
  split at hj
  ·exact hj
  ·cases hj
 obtain ⟨ad, ha, hr⟩ := hc _ v hj2
 refine ⟨ad, ?_, hr⟩
 rw [ha]
 split
 ·rfl
 ·simp [Addr.add]
def eR (d : Nat) (x : rN) : cY := fun r => ∃ (p : Nat) (s : SV), star (aY d [.int .i64 x.most, .int .i64 x.now, .int .i64 x.next, .pointer (some ⟨p, 0, none⟩), SV.v s] tD) (star (dP 6 s (jdV x.l)) (lC p x.bT)) r
section
variable {d : Nat} {x : rN} {Q : cY}
abbrev DH (w0 : World) (F M : Mem) (d : Nat) (x : rN) (p : Nat) (s : SV) (Q : cY) : Prop := aA w0 F M (star (aY d [.int .i64 x.most, .int .i64 x.now, .int .i64 x.next, .pointer (some ⟨p, 0, none⟩), SV.v s] tD) (star (dP 6 s (jdV x.l)) (star (lC p x.bT) Q)))
theorem eR.open_ (h : aA w0 F M (star (eR d x) Q)) : ∃ p s, DH w0 F M d x p s Q := by
 obtain ⟨r, ⟨r1, r2, rfl, ⟨p, s, r3, r4, rfl, a1, r5, r6, rfl, a2, a3⟩, a4⟩, a5⟩ := h
 exact ⟨p, s, _, ⟨r3, r5 ++ (r6 ++ r2), by simp, a1, r5, _, rfl, a2, r6, _, rfl, a3, a4⟩, a5⟩
theorem DH.close {p : Nat} {s : SV} (h : DH w0 F M d x p s Q) : aA w0 F M (star (eR d x) Q) := by
 obtain ⟨r, ⟨r3, r4, rfl, a1, r5, r6, rfl, a2, r7, r8, rfl, a3, a4⟩, a5⟩ := h
 exact ⟨_, ⟨r3 ++ (r5 ++ r7), r8, by simp, ⟨p, s, r3, _, rfl, a1, r5, _, rfl, a2, a3⟩, a4⟩, a5⟩
theorem DH.n {p : Nat} {s : SV} (h : DH w0 F M d x p s Q) : s.n = x.l.length := aA.nR xT (by decide) h.right
theorem DH.job {p : Nat} {s : SV} (h : DH w0 F M d x p s Q) {i : Nat} {j : Jb} (hj : x.l[i]? = some j) : ∃ blk, s.a = some ⟨blk, 0, none⟩ ∧ s.n = x.l.length ∧ i < s.n ∧ ∀ f v, (w8 j)[f]? = some v → rd w0 M ⟨blk, i * 6 + f, none⟩ = some v := aA.adR xT (by decide) h.right hj
theorem DH.rl {p : Nat} {s : SV} (h : DH w0 F M d x p s Q) : rd w0 M ⟨d, 4, none⟩ = some (SV.v s) := aM (o := 4) h.bA
theorem DH.rp {p : Nat} {s : SV} (h : DH w0 F M d x p s Q) : rd w0 M ⟨d, 3, none⟩ = some (.pointer (some ⟨p, 0, none⟩)) := aM (o := 3) h.bA
theorem DH.rn {p : Nat} {s : SV} (h : DH w0 F M d x p s Q) : rd w0 M ⟨d, 1, none⟩ = some (.int .i64 x.now) := aM (o := 1) h.bA
theorem DH.rx {p : Nat} {s : SV} (h : DH w0 F M d x p s Q) : rd w0 M ⟨d, 2, none⟩ = some (.int .i64 x.next) := aM (o := 2) h.bA
theorem DH.bT {p : Nat} {s : SV} (h : DH w0 F M d x p s Q) : ∃ F1, aA w0 F1 M (star (lC p x.bT) Q) ∧ ∀ M' pl' Q', aA w0 F1 M' (star (lC p pl') Q') → DH w0 F M' d { x with bT := pl' } p s Q' := by
 obtain ⟨F1, k1, _, k2⟩ := h.last
 obtain ⟨F2, k3, _, k4⟩ := k1.last
 exact ⟨F2, k3, fun M' pl' Q' hh => k2 _ _ (k4 _ _ hh)⟩
theorem aKu {a g : Int} (h : aA w0 F M (star (eR d x) Q)) (hL : x.l.length ≤ 10000) (hR : ∀ M', Mem.le M M' → R (.int .i64 (match atD x.l a g with | none => -1 | some k => (k : Int))) M') :
  C PP w0 Id.iT #[.pointer (some ⟨d, 0, none⟩), .agg #[.int .i64 a, .int .i64 g]] R M := by
 apply iT.go
 intro aB H
 unfold iT.T aJ
 intro b1 hb0 hbw
 have l1 : Mem.le M (M.set b1 (.row [.int .i64 a, .int .i64 g] 33)) := Mem.fN _ hb0
 have o1 : cM w0 (M.set b1 (.row [.int .i64 a, .int .i64 g] 33)) b1 [.int .i64 a, .int .i64 g] 33 := cM.new hbw
 generalize M.set b1 _ = M1 at l1 o1 ⊢
 obtain ⟨p, s, hs⟩ := eR.open_ (h.le l1)
 have hn := hs.n
 have ldr : (aH PP w0).ld 33 ⟨b1, 0, none⟩ M1 = some (.agg #[.int .i64 a, .int .i64 g]) := c9 (cs := [.int .i64 a, .int .i64 g]) W.g33 (fun j v hj => by rw [add_eq, aM o1, Nat.zero_add]; exact hj)
 have key : ∀ (n i : Nat), i ≤ x.l.length → x.l.length < i + n → (∀ k, k < i → ∀ j, x.l[k]? = some j → ¬ (j.at_ = a ∧ j.gen = g)) → iT.L1 aB n (some ⟨d, 0, none⟩) ⟨b1, 0, none⟩ (i : Int) M1 := by
  intro n
  induction n with
  | zero => intro i h1 h2; omega
  | succ n ih =>
   intro i hi1 hi2 hno
   refine Eq.mpr (H.L1 ..) ?_
   unfold iT.L1.T aJ
   simp only [aX, aP W.c71, add_eq, Nat.zero_add, hs.rl, aC, aR]
   rw [eO]
   split
   ·have hlt : i < x.l.length := by omega
    have hj := List.getElem?_eq_getElem hlt
    have hjj : x.l[i] = x.l[i] := rfl
    generalize hg : x.l[i] = j at hj
    obtain ⟨blk, hsa, _, hin, hrd⟩ := hs.job hj
    have lda : (aH PP w0).ld 33 ⟨blk, i * 6 + 4, none⟩ M1 = some (.agg #[.int .i64 j.at_, .int .i64 j.gen]) := c9 (cs := [.int .i64 j.at_, .int .i64 j.gen]) W.g33 (fun f v hf => by
     rw [add_eq]
     match f, hf with
     | 0, hf => exact hrd 4 _ hf
     | 1, hf => exact hrd 5 _ hf)
    simp only [hsa, aX, Int.toNat_natCast, add_eq, Nat.zero_add, lda, ldr, aC, a9, aU, aL, bU, aT, aAr]
    refine ⟨⟨by omega, by omega⟩, ?_⟩
    rw [aHi]
    refine ⟨fun he => ?_, fun he => ?_⟩
    ·simp only [Bool.and_eq_true, beq_iff_eq] at he
     have hf : atD x.l a g = some i := by
      unfold atD
      refine List.findIdx?_eq_some_iff_getElem.2 ⟨hlt, ?_, fun k hk => ?_⟩
      ·rw [hg]; simp [he.1, he.2]
      ·have hkl : k < x.l.length := by omega
       have := hno k hk _ (List.getElem?_eq_getElem hkl)
       simpa using this
     have := hR M1 l1
     rw [hf] at this
     exact this
    ·rw [cR (by omega)]
     refine ih (i + 1) (by omega) (by omega) fun k hk y hy => ?_
     by_cases hki : k = i
     ·subst hki
      rw [hj] at hy; cases hy
      intro hh
      simp [hh.1, hh.2] at he
     ·exact hno k (by omega) y hy
   ·have hii : i = x.l.length := by omega
    have hf : atD x.l a g = none := by
     unfold atD
     refine List.findIdx?_eq_none_iff.2 fun j hj => ?_
     obtain ⟨k, hk⟩ := List.getElem?_of_mem hj
     have := hno k (by have := (List.getElem?_eq_some_iff.1 hk).1; omega) j hk
     simpa using this
    have := hR M1 l1
    rw [hf] at this
    exact this
 exact ⟨_, key (x.l.length + 1) 0 (by omega) (by omega) (fun k hk => by omega)⟩
theorem aFH {q : Int} (h : aA w0 F M (star (eR d x) Q)) (hL : x.l.length ≤ 10000) (hR : R (.int .i64 (jA q x.l : Int)) M) :
  C PP w0 Id.dL #[.pointer (some ⟨d, 0, none⟩), .int .i64 q] R M := by
 apply dL.go
 intro aB H
 unfold dL.T aJ
 obtain ⟨p, s, hs⟩ := eR.open_ h
 have hn := hs.n
 have key : ∀ (n i : Nat), i ≤ x.l.length → x.l.length < i + n → dL.L1 aB n (some ⟨d, 0, none⟩) q ((jA q (x.l.take i) : Nat) : Int) (i : Int) M := by
  intro n
  induction n with
  | zero => intro i h1 h2; omega
  | succ n ih =>
   intro i hi1 hi2
   refine Eq.mpr (H.L1 ..) ?_
   unfold dL.L1.T aJ
   simp only [aX, aP W.c71, aP W.c3, add_eq, Nat.zero_add, hs.rl, aC, aR]
   rw [eO]
   split
   ·have hlt : i < x.l.length := by omega
    have hj := List.getElem?_eq_getElem hlt
    have htk : x.l.take (i + 1) = x.l.take i ++ [x.l[i]] := by rw [List.take_add_one, hj]; rfl
    generalize x.l[i] = j at hj htk
    obtain ⟨blk, hsa, _, hin, hrd⟩ := hs.job hj
    have eq : rd w0 M ⟨blk, i * 6, none⟩ = some (.int .i64 j.queue) := hrd 0 _ rfl
    simp only [hsa, aX, Int.toNat_natCast, add_eq, Nat.zero_add, eq, aC, aL]
    refine ⟨⟨by omega, by omega⟩, ?_⟩
    have hle : jA q (x.l.take i) ≤ x.l.length := Nat.le_trans List.countP_le_length (by rw [List.length_take]; omega)
    have hct : jA q (x.l.take (i + 1)) = jA q (x.l.take i) + (if j.queue = q then 1 else 0) := by
     rw [htk]; unfold jA
     rw [List.countP_append, List.countP_singleton]
     simp
    rw [eW, cR (i := i) (by omega), cR (by omega)]
    split
    ·rename_i hq
     rw [if_pos hq] at hct
     rw [← hct]
     exact ih (i + 1) (by omega) (by omega)
    ·rename_i hq
     rw [if_neg hq] at hct
     rw [show jA q (x.l.take i) = jA q (x.l.take (i + 1)) from by omega]
     exact ih (i + 1) (by omega) (by omega)
   ·have hii : i = x.l.length := by omega
    rw [hii, List.take_length]; exact hR
 exact ⟨_, key (x.l.length + 1) 0 (by omega) (by omega)⟩
def aEg : Option (Nat × cW) → Int
 | none => -1
 | some y => (y.1 : Int)
theorem aGc {q : Int} (h : aA w0 F M (star (eR d x) Q)) (hL : x.l.length ≤ 10000) (hR : ∀ M', Mem.le M M' → R (.int .i64 (aEg (pD x.l q))) M') :
  C PP w0 Id.cX #[.pointer (some ⟨d, 0, none⟩), .int .i64 q] R M := by
 apply cX.go
 intro aB H
 unfold cX.T aJ
 have key : ∀ (n i : Nat) (acc : Option (Nat × cW)) (M' : Mem), Mem.le M M' → i ≤ x.l.length → x.l.length < i + n → pD x.l q = sE q i (x.l.drop i) acc → (∀ y, acc = some y → ∃ j, x.l[y.1]? = some j ∧ y.2 = j.e) →
   cX.L1 aB n (some ⟨d, 0, none⟩) q (aEg acc) (i : Int) M' := by
  intro n
  induction n with
  | zero => intro i acc M' _ h1 h2; omega
  | succ n ih =>
   intro i acc M' hle hi1 hi2 hfi hac
   refine Eq.mpr (H.L1 ..) ?_
   unfold cX.L1.T aJ
   obtain ⟨p, s, hs⟩ := eR.open_ (h.le hle)
   have hn := hs.n
   simp only [aX, aP W.c71, aP W.c3, add_eq, Nat.zero_add, hs.rl, aC, aR]
   rw [eO]
   split
   ·have hlt : i < x.l.length := by omega
    have hj := List.getElem?_eq_getElem hlt
    have hdr : x.l.drop i = x.l[i] :: x.l.drop (i + 1) := List.drop_eq_getElem_cons hlt
    rw [hdr] at hfi
    generalize x.l[i] = j at hj hfi
    rw [sE] at hfi
    obtain ⟨blk, hsa, _, hin, hrd⟩ := hs.job hj
    have eq : rd w0 M' ⟨blk, i * 6, none⟩ = some (.int .i64 j.queue) := hrd 0 _ rfl
    have ldE : ∀ {i : Nat} {j : Jb}, x.l[i]? = some j → (aH PP w0).ld 44 ⟨blk, i * 6 + 2, none⟩ M' = some (.agg #[.int .i64 j.key, .int .i64 j.ser]) := fun {i j} hj => by
     obtain ⟨blk', hsa', _, _, hrd⟩ := hs.job hj
     rw [hsa] at hsa'; cases hsa'
     exact c9 (cs := [.int .i64 j.key, .int .i64 j.ser]) W.g44 (fun f v hf => by
      rw [add_eq]
      match f, hf with
      | 0, hf => exact hrd 2 _ hf
      | 1, hf => exact hrd 3 _ hf)
    simp only [hsa, aX, Int.toNat_natCast, add_eq, Nat.zero_add, eq, aC, aL]
    have hbd : 0 ≤ (i : Int) ∧ (i : Int) < ((s.n : Nat) : Int) := ⟨by omega, by omega⟩
    refine ⟨hbd, ?_⟩
    rw [cR (by omega), eW]
    have take : (j.queue = q ∧ aDe acc j.e = true) → ∀ M2, Mem.le M M2 → cX.L1 aB n (some ⟨d, 0, none⟩) q (i : Int) ((i + 1 : Nat) : Int) M2 := fun hc M2 l2 => by
     rw [if_pos hc] at hfi
     exact ih (i + 1) (some (i, j.e)) M2 l2 (by omega) (by omega) hfi (fun y hy => by cases hy; exact ⟨j, hj, rfl⟩)
    have skip : ¬ (j.queue = q ∧ aDe acc j.e = true) → ∀ M2, Mem.le M M2 → cX.L1 aB n (some ⟨d, 0, none⟩) q (aEg acc) ((i + 1 : Nat) : Int) M2 := fun hc M2 l2 => by
     rw [if_neg hc] at hfi
     exact ih (i + 1) acc M2 l2 (by omega) (by omega) hfi hac
    split
    ·rename_i hq
     rw [eO]
     cases acc with
     | none =>
      rw [if_pos (show aEg none < 0 by decide)]
      exact take ⟨hq, rfl⟩ M' hle
     | some y =>
      obtain ⟨j2, hj2, hye⟩ := hac y rfl
      obtain ⟨y1, y2⟩ := y
      simp only at hj2 hye
      subst hye
      have hy1 := (List.getElem?_eq_some_iff.1 hj2).1
      have hacc : aEg (some (y1, j2.e)) = (y1 : Int) := rfl
      rw [if_neg (by rw [hacc]; omega)]
      simp only [hacc, Int.toNat_natCast, ldE hj, ldE hj2, aC, a9, aU, aL, aT]
      refine ⟨hbd, ⟨by omega, by omega⟩, ?_⟩
      refine aA5 (a := j.e) (b := j2.e) fun M2 l2 => ?_
      rw [bU, eO]
      split
      ·rename_i hlt2
       exact take ⟨hq, by simp only [aDe, decide_eq_true_eq]; exact hlt2⟩ M2 (Mem.le_trans hle l2)
      ·rename_i hlt2
       exact skip (fun hh => hlt2 (by have := hh.2; simp only [aDe, decide_eq_true_eq] at this; exact this)) M2 (Mem.le_trans hle l2)
    ·rename_i hq
     exact skip (fun hh => hq hh.1) M' hle
   ·have hii : i = x.l.length := by omega
    rw [hii, List.drop_length] at hfi
    have := hR M' hle
    rw [hfi] at this
    exact this
 exact ⟨_, key (x.l.length + 1) 0 none M (Mem.le_refl _) (by omega) (by omega) rfl (fun y hy => by cases hy)⟩
end
end
end HL
namespace HL
section
variable {w0 : World} {F M : Mem} {R : VP} {os : uX} {t bh bi ma : Nat} {hp ip : PS V3} {Q : cY}
theorem aFp {a g c : Int} {v : V3} {oa : Obj} {m : Int → Option dG} {x : Nat} (oT : cM w0 F t (wS bh bi ma) wN) (h : HO w0 F M ((ma, oa) :: os) (star (wP bh hp) (star (q9 bi ip) Q))) (hb : hp.l.length ≤ 100000) (hw : hp.find a g = some v)
  (hok : ip.Ok) (hbi : ip.l.length ≤ 10000) (hfb : ip.free.length ≤ 10000) (hlen : ip.free.length ≤ ip.l.length) (hgi : ∀ x ∈ ip.l, 0 ≤ x.g ∧ x.g ≤ 1000000) (hat : ip.at_ = some x) (hroom : ((ip.l.length - ip.free.length : Nat) : Int) ≠ ip.most) (hf : dF (Value.int .i64) bX m oa) (hno : m c = none)
  (hK : ∀ M' oa', dF (Value.int .i64) bX (fT m c (some ((x : Int), ip.gen x))) oa' → HO w0 F M' ((ma, oa') :: os) (star (wP bh hp) (star (q9 bi (ip.take z3 x (c, a, g))) Q)) → R (.tuple #[.agg #[.int .i64 (x : Int), .int .i64 (ip.gen x)], .int .i64 0]) M') :
  C PP w0 Id.qM #[.pointer (some ⟨t, 0, none⟩), .agg #[.int .i64 a, .int .i64 g], .int .i64 c] R M := by
 apply qM.go
 unfold qM.T aJ
 refine rQ h fun b1 F1 M1 l1 lm1 o1 h1 => ?_
 have oT1 := oT.le l1
 refine jI h1 fun b3 M1' l1' h1' => ?_
 simp only [aX, Tb0 oT1 h1'.fr, aC, bK, fB aZ (o1.le h1'.fr), a9, aU, aL, aT]
 obtain ⟨inf, hi, hz, _⟩ := W.e33
 refine ⟨?_, ?_⟩
 rotate_left
 refine jI h1' fun b2 M2 l2 h2 => ?_
 refine ⟨Tb0 oT1 h2.fr, fB aZ (o1.le h2.fr), ?_⟩
 refine w6 h2.h.right.right hb hw fun M3 l3 => ?_
 simp only [cA, aU, a9, aL, aT]
 refine vY u7 (by rfl) sX (h2.le l3) fun F2 M4 l4 o4 h4 => ?_
 rotate_left
 refine w6 h1'.h.right hb hw fun M3 l3 => ?_
 simp only [cA, aU, a9, aL, aT]
 refine j9 u7 (by rfl) sX (h1'.le l3) fun b2 F2 M4 l4 o4 h4 => ?_
 all_goals
  rw [cD, if_pos rfl]
  have oT2 := oT1.le l4
  have hlk := (lkF (k := c) Tryz.underlying154 aAd hi hz (h4.get List.mem_cons_self).1 (h4.get List.mem_cons_self).2 hf).2
  rw [hno] at hlk
  simp only [Option.map_none, Option.getD_none, Option.isSome_none] at hlk
  simp only [aX, add_eq, Nat.zero_add, Tb2 oT2 h4.fr, aC, hlk, cA, aU, a9, aL, bU, aT]
  refine j9 aZ (by rfl) iL h4 fun b6 F3 M5 l5 o5 h5 => ?_
  have oT3 := oT2.le l5
  simp only [aX, add_eq, Nat.zero_add, Tb1 oT3 h5.fr, aC, bK]
  refine aEL h5.h.right.right (by omega) hlen ?_
  rw [aL]
  refine ⟨Tb1 oT3 h5.fr, ?_⟩
  refine aDT h5.h.right.right ?_
  rw [aL, eW, if_neg hroom, mT]
  have o1' := o1.le (Mem.le_trans l4 l5)
  simp only [aX, add_eq, Nat.zero_add, Tb1 oT3 h5.fr, aC, bK, fB aZ (o1'.le h5.fr), a9, aU, aL, aT]
  have hbld : (aH PP w0).nM 153 [(0, .int .i64 c), (1, .agg #[.int .i64 a, .int .i64 g])] = some (.agg #[.int .i64 c, .int .i64 a, .int .i64 g]) := by kernel_rfl
  simp only [hbld, aC, a9, aU, aL, aT]
  refine ⟨?_, ?_⟩
  rotate_left
  refine jI h5 fun b7 M6 l6 h6 => ?_
  refine ⟨Tb1 oT3 h6.fr, fB aZ (o1'.le h6.fr), ?_⟩
  obtain ⟨F4, hB, l7, back⟩ := h6.aJ5
  refine aC7 (v := (c, a, g)) hB hok hbi hfb hgi hat fun M7 hC => ?_
  have h7 := back M7 _ hC
  simp only [cA, aU, a9, aL, bU, aT]
  refine vY aZ (by rfl) iL h7 fun F5 M8 l8 o8 h8 => ?_
  rotate_left
  obtain ⟨F4, hB, l7, back⟩ := h5.aKG
  refine aC7 (v := (c, a, g)) hB hok hbi hfb hgi hat fun M7 hC => ?_
  have h7 := back M7 _ hC
  simp only [cA, aU, a9, aL, bU, aT]
  refine j9 aZ (by rfl) iL h7 fun b7 F5 M8 l8 o8 h8 => ?_
  all_goals
   simp only [aX, add_eq, Nat.zero_add, Tb2 (oT3.le l8) h8.fr, aC, fB aZ (o8.le h8.fr), a9, aU, aL, aT]
   obtain ⟨g1, g2⟩ := h8.get List.mem_cons_self
   refine aF2 (kf := Value.int .i64) (vf := bX) (k := c) (v := ((x : Int), ip.gen x)) Tryz.underlying154 aAd g1 g2 hf fun oa' hf' => ?_
   have h9 := h8.set (o' := oa')
   generalize Mem.set M8 ma _ = M9 at h9 ⊢
   simp only [fB aZ (o8.le h9.fr), aC, a9, aU, aL, aT]
   refine jJ (K := fun v M => R (.tuple #[v, .int .i64 0]) M) aZ (by rfl) iL h9 fun M10 h10 => ?_
   exact hK M10 oa' hf' ((((h10.fJ l8).fJ l5).fJ l4).fJ l1)
theorem aDB {k : Int} {x : Nat} (oT : cM w0 F t (wS bh bi ma) wN) (h : HO w0 F M os (star (wP bh hp) Q)) (hk : 1 ≤ k ∧ k ≤ 5) (hok : hp.Ok) (hb : hp.l.length ≤ 10000) (hfb : hp.free.length ≤ 10000) (hg : ∀ x ∈ hp.l, 0 ≤ x.g ∧ x.g ≤ 1000000) (hat : hp.at_ = some x)
  (hK : ∀ M', HO w0 F M' os (star (wP bh (hp.take z3 x (k, -1, 0))) Q) → R (.tuple #[.agg #[.int .i64 (x : Int), .int .i64 (hp.gen x)], .int .i64 0]) M') :
  C PP w0 Id.oC #[.pointer (some ⟨t, 0, none⟩), .int .i64 k] R M := by
 apply oC.go
 unfold oC.T aJ
 refine jI h fun b1 M1 l1 h1 => ?_
 refine aBQ ?_
 rw [bU, decide_eq_true hk, Bool.not_true, mT]
 have hbld : (aH PP w0).nM 149 [(0, .int .i64 k), (1, .int .i64 (-1))] = some (.agg #[.int .i64 k, .int .i64 (-1), .int .i64 0]) := by kernel_rfl
 simp only [aX, Tb0 oT h1.fr, aC, bK, hbld, a9, aU, aL, aT]
 obtain ⟨F2, hB, l2, back⟩ := h1.aAG
 refine aGu (v := (k, -1, 0)) hB hok hb hfb hg hat fun M2 hC => ?_
 have h2 := back M2 _ hC
 simp only [cA, aU, a9, aL, bU, aT]
 refine j9 aZ (by rfl) iL h2 fun b3 F3 M3 l3 o3 h3 => ?_
 rw [Bool.not_true, mT]
 simp only [fB aZ (o3.le h3.fr), aC, a9, aU, aL, aT]
 refine jJ (K := fun v M => R (.tuple #[v, .int .i64 0]) M) aZ (by rfl) iL h3 fun M5 h5 => ?_
 exact hK M5 (h5.fJ l3)
def oM (ip : PS V3) (a g : Int) : List cW := ip.refs.filter fun r => match ip.find r.1 r.2 with
 | some v => decide (v.2.1 = a ∧ v.2.2 = g)
 | none => false
theorem aBt {ip : PS V3} (hg : ∀ x ∈ ip.l, 0 ≤ x.g ∧ x.g ≤ 1000000) (hg1 : ∀ x ∈ ip.l, x.t = true → 1 ≤ x.g) {r : cW} (hr : r ∈ ip.refs) : ∃ v, ip.find r.1 r.2 = some v := by
 obtain ⟨j, x, h1, h2, rfl⟩ := qL.1 hr
 refine ⟨x.v, ?_⟩
 simp only [Nat.zero_add]
 refine PS.jS (v := x.v) ?_ (hg1 x (List.mem_of_getElem? h1) h2)
 rw [h1, ← h2]
theorem aGs {a g : Int} (oT : cM w0 F t (wS bh bi ma) wN) (h : HO w0 F M os (star (q9 bi ip) Q)) (hb : ip.l.length ≤ 10000) (hg : ∀ x ∈ ip.l, 0 ≤ x.g ∧ x.g ≤ 1000000) (hg1 : ∀ x ∈ ip.l, x.t = true → 1 ≤ x.g)
  (hK : ∀ M' s', HO w0 F M' os (star (Es s' (oM ip a g)) (star (q9 bi ip) Q)) → R s'.v M') :
  C PP w0 Id.fP #[.pointer (some ⟨t, 0, none⟩), .agg #[.int .i64 a, .int .i64 g]] R M := by
 apply fP.go
 intro aB H
 unfold fP.T aJ
 refine rQ h fun b1 F1 M1 l1 lm1 o1 h1 => ?_
 have oT1 := oT.le l1
 simp only [aX, add_eq, Nat.zero_add, Tb1 oT1 h1.fr, aC, bK]
 obtain ⟨F2, hB, l2, back⟩ := h1.xJ
 refine aJd hB (by omega) fun M2 s2 lm2 h2 => ?_
 rw [aR]
 have h2' := back M2 _ h2
 have hrl := pE ip.l 0
 change (ip.refs).length ≤ _ at hrl
 have hsn := h2.xS.len
 have key : ∀ (B A : List cW) (s : SV) (F3 M3 : Mem) (k : Nat), ip.refs = A ++ B → Mem.le F1 F3 → HO w0 F3 M3 os (star (Es s2 ip.refs) (star (Es s (A.filter fun r => match ip.find r.1 r.2 with
   | some v => decide (v.2.1 = a ∧ v.2.2 = g)
   | none => false)) (star (q9 bi ip) Q))) → B.length < k → fP.L1 aB k (some ⟨t, 0, none⟩) ⟨b1, 0, none⟩ s s2 ((s2.n : Nat) : Int) (A.length : Int) M3 := by
  intro B
  induction B with
  | nil =>
   intro A s F3 M3 k he l3 h3 hk
   obtain ⟨k, rfl⟩ : ∃ j, k = j + 1 := ⟨k - 1, by omega⟩
   rw [List.append_nil] at he
   refine Eq.mpr (H.L1 ..) ?_
   unfold fP.L1.T aJ
   rw [eO, if_neg (by rw [hsn, he]; omega)]
   rw [← he] at h3
   exact hK M3 s (((h3.aW fun h => h.right).fJ l3).fJ l1)
  | cons r B ih =>
   intro A s F3 M3 k he l3 h3 hk
   obtain ⟨k, rfl⟩ : ∃ j, k = j + 1 := ⟨k - 1, by omega⟩
   have ll := congrArg List.length he
   simp only [List.length_append, List.length_cons] at ll hk
   have hget : (ip.refs)[A.length]? = some r := by rw [he]; simp
   obtain ⟨v, hv⟩ := aBt hg hg1 (show r ∈ ip.refs by rw [he]; simp)
   refine Eq.mpr (H.L1 ..) ?_
   unfold fP.L1.T aJ
   rw [eO, if_pos (by omega)]
   refine aFM (x := r) h3.h.xS (Mem.le_refl _) A.length rfl hget ?_
   refine j9 aZ (by rfl) iL h3 fun b4 F4 M4 l4 o4 h4 => ?_
   have oT4 := (oT1.le l3).le l4
   simp only [aX, add_eq, Nat.zero_add, Tb1 oT4 h4.fr, aC, bK, fB aZ (o4.le h4.fr), a9, aU, aL, aT]
   have hGA : ∀ {M' : Mem} {X : cY}, HO w0 F4 M' os (star (Es s2 ip.refs) (star X (star (q9 bi ip) Q))) → aA w0 F4 M' (star (q9 bi ip) Q) := fun h => h.h.right.right
   have o1' := o1.le (Mem.le_trans l3 l4)
   have nxt : ∀ (F6 M6 : Mem) (s6 : SV), Mem.le F1 F6 → HO w0 F6 M6 os (star (Es s2 ip.refs) (star (Es s6 ((A ++ [r]).filter fun r => match ip.find r.1 r.2 with
     | some v => decide (v.2.1 = a ∧ v.2.2 = g)
     | none => false)) (star (q9 bi ip) Q))) → fP.L1 aB k (some ⟨t, 0, none⟩) ⟨b1, 0, none⟩ s6 s2 ((s2.n : Nat) : Int) (p4 ((A.length : Int) + 1)) M6 := by
    intro F6 M6 s6 l6 h6
    rw [cR (by omega)]
    have := ih (A ++ [r]) s6 F6 M6 k (by rw [he]; simp) l6 h6 (by omega)
    rw [List.length_append, List.length_singleton] at this
    exact this
   refine ⟨?_, ?_⟩
   rotate_left
   refine jI h4 fun b5 M5 l5 h5 => ?_
   refine ⟨Tb1 oT4 h5.fr, fB aZ (o4.le h5.fr), ?_⟩
   refine zK h5.h.right.right.right (by omega) hv fun M6 l6 => ?_
   simp only [cA, aU, a9, aL, aT]
   refine vY rD (by rfl) sX (h5.le l6) fun F7 M7 l7 o7 h7 => ?_
   rotate_left
   refine zK (hGA h4) (by omega) hv fun M6 l6 => ?_
   simp only [cA, aU, a9, aL, aT]
   refine j9 rD (by rfl) sX (h4.le l6) fun b5 F7 M7 l7 o7 h7 => ?_
   all_goals
    simp only [add_eq, Nat.zero_add, kE (o := 1) (vs := [.int .i64 v.2.1, .int .i64 v.2.2]) aZ (o7.le h7.fr) (fun j u hj => by rw [Nat.add_comm]; exact hj), fB aZ ((o1'.le l7).le h7.fr), aC, a9, aU, aL, aT, aAr, bU]
    have lF : Mem.le F1 F7 := Mem.le_trans l3 (Mem.le_trans l4 l7)
    by_cases hc : v.2.1 = a ∧ v.2.2 = g
    ·rw [show (v.2.1 == a && v.2.2 == g) = true from by simp [hc.1, hc.2], dU]
     simp only [fB aZ ((o4.le l7).le h7.fr), aC, a9, aU, aL, aT]
     obtain ⟨F8, hB8, l8, back8⟩ := h7.aAG
     refine aE3 hB8 _ _ fun M8 s8 l9 h8 => ?_
     rw [aR]
     have hfl := List.length_filter_le (fun r : cW => match ip.find r.1 r.2 with
      | some v => decide (v.2.1 = a ∧ v.2.2 = g)
      | none => false) A
     refine aE0 h8.dT h8.xS (by simp only [List.length_singleton]; omega) fun M9 s9 h9 => ?_
     rw [aR]
     refine nxt F7 M9 s9 lF (back8 _ _ ?_)
     have e9 : (A ++ [r]).filter (fun r => match ip.find r.1 r.2 with
       | some v => decide (v.2.1 = a ∧ v.2.2 = g)
       | none => false) = (A.filter fun r => match ip.find r.1 r.2 with
       | some v => decide (v.2.1 = a ∧ v.2.2 = g)
       | none => false) ++ [r] := by
      rw [List.filter_append]
      congr 1
      rw [List.filter_cons_of_pos]
      ·rfl
      ·simp only [hv]; exact decide_eq_true hc
     rw [e9]
     exact h9.dT.right
    ·rw [show (v.2.1 == a && v.2.2 == g) = false from by
      rw [Bool.eq_false_iff]
      intro h9
      simp only [Bool.and_eq_true, beq_iff_eq] at h9
      exact hc h9, mT]
     refine nxt F7 M7 s lF ?_
     have e9 : (A ++ [r]).filter (fun r => match ip.find r.1 r.2 with
       | some v => decide (v.2.1 = a ∧ v.2.2 = g)
       | none => false) = (A.filter fun r => match ip.find r.1 r.2 with
       | some v => decide (v.2.1 = a ∧ v.2.2 = g)
       | none => false) := by
      rw [List.filter_append]
      conv => rhs; rw [← List.append_nil (A.filter _)]
      congr 1
      rw [List.filter_cons_of_neg]
      ·rfl
      ·simp only [hv]; simp [hc]
     rw [e9]
     exact h7
 refine ⟨ip.refs.length + 1, key ip.refs [] ⟨none, 0, 0⟩ F1 M2 _ rfl (Mem.le_refl _) ?_ (by omega)⟩
 obtain ⟨F3, hB3, l3, lO⟩ := h2'.aAG
 exact lO _ _ (aA.pB hB3)
end
end HL
namespace HL
def reh (ip : PS V3) (A : List cW) (a g : Int) : PS V3 := { ip with l := ip.l.mapIdx fun j x => if ((j : Int), x.g) ∈ A then { x with v := (x.v.1, a, g) } else x }
theorem tP (ip : PS V3) (A : List cW) (a g : Int) (j : Nat) : (reh ip A a g).l[j]? = (ip.l[j]?).map fun x => if ((j : Int), x.g) ∈ A then { x with v := (x.v.1, a, g) } else x := by
 unfold reh
 rw [List.getElem?_mapIdx]
theorem aCt (ip : PS V3) (A : List cW) (a g : Int) : (reh ip A a g).l.length = ip.l.length := by unfold reh; simp
theorem aIj (ip : PS V3) (a g : Int) : reh ip [] a g = ip := by
 unfold reh
 have : (ip.l.mapIdx fun j x => if ((j : Int), x.g) ∈ ([] : List cW) then { x with v := (x.v.1, a, g) } else x) = ip.l := by
  apply List.ext_getElem?
  intro j
  rw [List.getElem?_mapIdx]
  simp
 rw [this]
theorem aCS {ip : PS V3} {A : List cW} {a g b k : Int} {v : V3} (h : ip.find b k = some v) : (reh ip A a g).find b k = some (if (b, k) ∈ A then (v.1, a, g) else v) := by
 obtain ⟨j, rfl, hj, hk⟩ := PS.bH h
 refine PS.jS ?_ hk
 rw [tP, hj, Option.map_some]
 by_cases hc : ((j : Int), k) ∈ A
 ·rw [if_pos hc, if_pos hc]
 ·rw [if_neg hc, if_neg hc]
theorem aET {ip : PS V3} {A : List cW} {a g : Int} {x : rO V3} (h : x ∈ (reh ip A a g).l) : ∃ y ∈ ip.l, x.g = y.g ∧ x.t = y.t := by
 obtain ⟨j, hj⟩ := List.getElem?_of_mem h
 rw [tP] at hj
 cases hy : ip.l[j]? with
 | none => rw [hy] at hj; cases hj
 | some y =>
  rw [hy, Option.map_some] at hj
  refine ⟨y, List.mem_of_getElem? hy, ?_⟩
  split at hj <;> (cases hj; exact ⟨rfl, rfl⟩)
theorem aKL {ip : PS V3} {A : List cW} {a g : Int} (h : ip.Ok) : (reh ip A a g).Ok := by
 refine ⟨h.nd, fun b hb => ?_⟩
 obtain ⟨x, hx, ht⟩ := h.fr b hb
 rw [tP, hx, Option.map_some]
 refine ⟨_, rfl, ?_⟩
 split
 ·exact ht
 ·exact ht
theorem aJR (ip : PS V3) (A : List cW) (a g : Int) : (reh ip A a g).pl = ip.pl := by
 have key : ∀ {β : Type} (f : rO V3 → β), (∀ x v, f { x with v := v } = f x) → (reh ip A a g).l.map f = ip.l.map f := by
  intro β f hf
  apply List.ext_getElem?
  intro j
  rw [List.getElem?_map, List.getElem?_map, tP]
  cases ip.l[j]? with
  | none => rfl
  | some x =>
   simp only [Option.map_some]
   split
   ·rw [hf]
   ·rfl
 unfold PS.pl
 rw [key (·.g) (fun _ _ => rfl), key (·.t) (fun _ _ => rfl), key (fun _ => (0 : Int)) (fun _ _ => rfl)]
 rfl
theorem yC {κ : Type} : ∀ (l : List (rO κ)) (i : Nat), (jC i l).Pairwise fun a b => a.1 < b.1
 | [], i => List.Pairwise.nil
 | x :: l, i => by
  have ih := yC l (i + 1)
  simp only [jC]
  split
  ·refine List.pairwise_cons.2 ⟨fun r hr => ?_, ih⟩
   obtain ⟨j, y, _, _, rfl⟩ := qL.1 hr
   show (i : Int) < ((i + 1 + j : Nat) : Int)
   omega
  ·exact ih
section
variable {w0 : World} {F M : Mem} {R : VP} {os : uX} {t bh bi ma : Nat} {hp ip : PS V3} {Q : cY}
theorem aGm {A : cY} {b o : Nat} {cs vs : List Value} {T T' : TypeId} (hg : gM PP T vs.length = true) (ho : o + vs.length ≤ cs.length) (hone : ∀ v ∈ vs, bQ v = true) (h : HO w0 F M os (star (aY b cs T') A)) {K : Mem → Prop} (hK : ∀ M', HO w0 F M' os (star (aY b (eH cs o vs) T') A) → K M') :
  (aH PP w0).st T ⟨b, o, none⟩ (.agg vs.toArray) (fun M2 => K M2) M :=
 gZ hg h.h.bA ho hone (hK _ h.aBZ)
theorem aGW {k a g b c : Int} {r1 n1 r2 n2 : Int} (oT : cM w0 F t (wS bh bi ma) wN) (h : HO w0 F M os (star (wP bh hp) (star (q9 bi ip) Q))) (hb : hp.l.length ≤ 10000) (hfb : hp.free.length ≤ 10000) (hw : hp.find a g = some (k, r1, n1)) (hw2 : hp.find b c = some (k, r2, n2)) (eE : ¬ (a = b ∧ g = c))
  (hbi : ip.l.length ≤ 10000) (hgi : ∀ x ∈ ip.l, 0 ≤ x.g ∧ x.g ≤ 1000000) (hg1 : ∀ x ∈ ip.l, x.t = true → 1 ≤ x.g)
  (hK : ∀ M', HO w0 F M' os (star (wP bh (hp.fZ z3 b.toNat)) (star (q9 bi (reh ip (oM ip b c) a g)) Q)) → R (.int .i64 0) M') :
  C PP w0 Id.fX #[.pointer (some ⟨t, 0, none⟩), .agg #[.int .i64 a, .int .i64 g], .agg #[.int .i64 b, .int .i64 c]] R M := by
 apply fX.go
 intro aB H
 unfold fX.T aJ
 refine rQ h fun b1 F1 M1 l1 lm1 o1 h1 => ?_
 refine rQ h1 fun b3 F2 M2 l2 lm2 o3 h2 => ?_
 have oT2 := (oT.le l1).le l2
 have o1' := o1.le l2
 have hrn := yC ip.l 0
 change (ip.refs).Pairwise _ at hrn
 have hof : (oM ip b c).Pairwise fun x y => x.1 < y.1 := List.Pairwise.filter _ hrn
 have hofl : (oM ip b c).length ≤ 10000 := Nat.le_trans (List.length_filter_le _ _) (Nat.le_trans (pE ip.l 0) hbi)
 have key : ∀ (B A : List cW) (s : SV) (F3 M3 : Mem) (kk : Nat), oM ip b c = A ++ B → Mem.le F2 F3 → HO w0 F3 M3 os (star (Es s (oM ip b c)) (star (wP bh hp) (star (q9 bi (reh ip A a g)) Q))) → B.length < kk → fX.L1 aB kk (some ⟨t, 0, none⟩) ⟨b1, 0, none⟩ ⟨b3, 0, none⟩ s ((s.n : Nat) : Int) (A.length : Int) M3 := by
  intro B
  induction B with
  | nil =>
   intro A s F3 M3 kk he l3 h3 hk
   obtain ⟨kk, rfl⟩ : ∃ j, kk = j + 1 := ⟨kk - 1, by omega⟩
   rw [List.append_nil] at he
   have hsn := h3.h.xS.len
   refine Eq.mpr (H.L1 ..) ?_
   unfold fX.L1.T aJ
   rw [eO, if_neg (by rw [hsn, he]; omega)]
   simp only [aX, Tb0 (oT2.le l3) h3.fr, fB aZ ((o3.le l3).le h3.fr), aC, bK, a9, aU, aL, aT]
   obtain ⟨F4, hB, l4, back⟩ := h3.aAG
   refine aH4 hB hb hfb hw2 fun M4 hC => ?_
   have h4 := back M4 _ hC
   simp only [cA, a9, aU, aL, aT]
   rw [← he] at h4
   exact hK M4 ((((h4.aW fun h => h.right).fJ l3).fJ l2).fJ l1)
  | cons r B ih =>
   intro A s F3 M3 kk he l3 h3 hk
   obtain ⟨kk, rfl⟩ : ∃ j, kk = j + 1 := ⟨kk - 1, by omega⟩
   have ll := congrArg List.length he
   simp only [List.length_append, List.length_cons] at ll hk
   have hsn := h3.h.xS.len
   have hget : (oM ip b c)[A.length]? = some r := by rw [he]; simp
   have hrm : r ∈ oM ip b c := by rw [he]; simp
   obtain ⟨v, hv⟩ := aBt hgi hg1 (List.mem_filter.1 hrm).1
   have hrA : ∀ x ∈ A, x.1 < r.1 := fun x hx => by
    rw [he] at hof
    exact (List.pairwise_append.1 hof).2.2 x hx r List.mem_cons_self
   have hrnA : (r.1, r.2) ∉ A := fun hm => by have := hrA _ hm; simp only at this; omega
   have hvA : (reh ip A a g).find r.1 r.2 = some v := by rw [aCS hv, if_neg hrnA]
   have hlA : (reh ip A a g).l.length ≤ 100000 := by rw [aCt]; omega
   refine Eq.mpr (H.L1 ..) ?_
   unfold fX.L1.T aJ
   rw [eO, if_pos (by omega)]
   refine aFM (x := r) h3.h.xS (Mem.le_refl _) A.length rfl hget ?_
   refine j9 aZ (by rfl) iL h3 fun b4 F4 M4 l4 o4 h4 => ?_
   have oT4 := (oT2.le l3).le l4
   have o1'' := (o1'.le l3).le l4
   simp only [aX, add_eq, Nat.zero_add, Tb1 oT4 h4.fr, aC, bK, fB aZ (o4.le h4.fr), a9, aU, aL, aT]
   refine ⟨?_, ?_⟩
   rotate_left
   refine jI h4 fun b5 M5 l5 h5 => ?_
   refine ⟨Tb1 oT4 h5.fr, fB aZ (o4.le h5.fr), ?_⟩
   refine zK h5.h.right.right.right hlA hvA fun M6 l6 => ?_
   simp only [cA, aU, a9, aL, aT]
   refine stW rD (by rfl) sX (h5.le l6) fun M7 h7 => ?_
   rotate_left
   refine zK h4.h.right.right hlA hvA fun M6 l6 => ?_
   simp only [cA, aU, a9, aL, aT]
   refine jI (h4.le l6) fun b5 M5 l5 h5 => ?_
   refine stW rD (by rfl) sX h5 fun M7 h7 => ?_
   all_goals
    simp only [fB aZ (o1''.le h7.fr), add_eq, Nat.zero_add, aC, a9, aU, aL, aT]
    refine aGm (o := 1) aZ (by exact Nat.le_refl _) iL h7 fun M8 h8 => ?_
    have hov : eH [.int .i64 v.1, .int .i64 v.2.1, .int .i64 v.2.2] 1 [.int .i64 a, .int .i64 g] = [.int .i64 v.1, .int .i64 a, .int .i64 g] := by
     have := eM [.int .i64 v.1] [.int .i64 v.2.1, .int .i64 v.2.2] [] [.int .i64 a, .int .i64 g] rfl (o := 1) rfl
     simpa using this
    rw [hov] at h8
    simp only [aX, Tb1 oT4 h8.fr, fB aZ (o4.le h8.fr), fB rD h8.h.bA, aC, bK, a9, aU, aL, aT]
    obtain ⟨F9, hB9, l9, back9⟩ := h8.aJ5
    refine aIG (v := (v.1, a, g)) hB9 hlA hvA fun M9 hC9 => ?_
    rw [aL, cR (by omega)]
    have h9 := back9 M9 _ hC9
    have hput : (reh ip A a g).put r.1.toNat (v.1, a, g) = reh ip (A ++ [r]) a g := by
     obtain ⟨j, hj, hjl, hj1⟩ := PS.bH hv
     obtain ⟨j2, hj2, hjl2, _⟩ := PS.bH hvA
     have hjj : r.1.toNat = j := by rw [hj]; exact Int.toNat_natCast j
     have hj22 : j2 = j := by omega
     subst hj22
     unfold PS.put
     rw [hjj, hjl2]
     show ({ reh ip A a g with l := (reh ip A a g).l.set j2 ⟨r.2, true, (v.1, a, g)⟩ } : PS V3) = _
     have hl : (reh ip A a g).l.set j2 ⟨r.2, true, (v.1, a, g)⟩ = (reh ip (A ++ [r]) a g).l := by
      apply List.ext_getElem?
      intro i
      by_cases hi : j2 = i
      ·subst hi
       rw [List.getElem?_set_self (List.getElem?_eq_some_iff.1 hjl2).1, tP, hjl, Option.map_some, if_pos (by
        have : ((j2 : Int), r.2) = r := Prod.ext hj.symm rfl
        rw [this]; simp)]
      ·rw [List.getElem?_set_ne hi, tP, tP]
       cases hx : ip.l[i]? with
       | none => rfl
       | some x =>
        simp only [Option.map_some]
        have : ((i : Int), x.g) ∈ A ++ [r] ↔ ((i : Int), x.g) ∈ A := by
         rw [List.mem_append, List.mem_singleton]
         constructor
         ·rintro (h | h)
          ·exact h
          ·have := congrArg Prod.fst h
           simp only at this
           omega
         ·exact .inl
        by_cases hc : ((i : Int), x.g) ∈ A
        ·rw [if_pos hc, if_pos (this.2 hc)]
        ·rw [if_neg hc, if_neg (fun h => hc (this.1 h))]
     rw [hl]; rfl
    rw [hput] at h9
    have := ih (A ++ [r]) s F4 M9 kk (by rw [he]; simp) (Mem.le_trans l3 l4) (h9.aW fun h => h.right) (by omega)
    rw [List.length_append, List.length_singleton] at this
    exact this
 simp only [aX, Tb0 oT2 h2.fr, aC, bK, fB aZ (o1'.le h2.fr), a9, aU, aL, aT]
 refine ⟨?_, ?_⟩
 rotate_left
 refine jI h2 fun b4 M4 l4 h4 => ?_
 refine ⟨Tb0 oT2 h4.fr, fB aZ (o1'.le h4.fr), ?_⟩
 refine w6 h4.h.right (by omega) hw fun M5 l5 => ?_
 simp only [cA, aU, a9, aL, aT]
 refine vY u7 (by rfl) sX (h4.le l5) fun F6 M6 l6 o6 h6 => ?_
 rotate_left
 refine w6 h2.h (by omega) hw fun M5 l5 => ?_
 simp only [cA, aU, a9, aL, aT]
 refine j9 u7 (by rfl) sX (h2.le l5) fun b4 F6 M6 l6 o6 h6 => ?_
 all_goals
  rw [cD, if_pos rfl]
  have oT6 := oT2.le l6
  have o1x := o1'.le l6
  have o3x := o3.le l6
  simp only [aX, Tb0 oT6 h6.fr, aC, bK, fB aZ (o3x.le h6.fr), a9, aU, aL, aT]
  refine ⟨?_, ?_⟩
  rotate_left
  refine jI h6 fun b7 M7 l7 h7 => ?_
  refine ⟨Tb0 oT6 h7.fr, fB aZ (o3x.le h7.fr), ?_⟩
  refine w6 h7.h.right (by omega) hw2 fun M8 l8 => ?_
  simp only [cA, aU, a9, aL, aT]
  refine vY u7 (by rfl) sX (h7.le l8) fun F9 M9 l9 o9 h9 => ?_
  rotate_left
  refine w6 h6.h (by omega) hw2 fun M8 l8 => ?_
  simp only [cA, aU, a9, aL, aT]
  refine j9 u7 (by rfl) sX (h6.le l8) fun b7 F9 M9 l9 o9 h9 => ?_
  all_goals
   rw [cD, if_pos rfl]
   have oT9 := oT6.le l9
   have o1y := o1x.le l9
   have o3y := o3x.le l9
   simp only [fB aZ (o1y.le h9.fr), fB aZ (o3y.le h9.fr), aC, a9, aU, aL, aT, aAr, bU]
   have hne' : (a == b && g == c) = false := by
    rw [Bool.eq_false_iff]
    intro h0
    simp only [Bool.and_eq_true, beq_iff_eq] at h0
    exact eE h0
   rw [hne', mT]
   simp only [lR W.c3 ((o6.le l9).le h9.fr) (o := 0) rfl, lR W.c3 (o9.le h9.fr) (o := 0) rfl, aC, aL]
   rw [cD, if_pos rfl]
   have lF9 : Mem.le F2 F9 := Mem.le_trans l6 l9
   refine aGs oT9 (h9.aW fun h => h.dT) hbi hgi hg1 fun M10 s10 h10 => ?_
   rw [aR]
   refine ⟨(oM ip b c).length + 1, key (oM ip b c) [] s10 F9 M10 _ rfl lF9 ?_ (by omega)⟩
   rw [aIj]
   obtain ⟨F11, hB11, l11, back11⟩ := h10.aAG
   exact back11 _ _ hB11.dT
theorem iJ {a : Nat} {α : AS} (hA : aA w0 F M (aE a α)) (h : ∀ p, (∀ K : VP, (∀ M' β, aA w0 F M' (aE a β) → AS.Sm 0 α β → K (.tuple #[]) M') → C PP w0 Id.lU #[.pointer p] K M) → R (.pointer p) M) : C PP w0 Id.jU #[.pointer (some ⟨a, 0, none⟩)] R M := by
 obtain ⟨r, ⟨hi, bL, bM, sf, cs, rf, rfl, hc, hs⟩, hf⟩ := hA
 have e3 : rd w0 M ⟨a, 3, none⟩ = some (.pointer (some ⟨bM, 0, none⟩)) := by
  rw [aM (hf.own (b := a) (cs := arR bL α.n α.never sf bM) (e := 145) List.mem_cons_self)]; rfl
 apply jU.go
 unfold jU.T aJ
 simp only [go_sem, add_eq, Nat.zero_add, e3]
 refine h _ fun K hK => ?_
 have om : cM w0 M bM (gU α.steps α.begun α.most) 163 := hf.own (by simp)
 have m0 : rd w0 M ⟨bM, 0, none⟩ = some (.int .i64 α.steps) := aM (o := 0) om
 have m1 : rd w0 M ⟨bM, 1, none⟩ = some (.int .i64 α.begun) := aM (o := 1) om
 have m2 : rd w0 M ⟨bM, 2, none⟩ = some (.int .i64 α.most) := aM (o := 2) om
 apply lU.go
 unfold lU.T aJ
 simp only [go_sem, add_eq, Nat.zero_add, m0]
 apply pO.go
 unfold pO.T aJ
 simp only [go_sem, add_eq, Nat.zero_add, m2]
 apply m6.go
 unfold m6.T aJ
 simp only [go_sem, add_eq, Nat.zero_add, m0, m1, m2, true_and]
 refine gF W.c2 om (by simp) rfl rfl ?_
 generalize (if p4 (α.steps - α.begun) > α.most then p4 (α.steps - α.begun) else α.most) = mo
 have h1 := hf.perm (r' := (bM, gU α.steps α.begun α.most, 163) :: (a, arR bL α.n α.never sf bM, 145) :: (bL, cs, 251) :: rf) (List.perm_middle (l₁ := [_, _]))
 have h2 := h1.upd (cs' := gU α.steps α.begun mo) (e' := 163)
 refine gF (cs := gU α.steps α.begun mo) W.c2 (h2.own List.mem_cons_self) (by simp) rfl rfl ?_
 have h3 := h2.upd (cs' := gU α.steps α.steps mo) (e' := 163)
 refine hK _ { α with begun := α.steps, most := mo } ⟨_, ⟨⟨hi.n, hi.never, hi.free, hi.live, hi.nd, hi.len, hi.steps⟩, bL, bM, sf, cs, rf, rfl, ⟨hc.len, hc.f, hc.t⟩, hs⟩, h3.perm (List.perm_middle (l₁ := [_, _])).symm⟩ ⟨rfl, rfl, rfl, rfl, rfl, fun h => ⟨h.2, by show α.steps ≤ α.steps; omega, by show α.steps ≤ _; omega⟩⟩
theorem aDw {a : Nat} {α : AS} (hA : aA w0 F M (aE a α)) (h : ∀ p, (∀ K : VP, K (.int .i64 α.steps) M → C PP w0 Id.lG #[.pointer p] K M) → R (.pointer p) M) : C PP w0 Id.jU #[.pointer (some ⟨a, 0, none⟩)] R M := by
 obtain ⟨bL, bM, sf, cs, hs, hn⟩ := hA.seen
 apply jU.go
 unfold jU.T aJ
 simp only [go_sem, add_eq, Nat.zero_add, hs.r3]
 exact h _ fun K hK => aGA hs.m hK
end
end HL
namespace HL
structure QS where
 most : Int
 next : Int
 α : AS
 hp : PS V3
 ip : PS V3
 at_ : Int → Option dG
 en : dG → Option cW
structure mY where
 r : dG
 h : dG
 c : Nat
 e : cW
def mY.held (x : mY) : cC := (x.c, x.e)
structure Hv where
 h : dG
 k : Int
 root : Int
 N : List Nat
def dX (I : List mY) (h : dG) : List cC := (I.filter fun x => decide (x.h = h)).map mY.held
def jF (I : List mY) (y : Hv) : List Nat := fD (dX I y.h) y.N
structure aDI (α : AS) (I : List mY) (H : List Hv) : Prop where
 kh : ∀ y ∈ H, KH y.k α y.root (dX I y.h) y.N
 d1 : ∀ y ∈ H, ∀ y' ∈ H, y.h ≠ y'.h → ∀ c ∈ jF I y, c ∉ jF I y'
structure dR (S : QS) (I : List mY) (H : List Hv) (tm : Int) : Prop where
 m1 : 1 ≤ S.most
 m2 : S.most ≤ 300
 an : (S.α.n : Int) = 2 * S.most
 al : S.α.len = 2 * I.length
 inv : S.α.Inv
 ho : S.hp.Ok
 io : S.ip.Ok
 hl : S.hp.l.length = S.hp.free.length + H.length
 il : S.ip.l.length = S.ip.free.length + I.length
 hm : S.hp.most = 64
 im : S.ip.most = S.most
 hll : S.hp.l.length ≤ 64
 ill : (S.ip.l.length : Int) ≤ S.most
 hg : ∀ x ∈ S.hp.l, 0 ≤ x.g ∧ x.g ≤ tm
 ig : ∀ x ∈ S.ip.l, 0 ≤ x.g ∧ x.g ≤ tm
 hg1 : ∀ x ∈ S.hp.l, x.t = true → 1 ≤ x.g
 ig1 : ∀ x ∈ S.ip.l, x.t = true → 1 ≤ x.g
 tm0 : 0 ≤ tm
 hf : ∀ y ∈ H, S.hp.find y.h.1 y.h.2 = some (y.k, y.root, ((dX I y.h).length : Int))
 jf : ∀ x ∈ I, S.ip.find x.r.1 x.r.2 = some ((x.c : Int), x.h.1, x.h.2)
 fO : (H.map (·.h)).Nodup
 ind : (I.map (·.r)).Nodup
 icd : (I.map (·.c)).Nodup
 ih : ∀ x ∈ I, ∃ y ∈ H, y.h = x.h
 at1 : ∀ x ∈ I, S.at_ (x.c : Int) = some x.r
 at2 : ∀ c r, S.at_ c = some r → ∃ x ∈ I, (x.c : Int) = c
 en1 : ∀ x ∈ I, S.en x.r = some x.e
 hs : aDI S.α I H
 nx : 0 ≤ S.next ∧ S.next ≤ tm
theorem mP (I J : List mY) (h : dG) : dX (I ++ J) h = dX I h ++ dX J h := by unfold dX; rw [List.filter_append, List.map_append]
theorem tI {x : mY} {h : dG} (e : x.h = h) : dX [x] h = [x.held] := by unfold dX; simp [e]
theorem pM {x : mY} {h : dG} (e : x.h ≠ h) : dX [x] h = [] := by unfold dX; simp [e]
theorem qJ {I : List mY} {h : dG} {p : cC} : p ∈ dX I h ↔ ∃ x ∈ I, x.h = h ∧ x.held = p := by
 unfold dX
 constructor
 ·intro hp
  obtain ⟨x, hx, rfl⟩ := List.mem_map.1 hp
  obtain ⟨h1, h2⟩ := List.mem_filter.1 hx
  exact ⟨x, h1, by simpa using h2, rfl⟩
 ·rintro ⟨x, h1, h2, rfl⟩
  exact List.mem_map.2 ⟨x, List.mem_filter.2 ⟨h1, by simpa using h2⟩, rfl⟩
theorem x8 (A B : List mY) (x : mY) : (dX (A ++ x :: B) x.h).Perm (x.held :: dX (A ++ B) x.h) := by
 rw [mP, show x :: B = [x] ++ B from rfl, mP [x] B, tI rfl, mP A B]
 exact List.perm_middle
theorem sH (A B : List mY) (x : mY) {h : dG} (e : x.h ≠ h) : dX (A ++ x :: B) h = dX (A ++ B) h := by
 rw [mP, show x :: B = [x] ++ B from rfl, mP [x] B, pM e, mP A B, List.nil_append]
theorem uA (I : List mY) (h : dG) : (dX I h).length ≤ I.length := by
 unfold dX
 rw [List.length_map]
 exact List.length_filter_le _ _
theorem kO {β : Type} {A B : List β} {x : β} (h : (A ++ x :: B).Nodup) : (A ++ B).Nodup ∧ x ∉ A ∧ x ∉ B := by
 have h1 := List.perm_middle.nodup_iff.1 h
 obtain ⟨h2, h3⟩ := List.nodup_cons.1 h1
 exact ⟨h3, fun hm => h2 (List.mem_append_left _ hm), fun hm => h2 (List.mem_append_right _ hm)⟩
section
variable {S : QS} {I : List mY} {H : List Hv} {tm : Int}
theorem aDI.sm {α β : AS} {j : Int} (h : aDI α I H) (hs : AS.Sm j α β) : aDI β I H := ⟨fun y hy => (h.kh y hy).sm hs, h.d1⟩
theorem dR.sm {β : AS} {j : Int} (h : dR S I H tm) (hs : AS.Sm j S.α β) (hi : β.Inv) : dR { S with α := β } I H tm :=
 ⟨h.m1, h.m2, by show (β.n : Int) = _; rw [hs.n]; exact h.an, by show β.len = _; rw [AS.aBV hs.never hs.live]; exact h.al, hi, h.ho, h.io, h.hl, h.il, h.hm, h.im, h.hll, h.ill, h.hg, h.ig, h.hg1, h.ig1, h.tm0, h.hf, h.jf, h.fO, h.ind, h.icd, h.ih, h.at1, h.at2, h.en1, h.hs.sm hs, h.nx⟩
theorem dR.uU (h : dR S I H tm) {tm' : Int} (ht : tm ≤ tm') : dR S I H tm' :=
 ⟨h.m1, h.m2, h.an, h.al, h.inv, h.ho, h.io, h.hl, h.il, h.hm, h.im, h.hll, h.ill, fun x hx => ⟨(h.hg x hx).1, by have := (h.hg x hx).2; omega⟩, fun x hx => ⟨(h.ig x hx).1, by have := (h.ig x hx).2; omega⟩, h.hg1, h.ig1, by have := h.tm0; omega, h.hf, h.jf, h.fO, h.ind, h.icd, h.ih, h.at1, h.at2, h.en1, h.hs, ⟨h.nx.1, by have := h.nx.2; omega⟩⟩
theorem dR.len (h : dR S I H tm) : (I.length : Int) ≤ S.most := by
 have := h.il
 have := h.ill
 omega
theorem dR.item (h : dR S I H tm) {x : mY} (hx : x ∈ I) : ∃ y ∈ H, y.h = x.h ∧ x.held ∈ dX I y.h ∧ x.c ∈ jF I y := by
 obtain ⟨y, hy, e⟩ := h.ih x hx
 have hm : x.held ∈ dX I y.h := qJ.2 ⟨x, hx, e.symm, rfl⟩
 exact ⟨y, hy, e, hm, List.mem_append_right _ (List.mem_map.2 ⟨x.held, hm, rfl⟩)⟩
theorem dR.live (h : dR S I H tm) {y : Hv} (hy : y ∈ H) : ∀ c ∈ jF I y, S.α.live c = true := (h.hs.kh y hy).live
theorem dR.xW (h : dR S I H tm) {x : mY} (hx : x ∈ I) : S.α.live x.c = true := by
 obtain ⟨y, hy, _, _, hc⟩ := h.item hx
 exact h.live hy _ hc
theorem aDI.step {α β : AS} {I' : List mY} {A B : List Hv} {y y' : Hv} {Sx Lx : Nat → Prop} {d k : Int} (h : aDI α I (A ++ y :: B)) (hn : ((A ++ y :: B).map (·.h)).Nodup) (hyh : y'.h = y.h)
  (hI : ∀ z ∈ A ++ B, dX I' z.h = dX I z.h) (hkh : KH y'.k β y'.root (dX I' y'.h) y'.N) (he : AS.lE Sx Lx d k α β) (hS : ∀ c, Sx c → c ∈ jF I y ∨ α.live c = false) (hL : ∀ c, Lx c → c ∈ jF I y ∨ α.live c = false) (hc : ∀ c ∈ jF I' y', c ∈ jF I y ∨ α.live c = false) : aDI β I' (A ++ y' :: B) := by
 rw [List.map_append, List.map_cons] at hn
 obtain ⟨n1, n2, n3⟩ := kO hn
 have eE : ∀ z ∈ A ++ B, z.h ≠ y.h := fun z hz e => by
  rcases List.mem_append.1 hz with hz | hz
  ·exact n2 (List.mem_map.2 ⟨z, hz, e⟩)
  ·exact n3 (List.mem_map.2 ⟨z, hz, e⟩)
 have hold : ∀ z ∈ A ++ B, z ∈ A ++ y :: B := fun z hz => by
  rcases List.mem_append.1 hz with hz | hz <;> simp [hz]
 have hz : ∀ z, z ∈ A ++ y' :: B → z = y' ∨ z ∈ A ++ B := fun z hz => by
  rcases List.mem_append.1 hz with hz | hz
  ·exact .inr (by simp [hz])
  ·rcases List.mem_cons.1 hz with hz | hz
   ·exact .inl hz
   ·exact .inr (by simp [hz])
 have hcel : ∀ z ∈ A ++ B, jF I' z = jF I z := fun z hz => by unfold jF; rw [hI z hz]
 have hy : y ∈ A ++ y :: B := by simp
 have hap : ∀ z ∈ A ++ B, ∀ c ∈ jF I z, ¬ (c ∈ jF I y ∨ α.live c = false) := fun z hz c hc hcc => by
  rcases hcc with hcc | hcc
  ·exact h.d1 z (hold z hz) y hy (eE z hz) c hc hcc
  ·have := (h.kh z (hold z hz)).live c hc
   rw [hcc] at this; cases this
 refine ⟨fun z hzm => ?_, fun z hzm z' hzm' hzz c hcz hcz' => ?_⟩
 ·rcases hz z hzm with e0 | hzm
  ·rw [e0]; exact hkh
  ·rw [hI z hzm]
   exact (h.kh z (hold z hzm)).o0 he (fun c hcz hs => hap z hzm c hcz (hS c hs)) (fun c hcz hs => hap z hzm c hcz (hL c hs))
 ·rcases hz z hzm with e0 | hzm
  ·rw [e0] at hcz hzz
   rcases hz z' hzm' with e1 | hzm'
   ·exact hzz (by rw [e1])
   ·rw [hcel z' hzm'] at hcz'
    exact hap z' hzm' c hcz' (hc c hcz)
  ·rw [hcel z hzm] at hcz
   rcases hz z' hzm' with e1 | hzm'
   ·rw [e1] at hcz'
    exact hap z hzm c hcz (hc c hcz')
   ·rw [hcel z' hzm'] at hcz'
    exact h.d1 z (hold z hzm) z' (hold z' hzm') hzz c hcz hcz'
end
theorem yZ {p : PS V3} {A B : List Hv} {y y' : Hv} {I I' : List mY} (hn : ((A ++ y :: B).map (·.h)).Nodup) (hyh : y'.h = y.h) (hf : ∀ z ∈ A ++ y :: B, p.find z.h.1 z.h.2 = some (z.k, z.root, ((dX I z.h).length : Int))) (hI : ∀ z ∈ A ++ B, dX I' z.h = dX I z.h) :
  ∀ z ∈ A ++ y' :: B, (p.put y.h.1.toNat (y'.k, y'.root, ((dX I' y'.h).length : Int))).find z.h.1 z.h.2 = some (z.k, z.root, ((dX I' z.h).length : Int)) := by
 rw [List.map_append, List.map_cons] at hn
 obtain ⟨n1, n2, n3⟩ := kO hn
 have hy := hf y (by simp)
 obtain ⟨p1, p2⟩ := PS.aAO (y'.k, y'.root, ((dX I' y'.h).length : Int)) hy
 intro z hz
 have hz' : z = y' ∨ z ∈ A ++ B := by
  rcases List.mem_append.1 hz with hz | hz
  ·exact .inr (by simp [hz])
  ·rcases List.mem_cons.1 hz with hz | hz
   ·exact .inl hz
   ·exact .inr (by simp [hz])
 rcases hz' with rfl | hz'
 ·rw [hyh]
  rw [hyh] at p1
  exact p1
 ·have hzo : z ∈ A ++ y :: B := by rcases List.mem_append.1 hz' with h | h <;> simp [h]
  have hzf := hf z hzo
  rw [hI z hz']
  refine p2 _ _ _ (fun e => ?_) hzf
  obtain ⟨j1, q1, q2, _⟩ := PS.bH hzf
  obtain ⟨j2, q3, q4, _⟩ := PS.bH hy
  have hj : j1 = j2 := by omega
  subst hj
  rw [q2] at q4
  have hg : z.h.2 = y.h.2 := by injection q4 with q4; injection q4
  have hzy : z.h = y.h := Prod.ext e hg
  rcases List.mem_append.1 hz' with h | h
  ·exact n2 (List.mem_map.2 ⟨z, h, hzy⟩)
  ·exact n3 (List.mem_map.2 ⟨z, h, hzy⟩)
section
variable {S : QS} {tm : Int}
theorem aK7 {I : List mY} (hn : (I.map (·.r)).Nodup) (hf : ∀ x ∈ I, S.ip.find x.r.1 x.r.2 = some ((x.c : Int), x.h.1, x.h.2)) {x z : mY} (hx : x ∈ I) (hz : z ∈ I) (eE : z.r ≠ x.r) : z.r.1 ≠ x.r.1 := fun e => by
 obtain ⟨j1, q1, q2, _⟩ := PS.bH (hf z hz)
 obtain ⟨j2, q3, q4, _⟩ := PS.bH (hf x hx)
 have hj : j1 = j2 := by omega
 subst hj
 rw [q2] at q4
 have hg : z.r.2 = x.r.2 := by injection q4 with q4; injection q4
 exact eE (Prod.ext e hg)
theorem xH {β γ : Type} {f : β → γ} : ∀ {l : List β}, (l.map f).Nodup → ∀ x ∈ l, ∀ y ∈ l, f x = f y → x = y
 | [], _, x, hx, _, _, _ => by cases hx
 | z :: l, hn, x, hx, y, hy, e => by
  rw [List.map_cons, List.nodup_cons] at hn
  rcases List.mem_cons.1 hx with h1 | h1 <;> rcases List.mem_cons.1 hy with h2 | h2
  ·rw [h1, h2]
  ·exact absurd (List.mem_map.2 ⟨y, h2, by rw [← e, h1]⟩) hn.1
  ·exact absurd (List.mem_map.2 ⟨x, h1, by rw [e, h2]⟩) hn.1
  ·exact xH hn.2 x h1 y h2 e
theorem dR.insert {I : List mY} {A B : List Hv} {y : Hv} (h : dR S I (A ++ y :: B) tm) {key : Int} {c n a : Nat} {α1 β : AS} {r' : Int} {N' : List Nat} {j1 : Int}
  (hc : S.α.next = some c) (hα1 : AS.Sm j1 ((S.α.take.put c 7 key).put c 8 S.next) α1) (hi1 : α1.Inv) (hn : α1.next = some n) (hnl : α1.live n = false) (hβ : β.Inv)
  (hkh : KH y.k β r' ((c, (key, S.next)) :: dX I y.h) N') (hsub : ∀ x ∈ fD ((c, (key, S.next)) :: dX I y.h) N', x = n ∨ x = c ∨ x ∈ jF I y) {j2 : Int} (heff : AS.lE (fun x => x = n ∨ x = c ∨ x ∈ jF I y) (· = n) 1 j2 α1 β) (hat : S.ip.at_ = some a) (hlen : (I.length : Int) < S.most) :
  S.at_ (c : Int) = none ∧ dR { most := S.most, next := S.next + 1, α := β, hp := S.hp.put y.h.1.toNat (y.k, r', ((dX I y.h).length : Int) + 1), ip := S.ip.take z3 a ((c : Int), y.h.1, y.h.2), at_ := fT S.at_ (c : Int) (some ((a : Int), S.ip.gen a)), en := fT S.en ((a : Int), S.ip.gen a) (some (key, S.next)) }
   (I ++ [⟨((a : Int), S.ip.gen a), y.h, c, (key, S.next)⟩]) (A ++ { y with root := r', N := N' } :: B) (tm + 1) := by
 have hyM : y ∈ A ++ y :: B := by simp
 obtain ⟨c1, c2, c3⟩ := AS.kS h.inv hc
 have hcno : ∀ x ∈ I, x.c ≠ c := fun x hx e => by have := h.xW hx; rw [e, c2] at this; cases this
 have hatc : S.at_ (c : Int) = none := by
  cases hm : S.at_ (c : Int) with
  | none => rfl
  | some r =>
   obtain ⟨x, hx, e⟩ := h.at2 _ _ hm
   exact absurd (by omega) (hcno x hx)
 refine ⟨hatc, ?_⟩
 have gl : ∀ x, α1.live x = if x = c then true else S.α.live x := fun x => by rw [hα1.live, show ((S.α.take.put c 7 key).put c 8 S.next).live = S.α.take.live from rfl, c3]; rfl
 have hnc : n ≠ c := fun e => by rw [e, gl, if_pos rfl] at hnl; cases hnl
 have hnl0 : S.α.live n = false := by rw [gl, if_neg hnc] at hnl; exact hnl
 have g1 := PS.aCH h.ig h.tm0 a
 obtain ⟨t1, t2, t3, t4, t5, t6, t7⟩ := PS.zD h.io hat z3 ((c : Int), y.h.1, y.h.2)
 obtain ⟨f1, f2⟩ := PS.zH h.io hat z3 ((c : Int), y.h.1, y.h.2) g1.1
 have hrno : ∀ x ∈ I, x.r ≠ ((a : Int), S.ip.gen a) := fun x hx e => by
  have h1 := h.jf x hx
  rw [e] at h1
  rw [h.io.aCP hat] at h1; cases h1
 have e1 : AS.lE (fun x => x = c) (· = c) 1 (0 + j1) S.α α1 := (((AS.vU (S := fun x => x = c) (L := (· = c)) h.inv hc rfl rfl).put (f := 7) (v := key) (c := c) rfl).put (f := 8) (v := S.next) (c := c) rfl).trans hα1.o0
 have e2 : AS.lE (fun x => x = n ∨ x = c ∨ x ∈ jF I y) (fun x => x = n ∨ x = c) (1 + 1) (0 + j1 + j2) S.α β := (e1.mono (fun x hx => .inr (.inl hx)) (fun x hx => .inr hx) (Int.le_refl _)).trans (heff.mono (fun _ h => h) (fun x hx => .inl hx) (Int.le_refl _))
 have hI2 : ∀ z ∈ A ++ B, dX (I ++ [⟨((a : Int), S.ip.gen a), y.h, c, (key, S.next)⟩]) z.h = dX I z.h := fun z hz => by
  have fO := h.fO
  rw [List.map_append, List.map_cons] at fO
  obtain ⟨n1, n2, n3⟩ := kO fO
  rw [mP, pM, List.append_nil]
  intro e
  have e' : z.h = y.h := e.symm
  rcases List.mem_append.1 hz with h | h
  ·exact n2 (List.mem_map.2 ⟨z, h, e'⟩)
  ·exact n3 (List.mem_map.2 ⟨z, h, e'⟩)
 have hIy : dX (I ++ [⟨((a : Int), S.ip.gen a), y.h, c, (key, S.next)⟩]) y.h = dX I y.h ++ [(c, (key, S.next))] := by rw [mP, tI rfl]; rfl
 have hPy : ((c, (key, S.next)) :: dX I y.h).Perm (dX (I ++ [⟨((a : Int), S.ip.gen a), y.h, c, (key, S.next)⟩]) y.h) := by rw [hIy]; exact (List.perm_append_comm (l₁ := [_]))
 have hcel : ∀ x ∈ jF (I ++ [⟨((a : Int), S.ip.gen a), y.h, c, (key, S.next)⟩]) { y with root := r', N := N' }, x ∈ jF I y ∨ S.α.live x = false := fun x hx => by
  have := hsub x ((jR hPy (List.Perm.refl N')).mem_iff.2 hx)
  rcases this with rfl | rfl | h1
  ·exact .inr hnl0
  ·exact .inr c2
  ·exact .inl h1
 have uV := PS.uT (p := S.hp) (a := y.h.1.toNat) (v := (y.k, r', ((dX I y.h).length : Int) + 1)) (x := ⟨y.h.2, true, (y.k, y.root, ((dX I y.h).length : Int))⟩) (by
  obtain ⟨j, q1, q2, _⟩ := PS.bH (h.hf y hyM)
  rw [q1, Int.toNat_natCast]; exact q2)
 have hlen2 : (dX (I ++ [⟨((a : Int), S.ip.gen a), y.h, c, (key, S.next)⟩]) y.h).length = (dX I y.h).length + 1 := by rw [hIy, List.length_append]; rfl
 refine ⟨h.m1, h.m2, by show (β.n : Int) = _; rw [e2.n]; exact h.an, ?_, hβ, h.ho.put _ _, h.io.take hat _ _, ?_, ?_, by rw [uV.2.2]; exact h.hm, by rw [t4]; exact h.im, ?_, ?_, fun x hx => ?_, fun x hx => ?_, fun x hx ht => ?_, fun x hx ht => ?_, by have := h.tm0; omega, ?_, fun x hx => ?_, ?_, ?_, ?_, fun x hx => ?_, fun x hx => ?_, fun k r hk => ?_, fun x hx => ?_, ?_, ?_⟩
 ·show β.len = _
  have := e2.len
  have := h.al
  rw [List.length_append, List.length_singleton]; omega
 ·rw [uV.1, uV.2.1, List.length_set, h.hl]; simp
 ·show (S.ip.take z3 a ((c : Int), y.h.1, y.h.2)).l.length = (S.ip.take z3 a ((c : Int), y.h.1, y.h.2)).free.length + _
  rw [List.length_append, List.length_singleton]
  have := h.il
  omega
 ·rw [uV.1, List.length_set]; exact h.hll
 ·have h1 := h.ill
  have h2 := h.im
  rcases t7 with t7 | t7
  ·show ((S.ip.take z3 a ((c : Int), y.h.1, y.h.2)).l.length : Int) ≤ S.most
   omega
  ·show ((S.ip.take z3 a ((c : Int), y.h.1, y.h.2)).l.length : Int) ≤ S.most
   omega
 ·obtain ⟨z, hz, e⟩ := PS.aAf hx
  have := h.hg z hz
  omega
 ·have := PS.aC1 hx
  have h0 := h.tm0
  rcases this with h1 | h1 | h1
  ·have := h.ig x h1; omega
  ·omega
  ·omega
 ·obtain ⟨jx, hjx⟩ := List.getElem?_of_mem hx
  rw [uV.1] at hjx
  by_cases e : y.h.1.toNat = jx
  ·subst e
   have hl9 : y.h.1.toNat < S.hp.l.length := by
    have := (List.getElem?_eq_some_iff.1 hjx).1
    rwa [List.length_set] at this
   rw [List.getElem?_set_self hl9] at hjx
   cases hjx
   obtain ⟨j, q1, q2, q3⟩ := PS.bH (h.hf y hyM)
   exact q3
  ·rw [List.getElem?_set_ne e] at hjx
   exact h.hg1 x (List.mem_of_getElem? hjx) ht
 ·obtain ⟨jx, hjx⟩ := List.getElem?_of_mem hx
  by_cases e : jx = a
  ·subst e
   rw [t1] at hjx
   cases hjx
   exact g1.1
  ·rw [t2 jx e] at hjx
   exact h.ig1 x (List.mem_of_getElem? hjx) ht
 ·have := yZ (p := S.hp) (I' := I ++ [⟨((a : Int), S.ip.gen a), y.h, c, (key, S.next)⟩]) (y' := { y with root := r', N := N' }) h.fO rfl h.hf hI2
  rw [show (({ y with root := r', N := N' } : Hv).h) = y.h from rfl, hlen2] at this
  exact this
 ·rcases List.mem_append.1 hx with hx | hx
  ·exact f2 _ _ _ (h.jf x hx)
  ·rw [List.mem_singleton.1 hx]; exact f1
 ·have := h.fO
  simp only [List.map_append, List.map_cons] at this ⊢
  exact this
 ·rw [List.map_append, List.nodup_append]
  refine ⟨h.ind, by simp, fun u hu v hv e => ?_⟩
  obtain ⟨x, hx, rfl⟩ := List.mem_map.1 hu
  simp only [List.map_cons, List.map_nil, List.mem_singleton] at hv
  exact hrno x hx (e.trans hv)
 ·rw [List.map_append, List.nodup_append]
  refine ⟨h.icd, by simp, fun u hu v hv e => ?_⟩
  obtain ⟨x, hx, rfl⟩ := List.mem_map.1 hu
  simp only [List.map_cons, List.map_nil, List.mem_singleton] at hv
  exact hcno x hx (e.trans hv)
 ·rcases List.mem_append.1 hx with hx | hx
  ·obtain ⟨z, hz, e⟩ := h.ih x hx
   rcases List.mem_append.1 hz with hz | hz
   ·exact ⟨z, by simp [hz], e⟩
   ·rcases List.mem_cons.1 hz with rfl | hz
    ·exact ⟨{ z with root := r', N := N' }, by simp, e⟩
    ·exact ⟨z, by simp [hz], e⟩
  ·rw [List.mem_singleton.1 hx]
   exact ⟨{ y with root := r', N := N' }, by simp, rfl⟩
 ·show fT S.at_ (c : Int) _ (x.c : Int) = some x.r
  unfold fT
  rcases List.mem_append.1 hx with hx | hx
  ·rw [if_neg (fun e => hcno x hx (by omega))]; exact h.at1 x hx
  ·rw [List.mem_singleton.1 hx]
   simp only [if_true]
 ·have hk' : fT S.at_ (c : Int) (some ((a : Int), S.ip.gen a)) k = some r := hk
  unfold fT at hk'
  split at hk'
  ·rename_i e
   exact ⟨⟨((a : Int), S.ip.gen a), y.h, c, (key, S.next)⟩, by simp, e.symm⟩
  ·obtain ⟨x, hx, e⟩ := h.at2 _ _ hk'
   exact ⟨x, by simp [hx], e⟩
 ·show fT S.en _ _ x.r = some x.e
  unfold fT
  rcases List.mem_append.1 hx with hx | hx
  ·rw [if_neg (hrno x hx)]; exact h.en1 x hx
  ·rw [List.mem_singleton.1 hx]
   simp only [if_true]
 ·refine h.hs.step h.fO rfl hI2 (hkh.perm hPy (List.Perm.refl _)) e2 (fun x hx => ?_) (fun x hx => ?_) hcel
  ·rcases hx with rfl | rfl | hx
   ·exact .inr hnl0
   ·exact .inr c2
   ·exact .inl hx
  ·rcases hx with rfl | rfl
   ·exact .inr hnl0
   ·exact .inr c2
 ·have := h.nx
  show 0 ≤ S.next + 1 ∧ S.next + 1 ≤ tm + 1
  omega
theorem dR.remove {IA IB : List mY} {x : mY} {A B : List Hv} {y : Hv} (h : dR S (IA ++ x :: IB) (A ++ y :: B) tm) (hxy : x.h = y.h) {β γ : AS} {r' : Int} {N' : List Nat} {L' : List cC} {n : Nat} {j j2 : Int}
  (hL : (dX (IA ++ x :: IB) y.h).Perm (x.held :: L')) (hkh : KH y.k β r' L' N') (hless : aHY L' N' (dX (IA ++ x :: IB) y.h) y.N) (hxL : x.c ∉ fD L' N') (hn : n ∈ y.N) (heff : AS.lE (fun c => c ∈ jF (IA ++ x :: IB) y) (· = n) (-1) j S.α β) (hβ : β.Inv) (hγ : AS.Sm j2 (β.vD (x.c : Int)) γ) (hγi : γ.Inv) :
  dR { S with α := γ, hp := S.hp.put y.h.1.toNat (y.k, r', ((dX (IA ++ x :: IB) y.h).length : Int) - 1), ip := S.ip.fZ z3 x.r.1.toNat, at_ := fT S.at_ (x.c : Int) none, en := fT S.en x.r none }
   (IA ++ IB) (A ++ { y with root := r', N := N' } :: B) (tm + 1) := by
 have hyM : y ∈ A ++ y :: B := by simp
 have hxM : x ∈ IA ++ x :: IB := by simp
 have hold : ∀ z ∈ IA ++ IB, z ∈ IA ++ x :: IB := fun z hz => by rcases List.mem_append.1 hz with h | h <;> simp [h]
 have hnr := h.ind
 have hncd := h.icd
 rw [List.map_append, List.map_cons] at hnr hncd
 obtain ⟨nr1, nr2, nr3⟩ := kO hnr
 obtain ⟨nc1, nc2, nc3⟩ := kO hncd
 rw [← List.map_append] at nr1 nc1
 have hrne : ∀ z ∈ IA ++ IB, z.r ≠ x.r := fun z hz e => by
  rcases List.mem_append.1 hz with h | h
  ·exact nr2 (List.mem_map.2 ⟨z, h, e⟩)
  ·exact nr3 (List.mem_map.2 ⟨z, h, e⟩)
 have hcne : ∀ z ∈ IA ++ IB, z.c ≠ x.c := fun z hz e => by
  rcases List.mem_append.1 hz with h | h
  ·exact nc2 (List.mem_map.2 ⟨z, h, e⟩)
  ·exact nc3 (List.mem_map.2 ⟨z, h, e⟩)
 have hL2 : (dX (IA ++ x :: IB) y.h).Perm (x.held :: dX (IA ++ IB) y.h) := by rw [← hxy]; exact x8 IA IB x
 have hLL : L'.Perm (dX (IA ++ IB) y.h) := List.Perm.cons_inv (hL.symm.trans hL2)
 have hxc : x.c ∈ jF (IA ++ x :: IB) y := List.mem_append_right _ (List.mem_map.2 ⟨x.held, qJ.2 ⟨x, hxM, hxy, rfl⟩, rfl⟩)
 have hyn := (h.hs.kh y hyM).nd
 have hxn : x.c ≠ n := fun e => (List.nodup_append.1 hyn).2.2 n hn x.c (List.mem_map.2 ⟨x.held, qJ.2 ⟨x, hxM, hxy, rfl⟩, rfl⟩) e.symm
 have hxl : β.live x.c = true := by rw [heff.live _ hxn]; exact h.xW hxM
 have hgive : β.vD (x.c : Int) = β.kC x.c := AS.uE hxl
 rw [hgive] at hγ
 have e2 : AS.lE (fun c => c ∈ jF (IA ++ x :: IB) y) (fun c => c = n ∨ c = x.c) (-1 + -1 + 0) (j + 0 + j2) S.α γ :=
  ((heff.mono (fun _ h => h) (fun c hc => .inl hc) (Int.le_refl _)).trans (AS.pG hβ hxl (.inr rfl))).trans hγ.o0
 obtain ⟨ka, ka1, ka2, ka3⟩ := PS.bH (h.jf x hxM)
 have hka : x.r.1.toNat = ka := by rw [ka1, Int.toNat_natCast]
 have hgl := PS.vC (p := S.ip) z3 ka2
 have uV := PS.uT (p := S.hp) (a := y.h.1.toNat) (v := (y.k, r', ((dX (IA ++ x :: IB) y.h).length : Int) - 1)) (x := ⟨y.h.2, true, (y.k, y.root, ((dX (IA ++ x :: IB) y.h).length : Int))⟩) (by
  obtain ⟨j, q1, q2, _⟩ := PS.bH (h.hf y hyM)
  rw [q1, Int.toNat_natCast]; exact q2)
 have hlen2 : (dX (IA ++ x :: IB) y.h).length = (dX (IA ++ IB) y.h).length + 1 := hL2.length_eq
 have hI2 : ∀ z ∈ A ++ B, dX (IA ++ IB) z.h = dX (IA ++ x :: IB) z.h := fun z hz => by
  have fO := h.fO
  rw [List.map_append, List.map_cons] at fO
  obtain ⟨n1, n2, n3⟩ := kO fO
  refine (sH IA IB x fun e => ?_).symm
  have e' : z.h = y.h := e.symm.trans hxy
  rcases List.mem_append.1 hz with h | h
  ·exact n2 (List.mem_map.2 ⟨z, h, e'⟩)
  ·exact n3 (List.mem_map.2 ⟨z, h, e'⟩)
 have hkh2 : KH y.k γ r' (dX (IA ++ IB) y.h) N' := by
  refine ((hkh.o0 (AS.pG (S := fun _ => False) (L := (· = x.c)) hβ hxl rfl) (fun _ _ h => h) (fun c hc e => hxL (by rw [← e]; exact hc))).sm hγ).perm hLL (List.Perm.refl _)
 have hcel : ∀ c ∈ jF (IA ++ IB) { y with root := r', N := N' }, c ∈ jF (IA ++ x :: IB) y ∨ S.α.live c = false := fun c hc => .inl (hless c ((jR hLL (List.Perm.refl N')).mem_iff.2 hc))
 have hny : n ∈ jF (IA ++ x :: IB) y := List.mem_append_left _ hn
 rw [hka]
 refine ⟨h.m1, h.m2, by show (γ.n : Int) = _; rw [e2.n]; exact h.an, ?_, hγi, h.ho.put _ _, h.io.fZ _ ka2 rfl, ?_, ?_, by rw [uV.2.2]; exact h.hm, by rw [hgl.2.2]; exact h.im, ?_, ?_, fun x hx => ?_, fun x hx => ?_, fun x hx ht => ?_, fun x hx ht => ?_, by have := h.tm0; omega, ?_, fun z hz => ?_, ?_, ?_, ?_, fun z hz => ?_, fun z hz => ?_, fun k r hk => ?_, fun z hz => ?_, ?_, ?_⟩
 ·show γ.len = _
  have := e2.len
  have := h.al
  have h3 : (IA ++ x :: IB).length = (IA ++ IB).length + 1 := by simp; omega
  rw [h3] at this
  omega
 ·rw [uV.1, uV.2.1, List.length_set, h.hl]; simp
 ·rw [hgl.1, hgl.2.1, List.length_set, h.il]; simp; omega
 ·rw [uV.1, List.length_set]; exact h.hll
 ·rw [hgl.1, List.length_set]; exact h.ill
 ·obtain ⟨z, hz, e⟩ := PS.aAf hx
  have := h.hg z hz
  omega
 ·obtain ⟨z, hz, e⟩ := PS.aCV hx
  have := h.ig z hz
  omega
 ·obtain ⟨jx, hjx⟩ := List.getElem?_of_mem hx
  rw [uV.1] at hjx
  by_cases e : y.h.1.toNat = jx
  ·subst e
   have hl9 : y.h.1.toNat < S.hp.l.length := by
    have := (List.getElem?_eq_some_iff.1 hjx).1
    rwa [List.length_set] at this
   rw [List.getElem?_set_self hl9] at hjx
   cases hjx
   obtain ⟨j, q1, q2, q3⟩ := PS.bH (h.hf y hyM)
   exact q3
  ·rw [List.getElem?_set_ne e] at hjx
   exact h.hg1 x (List.mem_of_getElem? hjx) ht
 ·obtain ⟨jx, hjx⟩ := List.getElem?_of_mem hx
  rw [hgl.1] at hjx
  by_cases e : ka = jx
  ·subst e
   rw [List.getElem?_set_self (List.getElem?_eq_some_iff.1 ka2).1] at hjx
   cases hjx
   cases ht
  ·rw [List.getElem?_set_ne e] at hjx
   exact h.ig1 x (List.mem_of_getElem? hjx) ht
 ·have := yZ (p := S.hp) (I' := IA ++ IB) (y' := { y with root := r', N := N' }) h.fO rfl h.hf hI2
  rw [show (({ y with root := r', N := N' } : Hv).h) = y.h from rfl, show ((dX (IA ++ IB) y.h).length : Int) = ((dX (IA ++ x :: IB) y.h).length : Int) - 1 from by omega] at this
  exact this
 ·refine PS.vX z3 ka2 _ _ _ (fun e => ?_) (h.jf z (hold z hz))
  exact aK7 h.ind h.jf hxM (hold z hz) (hrne z hz) (e.trans ka1.symm)
 ·have := h.fO
  simp only [List.map_append, List.map_cons] at this ⊢
  exact this
 ·exact nr1
 ·exact nc1
 ·obtain ⟨u, hu, e⟩ := h.ih z (hold z hz)
  rcases List.mem_append.1 hu with hu | hu
  ·exact ⟨u, by simp [hu], e⟩
  ·rcases List.mem_cons.1 hu with hu | hu
   ·exact ⟨{ y with root := r', N := N' }, by simp, by rw [← e, hu]⟩
   ·exact ⟨u, by simp [hu], e⟩
 ·show fT S.at_ (x.c : Int) none (z.c : Int) = some z.r
  unfold fT
  rw [if_neg (fun e => hcne z hz (by omega))]; exact h.at1 z (hold z hz)
 ·have hk' : fT S.at_ (x.c : Int) none k = some r := hk
  unfold fT at hk'
  split at hk'
  ·cases hk'
  ·rename_i e
   obtain ⟨z, hz, e'⟩ := h.at2 _ _ hk'
   refine ⟨z, ?_, e'⟩
   rcases List.mem_append.1 hz with hz | hz
   ·exact List.mem_append_left _ hz
   ·rcases List.mem_cons.1 hz with hz | hz
    ·exact absurd (by rw [← e', hz]) e
    ·exact List.mem_append_right _ hz
 ·show fT S.en x.r none z.r = some z.e
  unfold fT
  rw [if_neg (hrne z hz)]; exact h.en1 z (hold z hz)
 ·refine h.hs.step (y' := { y with root := r', N := N' }) h.fO rfl hI2 hkh2 e2 (fun c hc => .inl hc) (fun c hc => ?_) hcel
  rcases hc with hc | hc
  ·exact .inl (by rw [hc]; exact hny)
  ·exact .inl (by rw [hc]; exact hxc)
 ·have := h.nx
  show 0 ≤ S.next ∧ S.next ≤ tm + 1
  omega
end
end HL
namespace HL
namespace PS
variable {κ : Type} {p : PS κ}
theorem aHg (h : ∀ x ∈ p.l, x.t = true → 1 ≤ x.g) (a : Nat) (v : κ) : ∀ x ∈ (p.put a v).l, x.t = true → 1 ≤ x.g := by
 intro x hx ht
 cases hy : p.l[a]? with
 | none =>
  have : p.put a v = p := by unfold PS.put; rw [hy]
  rw [this] at hx; exact h x hx ht
 | some y =>
  rw [(uT v hy).1] at hx
  rcases List.mem_or_eq_of_mem_set hx with hx | hx
  ·exact h x hx ht
  ·rw [hx] at ht ⊢; exact h y (List.mem_of_getElem? hy) ht
theorem aIp (h : ∀ x ∈ p.l, x.t = true → 1 ≤ x.g) (z : κ) (a : Nat) : ∀ x ∈ (p.fZ z a).l, x.t = true → 1 ≤ x.g := by
 intro x hx ht
 cases hy : p.l[a]? with
 | none =>
  have : p.fZ z a = p := by unfold PS.fZ; rw [hy]
  rw [this] at hx; exact h x hx ht
 | some y =>
  rw [(vC z hy).1] at hx
  rcases List.mem_or_eq_of_mem_set hx with hx | hx
  ·exact h x hx ht
  ·rw [hx] at ht; cases ht
theorem aIE (hok : p.Ok) (h : ∀ x ∈ p.l, x.t = true → 1 ≤ x.g) {a : Nat} (ha : p.at_ = some a) (hg : 1 ≤ p.gen a) (z v : κ) : ∀ x ∈ (p.take z a v).l, x.t = true → 1 ≤ x.g := by
 intro x hx ht
 obtain ⟨t1, t2, _⟩ := zD hok ha z v
 obtain ⟨jx, hjx⟩ := List.getElem?_of_mem hx
 by_cases e : jx = a
 ·subst e
  rw [t1] at hjx
  cases hjx
  exact hg
 ·rw [t2 jx e] at hjx
  exact h x (List.mem_of_getElem? hjx) ht
theorem aEE {n : Nat} (h : p.l.length = p.free.length + n) (hn : (n : Int) < p.most) : ∃ a, p.at_ = some a := by
 unfold at_
 cases hl : p.free.getLast? with
 | some a => exact ⟨a, rfl⟩
 | none =>
  have hf : p.free = [] := List.getLast?_eq_none_iff.1 hl
  rw [hf] at h
  simp only [List.length_nil] at h
  exact ⟨p.l.length, by simp only; rw [if_neg (by omega)]⟩
end PS
def uN (o h : dG) (x : mY) : mY := if x.h = o then { x with h := h } else x
theorem aBx (o h : dG) (x : mY) : (uN o h x).r = x.r ∧ (uN o h x).c = x.c ∧ (uN o h x).e = x.e := by unfold uN; split <;> exact ⟨rfl, rfl, rfl⟩
theorem wZ {o h z : dG} (h1 : z ≠ h) (h2 : z ≠ o) : ∀ I : List mY, dX (I.map (uN o h)) z = dX I z
 | [] => rfl
 | x :: I => by
  have ih := wZ h1 h2 I
  rw [List.map_cons, show uN o h x :: I.map (uN o h) = [uN o h x] ++ I.map (uN o h) from rfl, show x :: I = [x] ++ I from rfl, mP, mP, ih]
  congr 1
  unfold uN
  by_cases e : x.h = o
  ·rw [if_pos e, pM (fun e' => h1 e'.symm), pM (fun e' => h2 (by rw [← e', e]))]
  ·rw [if_neg e]
theorem aCi {o h : dG} (eE : h ≠ o) : ∀ I : List mY, (dX (I.map (uN o h)) h).Perm (dX I h ++ dX I o)
 | [] => List.Perm.refl _
 | x :: I => by
  have ih := aCi eE I
  rw [List.map_cons, show uN o h x :: I.map (uN o h) = [uN o h x] ++ I.map (uN o h) from rfl, show x :: I = [x] ++ I from rfl, mP, mP, mP [x] I o]
  unfold uN at ih ⊢
  by_cases e : x.h = o
  ·rw [if_pos e, tI rfl, pM (h := h) (fun e' => eE (by rw [← e', e])), tI e, List.nil_append]
   exact (ih.cons _).trans List.perm_middle.symm
  ·rw [if_neg e, pM e, List.nil_append]
   by_cases e2 : x.h = h
   ·rw [tI e2]; exact ih.cons _
   ·rw [pM e2]; exact ih
section
variable {S : QS} {tm : Int}
theorem dR.next {I : List mY} {H : List Hv} (h : dR S I H tm) (hlen : (I.length : Int) < S.most) : S.α.next ≠ none := fun e => by
 have h1 := AS.aBA h.inv e
 have := h.al
 have := h.an
 omega
theorem dR.aLK {I : List mY} {H : List Hv} (h : dR S I H tm) (hlen : (I.length : Int) < S.most) : ∃ a, S.ip.at_ = some a := PS.aEE h.il (by rw [h.im]; exact hlen)
theorem dR.aLG {I : List mY} {H : List Hv} (h : dR S I H tm) (hlen : H.length < 64) : ∃ a, S.hp.at_ = some a := PS.aEE h.hl (by rw [h.hm]; omega)
theorem dR.aIg {IA IB : List mY} {x : mY} {A B : List Hv} {y : Hv} (h : dR S (IA ++ x :: IB) (A ++ y :: B) tm) (hxy : x.h = y.h) {α1 β : AS} {key r' : Int} {N' : List Nat} {L' : List cC} {j j2 : Int}
  (hL : (dX (IA ++ x :: IB) y.h).Perm (x.held :: L')) (hα : AS.Sm j (S.α.put x.c 7 key) α1) (hkh : KH y.k β r' ((x.c, (key, x.e.2)) :: L') N') (hless : aHY ((x.c, (key, x.e.2)) :: L') N' (x.held :: L') y.N) (heff : AS.lE (fun c => c ∈ fD (x.held :: L') y.N) (fun _ => False) 0 j2 α1 β) (hβ : β.Inv) :
  dR { S with α := β, hp := S.hp.put y.h.1.toNat (y.k, r', ((dX (IA ++ x :: IB) y.h).length : Int)), en := fT S.en x.r (some (key, x.e.2)) } (IA ++ { x with e := (key, x.e.2) } :: IB) (A ++ { y with root := r', N := N' } :: B) tm := by
 have hyM : y ∈ A ++ y :: B := by simp
 have hxM : x ∈ IA ++ x :: IB := by simp
 have hold : ∀ z ∈ IA ++ IB, z ∈ IA ++ x :: IB := fun z hz => by rcases List.mem_append.1 hz with h | h <;> simp [h]
 have hcas : ∀ z ∈ IA ++ { x with e := (key, x.e.2) } :: IB, z = { x with e := (key, x.e.2) } ∨ z ∈ IA ++ IB := fun z hz => by
  rcases List.mem_append.1 hz with hz | hz
  ·exact .inr (by simp [hz])
  ·rcases List.mem_cons.1 hz with hz | hz
   ·exact .inl hz
   ·exact .inr (by simp [hz])
 have hnr := h.ind
 rw [List.map_append, List.map_cons] at hnr
 obtain ⟨nr1, nr2, nr3⟩ := kO hnr
 have hrne : ∀ z ∈ IA ++ IB, z.r ≠ x.r := fun z hz e => by
  rcases List.mem_append.1 hz with h | h
  ·exact nr2 (List.mem_map.2 ⟨z, h, e⟩)
  ·exact nr3 (List.mem_map.2 ⟨z, h, e⟩)
 have hL2 : (dX (IA ++ x :: IB) y.h).Perm (x.held :: dX (IA ++ IB) y.h) := by rw [← hxy]; exact x8 IA IB x
 have hL3 : (dX (IA ++ { x with e := (key, x.e.2) } :: IB) y.h).Perm ((x.c, (key, x.e.2)) :: dX (IA ++ IB) y.h) := by
  have := x8 IA IB { x with e := (key, x.e.2) }
  rw [← hxy]; exact this
 have hLL : L'.Perm (dX (IA ++ IB) y.h) := List.Perm.cons_inv (hL.symm.trans hL2)
 have hPn : ((x.c, (key, x.e.2)) :: L').Perm (dX (IA ++ { x with e := (key, x.e.2) } :: IB) y.h) := (hLL.cons _).trans hL3.symm
 have hxc : x.c ∈ jF (IA ++ x :: IB) y := List.mem_append_right _ (List.mem_map.2 ⟨x.held, qJ.2 ⟨x, hxM, hxy, rfl⟩, rfl⟩)
 have hcK : ∀ c, c ∈ fD (x.held :: L') y.N ↔ c ∈ jF (IA ++ x :: IB) y := fun c => (jR hL (List.Perm.refl y.N)).mem_iff.symm
 have hlen2 : (dX (IA ++ { x with e := (key, x.e.2) } :: IB) y.h).length = (dX (IA ++ x :: IB) y.h).length := by rw [hL3.length_eq, hL2.length_eq]; rfl
 have e2 : AS.lE (fun c => c ∈ jF (IA ++ x :: IB) y) (fun _ => False) 0 (0 + j + j2) S.α β :=
  ((((AS.Sm.refl (α := S.α)).o0 (S := fun c => c ∈ jF (IA ++ x :: IB) y) (L := fun _ => False)).put (f := 7) (v := key) (c := x.c) hxc).trans hα.o0).trans (heff.mono (fun c hc => (hcK c).1 hc) (fun _ h => h) (Int.le_refl _))
 have hI2 : ∀ z ∈ A ++ B, dX (IA ++ { x with e := (key, x.e.2) } :: IB) z.h = dX (IA ++ x :: IB) z.h := fun z hz => by
  have fO := h.fO
  rw [List.map_append, List.map_cons] at fO
  obtain ⟨n1, n2, n3⟩ := kO fO
  have eE : x.h ≠ z.h := fun e => by
   have e' : z.h = y.h := e.symm.trans hxy
   rcases List.mem_append.1 hz with h | h
   ·exact n2 (List.mem_map.2 ⟨z, h, e'⟩)
   ·exact n3 (List.mem_map.2 ⟨z, h, e'⟩)
  rw [sH IA IB x eE]
  exact sH IA IB { x with e := (key, x.e.2) } eE
 have hcel : ∀ c ∈ jF (IA ++ { x with e := (key, x.e.2) } :: IB) { y with root := r', N := N' }, c ∈ jF (IA ++ x :: IB) y ∨ S.α.live c = false := fun c hc => .inl ((hcK c).1 (hless c ((jR hPn (List.Perm.refl N')).mem_iff.2 hc)))
 have uV := PS.uT (p := S.hp) (a := y.h.1.toNat) (v := (y.k, r', ((dX (IA ++ x :: IB) y.h).length : Int))) (x := ⟨y.h.2, true, (y.k, y.root, ((dX (IA ++ x :: IB) y.h).length : Int))⟩) (by
  obtain ⟨j, q1, q2, _⟩ := PS.bH (h.hf y hyM)
  rw [q1, Int.toNat_natCast]; exact q2)
 refine ⟨h.m1, h.m2, by show (β.n : Int) = _; rw [e2.n]; exact h.an, ?_, hβ, h.ho.put _ _, h.io, ?_, ?_, by rw [uV.2.2]; exact h.hm, h.im, ?_, h.ill, fun x hx => ?_, h.ig, PS.aHg h.hg1 _ _, h.ig1, h.tm0, ?_, fun z hz => ?_, ?_, ?_, ?_, fun z hz => ?_, fun z hz => ?_, fun k r hk => ?_, fun z hz => ?_, ?_, h.nx⟩
 ·show β.len = _
  have := e2.len
  have := h.al
  simp only [List.length_append, List.length_cons] at this ⊢
  omega
 ·rw [uV.1, uV.2.1, List.length_set, h.hl]; simp
 ·have := h.il
  simp only [List.length_append, List.length_cons] at this ⊢
  exact this
 ·rw [uV.1, List.length_set]; exact h.hll
 ·obtain ⟨z, hz, e⟩ := PS.aAf hx
  have := h.hg z hz
  omega
 ·have := yZ (p := S.hp) (I' := IA ++ { x with e := (key, x.e.2) } :: IB) (y' := { y with root := r', N := N' }) h.fO rfl h.hf hI2
  rw [show (({ y with root := r', N := N' } : Hv).h) = y.h from rfl, hlen2] at this
  exact this
 ·rcases hcas z hz with rfl | hz
  ·exact h.jf x hxM
  ·exact h.jf z (hold z hz)
 ·have := h.fO
  simp only [List.map_append, List.map_cons] at this ⊢
  exact this
 ·have := h.ind
  simp only [List.map_append, List.map_cons] at this ⊢
  exact this
 ·have := h.icd
  simp only [List.map_append, List.map_cons] at this ⊢
  exact this
 ·have hzo : ∃ z0 ∈ IA ++ x :: IB, z0.h = z.h := by
   rcases hcas z hz with rfl | hz
   ·exact ⟨x, hxM, rfl⟩
   ·exact ⟨z, hold z hz, rfl⟩
  obtain ⟨z0, hz0, e0⟩ := hzo
  obtain ⟨u, hu, e⟩ := h.ih z0 hz0
  rw [e0] at e
  rcases List.mem_append.1 hu with hu | hu
  ·exact ⟨u, by simp [hu], e⟩
  ·rcases List.mem_cons.1 hu with hu | hu
   ·exact ⟨{ y with root := r', N := N' }, by simp, by rw [← e, hu]⟩
   ·exact ⟨u, by simp [hu], e⟩
 ·rcases hcas z hz with rfl | hz
  ·exact h.at1 x hxM
  ·exact h.at1 z (hold z hz)
 ·obtain ⟨z, hz, e⟩ := h.at2 _ _ hk
  rcases List.mem_append.1 hz with hz | hz
  ·exact ⟨z, by simp [hz], e⟩
  ·rcases List.mem_cons.1 hz with hz | hz
   ·exact ⟨{ x with e := (key, x.e.2) }, by simp, by rw [← e, hz]⟩
   ·exact ⟨z, by simp [hz], e⟩
 ·show fT S.en x.r _ z.r = some z.e
  unfold fT
  rcases hcas z hz with rfl | hz
  ·rw [if_pos rfl]
  ·rw [if_neg (hrne z hz)]; exact h.en1 z (hold z hz)
 ·exact h.hs.step (y' := { y with root := r', N := N' }) h.fO rfl hI2 (hkh.perm hPn (List.Perm.refl _)) e2 (fun c hc => .inl hc) (fun c hc => hc.elim) hcel
theorem aHj {I : List mY} (hf : ∀ x ∈ I, S.ip.find x.r.1 x.r.2 = some ((x.c : Int), x.h.1, x.h.2)) {x : mY} (hx : x ∈ I) (o : dG) : ((x.r.1, x.r.2) ∈ oM S.ip o.1 o.2) ↔ x.h = o := by
 have h1 := hf x hx
 unfold oM
 rw [List.mem_filter]
 simp only [h1, decide_eq_true_eq]
 constructor
 ·rintro ⟨_, h2, h3⟩; exact Prod.ext h2 h3
 ·intro e
  refine ⟨?_, by rw [e], by rw [e]⟩
  obtain ⟨j, q1, q2, q3⟩ := PS.bH h1
  refine qL.2 ⟨j, _, q2, rfl, ?_⟩
  simp [q1]
theorem aGJ {I : List mY} {H : List Hv} (h : dR S I H tm) {y z : Hv} (hy : y ∈ H) (hz : z ∈ H) (eE : z.h ≠ y.h) : z.h.1 ≠ y.h.1 := fun e => by
 obtain ⟨j1, q1, q2, _⟩ := PS.bH (h.hf z hz)
 obtain ⟨j2, q3, q4, _⟩ := PS.bH (h.hf y hy)
 have hj : j1 = j2 := by omega
 subst hj
 rw [q2] at q4
 have hg : z.h.2 = y.h.2 := by injection q4 with q4; injection q4
 exact eE (Prod.ext e hg)
theorem dR.mC {I : List mY} {B : List Hv} {y y2 : Hv} (h : dR S I (y :: y2 :: B) tm) {β : AS} {r' : Int} {N' : List Nat} {j : Int}
  (hkh : KH y.k β r' (dX I y.h ++ dX I y2.h) N') (hsub : ∀ c ∈ fD (dX I y.h ++ dX I y2.h) N', c ∈ jF I y ∨ c ∈ jF I y2) (heff : AS.lE (fun c => c ∈ jF I y ∨ c ∈ jF I y2) (fun _ => False) 0 j S.α β) (hβ : β.Inv) :
  dR { S with α := β, hp := (S.hp.fZ z3 y2.h.1.toNat).put y.h.1.toNat (y.k, r', ((dX I y.h).length : Int) + (dX I y2.h).length), ip := reh S.ip (oM S.ip y2.h.1 y2.h.2) y.h.1 y.h.2 } (I.map (uN y2.h y.h)) ({ y with root := r', N := N' } :: B) tm := by
 have fO := h.fO
 rw [List.map_cons, List.map_cons, List.nodup_cons, List.nodup_cons] at fO
 obtain ⟨n1, n2, n3⟩ := fO
 have hy : y ∈ y :: y2 :: B := by simp
 have hy2 : y2 ∈ y :: y2 :: B := by simp
 have hB : ∀ z ∈ B, z ∈ y :: y2 :: B := fun z hz => by simp [hz]
 have eE : y.h ≠ y2.h := fun e => n1 (by rw [e]; simp)
 have hz1 : ∀ z ∈ B, z.h ≠ y.h := fun z hz e => n1 (by rw [← e]; exact List.mem_cons_of_mem _ (List.mem_map.2 ⟨z, hz, rfl⟩))
 have hz2 : ∀ z ∈ B, z.h ≠ y2.h := fun z hz e => n2 (by rw [← e]; exact List.mem_map.2 ⟨z, hz, rfl⟩)
 have hI1 := aCi eE I
 have hI2 : ∀ z ∈ B, dX (I.map (uN y2.h y.h)) z.h = dX I z.h := fun z hz => wZ (hz1 z hz) (hz2 z hz) I
 have hmr : (I.map (uN y2.h y.h)).map (·.r) = I.map (·.r) := by rw [List.map_map]; exact List.map_congr_left fun x _ => (aBx _ _ x).1
 have hmc : (I.map (uN y2.h y.h)).map (·.c) = I.map (·.c) := by rw [List.map_map]; exact List.map_congr_left fun x _ => (aBx _ _ x).2.1
 have f1 := h.hf y hy
 have f2 := h.hf y2 hy2
 obtain ⟨k2, k21, k22, k23⟩ := PS.bH f2
 have hk2 : y2.h.1.toNat = k2 := by rw [k21, Int.toNat_natCast]
 rw [hk2]
 have hgl := PS.vC (p := S.hp) z3 k22
 have fg : ∀ z ∈ y :: y2 :: B, z.h ≠ y2.h → ∀ w, S.hp.find z.h.1 z.h.2 = some w → (S.hp.fZ z3 k2).find z.h.1 z.h.2 = some w := fun z hz hzz w hw => PS.vX z3 k22 _ _ _ (fun e => aGJ h hy2 hz hzz (by rw [e, k21])) hw
 have f1' := fg y hy eE _ f1
 obtain ⟨p1, p2⟩ := PS.aAO (y.k, r', ((dX I y.h).length : Int) + (dX I y2.h).length) f1'
 have uV := PS.uT (p := S.hp.fZ z3 k2) (a := y.h.1.toNat) (v := (y.k, r', ((dX I y.h).length : Int) + (dX I y2.h).length)) (x := ⟨y.h.2, true, (y.k, y.root, ((dX I y.h).length : Int))⟩) (by
  obtain ⟨j, q1, q2, _⟩ := PS.bH f1'
  rw [q1, Int.toNat_natCast]; exact q2)
 refine ⟨h.m1, h.m2, by show (β.n : Int) = _; rw [heff.n]; exact h.an, ?_, hβ, (h.ho.fZ z3 k22 rfl).put _ _, aKL h.io, ?_, ?_, by rw [uV.2.2, hgl.2.2]; exact h.hm, h.im, ?_, by rw [aCt]; exact h.ill, fun x hx => ?_, fun x hx => ?_, PS.aHg (PS.aIp h.hg1 _ _) _ _, fun x hx ht => ?_, h.tm0, fun z hz => ?_, fun z hz => ?_, ?_, ?_, ?_, fun z hz => ?_, fun z hz => ?_, fun k r hk => ?_, fun z hz => ?_, ⟨fun z hz => ?_, fun z hz z' hz' hzz c hc hc' => ?_⟩, h.nx⟩
 ·show β.len = _
  have := heff.len
  have := h.al
  rw [List.length_map]
  omega
 ·rw [uV.1, uV.2.1, List.length_set, hgl.1, hgl.2.1, List.length_set]
  have := h.hl
  simp only [List.length_append, List.length_cons, List.length_nil] at this ⊢
  omega
 ·rw [aCt, List.length_map]; exact h.il
 ·rw [uV.1, List.length_set, hgl.1, List.length_set]; exact h.hll
 ·obtain ⟨z, hz, e⟩ := PS.aAf hx
  obtain ⟨u, hu, e'⟩ := PS.aCV hz
  have := h.hg u hu
  omega
 ·obtain ⟨z, hz, e, _⟩ := aET hx
  have := h.ig z hz
  omega
 ·obtain ⟨z, hz, e, et⟩ := aET hx
  have := h.ig1 z hz (by rw [← et]; exact ht)
  omega
 ·rcases List.mem_cons.1 hz with rfl | hz
  ·have hl2 : ((dX (I.map (uN y2.h y.h)) y.h).length : Int) = ((dX I y.h).length : Int) + (dX I y2.h).length := by rw [hI1.length_eq, List.length_append]; omega
   show PS.find _ y.h.1 y.h.2 = some (y.k, r', ((dX (I.map (uN y2.h y.h)) y.h).length : Int))
   rw [hl2]; exact p1
  ·rw [hI2 z hz]
   exact p2 _ _ _ (aGJ h hy (hB z hz) (hz1 z hz)) (fg z (hB z hz) (hz2 z hz) _ (h.hf z (hB z hz)))
 ·obtain ⟨x, hx, rfl⟩ := List.mem_map.1 hz
  obtain ⟨e1, e2, e3⟩ := aBx y2.h y.h x
  rw [e1, e2]
  show (reh S.ip _ _ _).find _ _ = _
  rw [aCS (h.jf x hx)]
  by_cases e : x.h = y2.h
  ·rw [if_pos ((aHj h.jf hx y2.h).2 e)]
   unfold uN
   rw [if_pos e]
  ·rw [if_neg fun hm => e ((aHj h.jf hx y2.h).1 hm)]
   unfold uN
   rw [if_neg e]
 ·rw [List.map_cons, List.nodup_cons]
  refine ⟨fun hm => ?_, n3⟩
  obtain ⟨z, hz, e⟩ := List.mem_map.1 hm
  exact hz1 z hz e
 ·rw [hmr]; exact h.ind
 ·rw [hmc]; exact h.icd
 ·obtain ⟨x, hx, rfl⟩ := List.mem_map.1 hz
  obtain ⟨u, hu, e⟩ := h.ih x hx
  by_cases e2 : x.h = y2.h
  ·exact ⟨_, List.mem_cons_self, by unfold uN; rw [if_pos e2]⟩
  ·rcases List.mem_cons.1 hu with hu | hu
   ·refine ⟨_, List.mem_cons_self, ?_⟩
    unfold uN
    rw [if_neg e2, ← e, hu]
   ·rcases List.mem_cons.1 hu with hu | hu
    ·exact absurd (by rw [← e, hu]) e2
    ·refine ⟨u, List.mem_cons_of_mem _ hu, ?_⟩
     unfold uN
     rw [if_neg e2, e]
 ·obtain ⟨x, hx, rfl⟩ := List.mem_map.1 hz
  obtain ⟨e1, e2, e3⟩ := aBx y2.h y.h x
  rw [e1, e2]; exact h.at1 x hx
 ·obtain ⟨x, hx, e⟩ := h.at2 _ _ hk
  exact ⟨_, List.mem_map.2 ⟨x, hx, rfl⟩, by rw [(aBx y2.h y.h x).2.1]; exact e⟩
 ·obtain ⟨x, hx, rfl⟩ := List.mem_map.1 hz
  obtain ⟨e1, e2, e3⟩ := aBx y2.h y.h x
  rw [e1, e3]; exact h.en1 x hx
 ·rcases List.mem_cons.1 hz with rfl | hz
  ·exact hkh.perm hI1.symm (List.Perm.refl _)
  ·rw [hI2 z hz]
   refine (h.hs.kh z (hB z hz)).o0 heff (fun c hc hs => ?_) (fun c hc hs => hs)
   rcases hs with hs | hs
   ·exact h.hs.d1 z (hB z hz) y hy (hz1 z hz) c hc hs
   ·exact h.hs.d1 z (hB z hz) y2 hy2 (hz2 z hz) c hc hs
 ·have hc0 : ∀ c, c ∈ jF (I.map (uN y2.h y.h)) { y with root := r', N := N' } → c ∈ jF I y ∨ c ∈ jF I y2 := fun c hc => hsub c ((jR hI1 (List.Perm.refl N')).mem_iff.1 hc)
  have hcz : ∀ z ∈ B, jF (I.map (uN y2.h y.h)) z = jF I z := fun z hz => by unfold jF; rw [hI2 z hz]
  have hno : ∀ z ∈ B, ∀ c ∈ jF I z, ¬ (c ∈ jF I y ∨ c ∈ jF I y2) := fun z hz c hc hs => by
   rcases hs with hs | hs
   ·exact h.hs.d1 z (hB z hz) y hy (hz1 z hz) c hc hs
   ·exact h.hs.d1 z (hB z hz) y2 hy2 (hz2 z hz) c hc hs
  rcases List.mem_cons.1 hz with e0 | hz
  ·rw [e0] at hc hzz
   rcases List.mem_cons.1 hz' with e1 | hz'
   ·exact hzz (by rw [e1])
   ·rw [hcz z' hz'] at hc'
    exact hno z' hz' c hc' (hc0 c hc)
  ·rw [hcz z hz] at hc
   rcases List.mem_cons.1 hz' with e1 | hz'
   ·rw [e1] at hc'
    exact hno z hz c hc (hc0 c hc')
   ·rw [hcz z' hz'] at hc'
    exact h.hs.d1 z (hB z hz) z' (hB z' hz') hzz c hc hc'
theorem dR.make {I : List mY} {H : List Hv} (h : dR S I H tm) {a : Nat} {k : Int} (hk1 : 1 ≤ k) (hk3 : k ≤ 3) (hat : S.hp.at_ = some a) :
  dR { S with hp := S.hp.take z3 a (k, -1, 0) } I (H ++ [⟨((a : Int), S.hp.gen a), k, -1, []⟩]) (tm + 1) ∧ dX I ((a : Int), S.hp.gen a) = [] := by
 have g1 := PS.aCH h.hg h.tm0 a
 obtain ⟨t1, t2, t3, t4, t5, t6, t7⟩ := PS.zD h.ho hat z3 (k, -1, 0)
 obtain ⟨f1, f2⟩ := PS.zH h.ho hat z3 (k, -1, 0) g1.1
 have hno : ∀ y ∈ H, y.h ≠ ((a : Int), S.hp.gen a) := fun y hy e => by
  have := h.hf y hy
  rw [e, h.ho.aCP hat] at this; cases this
 have hnil : dX I ((a : Int), S.hp.gen a) = [] := by
  unfold dX
  rw [List.map_eq_nil_iff, List.filter_eq_nil_iff]
  intro x hx e
  obtain ⟨y, hy, e'⟩ := h.ih x hx
  exact hno y hy (by rw [e']; simpa using e)
 refine ⟨⟨h.m1, h.m2, h.an, h.al, h.inv, h.ho.take hat _ _, h.io, ?_, h.il, by rw [t4]; exact h.hm, h.im, ?_, h.ill, fun x hx => ?_, fun x hx => ?_, PS.aIE h.ho h.hg1 hat g1.1 _ _, h.ig1, by have := h.tm0; omega, fun y hy => ?_, h.jf, ?_, h.ind, h.icd, fun x hx => ?_, h.at1, h.at2, h.en1, ⟨fun y hy => ?_, fun y hy y' hy' hyy c hc hc' => ?_⟩, ?_⟩, hnil⟩
 ·show (S.hp.take z3 a (k, -1, 0)).l.length = (S.hp.take z3 a (k, -1, 0)).free.length + _
  have := h.hl
  rw [List.length_append, List.length_singleton]
  omega
 ·show (S.hp.take z3 a (k, -1, 0)).l.length ≤ 64
  have := h.hll
  have := h.hm
  omega
 ·have := PS.aC1 hx
  have h0 := h.tm0
  rcases this with h1 | h1 | h1
  ·have := h.hg x h1; omega
  ·omega
  ·omega
 ·have := h.ig x hx; omega
 ·rcases List.mem_append.1 hy with hy | hy
  ·exact f2 _ _ _ (h.hf y hy)
  ·rw [List.mem_singleton.1 hy, hnil]; exact f1
 ·rw [List.map_append, List.nodup_append]
  refine ⟨h.fO, by simp, fun u hu v hv e => ?_⟩
  obtain ⟨y, hy, rfl⟩ := List.mem_map.1 hu
  simp only [List.map_cons, List.map_nil, List.mem_singleton] at hv
  exact hno y hy (e.trans hv)
 ·obtain ⟨y, hy, e⟩ := h.ih x hx
  exact ⟨y, List.mem_append_left _ hy, e⟩
 ·rcases List.mem_append.1 hy with hy | hy
  ·exact h.hs.kh y hy
  ·rw [List.mem_singleton.1 hy, hnil]
   exact KH.nil hk1 hk3
 ·have hcn : ∀ c, c ∉ jF I (⟨((a : Int), S.hp.gen a), k, -1, []⟩ : Hv) := fun c hc => by
   unfold jF at hc
   rw [hnil] at hc
   cases hc
  rcases List.mem_append.1 hy with hy | hy
  ·rcases List.mem_append.1 hy' with hy' | hy'
   ·exact h.hs.d1 y hy y' hy' hyy c hc hc'
   ·rw [List.mem_singleton.1 hy'] at hc'
    exact hcn c hc'
  ·rw [List.mem_singleton.1 hy] at hc
   exact hcn c hc
 ·have := h.nx
  show 0 ≤ S.next ∧ S.next ≤ tm + 1
  omega
theorem dR.aKY {most : Nat} (h1 : 1 ≤ most) (h2 : most ≤ 300) : dR ⟨most, 0, AS.new (2 * most), ⟨64, [], []⟩, ⟨most, [], []⟩, fun _ => Option.none, fun _ => Option.none⟩ [] [] 0 := by
 refine ⟨by show (1 : Int) ≤ (most : Int); omega, by show (most : Int) ≤ 300; omega, by show ((2 * most : Nat) : Int) = 2 * (most : Int); omega, ?_, ?_, PS.Ok.nil _, PS.Ok.nil _, rfl, rfl, rfl, rfl, by simp, by show ((0 : Nat) : Int) ≤ most; omega, fun x hx => (by cases hx), fun x hx => (by cases hx), fun x hx => (by cases hx), fun x hx => (by cases hx), Int.le_refl _, fun x hx => (by cases hx), fun x hx => (by cases hx), List.nodup_nil, List.nodup_nil, List.nodup_nil, fun x hx => (by cases hx), fun x hx => (by cases hx), fun _ _ h => (by cases h), fun x hx => (by cases hx), ⟨fun x hx => (by cases hx), fun x hx => (by cases hx)⟩, Int.le_refl _, Int.le_refl _⟩
 ·show (AS.new (2 * most)).len = 0
  rfl
 ·exact AS.aEH (by omega)
end
end HL
namespace HL
section
variable {w0 : World} {F M : Mem}
theorem aA.oG {A P P' : cY} (h : aA w0 F M (star A P)) (f : ∀ F M, aA w0 F M P → aA w0 F M P') : aA w0 F M (star A P') := by
 obtain ⟨F', h1, _, back⟩ := h.last
 exact back M P' (f _ _ h1)
theorem aA.dp {X A B D E G : cY} (h : aA w0 F M (star X (star A (star B (star D (star E G)))))) : aA w0 F M (star A (star B (star D (star E (star X G))))) :=
 h.dT.oG fun _ _ h => h.dT.oG fun _ _ h => h.dT.oG fun _ _ h => h.dT
theorem aA.up {X A B D E G : cY} (h : aA w0 F M (star A (star B (star D (star E (star X G)))))) : aA w0 F M (star X (star A (star B (star D (star E G))))) :=
 (h.oG fun _ _ h => (h.oG fun _ _ h => (h.oG fun _ _ h => h.dT).dT).dT).dT
theorem aA.aK0 {A B D E : cY} (h : aA w0 F M (star A (star B (star D E)))) : aA w0 F M (star D (star A (star B E))) := (h.oG fun _ _ h => h.dT).dT
theorem aA.lO {A B D E : cY} (h : aA w0 F M (star D (star A (star B E)))) : aA w0 F M (star A (star B (star D E))) := h.dT.oG fun _ _ h => h.dT
theorem HO.uJ {os : uX} {A B D E G : cY} (h : HO w0 F M os (star A (star B (star D (star E G))))) : ∃ F', aA w0 F' M E ∧ Mem.le F F' ∧ ∀ M' E', aA w0 F' M' E' → HO w0 F M' os (star A (star B (star D (star E' G)))) := by
 obtain ⟨F1, h1, l1, back1⟩ := h.aJ5
 obtain ⟨F2, h2, l2, back2⟩ := h1.comm.last
 exact ⟨F2, h2, Mem.le_trans l1 l2, fun M' E' h' => back1 _ _ (back2 _ _ h').comm⟩
end
abbrev tQs : TypeId := 95
abbrev aAQ : TypeId := 46
abbrev aAh : TypeId := 35
abbrev qV (a t me : Nat) (most next : Int) : List Value := [.int .i64 most, .pointer (some ⟨a, 0, none⟩), .pointer (some ⟨t, 0, none⟩), .map (some me), .int .i64 next]
abbrev QA (q a t bh bi me : Nat) (S : QS) (Q : cY) : cY := star (wP bh S.hp) (star (q9 bi S.ip) (star (aY q (qV a t me S.most S.next) tQs) (star (aE a S.α) Q)))
abbrev kX (why h1 h2 i1 i2 e1 e2 n : Int) : List Value := [.int .i64 why, .int .i64 h1, .int .i64 h2, .int .i64 i1, .int .i64 i2, .int .i64 e1, .int .i64 e2, .int .i64 n]
abbrev m8 (op k h1 h2 o1 o2 i1 i2 key : Int) : List Value := [.int .i64 op, .int .i64 k, .int .i64 h1, .int .i64 h2, .int .i64 o1, .int .i64 o2, .int .i64 i1, .int .i64 i2, .int .i64 key]
theorem dS {a b c d e f g h : Int} : ∀ v ∈ kX a b c d e f g h, bQ v = true := by
 intro v hv
 simp only [kX, List.mem_cons, List.not_mem_nil, or_false] at hv
 rcases hv with rfl | rfl | rfl | rfl | rfl | rfl | rfl | rfl <;> rfl
theorem pX : gM PP aAQ 8 = true := W.g46
theorem aJz : gM PP aAh 9 = true := W.g35
theorem qE {cs : List Value} {o : Nat} {x y : Value} (h0 : cs[o]? = some x) (h1 : cs[o + 1]? = some y) : ∀ j u, ([x, y] : List Value)[j]? = some u → cs[o + j]? = some u := fun j u hj => by
 match j, hj with
 | 0, hj => rw [← hj]; exact h0
 | 1, hj => rw [← hj]; exact h1
 | j + 2, hj => simp at hj
def mJ (e : cW) : Value := .agg #[.int .i64 e.1, .int .i64 e.2]
section
variable {w0 : World} {F M : Mem} {R : VP} {os : uX} {q a t bh bi ma me : Nat} {S : QS} {Q : cY} {I : List mY} {H : List Hv} {tm most next : Int} {oa oe : Obj}
theorem Q0 (o : cM w0 M q (qV a t me most next) tQs) : (aH PP w0).ld 3 ⟨q, 0, none⟩ M = some (.int .i64 most) := lR W.c3 o rfl
theorem Q1 (o : cM w0 M q (qV a t me most next) tQs) : (aH PP w0).ld 89 ⟨q, 1, none⟩ M = some (.pointer (some ⟨a, 0, none⟩)) := lR (by kernel_rfl) o rfl
theorem Q2 (o : cM w0 M q (qV a t me most next) tQs) : (aH PP w0).ld 91 ⟨q, 2, none⟩ M = some (.pointer (some ⟨t, 0, none⟩)) := lR (by kernel_rfl) o rfl
theorem Q3 (o : cM w0 M q (qV a t me most next) tQs) : (aH PP w0).ld 93 ⟨q, 3, none⟩ M = some (.map (some me)) := lR (by kernel_rfl) o rfl
theorem Q4 (o : cM w0 M q (qV a t me most next) tQs) : (aH PP w0).ld 2 ⟨q, 4, none⟩ M = some (.int .i64 next) := lR W.c2 o rfl
theorem HO.qo (h : HO w0 F M os (QA q a t bh bi me S Q)) : cM w0 M q (qV a t me S.most S.next) tQs := h.h.right.right.bA
theorem aDC {A : cY} {why : Int} (h : HO w0 F M os A) (hK : ∀ M', HO w0 F M' os A → R (.agg (kX why 0 0 0 0 0 0 0).toArray) M') : C PP w0 Id.iY #[.int .i64 why] R M := by
 apply iY.go
 unfold iY.T aJ
 refine jI h fun b1 M1 _ h1 => ?_
 have hbld : (aH PP w0).nM aAQ [(0, .int .i64 why)] = some (.agg (kX why 0 0 0 0 0 0 0).toArray) := by kernel_rfl
 simp only [hbld, aC, a9, aU, aL, aT]
 exact jJ pX (by rfl) dS h1 fun M2 h2 => hK M2 h2
theorem dR.fresh {A B : List Hv} {y : Hv} (h : dR S I (A ++ y :: B) tm) {key : Int} {c : Nat} {α1 : AS} {j1 : Int} (hlen : (I.length : Int) < S.most)
  (hc : S.α.next = some c) (hα1 : AS.Sm j1 ((S.α.take.put c 7 key).put c 8 S.next) α1) (hi1 : α1.Inv) :
  KH y.k α1 y.root (dX I y.h) y.N ∧ c ∉ fD (dX I y.h) y.N ∧ α1.live c = true ∧ α1.get c 7 = key ∧ α1.get c 8 = S.next ∧ α1.next ≠ none := by
 have hyM : y ∈ A ++ y :: B := by simp
 obtain ⟨c1, c2, c3⟩ := AS.kS h.inv hc
 have hcn : c ∉ fD (dX I y.h) y.N := fun hm => by
  have := (h.hs.kh y hyM).live c hm
  rw [c2] at this; cases this
 have e1 : AS.lE (fun x => x = c) (· = c) 1 (0 + j1) S.α α1 := (((AS.vU (S := fun x => x = c) (L := (· = c)) h.inv hc rfl rfl).put (f := 7) (v := key) (c := c) rfl).put (f := 8) (v := S.next) (c := c) rfl).trans hα1.o0
 refine ⟨(h.hs.kh y hyM).o0 e1 (fun x hx e => hcn (e ▸ hx)) (fun x hx e => hcn (e ▸ hx)), hcn, ?_, ?_, ?_, fun e => ?_⟩
 ·rw [hα1.live]
  show S.α.take.live c = true
  exact (AS.xD h.inv hc).2
 ·rw [hα1.get]
  simp [AS.put]
 ·rw [hα1.get]
  simp [AS.put]
 ·have h1 := AS.aBA hi1 e
  have := e1.len
  have := e1.n
  have := h.al
  have := h.an
  omega
theorem dR.uV (h : dR S I H tm) : S.hp.l.length ≤ 10000 ∧ S.hp.free.length ≤ 10000 := by
 have := h.hll
 have := h.hl
 omega
theorem dR.ipl (h : dR S I H tm) : S.ip.l.length ≤ 10000 ∧ S.ip.free.length ≤ 10000 ∧ S.ip.free.length ≤ S.ip.l.length := by
 have := h.ill
 have := h.il
 have := h.m2
 omega
theorem aDL {A B : List Hv} {y : Hv} {op k p1 p2 s1 s2 key : Int} (oT : cM w0 F t (wS bh bi ma) wN) (hv : dR S I (A ++ y :: B) tm) (htm : tm ≤ 900000) (hlen : (I.length : Int) < S.most)
  (hfa : dF (Value.int .i64) bX S.at_ oa) (hfe : dF bX mJ S.en oe) (h : HO w0 F M ((ma, oa) :: (me, oe) :: os) (QA q a t bh bi me S Q))
  (hK : ∀ M' S' oa' oe' i y', S.ip.at_ = some i → dF (Value.int .i64) bX S'.at_ oa' → dF bX mJ S'.en oe' → HO w0 F M' ((ma, oa') :: (me, oe') :: os) (QA q a t bh bi me S' Q) →
   y'.h = y.h → y'.k = y.k → (∃ c, dR S' (I ++ [⟨((i : Int), S.ip.gen i), y.h, c, (key, S.next)⟩]) (A ++ y' :: B) (tm + 1)) → S'.most = S.most → S'.next = S.next + 1 → S'.ip.pl = S.ip.pl.take i 0 → (∃ Sx Lx d, AS.lE Sx Lx d (3 + dJ (I.length + 1)) S.α S'.α) →
   R (.agg (kX 0 0 0 i (S.ip.gen i) key S.next 0).toArray) M') :
  C PP w0 Id.kR #[.pointer (some ⟨q, 0, none⟩), .agg (m8 op k y.h.1 y.h.2 p1 p2 s1 s2 key).toArray] R M := by
 have hyM : y ∈ A ++ y :: B := by simp
 obtain ⟨hl1, hl2⟩ := hv.uV
 obtain ⟨hl3, hl4, hl5⟩ := hv.ipl
 have hfy := hv.hf y hyM
 apply kR.go
 unfold kR.T aJ
 refine rQ h fun b1 F1 M1 l1 lm1 o1 h1 => ?_
 have oT1 := oT.le l1
 refine jI h1 fun b3 M2 lm2 h2' => ?_
 have h2 := h2'.aW aA.dp
 have hR1 : ∀ {M' : Mem} {e : TypeId}, cM w0 M' b1 (m8 op k y.h.1 y.h.2 p1 p2 s1 s2 key) e → (aH PP w0).ld 33 ⟨b1, 2, none⟩ M' = some (.agg #[.int .i64 y.h.1, .int .i64 y.h.2]) := fun o => kE (vs := [.int .i64 y.h.1, .int .i64 y.h.2]) aZ o (qE rfl rfl)
 simp only [aX, add_eq, Nat.zero_add, Q2 h2.qo, aC, bK, hR1 (o1.le h2.fr), a9, aU, aL, aT]
 refine pS oT1 h2 (by omega) hfy fun M3 h3 => ?_
 simp only [cA, aU, aL, aT]
 rw [cD, if_pos rfl]
 simp only [aX, add_eq, Nat.zero_add, Q2 h3.qo, Q0 h3.qo, aC, bK, aL]
 refine aF9 oT1 (h3.aW aA.dT) (by omega) hl5 ?_
 simp only [aL, Q0 h3.qo, true_and]
 have hil := hv.il
 have him := hv.m2
 rw [eO, if_neg (by omega)]
 have hbld : (aH PP w0).nM 44 [(0, .int .i64 key), (1, .int .i64 S.next)] = some (.agg #[.int .i64 key, .int .i64 S.next]) := by kernel_rfl
 simp only [aX, add_eq, Nat.zero_add, lR W.c2 (o1.le h3.fr) (o := 8) rfl, Q4 h3.qo, aC, aL, hbld, a9, aU, aT]
 refine jI h3 fun b5 M4 lm4 h4 => ?_
 refine ⟨lR W.c2 (o1.le h4.fr) (o := 8) rfl, Q4 h4.h.right.right.right.bA, ?_⟩
 refine vY aCo (by rfl) iL h4 fun F5 M5 l5 o5 h5 => ?_
 have oT5 := oT1.le l5
 have o15 := o1.le l5
 simp only [aX, add_eq, Nat.zero_add, Q1 h5.qo, lR W.c2 (o5.le h5.fr) (o := 0) rfl, lR W.c2 (o5.le h5.fr) (o := 1) rfl, aC, bK, aL]
 obtain ⟨F6, hA, l6, back6⟩ := h5.uJ
 refine aHL hA (fun e0 => absurd e0 (hv.next hlen)) fun c hc M6 α1 hB hs1 => ?_
 have hi1 := hB.inv
 obtain ⟨f1, f2, f3, f4, f5, f6⟩ := hv.fresh hlen hc hs1 hi1
 have h6 := back6 M6 _ hB
 simp only [cA, aU, aL, bU, aT, aX, add_eq, Nat.zero_add, Q1 h6.h.right.right.bA, aC, bK]
 obtain ⟨F7, hA7, l7, back7⟩ := h6.uJ
 have hLl := uA I y.h
 refine aHK (e := (key, S.next)) hA7 f1 f3 f2 f4 f5 (by omega) f6 fun n hn hnl M7 β r' N' hC hkh hsub heff => ?_
 have hβ := hC.inv
 have h7 := back7 M7 _ hC
 obtain ⟨i, hat⟩ := hv.aLK hlen
 obtain ⟨hatc, hv'⟩ := hv.insert hc hs1 hi1 hn hnl hβ hkh hsub heff hat hlen
 have hg1 := PS.aCH hv.ig hv.tm0 i
 have hroom : ((S.ip.l.length - S.ip.free.length : Nat) : Int) ≠ S.ip.most := by rw [hv.im]; omega
 have hgi : ∀ x ∈ S.ip.l, 0 ≤ x.g ∧ x.g ≤ 1000000 := fun x hx => by have := hv.ig x hx; omega
 have hgm := uA I y.h
 have hw1 : p4 (((dX I y.h).length : Int) + 1) = ((dX I y.h).length : Int) + 1 := bC (by omega)
 have hnx := hv.nx
 have hw2 : p4 (S.next + 1) = S.next + 1 := bC (by omega)
 have e0 : AS.lE (fun _ => True) (fun _ => True) 1 (0 + 3) S.α α1 := (((AS.vU (S := fun _ => True) (L := fun _ => True) hv.inv hc trivial trivial).put (f := 7) (v := key) (c := c) trivial).put (f := 8) (v := S.next) (c := c) trivial).trans hs1.o0
 have e1 : AS.lE (fun _ => True) (fun _ => True) (1 + 1) (3 + dJ (I.length + 1)) S.α β := by
  have hm : dJ ((dX I y.h).length + 1) ≤ dJ (I.length + 1) := pC (by omega)
  exact (e0.trans (heff.mono (fun _ _ => trivial) (fun _ _ => trivial) hm)).mono (fun _ h => h) (fun _ h => h) (by omega)
 simp only [cA, aU, aL, bU, aT, aX, add_eq, Nat.zero_add, Q2 h7.h.right.right.bA, hR1 (o15.le h7.fr), aC, bK, a9]
 refine ⟨?_, ?_⟩
 rotate_left
 refine jI h7 fun b8 M8 l8 h8 => ?_
 refine ⟨Q2 h8.h.right.right.right.bA, hR1 (o15.le h8.fr), ?_⟩
 refine aFp oT5 (h8.aW aA.dp) (by omega) hfy hv.io hl3 hl4 hl5 hgi hat hroom hfa hatc fun M9 oa' hfa' h9' => ?_
 have h9 := h9'.aW aA.up
 simp only [cA, aU, a9, aL, aT]
 refine vY aZ (by rfl) iL h9 fun F10 M10 l10 o10 h10 => ?_
 rotate_left
 refine aFp oT5 h7 (by omega) hfy hv.io hl3 hl4 hl5 hgi hat hroom hfa hatc fun M9 oa' hfa' h9 => ?_
 simp only [cA, aU, a9, aL, aT]
 refine j9 aZ (by rfl) iL h9 fun b8 F10 M10 l10 o10 h10 => ?_
 all_goals
  have oT10 := oT5.le l10
  have o110 := o15.le l10
  have q10 := h10.h.right.right.bA
  simp only [aX, add_eq, Nat.zero_add, Q2 q10, hR1 (o110.le h10.fr), aC, bK, a9, aU, aL, aT]
  refine vF oT10 h10 (by omega) hfy fun M11 h11 => ?_
  have q11 := h11.h.right.right.bA
  rw [hw1] at h11
  simp only [aL, aX, add_eq, Nat.zero_add, Q3 q11, fB aZ (o10.le h11.fr), fB aCo ((o5.le l10).le h11.fr), aC, a9, aU, aL, aT]
  have h12 := h11.perm (List.Perm.swap _ _ _)
  obtain ⟨g1, g2⟩ := h12.get List.mem_cons_self
  refine aF2 (kf := bX) (vf := mJ) (k := ((i : Int), S.ip.gen i)) (v := (key, S.next)) Tryz.underlying93 oR g1 g2 hfe fun oe' hfe' => ?_
  have h13 := (h12.set (o' := oe')).perm (List.Perm.swap _ _ _)
  generalize Mem.set M11 me _ = M13 at h13 ⊢
  have q13 := h13.h.right.right.bA
  simp only [aX, add_eq, Nat.zero_add, Q4 q13, aC, aL, hw2]
  refine aBi (o := 4) W.c2 (by simp) rfl rfl (h13.aW aA.aK0) fun M14 h14 => ?_
  change HO w0 F10 M14 _ (star (aY q (qV a t me S.most (S.next + 1)) tQs) _) at h14
  have h15 := h14.aW aA.lO
  have hbl : (aH PP w0).nM aAQ [(2, .agg #[.int .i64 (i : Int), .int .i64 (S.ip.gen i)]), (3, .agg #[.int .i64 key, .int .i64 S.next])] = some (.agg (kX 0 0 0 i (S.ip.gen i) key S.next 0).toArray) := by kernel_rfl
  simp only [fB aZ (o10.le h15.fr), fB aCo ((o5.le l10).le h15.fr), aC, a9, aU, aL, aT, hbl]
  refine jJ pX (by rfl) dS (h15.aW aA.up) fun M16 h16 => ?_
  exact hK M16 ⟨S.most, S.next + 1, β, S.hp.put y.h.1.toNat (y.k, r', ((dX I y.h).length : Int) + 1), S.ip.take z3 i ((c : Int), y.h.1, y.h.2), fT S.at_ (c : Int) (some ((i : Int), S.ip.gen i)), fT S.en ((i : Int), S.ip.gen i) (some (key, S.next))⟩ oa' oe' i { y with root := r', N := N' } hat hfa' hfe' (((h16.fJ l10).fJ l5).fJ l1) rfl rfl ⟨c, hv'⟩ rfl rfl (PS.aE1 _ _ _ hat hv.io.lt) ⟨_, _, _, e1⟩
end
end HL
namespace HL
section
variable {w0 : World} {F M : Mem} {R : VP} {os : uX} {q a t bh bi ma me : Nat} {S : QS} {Q : cY} {I : List mY} {H : List Hv} {tm most next : Int} {oa oe : Obj}
theorem lkE {A : cY} {en : dG → Option cW} {r : dG} {e : cW} (h : HO w0 F M os A) (hm : (me, oe) ∈ os) (hfe : dF bX mJ en oe) (hen : en r = some e) :
  (aH PP w0).lk 93 (.map (some me)) (.agg #[.int .i64 r.1, .int .i64 r.2]) false M = some (.agg #[.int .i64 e.1, .int .i64 e.2]) := by
 obtain ⟨inf, hi, hz, _⟩ := W.e44
 obtain ⟨g1, g2⟩ := h.get hm
 have hlk := (lkF (k := r) Tryz.underlying93 oR hi hz g1 g2 hfe).1
 rw [hen] at hlk
 exact hlk
theorem aDz {r : dG} {v : V3} {e : cW} (oT : cM w0 F t (wS bh bi ma) wN) (hb : S.ip.l.length ≤ 10000) (hfb : S.ip.free.length ≤ 10000) (hfa : dF (Value.int .i64) bX S.at_ oa) (hfe : dF bX mJ S.en oe) (hw : S.ip.find r.1 r.2 = some v) (hen : S.en r = some e)
  (h : HO w0 F M ((ma, oa) :: (me, oe) :: os) (QA q a t bh bi me S Q))
  (hK : ∀ M' oa' oe' γ, dF (Value.int .i64) bX (fT S.at_ v.1 none) oa' → dF bX mJ (fT S.en r none) oe' → AS.Sm 1 (S.α.vD v.1) γ → γ.Inv →
   HO w0 F M' ((ma, oa') :: (me, oe') :: os) (QA q a t bh bi me ⟨S.most, S.next, γ, S.hp, S.ip.fZ z3 r.1.toNat, fT S.at_ v.1 none, fT S.en r none⟩ Q) → R (mJ e) M') :
  C PP w0 Id.nW #[.pointer (some ⟨q, 0, none⟩), .agg #[.int .i64 r.1, .int .i64 r.2]] R M := by
 apply nW.go
 unfold nW.T aJ
 refine rQ h fun b1 F1 M1 l1 lm1 o1 h1 => ?_
 have oT1 := oT.le l1
 refine jI h1 fun b3 M2 lm2 h2' => ?_
 have h2 := h2'.aW aA.dp
 simp only [aX, add_eq, Nat.zero_add, Q2 h2.qo, aC, bK, fB aZ (o1.le h2.fr), a9, aU, aL, aT]
 refine aHl oT1 (h2.aW aA.dT) hb hfb hfa hw fun M3 oa' hfa' h3' => ?_
 have h3 := h3'.aW aA.dT
 simp only [cA, aU, aL, aT, aX, add_eq, Nat.zero_add, Q1 h3.h.right.right.bA, aC, bK]
 obtain ⟨F4, hA, l4, back4⟩ := h3.uJ
 refine aEV hA fun M4 hB => ?_
 have hi4 := hB.inv
 have h4 := back4 M4 _ hB
 simp only [bU, Q3 h4.h.right.right.bA, fB aZ (o1.le h4.fr), aC, a9, aU, aL, aT, lkE (me := me) h4 (by simp) hfe hen]
 refine jI h4 fun b5 M5 lm5 h5 => ?_
 refine ⟨Q3 h5.h.right.right.right.bA, fB aZ (o1.le h5.fr), lkE h5 (by simp) hfe hen, ?_⟩
 refine vY aCo (by rfl) iL h5 fun F6 M6 l6 o6 h6 => ?_
 simp only [Q3 h6.h.right.right.bA, fB aZ ((o1.le l6).le h6.fr), aC, a9, aU, aL, aT]
 have h6p := h6.perm (List.Perm.swap _ _ _)
 obtain ⟨g1, g2⟩ := h6p.get List.mem_cons_self
 refine aHW (k := r) rfl Tryz.underlying93 oR g1 g2 hfe fun oe' hfe' => ?_
 have h7 := (h6p.set (o' := oe')).perm (List.Perm.swap _ _ _)
 generalize Mem.set M6 me _ = M7 at h7 ⊢
 simp only [fB aCo (o6.le h7.fr), aC, a9, aU, aL, aT]
 refine jJ aCo (by rfl) iL (h7.aW aA.up) fun M8 h8 => ?_
 exact hK M8 oa' oe' _ hfa' hfe' AS.aN hi4 ((h8.fJ l6).fJ l1)
end
end HL
namespace HL
section
variable {w0 : World} {F M : Mem} {R : VP} {os : uX} {q a t bh bi ma me : Nat} {S : QS} {Q : cY} {I : List mY} {H : List Hv} {tm most next : Int} {oa oe : Obj}
theorem aEu {IA IB : List mY} {x : mY} {A B : List Hv} {y : Hv} (oT : cM w0 F t (wS bh bi ma) wN) (hv : dR S (IA ++ x :: IB) (A ++ y :: B) tm) (hxy : x.h = y.h)
  (hfa : dF (Value.int .i64) bX S.at_ oa) (hfe : dF bX mJ S.en oe) (h : HO w0 F M ((ma, oa) :: (me, oe) :: os) (QA q a t bh bi me S Q))
  (hK : ∀ M' S' oa' oe' y', dF (Value.int .i64) bX S'.at_ oa' → dF bX mJ S'.en oe' → HO w0 F M' ((ma, oa') :: (me, oe') :: os) (QA q a t bh bi me S' Q) →
   y'.h = y.h → y'.k = y.k → dR S' (IA ++ IB) (A ++ y' :: B) (tm + 1) → S'.most = S.most → S'.next = S.next → S'.ip.pl = S.ip.pl.fZ x.r.1.toNat → (∃ Sx Lx d, AS.lE Sx Lx d (dJ (IA ++ x :: IB).length + 1) S.α S'.α) →
   R (.agg (kX 0 0 0 0 0 x.e.1 x.e.2 0).toArray) M') :
  C PP w0 Id.kP #[.pointer (some ⟨q, 0, none⟩), .agg #[.int .i64 x.r.1, .int .i64 x.r.2]] R M := by
 have hyM : y ∈ A ++ y :: B := by simp
 have hxM : x ∈ IA ++ x :: IB := by simp
 obtain ⟨hl1, hl2⟩ := hv.uV
 obtain ⟨hl3, hl4, hl5⟩ := hv.ipl
 have hfy := hv.hf y hyM
 have hjx := hv.jf x hxM
 apply kP.go
 unfold kP.T aJ
 refine rQ h fun b1 F1 M1 l1 lm1 o1 h1 => ?_
 have oT1 := oT.le l1
 refine jI h1 fun b3 M2 lm2 h2' => ?_
 have h2 := h2'.aW aA.dp
 simp only [aX, add_eq, Nat.zero_add, Q2 h2.qo, aC, bK, fB aZ (o1.le h2.fr), a9, aU, aL, aT]
 refine aC8 oT1 (h2.aW aA.dT) (by omega) hjx fun M3 h3' => ?_
 have h3 := h3'.aW aA.dT
 simp only [cA, aU, aL, aT]
 rw [cD, if_pos rfl]
 simp only [aX, add_eq, Nat.zero_add, Q2 h3.qo, aC, bK, fB aZ (o1.le h3.fr), a9, aU, aL, aT]
 have hP : (dX (IA ++ x :: IB) y.h).Perm ((x.c, x.e) :: dX (IA ++ IB) y.h) := by rw [← hxy]; exact x8 IA IB x
 have hlen := hv.len
 have hm2 := hv.m2
 have hgm := uA (IA ++ x :: IB) y.h
 have hPl := hP.length_eq
 rw [List.length_cons] at hPl
 have hw1 : p4 (((dX (IA ++ x :: IB) y.h).length : Int) - 1) = ((dX (IA ++ x :: IB) y.h).length : Int) - 1 := bC (by omega)
 have hkh0 := (hv.hs.kh y hyM).perm hP (List.Perm.refl _)
 have hfy' : S.hp.find x.h.1 x.h.2 = some (y.k, y.root, ((dX (IA ++ x :: IB) y.h).length : Int)) := by rw [hxy]; exact hfy
 refine ⟨?_, ?_⟩
 rotate_left
 refine jI h3 fun b4 M4 lm4 h4 => ?_
 refine ⟨Q2 h4.h.right.right.right.bA, fB aZ (o1.le h4.fr), ?_⟩
 refine aCI oT1 ((h4.aW aA.dT).aW fun h => (h.oG fun _ _ h => h.dT).dT) (by omega) hjx fun M5 h5 => ?_
 simp only [cA, aU, a9, aL, aT]
 refine vY aZ (by rfl) iL (h5.aW fun h => (h.dT.oG fun _ _ h => h.dT).dT) fun F6 M6 l6 o6 h6 => ?_
 rotate_left
 refine aCI oT1 (h3.aW aA.dT) (by omega) hjx fun M5 h5 => ?_
 simp only [cA, aU, a9, aL, aT]
 refine j9 aZ (by rfl) iL (h5.aW aA.dT) fun b4 F6 M6 l6 o6 h6 => ?_
 all_goals
  have oT6 := oT1.le l6
  have o16 := o1.le l6
  simp only [aX, add_eq, Nat.zero_add, Q2 h6.h.right.right.bA, aC, bK, fB aZ (o6.le h6.fr), a9, aU, aL, aT]
  refine pS oT6 h6 (by omega) hfy' fun M7 h7 => ?_
  simp only [cA, aU, aL, aT, aX, add_eq, Nat.zero_add, Q2 h7.h.right.right.bA, Q1 h7.h.right.right.bA, aC, bK, fB aZ (o6.le h7.fr), a9]
  obtain ⟨F8, hA, l8, back8⟩ := h7.uJ
  refine aJh hA hkh0 (by omega) fun n hn M8 β r' N' hB hkh hless hxL heff => ?_
  have hβ := hB.inv
  have h8 := back8 M8 _ hB
  simp only [aL]
  refine ⟨Q2 h8.h.right.right.bA, fB aZ (o6.le h8.fr), ?_⟩
  refine vF oT6 h8 (by omega) hfy' fun M9 h9 => ?_
  rw [hw1] at h9
  simp only [aL, fB aZ (o16.le h9.fr), aC, a9, aU, aT]
  have hcK : ∀ c, c ∈ fD ((x.c, x.e) :: dX (IA ++ IB) y.h) y.N ↔ c ∈ jF (IA ++ x :: IB) y := fun c => (jR hP (List.Perm.refl y.N)).mem_iff.symm
  refine aDz (S := ⟨S.most, S.next, β, S.hp.put x.h.1.toNat (y.k, r', ((dX (IA ++ x :: IB) y.h).length : Int) - 1), S.ip, S.at_, S.en⟩) (r := x.r) (e := x.e) oT6 hl3 hl4 hfa hfe hjx (hv.en1 x hxM) h9 fun M10 oa' oe' γ hfa' hfe' hs hγ h10 => ?_
  have e1 : AS.lE (fun c => c ∈ jF (IA ++ x :: IB) y) (· = n) (-1) (dJ ((dX (IA ++ IB) y.h).length + 1)) S.α β := heff.mono (fun c hc => (hcK c).1 hc) (fun _ h => h) (Int.le_refl _)
  have hv' := hv.remove hxy hP hkh (fun c hc => (hcK c).1 (hless c hc)) hxL hn e1 hβ hs hγ
  have hbl : (aH PP w0).nM aAQ [(3, .agg #[.int .i64 x.e.1, .int .i64 x.e.2])] = some (.agg (kX 0 0 0 0 0 x.e.1 x.e.2 0).toArray) := by kernel_rfl
  simp only [mJ, a9, aU, aL, aT, hbl, aC]
  refine jJ pX (by rfl) dS (h10.aW aA.up) fun M11 h11 => ?_
  obtain ⟨ka, ka1, ka2, ka3⟩ := PS.bH hjx
  have hxl : β.live x.c = true := by
   have hxn : x.c ≠ n := fun e => by
    have hyn := hkh0.nd
    exact (List.nodup_append.1 hyn).2.2 n hn x.c (List.mem_map.2 ⟨(x.c, x.e), List.mem_cons_self, rfl⟩) e.symm
   rw [heff.live _ hxn]; exact hv.xW hxM
  have hgv : β.vD (x.c : Int) = β.kC x.c := AS.uE hxl
  have hm : dJ ((dX (IA ++ IB) y.h).length + 1) ≤ dJ (IA ++ x :: IB).length := pC (by omega)
  have e2 : AS.lE (fun _ => True) (fun _ => True) (-1 + -1 + 0) (dJ (IA ++ x :: IB).length + 0 + 1) S.α γ :=
   ((e1.mono (fun _ _ => trivial) (fun c hc => trivial) hm).trans (AS.pG hβ hxl trivial)).trans (by rw [← hgv]; exact hs.o0)
  refine hK M11 _ oa' oe' { y with root := r', N := N' } hfa' hfe' ((h11.fJ l6).fJ l1) rfl rfl (by rw [hxy]; exact hv') rfl rfl (PS.aCg _ _ ?_) ⟨_, _, _, e2.mono (fun _ h => h) (fun _ h => h) (by omega)⟩
  rw [ka1, Int.toNat_natCast]
  exact (List.getElem?_eq_some_iff.1 ka2).1
end
end HL
namespace HL
section
variable {w0 : World} {F M : Mem} {R : VP} {os : uX} {q a t bh bi ma me : Nat} {S : QS} {Q : cY} {I : List mY} {H : List Hv} {tm most next : Int} {oa oe : Obj}
theorem aFG {A B : List Hv} {y : Hv} {out : Bool} (oT : cM w0 F t (wS bh bi ma) wN) (hv : dR S I (A ++ y :: B) tm) (hno : dX I y.h = [])
  (h : HO w0 F M os (QA q a t bh bi me S Q))
  (hK : ∀ M', HO w0 F M' os (QA q a t bh bi me S Q) → R (.agg (kX 27 0 0 0 0 0 0 0).toArray) M') :
  C PP w0 Id.mB #[.pointer (some ⟨q, 0, none⟩), .agg #[.int .i64 y.h.1, .int .i64 y.h.2], .bool out] R M := by
 have hyM : y ∈ A ++ y :: B := by simp
 obtain ⟨hl1, hl2⟩ := hv.uV
 have hfy := hv.hf y hyM
 rw [hno] at hfy
 apply mB.go
 unfold mB.T aJ
 refine rQ h fun b1 F1 M1 l1 lm1 o1 h1 => ?_
 have oT1 := oT.le l1
 refine jI h1 fun b3 M2 lm2 h2' => ?_
 have h2 := h2'.aW aA.dp
 simp only [aX, add_eq, Nat.zero_add, Q2 h2.qo, aC, bK, fB aZ (o1.le h2.fr), a9, aU, aL, aT]
 refine pS oT1 h2 (by omega) hfy fun M3 h3 => ?_
 simp only [cA, aU, aL, aT]
 rw [cD, if_pos rfl, eW, if_pos (show (([] : List cC).length : Int) = 0 from rfl)]
 refine aDC h3 fun M4 h4 => ?_
 simp only [a9, aU, aL, aT]
 exact jJ pX (by rfl) dS (h4.aW aA.up) fun M5 h5 => hK M5 (h5.fJ l1)
theorem aHh {A B : List Hv} {y : Hv} (oT : cM w0 F t (wS bh bi ma) wN) (hv : dR S I (A ++ y :: B) tm) (eE : dX I y.h ≠ [])
  (hfa : dF (Value.int .i64) bX S.at_ oa) (hfe : dF bX mJ S.en oe) (h : HO w0 F M ((ma, oa) :: (me, oe) :: os) (QA q a t bh bi me S Q))
  (hK : ∀ M' β x, x ∈ I → x.h = y.h → (∀ z ∈ I, z.h = y.h → z.c ≠ x.c → Bf x.held z.held) → AS.Sm (dJ I.length) S.α β → β.Inv → HO w0 F M' ((ma, oa) :: (me, oe) :: os) (QA q a t bh bi me { S with α := β } Q) → R (.agg (kX 0 0 0 x.r.1 x.r.2 x.e.1 x.e.2 0).toArray) M') :
  C PP w0 Id.mB #[.pointer (some ⟨q, 0, none⟩), .agg #[.int .i64 y.h.1, .int .i64 y.h.2], .bool false] R M := by
 have hyM : y ∈ A ++ y :: B := by simp
 obtain ⟨hl1, hl2⟩ := hv.uV
 have hfy := hv.hf y hyM
 have hgm := uA I y.h
 have hpos : ((dX I y.h).length : Int) ≠ 0 := fun e => eE (List.eq_nil_of_length_eq_zero (by omega))
 apply mB.go
 unfold mB.T aJ
 refine rQ h fun b1 F1 M1 l1 lm1 o1 h1 => ?_
 have oT1 := oT.le l1
 refine jI h1 fun b3 M2 lm2 h2' => ?_
 have h2 := h2'.aW aA.dp
 simp only [aX, add_eq, Nat.zero_add, Q2 h2.qo, aC, bK, fB aZ (o1.le h2.fr), a9, aU, aL, aT]
 refine pS oT1 h2 (by omega) hfy fun M3 h3 => ?_
 simp only [cA, aU, aL, aT]
 rw [cD, if_pos rfl, eW, if_neg hpos, Bool.not_false, dU]
 simp only [aX, add_eq, Nat.zero_add, Q2 h3.qo, Q1 h3.qo, aC, bK]
 have hfin : ∀ (x : cC), x ∈ dX I y.h → (∀ z ∈ dX I y.h, z.1 ≠ x.1 → Bf x z) → ∃ u ∈ I, u.h = y.h ∧ u.held = x ∧ S.at_ (x.1 : Int) = some u.r ∧ (∀ z ∈ I, z.h = y.h → z.c ≠ u.c → Bf u.held z.held) := by
  intro x hx hb
  obtain ⟨u, hu, e1, e2⟩ := qJ.1 hx
  refine ⟨u, hu, e1, e2, by rw [← e2]; exact hv.at1 u hu, fun z hz ez hc => ?_⟩
  rw [e2]
  exact hb z.held (qJ.2 ⟨z, hz, ez, rfl⟩) (by rw [← e2]; exact hc)
 refine ⟨?_, ?_⟩
 rotate_left
 refine jI h3 fun b4 M4 lm4 h4 => ?_
 refine ⟨Q2 h4.h.right.right.right.bA, Q1 h4.h.right.right.right.bA, ?_⟩
 obtain ⟨F5, hA, l5, back5⟩ := (h4.aW aA.dp).uJ
 refine aEA hA (hv.hs.kh y hyM) eE fun x hx hb M5 β hB hs => ?_
 have hβ := hB.inv
 obtain ⟨u, hu, hu1, hu2, hu3, hu4⟩ := hfin x hx hb
 have h5 := (back5 M5 _ hB).aW aA.up
 rw [aL]
 refine ⟨Q2 h5.h.right.right.right.bA, ?_⟩
 refine aB3 oT1 h5 List.mem_cons_self hfa hu3 fun M6 h6 => ?_
 simp only [cA, aU, a9, aL, bU, aT]
 refine vY aZ (by rfl) iL h6 fun F7 M7 l7 o7 h7 => ?_
 rotate_left
 obtain ⟨F5, hA, l5, back5⟩ := h3.uJ
 refine aEA hA (hv.hs.kh y hyM) eE fun x hx hb M5 β hB hs => ?_
 have hβ := hB.inv
 obtain ⟨u, hu, hu1, hu2, hu3, hu4⟩ := hfin x hx hb
 have h5 := back5 M5 _ hB
 rw [aL]
 refine ⟨Q2 h5.h.right.right.bA, ?_⟩
 refine ⟨?_, ?_⟩
 rotate_left
 refine jI h5 fun b4 M6' lm6 h6' => ?_
 refine ⟨Q2 h6'.h.right.right.right.bA, ?_⟩
 refine aB3 oT1 h6' List.mem_cons_self hfa hu3 fun M6 h6 => ?_
 simp only [cA, aU, a9, aL, bU, aT]
 refine vY aZ (by rfl) iL h6 fun F7 M7 l7 o7 h7 => ?_
 rotate_left 2
 refine aB3 oT1 h5 List.mem_cons_self hfa hu3 fun M6 h6 => ?_
 simp only [cA, aU, a9, aL, bU, aT]
 refine j9 aZ (by rfl) iL h6 fun b4 F7 M7 l7 o7 h7 => ?_
 all_goals
  have hbl : (aH PP w0).nM aAQ [(2, .agg #[.int .i64 u.r.1, .int .i64 u.r.2]), (3, .agg #[.int .i64 u.e.1, .int .i64 u.e.2])] = some (.agg (kX 0 0 0 u.r.1 u.r.2 u.e.1 u.e.2 0).toArray) := by kernel_rfl
  simp only [aX, add_eq, Nat.zero_add, Q3 h7.h.right.right.bA, fB aZ (o7.le h7.fr), aC, a9, aU, aL, aT, lkE (me := me) h7 (by simp) hfe (hv.en1 u hu), hbl]
  refine jJ pX (by rfl) dS (h7.aW aA.up) fun M8 h8 => ?_
  exact hK M8 β u hu hu1 hu4 (hs.mono (pC hgm)) hβ ((h8.fJ l7).fJ l1)
theorem aHF {A B : List Hv} {y : Hv} (oT : cM w0 F t (wS bh bi ma) wN) (hv : dR S I (A ++ y :: B) tm) (eE : dX I y.h ≠ [])
  (hfa : dF (Value.int .i64) bX S.at_ oa) (hfe : dF bX mJ S.en oe) (h : HO w0 F M ((ma, oa) :: (me, oe) :: os) (QA q a t bh bi me S Q))
  (hK : ∀ M' S' oa' oe' y' IA x IB, I = IA ++ x :: IB → x.h = y.h → (∀ z ∈ I, z.h = y.h → z.c ≠ x.c → Bf x.held z.held) → dF (Value.int .i64) bX S'.at_ oa' → dF bX mJ S'.en oe' → HO w0 F M' ((ma, oa') :: (me, oe') :: os) (QA q a t bh bi me S' Q) →
   y'.h = y.h → y'.k = y.k → dR S' (IA ++ IB) (A ++ y' :: B) (tm + 1) → S'.most = S.most → S'.next = S.next → S'.ip.pl = S.ip.pl.fZ x.r.1.toNat → (∃ Sx Lx d, AS.lE Sx Lx d (dJ I.length + 1) S.α S'.α) →
   R (.agg (kX 0 0 0 x.r.1 x.r.2 x.e.1 x.e.2 0).toArray) M') :
  C PP w0 Id.mB #[.pointer (some ⟨q, 0, none⟩), .agg #[.int .i64 y.h.1, .int .i64 y.h.2], .bool true] R M := by
 have hyM : y ∈ A ++ y :: B := by simp
 obtain ⟨hl1, hl2⟩ := hv.uV
 obtain ⟨hl3, hl4, hl5⟩ := hv.ipl
 have hfy := hv.hf y hyM
 have hgm := uA I y.h
 have hpos : ((dX I y.h).length : Int) ≠ 0 := fun e => eE (List.eq_nil_of_length_eq_zero (by omega))
 have hlen := hv.len
 have hm2 := hv.m2
 have hw1 : p4 (((dX I y.h).length : Int) - 1) = ((dX I y.h).length : Int) - 1 := bC (by omega)
 apply mB.go
 unfold mB.T aJ
 refine rQ h fun b1 F1 M1 l1 lm1 o1 h1 => ?_
 have oT1 := oT.le l1
 refine jI h1 fun b3 M2 lm2 h2' => ?_
 have h2 := h2'.aW aA.dp
 simp only [aX, add_eq, Nat.zero_add, Q2 h2.qo, aC, bK, fB aZ (o1.le h2.fr), a9, aU, aL, aT]
 refine pS oT1 h2 (by omega) hfy fun M3 h3 => ?_
 simp only [cA, aU, aL, aT]
 rw [cD, if_pos rfl, eW, if_neg hpos, Bool.not_true, mT]
 simp only [aX, add_eq, Nat.zero_add, Q1 h3.qo, aC, bK]
 obtain ⟨F5, hA, l5, back5⟩ := h3.uJ
 refine aI5 hA (hv.hs.kh y hyM) eE (by omega) fun x0 L' hP hb n hn M5 β r' N' hB hkh hless hxL heff => ?_
 have hβ := hB.inv
 obtain ⟨x, hx, hxy, hxe⟩ := qJ.1 (hP.mem_iff.2 List.mem_cons_self)
 have hbx : ∀ z ∈ I, z.h = y.h → z.c ≠ x.c → Bf x.held z.held := fun z hz ez hc => by
  rw [hxe]
  exact hb z.held (qJ.2 ⟨z, hz, ez, rfl⟩) (by rw [← hxe]; exact hc)
 have hc0 : x0.1 = x.c := by rw [← hxe]; rfl
 rw [hc0] at hxL ⊢
 obtain ⟨IA, IB, hI⟩ := List.append_of_mem hx
 rw [← hxe] at hP
 have hjx := hv.jf x hx
 have h5 := back5 M5 _ hB
 simp only [cA, aU, aL, aT, aX, add_eq, Nat.zero_add, Q2 h5.h.right.right.bA, aC, bK]
 refine aB3 oT1 h5 List.mem_cons_self hfa (hv.at1 x hx) fun M6 h6 => ?_
 simp only [cA, aU, a9, aL, bU, aT]
 refine j9 aZ (by rfl) iL h6 fun b4 F7 M7 l7 o7 h7 => ?_
 have oT7 := oT1.le l7
 have o17 := o1.le l7
 simp only [aX, add_eq, Nat.zero_add, Q2 h7.h.right.right.bA, aC, bK, fB aZ (o17.le h7.fr), a9, aU, aL, aT]
 refine vF oT7 h7 (by omega) hfy fun M9 h9 => ?_
 rw [hw1] at h9
 simp only [aL, fB aZ (o7.le h9.fr), aC, a9, aU, aT]
 refine aDz (S := ⟨S.most, S.next, β, S.hp.put y.h.1.toNat (y.k, r', ((dX I y.h).length : Int) - 1), S.ip, S.at_, S.en⟩) (r := x.r) (e := x.e) oT7 hl3 hl4 hfa hfe hjx (hv.en1 x hx) h9 fun M10 oa' oe' γ hfa' hfe' hs hγ h10 => ?_
 subst hI
 have hv' := hv.remove hxy hP hkh hless hxL hn heff hβ hs hγ
 have hbl : (aH PP w0).nM aAQ [(2, .agg #[.int .i64 x.r.1, .int .i64 x.r.2]), (3, .agg #[.int .i64 x.e.1, .int .i64 x.e.2])] = some (.agg (kX 0 0 0 x.r.1 x.r.2 x.e.1 x.e.2 0).toArray) := by kernel_rfl
 simp only [mJ, a9, aU, aL, aT, hbl, aC]
 refine ⟨fB aZ (o7.le h10.fr), ?_⟩
 refine jJ pX (by rfl) dS (h10.aW aA.up) fun M11 h11 => ?_
 obtain ⟨ka, ka1, ka2, ka3⟩ := PS.bH hjx
 have hxl : β.live x.c = true := by
  have hxn : x.c ≠ n := fun e => by
   have hyn := (hv.hs.kh y hyM).nd
   exact (List.nodup_append.1 hyn).2.2 n hn x.c (List.mem_map.2 ⟨x.held, hP.mem_iff.2 List.mem_cons_self, rfl⟩) e.symm
  rw [heff.live _ hxn]; exact hv.xW hx
 have hgv : β.vD (x.c : Int) = β.kC x.c := AS.uE hxl
 have hm : dJ (dX (IA ++ x :: IB) y.h).length ≤ dJ (IA ++ x :: IB).length := pC (by omega)
 have e2 : AS.lE (fun _ => True) (fun _ => True) (-1 + -1 + 0) (dJ (IA ++ x :: IB).length + 0 + 1) S.α γ :=
  ((heff.mono (fun _ _ => trivial) (fun c hc => trivial) hm).trans (AS.pG hβ hxl trivial)).trans (by rw [← hgv]; exact hs.o0)
 refine hK M11 _ oa' oe' { y with root := r', N := N' } IA x IB rfl hxy hbx hfa' hfe' ((h11.fJ l7).fJ l1) rfl rfl hv' rfl rfl (PS.aCg _ _ ?_) ⟨_, _, _, e2.mono (fun _ h => h) (fun _ h => h) (by omega)⟩
 rw [ka1, Int.toNat_natCast]
 exact (List.getElem?_eq_some_iff.1 ka2).1
end
end HL
namespace HL
section
variable {w0 : World} {F M : Mem} {R : VP} {os : uX} {q a t bh bi ma me : Nat} {S : QS} {Q : cY} {I : List mY} {H : List Hv} {tm most next : Int} {oa oe : Obj}
theorem aCu {IA IB : List mY} {x : mY} {A B : List Hv} {y : Hv} {op k g1' g2' p1 p2 key : Int} (oT : cM w0 F t (wS bh bi ma) wN) (hv : dR S (IA ++ x :: IB) (A ++ y :: B) tm) (hxy : x.h = y.h) (hkey : key ≤ x.e.1)
  (hfa : dF (Value.int .i64) bX S.at_ oa) (hfe : dF bX mJ S.en oe) (h : HO w0 F M ((ma, oa) :: (me, oe) :: os) (QA q a t bh bi me S Q))
  (hK : ∀ M' S' oe' y', dF (Value.int .i64) bX S'.at_ oa → dF bX mJ S'.en oe' → HO w0 F M' ((ma, oa) :: (me, oe') :: os) (QA q a t bh bi me S' Q) →
   y'.h = y.h → y'.k = y.k → dR S' (IA ++ { x with e := (key, x.e.2) } :: IB) (A ++ y' :: B) tm → S'.most = S.most → S'.next = S.next → S'.ip = S.ip → (∃ Sx Lx d, AS.lE Sx Lx d (2 + dJ (IA ++ x :: IB).length) S.α S'.α) →
   R (.agg (kX 0 0 0 0 0 key x.e.2 0).toArray) M') :
  C PP w0 Id.gT #[.pointer (some ⟨q, 0, none⟩), .agg (m8 op k g1' g2' p1 p2 x.r.1 x.r.2 key).toArray] R M := by
 have hyM : y ∈ A ++ y :: B := by simp
 have hxM : x ∈ IA ++ x :: IB := by simp
 obtain ⟨hl1, hl2⟩ := hv.uV
 obtain ⟨hl3, hl4, hl5⟩ := hv.ipl
 have hfy := hv.hf y hyM
 have hjx := hv.jf x hxM
 have hfy' : S.hp.find x.h.1 x.h.2 = some (y.k, y.root, ((dX (IA ++ x :: IB) y.h).length : Int)) := by rw [hxy]; exact hfy
 have hP : (dX (IA ++ x :: IB) y.h).Perm ((x.c, x.e) :: dX (IA ++ IB) y.h) := by rw [← hxy]; exact x8 IA IB x
 have hkh0 := (hv.hs.kh y hyM).perm hP (List.Perm.refl _)
 obtain ⟨il, i7, i8⟩ := hkh0.item List.mem_cons_self
 have hgm := uA (IA ++ x :: IB) y.h
 have hPl := hP.length_eq
 rw [List.length_cons] at hPl
 apply gT.go
 unfold gT.T aJ
 refine rQ h fun b1 F1 M1 l1 lm1 o1 h1 => ?_
 have oT1 := oT.le l1
 refine jI h1 fun b3 M2 lm2 h2' => ?_
 have h2 := h2'.aW aA.dp
 have hR1 : ∀ {M' : Mem} {e : TypeId}, cM w0 M' b1 (m8 op k g1' g2' p1 p2 x.r.1 x.r.2 key) e → (aH PP w0).ld 33 ⟨b1, 6, none⟩ M' = some (.agg #[.int .i64 x.r.1, .int .i64 x.r.2]) := fun o => kE (vs := [.int .i64 x.r.1, .int .i64 x.r.2]) aZ o (qE rfl rfl)
 have hR2 : ∀ {M' : Mem} {e : TypeId}, cM w0 M' b1 (m8 op k g1' g2' p1 p2 x.r.1 x.r.2 key) e → (aH PP w0).ld 2 ⟨b1, 8, none⟩ M' = some (.int .i64 key) := fun o => lR W.c2 o rfl
 simp only [aX, add_eq, Nat.zero_add, Q2 h2.qo, aC, bK, hR1 (o1.le h2.fr), a9, aU, aL, aT]
 refine aC8 oT1 (h2.aW aA.dT) (by omega) hjx fun M3 h3' => ?_
 have h3 := h3'.aW aA.dT
 simp only [cA, aU, aL, aT, aX, add_eq, Nat.zero_add, Q3 h3.qo, aC, hR1 (o1.le h3.fr), a9, lkE (me := me) h3 (by simp) hfe (hv.en1 x hxM)]
 refine jI h3 fun b4 M4 lm4 h4 => ?_
 refine ⟨Q3 h4.h.right.right.right.bA, hR1 (o1.le h4.fr), lkE (me := me) h4 (by simp) hfe (hv.en1 x hxM), ?_⟩
 refine stW aCo (by rfl) iL h4 fun M5 h5' => ?_
 rw [cD, if_pos rfl]
 have e5 := h5'.h.bA
 have h5 := h5'.aW aA.dp
 simp only [aX, add_eq, Nat.zero_add, hR2 (o1.le h5.fr), lR W.c2 e5 (o := 0) rfl, aC, aL]
 rw [eO, if_neg (by omega)]
 simp only [aX, add_eq, Nat.zero_add, Q2 h5.qo, aC, bK, hR1 (o1.le h5.fr), a9, aU, aL, aT]
 refine ⟨?_, ?_⟩
 rotate_left
 refine jI h5 fun b6 M6' lm6 h6' => ?_
 refine ⟨Q2 h6'.h.right.right.right.bA, hR1 (o1.le h6'.fr), ?_⟩
 refine aCI oT1 ((h6'.aW aA.dT).aW fun h => (h.oG fun _ _ h => h.dT).dT) (by omega) hjx fun M6 h6 => ?_
 simp only [cA, aU, a9, aL, aT]
 refine vY aZ (by rfl) iL (h6.aW fun h => (h.dT.oG fun _ _ h => h.dT).dT) fun F7 M7 l7 o7 h7 => ?_
 rotate_left
 refine aCI oT1 (h5.aW aA.dT) (by omega) hjx fun M6 h6 => ?_
 simp only [cA, aU, a9, aL, aT]
 refine j9 aZ (by rfl) iL (h6.aW aA.dT) fun b6 F7 M7 l7 o7 h7 => ?_
 all_goals
  have oT7 := oT1.le l7
  have o17 := o1.le l7
  simp only [aX, add_eq, Nat.zero_add, Q2 h7.h.right.right.bA, aC, bK, fB aZ (o7.le h7.fr), a9, aU, aL, aT]
  refine pS oT7 h7 (by omega) hfy' fun M8 h8 => ?_
  simp only [cA, aU, aL, aT, aX, add_eq, Nat.zero_add, Q1 h8.h.right.right.bA, aC, bK, hR2 (o17.le h8.fr)]
  obtain ⟨F9, hA, l9, back9⟩ := h8.uJ
  have hg7 : S.α.jK (x.c : Int) 7 = x.e.1 := by rw [show (7 : Int) = ((7 : Nat) : Int) from rfl, AS.iM il (by omega)]; exact i7
  refine aGG hA (fun e0 => absurd e0 (by rw [hg7]; omega)) fun _ M9 hB => ?_
  rw [show S.α.tick.lP (x.c : Int) 7 key = S.α.tick.put x.c 7 key from AS.cL (α := S.α.tick) (f := 7) il (by omega) _] at hB
  have h9 := back9 M9 _ hB
  simp only [bU, aX, add_eq, Nat.zero_add, Q2 h9.h.right.right.bA, Q1 h9.h.right.right.bA, aC, bK, fB aZ (o7.le h9.fr), a9, aU, aL, aT]
  obtain ⟨F10, hA10, l10, back10⟩ := h9.uJ
  have hs1 : AS.Sm (1 + 1) (S.α.put x.c 7 key) (S.α.tick.put x.c 7 key).tick := (AS.aN.put x.c 7 _).trans AS.aN
  refine aH9 (e' := (key, x.e.2)) hA10 hkh0 hkey rfl hs1 fun M10 β r' N' hC hkh hless heff => ?_
  have hβ := hC.inv
  have h10 := back10 M10 _ hC
  rw [aL]
  refine ⟨Q2 h10.h.right.right.bA, fB aZ (o7.le h10.fr), ?_⟩
  refine vF oT7 h10 (by omega) hfy' fun M11 h11 => ?_
  simp only [aL, hR2 (o17.le h11.fr), aC]
  refine aBi (o := 0) W.c2 (by simp) rfl rfl (h11.aW aA.up) fun M12 h12 => ?_
  change HO w0 F7 M12 _ (star (aY b4 [.int .i64 key, .int .i64 x.e.2] _) _) at h12
  have q12 := h12.h.right.right.right.bA
  simp only [aX, add_eq, Nat.zero_add, Q3 q12, aC, hR1 (o17.le h12.fr), a9, aU, aL, aT, fB aCo h12.h.bA]
  have h12p := h12.perm (List.Perm.swap _ _ _)
  obtain ⟨g1, g2⟩ := h12p.get List.mem_cons_self
  refine aF2 (kf := bX) (vf := mJ) (k := x.r) (v := (key, x.e.2)) Tryz.underlying93 oR g1 g2 hfe fun oe' hfe' => ?_
  have h13 := (h12p.set (o' := oe')).perm (List.Perm.swap _ _ _)
  generalize Mem.set M12 me _ = M13 at h13 ⊢
  have hbl : (aH PP w0).nM aAQ [(3, .agg #[.int .i64 key, .int .i64 x.e.2])] = some (.agg (kX 0 0 0 0 0 key x.e.2 0).toArray) := by kernel_rfl
  simp only [fB aCo h13.h.bA, aC, a9, aU, aL, aT, hbl]
  refine jJ pX (by rfl) dS ((h13.aW fun h => h.right).aW aA.up) fun M14 h14 => ?_
  have hv' := hv.aIg hxy hP hs1 hkh hless heff hβ
  have hm : dJ ((dX (IA ++ IB) y.h).length + 1) ≤ dJ (IA ++ x :: IB).length := pC (by omega)
  have e2 : AS.lE (fun _ => True) (fun _ => True) 0 (0 + (1 + 1) + dJ (IA ++ x :: IB).length) S.α β :=
   ((((AS.Sm.refl (α := S.α)).o0 (S := fun _ => True) (L := fun _ => True)).put (f := 7) (v := key) (c := x.c) trivial).trans hs1.o0).trans (heff.mono (fun _ _ => trivial) (fun _ _ => trivial) hm)
  refine hK M14 ⟨S.most, S.next, β, S.hp.put x.h.1.toNat (y.k, r', ((dX (IA ++ x :: IB) y.h).length : Int)), S.ip, S.at_, fT S.en x.r (some (key, x.e.2))⟩ oe' { y with root := r', N := N' } hfa hfe' ((h14.fJ l7).fJ l1) rfl rfl (by rw [show x.h.1.toNat = y.h.1.toNat from by rw [hxy]]; exact hv') rfl rfl rfl ⟨_, _, _, e2.mono (fun _ h => h) (fun _ h => h) (by omega)⟩
theorem aIo {h o : dG} (eE : h ≠ o) (I : List mY) : (dX I h).length + (dX I o).length ≤ I.length := by
 have := (aCi eE I).length_eq
 rw [List.length_append] at this
 have h2 := uA (I.map (uN o h)) h
 rw [List.length_map] at h2
 omega
theorem aGI {B : List Hv} {y y2 : Hv} (oT : cM w0 F t (wS bh bi ma) wN) (hv : dR S I (y :: y2 :: B) tm) (htm : tm ≤ 900000) (hkk : y2.k = y.k)
  (h : HO w0 F M os (QA q a t bh bi me S Q))
  (hK : ∀ M' S' y', HO w0 F M' os (QA q a t bh bi me S' Q) → y'.h = y.h → y'.k = y.k → dR S' (I.map (uN y2.h y.h)) (y' :: B) tm → S'.most = S.most → S'.next = S.next → S'.ip.pl = S.ip.pl → S'.at_ = S.at_ → S'.en = S.en → (∃ Sx Lx d, AS.lE Sx Lx d (dJ I.length) S.α S'.α) →
   R (.agg (kX 0 0 0 0 0 0 0 (((dX I y.h).length : Int) + (dX I y2.h).length)).toArray) M') :
  C PP w0 Id.oN #[.pointer (some ⟨q, 0, none⟩), .agg #[.int .i64 y.h.1, .int .i64 y.h.2], .agg #[.int .i64 y2.h.1, .int .i64 y2.h.2]] R M := by
 have hyM : y ∈ y :: y2 :: B := by simp
 have hy2M : y2 ∈ y :: y2 :: B := by simp
 obtain ⟨hl1, hl2⟩ := hv.uV
 obtain ⟨hl3, hl4, hl5⟩ := hv.ipl
 have hfy := hv.hf y hyM
 have hfy2 := hv.hf y2 hy2M
 rw [hkk] at hfy2
 have fO := hv.fO
 rw [List.map_cons, List.map_cons, List.nodup_cons] at fO
 have eE : y.h ≠ y2.h := fun e => fO.1 (by rw [e]; simp)
 have hgm := aIo eE I
 have hlen := hv.len
 have hm2 := hv.m2
 have hgi : ∀ x ∈ S.ip.l, 0 ≤ x.g ∧ x.g ≤ 1000000 := fun x hx => by have := hv.ig x hx; omega
 have hw1 : p4 (((dX I y.h).length : Int) + (dX I y2.h).length) = ((dX I y.h).length : Int) + (dX I y2.h).length := bC (by omega)
 apply oN.go
 unfold oN.T aJ
 refine rQ h fun b1 F1 M1 l1 lm1 o1 h1 => ?_
 refine rQ h1 fun b2 F2 M2 l2 lm2 o2 h2 => ?_
 have oT2 := (oT.le l1).le l2
 have o12 := o1.le l2
 refine jI h2 fun b3 M3 lm3 h3' => ?_
 have h3 := h3'.aW aA.dp
 simp only [aX, add_eq, Nat.zero_add, Q2 h3.qo, aC, bK, fB aZ (o12.le h3.fr), a9, aU, aL, aT]
 refine pS oT2 h3 (by omega) hfy fun M4 h4 => ?_
 simp only [cA, aU, aL, aT, aX, add_eq, Nat.zero_add, Q2 h4.qo, aC, bK, fB aZ (o2.le h4.fr), a9]
 refine pS oT2 h4 (by omega) hfy2 fun M5 h5 => ?_
 simp only [cA, aU, aL, aT, aX, add_eq, Nat.zero_add, Q2 h5.qo, aC, bK, fB aZ (o12.le h5.fr), fB aZ (o2.le h5.fr), a9]
 refine aGW oT2 h5 hl1 hl2 hfy hfy2 (fun e => eE (Prod.ext e.1 e.2)) hl3 hgi hv.ig1 fun M6 h6 => ?_
 rw [aL, cD, if_pos rfl]
 simp only [aX, add_eq, Nat.zero_add, Q2 h6.h.right.right.bA, Q1 h6.h.right.right.bA, aC, bK, fB aZ (o12.le h6.fr), a9, aU, aL, aT]
 obtain ⟨F7, hA, l7, back7⟩ := h6.uJ
 have hk1 := hv.hs.kh y hyM
 have hk2 := hv.hs.kh y2 hy2M
 rw [hkk] at hk2
 refine aHQ hA hk1 hk2 (List.nodup_append.2 ⟨hk1.nd, hk2.nd, fun c hc d hd e => hv.hs.d1 y hyM y2 hy2M eE c hc (e ▸ hd)⟩) (by omega) fun M7 β r' N' hB hkh hsub heff => ?_
 have hβ := hB.inv
 have h7 := back7 M7 _ hB
 rw [aL]
 refine ⟨Q2 h7.h.right.right.bA, fB aZ (o12.le h7.fr), ?_⟩
 obtain ⟨k2, k21, k22, k23⟩ := PS.bH hfy2
 have hk2n : y2.h.1.toNat = k2 := by rw [k21, Int.toNat_natCast]
 have hgl := PS.vC (p := S.hp) z3 k22
 have hfg : (S.hp.fZ z3 y2.h.1.toNat).find y.h.1 y.h.2 = some (y.k, y.root, ((dX I y.h).length : Int)) := by
  rw [hk2n]
  exact PS.vX z3 k22 _ _ _ (fun e => aGJ hv hy2M hyM eE (by rw [e, k21])) hfy
 refine vF oT2 h7 (by rw [hk2n, hgl.1, List.length_set]; omega) hfg fun M8 h8 => ?_
 rw [hw1] at h8
 have hbl : (aH PP w0).nM aAQ [(4, .int .i64 (((dX I y.h).length : Int) + (dX I y2.h).length))] = some (.agg (kX 0 0 0 0 0 0 0 (((dX I y.h).length : Int) + (dX I y2.h).length)).toArray) := by kernel_rfl
 simp only [aL, hw1, hbl, aC, a9, aU, aT]
 refine jJ pX (by rfl) dS (h8.aW aA.up) fun M9 h9 => ?_
 have hv' := hv.mC hkh hsub heff hβ
 have hm : dJ ((dX I y.h).length + (dX I y2.h).length) ≤ dJ I.length := pC hgm
 exact hK M9 ⟨S.most, S.next, β, (S.hp.fZ z3 y2.h.1.toNat).put y.h.1.toNat (y.k, r', ((dX I y.h).length : Int) + (dX I y2.h).length), reh S.ip (oM S.ip y2.h.1 y2.h.2) y.h.1 y.h.2, S.at_, S.en⟩ { y with root := r', N := N' } ((h9.fJ l2).fJ l1) rfl rfl hv' rfl rfl (aJR _ _ _ _) rfl rfl ⟨_, _, _, heff.mono (fun _ h => h) (fun _ h => h) hm⟩
end
end HL
end Go.Proofs.YtodobkbnmjgkdaaGreat
