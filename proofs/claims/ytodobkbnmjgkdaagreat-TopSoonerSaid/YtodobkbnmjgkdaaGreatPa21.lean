import Derived.Test.YtodobkbnmjgkdaaGreatPa20
set_option linter.unusedVariables false
set_option linter.unusedSimpArgs false
set_option maxRecDepth 100000
set_option maxHeartbeats 1000000
namespace Go.Proofs.YtodobkbnmjgkdaaGreat.HL
open Go.RowKit (Below)
open Go.Proofs
namespace ST
theorem pow_le8 {k n : Nat} (h : 2 ^ k ≤ n) (hn : n ≤ 301) : k ≤ 8 := by
 apply Decidable.byContradiction
 intro hc
 have : 2 ^ 9 ≤ 2 ^ k := Nat.pow_le_pow_right (by decide) (by omega)
 omega
theorem rs_len8 {z : Nat} {l : List Tn} (h : Rs l) (ho : ∀ t ∈ l, OkT z t) (hs : (ndsL l).length ≤ 300) : l.length ≤ 8 := by
 have h1 := rs_size (j := 0) h fun t ht => ⟨ho t ht, Nat.zero_le _⟩
 rw [Nat.zero_add, Nat.pow_zero] at h1
 exact pow_le8 h1 (by omega)
theorem wk_len9 {z : Nat} {l : List Tn} (h : Wk l) (ho : ∀ t ∈ l, OkT z t) (hs : (ndsL l).length ≤ 300) : l.length ≤ 9 := by
 cases l with
 | nil => simp
 | cons t l =>
  rw [ndsL_cons, List.length_cons, List.length_append] at hs
  have := rs_len8 h.1 (fun x hx => ho x (List.mem_cons_of_mem _ hx)) (by omega)
  rw [List.length_cons]; omega
theorem cel_perm2 {f g : Nat → Held} {N N' : List Nat} (h1 : N.Perm N') (h2 : (N.map f).Perm (N'.map g)) : (celF f N).Perm (celF g N') := by
 unfold celF
 refine h1.append ?_
 have := h2.map (·.1)
 rw [List.map_map, List.map_map] at this
 exact this
theorem root_mem {l : List Tn} {t : Tn} (h : t ∈ l) : t.n ∈ ndsL l := mem_ndsL.2 ⟨t, h, List.mem_cons_self⟩
theorem ndsL_mid (A B : List Tn) (t : Tn) : (ndsL (A ++ t :: B)).Perm (t.n :: (ndsL (A ++ B) ++ nds t.c)) := by
 have h : (ndsL (A ++ t :: B)).Perm (ndsL (t :: (A ++ B))) := ndsL_perm List.perm_middle
 refine h.trans ?_
 rw [ndsL_cons]
 exact List.Perm.cons _ List.perm_append_comm
theorem roots_nd {l : List Tn} (h : (ndsL l).Nodup) : (l.map (·.n)).Nodup := by
 have hsub : ∀ (l : List Tn), (l.map (·.n)).Sublist (ndsL l) := fun l => by
  induction l with
  | nil => exact List.Sublist.refl _
  | cons t l ih => rw [ndsL_cons]; exact (ih.trans (List.sublist_append_right _ _)).cons_cons _
 exact h.sublist (hsub l)
end ST
section
variable {w0 : World} {M F : Mem} {R : VP} {a : Nat} {α : AS}
open Go.Proofs.YtodobkbnmjgkdaaGreat.HL.ST
theorem intsN_wf' {l : List Nat} (h : ∀ x ∈ l, x < 1000000) : ∀ n ∈ intsN l, (Lit.int .i64 n).wf = true := fun n hn => by
 obtain ⟨x, hx, rfl⟩ := List.mem_map.1 hn
 exact wf64 (by have := h x hx; unfold In64; omega)
structure Gone (z : Nat) (α : AS) (f : Nat → Held) (A : List Tn) (t : Tn) (B : List Tn) : Prop where
 st : ∀ u ∈ A ++ t :: B, StT α u
 lb : Lb α f (ndsL (A ++ t :: B))
 nd : (celF f (ndsL (A ++ t :: B))).Nodup
 ok : ∀ u ∈ A ++ t :: B, OkT z u
 od : ∀ u ∈ A ++ B, OdT f u
 odt : Od f t.c
 wk : Wk (A ++ t :: B)
 sz : (ndsL (A ++ t :: B)).length ≤ 300
section
variable {z : Nat} {f : Nat → Held} {A B : List Tn} {t : Tn}
theorem Gone.sm {k : Int} {β : AS} (h : Gone z α f A t B) (hs : AS.Sm k α β) : Gone z β f A t B := ⟨fun u hu => (h.st u hu).sm hs, h.lb.sm hs, h.nd, h.ok, h.od, h.odt, h.wk, h.sz⟩
theorem Gone.mem (h : Gone z α f A t B) : t ∈ A ++ t :: B := by simp
theorem Gone.tn (h : Gone z α f A t B) : α.Nd t.n (f t.n).1 (f t.n).2 := h.lb _ (root_mem h.mem)
theorem Gone.nn (h : Gone z α f A t B) : (t.n :: (ndsL (A ++ B) ++ nds t.c)).Nodup := (ndsL_mid A B t).nodup_iff.1 (celF_nd h.nd)
theorem Gone.small (h : Gone z α f A t B) (hi : α.Inv) : ∀ x ∈ ndsL (A ++ t :: B), x < 1000000 := fun x hx => by
 have := AS.live_lt hi (h.lb x hx).ln
 have := hi.n
 omega
theorem Gone.cel (h : Gone z α f A t B) : (celF f (ndsL (A ++ t :: B))).Perm (celF f (t.n :: (ndsL (A ++ B) ++ nds t.c))) := celF_perm (ndsL_mid A B t)
theorem Gone.apart (h : Gone z α f A t B) : ∀ c ∈ celF f (ndsL (A ++ B) ++ nds t.c), c ≠ t.n ∧ c ≠ (f t.n).1 := by
 have hn := h.cel.nodup_iff.1 h.nd
 unfold celF at hn
 rw [List.map_cons, List.nodup_append] at hn
 obtain ⟨n1, n2, n3⟩ := hn
 intro c hc
 rcases List.mem_append.1 hc with hc | hc
 ·exact ⟨fun e => (List.nodup_cons.1 n1).1 (e ▸ hc), n3 c (List.mem_cons_of_mem _ hc) _ List.mem_cons_self⟩
 ·exact ⟨fun e => n3 t.n List.mem_cons_self c (List.mem_cons_of_mem _ hc) e.symm, fun e => (List.nodup_cons.1 n2).1 (e ▸ hc)⟩
theorem Gone.sub (h : Gone z α f A t B) : ∀ c ∈ celF f (ndsL (A ++ B) ++ nds t.c), c ∈ celF f (ndsL (A ++ t :: B)) := fun c hc => by
 refine h.cel.mem_iff.2 ?_
 rcases List.mem_append.1 hc with hc | hc
 ·exact List.mem_append_left _ (List.mem_cons_of_mem _ hc)
 ·refine List.mem_append_right _ ?_
  rw [List.map_cons]
  exact List.mem_cons_of_mem _ hc
theorem Gone.ended (h : Gone z α f A t B) (hi : α.Inv) {k : Int} {β : AS} (hs : AS.Sm k ((α.put (f t.n).1 9 (-1)).unlive t.n) β) : AS.Eff (fun c => c ∈ celF f (ndsL (A ++ t :: B))) (· = t.n) (-1) k α β ∧ β.get (f t.n).1 9 = -1 ∧
  (∀ c ∈ celF f (ndsL (A ++ B) ++ nds t.c), (∀ g, β.get c g = α.get c g) ∧ β.live c = α.live c) := by
 have hci : (f t.n).1 ∈ celF f (ndsL (A ++ t :: B)) := List.mem_append_right _ (List.mem_map.2 ⟨t.n, root_mem h.mem, rfl⟩)
 refine ⟨?_, ?_, fun c hc => ⟨fun g => ?_, ?_⟩⟩
 ·have e1 : AS.Eff (fun c => c ∈ celF f (ndsL (A ++ t :: B))) (· = t.n) 0 0 α (α.put (f t.n).1 9 (-1)) := AS.put_eff hci
  have hi1 : AS.Inv (α.put (f t.n).1 9 (-1)) := AS.put_inv hi _ _ _
  have e2 := AS.unlive_eff (S := fun c => c ∈ celF f (ndsL (A ++ t :: B))) (L := (· = t.n)) hi1 (n := t.n) h.tn.ln rfl
  exact (((e1.trans e2).trans hs.eff).mono (fun _ h => h) (fun _ h => h) (by omega)).to (by omega)
 ·rw [hs.get]
  show (if (f t.n).1 = (f t.n).1 ∧ 9 = 9 then (-1 : Int) else _) = -1
  rw [if_pos ⟨rfl, rfl⟩]
 ·rw [hs.get]
  show (if c = (f t.n).1 ∧ g = 9 then (-1 : Int) else α.get c g) = _
  rw [if_neg (fun e : c = (f t.n).1 ∧ g = 9 => (h.apart c hc).2 e.1)]
 ·rw [hs.live]
  show (if c = t.n then false else α.live c) = _
  rw [if_neg (h.apart c hc).1]
theorem Gone.del (h : Gone z α f A t B) : ((t.n : Int) ∉ intsN (A.map (·.n))) ∧ ((t.n : Int) ∉ intsN (B.map (·.n))) := by
 have h1 := roots_nd (celF_nd h.nd)
 rw [List.map_append, List.map_cons] at h1
 obtain ⟨n1, n2, n3⟩ := List.nodup_append.1 h1
 refine ⟨fun hm => ?_, fun hm => ?_⟩
 ·obtain ⟨x, hx, e⟩ := List.mem_map.1 hm
  have : x = t.n := by omega
  subst this
  exact n3 _ hx _ List.mem_cons_self rfl
 ·obtain ⟨x, hx, e⟩ := List.mem_map.1 hm
  have : x = t.n := by omega
  subst this
  exact (List.nodup_cons.1 n2).1 hx
theorem Gone.lens (h : Gone z α f A t B) {m : Nat} (hm : (ndsL (A ++ t :: B)).length ≤ m) : A.length + B.length ≤ 8 ∧ t.k ≤ 8 ∧ A.length + B.length ≤ bl m ∧ t.k + 1 ≤ bl m ∧ (trs t.c).length ≤ z * t.k ∧ (trs t.c).countP (fun t => t.k != 0) ≤ t.k := by
 have h1 := wk_len9 h.wk h.ok h.sz
 have h2 := wk_bl h.wk h.ok hm
 rw [List.length_append, List.length_cons] at h1 h2
 have h3 := h.ok t h.mem
 have h4 := ndsT_le h.mem
 refine ⟨by omega, pow_le8 (okT_size h3) (by have := h.sz; omega), by omega, ST.rk_bl h3 (by omega), h3.1.2.2.1, h3.1.2.2.2⟩
theorem Gone.rest {kf : FuncId × Array Value} {s : SV} (h : Gone z α f A t B) (hH : Holds w0 F M (star (SlA s ((intsN ((A ++ t :: B).map (·.n))).map (Value.int .i64))) (arenaA a α))) (hp : ∀ (y : Int) (M' : Mem) (R' : VP), Mem.le F M' → R' (.bool (y == (t.n : Int))) M' → C PP w0 kf.1 ((([.int .i64 y] : List Value) ++ kf.2.toList).toArray) R' M')
  (hR : ∀ M' s', Holds w0 F M' (star (SlA s' ((intsN ((A ++ B).map (·.n))).map (Value.int .i64))) (arenaA a α)) → R s'.v M') : C PP w0 Id.dFi_ #[SV.v s, .func (.func kf.1) #[] kf.2] R M := by
 have hi := hH.right.inv
 have e1 : intsN ((A ++ t :: B).map (·.n)) = intsN (A.map (·.n)) ++ (t.n : Int) :: intsN (B.map (·.n)) := by simp [intsN]
 have hwf : ∀ y ∈ intsN ((A ++ t :: B).map (·.n)), (Lit.int .i64 y).wf = true := intsN_wf' fun x hx => by
  obtain ⟨u, hu, rfl⟩ := List.mem_map.1 hx
  exact h.small hi _ (root_mem hu)
 have hl := (h.lens (Nat.le_refl _)).1
 rw [e1] at hH hwf
 refine DelF_ok hH hwf h.del.1 h.del.2 (by simp [intsN]; omega) hp fun M' s' h' => hR M' s' ?_
 rw [show intsN ((A ++ B).map (·.n)) = intsN (A.map (·.n)) ++ intsN (B.map (·.n)) from by simp [intsN]]
 exact h'
end
theorem bi_without_ok {s : SV} {f : Nat → Held} {A B : List Tn} {t : Tn} (hA : Holds w0 F M (star (SlA s ((intsN ((A ++ t :: B).map (·.n))).map (Value.int .i64))) (arenaA a α))) (hG : Gone 1 α f A t B) {m : Nat} (hm : (ndsL (A ++ t :: B)).length ≤ m)
  (h : ∀ M' β f' l', Holds w0 F M' (arenaA a β) → St β (-1) (fo l') → Lb β f' (ndsL l') → (ndsL l').Perm (ndsL (A ++ B) ++ nds t.c) → ((ndsL l').map f').Perm ((ndsL (A ++ B) ++ nds t.c).map f) → (∀ u ∈ l', OkT 1 u) → (∀ u ∈ l', OdT f' u) → Wk l' → AS.Eff (fun c => c ∈ celF f (ndsL (A ++ t :: B))) (· = t.n) (-1) (200 * bl m + 100) α β → β.get (f t.n).1 9 = -1 → R (.tuple #[.int .i64 (fo l').root, .int .i64 ((f t.n).1 : Int)]) M') :
  C PP w0 Id.bi_without #[.pointer (some ⟨a, 0, none⟩), SV.v s, .int .i64 (t.n : Int)] R M := by
 apply bi_without.go
 unfold bi_without.T nfz
 obtain ⟨b1, b2, b3, b4, b5, b6⟩ := hG.lens hm
 intro bx hbx hwx
 have h1 : Holds w0 F _ (star (row1 bx [.int .i64 (t.n : Int)] 3) _) := hA.new hbx hwx [.int .i64 (t.n : Int)] 3
 generalize M.set bx _ = M1 at h1 ⊢
 obtain ⟨F1, hle1, hown, h2⟩ := Holds.freeze1 h1
 have hld : ∀ M', Mem.le F1 M' → (std PP w0).ld 3 ⟨bx, 0, none⟩ M' = some (.int .i64 (t.n : Int)) := fun M' hM => by
  rw [ld_one W.c3]; exact rd_own (o := 0) (hown.le hM)
 refine hG.rest (kf := (Id.bi_without_1, #[.pointer (some ⟨bx, 0, none⟩)])) h2 (fun y M' R' hM hR' => ?_) fun M2 s2 h3 => ?_
 ·show C PP w0 Id.bi_without_1 #[.int .i64 y, .pointer (some ⟨bx, 0, none⟩)] R' M'
  apply bi_without_1.go
  unfold bi_without_1.T nfz
  rw [hld M' hM, ob_v, zI_]
  exact hR'
 ·rw [shS_sv, hld M2 h3.fr, ob_v, zI_]
  obtain ⟨F2, hB, hle2, back⟩ := h3.last
  have hnc : (nds t.c).Nodup := (List.nodup_append.1 (List.nodup_cons.1 hG.nn).2).2.1
  have htl : ∀ n ∈ ndsT t, α.live n = true := fun n hn => (hG.lb n (mem_ndsL.2 ⟨t, hG.mem, hn⟩)).ln
  refine Kids_ok hB (hG.st t hG.mem) htl hnc fun M3 s3 β hB3 hsm3 => ?_
  have h4 := back M3 _ hB3
  rw [shS_sv]
  have hi := hA.right.inv
  have hrk : RdI w0 M3 .i64 s3 (intsN ((trs t.c).map (·.n))) := h4.right.rdI' (fun x hx => by
   obtain ⟨u, hu, rfl⟩ := List.mem_map.1 hx
   have h5 := AS.live_lt hi (htl u.n (List.mem_cons_of_mem _ (by rw [← nds_trs]; exact root_mem hu)))
   have := hi.n
   omega) (by simp; omega)
  refine appI h4 hrk (by simp [intsN]; omega) fun M4 s4 h5 => ?_
  rw [shS_sv, hld M4 h5.fr, ob_v, zI_]
  have h6 : Holds w0 F1 M4 (star (SlA s4 ((intsN (((A ++ B) ++ trs t.c).map (·.n))).map (Value.int .i64))) (arenaA a β)) := by
   rw [show intsN (((A ++ B) ++ trs t.c).map (·.n)) = intsN ((A ++ B).map (·.n)) ++ intsN ((trs t.c).map (·.n)) from by simp [intsN]]
   exact h5.rot.right
  have hGβ := hG.sm hsm3
  obtain ⟨F3, hB6, hle6, back6⟩ := h6.last
  refine End_ok hB6 hGβ.tn fun M5 γ hB7 hs7 => ?_
  have h7 := back6 M5 _ hB7
  rw [zI_]
  have hNr : ndsL ((A ++ B) ++ trs t.c) = ndsL (A ++ B) ++ nds t.c := by rw [ndsL_app, nds_trs]
  obtain ⟨e1, e2, e3⟩ := hGβ.ended h6.right.inv hs7
  have hmem : ∀ u ∈ (A ++ B) ++ trs t.c, ∀ x ∈ ndsT u, x ∈ celF f (ndsL (A ++ B) ++ nds t.c) := fun u hu x hx => List.mem_append_left _ (by rw [← hNr]; exact mem_ndsL.2 ⟨u, hu, hx⟩)
  have hstγ : ∀ u ∈ (A ++ B) ++ trs t.c, StT γ u := fun u hu => by
   have h8 : StT β u := by
    rcases List.mem_append.1 hu with h | h
    ·exact hGβ.st u (by rcases List.mem_append.1 h with h | h <;> simp [h])
    ·exact (hGβ.st t hG.mem).2.2.trs u h
   refine ⟨?_, ?_, h8.2.2.congr fun x hx y _ => (e3 x (hmem u hu x (List.mem_cons_of_mem _ hx))).1 y⟩
   ·rw [(e3 u.n (hmem u hu u.n List.mem_cons_self)).1]; exact h8.1
   ·rw [(e3 u.n (hmem u hu u.n List.mem_cons_self)).1]; exact h8.2.1
  have hlbγ : Lb γ f (ndsL ((A ++ B) ++ trs t.c)) := by
   rw [hNr]
   refine (hGβ.lb.sub fun x hx => ?_).congr (fun c hc g _ => (e3 c hc).1 g) (fun c hc => (e3 c hc).2)
   exact (ndsL_mid A B t).mem_iff.2 (List.mem_cons_of_mem _ hx)
  have hsubcel : ∀ c ∈ ndsL ((A ++ B) ++ trs t.c), c ∈ celF f (ndsL (A ++ t :: B)) := fun c hc => hG.sub c (List.mem_append_left _ (by rw [← hNr]; exact hc))
  obtain ⟨F4, hle8, hB8, hr8⟩ := h7.freeze (intsN_wf' fun x hx => by
   obtain ⟨u, hu, rfl⟩ := List.mem_map.1 hx
   have := AS.live_lt h7.right.inv (hlbγ u.n (root_mem hu)).ln
   have := h7.right.inv.n
   omega) (by simp [intsN]; omega)
  have hndr : (celF f (ndsL ((A ++ B) ++ trs t.c))).Nodup := by
   rw [hNr]
   have := hG.cel.nodup_iff.1 hG.nd
   unfold celF at this ⊢
   rw [List.map_cons, List.nodup_append] at this
   obtain ⟨n1, n2, n3⟩ := this
   exact List.nodup_append.2 ⟨(List.nodup_cons.1 n1).2, (List.nodup_cons.1 n2).2, fun x hx y hy => n3 x (List.mem_cons_of_mem _ hx) y (List.mem_cons_of_mem _ hy)⟩
  have hokr : ∀ u ∈ (A ++ B) ++ trs t.c, OkT 1 u := fun u hu => by
   rcases List.mem_append.1 hu with h | h
   ·exact hG.ok u (by rcases List.mem_append.1 h with h | h <;> simp [h])
   ·exact ok_trs.1 (hG.ok t hG.mem).2 u h
  have hodr : ∀ u ∈ (A ++ B) ++ trs t.c, OdT f u := fun u hu => by
   rcases List.mem_append.1 hu with h | h
   ·exact hG.od u h
   ·exact od_trs.1 hG.odt u h
  have hln : ((A ++ B) ++ trs t.c).length ≤ 8 + t.k := by rw [List.length_append, List.length_append]; omega
  refine Carry_ok hB8 (by decide) hr8 hstγ hlbγ hndr hokr hodr (by omega) fun M6 δ l' hC hst' hp' hok' hod' hrs' hc' hg' => ?_
  rw [zI_]
  refine h M6 δ f l' ((hC.uF_ hle8).uF_ hle1) hst' ?_ (by rw [← hNr]; exact hp') (by rw [← hNr]; exact hp'.map f) hok' hod' hrs'.wk ?_ ?_
  ·refine (hlbγ.sub fun x hx => hp'.mem_iff.1 hx).congr (fun c _ g hx => hg' c g (by omega)) (fun c _ => by rw [hc'.live])
  ·refine (((hsm3.eff.trans e1).trans ((hc'.mono hsubcel (Int.le_refl _)).eff)).mono (fun _ h => h) (fun _ h => h) ?_).to (by omega)
   rw [List.length_append, List.length_append] at *
   omega
  ·rw [hg' _ 9 (by decide)]; exact e2
end
end Go.Proofs.YtodobkbnmjgkdaaGreat.HL
namespace Go.Proofs.YtodobkbnmjgkdaaGreat.HL
open Go.RowKit (Below)
open Go.Proofs
namespace ST
def kA (l : List Tn) : List Tn := l.filter fun t => t.k != 0
def k0 (l : List Tn) : List Tn := l.filter fun t => t.k == 0
theorem kA_k0 (l : List Tn) : (kA l ++ k0 l).Perm l := by
 unfold kA k0
 induction l with
 | nil => exact List.Perm.refl _
 | cons t l ih =>
  by_cases h : t.k = 0
  ·rw [List.filter_cons_of_neg (by simp [h]), List.filter_cons_of_pos (by simp [h])]
   exact List.perm_middle.trans (ih.cons t)
  ·rw [List.filter_cons_of_pos (by simp [h]), List.filter_cons_of_neg (by simp [h])]
   exact ih.cons t
theorem kA_len (l : List Tn) : (kA l).length = l.countP fun t => t.k != 0 := by
 unfold kA; rw [List.countP_eq_length_filter]
end ST
section
variable {w0 : World} {M F : Mem} {R : VP} {a : Nat} {α : AS}
open Go.Proofs.YtodobkbnmjgkdaaGreat.HL.ST
theorem sW__ok {s : SV} {f : Nat → Held} {A B : List Tn} {t : Tn} (hA : Holds w0 F M (star (SlA s ((intsN ((A ++ t :: B).map (·.n))).map (Value.int .i64))) (arenaA a α))) (hG : Gone 2 α f A t B) {m : Nat} (hm : (ndsL (A ++ t :: B)).length ≤ m)
  (h : ∀ M' β f' l', Holds w0 F M' (arenaA a β) → St β (-1) (fo l') → Lb β f' (ndsL l') → (ndsL l').Perm (ndsL (A ++ B) ++ nds t.c) → ((ndsL l').map f').Perm ((ndsL (A ++ B) ++ nds t.c).map f) → (∀ u ∈ l', OkT 2 u) → (∀ u ∈ l', OdT f' u) → Wk l' → AS.Eff (fun c => c ∈ celF f (ndsL (A ++ t :: B))) (· = t.n) (-1) (200 * bl m + 100) α β → β.get (f t.n).1 9 = -1 → R (.tuple #[.int .i64 (fo l').root, .int .i64 ((f t.n).1 : Int)]) M') :
  C PP w0 Id.sW_ #[.pointer (some ⟨a, 0, none⟩), SV.v s, .int .i64 (t.n : Int)] R M := by
 apply sW_.go
 intro pts H
 unfold sW_.T nfz
 obtain ⟨b1, b2, b3, b4, b5, b6⟩ := hG.lens hm
 intro bx hbx hwx
 have h1 : Holds w0 F _ (star (row1 bx [.int .i64 (t.n : Int)] 3) _) := hA.new hbx hwx [.int .i64 (t.n : Int)] 3
 generalize M.set bx _ = M1 at h1 ⊢
 obtain ⟨F1, hle1, hown, h2⟩ := Holds.freeze1 h1
 have hld : ∀ M', Mem.le F1 M' → (std PP w0).ld 3 ⟨bx, 0, none⟩ M' = some (.int .i64 (t.n : Int)) := fun M' hM => by
  rw [ld_one W.c3]; exact rd_own (o := 0) (hown.le hM)
 refine hG.rest (kf := (Id.sW__1, #[.pointer (some ⟨bx, 0, none⟩)])) h2 (fun y M' R' hM hR' => ?_) fun M2 s2 h3 => ?_
 ·show C PP w0 Id.sW__1 #[.int .i64 y, .pointer (some ⟨bx, 0, none⟩)] R' M'
  apply sW__1.go
  unfold sW__1.T nfz
  rw [hld M' hM, ob_v, zI_]
  exact hR'
 ·rw [shS_sv, hld M2 h3.fr, ob_v, zI_]
  obtain ⟨F2, hB, hle2, back⟩ := h3.last
  have hnc : (nds t.c).Nodup := (List.nodup_append.1 (List.nodup_cons.1 hG.nn).2).2.1
  have htl : ∀ n ∈ ndsT t, α.live n = true := fun n hn => (hG.lb n (mem_ndsL.2 ⟨t, hG.mem, hn⟩)).ln
  refine Kids_ok hB (hG.st t hG.mem) htl hnc fun M3 s3 β hB3 hsm3 => ?_
  have h4 := back M3 _ hB3
  rw [shS_sv]
  have hi := hA.right.inv
  have htk : ∀ u ∈ trs t.c, u.n ∈ ndsT t := fun u hu => List.mem_cons_of_mem _ (by rw [← nds_trs]; exact root_mem hu)
  obtain ⟨F3, hle3, h5, hrk⟩ := (h4.rot).freeze (intsN_wf' fun x hx => by
   obtain ⟨u, hu, rfl⟩ := List.mem_map.1 hx
   have h5 := AS.live_lt hi (htl u.n (htk u hu))
   have := hi.n
   omega) (by simp [intsN]; omega)
  have hGβ := hG.sm hsm3
  have hkn := hrk.len
  simp only [intsN, List.length_map] at hkn
  have fin : ∀ (M4 : Mem) (sR sA : SV) (γ : AS), Holds w0 F3 M4 (star (SlA sA ((intsN ((k0 (trs t.c)).map (·.n))).map (Value.int .i64))) (star (SlA sR ((intsN (((A ++ B) ++ kA (trs t.c)).map (·.n))).map (Value.int .i64))) (arenaA a γ))) → AS.Sm (2 * (trs t.c).length + 1) α γ →
    ob ((std PP w0).ld 3 ⟨bx, 0, none⟩ M4) fun v30 => shI .i64 v30 fun n31 => C PP w0 Id.node_End #[.pointer (some ⟨a, 0, none⟩), .int .i64 n31] (fun v32 M33 => shI .i64 v32 fun n34 => C PP w0 Id.tC_ #[.pointer (some ⟨a, 0, none⟩), SV.v sR] (fun v35 M36 => shI .i64 v35 fun n37 => ∃ k38, sW_.L2 pts k38 (some ⟨a, 0, none⟩) n34 n37 sA ((sA.n : Nat) : Int) 0 M36) M33) M4 := by
   intro M4 sR sA γ hH hsm
   have hGγ := hG.sm hsm
   rw [hld M4 (Mem.le_trans hle3 hH.fr), ob_v, zI_]
   have hiγ := hH.right.right.inv
   have hkmem : ∀ u, u ∈ kA (trs t.c) ∨ u ∈ k0 (trs t.c) → u ∈ trs t.c := fun u hu => (kA_k0 (trs t.c)).mem_iff.1 (List.mem_append.2 hu)
   obtain ⟨F4, hle4, h6, hrA⟩ := hH.freeze (intsN_wf' fun x hx => by
    obtain ⟨u, hu, rfl⟩ := List.mem_map.1 hx
    have h5 := AS.live_lt hi (htl u.n (htk u (hkmem u (.inr hu))))
    have := hi.n
    omega) (by have := (kA_k0 (trs t.c)).length_eq; rw [List.length_append] at this; simp [intsN]; omega)
   have hsAn := hrA.len
   simp only [intsN, List.length_map] at hsAn
   obtain ⟨F5, hB5, hle5, back5⟩ := h6.last
   refine End_ok hB5 hGγ.tn fun M5 δ hB6 hs6 => ?_
   have h7 := back5 M5 _ hB6
   rw [zI_]
   obtain ⟨e1, e2, e3⟩ := hGγ.ended hiγ hs6
   have hperm : (ndsL ((A ++ B) ++ kA (trs t.c)) ++ ndsL (k0 (trs t.c))).Perm (ndsL (A ++ B) ++ nds t.c) := by
    rw [ndsL_app, List.append_assoc]
    refine List.Perm.append_left _ ?_
    rw [← ndsL_app, ← nds_trs]
    exact ndsL_perm (kA_k0 _)
   have hrn : (celF f (ndsL ((A ++ B) ++ kA (trs t.c)) ++ ndsL (k0 (trs t.c)))).Nodup := by
    refine (celF_perm hperm).nodup_iff.2 ?_
    have := hG.cel.nodup_iff.1 hG.nd
    unfold celF at this ⊢
    rw [List.map_cons, List.nodup_append] at this
    obtain ⟨n1, n2, n3⟩ := this
    exact List.nodup_append.2 ⟨(List.nodup_cons.1 n1).2, (List.nodup_cons.1 n2).2, fun x hx y hy => n3 x (List.mem_cons_of_mem _ hx) y (List.mem_cons_of_mem _ hy)⟩
   have hrest : ∀ x ∈ ndsL ((A ++ B) ++ kA (trs t.c)) ++ ndsL (k0 (trs t.c)), x ∈ celF f (ndsL (A ++ B) ++ nds t.c) := fun x hx => List.mem_append_left _ (hperm.mem_iff.1 hx)
   have hlbδ : Lb δ f (ndsL ((A ++ B) ++ kA (trs t.c)) ++ ndsL (k0 (trs t.c))) := by
    have h9 : Lb δ f (ndsL (A ++ B) ++ nds t.c) := (hGγ.lb.sub fun x hx => (ndsL_mid A B t).mem_iff.2 (List.mem_cons_of_mem _ hx)).congr (fun c hc g _ => (e3 c hc).1 g) (fun c hc => (e3 c hc).2)
    exact h9.sub fun x hx => hperm.mem_iff.1 hx
   have hst1 : ∀ u, (u ∈ A ++ B ∨ u ∈ trs t.c) → StT γ u := fun u hu => by
    rcases hu with h | h
    ·exact hGγ.st u (by rcases List.mem_append.1 h with h | h <;> simp [h])
    ·exact (hGγ.st t hG.mem).2.2.trs u h
   have hmem : ∀ u, (u ∈ A ++ B ∨ u ∈ trs t.c) → ∀ x ∈ ndsT u, x ∈ celF f (ndsL (A ++ B) ++ nds t.c) := fun u hu x hx => by
    refine List.mem_append_left _ (List.mem_append.2 ?_)
    rcases hu with h | h
    ·exact .inl (mem_ndsL.2 ⟨u, h, hx⟩)
    ·exact .inr (by rw [← nds_trs]; exact mem_ndsL.2 ⟨u, h, hx⟩)
   have hstδ : ∀ u, (u ∈ A ++ B ∨ u ∈ trs t.c) → StT δ u := fun u hu => by
    have h8 := hst1 u hu
    refine ⟨?_, ?_, h8.2.2.congr fun x hx y _ => (e3 x (hmem u hu x (List.mem_cons_of_mem _ hx))).1 y⟩
    ·rw [(e3 u.n (hmem u hu u.n List.mem_cons_self)).1]; exact h8.1
    ·rw [(e3 u.n (hmem u hu u.n List.mem_cons_self)).1]; exact h8.2.1
   have hcls : ∀ u, u ∈ (A ++ B) ++ kA (trs t.c) → (u ∈ A ++ B ∨ u ∈ trs t.c) := fun u hu => by
    rcases List.mem_append.1 hu with h | h
    ·exact .inl h
    ·exact .inr (hkmem u (.inl h))
   have hokr : ∀ u, (u ∈ A ++ B ∨ u ∈ trs t.c) → OkT 2 u := fun u hu => by
    rcases hu with h | h
    ·exact hG.ok u (by rcases List.mem_append.1 h with h | h <;> simp [h])
    ·exact ok_trs.1 (hG.ok t hG.mem).2 u h
   have hodr : ∀ u, (u ∈ A ++ B ∨ u ∈ trs t.c) → OdT f u := fun u hu => by
    rcases hu with h | h
    ·exact hG.od u h
    ·exact od_trs.1 hG.odt u h
   obtain ⟨F6, hle6, hB7, hr7⟩ := h7.freeze (intsN_wf' fun x hx => by
    obtain ⟨u, hu, rfl⟩ := List.mem_map.1 hx
    have := AS.live_lt h7.right.inv (hlbδ u.n (List.mem_append_left _ (root_mem hu))).ln
    have := h7.right.inv.n
    omega) (by have := kA_len (trs t.c); simp [intsN]; omega)
   have hln : ((A ++ B) ++ kA (trs t.c)).length ≤ 8 + t.k := by rw [List.length_append, List.length_append, kA_len]; omega
   have hc1 : (celF f (ndsL ((A ++ B) ++ kA (trs t.c)))).Nodup := ((celF_app f _ _).nodup_iff.1 hrn |> List.nodup_append.1).1
   refine Carry_ok hB7 (by decide) hr7 (fun u hu => hstδ u (hcls u hu)) (hlbδ.sub fun x hx => List.mem_append_left _ hx) hc1 (fun u hu => hokr u (hcls u hu)) (fun u hu => hodr u (hcls u hu)) (by omega) fun M6 ε l1 hC hst' hp' hok' hod' hrs' hc' hg' => ?_
   rw [zI_]
   have hrA6 : RdI w0 F6 .i64 sA (intsN ((k0 (trs t.c)).map (·.n))) := (hrA.le (M1 := F6) hle6)
   have hnnr := celF_nd hrn
   have key : ∀ (P2 P1 : List Tn) (M7 : Mem) (ζ : AS) (f1 : Nat → Held) (l2 : List Tn) (k : Nat), k0 (trs t.c) = P1 ++ P2 → Holds w0 F6 M7 (arenaA a ζ) → St ζ (-1) (fo l2) → Lb ζ f1 (ndsL l2) → (ndsL l2).Perm (ndsL ((A ++ B) ++ kA (trs t.c)) ++ ndsL P1) → ((ndsL l2).map f1).Perm ((ndsL ((A ++ B) ++ kA (trs t.c)) ++ ndsL P1).map f) → (∀ x, x ∉ ndsL l2 → f1 x = f x) →
     (∀ u ∈ l2, OkT 2 u) → (∀ u ∈ l2, OdT f1 u) → Wk l2 → AS.Chg (fun c => c ∈ celF f (ndsL ((A ++ B) ++ kA (trs t.c)) ++ ndsL P1)) (14 * (8 + t.k) + 40 * P1.length) δ ζ → P2.length < k → sW_.L2 pts k (some ⟨a, 0, none⟩) ((f t.n).1 : Int) (fo l2).root sA ((sA.n : Nat) : Int) (P1.length : Int) M7 := by
    intro P2
    induction P2 with
    | nil =>
     intro P1 M7 ζ f1 l2 k he hZ hsz hlz hpz hmz hfz hokz hodz hwkz hcz hk
     obtain ⟨k, rfl⟩ : ∃ j, k = j + 1 := ⟨k - 1, by omega⟩
     rw [List.append_nil] at he
     refine Eq.mpr (H.L2 ..) ?_
     unfold sW_.L2.T nfz
     have hPl : P1.length = (k0 (trs t.c)).length := by rw [he]
     rw [bD_, if_neg (by omega)]
     rw [← he] at hpz hmz hcz
     refine h M7 ζ f1 l2 ((((hZ.uF_ hle6).uF_ hle4).uF_ hle3).uF_ hle1) hsz hlz (hpz.trans hperm) (hmz.trans (hperm.map f)) hokz hodz hwkz ?_ ?_
     ·have hk0l : (k0 (trs t.c)).length ≤ (trs t.c).length := List.length_filter_le _ _
      refine (((hsm.eff.trans e1).trans ((hcz.mono (T := fun c => c ∈ celF f (ndsL (A ++ t :: B))) (fun c hc => hG.sub c ((celF_perm hperm).mem_iff.1 hc)) (Int.le_refl _)).eff)).mono (fun _ h => h) (fun _ h => h) ?_).to (by omega)
      omega
     ·rw [hcz.get _ (fun hc => (hG.apart _ ((celF_perm hperm).mem_iff.1 hc)).2 rfl)]; exact e2
    | cons u P2 ih =>
     intro P1 M7 ζ f1 l2 k he hZ hsz hlz hpz hmz hfz hokz hodz hwkz hcz hk
     obtain ⟨k, rfl⟩ : ∃ j, k = j + 1 := ⟨k - 1, by omega⟩
     have ll := congrArg List.length he
     simp only [List.length_append, List.length_cons] at ll hk
     have hu0 : u ∈ k0 (trs t.c) := by rw [he]; simp
     have hk0l : (k0 (trs t.c)).length ≤ (trs t.c).length := List.length_filter_le _ _
     have hut : u ∈ trs t.c := hkmem u (.inr hu0)
     have huk : u.k = 0 := by
      have := (List.mem_filter.1 hu0).2
      simpa using this
     have huc : u.c = .nil := okT_zero (hokr u (.inr hut)) huk
     have hun : ndsT u = [u.n] := by unfold ndsT; rw [huc]; rfl
     refine Eq.mpr (H.L2 ..) ?_
     unfold sW_.L2.T nfz
     rw [bD_, if_pos (by omega)]
     refine rdx (x := (u.n : Int)) W.c3 hrA6 hZ.fr P1.length rfl (by rw [he]; simp [intsN]) ?_
     have hbig : (ndsL ((A ++ B) ++ kA (trs t.c)) ++ ndsL (P1 ++ u :: P2)).Nodup := by rw [← he]; exact hnnr
     have hsub2 : (ndsL ((A ++ B) ++ kA (trs t.c)) ++ (ndsL P1 ++ (u.n :: ndsL P2))) = ndsL ((A ++ B) ++ kA (trs t.c)) ++ ndsL (P1 ++ u :: P2) := by
      rw [ndsL_app P1]
      show _ = _ ++ (ndsL P1 ++ (ndsT u ++ ndsL P2))
      rw [hun]; rfl
     have hcelu : (celF f (u.n :: (ndsL ((A ++ B) ++ kA (trs t.c)) ++ ndsL P1))).Nodup := by
      have h8 := hrn
      rw [he, ← hsub2, ← List.append_assoc] at h8
      have h9 : ((ndsL ((A ++ B) ++ kA (trs t.c)) ++ ndsL P1) ++ u.n :: ndsL P2).Perm ((u.n :: (ndsL ((A ++ B) ++ kA (trs t.c)) ++ ndsL P1)) ++ ndsL P2) := List.perm_middle
      have h10 := (celF_perm (f := f) h9).nodup_iff.1 h8
      exact (List.nodup_append.1 ((celF_app f _ _).nodup_iff.1 h10)).1
     have hun2 : u.n ∉ ndsL l2 := fun hm => (List.nodup_cons.1 (celF_nd hcelu)).1 (hpz.mem_iff.1 hm)
     have hf1u : f1 u.n = f u.n := hfz u.n hun2
     have hP1 : (u.n :: ndsL l2).Perm (u.n :: (ndsL ((A ++ B) ++ kA (trs t.c)) ++ ndsL P1)) := hpz.cons _
     have hM1 : ((u.n :: ndsL l2).map f1).Perm ((u.n :: (ndsL ((A ++ B) ++ kA (trs t.c)) ++ ndsL P1)).map f) := by
      rw [List.map_cons, List.map_cons, hf1u]
      exact hmz.cons _
     have hcel2 := cel_perm2 hP1 hM1
     have hnoS : ∀ c, (c = u.n ∨ c = (f u.n).1) → c ∉ celF f (ndsL ((A ++ B) ++ kA (trs t.c)) ++ ndsL P1) := fun c hc hm => by
      have h8 := hcelu
      unfold celF at h8 hm
      rw [List.map_cons, List.nodup_append] at h8
      obtain ⟨n1, n2, n3⟩ := h8
      rcases hc with rfl | rfl
      ·rcases List.mem_append.1 hm with hm | hm
       ·exact (List.nodup_cons.1 n1).1 hm
       ·exact n3 u.n List.mem_cons_self u.n (List.mem_cons_of_mem _ hm) rfl
      ·rcases List.mem_append.1 hm with hm | hm
       ·exact n3 _ (List.mem_cons_of_mem _ hm) _ List.mem_cons_self rfl
       ·exact (List.nodup_cons.1 n2).1 hm
     have hud := hstδ u (.inr hut)
     have hζu : ∀ y, ζ.get u.n y = δ.get u.n y := hcz.get u.n (hnoS _ (.inl rfl))
     have hlbu : Lb ζ f1 (u.n :: ndsL l2) := fun x hx => by
      rcases List.mem_cons.1 hx with rfl | hx
      ·rw [hf1u]
       have h8 := hlbδ u.n (List.mem_append_right _ (root_mem hu0))
       exact h8.congr hζu (hcz.get _ (hnoS _ (.inr rfl))) (by rw [hcz.live]) (by rw [hcz.live])
      ·exact hlz x hx
     refine Single_ok hZ (n := u.n) hsz ?_ ?_ hlbu (hcel2.nodup_iff.2 hcelu) hokz hodz hwkz fun M8 η f2 l3 hE hs3 hl3 hp3 hm3 hf3 hok3 hod3 hwk3 hc3 => ?_
     ·rw [hζu, hud.1, huc]; rfl
     ·rw [hζu, hud.2.1, huk]; rfl
     ·rw [zI_, i64_succ (by omega)]
      have hpn : (ndsL ((A ++ B) ++ kA (trs t.c)) ++ ndsL (P1 ++ [u])).Perm (u.n :: (ndsL ((A ++ B) ++ kA (trs t.c)) ++ ndsL P1)) := by
       rw [ndsL_app P1, show ndsL [u] = [u.n] from by simp [ndsL, hun], ← List.append_assoc]
       exact List.perm_append_comm
      have := ih (P1 ++ [u]) M8 η f2 l3 k (by rw [he]; simp) hE hs3 (hl3.sub fun x hx => hp3.mem_iff.1 hx) ((hp3.trans hP1).trans hpn.symm) (((hp3.map f2).trans hm3).trans (hM1.trans (hpn.map f).symm)) (fun x hx => ?_) hok3 hod3 hwk3 ?_ (by omega)
      ·rw [List.length_append, List.length_singleton] at this
       exact this
      ·have h8 : x ∉ u.n :: ndsL l2 := fun hm => hx (hp3.mem_iff.2 hm)
       rw [hf3 x h8]
       exact hfz x fun hm => h8 (List.mem_cons_of_mem _ hm)
      ·refine ((hcz.mono (T := fun c => c ∈ celF f (ndsL ((A ++ B) ++ kA (trs t.c)) ++ ndsL (P1 ++ [u]))) (fun c hc => (celF_perm hpn).mem_iff.2 ?_) (Int.le_refl _)).trans (hc3.mono (fun c hc => (celF_perm hpn).mem_iff.2 (hcel2.mem_iff.1 hc)) (Int.le_refl _))).mono (fun _ h => h) (by simp; omega)
       unfold celF at hc ⊢
       rw [List.map_cons]
       rcases List.mem_append.1 hc with hc | hc
       ·exact List.mem_append_left _ (List.mem_cons_of_mem _ hc)
       ·exact List.mem_append_right _ (List.mem_cons_of_mem _ hc)
   refine ⟨(k0 (trs t.c)).length + 1, key (k0 (trs t.c)) [] M6 ε f l1 _ rfl hC hst' ?_ ?_ ?_ (fun _ _ => rfl) hok' hod' hrs'.wk ?_ (by omega)⟩
   ·refine (hlbδ.sub fun x hx => List.mem_append_left _ (hp'.mem_iff.1 hx)).congr (fun c _ g hx => hg' c g (by omega)) (fun c _ => by rw [hc'.live])
   ·simpa [ndsL] using hp'
   ·simpa [ndsL] using hp'.map f
   ·refine hc'.mono (fun c hc => List.mem_append_left _ (List.mem_append_left _ hc)) ?_
    have h9 := hln
    simp only [List.length_append, List.length_nil] at h9 ⊢
    omega
  have key : ∀ (K2 K1 : List Tn) (sR sA : SV) (M4 : Mem) (γ : AS) (k : Nat), trs t.c = K1 ++ K2 → Holds w0 F3 M4 (star (SlA sA ((intsN ((k0 K1).map (·.n))).map (Value.int .i64))) (star (SlA sR ((intsN (((A ++ B) ++ kA K1).map (·.n))).map (Value.int .i64))) (arenaA a γ))) → AS.Sm ((trs t.c).length + 1 + K1.length) α γ → K2.length < k →
    sW_.L1 pts k (some ⟨a, 0, none⟩) ⟨bx, 0, none⟩ sR sA s3 ((s3.n : Nat) : Int) (K1.length : Int) M4 := by
   intro K2
   induction K2 with
   | nil =>
    intro K1 sR sA M4 γ k he hH hsm hk
    obtain ⟨k, rfl⟩ : ∃ j, k = j + 1 := ⟨k - 1, by omega⟩
    rw [List.append_nil] at he
    refine Eq.mpr (H.L1 ..) ?_
    unfold sW_.L1.T nfz
    have : K1.length = (trs t.c).length := by rw [he]
    rw [bD_, if_neg (by omega)]
    rw [← he] at hH
    exact fin M4 sR sA γ hH (hsm.mono (by omega))
   | cons u K2 ih =>
    intro K1 sR sA M4 γ k he hH hsm hk
    obtain ⟨k, rfl⟩ : ∃ j, k = j + 1 := ⟨k - 1, by omega⟩
    have ll := congrArg List.length he
    simp only [List.length_append, List.length_cons] at ll hk
    have hut : u ∈ trs t.c := by rw [he]; simp
    have hlu : γ.live u.n = true := by rw [hsm.live]; exact htl u.n (htk u hut)
    have hkA : (kA K1).length ≤ K1.length := List.length_filter_le _ _
    have hk0 : (k0 K1).length ≤ K1.length := List.length_filter_le _ _
    refine Eq.mpr (H.L1 ..) ?_
    unfold sW_.L1.T nfz
    rw [bD_, if_pos (by omega)]
    refine rdx (x := (u.n : Int)) W.c3 hrk hH.fr K1.length rfl (by rw [he]; simp [intsN]) ?_
    obtain ⟨F4, hB4, hle4, back4⟩ := hH.last3
    refine Get_ok hB4 fun M5 hB5 => ?_
    have h6 := back4 M5 _ hB5
    rw [show γ.getI (u.n : Int) 4 = (u.k : Int) from by
     rw [show γ.getI (u.n : Int) 4 = γ.get u.n 4 from AS.getI_live (f := 4) hlu (by omega), hsm.get]
     exact ((hG.st t hG.mem).2.2.trs u hut).2.1]
    rw [zI_, bQ_]
    have hsm' : AS.Sm ((trs t.c).length + 1 + ((K1 ++ [u]).length : Int)) α γ.tick := (hsm.trans AS.tick_sm).mono (by simp; omega)
    split
    ·rename_i hz
     have hz' : u.k = 0 := by omega
     refine push_ok (K := fun s27 M26 => sW_.L1 pts k _ _ _ s27 _ _ _ M26) h6 (by simp [intsN]; omega) fun M6 s6 h7 => ?_
     rw [i64_succ (by omega)]
     have := ih (K1 ++ [u]) sR s6 M6 γ.tick k (by rw [he]; simp) ?_ hsm' (by omega)
     ·rw [List.length_append, List.length_singleton] at this; exact this
     ·rw [show k0 (K1 ++ [u]) = k0 K1 ++ [u] from by simp [k0, hz'], show kA (K1 ++ [u]) = kA K1 from by simp [kA, hz'], show intsN ((k0 K1 ++ [u]).map (·.n)) = intsN ((k0 K1).map (·.n)) ++ [(u.n : Int)] from by simp [intsN]]
      exact h7
    ·rename_i hz
     have hz' : ¬ u.k = 0 := by omega
     refine push_ok (K := fun s27 M26 => sW_.L1 pts k _ _ s27 _ _ _ _ M26) h6.rot (by simp [intsN]; omega) fun M6 s6 h7 => ?_
     rw [i64_succ (by omega)]
     have := ih (K1 ++ [u]) s6 sA M6 γ.tick k (by rw [he]; simp) ?_ hsm' (by omega)
     ·rw [List.length_append, List.length_singleton] at this; exact this
     ·rw [show k0 (K1 ++ [u]) = k0 K1 from by simp [k0, hz'], show kA (K1 ++ [u]) = kA K1 ++ [u] from by simp [kA, hz'], show intsN (((A ++ B) ++ (kA K1 ++ [u])).map (·.n)) = intsN (((A ++ B) ++ kA K1).map (·.n)) ++ [(u.n : Int)] from by simp [intsN]]
      exact h7.rot
  refine ⟨(trs t.c).length + 1, key (trs t.c) [] s2 ⟨none, 0, 0⟩ M3 β _ rfl ?_ (hsm3.mono (by simp)) (by omega)⟩
  have h8 : Holds w0 F3 M3 (star (SlA s2 ((intsN (((A ++ B) ++ kA []).map (·.n))).map (Value.int .i64))) (arenaA a β)) := by
   simpa [kA] using h5
  exact Holds.nilSl h8
end
end Go.Proofs.YtodobkbnmjgkdaaGreat.HL
namespace Go.Proofs.YtodobkbnmjgkdaaGreat.HL
open Go.RowKit (Below)
open Go.Proofs
--COMMON
section
variable {w0 : World} {M F : Mem} {R : VP} {a : Nat} {α : AS}
open Go.Proofs.YtodobkbnmjgkdaaGreat.HL.ST
theorem Holds.lastI {Q : Asn} {s : SV} {l : List Int} (h : Holds w0 F M (star (SlA s (l.map (Value.int .i64))) Q)) (hw : ∀ n ∈ l, (Lit.int .i64 n).wf = true) (hm : l.length ≤ 1000000) : ∃ F', Holds w0 F' M Q ∧ Mem.le F F' ∧ RdI w0 F' .i64 s l ∧ ∀ M' Q', Holds w0 F' M' Q' → Holds w0 F M' (star (SlA s (l.map (Value.int .i64))) Q') := by
 obtain ⟨r, ⟨r1, r2, rfl, h1, h2⟩, h3⟩ := h
 have h4 := h3.perm List.perm_append_comm
 obtain ⟨h5, h6⟩ := h4.aside
 have hF : ∀ x ∈ r1, F x.1 = Option.none := fun x hx => (h3.at_ x (List.mem_append_left _ hx)).2.1
 refine ⟨ext F r1, ⟨r2, h2, h5⟩, le_ext hF, ?_, fun M' Q' ⟨r', g1, g2⟩ => ⟨r1 ++ r', ⟨r1, r', rfl, h1, g1⟩, (h6 M' r' g2).perm List.perm_append_comm⟩⟩
 have hs : Sl w0 F (ext F r1) s (l.map (Value.int .i64)) := by
  rcases h1 with ⟨rfl, hl, _⟩ | ⟨b, rest, e, e1, rfl⟩
  ·rw [hl]; exact Sl.nil
  ·have h6 := h3.at_ (b, l.map (Value.int .i64) ++ rest, e) (by simp)
   refine .inr ⟨b, rest, e, e1, h6.2.1, h6.1, ?_⟩
   unfold ext
   simp
 exact hs.rdI hw (by omega)
theorem bn_limit {m : Nat} {j : Int} (h : j ≤ 400 * (bl m : Int) + 400) : j ≤ limH m := by unfold limH; omega
theorem best_all {f : Nat → Held} {b : ST} {t : Tn} (ht : t ∈ trs b) (hn : (nds b).Nodup) (ho : Od f b) (hb : ∀ u ∈ trs b, u.n ≠ t.n → Bf (f t.n) (f u.n)) : ∀ x ∈ nds b, x ≠ t.n → Bf (f t.n) (f x) := by
 intro x hx hxt
 rw [← nds_trs] at hx
 obtain ⟨u, hu, hxu⟩ := mem_ndsL.1 hx
 by_cases e : u.n = t.n
 ·have hod := od_trs.1 ho u hu
  rcases List.mem_cons.1 hxu with rfl | hxu
  ·exact absurd e hxt
  ·rw [← e]; exact hod.1 x hxu
 ·exact (od_trs.1 ho u hu).le (hb u hu e) x hxu
theorem BHp.gone {z : Nat} {r : Int} {f : Nat → Held} {b : ST} {A B : List Tn} {t : Tn} (h : BHp z α r f b) (he : trs b = A ++ t :: B) (hs : (nds b).length ≤ 300) : Gone z α f A t B := by
 have hN : ndsL (A ++ t :: B) = nds b := by rw [← he, nds_trs]
 refine ⟨fun u hu => h.st.trs u (by rw [he]; exact hu), by rw [hN]; exact h.lb, by rw [hN]; exact h.nd, fun u hu => ok_trs.1 h.ok u (by rw [he]; exact hu), fun u hu => od_trs.1 h.od u (by rw [he]; rcases List.mem_append.1 hu with hu | hu <;> simp [hu]), (od_trs.1 h.od t (by rw [he]; simp)).2, by rw [← he]; exact h.wk, by rw [hN]; exact hs⟩
theorem roots_in {b : ST} {t : Tn} (h : t ∈ trs b) : t.n ∈ nds b := by rw [← nds_trs]; exact root_mem h
theorem roots_wf {b : ST} (h : ∀ n ∈ nds b, n < 1000000) : ∀ n ∈ intsN ((trs b).map (·.n)), (Lit.int .i64 n).wf = true := intsN_wf' fun x hx => by
 obtain ⟨t, ht, rfl⟩ := List.mem_map.1 hx
 exact h _ (roots_in ht)
theorem BHp.small {z : Nat} {r : Int} {f : Nat → Held} {b : ST} (h : BHp z α r f b) (hi : α.Inv) : ∀ n ∈ nds b, n < 1000000 := fun n hn => by
 have := AS.live_lt hi (h.lb n hn).ln
 have := hi.n
 omega
theorem trs_le (b : ST) : (trs b).length ≤ (nds b).length := by
 induction b with
 | nil => simp [trs]
 | node n k c s _ ih => simp only [trs, nds, List.length_cons, List.length_append]; omega
theorem kh_of {z : Nat} {k : Int} (hk : k = 2 ∨ k = 3) (hz : z = if k = 2 then 1 else 2) {f' : Nat → Held} {l' : List Tn} {N : List Nat} {L : List Held} (hst : St α (-1) (fo l')) (hlb : Lb α f' (ndsL l')) (hp : (ndsL l').Perm N) (hm : ((ndsL l').map f').Perm L) (hnd : (celK L N).Nodup) (hok : ∀ u ∈ l', OkT z u) (hod : ∀ u ∈ l', OdT f' u) (hwk : Wk l') : KH k α (fo l').root L N := by
 refine .inr ⟨hk, f', fo l', ⟨rfl, hst, by rw [nds_fo]; exact hlb, ?_, by rw [← hz]; exact ok_fo.2 hok, by rw [trs_fo]; exact hwk, od_fo.2 hod⟩, by rw [nds_fo]; exact hm, by rw [nds_fo]; exact hp⟩
 rw [nds_fo]
 exact (bn_celK (b := fo l') (by rw [nds_fo]; exact hm) (by rw [nds_fo]; exact hp) |>.nodup_iff.2 hnd |> fun h => by rw [nds_fo] at h; exact h)
end
--END
section
variable {w0 : World} {M F : Mem} {R : VP} {a : Nat} {α : AS} {r : Int} {f : Nat → Held} {b : ST}
open Go.Proofs.YtodobkbnmjgkdaaGreat.HL.ST
theorem bi_min_ok (hA : Holds w0 F M (arenaA a α)) (hp : BHp 1 α r f b)
  (h : ∀ x, x ∈ itsF f (nds b) → (∀ y ∈ itsF f (nds b), y.1 ≠ x.1 → Bf x y) → ∀ M' β, Holds w0 F M' (arenaA a β) → AS.Sm (limH (nds b).length) α β → R (.int .i64 (x.1 : Int)) M') (hne : nds b ≠ []) :
  C PP w0 Id.bi_Min #[.pointer (some ⟨a, 0, none⟩), .int .i64 r] R M := by
 apply bi_Min.go
 unfold bi_Min.T nfz
 have hI := hA.inv
 simp only [go_sem, Option.isNone_some, bF_]
 rw [hp.r]
 have hnn := celF_nd hp.nd
 have hwb := wk_bl hp.wk (ok_trs.1 hp.ok) (m := (nds b).length) (by rw [nds_trs]; exact Nat.le_refl _)
 have hlen := nodup_len α.n _ hnn fun y hy => AS.live_lt hI (hp.lb y hy).ln
 have hI65 := hI.n
 have htl := trs_le b
 refine List_ok hA hp.st (fun n hn => (hp.lb n hn).ln) hnn fun M1 s β hB hs => ?_
 simp only [go_sem]
 obtain ⟨F', hle, hB1, hr⟩ := hB.freeze (roots_wf (hp.small hI)) (by simp [intsN]; omega)
 refine Best_ok hB1 hr (fun t ht => hs.nd (hp.lb t.n (roots_in ht))) (fun t ht u hu e => celF_inj hp.nd _ (roots_in ht) _ (roots_in hu) e) (by omega) (fun e => ?_) fun t ht hb M2 γ hC hs2 => ?_
 ·cases b with
  | nil => exact absurd rfl hne
  | node n k c s => simp [trs] at e
 ·simp only [go_sem]
  have hNt := (hs.trans hs2).nd (hp.lb t.n (roots_in ht))
  refine Cell_ok hC fun M3 hC3 => ?_
  rw [show γ.cellI (t.n : Int) 6 = ((f t.n).1 : Int) from AS.cellI_live (f := 6) hNt.ln (by omega) hNt.it (AS.live_lt hC.inv hNt.li)]
  simp only [go_sem]
  refine h (f t.n) (List.mem_map.2 ⟨t.n, roots_in ht, rfl⟩) (fun y hy hyn => ?_) M3 _ (hC3.uF_ hle) (((hs.trans hs2).trans AS.tick_sm).mono (bn_limit (by omega)))
  obtain ⟨x, hx, rfl⟩ := List.mem_map.1 hy
  exact best_all ht hnn hp.od hb x hx fun e => hyn (by rw [e])
theorem bi_pop_ok (hA : Holds w0 F M (arenaA a α)) (hp : BHp 1 α r f b) (hne : nds b ≠ []) (h300 : (nds b).length ≤ 300)
  (h : ∀ x ∈ nds b, (∀ y ∈ nds b, y ≠ x → Bf (f x) (f y)) → ∀ L N, (itsF f (nds b)).Perm (f x :: L) → (nds b).Perm (x :: N) → ∀ M' β r', Holds w0 F M' (arenaA a β) → KH 2 β r' L N → AS.Eff (fun c => c ∈ celF f (nds b)) (· = x) (-1) (limH (nds b).length) α β → β.get (f x).1 9 = -1 → R (.tuple #[.int .i64 r', .int .i64 ((f x).1 : Int)]) M') :
  C PP w0 Id.bi_Pop #[.pointer (some ⟨a, 0, none⟩), .int .i64 r] R M := by
 apply bi_Pop.go
 intro pts H
 unfold bi_Pop.T nfz
 have hI := hA.inv
 simp only [go_sem, Option.isNone_some, bF_]
 have hnn := celF_nd hp.nd
 have hroot : ∃ n : Nat, r = (n : Int) ∧ n ∈ nds b := by
  rw [hp.r]
  cases b with
  | nil => exact absurd rfl hne
  | node n k c s => exact ⟨n, rfl, by simp [nds]⟩
 obtain ⟨n, hrn, hnb⟩ := hroot
 refine Live_ok hA ?_
 (rw [hrn, AS.liveI_nat, (hp.lb n hnb).ln, shB_v, Bool.not_true, bF_, ← hrn]; refine Eq.mpr (H.J1 ..) ?_)
 unfold bi_Pop.J1.T nfz
 rw [hp.r]
 have hwb := wk_bl hp.wk (ok_trs.1 hp.ok) (m := (nds b).length) (by rw [nds_trs]; exact Nat.le_refl _)
 have htl := trs_le b
 refine List_ok hA hp.st (fun n hn => (hp.lb n hn).ln) hnn fun M1 s β hB hs => ?_
 rw [shS_sv]
 obtain ⟨F', hB1, hle, hr, back⟩ := hB.lastI (roots_wf (hp.small hI)) (by simp [intsN]; omega)
 refine Best_ok hB1 hr (fun t ht => hs.nd (hp.lb t.n (roots_in ht))) (fun t ht u hu e => celF_inj hp.nd _ (roots_in ht) _ (roots_in hu) e) (by omega) (fun e => ?_) fun t ht hb M2 γ hC hs2 => ?_
 ·cases b with
  | nil => exact absurd rfl hne
  | node n k c s => simp [trs] at e
 ·rw [zI_]
  have h2 := back M2 _ hC
  obtain ⟨A, B, hAB⟩ := List.append_of_mem ht
  have hG : Gone 1 γ f A t B := (hp.gone hAB h300).sm (hs.trans hs2)
  have hN : ndsL (A ++ t :: B) = nds b := by rw [← hAB, nds_trs]
  rw [hAB] at h2
  refine bi_without_ok h2 hG (m := (nds b).length) (by rw [hN]; exact Nat.le_refl _) fun M3 δ f' l' hD hst' hlb' hp' hm' hok' hod' hwk' he' hg' => ?_
  simp only [go_sem]
  have hpn : (nds b).Perm (t.n :: (ndsL (A ++ B) ++ nds t.c)) := by rw [← hN]; exact ndsL_mid A B t
  have hpi : (itsF f (nds b)).Perm (f t.n :: (ndsL (A ++ B) ++ nds t.c).map f) := hpn.map f
  rw [hN] at he'
  have hck : (celK ((ndsL (A ++ B) ++ nds t.c).map f) (ndsL (A ++ B) ++ nds t.c)).Nodup := by
   have h3 := (celF_perm (f := f) hpn).nodup_iff.1 hp.nd
   unfold celF at h3
   unfold celK
   rw [List.map_cons, List.nodup_append] at h3
   obtain ⟨n1, n2, n3⟩ := h3
   rw [List.map_map]
   exact List.nodup_append.2 ⟨(List.nodup_cons.1 n1).2, (List.nodup_cons.1 n2).2, fun x hx y hy => n3 x (List.mem_cons_of_mem _ hx) y (List.mem_cons_of_mem _ hy)⟩
  refine h t.n (roots_in ht) (best_all ht hnn hp.od hb) _ _ hpi hpn M3 δ _ hD (kh_of (.inl rfl) rfl hst' hlb' hp' hm' hck hok' hod' hwk') (((((hs.trans hs2).eff (S := fun c => c ∈ celF f (nds b)) (L := (· = t.n))).trans he').mono (fun _ h => h) (fun _ h => h) (bn_limit ?_)).to (by omega)) hg'
  omega
theorem bi_meld_ok (hA : Holds w0 F M (arenaA a α)) {s : Int} {g : Nat → Held} {c : ST} (hp : BHp 1 α r f b) (hq : BHp 1 α s g c) (hd : (celF f (nds b) ++ celF g (nds c)).Nodup) (h300 : (nds b).length + (nds c).length ≤ 300)
  (h : ∀ M' β r', Holds w0 F M' (arenaA a β) → KH 2 β r' (itsF f (nds b) ++ itsF g (nds c)) (nds b ++ nds c) → AS.Eff (fun x => x ∈ celF f (nds b) ∨ x ∈ celF g (nds c)) (fun _ => False) 0 (limH ((nds b).length + (nds c).length)) α β → R (.int .i64 r') M') :
  C PP w0 Id.bi_Meld #[.pointer (some ⟨a, 0, none⟩), .int .i64 r, .int .i64 s] R M := by
 apply bi_Meld.go
 unfold bi_Meld.T nfz
 have hI := hA.inv
 simp only [go_sem, Option.isNone_some, bF_]
 obtain ⟨d1, d2, d3⟩ := List.nodup_append.1 hd
 rw [bQ_]
 split
 ·rename_i hrs
  have hb0 : b = .nil ∧ c = .nil := by
   rw [hp.r, hq.r] at hrs
   cases b with
   | nil =>
    cases c with
    | nil => exact ⟨rfl, rfl⟩
    | node n k c s => simp only [root] at hrs; omega
   | node n k c0 s0 =>
    cases c with
    | nil => simp only [root] at hrs; omega
    | node n' k' c' s' =>
     simp only [root] at hrs
     have : n = n' := by omega
     exact absurd this (d3 n (List.mem_append_left _ (by simp [nds])) n' (List.mem_append_left _ (by simp [nds])))
  obtain ⟨rfl, rfl⟩ := hb0
  refine h M α r hA (.inr ⟨.inl rfl, f, .nil, hp, List.Perm.refl _, List.Perm.refl _⟩) (AS.Sm.refl.eff.mono (fun _ h => h) (fun _ h => h) (bn_limit (by omega)))
 ·have hnb := celF_nd hp.nd
  have hncc := celF_nd hq.nd
  have hwb := wk_bl hp.wk (ok_trs.1 hp.ok) (m := (nds b).length + (nds c).length) (by rw [nds_trs]; omega)
  have hwc := wk_bl hq.wk (ok_trs.1 hq.ok) (m := (nds b).length + (nds c).length) (by rw [nds_trs]; omega)
  have h9b := wk_len9 hp.wk (ok_trs.1 hp.ok) (by rw [nds_trs]; omega)
  have h9c := wk_len9 hq.wk (ok_trs.1 hq.ok) (by rw [nds_trs]; omega)
  rw [hp.r]
  refine List_ok hA hp.st (fun n hn => (hp.lb n hn).ln) hnb fun M1 s1 β hB hs1 => ?_
  rw [shS_sv, hq.r]
  obtain ⟨F1, hB1, hle1, back1⟩ := hB.last
  refine List_ok hB1 (hq.st.sm hs1) (fun n hn => by rw [hs1.live]; exact (hq.lb n hn).ln) hncc fun M2 s2 γ hC hs2 => ?_
  have h2 := back1 M2 _ hC
  rw [shS_sv]
  have hrc : RdI w0 M2 .i64 s2 (intsN ((trs c).map (·.n))) := h2.right.rdI' (fun x hx => by
   obtain ⟨t, ht, rfl⟩ := List.mem_map.1 hx
   exact hq.small hI _ (roots_in ht)) (by simp; omega)
  refine appI h2 hrc (by simp [intsN]; omega) fun M3 s3 h3 => ?_
  rw [shS_sv]
  have h4 : Holds w0 F M3 (star (SlA s3 ((intsN ((trs b ++ trs c).map (·.n))).map (Value.int .i64))) (arenaA a γ)) := by
   rw [show intsN ((trs b ++ trs c).map (·.n)) = intsN ((trs b).map (·.n)) ++ intsN ((trs c).map (·.n)) from by simp [intsN]]
   exact h3.rot.right
  have hN : ndsL (trs b ++ trs c) = nds b ++ nds c := by rw [ndsL_app, nds_trs, nds_trs]
  let hh : Nat → Held := fun x => if x ∈ nds b then f x else g x
  have ehb : ∀ x ∈ nds b, hh x = f x := fun x hx => if_pos hx
  have ehc : ∀ x ∈ nds c, hh x = g x := fun x hx => if_neg fun hxb => d3 x (List.mem_append_left _ hxb) x (List.mem_append_left _ hx) rfl
  have hs3 := hs1.trans hs2
  have hlb : Lb γ hh (ndsL (trs b ++ trs c)) := by
   rw [hN]
   intro x hx
   rcases List.mem_append.1 hx with hx | hx
   ·rw [ehb x hx]; exact hs3.nd (hp.lb x hx)
   ·rw [ehc x hx]; exact hs3.nd (hq.lb x hx)
  have hcel : (celF hh (nds b ++ nds c)).Perm (celF f (nds b) ++ celF g (nds c)) := by
   refine (celF_app hh _ _).trans ?_
   rw [celF_congr ehb, celF_congr ehc]
  have hits : (nds b ++ nds c).map hh = itsF f (nds b) ++ itsF g (nds c) := by
   rw [List.map_append]
   show itsF hh (nds b) ++ itsF hh (nds c) = _
   rw [itsF_congr ehb, itsF_congr ehc]
  obtain ⟨F4, hle4, hB4, hr4⟩ := h4.freeze (intsN_wf' fun x hx => by
   obtain ⟨t, ht, rfl⟩ := List.mem_map.1 hx
   rcases List.mem_append.1 ht with ht | ht
   ·exact hp.small hI _ (roots_in ht)
   ·exact hq.small hI _ (roots_in ht)) (by simp [intsN]; omega)
  refine Carry_ok hB4 (z := 1) (f := hh) (by decide) hr4 (fun t ht => ?_) hlb (by rw [hN]; exact hcel.nodup_iff.2 hd) (fun t ht => ?_) (fun t ht => ?_) (by rw [List.length_append]; omega) fun M5 δ l' hD hst' hp' hok' hod' hrs' hc' hg' => ?_
  ·rcases List.mem_append.1 ht with ht | ht
   ·exact (hp.st.trs t ht).sm hs3
   ·exact (hq.st.trs t ht).sm hs3
  ·rcases List.mem_append.1 ht with ht | ht
   ·exact ok_trs.1 hp.ok t ht
   ·exact ok_trs.1 hq.ok t ht
  ·rcases List.mem_append.1 ht with ht | ht
   ·exact (od_trs.1 hp.od t ht).congr fun x hx => ehb x (by rw [← nds_trs]; exact mem_ndsL.2 ⟨t, ht, hx⟩)
   ·exact (od_trs.1 hq.od t ht).congr fun x hx => ehc x (by rw [← nds_trs]; exact mem_ndsL.2 ⟨t, ht, hx⟩)
  ·rw [zI_]
   rw [hN] at hp'
   have hm' : ((ndsL l').map hh).Perm (itsF f (nds b) ++ itsF g (nds c)) := by rw [← hits]; exact hp'.map hh
   refine h M5 δ _ (hD.uF_ hle4) (kh_of (.inl rfl) rfl hst' ?_ hp' hm' ?_ hok' hod' hrs'.wk) ?_
   ·refine (hlb.sub fun x hx => by rw [hN]; exact hp'.mem_iff.1 hx).congr (fun x _ y hy => hg' x y (by omega)) (fun x _ => by rw [hc'.live])
   ·rw [← hits]
    unfold celK
    rw [List.map_map]
    exact hcel.nodup_iff.2 hd
   ·refine ((hs3.eff.trans (hc'.mono (T := fun x => x ∈ celF f (nds b) ∨ x ∈ celF g (nds c)) (fun x hx => ?_) (Int.le_refl _)).eff).mono (fun _ h => h) (fun _ h => h) (bn_limit ?_)).to (by omega)
    ·rw [hN] at hx
     rcases List.mem_append.1 hx with hx | hx
     ·exact .inl (List.mem_append_left _ hx)
     ·exact .inr (List.mem_append_left _ hx)
    ·rw [List.length_append]; omega
theorem bi_fall_ok (hA : Holds w0 F M (arenaA a α)) {α0 : AS} (hp : BHp 1 α0 r f b) {x : Nat} {e' : Ent} {j : Int} (hx : x ∈ nds b) (hle : e'.1 ≤ (f x).2.1) (hs2 : e'.2 = (f x).2.2) (hs : AS.Sm j (α0.put (f x).1 7 e'.1) α)
  (h : ∀ L, (itsF f (nds b)).Perm (f x :: L) → ∀ M' β, Holds w0 F M' (arenaA a β) → KH 2 β r (((f x).1, e') :: L) (nds b) → AS.Eff (fun c => c ∈ celF f (nds b)) (fun _ => False) 0 (limH (nds b).length) α β → R (.int .i64 r) M') :
  C PP w0 Id.bi_Fall #[.pointer (some ⟨a, 0, none⟩), .int .i64 r, .int .i64 ((f x).1 : Int)] R M := by
 apply bi_Fall.go
 unfold bi_Fall.T nfz
 simp only [go_sem, Option.isNone_some, bF_]
 have hnn := celF_nd hp.nd
 let f' : Nat → Held := fun y => if y = x then ((f x).1, e') else f y
 have e1 : f' x = ((f x).1, e') := if_pos rfl
 have e2 : ∀ y, y ≠ x → f' y = f y := fun y hy => if_neg hy
 have e3 : ∀ y, (f' y).1 = (f y).1 := fun y => by
  by_cases e : y = x
  ·subst e; rw [e1]
  ·rw [e2 y e]
 have ecel : celF f' (nds b) = celF f (nds b) := by
  unfold celF
  rw [List.map_congr_left fun y _ => e3 y]
 have g : ∀ c y, α.get c y = if c = (f x).1 ∧ y = 7 then e'.1 else α0.get c y := fun c y => by rw [hs.get]; rfl
 have gl : ∀ c, α.live c = α0.live c := fun c => by rw [hs.live]; rfl
 have hst : St α (-1) b := hp.st.congr fun n hn y _ => by
  rw [g, if_neg (fun e : n = (f x).1 ∧ y = 7 => celF_ni hp.nd n hn x hx e.1)]
 have hlb : Lb α f' (nds b) := fun n hn => by
  have h1 := hp.lb n hn
  by_cases e : n = x
  ·subst e
   rw [e1]
   refine ⟨(gl _).trans h1.ln, (gl _).trans h1.li, ?_, ?_, ?_, ?_⟩
   ·rw [g, if_neg (by omega)]; exact h1.it
   ·rw [g, if_neg (by omega)]; exact h1.nd
   ·rw [g, if_pos ⟨rfl, rfl⟩]
   ·rw [g, if_neg (by omega)]; rw [hs2]; exact h1.s
  ·rw [e2 n e]
   refine h1.congr (fun y => ?_) (fun y => ?_) (gl _) (gl _)
   ·rw [g, if_neg (fun e : n = (f x).1 ∧ y = 7 => celF_ni hp.nd n hn x hx e.1)]
   ·rw [g, if_neg (fun e' : (f n).1 = (f x).1 ∧ y = 7 => e (celF_inj hp.nd n hn x hx e'.1))]
 have hda := (od_oda hnn).1 hp.od
 have hH : Hol f' b x := fun y hy w hw hyx hwx => by rw [e2 y hyx, e2 w hwx]; exact hda y hy w hw
 have hD : HolD f' b x := fun y hy hxy => by
  have hyx : y ≠ x := fun e => by rw [e] at hxy; exact anc_nin hnn hxy
  rw [e1, e2 y hyx]
  have h1 := hda y hy x hxy
  rcases h1 with h1 | ⟨h1, h2⟩
  ·refine .inl ?_
   unfold Lt at h1 ⊢
   simp only
   omega
  ·by_cases h9 : e'.1 = (f x).2.1
   ·have : e' = (f x).2 := Prod.ext h9 hs2
    rw [this]; exact .inr ⟨h1, h2⟩
   ·refine .inl ?_
    unfold Lt
    rw [← h1]
    simp only
    omega
 obtain ⟨t, ht, hal⟩ := anc_len hp.ok hx
 have hkb := ST.rk_bl (ok_trs.1 hp.ok t ht) (m := (nds b).length) (by rw [← nds_trs b]; exact ndsT_le ht)
 have := Rise_ok hA false (f := f') (x := x) hst hlb (by rw [ecel]; exact hp.nd) hx hH (fun _ => hD) (m := bl (nds b).length) (by omega) (R := fun v M => shI .i64 v fun n5 => R (.int .i64 r) M) fun M1 β f2 y hB hst2 hlb2 hy hfy hpm _ hod2 hc => ?_
 ·rw [e3 x] at this
  exact this
 ·rw [zI_]
  obtain ⟨L, hL⟩ : ∃ L, (itsF f (nds b)).Perm (f x :: L) ∧ ((nds b).map f').Perm (((f x).1, e') :: L) := by
   have h1 := List.perm_cons_erase hx
   refine ⟨((nds b).erase x).map f, h1.map f, ?_⟩
   refine (h1.map f').trans ?_
   rw [List.map_cons, e1]
   rw [List.map_congr_left fun y hy => e2 y fun e => by
    have := h1.nodup_iff.1 hnn
    exact (List.nodup_cons.1 this).1 (e ▸ hy)]
  rw [ecel] at hc
  refine h L hL.1 M1 β hB (.inr ⟨.inl rfl, f2, b, ⟨hp.r, hst2, hlb2, ?_, hp.ok, hp.wk, (od_oda hnn).2 (hod2 rfl)⟩, hpm.trans hL.2, List.Perm.refl _⟩) (hc.eff.mono (fun _ h => h) (fun _ h => h) (bn_limit (by omega)))
  have := cel_perm2 (f := f2) (g := f') (List.Perm.refl (nds b)) hpm
  rw [ecel] at this
  exact this.nodup_iff.2 hp.nd
theorem bi_cut_ok (hA : Holds w0 F M (arenaA a α)) (hp : BHp 1 α r f b) {x : Nat} (hx : x ∈ nds b) (h300 : (nds b).length ≤ 300)
  (h : ∀ L, (itsF f (nds b)).Perm (f x :: L) → ∀ n N, (nds b).Perm (n :: N) → ∀ M' β r', Holds w0 F M' (arenaA a β) → KH 2 β r' L N → AS.Eff (fun c => c ∈ celF f (nds b)) (· = n) (-1) (limH (nds b).length) α β → β.get (f x).1 9 = -1 → R (.int .i64 r') M') :
  C PP w0 Id.bi_Cut #[.pointer (some ⟨a, 0, none⟩), .int .i64 r, .int .i64 ((f x).1 : Int)] R M := by
 apply bi_Cut.go
 unfold bi_Cut.T nfz
 have hI := hA.inv
 simp only [go_sem, Option.isNone_some, bF_]
 have hnn := celF_nd hp.nd
 have hNx := hp.lb x hx
 refine Node_ok hA fun M1 hA1 => ?_
 rw [show α.cellI ((f x).1 : Int) 9 = (x : Int) from AS.cellI_live (f := 9) hNx.li (by omega) hNx.nd (AS.live_lt hI hNx.ln), zI_, bQ_, if_neg (by omega)]
 have hda := (od_oda hnn).1 hp.od
 obtain ⟨t0, ht0, hal⟩ := anc_len hp.ok hx
 have hkb := ST.rk_bl (ok_trs.1 hp.ok t0 ht0) (m := (nds b).length) (by rw [← nds_trs b]; exact ndsT_le ht0)
 refine Rise_ok hA1 true (f := f) (x := x) (hp.st.sm AS.tick_sm) (hp.lb.sm AS.tick_sm) hp.nd hx (fun y hy w hw _ _ => hda y hy w hw) (fun e => by cases e) (m := bl (nds b).length) (by omega) fun M2 β f2 y hB hst2 hlb2 hy hfy hpm hany _ hc => ?_
 obtain ⟨hroot, hHol⟩ := hany rfl
 obtain ⟨t, ht, htn⟩ := anc_root hy hnn hroot
 subst htn
 rw [zI_, hp.r]
 have hcel2 := cel_perm2 (f := f2) (g := f) (List.Perm.refl (nds b)) hpm
 have htl := trs_le b
 have hwb := wk_bl hp.wk (ok_trs.1 hp.ok) (m := (nds b).length) (by rw [nds_trs]; exact Nat.le_refl _)
 refine List_ok hB hst2 (fun n hn => (hlb2 n hn).ln) hnn fun M3 s γ hC hs3 => ?_
 rw [shS_sv]
 obtain ⟨F', hC1, hle, hr, back⟩ := hC.lastI (roots_wf (hp.small hI)) (by simp [intsN]; omega)
 have hr3 : RdI w0 M3 .i64 s (intsN ((trs b).map (·.n))) := hr.le hC1.fr
 refine ConI_ok hr3 (List.mem_map.2 ⟨t.n, List.mem_map.2 ⟨t, ht, rfl⟩, rfl⟩) (by simp [intsN]; omega) ?_
 rw [shB_v, Bool.not_true, bF_]
 obtain ⟨A, B, hAB⟩ := List.append_of_mem ht
 have hN : ndsL (A ++ t :: B) = nds b := by rw [← hAB, nds_trs]
 obtain ⟨k1, k2⟩ := hHol.kids hnn ht
 have hroots : (((trs b).map (·.n))).Nodup := roots_nd (by rw [nds_trs]; exact hnn)
 have hG : Gone 1 γ f2 A t B := by
  refine ⟨fun u hu => (hst2.trs u (by rw [hAB]; exact hu)).sm hs3, by rw [hN]; exact hlb2.sm hs3, by rw [hN]; exact hcel2.nodup_iff.2 hp.nd, fun u hu => ok_trs.1 hp.ok u (by rw [hAB]; exact hu), fun u hu => ?_, k1, by rw [← hAB]; exact hp.wk, by rw [hN]; exact h300⟩
  rw [hAB, List.map_append, List.map_cons] at hroots
  obtain ⟨n1, n2, n3⟩ := List.nodup_append.1 hroots
  refine k2 u (by rw [hAB]; rcases List.mem_append.1 hu with hu | hu <;> simp [hu]) fun e => ?_
  rcases List.mem_append.1 hu with hu | hu
  ·exact n3 u.n (List.mem_map.2 ⟨u, hu, rfl⟩) t.n List.mem_cons_self e
  ·exact (List.nodup_cons.1 n2).1 (List.mem_map.2 ⟨u, hu, e⟩)
 rw [hAB] at hC
 refine bi_without_ok hC hG (m := (nds b).length) (by rw [hN]; exact Nat.le_refl _) fun M4 δ f' l' hD hst' hlb' hp' hm' hok' hod' hwk' he' hg' => ?_
 simp only [go_sem]
 have hpn : (nds b).Perm (t.n :: (ndsL (A ++ B) ++ nds t.c)) := by rw [← hN]; exact ndsL_mid A B t
 have hpi : ((nds b).map f2).Perm (f x :: (ndsL (A ++ B) ++ nds t.c).map f2) := by rw [← hfy]; exact hpn.map f2
 rw [hN] at he'
 have hck : (celK ((ndsL (A ++ B) ++ nds t.c).map f2) (ndsL (A ++ B) ++ nds t.c)).Nodup := by
  have h3 := (celF_perm (f := f2) hpn).nodup_iff.1 (hcel2.nodup_iff.2 hp.nd)
  unfold celF at h3
  unfold celK
  rw [List.map_cons, List.nodup_append] at h3
  obtain ⟨n1, n2, n3⟩ := h3
  rw [List.map_map]
  exact List.nodup_append.2 ⟨(List.nodup_cons.1 n1).2, (List.nodup_cons.1 n2).2, fun x hx y hy => n3 x (List.mem_cons_of_mem _ hx) y (List.mem_cons_of_mem _ hy)⟩
 rw [hfy] at hg'
 refine h _ (hpm.symm.trans hpi) t.n _ hpn M4 δ _ hD (kh_of (.inl rfl) rfl hst' hlb' hp' hm' hck hok' hod' hwk') ?_ hg'
 refine (((((AS.tick_sm.chg.trans hc).eff (L := (· = t.n))).trans (hs3.eff)).trans (he'.mono (S' := fun c => c ∈ celF f (nds b)) (fun c hc => hcel2.mem_iff.1 hc) (fun _ h => h) (Int.le_refl _))).mono (fun _ h => h) (fun _ h => h) (bn_limit ?_)).to (by omega)
 omega
end
end Go.Proofs.YtodobkbnmjgkdaaGreat.HL
namespace Go.Proofs.YtodobkbnmjgkdaaGreat.HL
open Go.RowKit (Below)
open Go.Proofs
section
variable {w0 : World} {M F : Mem} {R : VP} {a : Nat} {α : AS} {r : Int} {f : Nat → Held} {b : ST}
open Go.Proofs.YtodobkbnmjgkdaaGreat.HL.ST
theorem sk_min_ok (hA : Holds w0 F M (arenaA a α)) (hp : BHp 2 α r f b)
  (h : ∀ x, x ∈ itsF f (nds b) → (∀ y ∈ itsF f (nds b), y.1 ≠ x.1 → Bf x y) → ∀ M' β, Holds w0 F M' (arenaA a β) → AS.Sm (limH (nds b).length) α β → R (.int .i64 (x.1 : Int)) M') (hne : nds b ≠ []) :
  C PP w0 Id.skew_Min #[.pointer (some ⟨a, 0, none⟩), .int .i64 r] R M := by
 apply skew_Min.go
 unfold skew_Min.T nfz
 have hI := hA.inv
 simp only [go_sem, Option.isNone_some, bF_]
 rw [hp.r]
 have hnn := celF_nd hp.nd
 have hwb := wk_bl hp.wk (ok_trs.1 hp.ok) (m := (nds b).length) (by rw [nds_trs]; exact Nat.le_refl _)
 have hlen := nodup_len α.n _ hnn fun y hy => AS.live_lt hI (hp.lb y hy).ln
 have hI65 := hI.n
 have htl := trs_le b
 refine List_ok hA hp.st (fun n hn => (hp.lb n hn).ln) hnn fun M1 s β hB hs => ?_
 simp only [go_sem]
 obtain ⟨F', hle, hB1, hr⟩ := hB.freeze (roots_wf (hp.small hI)) (by simp [intsN]; omega)
 refine Best_ok hB1 hr (fun t ht => hs.nd (hp.lb t.n (roots_in ht))) (fun t ht u hu e => celF_inj hp.nd _ (roots_in ht) _ (roots_in hu) e) (by omega) (fun e => ?_) fun t ht hb M2 γ hC hs2 => ?_
 ·cases b with
  | nil => exact absurd rfl hne
  | node n k c s => simp [trs] at e
 ·simp only [go_sem]
  have hNt := (hs.trans hs2).nd (hp.lb t.n (roots_in ht))
  refine Cell_ok hC fun M3 hC3 => ?_
  rw [show γ.cellI (t.n : Int) 6 = ((f t.n).1 : Int) from AS.cellI_live (f := 6) hNt.ln (by omega) hNt.it (AS.live_lt hC.inv hNt.li)]
  simp only [go_sem]
  refine h (f t.n) (List.mem_map.2 ⟨t.n, roots_in ht, rfl⟩) (fun y hy hyn => ?_) M3 _ (hC3.uF_ hle) (((hs.trans hs2).trans AS.tick_sm).mono (bn_limit (by omega)))
  obtain ⟨x, hx, rfl⟩ := List.mem_map.1 hy
  exact best_all ht hnn hp.od hb x hx fun e => hyn (by rw [e])
theorem sk_pop_ok (hA : Holds w0 F M (arenaA a α)) (hp : BHp 2 α r f b) (hne : nds b ≠ []) (h300 : (nds b).length ≤ 300)
  (h : ∀ x ∈ nds b, (∀ y ∈ nds b, y ≠ x → Bf (f x) (f y)) → ∀ L N, (itsF f (nds b)).Perm (f x :: L) → (nds b).Perm (x :: N) → ∀ M' β r', Holds w0 F M' (arenaA a β) → KH 3 β r' L N → AS.Eff (fun c => c ∈ celF f (nds b)) (· = x) (-1) (limH (nds b).length) α β → β.get (f x).1 9 = -1 → R (.tuple #[.int .i64 r', .int .i64 ((f x).1 : Int)]) M') :
  C PP w0 Id.skew_Pop #[.pointer (some ⟨a, 0, none⟩), .int .i64 r] R M := by
 apply skew_Pop.go
 intro pts H
 unfold skew_Pop.T nfz
 have hI := hA.inv
 simp only [go_sem, Option.isNone_some, bF_]
 have hnn := celF_nd hp.nd
 have hroot : ∃ n : Nat, r = (n : Int) ∧ n ∈ nds b := by
  rw [hp.r]
  cases b with
  | nil => exact absurd rfl hne
  | node n k c s => exact ⟨n, rfl, by simp [nds]⟩
 obtain ⟨n, hrn, hnb⟩ := hroot
 refine Live_ok hA ?_
 (rw [hrn, AS.liveI_nat, (hp.lb n hnb).ln, shB_v, Bool.not_true, bF_, ← hrn]; refine Eq.mpr (H.J1 ..) ?_)
 unfold skew_Pop.J1.T nfz
 rw [hp.r]
 have hwb := wk_bl hp.wk (ok_trs.1 hp.ok) (m := (nds b).length) (by rw [nds_trs]; exact Nat.le_refl _)
 have htl := trs_le b
 refine List_ok hA hp.st (fun n hn => (hp.lb n hn).ln) hnn fun M1 s β hB hs => ?_
 rw [shS_sv]
 obtain ⟨F', hB1, hle, hr, back⟩ := hB.lastI (roots_wf (hp.small hI)) (by simp [intsN]; omega)
 refine Best_ok hB1 hr (fun t ht => hs.nd (hp.lb t.n (roots_in ht))) (fun t ht u hu e => celF_inj hp.nd _ (roots_in ht) _ (roots_in hu) e) (by omega) (fun e => ?_) fun t ht hb M2 γ hC hs2 => ?_
 ·cases b with
  | nil => exact absurd rfl hne
  | node n k c s => simp [trs] at e
 ·rw [zI_]
  have h2 := back M2 _ hC
  obtain ⟨A, B, hAB⟩ := List.append_of_mem ht
  have hG : Gone 2 γ f A t B := (hp.gone hAB h300).sm (hs.trans hs2)
  have hN : ndsL (A ++ t :: B) = nds b := by rw [← hAB, nds_trs]
  rw [hAB] at h2
  refine sW__ok h2 hG (m := (nds b).length) (by rw [hN]; exact Nat.le_refl _) fun M3 δ f' l' hD hst' hlb' hp' hm' hok' hod' hwk' he' hg' => ?_
  simp only [go_sem]
  have hpn : (nds b).Perm (t.n :: (ndsL (A ++ B) ++ nds t.c)) := by rw [← hN]; exact ndsL_mid A B t
  have hpi : (itsF f (nds b)).Perm (f t.n :: (ndsL (A ++ B) ++ nds t.c).map f) := hpn.map f
  rw [hN] at he'
  have hck : (celK ((ndsL (A ++ B) ++ nds t.c).map f) (ndsL (A ++ B) ++ nds t.c)).Nodup := by
   have h3 := (celF_perm (f := f) hpn).nodup_iff.1 hp.nd
   unfold celF at h3
   unfold celK
   rw [List.map_cons, List.nodup_append] at h3
   obtain ⟨n1, n2, n3⟩ := h3
   rw [List.map_map]
   exact List.nodup_append.2 ⟨(List.nodup_cons.1 n1).2, (List.nodup_cons.1 n2).2, fun x hx y hy => n3 x (List.mem_cons_of_mem _ hx) y (List.mem_cons_of_mem _ hy)⟩
  refine h t.n (roots_in ht) (best_all ht hnn hp.od hb) _ _ hpi hpn M3 δ _ hD (kh_of (.inr rfl) rfl hst' hlb' hp' hm' hck hok' hod' hwk') (((((hs.trans hs2).eff (S := fun c => c ∈ celF f (nds b)) (L := (· = t.n))).trans he').mono (fun _ h => h) (fun _ h => h) (bn_limit ?_)).to (by omega)) hg'
  omega
theorem sk_meld_ok (hA : Holds w0 F M (arenaA a α)) {s : Int} {g : Nat → Held} {c : ST} (hp : BHp 2 α r f b) (hq : BHp 2 α s g c) (hd : (celF f (nds b) ++ celF g (nds c)).Nodup) (h300 : (nds b).length + (nds c).length ≤ 300)
  (h : ∀ M' β r', Holds w0 F M' (arenaA a β) → KH 3 β r' (itsF f (nds b) ++ itsF g (nds c)) (nds b ++ nds c) → AS.Eff (fun x => x ∈ celF f (nds b) ∨ x ∈ celF g (nds c)) (fun _ => False) 0 (limH ((nds b).length + (nds c).length)) α β → R (.int .i64 r') M') :
  C PP w0 Id.skew_Meld #[.pointer (some ⟨a, 0, none⟩), .int .i64 r, .int .i64 s] R M := by
 apply skew_Meld.go
 unfold skew_Meld.T nfz
 have hI := hA.inv
 simp only [go_sem, Option.isNone_some, bF_]
 obtain ⟨d1, d2, d3⟩ := List.nodup_append.1 hd
 rw [bQ_]
 split
 ·rename_i hrs
  have hb0 : b = .nil ∧ c = .nil := by
   rw [hp.r, hq.r] at hrs
   cases b with
   | nil =>
    cases c with
    | nil => exact ⟨rfl, rfl⟩
    | node n k c s => simp only [root] at hrs; omega
   | node n k c0 s0 =>
    cases c with
    | nil => simp only [root] at hrs; omega
    | node n' k' c' s' =>
     simp only [root] at hrs
     have : n = n' := by omega
     exact absurd this (d3 n (List.mem_append_left _ (by simp [nds])) n' (List.mem_append_left _ (by simp [nds])))
  obtain ⟨rfl, rfl⟩ := hb0
  refine h M α r hA (.inr ⟨.inr rfl, f, .nil, hp, List.Perm.refl _, List.Perm.refl _⟩) (AS.Sm.refl.eff.mono (fun _ h => h) (fun _ h => h) (bn_limit (by omega)))
 ·have hnb := celF_nd hp.nd
  have hncc := celF_nd hq.nd
  have hwb := wk_bl hp.wk (ok_trs.1 hp.ok) (m := (nds b).length + (nds c).length) (by rw [nds_trs]; omega)
  have hwc := wk_bl hq.wk (ok_trs.1 hq.ok) (m := (nds b).length + (nds c).length) (by rw [nds_trs]; omega)
  have h9b := wk_len9 hp.wk (ok_trs.1 hp.ok) (by rw [nds_trs]; omega)
  have h9c := wk_len9 hq.wk (ok_trs.1 hq.ok) (by rw [nds_trs]; omega)
  rw [hp.r]
  refine List_ok hA hp.st (fun n hn => (hp.lb n hn).ln) hnb fun M1 s1 β hB hs1 => ?_
  rw [shS_sv, hq.r]
  obtain ⟨F1, hB1, hle1, back1⟩ := hB.last
  refine List_ok hB1 (hq.st.sm hs1) (fun n hn => by rw [hs1.live]; exact (hq.lb n hn).ln) hncc fun M2 s2 γ hC hs2 => ?_
  have h2 := back1 M2 _ hC
  rw [shS_sv]
  have hrc : RdI w0 M2 .i64 s2 (intsN ((trs c).map (·.n))) := h2.right.rdI' (fun x hx => by
   obtain ⟨t, ht, rfl⟩ := List.mem_map.1 hx
   exact hq.small hI _ (roots_in ht)) (by simp; omega)
  refine appI h2 hrc (by simp [intsN]; omega) fun M3 s3 h3 => ?_
  rw [shS_sv]
  have h4 : Holds w0 F M3 (star (SlA s3 ((intsN ((trs b ++ trs c).map (·.n))).map (Value.int .i64))) (arenaA a γ)) := by
   rw [show intsN ((trs b ++ trs c).map (·.n)) = intsN ((trs b).map (·.n)) ++ intsN ((trs c).map (·.n)) from by simp [intsN]]
   exact h3.rot.right
  have hN : ndsL (trs b ++ trs c) = nds b ++ nds c := by rw [ndsL_app, nds_trs, nds_trs]
  let hh : Nat → Held := fun x => if x ∈ nds b then f x else g x
  have ehb : ∀ x ∈ nds b, hh x = f x := fun x hx => if_pos hx
  have ehc : ∀ x ∈ nds c, hh x = g x := fun x hx => if_neg fun hxb => d3 x (List.mem_append_left _ hxb) x (List.mem_append_left _ hx) rfl
  have hs3 := hs1.trans hs2
  have hlb : Lb γ hh (ndsL (trs b ++ trs c)) := by
   rw [hN]
   intro x hx
   rcases List.mem_append.1 hx with hx | hx
   ·rw [ehb x hx]; exact hs3.nd (hp.lb x hx)
   ·rw [ehc x hx]; exact hs3.nd (hq.lb x hx)
  have hcel : (celF hh (nds b ++ nds c)).Perm (celF f (nds b) ++ celF g (nds c)) := by
   refine (celF_app hh _ _).trans ?_
   rw [celF_congr ehb, celF_congr ehc]
  have hits : (nds b ++ nds c).map hh = itsF f (nds b) ++ itsF g (nds c) := by
   rw [List.map_append]
   show itsF hh (nds b) ++ itsF hh (nds c) = _
   rw [itsF_congr ehb, itsF_congr ehc]
  obtain ⟨F4, hle4, hB4, hr4⟩ := h4.freeze (intsN_wf' fun x hx => by
   obtain ⟨t, ht, rfl⟩ := List.mem_map.1 hx
   rcases List.mem_append.1 ht with ht | ht
   ·exact hp.small hI _ (roots_in ht)
   ·exact hq.small hI _ (roots_in ht)) (by simp [intsN]; omega)
  refine Carry_ok hB4 (z := 2) (f := hh) (by decide) hr4 (fun t ht => ?_) hlb (by rw [hN]; exact hcel.nodup_iff.2 hd) (fun t ht => ?_) (fun t ht => ?_) (by rw [List.length_append]; omega) fun M5 δ l' hD hst' hp' hok' hod' hrs' hc' hg' => ?_
  ·rcases List.mem_append.1 ht with ht | ht
   ·exact (hp.st.trs t ht).sm hs3
   ·exact (hq.st.trs t ht).sm hs3
  ·rcases List.mem_append.1 ht with ht | ht
   ·exact ok_trs.1 hp.ok t ht
   ·exact ok_trs.1 hq.ok t ht
  ·rcases List.mem_append.1 ht with ht | ht
   ·exact (od_trs.1 hp.od t ht).congr fun x hx => ehb x (by rw [← nds_trs]; exact mem_ndsL.2 ⟨t, ht, hx⟩)
   ·exact (od_trs.1 hq.od t ht).congr fun x hx => ehc x (by rw [← nds_trs]; exact mem_ndsL.2 ⟨t, ht, hx⟩)
  ·rw [zI_]
   rw [hN] at hp'
   have hm' : ((ndsL l').map hh).Perm (itsF f (nds b) ++ itsF g (nds c)) := by rw [← hits]; exact hp'.map hh
   refine h M5 δ _ (hD.uF_ hle4) (kh_of (.inr rfl) rfl hst' ?_ hp' hm' ?_ hok' hod' hrs'.wk) ?_
   ·refine (hlb.sub fun x hx => by rw [hN]; exact hp'.mem_iff.1 hx).congr (fun x _ y hy => hg' x y (by omega)) (fun x _ => by rw [hc'.live])
   ·rw [← hits]
    unfold celK
    rw [List.map_map]
    exact hcel.nodup_iff.2 hd
   ·refine ((hs3.eff.trans (hc'.mono (T := fun x => x ∈ celF f (nds b) ∨ x ∈ celF g (nds c)) (fun x hx => ?_) (Int.le_refl _)).eff).mono (fun _ h => h) (fun _ h => h) (bn_limit ?_)).to (by omega)
    ·rw [hN] at hx
     rcases List.mem_append.1 hx with hx | hx
     ·exact .inl (List.mem_append_left _ hx)
     ·exact .inr (List.mem_append_left _ hx)
    ·rw [List.length_append]; omega
theorem sk_fall_ok (hA : Holds w0 F M (arenaA a α)) {α0 : AS} (hp : BHp 2 α0 r f b) {x : Nat} {e' : Ent} {j : Int} (hx : x ∈ nds b) (hle : e'.1 ≤ (f x).2.1) (hs2 : e'.2 = (f x).2.2) (hs : AS.Sm j (α0.put (f x).1 7 e'.1) α)
  (h : ∀ L, (itsF f (nds b)).Perm (f x :: L) → ∀ M' β, Holds w0 F M' (arenaA a β) → KH 3 β r (((f x).1, e') :: L) (nds b) → AS.Eff (fun c => c ∈ celF f (nds b)) (fun _ => False) 0 (limH (nds b).length) α β → R (.int .i64 r) M') :
  C PP w0 Id.skew_Fall #[.pointer (some ⟨a, 0, none⟩), .int .i64 r, .int .i64 ((f x).1 : Int)] R M := by
 apply skew_Fall.go
 unfold skew_Fall.T nfz
 simp only [go_sem, Option.isNone_some, bF_]
 have hnn := celF_nd hp.nd
 let f' : Nat → Held := fun y => if y = x then ((f x).1, e') else f y
 have e1 : f' x = ((f x).1, e') := if_pos rfl
 have e2 : ∀ y, y ≠ x → f' y = f y := fun y hy => if_neg hy
 have e3 : ∀ y, (f' y).1 = (f y).1 := fun y => by
  by_cases e : y = x
  ·subst e; rw [e1]
  ·rw [e2 y e]
 have ecel : celF f' (nds b) = celF f (nds b) := by
  unfold celF
  rw [List.map_congr_left fun y _ => e3 y]
 have g : ∀ c y, α.get c y = if c = (f x).1 ∧ y = 7 then e'.1 else α0.get c y := fun c y => by rw [hs.get]; rfl
 have gl : ∀ c, α.live c = α0.live c := fun c => by rw [hs.live]; rfl
 have hst : St α (-1) b := hp.st.congr fun n hn y _ => by
  rw [g, if_neg (fun e : n = (f x).1 ∧ y = 7 => celF_ni hp.nd n hn x hx e.1)]
 have hlb : Lb α f' (nds b) := fun n hn => by
  have h1 := hp.lb n hn
  by_cases e : n = x
  ·subst e
   rw [e1]
   refine ⟨(gl _).trans h1.ln, (gl _).trans h1.li, ?_, ?_, ?_, ?_⟩
   ·rw [g, if_neg (by omega)]; exact h1.it
   ·rw [g, if_neg (by omega)]; exact h1.nd
   ·rw [g, if_pos ⟨rfl, rfl⟩]
   ·rw [g, if_neg (by omega)]; rw [hs2]; exact h1.s
  ·rw [e2 n e]
   refine h1.congr (fun y => ?_) (fun y => ?_) (gl _) (gl _)
   ·rw [g, if_neg (fun e : n = (f x).1 ∧ y = 7 => celF_ni hp.nd n hn x hx e.1)]
   ·rw [g, if_neg (fun e' : (f n).1 = (f x).1 ∧ y = 7 => e (celF_inj hp.nd n hn x hx e'.1))]
 have hda := (od_oda hnn).1 hp.od
 have hH : Hol f' b x := fun y hy w hw hyx hwx => by rw [e2 y hyx, e2 w hwx]; exact hda y hy w hw
 have hD : HolD f' b x := fun y hy hxy => by
  have hyx : y ≠ x := fun e => by rw [e] at hxy; exact anc_nin hnn hxy
  rw [e1, e2 y hyx]
  have h1 := hda y hy x hxy
  rcases h1 with h1 | ⟨h1, h2⟩
  ·refine .inl ?_
   unfold Lt at h1 ⊢
   simp only
   omega
  ·by_cases h9 : e'.1 = (f x).2.1
   ·have : e' = (f x).2 := Prod.ext h9 hs2
    rw [this]; exact .inr ⟨h1, h2⟩
   ·refine .inl ?_
    unfold Lt
    rw [← h1]
    simp only
    omega
 obtain ⟨t, ht, hal⟩ := anc_len hp.ok hx
 have hkb := ST.rk_bl (ok_trs.1 hp.ok t ht) (m := (nds b).length) (by rw [← nds_trs b]; exact ndsT_le ht)
 have := Rise_ok hA false (f := f') (x := x) hst hlb (by rw [ecel]; exact hp.nd) hx hH (fun _ => hD) (m := bl (nds b).length) (by omega) (R := fun v M => shI .i64 v fun n5 => R (.int .i64 r) M) fun M1 β f2 y hB hst2 hlb2 hy hfy hpm _ hod2 hc => ?_
 ·rw [e3 x] at this
  exact this
 ·rw [zI_]
  obtain ⟨L, hL⟩ : ∃ L, (itsF f (nds b)).Perm (f x :: L) ∧ ((nds b).map f').Perm (((f x).1, e') :: L) := by
   have h1 := List.perm_cons_erase hx
   refine ⟨((nds b).erase x).map f, h1.map f, ?_⟩
   refine (h1.map f').trans ?_
   rw [List.map_cons, e1]
   rw [List.map_congr_left fun y hy => e2 y fun e => by
    have := h1.nodup_iff.1 hnn
    exact (List.nodup_cons.1 this).1 (e ▸ hy)]
  rw [ecel] at hc
  refine h L hL.1 M1 β hB (.inr ⟨.inr rfl, f2, b, ⟨hp.r, hst2, hlb2, ?_, hp.ok, hp.wk, (od_oda hnn).2 (hod2 rfl)⟩, hpm.trans hL.2, List.Perm.refl _⟩) (hc.eff.mono (fun _ h => h) (fun _ h => h) (bn_limit (by omega)))
  have := cel_perm2 (f := f2) (g := f') (List.Perm.refl (nds b)) hpm
  rw [ecel] at this
  exact this.nodup_iff.2 hp.nd
theorem sk_cut_ok (hA : Holds w0 F M (arenaA a α)) (hp : BHp 2 α r f b) {x : Nat} (hx : x ∈ nds b) (h300 : (nds b).length ≤ 300)
  (h : ∀ L, (itsF f (nds b)).Perm (f x :: L) → ∀ n N, (nds b).Perm (n :: N) → ∀ M' β r', Holds w0 F M' (arenaA a β) → KH 3 β r' L N → AS.Eff (fun c => c ∈ celF f (nds b)) (· = n) (-1) (limH (nds b).length) α β → β.get (f x).1 9 = -1 → R (.int .i64 r') M') :
  C PP w0 Id.skew_Cut #[.pointer (some ⟨a, 0, none⟩), .int .i64 r, .int .i64 ((f x).1 : Int)] R M := by
 apply skew_Cut.go
 unfold skew_Cut.T nfz
 have hI := hA.inv
 simp only [go_sem, Option.isNone_some, bF_]
 have hnn := celF_nd hp.nd
 have hNx := hp.lb x hx
 refine Node_ok hA fun M1 hA1 => ?_
 rw [show α.cellI ((f x).1 : Int) 9 = (x : Int) from AS.cellI_live (f := 9) hNx.li (by omega) hNx.nd (AS.live_lt hI hNx.ln), zI_, bQ_, if_neg (by omega)]
 have hda := (od_oda hnn).1 hp.od
 obtain ⟨t0, ht0, hal⟩ := anc_len hp.ok hx
 have hkb := ST.rk_bl (ok_trs.1 hp.ok t0 ht0) (m := (nds b).length) (by rw [← nds_trs b]; exact ndsT_le ht0)
 refine Rise_ok hA1 true (f := f) (x := x) (hp.st.sm AS.tick_sm) (hp.lb.sm AS.tick_sm) hp.nd hx (fun y hy w hw _ _ => hda y hy w hw) (fun e => by cases e) (m := bl (nds b).length) (by omega) fun M2 β f2 y hB hst2 hlb2 hy hfy hpm hany _ hc => ?_
 obtain ⟨hroot, hHol⟩ := hany rfl
 obtain ⟨t, ht, htn⟩ := anc_root hy hnn hroot
 subst htn
 rw [zI_, hp.r]
 have hcel2 := cel_perm2 (f := f2) (g := f) (List.Perm.refl (nds b)) hpm
 have htl := trs_le b
 have hwb := wk_bl hp.wk (ok_trs.1 hp.ok) (m := (nds b).length) (by rw [nds_trs]; exact Nat.le_refl _)
 refine List_ok hB hst2 (fun n hn => (hlb2 n hn).ln) hnn fun M3 s γ hC hs3 => ?_
 rw [shS_sv]
 obtain ⟨F', hC1, hle, hr, back⟩ := hC.lastI (roots_wf (hp.small hI)) (by simp [intsN]; omega)
 have hr3 : RdI w0 M3 .i64 s (intsN ((trs b).map (·.n))) := hr.le hC1.fr
 refine ConI_ok hr3 (List.mem_map.2 ⟨t.n, List.mem_map.2 ⟨t, ht, rfl⟩, rfl⟩) (by simp [intsN]; omega) ?_
 rw [shB_v, Bool.not_true, bF_]
 obtain ⟨A, B, hAB⟩ := List.append_of_mem ht
 have hN : ndsL (A ++ t :: B) = nds b := by rw [← hAB, nds_trs]
 obtain ⟨k1, k2⟩ := hHol.kids hnn ht
 have hroots : (((trs b).map (·.n))).Nodup := roots_nd (by rw [nds_trs]; exact hnn)
 have hG : Gone 2 γ f2 A t B := by
  refine ⟨fun u hu => (hst2.trs u (by rw [hAB]; exact hu)).sm hs3, by rw [hN]; exact hlb2.sm hs3, by rw [hN]; exact hcel2.nodup_iff.2 hp.nd, fun u hu => ok_trs.1 hp.ok u (by rw [hAB]; exact hu), fun u hu => ?_, k1, by rw [← hAB]; exact hp.wk, by rw [hN]; exact h300⟩
  rw [hAB, List.map_append, List.map_cons] at hroots
  obtain ⟨n1, n2, n3⟩ := List.nodup_append.1 hroots
  refine k2 u (by rw [hAB]; rcases List.mem_append.1 hu with hu | hu <;> simp [hu]) fun e => ?_
  rcases List.mem_append.1 hu with hu | hu
  ·exact n3 u.n (List.mem_map.2 ⟨u, hu, rfl⟩) t.n List.mem_cons_self e
  ·exact (List.nodup_cons.1 n2).1 (List.mem_map.2 ⟨u, hu, e⟩)
 rw [hAB] at hC
 refine sW__ok hC hG (m := (nds b).length) (by rw [hN]; exact Nat.le_refl _) fun M4 δ f' l' hD hst' hlb' hp' hm' hok' hod' hwk' he' hg' => ?_
 simp only [go_sem]
 have hpn : (nds b).Perm (t.n :: (ndsL (A ++ B) ++ nds t.c)) := by rw [← hN]; exact ndsL_mid A B t
 have hpi : ((nds b).map f2).Perm (f x :: (ndsL (A ++ B) ++ nds t.c).map f2) := by rw [← hfy]; exact hpn.map f2
 rw [hN] at he'
 have hck : (celK ((ndsL (A ++ B) ++ nds t.c).map f2) (ndsL (A ++ B) ++ nds t.c)).Nodup := by
  have h3 := (celF_perm (f := f2) hpn).nodup_iff.1 (hcel2.nodup_iff.2 hp.nd)
  unfold celF at h3
  unfold celK
  rw [List.map_cons, List.nodup_append] at h3
  obtain ⟨n1, n2, n3⟩ := h3
  rw [List.map_map]
  exact List.nodup_append.2 ⟨(List.nodup_cons.1 n1).2, (List.nodup_cons.1 n2).2, fun x hx y hy => n3 x (List.mem_cons_of_mem _ hx) y (List.mem_cons_of_mem _ hy)⟩
 rw [hfy] at hg'
 refine h _ (hpm.symm.trans hpi) t.n _ hpn M4 δ _ hD (kh_of (.inr rfl) rfl hst' hlb' hp' hm' hck hok' hod' hwk') ?_ hg'
 refine (((((AS.tick_sm.chg.trans hc).eff (L := (· = t.n))).trans (hs3.eff)).trans (he'.mono (S' := fun c => c ∈ celF f (nds b)) (fun c hc => hcel2.mem_iff.1 hc) (fun _ h => h) (Int.le_refl _))).mono (fun _ h => h) (fun _ h => h) (bn_limit ?_)).to (by omega)
 omega
end
end Go.Proofs.YtodobkbnmjgkdaaGreat.HL
namespace Go.Proofs.YtodobkbnmjgkdaaGreat.HL
open Go.RowKit (Below)
open Go.Proofs
section
variable {w0 : World} {M F : Mem} {R : VP} {a : Nat} {α : AS} {r : Int} {f : Nat → Held} {b : ST}
open Go.Proofs.YtodobkbnmjgkdaaGreat.HL.ST
theorem new_node {z : Nat} (hI : α.Inv) (hp : BHp z α r f b) {i n : Nat} {e : Ent} (hi : α.live i = true) (hic : i ∉ celF f (nds b)) (h7 : α.get i 7 = e.1) (h8 : α.get i 8 = e.2) (hnx : α.next = some n) {β : AS} (hs : AS.Sm 3 ((α.take.put n 6 i).put i 9 n) β) :
  α.live n = false ∧ n ∉ celF f (nds b) ∧ n ≠ i ∧ AS.Eff (fun c => c ∈ n :: i :: celF f (nds b)) (· = n) 1 3 α β ∧ BHp z β r f b ∧ β.Nd n i e ∧ β.get n 1 = -1 ∧ β.get n 4 = 0 := by
 obtain ⟨hnn, hnl, hnt⟩ := AS.next_some hI hnx
 have hnt2 : n ∉ celF f (nds b) := fun hc => by have := hp.live n hc; rw [hnl] at this; cases this
 have hin : i ≠ n := fun e => by rw [e, hnl] at hi; cases hi
 obtain ⟨hfr, hfl⟩ := AS.take_fresh hI hnx
 have he2 : AS.Eff (fun c => c = n ∨ c = i) (· = n) 1 3 α β := ((((AS.take_eff (S := fun c => c = n ∨ c = i) (L := (· = n)) hI hnx (.inl rfl) rfl).put (f := 6) (v := (i : Int)) (c := n) (.inl rfl)).put (f := 9) (v := (n : Int)) (c := i) (.inr rfl)).trans hs.eff).mono (fun _ h => h) (fun _ h => h) (by omega) |>.to (by omega)
 have g : ∀ x y, β.get x y = if x = i ∧ y = 9 then (n : Int) else if x = n ∧ y = 6 then (i : Int) else α.take.get x y := fun x y => by rw [hs.get]; rfl
 have gtk : ∀ x y, x ≠ n → α.take.get x y = α.get x y := fun x y hx => by
  rw [hnt]
  show (if x = n then AS.fresh y else α.get x y) = _
  rw [if_neg hx]
 have gl : ∀ x, β.live x = if x = n then true else α.live x := fun x => by rw [hs.live, show ((α.take.put n 6 (i : Int)).put i 9 (n : Int)).live = α.take.live from rfl, hnt]; rfl
 have gn : ∀ y, y ≠ 6 → β.get n y = AS.fresh y := fun y h6 => by rw [g, if_neg (fun e : n = i ∧ y = 9 => hin e.1.symm), if_neg (fun e : n = n ∧ y = 6 => h6 e.2), hfr]
 refine ⟨hnl, hnt2, fun e => hin e.symm, he2.mono (fun c hc => by rcases hc with rfl | rfl <;> simp) (fun _ h => h) (Int.le_refl _), hp.congr (fun c hc y => he2.get c (by rintro (h | h); exact hnt2 (h ▸ hc); exact hic (h ▸ hc)) y) (fun c hc => he2.live c (fun e => hnt2 (e ▸ hc))), ⟨by rw [gl, if_pos rfl], by rw [gl, if_neg hin]; exact hi, ?_, ?_, ?_, ?_⟩, ?_, ?_⟩
 ·rw [g, if_neg (by omega), if_pos ⟨rfl, rfl⟩]
 ·rw [g, if_pos ⟨rfl, rfl⟩]
 ·rw [g, if_neg (by omega), if_neg (by omega), gtk _ _ hin]; exact h7
 ·rw [g, if_neg (by omega), if_neg (by omega), gtk _ _ hin]; exact h8
 ·rw [gn 1 (by omega)]; rfl
 ·rw [gn 4 (by omega)]; rfl
theorem new_names {z : Nat} (hp : BHp z α r f b) {i n : Nat} {e : Ent} (hic : i ∉ celF f (nds b)) (hnc : n ∉ celF f (nds b)) (hni : n ≠ i) (hN : α.Nd n i e) : ∃ g : Nat → Held, g n = (i, e) ∧ (∀ x ∈ nds b, g x = f x) ∧ Lb α g (n :: nds b) ∧ (celF g (n :: nds b)).Nodup ∧ (celF g (n :: nds b)).Perm (n :: i :: celF f (nds b)) ∧ (n :: nds b).map g = (i, e) :: itsF f (nds b) := by
 have e1 : ∀ x ∈ nds b, x ≠ n := fun x hx e => hnc (e ▸ List.mem_append_left _ hx)
 let g : Nat → Held := fun x => if x = n then (i, e) else f x
 have hgn : g n = (i, e) := if_pos rfl
 have hg : ∀ x ∈ nds b, g x = f x := fun x hx => if_neg (e1 x hx)
 have hcel : (celF g (n :: nds b)).Perm (n :: i :: celF f (nds b)) := by
  unfold celF
  rw [List.map_cons, hgn, List.cons_append]
  refine List.Perm.cons _ (List.perm_middle.trans (List.Perm.cons _ ?_))
  rw [List.map_congr_left fun x hx => by rw [hg x hx]]
 refine ⟨g, hgn, hg, fun x hx => ?_, hcel.nodup_iff.2 ?_, hcel, ?_⟩
 ·rcases List.mem_cons.1 hx with rfl | hx
  ·rw [hgn]; exact hN
  ·rw [hg x hx]; exact hp.lb x hx
 ·rw [List.nodup_cons, List.nodup_cons, List.mem_cons, not_or]
  exact ⟨⟨hni, hnc⟩, hic, hp.nd⟩
 ·rw [List.map_cons, hgn]
  exact congrArg _ (itsF_congr hg)
theorem celK_its (g : Nat → Held) (N : List Nat) : celK (N.map g) N = celF g N := by
 unfold celK celF
 rw [List.map_map]; rfl
theorem bi_push_ok (hA : Holds w0 F M (arenaA a α)) (hp : BHp 1 α r f b) {i : Nat} {e : Ent} (hi : α.live i = true) (hic : i ∉ celF f (nds b)) (h7 : α.get i 7 = e.1) (h8 : α.get i 8 = e.2) (h300 : (nds b).length ≤ 300)
  (h0 : α.next = none → ∀ M' β, Holds w0 F M' (arenaA a β) → AS.Sm 1 α β → R (.tuple #[.int .i64 r, .bool false]) M')
  (h1 : ∀ n, α.next = some n → α.live n = false → ∀ M' β r', Holds w0 F M' (arenaA a β) → KH 2 β r' ((i, e) :: itsF f (nds b)) (n :: nds b) → AS.Eff (fun c => c ∈ n :: i :: celF f (nds b)) (· = n) 1 (limH ((nds b).length + 1)) α β → R (.tuple #[.int .i64 r', .bool true]) M') :
  C PP w0 Id.bi_Push #[.pointer (some ⟨a, 0, none⟩), .int .i64 r, .int .i64 (i : Int)] R M := by
 apply bi_Push.go
 unfold bi_Push.T nfz
 have hI := hA.inv
 simp only [go_sem, Option.isNone_some, bF_]
 refine ndNew_ok hA hi (fun hnx M1 β hB hs => ?_) fun n hnx M1 β hB hs => ?_
 ·simp only [go_sem, Bool.not_false, bs_true]
  exact h0 hnx M1 β hB hs
 ·simp only [go_sem, Bool.not_true, bF_]
  obtain ⟨hnl, hnc, hni, heff, hpβ, hNd, hn1, hn4⟩ := new_node hI hp hi hic h7 h8 hnx hs
  obtain ⟨g, hgn, hg, hlb, hnd, hcel, hits⟩ := new_names hpβ hic hnc hni hNd
  have hnn := celF_nd hpβ.nd
  have hwb := wk_bl hp.wk (ok_trs.1 hp.ok) (m := (nds b).length + 1) (by rw [nds_trs]; omega)
  have h9b := wk_len9 hp.wk (ok_trs.1 hp.ok) (by rw [nds_trs]; omega)
  have htl := trs_le b
  refine bsl_ints (k := .i64) (l := [(n : Int)]) (Mem.le_refl M1) Tryz.underlying53 W.e3 (n := 1) (by decide) (by kernel_rfl) rfl fun M2 o l1 _ h2 => ?_
  rw [shS_sv]
  have hH : Holds w0 F M2 (star (SlA o ([(n : Int)].map (Value.int .i64))) (arenaA a β)) := hB.newSl l1 h2
  obtain ⟨F1, hB1, hle1, back1⟩ := hH.last
  rw [hp.r]
  refine List_ok hB1 hpβ.st (fun n hn => (hpβ.lb n hn).ln) hnn fun M3 s1 γ hC hs1 => ?_
  rw [shS_sv]
  have h3 := back1 M3 _ hC
  have hrc : RdI w0 M3 .i64 s1 (intsN ((trs b).map (·.n))) := h3.right.rdI' (fun x hx => by
   obtain ⟨t, ht, rfl⟩ := List.mem_map.1 hx
   exact hp.small hI _ (roots_in ht)) (by simp; omega)
  refine appI h3 hrc (by simp [intsN]; omega) fun M4 s4 h4 => ?_
  rw [shS_sv]
  have hN : ndsL (⟨n, 0, .nil⟩ :: trs b) = n :: nds b := by rw [ndsL_cons, nds_trs]; rfl
  have h5 : Holds w0 F M4 (star (SlA s4 ((intsN ((⟨n, 0, .nil⟩ :: trs b : List Tn).map (·.n))).map (Value.int .i64))) (arenaA a γ)) := by
   rw [show intsN ((⟨n, 0, .nil⟩ :: trs b : List Tn).map (·.n)) = [(n : Int)] ++ intsN ((trs b).map (·.n)) from by simp [intsN]]
   exact h4.rot.right
  have hnlt := AS.live_lt hB.inv hNd.ln
  have hn65 := hB.inv.n
  obtain ⟨F4, hle4, hB4, hr4⟩ := h5.freeze (intsN_wf' fun x hx => by
   obtain ⟨t, ht, rfl⟩ := List.mem_map.1 hx
   rcases List.mem_cons.1 ht with rfl | ht
   ·show n < _; omega
   ·exact hp.small hI _ (roots_in ht)) (by simp [intsN]; omega)
  refine Carry_ok hB4 (z := 1) (f := g) (by decide) hr4 (fun t ht => ?_) (by rw [hN]; exact hlb.sm hs1) (by rw [hN]; exact hnd) (fun t ht => ?_) (fun t ht => ?_) (by rw [List.length_cons]; omega) fun M5 δ l' hD hst' hp' hok' hod' hrs' hc' hg' => ?_
  ·rcases List.mem_cons.1 ht with rfl | ht
   ·exact (show StT β ⟨n, 0, .nil⟩ from ⟨hn1, hn4, trivial⟩).sm hs1
   ·exact (hpβ.st.trs t ht).sm hs1
  ·rcases List.mem_cons.1 ht with rfl | ht
   ·exact okT_one
   ·exact ok_trs.1 hp.ok t ht
  ·rcases List.mem_cons.1 ht with rfl | ht
   ·exact ⟨fun x hx => (by cases hx), trivial⟩
   ·exact (od_trs.1 hp.od t ht).congr fun x hx => hg x (by rw [← nds_trs]; exact mem_ndsL.2 ⟨t, ht, hx⟩)
  ·rw [zI_]
   rw [hN] at hp'
   have hm' : ((ndsL l').map g).Perm ((i, e) :: itsF f (nds b)) := by rw [← hits]; exact hp'.map g
   refine h1 n hnx hnl M5 δ _ (hD.uF_ hle4) (kh_of (.inl rfl) rfl hst' ?_ hp' hm' ?_ hok' hod' hrs'.wk) ?_
   ·refine ((hlb.sm hs1).sub fun x hx => hp'.mem_iff.1 hx).congr (fun x _ y hy => hg' x y (by omega)) (fun x _ => by rw [hc'.live])
   ·rw [← hits, celK_its]; exact hnd
   ·refine (((heff.trans hs1.eff).trans (hc'.mono (T := fun c => c ∈ n :: i :: celF f (nds b)) (fun x hx => ?_) (Int.le_refl _)).eff).mono (fun _ h => h) (fun _ h => h) (bn_limit ?_)).to (by omega)
    ·rw [hN] at hx
     exact hcel.mem_iff.1 (List.mem_append_left _ hx)
    ·rw [List.length_cons]; omega
theorem sk_push_ok (hA : Holds w0 F M (arenaA a α)) (hp : BHp 2 α r f b) {i : Nat} {e : Ent} (hi : α.live i = true) (hic : i ∉ celF f (nds b)) (h7 : α.get i 7 = e.1) (h8 : α.get i 8 = e.2)
  (h0 : α.next = none → ∀ M' β, Holds w0 F M' (arenaA a β) → AS.Sm 1 α β → R (.tuple #[.int .i64 r, .bool false]) M')
  (h1 : ∀ n, α.next = some n → α.live n = false → ∀ M' β r', Holds w0 F M' (arenaA a β) → KH 3 β r' ((i, e) :: itsF f (nds b)) (n :: nds b) → AS.Eff (fun c => c ∈ n :: i :: celF f (nds b)) (· = n) 1 (limH ((nds b).length + 1)) α β → R (.tuple #[.int .i64 r', .bool true]) M') :
  C PP w0 Id.skew_Push #[.pointer (some ⟨a, 0, none⟩), .int .i64 r, .int .i64 (i : Int)] R M := by
 apply skew_Push.go
 unfold skew_Push.T nfz
 have hI := hA.inv
 simp only [go_sem, Option.isNone_some, bF_]
 refine ndNew_ok hA hi (fun hnx M1 β hB hs => ?_) fun n hnx M1 β hB hs => ?_
 ·simp only [go_sem, Bool.not_false, bs_true]
  exact h0 hnx M1 β hB hs
 ·simp only [go_sem, Bool.not_true, bF_]
  obtain ⟨hnl, hnc, hni, heff, hpβ, hNd, hn1, hn4⟩ := new_node hI hp hi hic h7 h8 hnx hs
  obtain ⟨g, hgn, hg, hlb, hnd, hcel, hits⟩ := new_names hpβ hic hnc hni hNd
  rw [hp.r]
  have hfb : fo (trs b) = b := fo_trs b
  have hNb : ndsL (trs b) = nds b := nds_trs b
  have := Single_ok (R := fun v M => shI .i64 v fun n14 => R (.tuple #[.int .i64 n14, .bool true]) M) hB (f := g) (l := trs b) (n := n) (by rw [hfb]; exact hpβ.st) hn1 hn4 (by rw [hNb]; exact hlb) (by rw [hNb]; exact hnd) (fun t ht => ok_trs.1 hp.ok t ht) (fun t ht => (od_trs.1 hp.od t ht).congr fun x hx => hg x (by rw [← nds_trs]; exact mem_ndsL.2 ⟨t, ht, hx⟩)) hp.wk fun M5 δ g' l' hD hst' hlb' hp' hm' _ hok' hod' hwk' hc' => ?_
  ·rw [hfb] at this; exact this
  ·rw [zI_]
   rw [hNb] at hp' hm' hc' hlb'
   have hm2 : ((ndsL l').map g').Perm ((i, e) :: itsF f (nds b)) := by rw [← hits]; exact (hp'.map g').trans hm'
   refine h1 n hnx hnl M5 δ _ hD (kh_of (.inr rfl) rfl hst' (hlb'.sub fun x hx => hp'.mem_iff.1 hx) hp' hm2 ?_ hok' hod' hwk') ?_
   ·rw [← hits, celK_its]; exact hnd
   ·refine ((heff.trans (hc'.mono (T := fun c => c ∈ n :: i :: celF f (nds b)) (fun x hx => hcel.mem_iff.1 hx) (Int.le_refl _)).eff).mono (fun _ h => h) (fun _ h => h) (bn_limit ?_)).to (by omega)
    omega
end
end Go.Proofs.YtodobkbnmjgkdaaGreat.HL
namespace Go.Proofs.YtodobkbnmjgkdaaGreat.HL
open Go.RowKit (Below)
open Go.Proofs
section
variable {w0 : World} {M F : Mem} {R : VP} {a : Nat} {α : AS} {k r : Int} {L : List Held} {N : List Nat}
theorem kRight_ok {k : Int} (h : R (.bool (decide (1 ≤ k ∧ k ≤ 5))) M) : C PP w0 Id.kind_Right #[.int .i64 k] R M := by
 apply kind_Right.go
 unfold kind_Right.T nfz
 rw [bD_]
 split
 ·rw [show decide (1 ≤ k ∧ k ≤ 5) = decide (k ≤ 5) from by rw [decide_eq_decide]; omega] at h; exact h
 ·rw [decide_eq_false (by omega)] at h; exact h
theorem kPush_ok (hA : Holds w0 F M (arenaA a α)) (hp : KH k α r L N) {i : Nat} {e : Ent} (hi : α.live i = true) (hic : i ∉ celK L N) (h7 : α.get i 7 = e.1) (h8 : α.get i 8 = e.2) (h300 : L.length ≤ 300) (hnx : α.next ≠ none)
  (h : ∀ n, α.next = some n → α.live n = false → ∀ M' β r' N', Holds w0 F M' (arenaA a β) → KH k β r' ((i, e) :: L) N' → (∀ c ∈ celK ((i, e) :: L) N', c = n ∨ c = i ∨ c ∈ celK L N) → AS.Eff (fun c => c = n ∨ c = i ∨ c ∈ celK L N) (· = n) 1 (limH (L.length + 1)) α β → R (.tuple #[.int .i64 r', .bool true]) M') :
  C PP w0 Id.kind_Push #[.int .i64 k, .pointer (some ⟨a, 0, none⟩), .int .i64 r, .int .i64 (i : Int)] R M := by
 apply kind_Push.go
 unfold kind_Push.T nfz
 rcases hp with ⟨hk, t, g1, g2, g3⟩ | ⟨hk, f, b, g1, g2, g3⟩
 ·rw [bQ_, if_pos hk]
  have hcel := lf_celK g2 g3
  refine hp_push_ok hA g1 hi (fun hc => hic (hcel.mem_iff.1 hc)) h7 h8 (fun e0 => absurd e0 hnx) fun n hn hnl M1 β t' hB hp' hits hcel' heff => ?_
  simp only [go_sem]
  have hL : (LT.its t').Perm ((i, e) :: L) := hits.trans (g2.cons _)
  have hc2 := lf_celK (t := t') (L := (i, e) :: L) (N := LT.nds t') hL (List.Perm.refl _)
  have hsub : ∀ c, c ∈ n :: i :: LT.cells t ↔ c = n ∨ c = i ∨ c ∈ celK L N := fun c => by rw [List.mem_cons, List.mem_cons, hcel.mem_iff]
  refine h n hn hnl M1 β _ (LT.nds t') hB (.inl ⟨hk, t', hp', hL, List.Perm.refl _⟩) (fun c hc => (hsub c).1 (hcel'.mem_iff.1 (hc2.mem_iff.2 hc))) (heff.mono (fun c hc => (hsub c).1 hc) (fun _ h => h) ?_)
  rw [g2.length_eq]; exact Int.le_refl _
 ·have hcel := bn_celK g2 g3
  have hl : (ST.nds b).length = L.length := by rw [← g2.length_eq]; simp [ST.itsF]
  have hsub : ∀ n c, c ∈ n :: i :: ST.celF f (ST.nds b) ↔ c = n ∨ c = i ∨ c ∈ celK L N := fun n c => by rw [List.mem_cons, List.mem_cons, hcel.mem_iff]
  have fin : ∀ (n : Nat) (hn : α.next = some n) (hnl : α.live n = false) (M1 : Mem) (β : AS) (r' : Int), Holds w0 F M1 (arenaA a β) → KH k β r' ((i, e) :: ST.itsF f (ST.nds b)) (n :: ST.nds b) → AS.Eff (fun c => c ∈ n :: i :: ST.celF f (ST.nds b)) (· = n) 1 (limH ((ST.nds b).length + 1)) α β → R (.tuple #[.int .i64 r', .bool true]) M1 := by
   intro n hn hnl M1 β r' hB hkh heff
   refine h n hn hnl M1 β r' (n :: N) hB (hkh.perm (g2.cons _) (g3.cons _)) (fun c hc => ?_) (heff.mono (fun c hc => (hsub n c).1 hc) (fun _ h => h) ?_)
   ·unfold celK at hc ⊢
    simp only [List.map_cons, List.cons_append, List.mem_cons, List.mem_append] at hc ⊢
    rcases hc with hc | hc | hc | hc
    ·exact .inl hc
    ·exact .inr (.inr (.inl hc))
    ·exact .inr (.inl hc)
    ·exact .inr (.inr (.inr hc))
   ·rw [hl]; exact Int.le_refl _
  rw [bQ_, if_neg (by omega)]
  rcases hk with hk | hk
  ·subst hk
   rw [bQ_, if_pos rfl]
   refine bi_push_ok hA g1 hi (fun hc => hic (hcel.mem_iff.1 hc)) h7 h8 (by omega) (fun e0 => absurd e0 hnx) fun n hn hnl M1 β r' hB hkh heff => ?_
   simp only [go_sem]
   exact fin n hn hnl M1 β r' hB hkh heff
  ·subst hk
   rw [bQ_, if_neg (by omega), bQ_, if_pos rfl]
   refine sk_push_ok hA g1 hi (fun hc => hic (hcel.mem_iff.1 hc)) h7 h8 (fun e0 => absurd e0 hnx) fun n hn hnl M1 β r' hB hkh heff => ?_
   simp only [go_sem]
   exact fin n hn hnl M1 β r' hB hkh heff
theorem kMin_ok (hA : Holds w0 F M (arenaA a α)) (hp : KH k α r L N) (hne : L ≠ [])
  (h : ∀ x, x ∈ L → (∀ y ∈ L, y.1 ≠ x.1 → Bf x y) → ∀ M' β, Holds w0 F M' (arenaA a β) → AS.Sm (limH L.length) α β → R (.int .i64 (x.1 : Int)) M') :
  C PP w0 Id.kind_Min #[.int .i64 k, .pointer (some ⟨a, 0, none⟩), .int .i64 r] R M := by
 apply kind_Min.go
 unfold kind_Min.T nfz
 rcases hp with ⟨hk, t, g1, g2, g3⟩ | ⟨hk, f, b, g1, g2, g3⟩
 ·rw [bQ_, if_pos hk]
  refine hp_min_ok hA g1 (fun e0 => ?_) fun x L' hL hx M1 β hB hs => ?_
  ·subst e0
   exact absurd (List.nil_perm.1 g2) hne
  ·simp only [go_sem]
   have hP : L.Perm (x :: L') := g2.symm.trans hL
   refine h x (hP.mem_iff.2 List.mem_cons_self) (fun y hy hyx => ?_) M1 β hB (hs.mono (by unfold limH; omega))
   rcases List.mem_cons.1 (hP.mem_iff.1 hy) with rfl | hy
   ·exact absurd rfl hyx
   ·exact hx y hy
 ·have hl : (ST.nds b).length = L.length := by rw [← g2.length_eq]; simp [ST.itsF]
  have hn0 : ST.nds b ≠ [] := fun e0 => hne (List.eq_nil_of_length_eq_zero (by rw [← hl, e0]; rfl))
  rw [bQ_, if_neg (by omega)]
  rcases hk with hk | hk
  ·subst hk
   rw [bQ_, if_pos rfl]
   refine bi_min_ok hA g1 (fun x hx hb M1 β hB hs => ?_) hn0
   simp only [go_sem]
   exact h x (g2.mem_iff.1 hx) (fun y hy => hb y (g2.mem_iff.2 hy)) M1 β hB (by rw [← hl]; exact hs)
  ·subst hk
   rw [bQ_, if_neg (by omega), bQ_, if_pos rfl]
   refine sk_min_ok hA g1 (fun x hx hb M1 β hB hs => ?_) hn0
   simp only [go_sem]
   exact h x (g2.mem_iff.1 hx) (fun y hy => hb y (g2.mem_iff.2 hy)) M1 β hB (by rw [← hl]; exact hs)
def Less (L' : List Held) (N' : List Nat) (L : List Held) (N : List Nat) : Prop := ∀ c ∈ celK L' N', c ∈ celK L N
theorem less_no {x : Held} {n : Nat} {L L1 : List Held} {N N1 : List Nat} (h : (celK L N).Perm (celK (x :: L1) (n :: N1))) (hn : (celK L N).Nodup) : x.1 ∉ celK L1 N1 := by
 have h1 := h.nodup_iff.1 hn
 unfold celK at h1 ⊢
 rw [List.map_cons, List.cons_append] at h1
 have h2 := (List.perm_middle.nodup_iff.1 (List.nodup_cons.1 h1).2)
 exact (List.nodup_cons.1 h2).1
theorem kPop_ok (hA : Holds w0 F M (arenaA a α)) (hp : KH k α r L N) (hne : L ≠ []) (h300 : L.length ≤ 300)
  (h : ∀ x L', L.Perm (x :: L') → (∀ y ∈ L, y.1 ≠ x.1 → Bf x y) → ∀ n ∈ N, ∀ M' β r' N', Holds w0 F M' (arenaA a β) → KH k β r' L' N' → Less L' N' L N → x.1 ∉ celK L' N' → AS.Eff (fun c => c ∈ celK L N) (· = n) (-1) (limH L.length) α β → R (.tuple #[.int .i64 r', .int .i64 (x.1 : Int)]) M') :
  C PP w0 Id.kind_Pop #[.int .i64 k, .pointer (some ⟨a, 0, none⟩), .int .i64 r] R M := by
 have hnd := hp.nd
 apply kind_Pop.go
 unfold kind_Pop.T nfz
 rcases hp with ⟨hk, t, g1, g2, g3⟩ | ⟨hk, f, b, g1, g2, g3⟩
 ·rw [bQ_, if_pos hk]
  have hcel := lf_celK g2 g3
  refine hp_pop_ok hA g1 (fun e0 => ?_) fun x L' hL hx M1 β t' n hn hB hp' hits hsub hxn heff hg => ?_
  ·subst e0
   exact absurd (List.nil_perm.1 g2) hne
  ·simp only [go_sem]
   have hP : L.Perm (x :: L') := g2.symm.trans hL
   have hc2 := lf_celK (t := t') (L := L') (N := LT.nds t') hits (List.Perm.refl _)
   refine h x L' hP (fun y hy hyx => ?_) n (g3.mem_iff.1 hn) M1 β _ (LT.nds t') hB (.inl ⟨hk, t', hp', hits, List.Perm.refl _⟩) (fun c hc => hcel.mem_iff.1 (hsub c (hc2.mem_iff.2 hc))) (fun hc => hxn (hc2.mem_iff.2 hc)) (heff.mono (fun c hc => hcel.mem_iff.1 hc) (fun _ h => h) ?_)
   ·rcases List.mem_cons.1 (hP.mem_iff.1 hy) with rfl | hy
    ·exact absurd rfl hyx
    ·exact hx y hy
   ·rw [g2.length_eq]; exact Int.le_refl _
 ·have hcel := bn_celK g2 g3
  have hl : (ST.nds b).length = L.length := by rw [← g2.length_eq]; simp [ST.itsF]
  have hn0 : ST.nds b ≠ [] := fun e0 => hne (List.eq_nil_of_length_eq_zero (by rw [← hl, e0]; rfl))
  have fin : ∀ x ∈ ST.nds b, (∀ y ∈ ST.nds b, y ≠ x → Bf (f x) (f y)) → ∀ L1 N1, (ST.itsF f (ST.nds b)).Perm (f x :: L1) → (ST.nds b).Perm (x :: N1) → ∀ M' β r', Holds w0 F M' (arenaA a β) → KH k β r' L1 N1 → AS.Eff (fun c => c ∈ ST.celF f (ST.nds b)) (· = x) (-1) (limH (ST.nds b).length) α β → R (.tuple #[.int .i64 r', .int .i64 ((f x).1 : Int)]) M' := by
   intro x hx hbx L1 N1 hL1 hN1 M' β r' hB hkh heff
   refine h (f x) L1 (g2.symm.trans hL1) (fun y hy hyx => ?_) x (g3.mem_iff.1 hx) M' β r' N1 hB hkh (fun c hc => ?_) (less_no (celK_perm (g2.symm.trans hL1) (g3.symm.trans hN1)) hnd) (heff.mono (fun c hc => hcel.mem_iff.1 hc) (fun _ h => h) (by rw [hl]; exact Int.le_refl _))
   ·obtain ⟨z, hz, rfl⟩ := List.mem_map.1 (g2.mem_iff.2 hy)
    exact hbx z hz fun e => hyx (by rw [e])
   ·refine (celK_perm (g2.symm.trans hL1) (g3.symm.trans hN1)).mem_iff.2 ?_
    unfold celK at hc ⊢
    rcases List.mem_append.1 hc with hc | hc
    ·exact List.mem_append_left _ (List.mem_cons_of_mem _ hc)
    ·exact List.mem_append_right _ (by rw [List.map_cons]; exact List.mem_cons_of_mem _ hc)
  rw [bQ_, if_neg (by omega)]
  rcases hk with hk | hk
  ·subst hk
   rw [bQ_, if_pos rfl]
   refine bi_pop_ok hA g1 hn0 (by omega) fun x hx hbx L1 N1 hL1 hN1 M' β r' hB hkh heff _ => ?_
   simp only [go_sem]
   exact fin x hx hbx L1 N1 hL1 hN1 M' β r' hB hkh heff
  ·subst hk
   rw [bQ_, if_neg (by omega), bQ_, if_pos rfl]
   refine sk_pop_ok hA g1 hn0 (by omega) fun x hx hbx L1 N1 hL1 hN1 M' β r' hB hkh heff _ => ?_
   simp only [go_sem]
   exact fin x hx hbx L1 N1 hL1 hN1 M' β r' hB hkh heff
theorem kFall_ok (hA : Holds w0 F M (arenaA a α)) {α0 : AS} {i : Nat} {e e' : Ent} {j : Int} (hp : KH k α0 r ((i, e) :: L) N) (hle : e'.1 ≤ e.1) (hs2 : e'.2 = e.2) (hs : AS.Sm j (α0.put i 7 e'.1) α)
  (h : ∀ M' β r' N', Holds w0 F M' (arenaA a β) → KH k β r' ((i, e') :: L) N' → Less ((i, e') :: L) N' ((i, e) :: L) N → AS.Eff (fun c => c ∈ celK ((i, e) :: L) N) (fun _ => False) 0 (limH (L.length + 1)) α β → R (.int .i64 r') M') :
  C PP w0 Id.kind_Fall #[.int .i64 k, .pointer (some ⟨a, 0, none⟩), .int .i64 r, .int .i64 (i : Int)] R M := by
 apply kind_Fall.go
 unfold kind_Fall.T nfz
 have hceq : ∀ (N' : List Nat), celK ((i, e') :: L) N' = celK ((i, e) :: L) N' := fun N' => by unfold celK; rfl
 rcases hp with ⟨hk, t, g1, g2, g3⟩ | ⟨hk, f, b, g1, g2, g3⟩
 ·rw [bQ_, if_pos hk]
  have hcel := lf_celK g2 g3
  have hF : HpF α r t i e e' := by
   obtain ⟨cs, n, l, s, q1, q2, q3, q4, q5, q6, q7⟩ := g1.lower (g2.mem_iff.2 List.mem_cons_self) hle hs2
   exact ⟨cs, n, l, s, q1, q2, q3.congr (fun c _ f => by rw [hs.get]) (fun c _ => by rw [hs.live]), q4, q5, q6, q7⟩
  refine hp_fall_ok hA hF fun M1 β t' hB hp' hits hcel' heff => ?_
  simp only [go_sem]
  have hL := hits L g2
  have hc2 := lf_celK (t := t') (N := LT.nds t') hL (List.Perm.refl _)
  refine h M1 β _ (LT.nds t') hB (.inl ⟨hk, t', hp', hL, List.Perm.refl _⟩) (fun c hc => hcel.mem_iff.1 (hcel'.mem_iff.1 (hc2.mem_iff.2 hc))) (heff.mono (fun c hc => hcel.mem_iff.1 hc) (fun _ h => h) ?_)
  rw [g2.length_eq]; exact Int.le_refl _
 ·have hcel := bn_celK g2 g3
  have hl : (ST.nds b).length = L.length + 1 := by rw [← List.length_cons, ← g2.length_eq]; simp [ST.itsF]
  obtain ⟨x, hx, hfx⟩ := List.mem_map.1 (g2.mem_iff.2 List.mem_cons_self)
  have e1 : (f x).1 = i := by rw [hfx]
  have e2 : (f x).2 = e := by rw [hfx]
  rw [← e2] at hle hs2
  rw [← e1] at hs
  have fin : ∀ L1, (ST.itsF f (ST.nds b)).Perm (f x :: L1) → ∀ M' β, Holds w0 F M' (arenaA a β) → KH k β r (((f x).1, e') :: L1) (ST.nds b) → AS.Eff (fun c => c ∈ ST.celF f (ST.nds b)) (fun _ => False) 0 (limH (ST.nds b).length) α β → R (.int .i64 r) M' := by
   intro L1 hL1 M' β hB hkh heff
   have hLL : L1.Perm L := by
    rw [hfx] at hL1
    exact List.Perm.cons_inv (hL1.symm.trans g2)
   rw [e1] at hkh
   refine h M' β r N hB (hkh.perm (hLL.cons _) g3) (fun c hc => by rw [hceq] at hc; exact hc) (heff.mono (fun c hc => hcel.mem_iff.1 hc) (fun _ h => h) (by rw [hl]; exact Int.le_refl _))
  rw [bQ_, if_neg (by omega), ← e1]
  rcases hk with hk | hk
  ·subst hk
   rw [bQ_, if_pos rfl]
   refine bi_fall_ok hA g1 hx hle hs2 hs fun L1 hL1 M' β hB hkh heff => ?_
   simp only [go_sem]
   exact fin L1 hL1 M' β hB hkh heff
  ·subst hk
   rw [bQ_, if_neg (by omega), bQ_, if_pos rfl]
   refine sk_fall_ok hA g1 hx hle hs2 hs fun L1 hL1 M' β hB hkh heff => ?_
   simp only [go_sem]
   exact fin L1 hL1 M' β hB hkh heff
theorem kCut_ok (hA : Holds w0 F M (arenaA a α)) {i : Nat} {e : Ent} (hp : KH k α r ((i, e) :: L) N) (h300 : L.length < 300)
  (h : ∀ n ∈ N, ∀ M' β r' N', Holds w0 F M' (arenaA a β) → KH k β r' L N' → Less L N' ((i, e) :: L) N → i ∉ celK L N' → AS.Eff (fun c => c ∈ celK ((i, e) :: L) N) (· = n) (-1) (limH (L.length + 1)) α β → R (.int .i64 r') M') :
  C PP w0 Id.kind_Cut #[.int .i64 k, .pointer (some ⟨a, 0, none⟩), .int .i64 r, .int .i64 (i : Int)] R M := by
 have hnd := hp.nd
 apply kind_Cut.go
 unfold kind_Cut.T nfz
 rcases hp with ⟨hk, t, g1, g2, g3⟩ | ⟨hk, f, b, g1, g2, g3⟩
 ·rw [bQ_, if_pos hk]
  have hcel := lf_celK g2 g3
  refine hp_cut_ok hA g1 (g2.mem_iff.2 List.mem_cons_self) fun L1 hL1 M1 β t' n hn hB hp' hits hsub hin hnn heff hg => ?_
  simp only [go_sem]
  have hLL : L1.Perm L := List.Perm.cons_inv (hL1.symm.trans g2)
  have hL : (LT.its t').Perm L := hits.trans hLL
  have hc2 := lf_celK (t := t') (N := LT.nds t') hL (List.Perm.refl _)
  refine h n (g3.mem_iff.1 hn) M1 β _ (LT.nds t') hB (.inl ⟨hk, t', hp', hL, List.Perm.refl _⟩) (fun c hc => hcel.mem_iff.1 (hsub c (hc2.mem_iff.2 hc))) (fun hc => hin (hc2.mem_iff.2 hc)) (heff.mono (fun c hc => hcel.mem_iff.1 hc) (fun _ h => h) ?_)
  rw [g2.length_eq]; exact Int.le_refl _
 ·have hcel := bn_celK g2 g3
  have hl : (ST.nds b).length = L.length + 1 := by rw [← List.length_cons, ← g2.length_eq]; simp [ST.itsF]
  obtain ⟨x, hx, hfx⟩ := List.mem_map.1 (g2.mem_iff.2 List.mem_cons_self)
  have e1 : (f x).1 = i := by rw [hfx]
  have fin : ∀ L1, (ST.itsF f (ST.nds b)).Perm (f x :: L1) → ∀ n N1, (ST.nds b).Perm (n :: N1) → ∀ M' β r', Holds w0 F M' (arenaA a β) → KH k β r' L1 N1 → AS.Eff (fun c => c ∈ ST.celF f (ST.nds b)) (· = n) (-1) (limH (ST.nds b).length) α β → R (.int .i64 r') M' := by
   intro L1 hL1 n N1 hN1 M' β r' hB hkh heff
   have hLL : L1.Perm L := by
    rw [hfx] at hL1
    exact List.Perm.cons_inv (hL1.symm.trans g2)
   refine h n (g3.mem_iff.1 (hN1.mem_iff.2 List.mem_cons_self)) M' β r' N1 hB (hkh.perm hLL (List.Perm.refl _)) (fun c hc => ?_) (less_no (x := (i, e)) (celK_perm (List.Perm.refl _) (g3.symm.trans hN1)) hnd) (heff.mono (fun c hc => hcel.mem_iff.1 hc) (fun _ h => h) (by rw [hl]; exact Int.le_refl _))
   refine (celK_perm (List.Perm.refl _) (g3.symm.trans hN1)).mem_iff.2 ?_
   unfold celK at hc ⊢
   rcases List.mem_append.1 hc with hc | hc
   ·exact List.mem_append_left _ (List.mem_cons_of_mem _ hc)
   ·exact List.mem_append_right _ (by rw [List.map_cons]; exact List.mem_cons_of_mem _ hc)
  rw [bQ_, if_neg (by omega), ← e1]
  rcases hk with hk | hk
  ·subst hk
   rw [bQ_, if_pos rfl]
   refine bi_cut_ok hA g1 hx (by omega) fun L1 hL1 n N1 hN1 M' β r' hB hkh heff _ => ?_
   simp only [go_sem]
   exact fin L1 hL1 n N1 hN1 M' β r' hB hkh heff
  ·subst hk
   rw [bQ_, if_neg (by omega), bQ_, if_pos rfl]
   refine sk_cut_ok hA g1 hx (by omega) fun L1 hL1 n N1 hN1 M' β r' hB hkh heff _ => ?_
   simp only [go_sem]
   exact fin L1 hL1 n N1 hN1 M' β r' hB hkh heff
theorem kMeld_ok (hA : Holds w0 F M (arenaA a α)) {s : Int} {L2 : List Held} {N2 : List Nat} (hp : KH k α r L N) (hq : KH k α s L2 N2) (hd : (celK L N ++ celK L2 N2).Nodup) (h300 : L.length + L2.length ≤ 300)
  (h : ∀ M' β r' N', Holds w0 F M' (arenaA a β) → KH k β r' (L ++ L2) N' → (∀ c ∈ celK (L ++ L2) N', c ∈ celK L N ∨ c ∈ celK L2 N2) → AS.Eff (fun c => c ∈ celK L N ∨ c ∈ celK L2 N2) (fun _ => False) 0 (limH (L.length + L2.length)) α β → R (.int .i64 r') M') :
  C PP w0 Id.kind_Meld #[.int .i64 k, .pointer (some ⟨a, 0, none⟩), .int .i64 r, .int .i64 s] R M := by
 apply kind_Meld.go
 unfold kind_Meld.T nfz
 rcases hp with ⟨hk, t, g1, g2, g3⟩ | ⟨hk, f, b, g1, g2, g3⟩
 ·rcases hq with ⟨_, u, q1, q2, q3⟩ | ⟨hk2, _⟩
  ·rw [bQ_, if_pos hk]
   have hcel := lf_celK g2 g3
   have hcel2 := lf_celK q2 q3
   refine hp_meld_ok hA g1 q1 ((hcel.append hcel2).nodup_iff.2 hd) fun M1 β t' hB hp' hits hcel' heff => ?_
   simp only [go_sem]
   have hL : (LT.its t').Perm (L ++ L2) := hits.trans (g2.append q2)
   have hc2 := lf_celK (t := t') (N := LT.nds t') hL (List.Perm.refl _)
   refine h M1 β _ (LT.nds t') hB (.inl ⟨hk, t', hp', hL, List.Perm.refl _⟩) (fun c hc => ?_) (heff.mono (fun c hc => ?_) (fun _ h => h) ?_)
   ·rcases List.mem_append.1 (hcel'.mem_iff.1 (hc2.mem_iff.2 hc)) with hc | hc
    ·exact .inl (hcel.mem_iff.1 hc)
    ·exact .inr (hcel2.mem_iff.1 hc)
   ·rcases hc with hc | hc
    ·exact .inl (hcel.mem_iff.1 hc)
    ·exact .inr (hcel2.mem_iff.1 hc)
   ·rw [g2.length_eq, q2.length_eq]; exact Int.le_refl _
  ·omega
 ·rcases hq with ⟨hk2, _⟩ | ⟨_, g, c, q1, q2, q3⟩
  ·omega
  ·have hcel := bn_celK g2 g3
   have hcel2 := bn_celK q2 q3
   have hl : (ST.nds b).length = L.length := by rw [← g2.length_eq]; simp [ST.itsF]
   have hl2 : (ST.nds c).length = L2.length := by rw [← q2.length_eq]; simp [ST.itsF]
   have fin : ∀ M' β r', Holds w0 F M' (arenaA a β) → KH k β r' (ST.itsF f (ST.nds b) ++ ST.itsF g (ST.nds c)) (ST.nds b ++ ST.nds c) → AS.Eff (fun x => x ∈ ST.celF f (ST.nds b) ∨ x ∈ ST.celF g (ST.nds c)) (fun _ => False) 0 (limH ((ST.nds b).length + (ST.nds c).length)) α β → R (.int .i64 r') M' := by
    intro M' β r' hB hkh heff
    refine h M' β r' (N ++ N2) hB (hkh.perm (g2.append q2) (g3.append q3)) (fun c hc => ?_) (heff.mono (fun c hc => ?_) (fun _ h => h) (by rw [hl, hl2]; exact Int.le_refl _))
    ·unfold celK at hc ⊢
     simp only [List.map_append, List.mem_append] at hc ⊢
     rcases hc with (hc | hc) | hc | hc
     ·exact .inl (.inl hc)
     ·exact .inr (.inl hc)
     ·exact .inl (.inr hc)
     ·exact .inr (.inr hc)
    ·rcases hc with hc | hc
     ·exact .inl (hcel.mem_iff.1 hc)
     ·exact .inr (hcel2.mem_iff.1 hc)
   rw [bQ_, if_neg (by omega)]
   rcases hk with hk | hk
   ·subst hk
    rw [bQ_, if_pos rfl]
    refine bi_meld_ok hA g1 q1 ((hcel.append hcel2).nodup_iff.2 hd) (by omega) fun M' β r' hB hkh heff => ?_
    simp only [go_sem]
    exact fin M' β r' hB hkh heff
   ·subst hk
    rw [bQ_, if_neg (by omega), bQ_, if_pos rfl]
    refine sk_meld_ok hA g1 q1 ((hcel.append hcel2).nodup_iff.2 hd) (by omega) fun M' β r' hB hkh heff => ?_
    simp only [go_sem]
    exact fin M' β r' hB hkh heff
end
end Go.Proofs.YtodobkbnmjgkdaaGreat.HL
namespace Go.Proofs.YtodobkbnmjgkdaaGreat.HL
open Go.RowKit (Below)
open Go.Proofs
abbrev tTb : TypeId := 156
abbrev tbV (bh bi ma : Nat) : List Value := [.pointer (some ⟨bh, 0, none⟩), .pointer (some ⟨bi, 0, none⟩), .map (some ma)]
section
variable {w0 : World} {F M : Mem} {R : VP} {os : Obs} {t bh bi ma : Nat} {hp ip : PS V3} {Q : Asn}
theorem Tb0 (o : Own w0 F t (tbV bh bi ma) tTb) (hl : Mem.le F M) : (std PP w0).ld 146 ⟨t, 0, none⟩ M = some (.pointer (some ⟨bh, 0, none⟩)) := ld1 W.c146 (o.le hl) rfl
theorem Tb1 (o : Own w0 F t (tbV bh bi ma) tTb) (hl : Mem.le F M) : (std PP w0).ld 150 ⟨t, 1, none⟩ M = some (.pointer (some ⟨bi, 0, none⟩)) := ld1 W.c150 (o.le hl) rfl
theorem Tb2 (o : Own w0 F t (tbV bh bi ma) tTb) (hl : Mem.le F M) : (std PP w0).ld 154 ⟨t, 2, none⟩ M = some (.map (some ma)) := ld1 (by kernel_rfl) (o.le hl) rfl
theorem SHeap_ok {a g : Int} {v : V3} (oT : Own w0 F t (tbV bh bi ma) tTb) (h : HO w0 F M os (star (PsH bh hp) Q)) (hb : hp.l.length ≤ 100000) (hw : hp.find a g = some v)
  (hK : ∀ M', HO w0 F M' os (star (PsH bh hp) Q) → R (.tuple #[.int .i64 v.1, .int .i64 v.2.1, .int .i64 v.2.2, .int .i64 0]) M') :
  C PP w0 Id.sT_Heap #[.pointer (some ⟨t, 0, none⟩), .agg #[.int .i64 a, .int .i64 g]] R M := by
 apply sT_Heap.go
 unfold sT_Heap.T nfz
 refine nwA h fun b1 F1 M1 l1 lm1 o1 h1 => ?_
 have oT1 := oT.le l1
 simp only [nc_v, Tb0 oT1 h1.fr, ob_v, sP_v, lB_ gRef (o1.le h1.fr), sA_, sC_, zI_, zN_]
 refine ⟨?_, ?_⟩
 rotate_left
 ·refine nwB h1 fun b2 M2 l2 h2 => ?_
  refine ⟨Tb0 oT1 h2.fr, lB_ gRef (o1.le h2.fr), ?_⟩
  refine GetH1 h2.h.right hb hw fun M3 l3 => ?_
  simp only [sT_v, sC_, sA_, zI_, zN_]
  refine stF gHeap (by rfl) one3 (h2.le l3) fun F2 M4 l4 o4 h4 => ?_
  simp only [add_eq, Nat.zero_add, ld1 W.c3 (o4.le h4.fr) (o := 0) rfl, ld1 W.c3 (o4.le h4.fr) (o := 1) rfl, ld1 W.c3 (o4.le h4.fr) (o := 2) rfl, ob_v, zI_, true_and]
  exact hK M4 ((h4.uF_ l4).uF_ l1)
 ·refine GetH1 h1.h hb hw fun M3 l3 => ?_
  simp only [sT_v, sC_, sA_, zI_, zN_]
  refine boxF gHeap (by rfl) one3 (h1.le l3) fun b2 F2 M4 l4 o4 h4 => ?_
  simp only [add_eq, Nat.zero_add, ld1 W.c3 (o4.le h4.fr) (o := 0) rfl, ld1 W.c3 (o4.le h4.fr) (o := 1) rfl, ld1 W.c3 (o4.le h4.fr) (o := 2) rfl, ob_v, zI_, true_and]
  exact hK M4 ((h4.uF_ l4).uF_ l1)
theorem SCell_ok {a g : Int} {v : V3} (oT : Own w0 F t (tbV bh bi ma) tTb) (h : HO w0 F M os (star (PsT bi ip) Q)) (hb : ip.l.length ≤ 100000) (hw : ip.find a g = some v)
  (hK : ∀ M', HO w0 F M' os (star (PsT bi ip) Q) → R (.tuple #[.int .i64 v.1, .int .i64 0]) M') :
  C PP w0 Id.sT_Cell #[.pointer (some ⟨t, 0, none⟩), .agg #[.int .i64 a, .int .i64 g]] R M := by
 apply sT_Cell.go
 unfold sT_Cell.T nfz
 refine nwA h fun b1 F1 M1 l1 lm1 o1 h1 => ?_
 have oT1 := oT.le l1
 simp only [nc_v, add_eq, Nat.zero_add, Tb1 oT1 h1.fr, ob_v, sP_v, lB_ gRef (o1.le h1.fr), sA_, sC_, zI_, zN_]
 refine ⟨?_, ?_⟩
 rotate_left
 ·refine nwB h1 fun b2 M2 l2 h2 => ?_
  refine ⟨Tb1 oT1 h2.fr, lB_ gRef (o1.le h2.fr), ?_⟩
  refine GetT1 h2.h.right hb hw fun M3 l3 => ?_
  simp only [sT_v, sC_, sA_, zI_, zN_]
  refine stF gThing (by rfl) one3 (h2.le l3) fun F2 M4 l4 o4 h4 => ?_
  simp only [ld1 W.c3 (o4.le h4.fr) (o := 0) rfl, ob_v, zI_]
  exact hK M4 ((h4.uF_ l4).uF_ l1)
 ·refine GetT1 h1.h hb hw fun M3 l3 => ?_
  simp only [sT_v, sC_, sA_, zI_, zN_]
  refine boxF gThing (by rfl) one3 (h1.le l3) fun b2 F2 M4 l4 o4 h4 => ?_
  simp only [ld1 W.c3 (o4.le h4.fr) (o := 0) rfl, ob_v, zI_]
  exact hK M4 ((h4.uF_ l4).uF_ l1)
theorem SOf_ok {a g : Int} {v : V3} (oT : Own w0 F t (tbV bh bi ma) tTb) (h : HO w0 F M os (star (PsT bi ip) Q)) (hb : ip.l.length ≤ 100000) (hw : ip.find a g = some v)
  (hK : ∀ M', HO w0 F M' os (star (PsT bi ip) Q) → R (.tuple #[.agg #[.int .i64 v.2.1, .int .i64 v.2.2], .int .i64 0]) M') :
  C PP w0 Id.sT_Of #[.pointer (some ⟨t, 0, none⟩), .agg #[.int .i64 a, .int .i64 g]] R M := by
 apply sT_Of.go
 unfold sT_Of.T nfz
 refine nwA h fun b1 F1 M1 l1 lm1 o1 h1 => ?_
 refine nwB h1 fun b3 M1' l1' h1' => ?_
 have oT1 := oT.le l1
 simp only [nc_v, add_eq, Nat.zero_add, Tb1 oT1 h1'.fr, ob_v, sP_v, lB_ gRef (o1.le h1'.fr), sA_, sC_, zI_, zN_]
 refine ⟨?_, ?_⟩
 rotate_left
 ·refine nwB h1' fun b2 M2 l2 h2 => ?_
  refine ⟨Tb1 oT1 h2.fr, lB_ gRef (o1.le h2.fr), ?_⟩
  refine GetT1 h2.h.right.right hb hw fun M3 l3 => ?_
  simp only [sT_v, sC_, sA_, zI_, zN_]
  refine stF gThing (by rfl) one3 (h2.le l3) fun F2 M4 l4 o4 h4 => ?_
  simp only [ldSub (o := 1) (vs := [.int .i64 v.2.1, .int .i64 v.2.2]) gRef (o4.le h4.fr) (fun j u hj => by rw [Nat.add_comm]; exact hj), ob_v, sA_, sC_, zI_, zN_]
  refine resB (K := fun v M => R (.tuple #[v, .int .i64 0]) M) gRef (by rfl) one2 h4 fun M5 h5 => ?_
  exact hK M5 ((h5.uF_ l4).uF_ l1)
 ·refine GetT1 h1'.h.right hb hw fun M3 l3 => ?_
  simp only [sT_v, sC_, sA_, zI_, zN_]
  refine boxF gThing (by rfl) one3 (h1'.le l3) fun b2 F2 M4 l4 o4 h4 => ?_
  simp only [ldSub (o := 1) (vs := [.int .i64 v.2.1, .int .i64 v.2.2]) gRef (o4.le h4.fr) (fun j u hj => by rw [Nat.add_comm]; exact hj), ob_v, sA_, sC_, zI_, zN_]
  refine resB (K := fun v M => R (.tuple #[v, .int .i64 0]) M) gRef (by rfl) one2 h4 fun M5 h5 => ?_
  exact hK M5 ((h5.uF_ l4).uF_ l1)
theorem SRoot_ok {a g r n : Int} {v : V3} (oT : Own w0 F t (tbV bh bi ma) tTb) (h : HO w0 F M os (star (PsH bh hp) Q)) (hb : hp.l.length ≤ 100000) (hw : hp.find a g = some v)
  (hK : ∀ M', HO w0 F M' os (star (PsH bh (hp.put a.toNat (v.1, r, n))) Q) → R (.int .i64 0) M') :
  C PP w0 Id.sT_Root #[.pointer (some ⟨t, 0, none⟩), .agg #[.int .i64 a, .int .i64 g], .int .i64 r, .int .i64 n] R M := by
 apply sT_Root.go
 unfold sT_Root.T nfz
 refine nwA h fun b1 F1 M1 l1 lm1 o1 h1 => ?_
 have oT1 := oT.le l1
 simp only [nc_v, Tb0 oT1 h1.fr, ob_v, sP_v, lB_ gRef (o1.le h1.fr), sA_, sC_, zI_, zN_]
 refine ⟨?_, ?_⟩
 rotate_left
 refine nwB h1 fun b2 M2 l2 h2 => ?_
 refine ⟨Tb0 oT1 h2.fr, lB_ gRef (o1.le h2.fr), ?_⟩
 refine GetH1 h2.h.right hb hw fun M3 l3 => ?_
 simp only [sT_v, sC_, sA_, zI_, zN_]
 refine stW gHeap (by rfl) one3 (h2.le l3) fun M4 h4 => ?_
 rotate_left
 refine GetH1 h1.h hb hw fun M3 l3 => ?_
 simp only [sT_v, sC_, sA_, zI_, zN_]
 refine nwB (h1.le l3) fun b2 M2 l2 h2 => ?_
 refine stW gHeap (by rfl) one3 h2 fun M4 h4 => ?_
 all_goals
  rw [bQ_, if_pos rfl]
  simp only [add_eq, Nat.zero_add]
  refine st1W (o := 1) W.c3 (by simp) rfl rfl h4 fun M5 h5 => ?_
  refine st1W (o := 2) W.c3 (by simp) rfl rfl h5 fun M6 h6 => ?_
  change HO w0 F1 M6 os (star (row1 b2 [.int .i64 v.1, .int .i64 r, .int .i64 n] 149) _) at h6
  simp only [nc_v, Tb0 oT1 h6.fr, ob_v, sP_v, lB_ gRef (o1.le h6.fr), lB_ gHeap h6.h.own1, sA_, sC_, zI_, zN_]
  obtain ⟨F2, hB, l7, back⟩ := h6.foc1
  refine SetH_ok (v := (v.1, r, n)) hB hb hw fun M7 hC => ?_
  rw [zI_]
  have h8 := back M7 _ hC
  exact hK M7 ((h8.mapH fun h => h.right).uF_ l1)
theorem SAt_ok {c : Int} {r : RefK} {oa : Obj} {m : Int → Option RefK} (oT : Own w0 F t (tbV bh bi ma) tTb) (h : HO w0 F M os Q) (hm : (ma, oa) ∈ os) (hf : MapF (Value.int .i64) refK m oa) (hw : m c = some r)
  (hK : ∀ M', HO w0 F M' os Q → R (.tuple #[.agg #[.int .i64 r.1, .int .i64 r.2], .bool true]) M') :
  C PP w0 Id.sT_At #[.pointer (some ⟨t, 0, none⟩), .int .i64 c] R M := by
 apply sT_At.go
 unfold sT_At.T nfz
 refine nwB h fun b1 M1 l1 h1 => ?_
 obtain ⟨inf, hi, hz, _⟩ := W.e33
 have hlk := (lkF (k := c) Tryz.underlying154 intK_ok hi hz (h1.get hm).1 (h1.get hm).2 hf).2
 rw [hw] at hlk
 simp only [Option.map_some, Option.getD_some, Option.isSome_some, refK] at hlk
 simp only [nc_v, add_eq, Nat.zero_add, Tb2 oT h1.fr, ob_v, hlk, sT_v, sC_, sA_, zI_, shB_v, zN_]
 refine boxF gRef (by rfl) one2 h1 fun b2 F2 M4 l4 o4 h4 => ?_
 simp only [lB_ gRef (o4.le h4.fr), ob_v, sA_, sC_, zI_, zN_]
 refine resB (K := fun v M => R (.tuple #[v, .bool true]) M) gRef (by rfl) one2 h4 fun M5 h5 => ?_
 exact hK M5 (h5.uF_ l4)
theorem SItems_ok (oT : Own w0 F t (tbV bh bi ma) tTb) (h : HO w0 F M os (star (PsT bi ip) Q)) (hb : ip.l.length ≤ 100000) (hf : ip.free.length ≤ ip.l.length) (hK : R (.int .i64 ((ip.l.length - ip.free.length : Nat) : Int)) M) :
  C PP w0 Id.sT_Items #[.pointer (some ⟨t, 0, none⟩)] R M := by
 apply sT_Items.go
 unfold sT_Items.T nfz
 simp only [nc_v, add_eq, Nat.zero_add, Tb1 oT h.fr, ob_v, sP_v]
 refine LenT_ok h.h hb hf ?_
 rw [zI_]
 exact hK
theorem STake_ok {a g : Int} {v : V3} {oa : Obj} {m : Int → Option RefK} (oT : Own w0 F t (tbV bh bi ma) tTb) (h : HO w0 F M ((ma, oa) :: os) (star (PsT bi ip) Q)) (hb : ip.l.length ≤ 10000) (hfb : ip.free.length ≤ 10000) (hf : MapF (Value.int .i64) refK m oa) (hw : ip.find a g = some v)
  (hK : ∀ M' oa', MapF (Value.int .i64) refK (updM m v.1 none) oa' → HO w0 F M' ((ma, oa') :: os) (star (PsT bi (ip.give z3 a.toNat)) Q) → R (.tuple #[.int .i64 v.1, .int .i64 0]) M') :
  C PP w0 Id.sT_Take #[.pointer (some ⟨t, 0, none⟩), .agg #[.int .i64 a, .int .i64 g]] R M := by
 apply sT_Take.go
 unfold sT_Take.T nfz
 refine nwA h fun b1 F1 M1 l1 lm1 o1 h1 => ?_
 have oT1 := oT.le l1
 simp only [nc_v, add_eq, Nat.zero_add, Tb1 oT1 h1.fr, ob_v, sP_v, lB_ gRef (o1.le h1.fr), sA_, sC_, zI_, zN_]
 refine ⟨?_, ?_⟩
 rotate_left
 refine nwB h1 fun b2 M2 l2 h2 => ?_
 refine ⟨Tb1 oT1 h2.fr, lB_ gRef (o1.le h2.fr), ?_⟩
 obtain ⟨F2, hB, l3, back⟩ := h2.foc1
 refine GiveT_ok hB hb hfb hw fun M3 hC => ?_
 have h3 := back M3 _ hC
 simp only [sT_v, sC_, sA_, zI_, zN_]
 refine stF gThing (by rfl) one3 h3 fun F3 M4 l4 o4 h4 => ?_
 rotate_left
 obtain ⟨F2, hB, l3, back⟩ := h1.foc0
 refine GiveT_ok hB hb hfb hw fun M3 hC => ?_
 have h3 := back M3 _ hC
 simp only [sT_v, sC_, sA_, zI_, zN_]
 refine boxF gThing (by rfl) one3 h3 fun b2 F3 M4 l4 o4 h4 => ?_
 all_goals
  rw [bQ_, if_pos rfl]
  simp only [nc_v, add_eq, Nat.zero_add, Tb2 (oT1.le l4) h4.fr, ob_v, ld1 W.c3 (o4.le h4.fr) (o := 0) rfl, zI_]
  obtain ⟨g1, g2⟩ := h4.get List.mem_cons_self
  refine delF (k := v.1) rfl Tryz.underlying154 intK_ok g1 g2 hf fun oa' hf' => ?_
  have h5 := h4.set (o' := oa')
  generalize Mem.set M4 ma _ = M5 at h5 ⊢
  simp only [ld1 W.c3 (o4.le h5.fr) (o := 0) rfl, ob_v, zI_]
  exact hK M5 oa' hf' ((h5.uF_ l4).uF_ l1)
end
end Go.Proofs.YtodobkbnmjgkdaaGreat.HL
namespace Go.Proofs.YtodobkbnmjgkdaaGreat.HL
open Go.RowKit (Below)
open Go.Proofs
structure Rep where
 why : Int := 0
 at_ : Int := 0
 gen : Int := 0
 time : Int := 0
 data : Int := 0
 n : Int := 0
deriving DecidableEq
structure Cmd where
 kind : Int
 queue : Int
 at_ : Int
 gen : Int
 time : Int
 data : Int
abbrev tRep : TypeId := 65
abbrev tCmd : TypeId := 68
def Rep.v (r : Rep) : Value := .agg #[.int .i64 r.why, .int .i64 r.at_, .int .i64 r.gen, .int .i64 r.time, .int .i64 r.data, .int .i64 r.n]
def Rep.cells (r : Rep) : List Value := [.int .i64 r.why, .int .i64 r.at_, .int .i64 r.gen, .int .i64 r.time, .int .i64 r.data, .int .i64 r.n]
def Cmd.v (c : Cmd) : Value := .agg #[.int .i64 c.kind, .int .i64 c.queue, .int .i64 c.at_, .int .i64 c.gen, .int .i64 c.time, .int .i64 c.data]
def Cmd.cells (c : Cmd) : List Value := [.int .i64 c.kind, .int .i64 c.queue, .int .i64 c.at_, .int .i64 c.gen, .int .i64 c.time, .int .i64 c.data]
end Go.Proofs.YtodobkbnmjgkdaaGreat.HL
namespace Go.Proofs.YtodobkbnmjgkdaaGreat.HL
structure Jb where
 queue : Int
 data : Int
 key : Int
 ser : Int
 at_ : Int
 gen : Int
def Jb.e (j : Jb) : Ent := (j.key, j.ser)
structure D22 where
 most : Int
 now : Int
 next : Int
 pool : Pl
 l : List Jb
def atD (l : List Jb) (a g : Int) : Option Nat := l.findIdx? fun j => decide (j.at_ = a ∧ j.gen = g)
def befD : Option (Nat × Ent) → Ent → Bool
 | none, _ => true
 | some x, e => decide (Lt e x.2)
def firstG (q : Int) : Nat → List Jb → Option (Nat × Ent) → Option (Nat × Ent)
 | _, [], acc => acc
 | i, j :: t, acc => firstG q (i + 1) t (if j.queue = q ∧ befD acc j.e = true then some (i, j.e) else acc)
def firstD (l : List Jb) (q : Int) : Option (Nat × Ent) := firstG q 0 l none
def countD (q : Int) (l : List Jb) : Nat := l.countP fun j => decide (j.queue = q)
def D22.out (d : D22) (k : Nat) : D22 := match d.l[k]? with
 | none => d
 | some j => { d with l := d.l.eraseIdx k, pool := d.pool.give j.at_.toNat }
def do22 (d : D22) (c : Cmd) : D22 × Rep :=
 if (c.kind = 1 ∨ c.kind = 5 ∨ c.kind = 6 ∨ c.kind = 7) ∧ (c.queue < 0 ∨ 2 ≤ c.queue) then (d, { why := 1 })
 else if c.kind = 1 then
  match d.pool.at_ with
  | none => (d, { why := 13 })
  | some a => ({ d with pool := d.pool.take a 0, l := d.l ++ [⟨c.queue, c.data, c.time, d.next, (a : Int), d.pool.gen a⟩], next := d.next + 1 }, { at_ := (a : Int), gen := d.pool.gen a, time := c.time, data := c.data })
 else if c.kind = 2 ∨ c.kind = 3 then
  if d.pool.look c.at_ c.gen ≠ 0 then (d, { why := d.pool.look c.at_ c.gen })
  else match atD d.l c.at_ c.gen with
   | none => (d, {})
   | some k => match d.l[k]? with
    | none => (d, {})
    | some j =>
     if c.kind = 3 then (d.out k, { time := j.key, data := j.data })
     else if j.key < c.time then (d, { why := 26 })
     else ({ d with l := d.l.set k { j with key := c.time } }, { time := c.time, data := j.data })
 else if c.kind = 4 then
  if c.time < 0 then (d, { why := 1 }) else ({ d with now := addc d.now c.time }, { time := addc d.now c.time })
 else if c.kind = 5 then
  match firstD d.l c.queue with
  | none => (d, { why := 28 })
  | some x => if d.now < x.2.1 then (d, { why := 28 }) else
   match d.l[x.1]? with
   | none => (d, {})
   | some j => (d.out x.1, { at_ := j.at_, gen := j.gen, time := j.key, data := j.data })
 else if c.kind = 6 then
  if c.queue = 0 then (d, { why := 25 })
  else ({ d with l := d.l.map fun j => if j.queue = 1 then { j with queue := 0 } else j }, { n := (countD 1 d.l : Int) })
 else if c.kind = 7 then (d, { n := (countD c.queue d.l : Int) })
 else (d, { why := 12 })
structure DOk (d : D22) : Prop where
 pl : PlOk d.pool
 look : ∀ a g, d.pool.look a g = 0 → ∃ k, atD d.l a g = some k
 lk : ∀ j ∈ d.l, d.pool.look j.at_ j.gen = 0
 bl : d.pool.back.length ≤ 10000
 gl : d.pool.gens.length ≤ 10000
 gv : ∀ g ∈ d.pool.gens, 0 ≤ g ∧ g ≤ 1000000
 ll : d.l.length ≤ 10000
 nx : 0 ≤ d.next ∧ d.next ≤ 1000000
theorem firstG_some {q : Int} : ∀ {l : List Jb} {i : Nat} {acc : Option (Nat × Ent)} {P : Nat × Ent → Prop}, (∀ x, acc = some x → P x) → (∀ (n : Nat) j, l[n]? = some j → j.queue = q → P (i + n, j.e)) → ∀ x, firstG q i l acc = some x → P x
 | [], i, acc, P, h0, _, x, hx => h0 x hx
 | j :: l, i, acc, P, h0, h1, x, hx => by
  rw [firstG] at hx
  refine firstG_some (P := P) (fun y hy => ?_) (fun n k hk hq => ?_) x hx
  ·split at hy
   ·rename_i hc
    cases hy
    exact h1 0 j rfl hc.1
   ·exact h0 y hy
  ·have := h1 (n + 1) k (by simpa using hk) hq
   rw [show i + 1 + n = i + (n + 1) from by omega]; exact this
theorem firstG_least {q : Int} : ∀ {l : List Jb} {i : Nat} {acc : Option (Nat × Ent)} {x : Nat × Ent}, firstG q i l acc = some x → (∀ y, acc = some y → ¬ Lt y.2 x.2) ∧ ∀ j ∈ l, j.queue = q → ¬ Lt j.e x.2
 | [], i, acc, x, hx => ⟨fun y hy => by
   have : acc = some x := hx
   rw [this] at hy; cases hy; exact Lt.irr, fun j hj => by cases hj⟩
 | j :: l, i, acc, x, hx => by
  rw [firstG] at hx
  obtain ⟨h1, h2⟩ := firstG_least hx
  by_cases hc : j.queue = q ∧ befD acc j.e = true
  ·rw [if_pos hc] at h1
   have hj := h1 _ rfl
   refine ⟨fun y hy => ?_, fun k hk hq => ?_⟩
   ·subst hy
    intro hh
    have := hc.2
    simp only [befD, decide_eq_true_eq] at this
    exact hj (Lt.tr this hh)
   ·rcases List.mem_cons.1 hk with rfl | hk
    ·exact hj
    ·exact h2 k hk hq
  ·rw [if_neg hc] at h1
   refine ⟨h1, fun k hk hq => ?_⟩
   rcases List.mem_cons.1 hk with rfl | hk
   ·cases acc with
    | none => exact absurd ⟨hq, rfl⟩ hc
    | some y =>
     have hny : ¬ Lt k.e y.2 := fun hh => hc ⟨hq, by simp only [befD, decide_eq_true_eq]; exact hh⟩
     have hyx := h1 y rfl
     exact fun hh => (nLt.tr hyx hny) hh
   ·exact h2 k hk hq
theorem firstG_none {q : Int} : ∀ {l : List Jb} {i : Nat} {acc : Option (Nat × Ent)}, firstG q i l acc = none → acc = none ∧ ∀ j ∈ l, j.queue ≠ q
 | [], i, acc, hx => ⟨hx, fun j hj => by cases hj⟩
 | j :: l, i, acc, hx => by
  rw [firstG] at hx
  obtain ⟨h1, h2⟩ := firstG_none hx
  split at h1
  ·cases h1
  ·rename_i hc
   subst h1
   refine ⟨rfl, fun k hk hq => ?_⟩
   rcases List.mem_cons.1 hk with rfl | hk
   ·exact hc ⟨hq, rfl⟩
   ·exact h2 k hk hq
theorem firstD_some {l : List Jb} {q : Int} {x : Nat × Ent} (h : firstD l q = some x) : ∃ j, l[x.1]? = some j ∧ j.queue = q ∧ x.2 = j.e ∧ ∀ k ∈ l, k.queue = q → ¬ Lt k.e j.e := by
 have h1 := firstG_some (q := q) (l := l) (i := 0) (acc := none) (P := fun y => ∃ j, l[y.1]? = some j ∧ j.queue = q ∧ y.2 = j.e) (fun y hy => by cases hy) (fun n j hj hq => ⟨j, by rw [Nat.zero_add]; exact hj, hq, rfl⟩) x h
 obtain ⟨j, h2, h3, h4⟩ := h1
 refine ⟨j, h2, h3, h4, fun k hk hq => ?_⟩
 rw [← h4]
 exact (firstG_least h).2 k hk hq
end Go.Proofs.YtodobkbnmjgkdaaGreat.HL
namespace Go.Proofs.YtodobkbnmjgkdaaGreat.HL
open Go.RowKit (Below)
open Go.Proofs
abbrev tD : TypeId := 73
def jdC (j : Jb) : List Value := [.int .i64 j.queue, .int .i64 j.data, .int .i64 j.key, .int .i64 j.ser, .int .i64 j.at_, .int .i64 j.gen]
abbrev jdV (l : List Jb) : List Value := l.flatMap jdC
section
variable {w0 : World} {F M : Mem} {R : VP}
theorem eqRefU {X Y : Operand} (a g b k : Int) : (std PP w0).bq .eql 33 X Y (.agg #[.int .i64 a, .int .i64 g]) (.agg #[.int .i64 b, .int .i64 k]) = some (.bool (a == b && g == k)) := by
 have := eql_struct (P := PP) (w0 := w0) (X := X) (Y := Y) (es := [a == b, g == k]) (xs := #[.int .i64 a, .int .i64 g]) (ys := #[.int .i64 b, .int .i64 k]) Tryz.underlying33 (by kernel_rfl) (by kernel_rfl)
  ⟨by decide, ⟨.int .i64 a, .int .i64 b, by kernel_rfl, by kernel_rfl, equal_int Tryz.underlying3 a b⟩, by decide, ⟨.int .i64 g, .int .i64 k, by kernel_rfl, by kernel_rfl, equal_int Tryz.underlying3 g k⟩, trivial⟩
 rw [show ([a == b, g == k] : List Bool).all id = (a == b && g == k) from by simp [List.all]] at this
 exact this
def DispA (d : Nat) (x : D22) : Asn := fun r => ∃ (p : Nat) (s : SV), star (row1 d [.int .i64 x.most, .int .i64 x.now, .int .i64 x.next, .pointer (some ⟨p, 0, none⟩), SV.v s] tD) (star (SlKA 6 s (jdV x.l)) (PoolA p x.pool)) r
section
variable {d : Nat} {x : D22} {Q : Asn}
abbrev DH (w0 : World) (F M : Mem) (d : Nat) (x : D22) (p : Nat) (s : SV) (Q : Asn) : Prop := Holds w0 F M (star (row1 d [.int .i64 x.most, .int .i64 x.now, .int .i64 x.next, .pointer (some ⟨p, 0, none⟩), SV.v s] tD) (star (SlKA 6 s (jdV x.l)) (star (PoolA p x.pool) Q)))
theorem DH.close {p : Nat} {s : SV} (h : DH w0 F M d x p s Q) : Holds w0 F M (star (DispA d x) Q) := by
 obtain ⟨r, ⟨r3, r4, rfl, a1, r5, r6, rfl, a2, r7, r8, rfl, a3, a4⟩, a5⟩ := h
 exact ⟨_, ⟨r3 ++ (r5 ++ r7), r8, by simp, ⟨p, s, r3, _, rfl, a1, r5, _, rfl, a2, a3⟩, a4⟩, a5⟩
end
end
end Go.Proofs.YtodobkbnmjgkdaaGreat.HL
namespace Go.Proofs.YtodobkbnmjgkdaaGreat.HL
open Go.RowKit (Below)
open Go.Proofs
section
variable {w0 : World} {F M : Mem} {R : VP} {os : Obs} {t bh bi ma : Nat} {hp ip : PS V3} {Q : Asn}
theorem SPut_ok {a g c : Int} {v : V3} {oa : Obj} {m : Int → Option RefK} {x : Nat} (oT : Own w0 F t (tbV bh bi ma) tTb) (h : HO w0 F M ((ma, oa) :: os) (star (PsH bh hp) (star (PsT bi ip) Q))) (hb : hp.l.length ≤ 100000) (hw : hp.find a g = some v)
  (hok : ip.Ok) (hbi : ip.l.length ≤ 10000) (hfb : ip.free.length ≤ 10000) (hlen : ip.free.length ≤ ip.l.length) (hgi : ∀ x ∈ ip.l, 0 ≤ x.g ∧ x.g ≤ 1000000) (hat : ip.at_ = some x) (hroom : ((ip.l.length - ip.free.length : Nat) : Int) ≠ ip.most) (hf : MapF (Value.int .i64) refK m oa) (hno : m c = none)
  (hK : ∀ M' oa', MapF (Value.int .i64) refK (updM m c (some ((x : Int), ip.gen x))) oa' → HO w0 F M' ((ma, oa') :: os) (star (PsH bh hp) (star (PsT bi (ip.take z3 x (c, a, g))) Q)) → R (.tuple #[.agg #[.int .i64 (x : Int), .int .i64 (ip.gen x)], .int .i64 0]) M') :
  C PP w0 Id.sT_Put #[.pointer (some ⟨t, 0, none⟩), .agg #[.int .i64 a, .int .i64 g], .int .i64 c] R M := by
 apply sT_Put.go
 unfold sT_Put.T nfz
 refine nwA h fun b1 F1 M1 l1 lm1 o1 h1 => ?_
 have oT1 := oT.le l1
 refine nwB h1 fun b3 M1' l1' h1' => ?_
 simp only [nc_v, Tb0 oT1 h1'.fr, ob_v, sP_v, lB_ gRef (o1.le h1'.fr), sA_, sC_, zI_, zN_]
 obtain ⟨inf, hi, hz, _⟩ := W.e33
 refine ⟨?_, ?_⟩
 rotate_left
 refine nwB h1' fun b2 M2 l2 h2 => ?_
 refine ⟨Tb0 oT1 h2.fr, lB_ gRef (o1.le h2.fr), ?_⟩
 refine GetH1 h2.h.right.right hb hw fun M3 l3 => ?_
 simp only [sT_v, sC_, sA_, zI_, zN_]
 refine stF gHeap (by rfl) one3 (h2.le l3) fun F2 M4 l4 o4 h4 => ?_
 rotate_left
 refine GetH1 h1'.h.right hb hw fun M3 l3 => ?_
 simp only [sT_v, sC_, sA_, zI_, zN_]
 refine boxF gHeap (by rfl) one3 (h1'.le l3) fun b2 F2 M4 l4 o4 h4 => ?_
 all_goals
  rw [bs_bne, if_pos rfl]
  have oT2 := oT1.le l4
  have hlk := (lkF (k := c) Tryz.underlying154 intK_ok hi hz (h4.get List.mem_cons_self).1 (h4.get List.mem_cons_self).2 hf).2
  rw [hno] at hlk
  simp only [Option.map_none, Option.getD_none, Option.isSome_none] at hlk
  simp only [nc_v, add_eq, Nat.zero_add, Tb2 oT2 h4.fr, ob_v, hlk, sT_v, sC_, sA_, zI_, shB_v, zN_]
  refine boxF gRef (by rfl) one2 h4 fun b6 F3 M5 l5 o5 h5 => ?_
  have oT3 := oT2.le l5
  simp only [nc_v, add_eq, Nat.zero_add, Tb1 oT3 h5.fr, ob_v, sP_v]
  refine LenT_ok h5.h.right.right (by omega) hlen ?_
  rw [zI_]
  refine ⟨Tb1 oT3 h5.fr, ?_⟩
  refine PlacesT_ok h5.h.right.right ?_
  rw [zI_, bQ_, if_neg hroom, bF_]
  have o1' := o1.le (Mem.le_trans l4 l5)
  simp only [nc_v, add_eq, Nat.zero_add, Tb1 oT3 h5.fr, ob_v, sP_v, lB_ gRef (o1'.le h5.fr), sA_, sC_, zI_, zN_]
  have hbld : (std PP w0).bld 153 [(0, .int .i64 c), (1, .agg #[.int .i64 a, .int .i64 g])] = some (.agg #[.int .i64 c, .int .i64 a, .int .i64 g]) := by kernel_rfl
  simp only [hbld, ob_v, sA_, sC_, zI_, zN_]
  refine ⟨?_, ?_⟩
  rotate_left
  refine nwB h5 fun b7 M6 l6 h6 => ?_
  refine ⟨Tb1 oT3 h6.fr, lB_ gRef (o1'.le h6.fr), ?_⟩
  obtain ⟨F4, hB, l7, back⟩ := h6.foc3
  refine TakeT_ok (v := (c, a, g)) hB hok hbi hfb hgi hat fun M7 hC => ?_
  have h7 := back M7 _ hC
  simp only [sT_v, sC_, sA_, zI_, shB_v, zN_]
  refine stF gRef (by rfl) one2 h7 fun F5 M8 l8 o8 h8 => ?_
  rotate_left
  obtain ⟨F4, hB, l7, back⟩ := h5.foc2
  refine TakeT_ok (v := (c, a, g)) hB hok hbi hfb hgi hat fun M7 hC => ?_
  have h7 := back M7 _ hC
  simp only [sT_v, sC_, sA_, zI_, shB_v, zN_]
  refine boxF gRef (by rfl) one2 h7 fun b7 F5 M8 l8 o8 h8 => ?_
  all_goals
   simp only [nc_v, add_eq, Nat.zero_add, Tb2 (oT3.le l8) h8.fr, ob_v, lB_ gRef (o8.le h8.fr), sA_, sC_, zI_, zN_]
   obtain ⟨g1, g2⟩ := h8.get List.mem_cons_self
   refine mupF (kf := Value.int .i64) (vf := refK) (k := c) (v := ((x : Int), ip.gen x)) Tryz.underlying154 intK_ok g1 g2 hf fun oa' hf' => ?_
   have h9 := h8.set (o' := oa')
   generalize Mem.set M8 ma _ = M9 at h9 ⊢
   simp only [lB_ gRef (o8.le h9.fr), ob_v, sA_, sC_, zI_, zN_]
   refine resB (K := fun v M => R (.tuple #[v, .int .i64 0]) M) gRef (by rfl) one2 h9 fun M10 h10 => ?_
   exact hK M10 oa' hf' ((((h10.uF_ l8).uF_ l5).uF_ l4).uF_ l1)
theorem SMake_ok {k : Int} {x : Nat} (oT : Own w0 F t (tbV bh bi ma) tTb) (h : HO w0 F M os (star (PsH bh hp) Q)) (hk : 1 ≤ k ∧ k ≤ 5) (hok : hp.Ok) (hb : hp.l.length ≤ 10000) (hfb : hp.free.length ≤ 10000) (hg : ∀ x ∈ hp.l, 0 ≤ x.g ∧ x.g ≤ 1000000) (hat : hp.at_ = some x)
  (hK : ∀ M', HO w0 F M' os (star (PsH bh (hp.take z3 x (k, -1, 0))) Q) → R (.tuple #[.agg #[.int .i64 (x : Int), .int .i64 (hp.gen x)], .int .i64 0]) M') :
  C PP w0 Id.sT_Make #[.pointer (some ⟨t, 0, none⟩), .int .i64 k] R M := by
 apply sT_Make.go
 unfold sT_Make.T nfz
 refine nwB h fun b1 M1 l1 h1 => ?_
 refine kRight_ok ?_
 rw [shB_v, decide_eq_true hk, Bool.not_true, bF_]
 have hbld : (std PP w0).bld 149 [(0, .int .i64 k), (1, .int .i64 (-1))] = some (.agg #[.int .i64 k, .int .i64 (-1), .int .i64 0]) := by kernel_rfl
 simp only [nc_v, Tb0 oT h1.fr, ob_v, sP_v, hbld, sA_, sC_, zI_, zN_]
 obtain ⟨F2, hB, l2, back⟩ := h1.foc1
 refine TakeH_ok (v := (k, -1, 0)) hB hok hb hfb hg hat fun M2 hC => ?_
 have h2 := back M2 _ hC
 simp only [sT_v, sC_, sA_, zI_, shB_v, zN_]
 refine boxF gRef (by rfl) one2 h2 fun b3 F3 M3 l3 o3 h3 => ?_
 rw [Bool.not_true, bF_]
 simp only [lB_ gRef (o3.le h3.fr), ob_v, sA_, sC_, zI_, zN_]
 refine resB (K := fun v M => R (.tuple #[v, .int .i64 0]) M) gRef (by rfl) one2 h3 fun M5 h5 => ?_
 exact hK M5 (h5.uF_ l3)
def ofHeap (ip : PS V3) (a g : Int) : List Ent := ip.refs.filter fun r => match ip.find r.1 r.2 with
 | some v => decide (v.2.1 = a ∧ v.2.2 = g)
 | none => false
theorem refs_find {ip : PS V3} (hg : ∀ x ∈ ip.l, 0 ≤ x.g ∧ x.g ≤ 1000000) (hg1 : ∀ x ∈ ip.l, x.t = true → 1 ≤ x.g) {r : Ent} (hr : r ∈ ip.refs) : ∃ v, ip.find r.1 r.2 = some v := by
 obtain ⟨j, x, h1, h2, rfl⟩ := refsG_mem.1 hr
 refine ⟨x.v, ?_⟩
 simp only [Nat.zero_add]
 refine PS.find_of (v := x.v) ?_ (hg1 x (List.mem_of_getElem? h1) h2)
 rw [h1, ← h2]
theorem SList_ok {a g : Int} (oT : Own w0 F t (tbV bh bi ma) tTb) (h : HO w0 F M os (star (PsT bi ip) Q)) (hb : ip.l.length ≤ 10000) (hg : ∀ x ∈ ip.l, 0 ≤ x.g ∧ x.g ≤ 1000000) (hg1 : ∀ x ∈ ip.l, x.t = true → 1 ≤ x.g)
  (hK : ∀ M' s', HO w0 F M' os (star (Es s' (ofHeap ip a g)) (star (PsT bi ip) Q)) → R s'.v M') :
  C PP w0 Id.sT_List #[.pointer (some ⟨t, 0, none⟩), .agg #[.int .i64 a, .int .i64 g]] R M := by
 apply sT_List.go
 intro pts H
 unfold sT_List.T nfz
 refine nwA h fun b1 F1 M1 l1 lm1 o1 h1 => ?_
 have oT1 := oT.le l1
 simp only [nc_v, add_eq, Nat.zero_add, Tb1 oT1 h1.fr, ob_v, sP_v]
 obtain ⟨F2, hB, l2, back⟩ := h1.foc0
 refine AllT_ok hB (by omega) fun M2 s2 lm2 h2 => ?_
 rw [shS_sv]
 have h2' := back M2 _ h2
 have hrl := refsG_len ip.l 0
 change (ip.refs).length ≤ _ at hrl
 have hsn := h2.rdE.len
 have key : ∀ (B A : List Ent) (s : SV) (F3 M3 : Mem) (k : Nat), ip.refs = A ++ B → Mem.le F1 F3 → HO w0 F3 M3 os (star (Es s2 ip.refs) (star (Es s (A.filter fun r => match ip.find r.1 r.2 with
   | some v => decide (v.2.1 = a ∧ v.2.2 = g)
   | none => false)) (star (PsT bi ip) Q))) → B.length < k → sT_List.L1 pts k (some ⟨t, 0, none⟩) ⟨b1, 0, none⟩ s s2 ((s2.n : Nat) : Int) (A.length : Int) M3 := by
  intro B
  induction B with
  | nil =>
   intro A s F3 M3 k he l3 h3 hk
   obtain ⟨k, rfl⟩ : ∃ j, k = j + 1 := ⟨k - 1, by omega⟩
   rw [List.append_nil] at he
   refine Eq.mpr (H.L1 ..) ?_
   unfold sT_List.L1.T nfz
   rw [bD_, if_neg (by rw [hsn, he]; omega)]
   rw [← he] at h3
   exact hK M3 s (((h3.mapH fun h => h.right).uF_ l3).uF_ l1)
  | cons r B ih =>
   intro A s F3 M3 k he l3 h3 hk
   obtain ⟨k, rfl⟩ : ∃ j, k = j + 1 := ⟨k - 1, by omega⟩
   have ll := congrArg List.length he
   simp only [List.length_append, List.length_cons] at ll hk
   have hget : (ip.refs)[A.length]? = some r := by rw [he]; simp
   obtain ⟨v, hv⟩ := refs_find hg hg1 (show r ∈ ip.refs by rw [he]; simp)
   refine Eq.mpr (H.L1 ..) ?_
   unfold sT_List.L1.T nfz
   rw [bD_, if_pos (by omega)]
   refine rdRf (x := r) h3.h.rdE (Mem.le_refl _) A.length rfl hget ?_
   refine boxF gRef (by rfl) one2 h3 fun b4 F4 M4 l4 o4 h4 => ?_
   have oT4 := (oT1.le l3).le l4
   simp only [nc_v, add_eq, Nat.zero_add, Tb1 oT4 h4.fr, ob_v, sP_v, lB_ gRef (o4.le h4.fr), sA_, sC_, zI_, zN_]
   have hGA : ∀ {M' : Mem} {X : Asn}, HO w0 F4 M' os (star (Es s2 ip.refs) (star X (star (PsT bi ip) Q))) → Holds w0 F4 M' (star (PsT bi ip) Q) := fun h => h.h.right.right
   have o1' := o1.le (Mem.le_trans l3 l4)
   have nxt : ∀ (F6 M6 : Mem) (s6 : SV), Mem.le F1 F6 → HO w0 F6 M6 os (star (Es s2 ip.refs) (star (Es s6 ((A ++ [r]).filter fun r => match ip.find r.1 r.2 with
     | some v => decide (v.2.1 = a ∧ v.2.2 = g)
     | none => false)) (star (PsT bi ip) Q))) → sT_List.L1 pts k (some ⟨t, 0, none⟩) ⟨b1, 0, none⟩ s6 s2 ((s2.n : Nat) : Int) (w64 ((A.length : Int) + 1)) M6 := by
    intro F6 M6 s6 l6 h6
    rw [i64_succ (by omega)]
    have := ih (A ++ [r]) s6 F6 M6 k (by rw [he]; simp) l6 h6 (by omega)
    rw [List.length_append, List.length_singleton] at this
    exact this
   refine ⟨?_, ?_⟩
   rotate_left
   refine nwB h4 fun b5 M5 l5 h5 => ?_
   refine ⟨Tb1 oT4 h5.fr, lB_ gRef (o4.le h5.fr), ?_⟩
   refine GetT1 h5.h.right.right.right (by omega) hv fun M6 l6 => ?_
   simp only [sT_v, sC_, sA_, zI_, zN_]
   refine stF gThing (by rfl) one3 (h5.le l6) fun F7 M7 l7 o7 h7 => ?_
   rotate_left
   refine GetT1 (hGA h4) (by omega) hv fun M6 l6 => ?_
   simp only [sT_v, sC_, sA_, zI_, zN_]
   refine boxF gThing (by rfl) one3 (h4.le l6) fun b5 F7 M7 l7 o7 h7 => ?_
   all_goals
    simp only [add_eq, Nat.zero_add, ldSub (o := 1) (vs := [.int .i64 v.2.1, .int .i64 v.2.2]) gRef (o7.le h7.fr) (fun j u hj => by rw [Nat.add_comm]; exact hj), lB_ gRef ((o1'.le l7).le h7.fr), ob_v, sA_, sC_, zI_, zN_, eqRefU, shB_v]
    have lF : Mem.le F1 F7 := Mem.le_trans l3 (Mem.le_trans l4 l7)
    by_cases hc : v.2.1 = a ∧ v.2.2 = g
    ·rw [show (v.2.1 == a && v.2.2 == g) = true from by simp [hc.1, hc.2], bs_true]
     simp only [lB_ gRef ((o4.le l7).le h7.fr), ob_v, sA_, sC_, zI_, zN_]
     obtain ⟨F8, hB8, l8, back8⟩ := h7.foc1
     refine newRf hB8 _ _ fun M8 s8 l9 h8 => ?_
     rw [shS_sv]
     have hfl := List.length_filter_le (fun r : Ent => match ip.find r.1 r.2 with
      | some v => decide (v.2.1 = a ∧ v.2.2 = g)
      | none => false) A
     refine appRf h8.rot h8.rdE (by simp only [List.length_singleton]; omega) fun M9 s9 h9 => ?_
     rw [shS_sv]
     refine nxt F7 M9 s9 lF (back8 _ _ ?_)
     have e9 : (A ++ [r]).filter (fun r => match ip.find r.1 r.2 with
       | some v => decide (v.2.1 = a ∧ v.2.2 = g)
       | none => false) = (A.filter fun r => match ip.find r.1 r.2 with
       | some v => decide (v.2.1 = a ∧ v.2.2 = g)
       | none => false) ++ [r] := by
      rw [List.filter_append]
      congr 1
      rw [List.filter_cons_of_pos]
      ·rfl
      ·simp only [hv]; exact decide_eq_true hc
     rw [e9]
     exact h9.rot.right
    ·rw [show (v.2.1 == a && v.2.2 == g) = false from by
      rw [Bool.eq_false_iff]
      intro h9
      simp only [Bool.and_eq_true, beq_iff_eq] at h9
      exact hc h9, bF_]
     refine nxt F7 M7 s lF ?_
     have e9 : (A ++ [r]).filter (fun r => match ip.find r.1 r.2 with
       | some v => decide (v.2.1 = a ∧ v.2.2 = g)
       | none => false) = (A.filter fun r => match ip.find r.1 r.2 with
       | some v => decide (v.2.1 = a ∧ v.2.2 = g)
       | none => false) := by
      rw [List.filter_append]
      conv => rhs; rw [← List.append_nil (A.filter _)]
      congr 1
      rw [List.filter_cons_of_neg]
      ·rfl
      ·simp only [hv]; simp [hc]
     rw [e9]
     exact h7
 refine ⟨ip.refs.length + 1, key ip.refs [] ⟨none, 0, 0⟩ F1 M2 _ rfl (Mem.le_refl _) ?_ (by omega)⟩
 obtain ⟨F3, hB3, l3, back3⟩ := h2'.foc1
 exact back3 _ _ (Holds.nilSlk hB3)
end
end Go.Proofs.YtodobkbnmjgkdaaGreat.HL
namespace Go.Proofs.YtodobkbnmjgkdaaGreat.HL
open Go.RowKit (Below)
open Go.Proofs
def reh (ip : PS V3) (A : List Ent) (a g : Int) : PS V3 := { ip with l := ip.l.mapIdx fun j x => if ((j : Int), x.g) ∈ A then { x with v := (x.v.1, a, g) } else x }
theorem reh_get (ip : PS V3) (A : List Ent) (a g : Int) (j : Nat) : (reh ip A a g).l[j]? = (ip.l[j]?).map fun x => if ((j : Int), x.g) ∈ A then { x with v := (x.v.1, a, g) } else x := by
 unfold reh
 rw [List.getElem?_mapIdx]
theorem reh_len (ip : PS V3) (A : List Ent) (a g : Int) : (reh ip A a g).l.length = ip.l.length := by unfold reh; simp
theorem reh_nil (ip : PS V3) (a g : Int) : reh ip [] a g = ip := by
 unfold reh
 have : (ip.l.mapIdx fun j x => if ((j : Int), x.g) ∈ ([] : List Ent) then { x with v := (x.v.1, a, g) } else x) = ip.l := by
  apply List.ext_getElem?
  intro j
  rw [List.getElem?_mapIdx]
  simp
 rw [this]
theorem reh_find {ip : PS V3} {A : List Ent} {a g b k : Int} {v : V3} (h : ip.find b k = some v) : (reh ip A a g).find b k = some (if (b, k) ∈ A then (v.1, a, g) else v) := by
 obtain ⟨j, rfl, hj, hk⟩ := PS.find_some h
 refine PS.find_of ?_ hk
 rw [reh_get, hj, Option.map_some]
 by_cases hc : ((j : Int), k) ∈ A
 ·rw [if_pos hc, if_pos hc]
 ·rw [if_neg hc, if_neg hc]
theorem reh_mem {ip : PS V3} {A : List Ent} {a g : Int} {x : Plc V3} (h : x ∈ (reh ip A a g).l) : ∃ y ∈ ip.l, x.g = y.g ∧ x.t = y.t := by
 obtain ⟨j, hj⟩ := List.getElem?_of_mem h
 rw [reh_get] at hj
 cases hy : ip.l[j]? with
 | none => rw [hy] at hj; cases hj
 | some y =>
  rw [hy, Option.map_some] at hj
  refine ⟨y, List.mem_of_getElem? hy, ?_⟩
  split at hj <;> (cases hj; exact ⟨rfl, rfl⟩)
theorem reh_ok {ip : PS V3} {A : List Ent} {a g : Int} (h : ip.Ok) : (reh ip A a g).Ok := by
 refine ⟨h.nd, fun b hb => ?_⟩
 obtain ⟨x, hx, ht⟩ := h.fr b hb
 rw [reh_get, hx, Option.map_some]
 refine ⟨_, rfl, ?_⟩
 split
 ·exact ht
 ·exact ht
theorem reh_pl (ip : PS V3) (A : List Ent) (a g : Int) : (reh ip A a g).pl = ip.pl := by
 have key : ∀ {β : Type} (f : Plc V3 → β), (∀ x v, f { x with v := v } = f x) → (reh ip A a g).l.map f = ip.l.map f := by
  intro β f hf
  apply List.ext_getElem?
  intro j
  rw [List.getElem?_map, List.getElem?_map, reh_get]
  cases ip.l[j]? with
  | none => rfl
  | some x =>
   simp only [Option.map_some]
   split
   ·rw [hf]
   ·rfl
 unfold PS.pl
 rw [key (·.g) (fun _ _ => rfl), key (·.t) (fun _ _ => rfl), key (fun _ => (0 : Int)) (fun _ _ => rfl)]
 rfl
theorem refsG_nd {κ : Type} : ∀ (l : List (Plc κ)) (i : Nat), (refsG i l).Pairwise fun a b => a.1 < b.1
 | [], i => List.Pairwise.nil
 | x :: l, i => by
  have ih := refsG_nd l (i + 1)
  simp only [refsG]
  split
  ·refine List.pairwise_cons.2 ⟨fun r hr => ?_, ih⟩
   obtain ⟨j, y, _, _, rfl⟩ := refsG_mem.1 hr
   show (i : Int) < ((i + 1 + j : Nat) : Int)
   omega
  ·exact ih
section
variable {w0 : World} {F M : Mem} {R : VP} {os : Obs} {t bh bi ma : Nat} {hp ip : PS V3} {Q : Asn}
theorem stPW {A : Asn} {b o : Nat} {cs vs : List Value} {T T' : TypeId} (hg : aggOf PP T vs.length = true) (ho : o + vs.length ≤ cs.length) (hone : ∀ v ∈ vs, onecell v = true) (h : HO w0 F M os (star (row1 b cs T') A)) {K : Mem → Prop} (hK : ∀ M', HO w0 F M' os (star (row1 b (over cs o vs) T') A) → K M') :
  (std PP w0).st T ⟨b, o, none⟩ (.agg vs.toArray) (fun M2 => K M2) M :=
 st_agg hg h.h.own1 ho hone (hK _ h.updRow)
theorem SJoin_ok {k a g b c : Int} {r1 n1 r2 n2 : Int} (oT : Own w0 F t (tbV bh bi ma) tTb) (h : HO w0 F M os (star (PsH bh hp) (star (PsT bi ip) Q))) (hb : hp.l.length ≤ 10000) (hfb : hp.free.length ≤ 10000) (hw : hp.find a g = some (k, r1, n1)) (hw2 : hp.find b c = some (k, r2, n2)) (hne : ¬ (a = b ∧ g = c))
  (hbi : ip.l.length ≤ 10000) (hgi : ∀ x ∈ ip.l, 0 ≤ x.g ∧ x.g ≤ 1000000) (hg1 : ∀ x ∈ ip.l, x.t = true → 1 ≤ x.g)
  (hK : ∀ M', HO w0 F M' os (star (PsH bh (hp.give z3 b.toNat)) (star (PsT bi (reh ip (ofHeap ip b c) a g)) Q)) → R (.int .i64 0) M') :
  C PP w0 Id.sT_Join #[.pointer (some ⟨t, 0, none⟩), .agg #[.int .i64 a, .int .i64 g], .agg #[.int .i64 b, .int .i64 c]] R M := by
 apply sT_Join.go
 intro pts H
 unfold sT_Join.T nfz
 refine nwA h fun b1 F1 M1 l1 lm1 o1 h1 => ?_
 refine nwA h1 fun b3 F2 M2 l2 lm2 o3 h2 => ?_
 have oT2 := (oT.le l1).le l2
 have o1' := o1.le l2
 have hrn := refsG_nd ip.l 0
 change (ip.refs).Pairwise _ at hrn
 have hof : (ofHeap ip b c).Pairwise fun x y => x.1 < y.1 := List.Pairwise.filter _ hrn
 have hofl : (ofHeap ip b c).length ≤ 10000 := Nat.le_trans (List.length_filter_le _ _) (Nat.le_trans (refsG_len ip.l 0) hbi)
 have key : ∀ (B A : List Ent) (s : SV) (F3 M3 : Mem) (kk : Nat), ofHeap ip b c = A ++ B → Mem.le F2 F3 → HO w0 F3 M3 os (star (Es s (ofHeap ip b c)) (star (PsH bh hp) (star (PsT bi (reh ip A a g)) Q))) → B.length < kk → sT_Join.L1 pts kk (some ⟨t, 0, none⟩) ⟨b1, 0, none⟩ ⟨b3, 0, none⟩ s ((s.n : Nat) : Int) (A.length : Int) M3 := by
  intro B
  induction B with
  | nil =>
   intro A s F3 M3 kk he l3 h3 hk
   obtain ⟨kk, rfl⟩ : ∃ j, kk = j + 1 := ⟨kk - 1, by omega⟩
   rw [List.append_nil] at he
   have hsn := h3.h.rdE.len
   refine Eq.mpr (H.L1 ..) ?_
   unfold sT_Join.L1.T nfz
   rw [bD_, if_neg (by rw [hsn, he]; omega)]
   simp only [nc_v, Tb0 (oT2.le l3) h3.fr, lB_ gRef ((o3.le l3).le h3.fr), ob_v, sP_v, sA_, sC_, zI_, zN_]
   obtain ⟨F4, hB, l4, back⟩ := h3.foc1
   refine GiveH_ok hB hb hfb hw2 fun M4 hC => ?_
   have h4 := back M4 _ hC
   simp only [sT_v, sA_, sC_, zI_, zN_]
   rw [← he] at h4
   exact hK M4 ((((h4.mapH fun h => h.right).uF_ l3).uF_ l2).uF_ l1)
  | cons r B ih =>
   intro A s F3 M3 kk he l3 h3 hk
   obtain ⟨kk, rfl⟩ : ∃ j, kk = j + 1 := ⟨kk - 1, by omega⟩
   have ll := congrArg List.length he
   simp only [List.length_append, List.length_cons] at ll hk
   have hsn := h3.h.rdE.len
   have hget : (ofHeap ip b c)[A.length]? = some r := by rw [he]; simp
   have hrm : r ∈ ofHeap ip b c := by rw [he]; simp
   obtain ⟨v, hv⟩ := refs_find hgi hg1 (List.mem_filter.1 hrm).1
   have hrA : ∀ x ∈ A, x.1 < r.1 := fun x hx => by
    rw [he] at hof
    exact (List.pairwise_append.1 hof).2.2 x hx r List.mem_cons_self
   have hrnA : (r.1, r.2) ∉ A := fun hm => by have := hrA _ hm; simp only at this; omega
   have hvA : (reh ip A a g).find r.1 r.2 = some v := by rw [reh_find hv, if_neg hrnA]
   have hlA : (reh ip A a g).l.length ≤ 100000 := by rw [reh_len]; omega
   refine Eq.mpr (H.L1 ..) ?_
   unfold sT_Join.L1.T nfz
   rw [bD_, if_pos (by omega)]
   refine rdRf (x := r) h3.h.rdE (Mem.le_refl _) A.length rfl hget ?_
   refine boxF gRef (by rfl) one2 h3 fun b4 F4 M4 l4 o4 h4 => ?_
   have oT4 := (oT2.le l3).le l4
   have o1'' := (o1'.le l3).le l4
   simp only [nc_v, add_eq, Nat.zero_add, Tb1 oT4 h4.fr, ob_v, sP_v, lB_ gRef (o4.le h4.fr), sA_, sC_, zI_, zN_]
   refine ⟨?_, ?_⟩
   rotate_left
   refine nwB h4 fun b5 M5 l5 h5 => ?_
   refine ⟨Tb1 oT4 h5.fr, lB_ gRef (o4.le h5.fr), ?_⟩
   refine GetT1 h5.h.right.right.right hlA hvA fun M6 l6 => ?_
   simp only [sT_v, sC_, sA_, zI_, zN_]
   refine stW gThing (by rfl) one3 (h5.le l6) fun M7 h7 => ?_
   rotate_left
   refine GetT1 h4.h.right.right hlA hvA fun M6 l6 => ?_
   simp only [sT_v, sC_, sA_, zI_, zN_]
   refine nwB (h4.le l6) fun b5 M5 l5 h5 => ?_
   refine stW gThing (by rfl) one3 h5 fun M7 h7 => ?_
   all_goals
    simp only [lB_ gRef (o1''.le h7.fr), add_eq, Nat.zero_add, ob_v, sA_, sC_, zI_, zN_]
    refine stPW (o := 1) gRef (by exact Nat.le_refl _) one2 h7 fun M8 h8 => ?_
    have hov : over [.int .i64 v.1, .int .i64 v.2.1, .int .i64 v.2.2] 1 [.int .i64 a, .int .i64 g] = [.int .i64 v.1, .int .i64 a, .int .i64 g] := by
     have := over_mid [.int .i64 v.1] [.int .i64 v.2.1, .int .i64 v.2.2] [] [.int .i64 a, .int .i64 g] rfl (o := 1) rfl
     simpa using this
    rw [hov] at h8
    simp only [nc_v, Tb1 oT4 h8.fr, lB_ gRef (o4.le h8.fr), lB_ gThing h8.h.own1, ob_v, sP_v, sA_, sC_, zI_, zN_]
    obtain ⟨F9, hB9, l9, back9⟩ := h8.foc3
    refine SetT_ok (v := (v.1, a, g)) hB9 hlA hvA fun M9 hC9 => ?_
    rw [zI_, i64_succ (by omega)]
    have h9 := back9 M9 _ hC9
    have hput : (reh ip A a g).put r.1.toNat (v.1, a, g) = reh ip (A ++ [r]) a g := by
     obtain ⟨j, hj, hjl, hj1⟩ := PS.find_some hv
     obtain ⟨j2, hj2, hjl2, _⟩ := PS.find_some hvA
     have hjj : r.1.toNat = j := by rw [hj]; exact Int.toNat_natCast j
     have hj22 : j2 = j := by omega
     subst hj22
     unfold PS.put
     rw [hjj, hjl2]
     show ({ reh ip A a g with l := (reh ip A a g).l.set j2 ⟨r.2, true, (v.1, a, g)⟩ } : PS V3) = _
     have hl : (reh ip A a g).l.set j2 ⟨r.2, true, (v.1, a, g)⟩ = (reh ip (A ++ [r]) a g).l := by
      apply List.ext_getElem?
      intro i
      by_cases hi : j2 = i
      ·subst hi
       rw [List.getElem?_set_self (List.getElem?_eq_some_iff.1 hjl2).1, reh_get, hjl, Option.map_some, if_pos (by
        have : ((j2 : Int), r.2) = r := Prod.ext hj.symm rfl
        rw [this]; simp)]
      ·rw [List.getElem?_set_ne hi, reh_get, reh_get]
       cases hx : ip.l[i]? with
       | none => rfl
       | some x =>
        simp only [Option.map_some]
        have : ((i : Int), x.g) ∈ A ++ [r] ↔ ((i : Int), x.g) ∈ A := by
         rw [List.mem_append, List.mem_singleton]
         constructor
         ·rintro (h | h)
          ·exact h
          ·have := congrArg Prod.fst h
           simp only at this
           omega
         ·exact .inl
        by_cases hc : ((i : Int), x.g) ∈ A
        ·rw [if_pos hc, if_pos (this.2 hc)]
        ·rw [if_neg hc, if_neg (fun h => hc (this.1 h))]
     rw [hl]; rfl
    rw [hput] at h9
    have := ih (A ++ [r]) s F4 M9 kk (by rw [he]; simp) (Mem.le_trans l3 l4) (h9.mapH fun h => h.right) (by omega)
    rw [List.length_append, List.length_singleton] at this
    exact this
 simp only [nc_v, Tb0 oT2 h2.fr, ob_v, sP_v, lB_ gRef (o1'.le h2.fr), sA_, sC_, zI_, zN_]
 refine ⟨?_, ?_⟩
 rotate_left
 refine nwB h2 fun b4 M4 l4 h4 => ?_
 refine ⟨Tb0 oT2 h4.fr, lB_ gRef (o1'.le h4.fr), ?_⟩
 refine GetH1 h4.h.right (by omega) hw fun M5 l5 => ?_
 simp only [sT_v, sC_, sA_, zI_, zN_]
 refine stF gHeap (by rfl) one3 (h4.le l5) fun F6 M6 l6 o6 h6 => ?_
 rotate_left
 refine GetH1 h2.h (by omega) hw fun M5 l5 => ?_
 simp only [sT_v, sC_, sA_, zI_, zN_]
 refine boxF gHeap (by rfl) one3 (h2.le l5) fun b4 F6 M6 l6 o6 h6 => ?_
 all_goals
  rw [bs_bne, if_pos rfl]
  have oT6 := oT2.le l6
  have o1x := o1'.le l6
  have o3x := o3.le l6
  simp only [nc_v, Tb0 oT6 h6.fr, ob_v, sP_v, lB_ gRef (o3x.le h6.fr), sA_, sC_, zI_, zN_]
  refine ⟨?_, ?_⟩
  rotate_left
  refine nwB h6 fun b7 M7 l7 h7 => ?_
  refine ⟨Tb0 oT6 h7.fr, lB_ gRef (o3x.le h7.fr), ?_⟩
  refine GetH1 h7.h.right (by omega) hw2 fun M8 l8 => ?_
  simp only [sT_v, sC_, sA_, zI_, zN_]
  refine stF gHeap (by rfl) one3 (h7.le l8) fun F9 M9 l9 o9 h9 => ?_
  rotate_left
  refine GetH1 h6.h (by omega) hw2 fun M8 l8 => ?_
  simp only [sT_v, sC_, sA_, zI_, zN_]
  refine boxF gHeap (by rfl) one3 (h6.le l8) fun b7 F9 M9 l9 o9 h9 => ?_
  all_goals
   rw [bs_bne, if_pos rfl]
   have oT9 := oT6.le l9
   have o1y := o1x.le l9
   have o3y := o3x.le l9
   simp only [lB_ gRef (o1y.le h9.fr), lB_ gRef (o3y.le h9.fr), ob_v, sA_, sC_, zI_, zN_, eqRefU, shB_v]
   have hne' : (a == b && g == c) = false := by
    rw [Bool.eq_false_iff]
    intro h0
    simp only [Bool.and_eq_true, beq_iff_eq] at h0
    exact hne h0
   rw [hne', bF_]
   simp only [ld1 W.c3 ((o6.le l9).le h9.fr) (o := 0) rfl, ld1 W.c3 (o9.le h9.fr) (o := 0) rfl, ob_v, zI_]
   rw [bs_bne, if_pos rfl]
   have lF9 : Mem.le F2 F9 := Mem.le_trans l6 l9
   refine SList_ok oT9 (h9.mapH fun h => h.rot) hbi hgi hg1 fun M10 s10 h10 => ?_
   rw [shS_sv]
   refine ⟨(ofHeap ip b c).length + 1, key (ofHeap ip b c) [] s10 F9 M10 _ rfl lF9 ?_ (by omega)⟩
   rw [reh_nil]
   obtain ⟨F11, hB11, l11, back11⟩ := h10.foc1
   exact back11 _ _ hB11.rot
theorem MeterBegin_ok {a : Nat} {α : AS} (hA : Holds w0 F M (arenaA a α)) (h : ∀ p, (∀ K : VP, (∀ M' β, Holds w0 F M' (arenaA a β) → AS.Sm 0 α β → K (.tuple #[]) M') → C PP w0 Id.mM_Begin #[.pointer p] K M) → R (.pointer p) M) : C PP w0 Id.aA_Meter #[.pointer (some ⟨a, 0, none⟩)] R M := by
 obtain ⟨r, ⟨hi, bL, bM, sf, cs, rf, rfl, hc, hs⟩, hf⟩ := hA
 have e3 : rd w0 M ⟨a, 3, none⟩ = some (.pointer (some ⟨bM, 0, none⟩)) := by
  rw [rd_own (hf.own (b := a) (cs := arR bL α.n α.never sf bM) (e := 145) List.mem_cons_self)]; rfl
 apply aA_Meter.go
 unfold aA_Meter.T nfz
 simp only [go_sem, add_eq, Nat.zero_add, e3]
 refine h _ fun K hK => ?_
 have om : Own w0 M bM (meterR α.steps α.begun α.most) 163 := hf.own (by simp)
 have m0 : rd w0 M ⟨bM, 0, none⟩ = some (.int .i64 α.steps) := rd_own (o := 0) om
 have m1 : rd w0 M ⟨bM, 1, none⟩ = some (.int .i64 α.begun) := rd_own (o := 1) om
 have m2 : rd w0 M ⟨bM, 2, none⟩ = some (.int .i64 α.most) := rd_own (o := 2) om
 apply mM_Begin.go
 unfold mM_Begin.T nfz
 simp only [go_sem, add_eq, Nat.zero_add, m0]
 apply mM_Most.go
 unfold mM_Most.T nfz
 simp only [go_sem, add_eq, Nat.zero_add, m2]
 apply mM_Spent.go
 unfold mM_Spent.T nfz
 simp only [go_sem, add_eq, Nat.zero_add, m0, m1, m2, true_and]
 refine st_one W.c2 om (by simp) rfl rfl ?_
 generalize (if w64 (α.steps - α.begun) > α.most then w64 (α.steps - α.begun) else α.most) = mo
 have h1 := hf.perm (r' := (bM, meterR α.steps α.begun α.most, 163) :: (a, arR bL α.n α.never sf bM, 145) :: (bL, cs, 251) :: rf) (List.perm_middle (l₁ := [_, _]))
 have h2 := h1.upd (cs' := meterR α.steps α.begun mo) (e' := 163)
 refine st_one (cs := meterR α.steps α.begun mo) W.c2 (h2.own List.mem_cons_self) (by simp) rfl rfl ?_
 have h3 := h2.upd (cs' := meterR α.steps α.steps mo) (e' := 163)
 refine hK _ { α with begun := α.steps, most := mo } ⟨_, ⟨⟨hi.n, hi.never, hi.free, hi.live, hi.nd, hi.len, hi.steps⟩, bL, bM, sf, cs, rf, rfl, ⟨hc.len, hc.f, hc.t⟩, hs⟩, h3.perm (List.perm_middle (l₁ := [_, _])).symm⟩ ⟨rfl, rfl, rfl, rfl, rfl, fun h => ⟨h.2, by show α.steps ≤ α.steps; omega, by show α.steps ≤ _; omega⟩⟩
theorem MeterSteps1 {a : Nat} {α : AS} (hA : Holds w0 F M (arenaA a α)) (h : ∀ p, (∀ K : VP, K (.int .i64 α.steps) M → C PP w0 Id.mM_Steps #[.pointer p] K M) → R (.pointer p) M) : C PP w0 Id.aA_Meter #[.pointer (some ⟨a, 0, none⟩)] R M := by
 obtain ⟨bL, bM, sf, cs, hs, hn⟩ := hA.seen
 apply aA_Meter.go
 unfold aA_Meter.T nfz
 simp only [go_sem, add_eq, Nat.zero_add, hs.r3]
 exact h _ fun K hK => Steps_ok hs.m hK
end
end Go.Proofs.YtodobkbnmjgkdaaGreat.HL
namespace Go.Proofs.YtodobkbnmjgkdaaGreat.HL
structure QS where
 most : Int
 next : Int
 α : AS
 hp : PS V3
 ip : PS V3
 at_ : Int → Option RefK
 en : RefK → Option Ent
structure Itm where
 r : RefK
 h : RefK
 c : Nat
 e : Ent
def Itm.held (x : Itm) : Held := (x.c, x.e)
structure Hv where
 h : RefK
 k : Int
 root : Int
 N : List Nat
def hlI (I : List Itm) (h : RefK) : List Held := (I.filter fun x => decide (x.h = h)).map Itm.held
def celH (I : List Itm) (y : Hv) : List Nat := celK (hlI I y.h) y.N
structure HsOk (α : AS) (I : List Itm) (H : List Hv) : Prop where
 kh : ∀ y ∈ H, KH y.k α y.root (hlI I y.h) y.N
 d1 : ∀ y ∈ H, ∀ y' ∈ H, y.h ≠ y'.h → ∀ c ∈ celH I y, c ∉ celH I y'
structure QInv (S : QS) (I : List Itm) (H : List Hv) (tm : Int) : Prop where
 m1 : 1 ≤ S.most
 m2 : S.most ≤ 300
 an : (S.α.n : Int) = 2 * S.most
 al : S.α.len = 2 * I.length
 inv : S.α.Inv
 ho : S.hp.Ok
 io : S.ip.Ok
 hl : S.hp.l.length = S.hp.free.length + H.length
 il : S.ip.l.length = S.ip.free.length + I.length
 hm : S.hp.most = 64
 im : S.ip.most = S.most
 hll : S.hp.l.length ≤ 64
 ill : (S.ip.l.length : Int) ≤ S.most
 hg : ∀ x ∈ S.hp.l, 0 ≤ x.g ∧ x.g ≤ tm
 ig : ∀ x ∈ S.ip.l, 0 ≤ x.g ∧ x.g ≤ tm
 hg1 : ∀ x ∈ S.hp.l, x.t = true → 1 ≤ x.g
 ig1 : ∀ x ∈ S.ip.l, x.t = true → 1 ≤ x.g
 tm0 : 0 ≤ tm
 hf : ∀ y ∈ H, S.hp.find y.h.1 y.h.2 = some (y.k, y.root, ((hlI I y.h).length : Int))
 jf : ∀ x ∈ I, S.ip.find x.r.1 x.r.2 = some ((x.c : Int), x.h.1, x.h.2)
 hnd : (H.map (·.h)).Nodup
 ind : (I.map (·.r)).Nodup
 icd : (I.map (·.c)).Nodup
 ih : ∀ x ∈ I, ∃ y ∈ H, y.h = x.h
 at1 : ∀ x ∈ I, S.at_ (x.c : Int) = some x.r
 at2 : ∀ c r, S.at_ c = some r → ∃ x ∈ I, (x.c : Int) = c
 en1 : ∀ x ∈ I, S.en x.r = some x.e
 hs : HsOk S.α I H
 nx : 0 ≤ S.next ∧ S.next ≤ tm
theorem hlI_app (I J : List Itm) (h : RefK) : hlI (I ++ J) h = hlI I h ++ hlI J h := by unfold hlI; rw [List.filter_append, List.map_append]
theorem hlI_same {x : Itm} {h : RefK} (e : x.h = h) : hlI [x] h = [x.held] := by unfold hlI; simp [e]
theorem hlI_other {x : Itm} {h : RefK} (e : x.h ≠ h) : hlI [x] h = [] := by unfold hlI; simp [e]
theorem hlI_mem {I : List Itm} {h : RefK} {p : Held} : p ∈ hlI I h ↔ ∃ x ∈ I, x.h = h ∧ x.held = p := by
 unfold hlI
 constructor
 ·intro hp
  obtain ⟨x, hx, rfl⟩ := List.mem_map.1 hp
  obtain ⟨h1, h2⟩ := List.mem_filter.1 hx
  exact ⟨x, h1, by simpa using h2, rfl⟩
 ·rintro ⟨x, h1, h2, rfl⟩
  exact List.mem_map.2 ⟨x, List.mem_filter.2 ⟨h1, by simpa using h2⟩, rfl⟩
theorem hlI_mid (A B : List Itm) (x : Itm) : (hlI (A ++ x :: B) x.h).Perm (x.held :: hlI (A ++ B) x.h) := by
 rw [hlI_app, show x :: B = [x] ++ B from rfl, hlI_app [x] B, hlI_same rfl, hlI_app A B]
 exact List.perm_middle
theorem hlI_mid_other (A B : List Itm) (x : Itm) {h : RefK} (e : x.h ≠ h) : hlI (A ++ x :: B) h = hlI (A ++ B) h := by
 rw [hlI_app, show x :: B = [x] ++ B from rfl, hlI_app [x] B, hlI_other e, hlI_app A B, List.nil_append]
theorem hlI_len (I : List Itm) (h : RefK) : (hlI I h).length ≤ I.length := by
 unfold hlI
 rw [List.length_map]
 exact List.length_filter_le _ _
theorem nodup_mid {β : Type} {A B : List β} {x : β} (h : (A ++ x :: B).Nodup) : (A ++ B).Nodup ∧ x ∉ A ∧ x ∉ B := by
 have h1 := List.perm_middle.nodup_iff.1 h
 obtain ⟨h2, h3⟩ := List.nodup_cons.1 h1
 exact ⟨h3, fun hm => h2 (List.mem_append_left _ hm), fun hm => h2 (List.mem_append_right _ hm)⟩
section
variable {S : QS} {I : List Itm} {H : List Hv} {tm : Int}
theorem HsOk.sm {α β : AS} {j : Int} (h : HsOk α I H) (hs : AS.Sm j α β) : HsOk β I H := ⟨fun y hy => (h.kh y hy).sm hs, h.d1⟩
theorem QInv.sm {β : AS} {j : Int} (h : QInv S I H tm) (hs : AS.Sm j S.α β) (hi : β.Inv) : QInv { S with α := β } I H tm :=
 ⟨h.m1, h.m2, by show (β.n : Int) = _; rw [hs.n]; exact h.an, by show β.len = _; rw [AS.len_congr hs.never hs.live]; exact h.al, hi, h.ho, h.io, h.hl, h.il, h.hm, h.im, h.hll, h.ill, h.hg, h.ig, h.hg1, h.ig1, h.tm0, h.hf, h.jf, h.hnd, h.ind, h.icd, h.ih, h.at1, h.at2, h.en1, h.hs.sm hs, h.nx⟩
theorem QInv.later (h : QInv S I H tm) {tm' : Int} (ht : tm ≤ tm') : QInv S I H tm' :=
 ⟨h.m1, h.m2, h.an, h.al, h.inv, h.ho, h.io, h.hl, h.il, h.hm, h.im, h.hll, h.ill, fun x hx => ⟨(h.hg x hx).1, by have := (h.hg x hx).2; omega⟩, fun x hx => ⟨(h.ig x hx).1, by have := (h.ig x hx).2; omega⟩, h.hg1, h.ig1, by have := h.tm0; omega, h.hf, h.jf, h.hnd, h.ind, h.icd, h.ih, h.at1, h.at2, h.en1, h.hs, ⟨h.nx.1, by have := h.nx.2; omega⟩⟩
theorem QInv.len (h : QInv S I H tm) : (I.length : Int) ≤ S.most := by
 have := h.il
 have := h.ill
 omega
theorem QInv.item (h : QInv S I H tm) {x : Itm} (hx : x ∈ I) : ∃ y ∈ H, y.h = x.h ∧ x.held ∈ hlI I y.h ∧ x.c ∈ celH I y := by
 obtain ⟨y, hy, e⟩ := h.ih x hx
 have hm : x.held ∈ hlI I y.h := hlI_mem.2 ⟨x, hx, e.symm, rfl⟩
 exact ⟨y, hy, e, hm, List.mem_append_right _ (List.mem_map.2 ⟨x.held, hm, rfl⟩)⟩
theorem QInv.live (h : QInv S I H tm) {y : Hv} (hy : y ∈ H) : ∀ c ∈ celH I y, S.α.live c = true := (h.hs.kh y hy).live
theorem QInv.itemLive (h : QInv S I H tm) {x : Itm} (hx : x ∈ I) : S.α.live x.c = true := by
 obtain ⟨y, hy, _, _, hc⟩ := h.item hx
 exact h.live hy _ hc
theorem HsOk.step {α β : AS} {I' : List Itm} {A B : List Hv} {y y' : Hv} {Sx Lx : Nat → Prop} {d k : Int} (h : HsOk α I (A ++ y :: B)) (hn : ((A ++ y :: B).map (·.h)).Nodup) (hyh : y'.h = y.h)
  (hI : ∀ z ∈ A ++ B, hlI I' z.h = hlI I z.h) (hkh : KH y'.k β y'.root (hlI I' y'.h) y'.N) (he : AS.Eff Sx Lx d k α β) (hS : ∀ c, Sx c → c ∈ celH I y ∨ α.live c = false) (hL : ∀ c, Lx c → c ∈ celH I y ∨ α.live c = false) (hc : ∀ c ∈ celH I' y', c ∈ celH I y ∨ α.live c = false) : HsOk β I' (A ++ y' :: B) := by
 rw [List.map_append, List.map_cons] at hn
 obtain ⟨n1, n2, n3⟩ := nodup_mid hn
 have hne : ∀ z ∈ A ++ B, z.h ≠ y.h := fun z hz e => by
  rcases List.mem_append.1 hz with hz | hz
  ·exact n2 (List.mem_map.2 ⟨z, hz, e⟩)
  ·exact n3 (List.mem_map.2 ⟨z, hz, e⟩)
 have hold : ∀ z ∈ A ++ B, z ∈ A ++ y :: B := fun z hz => by
  rcases List.mem_append.1 hz with hz | hz <;> simp [hz]
 have hz : ∀ z, z ∈ A ++ y' :: B → z = y' ∨ z ∈ A ++ B := fun z hz => by
  rcases List.mem_append.1 hz with hz | hz
  ·exact .inr (by simp [hz])
  ·rcases List.mem_cons.1 hz with hz | hz
   ·exact .inl hz
   ·exact .inr (by simp [hz])
 have hcel : ∀ z ∈ A ++ B, celH I' z = celH I z := fun z hz => by unfold celH; rw [hI z hz]
 have hy : y ∈ A ++ y :: B := by simp
 have hap : ∀ z ∈ A ++ B, ∀ c ∈ celH I z, ¬ (c ∈ celH I y ∨ α.live c = false) := fun z hz c hc hcc => by
  rcases hcc with hcc | hcc
  ·exact h.d1 z (hold z hz) y hy (hne z hz) c hc hcc
  ·have := (h.kh z (hold z hz)).live c hc
   rw [hcc] at this; cases this
 refine ⟨fun z hzm => ?_, fun z hzm z' hzm' hzz c hcz hcz' => ?_⟩
 ·rcases hz z hzm with e0 | hzm
  ·rw [e0]; exact hkh
  ·rw [hI z hzm]
   exact (h.kh z (hold z hzm)).eff he (fun c hcz hs => hap z hzm c hcz (hS c hs)) (fun c hcz hs => hap z hzm c hcz (hL c hs))
 ·rcases hz z hzm with e0 | hzm
  ·rw [e0] at hcz hzz
   rcases hz z' hzm' with e1 | hzm'
   ·exact hzz (by rw [e1])
   ·rw [hcel z' hzm'] at hcz'
    exact hap z' hzm' c hcz' (hc c hcz)
  ·rw [hcel z hzm] at hcz
   rcases hz z' hzm' with e1 | hzm'
   ·rw [e1] at hcz'
    exact hap z hzm c hcz (hc c hcz')
   ·rw [hcel z' hzm'] at hcz'
    exact h.d1 z (hold z hzm) z' (hold z' hzm') hzz c hcz hcz'
end
theorem put_finds {p : PS V3} {A B : List Hv} {y y' : Hv} {I I' : List Itm} (hn : ((A ++ y :: B).map (·.h)).Nodup) (hyh : y'.h = y.h) (hf : ∀ z ∈ A ++ y :: B, p.find z.h.1 z.h.2 = some (z.k, z.root, ((hlI I z.h).length : Int))) (hI : ∀ z ∈ A ++ B, hlI I' z.h = hlI I z.h) :
  ∀ z ∈ A ++ y' :: B, (p.put y.h.1.toNat (y'.k, y'.root, ((hlI I' y'.h).length : Int))).find z.h.1 z.h.2 = some (z.k, z.root, ((hlI I' z.h).length : Int)) := by
 rw [List.map_append, List.map_cons] at hn
 obtain ⟨n1, n2, n3⟩ := nodup_mid hn
 have hy := hf y (by simp)
 obtain ⟨p1, p2⟩ := PS.find_put (y'.k, y'.root, ((hlI I' y'.h).length : Int)) hy
 intro z hz
 have hz' : z = y' ∨ z ∈ A ++ B := by
  rcases List.mem_append.1 hz with hz | hz
  ·exact .inr (by simp [hz])
  ·rcases List.mem_cons.1 hz with hz | hz
   ·exact .inl hz
   ·exact .inr (by simp [hz])
 rcases hz' with rfl | hz'
 ·rw [hyh]
  rw [hyh] at p1
  exact p1
 ·have hzo : z ∈ A ++ y :: B := by rcases List.mem_append.1 hz' with h | h <;> simp [h]
  have hzf := hf z hzo
  rw [hI z hz']
  refine p2 _ _ _ (fun e => ?_) hzf
  obtain ⟨j1, q1, q2, _⟩ := PS.find_some hzf
  obtain ⟨j2, q3, q4, _⟩ := PS.find_some hy
  have hj : j1 = j2 := by omega
  subst hj
  rw [q2] at q4
  have hg : z.h.2 = y.h.2 := by injection q4 with q4; injection q4
  have hzy : z.h = y.h := Prod.ext e hg
  rcases List.mem_append.1 hz' with h | h
  ·exact n2 (List.mem_map.2 ⟨z, h, hzy⟩)
  ·exact n3 (List.mem_map.2 ⟨z, h, hzy⟩)
section
variable {S : QS} {tm : Int}
theorem ip_ne {I : List Itm} (hn : (I.map (·.r)).Nodup) (hf : ∀ x ∈ I, S.ip.find x.r.1 x.r.2 = some ((x.c : Int), x.h.1, x.h.2)) {x z : Itm} (hx : x ∈ I) (hz : z ∈ I) (hne : z.r ≠ x.r) : z.r.1 ≠ x.r.1 := fun e => by
 obtain ⟨j1, q1, q2, _⟩ := PS.find_some (hf z hz)
 obtain ⟨j2, q3, q4, _⟩ := PS.find_some (hf x hx)
 have hj : j1 = j2 := by omega
 subst hj
 rw [q2] at q4
 have hg : z.r.2 = x.r.2 := by injection q4 with q4; injection q4
 exact hne (Prod.ext e hg)
theorem map_inj_nd {β γ : Type} {f : β → γ} : ∀ {l : List β}, (l.map f).Nodup → ∀ x ∈ l, ∀ y ∈ l, f x = f y → x = y
 | [], _, x, hx, _, _, _ => by cases hx
 | z :: l, hn, x, hx, y, hy, e => by
  rw [List.map_cons, List.nodup_cons] at hn
  rcases List.mem_cons.1 hx with h1 | h1 <;> rcases List.mem_cons.1 hy with h2 | h2
  ·rw [h1, h2]
  ·exact absurd (List.mem_map.2 ⟨y, h2, by rw [← e, h1]⟩) hn.1
  ·exact absurd (List.mem_map.2 ⟨x, h1, by rw [e, h2]⟩) hn.1
  ·exact map_inj_nd hn.2 x h1 y h2 e
theorem QInv.insert {I : List Itm} {A B : List Hv} {y : Hv} (h : QInv S I (A ++ y :: B) tm) {key : Int} {c n a : Nat} {α1 β : AS} {r' : Int} {N' : List Nat} {j1 : Int}
  (hc : S.α.next = some c) (hα1 : AS.Sm j1 ((S.α.take.put c 7 key).put c 8 S.next) α1) (hi1 : α1.Inv) (hn : α1.next = some n) (hnl : α1.live n = false) (hβ : β.Inv)
  (hkh : KH y.k β r' ((c, (key, S.next)) :: hlI I y.h) N') (hsub : ∀ x ∈ celK ((c, (key, S.next)) :: hlI I y.h) N', x = n ∨ x = c ∨ x ∈ celH I y) {j2 : Int} (heff : AS.Eff (fun x => x = n ∨ x = c ∨ x ∈ celH I y) (· = n) 1 j2 α1 β) (hat : S.ip.at_ = some a) (hlen : (I.length : Int) < S.most) :
  S.at_ (c : Int) = none ∧ QInv { most := S.most, next := S.next + 1, α := β, hp := S.hp.put y.h.1.toNat (y.k, r', ((hlI I y.h).length : Int) + 1), ip := S.ip.take z3 a ((c : Int), y.h.1, y.h.2), at_ := updM S.at_ (c : Int) (some ((a : Int), S.ip.gen a)), en := updM S.en ((a : Int), S.ip.gen a) (some (key, S.next)) }
   (I ++ [⟨((a : Int), S.ip.gen a), y.h, c, (key, S.next)⟩]) (A ++ { y with root := r', N := N' } :: B) (tm + 1) := by
 have hyM : y ∈ A ++ y :: B := by simp
 obtain ⟨c1, c2, c3⟩ := AS.next_some h.inv hc
 have hcno : ∀ x ∈ I, x.c ≠ c := fun x hx e => by have := h.itemLive hx; rw [e, c2] at this; cases this
 have hatc : S.at_ (c : Int) = none := by
  cases hm : S.at_ (c : Int) with
  | none => rfl
  | some r =>
   obtain ⟨x, hx, e⟩ := h.at2 _ _ hm
   exact absurd (by omega) (hcno x hx)
 refine ⟨hatc, ?_⟩
 have gl : ∀ x, α1.live x = if x = c then true else S.α.live x := fun x => by rw [hα1.live, show ((S.α.take.put c 7 key).put c 8 S.next).live = S.α.take.live from rfl, c3]; rfl
 have hnc : n ≠ c := fun e => by rw [e, gl, if_pos rfl] at hnl; cases hnl
 have hnl0 : S.α.live n = false := by rw [gl, if_neg hnc] at hnl; exact hnl
 have g1 := PS.gen_le h.ig h.tm0 a
 obtain ⟨t1, t2, t3, t4, t5, t6, t7⟩ := PS.take_l h.io hat z3 ((c : Int), y.h.1, y.h.2)
 obtain ⟨f1, f2⟩ := PS.find_take h.io hat z3 ((c : Int), y.h.1, y.h.2) g1.1
 have hrno : ∀ x ∈ I, x.r ≠ ((a : Int), S.ip.gen a) := fun x hx e => by
  have h1 := h.jf x hx
  rw [e] at h1
  rw [h.io.at_no hat] at h1; cases h1
 have e1 : AS.Eff (fun x => x = c) (· = c) 1 (0 + j1) S.α α1 := (((AS.take_eff (S := fun x => x = c) (L := (· = c)) h.inv hc rfl rfl).put (f := 7) (v := key) (c := c) rfl).put (f := 8) (v := S.next) (c := c) rfl).trans hα1.eff
 have e2 : AS.Eff (fun x => x = n ∨ x = c ∨ x ∈ celH I y) (fun x => x = n ∨ x = c) (1 + 1) (0 + j1 + j2) S.α β := (e1.mono (fun x hx => .inr (.inl hx)) (fun x hx => .inr hx) (Int.le_refl _)).trans (heff.mono (fun _ h => h) (fun x hx => .inl hx) (Int.le_refl _))
 have hI2 : ∀ z ∈ A ++ B, hlI (I ++ [⟨((a : Int), S.ip.gen a), y.h, c, (key, S.next)⟩]) z.h = hlI I z.h := fun z hz => by
  have hnd := h.hnd
  rw [List.map_append, List.map_cons] at hnd
  obtain ⟨n1, n2, n3⟩ := nodup_mid hnd
  rw [hlI_app, hlI_other, List.append_nil]
  intro e
  have e' : z.h = y.h := e.symm
  rcases List.mem_append.1 hz with h | h
  ·exact n2 (List.mem_map.2 ⟨z, h, e'⟩)
  ·exact n3 (List.mem_map.2 ⟨z, h, e'⟩)
 have hIy : hlI (I ++ [⟨((a : Int), S.ip.gen a), y.h, c, (key, S.next)⟩]) y.h = hlI I y.h ++ [(c, (key, S.next))] := by rw [hlI_app, hlI_same rfl]; rfl
 have hPy : ((c, (key, S.next)) :: hlI I y.h).Perm (hlI (I ++ [⟨((a : Int), S.ip.gen a), y.h, c, (key, S.next)⟩]) y.h) := by rw [hIy]; exact (List.perm_append_comm (l₁ := [_]))
 have hcel : ∀ x ∈ celH (I ++ [⟨((a : Int), S.ip.gen a), y.h, c, (key, S.next)⟩]) { y with root := r', N := N' }, x ∈ celH I y ∨ S.α.live x = false := fun x hx => by
  have := hsub x ((celK_perm hPy (List.Perm.refl N')).mem_iff.2 hx)
  rcases this with rfl | rfl | h1
  ·exact .inr hnl0
  ·exact .inr c2
  ·exact .inl h1
 have hpl := PS.put_l (p := S.hp) (a := y.h.1.toNat) (v := (y.k, r', ((hlI I y.h).length : Int) + 1)) (x := ⟨y.h.2, true, (y.k, y.root, ((hlI I y.h).length : Int))⟩) (by
  obtain ⟨j, q1, q2, _⟩ := PS.find_some (h.hf y hyM)
  rw [q1, Int.toNat_natCast]; exact q2)
 have hlen2 : (hlI (I ++ [⟨((a : Int), S.ip.gen a), y.h, c, (key, S.next)⟩]) y.h).length = (hlI I y.h).length + 1 := by rw [hIy, List.length_append]; rfl
 refine ⟨h.m1, h.m2, by show (β.n : Int) = _; rw [e2.n]; exact h.an, ?_, hβ, h.ho.put _ _, h.io.take hat _ _, ?_, ?_, by rw [hpl.2.2]; exact h.hm, by rw [t4]; exact h.im, ?_, ?_, fun x hx => ?_, fun x hx => ?_, fun x hx ht => ?_, fun x hx ht => ?_, by have := h.tm0; omega, ?_, fun x hx => ?_, ?_, ?_, ?_, fun x hx => ?_, fun x hx => ?_, fun k r hk => ?_, fun x hx => ?_, ?_, ?_⟩
 ·show β.len = _
  have := e2.len
  have := h.al
  rw [List.length_append, List.length_singleton]; omega
 ·rw [hpl.1, hpl.2.1, List.length_set, h.hl]; simp
 ·show (S.ip.take z3 a ((c : Int), y.h.1, y.h.2)).l.length = (S.ip.take z3 a ((c : Int), y.h.1, y.h.2)).free.length + _
  rw [List.length_append, List.length_singleton]
  have := h.il
  omega
 ·rw [hpl.1, List.length_set]; exact h.hll
 ·have h1 := h.ill
  have h2 := h.im
  rcases t7 with t7 | t7
  ·show ((S.ip.take z3 a ((c : Int), y.h.1, y.h.2)).l.length : Int) ≤ S.most
   omega
  ·show ((S.ip.take z3 a ((c : Int), y.h.1, y.h.2)).l.length : Int) ≤ S.most
   omega
 ·obtain ⟨z, hz, e⟩ := PS.mem_put hx
  have := h.hg z hz
  omega
 ·have := PS.mem_take hx
  have h0 := h.tm0
  rcases this with h1 | h1 | h1
  ·have := h.ig x h1; omega
  ·omega
  ·omega
 ·obtain ⟨jx, hjx⟩ := List.getElem?_of_mem hx
  rw [hpl.1] at hjx
  by_cases e : y.h.1.toNat = jx
  ·subst e
   have hl9 : y.h.1.toNat < S.hp.l.length := by
    have := (List.getElem?_eq_some_iff.1 hjx).1
    rwa [List.length_set] at this
   rw [List.getElem?_set_self hl9] at hjx
   cases hjx
   obtain ⟨j, q1, q2, q3⟩ := PS.find_some (h.hf y hyM)
   exact q3
  ·rw [List.getElem?_set_ne e] at hjx
   exact h.hg1 x (List.mem_of_getElem? hjx) ht
 ·obtain ⟨jx, hjx⟩ := List.getElem?_of_mem hx
  by_cases e : jx = a
  ·subst e
   rw [t1] at hjx
   cases hjx
   exact g1.1
  ·rw [t2 jx e] at hjx
   exact h.ig1 x (List.mem_of_getElem? hjx) ht
 ·have := put_finds (p := S.hp) (I' := I ++ [⟨((a : Int), S.ip.gen a), y.h, c, (key, S.next)⟩]) (y' := { y with root := r', N := N' }) h.hnd rfl h.hf hI2
  rw [show (({ y with root := r', N := N' } : Hv).h) = y.h from rfl, hlen2] at this
  exact this
 ·rcases List.mem_append.1 hx with hx | hx
  ·exact f2 _ _ _ (h.jf x hx)
  ·rw [List.mem_singleton.1 hx]; exact f1
 ·have := h.hnd
  simp only [List.map_append, List.map_cons] at this ⊢
  exact this
 ·rw [List.map_append, List.nodup_append]
  refine ⟨h.ind, by simp, fun u hu v hv e => ?_⟩
  obtain ⟨x, hx, rfl⟩ := List.mem_map.1 hu
  simp only [List.map_cons, List.map_nil, List.mem_singleton] at hv
  exact hrno x hx (e.trans hv)
 ·rw [List.map_append, List.nodup_append]
  refine ⟨h.icd, by simp, fun u hu v hv e => ?_⟩
  obtain ⟨x, hx, rfl⟩ := List.mem_map.1 hu
  simp only [List.map_cons, List.map_nil, List.mem_singleton] at hv
  exact hcno x hx (e.trans hv)
 ·rcases List.mem_append.1 hx with hx | hx
  ·obtain ⟨z, hz, e⟩ := h.ih x hx
   rcases List.mem_append.1 hz with hz | hz
   ·exact ⟨z, by simp [hz], e⟩
   ·rcases List.mem_cons.1 hz with rfl | hz
    ·exact ⟨{ z with root := r', N := N' }, by simp, e⟩
    ·exact ⟨z, by simp [hz], e⟩
  ·rw [List.mem_singleton.1 hx]
   exact ⟨{ y with root := r', N := N' }, by simp, rfl⟩
 ·show updM S.at_ (c : Int) _ (x.c : Int) = some x.r
  unfold updM
  rcases List.mem_append.1 hx with hx | hx
  ·rw [if_neg (fun e => hcno x hx (by omega))]; exact h.at1 x hx
  ·rw [List.mem_singleton.1 hx]
   simp only [if_true]
 ·have hk' : updM S.at_ (c : Int) (some ((a : Int), S.ip.gen a)) k = some r := hk
  unfold updM at hk'
  split at hk'
  ·rename_i e
   exact ⟨⟨((a : Int), S.ip.gen a), y.h, c, (key, S.next)⟩, by simp, e.symm⟩
  ·obtain ⟨x, hx, e⟩ := h.at2 _ _ hk'
   exact ⟨x, by simp [hx], e⟩
 ·show updM S.en _ _ x.r = some x.e
  unfold updM
  rcases List.mem_append.1 hx with hx | hx
  ·rw [if_neg (hrno x hx)]; exact h.en1 x hx
  ·rw [List.mem_singleton.1 hx]
   simp only [if_true]
 ·refine h.hs.step h.hnd rfl hI2 (hkh.perm hPy (List.Perm.refl _)) e2 (fun x hx => ?_) (fun x hx => ?_) hcel
  ·rcases hx with rfl | rfl | hx
   ·exact .inr hnl0
   ·exact .inr c2
   ·exact .inl hx
  ·rcases hx with rfl | rfl
   ·exact .inr hnl0
   ·exact .inr c2
 ·have := h.nx
  show 0 ≤ S.next + 1 ∧ S.next + 1 ≤ tm + 1
  omega
theorem QInv.remove {IA IB : List Itm} {x : Itm} {A B : List Hv} {y : Hv} (h : QInv S (IA ++ x :: IB) (A ++ y :: B) tm) (hxy : x.h = y.h) {β γ : AS} {r' : Int} {N' : List Nat} {L' : List Held} {n : Nat} {j j2 : Int}
  (hL : (hlI (IA ++ x :: IB) y.h).Perm (x.held :: L')) (hkh : KH y.k β r' L' N') (hless : Less L' N' (hlI (IA ++ x :: IB) y.h) y.N) (hxL : x.c ∉ celK L' N') (hn : n ∈ y.N) (heff : AS.Eff (fun c => c ∈ celH (IA ++ x :: IB) y) (· = n) (-1) j S.α β) (hβ : β.Inv) (hγ : AS.Sm j2 (β.giveI (x.c : Int)) γ) (hγi : γ.Inv) :
  QInv { S with α := γ, hp := S.hp.put y.h.1.toNat (y.k, r', ((hlI (IA ++ x :: IB) y.h).length : Int) - 1), ip := S.ip.give z3 x.r.1.toNat, at_ := updM S.at_ (x.c : Int) none, en := updM S.en x.r none }
   (IA ++ IB) (A ++ { y with root := r', N := N' } :: B) (tm + 1) := by
 have hyM : y ∈ A ++ y :: B := by simp
 have hxM : x ∈ IA ++ x :: IB := by simp
 have hold : ∀ z ∈ IA ++ IB, z ∈ IA ++ x :: IB := fun z hz => by rcases List.mem_append.1 hz with h | h <;> simp [h]
 have hnr := h.ind
 have hncd := h.icd
 rw [List.map_append, List.map_cons] at hnr hncd
 obtain ⟨nr1, nr2, nr3⟩ := nodup_mid hnr
 obtain ⟨nc1, nc2, nc3⟩ := nodup_mid hncd
 rw [← List.map_append] at nr1 nc1
 have hrne : ∀ z ∈ IA ++ IB, z.r ≠ x.r := fun z hz e => by
  rcases List.mem_append.1 hz with h | h
  ·exact nr2 (List.mem_map.2 ⟨z, h, e⟩)
  ·exact nr3 (List.mem_map.2 ⟨z, h, e⟩)
 have hcne : ∀ z ∈ IA ++ IB, z.c ≠ x.c := fun z hz e => by
  rcases List.mem_append.1 hz with h | h
  ·exact nc2 (List.mem_map.2 ⟨z, h, e⟩)
  ·exact nc3 (List.mem_map.2 ⟨z, h, e⟩)
 have hL2 : (hlI (IA ++ x :: IB) y.h).Perm (x.held :: hlI (IA ++ IB) y.h) := by rw [← hxy]; exact hlI_mid IA IB x
 have hLL : L'.Perm (hlI (IA ++ IB) y.h) := List.Perm.cons_inv (hL.symm.trans hL2)
 have hxc : x.c ∈ celH (IA ++ x :: IB) y := List.mem_append_right _ (List.mem_map.2 ⟨x.held, hlI_mem.2 ⟨x, hxM, hxy, rfl⟩, rfl⟩)
 have hyn := (h.hs.kh y hyM).nd
 have hxn : x.c ≠ n := fun e => (List.nodup_append.1 hyn).2.2 n hn x.c (List.mem_map.2 ⟨x.held, hlI_mem.2 ⟨x, hxM, hxy, rfl⟩, rfl⟩) e.symm
 have hxl : β.live x.c = true := by rw [heff.live _ hxn]; exact h.itemLive hxM
 have hgive : β.giveI (x.c : Int) = β.unlive x.c := AS.giveI_live hxl
 rw [hgive] at hγ
 have e2 : AS.Eff (fun c => c ∈ celH (IA ++ x :: IB) y) (fun c => c = n ∨ c = x.c) (-1 + -1 + 0) (j + 0 + j2) S.α γ :=
  ((heff.mono (fun _ h => h) (fun c hc => .inl hc) (Int.le_refl _)).trans (AS.unlive_eff hβ hxl (.inr rfl))).trans hγ.eff
 obtain ⟨ka, ka1, ka2, ka3⟩ := PS.find_some (h.jf x hxM)
 have hka : x.r.1.toNat = ka := by rw [ka1, Int.toNat_natCast]
 have hgl := PS.give_l (p := S.ip) z3 ka2
 have hpl := PS.put_l (p := S.hp) (a := y.h.1.toNat) (v := (y.k, r', ((hlI (IA ++ x :: IB) y.h).length : Int) - 1)) (x := ⟨y.h.2, true, (y.k, y.root, ((hlI (IA ++ x :: IB) y.h).length : Int))⟩) (by
  obtain ⟨j, q1, q2, _⟩ := PS.find_some (h.hf y hyM)
  rw [q1, Int.toNat_natCast]; exact q2)
 have hlen2 : (hlI (IA ++ x :: IB) y.h).length = (hlI (IA ++ IB) y.h).length + 1 := hL2.length_eq
 have hI2 : ∀ z ∈ A ++ B, hlI (IA ++ IB) z.h = hlI (IA ++ x :: IB) z.h := fun z hz => by
  have hnd := h.hnd
  rw [List.map_append, List.map_cons] at hnd
  obtain ⟨n1, n2, n3⟩ := nodup_mid hnd
  refine (hlI_mid_other IA IB x fun e => ?_).symm
  have e' : z.h = y.h := e.symm.trans hxy
  rcases List.mem_append.1 hz with h | h
  ·exact n2 (List.mem_map.2 ⟨z, h, e'⟩)
  ·exact n3 (List.mem_map.2 ⟨z, h, e'⟩)
 have hkh2 : KH y.k γ r' (hlI (IA ++ IB) y.h) N' := by
  refine ((hkh.eff (AS.unlive_eff (S := fun _ => False) (L := (· = x.c)) hβ hxl rfl) (fun _ _ h => h) (fun c hc e => hxL (by rw [← e]; exact hc))).sm hγ).perm hLL (List.Perm.refl _)
 have hcel : ∀ c ∈ celH (IA ++ IB) { y with root := r', N := N' }, c ∈ celH (IA ++ x :: IB) y ∨ S.α.live c = false := fun c hc => .inl (hless c ((celK_perm hLL (List.Perm.refl N')).mem_iff.2 hc))
 have hny : n ∈ celH (IA ++ x :: IB) y := List.mem_append_left _ hn
 rw [hka]
 refine ⟨h.m1, h.m2, by show (γ.n : Int) = _; rw [e2.n]; exact h.an, ?_, hγi, h.ho.put _ _, h.io.give _ ka2 rfl, ?_, ?_, by rw [hpl.2.2]; exact h.hm, by rw [hgl.2.2]; exact h.im, ?_, ?_, fun x hx => ?_, fun x hx => ?_, fun x hx ht => ?_, fun x hx ht => ?_, by have := h.tm0; omega, ?_, fun z hz => ?_, ?_, ?_, ?_, fun z hz => ?_, fun z hz => ?_, fun k r hk => ?_, fun z hz => ?_, ?_, ?_⟩
 ·show γ.len = _
  have := e2.len
  have := h.al
  have h3 : (IA ++ x :: IB).length = (IA ++ IB).length + 1 := by simp; omega
  rw [h3] at this
  omega
 ·rw [hpl.1, hpl.2.1, List.length_set, h.hl]; simp
 ·rw [hgl.1, hgl.2.1, List.length_set, h.il]; simp; omega
 ·rw [hpl.1, List.length_set]; exact h.hll
 ·rw [hgl.1, List.length_set]; exact h.ill
 ·obtain ⟨z, hz, e⟩ := PS.mem_put hx
  have := h.hg z hz
  omega
 ·obtain ⟨z, hz, e⟩ := PS.mem_give hx
  have := h.ig z hz
  omega
 ·obtain ⟨jx, hjx⟩ := List.getElem?_of_mem hx
  rw [hpl.1] at hjx
  by_cases e : y.h.1.toNat = jx
  ·subst e
   have hl9 : y.h.1.toNat < S.hp.l.length := by
    have := (List.getElem?_eq_some_iff.1 hjx).1
    rwa [List.length_set] at this
   rw [List.getElem?_set_self hl9] at hjx
   cases hjx
   obtain ⟨j, q1, q2, q3⟩ := PS.find_some (h.hf y hyM)
   exact q3
  ·rw [List.getElem?_set_ne e] at hjx
   exact h.hg1 x (List.mem_of_getElem? hjx) ht
 ·obtain ⟨jx, hjx⟩ := List.getElem?_of_mem hx
  rw [hgl.1] at hjx
  by_cases e : ka = jx
  ·subst e
   rw [List.getElem?_set_self (List.getElem?_eq_some_iff.1 ka2).1] at hjx
   cases hjx
   cases ht
  ·rw [List.getElem?_set_ne e] at hjx
   exact h.ig1 x (List.mem_of_getElem? hjx) ht
 ·have := put_finds (p := S.hp) (I' := IA ++ IB) (y' := { y with root := r', N := N' }) h.hnd rfl h.hf hI2
  rw [show (({ y with root := r', N := N' } : Hv).h) = y.h from rfl, show ((hlI (IA ++ IB) y.h).length : Int) = ((hlI (IA ++ x :: IB) y.h).length : Int) - 1 from by omega] at this
  exact this
 ·refine PS.find_give z3 ka2 _ _ _ (fun e => ?_) (h.jf z (hold z hz))
  exact ip_ne h.ind h.jf hxM (hold z hz) (hrne z hz) (e.trans ka1.symm)
 ·have := h.hnd
  simp only [List.map_append, List.map_cons] at this ⊢
  exact this
 ·exact nr1
 ·exact nc1
 ·obtain ⟨u, hu, e⟩ := h.ih z (hold z hz)
  rcases List.mem_append.1 hu with hu | hu
  ·exact ⟨u, by simp [hu], e⟩
  ·rcases List.mem_cons.1 hu with hu | hu
   ·exact ⟨{ y with root := r', N := N' }, by simp, by rw [← e, hu]⟩
   ·exact ⟨u, by simp [hu], e⟩
 ·show updM S.at_ (x.c : Int) none (z.c : Int) = some z.r
  unfold updM
  rw [if_neg (fun e => hcne z hz (by omega))]; exact h.at1 z (hold z hz)
 ·have hk' : updM S.at_ (x.c : Int) none k = some r := hk
  unfold updM at hk'
  split at hk'
  ·cases hk'
  ·rename_i e
   obtain ⟨z, hz, e'⟩ := h.at2 _ _ hk'
   refine ⟨z, ?_, e'⟩
   rcases List.mem_append.1 hz with hz | hz
   ·exact List.mem_append_left _ hz
   ·rcases List.mem_cons.1 hz with hz | hz
    ·exact absurd (by rw [← e', hz]) e
    ·exact List.mem_append_right _ hz
 ·show updM S.en x.r none z.r = some z.e
  unfold updM
  rw [if_neg (hrne z hz)]; exact h.en1 z (hold z hz)
 ·refine h.hs.step (y' := { y with root := r', N := N' }) h.hnd rfl hI2 hkh2 e2 (fun c hc => .inl hc) (fun c hc => ?_) hcel
  rcases hc with hc | hc
  ·exact .inl (by rw [hc]; exact hny)
  ·exact .inl (by rw [hc]; exact hxc)
 ·have := h.nx
  show 0 ≤ S.next ∧ S.next ≤ tm + 1
  omega
end
end Go.Proofs.YtodobkbnmjgkdaaGreat.HL
namespace Go.Proofs.YtodobkbnmjgkdaaGreat.HL
namespace PS
variable {κ : Type} {p : PS κ}
theorem put_g1 (h : ∀ x ∈ p.l, x.t = true → 1 ≤ x.g) (a : Nat) (v : κ) : ∀ x ∈ (p.put a v).l, x.t = true → 1 ≤ x.g := by
 intro x hx ht
 cases hy : p.l[a]? with
 | none =>
  have : p.put a v = p := by unfold PS.put; rw [hy]
  rw [this] at hx; exact h x hx ht
 | some y =>
  rw [(put_l v hy).1] at hx
  rcases List.mem_or_eq_of_mem_set hx with hx | hx
  ·exact h x hx ht
  ·rw [hx] at ht ⊢; exact h y (List.mem_of_getElem? hy) ht
theorem give_g1 (h : ∀ x ∈ p.l, x.t = true → 1 ≤ x.g) (z : κ) (a : Nat) : ∀ x ∈ (p.give z a).l, x.t = true → 1 ≤ x.g := by
 intro x hx ht
 cases hy : p.l[a]? with
 | none =>
  have : p.give z a = p := by unfold PS.give; rw [hy]
  rw [this] at hx; exact h x hx ht
 | some y =>
  rw [(give_l z hy).1] at hx
  rcases List.mem_or_eq_of_mem_set hx with hx | hx
  ·exact h x hx ht
  ·rw [hx] at ht; cases ht
theorem take_g1 (hok : p.Ok) (h : ∀ x ∈ p.l, x.t = true → 1 ≤ x.g) {a : Nat} (ha : p.at_ = some a) (hg : 1 ≤ p.gen a) (z v : κ) : ∀ x ∈ (p.take z a v).l, x.t = true → 1 ≤ x.g := by
 intro x hx ht
 obtain ⟨t1, t2, _⟩ := take_l hok ha z v
 obtain ⟨jx, hjx⟩ := List.getElem?_of_mem hx
 by_cases e : jx = a
 ·subst e
  rw [t1] at hjx
  cases hjx
  exact hg
 ·rw [t2 jx e] at hjx
  exact h x (List.mem_of_getElem? hjx) ht
theorem at_some {n : Nat} (h : p.l.length = p.free.length + n) (hn : (n : Int) < p.most) : ∃ a, p.at_ = some a := by
 unfold at_
 cases hl : p.free.getLast? with
 | some a => exact ⟨a, rfl⟩
 | none =>
  have hf : p.free = [] := List.getLast?_eq_none_iff.1 hl
  rw [hf] at h
  simp only [List.length_nil] at h
  exact ⟨p.l.length, by simp only; rw [if_neg (by omega)]⟩
end PS
def toH (o h : RefK) (x : Itm) : Itm := if x.h = o then { x with h := h } else x
theorem toH_r (o h : RefK) (x : Itm) : (toH o h x).r = x.r ∧ (toH o h x).c = x.c ∧ (toH o h x).e = x.e := by unfold toH; split <;> exact ⟨rfl, rfl, rfl⟩
theorem hlI_toH_other {o h z : RefK} (h1 : z ≠ h) (h2 : z ≠ o) : ∀ I : List Itm, hlI (I.map (toH o h)) z = hlI I z
 | [] => rfl
 | x :: I => by
  have ih := hlI_toH_other h1 h2 I
  rw [List.map_cons, show toH o h x :: I.map (toH o h) = [toH o h x] ++ I.map (toH o h) from rfl, show x :: I = [x] ++ I from rfl, hlI_app, hlI_app, ih]
  congr 1
  unfold toH
  by_cases e : x.h = o
  ·rw [if_pos e, hlI_other (fun e' => h1 e'.symm), hlI_other (fun e' => h2 (by rw [← e', e]))]
  ·rw [if_neg e]
theorem hlI_toH {o h : RefK} (hne : h ≠ o) : ∀ I : List Itm, (hlI (I.map (toH o h)) h).Perm (hlI I h ++ hlI I o)
 | [] => List.Perm.refl _
 | x :: I => by
  have ih := hlI_toH hne I
  rw [List.map_cons, show toH o h x :: I.map (toH o h) = [toH o h x] ++ I.map (toH o h) from rfl, show x :: I = [x] ++ I from rfl, hlI_app, hlI_app, hlI_app [x] I o]
  unfold toH at ih ⊢
  by_cases e : x.h = o
  ·rw [if_pos e, hlI_same rfl, hlI_other (h := h) (fun e' => hne (by rw [← e', e])), hlI_same e, List.nil_append]
   exact (ih.cons _).trans List.perm_middle.symm
  ·rw [if_neg e, hlI_other e, List.nil_append]
   by_cases e2 : x.h = h
   ·rw [hlI_same e2]; exact ih.cons _
   ·rw [hlI_other e2]; exact ih
section
variable {S : QS} {tm : Int}
theorem QInv.next {I : List Itm} {H : List Hv} (h : QInv S I H tm) (hlen : (I.length : Int) < S.most) : S.α.next ≠ none := fun e => by
 have h1 := AS.next_full h.inv e
 have := h.al
 have := h.an
 omega
theorem QInv.ipAt {I : List Itm} {H : List Hv} (h : QInv S I H tm) (hlen : (I.length : Int) < S.most) : ∃ a, S.ip.at_ = some a := PS.at_some h.il (by rw [h.im]; exact hlen)
theorem QInv.hpAt {I : List Itm} {H : List Hv} (h : QInv S I H tm) (hlen : H.length < 64) : ∃ a, S.hp.at_ = some a := PS.at_some h.hl (by rw [h.hm]; omega)
theorem QInv.decrease {IA IB : List Itm} {x : Itm} {A B : List Hv} {y : Hv} (h : QInv S (IA ++ x :: IB) (A ++ y :: B) tm) (hxy : x.h = y.h) {α1 β : AS} {key r' : Int} {N' : List Nat} {L' : List Held} {j j2 : Int}
  (hL : (hlI (IA ++ x :: IB) y.h).Perm (x.held :: L')) (hα : AS.Sm j (S.α.put x.c 7 key) α1) (hkh : KH y.k β r' ((x.c, (key, x.e.2)) :: L') N') (hless : Less ((x.c, (key, x.e.2)) :: L') N' (x.held :: L') y.N) (heff : AS.Eff (fun c => c ∈ celK (x.held :: L') y.N) (fun _ => False) 0 j2 α1 β) (hβ : β.Inv) :
  QInv { S with α := β, hp := S.hp.put y.h.1.toNat (y.k, r', ((hlI (IA ++ x :: IB) y.h).length : Int)), en := updM S.en x.r (some (key, x.e.2)) } (IA ++ { x with e := (key, x.e.2) } :: IB) (A ++ { y with root := r', N := N' } :: B) tm := by
 have hyM : y ∈ A ++ y :: B := by simp
 have hxM : x ∈ IA ++ x :: IB := by simp
 have hold : ∀ z ∈ IA ++ IB, z ∈ IA ++ x :: IB := fun z hz => by rcases List.mem_append.1 hz with h | h <;> simp [h]
 have hcas : ∀ z ∈ IA ++ { x with e := (key, x.e.2) } :: IB, z = { x with e := (key, x.e.2) } ∨ z ∈ IA ++ IB := fun z hz => by
  rcases List.mem_append.1 hz with hz | hz
  ·exact .inr (by simp [hz])
  ·rcases List.mem_cons.1 hz with hz | hz
   ·exact .inl hz
   ·exact .inr (by simp [hz])
 have hnr := h.ind
 rw [List.map_append, List.map_cons] at hnr
 obtain ⟨nr1, nr2, nr3⟩ := nodup_mid hnr
 have hrne : ∀ z ∈ IA ++ IB, z.r ≠ x.r := fun z hz e => by
  rcases List.mem_append.1 hz with h | h
  ·exact nr2 (List.mem_map.2 ⟨z, h, e⟩)
  ·exact nr3 (List.mem_map.2 ⟨z, h, e⟩)
 have hL2 : (hlI (IA ++ x :: IB) y.h).Perm (x.held :: hlI (IA ++ IB) y.h) := by rw [← hxy]; exact hlI_mid IA IB x
 have hL3 : (hlI (IA ++ { x with e := (key, x.e.2) } :: IB) y.h).Perm ((x.c, (key, x.e.2)) :: hlI (IA ++ IB) y.h) := by
  have := hlI_mid IA IB { x with e := (key, x.e.2) }
  rw [← hxy]; exact this
 have hLL : L'.Perm (hlI (IA ++ IB) y.h) := List.Perm.cons_inv (hL.symm.trans hL2)
 have hPn : ((x.c, (key, x.e.2)) :: L').Perm (hlI (IA ++ { x with e := (key, x.e.2) } :: IB) y.h) := (hLL.cons _).trans hL3.symm
 have hxc : x.c ∈ celH (IA ++ x :: IB) y := List.mem_append_right _ (List.mem_map.2 ⟨x.held, hlI_mem.2 ⟨x, hxM, hxy, rfl⟩, rfl⟩)
 have hcK : ∀ c, c ∈ celK (x.held :: L') y.N ↔ c ∈ celH (IA ++ x :: IB) y := fun c => (celK_perm hL (List.Perm.refl y.N)).mem_iff.symm
 have hlen2 : (hlI (IA ++ { x with e := (key, x.e.2) } :: IB) y.h).length = (hlI (IA ++ x :: IB) y.h).length := by rw [hL3.length_eq, hL2.length_eq]; rfl
 have e2 : AS.Eff (fun c => c ∈ celH (IA ++ x :: IB) y) (fun _ => False) 0 (0 + j + j2) S.α β :=
  ((((AS.Sm.refl (α := S.α)).eff (S := fun c => c ∈ celH (IA ++ x :: IB) y) (L := fun _ => False)).put (f := 7) (v := key) (c := x.c) hxc).trans hα.eff).trans (heff.mono (fun c hc => (hcK c).1 hc) (fun _ h => h) (Int.le_refl _))
 have hI2 : ∀ z ∈ A ++ B, hlI (IA ++ { x with e := (key, x.e.2) } :: IB) z.h = hlI (IA ++ x :: IB) z.h := fun z hz => by
  have hnd := h.hnd
  rw [List.map_append, List.map_cons] at hnd
  obtain ⟨n1, n2, n3⟩ := nodup_mid hnd
  have hne : x.h ≠ z.h := fun e => by
   have e' : z.h = y.h := e.symm.trans hxy
   rcases List.mem_append.1 hz with h | h
   ·exact n2 (List.mem_map.2 ⟨z, h, e'⟩)
   ·exact n3 (List.mem_map.2 ⟨z, h, e'⟩)
  rw [hlI_mid_other IA IB x hne]
  exact hlI_mid_other IA IB { x with e := (key, x.e.2) } hne
 have hcel : ∀ c ∈ celH (IA ++ { x with e := (key, x.e.2) } :: IB) { y with root := r', N := N' }, c ∈ celH (IA ++ x :: IB) y ∨ S.α.live c = false := fun c hc => .inl ((hcK c).1 (hless c ((celK_perm hPn (List.Perm.refl N')).mem_iff.2 hc)))
 have hpl := PS.put_l (p := S.hp) (a := y.h.1.toNat) (v := (y.k, r', ((hlI (IA ++ x :: IB) y.h).length : Int))) (x := ⟨y.h.2, true, (y.k, y.root, ((hlI (IA ++ x :: IB) y.h).length : Int))⟩) (by
  obtain ⟨j, q1, q2, _⟩ := PS.find_some (h.hf y hyM)
  rw [q1, Int.toNat_natCast]; exact q2)
 refine ⟨h.m1, h.m2, by show (β.n : Int) = _; rw [e2.n]; exact h.an, ?_, hβ, h.ho.put _ _, h.io, ?_, ?_, by rw [hpl.2.2]; exact h.hm, h.im, ?_, h.ill, fun x hx => ?_, h.ig, PS.put_g1 h.hg1 _ _, h.ig1, h.tm0, ?_, fun z hz => ?_, ?_, ?_, ?_, fun z hz => ?_, fun z hz => ?_, fun k r hk => ?_, fun z hz => ?_, ?_, h.nx⟩
 ·show β.len = _
  have := e2.len
  have := h.al
  simp only [List.length_append, List.length_cons] at this ⊢
  omega
 ·rw [hpl.1, hpl.2.1, List.length_set, h.hl]; simp
 ·have := h.il
  simp only [List.length_append, List.length_cons] at this ⊢
  exact this
 ·rw [hpl.1, List.length_set]; exact h.hll
 ·obtain ⟨z, hz, e⟩ := PS.mem_put hx
  have := h.hg z hz
  omega
 ·have := put_finds (p := S.hp) (I' := IA ++ { x with e := (key, x.e.2) } :: IB) (y' := { y with root := r', N := N' }) h.hnd rfl h.hf hI2
  rw [show (({ y with root := r', N := N' } : Hv).h) = y.h from rfl, hlen2] at this
  exact this
 ·rcases hcas z hz with rfl | hz
  ·exact h.jf x hxM
  ·exact h.jf z (hold z hz)
 ·have := h.hnd
  simp only [List.map_append, List.map_cons] at this ⊢
  exact this
 ·have := h.ind
  simp only [List.map_append, List.map_cons] at this ⊢
  exact this
 ·have := h.icd
  simp only [List.map_append, List.map_cons] at this ⊢
  exact this
 ·have hzo : ∃ z0 ∈ IA ++ x :: IB, z0.h = z.h := by
   rcases hcas z hz with rfl | hz
   ·exact ⟨x, hxM, rfl⟩
   ·exact ⟨z, hold z hz, rfl⟩
  obtain ⟨z0, hz0, e0⟩ := hzo
  obtain ⟨u, hu, e⟩ := h.ih z0 hz0
  rw [e0] at e
  rcases List.mem_append.1 hu with hu | hu
  ·exact ⟨u, by simp [hu], e⟩
  ·rcases List.mem_cons.1 hu with hu | hu
   ·exact ⟨{ y with root := r', N := N' }, by simp, by rw [← e, hu]⟩
   ·exact ⟨u, by simp [hu], e⟩
 ·rcases hcas z hz with rfl | hz
  ·exact h.at1 x hxM
  ·exact h.at1 z (hold z hz)
 ·obtain ⟨z, hz, e⟩ := h.at2 _ _ hk
  rcases List.mem_append.1 hz with hz | hz
  ·exact ⟨z, by simp [hz], e⟩
  ·rcases List.mem_cons.1 hz with hz | hz
   ·exact ⟨{ x with e := (key, x.e.2) }, by simp, by rw [← e, hz]⟩
   ·exact ⟨z, by simp [hz], e⟩
 ·show updM S.en x.r _ z.r = some z.e
  unfold updM
  rcases hcas z hz with rfl | hz
  ·rw [if_pos rfl]
  ·rw [if_neg (hrne z hz)]; exact h.en1 z (hold z hz)
 ·exact h.hs.step (y' := { y with root := r', N := N' }) h.hnd rfl hI2 (hkh.perm hPn (List.Perm.refl _)) e2 (fun c hc => .inl hc) (fun c hc => hc.elim) hcel
theorem of_mem {I : List Itm} (hf : ∀ x ∈ I, S.ip.find x.r.1 x.r.2 = some ((x.c : Int), x.h.1, x.h.2)) {x : Itm} (hx : x ∈ I) (o : RefK) : ((x.r.1, x.r.2) ∈ ofHeap S.ip o.1 o.2) ↔ x.h = o := by
 have h1 := hf x hx
 unfold ofHeap
 rw [List.mem_filter]
 simp only [h1, decide_eq_true_eq]
 constructor
 ·rintro ⟨_, h2, h3⟩; exact Prod.ext h2 h3
 ·intro e
  refine ⟨?_, by rw [e], by rw [e]⟩
  obtain ⟨j, q1, q2, q3⟩ := PS.find_some h1
  refine refsG_mem.2 ⟨j, _, q2, rfl, ?_⟩
  simp [q1]
theorem hp_ne {I : List Itm} {H : List Hv} (h : QInv S I H tm) {y z : Hv} (hy : y ∈ H) (hz : z ∈ H) (hne : z.h ≠ y.h) : z.h.1 ≠ y.h.1 := fun e => by
 obtain ⟨j1, q1, q2, _⟩ := PS.find_some (h.hf z hz)
 obtain ⟨j2, q3, q4, _⟩ := PS.find_some (h.hf y hy)
 have hj : j1 = j2 := by omega
 subst hj
 rw [q2] at q4
 have hg : z.h.2 = y.h.2 := by injection q4 with q4; injection q4
 exact hne (Prod.ext e hg)
theorem QInv.meld {I : List Itm} {B : List Hv} {y y2 : Hv} (h : QInv S I (y :: y2 :: B) tm) {β : AS} {r' : Int} {N' : List Nat} {j : Int}
  (hkh : KH y.k β r' (hlI I y.h ++ hlI I y2.h) N') (hsub : ∀ c ∈ celK (hlI I y.h ++ hlI I y2.h) N', c ∈ celH I y ∨ c ∈ celH I y2) (heff : AS.Eff (fun c => c ∈ celH I y ∨ c ∈ celH I y2) (fun _ => False) 0 j S.α β) (hβ : β.Inv) :
  QInv { S with α := β, hp := (S.hp.give z3 y2.h.1.toNat).put y.h.1.toNat (y.k, r', ((hlI I y.h).length : Int) + (hlI I y2.h).length), ip := reh S.ip (ofHeap S.ip y2.h.1 y2.h.2) y.h.1 y.h.2 } (I.map (toH y2.h y.h)) ({ y with root := r', N := N' } :: B) tm := by
 have hnd := h.hnd
 rw [List.map_cons, List.map_cons, List.nodup_cons, List.nodup_cons] at hnd
 obtain ⟨n1, n2, n3⟩ := hnd
 have hy : y ∈ y :: y2 :: B := by simp
 have hy2 : y2 ∈ y :: y2 :: B := by simp
 have hB : ∀ z ∈ B, z ∈ y :: y2 :: B := fun z hz => by simp [hz]
 have hne : y.h ≠ y2.h := fun e => n1 (by rw [e]; simp)
 have hz1 : ∀ z ∈ B, z.h ≠ y.h := fun z hz e => n1 (by rw [← e]; exact List.mem_cons_of_mem _ (List.mem_map.2 ⟨z, hz, rfl⟩))
 have hz2 : ∀ z ∈ B, z.h ≠ y2.h := fun z hz e => n2 (by rw [← e]; exact List.mem_map.2 ⟨z, hz, rfl⟩)
 have hI1 := hlI_toH hne I
 have hI2 : ∀ z ∈ B, hlI (I.map (toH y2.h y.h)) z.h = hlI I z.h := fun z hz => hlI_toH_other (hz1 z hz) (hz2 z hz) I
 have hmr : (I.map (toH y2.h y.h)).map (·.r) = I.map (·.r) := by rw [List.map_map]; exact List.map_congr_left fun x _ => (toH_r _ _ x).1
 have hmc : (I.map (toH y2.h y.h)).map (·.c) = I.map (·.c) := by rw [List.map_map]; exact List.map_congr_left fun x _ => (toH_r _ _ x).2.1
 have f1 := h.hf y hy
 have f2 := h.hf y2 hy2
 obtain ⟨k2, k21, k22, k23⟩ := PS.find_some f2
 have hk2 : y2.h.1.toNat = k2 := by rw [k21, Int.toNat_natCast]
 rw [hk2]
 have hgl := PS.give_l (p := S.hp) z3 k22
 have fg : ∀ z ∈ y :: y2 :: B, z.h ≠ y2.h → ∀ w, S.hp.find z.h.1 z.h.2 = some w → (S.hp.give z3 k2).find z.h.1 z.h.2 = some w := fun z hz hzz w hw => PS.find_give z3 k22 _ _ _ (fun e => hp_ne h hy2 hz hzz (by rw [e, k21])) hw
 have f1' := fg y hy hne _ f1
 obtain ⟨p1, p2⟩ := PS.find_put (y.k, r', ((hlI I y.h).length : Int) + (hlI I y2.h).length) f1'
 have hpl := PS.put_l (p := S.hp.give z3 k2) (a := y.h.1.toNat) (v := (y.k, r', ((hlI I y.h).length : Int) + (hlI I y2.h).length)) (x := ⟨y.h.2, true, (y.k, y.root, ((hlI I y.h).length : Int))⟩) (by
  obtain ⟨j, q1, q2, _⟩ := PS.find_some f1'
  rw [q1, Int.toNat_natCast]; exact q2)
 refine ⟨h.m1, h.m2, by show (β.n : Int) = _; rw [heff.n]; exact h.an, ?_, hβ, (h.ho.give z3 k22 rfl).put _ _, reh_ok h.io, ?_, ?_, by rw [hpl.2.2, hgl.2.2]; exact h.hm, h.im, ?_, by rw [reh_len]; exact h.ill, fun x hx => ?_, fun x hx => ?_, PS.put_g1 (PS.give_g1 h.hg1 _ _) _ _, fun x hx ht => ?_, h.tm0, fun z hz => ?_, fun z hz => ?_, ?_, ?_, ?_, fun z hz => ?_, fun z hz => ?_, fun k r hk => ?_, fun z hz => ?_, ⟨fun z hz => ?_, fun z hz z' hz' hzz c hc hc' => ?_⟩, h.nx⟩
 ·show β.len = _
  have := heff.len
  have := h.al
  rw [List.length_map]
  omega
 ·rw [hpl.1, hpl.2.1, List.length_set, hgl.1, hgl.2.1, List.length_set]
  have := h.hl
  simp only [List.length_append, List.length_cons, List.length_nil] at this ⊢
  omega
 ·rw [reh_len, List.length_map]; exact h.il
 ·rw [hpl.1, List.length_set, hgl.1, List.length_set]; exact h.hll
 ·obtain ⟨z, hz, e⟩ := PS.mem_put hx
  obtain ⟨u, hu, e'⟩ := PS.mem_give hz
  have := h.hg u hu
  omega
 ·obtain ⟨z, hz, e, _⟩ := reh_mem hx
  have := h.ig z hz
  omega
 ·obtain ⟨z, hz, e, et⟩ := reh_mem hx
  have := h.ig1 z hz (by rw [← et]; exact ht)
  omega
 ·rcases List.mem_cons.1 hz with rfl | hz
  ·have hl2 : ((hlI (I.map (toH y2.h y.h)) y.h).length : Int) = ((hlI I y.h).length : Int) + (hlI I y2.h).length := by rw [hI1.length_eq, List.length_append]; omega
   show PS.find _ y.h.1 y.h.2 = some (y.k, r', ((hlI (I.map (toH y2.h y.h)) y.h).length : Int))
   rw [hl2]; exact p1
  ·rw [hI2 z hz]
   exact p2 _ _ _ (hp_ne h hy (hB z hz) (hz1 z hz)) (fg z (hB z hz) (hz2 z hz) _ (h.hf z (hB z hz)))
 ·obtain ⟨x, hx, rfl⟩ := List.mem_map.1 hz
  obtain ⟨e1, e2, e3⟩ := toH_r y2.h y.h x
  rw [e1, e2]
  show (reh S.ip _ _ _).find _ _ = _
  rw [reh_find (h.jf x hx)]
  by_cases e : x.h = y2.h
  ·rw [if_pos ((of_mem h.jf hx y2.h).2 e)]
   unfold toH
   rw [if_pos e]
  ·rw [if_neg fun hm => e ((of_mem h.jf hx y2.h).1 hm)]
   unfold toH
   rw [if_neg e]
 ·rw [List.map_cons, List.nodup_cons]
  refine ⟨fun hm => ?_, n3⟩
  obtain ⟨z, hz, e⟩ := List.mem_map.1 hm
  exact hz1 z hz e
 ·rw [hmr]; exact h.ind
 ·rw [hmc]; exact h.icd
 ·obtain ⟨x, hx, rfl⟩ := List.mem_map.1 hz
  obtain ⟨u, hu, e⟩ := h.ih x hx
  by_cases e2 : x.h = y2.h
  ·exact ⟨_, List.mem_cons_self, by unfold toH; rw [if_pos e2]⟩
  ·rcases List.mem_cons.1 hu with hu | hu
   ·refine ⟨_, List.mem_cons_self, ?_⟩
    unfold toH
    rw [if_neg e2, ← e, hu]
   ·rcases List.mem_cons.1 hu with hu | hu
    ·exact absurd (by rw [← e, hu]) e2
    ·refine ⟨u, List.mem_cons_of_mem _ hu, ?_⟩
     unfold toH
     rw [if_neg e2, e]
 ·obtain ⟨x, hx, rfl⟩ := List.mem_map.1 hz
  obtain ⟨e1, e2, e3⟩ := toH_r y2.h y.h x
  rw [e1, e2]; exact h.at1 x hx
 ·obtain ⟨x, hx, e⟩ := h.at2 _ _ hk
  exact ⟨_, List.mem_map.2 ⟨x, hx, rfl⟩, by rw [(toH_r y2.h y.h x).2.1]; exact e⟩
 ·obtain ⟨x, hx, rfl⟩ := List.mem_map.1 hz
  obtain ⟨e1, e2, e3⟩ := toH_r y2.h y.h x
  rw [e1, e3]; exact h.en1 x hx
 ·rcases List.mem_cons.1 hz with rfl | hz
  ·exact hkh.perm hI1.symm (List.Perm.refl _)
  ·rw [hI2 z hz]
   refine (h.hs.kh z (hB z hz)).eff heff (fun c hc hs => ?_) (fun c hc hs => hs)
   rcases hs with hs | hs
   ·exact h.hs.d1 z (hB z hz) y hy (hz1 z hz) c hc hs
   ·exact h.hs.d1 z (hB z hz) y2 hy2 (hz2 z hz) c hc hs
 ·have hc0 : ∀ c, c ∈ celH (I.map (toH y2.h y.h)) { y with root := r', N := N' } → c ∈ celH I y ∨ c ∈ celH I y2 := fun c hc => hsub c ((celK_perm hI1 (List.Perm.refl N')).mem_iff.1 hc)
  have hcz : ∀ z ∈ B, celH (I.map (toH y2.h y.h)) z = celH I z := fun z hz => by unfold celH; rw [hI2 z hz]
  have hno : ∀ z ∈ B, ∀ c ∈ celH I z, ¬ (c ∈ celH I y ∨ c ∈ celH I y2) := fun z hz c hc hs => by
   rcases hs with hs | hs
   ·exact h.hs.d1 z (hB z hz) y hy (hz1 z hz) c hc hs
   ·exact h.hs.d1 z (hB z hz) y2 hy2 (hz2 z hz) c hc hs
  rcases List.mem_cons.1 hz with e0 | hz
  ·rw [e0] at hc hzz
   rcases List.mem_cons.1 hz' with e1 | hz'
   ·exact hzz (by rw [e1])
   ·rw [hcz z' hz'] at hc'
    exact hno z' hz' c hc' (hc0 c hc)
  ·rw [hcz z hz] at hc
   rcases List.mem_cons.1 hz' with e1 | hz'
   ·rw [e1] at hc'
    exact hno z hz c hc (hc0 c hc')
   ·rw [hcz z' hz'] at hc'
    exact h.hs.d1 z (hB z hz) z' (hB z' hz') hzz c hc hc'
theorem QInv.make {I : List Itm} {H : List Hv} (h : QInv S I H tm) {a : Nat} {k : Int} (hk1 : 1 ≤ k) (hk3 : k ≤ 3) (hat : S.hp.at_ = some a) :
  QInv { S with hp := S.hp.take z3 a (k, -1, 0) } I (H ++ [⟨((a : Int), S.hp.gen a), k, -1, []⟩]) (tm + 1) ∧ hlI I ((a : Int), S.hp.gen a) = [] := by
 have g1 := PS.gen_le h.hg h.tm0 a
 obtain ⟨t1, t2, t3, t4, t5, t6, t7⟩ := PS.take_l h.ho hat z3 (k, -1, 0)
 obtain ⟨f1, f2⟩ := PS.find_take h.ho hat z3 (k, -1, 0) g1.1
 have hno : ∀ y ∈ H, y.h ≠ ((a : Int), S.hp.gen a) := fun y hy e => by
  have := h.hf y hy
  rw [e, h.ho.at_no hat] at this; cases this
 have hnil : hlI I ((a : Int), S.hp.gen a) = [] := by
  unfold hlI
  rw [List.map_eq_nil_iff, List.filter_eq_nil_iff]
  intro x hx e
  obtain ⟨y, hy, e'⟩ := h.ih x hx
  exact hno y hy (by rw [e']; simpa using e)
 refine ⟨⟨h.m1, h.m2, h.an, h.al, h.inv, h.ho.take hat _ _, h.io, ?_, h.il, by rw [t4]; exact h.hm, h.im, ?_, h.ill, fun x hx => ?_, fun x hx => ?_, PS.take_g1 h.ho h.hg1 hat g1.1 _ _, h.ig1, by have := h.tm0; omega, fun y hy => ?_, h.jf, ?_, h.ind, h.icd, fun x hx => ?_, h.at1, h.at2, h.en1, ⟨fun y hy => ?_, fun y hy y' hy' hyy c hc hc' => ?_⟩, ?_⟩, hnil⟩
 ·show (S.hp.take z3 a (k, -1, 0)).l.length = (S.hp.take z3 a (k, -1, 0)).free.length + _
  have := h.hl
  rw [List.length_append, List.length_singleton]
  omega
 ·show (S.hp.take z3 a (k, -1, 0)).l.length ≤ 64
  have := h.hll
  have := h.hm
  omega
 ·have := PS.mem_take hx
  have h0 := h.tm0
  rcases this with h1 | h1 | h1
  ·have := h.hg x h1; omega
  ·omega
  ·omega
 ·have := h.ig x hx; omega
 ·rcases List.mem_append.1 hy with hy | hy
  ·exact f2 _ _ _ (h.hf y hy)
  ·rw [List.mem_singleton.1 hy, hnil]; exact f1
 ·rw [List.map_append, List.nodup_append]
  refine ⟨h.hnd, by simp, fun u hu v hv e => ?_⟩
  obtain ⟨y, hy, rfl⟩ := List.mem_map.1 hu
  simp only [List.map_cons, List.map_nil, List.mem_singleton] at hv
  exact hno y hy (e.trans hv)
 ·obtain ⟨y, hy, e⟩ := h.ih x hx
  exact ⟨y, List.mem_append_left _ hy, e⟩
 ·rcases List.mem_append.1 hy with hy | hy
  ·exact h.hs.kh y hy
  ·rw [List.mem_singleton.1 hy, hnil]
   exact KH.nil hk1 hk3
 ·have hcn : ∀ c, c ∉ celH I (⟨((a : Int), S.hp.gen a), k, -1, []⟩ : Hv) := fun c hc => by
   unfold celH at hc
   rw [hnil] at hc
   cases hc
  rcases List.mem_append.1 hy with hy | hy
  ·rcases List.mem_append.1 hy' with hy' | hy'
   ·exact h.hs.d1 y hy y' hy' hyy c hc hc'
   ·rw [List.mem_singleton.1 hy'] at hc'
    exact hcn c hc'
  ·rw [List.mem_singleton.1 hy] at hc
   exact hcn c hc
 ·have := h.nx
  show 0 ≤ S.next ∧ S.next ≤ tm + 1
  omega
theorem QInv.nil0 {most : Nat} (h1 : 1 ≤ most) (h2 : most ≤ 300) : QInv ⟨most, 0, AS.new (2 * most), ⟨64, [], []⟩, ⟨most, [], []⟩, fun _ => Option.none, fun _ => Option.none⟩ [] [] 0 := by
 refine ⟨by show (1 : Int) ≤ (most : Int); omega, by show (most : Int) ≤ 300; omega, by show ((2 * most : Nat) : Int) = 2 * (most : Int); omega, ?_, ?_, PS.Ok.nil _, PS.Ok.nil _, rfl, rfl, rfl, rfl, by simp, by show ((0 : Nat) : Int) ≤ most; omega, fun x hx => (by cases hx), fun x hx => (by cases hx), fun x hx => (by cases hx), fun x hx => (by cases hx), Int.le_refl _, fun x hx => (by cases hx), fun x hx => (by cases hx), List.nodup_nil, List.nodup_nil, List.nodup_nil, fun x hx => (by cases hx), fun x hx => (by cases hx), fun _ _ h => (by cases h), fun x hx => (by cases hx), ⟨fun x hx => (by cases hx), fun x hx => (by cases hx)⟩, Int.le_refl _, Int.le_refl _⟩
 ·show (AS.new (2 * most)).len = 0
  rfl
 ·exact AS.new_inv (by omega)
end
end Go.Proofs.YtodobkbnmjgkdaaGreat.HL
namespace Go.Proofs.YtodobkbnmjgkdaaGreat.HL
open Go.RowKit (Below)
open Go.Proofs
section
variable {w0 : World} {F M : Mem}
theorem Holds.inn {A P P' : Asn} (h : Holds w0 F M (star A P)) (f : ∀ F M, Holds w0 F M P → Holds w0 F M P') : Holds w0 F M (star A P') := by
 obtain ⟨F', h1, _, back⟩ := h.last
 exact back M P' (f _ _ h1)
theorem Holds.dp {X A B D E G : Asn} (h : Holds w0 F M (star X (star A (star B (star D (star E G)))))) : Holds w0 F M (star A (star B (star D (star E (star X G))))) :=
 h.rot.inn fun _ _ h => h.rot.inn fun _ _ h => h.rot.inn fun _ _ h => h.rot
theorem Holds.up {X A B D E G : Asn} (h : Holds w0 F M (star A (star B (star D (star E (star X G)))))) : Holds w0 F M (star X (star A (star B (star D (star E G))))) :=
 (h.inn fun _ _ h => (h.inn fun _ _ h => (h.inn fun _ _ h => h.rot).rot).rot).rot
theorem Holds.third {A B D E : Asn} (h : Holds w0 F M (star A (star B (star D E)))) : Holds w0 F M (star D (star A (star B E))) := (h.inn fun _ _ h => h.rot).rot
theorem Holds.back3 {A B D E : Asn} (h : Holds w0 F M (star D (star A (star B E)))) : Holds w0 F M (star A (star B (star D E))) := h.rot.inn fun _ _ h => h.rot
theorem HO.focA {os : Obs} {A B D E G : Asn} (h : HO w0 F M os (star A (star B (star D (star E G))))) : ∃ F', Holds w0 F' M E ∧ Mem.le F F' ∧ ∀ M' E', Holds w0 F' M' E' → HO w0 F M' os (star A (star B (star D (star E' G)))) := by
 obtain ⟨F1, h1, l1, back1⟩ := h.foc3
 obtain ⟨F2, h2, l2, back2⟩ := h1.comm.last
 exact ⟨F2, h2, Mem.le_trans l1 l2, fun M' E' h' => back1 _ _ (back2 _ _ h').comm⟩
end
abbrev tQs : TypeId := 95
abbrev tAns : TypeId := 46
abbrev tCall : TypeId := 35
abbrev qV (a t me : Nat) (most next : Int) : List Value := [.int .i64 most, .pointer (some ⟨a, 0, none⟩), .pointer (some ⟨t, 0, none⟩), .map (some me), .int .i64 next]
abbrev QA (q a t bh bi me : Nat) (S : QS) (Q : Asn) : Asn := star (PsH bh S.hp) (star (PsT bi S.ip) (star (row1 q (qV a t me S.most S.next) tQs) (star (arenaA a S.α) Q)))
abbrev ansV (why h1 h2 i1 i2 e1 e2 n : Int) : List Value := [.int .i64 why, .int .i64 h1, .int .i64 h2, .int .i64 i1, .int .i64 i2, .int .i64 e1, .int .i64 e2, .int .i64 n]
abbrev callV (op k h1 h2 o1 o2 i1 i2 key : Int) : List Value := [.int .i64 op, .int .i64 k, .int .i64 h1, .int .i64 h2, .int .i64 o1, .int .i64 o2, .int .i64 i1, .int .i64 i2, .int .i64 key]
theorem ansV_one {a b c d e f g h : Int} : ∀ v ∈ ansV a b c d e f g h, onecell v = true := by
 intro v hv
 simp only [ansV, List.mem_cons, List.not_mem_nil, or_false] at hv
 rcases hv with rfl | rfl | rfl | rfl | rfl | rfl | rfl | rfl <;> rfl
theorem gAns : aggOf PP tAns 8 = true := W.g46
theorem gCall : aggOf PP tCall 9 = true := W.g35
theorem sub2 {cs : List Value} {o : Nat} {x y : Value} (h0 : cs[o]? = some x) (h1 : cs[o + 1]? = some y) : ∀ j u, ([x, y] : List Value)[j]? = some u → cs[o + j]? = some u := fun j u hj => by
 match j, hj with
 | 0, hj => rw [← hj]; exact h0
 | 1, hj => rw [← hj]; exact h1
 | j + 2, hj => simp at hj
def entK (e : Ent) : Value := .agg #[.int .i64 e.1, .int .i64 e.2]
section
variable {w0 : World} {F M : Mem} {R : VP} {os : Obs} {q a t bh bi ma me : Nat} {S : QS} {Q : Asn} {I : List Itm} {H : List Hv} {tm most next : Int} {oa oe : Obj}
theorem Q0 (o : Own w0 M q (qV a t me most next) tQs) : (std PP w0).ld 3 ⟨q, 0, none⟩ M = some (.int .i64 most) := ld1 W.c3 o rfl
theorem Q1 (o : Own w0 M q (qV a t me most next) tQs) : (std PP w0).ld 89 ⟨q, 1, none⟩ M = some (.pointer (some ⟨a, 0, none⟩)) := ld1 (by kernel_rfl) o rfl
theorem Q2 (o : Own w0 M q (qV a t me most next) tQs) : (std PP w0).ld 91 ⟨q, 2, none⟩ M = some (.pointer (some ⟨t, 0, none⟩)) := ld1 (by kernel_rfl) o rfl
theorem Q3 (o : Own w0 M q (qV a t me most next) tQs) : (std PP w0).ld 93 ⟨q, 3, none⟩ M = some (.map (some me)) := ld1 (by kernel_rfl) o rfl
theorem Q4 (o : Own w0 M q (qV a t me most next) tQs) : (std PP w0).ld 2 ⟨q, 4, none⟩ M = some (.int .i64 next) := ld1 W.c2 o rfl
theorem HO.qo (h : HO w0 F M os (QA q a t bh bi me S Q)) : Own w0 M q (qV a t me S.most S.next) tQs := h.h.right.right.own1
theorem QRefused_ok {A : Asn} {why : Int} (h : HO w0 F M os A) (hK : ∀ M', HO w0 F M' os A → R (.agg (ansV why 0 0 0 0 0 0 0).toArray) M') : C PP w0 Id.pq_refused #[.int .i64 why] R M := by
 apply pq_refused.go
 unfold pq_refused.T nfz
 refine nwB h fun b1 M1 _ h1 => ?_
 have hbld : (std PP w0).bld tAns [(0, .int .i64 why)] = some (.agg (ansV why 0 0 0 0 0 0 0).toArray) := by kernel_rfl
 simp only [hbld, ob_v, sA_, sC_, zI_, zN_]
 exact resB gAns (by rfl) ansV_one h1 fun M2 h2 => hK M2 h2
theorem QInv.fresh {A B : List Hv} {y : Hv} (h : QInv S I (A ++ y :: B) tm) {key : Int} {c : Nat} {α1 : AS} {j1 : Int} (hlen : (I.length : Int) < S.most)
  (hc : S.α.next = some c) (hα1 : AS.Sm j1 ((S.α.take.put c 7 key).put c 8 S.next) α1) (hi1 : α1.Inv) :
  KH y.k α1 y.root (hlI I y.h) y.N ∧ c ∉ celK (hlI I y.h) y.N ∧ α1.live c = true ∧ α1.get c 7 = key ∧ α1.get c 8 = S.next ∧ α1.next ≠ none := by
 have hyM : y ∈ A ++ y :: B := by simp
 obtain ⟨c1, c2, c3⟩ := AS.next_some h.inv hc
 have hcn : c ∉ celK (hlI I y.h) y.N := fun hm => by
  have := (h.hs.kh y hyM).live c hm
  rw [c2] at this; cases this
 have e1 : AS.Eff (fun x => x = c) (· = c) 1 (0 + j1) S.α α1 := (((AS.take_eff (S := fun x => x = c) (L := (· = c)) h.inv hc rfl rfl).put (f := 7) (v := key) (c := c) rfl).put (f := 8) (v := S.next) (c := c) rfl).trans hα1.eff
 refine ⟨(h.hs.kh y hyM).eff e1 (fun x hx e => hcn (e ▸ hx)) (fun x hx e => hcn (e ▸ hx)), hcn, ?_, ?_, ?_, fun e => ?_⟩
 ·rw [hα1.live]
  show S.α.take.live c = true
  exact (AS.take_fresh h.inv hc).2
 ·rw [hα1.get]
  simp [AS.put]
 ·rw [hα1.get]
  simp [AS.put]
 ·have h1 := AS.next_full hi1 e
  have := e1.len
  have := e1.n
  have := h.al
  have := h.an
  omega
theorem QInv.hpl (h : QInv S I H tm) : S.hp.l.length ≤ 10000 ∧ S.hp.free.length ≤ 10000 := by
 have := h.hll
 have := h.hl
 omega
theorem QInv.ipl (h : QInv S I H tm) : S.ip.l.length ≤ 10000 ∧ S.ip.free.length ≤ 10000 ∧ S.ip.free.length ≤ S.ip.l.length := by
 have := h.ill
 have := h.il
 have := h.m2
 omega
theorem QInsert_ok {A B : List Hv} {y : Hv} {op k p1 p2 s1 s2 key : Int} (oT : Own w0 F t (tbV bh bi ma) tTb) (hv : QInv S I (A ++ y :: B) tm) (htm : tm ≤ 900000) (hlen : (I.length : Int) < S.most)
  (hfa : MapF (Value.int .i64) refK S.at_ oa) (hfe : MapF refK entK S.en oe) (h : HO w0 F M ((ma, oa) :: (me, oe) :: os) (QA q a t bh bi me S Q))
  (hK : ∀ M' S' oa' oe' i y', S.ip.at_ = some i → MapF (Value.int .i64) refK S'.at_ oa' → MapF refK entK S'.en oe' → HO w0 F M' ((ma, oa') :: (me, oe') :: os) (QA q a t bh bi me S' Q) →
   y'.h = y.h → y'.k = y.k → (∃ c, QInv S' (I ++ [⟨((i : Int), S.ip.gen i), y.h, c, (key, S.next)⟩]) (A ++ y' :: B) (tm + 1)) → S'.most = S.most → S'.next = S.next + 1 → S'.ip.pl = S.ip.pl.take i 0 → (∃ Sx Lx d, AS.Eff Sx Lx d (3 + limH (I.length + 1)) S.α S'.α) →
   R (.agg (ansV 0 0 0 i (S.ip.gen i) key S.next 0).toArray) M') :
  C PP w0 Id.pQ_insert #[.pointer (some ⟨q, 0, none⟩), .agg (callV op k y.h.1 y.h.2 p1 p2 s1 s2 key).toArray] R M := by
 have hyM : y ∈ A ++ y :: B := by simp
 obtain ⟨hl1, hl2⟩ := hv.hpl
 obtain ⟨hl3, hl4, hl5⟩ := hv.ipl
 have hfy := hv.hf y hyM
 apply pQ_insert.go
 unfold pQ_insert.T nfz
 refine nwA h fun b1 F1 M1 l1 lm1 o1 h1 => ?_
 have oT1 := oT.le l1
 refine nwB h1 fun b3 M2 lm2 h2' => ?_
 have h2 := h2'.mapH Holds.dp
 have hR1 : ∀ {M' : Mem} {e : TypeId}, Own w0 M' b1 (callV op k y.h.1 y.h.2 p1 p2 s1 s2 key) e → (std PP w0).ld 33 ⟨b1, 2, none⟩ M' = some (.agg #[.int .i64 y.h.1, .int .i64 y.h.2]) := fun o => ldSub (vs := [.int .i64 y.h.1, .int .i64 y.h.2]) gRef o (sub2 rfl rfl)
 simp only [nc_v, add_eq, Nat.zero_add, Q2 h2.qo, ob_v, sP_v, hR1 (o1.le h2.fr), sA_, sC_, zI_, zN_]
 refine SHeap_ok oT1 h2 (by omega) hfy fun M3 h3 => ?_
 simp only [sT_v, sC_, zI_, zN_]
 rw [bs_bne, if_pos rfl]
 simp only [nc_v, add_eq, Nat.zero_add, Q2 h3.qo, Q0 h3.qo, ob_v, sP_v, zI_]
 refine SItems_ok oT1 (h3.mapH Holds.rot) (by omega) hl5 ?_
 simp only [zI_, Q0 h3.qo, true_and]
 have hil := hv.il
 have him := hv.m2
 rw [bD_, if_neg (by omega)]
 have hbld : (std PP w0).bld 44 [(0, .int .i64 key), (1, .int .i64 S.next)] = some (.agg #[.int .i64 key, .int .i64 S.next]) := by kernel_rfl
 simp only [nc_v, add_eq, Nat.zero_add, ld1 W.c2 (o1.le h3.fr) (o := 8) rfl, Q4 h3.qo, ob_v, zI_, hbld, sA_, sC_, zN_]
 refine nwB h3 fun b5 M4 lm4 h4 => ?_
 refine ⟨ld1 W.c2 (o1.le h4.fr) (o := 8) rfl, Q4 h4.h.right.right.right.own1, ?_⟩
 refine stF gEnt (by rfl) one2 h4 fun F5 M5 l5 o5 h5 => ?_
 have oT5 := oT1.le l5
 have o15 := o1.le l5
 simp only [nc_v, add_eq, Nat.zero_add, Q1 h5.qo, ld1 W.c2 (o5.le h5.fr) (o := 0) rfl, ld1 W.c2 (o5.le h5.fr) (o := 1) rfl, ob_v, sP_v, zI_]
 obtain ⟨F6, hA, l6, back6⟩ := h5.focA
 refine ItNew_ok hA (fun e0 => absurd e0 (hv.next hlen)) fun c hc M6 α1 hB hs1 => ?_
 have hi1 := hB.inv
 obtain ⟨f1, f2, f3, f4, f5, f6⟩ := hv.fresh hlen hc hs1 hi1
 have h6 := back6 M6 _ hB
 simp only [sT_v, sC_, zI_, shB_v, zN_, nc_v, add_eq, Nat.zero_add, Q1 h6.h.right.right.own1, ob_v, sP_v]
 obtain ⟨F7, hA7, l7, back7⟩ := h6.focA
 have hLl := hlI_len I y.h
 refine kPush_ok (e := (key, S.next)) hA7 f1 f3 f2 f4 f5 (by omega) f6 fun n hn hnl M7 β r' N' hC hkh hsub heff => ?_
 have hβ := hC.inv
 have h7 := back7 M7 _ hC
 obtain ⟨i, hat⟩ := hv.ipAt hlen
 obtain ⟨hatc, hv'⟩ := hv.insert hc hs1 hi1 hn hnl hβ hkh hsub heff hat hlen
 have hg1 := PS.gen_le hv.ig hv.tm0 i
 have hroom : ((S.ip.l.length - S.ip.free.length : Nat) : Int) ≠ S.ip.most := by rw [hv.im]; omega
 have hgi : ∀ x ∈ S.ip.l, 0 ≤ x.g ∧ x.g ≤ 1000000 := fun x hx => by have := hv.ig x hx; omega
 have hgm := hlI_len I y.h
 have hw1 : w64 (((hlI I y.h).length : Int) + 1) = ((hlI I y.h).length : Int) + 1 := w64_in (by omega)
 have hnx := hv.nx
 have hw2 : w64 (S.next + 1) = S.next + 1 := w64_in (by omega)
 have e0 : AS.Eff (fun _ => True) (fun _ => True) 1 (0 + 3) S.α α1 := (((AS.take_eff (S := fun _ => True) (L := fun _ => True) hv.inv hc trivial trivial).put (f := 7) (v := key) (c := c) trivial).put (f := 8) (v := S.next) (c := c) trivial).trans hs1.eff
 have e1 : AS.Eff (fun _ => True) (fun _ => True) (1 + 1) (3 + limH (I.length + 1)) S.α β := by
  have hm : limH ((hlI I y.h).length + 1) ≤ limH (I.length + 1) := limH_mono (by omega)
  exact (e0.trans (heff.mono (fun _ _ => trivial) (fun _ _ => trivial) hm)).mono (fun _ h => h) (fun _ h => h) (by omega)
 simp only [sT_v, sC_, zI_, shB_v, zN_, nc_v, add_eq, Nat.zero_add, Q2 h7.h.right.right.own1, hR1 (o15.le h7.fr), ob_v, sP_v, sA_]
 refine ⟨?_, ?_⟩
 rotate_left
 refine nwB h7 fun b8 M8 l8 h8 => ?_
 refine ⟨Q2 h8.h.right.right.right.own1, hR1 (o15.le h8.fr), ?_⟩
 refine SPut_ok oT5 (h8.mapH Holds.dp) (by omega) hfy hv.io hl3 hl4 hl5 hgi hat hroom hfa hatc fun M9 oa' hfa' h9' => ?_
 have h9 := h9'.mapH Holds.up
 simp only [sT_v, sC_, sA_, zI_, zN_]
 refine stF gRef (by rfl) one2 h9 fun F10 M10 l10 o10 h10 => ?_
 rotate_left
 refine SPut_ok oT5 h7 (by omega) hfy hv.io hl3 hl4 hl5 hgi hat hroom hfa hatc fun M9 oa' hfa' h9 => ?_
 simp only [sT_v, sC_, sA_, zI_, zN_]
 refine boxF gRef (by rfl) one2 h9 fun b8 F10 M10 l10 o10 h10 => ?_
 all_goals
  have oT10 := oT5.le l10
  have o110 := o15.le l10
  have q10 := h10.h.right.right.own1
  simp only [nc_v, add_eq, Nat.zero_add, Q2 q10, hR1 (o110.le h10.fr), ob_v, sP_v, sA_, sC_, zI_, zN_]
  refine SRoot_ok oT10 h10 (by omega) hfy fun M11 h11 => ?_
  have q11 := h11.h.right.right.own1
  rw [hw1] at h11
  simp only [zI_, nc_v, add_eq, Nat.zero_add, Q3 q11, lB_ gRef (o10.le h11.fr), lB_ gEnt ((o5.le l10).le h11.fr), ob_v, sA_, sC_, zI_, zN_]
  have h12 := h11.perm (List.Perm.swap _ _ _)
  obtain ⟨g1, g2⟩ := h12.get List.mem_cons_self
  refine mupF (kf := refK) (vf := entK) (k := ((i : Int), S.ip.gen i)) (v := (key, S.next)) Tryz.underlying93 refK_ok g1 g2 hfe fun oe' hfe' => ?_
  have h13 := (h12.set (o' := oe')).perm (List.Perm.swap _ _ _)
  generalize Mem.set M11 me _ = M13 at h13 ⊢
  have q13 := h13.h.right.right.own1
  simp only [nc_v, add_eq, Nat.zero_add, Q4 q13, ob_v, zI_, hw2]
  refine st1W (o := 4) W.c2 (by simp) rfl rfl (h13.mapH Holds.third) fun M14 h14 => ?_
  change HO w0 F10 M14 _ (star (row1 q (qV a t me S.most (S.next + 1)) tQs) _) at h14
  have h15 := h14.mapH Holds.back3
  have hbl : (std PP w0).bld tAns [(2, .agg #[.int .i64 (i : Int), .int .i64 (S.ip.gen i)]), (3, .agg #[.int .i64 key, .int .i64 S.next])] = some (.agg (ansV 0 0 0 i (S.ip.gen i) key S.next 0).toArray) := by kernel_rfl
  simp only [lB_ gRef (o10.le h15.fr), lB_ gEnt ((o5.le l10).le h15.fr), ob_v, sA_, sC_, zI_, zN_, hbl]
  refine resB gAns (by rfl) ansV_one (h15.mapH Holds.up) fun M16 h16 => ?_
  exact hK M16 ⟨S.most, S.next + 1, β, S.hp.put y.h.1.toNat (y.k, r', ((hlI I y.h).length : Int) + 1), S.ip.take z3 i ((c : Int), y.h.1, y.h.2), updM S.at_ (c : Int) (some ((i : Int), S.ip.gen i)), updM S.en ((i : Int), S.ip.gen i) (some (key, S.next))⟩ oa' oe' i { y with root := r', N := N' } hat hfa' hfe' (((h16.uF_ l10).uF_ l5).uF_ l1) rfl rfl ⟨c, hv'⟩ rfl rfl (PS.pl_take _ _ _ hat hv.io.lt) ⟨_, _, _, e1⟩
end
end Go.Proofs.YtodobkbnmjgkdaaGreat.HL
namespace Go.Proofs.YtodobkbnmjgkdaaGreat.HL
open Go.RowKit (Below)
open Go.Proofs
section
variable {w0 : World} {F M : Mem} {R : VP} {os : Obs} {q a t bh bi ma me : Nat} {S : QS} {Q : Asn} {I : List Itm} {H : List Hv} {tm most next : Int} {oa oe : Obj}
theorem lkE {A : Asn} {en : RefK → Option Ent} {r : RefK} {e : Ent} (h : HO w0 F M os A) (hm : (me, oe) ∈ os) (hfe : MapF refK entK en oe) (hen : en r = some e) :
  (std PP w0).lk 93 (.map (some me)) (.agg #[.int .i64 r.1, .int .i64 r.2]) false M = some (.agg #[.int .i64 e.1, .int .i64 e.2]) := by
 obtain ⟨inf, hi, hz, _⟩ := W.e44
 obtain ⟨g1, g2⟩ := h.get hm
 have hlk := (lkF (k := r) Tryz.underlying93 refK_ok hi hz g1 g2 hfe).1
 rw [hen] at hlk
 exact hlk
theorem QGone_ok {r : RefK} {v : V3} {e : Ent} (oT : Own w0 F t (tbV bh bi ma) tTb) (hb : S.ip.l.length ≤ 10000) (hfb : S.ip.free.length ≤ 10000) (hfa : MapF (Value.int .i64) refK S.at_ oa) (hfe : MapF refK entK S.en oe) (hw : S.ip.find r.1 r.2 = some v) (hen : S.en r = some e)
  (h : HO w0 F M ((ma, oa) :: (me, oe) :: os) (QA q a t bh bi me S Q))
  (hK : ∀ M' oa' oe' γ, MapF (Value.int .i64) refK (updM S.at_ v.1 none) oa' → MapF refK entK (updM S.en r none) oe' → AS.Sm 1 (S.α.giveI v.1) γ → γ.Inv →
   HO w0 F M' ((ma, oa') :: (me, oe') :: os) (QA q a t bh bi me ⟨S.most, S.next, γ, S.hp, S.ip.give z3 r.1.toNat, updM S.at_ v.1 none, updM S.en r none⟩ Q) → R (entK e) M') :
  C PP w0 Id.pQ_gone #[.pointer (some ⟨q, 0, none⟩), .agg #[.int .i64 r.1, .int .i64 r.2]] R M := by
 apply pQ_gone.go
 unfold pQ_gone.T nfz
 refine nwA h fun b1 F1 M1 l1 lm1 o1 h1 => ?_
 have oT1 := oT.le l1
 refine nwB h1 fun b3 M2 lm2 h2' => ?_
 have h2 := h2'.mapH Holds.dp
 simp only [nc_v, add_eq, Nat.zero_add, Q2 h2.qo, ob_v, sP_v, lB_ gRef (o1.le h2.fr), sA_, sC_, zI_, zN_]
 refine STake_ok oT1 (h2.mapH Holds.rot) hb hfb hfa hw fun M3 oa' hfa' h3' => ?_
 have h3 := h3'.mapH Holds.rot
 simp only [sT_v, sC_, zI_, zN_, nc_v, add_eq, Nat.zero_add, Q1 h3.h.right.right.own1, ob_v, sP_v]
 obtain ⟨F4, hA, l4, back4⟩ := h3.focA
 refine Give_ok hA fun M4 hB => ?_
 have hi4 := hB.inv
 have h4 := back4 M4 _ hB
 simp only [shB_v, Q3 h4.h.right.right.own1, lB_ gRef (o1.le h4.fr), ob_v, sA_, sC_, zI_, zN_, lkE (me := me) h4 (by simp) hfe hen]
 refine nwB h4 fun b5 M5 lm5 h5 => ?_
 refine ⟨Q3 h5.h.right.right.right.own1, lB_ gRef (o1.le h5.fr), lkE h5 (by simp) hfe hen, ?_⟩
 refine stF gEnt (by rfl) one2 h5 fun F6 M6 l6 o6 h6 => ?_
 simp only [Q3 h6.h.right.right.own1, lB_ gRef ((o1.le l6).le h6.fr), ob_v, sA_, sC_, zI_, zN_]
 have h6p := h6.perm (List.Perm.swap _ _ _)
 obtain ⟨g1, g2⟩ := h6p.get List.mem_cons_self
 refine delF (k := r) rfl Tryz.underlying93 refK_ok g1 g2 hfe fun oe' hfe' => ?_
 have h7 := (h6p.set (o' := oe')).perm (List.Perm.swap _ _ _)
 generalize Mem.set M6 me _ = M7 at h7 ⊢
 simp only [lB_ gEnt (o6.le h7.fr), ob_v, sA_, sC_, zI_, zN_]
 refine resB gEnt (by rfl) one2 (h7.mapH Holds.up) fun M8 h8 => ?_
 exact hK M8 oa' oe' _ hfa' hfe' AS.tick_sm hi4 ((h8.uF_ l6).uF_ l1)
end
end Go.Proofs.YtodobkbnmjgkdaaGreat.HL
namespace Go.Proofs.YtodobkbnmjgkdaaGreat.HL
open Go.RowKit (Below)
open Go.Proofs
section
variable {w0 : World} {F M : Mem} {R : VP} {os : Obs} {q a t bh bi ma me : Nat} {S : QS} {Q : Asn} {I : List Itm} {H : List Hv} {tm most next : Int} {oa oe : Obj}
theorem QRemove_ok {IA IB : List Itm} {x : Itm} {A B : List Hv} {y : Hv} (oT : Own w0 F t (tbV bh bi ma) tTb) (hv : QInv S (IA ++ x :: IB) (A ++ y :: B) tm) (hxy : x.h = y.h)
  (hfa : MapF (Value.int .i64) refK S.at_ oa) (hfe : MapF refK entK S.en oe) (h : HO w0 F M ((ma, oa) :: (me, oe) :: os) (QA q a t bh bi me S Q))
  (hK : ∀ M' S' oa' oe' y', MapF (Value.int .i64) refK S'.at_ oa' → MapF refK entK S'.en oe' → HO w0 F M' ((ma, oa') :: (me, oe') :: os) (QA q a t bh bi me S' Q) →
   y'.h = y.h → y'.k = y.k → QInv S' (IA ++ IB) (A ++ y' :: B) (tm + 1) → S'.most = S.most → S'.next = S.next → S'.ip.pl = S.ip.pl.give x.r.1.toNat → (∃ Sx Lx d, AS.Eff Sx Lx d (limH (IA ++ x :: IB).length + 1) S.α S'.α) →
   R (.agg (ansV 0 0 0 0 0 x.e.1 x.e.2 0).toArray) M') :
  C PP w0 Id.pQ_remove #[.pointer (some ⟨q, 0, none⟩), .agg #[.int .i64 x.r.1, .int .i64 x.r.2]] R M := by
 have hyM : y ∈ A ++ y :: B := by simp
 have hxM : x ∈ IA ++ x :: IB := by simp
 obtain ⟨hl1, hl2⟩ := hv.hpl
 obtain ⟨hl3, hl4, hl5⟩ := hv.ipl
 have hfy := hv.hf y hyM
 have hjx := hv.jf x hxM
 apply pQ_remove.go
 unfold pQ_remove.T nfz
 refine nwA h fun b1 F1 M1 l1 lm1 o1 h1 => ?_
 have oT1 := oT.le l1
 refine nwB h1 fun b3 M2 lm2 h2' => ?_
 have h2 := h2'.mapH Holds.dp
 simp only [nc_v, add_eq, Nat.zero_add, Q2 h2.qo, ob_v, sP_v, lB_ gRef (o1.le h2.fr), sA_, sC_, zI_, zN_]
 refine SCell_ok oT1 (h2.mapH Holds.rot) (by omega) hjx fun M3 h3' => ?_
 have h3 := h3'.mapH Holds.rot
 simp only [sT_v, sC_, zI_, zN_]
 rw [bs_bne, if_pos rfl]
 simp only [nc_v, add_eq, Nat.zero_add, Q2 h3.qo, ob_v, sP_v, lB_ gRef (o1.le h3.fr), sA_, sC_, zI_, zN_]
 have hP : (hlI (IA ++ x :: IB) y.h).Perm ((x.c, x.e) :: hlI (IA ++ IB) y.h) := by rw [← hxy]; exact hlI_mid IA IB x
 have hlen := hv.len
 have hm2 := hv.m2
 have hgm := hlI_len (IA ++ x :: IB) y.h
 have hPl := hP.length_eq
 rw [List.length_cons] at hPl
 have hw1 : w64 (((hlI (IA ++ x :: IB) y.h).length : Int) - 1) = ((hlI (IA ++ x :: IB) y.h).length : Int) - 1 := w64_in (by omega)
 have hkh0 := (hv.hs.kh y hyM).perm hP (List.Perm.refl _)
 have hfy' : S.hp.find x.h.1 x.h.2 = some (y.k, y.root, ((hlI (IA ++ x :: IB) y.h).length : Int)) := by rw [hxy]; exact hfy
 refine ⟨?_, ?_⟩
 rotate_left
 refine nwB h3 fun b4 M4 lm4 h4 => ?_
 refine ⟨Q2 h4.h.right.right.right.own1, lB_ gRef (o1.le h4.fr), ?_⟩
 refine SOf_ok oT1 ((h4.mapH Holds.rot).mapH fun h => (h.inn fun _ _ h => h.rot).rot) (by omega) hjx fun M5 h5 => ?_
 simp only [sT_v, sC_, sA_, zI_, zN_]
 refine stF gRef (by rfl) one2 (h5.mapH fun h => (h.rot.inn fun _ _ h => h.rot).rot) fun F6 M6 l6 o6 h6 => ?_
 rotate_left
 refine SOf_ok oT1 (h3.mapH Holds.rot) (by omega) hjx fun M5 h5 => ?_
 simp only [sT_v, sC_, sA_, zI_, zN_]
 refine boxF gRef (by rfl) one2 (h5.mapH Holds.rot) fun b4 F6 M6 l6 o6 h6 => ?_
 all_goals
  have oT6 := oT1.le l6
  have o16 := o1.le l6
  simp only [nc_v, add_eq, Nat.zero_add, Q2 h6.h.right.right.own1, ob_v, sP_v, lB_ gRef (o6.le h6.fr), sA_, sC_, zI_, zN_]
  refine SHeap_ok oT6 h6 (by omega) hfy' fun M7 h7 => ?_
  simp only [sT_v, sC_, zI_, zN_, nc_v, add_eq, Nat.zero_add, Q2 h7.h.right.right.own1, Q1 h7.h.right.right.own1, ob_v, sP_v, lB_ gRef (o6.le h7.fr), sA_]
  obtain ⟨F8, hA, l8, back8⟩ := h7.focA
  refine kCut_ok hA hkh0 (by omega) fun n hn M8 β r' N' hB hkh hless hxL heff => ?_
  have hβ := hB.inv
  have h8 := back8 M8 _ hB
  simp only [zI_]
  refine ⟨Q2 h8.h.right.right.own1, lB_ gRef (o6.le h8.fr), ?_⟩
  refine SRoot_ok oT6 h8 (by omega) hfy' fun M9 h9 => ?_
  rw [hw1] at h9
  simp only [zI_, lB_ gRef (o16.le h9.fr), ob_v, sA_, sC_, zN_]
  have hcK : ∀ c, c ∈ celK ((x.c, x.e) :: hlI (IA ++ IB) y.h) y.N ↔ c ∈ celH (IA ++ x :: IB) y := fun c => (celK_perm hP (List.Perm.refl y.N)).mem_iff.symm
  refine QGone_ok (S := ⟨S.most, S.next, β, S.hp.put x.h.1.toNat (y.k, r', ((hlI (IA ++ x :: IB) y.h).length : Int) - 1), S.ip, S.at_, S.en⟩) (r := x.r) (e := x.e) oT6 hl3 hl4 hfa hfe hjx (hv.en1 x hxM) h9 fun M10 oa' oe' γ hfa' hfe' hs hγ h10 => ?_
  have e1 : AS.Eff (fun c => c ∈ celH (IA ++ x :: IB) y) (· = n) (-1) (limH ((hlI (IA ++ IB) y.h).length + 1)) S.α β := heff.mono (fun c hc => (hcK c).1 hc) (fun _ h => h) (Int.le_refl _)
  have hv' := hv.remove hxy hP hkh (fun c hc => (hcK c).1 (hless c hc)) hxL hn e1 hβ hs hγ
  have hbl : (std PP w0).bld tAns [(3, .agg #[.int .i64 x.e.1, .int .i64 x.e.2])] = some (.agg (ansV 0 0 0 0 0 x.e.1 x.e.2 0).toArray) := by kernel_rfl
  simp only [entK, sA_, sC_, zI_, zN_, hbl, ob_v]
  refine resB gAns (by rfl) ansV_one (h10.mapH Holds.up) fun M11 h11 => ?_
  obtain ⟨ka, ka1, ka2, ka3⟩ := PS.find_some hjx
  have hxl : β.live x.c = true := by
   have hxn : x.c ≠ n := fun e => by
    have hyn := hkh0.nd
    exact (List.nodup_append.1 hyn).2.2 n hn x.c (List.mem_map.2 ⟨(x.c, x.e), List.mem_cons_self, rfl⟩) e.symm
   rw [heff.live _ hxn]; exact hv.itemLive hxM
  have hgv : β.giveI (x.c : Int) = β.unlive x.c := AS.giveI_live hxl
  have hm : limH ((hlI (IA ++ IB) y.h).length + 1) ≤ limH (IA ++ x :: IB).length := limH_mono (by omega)
  have e2 : AS.Eff (fun _ => True) (fun _ => True) (-1 + -1 + 0) (limH (IA ++ x :: IB).length + 0 + 1) S.α γ :=
   ((e1.mono (fun _ _ => trivial) (fun c hc => trivial) hm).trans (AS.unlive_eff hβ hxl trivial)).trans (by rw [← hgv]; exact hs.eff)
  refine hK M11 _ oa' oe' { y with root := r', N := N' } hfa' hfe' ((h11.uF_ l6).uF_ l1) rfl rfl (by rw [hxy]; exact hv') rfl rfl (PS.pl_give _ _ ?_) ⟨_, _, _, e2.mono (fun _ h => h) (fun _ h => h) (by omega)⟩
  rw [ka1, Int.toNat_natCast]
  exact (List.getElem?_eq_some_iff.1 ka2).1
end
end Go.Proofs.YtodobkbnmjgkdaaGreat.HL
namespace Go.Proofs.YtodobkbnmjgkdaaGreat.HL
open Go.RowKit (Below)
open Go.Proofs
section
variable {w0 : World} {F M : Mem} {R : VP} {os : Obs} {q a t bh bi ma me : Nat} {S : QS} {Q : Asn} {I : List Itm} {H : List Hv} {tm most next : Int} {oa oe : Obj}
theorem QMinNo_ok {A B : List Hv} {y : Hv} {out : Bool} (oT : Own w0 F t (tbV bh bi ma) tTb) (hv : QInv S I (A ++ y :: B) tm) (hno : hlI I y.h = [])
  (h : HO w0 F M os (QA q a t bh bi me S Q))
  (hK : ∀ M', HO w0 F M' os (QA q a t bh bi me S Q) → R (.agg (ansV 27 0 0 0 0 0 0 0).toArray) M') :
  C PP w0 Id.pQ_min #[.pointer (some ⟨q, 0, none⟩), .agg #[.int .i64 y.h.1, .int .i64 y.h.2], .bool out] R M := by
 have hyM : y ∈ A ++ y :: B := by simp
 obtain ⟨hl1, hl2⟩ := hv.hpl
 have hfy := hv.hf y hyM
 rw [hno] at hfy
 apply pQ_min.go
 unfold pQ_min.T nfz
 refine nwA h fun b1 F1 M1 l1 lm1 o1 h1 => ?_
 have oT1 := oT.le l1
 refine nwB h1 fun b3 M2 lm2 h2' => ?_
 have h2 := h2'.mapH Holds.dp
 simp only [nc_v, add_eq, Nat.zero_add, Q2 h2.qo, ob_v, sP_v, lB_ gRef (o1.le h2.fr), sA_, sC_, zI_, zN_]
 refine SHeap_ok oT1 h2 (by omega) hfy fun M3 h3 => ?_
 simp only [sT_v, sC_, zI_, zN_]
 rw [bs_bne, if_pos rfl, bQ_, if_pos (show (([] : List Held).length : Int) = 0 from rfl)]
 refine QRefused_ok h3 fun M4 h4 => ?_
 simp only [sA_, sC_, zI_, zN_]
 exact resB gAns (by rfl) ansV_one (h4.mapH Holds.up) fun M5 h5 => hK M5 (h5.uF_ l1)
theorem QMinF_ok {A B : List Hv} {y : Hv} (oT : Own w0 F t (tbV bh bi ma) tTb) (hv : QInv S I (A ++ y :: B) tm) (hne : hlI I y.h ≠ [])
  (hfa : MapF (Value.int .i64) refK S.at_ oa) (hfe : MapF refK entK S.en oe) (h : HO w0 F M ((ma, oa) :: (me, oe) :: os) (QA q a t bh bi me S Q))
  (hK : ∀ M' β x, x ∈ I → x.h = y.h → (∀ z ∈ I, z.h = y.h → z.c ≠ x.c → Bf x.held z.held) → AS.Sm (limH I.length) S.α β → β.Inv → HO w0 F M' ((ma, oa) :: (me, oe) :: os) (QA q a t bh bi me { S with α := β } Q) → R (.agg (ansV 0 0 0 x.r.1 x.r.2 x.e.1 x.e.2 0).toArray) M') :
  C PP w0 Id.pQ_min #[.pointer (some ⟨q, 0, none⟩), .agg #[.int .i64 y.h.1, .int .i64 y.h.2], .bool false] R M := by
 have hyM : y ∈ A ++ y :: B := by simp
 obtain ⟨hl1, hl2⟩ := hv.hpl
 have hfy := hv.hf y hyM
 have hgm := hlI_len I y.h
 have hpos : ((hlI I y.h).length : Int) ≠ 0 := fun e => hne (List.eq_nil_of_length_eq_zero (by omega))
 apply pQ_min.go
 unfold pQ_min.T nfz
 refine nwA h fun b1 F1 M1 l1 lm1 o1 h1 => ?_
 have oT1 := oT.le l1
 refine nwB h1 fun b3 M2 lm2 h2' => ?_
 have h2 := h2'.mapH Holds.dp
 simp only [nc_v, add_eq, Nat.zero_add, Q2 h2.qo, ob_v, sP_v, lB_ gRef (o1.le h2.fr), sA_, sC_, zI_, zN_]
 refine SHeap_ok oT1 h2 (by omega) hfy fun M3 h3 => ?_
 simp only [sT_v, sC_, zI_, zN_]
 rw [bs_bne, if_pos rfl, bQ_, if_neg hpos, Bool.not_false, bs_true]
 simp only [nc_v, add_eq, Nat.zero_add, Q2 h3.qo, Q1 h3.qo, ob_v, sP_v]
 have hfin : ∀ (x : Held), x ∈ hlI I y.h → (∀ z ∈ hlI I y.h, z.1 ≠ x.1 → Bf x z) → ∃ u ∈ I, u.h = y.h ∧ u.held = x ∧ S.at_ (x.1 : Int) = some u.r ∧ (∀ z ∈ I, z.h = y.h → z.c ≠ u.c → Bf u.held z.held) := by
  intro x hx hb
  obtain ⟨u, hu, e1, e2⟩ := hlI_mem.1 hx
  refine ⟨u, hu, e1, e2, by rw [← e2]; exact hv.at1 u hu, fun z hz ez hc => ?_⟩
  rw [e2]
  exact hb z.held (hlI_mem.2 ⟨z, hz, ez, rfl⟩) (by rw [← e2]; exact hc)
 refine ⟨?_, ?_⟩
 rotate_left
 refine nwB h3 fun b4 M4 lm4 h4 => ?_
 refine ⟨Q2 h4.h.right.right.right.own1, Q1 h4.h.right.right.right.own1, ?_⟩
 obtain ⟨F5, hA, l5, back5⟩ := (h4.mapH Holds.dp).focA
 refine kMin_ok hA (hv.hs.kh y hyM) hne fun x hx hb M5 β hB hs => ?_
 have hβ := hB.inv
 obtain ⟨u, hu, hu1, hu2, hu3, hu4⟩ := hfin x hx hb
 have h5 := (back5 M5 _ hB).mapH Holds.up
 rw [zI_]
 refine ⟨Q2 h5.h.right.right.right.own1, ?_⟩
 refine SAt_ok oT1 h5 List.mem_cons_self hfa hu3 fun M6 h6 => ?_
 simp only [sT_v, sC_, sA_, zI_, shB_v, zN_]
 refine stF gRef (by rfl) one2 h6 fun F7 M7 l7 o7 h7 => ?_
 rotate_left
 obtain ⟨F5, hA, l5, back5⟩ := h3.focA
 refine kMin_ok hA (hv.hs.kh y hyM) hne fun x hx hb M5 β hB hs => ?_
 have hβ := hB.inv
 obtain ⟨u, hu, hu1, hu2, hu3, hu4⟩ := hfin x hx hb
 have h5 := back5 M5 _ hB
 rw [zI_]
 refine ⟨Q2 h5.h.right.right.own1, ?_⟩
 refine ⟨?_, ?_⟩
 rotate_left
 refine nwB h5 fun b4 M6' lm6 h6' => ?_
 refine ⟨Q2 h6'.h.right.right.right.own1, ?_⟩
 refine SAt_ok oT1 h6' List.mem_cons_self hfa hu3 fun M6 h6 => ?_
 simp only [sT_v, sC_, sA_, zI_, shB_v, zN_]
 refine stF gRef (by rfl) one2 h6 fun F7 M7 l7 o7 h7 => ?_
 rotate_left 2
 refine SAt_ok oT1 h5 List.mem_cons_self hfa hu3 fun M6 h6 => ?_
 simp only [sT_v, sC_, sA_, zI_, shB_v, zN_]
 refine boxF gRef (by rfl) one2 h6 fun b4 F7 M7 l7 o7 h7 => ?_
 all_goals
  have hbl : (std PP w0).bld tAns [(2, .agg #[.int .i64 u.r.1, .int .i64 u.r.2]), (3, .agg #[.int .i64 u.e.1, .int .i64 u.e.2])] = some (.agg (ansV 0 0 0 u.r.1 u.r.2 u.e.1 u.e.2 0).toArray) := by kernel_rfl
  simp only [nc_v, add_eq, Nat.zero_add, Q3 h7.h.right.right.own1, lB_ gRef (o7.le h7.fr), ob_v, sA_, sC_, zI_, zN_, lkE (me := me) h7 (by simp) hfe (hv.en1 u hu), hbl]
  refine resB gAns (by rfl) ansV_one (h7.mapH Holds.up) fun M8 h8 => ?_
  exact hK M8 β u hu hu1 hu4 (hs.mono (limH_mono hgm)) hβ ((h8.uF_ l7).uF_ l1)
theorem QMinD_ok {A B : List Hv} {y : Hv} (oT : Own w0 F t (tbV bh bi ma) tTb) (hv : QInv S I (A ++ y :: B) tm) (hne : hlI I y.h ≠ [])
  (hfa : MapF (Value.int .i64) refK S.at_ oa) (hfe : MapF refK entK S.en oe) (h : HO w0 F M ((ma, oa) :: (me, oe) :: os) (QA q a t bh bi me S Q))
  (hK : ∀ M' S' oa' oe' y' IA x IB, I = IA ++ x :: IB → x.h = y.h → (∀ z ∈ I, z.h = y.h → z.c ≠ x.c → Bf x.held z.held) → MapF (Value.int .i64) refK S'.at_ oa' → MapF refK entK S'.en oe' → HO w0 F M' ((ma, oa') :: (me, oe') :: os) (QA q a t bh bi me S' Q) →
   y'.h = y.h → y'.k = y.k → QInv S' (IA ++ IB) (A ++ y' :: B) (tm + 1) → S'.most = S.most → S'.next = S.next → S'.ip.pl = S.ip.pl.give x.r.1.toNat → (∃ Sx Lx d, AS.Eff Sx Lx d (limH I.length + 1) S.α S'.α) →
   R (.agg (ansV 0 0 0 x.r.1 x.r.2 x.e.1 x.e.2 0).toArray) M') :
  C PP w0 Id.pQ_min #[.pointer (some ⟨q, 0, none⟩), .agg #[.int .i64 y.h.1, .int .i64 y.h.2], .bool true] R M := by
 have hyM : y ∈ A ++ y :: B := by simp
 obtain ⟨hl1, hl2⟩ := hv.hpl
 obtain ⟨hl3, hl4, hl5⟩ := hv.ipl
 have hfy := hv.hf y hyM
 have hgm := hlI_len I y.h
 have hpos : ((hlI I y.h).length : Int) ≠ 0 := fun e => hne (List.eq_nil_of_length_eq_zero (by omega))
 have hlen := hv.len
 have hm2 := hv.m2
 have hw1 : w64 (((hlI I y.h).length : Int) - 1) = ((hlI I y.h).length : Int) - 1 := w64_in (by omega)
 apply pQ_min.go
 unfold pQ_min.T nfz
 refine nwA h fun b1 F1 M1 l1 lm1 o1 h1 => ?_
 have oT1 := oT.le l1
 refine nwB h1 fun b3 M2 lm2 h2' => ?_
 have h2 := h2'.mapH Holds.dp
 simp only [nc_v, add_eq, Nat.zero_add, Q2 h2.qo, ob_v, sP_v, lB_ gRef (o1.le h2.fr), sA_, sC_, zI_, zN_]
 refine SHeap_ok oT1 h2 (by omega) hfy fun M3 h3 => ?_
 simp only [sT_v, sC_, zI_, zN_]
 rw [bs_bne, if_pos rfl, bQ_, if_neg hpos, Bool.not_true, bF_]
 simp only [nc_v, add_eq, Nat.zero_add, Q1 h3.qo, ob_v, sP_v]
 obtain ⟨F5, hA, l5, back5⟩ := h3.focA
 refine kPop_ok hA (hv.hs.kh y hyM) hne (by omega) fun x0 L' hP hb n hn M5 β r' N' hB hkh hless hxL heff => ?_
 have hβ := hB.inv
 obtain ⟨x, hx, hxy, hxe⟩ := hlI_mem.1 (hP.mem_iff.2 List.mem_cons_self)
 have hbx : ∀ z ∈ I, z.h = y.h → z.c ≠ x.c → Bf x.held z.held := fun z hz ez hc => by
  rw [hxe]
  exact hb z.held (hlI_mem.2 ⟨z, hz, ez, rfl⟩) (by rw [← hxe]; exact hc)
 have hc0 : x0.1 = x.c := by rw [← hxe]; rfl
 rw [hc0] at hxL ⊢
 obtain ⟨IA, IB, hI⟩ := List.append_of_mem hx
 rw [← hxe] at hP
 have hjx := hv.jf x hx
 have h5 := back5 M5 _ hB
 simp only [sT_v, sC_, zI_, zN_, nc_v, add_eq, Nat.zero_add, Q2 h5.h.right.right.own1, ob_v, sP_v]
 refine SAt_ok oT1 h5 List.mem_cons_self hfa (hv.at1 x hx) fun M6 h6 => ?_
 simp only [sT_v, sC_, sA_, zI_, shB_v, zN_]
 refine boxF gRef (by rfl) one2 h6 fun b4 F7 M7 l7 o7 h7 => ?_
 have oT7 := oT1.le l7
 have o17 := o1.le l7
 simp only [nc_v, add_eq, Nat.zero_add, Q2 h7.h.right.right.own1, ob_v, sP_v, lB_ gRef (o17.le h7.fr), sA_, sC_, zI_, zN_]
 refine SRoot_ok oT7 h7 (by omega) hfy fun M9 h9 => ?_
 rw [hw1] at h9
 simp only [zI_, lB_ gRef (o7.le h9.fr), ob_v, sA_, sC_, zN_]
 refine QGone_ok (S := ⟨S.most, S.next, β, S.hp.put y.h.1.toNat (y.k, r', ((hlI I y.h).length : Int) - 1), S.ip, S.at_, S.en⟩) (r := x.r) (e := x.e) oT7 hl3 hl4 hfa hfe hjx (hv.en1 x hx) h9 fun M10 oa' oe' γ hfa' hfe' hs hγ h10 => ?_
 subst hI
 have hv' := hv.remove hxy hP hkh hless hxL hn heff hβ hs hγ
 have hbl : (std PP w0).bld tAns [(2, .agg #[.int .i64 x.r.1, .int .i64 x.r.2]), (3, .agg #[.int .i64 x.e.1, .int .i64 x.e.2])] = some (.agg (ansV 0 0 0 x.r.1 x.r.2 x.e.1 x.e.2 0).toArray) := by kernel_rfl
 simp only [entK, sA_, sC_, zI_, zN_, hbl, ob_v]
 refine ⟨lB_ gRef (o7.le h10.fr), ?_⟩
 refine resB gAns (by rfl) ansV_one (h10.mapH Holds.up) fun M11 h11 => ?_
 obtain ⟨ka, ka1, ka2, ka3⟩ := PS.find_some hjx
 have hxl : β.live x.c = true := by
  have hxn : x.c ≠ n := fun e => by
   have hyn := (hv.hs.kh y hyM).nd
   exact (List.nodup_append.1 hyn).2.2 n hn x.c (List.mem_map.2 ⟨x.held, hP.mem_iff.2 List.mem_cons_self, rfl⟩) e.symm
  rw [heff.live _ hxn]; exact hv.itemLive hx
 have hgv : β.giveI (x.c : Int) = β.unlive x.c := AS.giveI_live hxl
 have hm : limH (hlI (IA ++ x :: IB) y.h).length ≤ limH (IA ++ x :: IB).length := limH_mono (by omega)
 have e2 : AS.Eff (fun _ => True) (fun _ => True) (-1 + -1 + 0) (limH (IA ++ x :: IB).length + 0 + 1) S.α γ :=
  ((heff.mono (fun _ _ => trivial) (fun c hc => trivial) hm).trans (AS.unlive_eff hβ hxl trivial)).trans (by rw [← hgv]; exact hs.eff)
 refine hK M11 _ oa' oe' { y with root := r', N := N' } IA x IB rfl hxy hbx hfa' hfe' ((h11.uF_ l7).uF_ l1) rfl rfl hv' rfl rfl (PS.pl_give _ _ ?_) ⟨_, _, _, e2.mono (fun _ h => h) (fun _ h => h) (by omega)⟩
 rw [ka1, Int.toNat_natCast]
 exact (List.getElem?_eq_some_iff.1 ka2).1
end
end Go.Proofs.YtodobkbnmjgkdaaGreat.HL
namespace Go.Proofs.YtodobkbnmjgkdaaGreat.HL
open Go.RowKit (Below)
open Go.Proofs
section
variable {w0 : World} {F M : Mem} {R : VP} {os : Obs} {q a t bh bi ma me : Nat} {S : QS} {Q : Asn} {I : List Itm} {H : List Hv} {tm most next : Int} {oa oe : Obj}
theorem QDecrease_ok {IA IB : List Itm} {x : Itm} {A B : List Hv} {y : Hv} {op k g1' g2' p1 p2 key : Int} (oT : Own w0 F t (tbV bh bi ma) tTb) (hv : QInv S (IA ++ x :: IB) (A ++ y :: B) tm) (hxy : x.h = y.h) (hkey : key ≤ x.e.1)
  (hfa : MapF (Value.int .i64) refK S.at_ oa) (hfe : MapF refK entK S.en oe) (h : HO w0 F M ((ma, oa) :: (me, oe) :: os) (QA q a t bh bi me S Q))
  (hK : ∀ M' S' oe' y', MapF (Value.int .i64) refK S'.at_ oa → MapF refK entK S'.en oe' → HO w0 F M' ((ma, oa) :: (me, oe') :: os) (QA q a t bh bi me S' Q) →
   y'.h = y.h → y'.k = y.k → QInv S' (IA ++ { x with e := (key, x.e.2) } :: IB) (A ++ y' :: B) tm → S'.most = S.most → S'.next = S.next → S'.ip = S.ip → (∃ Sx Lx d, AS.Eff Sx Lx d (2 + limH (IA ++ x :: IB).length) S.α S'.α) →
   R (.agg (ansV 0 0 0 0 0 key x.e.2 0).toArray) M') :
  C PP w0 Id.pQ_decrease #[.pointer (some ⟨q, 0, none⟩), .agg (callV op k g1' g2' p1 p2 x.r.1 x.r.2 key).toArray] R M := by
 have hyM : y ∈ A ++ y :: B := by simp
 have hxM : x ∈ IA ++ x :: IB := by simp
 obtain ⟨hl1, hl2⟩ := hv.hpl
 obtain ⟨hl3, hl4, hl5⟩ := hv.ipl
 have hfy := hv.hf y hyM
 have hjx := hv.jf x hxM
 have hfy' : S.hp.find x.h.1 x.h.2 = some (y.k, y.root, ((hlI (IA ++ x :: IB) y.h).length : Int)) := by rw [hxy]; exact hfy
 have hP : (hlI (IA ++ x :: IB) y.h).Perm ((x.c, x.e) :: hlI (IA ++ IB) y.h) := by rw [← hxy]; exact hlI_mid IA IB x
 have hkh0 := (hv.hs.kh y hyM).perm hP (List.Perm.refl _)
 obtain ⟨il, i7, i8⟩ := hkh0.item List.mem_cons_self
 have hgm := hlI_len (IA ++ x :: IB) y.h
 have hPl := hP.length_eq
 rw [List.length_cons] at hPl
 apply pQ_decrease.go
 unfold pQ_decrease.T nfz
 refine nwA h fun b1 F1 M1 l1 lm1 o1 h1 => ?_
 have oT1 := oT.le l1
 refine nwB h1 fun b3 M2 lm2 h2' => ?_
 have h2 := h2'.mapH Holds.dp
 have hR1 : ∀ {M' : Mem} {e : TypeId}, Own w0 M' b1 (callV op k g1' g2' p1 p2 x.r.1 x.r.2 key) e → (std PP w0).ld 33 ⟨b1, 6, none⟩ M' = some (.agg #[.int .i64 x.r.1, .int .i64 x.r.2]) := fun o => ldSub (vs := [.int .i64 x.r.1, .int .i64 x.r.2]) gRef o (sub2 rfl rfl)
 have hR2 : ∀ {M' : Mem} {e : TypeId}, Own w0 M' b1 (callV op k g1' g2' p1 p2 x.r.1 x.r.2 key) e → (std PP w0).ld 2 ⟨b1, 8, none⟩ M' = some (.int .i64 key) := fun o => ld1 W.c2 o rfl
 simp only [nc_v, add_eq, Nat.zero_add, Q2 h2.qo, ob_v, sP_v, hR1 (o1.le h2.fr), sA_, sC_, zI_, zN_]
 refine SCell_ok oT1 (h2.mapH Holds.rot) (by omega) hjx fun M3 h3' => ?_
 have h3 := h3'.mapH Holds.rot
 simp only [sT_v, sC_, zI_, zN_, nc_v, add_eq, Nat.zero_add, Q3 h3.qo, ob_v, hR1 (o1.le h3.fr), sA_, lkE (me := me) h3 (by simp) hfe (hv.en1 x hxM)]
 refine nwB h3 fun b4 M4 lm4 h4 => ?_
 refine ⟨Q3 h4.h.right.right.right.own1, hR1 (o1.le h4.fr), lkE (me := me) h4 (by simp) hfe (hv.en1 x hxM), ?_⟩
 refine stW gEnt (by rfl) one2 h4 fun M5 h5' => ?_
 rw [bs_bne, if_pos rfl]
 have e5 := h5'.h.own1
 have h5 := h5'.mapH Holds.dp
 simp only [nc_v, add_eq, Nat.zero_add, hR2 (o1.le h5.fr), ld1 W.c2 e5 (o := 0) rfl, ob_v, zI_]
 rw [bD_, if_neg (by omega)]
 simp only [nc_v, add_eq, Nat.zero_add, Q2 h5.qo, ob_v, sP_v, hR1 (o1.le h5.fr), sA_, sC_, zI_, zN_]
 refine ⟨?_, ?_⟩
 rotate_left
 refine nwB h5 fun b6 M6' lm6 h6' => ?_
 refine ⟨Q2 h6'.h.right.right.right.own1, hR1 (o1.le h6'.fr), ?_⟩
 refine SOf_ok oT1 ((h6'.mapH Holds.rot).mapH fun h => (h.inn fun _ _ h => h.rot).rot) (by omega) hjx fun M6 h6 => ?_
 simp only [sT_v, sC_, sA_, zI_, zN_]
 refine stF gRef (by rfl) one2 (h6.mapH fun h => (h.rot.inn fun _ _ h => h.rot).rot) fun F7 M7 l7 o7 h7 => ?_
 rotate_left
 refine SOf_ok oT1 (h5.mapH Holds.rot) (by omega) hjx fun M6 h6 => ?_
 simp only [sT_v, sC_, sA_, zI_, zN_]
 refine boxF gRef (by rfl) one2 (h6.mapH Holds.rot) fun b6 F7 M7 l7 o7 h7 => ?_
 all_goals
  have oT7 := oT1.le l7
  have o17 := o1.le l7
  simp only [nc_v, add_eq, Nat.zero_add, Q2 h7.h.right.right.own1, ob_v, sP_v, lB_ gRef (o7.le h7.fr), sA_, sC_, zI_, zN_]
  refine SHeap_ok oT7 h7 (by omega) hfy' fun M8 h8 => ?_
  simp only [sT_v, sC_, zI_, zN_, nc_v, add_eq, Nat.zero_add, Q1 h8.h.right.right.own1, ob_v, sP_v, hR2 (o17.le h8.fr)]
  obtain ⟨F9, hA, l9, back9⟩ := h8.focA
  have hg7 : S.α.getI (x.c : Int) 7 = x.e.1 := by rw [show (7 : Int) = ((7 : Nat) : Int) from rfl, AS.getI_live il (by omega)]; exact i7
  refine Lower_ok hA (fun e0 => absurd e0 (by rw [hg7]; omega)) fun _ M9 hB => ?_
  rw [show S.α.tick.setI (x.c : Int) 7 key = S.α.tick.put x.c 7 key from AS.setI_live (α := S.α.tick) (f := 7) il (by omega) _] at hB
  have h9 := back9 M9 _ hB
  simp only [shB_v, nc_v, add_eq, Nat.zero_add, Q2 h9.h.right.right.own1, Q1 h9.h.right.right.own1, ob_v, sP_v, lB_ gRef (o7.le h9.fr), sA_, sC_, zI_, zN_]
  obtain ⟨F10, hA10, l10, back10⟩ := h9.focA
  have hs1 : AS.Sm (1 + 1) (S.α.put x.c 7 key) (S.α.tick.put x.c 7 key).tick := (AS.tick_sm.put x.c 7 _).trans AS.tick_sm
  refine kFall_ok (e' := (key, x.e.2)) hA10 hkh0 hkey rfl hs1 fun M10 β r' N' hC hkh hless heff => ?_
  have hβ := hC.inv
  have h10 := back10 M10 _ hC
  rw [zI_]
  refine ⟨Q2 h10.h.right.right.own1, lB_ gRef (o7.le h10.fr), ?_⟩
  refine SRoot_ok oT7 h10 (by omega) hfy' fun M11 h11 => ?_
  simp only [zI_, hR2 (o17.le h11.fr), ob_v]
  refine st1W (o := 0) W.c2 (by simp) rfl rfl (h11.mapH Holds.up) fun M12 h12 => ?_
  change HO w0 F7 M12 _ (star (row1 b4 [.int .i64 key, .int .i64 x.e.2] _) _) at h12
  have q12 := h12.h.right.right.right.own1
  simp only [nc_v, add_eq, Nat.zero_add, Q3 q12, ob_v, hR1 (o17.le h12.fr), sA_, sC_, zI_, zN_, lB_ gEnt h12.h.own1]
  have h12p := h12.perm (List.Perm.swap _ _ _)
  obtain ⟨g1, g2⟩ := h12p.get List.mem_cons_self
  refine mupF (kf := refK) (vf := entK) (k := x.r) (v := (key, x.e.2)) Tryz.underlying93 refK_ok g1 g2 hfe fun oe' hfe' => ?_
  have h13 := (h12p.set (o' := oe')).perm (List.Perm.swap _ _ _)
  generalize Mem.set M12 me _ = M13 at h13 ⊢
  have hbl : (std PP w0).bld tAns [(3, .agg #[.int .i64 key, .int .i64 x.e.2])] = some (.agg (ansV 0 0 0 0 0 key x.e.2 0).toArray) := by kernel_rfl
  simp only [lB_ gEnt h13.h.own1, ob_v, sA_, sC_, zI_, zN_, hbl]
  refine resB gAns (by rfl) ansV_one ((h13.mapH fun h => h.right).mapH Holds.up) fun M14 h14 => ?_
  have hv' := hv.decrease hxy hP hs1 hkh hless heff hβ
  have hm : limH ((hlI (IA ++ IB) y.h).length + 1) ≤ limH (IA ++ x :: IB).length := limH_mono (by omega)
  have e2 : AS.Eff (fun _ => True) (fun _ => True) 0 (0 + (1 + 1) + limH (IA ++ x :: IB).length) S.α β :=
   ((((AS.Sm.refl (α := S.α)).eff (S := fun _ => True) (L := fun _ => True)).put (f := 7) (v := key) (c := x.c) trivial).trans hs1.eff).trans (heff.mono (fun _ _ => trivial) (fun _ _ => trivial) hm)
  refine hK M14 ⟨S.most, S.next, β, S.hp.put x.h.1.toNat (y.k, r', ((hlI (IA ++ x :: IB) y.h).length : Int)), S.ip, S.at_, updM S.en x.r (some (key, x.e.2))⟩ oe' { y with root := r', N := N' } hfa hfe' ((h14.uF_ l7).uF_ l1) rfl rfl (by rw [show x.h.1.toNat = y.h.1.toNat from by rw [hxy]]; exact hv') rfl rfl rfl ⟨_, _, _, e2.mono (fun _ h => h) (fun _ h => h) (by omega)⟩
theorem hlI_two {h o : RefK} (hne : h ≠ o) (I : List Itm) : (hlI I h).length + (hlI I o).length ≤ I.length := by
 have := (hlI_toH hne I).length_eq
 rw [List.length_append] at this
 have h2 := hlI_len (I.map (toH o h)) h
 rw [List.length_map] at h2
 omega
theorem QMeld_ok {B : List Hv} {y y2 : Hv} (oT : Own w0 F t (tbV bh bi ma) tTb) (hv : QInv S I (y :: y2 :: B) tm) (htm : tm ≤ 900000) (hkk : y2.k = y.k)
  (h : HO w0 F M os (QA q a t bh bi me S Q))
  (hK : ∀ M' S' y', HO w0 F M' os (QA q a t bh bi me S' Q) → y'.h = y.h → y'.k = y.k → QInv S' (I.map (toH y2.h y.h)) (y' :: B) tm → S'.most = S.most → S'.next = S.next → S'.ip.pl = S.ip.pl → S'.at_ = S.at_ → S'.en = S.en → (∃ Sx Lx d, AS.Eff Sx Lx d (limH I.length) S.α S'.α) →
   R (.agg (ansV 0 0 0 0 0 0 0 (((hlI I y.h).length : Int) + (hlI I y2.h).length)).toArray) M') :
  C PP w0 Id.pQ_meld #[.pointer (some ⟨q, 0, none⟩), .agg #[.int .i64 y.h.1, .int .i64 y.h.2], .agg #[.int .i64 y2.h.1, .int .i64 y2.h.2]] R M := by
 have hyM : y ∈ y :: y2 :: B := by simp
 have hy2M : y2 ∈ y :: y2 :: B := by simp
 obtain ⟨hl1, hl2⟩ := hv.hpl
 obtain ⟨hl3, hl4, hl5⟩ := hv.ipl
 have hfy := hv.hf y hyM
 have hfy2 := hv.hf y2 hy2M
 rw [hkk] at hfy2
 have hnd := hv.hnd
 rw [List.map_cons, List.map_cons, List.nodup_cons] at hnd
 have hne : y.h ≠ y2.h := fun e => hnd.1 (by rw [e]; simp)
 have hgm := hlI_two hne I
 have hlen := hv.len
 have hm2 := hv.m2
 have hgi : ∀ x ∈ S.ip.l, 0 ≤ x.g ∧ x.g ≤ 1000000 := fun x hx => by have := hv.ig x hx; omega
 have hw1 : w64 (((hlI I y.h).length : Int) + (hlI I y2.h).length) = ((hlI I y.h).length : Int) + (hlI I y2.h).length := w64_in (by omega)
 apply pQ_meld.go
 unfold pQ_meld.T nfz
 refine nwA h fun b1 F1 M1 l1 lm1 o1 h1 => ?_
 refine nwA h1 fun b2 F2 M2 l2 lm2 o2 h2 => ?_
 have oT2 := (oT.le l1).le l2
 have o12 := o1.le l2
 refine nwB h2 fun b3 M3 lm3 h3' => ?_
 have h3 := h3'.mapH Holds.dp
 simp only [nc_v, add_eq, Nat.zero_add, Q2 h3.qo, ob_v, sP_v, lB_ gRef (o12.le h3.fr), sA_, sC_, zI_, zN_]
 refine SHeap_ok oT2 h3 (by omega) hfy fun M4 h4 => ?_
 simp only [sT_v, sC_, zI_, zN_, nc_v, add_eq, Nat.zero_add, Q2 h4.qo, ob_v, sP_v, lB_ gRef (o2.le h4.fr), sA_]
 refine SHeap_ok oT2 h4 (by omega) hfy2 fun M5 h5 => ?_
 simp only [sT_v, sC_, zI_, zN_, nc_v, add_eq, Nat.zero_add, Q2 h5.qo, ob_v, sP_v, lB_ gRef (o12.le h5.fr), lB_ gRef (o2.le h5.fr), sA_]
 refine SJoin_ok oT2 h5 hl1 hl2 hfy hfy2 (fun e => hne (Prod.ext e.1 e.2)) hl3 hgi hv.ig1 fun M6 h6 => ?_
 rw [zI_, bs_bne, if_pos rfl]
 simp only [nc_v, add_eq, Nat.zero_add, Q2 h6.h.right.right.own1, Q1 h6.h.right.right.own1, ob_v, sP_v, lB_ gRef (o12.le h6.fr), sA_, sC_, zI_, zN_]
 obtain ⟨F7, hA, l7, back7⟩ := h6.focA
 have hk1 := hv.hs.kh y hyM
 have hk2 := hv.hs.kh y2 hy2M
 rw [hkk] at hk2
 refine kMeld_ok hA hk1 hk2 (List.nodup_append.2 ⟨hk1.nd, hk2.nd, fun c hc d hd e => hv.hs.d1 y hyM y2 hy2M hne c hc (e ▸ hd)⟩) (by omega) fun M7 β r' N' hB hkh hsub heff => ?_
 have hβ := hB.inv
 have h7 := back7 M7 _ hB
 rw [zI_]
 refine ⟨Q2 h7.h.right.right.own1, lB_ gRef (o12.le h7.fr), ?_⟩
 obtain ⟨k2, k21, k22, k23⟩ := PS.find_some hfy2
 have hk2n : y2.h.1.toNat = k2 := by rw [k21, Int.toNat_natCast]
 have hgl := PS.give_l (p := S.hp) z3 k22
 have hfg : (S.hp.give z3 y2.h.1.toNat).find y.h.1 y.h.2 = some (y.k, y.root, ((hlI I y.h).length : Int)) := by
  rw [hk2n]
  exact PS.find_give z3 k22 _ _ _ (fun e => hp_ne hv hy2M hyM hne (by rw [e, k21])) hfy
 refine SRoot_ok oT2 h7 (by rw [hk2n, hgl.1, List.length_set]; omega) hfg fun M8 h8 => ?_
 rw [hw1] at h8
 have hbl : (std PP w0).bld tAns [(4, .int .i64 (((hlI I y.h).length : Int) + (hlI I y2.h).length))] = some (.agg (ansV 0 0 0 0 0 0 0 (((hlI I y.h).length : Int) + (hlI I y2.h).length)).toArray) := by kernel_rfl
 simp only [zI_, hw1, hbl, ob_v, sA_, sC_, zN_]
 refine resB gAns (by rfl) ansV_one (h8.mapH Holds.up) fun M9 h9 => ?_
 have hv' := hv.meld hkh hsub heff hβ
 have hm : limH ((hlI I y.h).length + (hlI I y2.h).length) ≤ limH I.length := limH_mono hgm
 exact hK M9 ⟨S.most, S.next, β, (S.hp.give z3 y2.h.1.toNat).put y.h.1.toNat (y.k, r', ((hlI I y.h).length : Int) + (hlI I y2.h).length), reh S.ip (ofHeap S.ip y2.h.1 y2.h.2) y.h.1 y.h.2, S.at_, S.en⟩ { y with root := r', N := N' } ((h9.uF_ l2).uF_ l1) rfl rfl hv' rfl rfl (reh_pl _ _ _ _) rfl rfl ⟨_, _, _, heff.mono (fun _ h => h) (fun _ h => h) hm⟩
end
end Go.Proofs.YtodobkbnmjgkdaaGreat.HL
namespace Go.Proofs.YtodobkbnmjgkdaaGreat.HL
open Go.RowKit (Below)
open Go.Proofs
def QStp (S S' : QS) (k : Int) : Prop := 0 ≤ S.α.steps ∧ S.α.steps ≤ 9223372036854775807 → S'.α.steps ≤ 9223372036854775807 ∧ S.α.steps ≤ S'.α.steps ∧ S'.α.steps ≤ S.α.steps + k
theorem QStp.trans {S1 S2 S3 : QS} {k j : Int} (h : QStp S1 S2 k) (h2 : QStp S2 S3 j) : QStp S1 S3 (k + j) := fun h0 => by
 have h1 := h h0
 have h3 := h2 ⟨by omega, h1.1⟩
 omega
theorem QStp.of {S S' : QS} {k : Int} {β : AS} (hs : AS.Sm 0 S.α β) (h : ∃ Sx Lx d, AS.Eff Sx Lx d k β S'.α) : QStp S S' k := fun h0 => by
 obtain ⟨Sx, Lx, d, h⟩ := h
 have h1 := (hs.eff (S := fun _ => True) (L := fun _ => True)).steps h0
 have h3 := h.steps ⟨by omega, h1.1⟩
 omega
section
variable {w0 : World} {F M : Mem} {R : VP} {os : Obs} {q a t bh bi ma me : Nat} {S : QS} {Q : Asn} {I : List Itm} {H : List Hv} {tm most next : Int} {oa oe : Obj}
theorem QSteps_ok (h : HO w0 F M os (QA q a t bh bi me S Q)) (hK : R (.int .i64 S.α.steps) M) : C PP w0 Id.pQ_Steps #[.pointer (some ⟨q, 0, none⟩)] R M := by
 apply pQ_Steps.go
 unfold pQ_Steps.T nfz
 simp only [nc_v, add_eq, Nat.zero_add, Q1 h.qo, ob_v, sP_v]
 obtain ⟨F1, hA, l1, back1⟩ := h.focA
 refine MeterSteps1 hA fun p hp => ?_
 rw [sP_v]
 refine hp _ ?_
 rw [zI_]
 exact hK
theorem QDoMake_ok {k g1 g2 p1 p2 s1 s2 key : Int} (oT : Own w0 F t (tbV bh bi ma) tTb) (hv : QInv S I H tm) (htm : tm ≤ 900000) (hk1 : 1 ≤ k) (hk3 : k ≤ 3) (hH : H.length < 64) (h : HO w0 F M os (QA q a t bh bi me S Q))
  (hK : ∀ M' S' r, HO w0 F M' os (QA q a t bh bi me S' Q) → QInv S' I (H ++ [⟨r, k, -1, []⟩]) (tm + 1) → hlI I r = [] → S'.most = S.most → S'.next = S.next → S'.ip = S.ip → S'.at_ = S.at_ → S'.en = S.en → QStp S S' 0 → R (.agg (ansV 0 r.1 r.2 0 0 0 0 0).toArray) M') :
  C PP w0 Id.pQ_Do #[.pointer (some ⟨q, 0, none⟩), .agg (callV 1 k g1 g2 p1 p2 s1 s2 key).toArray] R M := by
 apply pQ_Do.go
 unfold pQ_Do.T nfz
 refine nwA h fun b1 F1 M1 l1 lm1 o1 h1 => ?_
 have oT1 := oT.le l1
 refine nwB h1 fun b3 M2 lm2 h2' => ?_
 have h2 := h2'.mapH Holds.dp
 simp only [nc_v, add_eq, Nat.zero_add, Q1 h2.qo, ob_v, sP_v]
 obtain ⟨F3, hA3, l3, back3⟩ := h2.focA
 refine MeterBegin_ok hA3 fun p hp => ?_
 rw [sP_v]
 refine hp _ fun M3 β hB3 hs => ?_
 have hβ := hB3.inv
 have hvβ := hv.sm hs hβ
 have h3 := back3 M3 _ hB3
 simp only [ld1 W.c3 (o1.le h3.fr) (o := 0) rfl, ob_v, zI_]
 rw [bQ_, if_pos rfl]
 obtain ⟨hl1, hl2⟩ := hv.hpl
 obtain ⟨i, hat⟩ := hv.hpAt hH
 obtain ⟨hv', hnil⟩ := hvβ.make hk1 hk3 hat
 have hgi : ∀ x ∈ S.hp.l, 0 ≤ x.g ∧ x.g ≤ 1000000 := fun x hx => by have := hv.hg x hx; omega
 simp only [nc_v, add_eq, Nat.zero_add, Q2 h3.h.right.right.own1, ld1 W.c3 (o1.le h3.fr) (o := 1) rfl, ob_v, zI_, sP_v]
 refine ⟨?_, ?_⟩
 rotate_left
 refine nwB h3 fun b4 M4' lm4 h4' => ?_
 refine ⟨Q2 h4'.h.right.right.right.own1, ld1 W.c3 (o1.le h4'.fr) (o := 1) rfl, ?_⟩
 refine SMake_ok oT1 (h4'.mapH Holds.rot) ⟨hk1, by omega⟩ hv.ho hl1 hl2 hgi hat fun M4 h4 => ?_
 simp only [sT_v, sC_, sA_, zI_, zN_]
 refine stF gRef (by rfl) one2 (h4.mapH Holds.rot) fun F5 M5 l5 o5 h5 => ?_
 rotate_left
 refine SMake_ok oT1 h3 ⟨hk1, by omega⟩ hv.ho hl1 hl2 hgi hat fun M4 h4 => ?_
 simp only [sT_v, sC_, sA_, zI_, zN_]
 refine boxF gRef (by rfl) one2 h4 fun b4 F5 M5 l5 o5 h5 => ?_
 all_goals
  have hbl : (std PP w0).bld tAns [(1, .agg #[.int .i64 (i : Int), .int .i64 (S.hp.gen i)]), (0, .int .i64 0)] = some (.agg (ansV 0 i (S.hp.gen i) 0 0 0 0 0).toArray) := by kernel_rfl
  simp only [lB_ gRef (o5.le h5.fr), ob_v, sA_, sC_, zI_, zN_, hbl]
  refine resB gAns (by rfl) ansV_one (h5.mapH Holds.up) fun M9 h9 => ?_
  exact hK M9 ⟨S.most, S.next, β, S.hp.take z3 i (k, -1, 0), S.ip, S.at_, S.en⟩ ((i : Int), S.hp.gen i) ((h9.uF_ l5).uF_ l1) hv' hnil rfl rfl rfl rfl rfl (fun h0 => by have := (hs.eff (S := fun _ => True) (L := fun _ => True)).steps h0; show β.steps ≤ _ ∧ _ ≤ β.steps ∧ β.steps ≤ _; omega)
theorem QDoInsert_ok {A B : List Hv} {y : Hv} {k p1 p2 s1 s2 key : Int} (oT : Own w0 F t (tbV bh bi ma) tTb) (hv : QInv S I (A ++ y :: B) tm) (htm : tm ≤ 900000) (hlen : (I.length : Int) < S.most)
  (hfa : MapF (Value.int .i64) refK S.at_ oa) (hfe : MapF refK entK S.en oe) (h : HO w0 F M ((ma, oa) :: (me, oe) :: os) (QA q a t bh bi me S Q))
  (hK : ∀ M' S' oa' oe' i y', S.ip.at_ = some i → MapF (Value.int .i64) refK S'.at_ oa' → MapF refK entK S'.en oe' → HO w0 F M' ((ma, oa') :: (me, oe') :: os) (QA q a t bh bi me S' Q) →
   y'.h = y.h → y'.k = y.k → (∃ c, QInv S' (I ++ [⟨((i : Int), S.ip.gen i), y.h, c, (key, S.next)⟩]) (A ++ y' :: B) (tm + 1)) → S'.most = S.most → S'.next = S.next + 1 → S'.ip.pl = S.ip.pl.take i 0 → QStp S S' (3 + limH (I.length + 1)) →
   R (.agg (ansV 0 0 0 i (S.ip.gen i) key S.next 0).toArray) M') :
  C PP w0 Id.pQ_Do #[.pointer (some ⟨q, 0, none⟩), .agg (callV 2 k y.h.1 y.h.2 p1 p2 s1 s2 key).toArray] R M := by
 apply pQ_Do.go
 unfold pQ_Do.T nfz
 refine nwA h fun b1 F1 M1 l1 lm1 o1 h1 => ?_
 have oT1 := oT.le l1
 refine nwB h1 fun b3 M2 lm2 h2' => ?_
 have h2 := h2'.mapH Holds.dp
 simp only [nc_v, add_eq, Nat.zero_add, Q1 h2.qo, ob_v, sP_v]
 obtain ⟨F3, hA3, l3, back3⟩ := h2.focA
 refine MeterBegin_ok hA3 fun p hp => ?_
 rw [sP_v]
 refine hp _ fun M3 β hB3 hs => ?_
 have hβ := hB3.inv
 have hvβ := hv.sm hs hβ
 have h3 := back3 M3 _ hB3
 simp only [ld1 W.c3 (o1.le h3.fr) (o := 0) rfl, ob_v, zI_]
 rw [bQ_, if_neg (by decide), bQ_, if_pos rfl]
 simp only [lB_ (vs := callV 2 k y.h.1 y.h.2 p1 p2 s1 s2 key) gCall (o1.le h3.fr), ob_v, sA_, sC_, zI_, zN_]
 refine QInsert_ok (S := { S with α := β }) oT1 hvβ htm hlen hfa hfe h3 fun M4 S' oa' oe' i y' hat hfa' hfe' h4 e1 e2 hv' e3 e4 e5 hst => ?_
 simp only [sA_, sC_, zI_, zN_]
 refine resB gAns (by rfl) ansV_one (h4.mapH Holds.up) fun M9 h9 => ?_
 exact hK M9 S' oa' oe' i y' hat hfa' hfe' (h9.uF_ l1) e1 e2 hv' e3 e4 e5 (QStp.of hs hst)
theorem QDoFindNo_ok {A B : List Hv} {y : Hv} {k p1 p2 s1 s2 key : Int} (oT : Own w0 F t (tbV bh bi ma) tTb) (hv : QInv S I (A ++ y :: B) tm) (hno : hlI I y.h = []) (h : HO w0 F M os (QA q a t bh bi me S Q))
  (hK : ∀ M' S', HO w0 F M' os (QA q a t bh bi me S' Q) → QInv S' I (A ++ y :: B) tm → S'.most = S.most → S'.next = S.next → S'.ip = S.ip → S'.at_ = S.at_ → S'.en = S.en → QStp S S' 0 → R (.agg (ansV 27 0 0 0 0 0 0 0).toArray) M') :
  C PP w0 Id.pQ_Do #[.pointer (some ⟨q, 0, none⟩), .agg (callV 3 k y.h.1 y.h.2 p1 p2 s1 s2 key).toArray] R M := by
 apply pQ_Do.go
 unfold pQ_Do.T nfz
 refine nwA h fun b1 F1 M1 l1 lm1 o1 h1 => ?_
 have oT1 := oT.le l1
 refine nwB h1 fun b3 M2 lm2 h2' => ?_
 have h2 := h2'.mapH Holds.dp
 simp only [nc_v, add_eq, Nat.zero_add, Q1 h2.qo, ob_v, sP_v]
 obtain ⟨F3, hA3, l3, back3⟩ := h2.focA
 refine MeterBegin_ok hA3 fun p hp => ?_
 rw [sP_v]
 refine hp _ fun M3 β hB3 hs => ?_
 have hβ := hB3.inv
 have hvβ := hv.sm hs hβ
 have h3 := back3 M3 _ hB3
 simp only [ld1 W.c3 (o1.le h3.fr) (o := 0) rfl, ob_v, zI_]
 rw [bQ_, if_neg (by decide), bQ_, if_neg (by decide), bQ_, if_pos rfl]
 simp only [add_eq, Nat.zero_add, ldSub (o := 2) (vs := [.int .i64 y.h.1, .int .i64 y.h.2]) gRef (o1.le h3.fr) (sub2 rfl rfl), ob_v, sA_, sC_, zI_, zN_]
 refine QMinNo_ok (S := { S with α := β }) oT1 hvβ hno h3 fun M4 h4 => ?_
 simp only [sA_, sC_, zI_, zN_]
 refine resB gAns (by rfl) ansV_one (h4.mapH Holds.up) fun M9 h9 => ?_
 exact hK M9 { S with α := β } (h9.uF_ l1) hvβ rfl rfl rfl rfl rfl (fun h0 => by have := (hs.eff (S := fun _ => True) (L := fun _ => True)).steps h0; show β.steps ≤ _ ∧ _ ≤ β.steps ∧ β.steps ≤ _; omega)
theorem QDoFind_ok {A B : List Hv} {y : Hv} {k p1 p2 s1 s2 key : Int} (oT : Own w0 F t (tbV bh bi ma) tTb) (hv : QInv S I (A ++ y :: B) tm) (hne : hlI I y.h ≠ []) (hfa : MapF (Value.int .i64) refK S.at_ oa) (hfe : MapF refK entK S.en oe) (h : HO w0 F M ((ma, oa) :: (me, oe) :: os) (QA q a t bh bi me S Q))
  (hK : ∀ M' S' x, x ∈ I → x.h = y.h → (∀ z ∈ I, z.h = y.h → z.c ≠ x.c → Bf x.held z.held) → MapF (Value.int .i64) refK S'.at_ oa → MapF refK entK S'.en oe → HO w0 F M' ((ma, oa) :: (me, oe) :: os) (QA q a t bh bi me S' Q) → QInv S' I (A ++ y :: B) tm → S'.most = S.most → S'.next = S.next → S'.ip = S.ip → QStp S S' (limH I.length) → R (.agg (ansV 0 0 0 x.r.1 x.r.2 x.e.1 x.e.2 0).toArray) M') :
  C PP w0 Id.pQ_Do #[.pointer (some ⟨q, 0, none⟩), .agg (callV 3 k y.h.1 y.h.2 p1 p2 s1 s2 key).toArray] R M := by
 apply pQ_Do.go
 unfold pQ_Do.T nfz
 refine nwA h fun b1 F1 M1 l1 lm1 o1 h1 => ?_
 have oT1 := oT.le l1
 refine nwB h1 fun b3 M2 lm2 h2' => ?_
 have h2 := h2'.mapH Holds.dp
 simp only [nc_v, add_eq, Nat.zero_add, Q1 h2.qo, ob_v, sP_v]
 obtain ⟨F3, hA3, l3, back3⟩ := h2.focA
 refine MeterBegin_ok hA3 fun p hp => ?_
 rw [sP_v]
 refine hp _ fun M3 β hB3 hs => ?_
 have hβ := hB3.inv
 have hvβ := hv.sm hs hβ
 have h3 := back3 M3 _ hB3
 simp only [ld1 W.c3 (o1.le h3.fr) (o := 0) rfl, ob_v, zI_]
 rw [bQ_, if_neg (by decide), bQ_, if_neg (by decide), bQ_, if_pos rfl]
 simp only [add_eq, Nat.zero_add, ldSub (o := 2) (vs := [.int .i64 y.h.1, .int .i64 y.h.2]) gRef (o1.le h3.fr) (sub2 rfl rfl), ob_v, sA_, sC_, zI_, zN_]
 refine QMinF_ok (S := { S with α := β }) oT1 hvβ hne hfa hfe h3 fun M4 γ x hx hxy hb hsg hγ h4 => ?_
 simp only [sA_, sC_, zI_, zN_]
 refine resB gAns (by rfl) ansV_one (h4.mapH Holds.up) fun M9 h9 => ?_
 exact hK M9 { S with α := γ } x hx hxy hb hfa hfe (h9.uF_ l1) (hvβ.sm hsg hγ) rfl rfl rfl (QStp.of hs ⟨fun _ => True, fun _ => True, 0, hsg.eff⟩)
theorem QDoDelMin_ok {A B : List Hv} {y : Hv} {k p1 p2 s1 s2 key : Int} (oT : Own w0 F t (tbV bh bi ma) tTb) (hv : QInv S I (A ++ y :: B) tm) (hne : hlI I y.h ≠ []) (hfa : MapF (Value.int .i64) refK S.at_ oa) (hfe : MapF refK entK S.en oe) (h : HO w0 F M ((ma, oa) :: (me, oe) :: os) (QA q a t bh bi me S Q))
  (hK : ∀ M' S' oa' oe' y' IA x IB, I = IA ++ x :: IB → x.h = y.h → (∀ z ∈ I, z.h = y.h → z.c ≠ x.c → Bf x.held z.held) → MapF (Value.int .i64) refK S'.at_ oa' → MapF refK entK S'.en oe' → HO w0 F M' ((ma, oa') :: (me, oe') :: os) (QA q a t bh bi me S' Q) →
   y'.h = y.h → y'.k = y.k → QInv S' (IA ++ IB) (A ++ y' :: B) (tm + 1) → S'.most = S.most → S'.next = S.next → S'.ip.pl = S.ip.pl.give x.r.1.toNat → QStp S S' (limH I.length + 1) →
   R (.agg (ansV 0 0 0 x.r.1 x.r.2 x.e.1 x.e.2 0).toArray) M') :
  C PP w0 Id.pQ_Do #[.pointer (some ⟨q, 0, none⟩), .agg (callV 4 k y.h.1 y.h.2 p1 p2 s1 s2 key).toArray] R M := by
 apply pQ_Do.go
 unfold pQ_Do.T nfz
 refine nwA h fun b1 F1 M1 l1 lm1 o1 h1 => ?_
 have oT1 := oT.le l1
 refine nwB h1 fun b3 M2 lm2 h2' => ?_
 have h2 := h2'.mapH Holds.dp
 simp only [nc_v, add_eq, Nat.zero_add, Q1 h2.qo, ob_v, sP_v]
 obtain ⟨F3, hA3, l3, back3⟩ := h2.focA
 refine MeterBegin_ok hA3 fun p hp => ?_
 rw [sP_v]
 refine hp _ fun M3 β hB3 hs => ?_
 have hβ := hB3.inv
 have hvβ := hv.sm hs hβ
 have h3 := back3 M3 _ hB3
 simp only [ld1 W.c3 (o1.le h3.fr) (o := 0) rfl, ob_v, zI_]
 rw [bQ_, if_neg (by decide), bQ_, if_neg (by decide), bQ_, if_neg (by decide), bQ_, if_pos rfl]
 simp only [add_eq, Nat.zero_add, ldSub (o := 2) (vs := [.int .i64 y.h.1, .int .i64 y.h.2]) gRef (o1.le h3.fr) (sub2 rfl rfl), ob_v, sA_, sC_, zI_, zN_]
 refine QMinD_ok (S := { S with α := β }) oT1 hvβ hne hfa hfe h3 fun M4 S' oa' oe' y' IA x IB hI hxy hb hfa' hfe' h4 e1 e2 hv' e3 e4 e5 hst => ?_
 simp only [sA_, sC_, zI_, zN_]
 refine resB gAns (by rfl) ansV_one (h4.mapH Holds.up) fun M9 h9 => ?_
 exact hK M9 S' oa' oe' y' IA x IB hI hxy hb hfa' hfe' (h9.uF_ l1) e1 e2 hv' e3 e4 e5 (QStp.of hs hst)
theorem QDoDecrease_ok {IA IB : List Itm} {x : Itm} {A B : List Hv} {y : Hv} {k g1 g2 p1 p2 key : Int} (oT : Own w0 F t (tbV bh bi ma) tTb) (hv : QInv S (IA ++ x :: IB) (A ++ y :: B) tm) (hxy : x.h = y.h) (hkey : key ≤ x.e.1)
  (hfa : MapF (Value.int .i64) refK S.at_ oa) (hfe : MapF refK entK S.en oe) (h : HO w0 F M ((ma, oa) :: (me, oe) :: os) (QA q a t bh bi me S Q))
  (hK : ∀ M' S' oe' y', MapF (Value.int .i64) refK S'.at_ oa → MapF refK entK S'.en oe' → HO w0 F M' ((ma, oa) :: (me, oe') :: os) (QA q a t bh bi me S' Q) →
   y'.h = y.h → y'.k = y.k → QInv S' (IA ++ { x with e := (key, x.e.2) } :: IB) (A ++ y' :: B) tm → S'.most = S.most → S'.next = S.next → S'.ip = S.ip → QStp S S' (2 + limH (IA ++ x :: IB).length) →
   R (.agg (ansV 0 0 0 0 0 key x.e.2 0).toArray) M') :
  C PP w0 Id.pQ_Do #[.pointer (some ⟨q, 0, none⟩), .agg (callV 5 k g1 g2 p1 p2 x.r.1 x.r.2 key).toArray] R M := by
 apply pQ_Do.go
 unfold pQ_Do.T nfz
 refine nwA h fun b1 F1 M1 l1 lm1 o1 h1 => ?_
 have oT1 := oT.le l1
 refine nwB h1 fun b3 M2 lm2 h2' => ?_
 have h2 := h2'.mapH Holds.dp
 simp only [nc_v, add_eq, Nat.zero_add, Q1 h2.qo, ob_v, sP_v]
 obtain ⟨F3, hA3, l3, back3⟩ := h2.focA
 refine MeterBegin_ok hA3 fun p hp => ?_
 rw [sP_v]
 refine hp _ fun M3 β hB3 hs => ?_
 have hβ := hB3.inv
 have hvβ := hv.sm hs hβ
 have h3 := back3 M3 _ hB3
 simp only [ld1 W.c3 (o1.le h3.fr) (o := 0) rfl, ob_v, zI_]
 rw [bQ_, if_neg (by decide), bQ_, if_neg (by decide), bQ_, if_neg (by decide), bQ_, if_neg (by decide), bQ_, if_pos rfl]
 simp only [lB_ (vs := callV 5 k g1 g2 p1 p2 x.r.1 x.r.2 key) gCall (o1.le h3.fr), ob_v, sA_, sC_, zI_, zN_]
 refine QDecrease_ok (S := { S with α := β }) oT1 hvβ hxy hkey hfa hfe h3 fun M4 S' oe' y' hfa' hfe' h4 e1 e2 hv' e3 e4 e5 hst => ?_
 simp only [sA_, sC_, zI_, zN_]
 refine resB gAns (by rfl) ansV_one (h4.mapH Holds.up) fun M9 h9 => ?_
 exact hK M9 S' oe' y' hfa' hfe' (h9.uF_ l1) e1 e2 hv' e3 e4 e5 (QStp.of hs hst)
theorem QDoDelete_ok {IA IB : List Itm} {x : Itm} {A B : List Hv} {y : Hv} {k g1 g2 p1 p2 key : Int} (oT : Own w0 F t (tbV bh bi ma) tTb) (hv : QInv S (IA ++ x :: IB) (A ++ y :: B) tm) (hxy : x.h = y.h)
  (hfa : MapF (Value.int .i64) refK S.at_ oa) (hfe : MapF refK entK S.en oe) (h : HO w0 F M ((ma, oa) :: (me, oe) :: os) (QA q a t bh bi me S Q))
  (hK : ∀ M' S' oa' oe' y', MapF (Value.int .i64) refK S'.at_ oa' → MapF refK entK S'.en oe' → HO w0 F M' ((ma, oa') :: (me, oe') :: os) (QA q a t bh bi me S' Q) →
   y'.h = y.h → y'.k = y.k → QInv S' (IA ++ IB) (A ++ y' :: B) (tm + 1) → S'.most = S.most → S'.next = S.next → S'.ip.pl = S.ip.pl.give x.r.1.toNat → QStp S S' (limH (IA ++ x :: IB).length + 1) →
   R (.agg (ansV 0 0 0 0 0 x.e.1 x.e.2 0).toArray) M') :
  C PP w0 Id.pQ_Do #[.pointer (some ⟨q, 0, none⟩), .agg (callV 6 k g1 g2 p1 p2 x.r.1 x.r.2 key).toArray] R M := by
 apply pQ_Do.go
 unfold pQ_Do.T nfz
 refine nwA h fun b1 F1 M1 l1 lm1 o1 h1 => ?_
 have oT1 := oT.le l1
 refine nwB h1 fun b3 M2 lm2 h2' => ?_
 have h2 := h2'.mapH Holds.dp
 simp only [nc_v, add_eq, Nat.zero_add, Q1 h2.qo, ob_v, sP_v]
 obtain ⟨F3, hA3, l3, back3⟩ := h2.focA
 refine MeterBegin_ok hA3 fun p hp => ?_
 rw [sP_v]
 refine hp _ fun M3 β hB3 hs => ?_
 have hβ := hB3.inv
 have hvβ := hv.sm hs hβ
 have h3 := back3 M3 _ hB3
 simp only [ld1 W.c3 (o1.le h3.fr) (o := 0) rfl, ob_v, zI_]
 rw [bQ_, if_neg (by decide), bQ_, if_neg (by decide), bQ_, if_neg (by decide), bQ_, if_neg (by decide), bQ_, if_neg (by decide), bQ_, if_pos rfl]
 simp only [add_eq, Nat.zero_add, ldSub (o := 6) (vs := [.int .i64 x.r.1, .int .i64 x.r.2]) gRef (o1.le h3.fr) (sub2 rfl rfl), ob_v, sA_, sC_, zI_, zN_]
 refine QRemove_ok (S := { S with α := β }) oT1 hvβ hxy hfa hfe h3 fun M4 S' oa' oe' y' hfa' hfe' h4 e1 e2 hv' e3 e4 e5 hst => ?_
 simp only [sA_, sC_, zI_, zN_]
 refine resB gAns (by rfl) ansV_one (h4.mapH Holds.up) fun M9 h9 => ?_
 exact hK M9 S' oa' oe' y' hfa' hfe' (h9.uF_ l1) e1 e2 hv' e3 e4 e5 (QStp.of hs hst)
theorem QDoMeld_ok {B : List Hv} {y y2 : Hv} {k s1 s2 key : Int} (oT : Own w0 F t (tbV bh bi ma) tTb) (hv : QInv S I (y :: y2 :: B) tm) (htm : tm ≤ 900000) (hkk : y2.k = y.k) (h : HO w0 F M os (QA q a t bh bi me S Q))
  (hK : ∀ M' S' y', HO w0 F M' os (QA q a t bh bi me S' Q) → y'.h = y.h → y'.k = y.k → QInv S' (I.map (toH y2.h y.h)) (y' :: B) tm → S'.most = S.most → S'.next = S.next → S'.ip.pl = S.ip.pl → S'.at_ = S.at_ → S'.en = S.en → QStp S S' (limH I.length) →
   R (.agg (ansV 0 0 0 0 0 0 0 (((hlI I y.h).length : Int) + (hlI I y2.h).length)).toArray) M') :
  C PP w0 Id.pQ_Do #[.pointer (some ⟨q, 0, none⟩), .agg (callV 7 k y.h.1 y.h.2 y2.h.1 y2.h.2 s1 s2 key).toArray] R M := by
 apply pQ_Do.go
 unfold pQ_Do.T nfz
 refine nwA h fun b1 F1 M1 l1 lm1 o1 h1 => ?_
 have oT1 := oT.le l1
 refine nwB h1 fun b3 M2 lm2 h2' => ?_
 have h2 := h2'.mapH Holds.dp
 simp only [nc_v, add_eq, Nat.zero_add, Q1 h2.qo, ob_v, sP_v]
 obtain ⟨F3, hA3, l3, back3⟩ := h2.focA
 refine MeterBegin_ok hA3 fun p hp => ?_
 rw [sP_v]
 refine hp _ fun M3 β hB3 hs => ?_
 have hβ := hB3.inv
 have hvβ := hv.sm hs hβ
 have h3 := back3 M3 _ hB3
 simp only [ld1 W.c3 (o1.le h3.fr) (o := 0) rfl, ob_v, zI_]
 rw [bQ_, if_neg (by decide), bQ_, if_neg (by decide), bQ_, if_neg (by decide), bQ_, if_neg (by decide), bQ_, if_neg (by decide), bQ_, if_neg (by decide), bQ_, if_pos rfl]
 simp only [add_eq, Nat.zero_add, ldSub (o := 2) (vs := [.int .i64 y.h.1, .int .i64 y.h.2]) gRef (o1.le h3.fr) (sub2 rfl rfl), ldSub (o := 4) (vs := [.int .i64 y2.h.1, .int .i64 y2.h.2]) gRef (o1.le h3.fr) (sub2 rfl rfl), ob_v, sA_, sC_, zI_, zN_]
 refine QMeld_ok (S := { S with α := β }) oT1 hvβ htm hkk h3 fun M4 S' y' h4 e1 e2 hv' e3 e4 e5 e6 e7 hst => ?_
 simp only [sA_, sC_, zI_, zN_]
 refine resB gAns (by rfl) ansV_one (h4.mapH Holds.up) fun M9 h9 => ?_
 exact hK M9 S' y' (h9.uF_ l1) e1 e2 hv' e3 e4 e5 e6 e7 (QStp.of hs hst)
end
end Go.Proofs.YtodobkbnmjgkdaaGreat.HL
namespace Go.Proofs.YtodobkbnmjgkdaaGreat.HL
open Go.RowKit (Below)
open Go.Proofs
abbrev tJt : TypeId := 199
abbrev tJo : TypeId := 138
abbrev jtV (pj mb : Nat) : List Value := [.pointer (some ⟨pj, 0, none⟩), .map (some mb)]
def jobK (v : V5) : Value := .agg #[.int .i64 v.1, .int .i64 v.2.1, .int .i64 v.2.2.1, .int .i64 v.2.2.2.1, .int .i64 v.2.2.2.2]
theorem gJob5 : aggOf PP tJo 5 = true := W.g138
section
variable {w0 : World} {F M : Mem} {R : VP} {os : Obs} {jt pj mb : Nat} {P : PS V5} {Q : Asn} {ob_ : Obj} {by_ : RefK → Option RefK}
theorem J0 (o : Own w0 F jt (jtV pj mb) tJt) (hl : Mem.le F M) : (std PP w0).ld 196 ⟨jt, 0, none⟩ M = some (.pointer (some ⟨pj, 0, none⟩)) := ld1 (by kernel_rfl) (o.le hl) rfl
theorem J1 (o : Own w0 F jt (jtV pj mb) tJt) (hl : Mem.le F M) : (std PP w0).ld 197 ⟨jt, 1, none⟩ M = some (.map (some mb)) := ld1 (by kernel_rfl) (o.le hl) rfl
theorem lkR {A : Asn} {r : RefK} (h : HO w0 F M os A) (hm : (mb, ob_) ∈ os) (hf : MapF refK refK by_ ob_) :
  (std PP w0).lk 197 (.map (some mb)) (.agg #[.int .i64 r.1, .int .i64 r.2]) true M = some (.tuple #[.agg #[.int .i64 ((by_ r).getD (0, 0)).1, .int .i64 ((by_ r).getD (0, 0)).2], .bool (by_ r).isSome]) := by
 obtain ⟨inf, hi, hz, _⟩ := W.e33
 obtain ⟨g1, g2⟩ := h.get hm
 have hlk := (lkF (k := r) Tryz.underlying197 refK_ok hi hz g1 g2 hf).2
 cases e : by_ r with
 | none => rw [e] at hlk; exact hlk
 | some x => rw [e] at hlk; exact hlk
theorem JLen_ok (oJ : Own w0 F jt (jtV pj mb) tJt) (h : HO w0 F M os (star (PsJ pj P) Q)) (hb : P.l.length ≤ 100000) (hf : P.free.length ≤ P.l.length) (hK : R (.int .i64 ((P.l.length - P.free.length : Nat) : Int)) M) :
  C PP w0 Id.jT_Len #[.pointer (some ⟨jt, 0, none⟩)] R M := by
 apply jT_Len.go
 unfold jT_Len.T nfz
 simp only [nc_v, add_eq, Nat.zero_add, J0 oJ h.fr, ob_v, sP_v]
 refine LenJ_ok h.h hb hf ?_
 rw [zI_]
 exact hK
theorem JGet_ok {a g : Int} (oJ : Own w0 F jt (jtV pj mb) tJt) (h : HO w0 F M os (star (PsJ pj P) Q)) (hb : P.l.length ≤ 100000)
  (h1 : ∀ v, P.find a g = some v → ∀ M', HO w0 F M' os (star (PsJ pj P) Q) → R (.tuple #[jobK v, .int .i64 0]) M')
  (h0 : P.find a g = none → ∀ M' e, HO w0 F M' os (star (PsJ pj P) Q) → e ≠ 0 → e = P.pl.look a g → R (.tuple #[jobK z5, .int .i64 e]) M') :
  C PP w0 Id.jT_Get #[.pointer (some ⟨jt, 0, none⟩), .agg #[.int .i64 a, .int .i64 g]] R M := by
 apply jT_Get.go
 unfold jT_Get.T nfz
 refine nwA h fun b1 F1 M1 l1 lm1 o1 h1' => ?_
 have oJ1 := oJ.le l1
 refine nwB h1' fun b3 M2 lm2 h2 => ?_
 simp only [nc_v, add_eq, Nat.zero_add, J0 oJ1 h2.fr, ob_v, sP_v, lB_ gRef (o1.le h2.fr), sA_, sC_, zI_, zN_]
 refine GetJ_ok h2.h.right hb (fun v hv M3 l3 => ?_) fun hf M3 e l3 he hel => ?_
 ·simp only [sT_v, sC_, sA_, zI_, zN_]
  exact resB (vs := vc5 v) (K := fun v M => R (.tuple #[v, .int .i64 0]) M) gJob5 (by rfl) (vc5_one v) (h2.le l3) fun M4 h4 => h1 v hv M4 (h4.uF_ l1)
 ·simp only [sT_v, sC_, sA_, zI_, zN_]
  exact resB (vs := vc5 z5) (K := fun v M => R (.tuple #[v, .int .i64 e]) M) gJob5 (by rfl) (vc5_one z5) (h2.le l3) fun M4 h4 => h0 hf M4 e (h4.uF_ l1) he hel
theorem JBy_ok {A : Asn} {r x : RefK} (oJ : Own w0 F jt (jtV pj mb) tJt) (h : HO w0 F M os A) (hm : (mb, ob_) ∈ os) (hf : MapF refK refK by_ ob_) (hx : by_ r = some x)
  (hK : ∀ M', HO w0 F M' os A → R (.tuple #[.agg #[.int .i64 x.1, .int .i64 x.2], .bool true]) M') :
  C PP w0 Id.jT_By #[.pointer (some ⟨jt, 0, none⟩), .agg #[.int .i64 r.1, .int .i64 r.2]] R M := by
 apply jT_By.go
 unfold jT_By.T nfz
 refine nwA h fun b1 F1 M1 l1 lm1 o1 h1 => ?_
 have oJ1 := oJ.le l1
 refine nwB h1 fun b3 M2 lm2 h2 => ?_
 have hlk : ∀ {M' : Mem} {F' : Mem} {A : Asn}, HO w0 F' M' os A → (std PP w0).lk 197 (.map (some mb)) (.agg #[.int .i64 r.1, .int .i64 r.2]) true M' = some (.tuple #[.agg #[.int .i64 x.1, .int .i64 x.2], .bool true]) := fun h => by
  have := lkR (r := r) h hm hf
  rw [hx] at this; exact this
 simp only [nc_v, add_eq, Nat.zero_add, J1 oJ1 h2.fr, ob_v, lB_ gRef (o1.le h2.fr), sA_, sC_, zI_, shB_v, zN_, hlk h2, sT_v]
 refine nwB h2 fun b4 M3 lm3 h3 => ?_
 refine ⟨J1 oJ1 h3.fr, lB_ gRef (o1.le h3.fr), hlk h3, ?_⟩
 refine stF gRef (by rfl) one2 h3 fun F4 M4 l4 o4 h4 => ?_
 simp only [lB_ gRef (o4.le h4.fr), ob_v, sA_, sC_, zI_, zN_]
 refine resB (K := fun v M => R (.tuple #[v, .bool true]) M) gRef (by rfl) one2 h4 fun M5 h5 => ?_
 exact hK M5 ((h5.uF_ l4).uF_ l1)
theorem JAdd_ok {v : V5} {i : Nat} (oJ : Own w0 F jt (jtV pj mb) tJt) (h : HO w0 F M ((mb, ob_) :: os) (star (PsJ pj P) Q)) (hf : MapF refK refK by_ ob_) (hok : P.Ok) (hb : P.l.length ≤ 10000) (hfb : P.free.length ≤ 10000) (hlen : P.free.length ≤ P.l.length) (hg : ∀ x ∈ P.l, 0 ≤ x.g ∧ x.g ≤ 1000000) (hat : P.at_ = some i) (hroom : ((P.l.length - P.free.length : Nat) : Int) ≠ P.most) (hno : by_ (v.2.2.2.1, v.2.2.2.2) = none)
  (hK : ∀ M' ob', MapF refK refK (updM by_ (v.2.2.2.1, v.2.2.2.2) (some ((i : Int), P.gen i))) ob' → HO w0 F M' ((mb, ob') :: os) (star (PsJ pj (P.take z5 i v)) Q) → R (.tuple #[.agg #[.int .i64 (i : Int), .int .i64 (P.gen i)], .int .i64 0]) M') :
  C PP w0 Id.jT_Add #[.pointer (some ⟨jt, 0, none⟩), jobK v] R M := by
 obtain ⟨v1, v2, v3, v4, v5⟩ := v
 apply jT_Add.go
 unfold jT_Add.T nfz
 refine nwA h fun b1 F1 M1 l1 lm1 o1 h1 => ?_
 have oJ1 := oJ.le l1
 refine nwB h1 fun b3 M2 lm2 h2' => ?_
 have h2 := h2'.mapH Holds.rot
 have hR : ∀ {M' : Mem} {e : TypeId}, Own w0 M' b1 [.int .i64 v1, .int .i64 v2, .int .i64 v3, .int .i64 v4, .int .i64 v5] e → (std PP w0).ld 33 ⟨b1, 3, none⟩ M' = some (.agg #[.int .i64 v4, .int .i64 v5]) := fun o => ldSub (vs := [.int .i64 v4, .int .i64 v5]) gRef o (sub2 rfl rfl)
 have hlk : ∀ {M' : Mem} {F' : Mem} {A : Asn} {os' : Obs}, HO w0 F' M' ((mb, ob_) :: os') A → (std PP w0).lk 197 (.map (some mb)) (.agg #[.int .i64 v4, .int .i64 v5]) true M' = some (.tuple #[.agg #[.int .i64 0, .int .i64 0], .bool false]) := fun h => by
  have := lkR (r := (v4, v5)) h List.mem_cons_self hf
  rw [hno] at this; exact this
 simp only [nc_v, add_eq, Nat.zero_add, J1 oJ1 h2.fr, ob_v, hR (o1.le h2.fr), sA_, sC_, zI_, shB_v, zN_, hlk h2, sT_v]
 refine nwB h2 fun b4 M3 lm3 h3 => ?_
 refine ⟨J1 oJ1 h3.fr, hR (o1.le h3.fr), hlk h3, ?_⟩
 refine stF gRef (by rfl) one2 h3 fun F4 M4 l4 o4 h4 => ?_
 have oJ4 := oJ1.le l4
 have o14 := o1.le l4
 simp only [nc_v, add_eq, Nat.zero_add, J0 oJ4 h4.fr, ob_v, sP_v]
 refine LenJ_ok h4.h (by omega) hlen ?_
 rw [zI_]
 refine ⟨J0 oJ4 h4.fr, ?_⟩
 refine PlacesJ_ok h4.h ?_
 rw [zI_, bQ_, if_neg hroom, bF_]
 simp only [nc_v, add_eq, Nat.zero_add, J0 oJ4 h4.fr, ob_v, sP_v, lB_ gJob5 (o14.le h4.fr), sA_, sC_, zI_, zN_]
 refine ⟨?_, ?_⟩
 rotate_left
 refine nwB h4 fun b5 M5' l5' h5' => ?_
 refine ⟨J0 oJ4 h5'.fr, lB_ gJob5 (o14.le h5'.fr), ?_⟩
 obtain ⟨F5, hB, l5, back⟩ := (h5'.mapH Holds.rot).mapH Holds.rot |>.foc1
 refine TakeJ_ok (v := (v1, v2, v3, v4, v5)) hB hok hb hfb hg hat fun M5 hC => ?_
 have h5 := back M5 _ hC
 simp only [sT_v, sC_, sA_, zI_, shB_v, zN_]
 refine stF gRef (by rfl) one2 h5 fun F6 M6 l6 o6 h6 => ?_
 rotate_left
 obtain ⟨F5, hB, l5, back⟩ := h4.foc0
 refine TakeJ_ok (v := (v1, v2, v3, v4, v5)) hB hok hb hfb hg hat fun M5 hC => ?_
 have h5 := back M5 _ hC
 simp only [sT_v, sC_, sA_, zI_, shB_v, zN_]
 refine boxF gRef (by rfl) one2 h5 fun b5 F6 M6 l6 o6 h6 => ?_
 all_goals
  simp only [nc_v, add_eq, Nat.zero_add, J1 (oJ4.le l6) h6.fr, ob_v, hR ((o14.le l6).le h6.fr), lB_ gRef (o6.le h6.fr), sA_, sC_, zI_, zN_]
  obtain ⟨g1, g2⟩ := h6.get List.mem_cons_self
  refine mupF (kf := refK) (vf := refK) (k := (v4, v5)) (v := ((i : Int), P.gen i)) Tryz.underlying197 refK_ok g1 g2 hf fun ob' hf' => ?_
  have h7 := h6.set (o' := ob')
  generalize Mem.set M6 mb _ = M7 at h7 ⊢
  simp only [lB_ gRef (o6.le h7.fr), ob_v, sA_, sC_, zI_, zN_]
  refine resB (K := fun v M => R (.tuple #[v, .int .i64 0]) M) gRef (by rfl) one2 (h7.mapH Holds.rot) fun M8 h8 => ?_
  exact hK M8 ob' hf' (((h8.uF_ l6).uF_ l4).uF_ l1)
end
end Go.Proofs.YtodobkbnmjgkdaaGreat.HL
