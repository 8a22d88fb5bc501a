import Derived.Test.YtodobkbnmjgkdaaGreatPe23
set_option linter.unusedVariables false
set_option linter.unusedSimpArgs false
set_option maxRecDepth 100000
set_option maxHeartbeats 1000000
namespace Go.Proofs.YtodobkbnmjgkdaaGreat.HL
open Go.RowKit (Below)
open Go.Proofs
theorem aMy (d:qL) {q t x:Int} (hq:q = 0∨q = 1):(gJ d ⟨1,q,0,0,t,x⟩).1.l.length≤d.l.length + 1:=by
 rw [aDg (aAD hq) rfl]
 split
 ·show d.l.length≤_;omega
 ·show (d.l ++ [_]).length≤_
  rw [List.length_append];exact Nat.le_refl _
theorem aMk (d:qL) {a g t x q:Int}:(gJ d ⟨2,q,a,g,t,x⟩).1.l.length≤d.l.length:=by
 rw [zT (.inl rfl)]
 split
 ·exact Nat.le_refl _
 ·split
  ·exact Nat.le_refl _
  ·split
   ·exact Nat.le_refl _
   ·rw [if_neg (show ¬ (2:Int) = 3 by decide)]
    split
    ·exact Nat.le_refl _
    ·show (d.l.set _ _).length≤_
     rw [List.length_set];exact Nat.le_refl _
theorem merged (d:qL) (h:∀ j∈d.l,j.queue = 0∨j.queue = 1):(gJ d ⟨6,1,0,0,0,0⟩).1.l.length = d.l.length∧uN 1 (gJ d ⟨6,1,0,0,0,0⟩).1.l = []:=by
 rw [aBB (aAD (.inr rfl)) rfl,if_neg (by decide)]
 refine ⟨List.length_map _,?_⟩
 unfold uN
 rw [List.map_eq_nil_iff,List.filter_eq_nil_iff]
 intro j hj
 obtain ⟨u,hu,rfl⟩:=List.mem_map.1 hj
 have:=h u hu
 split
 ·simp
 ·simp;omega
section
variable {w0:World} {F M:Mem} {R:VP}
theorem aLM {M0:Mem} {s:SV} {l:List Value} (h:RdV w0 M0 s l) (hl:Mem.le M0 M) {i:Nat} {s':SV} (hv:l[i]? = some (SV.v s')) {K:SV→Prop} (hK:K s') :
  nc s.a fun a=>(0≤(i:Int)∧(i:Int) < ((s.n:Nat):Int))∧ob ((aJ PP w0).ld 59 (a.add ((i:Int).toNat * 1)) M) fun v=>shS v fun s1=>K s1:=by
 obtain ⟨a,ea,hr⟩:=h.cell i _ hv
 have hj:=(List.getElem?_eq_some_iff.1 hv).1
 rw [ea,aT,Int.toNat_natCast,Nat.mul_one,aR W.c59,hr M hl,aC,aM]
 exact ⟨⟨by omega,by rw [h.len];omega⟩,hK⟩
theorem aBW (hR:∀ M,R (.bool true) M) {k:Int} (hk:gC k) {s:SV} {rows:List Value} (hs:RdV w0 M s rows) (hrows:∀ x∈rows,∃ s' l',x = SV.v s'∧qO w0 M .i64 s' l'):C PP w0 Id.aD #[.int .i64 k,SV.v s] R M:=by
 apply aD.go
 intro aB H
 unfold aD.T aH
 refine aJ4 hk (by unfold gC;omega) (HO.of (aA.aMl (w0:=w0) (M:=M))) fun F1 M1 X Y dm n n1 n2 n3 l1 hX hD hv hb=>?_
 simp only [cD,aW,bN,aU,aAJ Tryz.underlying60,aC,bU,Option.isNone_some,mE]
 have hlen:=hs.len
 have lM:∀ {F6 M6:Mem} {Y6:yK} {Q:cI},Mem.le F1 F6→jR w0 F6 M6 [] X Y6 Q→Mem.le M M6:=fun l h=>Mem.le_trans l1 (Mem.le_trans l h.fr)
 have key1:∀ (F6 M6:Mem) (Y6:yK) (tm:Int) (st:SV) (told:List bR) (d:qL),Mem.le F1 F6→jR w0 F6 M6 [] X Y6 (star (Es st told) (star (eW dm d) emp))→c9 Y6 d tm→aD.J1 aB (some ⟨X.d,0,none⟩) (some ⟨dm,0,none⟩) M6:=by
  intro F6 M6 Y6 tm st told d l6 hD6 hv6
  refine Eq.mpr (H.J1 ..) ?_
  unfold aD.J1.T aH
  obtain ⟨sl,e1,e2⟩:=(hD6.zJ fun _ _ h=>h.dY).aMK
  simp only [aT,add_eq,Nat.zero_add,e1,aC,aM]
  refine aJ8 (hX.le l6) hD6 hv6 ?_
  rw [aL,fJ,if_pos (by omega)]
  refine ⟨e1,?_⟩
  refine aJd fun M8=>?_
  rw [bU]
  exact hR M8
 have loop:∀ (r i:Nat) (kk:Nat) (F6 M6:Mem) (Y6:yK) (tm:Int) (st:SV) (told:List bR) (d:qL),Mem.le F1 F6→jR w0 F6 M6 [] X Y6 (star (Es st told) (star (eW dm d) emp))→c9 Y6 d tm→aEl Y6→told.length≤6 * i→d.l.length≤6 * i→tm + 20 * r≤300000→i + r = 8→r < kk →
   aD.L2 aB kk s (some ⟨X.d,0,none⟩) (some ⟨dm,0,none⟩) st (i:Int) M6:=by
  intro r
  induction r with
  | zero =>
   intro i kk F6 M6 Y6 tm st told d l6 hD6 hv6 hb6 hTl hdl htm hir hkk
   obtain ⟨kk,rfl⟩:∃ j,kk = j + 1:=⟨kk - 1,by omega⟩
   refine Eq.mpr (H.L2 ..) ?_
   unfold aD.L2.T aH
   have:=key1 F6 M6 Y6 tm st told d l6 hD6 hv6
   rw [cR]
   split
   ·rw [cR,if_neg (by omega)];exact this
   ·exact this
  | succ r ih =>
   intro i kk F6 M6 Y6 tm st told d l6 hD6 hv6 hb6 hTl hdl htm hir hkk
   obtain ⟨kk,rfl⟩:∃ j,kk = j + 1:=⟨kk - 1,by omega⟩
   have hw:lN ((i:Int) + 1) = ((i + 1:Nat):Int):=by rw [aQ (by omega)];omega
   have key6:∀ (F7 M7:Mem) (Y7:yK) (tm7:Int) (st7:SV) (told7:List bR) (d7:qL),Mem.le F1 F7→jR w0 F7 M7 [] X Y7 (star (Es st7 told7) (star (eW dm d7) emp))→c9 Y7 d7 tm7→aEl Y7→told7.length≤6 * (i + 1)→d7.l.length≤6 * (i + 1)→tm7 + 5 + 20 * r≤300000→aD.J6 aB kk s (some ⟨X.d,0,none⟩) (some ⟨dm,0,none⟩) st7 (i:Int) M7:=by
    intro F7 M7 Y7 tm7 st7 told7 d7 l7 hD7 hv7 hb7 hT7 hd7 htm7
    refine Eq.mpr (H.J6 ..) ?_
    unfold aD.J6.T aH
    have hsl:=hD7.rdL.len
    rw [cR]
    split
    ·rename_i hpos
     refine ⟨rfl,by omega,?_⟩
     have hmod:Int.tmod (i:Int) ((st7.n:Nat):Int) = ((i % told7.length:Nat):Int):=by
      rw [Int.tmod_eq_emod_of_nonneg (by omega),hsl];omega
     rw [hmod]
     have hlt:i % told7.length < told7.length:=Nat.mod_lt _ (by omega)
     have e2:=List.getElem?_eq_getElem hlt
     generalize told7[i % told7.length] = tt at e2
     refine aGm hD7.rdL (Mem.le_refl _) (i % told7.length) rfl e2 ?_
     simp only [aJz,tW.v,aC,aZ,aW,aL,aU]
     refine hD7.nwC fun b M8 lm8 hD8'=>?_
     refine hD8'.pQ (vs:=(tW.mk 2 0 tt.1 tt.2 (-5) 0).cells) aB7 (by rfl) (aC6 _) fun M8b hD8b=>?_
     obtain ⟨F8,l8,oc,hD8⟩:=hD8b.aKt
     have hcc:∀ {M':Mem},Mem.le F8 M'→(aJ PP w0).ld qT ⟨b,0,none⟩ M' = some (tW.v ⟨2,0,tt.1,tt.2, -5,0⟩):=fun hl=>fF (vs:=(tW.mk 2 0 tt.1 tt.2 (-5) 0).cells) aB7 (oc.le hl)
     simp only [hcc hD8.fr,tW.v,aC,aZ,aW,aL,aU]
     refine aEG (c:=⟨2,0,tt.1,tt.2, -5,0⟩) ((hX.le l7).le l8) hD8 hv7 hb7 (by omega) (by unfold gC;simp only;omega) fun M9 Y9 hD9 hv9 hb9 _=>?_
     simp only [fG.v,aZ,aW,aL,aU]
     refine ⟨hcc hD9.fr,?_⟩
     refine aED (c:=⟨2,0,tt.1,tt.2, -5,0⟩) (hD9.zJ fun _ _ h=>h.dY) (hv7.ok (by omega)) hv7.aBe (by unfold gC;simp only;omega) fun M10 hD10'=>?_
     have hD10:=hD10'.zJ fun _ _ h=>h.dY
     simp only [fG.v,aZ,aW,aL,aU,aFp,aC,bU,decide_true,Bool.not_true,mE]
     rw [hw]
     exact ih (i + 1) kk F8 M10 Y9 (tm7 + 1) st7 told7 _ (Mem.le_trans l7 l8) hD10 hv9 hb9 hT7 (Nat.le_trans (aMk d7) hd7) (by omega) (by omega) (by omega)
    ·rw [hw]
     exact ih (i + 1) kk F7 M7 Y7 tm7 st7 told7 d7 l7 hD7 hv7 hb7 hT7 hd7 (by omega) (by omega) (by omega)
   have key4:∀ (F7 M7:Mem) (Y7:yK) (tm7:Int) (st7:SV) (told7:List bR) (d7:qL),Mem.le F1 F7→jR w0 F7 M7 [] X Y7 (star (Es st7 told7) (star (eW dm d7) emp))→c9 Y7 d7 tm7→aEl Y7→told7.length≤6 * (i + 1)→d7.l.length≤6 * (i + 1)→tm7 + 8 + 20 * r≤300000→aD.J4 aB kk s (some ⟨X.d,0,none⟩) (some ⟨dm,0,none⟩) st7 (i:Int) M7:=by
    intro F7 M7 Y7 tm7 st7 told7 d7 l7 hD7 hv7 hb7 hT7 hd7 htm7
    refine Eq.mpr (H.J4 ..) ?_
    unfold aD.J4.T aH
    simp only [aT,add_eq,Nat.zero_add,aJC,tW.v,aC,aZ,aW,aL,aU]
    refine hD7.nwC fun b M8 lm8 hD8'=>?_
    refine hD8'.pQ (vs:=(tW.mk 6 1 0 0 0 0).cells) aB7 (by rfl) (aC6 _) fun M8b hD8b=>?_
    obtain ⟨F8,l8,oc,hD8⟩:=hD8b.aKt
    have hcc:∀ {M':Mem},Mem.le F8 M'→(aJ PP w0).ld qT ⟨b,0,none⟩ M' = some (tW.v ⟨6,1,0,0,0,0⟩):=fun hl=>fF (vs:=(tW.mk 6 1 0 0 0 0).cells) aB7 (oc.le hl)
    simp only [hcc hD8.fr,tW.v,aC,aZ,aW,aL,aU]
    have hX8:=(hX.le l7).le l8
    refine aEG (c:=⟨6,1,0,0,0,0⟩) hX8 hD8 hv7 hb7 (by omega) (by unfold gC;simp only;omega) fun M9 Y9 hD9 hv9 hb9 _=>?_
    simp only [fG.v,aZ,aW,aL,aU]
    refine ⟨hcc hD9.fr,?_⟩
    refine aED (c:=⟨6,1,0,0,0,0⟩) (hD9.zJ fun _ _ h=>h.dY) (hv7.ok (by omega)) hv7.aBe (by unfold gC;simp only;omega) fun M10 hD10=>?_
    simp only [fG.v,aZ,aW,aL,aU,aFp,aC,bU,decide_true,Bool.not_true,mE]
    obtain ⟨m1,m2⟩:=merged d7 hv7.qr
    refine aDS (q:=1) hX8 hD10 hv9 (by omega) fun M11 s11 z11 hD11 hr11 hz11 hp11=>?_
    rw [m2] at hp11
    have hz0:=List.Perm.eq_nil hp11
    have hn11:=hr11.len
    rw [hz0] at hn11
    rw [aM,cB,if_pos (by rw [hn11];rfl)]
    refine aDS (q:=0) hX8 hD11 hv9 (by omega) fun M12 s12 z12 hD12 hr12 hz12 hp12=>?_
    rw [aM]
    have hD12c:=hD12
    obtain ⟨oa,oe,ob',ow,hfa,hfe,hfb,hfw,h⟩:=hD12c
    refine aI1 (q:=0) (h.aX aA.w9).h (by omega) fun M13 s13 z13 l13 hr13 hz13 hp13=>?_
    rw [aM]
    have hzz:z12 = z13:=tF.eq hz12 hz13 (hp12.trans hp13.symm)
    subst hzz
    refine aIo (hr12.le l13) hr13 (by have:=hp12.length_eq;have:=aAn (q:=0) (gJ d7 ⟨6,1,0,0,0,0⟩).1.l;omega) ?_
    rw [bU,decide_eq_true rfl,Bool.not_true,mE]
    exact key6 F8 M13 Y9 (tm7 + 1) st7 told7 _ (Mem.le_trans l7 l8) ((hD12.le l13).zJ fun _ _ h=>h.dY) hv9 hb9 hT7 (by omega) (by omega)
   refine Eq.mpr (H.L2 ..) ?_
   unfold aD.L2.T aH
   rw [cR]
   split
   ·rename_i hin
    rw [cR,if_pos (by omega)]
    show aD.J3 aB kk s (some ⟨X.d,0,none⟩) (some ⟨dm,0,none⟩) st (i:Int) M6
    refine Eq.mpr (H.J3 ..) ?_
    unfold aD.J3.T aH
    have hil:i < rows.length:=by omega
    have e1:=List.getElem?_eq_getElem hil
    obtain ⟨sr,lr,hsr,hri⟩:=hrows _ (List.getElem_mem hil)
    rw [hsr] at e1
    have hrmax:=hri.max
    have hrlen:=hri.len
    have inner:∀ (m j:Nat) (k2:Nat) (F7 M7:Mem) (Y7:yK) (tm7:Int) (st7:SV) (told7:List bR) (d7:qL),Mem.le F1 F7→jR w0 F7 M7 [] X Y7 (star (Es st7 told7) (star (eW dm d7) emp))→c9 Y7 d7 tm7→aEl Y7→told7.length≤6 * i + j→d7.l.length≤6 * i + j→tm7 + m + 8 + 20 * r≤300000→j + m = 6→m < k2 →
      aD.L5 aB kk k2 s (some ⟨X.d,0,none⟩) (some ⟨dm,0,none⟩) st7 (i:Int) (j:Int) M7:=by
     intro m
     induction m with
     | zero =>
      intro j k2 F7 M7 Y7 tm7 st7 told7 d7 l7 hD7 hv7 hb7 hT7 hd7 htm7 hjm hk2
      obtain ⟨k2,rfl⟩:∃ j,k2 = j + 1:=⟨k2 - 1,by omega⟩
      refine Eq.mpr (H.L5 ..) ?_
      unfold aD.L5.T aH
      have:=key4 F7 M7 Y7 tm7 st7 told7 d7 l7 hD7 hv7 hb7 (by omega) (by omega) (by omega)
      refine aLM hs (lM l7 hD7) e1 ?_
      rw [cR]
      split
      ·rw [cR,if_neg (by omega)];exact this
      ·exact this
     | succ m ihm =>
      intro j k2 F7 M7 Y7 tm7 st7 told7 d7 l7 hD7 hv7 hb7 hT7 hd7 htm7 hjm hk2
      obtain ⟨k2,rfl⟩:∃ j,k2 = j + 1:=⟨k2 - 1,by omega⟩
      refine Eq.mpr (H.L5 ..) ?_
      unfold aD.L5.T aH
      refine aLM hs (lM l7 hD7) e1 ?_
      rw [cR]
      split
      ·rename_i hjn
       rw [cR,if_pos (by omega)]
       show aD.J7 aB kk k2 s (some ⟨X.d,0,none⟩) (some ⟨dm,0,none⟩) st7 (i:Int) (j:Int) M7
       refine Eq.mpr (H.J7 ..) ?_
       unfold aD.J7.T aH
       refine ⟨rfl,by decide,?_⟩
       refine aLM hs (lM l7 hD7) e1 ?_
       have hjl:j < lr.length:=by omega
       have e2:=List.getElem?_eq_getElem hjl
       generalize lr[j] = u at e2
       refine rdx W.c2 (hri.le (lM l7 hD7)) (Mem.le_refl _) j rfl e2 ?_
       refine ⟨rfl,by decide,?_⟩
       have hmod1:Int.tmod u 50 < 50:=Int.tmod_lt_of_pos u (by omega)
       have hmod2 : -50 < Int.tmod u 50:=by
        have:=Int.tmod_lt_of_pos (-u) (show 0 < (50:Int) by omega)
        rw [Int.neg_tmod] at this;omega
       generalize Int.tmod u 50 = v at hmod1 hmod2
       have hq:Int.tmod (lN ((i:Int) + (j:Int))) 2 = (((i + j) % 2:Nat):Int):=by rw [aQ (by omega),Int.tmod_eq_emod_of_nonneg (by omega)];omega
       rw [hq]
       generalize hqq:(((i + j) % 2:Nat):Int) = q
       have hq01:q = 0∨q = 1:=by omega
       simp only [aIi,tW.v,aC,aZ,aW,aL,aU]
       refine hD7.nwC fun b M8 lm8 hD8'=>?_
       refine hD8'.pQ (vs:=(tW.mk 1 q 0 0 v j).cells) aB7 (by rfl) (aC6 _) fun M8b hD8b=>?_
       obtain ⟨F8,l8,oc,hD8⟩:=hD8b.aKt
       have hcc:∀ {M':Mem},Mem.le F8 M'→(aJ PP w0).ld qT ⟨b,0,none⟩ M' = some (tW.v ⟨1,q,0,0,v,j⟩):=fun hl=>fF (vs:=(tW.mk 1 q 0 0 v j).cells) aB7 (oc.le hl)
       simp only [hcc hD8.fr,tW.v,aC,aZ,aW,aL,aU]
       have hX8:=(hX.le l7).le l8
       refine aEG (c:=⟨1,q,0,0,v,j⟩) hX8 hD8 hv7 hb7 (by omega) (by unfold gC;simp only;omega) fun M9 Y9 hD9 hv9 hb9 _=>?_
       simp only [fG.v,aZ,aW,aL,aU]
       refine hD9.box (rp:=(gJ d7 ⟨1,q,0,0,v,j⟩).2) fun br F10 M10 l10 o10 hD10=>?_
       simp only [fF (vs:=(gJ d7 ⟨1,q,0,0,v,j⟩).2.cells) lQ (o10.le hD10.fr),hcc (Mem.le_trans l10 hD10.fr),tW.v,aC,aZ,aW,aL,aU]
       refine aED (c:=⟨1,q,0,0,v,j⟩) (hD10.zJ fun _ _ h=>h.dY) (hv7.ok (by omega)) hv7.aBe (by unfold gC;simp only;omega) fun M11 hD11'=>?_
       have hD11:=hD11'.zJ fun _ _ h=>h.dY
       simp only [fG.v,aZ,aW,aL,aU,aFp,aC,bU,decide_true,Bool.not_true,mE]
       refine ⟨fF (vs:=(gJ d7 ⟨1,q,0,0,v,j⟩).2.cells) lQ (o10.le hD11.fr),?_⟩
       simp only [aT,add_eq,Nat.zero_add,aMn (o10.le hD11.fr),aC,aZ,aW,aL,aU]
       refine hD11.aMT (by omega) fun M12 s12 hD12=>?_
       rw [show lN ((j:Int) + 1) = ((j + 1:Nat):Int) from by rw [aQ (by omega)];omega]
       have hl1:=aMy d7 (t:=v) (x:=(j:Int)) hq01
       exact ihm (j + 1) k2 F10 M12 Y9 (tm7 + 1) s12 _ _ (Mem.le_trans l7 (Mem.le_trans l8 l10)) hD12 hv9 hb9 (by rw [List.length_append,List.length_singleton];omega) (by omega) (by omega) (by omega) (by omega)
      ·exact key4 F7 M7 Y7 tm7 st7 told7 d7 l7 hD7 hv7 hb7 (by omega) (by omega) (by omega)
    exact ⟨7,inner 6 0 7 F6 M6 Y6 tm st told d l6 hD6 hv6 hb6 (by omega) (by omega) (by omega) (by omega) (by omega)⟩
   ·exact key1 F6 M6 Y6 tm st told d l6 hD6 hv6
 exact ⟨9,loop 8 0 9 F1 M1 Y 2 ⟨none,0,0⟩ [] _ (Mem.le_refl _) hD.aIx hv hb (by simp) (by simp [qL.new]) (by omega) (by omega) (by omega)⟩
end
end Go.Proofs.YtodobkbnmjgkdaaGreat.HL
