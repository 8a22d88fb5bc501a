import Derived.Test.YtodobkbnmjgkdaaGreatPd20
namespace Go.Proofs.YtodobkbnmjgkdaaGreat
open Go.RowKit (Below)
set_option linter.unusedVariables false
set_option linter.unusedSimpArgs false
set_option maxRecDepth 100000
set_option maxHeartbeats 1000000
namespace HL
namespace ST
def kA (l:List Tn):List Tn:=l.filter fun t=>t.k != 0
def k0 (l:List Tn):List Tn:=l.filter fun t=>t.k == 0
theorem aIp (l:List Tn):(kA l ++ k0 l).Perm l:=by
 unfold kA k0
 induction l with
 | nil=>exact List.Perm.refl _
 | cons t l ih =>
  by_cases h:t.k = 0
  ·rw [List.filter_cons_of_neg (by simp [h]),List.filter_cons_of_pos (by simp [h])]
   exact List.perm_middle.trans (ih.cons t)
  ·rw [List.filter_cons_of_pos (by simp [h]),List.filter_cons_of_neg (by simp [h])]
   exact ih.cons t
theorem aIm (l:List Tn):(kA l).length = l.countP fun t=>t.k != 0:=by
 unfold kA;rw [List.countP_eq_length_filter]
end ST
section
variable {w0:World} {M F:Mem} {R:VP} {a:Nat} {α:AS}
open Go.Proofs.YtodobkbnmjgkdaaGreat.HL.ST
theorem aIh {s:SV} {f:Nat→cC} {A B:List Tn} {t:Tn} (hA:aA w0 F M (star (pG s ((aU ((A ++ t::B).map (·.n))).map (Value.int .i64))) (aF a α))) (hG:m7 2 α f A t B) {m:Nat} (hm:(aQ (A ++ t::B)).length≤m)
  (h:∀ M' β f' l',aA w0 F M' (aF a β)→St β (-1) (fo l')→Lb β f' (aQ l')→(aQ l').Perm (aQ (A ++ B) ++ aO t.c)→((aQ l').map f').Perm ((aQ (A ++ B) ++ aO t.c).map f)→(∀ u∈l',wS 2 u)→(∀ u∈l',y8 f' u)→Wk l'→AS.lJ (fun c=>c∈bE f (aQ (A ++ t::B))) (· = t.n) (-1) (200 * bl m + 100) α β→β.get (f t.n).1 9 = -1→R (.tuple #[.int .i64 (fo l').root,.int .i64 ((f t.n).1:Int)]) M') :
  C PP w0 Id.vA #[.pointer (some ⟨a,0,none⟩),SV.v s,.int .i64 (t.n:Int)] R M:=by
 apply vA.go
 intro aB H
 unfold vA.T aL
 obtain ⟨b1,b2,b3,b4,b5,b6⟩:=hG.lens hm
 intro bx hbx hwx
 have h1:aA w0 F _ (star (aW bx [.int .i64 (t.n:Int)] 3) _):=hA.new hbx hwx [.int .i64 (t.n:Int)] 3
 generalize M.set bx _ = M1 at h1 ⊢
 obtain ⟨F1,hle1,hown,h2⟩:=aA.fE h1
 have hld:∀ M',Mem.le F1 M'→(aJ PP w0).ld 3 ⟨bx,0,none⟩ M' = some (.int .i64 (t.n:Int)):=fun M' hM=>by
  rw [aP W.c3];exact aM (o:=0) (hown.le hM)
 refine hG.rest (kf:=(Id.uV,#[.pointer (some ⟨bx,0,none⟩)])) h2 (fun y M' R' hM hR'=>?_) fun M2 s2 h3=>?_
 ·show C PP w0 Id.uV #[.int .i64 y,.pointer (some ⟨bx,0,none⟩)] R' M'
  apply uV.go
  unfold uV.T aL
  rw [hld M' hM,aC,aK]
  exact hR'
 ·rw [aR,hld M2 h3.fr,aC,aK]
  obtain ⟨F2,hB,hle2,back⟩:=h3.last
  have hnc:(aO t.c).Nodup:=(List.nodup_append.1 (List.nodup_cons.1 hG.nn).2).2.1
  have htl:∀ n∈eR t,α.live n = true:=fun n hn=>(hG.lb n (eJ.2 ⟨t,hG.mem,hn⟩)).ln
  refine aE5 hB (hG.st t hG.mem) htl hnc fun M3 s3 β hB3 hsm3=>?_
  have h4:=back M3 _ hB3
  rw [aR]
  have hi:=hA.right.inv
  have htk:∀ u∈dA t.c,u.n∈eR t:=fun u hu=>List.mem_cons_of_mem _ (by rw [←bP];exact iI hu)
  obtain ⟨F3,hle3,h5,hrk⟩:=(h4.dX).freeze (mU fun x hx=>by
   obtain ⟨u,hu,rfl⟩:=List.mem_map.1 hx
   have h5:=AS.cE hi (htl u.n (htk u hu))
   have:=hi.n
   omega) (by simp [aU];omega)
  have hGβ:=hG.sm hsm3
  have hkn:=hrk.len
  simp only [aU,List.length_map] at hkn
  have fin:∀ (M4:Mem) (sR sA:SV) (γ:AS),aA w0 F3 M4 (star (pG sA ((aU ((k0 (dA t.c)).map (·.n))).map (Value.int .i64))) (star (pG sR ((aU (((A ++ B) ++ kA (dA t.c)).map (·.n))).map (Value.int .i64))) (aF a γ)))→AS.Sm (2 * (dA t.c).length + 1) α γ →
    ob ((aJ PP w0).ld 3 ⟨bx,0,none⟩ M4) fun v30=>lT .i64 v30 fun n31=>C PP w0 Id.lC #[.pointer (some ⟨a,0,none⟩),.int .i64 n31] (fun v32 M33=>lT .i64 v32 fun n34=>C PP w0 Id.nC #[.pointer (some ⟨a,0,none⟩),SV.v sR] (fun v35 M36=>lT .i64 v35 fun n37=>∃ k38,vA.L2 aB k38 (some ⟨a,0,none⟩) n34 n37 sA ((sA.n:Nat):Int) 0 M36) M33) M4:=by
   intro M4 sR sA γ hH hsm
   have hGγ:=hG.sm hsm
   rw [hld M4 (Mem.le_trans hle3 hH.fr),aC,aK]
   have hiγ:=hH.right.right.inv
   have hkmem:∀ u,u∈kA (dA t.c)∨u∈k0 (dA t.c)→u∈dA t.c:=fun u hu=>(aIp (dA t.c)).mem_iff.1 (List.mem_append.2 hu)
   obtain ⟨F4,hle4,h6,hrA⟩:=hH.freeze (mU fun x hx=>by
    obtain ⟨u,hu,rfl⟩:=List.mem_map.1 hx
    have h5:=AS.cE hi (htl u.n (htk u (hkmem u (.inr hu))))
    have:=hi.n
    omega) (by have:=(aIp (dA t.c)).length_eq;rw [List.length_append] at this;simp [aU];omega)
   have hsAn:=hrA.len
   simp only [aU,List.length_map] at hsAn
   obtain ⟨F5,hB5,hle5,back5⟩:=h6.last
   refine aEl hB5 hGγ.tn fun M5 δ hB6 hs6=>?_
   have h7:=back5 M5 _ hB6
   rw [aK]
   obtain ⟨e1,e2,e3⟩:=hGγ.ended hiγ hs6
   have hperm:(aQ ((A ++ B) ++ kA (dA t.c)) ++ aQ (k0 (dA t.c))).Perm (aQ (A ++ B) ++ aO t.c):=by
    rw [lI,List.append_assoc]
    refine List.Perm.append_left _ ?_
    rw [←lI,←bP]
    exact tI (aIp _)
   have hrn:(bE f (aQ ((A ++ B) ++ kA (dA t.c)) ++ aQ (k0 (dA t.c)))).Nodup:=by
    refine (j7 hperm).nodup_iff.2 ?_
    have:=hG.cel.nodup_iff.1 hG.nd
    unfold bE at this ⊢
    rw [List.map_cons,List.nodup_append] at this
    obtain ⟨n1,n2,n3⟩:=this
    exact List.nodup_append.2 ⟨(List.nodup_cons.1 n1).2,(List.nodup_cons.1 n2).2,fun x hx y hy=>n3 x (List.mem_cons_of_mem _ hx) y (List.mem_cons_of_mem _ hy)⟩
   have hrest:∀ x∈aQ ((A ++ B) ++ kA (dA t.c)) ++ aQ (k0 (dA t.c)),x∈bE f (aQ (A ++ B) ++ aO t.c):=fun x hx=>List.mem_append_left _ (hperm.mem_iff.1 hx)
   have hlbδ:Lb δ f (aQ ((A ++ B) ++ kA (dA t.c)) ++ aQ (k0 (dA t.c))):=by
    have h9:Lb δ f (aQ (A ++ B) ++ aO t.c):=(hGγ.lb.sub fun x hx=>(p8 A B t).mem_iff.2 (List.mem_cons_of_mem _ hx)).congr (fun c hc g _=>(e3 c hc).1 g) (fun c hc=>(e3 c hc).2)
    exact h9.sub fun x hx=>hperm.mem_iff.1 hx
   have hst1:∀ u,(u∈A ++ B∨u∈dA t.c)→yV γ u:=fun u hu=>by
    rcases hu with h | h
    ·exact hGγ.st u (by rcases List.mem_append.1 h with h | h <;> simp [h])
    ·exact (hGγ.st t hG.mem).2.2.dA u h
   have hmem:∀ u,(u∈A ++ B∨u∈dA t.c)→∀ x∈eR u,x∈bE f (aQ (A ++ B) ++ aO t.c):=fun u hu x hx=>by
    refine List.mem_append_left _ (List.mem_append.2 ?_)
    rcases hu with h | h
    ·exact .inl (eJ.2 ⟨u,h,hx⟩)
    ·exact .inr (by rw [←bP];exact eJ.2 ⟨u,h,hx⟩)
   have hstδ:∀ u,(u∈A ++ B∨u∈dA t.c)→yV δ u:=fun u hu=>by
    have h8:=hst1 u hu
    refine ⟨?_,?_,h8.2.2.congr fun x hx y _=>(e3 x (hmem u hu x (List.mem_cons_of_mem _ hx))).1 y⟩
    ·rw [(e3 u.n (hmem u hu u.n List.mem_cons_self)).1];exact h8.1
    ·rw [(e3 u.n (hmem u hu u.n List.mem_cons_self)).1];exact h8.2.1
   have hcls:∀ u,u∈(A ++ B) ++ kA (dA t.c)→(u∈A ++ B∨u∈dA t.c):=fun u hu=>by
    rcases List.mem_append.1 hu with h | h
    ·exact .inl h
    ·exact .inr (hkmem u (.inl h))
   have hokr:∀ u,(u∈A ++ B∨u∈dA t.c)→wS 2 u:=fun u hu=>by
    rcases hu with h | h
    ·exact hG.ok u (by rcases List.mem_append.1 h with h | h <;> simp [h])
    ·exact fU.1 (hG.ok t hG.mem).2 u h
   have hodr:∀ u,(u∈A ++ B∨u∈dA t.c)→y8 f u:=fun u hu=>by
    rcases hu with h | h
    ·exact hG.od u h
    ·exact pJ.1 hG.odt u h
   obtain ⟨F6,hle6,hB7,hr7⟩:=h7.freeze (mU fun x hx=>by
    obtain ⟨u,hu,rfl⟩:=List.mem_map.1 hx
    have:=AS.cE h7.right.inv (hlbδ u.n (List.mem_append_left _ (iI hu))).ln
    have:=h7.right.inv.n
    omega) (by have:=aIm (dA t.c);simp [aU];omega)
   have hln:((A ++ B) ++ kA (dA t.c)).length≤8 + t.k:=by rw [List.length_append,List.length_append,aIm];omega
   have hc1:(bE f (aQ ((A ++ B) ++ kA (dA t.c)))).Nodup:=((yR f _ _).nodup_iff.1 hrn |> List.nodup_append.1).1
   refine vJ hB7 (by decide) hr7 (fun u hu=>hstδ u (hcls u hu)) (hlbδ.sub fun x hx=>List.mem_append_left _ hx) hc1 (fun u hu=>hokr u (hcls u hu)) (fun u hu=>hodr u (hcls u hu)) (by omega) fun M6 ε l1 hC hst' hp' hok' hod' hrs' hc' hg'=>?_
   rw [aK]
   have hrA6:tN w0 F6 .i64 sA (aU ((k0 (dA t.c)).map (·.n))):=(hrA.le (M1:=F6) hle6)
   have hnnr:=iB hrn
   have key:∀ (P2 P1:List Tn) (M7:Mem) (ζ:AS) (f1:Nat→cC) (l2:List Tn) (k:Nat),k0 (dA t.c) = P1 ++ P2→aA w0 F6 M7 (aF a ζ)→St ζ (-1) (fo l2)→Lb ζ f1 (aQ l2)→(aQ l2).Perm (aQ ((A ++ B) ++ kA (dA t.c)) ++ aQ P1)→((aQ l2).map f1).Perm ((aQ ((A ++ B) ++ kA (dA t.c)) ++ aQ P1).map f)→(∀ x,x ∉ aQ l2→f1 x = f x) →
     (∀ u∈l2,wS 2 u)→(∀ u∈l2,y8 f1 u)→Wk l2→AS.nM (fun c=>c∈bE f (aQ ((A ++ B) ++ kA (dA t.c)) ++ aQ P1)) (14 * (8 + t.k) + 40 * P1.length) δ ζ→P2.length < k→vA.L2 aB k (some ⟨a,0,none⟩) ((f t.n).1:Int) (fo l2).root sA ((sA.n:Nat):Int) (P1.length:Int) M7:=by
    intro P2
    induction P2 with
    | nil =>
     intro P1 M7 ζ f1 l2 k he hZ hsz hlz hpz hmz hfz hokz hodz hwkz hcz hk
     obtain ⟨k,rfl⟩:∃ j,k = j + 1:=⟨k - 1,by omega⟩
     rw [List.append_nil] at he
     refine Eq.mpr (H.L2 ..) ?_
     unfold vA.L2.T aL
     have hPl:P1.length = (k0 (dA t.c)).length:=by rw [he]
     rw [eK,if_neg (by omega)]
     rw [←he] at hpz hmz hcz
     refine h M7 ζ f1 l2 ((((hZ.fQ hle6).fQ hle4).fQ hle3).fQ hle1) hsz hlz (hpz.trans hperm) (hmz.trans (hperm.map f)) hokz hodz hwkz ?_ ?_
     ·have hk0l:(k0 (dA t.c)).length≤(dA t.c).length:=List.length_filter_le _ _
      refine (((hsm.pL.trans e1).trans ((hcz.mono (T:=fun c=>c∈bE f (aQ (A ++ t::B))) (fun c hc=>hG.sub c ((j7 hperm).mem_iff.1 hc)) (Int.le_refl _)).pL)).mono (fun _ h=>h) (fun _ h=>h) ?_).to (by omega)
      omega
     ·rw [hcz.get _ (fun hc=>(hG.apart _ ((j7 hperm).mem_iff.1 hc)).2 rfl)];exact e2
    | cons u P2 ih =>
     intro P1 M7 ζ f1 l2 k he hZ hsz hlz hpz hmz hfz hokz hodz hwkz hcz hk
     obtain ⟨k,rfl⟩:∃ j,k = j + 1:=⟨k - 1,by omega⟩
     have ll:=congrArg List.length he
     simp only [List.length_append,List.length_cons] at ll hk
     have hu0:u∈k0 (dA t.c):=by rw [he];simp
     have hk0l:(k0 (dA t.c)).length≤(dA t.c).length:=List.length_filter_le _ _
     have hut:u∈dA t.c:=hkmem u (.inr hu0)
     have huk:u.k = 0:=by
      have:=(List.mem_filter.1 hu0).2
      simpa using this
     have huc:u.c = .nil:=aHZ (hokr u (.inr hut)) huk
     have hun:eR u = [u.n]:=by unfold eR;rw [huc];rfl
     refine Eq.mpr (H.L2 ..) ?_
     unfold vA.L2.T aL
     rw [eK,if_pos (by omega)]
     refine rdx (x:=(u.n:Int)) W.c3 hrA6 hZ.fr P1.length rfl (by rw [he];simp [aU]) ?_
     have hbig:(aQ ((A ++ B) ++ kA (dA t.c)) ++ aQ (P1 ++ u::P2)).Nodup:=by rw [←he];exact hnnr
     have hsub2:(aQ ((A ++ B) ++ kA (dA t.c)) ++ (aQ P1 ++ (u.n::aQ P2))) = aQ ((A ++ B) ++ kA (dA t.c)) ++ aQ (P1 ++ u::P2):=by
      rw [lI P1]
      show _ = _ ++ (aQ P1 ++ (eR u ++ aQ P2))
      rw [hun];rfl
     have hcelu:(bE f (u.n::(aQ ((A ++ B) ++ kA (dA t.c)) ++ aQ P1))).Nodup:=by
      have h8:=hrn
      rw [he,←hsub2,←List.append_assoc] at h8
      have h9:((aQ ((A ++ B) ++ kA (dA t.c)) ++ aQ P1) ++ u.n::aQ P2).Perm ((u.n::(aQ ((A ++ B) ++ kA (dA t.c)) ++ aQ P1)) ++ aQ P2):=List.perm_middle
      have h10:=(j7 (f:=f) h9).nodup_iff.1 h8
      exact (List.nodup_append.1 ((yR f _ _).nodup_iff.1 h10)).1
     have hun2:u.n ∉ aQ l2:=fun hm=>(List.nodup_cons.1 (iB hcelu)).1 (hpz.mem_iff.1 hm)
     have hf1u:f1 u.n = f u.n:=hfz u.n hun2
     have hP1:(u.n::aQ l2).Perm (u.n::(aQ ((A ++ B) ++ kA (dA t.c)) ++ aQ P1)):=hpz.cons _
     have hM1:((u.n::aQ l2).map f1).Perm ((u.n::(aQ ((A ++ B) ++ kA (dA t.c)) ++ aQ P1)).map f):=by
      rw [List.map_cons,List.map_cons,hf1u]
      exact hmz.cons _
     have hcel2:=tM hP1 hM1
     have hnoS:∀ c,(c = u.n∨c = (f u.n).1)→c ∉ bE f (aQ ((A ++ B) ++ kA (dA t.c)) ++ aQ P1):=fun c hc hm=>by
      have h8:=hcelu
      unfold bE at h8 hm
      rw [List.map_cons,List.nodup_append] at h8
      obtain ⟨n1,n2,n3⟩:=h8
      rcases hc with rfl | rfl
      ·rcases List.mem_append.1 hm with hm | hm
       ·exact (List.nodup_cons.1 n1).1 hm
       ·exact n3 u.n List.mem_cons_self u.n (List.mem_cons_of_mem _ hm) rfl
      ·rcases List.mem_append.1 hm with hm | hm
       ·exact n3 _ (List.mem_cons_of_mem _ hm) _ List.mem_cons_self rfl
       ·exact (List.nodup_cons.1 n2).1 hm
     have hud:=hstδ u (.inr hut)
     have hζu:∀ y,ζ.get u.n y = δ.get u.n y:=hcz.get u.n (hnoS _ (.inl rfl))
     have hlbu:Lb ζ f1 (u.n::aQ l2):=fun x hx=>by
      rcases List.mem_cons.1 hx with rfl | hx
      ·rw [hf1u]
       have h8:=hlbδ u.n (List.mem_append_right _ (iI hu0))
       exact h8.congr hζu (hcz.get _ (hnoS _ (.inr rfl))) (by rw [hcz.live]) (by rw [hcz.live])
      ·exact hlz x hx
     refine aBQ hZ (n:=u.n) hsz ?_ ?_ hlbu (hcel2.nodup_iff.2 hcelu) hokz hodz hwkz fun M8 η f2 l3 hE hs3 hl3 hp3 hm3 hf3 hok3 hod3 hwk3 hc3=>?_
     ·rw [hζu,hud.1,huc];rfl
     ·rw [hζu,hud.2.1,huk];rfl
     ·rw [aK,cX (by omega)]
      have hpn:(aQ ((A ++ B) ++ kA (dA t.c)) ++ aQ (P1 ++ [u])).Perm (u.n::(aQ ((A ++ B) ++ kA (dA t.c)) ++ aQ P1)):=by
       rw [lI P1,show aQ [u] = [u.n] from by simp [aQ,hun],←List.append_assoc]
       exact List.perm_append_comm
      have:=ih (P1 ++ [u]) M8 η f2 l3 k (by rw [he];simp) hE hs3 (hl3.sub fun x hx=>hp3.mem_iff.1 hx) ((hp3.trans hP1).trans hpn.symm) (((hp3.map f2).trans hm3).trans (hM1.trans (hpn.map f).symm)) (fun x hx=>?_) hok3 hod3 hwk3 ?_ (by omega)
      ·rw [List.length_append,List.length_singleton] at this
       exact this
      ·have h8:x ∉ u.n::aQ l2:=fun hm=>hx (hp3.mem_iff.2 hm)
       rw [hf3 x h8]
       exact hfz x fun hm=>h8 (List.mem_cons_of_mem _ hm)
      ·refine ((hcz.mono (T:=fun c=>c∈bE f (aQ ((A ++ B) ++ kA (dA t.c)) ++ aQ (P1 ++ [u]))) (fun c hc=>(j7 hpn).mem_iff.2 ?_) (Int.le_refl _)).trans (hc3.mono (fun c hc=>(j7 hpn).mem_iff.2 (hcel2.mem_iff.1 hc)) (Int.le_refl _))).mono (fun _ h=>h) (by simp;omega)
       unfold bE at hc ⊢
       rw [List.map_cons]
       rcases List.mem_append.1 hc with hc | hc
       ·exact List.mem_append_left _ (List.mem_cons_of_mem _ hc)
       ·exact List.mem_append_right _ (List.mem_cons_of_mem _ hc)
   refine ⟨(k0 (dA t.c)).length + 1,key (k0 (dA t.c)) [] M6 ε f l1 _ rfl hC hst' ?_ ?_ ?_ (fun _ _=>rfl) hok' hod' hrs'.wk ?_ (by omega)⟩
   ·refine (hlbδ.sub fun x hx=>List.mem_append_left _ (hp'.mem_iff.1 hx)).congr (fun c _ g hx=>hg' c g (by omega)) (fun c _=>by rw [hc'.live])
   ·simpa [aQ] using hp'
   ·simpa [aQ] using hp'.map f
   ·refine hc'.mono (fun c hc=>List.mem_append_left _ (List.mem_append_left _ hc)) ?_
    have h9:=hln
    simp only [List.length_append,List.length_nil] at h9 ⊢
    omega
  have key:∀ (K2 K1:List Tn) (sR sA:SV) (M4:Mem) (γ:AS) (k:Nat),dA t.c = K1 ++ K2→aA w0 F3 M4 (star (pG sA ((aU ((k0 K1).map (·.n))).map (Value.int .i64))) (star (pG sR ((aU (((A ++ B) ++ kA K1).map (·.n))).map (Value.int .i64))) (aF a γ)))→AS.Sm ((dA t.c).length + 1 + K1.length) α γ→K2.length < k →
    vA.L1 aB k (some ⟨a,0,none⟩) ⟨bx,0,none⟩ sR sA s3 ((s3.n:Nat):Int) (K1.length:Int) M4:=by
   intro K2
   induction K2 with
   | nil =>
    intro K1 sR sA M4 γ k he hH hsm hk
    obtain ⟨k,rfl⟩:∃ j,k = j + 1:=⟨k - 1,by omega⟩
    rw [List.append_nil] at he
    refine Eq.mpr (H.L1 ..) ?_
    unfold vA.L1.T aL
    have:K1.length = (dA t.c).length:=by rw [he]
    rw [eK,if_neg (by omega)]
    rw [←he] at hH
    exact fin M4 sR sA γ hH (hsm.mono (by omega))
   | cons u K2 ih =>
    intro K1 sR sA M4 γ k he hH hsm hk
    obtain ⟨k,rfl⟩:∃ j,k = j + 1:=⟨k - 1,by omega⟩
    have ll:=congrArg List.length he
    simp only [List.length_append,List.length_cons] at ll hk
    have hut:u∈dA t.c:=by rw [he];simp
    have hlu:γ.live u.n = true:=by rw [hsm.live];exact htl u.n (htk u hut)
    have hkA:(kA K1).length≤K1.length:=List.length_filter_le _ _
    have hk0:(k0 K1).length≤K1.length:=List.length_filter_le _ _
    refine Eq.mpr (H.L1 ..) ?_
    unfold vA.L1.T aL
    rw [eK,if_pos (by omega)]
    refine rdx (x:=(u.n:Int)) W.c3 hrk hH.fr K1.length rfl (by rw [he];simp [aU]) ?_
    obtain ⟨F4,hB4,hle4,back4⟩:=hH.aJ9
    refine qF hB4 fun M5 hB5=>?_
    have h6:=back4 M5 _ hB5
    rw [show γ.jN (u.n:Int) 4 = (u.k:Int) from by
     rw [show γ.jN (u.n:Int) 4 = γ.get u.n 4 from AS.iN (f:=4) hlu (by omega),hsm.get]
     exact ((hG.st t hG.mem).2.2.dA u hut).2.1]
    rw [aK,fB]
    have hsm':AS.Sm ((dA t.c).length + 1 + ((K1 ++ [u]).length:Int)) α γ.tick:=(hsm.trans AS.aN).mono (by simp;omega)
    split
    ·rename_i hz
     have hz':u.k = 0:=by omega
     refine yU (K:=fun s27 M26=>vA.L1 aB k _ _ _ s27 _ _ _ M26) h6 (by simp [aU];omega) fun M6 s6 h7=>?_
     rw [cX (by omega)]
     have:=ih (K1 ++ [u]) sR s6 M6 γ.tick k (by rw [he];simp) ?_ hsm' (by omega)
     ·rw [List.length_append,List.length_singleton] at this;exact this
     ·rw [show k0 (K1 ++ [u]) = k0 K1 ++ [u] from by simp [k0,hz'],show kA (K1 ++ [u]) = kA K1 from by simp [kA,hz'],show aU ((k0 K1 ++ [u]).map (·.n)) = aU ((k0 K1).map (·.n)) ++ [(u.n:Int)] from by simp [aU]]
      exact h7
    ·rename_i hz
     have hz':¬ u.k = 0:=by omega
     refine yU (K:=fun s27 M26=>vA.L1 aB k _ _ s27 _ _ _ _ M26) h6.dX (by simp [aU];omega) fun M6 s6 h7=>?_
     rw [cX (by omega)]
     have:=ih (K1 ++ [u]) s6 sA M6 γ.tick k (by rw [he];simp) ?_ hsm' (by omega)
     ·rw [List.length_append,List.length_singleton] at this;exact this
     ·rw [show k0 (K1 ++ [u]) = k0 K1 from by simp [k0,hz'],show kA (K1 ++ [u]) = kA K1 ++ [u] from by simp [kA,hz'],show aU (((A ++ B) ++ (kA K1 ++ [u])).map (·.n)) = aU (((A ++ B) ++ kA K1).map (·.n)) ++ [(u.n:Int)] from by simp [aU]]
      exact h7.dX
  refine ⟨(dA t.c).length + 1,key (dA t.c) [] s2 ⟨none,0,0⟩ M3 β _ rfl ?_ (hsm3.mono (by simp)) (by omega)⟩
  have h8:aA w0 F3 M3 (star (pG s2 ((aU (((A ++ B) ++ kA []).map (·.n))).map (Value.int .i64))) (aF a β)):=by
   simpa [kA] using h5
  exact aA.aFh h8
end
end HL
namespace HL
--COMMON
section
variable {w0:World} {M F:Mem} {R:VP} {a:Nat} {α:AS}
open Go.Proofs.YtodobkbnmjgkdaaGreat.HL.ST
theorem aA.aFp {Q:cW} {s:SV} {l:List Int} (h:aA w0 F M (star (pG s (l.map (Value.int .i64))) Q)) (hw:∀ n∈l,(Lit.int .i64 n).wf = true) (hm:l.length≤1000000):∃ F',aA w0 F' M Q∧Mem.le F F'∧tN w0 F' .i64 s l∧∀ M' Q',aA w0 F' M' Q'→aA w0 F M' (star (pG s (l.map (Value.int .i64))) Q'):=by
 obtain ⟨r,⟨r1,r2,rfl,h1,h2⟩,h3⟩:=h
 have h4:=h3.perm List.perm_append_comm
 obtain ⟨h5,h6⟩:=h4.aside
 have hF:∀ x∈r1,F x.1 = Option.none:=fun x hx=>(h3.at_ x (List.mem_append_left _ hx)).2.1
 refine ⟨ext F r1,⟨r2,h2,h5⟩,xO hF,?_,fun M' Q' ⟨r',g1,g2⟩=>⟨r1 ++ r',⟨r1,r',rfl,h1,g1⟩,(h6 M' r' g2).perm List.perm_append_comm⟩⟩
 have hs:Sl w0 F (ext F r1) s (l.map (Value.int .i64)):=by
  rcases h1 with ⟨rfl,hl,_⟩ | ⟨b,rest,e,e1,rfl⟩
  ·rw [hl];exact Sl.nil
  ·have h6:=h3.at_ (b,l.map (Value.int .i64) ++ rest,e) (by simp)
   refine .inr ⟨b,rest,e,e1,h6.2.1,h6.1,?_⟩
   unfold ext
   simp
 exact hs.rdI hw (by omega)
theorem jU {m:Nat} {j:Int} (h:j≤400 * (bl m:Int) + 400):j≤dK m:=by unfold dK;omega
theorem yS {f:Nat→cC} {b:ST} {t:Tn} (ht:t∈dA b) (hn:(aO b).Nodup) (ho:Od f b) (hb:∀ u∈dA b,u.n≠t.n→Bf (f t.n) (f u.n)):∀ x∈aO b,x≠t.n→Bf (f t.n) (f x):=by
 intro x hx hxt
 rw [←bP] at hx
 obtain ⟨u,hu,hxu⟩:=eJ.1 hx
 by_cases e:u.n = t.n
 ·have hod:=pJ.1 ho u hu
  rcases List.mem_cons.1 hxu with rfl | hxu
  ·exact absurd e hxt
  ·rw [←e];exact hod.1 x hxu
 ·exact (pJ.1 ho u hu).le (hb u hu e) x hxu
theorem xU.gone {z:Nat} {r:Int} {f:Nat→cC} {b:ST} {A B:List Tn} {t:Tn} (h:xU z α r f b) (he:dA b = A ++ t::B) (hs:(aO b).length≤300):m7 z α f A t B:=by
 have hN:aQ (A ++ t::B) = aO b:=by rw [←he,bP]
 refine ⟨fun u hu=>h.st.dA u (by rw [he];exact hu),by rw [hN];exact h.lb,by rw [hN];exact h.nd,fun u hu=>fU.1 h.ok u (by rw [he];exact hu),fun u hu=>pJ.1 h.od u (by rw [he];rcases List.mem_append.1 hu with hu | hu <;> simp [hu]),(pJ.1 h.od t (by rw [he];simp)).2,by rw [←he];exact h.wk,by rw [hN];exact hs⟩
theorem dN {b:ST} {t:Tn} (h:t∈dA b):t.n∈aO b:=by rw [←bP];exact iI h
theorem tG {b:ST} (h:∀ n∈aO b,n < 1000000):∀ n∈aU ((dA b).map (·.n)),(Lit.int .i64 n).wf = true:=mU fun x hx=>by
 obtain ⟨t,ht,rfl⟩:=List.mem_map.1 hx
 exact h _ (dN ht)
theorem xU.small {z:Nat} {r:Int} {f:Nat→cC} {b:ST} (h:xU z α r f b) (hi:α.Inv):∀ n∈aO b,n < 1000000:=fun n hn=>by
 have:=AS.cE hi (h.lb n hn).ln
 have:=hi.n
 omega
theorem xK (b:ST):(dA b).length≤(aO b).length:=by
 induction b with
 | nil=>simp [dA]
 | node n k c s _ ih=>simp only [dA,aO,List.length_cons,List.length_append];omega
theorem z9 {z:Nat} {k:Int} (hk:k = 2∨k = 3) (hz:z = if k = 2 then 1 else 2) {f':Nat→cC} {l':List Tn} {N:List Nat} {L:List cC} (hst:St α (-1) (fo l')) (hlb:Lb α f' (aQ l')) (hp:(aQ l').Perm N) (hm:((aQ l').map f').Perm L) (fS:(fG L N).Nodup) (hok:∀ u∈l',wS z u) (hod:∀ u∈l',y8 f' u) (hwk:Wk l'):KH k α (fo l').root L N:=by
 refine .inr ⟨hk,f',fo l',⟨rfl,hst,by rw [qH];exact hlb,?_,by rw [←hz];exact aGY.2 hok,by rw [aIx];exact hwk,aHu.2 hod⟩,by rw [qH];exact hm,by rw [qH];exact hp⟩
 rw [qH]
 exact (pY (b:=fo l') (by rw [qH];exact hm) (by rw [qH];exact hp) |>.nodup_iff.2 fS |> fun h=>by rw [qH] at h;exact h)
end
--END
section
variable {w0:World} {M F:Mem} {R:VP} {a:Nat} {α:AS} {r:Int} {f:Nat→cC} {b:ST}
open Go.Proofs.YtodobkbnmjgkdaaGreat.HL.ST
theorem aGi (hA:aA w0 F M (aF a α)) (hp:xU 1 α r f b)
  (h:∀ x,x∈gS f (aO b)→(∀ y∈gS f (aO b),y.1≠x.1→Bf x y)→∀ M' β,aA w0 F M' (aF a β)→AS.Sm (dK (aO b).length) α β→R (.int .i64 (x.1:Int)) M') (eQ:aO b≠[]) :
  C PP w0 Id.qX #[.pointer (some ⟨a,0,none⟩),.int .i64 r] R M:=by
 apply qX.go
 unfold qX.T aL
 have hI:=hA.inv
 simp only [go_sem,Option.isNone_some,mY]
 rw [hp.r]
 have hnn:=iB hp.nd
 have hwb:=uZ hp.wk (fU.1 hp.ok) (m:=(aO b).length) (by rw [bP];exact Nat.le_refl _)
 have hlen:=mT α.n _ hnn fun y hy=>AS.cE hI (hp.lb y hy).ln
 have hI65:=hI.n
 have htl:=xK b
 refine nQ hA hp.st (fun n hn=>(hp.lb n hn).ln) hnn fun M1 s β hB hs=>?_
 simp only [go_sem]
 obtain ⟨F',hle,hB1,hr⟩:=hB.freeze (tG (hp.small hI)) (by simp [aU];omega)
 refine aAn hB1 hr (fun t ht=>hs.nd (hp.lb t.n (dN ht))) (fun t ht u hu e=>kO hp.nd _ (dN ht) _ (dN hu) e) (by omega) (fun e=>?_) fun t ht hb M2 γ hC hs2=>?_
 ·cases b with
  | nil=>exact absurd rfl eQ
  | node n k c s=>simp [dA] at e
 ·simp only [go_sem]
  have hNt:=(hs.trans hs2).nd (hp.lb t.n (dN ht))
  refine eT hC fun M3 hC3=>?_
  rw [show γ.fN (t.n:Int) 6 = ((f t.n).1:Int) from AS.dE (f:=6) hNt.ln (by omega) hNt.it (AS.cE hC.inv hNt.li)]
  simp only [go_sem]
  refine h (f t.n) (List.mem_map.2 ⟨t.n,dN ht,rfl⟩) (fun y hy hyn=>?_) M3 _ (hC3.fQ hle) (((hs.trans hs2).trans AS.aN).mono (jU (by omega)))
  obtain ⟨x,hx,rfl⟩:=List.mem_map.1 hy
  exact yS ht hnn hp.od hb x hx fun e=>hyn (by rw [e])
theorem aFW (hA:aA w0 F M (aF a α)) (hp:xU 1 α r f b) (eQ:aO b≠[]) (h300:(aO b).length≤300)
  (h:∀ x∈aO b,(∀ y∈aO b,y≠x→Bf (f x) (f y))→∀ L N,(gS f (aO b)).Perm (f x::L)→(aO b).Perm (x::N)→∀ M' β r',aA w0 F M' (aF a β)→KH 2 β r' L N→AS.lJ (fun c=>c∈bE f (aO b)) (· = x) (-1) (dK (aO b).length) α β→β.get (f x).1 9 = -1→R (.tuple #[.int .i64 r',.int .i64 ((f x).1:Int)]) M') :
  C PP w0 Id.jO #[.pointer (some ⟨a,0,none⟩),.int .i64 r] R M:=by
 apply jO.go
 intro aB H
 unfold jO.T aL
 have hI:=hA.inv
 simp only [go_sem,Option.isNone_some,mY]
 have hnn:=iB hp.nd
 have hroot:∃ n:Nat,r = (n:Int)∧n∈aO b:=by
  rw [hp.r]
  cases b with
  | nil=>exact absurd rfl eQ
  | node n k c s=>exact ⟨n,rfl,by simp [aO]⟩
 obtain ⟨n,hrn,hnb⟩:=hroot
 refine wJ hA ?_
 (rw [hrn,AS.sZ,(hp.lb n hnb).ln,bT,Bool.not_true,mY,←hrn];refine Eq.mpr (H.J1 ..) ?_)
 unfold jO.J1.T aL
 rw [hp.r]
 have hwb:=uZ hp.wk (fU.1 hp.ok) (m:=(aO b).length) (by rw [bP];exact Nat.le_refl _)
 have htl:=xK b
 refine nQ hA hp.st (fun n hn=>(hp.lb n hn).ln) hnn fun M1 s β hB hs=>?_
 rw [aR]
 obtain ⟨F',hB1,hle,hr,back⟩:=hB.aFp (tG (hp.small hI)) (by simp [aU];omega)
 refine aAn hB1 hr (fun t ht=>hs.nd (hp.lb t.n (dN ht))) (fun t ht u hu e=>kO hp.nd _ (dN ht) _ (dN hu) e) (by omega) (fun e=>?_) fun t ht hb M2 γ hC hs2=>?_
 ·cases b with
  | nil=>exact absurd rfl eQ
  | node n k c s=>simp [dA] at e
 ·rw [aK]
  have h2:=back M2 _ hC
  obtain ⟨A,B,hAB⟩:=List.append_of_mem ht
  have hG:m7 1 γ f A t B:=(hp.gone hAB h300).sm (hs.trans hs2)
  have hN:aQ (A ++ t::B) = aO b:=by rw [←hAB,bP]
  rw [hAB] at h2
  refine xB h2 hG (m:=(aO b).length) (by rw [hN];exact Nat.le_refl _) fun M3 δ f' l' hD hst' hlb' hp' hm' hok' hod' hwk' he' hg'=>?_
  simp only [go_sem]
  have hpn:(aO b).Perm (t.n::(aQ (A ++ B) ++ aO t.c)):=by rw [←hN];exact p8 A B t
  have hpi:(gS f (aO b)).Perm (f t.n::(aQ (A ++ B) ++ aO t.c).map f):=hpn.map f
  rw [hN] at he'
  have hck:(fG ((aQ (A ++ B) ++ aO t.c).map f) (aQ (A ++ B) ++ aO t.c)).Nodup:=by
   have h3:=(j7 (f:=f) hpn).nodup_iff.1 hp.nd
   unfold bE at h3
   unfold fG
   rw [List.map_cons,List.nodup_append] at h3
   obtain ⟨n1,n2,n3⟩:=h3
   rw [List.map_map]
   exact List.nodup_append.2 ⟨(List.nodup_cons.1 n1).2,(List.nodup_cons.1 n2).2,fun x hx y hy=>n3 x (List.mem_cons_of_mem _ hx) y (List.mem_cons_of_mem _ hy)⟩
  refine h t.n (dN ht) (yS ht hnn hp.od hb) _ _ hpi hpn M3 δ _ hD (z9 (.inl rfl) rfl hst' hlb' hp' hm' hck hok' hod' hwk') (((((hs.trans hs2).pL (S:=fun c=>c∈bE f (aO b)) (L:=(· = t.n))).trans he').mono (fun _ h=>h) (fun _ h=>h) (jU ?_)).to (by omega)) hg'
  omega
theorem aEL (hA:aA w0 F M (aF a α)) {s:Int} {g:Nat→cC} {c:ST} (hp:xU 1 α r f b) (hq:xU 1 α s g c) (hd:(bE f (aO b) ++ bE g (aO c)).Nodup) (h300:(aO b).length + (aO c).length≤300)
  (h:∀ M' β r',aA w0 F M' (aF a β)→KH 2 β r' (gS f (aO b) ++ gS g (aO c)) (aO b ++ aO c)→AS.lJ (fun x=>x∈bE f (aO b)∨x∈bE g (aO c)) (fun _=>False) 0 (dK ((aO b).length + (aO c).length)) α β→R (.int .i64 r') M') :
  C PP w0 Id.oU #[.pointer (some ⟨a,0,none⟩),.int .i64 r,.int .i64 s] R M:=by
 apply oU.go
 unfold oU.T aL
 have hI:=hA.inv
 simp only [go_sem,Option.isNone_some,mY]
 obtain ⟨d1,d2,d3⟩:=List.nodup_append.1 hd
 rw [fB]
 split
 ·rename_i hrs
  have hb0:b = .nil∧c = .nil:=by
   rw [hp.r,hq.r] at hrs
   cases b with
   | nil =>
    cases c with
    | nil=>exact ⟨rfl,rfl⟩
    | node n k c s=>simp only [root] at hrs;omega
   | node n k c0 s0 =>
    cases c with
    | nil=>simp only [root] at hrs;omega
    | node n' k' c' s' =>
     simp only [root] at hrs
     have:n = n':=by omega
     exact absurd this (d3 n (List.mem_append_left _ (by simp [aO])) n' (List.mem_append_left _ (by simp [aO])))
  obtain ⟨rfl,rfl⟩:=hb0
  refine h M α r hA (.inr ⟨.inl rfl,f,.nil,hp,List.Perm.refl _,List.Perm.refl _⟩) (AS.Sm.refl.pL.mono (fun _ h=>h) (fun _ h=>h) (jU (by omega)))
 ·have hnb:=iB hp.nd
  have hncc:=iB hq.nd
  have hwb:=uZ hp.wk (fU.1 hp.ok) (m:=(aO b).length + (aO c).length) (by rw [bP];omega)
  have hwc:=uZ hq.wk (fU.1 hq.ok) (m:=(aO b).length + (aO c).length) (by rw [bP];omega)
  have h9b:=wF hp.wk (fU.1 hp.ok) (by rw [bP];omega)
  have h9c:=wF hq.wk (fU.1 hq.ok) (by rw [bP];omega)
  rw [hp.r]
  refine nQ hA hp.st (fun n hn=>(hp.lb n hn).ln) hnb fun M1 s1 β hB hs1=>?_
  rw [aR,hq.r]
  obtain ⟨F1,hB1,hle1,back1⟩:=hB.last
  refine nQ hB1 (hq.st.sm hs1) (fun n hn=>by rw [hs1.live];exact (hq.lb n hn).ln) hncc fun M2 s2 γ hC hs2=>?_
  have h2:=back1 M2 _ hC
  rw [aR]
  have hrc:tN w0 M2 .i64 s2 (aU ((dA c).map (·.n))):=h2.right.aI3 (fun x hx=>by
   obtain ⟨t,ht,rfl⟩:=List.mem_map.1 hx
   exact hq.small hI _ (dN ht)) (by simp;omega)
  refine aI1 h2 hrc (by simp [aU];omega) fun M3 s3 h3=>?_
  rw [aR]
  have h4:aA w0 F M3 (star (pG s3 ((aU ((dA b ++ dA c).map (·.n))).map (Value.int .i64))) (aF a γ)):=by
   rw [show aU ((dA b ++ dA c).map (·.n)) = aU ((dA b).map (·.n)) ++ aU ((dA c).map (·.n)) from by simp [aU]]
   exact h3.dX.right
  have hN:aQ (dA b ++ dA c) = aO b ++ aO c:=by rw [lI,bP,bP]
  let hh:Nat→cC:=fun x=>if x∈aO b then f x else g x
  have ehb:∀ x∈aO b,hh x = f x:=fun x hx=>if_pos hx
  have ehc:∀ x∈aO c,hh x = g x:=fun x hx=>if_neg fun hxb=>d3 x (List.mem_append_left _ hxb) x (List.mem_append_left _ hx) rfl
  have hs3:=hs1.trans hs2
  have hlb:Lb γ hh (aQ (dA b ++ dA c)):=by
   rw [hN]
   intro x hx
   rcases List.mem_append.1 hx with hx | hx
   ·rw [ehb x hx];exact hs3.nd (hp.lb x hx)
   ·rw [ehc x hx];exact hs3.nd (hq.lb x hx)
  have hcel:(bE hh (aO b ++ aO c)).Perm (bE f (aO b) ++ bE g (aO c)):=by
   refine (yR hh _ _).trans ?_
   rw [tW ehb,tW ehc]
  have hits:(aO b ++ aO c).map hh = gS f (aO b) ++ gS g (aO c):=by
   rw [List.map_append]
   show gS hh (aO b) ++ gS hh (aO c) = _
   rw [qS ehb,qS ehc]
  obtain ⟨F4,hle4,hB4,hr4⟩:=h4.freeze (mU fun x hx=>by
   obtain ⟨t,ht,rfl⟩:=List.mem_map.1 hx
   rcases List.mem_append.1 ht with ht | ht
   ·exact hp.small hI _ (dN ht)
   ·exact hq.small hI _ (dN ht)) (by simp [aU];omega)
  refine vJ hB4 (z:=1) (f:=hh) (by decide) hr4 (fun t ht=>?_) hlb (by rw [hN];exact hcel.nodup_iff.2 hd) (fun t ht=>?_) (fun t ht=>?_) (by rw [List.length_append];omega) fun M5 δ l' hD hst' hp' hok' hod' hrs' hc' hg'=>?_
  ·rcases List.mem_append.1 ht with ht | ht
   ·exact (hp.st.dA t ht).sm hs3
   ·exact (hq.st.dA t ht).sm hs3
  ·rcases List.mem_append.1 ht with ht | ht
   ·exact fU.1 hp.ok t ht
   ·exact fU.1 hq.ok t ht
  ·rcases List.mem_append.1 ht with ht | ht
   ·exact (pJ.1 hp.od t ht).congr fun x hx=>ehb x (by rw [←bP];exact eJ.2 ⟨t,ht,hx⟩)
   ·exact (pJ.1 hq.od t ht).congr fun x hx=>ehc x (by rw [←bP];exact eJ.2 ⟨t,ht,hx⟩)
  ·rw [aK]
   rw [hN] at hp'
   have hm':((aQ l').map hh).Perm (gS f (aO b) ++ gS g (aO c)):=by rw [←hits];exact hp'.map hh
   refine h M5 δ _ (hD.fQ hle4) (z9 (.inl rfl) rfl hst' ?_ hp' hm' ?_ hok' hod' hrs'.wk) ?_
   ·refine (hlb.sub fun x hx=>by rw [hN];exact hp'.mem_iff.1 hx).congr (fun x _ y hy=>hg' x y (by omega)) (fun x _=>by rw [hc'.live])
   ·rw [←hits]
    unfold fG
    rw [List.map_map]
    exact hcel.nodup_iff.2 hd
   ·refine ((hs3.pL.trans (hc'.mono (T:=fun x=>x∈bE f (aO b)∨x∈bE g (aO c)) (fun x hx=>?_) (Int.le_refl _)).pL).mono (fun _ h=>h) (fun _ h=>h) (jU ?_)).to (by omega)
    ·rw [hN] at hx
     rcases List.mem_append.1 hx with hx | hx
     ·exact .inl (List.mem_append_left _ hx)
     ·exact .inr (List.mem_append_left _ hx)
    ·rw [List.length_append];omega
theorem aEr (hA:aA w0 F M (aF a α)) {α0:AS} (hp:xU 1 α0 r f b) {x:Nat} {e':cY} {j:Int} (hx:x∈aO b) (hle:e'.1≤(f x).2.1) (hs2:e'.2 = (f x).2.2) (hs:AS.Sm j (α0.put (f x).1 7 e'.1) α)
  (h:∀ L,(gS f (aO b)).Perm (f x::L)→∀ M' β,aA w0 F M' (aF a β)→KH 2 β r (((f x).1,e')::L) (aO b)→AS.lJ (fun c=>c∈bE f (aO b)) (fun _=>False) 0 (dK (aO b).length) α β→R (.int .i64 r) M') :
  C PP w0 Id.nT #[.pointer (some ⟨a,0,none⟩),.int .i64 r,.int .i64 ((f x).1:Int)] R M:=by
 apply nT.go
 unfold nT.T aL
 simp only [go_sem,Option.isNone_some,mY]
 have hnn:=iB hp.nd
 let f':Nat→cC:=fun y=>if y = x then ((f x).1,e') else f y
 have e1:f' x = ((f x).1,e'):=if_pos rfl
 have e2:∀ y,y≠x→f' y = f y:=fun y hy=>if_neg hy
 have e3:∀ y,(f' y).1 = (f y).1:=fun y=>by
  by_cases e:y = x
  ·subst e;rw [e1]
  ·rw [e2 y e]
 have ecel:bE f' (aO b) = bE f (aO b):=by
  unfold bE
  rw [List.map_congr_left fun y _=>e3 y]
 have g:∀ c y,α.get c y = if c = (f x).1∧y = 7 then e'.1 else α0.get c y:=fun c y=>by rw [hs.get];rfl
 have gl:∀ c,α.live c = α0.live c:=fun c=>by rw [hs.live];rfl
 have hst:St α (-1) b:=hp.st.congr fun n hn y _=>by
  rw [g,if_neg (fun e:n = (f x).1∧y = 7=>rY hp.nd n hn x hx e.1)]
 have hlb:Lb α f' (aO b):=fun n hn=>by
  have h1:=hp.lb n hn
  by_cases e:n = x
  ·subst e
   rw [e1]
   refine ⟨(gl _).trans h1.ln,(gl _).trans h1.li,?_,?_,?_,?_⟩
   ·rw [g,if_neg (by omega)];exact h1.it
   ·rw [g,if_neg (by omega)];exact h1.nd
   ·rw [g,if_pos ⟨rfl,rfl⟩]
   ·rw [g,if_neg (by omega)];rw [hs2];exact h1.s
  ·rw [e2 n e]
   refine h1.congr (fun y=>?_) (fun y=>?_) (gl _) (gl _)
   ·rw [g,if_neg (fun e:n = (f x).1∧y = 7=>rY hp.nd n hn x hx e.1)]
   ·rw [g,if_neg (fun e':(f n).1 = (f x).1∧y = 7=>e (kO hp.nd n hn x hx e'.1))]
 have hda:=(rA hnn).1 hp.od
 have hH:Hol f' b x:=fun y hy w hw hyx hwx=>by rw [e2 y hyx,e2 w hwx];exact hda y hy w hw
 have hD:aDd f' b x:=fun y hy hxy=>by
  have hyx:y≠x:=fun e=>by rw [e] at hxy;exact oP hnn hxy
  rw [e1,e2 y hyx]
  have h1:=hda y hy x hxy
  rcases h1 with h1 | ⟨h1,h2⟩
  ·refine .inl ?_
   unfold Lt at h1 ⊢
   simp only
   omega
  ·by_cases h9:e'.1 = (f x).2.1
   ·have:e' = (f x).2:=Prod.ext h9 hs2
    rw [this];exact .inr ⟨h1,h2⟩
   ·refine .inl ?_
    unfold Lt
    rw [←h1]
    simp only
    omega
 obtain ⟨t,ht,hal⟩:=wE hp.ok hx
 have hkb:=ST.y4 (fU.1 hp.ok t ht) (m:=(aO b).length) (by rw [←bP b];exact rZ ht)
 have:=aAt hA false (f:=f') (x:=x) hst hlb (by rw [ecel];exact hp.nd) hx hH (fun _=>hD) (m:=bl (aO b).length) (by omega) (R:=fun v M=>lT .i64 v fun n5=>R (.int .i64 r) M) fun M1 β f2 y hB hst2 hlb2 hy hfy hpm _ hod2 hc=>?_
 ·rw [e3 x] at this
  exact this
 ·rw [aK]
  obtain ⟨L,hL⟩:∃ L,(gS f (aO b)).Perm (f x::L)∧((aO b).map f').Perm (((f x).1,e')::L):=by
   have h1:=List.perm_cons_erase hx
   refine ⟨((aO b).erase x).map f,h1.map f,?_⟩
   refine (h1.map f').trans ?_
   rw [List.map_cons,e1]
   rw [List.map_congr_left fun y hy=>e2 y fun e=>by
    have:=h1.nodup_iff.1 hnn
    exact (List.nodup_cons.1 this).1 (e▸hy)]
  rw [ecel] at hc
  refine h L hL.1 M1 β hB (.inr ⟨.inl rfl,f2,b,⟨hp.r,hst2,hlb2,?_,hp.ok,hp.wk,(rA hnn).2 (hod2 rfl)⟩,hpm.trans hL.2,List.Perm.refl _⟩) (hc.pL.mono (fun _ h=>h) (fun _ h=>h) (jU (by omega)))
  have:=tM (f:=f2) (g:=f') (List.Perm.refl (aO b)) hpm
  rw [ecel] at this
  exact this.nodup_iff.2 hp.nd
theorem aGd (hA:aA w0 F M (aF a α)) (hp:xU 1 α r f b) {x:Nat} (hx:x∈aO b) (h300:(aO b).length≤300)
  (h:∀ L,(gS f (aO b)).Perm (f x::L)→∀ n N,(aO b).Perm (n::N)→∀ M' β r',aA w0 F M' (aF a β)→KH 2 β r' L N→AS.lJ (fun c=>c∈bE f (aO b)) (· = n) (-1) (dK (aO b).length) α β→β.get (f x).1 9 = -1→R (.int .i64 r') M') :
  C PP w0 Id.qT #[.pointer (some ⟨a,0,none⟩),.int .i64 r,.int .i64 ((f x).1:Int)] R M:=by
 apply qT.go
 unfold qT.T aL
 have hI:=hA.inv
 simp only [go_sem,Option.isNone_some,mY]
 have hnn:=iB hp.nd
 have hNx:=hp.lb x hx
 refine yK hA fun M1 hA1=>?_
 rw [show α.fN ((f x).1:Int) 9 = (x:Int) from AS.dE (f:=9) hNx.li (by omega) hNx.nd (AS.cE hI hNx.ln),aK,fB,if_neg (by omega)]
 have hda:=(rA hnn).1 hp.od
 obtain ⟨t0,ht0,hal⟩:=wE hp.ok hx
 have hkb:=ST.y4 (fU.1 hp.ok t0 ht0) (m:=(aO b).length) (by rw [←bP b];exact rZ ht0)
 refine aAt hA1 true (f:=f) (x:=x) (hp.st.sm AS.aN) (hp.lb.sm AS.aN) hp.nd hx (fun y hy w hw _ _=>hda y hy w hw) (fun e=>by cases e) (m:=bl (aO b).length) (by omega) fun M2 β f2 y hB hst2 hlb2 hy hfy hpm hany _ hc=>?_
 obtain ⟨hroot,hHol⟩:=hany rfl
 obtain ⟨t,ht,htn⟩:=aAx hy hnn hroot
 subst htn
 rw [aK,hp.r]
 have hcel2:=tM (f:=f2) (g:=f) (List.Perm.refl (aO b)) hpm
 have htl:=xK b
 have hwb:=uZ hp.wk (fU.1 hp.ok) (m:=(aO b).length) (by rw [bP];exact Nat.le_refl _)
 refine nQ hB hst2 (fun n hn=>(hlb2 n hn).ln) hnn fun M3 s γ hC hs3=>?_
 rw [aR]
 obtain ⟨F',hC1,hle,hr,back⟩:=hC.aFp (tG (hp.small hI)) (by simp [aU];omega)
 have hr3:tN w0 M3 .i64 s (aU ((dA b).map (·.n))):=hr.le hC1.fr
 refine aE9 hr3 (List.mem_map.2 ⟨t.n,List.mem_map.2 ⟨t,ht,rfl⟩,rfl⟩) (by simp [aU];omega) ?_
 rw [bT,Bool.not_true,mY]
 obtain ⟨A,B,hAB⟩:=List.append_of_mem ht
 have hN:aQ (A ++ t::B) = aO b:=by rw [←hAB,bP]
 obtain ⟨k1,k2⟩:=hHol.kids hnn ht
 have hroots:(((dA b).map (·.n))).Nodup:=aA4 (by rw [bP];exact hnn)
 have hG:m7 1 γ f2 A t B:=by
  refine ⟨fun u hu=>(hst2.dA u (by rw [hAB];exact hu)).sm hs3,by rw [hN];exact hlb2.sm hs3,by rw [hN];exact hcel2.nodup_iff.2 hp.nd,fun u hu=>fU.1 hp.ok u (by rw [hAB];exact hu),fun u hu=>?_,k1,by rw [←hAB];exact hp.wk,by rw [hN];exact h300⟩
  rw [hAB,List.map_append,List.map_cons] at hroots
  obtain ⟨n1,n2,n3⟩:=List.nodup_append.1 hroots
  refine k2 u (by rw [hAB];rcases List.mem_append.1 hu with hu | hu <;> simp [hu]) fun e=>?_
  rcases List.mem_append.1 hu with hu | hu
  ·exact n3 u.n (List.mem_map.2 ⟨u,hu,rfl⟩) t.n List.mem_cons_self e
  ·exact (List.nodup_cons.1 n2).1 (List.mem_map.2 ⟨u,hu,e⟩)
 rw [hAB] at hC
 refine xB hC hG (m:=(aO b).length) (by rw [hN];exact Nat.le_refl _) fun M4 δ f' l' hD hst' hlb' hp' hm' hok' hod' hwk' he' hg'=>?_
 simp only [go_sem]
 have hpn:(aO b).Perm (t.n::(aQ (A ++ B) ++ aO t.c)):=by rw [←hN];exact p8 A B t
 have hpi:((aO b).map f2).Perm (f x::(aQ (A ++ B) ++ aO t.c).map f2):=by rw [←hfy];exact hpn.map f2
 rw [hN] at he'
 have hck:(fG ((aQ (A ++ B) ++ aO t.c).map f2) (aQ (A ++ B) ++ aO t.c)).Nodup:=by
  have h3:=(j7 (f:=f2) hpn).nodup_iff.1 (hcel2.nodup_iff.2 hp.nd)
  unfold bE at h3
  unfold fG
  rw [List.map_cons,List.nodup_append] at h3
  obtain ⟨n1,n2,n3⟩:=h3
  rw [List.map_map]
  exact List.nodup_append.2 ⟨(List.nodup_cons.1 n1).2,(List.nodup_cons.1 n2).2,fun x hx y hy=>n3 x (List.mem_cons_of_mem _ hx) y (List.mem_cons_of_mem _ hy)⟩
 rw [hfy] at hg'
 refine h _ (hpm.symm.trans hpi) t.n _ hpn M4 δ _ hD (z9 (.inl rfl) rfl hst' hlb' hp' hm' hck hok' hod' hwk') ?_ hg'
 refine (((((AS.aN.lN.trans hc).pL (L:=(· = t.n))).trans (hs3.pL)).trans (he'.mono (S':=fun c=>c∈bE f (aO b)) (fun c hc=>hcel2.mem_iff.1 hc) (fun _ h=>h) (Int.le_refl _))).mono (fun _ h=>h) (fun _ h=>h) (jU ?_)).to (by omega)
 omega
end
end HL
namespace HL
section
variable {w0:World} {M F:Mem} {R:VP} {a:Nat} {α:AS} {r:Int} {f:Nat→cC} {b:ST}
open Go.Proofs.YtodobkbnmjgkdaaGreat.HL.ST
theorem aF8 (hA:aA w0 F M (aF a α)) (hp:xU 2 α r f b)
  (h:∀ x,x∈gS f (aO b)→(∀ y∈gS f (aO b),y.1≠x.1→Bf x y)→∀ M' β,aA w0 F M' (aF a β)→AS.Sm (dK (aO b).length) α β→R (.int .i64 (x.1:Int)) M') (eQ:aO b≠[]) :
  C PP w0 Id.mP #[.pointer (some ⟨a,0,none⟩),.int .i64 r] R M:=by
 apply mP.go
 unfold mP.T aL
 have hI:=hA.inv
 simp only [go_sem,Option.isNone_some,mY]
 rw [hp.r]
 have hnn:=iB hp.nd
 have hwb:=uZ hp.wk (fU.1 hp.ok) (m:=(aO b).length) (by rw [bP];exact Nat.le_refl _)
 have hlen:=mT α.n _ hnn fun y hy=>AS.cE hI (hp.lb y hy).ln
 have hI65:=hI.n
 have htl:=xK b
 refine nQ hA hp.st (fun n hn=>(hp.lb n hn).ln) hnn fun M1 s β hB hs=>?_
 simp only [go_sem]
 obtain ⟨F',hle,hB1,hr⟩:=hB.freeze (tG (hp.small hI)) (by simp [aU];omega)
 refine aAn hB1 hr (fun t ht=>hs.nd (hp.lb t.n (dN ht))) (fun t ht u hu e=>kO hp.nd _ (dN ht) _ (dN hu) e) (by omega) (fun e=>?_) fun t ht hb M2 γ hC hs2=>?_
 ·cases b with
  | nil=>exact absurd rfl eQ
  | node n k c s=>simp [dA] at e
 ·simp only [go_sem]
  have hNt:=(hs.trans hs2).nd (hp.lb t.n (dN ht))
  refine eT hC fun M3 hC3=>?_
  rw [show γ.fN (t.n:Int) 6 = ((f t.n).1:Int) from AS.dE (f:=6) hNt.ln (by omega) hNt.it (AS.cE hC.inv hNt.li)]
  simp only [go_sem]
  refine h (f t.n) (List.mem_map.2 ⟨t.n,dN ht,rfl⟩) (fun y hy hyn=>?_) M3 _ (hC3.fQ hle) (((hs.trans hs2).trans AS.aN).mono (jU (by omega)))
  obtain ⟨x,hx,rfl⟩:=List.mem_map.1 hy
  exact yS ht hnn hp.od hb x hx fun e=>hyn (by rw [e])
theorem aGp (hA:aA w0 F M (aF a α)) (hp:xU 2 α r f b) (eQ:aO b≠[]) (h300:(aO b).length≤300)
  (h:∀ x∈aO b,(∀ y∈aO b,y≠x→Bf (f x) (f y))→∀ L N,(gS f (aO b)).Perm (f x::L)→(aO b).Perm (x::N)→∀ M' β r',aA w0 F M' (aF a β)→KH 3 β r' L N→AS.lJ (fun c=>c∈bE f (aO b)) (· = x) (-1) (dK (aO b).length) α β→β.get (f x).1 9 = -1→R (.tuple #[.int .i64 r',.int .i64 ((f x).1:Int)]) M') :
  C PP w0 Id.eY #[.pointer (some ⟨a,0,none⟩),.int .i64 r] R M:=by
 apply eY.go
 intro aB H
 unfold eY.T aL
 have hI:=hA.inv
 simp only [go_sem,Option.isNone_some,mY]
 have hnn:=iB hp.nd
 have hroot:∃ n:Nat,r = (n:Int)∧n∈aO b:=by
  rw [hp.r]
  cases b with
  | nil=>exact absurd rfl eQ
  | node n k c s=>exact ⟨n,rfl,by simp [aO]⟩
 obtain ⟨n,hrn,hnb⟩:=hroot
 refine wJ hA ?_
 (rw [hrn,AS.sZ,(hp.lb n hnb).ln,bT,Bool.not_true,mY,←hrn];refine Eq.mpr (H.J1 ..) ?_)
 unfold eY.J1.T aL
 rw [hp.r]
 have hwb:=uZ hp.wk (fU.1 hp.ok) (m:=(aO b).length) (by rw [bP];exact Nat.le_refl _)
 have htl:=xK b
 refine nQ hA hp.st (fun n hn=>(hp.lb n hn).ln) hnn fun M1 s β hB hs=>?_
 rw [aR]
 obtain ⟨F',hB1,hle,hr,back⟩:=hB.aFp (tG (hp.small hI)) (by simp [aU];omega)
 refine aAn hB1 hr (fun t ht=>hs.nd (hp.lb t.n (dN ht))) (fun t ht u hu e=>kO hp.nd _ (dN ht) _ (dN hu) e) (by omega) (fun e=>?_) fun t ht hb M2 γ hC hs2=>?_
 ·cases b with
  | nil=>exact absurd rfl eQ
  | node n k c s=>simp [dA] at e
 ·rw [aK]
  have h2:=back M2 _ hC
  obtain ⟨A,B,hAB⟩:=List.append_of_mem ht
  have hG:m7 2 γ f A t B:=(hp.gone hAB h300).sm (hs.trans hs2)
  have hN:aQ (A ++ t::B) = aO b:=by rw [←hAB,bP]
  rw [hAB] at h2
  refine aIh h2 hG (m:=(aO b).length) (by rw [hN];exact Nat.le_refl _) fun M3 δ f' l' hD hst' hlb' hp' hm' hok' hod' hwk' he' hg'=>?_
  simp only [go_sem]
  have hpn:(aO b).Perm (t.n::(aQ (A ++ B) ++ aO t.c)):=by rw [←hN];exact p8 A B t
  have hpi:(gS f (aO b)).Perm (f t.n::(aQ (A ++ B) ++ aO t.c).map f):=hpn.map f
  rw [hN] at he'
  have hck:(fG ((aQ (A ++ B) ++ aO t.c).map f) (aQ (A ++ B) ++ aO t.c)).Nodup:=by
   have h3:=(j7 (f:=f) hpn).nodup_iff.1 hp.nd
   unfold bE at h3
   unfold fG
   rw [List.map_cons,List.nodup_append] at h3
   obtain ⟨n1,n2,n3⟩:=h3
   rw [List.map_map]
   exact List.nodup_append.2 ⟨(List.nodup_cons.1 n1).2,(List.nodup_cons.1 n2).2,fun x hx y hy=>n3 x (List.mem_cons_of_mem _ hx) y (List.mem_cons_of_mem _ hy)⟩
  refine h t.n (dN ht) (yS ht hnn hp.od hb) _ _ hpi hpn M3 δ _ hD (z9 (.inr rfl) rfl hst' hlb' hp' hm' hck hok' hod' hwk') (((((hs.trans hs2).pL (S:=fun c=>c∈bE f (aO b)) (L:=(· = t.n))).trans he').mono (fun _ h=>h) (fun _ h=>h) (jU ?_)).to (by omega)) hg'
  omega
theorem aD4 (hA:aA w0 F M (aF a α)) {s:Int} {g:Nat→cC} {c:ST} (hp:xU 2 α r f b) (hq:xU 2 α s g c) (hd:(bE f (aO b) ++ bE g (aO c)).Nodup) (h300:(aO b).length + (aO c).length≤300)
  (h:∀ M' β r',aA w0 F M' (aF a β)→KH 3 β r' (gS f (aO b) ++ gS g (aO c)) (aO b ++ aO c)→AS.lJ (fun x=>x∈bE f (aO b)∨x∈bE g (aO c)) (fun _=>False) 0 (dK ((aO b).length + (aO c).length)) α β→R (.int .i64 r') M') :
  C PP w0 Id.kB #[.pointer (some ⟨a,0,none⟩),.int .i64 r,.int .i64 s] R M:=by
 apply kB.go
 unfold kB.T aL
 have hI:=hA.inv
 simp only [go_sem,Option.isNone_some,mY]
 obtain ⟨d1,d2,d3⟩:=List.nodup_append.1 hd
 rw [fB]
 split
 ·rename_i hrs
  have hb0:b = .nil∧c = .nil:=by
   rw [hp.r,hq.r] at hrs
   cases b with
   | nil =>
    cases c with
    | nil=>exact ⟨rfl,rfl⟩
    | node n k c s=>simp only [root] at hrs;omega
   | node n k c0 s0 =>
    cases c with
    | nil=>simp only [root] at hrs;omega
    | node n' k' c' s' =>
     simp only [root] at hrs
     have:n = n':=by omega
     exact absurd this (d3 n (List.mem_append_left _ (by simp [aO])) n' (List.mem_append_left _ (by simp [aO])))
  obtain ⟨rfl,rfl⟩:=hb0
  refine h M α r hA (.inr ⟨.inr rfl,f,.nil,hp,List.Perm.refl _,List.Perm.refl _⟩) (AS.Sm.refl.pL.mono (fun _ h=>h) (fun _ h=>h) (jU (by omega)))
 ·have hnb:=iB hp.nd
  have hncc:=iB hq.nd
  have hwb:=uZ hp.wk (fU.1 hp.ok) (m:=(aO b).length + (aO c).length) (by rw [bP];omega)
  have hwc:=uZ hq.wk (fU.1 hq.ok) (m:=(aO b).length + (aO c).length) (by rw [bP];omega)
  have h9b:=wF hp.wk (fU.1 hp.ok) (by rw [bP];omega)
  have h9c:=wF hq.wk (fU.1 hq.ok) (by rw [bP];omega)
  rw [hp.r]
  refine nQ hA hp.st (fun n hn=>(hp.lb n hn).ln) hnb fun M1 s1 β hB hs1=>?_
  rw [aR,hq.r]
  obtain ⟨F1,hB1,hle1,back1⟩:=hB.last
  refine nQ hB1 (hq.st.sm hs1) (fun n hn=>by rw [hs1.live];exact (hq.lb n hn).ln) hncc fun M2 s2 γ hC hs2=>?_
  have h2:=back1 M2 _ hC
  rw [aR]
  have hrc:tN w0 M2 .i64 s2 (aU ((dA c).map (·.n))):=h2.right.aI3 (fun x hx=>by
   obtain ⟨t,ht,rfl⟩:=List.mem_map.1 hx
   exact hq.small hI _ (dN ht)) (by simp;omega)
  refine aI1 h2 hrc (by simp [aU];omega) fun M3 s3 h3=>?_
  rw [aR]
  have h4:aA w0 F M3 (star (pG s3 ((aU ((dA b ++ dA c).map (·.n))).map (Value.int .i64))) (aF a γ)):=by
   rw [show aU ((dA b ++ dA c).map (·.n)) = aU ((dA b).map (·.n)) ++ aU ((dA c).map (·.n)) from by simp [aU]]
   exact h3.dX.right
  have hN:aQ (dA b ++ dA c) = aO b ++ aO c:=by rw [lI,bP,bP]
  let hh:Nat→cC:=fun x=>if x∈aO b then f x else g x
  have ehb:∀ x∈aO b,hh x = f x:=fun x hx=>if_pos hx
  have ehc:∀ x∈aO c,hh x = g x:=fun x hx=>if_neg fun hxb=>d3 x (List.mem_append_left _ hxb) x (List.mem_append_left _ hx) rfl
  have hs3:=hs1.trans hs2
  have hlb:Lb γ hh (aQ (dA b ++ dA c)):=by
   rw [hN]
   intro x hx
   rcases List.mem_append.1 hx with hx | hx
   ·rw [ehb x hx];exact hs3.nd (hp.lb x hx)
   ·rw [ehc x hx];exact hs3.nd (hq.lb x hx)
  have hcel:(bE hh (aO b ++ aO c)).Perm (bE f (aO b) ++ bE g (aO c)):=by
   refine (yR hh _ _).trans ?_
   rw [tW ehb,tW ehc]
  have hits:(aO b ++ aO c).map hh = gS f (aO b) ++ gS g (aO c):=by
   rw [List.map_append]
   show gS hh (aO b) ++ gS hh (aO c) = _
   rw [qS ehb,qS ehc]
  obtain ⟨F4,hle4,hB4,hr4⟩:=h4.freeze (mU fun x hx=>by
   obtain ⟨t,ht,rfl⟩:=List.mem_map.1 hx
   rcases List.mem_append.1 ht with ht | ht
   ·exact hp.small hI _ (dN ht)
   ·exact hq.small hI _ (dN ht)) (by simp [aU];omega)
  refine vJ hB4 (z:=2) (f:=hh) (by decide) hr4 (fun t ht=>?_) hlb (by rw [hN];exact hcel.nodup_iff.2 hd) (fun t ht=>?_) (fun t ht=>?_) (by rw [List.length_append];omega) fun M5 δ l' hD hst' hp' hok' hod' hrs' hc' hg'=>?_
  ·rcases List.mem_append.1 ht with ht | ht
   ·exact (hp.st.dA t ht).sm hs3
   ·exact (hq.st.dA t ht).sm hs3
  ·rcases List.mem_append.1 ht with ht | ht
   ·exact fU.1 hp.ok t ht
   ·exact fU.1 hq.ok t ht
  ·rcases List.mem_append.1 ht with ht | ht
   ·exact (pJ.1 hp.od t ht).congr fun x hx=>ehb x (by rw [←bP];exact eJ.2 ⟨t,ht,hx⟩)
   ·exact (pJ.1 hq.od t ht).congr fun x hx=>ehc x (by rw [←bP];exact eJ.2 ⟨t,ht,hx⟩)
  ·rw [aK]
   rw [hN] at hp'
   have hm':((aQ l').map hh).Perm (gS f (aO b) ++ gS g (aO c)):=by rw [←hits];exact hp'.map hh
   refine h M5 δ _ (hD.fQ hle4) (z9 (.inr rfl) rfl hst' ?_ hp' hm' ?_ hok' hod' hrs'.wk) ?_
   ·refine (hlb.sub fun x hx=>by rw [hN];exact hp'.mem_iff.1 hx).congr (fun x _ y hy=>hg' x y (by omega)) (fun x _=>by rw [hc'.live])
   ·rw [←hits]
    unfold fG
    rw [List.map_map]
    exact hcel.nodup_iff.2 hd
   ·refine ((hs3.pL.trans (hc'.mono (T:=fun x=>x∈bE f (aO b)∨x∈bE g (aO c)) (fun x hx=>?_) (Int.le_refl _)).pL).mono (fun _ h=>h) (fun _ h=>h) (jU ?_)).to (by omega)
    ·rw [hN] at hx
     rcases List.mem_append.1 hx with hx | hx
     ·exact .inl (List.mem_append_left _ hx)
     ·exact .inr (List.mem_append_left _ hx)
    ·rw [List.length_append];omega
theorem aEH (hA:aA w0 F M (aF a α)) {α0:AS} (hp:xU 2 α0 r f b) {x:Nat} {e':cY} {j:Int} (hx:x∈aO b) (hle:e'.1≤(f x).2.1) (hs2:e'.2 = (f x).2.2) (hs:AS.Sm j (α0.put (f x).1 7 e'.1) α)
  (h:∀ L,(gS f (aO b)).Perm (f x::L)→∀ M' β,aA w0 F M' (aF a β)→KH 3 β r (((f x).1,e')::L) (aO b)→AS.lJ (fun c=>c∈bE f (aO b)) (fun _=>False) 0 (dK (aO b).length) α β→R (.int .i64 r) M') :
  C PP w0 Id.kN #[.pointer (some ⟨a,0,none⟩),.int .i64 r,.int .i64 ((f x).1:Int)] R M:=by
 apply kN.go
 unfold kN.T aL
 simp only [go_sem,Option.isNone_some,mY]
 have hnn:=iB hp.nd
 let f':Nat→cC:=fun y=>if y = x then ((f x).1,e') else f y
 have e1:f' x = ((f x).1,e'):=if_pos rfl
 have e2:∀ y,y≠x→f' y = f y:=fun y hy=>if_neg hy
 have e3:∀ y,(f' y).1 = (f y).1:=fun y=>by
  by_cases e:y = x
  ·subst e;rw [e1]
  ·rw [e2 y e]
 have ecel:bE f' (aO b) = bE f (aO b):=by
  unfold bE
  rw [List.map_congr_left fun y _=>e3 y]
 have g:∀ c y,α.get c y = if c = (f x).1∧y = 7 then e'.1 else α0.get c y:=fun c y=>by rw [hs.get];rfl
 have gl:∀ c,α.live c = α0.live c:=fun c=>by rw [hs.live];rfl
 have hst:St α (-1) b:=hp.st.congr fun n hn y _=>by
  rw [g,if_neg (fun e:n = (f x).1∧y = 7=>rY hp.nd n hn x hx e.1)]
 have hlb:Lb α f' (aO b):=fun n hn=>by
  have h1:=hp.lb n hn
  by_cases e:n = x
  ·subst e
   rw [e1]
   refine ⟨(gl _).trans h1.ln,(gl _).trans h1.li,?_,?_,?_,?_⟩
   ·rw [g,if_neg (by omega)];exact h1.it
   ·rw [g,if_neg (by omega)];exact h1.nd
   ·rw [g,if_pos ⟨rfl,rfl⟩]
   ·rw [g,if_neg (by omega)];rw [hs2];exact h1.s
  ·rw [e2 n e]
   refine h1.congr (fun y=>?_) (fun y=>?_) (gl _) (gl _)
   ·rw [g,if_neg (fun e:n = (f x).1∧y = 7=>rY hp.nd n hn x hx e.1)]
   ·rw [g,if_neg (fun e':(f n).1 = (f x).1∧y = 7=>e (kO hp.nd n hn x hx e'.1))]
 have hda:=(rA hnn).1 hp.od
 have hH:Hol f' b x:=fun y hy w hw hyx hwx=>by rw [e2 y hyx,e2 w hwx];exact hda y hy w hw
 have hD:aDd f' b x:=fun y hy hxy=>by
  have hyx:y≠x:=fun e=>by rw [e] at hxy;exact oP hnn hxy
  rw [e1,e2 y hyx]
  have h1:=hda y hy x hxy
  rcases h1 with h1 | ⟨h1,h2⟩
  ·refine .inl ?_
   unfold Lt at h1 ⊢
   simp only
   omega
  ·by_cases h9:e'.1 = (f x).2.1
   ·have:e' = (f x).2:=Prod.ext h9 hs2
    rw [this];exact .inr ⟨h1,h2⟩
   ·refine .inl ?_
    unfold Lt
    rw [←h1]
    simp only
    omega
 obtain ⟨t,ht,hal⟩:=wE hp.ok hx
 have hkb:=ST.y4 (fU.1 hp.ok t ht) (m:=(aO b).length) (by rw [←bP b];exact rZ ht)
 have:=aAt hA false (f:=f') (x:=x) hst hlb (by rw [ecel];exact hp.nd) hx hH (fun _=>hD) (m:=bl (aO b).length) (by omega) (R:=fun v M=>lT .i64 v fun n5=>R (.int .i64 r) M) fun M1 β f2 y hB hst2 hlb2 hy hfy hpm _ hod2 hc=>?_
 ·rw [e3 x] at this
  exact this
 ·rw [aK]
  obtain ⟨L,hL⟩:∃ L,(gS f (aO b)).Perm (f x::L)∧((aO b).map f').Perm (((f x).1,e')::L):=by
   have h1:=List.perm_cons_erase hx
   refine ⟨((aO b).erase x).map f,h1.map f,?_⟩
   refine (h1.map f').trans ?_
   rw [List.map_cons,e1]
   rw [List.map_congr_left fun y hy=>e2 y fun e=>by
    have:=h1.nodup_iff.1 hnn
    exact (List.nodup_cons.1 this).1 (e▸hy)]
  rw [ecel] at hc
  refine h L hL.1 M1 β hB (.inr ⟨.inr rfl,f2,b,⟨hp.r,hst2,hlb2,?_,hp.ok,hp.wk,(rA hnn).2 (hod2 rfl)⟩,hpm.trans hL.2,List.Perm.refl _⟩) (hc.pL.mono (fun _ h=>h) (fun _ h=>h) (jU (by omega)))
  have:=tM (f:=f2) (g:=f') (List.Perm.refl (aO b)) hpm
  rw [ecel] at this
  exact this.nodup_iff.2 hp.nd
theorem aGF (hA:aA w0 F M (aF a α)) (hp:xU 2 α r f b) {x:Nat} (hx:x∈aO b) (h300:(aO b).length≤300)
  (h:∀ L,(gS f (aO b)).Perm (f x::L)→∀ n N,(aO b).Perm (n::N)→∀ M' β r',aA w0 F M' (aF a β)→KH 3 β r' L N→AS.lJ (fun c=>c∈bE f (aO b)) (· = n) (-1) (dK (aO b).length) α β→β.get (f x).1 9 = -1→R (.int .i64 r') M') :
  C PP w0 Id.mG #[.pointer (some ⟨a,0,none⟩),.int .i64 r,.int .i64 ((f x).1:Int)] R M:=by
 apply mG.go
 unfold mG.T aL
 have hI:=hA.inv
 simp only [go_sem,Option.isNone_some,mY]
 have hnn:=iB hp.nd
 have hNx:=hp.lb x hx
 refine yK hA fun M1 hA1=>?_
 rw [show α.fN ((f x).1:Int) 9 = (x:Int) from AS.dE (f:=9) hNx.li (by omega) hNx.nd (AS.cE hI hNx.ln),aK,fB,if_neg (by omega)]
 have hda:=(rA hnn).1 hp.od
 obtain ⟨t0,ht0,hal⟩:=wE hp.ok hx
 have hkb:=ST.y4 (fU.1 hp.ok t0 ht0) (m:=(aO b).length) (by rw [←bP b];exact rZ ht0)
 refine aAt hA1 true (f:=f) (x:=x) (hp.st.sm AS.aN) (hp.lb.sm AS.aN) hp.nd hx (fun y hy w hw _ _=>hda y hy w hw) (fun e=>by cases e) (m:=bl (aO b).length) (by omega) fun M2 β f2 y hB hst2 hlb2 hy hfy hpm hany _ hc=>?_
 obtain ⟨hroot,hHol⟩:=hany rfl
 obtain ⟨t,ht,htn⟩:=aAx hy hnn hroot
 subst htn
 rw [aK,hp.r]
 have hcel2:=tM (f:=f2) (g:=f) (List.Perm.refl (aO b)) hpm
 have htl:=xK b
 have hwb:=uZ hp.wk (fU.1 hp.ok) (m:=(aO b).length) (by rw [bP];exact Nat.le_refl _)
 refine nQ hB hst2 (fun n hn=>(hlb2 n hn).ln) hnn fun M3 s γ hC hs3=>?_
 rw [aR]
 obtain ⟨F',hC1,hle,hr,back⟩:=hC.aFp (tG (hp.small hI)) (by simp [aU];omega)
 have hr3:tN w0 M3 .i64 s (aU ((dA b).map (·.n))):=hr.le hC1.fr
 refine aE9 hr3 (List.mem_map.2 ⟨t.n,List.mem_map.2 ⟨t,ht,rfl⟩,rfl⟩) (by simp [aU];omega) ?_
 rw [bT,Bool.not_true,mY]
 obtain ⟨A,B,hAB⟩:=List.append_of_mem ht
 have hN:aQ (A ++ t::B) = aO b:=by rw [←hAB,bP]
 obtain ⟨k1,k2⟩:=hHol.kids hnn ht
 have hroots:(((dA b).map (·.n))).Nodup:=aA4 (by rw [bP];exact hnn)
 have hG:m7 2 γ f2 A t B:=by
  refine ⟨fun u hu=>(hst2.dA u (by rw [hAB];exact hu)).sm hs3,by rw [hN];exact hlb2.sm hs3,by rw [hN];exact hcel2.nodup_iff.2 hp.nd,fun u hu=>fU.1 hp.ok u (by rw [hAB];exact hu),fun u hu=>?_,k1,by rw [←hAB];exact hp.wk,by rw [hN];exact h300⟩
  rw [hAB,List.map_append,List.map_cons] at hroots
  obtain ⟨n1,n2,n3⟩:=List.nodup_append.1 hroots
  refine k2 u (by rw [hAB];rcases List.mem_append.1 hu with hu | hu <;> simp [hu]) fun e=>?_
  rcases List.mem_append.1 hu with hu | hu
  ·exact n3 u.n (List.mem_map.2 ⟨u,hu,rfl⟩) t.n List.mem_cons_self e
  ·exact (List.nodup_cons.1 n2).1 (List.mem_map.2 ⟨u,hu,e⟩)
 rw [hAB] at hC
 refine aIh hC hG (m:=(aO b).length) (by rw [hN];exact Nat.le_refl _) fun M4 δ f' l' hD hst' hlb' hp' hm' hok' hod' hwk' he' hg'=>?_
 simp only [go_sem]
 have hpn:(aO b).Perm (t.n::(aQ (A ++ B) ++ aO t.c)):=by rw [←hN];exact p8 A B t
 have hpi:((aO b).map f2).Perm (f x::(aQ (A ++ B) ++ aO t.c).map f2):=by rw [←hfy];exact hpn.map f2
 rw [hN] at he'
 have hck:(fG ((aQ (A ++ B) ++ aO t.c).map f2) (aQ (A ++ B) ++ aO t.c)).Nodup:=by
  have h3:=(j7 (f:=f2) hpn).nodup_iff.1 (hcel2.nodup_iff.2 hp.nd)
  unfold bE at h3
  unfold fG
  rw [List.map_cons,List.nodup_append] at h3
  obtain ⟨n1,n2,n3⟩:=h3
  rw [List.map_map]
  exact List.nodup_append.2 ⟨(List.nodup_cons.1 n1).2,(List.nodup_cons.1 n2).2,fun x hx y hy=>n3 x (List.mem_cons_of_mem _ hx) y (List.mem_cons_of_mem _ hy)⟩
 rw [hfy] at hg'
 refine h _ (hpm.symm.trans hpi) t.n _ hpn M4 δ _ hD (z9 (.inr rfl) rfl hst' hlb' hp' hm' hck hok' hod' hwk') ?_ hg'
 refine (((((AS.aN.lN.trans hc).pL (L:=(· = t.n))).trans (hs3.pL)).trans (he'.mono (S':=fun c=>c∈bE f (aO b)) (fun c hc=>hcel2.mem_iff.1 hc) (fun _ h=>h) (Int.le_refl _))).mono (fun _ h=>h) (fun _ h=>h) (jU ?_)).to (by omega)
 omega
end
end HL
namespace HL
section
variable {w0:World} {M F:Mem} {R:VP} {a:Nat} {α:AS} {r:Int} {f:Nat→cC} {b:ST}
open Go.Proofs.YtodobkbnmjgkdaaGreat.HL.ST
theorem aDP {z:Nat} (hI:α.Inv) (hp:xU z α r f b) {i n:Nat} {e:cY} (hi:α.live i = true) (hic:i ∉ bE f (aO b)) (h7:α.get i 7 = e.1) (h8:α.get i 8 = e.2) (hnx:α.next = some n) {β:AS} (hs:AS.Sm 3 ((α.take.put n 6 i).put i 9 n) β) :
  α.live n = false∧n ∉ bE f (aO b)∧n≠i∧AS.lJ (fun c=>c∈n::i::bE f (aO b)) (· = n) 1 3 α β∧xU z β r f b∧β.Nd n i e∧β.get n 1 = -1∧β.get n 4 = 0:=by
 obtain ⟨hnn,hnl,hnt⟩:=AS.kL hI hnx
 have hnt2:n ∉ bE f (aO b):=fun hc=>by have:=hp.live n hc;rw [hnl] at this;cases this
 have hin:i≠n:=fun e=>by rw [e,hnl] at hi;cases hi
 obtain ⟨hfr,hfl⟩:=AS.xS hI hnx
 have he2:AS.lJ (fun c=>c = n∨c = i) (· = n) 1 3 α β:=((((AS.vS (S:=fun c=>c = n∨c = i) (L:=(· = n)) hI hnx (.inl rfl) rfl).put (f:=6) (v:=(i:Int)) (c:=n) (.inl rfl)).put (f:=9) (v:=(n:Int)) (c:=i) (.inr rfl)).trans hs.pL).mono (fun _ h=>h) (fun _ h=>h) (by omega) |>.to (by omega)
 have g:∀ x y,β.get x y = if x = i∧y = 9 then (n:Int) else if x = n∧y = 6 then (i:Int) else α.take.get x y:=fun x y=>by rw [hs.get];rfl
 have gtk:∀ x y,x≠n→α.take.get x y = α.get x y:=fun x y hx=>by
  rw [hnt]
  show (if x = n then AS.fresh y else α.get x y) = _
  rw [if_neg hx]
 have gl:∀ x,β.live x = if x = n then true else α.live x:=fun x=>by rw [hs.live,show ((α.take.put n 6 (i:Int)).put i 9 (n:Int)).live = α.take.live from rfl,hnt];rfl
 have gn:∀ y,y≠6→β.get n y = AS.fresh y:=fun y h6=>by rw [g,if_neg (fun e:n = i∧y = 9=>hin e.1.symm),if_neg (fun e:n = n∧y = 6=>h6 e.2),hfr]
 refine ⟨hnl,hnt2,fun e=>hin e.symm,he2.mono (fun c hc=>by rcases hc with rfl | rfl <;> simp) (fun _ h=>h) (Int.le_refl _),hp.congr (fun c hc y=>he2.get c (by rintro (h | h);exact hnt2 (h▸hc);exact hic (h▸hc)) y) (fun c hc=>he2.live c (fun e=>hnt2 (e▸hc))),⟨by rw [gl,if_pos rfl],by rw [gl,if_neg hin];exact hi,?_,?_,?_,?_⟩,?_,?_⟩
 ·rw [g,if_neg (by omega),if_pos ⟨rfl,rfl⟩]
 ·rw [g,if_pos ⟨rfl,rfl⟩]
 ·rw [g,if_neg (by omega),if_neg (by omega),gtk _ _ hin];exact h7
 ·rw [g,if_neg (by omega),if_neg (by omega),gtk _ _ hin];exact h8
 ·rw [gn 1 (by omega)];rfl
 ·rw [gn 4 (by omega)];rfl
theorem aB7 {z:Nat} (hp:xU z α r f b) {i n:Nat} {e:cY} (hic:i ∉ bE f (aO b)) (hnc:n ∉ bE f (aO b)) (hni:n≠i) (hN:α.Nd n i e):∃ g:Nat→cC,g n = (i,e)∧(∀ x∈aO b,g x = f x)∧Lb α g (n::aO b)∧(bE g (n::aO b)).Nodup∧(bE g (n::aO b)).Perm (n::i::bE f (aO b))∧(n::aO b).map g = (i,e)::gS f (aO b):=by
 have e1:∀ x∈aO b,x≠n:=fun x hx e=>hnc (e▸List.mem_append_left _ hx)
 let g:Nat→cC:=fun x=>if x = n then (i,e) else f x
 have hgn:g n = (i,e):=if_pos rfl
 have hg:∀ x∈aO b,g x = f x:=fun x hx=>if_neg (e1 x hx)
 have hcel:(bE g (n::aO b)).Perm (n::i::bE f (aO b)):=by
  unfold bE
  rw [List.map_cons,hgn,List.cons_append]
  refine List.Perm.cons _ (List.perm_middle.trans (List.Perm.cons _ ?_))
  rw [List.map_congr_left fun x hx=>by rw [hg x hx]]
 refine ⟨g,hgn,hg,fun x hx=>?_,hcel.nodup_iff.2 ?_,hcel,?_⟩
 ·rcases List.mem_cons.1 hx with rfl | hx
  ·rw [hgn];exact hN
  ·rw [hg x hx];exact hp.lb x hx
 ·rw [List.nodup_cons,List.nodup_cons,List.mem_cons,not_or]
  exact ⟨⟨hni,hnc⟩,hic,hp.nd⟩
 ·rw [List.map_cons,hgn]
  exact congrArg _ (qS hg)
theorem aDU (g:Nat→cC) (N:List Nat):fG (N.map g) N = bE g N:=by
 unfold fG bE
 rw [List.map_map];rfl
theorem aEe (hA:aA w0 F M (aF a α)) (hp:xU 1 α r f b) {i:Nat} {e:cY} (hi:α.live i = true) (hic:i ∉ bE f (aO b)) (h7:α.get i 7 = e.1) (h8:α.get i 8 = e.2) (h300:(aO b).length≤300)
  (h0:α.next = none→∀ M' β,aA w0 F M' (aF a β)→AS.Sm 1 α β→R (.tuple #[.int .i64 r,.bool false]) M')
  (h1:∀ n,α.next = some n→α.live n = false→∀ M' β r',aA w0 F M' (aF a β)→KH 2 β r' ((i,e)::gS f (aO b)) (n::aO b)→AS.lJ (fun c=>c∈n::i::bE f (aO b)) (· = n) 1 (dK ((aO b).length + 1)) α β→R (.tuple #[.int .i64 r',.bool true]) M') :
  C PP w0 Id.oK #[.pointer (some ⟨a,0,none⟩),.int .i64 r,.int .i64 (i:Int)] R M:=by
 apply oK.go
 unfold oK.T aL
 have hI:=hA.inv
 simp only [go_sem,Option.isNone_some,mY]
 refine aAz hA hi (fun hnx M1 β hB hs=>?_) fun n hnx M1 β hB hs=>?_
 ·simp only [go_sem,Bool.not_false,dY]
  exact h0 hnx M1 β hB hs
 ·simp only [go_sem,Bool.not_true,mY]
  obtain ⟨hnl,hnc,hni,heff,hpβ,hNd,hn1,hn4⟩:=aDP hI hp hi hic h7 h8 hnx hs
  obtain ⟨g,hgn,hg,hlb,fS,hcel,hits⟩:=aB7 hpβ hic hnc hni hNd
  have hnn:=iB hpβ.nd
  have hwb:=uZ hp.wk (fU.1 hp.ok) (m:=(aO b).length + 1) (by rw [bP];omega)
  have h9b:=wF hp.wk (fU.1 hp.ok) (by rw [bP];omega)
  have htl:=xK b
  refine aAG (k:=.i64) (l:=[(n:Int)]) (Mem.le_refl M1) Tryz.underlying53 W.e3 (n:=1) (by decide) (by kernel_rfl) rfl fun M2 o l1 _ h2=>?_
  rw [aR]
  have hH:aA w0 F M2 (star (pG o ([(n:Int)].map (Value.int .i64))) (aF a β)):=hB.aLd l1 h2
  obtain ⟨F1,hB1,hle1,back1⟩:=hH.last
  rw [hp.r]
  refine nQ hB1 hpβ.st (fun n hn=>(hpβ.lb n hn).ln) hnn fun M3 s1 γ hC hs1=>?_
  rw [aR]
  have h3:=back1 M3 _ hC
  have hrc:tN w0 M3 .i64 s1 (aU ((dA b).map (·.n))):=h3.right.aI3 (fun x hx=>by
   obtain ⟨t,ht,rfl⟩:=List.mem_map.1 hx
   exact hp.small hI _ (dN ht)) (by simp;omega)
  refine aI1 h3 hrc (by simp [aU];omega) fun M4 s4 h4=>?_
  rw [aR]
  have hN:aQ (⟨n,0,.nil⟩::dA b) = n::aO b:=by rw [mR,bP];rfl
  have h5:aA w0 F M4 (star (pG s4 ((aU ((⟨n,0,.nil⟩::dA b:List Tn).map (·.n))).map (Value.int .i64))) (aF a γ)):=by
   rw [show aU ((⟨n,0,.nil⟩::dA b:List Tn).map (·.n)) = [(n:Int)] ++ aU ((dA b).map (·.n)) from by simp [aU]]
   exact h4.dX.right
  have hnlt:=AS.cE hB.inv hNd.ln
  have hn65:=hB.inv.n
  obtain ⟨F4,hle4,hB4,hr4⟩:=h5.freeze (mU fun x hx=>by
   obtain ⟨t,ht,rfl⟩:=List.mem_map.1 hx
   rcases List.mem_cons.1 ht with rfl | ht
   ·show n < _;omega
   ·exact hp.small hI _ (dN ht)) (by simp [aU];omega)
  refine vJ hB4 (z:=1) (f:=g) (by decide) hr4 (fun t ht=>?_) (by rw [hN];exact hlb.sm hs1) (by rw [hN];exact fS) (fun t ht=>?_) (fun t ht=>?_) (by rw [List.length_cons];omega) fun M5 δ l' hD hst' hp' hok' hod' hrs' hc' hg'=>?_
  ·rcases List.mem_cons.1 ht with rfl | ht
   ·exact (show yV β ⟨n,0,.nil⟩ from ⟨hn1,hn4,trivial⟩).sm hs1
   ·exact (hpβ.st.dA t ht).sm hs1
  ·rcases List.mem_cons.1 ht with rfl | ht
   ·exact aEW
   ·exact fU.1 hp.ok t ht
  ·rcases List.mem_cons.1 ht with rfl | ht
   ·exact ⟨fun x hx=>(by cases hx),trivial⟩
   ·exact (pJ.1 hp.od t ht).congr fun x hx=>hg x (by rw [←bP];exact eJ.2 ⟨t,ht,hx⟩)
  ·rw [aK]
   rw [hN] at hp'
   have hm':((aQ l').map g).Perm ((i,e)::gS f (aO b)):=by rw [←hits];exact hp'.map g
   refine h1 n hnx hnl M5 δ _ (hD.fQ hle4) (z9 (.inl rfl) rfl hst' ?_ hp' hm' ?_ hok' hod' hrs'.wk) ?_
   ·refine ((hlb.sm hs1).sub fun x hx=>hp'.mem_iff.1 hx).congr (fun x _ y hy=>hg' x y (by omega)) (fun x _=>by rw [hc'.live])
   ·rw [←hits,aDU];exact fS
   ·refine (((heff.trans hs1.pL).trans (hc'.mono (T:=fun c=>c∈n::i::bE f (aO b)) (fun x hx=>?_) (Int.le_refl _)).pL).mono (fun _ h=>h) (fun _ h=>h) (jU ?_)).to (by omega)
    ·rw [hN] at hx
     exact hcel.mem_iff.1 (List.mem_append_left _ hx)
    ·rw [List.length_cons];omega
theorem aDZ (hA:aA w0 F M (aF a α)) (hp:xU 2 α r f b) {i:Nat} {e:cY} (hi:α.live i = true) (hic:i ∉ bE f (aO b)) (h7:α.get i 7 = e.1) (h8:α.get i 8 = e.2)
  (h0:α.next = none→∀ M' β,aA w0 F M' (aF a β)→AS.Sm 1 α β→R (.tuple #[.int .i64 r,.bool false]) M')
  (h1:∀ n,α.next = some n→α.live n = false→∀ M' β r',aA w0 F M' (aF a β)→KH 3 β r' ((i,e)::gS f (aO b)) (n::aO b)→AS.lJ (fun c=>c∈n::i::bE f (aO b)) (· = n) 1 (dK ((aO b).length + 1)) α β→R (.tuple #[.int .i64 r',.bool true]) M') :
  C PP w0 Id.kZ #[.pointer (some ⟨a,0,none⟩),.int .i64 r,.int .i64 (i:Int)] R M:=by
 apply kZ.go
 unfold kZ.T aL
 have hI:=hA.inv
 simp only [go_sem,Option.isNone_some,mY]
 refine aAz hA hi (fun hnx M1 β hB hs=>?_) fun n hnx M1 β hB hs=>?_
 ·simp only [go_sem,Bool.not_false,dY]
  exact h0 hnx M1 β hB hs
 ·simp only [go_sem,Bool.not_true,mY]
  obtain ⟨hnl,hnc,hni,heff,hpβ,hNd,hn1,hn4⟩:=aDP hI hp hi hic h7 h8 hnx hs
  obtain ⟨g,hgn,hg,hlb,fS,hcel,hits⟩:=aB7 hpβ hic hnc hni hNd
  rw [hp.r]
  have hfb:fo (dA b) = b:=aBq b
  have hNb:aQ (dA b) = aO b:=bP b
  have:=aBQ (R:=fun v M=>lT .i64 v fun n14=>R (.tuple #[.int .i64 n14,.bool true]) M) hB (f:=g) (l:=dA b) (n:=n) (by rw [hfb];exact hpβ.st) hn1 hn4 (by rw [hNb];exact hlb) (by rw [hNb];exact fS) (fun t ht=>fU.1 hp.ok t ht) (fun t ht=>(pJ.1 hp.od t ht).congr fun x hx=>hg x (by rw [←bP];exact eJ.2 ⟨t,ht,hx⟩)) hp.wk fun M5 δ g' l' hD hst' hlb' hp' hm' _ hok' hod' hwk' hc'=>?_
  ·rw [hfb] at this;exact this
  ·rw [aK]
   rw [hNb] at hp' hm' hc' hlb'
   have hm2:((aQ l').map g').Perm ((i,e)::gS f (aO b)):=by rw [←hits];exact (hp'.map g').trans hm'
   refine h1 n hnx hnl M5 δ _ hD (z9 (.inr rfl) rfl hst' (hlb'.sub fun x hx=>hp'.mem_iff.1 hx) hp' hm2 ?_ hok' hod' hwk') ?_
   ·rw [←hits,aDU];exact fS
   ·refine ((heff.trans (hc'.mono (T:=fun c=>c∈n::i::bE f (aO b)) (fun x hx=>hcel.mem_iff.1 hx) (Int.le_refl _)).pL).mono (fun _ h=>h) (fun _ h=>h) (jU ?_)).to (by omega)
    omega
end
end HL
namespace HL
section
variable {w0:World} {M F:Mem} {R:VP} {a:Nat} {α:AS} {k r:Int} {L:List cC} {N:List Nat}
theorem aB0 {k:Int} (h:R (.bool (decide (1≤k∧k≤5))) M):C PP w0 Id.jG #[.int .i64 k] R M:=by
 apply jG.go
 unfold jG.T aL
 rw [eK]
 split
 ·rw [show decide (1≤k∧k≤5) = decide (k≤5) from by rw [decide_eq_decide];omega] at h;exact h
 ·rw [decide_eq_false (by omega)] at h;exact h
theorem aHA (hA:aA w0 F M (aF a α)) (hp:KH k α r L N) {i:Nat} {e:cY} (hi:α.live i = true) (hic:i ∉ fG L N) (h7:α.get i 7 = e.1) (h8:α.get i 8 = e.2) (h300:L.length≤300) (hnx:α.next≠none)
  (h:∀ n,α.next = some n→α.live n = false→∀ M' β r' N',aA w0 F M' (aF a β)→KH k β r' ((i,e)::L) N'→(∀ c∈fG ((i,e)::L) N',c = n∨c = i∨c∈fG L N)→AS.lJ (fun c=>c = n∨c = i∨c∈fG L N) (· = n) 1 (dK (L.length + 1)) α β→R (.tuple #[.int .i64 r',.bool true]) M') :
  C PP w0 Id.kF #[.int .i64 k,.pointer (some ⟨a,0,none⟩),.int .i64 r,.int .i64 (i:Int)] R M:=by
 apply kF.go
 unfold kF.T aL
 rcases hp with ⟨hk,t,g1,g2,g3⟩ | ⟨hk,f,b,g1,g2,g3⟩
 ·rw [fB,if_pos hk]
  have hcel:=lR g2 g3
  refine aEK hA g1 hi (fun hc=>hic (hcel.mem_iff.1 hc)) h7 h8 (fun e0=>absurd e0 hnx) fun n hn hnl M1 β t' hB hp' hits hcel' heff=>?_
  simp only [go_sem]
  have hL:(LT.bW t').Perm ((i,e)::L):=hits.trans (g2.cons _)
  have hc2:=lR (t:=t') (L:=(i,e)::L) (N:=LT.aO t') hL (List.Perm.refl _)
  have hsub:∀ c,c∈n::i::LT.cells t↔c = n∨c = i∨c∈fG L N:=fun c=>by rw [List.mem_cons,List.mem_cons,hcel.mem_iff]
  refine h n hn hnl M1 β _ (LT.aO t') hB (.inl ⟨hk,t',hp',hL,List.Perm.refl _⟩) (fun c hc=>(hsub c).1 (hcel'.mem_iff.1 (hc2.mem_iff.2 hc))) (heff.mono (fun c hc=>(hsub c).1 hc) (fun _ h=>h) ?_)
  rw [g2.length_eq];exact Int.le_refl _
 ·have hcel:=pY g2 g3
  have hl:(ST.aO b).length = L.length:=by rw [←g2.length_eq];simp [ST.gS]
  have hsub:∀ n c,c∈n::i::ST.bE f (ST.aO b)↔c = n∨c = i∨c∈fG L N:=fun n c=>by rw [List.mem_cons,List.mem_cons,hcel.mem_iff]
  have fin:∀ (n:Nat) (hn:α.next = some n) (hnl:α.live n = false) (M1:Mem) (β:AS) (r':Int),aA w0 F M1 (aF a β)→KH k β r' ((i,e)::ST.gS f (ST.aO b)) (n::ST.aO b)→AS.lJ (fun c=>c∈n::i::ST.bE f (ST.aO b)) (· = n) 1 (dK ((ST.aO b).length + 1)) α β→R (.tuple #[.int .i64 r',.bool true]) M1:=by
   intro n hn hnl M1 β r' hB hkh heff
   refine h n hn hnl M1 β r' (n::N) hB (hkh.perm (g2.cons _) (g3.cons _)) (fun c hc=>?_) (heff.mono (fun c hc=>(hsub n c).1 hc) (fun _ h=>h) ?_)
   ·unfold fG at hc ⊢
    simp only [List.map_cons,List.cons_append,List.mem_cons,List.mem_append] at hc ⊢
    rcases hc with hc | hc | hc | hc
    ·exact .inl hc
    ·exact .inr (.inr (.inl hc))
    ·exact .inr (.inl hc)
    ·exact .inr (.inr (.inr hc))
   ·rw [hl];exact Int.le_refl _
  rw [fB,if_neg (by omega)]
  rcases hk with hk | hk
  ·subst hk
   rw [fB,if_pos rfl]
   refine aEe hA g1 hi (fun hc=>hic (hcel.mem_iff.1 hc)) h7 h8 (by omega) (fun e0=>absurd e0 hnx) fun n hn hnl M1 β r' hB hkh heff=>?_
   simp only [go_sem]
   exact fin n hn hnl M1 β r' hB hkh heff
  ·subst hk
   rw [fB,if_neg (by omega),fB,if_pos rfl]
   refine aDZ hA g1 hi (fun hc=>hic (hcel.mem_iff.1 hc)) h7 h8 (fun e0=>absurd e0 hnx) fun n hn hnl M1 β r' hB hkh heff=>?_
   simp only [go_sem]
   exact fin n hn hnl M1 β r' hB hkh heff
theorem aFB (hA:aA w0 F M (aF a α)) (hp:KH k α r L N) (eQ:L≠[])
  (h:∀ x,x∈L→(∀ y∈L,y.1≠x.1→Bf x y)→∀ M' β,aA w0 F M' (aF a β)→AS.Sm (dK L.length) α β→R (.int .i64 (x.1:Int)) M') :
  C PP w0 Id.mH #[.int .i64 k,.pointer (some ⟨a,0,none⟩),.int .i64 r] R M:=by
 apply mH.go
 unfold mH.T aL
 rcases hp with ⟨hk,t,g1,g2,g3⟩ | ⟨hk,f,b,g1,g2,g3⟩
 ·rw [fB,if_pos hk]
  refine aF5 hA g1 (fun e0=>?_) fun x L' hL hx M1 β hB hs=>?_
  ·subst e0
   exact absurd (List.nil_perm.1 g2) eQ
  ·simp only [go_sem]
   have hP:L.Perm (x::L'):=g2.symm.trans hL
   refine h x (hP.mem_iff.2 List.mem_cons_self) (fun y hy hyx=>?_) M1 β hB (hs.mono (by unfold dK;omega))
   rcases List.mem_cons.1 (hP.mem_iff.1 hy) with rfl | hy
   ·exact absurd rfl hyx
   ·exact hx y hy
 ·have hl:(ST.aO b).length = L.length:=by rw [←g2.length_eq];simp [ST.gS]
  have hn0:ST.aO b≠[]:=fun e0=>eQ (List.eq_nil_of_length_eq_zero (by rw [←hl,e0];rfl))
  rw [fB,if_neg (by omega)]
  rcases hk with hk | hk
  ·subst hk
   rw [fB,if_pos rfl]
   refine aGi hA g1 (fun x hx hb M1 β hB hs=>?_) hn0
   simp only [go_sem]
   exact h x (g2.mem_iff.1 hx) (fun y hy=>hb y (g2.mem_iff.2 hy)) M1 β hB (by rw [←hl];exact hs)
  ·subst hk
   rw [fB,if_neg (by omega),fB,if_pos rfl]
   refine aF8 hA g1 (fun x hx hb M1 β hB hs=>?_) hn0
   simp only [go_sem]
   exact h x (g2.mem_iff.1 hx) (fun y hy=>hb y (g2.mem_iff.2 hy)) M1 β hB (by rw [←hl];exact hs)
def aHm (L':List cC) (N':List Nat) (L:List cC) (N:List Nat):Prop:=∀ c∈fG L' N',c∈fG L N
theorem aFE {x:cC} {n:Nat} {L L1:List cC} {N N1:List Nat} (h:(fG L N).Perm (fG (x::L1) (n::N1))) (hn:(fG L N).Nodup):x.1 ∉ fG L1 N1:=by
 have h1:=h.nodup_iff.1 hn
 unfold fG at h1 ⊢
 rw [List.map_cons,List.cons_append] at h1
 have h2:=(List.perm_middle.nodup_iff.1 (List.nodup_cons.1 h1).2)
 exact (List.nodup_cons.1 h2).1
theorem aJq (hA:aA w0 F M (aF a α)) (hp:KH k α r L N) (eQ:L≠[]) (h300:L.length≤300)
  (h:∀ x L',L.Perm (x::L')→(∀ y∈L,y.1≠x.1→Bf x y)→∀ n∈N,∀ M' β r' N',aA w0 F M' (aF a β)→KH k β r' L' N'→aHm L' N' L N→x.1 ∉ fG L' N'→AS.lJ (fun c=>c∈fG L N) (· = n) (-1) (dK L.length) α β→R (.tuple #[.int .i64 r',.int .i64 (x.1:Int)]) M') :
  C PP w0 Id.mB #[.int .i64 k,.pointer (some ⟨a,0,none⟩),.int .i64 r] R M:=by
 have fS:=hp.nd
 apply mB.go
 unfold mB.T aL
 rcases hp with ⟨hk,t,g1,g2,g3⟩ | ⟨hk,f,b,g1,g2,g3⟩
 ·rw [fB,if_pos hk]
  have hcel:=lR g2 g3
  refine aGs hA g1 (fun e0=>?_) fun x L' hL hx M1 β t' n hn hB hp' hits hsub hxn heff hg=>?_
  ·subst e0
   exact absurd (List.nil_perm.1 g2) eQ
  ·simp only [go_sem]
   have hP:L.Perm (x::L'):=g2.symm.trans hL
   have hc2:=lR (t:=t') (L:=L') (N:=LT.aO t') hits (List.Perm.refl _)
   refine h x L' hP (fun y hy hyx=>?_) n (g3.mem_iff.1 hn) M1 β _ (LT.aO t') hB (.inl ⟨hk,t',hp',hits,List.Perm.refl _⟩) (fun c hc=>hcel.mem_iff.1 (hsub c (hc2.mem_iff.2 hc))) (fun hc=>hxn (hc2.mem_iff.2 hc)) (heff.mono (fun c hc=>hcel.mem_iff.1 hc) (fun _ h=>h) ?_)
   ·rcases List.mem_cons.1 (hP.mem_iff.1 hy) with rfl | hy
    ·exact absurd rfl hyx
    ·exact hx y hy
   ·rw [g2.length_eq];exact Int.le_refl _
 ·have hcel:=pY g2 g3
  have hl:(ST.aO b).length = L.length:=by rw [←g2.length_eq];simp [ST.gS]
  have hn0:ST.aO b≠[]:=fun e0=>eQ (List.eq_nil_of_length_eq_zero (by rw [←hl,e0];rfl))
  have fin:∀ x∈ST.aO b,(∀ y∈ST.aO b,y≠x→Bf (f x) (f y))→∀ L1 N1,(ST.gS f (ST.aO b)).Perm (f x::L1)→(ST.aO b).Perm (x::N1)→∀ M' β r',aA w0 F M' (aF a β)→KH k β r' L1 N1→AS.lJ (fun c=>c∈ST.bE f (ST.aO b)) (· = x) (-1) (dK (ST.aO b).length) α β→R (.tuple #[.int .i64 r',.int .i64 ((f x).1:Int)]) M':=by
   intro x hx hbx L1 N1 hL1 hN1 M' β r' hB hkh heff
   refine h (f x) L1 (g2.symm.trans hL1) (fun y hy hyx=>?_) x (g3.mem_iff.1 hx) M' β r' N1 hB hkh (fun c hc=>?_) (aFE (jQ (g2.symm.trans hL1) (g3.symm.trans hN1)) fS) (heff.mono (fun c hc=>hcel.mem_iff.1 hc) (fun _ h=>h) (by rw [hl];exact Int.le_refl _))
   ·obtain ⟨z,hz,rfl⟩:=List.mem_map.1 (g2.mem_iff.2 hy)
    exact hbx z hz fun e=>hyx (by rw [e])
   ·refine (jQ (g2.symm.trans hL1) (g3.symm.trans hN1)).mem_iff.2 ?_
    unfold fG at hc ⊢
    rcases List.mem_append.1 hc with hc | hc
    ·exact List.mem_append_left _ (List.mem_cons_of_mem _ hc)
    ·exact List.mem_append_right _ (by rw [List.map_cons];exact List.mem_cons_of_mem _ hc)
  rw [fB,if_neg (by omega)]
  rcases hk with hk | hk
  ·subst hk
   rw [fB,if_pos rfl]
   refine aFW hA g1 hn0 (by omega) fun x hx hbx L1 N1 hL1 hN1 M' β r' hB hkh heff _=>?_
   simp only [go_sem]
   exact fin x hx hbx L1 N1 hL1 hN1 M' β r' hB hkh heff
  ·subst hk
   rw [fB,if_neg (by omega),fB,if_pos rfl]
   refine aGp hA g1 hn0 (by omega) fun x hx hbx L1 N1 hL1 hN1 M' β r' hB hkh heff _=>?_
   simp only [go_sem]
   exact fin x hx hbx L1 N1 hL1 hN1 M' β r' hB hkh heff
theorem aIC (hA:aA w0 F M (aF a α)) {α0:AS} {i:Nat} {e e':cY} {j:Int} (hp:KH k α0 r ((i,e)::L) N) (hle:e'.1≤e.1) (hs2:e'.2 = e.2) (hs:AS.Sm j (α0.put i 7 e'.1) α)
  (h:∀ M' β r' N',aA w0 F M' (aF a β)→KH k β r' ((i,e')::L) N'→aHm ((i,e')::L) N' ((i,e)::L) N→AS.lJ (fun c=>c∈fG ((i,e)::L) N) (fun _=>False) 0 (dK (L.length + 1)) α β→R (.int .i64 r') M') :
  C PP w0 Id.kI #[.int .i64 k,.pointer (some ⟨a,0,none⟩),.int .i64 r,.int .i64 (i:Int)] R M:=by
 apply kI.go
 unfold kI.T aL
 have hceq:∀ (N':List Nat),fG ((i,e')::L) N' = fG ((i,e)::L) N':=fun N'=>by unfold fG;rfl
 rcases hp with ⟨hk,t,g1,g2,g3⟩ | ⟨hk,f,b,g1,g2,g3⟩
 ·rw [fB,if_pos hk]
  have hcel:=lR g2 g3
  have hF:HpF α r t i e e':=by
   obtain ⟨cs,n,l,s,q1,q2,q3,q4,q5,q6,q7⟩:=g1.lower (g2.mem_iff.2 List.mem_cons_self) hle hs2
   exact ⟨cs,n,l,s,q1,q2,q3.congr (fun c _ f=>by rw [hs.get]) (fun c _=>by rw [hs.live]),q4,q5,q6,q7⟩
  refine aEP hA hF fun M1 β t' hB hp' hits hcel' heff=>?_
  simp only [go_sem]
  have hL:=hits L g2
  have hc2:=lR (t:=t') (N:=LT.aO t') hL (List.Perm.refl _)
  refine h M1 β _ (LT.aO t') hB (.inl ⟨hk,t',hp',hL,List.Perm.refl _⟩) (fun c hc=>hcel.mem_iff.1 (hcel'.mem_iff.1 (hc2.mem_iff.2 hc))) (heff.mono (fun c hc=>hcel.mem_iff.1 hc) (fun _ h=>h) ?_)
  rw [g2.length_eq];exact Int.le_refl _
 ·have hcel:=pY g2 g3
  have hl:(ST.aO b).length = L.length + 1:=by rw [←List.length_cons,←g2.length_eq];simp [ST.gS]
  obtain ⟨x,hx,hfx⟩:=List.mem_map.1 (g2.mem_iff.2 List.mem_cons_self)
  have e1:(f x).1 = i:=by rw [hfx]
  have e2:(f x).2 = e:=by rw [hfx]
  rw [←e2] at hle hs2
  rw [←e1] at hs
  have fin:∀ L1,(ST.gS f (ST.aO b)).Perm (f x::L1)→∀ M' β,aA w0 F M' (aF a β)→KH k β r (((f x).1,e')::L1) (ST.aO b)→AS.lJ (fun c=>c∈ST.bE f (ST.aO b)) (fun _=>False) 0 (dK (ST.aO b).length) α β→R (.int .i64 r) M':=by
   intro L1 hL1 M' β hB hkh heff
   have hLL:L1.Perm L:=by
    rw [hfx] at hL1
    exact List.Perm.cons_inv (hL1.symm.trans g2)
   rw [e1] at hkh
   refine h M' β r N hB (hkh.perm (hLL.cons _) g3) (fun c hc=>by rw [hceq] at hc;exact hc) (heff.mono (fun c hc=>hcel.mem_iff.1 hc) (fun _ h=>h) (by rw [hl];exact Int.le_refl _))
  rw [fB,if_neg (by omega),←e1]
  rcases hk with hk | hk
  ·subst hk
   rw [fB,if_pos rfl]
   refine aEr hA g1 hx hle hs2 hs fun L1 hL1 M' β hB hkh heff=>?_
   simp only [go_sem]
   exact fin L1 hL1 M' β hB hkh heff
  ·subst hk
   rw [fB,if_neg (by omega),fB,if_pos rfl]
   refine aEH hA g1 hx hle hs2 hs fun L1 hL1 M' β hB hkh heff=>?_
   simp only [go_sem]
   exact fin L1 hL1 M' β hB hkh heff
theorem aJC (hA:aA w0 F M (aF a α)) {i:Nat} {e:cY} (hp:KH k α r ((i,e)::L) N) (h300:L.length < 300)
  (h:∀ n∈N,∀ M' β r' N',aA w0 F M' (aF a β)→KH k β r' L N'→aHm L N' ((i,e)::L) N→i ∉ fG L N'→AS.lJ (fun c=>c∈fG ((i,e)::L) N) (· = n) (-1) (dK (L.length + 1)) α β→R (.int .i64 r') M') :
  C PP w0 Id.lV #[.int .i64 k,.pointer (some ⟨a,0,none⟩),.int .i64 r,.int .i64 (i:Int)] R M:=by
 have fS:=hp.nd
 apply lV.go
 unfold lV.T aL
 rcases hp with ⟨hk,t,g1,g2,g3⟩ | ⟨hk,f,b,g1,g2,g3⟩
 ·rw [fB,if_pos hk]
  have hcel:=lR g2 g3
  refine aGH hA g1 (g2.mem_iff.2 List.mem_cons_self) fun L1 hL1 M1 β t' n hn hB hp' hits hsub hin hnn heff hg=>?_
  simp only [go_sem]
  have hLL:L1.Perm L:=List.Perm.cons_inv (hL1.symm.trans g2)
  have hL:(LT.bW t').Perm L:=hits.trans hLL
  have hc2:=lR (t:=t') (N:=LT.aO t') hL (List.Perm.refl _)
  refine h n (g3.mem_iff.1 hn) M1 β _ (LT.aO t') hB (.inl ⟨hk,t',hp',hL,List.Perm.refl _⟩) (fun c hc=>hcel.mem_iff.1 (hsub c (hc2.mem_iff.2 hc))) (fun hc=>hin (hc2.mem_iff.2 hc)) (heff.mono (fun c hc=>hcel.mem_iff.1 hc) (fun _ h=>h) ?_)
  rw [g2.length_eq];exact Int.le_refl _
 ·have hcel:=pY g2 g3
  have hl:(ST.aO b).length = L.length + 1:=by rw [←List.length_cons,←g2.length_eq];simp [ST.gS]
  obtain ⟨x,hx,hfx⟩:=List.mem_map.1 (g2.mem_iff.2 List.mem_cons_self)
  have e1:(f x).1 = i:=by rw [hfx]
  have fin:∀ L1,(ST.gS f (ST.aO b)).Perm (f x::L1)→∀ n N1,(ST.aO b).Perm (n::N1)→∀ M' β r',aA w0 F M' (aF a β)→KH k β r' L1 N1→AS.lJ (fun c=>c∈ST.bE f (ST.aO b)) (· = n) (-1) (dK (ST.aO b).length) α β→R (.int .i64 r') M':=by
   intro L1 hL1 n N1 hN1 M' β r' hB hkh heff
   have hLL:L1.Perm L:=by
    rw [hfx] at hL1
    exact List.Perm.cons_inv (hL1.symm.trans g2)
   refine h n (g3.mem_iff.1 (hN1.mem_iff.2 List.mem_cons_self)) M' β r' N1 hB (hkh.perm hLL (List.Perm.refl _)) (fun c hc=>?_) (aFE (x:=(i,e)) (jQ (List.Perm.refl _) (g3.symm.trans hN1)) fS) (heff.mono (fun c hc=>hcel.mem_iff.1 hc) (fun _ h=>h) (by rw [hl];exact Int.le_refl _))
   refine (jQ (List.Perm.refl _) (g3.symm.trans hN1)).mem_iff.2 ?_
   unfold fG at hc ⊢
   rcases List.mem_append.1 hc with hc | hc
   ·exact List.mem_append_left _ (List.mem_cons_of_mem _ hc)
   ·exact List.mem_append_right _ (by rw [List.map_cons];exact List.mem_cons_of_mem _ hc)
  rw [fB,if_neg (by omega),←e1]
  rcases hk with hk | hk
  ·subst hk
   rw [fB,if_pos rfl]
   refine aGd hA g1 hx (by omega) fun L1 hL1 n N1 hN1 M' β r' hB hkh heff _=>?_
   simp only [go_sem]
   exact fin L1 hL1 n N1 hN1 M' β r' hB hkh heff
  ·subst hk
   rw [fB,if_neg (by omega),fB,if_pos rfl]
   refine aGF hA g1 hx (by omega) fun L1 hL1 n N1 hN1 M' β r' hB hkh heff _=>?_
   simp only [go_sem]
   exact fin L1 hL1 n N1 hN1 M' β r' hB hkh heff
theorem aHO (hA:aA w0 F M (aF a α)) {s:Int} {L2:List cC} {N2:List Nat} (hp:KH k α r L N) (hq:KH k α s L2 N2) (hd:(fG L N ++ fG L2 N2).Nodup) (h300:L.length + L2.length≤300)
  (h:∀ M' β r' N',aA w0 F M' (aF a β)→KH k β r' (L ++ L2) N'→(∀ c∈fG (L ++ L2) N',c∈fG L N∨c∈fG L2 N2)→AS.lJ (fun c=>c∈fG L N∨c∈fG L2 N2) (fun _=>False) 0 (dK (L.length + L2.length)) α β→R (.int .i64 r') M') :
  C PP w0 Id.kH #[.int .i64 k,.pointer (some ⟨a,0,none⟩),.int .i64 r,.int .i64 s] R M:=by
 apply kH.go
 unfold kH.T aL
 rcases hp with ⟨hk,t,g1,g2,g3⟩ | ⟨hk,f,b,g1,g2,g3⟩
 ·rcases hq with ⟨_,u,q1,q2,q3⟩ | ⟨hk2,_⟩
  ·rw [fB,if_pos hk]
   have hcel:=lR g2 g3
   have hcel2:=lR q2 q3
   refine aEb hA g1 q1 ((hcel.append hcel2).nodup_iff.2 hd) fun M1 β t' hB hp' hits hcel' heff=>?_
   simp only [go_sem]
   have hL:(LT.bW t').Perm (L ++ L2):=hits.trans (g2.append q2)
   have hc2:=lR (t:=t') (N:=LT.aO t') hL (List.Perm.refl _)
   refine h M1 β _ (LT.aO t') hB (.inl ⟨hk,t',hp',hL,List.Perm.refl _⟩) (fun c hc=>?_) (heff.mono (fun c hc=>?_) (fun _ h=>h) ?_)
   ·rcases List.mem_append.1 (hcel'.mem_iff.1 (hc2.mem_iff.2 hc)) with hc | hc
    ·exact .inl (hcel.mem_iff.1 hc)
    ·exact .inr (hcel2.mem_iff.1 hc)
   ·rcases hc with hc | hc
    ·exact .inl (hcel.mem_iff.1 hc)
    ·exact .inr (hcel2.mem_iff.1 hc)
   ·rw [g2.length_eq,q2.length_eq];exact Int.le_refl _
  ·omega
 ·rcases hq with ⟨hk2,_⟩ | ⟨_,g,c,q1,q2,q3⟩
  ·omega
  ·have hcel:=pY g2 g3
   have hcel2:=pY q2 q3
   have hl:(ST.aO b).length = L.length:=by rw [←g2.length_eq];simp [ST.gS]
   have hl2:(ST.aO c).length = L2.length:=by rw [←q2.length_eq];simp [ST.gS]
   have fin:∀ M' β r',aA w0 F M' (aF a β)→KH k β r' (ST.gS f (ST.aO b) ++ ST.gS g (ST.aO c)) (ST.aO b ++ ST.aO c)→AS.lJ (fun x=>x∈ST.bE f (ST.aO b)∨x∈ST.bE g (ST.aO c)) (fun _=>False) 0 (dK ((ST.aO b).length + (ST.aO c).length)) α β→R (.int .i64 r') M':=by
    intro M' β r' hB hkh heff
    refine h M' β r' (N ++ N2) hB (hkh.perm (g2.append q2) (g3.append q3)) (fun c hc=>?_) (heff.mono (fun c hc=>?_) (fun _ h=>h) (by rw [hl,hl2];exact Int.le_refl _))
    ·unfold fG at hc ⊢
     simp only [List.map_append,List.mem_append] at hc ⊢
     rcases hc with (hc | hc) | hc | hc
     ·exact .inl (.inl hc)
     ·exact .inr (.inl hc)
     ·exact .inl (.inr hc)
     ·exact .inr (.inr hc)
    ·rcases hc with hc | hc
     ·exact .inl (hcel.mem_iff.1 hc)
     ·exact .inr (hcel2.mem_iff.1 hc)
   rw [fB,if_neg (by omega)]
   rcases hk with hk | hk
   ·subst hk
    rw [fB,if_pos rfl]
    refine aEL hA g1 q1 ((hcel.append hcel2).nodup_iff.2 hd) (by omega) fun M' β r' hB hkh heff=>?_
    simp only [go_sem]
    exact fin M' β r' hB hkh heff
   ·subst hk
    rw [fB,if_neg (by omega),fB,if_pos rfl]
    refine aD4 hA g1 q1 ((hcel.append hcel2).nodup_iff.2 hd) (by omega) fun M' β r' hB hkh heff=>?_
    simp only [go_sem]
    exact fin M' β r' hB hkh heff
end
end HL
namespace HL
abbrev wX:TypeId:=156
abbrev wT (bh bi ma:Nat):List Value:=[.pointer (some ⟨bh,0,none⟩),.pointer (some ⟨bi,0,none⟩),.map (some ma)]
section
variable {w0:World} {F M:Mem} {R:VP} {os:vC} {t bh bi ma:Nat} {hp ip:PS V3} {Q:cW}
theorem Tb0 (o:cN w0 F t (wT bh bi ma) wX) (hl:Mem.le F M):(aJ PP w0).ld 146 ⟨t,0,none⟩ M = some (.pointer (some ⟨bh,0,none⟩)):=mQ W.aMd (o.le hl) rfl
theorem Tb1 (o:cN w0 F t (wT bh bi ma) wX) (hl:Mem.le F M):(aJ PP w0).ld 150 ⟨t,1,none⟩ M = some (.pointer (some ⟨bi,0,none⟩)):=mQ W.aL3 (o.le hl) rfl
theorem Tb2 (o:cN w0 F t (wT bh bi ma) wX) (hl:Mem.le F M):(aJ PP w0).ld 154 ⟨t,2,none⟩ M = some (.map (some ma)):=mQ (by kernel_rfl) (o.le hl) rfl
theorem p9 {a g:Int} {v:V3} (oT:cN w0 F t (wT bh bi ma) wX) (h:HO w0 F M os (star (wW bh hp) Q)) (hb:hp.l.length≤100000) (hw:hp.find a g = some v)
  (hK:∀ M',HO w0 F M' os (star (wW bh hp) Q)→R (.tuple #[.int .i64 v.1,.int .i64 v.2.1,.int .i64 v.2.2,.int .i64 0]) M') :
  C PP w0 Id.pA #[.pointer (some ⟨t,0,none⟩),.agg #[.int .i64 a,.int .i64 g]] R M:=by
 apply pA.go
 unfold pA.T aL
 refine rT h fun b1 F1 M1 l1 lm1 o1 h1=>?_
 have oT1:=oT.le l1
 simp only [aX,Tb0 oT1 h1.fr,aC,bK,fF bA (o1.le h1.fr),a9,aT,aK,aS]
 refine ⟨?_,?_⟩
 rotate_left
 ·refine jJ h1 fun b2 M2 l2 h2=>?_
  refine ⟨Tb0 oT1 h2.fr,fF bA (o1.le h2.fr),?_⟩
  refine wZ h2.h.right hb hw fun M3 l3=>?_
  simp only [cA,aT,a9,aK,aS]
  refine wA vQ (by rfl) tE (h2.le l3) fun F2 M4 l4 o4 h4=>?_
  simp only [add_eq,Nat.zero_add,mQ W.c3 (o4.le h4.fr) (o:=0) rfl,mQ W.c3 (o4.le h4.fr) (o:=1) rfl,mQ W.c3 (o4.le h4.fr) (o:=2) rfl,aC,aK,true_and]
  exact hK M4 ((h4.fQ l4).fQ l1)
 ·refine wZ h1.h hb hw fun M3 l3=>?_
  simp only [cA,aT,a9,aK,aS]
  refine kE vQ (by rfl) tE (h1.le l3) fun b2 F2 M4 l4 o4 h4=>?_
  simp only [add_eq,Nat.zero_add,mQ W.c3 (o4.le h4.fr) (o:=0) rfl,mQ W.c3 (o4.le h4.fr) (o:=1) rfl,mQ W.c3 (o4.le h4.fr) (o:=2) rfl,aC,aK,true_and]
  exact hK M4 ((h4.fQ l4).fQ l1)
theorem aDG {a g:Int} {v:V3} (oT:cN w0 F t (wT bh bi ma) wX) (h:HO w0 F M os (star (qU bi ip) Q)) (hb:ip.l.length≤100000) (hw:ip.find a g = some v)
  (hK:∀ M',HO w0 F M' os (star (qU bi ip) Q)→R (.tuple #[.int .i64 v.1,.int .i64 0]) M') :
  C PP w0 Id.o0 #[.pointer (some ⟨t,0,none⟩),.agg #[.int .i64 a,.int .i64 g]] R M:=by
 apply o0.go
 unfold o0.T aL
 refine rT h fun b1 F1 M1 l1 lm1 o1 h1=>?_
 have oT1:=oT.le l1
 simp only [aX,add_eq,Nat.zero_add,Tb1 oT1 h1.fr,aC,bK,fF bA (o1.le h1.fr),a9,aT,aK,aS]
 refine ⟨?_,?_⟩
 rotate_left
 ·refine jJ h1 fun b2 M2 l2 h2=>?_
  refine ⟨Tb1 oT1 h2.fr,fF bA (o1.le h2.fr),?_⟩
  refine aAc h2.h.right hb hw fun M3 l3=>?_
  simp only [cA,aT,a9,aK,aS]
  refine wA rM (by rfl) tE (h2.le l3) fun F2 M4 l4 o4 h4=>?_
  simp only [mQ W.c3 (o4.le h4.fr) (o:=0) rfl,aC,aK]
  exact hK M4 ((h4.fQ l4).fQ l1)
 ·refine aAc h1.h hb hw fun M3 l3=>?_
  simp only [cA,aT,a9,aK,aS]
  refine kE rM (by rfl) tE (h1.le l3) fun b2 F2 M4 l4 o4 h4=>?_
  simp only [mQ W.c3 (o4.le h4.fr) (o:=0) rfl,aC,aK]
  exact hK M4 ((h4.fQ l4).fQ l1)
theorem aCX {a g:Int} {v:V3} (oT:cN w0 F t (wT bh bi ma) wX) (h:HO w0 F M os (star (qU bi ip) Q)) (hb:ip.l.length≤100000) (hw:ip.find a g = some v)
  (hK:∀ M',HO w0 F M' os (star (qU bi ip) Q)→R (.tuple #[.agg #[.int .i64 v.2.1,.int .i64 v.2.2],.int .i64 0]) M') :
  C PP w0 Id.vW #[.pointer (some ⟨t,0,none⟩),.agg #[.int .i64 a,.int .i64 g]] R M:=by
 apply vW.go
 unfold vW.T aL
 refine rT h fun b1 F1 M1 l1 lm1 o1 h1=>?_
 refine jJ h1 fun b3 M1' l1' h1'=>?_
 have oT1:=oT.le l1
 simp only [aX,add_eq,Nat.zero_add,Tb1 oT1 h1'.fr,aC,bK,fF bA (o1.le h1'.fr),a9,aT,aK,aS]
 refine ⟨?_,?_⟩
 rotate_left
 ·refine jJ h1' fun b2 M2 l2 h2=>?_
  refine ⟨Tb1 oT1 h2.fr,fF bA (o1.le h2.fr),?_⟩
  refine aAc h2.h.right.right hb hw fun M3 l3=>?_
  simp only [cA,aT,a9,aK,aS]
  refine wA rM (by rfl) tE (h2.le l3) fun F2 M4 l4 o4 h4=>?_
  simp only [kQ (o:=1) (vs:=[.int .i64 v.2.1,.int .i64 v.2.2]) bA (o4.le h4.fr) (fun j u hj=>by rw [Nat.add_comm];exact hj),aC,a9,aT,aK,aS]
  refine jL (K:=fun v M=>R (.tuple #[v,.int .i64 0]) M) bA (by rfl) iO h4 fun M5 h5=>?_
  exact hK M5 ((h5.fQ l4).fQ l1)
 ·refine aAc h1'.h.right hb hw fun M3 l3=>?_
  simp only [cA,aT,a9,aK,aS]
  refine kE rM (by rfl) tE (h1'.le l3) fun b2 F2 M4 l4 o4 h4=>?_
  simp only [kQ (o:=1) (vs:=[.int .i64 v.2.1,.int .i64 v.2.2]) bA (o4.le h4.fr) (fun j u hj=>by rw [Nat.add_comm];exact hj),aC,a9,aT,aK,aS]
  refine jL (K:=fun v M=>R (.tuple #[v,.int .i64 0]) M) bA (by rfl) iO h4 fun M5 h5=>?_
  exact hK M5 ((h5.fQ l4).fQ l1)
theorem vU {a g r n:Int} {v:V3} (oT:cN w0 F t (wT bh bi ma) wX) (h:HO w0 F M os (star (wW bh hp) Q)) (hb:hp.l.length≤100000) (hw:hp.find a g = some v)
  (hK:∀ M',HO w0 F M' os (star (wW bh (hp.put a.toNat (v.1,r,n))) Q)→R (.int .i64 0) M') :
  C PP w0 Id.oC #[.pointer (some ⟨t,0,none⟩),.agg #[.int .i64 a,.int .i64 g],.int .i64 r,.int .i64 n] R M:=by
 apply oC.go
 unfold oC.T aL
 refine rT h fun b1 F1 M1 l1 lm1 o1 h1=>?_
 have oT1:=oT.le l1
 simp only [aX,Tb0 oT1 h1.fr,aC,bK,fF bA (o1.le h1.fr),a9,aT,aK,aS]
 refine ⟨?_,?_⟩
 rotate_left
 refine jJ h1 fun b2 M2 l2 h2=>?_
 refine ⟨Tb0 oT1 h2.fr,fF bA (o1.le h2.fr),?_⟩
 refine wZ h2.h.right hb hw fun M3 l3=>?_
 simp only [cA,aT,a9,aK,aS]
 refine stW vQ (by rfl) tE (h2.le l3) fun M4 h4=>?_
 rotate_left
 refine wZ h1.h hb hw fun M3 l3=>?_
 simp only [cA,aT,a9,aK,aS]
 refine jJ (h1.le l3) fun b2 M2 l2 h2=>?_
 refine stW vQ (by rfl) tE h2 fun M4 h4=>?_
 all_goals
  rw [fB,if_pos rfl]
  simp only [add_eq,Nat.zero_add]
  refine aCi (o:=1) W.c3 (by simp) rfl rfl h4 fun M5 h5=>?_
  refine aCi (o:=2) W.c3 (by simp) rfl rfl h5 fun M6 h6=>?_
  change HO w0 F1 M6 os (star (aW b2 [.int .i64 v.1,.int .i64 r,.int .i64 n] 149) _) at h6
  simp only [aX,Tb0 oT1 h6.fr,aC,bK,fF bA (o1.le h6.fr),fF vQ h6.h.aZ,a9,aT,aK,aS]
  obtain ⟨F2,hB,l7,back⟩:=h6.aAK
  refine aID (v:=(v.1,r,n)) hB hb hw fun M7 hC=>?_
  rw [aK]
  have h8:=back M7 _ hC
  exact hK M7 ((h8.aY fun h=>h.right).fQ l1)
theorem aCP {c:Int} {r:dL} {oa:Obj} {m:Int→Option dL} (oT:cN w0 F t (wT bh bi ma) wX) (h:HO w0 F M os Q) (hm:(ma,oa)∈os) (hf:dI (Value.int .i64) bV m oa) (hw:m c = some r)
  (hK:∀ M',HO w0 F M' os Q→R (.tuple #[.agg #[.int .i64 r.1,.int .i64 r.2],.bool true]) M') :
  C PP w0 Id.vE #[.pointer (some ⟨t,0,none⟩),.int .i64 c] R M:=by
 apply vE.go
 unfold vE.T aL
 refine jJ h fun b1 M1 l1 h1=>?_
 obtain ⟨inf,hi,hz,_⟩:=W.e33
 have hlk:=(lkF (k:=c) Tryz.underlying154 aAj hi hz (h1.get hm).1 (h1.get hm).2 hf).2
 rw [hw] at hlk
 simp only [Option.map_some,Option.getD_some,Option.isSome_some,bV] at hlk
 simp only [aX,add_eq,Nat.zero_add,Tb2 oT h1.fr,aC,hlk,cA,aT,a9,aK,bT,aS]
 refine kE bA (by rfl) iO h1 fun b2 F2 M4 l4 o4 h4=>?_
 simp only [fF bA (o4.le h4.fr),aC,a9,aT,aK,aS]
 refine jL (K:=fun v M=>R (.tuple #[v,.bool true]) M) bA (by rfl) iO h4 fun M5 h5=>?_
 exact hK M5 (h5.fQ l4)
theorem aF6 (oT:cN w0 F t (wT bh bi ma) wX) (h:HO w0 F M os (star (qU bi ip) Q)) (hb:ip.l.length≤100000) (hf:ip.free.length≤ip.l.length) (hK:R (.int .i64 ((ip.l.length - ip.free.length:Nat):Int)) M) :
  C PP w0 Id.mF #[.pointer (some ⟨t,0,none⟩)] R M:=by
 apply mF.go
 unfold mF.T aL
 simp only [aX,add_eq,Nat.zero_add,Tb1 oT h.fr,aC,bK]
 refine aFK h.h hb hf ?_
 rw [aK]
 exact hK
theorem aH7 {a g:Int} {v:V3} {oa:Obj} {m:Int→Option dL} (oT:cN w0 F t (wT bh bi ma) wX) (h:HO w0 F M ((ma,oa)::os) (star (qU bi ip) Q)) (hb:ip.l.length≤10000) (hfb:ip.free.length≤10000) (hf:dI (Value.int .i64) bV m oa) (hw:ip.find a g = some v)
  (hK:∀ M' oa',dI (Value.int .i64) bV (fV m v.1 none) oa'→HO w0 F M' ((ma,oa')::os) (star (qU bi (ip.gB z3 a.toNat)) Q)→R (.tuple #[.int .i64 v.1,.int .i64 0]) M') :
  C PP w0 Id.oZ #[.pointer (some ⟨t,0,none⟩),.agg #[.int .i64 a,.int .i64 g]] R M:=by
 apply oZ.go
 unfold oZ.T aL
 refine rT h fun b1 F1 M1 l1 lm1 o1 h1=>?_
 have oT1:=oT.le l1
 simp only [aX,add_eq,Nat.zero_add,Tb1 oT1 h1.fr,aC,bK,fF bA (o1.le h1.fr),a9,aT,aK,aS]
 refine ⟨?_,?_⟩
 rotate_left
 refine jJ h1 fun b2 M2 l2 h2=>?_
 refine ⟨Tb1 oT1 h2.fr,fF bA (o1.le h2.fr),?_⟩
 obtain ⟨F2,hB,l3,back⟩:=h2.aAK
 refine aDa hB hb hfb hw fun M3 hC=>?_
 have h3:=back M3 _ hC
 simp only [cA,aT,a9,aK,aS]
 refine wA rM (by rfl) tE h3 fun F3 M4 l4 o4 h4=>?_
 rotate_left
 obtain ⟨F2,hB,l3,back⟩:=h1.xJ
 refine aDa hB hb hfb hw fun M3 hC=>?_
 have h3:=back M3 _ hC
 simp only [cA,aT,a9,aK,aS]
 refine kE rM (by rfl) tE h3 fun b2 F3 M4 l4 o4 h4=>?_
 all_goals
  rw [fB,if_pos rfl]
  simp only [aX,add_eq,Nat.zero_add,Tb2 (oT1.le l4) h4.fr,aC,mQ W.c3 (o4.le h4.fr) (o:=0) rfl,aK]
  obtain ⟨g1,g2⟩:=h4.get List.mem_cons_self
  refine aH9 (k:=v.1) rfl Tryz.underlying154 aAj g1 g2 hf fun oa' hf'=>?_
  have h5:=h4.set (o':=oa')
  generalize Mem.set M4 ma _ = M5 at h5 ⊢
  simp only [mQ W.c3 (o4.le h5.fr) (o:=0) rfl,aC,aK]
  exact hK M5 oa' hf' ((h5.fQ l4).fQ l1)
end
end HL
namespace HL
structure fA where
 why:Int:=0
 at_:Int:=0
 gen:Int:=0
 time:Int:=0
 data:Int:=0
 n:Int:=0
deriving DecidableEq
structure rR where
 kind:Int
 queue:Int
 at_:Int
 gen:Int
 time:Int
 data:Int
abbrev iJ:TypeId:=65
abbrev iE:TypeId:=68
def fA.v (r:fA):Value:=.agg #[.int .i64 r.why,.int .i64 r.at_,.int .i64 r.gen,.int .i64 r.time,.int .i64 r.data,.int .i64 r.n]
def fA.cells (r:fA):List Value:=[.int .i64 r.why,.int .i64 r.at_,.int .i64 r.gen,.int .i64 r.time,.int .i64 r.data,.int .i64 r.n]
def rR.v (c:rR):Value:=.agg #[.int .i64 c.kind,.int .i64 c.queue,.int .i64 c.at_,.int .i64 c.gen,.int .i64 c.time,.int .i64 c.data]
def rR.cells (c:rR):List Value:=[.int .i64 c.kind,.int .i64 c.queue,.int .i64 c.at_,.int .i64 c.gen,.int .i64 c.time,.int .i64 c.data]
end HL
namespace HL
structure Jb where
 queue:Int
 data:Int
 key:Int
 ser:Int
 at_:Int
 gen:Int
def Jb.e (j:Jb):cY:=(j.key,j.ser)
structure rS where
 most:Int
 now:Int
 next:Int
 cF:Pl
 l:List Jb
def atD (l:List Jb) (a g:Int):Option Nat:=l.findIdx? fun j=>decide (j.at_ = a∧j.gen = g)
def aDc:Option (Nat × cY)→cY→Bool
 | none,_=>true
 | some x,e=>decide (Lt e x.2)
def sJ (q:Int):Nat→List Jb→Option (Nat × cY)→Option (Nat × cY)
 | _,[],acc=>acc
 | i,j::t,acc=>sJ q (i + 1) t (if j.queue = q∧aDc acc j.e = true then some (i,j.e) else acc)
def pT (l:List Jb) (q:Int):Option (Nat × cY):=sJ q 0 l none
def iK (q:Int) (l:List Jb):Nat:=l.countP fun j=>decide (j.queue = q)
def rS.out (d:rS) (k:Nat):rS:=match d.l[k]? with
 | none=>d
 | some j=>{ d with l:=d.l.eraseIdx k,cF:=d.cF.gB j.at_.toNat }
def gC (d:rS) (c:rR):rS × fA :=
 if (c.kind = 1∨c.kind = 5∨c.kind = 6∨c.kind = 7)∧(c.queue < 0∨2≤c.queue) then (d,{ why:=1 })
 else if c.kind = 1 then
  match d.cF.at_ with
  | none=>(d,{ why:=13 })
  | some a=>({ d with cF:=d.cF.take a 0,l:=d.l ++ [⟨c.queue,c.data,c.time,d.next,(a:Int),d.cF.gen a⟩],next:=d.next + 1 },{ at_:=(a:Int),gen:=d.cF.gen a,time:=c.time,data:=c.data })
 else if c.kind = 2∨c.kind = 3 then
  if d.cF.look c.at_ c.gen≠0 then (d,{ why:=d.cF.look c.at_ c.gen })
  else match atD d.l c.at_ c.gen with
   | none=>(d,{})
   | some k=>match d.l[k]? with
    | none=>(d,{})
    | some j =>
     if c.kind = 3 then (d.out k,{ time:=j.key,data:=j.data })
     else if j.key < c.time then (d,{ why:=26 })
     else ({ d with l:=d.l.set k { j with key:=c.time } },{ time:=c.time,data:=j.data })
 else if c.kind = 4 then
  if c.time < 0 then (d,{ why:=1 }) else ({ d with now:=jY d.now c.time },{ time:=jY d.now c.time })
 else if c.kind = 5 then
  match pT d.l c.queue with
  | none=>(d,{ why:=28 })
  | some x=>if d.now < x.2.1 then (d,{ why:=28 }) else
   match d.l[x.1]? with
   | none=>(d,{})
   | some j=>(d.out x.1,{ at_:=j.at_,gen:=j.gen,time:=j.key,data:=j.data })
 else if c.kind = 6 then
  if c.queue = 0 then (d,{ why:=25 })
  else ({ d with l:=d.l.map fun j=>if j.queue = 1 then { j with queue:=0 } else j },{ n:=(iK 1 d.l:Int) })
 else if c.kind = 7 then (d,{ n:=(iK c.queue d.l:Int) })
 else (d,{ why:=12 })
structure DOk (d:rS):Prop where
 pl:aF0 d.cF
 look:∀ a g,d.cF.look a g = 0→∃ k,atD d.l a g = some k
 lk:∀ j∈d.l,d.cF.look j.at_ j.gen = 0
 bl:d.cF.back.length≤10000
 gl:d.cF.lH.length≤10000
 gv:∀ g∈d.cF.lH,0≤g∧g≤1000000
 ll:d.l.length≤10000
 nx:0≤d.next∧d.next≤1000000
theorem z7 {q:Int}:∀ {l:List Jb} {i:Nat} {acc:Option (Nat × cY)} {P:Nat × cY→Prop},(∀ x,acc = some x→P x)→(∀ (n:Nat) j,l[n]? = some j→j.queue = q→P (i + n,j.e))→∀ x,sJ q i l acc = some x→P x
 | [],i,acc,P,h0,_,x,hx=>h0 x hx
 | j::l,i,acc,P,h0,h1,x,hx=>by
  rw [sJ] at hx
  refine z7 (P:=P) (fun y hy=>?_) (fun n k hk hq=>?_) x hx
  ·split at hy
   ·rename_i hc
    cases hy
    exact h1 0 j rfl hc.1
   ·exact h0 y hy
  ·have:=h1 (n + 1) k (by simpa using hk) hq
   rw [show i + 1 + n = i + (n + 1) from by omega];exact this
theorem yH {q:Int}:∀ {l:List Jb} {i:Nat} {acc:Option (Nat × cY)} {x:Nat × cY},sJ q i l acc = some x→(∀ y,acc = some y→¬ Lt y.2 x.2)∧∀ j∈l,j.queue = q→¬ Lt j.e x.2
 | [],i,acc,x,hx=>⟨fun y hy=>by
   have:acc = some x:=hx
   rw [this] at hy;cases hy;exact Lt.irr,fun j hj=>by cases hj⟩
 | j::l,i,acc,x,hx=>by
  rw [sJ] at hx
  obtain ⟨h1,h2⟩:=yH hx
  by_cases hc:j.queue = q∧aDc acc j.e = true
  ·rw [if_pos hc] at h1
   have hj:=h1 _ rfl
   refine ⟨fun y hy=>?_,fun k hk hq=>?_⟩
   ·subst hy
    intro hh
    have:=hc.2
    simp only [aDc,decide_eq_true_eq] at this
    exact hj (Lt.tr this hh)
   ·rcases List.mem_cons.1 hk with rfl | hk
    ·exact hj
    ·exact h2 k hk hq
  ·rw [if_neg hc] at h1
   refine ⟨h1,fun k hk hq=>?_⟩
   rcases List.mem_cons.1 hk with rfl | hk
   ·cases acc with
    | none=>exact absurd ⟨hq,rfl⟩ hc
    | some y =>
     have hny:¬ Lt k.e y.2:=fun hh=>hc ⟨hq,by simp only [aDc,decide_eq_true_eq];exact hh⟩
     have hyx:=h1 y rfl
     exact fun hh=>(nLt.tr hyx hny) hh
   ·exact h2 k hk hq
theorem z6 {q:Int}:∀ {l:List Jb} {i:Nat} {acc:Option (Nat × cY)},sJ q i l acc = none→acc = none∧∀ j∈l,j.queue≠q
 | [],i,acc,hx=>⟨hx,fun j hj=>by cases hj⟩
 | j::l,i,acc,hx=>by
  rw [sJ] at hx
  obtain ⟨h1,h2⟩:=z6 hx
  split at h1
  ·cases h1
  ·rename_i hc
   subst h1
   refine ⟨rfl,fun k hk hq=>?_⟩
   rcases List.mem_cons.1 hk with rfl | hk
   ·exact hc ⟨hq,rfl⟩
   ·exact h2 k hk hq
theorem z8 {l:List Jb} {q:Int} {x:Nat × cY} (h:pT l q = some x):∃ j,l[x.1]? = some j∧j.queue = q∧x.2 = j.e∧∀ k∈l,k.queue = q→¬ Lt k.e j.e:=by
 have h1:=z7 (q:=q) (l:=l) (i:=0) (acc:=none) (P:=fun y=>∃ j,l[y.1]? = some j∧j.queue = q∧y.2 = j.e) (fun y hy=>by cases hy) (fun n j hj hq=>⟨j,by rw [Nat.zero_add];exact hj,hq,rfl⟩) x h
 obtain ⟨j,h2,h3,h4⟩:=h1
 refine ⟨j,h2,h3,h4,fun k hk hq=>?_⟩
 rw [←h4]
 exact (yH h).2 k hk hq
end HL
namespace HL
section
variable {w0:World} {M F:Mem} {R:VP}
theorem aIR {a b:Int} (ha:cM a) (hb:cM b) (h:R (.int .i64 (jY a b)) M):C PP w0 Id.iW #[.int .i64 a,.int .i64 b] R M:=by
 apply iW.go
 intro aB H
 unfold iW.T aL
 unfold cM at ha hb
 unfold jY at h
 have hj:(a < 0∨¬ (9223372036854775807 < a + b))→iW.J1 aB a b M:=by
  intro hc
  refine Eq.mpr (H.J1 ..) ?_
  unfold iW.J1.T aL
  rw [eK]
  split
  ·rw [bC (n:=(-9223372036854775808) - a) (by omega),eK]
   split
   ·rw [if_neg (by omega),if_pos (by omega)] at h;exact h
   ·rw [if_neg (by omega),if_neg (by omega)] at h
    rw [bC (by omega)];exact h
  ·rw [if_neg (by omega),if_neg (by omega)] at h
   rw [bC (by omega)];exact h
 rw [eK]
 split
 ·rw [bC (by omega),eK]
  split
  ·rw [if_pos (by omega)] at h;exact h
  ·exact hj (.inr (by omega))
 ·by_cases h0:a < 0
  ·exact hj (.inl h0)
  ·exact hj (.inr (by omega))
end
end HL
namespace HL
abbrev tD:TypeId:=73
abbrev tJb:TypeId:=130
def w9 (j:Jb):List Value:=[.int .i64 j.queue,.int .i64 j.data,.int .i64 j.key,.int .i64 j.ser,.int .i64 j.at_,.int .i64 j.gen]
theorem y5 (j:Jb):(w9 j).length = 6:=rfl
theorem y7 (j:Jb):∀ v∈w9 j,bR v = true:=by
 intro v hv
 simp only [w9,List.mem_cons,List.not_mem_nil,or_false] at hv
 rcases hv with rfl | rfl | rfl | rfl | rfl | rfl <;> rfl
abbrev jdV (l:List Jb):List Value:=l.flatMap w9
theorem pZ (l:List Jb):(jdV l).length = l.length * 6:=rH y5 l
theorem yL (l:List Jb):∀ v∈jdV l,bR v = true:=aH5 y7 _
def Jb.v (j:Jb):Value:=.agg #[.int .i64 j.queue,.int .i64 j.data,.int .i64 j.key,.int .i64 j.ser,.int .i64 j.at_,.int .i64 j.gen]
theorem aGP (l:List Jb) (i:Nat):jdV (l.take i) = (jdV l).take (i * 6):=by
 by_cases hi:i≤l.length
 ·have h:jdV l = jdV (l.take i) ++ jdV (l.drop i):=by rw [←List.flatMap_append,List.take_append_drop]
  rw [h];exact (List.take_left' (by rw [pZ,List.length_take];omega)).symm
 ·rw [List.take_of_length_le (by omega),List.take_of_length_le (by rw [pZ];omega)]
theorem aHT (l:List Jb) (i:Nat):jdV (l.drop i) = (jdV l).drop (i * 6):=by
 by_cases hi:i≤l.length
 ·have h:jdV l = jdV (l.take i) ++ jdV (l.drop i):=by rw [←List.flatMap_append,List.take_append_drop]
  rw [h];exact (List.drop_left' (by rw [pZ,List.length_take];omega)).symm
 ·rw [List.drop_of_length_le (by omega),List.drop_of_length_le (by rw [pZ];omega)];rfl
section
variable {w0:World} {F M:Mem} {R:VP}
theorem aCq {X Y:Operand} (a g b k:Int):(aJ PP w0).bq .eql 33 X Y (.agg #[.int .i64 a,.int .i64 g]) (.agg #[.int .i64 b,.int .i64 k]) = some (.bool (a == b && g == k)):=by
 have:=aEE (P:=PP) (w0:=w0) (X:=X) (Y:=Y) (es:=[a == b,g == k]) (xs:=#[.int .i64 a,.int .i64 g]) (ys:=#[.int .i64 b,.int .i64 k]) Tryz.underlying33 (by kernel_rfl) (by kernel_rfl)
  ⟨by decide,⟨.int .i64 a,.int .i64 b,by kernel_rfl,by kernel_rfl,lL Tryz.underlying3 a b⟩,by decide,⟨.int .i64 g,.int .i64 k,by kernel_rfl,by kernel_rfl,lL Tryz.underlying3 g k⟩,trivial⟩
 rw [show ([a == b,g == k]:List Bool).all id = (a == b && g == k) from by simp [List.all]] at this
 exact this
theorem aF1 {s:SV} {cs:List Value} {k i:Nat} (hc:gN w0 M s.a cs) (hl:cs.length = s.n * k) (hcap:s.n≤s.c):gN w0 M (if s.c = i then s.a else s.a.map (·.add (i * k))) (cs.drop (i * k)):=fun j v hj=>by
 rw [List.getElem?_drop] at hj
 obtain ⟨ad,ha,hr⟩:=hc _ v hj
 have hlt:=(List.getElem?_eq_some_iff.1 hj).1
 rw [if_neg (fun e=>by
  have:s.n * k≤i * k:=Nat.mul_le_mul_right k (by omega)
  omega)]
 refine ⟨ad.add (i * k),by rw [ha];rfl,?_⟩
 rw [add_add];exact hr
theorem aF7 {s:SV} {cs:List Value} {m:Nat} (hc:gN w0 M s.a cs):gN w0 M (if s.c = 0 then s.a else s.a.map (·.add 0)) (cs.take m):=fun j v hj=>by
 have hj2:cs[j]? = some v:=by
  rw [List.getElem?_take] at hj
  split at hj
  ·exact hj
  ·cases hj
 obtain ⟨ad,ha,hr⟩:=hc _ v hj2
 refine ⟨ad,?_,hr⟩
 rw [ha]
 split
 ·rfl
 ·simp [Addr.add]
def fM (d:Nat) (x:rS):cW:=fun r=>∃ (p:Nat) (s:SV),star (aW d [.int .i64 x.most,.int .i64 x.now,.int .i64 x.next,.pointer (some ⟨p,0,none⟩),SV.v s] tD) (star (dS 6 s (jdV x.l)) (lD p x.cF)) r
section
variable {d:Nat} {x:rS} {Q:cW}
abbrev DH (w0:World) (F M:Mem) (d:Nat) (x:rS) (p:Nat) (s:SV) (Q:cW):Prop:=aA w0 F M (star (aW d [.int .i64 x.most,.int .i64 x.now,.int .i64 x.next,.pointer (some ⟨p,0,none⟩),SV.v s] tD) (star (dS 6 s (jdV x.l)) (star (lD p x.cF) Q)))
theorem fM.open_ (h:aA w0 F M (star (fM d x) Q)):∃ p s,DH w0 F M d x p s Q:=by
 obtain ⟨r,⟨r1,r2,rfl,⟨p,s,r3,r4,rfl,a1,r5,r6,rfl,a2,a3⟩,a4⟩,a5⟩:=h
 exact ⟨p,s,_,⟨r3,r5 ++ (r6 ++ r2),by simp,a1,r5,_,rfl,a2,r6,_,rfl,a3,a4⟩,a5⟩
theorem DH.close {p:Nat} {s:SV} (h:DH w0 F M d x p s Q):aA w0 F M (star (fM d x) Q):=by
 obtain ⟨r,⟨r3,r4,rfl,a1,r5,r6,rfl,a2,r7,r8,rfl,a3,a4⟩,a5⟩:=h
 exact ⟨_,⟨r3 ++ (r5 ++ r7),r8,by simp,⟨p,s,r3,_,rfl,a1,r5,_,rfl,a2,a3⟩,a4⟩,a5⟩
theorem DH.n {p:Nat} {s:SV} (h:DH w0 F M d x p s Q):s.n = x.l.length:=aA.nR y5 (by decide) h.right
theorem DH.job {p:Nat} {s:SV} (h:DH w0 F M d x p s Q) {i:Nat} {j:Jb} (hj:x.l[i]? = some j):∃ blk,s.a = some ⟨blk,0,none⟩∧s.n = x.l.length∧i < s.n∧∀ f v,(w9 j)[f]? = some v→rd w0 M ⟨blk,i * 6 + f,none⟩ = some v:=aA.adR y5 (by decide) h.right hj
theorem DH.rl {p:Nat} {s:SV} (h:DH w0 F M d x p s Q):rd w0 M ⟨d,4,none⟩ = some (SV.v s):=aM (o:=4) h.aZ
theorem DH.rp {p:Nat} {s:SV} (h:DH w0 F M d x p s Q):rd w0 M ⟨d,3,none⟩ = some (.pointer (some ⟨p,0,none⟩)):=aM (o:=3) h.aZ
theorem DH.rn {p:Nat} {s:SV} (h:DH w0 F M d x p s Q):rd w0 M ⟨d,1,none⟩ = some (.int .i64 x.now):=aM (o:=1) h.aZ
theorem DH.rx {p:Nat} {s:SV} (h:DH w0 F M d x p s Q):rd w0 M ⟨d,2,none⟩ = some (.int .i64 x.next):=aM (o:=2) h.aZ
theorem DH.cF {p:Nat} {s:SV} (h:DH w0 F M d x p s Q):∃ F1,aA w0 F1 M (star (lD p x.cF) Q)∧∀ M' pl' Q',aA w0 F1 M' (star (lD p pl') Q')→DH w0 F M' d { x with cF:=pl' } p s Q':=by
 obtain ⟨F1,k1,_,k2⟩:=h.last
 obtain ⟨F2,k3,_,k4⟩:=k1.last
 exact ⟨F2,k3,fun M' pl' Q' hh=>k2 _ _ (k4 _ _ hh)⟩
theorem aKv {a g:Int} (h:aA w0 F M (star (fM d x) Q)) (hL:x.l.length≤10000) (hR:∀ M',Mem.le M M'→R (.int .i64 (match atD x.l a g with | none => -1 | some k=>(k:Int))) M') :
  C PP w0 Id.jF #[.pointer (some ⟨d,0,none⟩),.agg #[.int .i64 a,.int .i64 g]] R M:=by
 apply jF.go
 intro aB H
 unfold jF.T aL
 intro b1 hb0 hbw
 have l1:Mem.le M (M.set b1 (.row [.int .i64 a,.int .i64 g] 33)):=Mem.fO _ hb0
 have o1:cN w0 (M.set b1 (.row [.int .i64 a,.int .i64 g] 33)) b1 [.int .i64 a,.int .i64 g] 33:=cN.new hbw
 generalize M.set b1 _ = M1 at l1 o1 ⊢
 obtain ⟨p,s,hs⟩:=fM.open_ (h.le l1)
 have hn:=hs.n
 have ldr:(aJ PP w0).ld 33 ⟨b1,0,none⟩ M1 = some (.agg #[.int .i64 a,.int .i64 g]):=cR (cs:=[.int .i64 a,.int .i64 g]) W.g33 (fun j v hj=>by rw [add_eq,aM o1,Nat.zero_add];exact hj)
 have key:∀ (n i:Nat),i≤x.l.length→x.l.length < i + n→(∀ k,k < i→∀ j,x.l[k]? = some j→¬ (j.at_ = a∧j.gen = g))→jF.L1 aB n (some ⟨d,0,none⟩) ⟨b1,0,none⟩ (i:Int) M1:=by
  intro n
  induction n with
  | zero=>intro i h1 h2;omega
  | succ n ih =>
   intro i hi1 hi2 hno
   refine Eq.mpr (H.L1 ..) ?_
   unfold jF.L1.T aL
   simp only [aX,aP W.c71,add_eq,Nat.zero_add,hs.rl,aC,aR]
   rw [eK]
   split
   ·have hlt:i < x.l.length:=by omega
    have hj:=List.getElem?_eq_getElem hlt
    have hjj:x.l[i] = x.l[i]:=rfl
    generalize hg:x.l[i] = j at hj
    obtain ⟨blk,hsa,_,hin,hrd⟩:=hs.job hj
    have lda:(aJ PP w0).ld 33 ⟨blk,i * 6 + 4,none⟩ M1 = some (.agg #[.int .i64 j.at_,.int .i64 j.gen]):=cR (cs:=[.int .i64 j.at_,.int .i64 j.gen]) W.g33 (fun f v hf=>by
     rw [add_eq]
     match f,hf with
     | 0,hf=>exact hrd 4 _ hf
     | 1,hf=>exact hrd 5 _ hf)
    simp only [hsa,aX,Int.toNat_natCast,add_eq,Nat.zero_add,lda,ldr,aC,a9,aT,aK,bT,aS,aCq]
    refine ⟨⟨by omega,by omega⟩,?_⟩
    rw [aHB]
    refine ⟨fun he=>?_,fun he=>?_⟩
    ·simp only [Bool.and_eq_true,beq_iff_eq] at he
     have hf:atD x.l a g = some i:=by
      unfold atD
      refine List.findIdx?_eq_some_iff_getElem.2 ⟨hlt,?_,fun k hk=>?_⟩
      ·rw [hg];simp [he.1,he.2]
      ·have hkl:k < x.l.length:=by omega
       have:=hno k hk _ (List.getElem?_eq_getElem hkl)
       simpa using this
     have:=hR M1 l1
     rw [hf] at this
     exact this
    ·rw [cX (by omega)]
     refine ih (i + 1) (by omega) (by omega) fun k hk y hy=>?_
     by_cases hki:k = i
     ·subst hki
      rw [hj] at hy;cases hy
      intro hh
      simp [hh.1,hh.2] at he
     ·exact hno k (by omega) y hy
   ·have hii:i = x.l.length:=by omega
    have hf:atD x.l a g = none:=by
     unfold atD
     refine List.findIdx?_eq_none_iff.2 fun j hj=>?_
     obtain ⟨k,hk⟩:=List.getElem?_of_mem hj
     have:=hno k (by have:=(List.getElem?_eq_some_iff.1 hk).1;omega) j hk
     simpa using this
    have:=hR M1 l1
    rw [hf] at this
    exact this
 exact ⟨_,key (x.l.length + 1) 0 (by omega) (by omega) (fun k hk=>by omega)⟩
theorem aFR {q:Int} (h:aA w0 F M (star (fM d x) Q)) (hL:x.l.length≤10000) (hR:R (.int .i64 (iK q x.l:Int)) M) :
  C PP w0 Id.dO #[.pointer (some ⟨d,0,none⟩),.int .i64 q] R M:=by
 apply dO.go
 intro aB H
 unfold dO.T aL
 obtain ⟨p,s,hs⟩:=fM.open_ h
 have hn:=hs.n
 have key:∀ (n i:Nat),i≤x.l.length→x.l.length < i + n→dO.L1 aB n (some ⟨d,0,none⟩) q ((iK q (x.l.take i):Nat):Int) (i:Int) M:=by
  intro n
  induction n with
  | zero=>intro i h1 h2;omega
  | succ n ih =>
   intro i hi1 hi2
   refine Eq.mpr (H.L1 ..) ?_
   unfold dO.L1.T aL
   simp only [aX,aP W.c71,aP W.c3,add_eq,Nat.zero_add,hs.rl,aC,aR]
   rw [eK]
   split
   ·have hlt:i < x.l.length:=by omega
    have hj:=List.getElem?_eq_getElem hlt
    have htk:x.l.take (i + 1) = x.l.take i ++ [x.l[i]]:=by rw [List.take_add_one,hj];rfl
    generalize x.l[i] = j at hj htk
    obtain ⟨blk,hsa,_,hin,hrd⟩:=hs.job hj
    have eq:rd w0 M ⟨blk,i * 6,none⟩ = some (.int .i64 j.queue):=hrd 0 _ rfl
    simp only [hsa,aX,Int.toNat_natCast,add_eq,Nat.zero_add,eq,aC,aK]
    refine ⟨⟨by omega,by omega⟩,?_⟩
    have hle:iK q (x.l.take i)≤x.l.length:=Nat.le_trans List.countP_le_length (by rw [List.length_take];omega)
    have hct:iK q (x.l.take (i + 1)) = iK q (x.l.take i) + (if j.queue = q then 1 else 0):=by
     rw [htk];unfold iK
     rw [List.countP_append,List.countP_singleton]
     simp
    rw [fB,cX (i:=i) (by omega),cX (by omega)]
    split
    ·rename_i hq
     rw [if_pos hq] at hct
     rw [←hct]
     exact ih (i + 1) (by omega) (by omega)
    ·rename_i hq
     rw [if_neg hq] at hct
     rw [show iK q (x.l.take i) = iK q (x.l.take (i + 1)) from by omega]
     exact ih (i + 1) (by omega) (by omega)
   ·have hii:i = x.l.length:=by omega
    rw [hii,List.take_length];exact hR
 exact ⟨_,key (x.l.length + 1) 0 (by omega) (by omega)⟩
def aET:Option (Nat × cY)→Int
 | none => -1
 | some y=>(y.1:Int)
theorem aGB {q:Int} (h:aA w0 F M (star (fM d x) Q)) (hL:x.l.length≤10000) (hR:∀ M',Mem.le M M'→R (.int .i64 (aET (pT x.l q))) M') :
  C PP w0 Id.dC #[.pointer (some ⟨d,0,none⟩),.int .i64 q] R M:=by
 apply dC.go
 intro aB H
 unfold dC.T aL
 have key:∀ (n i:Nat) (acc:Option (Nat × cY)) (M':Mem),Mem.le M M'→i≤x.l.length→x.l.length < i + n→pT x.l q = sJ q i (x.l.drop i) acc→(∀ y,acc = some y→∃ j,x.l[y.1]? = some j∧y.2 = j.e) →
   dC.L1 aB n (some ⟨d,0,none⟩) q (aET acc) (i:Int) M':=by
  intro n
  induction n with
  | zero=>intro i acc M' _ h1 h2;omega
  | succ n ih =>
   intro i acc M' hle hi1 hi2 hfi hac
   refine Eq.mpr (H.L1 ..) ?_
   unfold dC.L1.T aL
   obtain ⟨p,s,hs⟩:=fM.open_ (h.le hle)
   have hn:=hs.n
   simp only [aX,aP W.c71,aP W.c3,add_eq,Nat.zero_add,hs.rl,aC,aR]
   rw [eK]
   split
   ·have hlt:i < x.l.length:=by omega
    have hj:=List.getElem?_eq_getElem hlt
    have hdr:x.l.drop i = x.l[i]::x.l.drop (i + 1):=List.drop_eq_getElem_cons hlt
    rw [hdr] at hfi
    generalize x.l[i] = j at hj hfi
    rw [sJ] at hfi
    obtain ⟨blk,hsa,_,hin,hrd⟩:=hs.job hj
    have eq:rd w0 M' ⟨blk,i * 6,none⟩ = some (.int .i64 j.queue):=hrd 0 _ rfl
    have ldE:∀ {i:Nat} {j:Jb},x.l[i]? = some j→(aJ PP w0).ld 44 ⟨blk,i * 6 + 2,none⟩ M' = some (.agg #[.int .i64 j.key,.int .i64 j.ser]):=fun {i j} hj=>by
     obtain ⟨blk',hsa',_,_,hrd⟩:=hs.job hj
     rw [hsa] at hsa';cases hsa'
     exact cR (cs:=[.int .i64 j.key,.int .i64 j.ser]) W.g44 (fun f v hf=>by
      rw [add_eq]
      match f,hf with
      | 0,hf=>exact hrd 2 _ hf
      | 1,hf=>exact hrd 3 _ hf)
    simp only [hsa,aX,Int.toNat_natCast,add_eq,Nat.zero_add,eq,aC,aK]
    have hbd:0≤(i:Int)∧(i:Int) < ((s.n:Nat):Int):=⟨by omega,by omega⟩
    refine ⟨hbd,?_⟩
    rw [cX (by omega),fB]
    have take:(j.queue = q∧aDc acc j.e = true)→∀ M2,Mem.le M M2→dC.L1 aB n (some ⟨d,0,none⟩) q (i:Int) ((i + 1:Nat):Int) M2:=fun hc M2 l2=>by
     rw [if_pos hc] at hfi
     exact ih (i + 1) (some (i,j.e)) M2 l2 (by omega) (by omega) hfi (fun y hy=>by cases hy;exact ⟨j,hj,rfl⟩)
    have skip:¬ (j.queue = q∧aDc acc j.e = true)→∀ M2,Mem.le M M2→dC.L1 aB n (some ⟨d,0,none⟩) q (aET acc) ((i + 1:Nat):Int) M2:=fun hc M2 l2=>by
     rw [if_neg hc] at hfi
     exact ih (i + 1) acc M2 l2 (by omega) (by omega) hfi hac
    split
    ·rename_i hq
     rw [eK]
     cases acc with
     | none =>
      rw [if_pos (show aET none < 0 by decide)]
      exact take ⟨hq,rfl⟩ M' hle
     | some y =>
      obtain ⟨j2,hj2,hye⟩:=hac y rfl
      obtain ⟨y1,y2⟩:=y
      simp only at hj2 hye
      subst hye
      have hy1:=(List.getElem?_eq_some_iff.1 hj2).1
      have hacc:aET (some (y1,j2.e)) = (y1:Int):=rfl
      rw [if_neg (by rw [hacc];omega)]
      simp only [hacc,Int.toNat_natCast,ldE hj,ldE hj2,aC,a9,aT,aK,aS]
      refine ⟨hbd,⟨by omega,by omega⟩,?_⟩
      refine aAH (a:=j.e) (b:=j2.e) fun M2 l2=>?_
      rw [bT,eK]
      split
      ·rename_i hlt2
       exact take ⟨hq,by simp only [aDc,decide_eq_true_eq];exact hlt2⟩ M2 (Mem.le_trans hle l2)
      ·rename_i hlt2
       exact skip (fun hh=>hlt2 (by have:=hh.2;simp only [aDc,decide_eq_true_eq] at this;exact this)) M2 (Mem.le_trans hle l2)
    ·rename_i hq
     exact skip (fun hh=>hq hh.1) M' hle
   ·have hii:i = x.l.length:=by omega
    rw [hii,List.drop_length] at hfi
    have:=hR M' hle
    rw [hfi] at this
    exact this
 exact ⟨_,key (x.l.length + 1) 0 none M (Mem.le_refl _) (by omega) (by omega) rfl (fun y hy=>by cases hy)⟩
end
end
end HL
namespace HL
section
variable {w0:World} {F M:Mem} {R:VP} {os:vC} {t bh bi ma:Nat} {hp ip:PS V3} {Q:cW}
theorem aE0 {a g c:Int} {v:V3} {oa:Obj} {m:Int→Option dL} {x:Nat} (oT:cN w0 F t (wT bh bi ma) wX) (h:HO w0 F M ((ma,oa)::os) (star (wW bh hp) (star (qU bi ip) Q))) (hb:hp.l.length≤100000) (hw:hp.find a g = some v)
  (hok:ip.Ok) (hbi:ip.l.length≤10000) (hfb:ip.free.length≤10000) (hlen:ip.free.length≤ip.l.length) (hgi:∀ x∈ip.l,0≤x.g∧x.g≤1000000) (hat:ip.at_ = some x) (hroom:((ip.l.length - ip.free.length:Nat):Int)≠ip.most) (hf:dI (Value.int .i64) bV m oa) (hno:m c = none)
  (hK:∀ M' oa',dI (Value.int .i64) bV (fV m c (some ((x:Int),ip.gen x))) oa'→HO w0 F M' ((ma,oa')::os) (star (wW bh hp) (star (qU bi (ip.take z3 x (c,a,g))) Q))→R (.tuple #[.agg #[.int .i64 (x:Int),.int .i64 (ip.gen x)],.int .i64 0]) M') :
  C PP w0 Id.qW #[.pointer (some ⟨t,0,none⟩),.agg #[.int .i64 a,.int .i64 g],.int .i64 c] R M:=by
 apply qW.go
 unfold qW.T aL
 refine rT h fun b1 F1 M1 l1 lm1 o1 h1=>?_
 have oT1:=oT.le l1
 refine jJ h1 fun b3 M1' l1' h1'=>?_
 simp only [aX,Tb0 oT1 h1'.fr,aC,bK,fF bA (o1.le h1'.fr),a9,aT,aK,aS]
 obtain ⟨inf,hi,hz,_⟩:=W.e33
 refine ⟨?_,?_⟩
 rotate_left
 refine jJ h1' fun b2 M2 l2 h2=>?_
 refine ⟨Tb0 oT1 h2.fr,fF bA (o1.le h2.fr),?_⟩
 refine wZ h2.h.right.right hb hw fun M3 l3=>?_
 simp only [cA,aT,a9,aK,aS]
 refine wA vQ (by rfl) tE (h2.le l3) fun F2 M4 l4 o4 h4=>?_
 rotate_left
 refine wZ h1'.h.right hb hw fun M3 l3=>?_
 simp only [cA,aT,a9,aK,aS]
 refine kE vQ (by rfl) tE (h1'.le l3) fun b2 F2 M4 l4 o4 h4=>?_
 all_goals
  rw [bX,if_pos rfl]
  have oT2:=oT1.le l4
  have hlk:=(lkF (k:=c) Tryz.underlying154 aAj hi hz (h4.get List.mem_cons_self).1 (h4.get List.mem_cons_self).2 hf).2
  rw [hno] at hlk
  simp only [Option.map_none,Option.getD_none,Option.isSome_none] at hlk
  simp only [aX,add_eq,Nat.zero_add,Tb2 oT2 h4.fr,aC,hlk,cA,aT,a9,aK,bT,aS]
  refine kE bA (by rfl) iO h4 fun b6 F3 M5 l5 o5 h5=>?_
  have oT3:=oT2.le l5
  simp only [aX,add_eq,Nat.zero_add,Tb1 oT3 h5.fr,aC,bK]
  refine aFK h5.h.right.right (by omega) hlen ?_
  rw [aK]
  refine ⟨Tb1 oT3 h5.fr,?_⟩
  refine aD0 h5.h.right.right ?_
  rw [aK,fB,if_neg hroom,mY]
  have o1':=o1.le (Mem.le_trans l4 l5)
  simp only [aX,add_eq,Nat.zero_add,Tb1 oT3 h5.fr,aC,bK,fF bA (o1'.le h5.fr),a9,aT,aK,aS]
  have hbld:(aJ PP w0).pD 153 [(0,.int .i64 c),(1,.agg #[.int .i64 a,.int .i64 g])] = some (.agg #[.int .i64 c,.int .i64 a,.int .i64 g]):=by kernel_rfl
  simp only [hbld,aC,a9,aT,aK,aS]
  refine ⟨?_,?_⟩
  rotate_left
  refine jJ h5 fun b7 M6 l6 h6=>?_
  refine ⟨Tb1 oT3 h6.fr,fF bA (o1'.le h6.fr),?_⟩
  obtain ⟨F4,hB,l7,back⟩:=h6.aK0
  refine aDL (v:=(c,a,g)) hB hok hbi hfb hgi hat fun M7 hC=>?_
  have h7:=back M7 _ hC
  simp only [cA,aT,a9,aK,bT,aS]
  refine wA bA (by rfl) iO h7 fun F5 M8 l8 o8 h8=>?_
  rotate_left
  obtain ⟨F4,hB,l7,back⟩:=h5.aKi
  refine aDL (v:=(c,a,g)) hB hok hbi hfb hgi hat fun M7 hC=>?_
  have h7:=back M7 _ hC
  simp only [cA,aT,a9,aK,bT,aS]
  refine kE bA (by rfl) iO h7 fun b7 F5 M8 l8 o8 h8=>?_
  all_goals
   simp only [aX,add_eq,Nat.zero_add,Tb2 (oT3.le l8) h8.fr,aC,fF bA (o8.le h8.fr),a9,aT,aK,aS]
   obtain ⟨g1,g2⟩:=h8.get List.mem_cons_self
   refine aGA (kf:=Value.int .i64) (vf:=bV) (k:=c) (v:=((x:Int),ip.gen x)) Tryz.underlying154 aAj g1 g2 hf fun oa' hf'=>?_
   have h9:=h8.set (o':=oa')
   generalize Mem.set M8 ma _ = M9 at h9 ⊢
   simp only [fF bA (o8.le h9.fr),aC,a9,aT,aK,aS]
   refine jL (K:=fun v M=>R (.tuple #[v,.int .i64 0]) M) bA (by rfl) iO h9 fun M10 h10=>?_
   exact hK M10 oa' hf' ((((h10.fQ l8).fQ l5).fQ l4).fQ l1)
theorem aDh {k:Int} {x:Nat} (oT:cN w0 F t (wT bh bi ma) wX) (h:HO w0 F M os (star (wW bh hp) Q)) (hk:1≤k∧k≤5) (hok:hp.Ok) (hb:hp.l.length≤10000) (hfb:hp.free.length≤10000) (hg:∀ x∈hp.l,0≤x.g∧x.g≤1000000) (hat:hp.at_ = some x)
  (hK:∀ M',HO w0 F M' os (star (wW bh (hp.take z3 x (k, -1,0))) Q)→R (.tuple #[.agg #[.int .i64 (x:Int),.int .i64 (hp.gen x)],.int .i64 0]) M') :
  C PP w0 Id.oA #[.pointer (some ⟨t,0,none⟩),.int .i64 k] R M:=by
 apply oA.go
 unfold oA.T aL
 refine jJ h fun b1 M1 l1 h1=>?_
 refine aB0 ?_
 rw [bT,decide_eq_true hk,Bool.not_true,mY]
 have hbld:(aJ PP w0).pD 149 [(0,.int .i64 k),(1,.int .i64 (-1))] = some (.agg #[.int .i64 k,.int .i64 (-1),.int .i64 0]):=by kernel_rfl
 simp only [aX,Tb0 oT h1.fr,aC,bK,hbld,a9,aT,aK,aS]
 obtain ⟨F2,hB,l2,back⟩:=h1.aAK
 refine aHF (v:=(k, -1,0)) hB hok hb hfb hg hat fun M2 hC=>?_
 have h2:=back M2 _ hC
 simp only [cA,aT,a9,aK,bT,aS]
 refine kE bA (by rfl) iO h2 fun b3 F3 M3 l3 o3 h3=>?_
 rw [Bool.not_true,mY]
 simp only [fF bA (o3.le h3.fr),aC,a9,aT,aK,aS]
 refine jL (K:=fun v M=>R (.tuple #[v,.int .i64 0]) M) bA (by rfl) iO h3 fun M5 h5=>?_
 exact hK M5 (h5.fQ l3)
def nY (ip:PS V3) (a g:Int):List cY:=ip.refs.filter fun r=>match ip.find r.1 r.2 with
 | some v=>decide (v.2.1 = a∧v.2.2 = g)
 | none=>false
theorem aBW {ip:PS V3} (hg:∀ x∈ip.l,0≤x.g∧x.g≤1000000) (hg1:∀ x∈ip.l,x.t = true→1≤x.g) {r:cY} (hr:r∈ip.refs):∃ v,ip.find r.1 r.2 = some v:=by
 obtain ⟨j,x,h1,h2,rfl⟩:=qP.1 hr
 refine ⟨x.v,?_⟩
 simp only [Nat.zero_add]
 refine PS.jT (v:=x.v) ?_ (hg1 x (List.mem_of_getElem? h1) h2)
 rw [h1,←h2]
theorem aGZ {a g:Int} (oT:cN w0 F t (wT bh bi ma) wX) (h:HO w0 F M os (star (qU bi ip) Q)) (hb:ip.l.length≤10000) (hg:∀ x∈ip.l,0≤x.g∧x.g≤1000000) (hg1:∀ x∈ip.l,x.t = true→1≤x.g)
  (hK:∀ M' s',HO w0 F M' os (star (Es s' (nY ip a g)) (star (qU bi ip) Q))→R s'.v M') :
  C PP w0 Id.fR #[.pointer (some ⟨t,0,none⟩),.agg #[.int .i64 a,.int .i64 g]] R M:=by
 apply fR.go
 intro aB H
 unfold fR.T aL
 refine rT h fun b1 F1 M1 l1 lm1 o1 h1=>?_
 have oT1:=oT.le l1
 simp only [aX,add_eq,Nat.zero_add,Tb1 oT1 h1.fr,aC,bK]
 obtain ⟨F2,hB,l2,back⟩:=h1.xJ
 refine aJN hB (by omega) fun M2 s2 lm2 h2=>?_
 rw [aR]
 have h2':=back M2 _ h2
 have hrl:=pQ ip.l 0
 change (ip.refs).length≤_ at hrl
 have hsn:=h2.xX.len
 have key:∀ (B A:List cY) (s:SV) (F3 M3:Mem) (k:Nat),ip.refs = A ++ B→Mem.le F1 F3→HO w0 F3 M3 os (star (Es s2 ip.refs) (star (Es s (A.filter fun r=>match ip.find r.1 r.2 with
   | some v=>decide (v.2.1 = a∧v.2.2 = g)
   | none=>false)) (star (qU bi ip) Q)))→B.length < k→fR.L1 aB k (some ⟨t,0,none⟩) ⟨b1,0,none⟩ s s2 ((s2.n:Nat):Int) (A.length:Int) M3:=by
  intro B
  induction B with
  | nil =>
   intro A s F3 M3 k he l3 h3 hk
   obtain ⟨k,rfl⟩:∃ j,k = j + 1:=⟨k - 1,by omega⟩
   rw [List.append_nil] at he
   refine Eq.mpr (H.L1 ..) ?_
   unfold fR.L1.T aL
   rw [eK,if_neg (by rw [hsn,he];omega)]
   rw [←he] at h3
   exact hK M3 s (((h3.aY fun h=>h.right).fQ l3).fQ l1)
  | cons r B ih =>
   intro A s F3 M3 k he l3 h3 hk
   obtain ⟨k,rfl⟩:∃ j,k = j + 1:=⟨k - 1,by omega⟩
   have ll:=congrArg List.length he
   simp only [List.length_append,List.length_cons] at ll hk
   have hget:(ip.refs)[A.length]? = some r:=by rw [he];simp
   obtain ⟨v,hv⟩:=aBW hg hg1 (show r∈ip.refs by rw [he];simp)
   refine Eq.mpr (H.L1 ..) ?_
   unfold fR.L1.T aL
   rw [eK,if_pos (by omega)]
   refine aJx (x:=r) h3.h.xX (Mem.le_refl _) A.length rfl hget ?_
   refine kE bA (by rfl) iO h3 fun b4 F4 M4 l4 o4 h4=>?_
   have oT4:=(oT1.le l3).le l4
   simp only [aX,add_eq,Nat.zero_add,Tb1 oT4 h4.fr,aC,bK,fF bA (o4.le h4.fr),a9,aT,aK,aS]
   have hGA:∀ {M':Mem} {X:cW},HO w0 F4 M' os (star (Es s2 ip.refs) (star X (star (qU bi ip) Q)))→aA w0 F4 M' (star (qU bi ip) Q):=fun h=>h.h.right.right
   have o1':=o1.le (Mem.le_trans l3 l4)
   have nxt:∀ (F6 M6:Mem) (s6:SV),Mem.le F1 F6→HO w0 F6 M6 os (star (Es s2 ip.refs) (star (Es s6 ((A ++ [r]).filter fun r=>match ip.find r.1 r.2 with
     | some v=>decide (v.2.1 = a∧v.2.2 = g)
     | none=>false)) (star (qU bi ip) Q)))→fR.L1 aB k (some ⟨t,0,none⟩) ⟨b1,0,none⟩ s6 s2 ((s2.n:Nat):Int) (qB ((A.length:Int) + 1)) M6:=by
    intro F6 M6 s6 l6 h6
    rw [cX (by omega)]
    have:=ih (A ++ [r]) s6 F6 M6 k (by rw [he];simp) l6 h6 (by omega)
    rw [List.length_append,List.length_singleton] at this
    exact this
   refine ⟨?_,?_⟩
   rotate_left
   refine jJ h4 fun b5 M5 l5 h5=>?_
   refine ⟨Tb1 oT4 h5.fr,fF bA (o4.le h5.fr),?_⟩
   refine aAc h5.h.right.right.right (by omega) hv fun M6 l6=>?_
   simp only [cA,aT,a9,aK,aS]
   refine wA rM (by rfl) tE (h5.le l6) fun F7 M7 l7 o7 h7=>?_
   rotate_left
   refine aAc (hGA h4) (by omega) hv fun M6 l6=>?_
   simp only [cA,aT,a9,aK,aS]
   refine kE rM (by rfl) tE (h4.le l6) fun b5 F7 M7 l7 o7 h7=>?_
   all_goals
    simp only [add_eq,Nat.zero_add,kQ (o:=1) (vs:=[.int .i64 v.2.1,.int .i64 v.2.2]) bA (o7.le h7.fr) (fun j u hj=>by rw [Nat.add_comm];exact hj),fF bA ((o1'.le l7).le h7.fr),aC,a9,aT,aK,aS,aCq,bT]
    have lF:Mem.le F1 F7:=Mem.le_trans l3 (Mem.le_trans l4 l7)
    by_cases hc:v.2.1 = a∧v.2.2 = g
    ·rw [show (v.2.1 == a && v.2.2 == g) = true from by simp [hc.1,hc.2],dY]
     simp only [fF bA ((o4.le l7).le h7.fr),aC,a9,aT,aK,aS]
     obtain ⟨F8,hB8,l8,back8⟩:=h7.aAK
     refine aFv hB8 _ _ fun M8 s8 l9 h8=>?_
     rw [aR]
     have hfl:=List.length_filter_le (fun r:cY=>match ip.find r.1 r.2 with
      | some v=>decide (v.2.1 = a∧v.2.2 = g)
      | none=>false) A
     refine aE4 h8.dX h8.xX (by simp only [List.length_singleton];omega) fun M9 s9 h9=>?_
     rw [aR]
     refine nxt F7 M9 s9 lF (back8 _ _ ?_)
     have e9:(A ++ [r]).filter (fun r=>match ip.find r.1 r.2 with
       | some v=>decide (v.2.1 = a∧v.2.2 = g)
       | none=>false) = (A.filter fun r=>match ip.find r.1 r.2 with
       | some v=>decide (v.2.1 = a∧v.2.2 = g)
       | none=>false) ++ [r]:=by
      rw [List.filter_append]
      congr 1
      rw [List.filter_cons_of_pos]
      ·rfl
      ·simp only [hv];exact decide_eq_true hc
     rw [e9]
     exact h9.dX.right
    ·rw [show (v.2.1 == a && v.2.2 == g) = false from by
      rw [Bool.eq_false_iff]
      intro h9
      simp only [Bool.and_eq_true,beq_iff_eq] at h9
      exact hc h9,mY]
     refine nxt F7 M7 s lF ?_
     have e9:(A ++ [r]).filter (fun r=>match ip.find r.1 r.2 with
       | some v=>decide (v.2.1 = a∧v.2.2 = g)
       | none=>false) = (A.filter fun r=>match ip.find r.1 r.2 with
       | some v=>decide (v.2.1 = a∧v.2.2 = g)
       | none=>false):=by
      rw [List.filter_append]
      conv=>rhs;rw [←List.append_nil (A.filter _)]
      congr 1
      rw [List.filter_cons_of_neg]
      ·rfl
      ·simp only [hv];simp [hc]
     rw [e9]
     exact h7
 refine ⟨ip.refs.length + 1,key ip.refs [] ⟨none,0,0⟩ F1 M2 _ rfl (Mem.le_refl _) ?_ (by omega)⟩
 obtain ⟨F3,hB3,l3,lP⟩:=h2'.aAK
 exact lP _ _ (aA.pI hB3)
end
end HL
namespace HL
def reh (ip:PS V3) (A:List cY) (a g:Int):PS V3:={ ip with l:=ip.l.mapIdx fun j x=>if ((j:Int),x.g)∈A then { x with v:=(x.v.1,a,g) } else x }
theorem uR (ip:PS V3) (A:List cY) (a g:Int) (j:Nat):(reh ip A a g).l[j]? = (ip.l[j]?).map fun x=>if ((j:Int),x.g)∈A then { x with v:=(x.v.1,a,g) } else x:=by
 unfold reh
 rw [List.getElem?_mapIdx]
theorem aCF (ip:PS V3) (A:List cY) (a g:Int):(reh ip A a g).l.length = ip.l.length:=by unfold reh;simp
theorem aJw (ip:PS V3) (a g:Int):reh ip [] a g = ip:=by
 unfold reh
 have:(ip.l.mapIdx fun j x=>if ((j:Int),x.g)∈([]:List cY) then { x with v:=(x.v.1,a,g) } else x) = ip.l:=by
  apply List.ext_getElem?
  intro j
  rw [List.getElem?_mapIdx]
  simp
 rw [this]
theorem aDV {ip:PS V3} {A:List cY} {a g b k:Int} {v:V3} (h:ip.find b k = some v):(reh ip A a g).find b k = some (if (b,k)∈A then (v.1,a,g) else v):=by
 obtain ⟨j,rfl,hj,hk⟩:=PS.bH h
 refine PS.jT ?_ hk
 rw [uR,hj,Option.map_some]
 by_cases hc:((j:Int),k)∈A
 ·rw [if_pos hc,if_pos hc]
 ·rw [if_neg hc,if_neg hc]
theorem aE8 {ip:PS V3} {A:List cY} {a g:Int} {x:rQ V3} (h:x∈(reh ip A a g).l):∃ y∈ip.l,x.g = y.g∧x.t = y.t:=by
 obtain ⟨j,hj⟩:=List.getElem?_of_mem h
 rw [uR] at hj
 cases hy:ip.l[j]? with
 | none=>rw [hy] at hj;cases hj
 | some y =>
  rw [hy,Option.map_some] at hj
  refine ⟨y,List.mem_of_getElem? hy,?_⟩
  split at hj <;> (cases hj;exact ⟨rfl,rfl⟩)
theorem aKT {ip:PS V3} {A:List cY} {a g:Int} (h:ip.Ok):(reh ip A a g).Ok:=by
 refine ⟨h.nd,fun b hb=>?_⟩
 obtain ⟨x,hx,ht⟩:=h.fr b hb
 rw [uR,hx,Option.map_some]
 refine ⟨_,rfl,?_⟩
 split
 ·exact ht
 ·exact ht
theorem aKL (ip:PS V3) (A:List cY) (a g:Int):(reh ip A a g).pl = ip.pl:=by
 have key:∀ {β:Type} (f:rQ V3→β),(∀ x v,f { x with v:=v } = f x)→(reh ip A a g).l.map f = ip.l.map f:=by
  intro β f hf
  apply List.ext_getElem?
  intro j
  rw [List.getElem?_map,List.getElem?_map,uR]
  cases ip.l[j]? with
  | none=>rfl
  | some x =>
   simp only [Option.map_some]
   split
   ·rw [hf]
   ·rfl
 unfold PS.pl
 rw [key (·.g) (fun _ _=>rfl),key (·.t) (fun _ _=>rfl),key (fun _=>(0:Int)) (fun _ _=>rfl)]
 rfl
theorem yG {κ:Type}:∀ (l:List (rQ κ)) (i:Nat),(iU i l).Pairwise fun a b=>a.1 < b.1
 | [],i=>List.Pairwise.nil
 | x::l,i=>by
  have ih:=yG l (i + 1)
  simp only [iU]
  split
  ·refine List.pairwise_cons.2 ⟨fun r hr=>?_,ih⟩
   obtain ⟨j,y,_,_,rfl⟩:=qP.1 hr
   show (i:Int) < ((i + 1 + j:Nat):Int)
   omega
  ·exact ih
section
variable {w0:World} {F M:Mem} {R:VP} {os:vC} {t bh bi ma:Nat} {hp ip:PS V3} {Q:cW}
theorem aGD {A:cW} {b o:Nat} {cs vs:List Value} {T T':TypeId} (hg:gE PP T vs.length = true) (ho:o + vs.length≤cs.length) (hone:∀ v∈vs,bR v = true) (h:HO w0 F M os (star (aW b cs T') A)) {K:Mem→Prop} (hK:∀ M',HO w0 F M' os (star (aW b (dZ cs o vs) T') A)→K M') :
  (aJ PP w0).st T ⟨b,o,none⟩ (.agg vs.toArray) (fun M2=>K M2) M :=
 gG hg h.h.aZ ho hone (hK _ h.aCZ)
theorem aIc {k a g b c:Int} {r1 n1 r2 n2:Int} (oT:cN w0 F t (wT bh bi ma) wX) (h:HO w0 F M os (star (wW bh hp) (star (qU bi ip) Q))) (hb:hp.l.length≤10000) (hfb:hp.free.length≤10000) (hw:hp.find a g = some (k,r1,n1)) (hw2:hp.find b c = some (k,r2,n2)) (eQ:¬ (a = b∧g = c))
  (hbi:ip.l.length≤10000) (hgi:∀ x∈ip.l,0≤x.g∧x.g≤1000000) (hg1:∀ x∈ip.l,x.t = true→1≤x.g)
  (hK:∀ M',HO w0 F M' os (star (wW bh (hp.gB z3 b.toNat)) (star (qU bi (reh ip (nY ip b c) a g)) Q))→R (.int .i64 0) M') :
  C PP w0 Id.fY #[.pointer (some ⟨t,0,none⟩),.agg #[.int .i64 a,.int .i64 g],.agg #[.int .i64 b,.int .i64 c]] R M:=by
 apply fY.go
 intro aB H
 unfold fY.T aL
 refine rT h fun b1 F1 M1 l1 lm1 o1 h1=>?_
 refine rT h1 fun b3 F2 M2 l2 lm2 o3 h2=>?_
 have oT2:=(oT.le l1).le l2
 have o1':=o1.le l2
 have hrn:=yG ip.l 0
 change (ip.refs).Pairwise _ at hrn
 have hof:(nY ip b c).Pairwise fun x y=>x.1 < y.1:=List.Pairwise.filter _ hrn
 have hofl:(nY ip b c).length≤10000:=Nat.le_trans (List.length_filter_le _ _) (Nat.le_trans (pQ ip.l 0) hbi)
 have key:∀ (B A:List cY) (s:SV) (F3 M3:Mem) (kk:Nat),nY ip b c = A ++ B→Mem.le F2 F3→HO w0 F3 M3 os (star (Es s (nY ip b c)) (star (wW bh hp) (star (qU bi (reh ip A a g)) Q)))→B.length < kk→fY.L1 aB kk (some ⟨t,0,none⟩) ⟨b1,0,none⟩ ⟨b3,0,none⟩ s ((s.n:Nat):Int) (A.length:Int) M3:=by
  intro B
  induction B with
  | nil =>
   intro A s F3 M3 kk he l3 h3 hk
   obtain ⟨kk,rfl⟩:∃ j,kk = j + 1:=⟨kk - 1,by omega⟩
   rw [List.append_nil] at he
   have hsn:=h3.h.xX.len
   refine Eq.mpr (H.L1 ..) ?_
   unfold fY.L1.T aL
   rw [eK,if_neg (by rw [hsn,he];omega)]
   simp only [aX,Tb0 (oT2.le l3) h3.fr,fF bA ((o3.le l3).le h3.fr),aC,bK,a9,aT,aK,aS]
   obtain ⟨F4,hB,l4,back⟩:=h3.aAK
   refine aIa hB hb hfb hw2 fun M4 hC=>?_
   have h4:=back M4 _ hC
   simp only [cA,a9,aT,aK,aS]
   rw [←he] at h4
   exact hK M4 ((((h4.aY fun h=>h.right).fQ l3).fQ l2).fQ l1)
  | cons r B ih =>
   intro A s F3 M3 kk he l3 h3 hk
   obtain ⟨kk,rfl⟩:∃ j,kk = j + 1:=⟨kk - 1,by omega⟩
   have ll:=congrArg List.length he
   simp only [List.length_append,List.length_cons] at ll hk
   have hsn:=h3.h.xX.len
   have hget:(nY ip b c)[A.length]? = some r:=by rw [he];simp
   have hrm:r∈nY ip b c:=by rw [he];simp
   obtain ⟨v,hv⟩:=aBW hgi hg1 (List.mem_filter.1 hrm).1
   have hrA:∀ x∈A,x.1 < r.1:=fun x hx=>by
    rw [he] at hof
    exact (List.pairwise_append.1 hof).2.2 x hx r List.mem_cons_self
   have hrnA:(r.1,r.2) ∉ A:=fun hm=>by have:=hrA _ hm;simp only at this;omega
   have hvA:(reh ip A a g).find r.1 r.2 = some v:=by rw [aDV hv,if_neg hrnA]
   have hlA:(reh ip A a g).l.length≤100000:=by rw [aCF];omega
   refine Eq.mpr (H.L1 ..) ?_
   unfold fY.L1.T aL
   rw [eK,if_pos (by omega)]
   refine aJx (x:=r) h3.h.xX (Mem.le_refl _) A.length rfl hget ?_
   refine kE bA (by rfl) iO h3 fun b4 F4 M4 l4 o4 h4=>?_
   have oT4:=(oT2.le l3).le l4
   have o1'':=(o1'.le l3).le l4
   simp only [aX,add_eq,Nat.zero_add,Tb1 oT4 h4.fr,aC,bK,fF bA (o4.le h4.fr),a9,aT,aK,aS]
   refine ⟨?_,?_⟩
   rotate_left
   refine jJ h4 fun b5 M5 l5 h5=>?_
   refine ⟨Tb1 oT4 h5.fr,fF bA (o4.le h5.fr),?_⟩
   refine aAc h5.h.right.right.right hlA hvA fun M6 l6=>?_
   simp only [cA,aT,a9,aK,aS]
   refine stW rM (by rfl) tE (h5.le l6) fun M7 h7=>?_
   rotate_left
   refine aAc h4.h.right.right hlA hvA fun M6 l6=>?_
   simp only [cA,aT,a9,aK,aS]
   refine jJ (h4.le l6) fun b5 M5 l5 h5=>?_
   refine stW rM (by rfl) tE h5 fun M7 h7=>?_
   all_goals
    simp only [fF bA (o1''.le h7.fr),add_eq,Nat.zero_add,aC,a9,aT,aK,aS]
    refine aGD (o:=1) bA (by exact Nat.le_refl _) iO h7 fun M8 h8=>?_
    have hov:dZ [.int .i64 v.1,.int .i64 v.2.1,.int .i64 v.2.2] 1 [.int .i64 a,.int .i64 g] = [.int .i64 v.1,.int .i64 a,.int .i64 g]:=by
     have:=eO [.int .i64 v.1] [.int .i64 v.2.1,.int .i64 v.2.2] [] [.int .i64 a,.int .i64 g] rfl (o:=1) rfl
     simpa using this
    rw [hov] at h8
    simp only [aX,Tb1 oT4 h8.fr,fF bA (o4.le h8.fr),fF rM h8.h.aZ,aC,bK,a9,aT,aK,aS]
    obtain ⟨F9,hB9,l9,back9⟩:=h8.aK0
    refine aJk (v:=(v.1,a,g)) hB9 hlA hvA fun M9 hC9=>?_
    rw [aK,cX (by omega)]
    have h9:=back9 M9 _ hC9
    have hput:(reh ip A a g).put r.1.toNat (v.1,a,g) = reh ip (A ++ [r]) a g:=by
     obtain ⟨j,hj,hjl,hj1⟩:=PS.bH hv
     obtain ⟨j2,hj2,hjl2,_⟩:=PS.bH hvA
     have hjj:r.1.toNat = j:=by rw [hj];exact Int.toNat_natCast j
     have hj22:j2 = j:=by omega
     subst hj22
     unfold PS.put
     rw [hjj,hjl2]
     show ({ reh ip A a g with l:=(reh ip A a g).l.set j2 ⟨r.2,true,(v.1,a,g)⟩ }:PS V3) = _
     have hl:(reh ip A a g).l.set j2 ⟨r.2,true,(v.1,a,g)⟩ = (reh ip (A ++ [r]) a g).l:=by
      apply List.ext_getElem?
      intro i
      by_cases hi:j2 = i
      ·subst hi
       rw [List.getElem?_set_self (List.getElem?_eq_some_iff.1 hjl2).1,uR,hjl,Option.map_some,if_pos (by
        have:((j2:Int),r.2) = r:=Prod.ext hj.symm rfl
        rw [this];simp)]
      ·rw [List.getElem?_set_ne hi,uR,uR]
       cases hx:ip.l[i]? with
       | none=>rfl
       | some x =>
        simp only [Option.map_some]
        have:((i:Int),x.g)∈A ++ [r]↔((i:Int),x.g)∈A:=by
         rw [List.mem_append,List.mem_singleton]
         constructor
         ·rintro (h | h)
          ·exact h
          ·have:=congrArg Prod.fst h
           simp only at this
           omega
         ·exact .inl
        by_cases hc:((i:Int),x.g)∈A
        ·rw [if_pos hc,if_pos (this.2 hc)]
        ·rw [if_neg hc,if_neg (fun h=>hc (this.1 h))]
     rw [hl];rfl
    rw [hput] at h9
    have:=ih (A ++ [r]) s F4 M9 kk (by rw [he];simp) (Mem.le_trans l3 l4) (h9.aY fun h=>h.right) (by omega)
    rw [List.length_append,List.length_singleton] at this
    exact this
 simp only [aX,Tb0 oT2 h2.fr,aC,bK,fF bA (o1'.le h2.fr),a9,aT,aK,aS]
 refine ⟨?_,?_⟩
 rotate_left
 refine jJ h2 fun b4 M4 l4 h4=>?_
 refine ⟨Tb0 oT2 h4.fr,fF bA (o1'.le h4.fr),?_⟩
 refine wZ h4.h.right (by omega) hw fun M5 l5=>?_
 simp only [cA,aT,a9,aK,aS]
 refine wA vQ (by rfl) tE (h4.le l5) fun F6 M6 l6 o6 h6=>?_
 rotate_left
 refine wZ h2.h (by omega) hw fun M5 l5=>?_
 simp only [cA,aT,a9,aK,aS]
 refine kE vQ (by rfl) tE (h2.le l5) fun b4 F6 M6 l6 o6 h6=>?_
 all_goals
  rw [bX,if_pos rfl]
  have oT6:=oT2.le l6
  have o1x:=o1'.le l6
  have o3x:=o3.le l6
  simp only [aX,Tb0 oT6 h6.fr,aC,bK,fF bA (o3x.le h6.fr),a9,aT,aK,aS]
  refine ⟨?_,?_⟩
  rotate_left
  refine jJ h6 fun b7 M7 l7 h7=>?_
  refine ⟨Tb0 oT6 h7.fr,fF bA (o3x.le h7.fr),?_⟩
  refine wZ h7.h.right (by omega) hw2 fun M8 l8=>?_
  simp only [cA,aT,a9,aK,aS]
  refine wA vQ (by rfl) tE (h7.le l8) fun F9 M9 l9 o9 h9=>?_
  rotate_left
  refine wZ h6.h (by omega) hw2 fun M8 l8=>?_
  simp only [cA,aT,a9,aK,aS]
  refine kE vQ (by rfl) tE (h6.le l8) fun b7 F9 M9 l9 o9 h9=>?_
  all_goals
   rw [bX,if_pos rfl]
   have oT9:=oT6.le l9
   have o1y:=o1x.le l9
   have o3y:=o3x.le l9
   simp only [fF bA (o1y.le h9.fr),fF bA (o3y.le h9.fr),aC,a9,aT,aK,aS,aCq,bT]
   have hne':(a == b && g == c) = false:=by
    rw [Bool.eq_false_iff]
    intro h0
    simp only [Bool.and_eq_true,beq_iff_eq] at h0
    exact eQ h0
   rw [hne',mY]
   simp only [mQ W.c3 ((o6.le l9).le h9.fr) (o:=0) rfl,mQ W.c3 (o9.le h9.fr) (o:=0) rfl,aC,aK]
   rw [bX,if_pos rfl]
   have lF9:Mem.le F2 F9:=Mem.le_trans l6 l9
   refine aGZ oT9 (h9.aY fun h=>h.dX) hbi hgi hg1 fun M10 s10 h10=>?_
   rw [aR]
   refine ⟨(nY ip b c).length + 1,key (nY ip b c) [] s10 F9 M10 _ rfl lF9 ?_ (by omega)⟩
   rw [aJw]
   obtain ⟨F11,hB11,l11,back11⟩:=h10.aAK
   exact back11 _ _ hB11.dX
theorem iM {a:Nat} {α:AS} (hA:aA w0 F M (aF a α)) (h:∀ p,(∀ K:VP,(∀ M' β,aA w0 F M' (aF a β)→AS.Sm 0 α β→K (.tuple #[]) M')→C PP w0 Id.mE #[.pointer p] K M)→R (.pointer p) M):C PP w0 Id.jV #[.pointer (some ⟨a,0,none⟩)] R M:=by
 obtain ⟨r,⟨hi,bL,bM,sf,cs,rf,rfl,hc,hs⟩,hf⟩:=hA
 have e3:rd w0 M ⟨a,3,none⟩ = some (.pointer (some ⟨bM,0,none⟩)):=by
  rw [aM (hf.own (b:=a) (cs:=arR bL α.n α.never sf bM) (e:=145) List.mem_cons_self)];rfl
 apply jV.go
 unfold jV.T aL
 simp only [go_sem,add_eq,Nat.zero_add,e3]
 refine h _ fun K hK=>?_
 have om:cN w0 M bM (gZ α.steps α.begun α.most) 163:=hf.own (by simp)
 have m0:rd w0 M ⟨bM,0,none⟩ = some (.int .i64 α.steps):=aM (o:=0) om
 have m1:rd w0 M ⟨bM,1,none⟩ = some (.int .i64 α.begun):=aM (o:=1) om
 have m2:rd w0 M ⟨bM,2,none⟩ = some (.int .i64 α.most):=aM (o:=2) om
 apply mE.go
 unfold mE.T aL
 simp only [go_sem,add_eq,Nat.zero_add,m0]
 apply pV.go
 unfold pV.T aL
 simp only [go_sem,add_eq,Nat.zero_add,m2]
 apply m9.go
 unfold m9.T aL
 simp only [go_sem,add_eq,Nat.zero_add,m0,m1,m2,true_and]
 refine gA W.c2 om (by simp) rfl rfl ?_
 generalize (if qB (α.steps - α.begun) > α.most then qB (α.steps - α.begun) else α.most) = mo
 have h1:=hf.perm (r':=(bM,gZ α.steps α.begun α.most,163)::(a,arR bL α.n α.never sf bM,145)::(bL,cs,251)::rf) (List.perm_middle (l₁:=[_,_]))
 have h2:=h1.upd (cs':=gZ α.steps α.begun mo) (e':=163)
 refine gA (cs:=gZ α.steps α.begun mo) W.c2 (h2.own List.mem_cons_self) (by simp) rfl rfl ?_
 have h3:=h2.upd (cs':=gZ α.steps α.steps mo) (e':=163)
 refine hK _ { α with begun:=α.steps,most:=mo } ⟨_,⟨⟨hi.n,hi.never,hi.free,hi.live,hi.nd,hi.len,hi.steps⟩,bL,bM,sf,cs,rf,rfl,⟨hc.len,hc.f,hc.t⟩,hs⟩,h3.perm (List.perm_middle (l₁:=[_,_])).symm⟩ ⟨rfl,rfl,rfl,rfl,rfl,fun h=>⟨h.2,by show α.steps≤α.steps;omega,by show α.steps≤_;omega⟩⟩
theorem aDf {a:Nat} {α:AS} (hA:aA w0 F M (aF a α)) (h:∀ p,(∀ K:VP,K (.int .i64 α.steps) M→C PP w0 Id.lE #[.pointer p] K M)→R (.pointer p) M):C PP w0 Id.jV #[.pointer (some ⟨a,0,none⟩)] R M:=by
 obtain ⟨bL,bM,sf,cs,hs,hn⟩:=hA.seen
 apply jV.go
 unfold jV.T aL
 simp only [go_sem,add_eq,Nat.zero_add,hs.r3]
 exact h _ fun K hK=>aHv hs.m hK
end
end HL
namespace HL
structure QS where
 most:Int
 next:Int
 α:AS
 hp:PS V3
 ip:PS V3
 at_:Int→Option dL
 en:dL→Option cY
structure m6 where
 r:dL
 h:dL
 c:Nat
 e:cY
def m6.held (x:m6):cC:=(x.c,x.e)
structure Hv where
 h:dL
 k:Int
 root:Int
 N:List Nat
def eB (I:List m6) (h:dL):List cC:=(I.filter fun x=>decide (x.h = h)).map m6.held
def iV (I:List m6) (y:Hv):List Nat:=fG (eB I y.h) y.N
structure aD9 (α:AS) (I:List m6) (H:List Hv):Prop where
 kh:∀ y∈H,KH y.k α y.root (eB I y.h) y.N
 d1:∀ y∈H,∀ y'∈H,y.h≠y'.h→∀ c∈iV I y,c ∉ iV I y'
structure dU (S:QS) (I:List m6) (H:List Hv) (tm:Int):Prop where
 m1:1≤S.most
 m2:S.most≤300
 an:(S.α.n:Int) = 2 * S.most
 al:S.α.len = 2 * I.length
 inv:S.α.Inv
 ho:S.hp.Ok
 io:S.ip.Ok
 hl:S.hp.l.length = S.hp.free.length + H.length
 il:S.ip.l.length = S.ip.free.length + I.length
 hm:S.hp.most = 64
 im:S.ip.most = S.most
 hll:S.hp.l.length≤64
 ill:(S.ip.l.length:Int)≤S.most
 hg:∀ x∈S.hp.l,0≤x.g∧x.g≤tm
 ig:∀ x∈S.ip.l,0≤x.g∧x.g≤tm
 hg1:∀ x∈S.hp.l,x.t = true→1≤x.g
 ig1:∀ x∈S.ip.l,x.t = true→1≤x.g
 tm0:0≤tm
 hf:∀ y∈H,S.hp.find y.h.1 y.h.2 = some (y.k,y.root,((eB I y.h).length:Int))
 jf:∀ x∈I,S.ip.find x.r.1 x.r.2 = some ((x.c:Int),x.h.1,x.h.2)
 fS:(H.map (·.h)).Nodup
 ind:(I.map (·.r)).Nodup
 icd:(I.map (·.c)).Nodup
 ih:∀ x∈I,∃ y∈H,y.h = x.h
 at1:∀ x∈I,S.at_ (x.c:Int) = some x.r
 at2:∀ c r,S.at_ c = some r→∃ x∈I,(x.c:Int) = c
 en1:∀ x∈I,S.en x.r = some x.e
 hs:aD9 S.α I H
 nx:0≤S.next∧S.next≤tm
theorem mS (I J:List m6) (h:dL):eB (I ++ J) h = eB I h ++ eB J h:=by unfold eB;rw [List.filter_append,List.map_append]
theorem tL {x:m6} {h:dL} (e:x.h = h):eB [x] h = [x.held]:=by unfold eB;simp [e]
theorem pS {x:m6} {h:dL} (e:x.h≠h):eB [x] h = []:=by unfold eB;simp [e]
theorem qJ {I:List m6} {h:dL} {p:cC}:p∈eB I h↔∃ x∈I,x.h = h∧x.held = p:=by
 unfold eB
 constructor
 ·intro hp
  obtain ⟨x,hx,rfl⟩:=List.mem_map.1 hp
  obtain ⟨h1,h2⟩:=List.mem_filter.1 hx
  exact ⟨x,h1,by simpa using h2,rfl⟩
 ·rintro ⟨x,h1,h2,rfl⟩
  exact List.mem_map.2 ⟨x,List.mem_filter.2 ⟨h1,by simpa using h2⟩,rfl⟩
theorem zB (A B:List m6) (x:m6):(eB (A ++ x::B) x.h).Perm (x.held::eB (A ++ B) x.h):=by
 rw [mS,show x::B = [x] ++ B from rfl,mS [x] B,tL rfl,mS A B]
 exact List.perm_middle
theorem sN (A B:List m6) (x:m6) {h:dL} (e:x.h≠h):eB (A ++ x::B) h = eB (A ++ B) h:=by
 rw [mS,show x::B = [x] ++ B from rfl,mS [x] B,pS e,mS A B,List.nil_append]
theorem tT (I:List m6) (h:dL):(eB I h).length≤I.length:=by
 unfold eB
 rw [List.length_map]
 exact List.length_filter_le _ _
theorem j4 {β:Type} {A B:List β} {x:β} (h:(A ++ x::B).Nodup):(A ++ B).Nodup∧x ∉ A∧x ∉ B:=by
 have h1:=List.perm_middle.nodup_iff.1 h
 obtain ⟨h2,h3⟩:=List.nodup_cons.1 h1
 exact ⟨h3,fun hm=>h2 (List.mem_append_left _ hm),fun hm=>h2 (List.mem_append_right _ hm)⟩
section
variable {S:QS} {I:List m6} {H:List Hv} {tm:Int}
theorem aD9.sm {α β:AS} {j:Int} (h:aD9 α I H) (hs:AS.Sm j α β):aD9 β I H:=⟨fun y hy=>(h.kh y hy).sm hs,h.d1⟩
theorem dU.sm {β:AS} {j:Int} (h:dU S I H tm) (hs:AS.Sm j S.α β) (hi:β.Inv):dU { S with α:=β } I H tm :=
 ⟨h.m1,h.m2,by show (β.n:Int) = _;rw [hs.n];exact h.an,by show β.len = _;rw [AS.aBL hs.never hs.live];exact h.al,hi,h.ho,h.io,h.hl,h.il,h.hm,h.im,h.hll,h.ill,h.hg,h.ig,h.hg1,h.ig1,h.tm0,h.hf,h.jf,h.fS,h.ind,h.icd,h.ih,h.at1,h.at2,h.en1,h.hs.sm hs,h.nx⟩
theorem dU.uU (h:dU S I H tm) {tm':Int} (ht:tm≤tm'):dU S I H tm' :=
 ⟨h.m1,h.m2,h.an,h.al,h.inv,h.ho,h.io,h.hl,h.il,h.hm,h.im,h.hll,h.ill,fun x hx=>⟨(h.hg x hx).1,by have:=(h.hg x hx).2;omega⟩,fun x hx=>⟨(h.ig x hx).1,by have:=(h.ig x hx).2;omega⟩,h.hg1,h.ig1,by have:=h.tm0;omega,h.hf,h.jf,h.fS,h.ind,h.icd,h.ih,h.at1,h.at2,h.en1,h.hs,⟨h.nx.1,by have:=h.nx.2;omega⟩⟩
theorem dU.len (h:dU S I H tm):(I.length:Int)≤S.most:=by
 have:=h.il
 have:=h.ill
 omega
theorem dU.item (h:dU S I H tm) {x:m6} (hx:x∈I):∃ y∈H,y.h = x.h∧x.held∈eB I y.h∧x.c∈iV I y:=by
 obtain ⟨y,hy,e⟩:=h.ih x hx
 have hm:x.held∈eB I y.h:=qJ.2 ⟨x,hx,e.symm,rfl⟩
 exact ⟨y,hy,e,hm,List.mem_append_right _ (List.mem_map.2 ⟨x.held,hm,rfl⟩)⟩
theorem dU.live (h:dU S I H tm) {y:Hv} (hy:y∈H):∀ c∈iV I y,S.α.live c = true:=(h.hs.kh y hy).live
theorem dU.yB (h:dU S I H tm) {x:m6} (hx:x∈I):S.α.live x.c = true:=by
 obtain ⟨y,hy,_,_,hc⟩:=h.item hx
 exact h.live hy _ hc
theorem aD9.step {α β:AS} {I':List m6} {A B:List Hv} {y y':Hv} {Sx Lx:Nat→Prop} {d k:Int} (h:aD9 α I (A ++ y::B)) (hn:((A ++ y::B).map (·.h)).Nodup) (hyh:y'.h = y.h)
  (hI:∀ z∈A ++ B,eB I' z.h = eB I z.h) (hkh:KH y'.k β y'.root (eB I' y'.h) y'.N) (he:AS.lJ Sx Lx d k α β) (hS:∀ c,Sx c→c∈iV I y∨α.live c = false) (hL:∀ c,Lx c→c∈iV I y∨α.live c = false) (hc:∀ c∈iV I' y',c∈iV I y∨α.live c = false):aD9 β I' (A ++ y'::B):=by
 rw [List.map_append,List.map_cons] at hn
 obtain ⟨n1,n2,n3⟩:=j4 hn
 have eQ:∀ z∈A ++ B,z.h≠y.h:=fun z hz e=>by
  rcases List.mem_append.1 hz with hz | hz
  ·exact n2 (List.mem_map.2 ⟨z,hz,e⟩)
  ·exact n3 (List.mem_map.2 ⟨z,hz,e⟩)
 have hold:∀ z∈A ++ B,z∈A ++ y::B:=fun z hz=>by
  rcases List.mem_append.1 hz with hz | hz <;> simp [hz]
 have hz:∀ z,z∈A ++ y'::B→z = y'∨z∈A ++ B:=fun z hz=>by
  rcases List.mem_append.1 hz with hz | hz
  ·exact .inr (by simp [hz])
  ·rcases List.mem_cons.1 hz with hz | hz
   ·exact .inl hz
   ·exact .inr (by simp [hz])
 have hcel:∀ z∈A ++ B,iV I' z = iV I z:=fun z hz=>by unfold iV;rw [hI z hz]
 have hy:y∈A ++ y::B:=by simp
 have hap:∀ z∈A ++ B,∀ c∈iV I z,¬ (c∈iV I y∨α.live c = false):=fun z hz c hc hcc=>by
  rcases hcc with hcc | hcc
  ·exact h.d1 z (hold z hz) y hy (eQ z hz) c hc hcc
  ·have:=(h.kh z (hold z hz)).live c hc
   rw [hcc] at this;cases this
 refine ⟨fun z hzm=>?_,fun z hzm z' hzm' hzz c hcz hcz'=>?_⟩
 ·rcases hz z hzm with e0 | hzm
  ·rw [e0];exact hkh
  ·rw [hI z hzm]
   exact (h.kh z (hold z hzm)).pL he (fun c hcz hs=>hap z hzm c hcz (hS c hs)) (fun c hcz hs=>hap z hzm c hcz (hL c hs))
 ·rcases hz z hzm with e0 | hzm
  ·rw [e0] at hcz hzz
   rcases hz z' hzm' with e1 | hzm'
   ·exact hzz (by rw [e1])
   ·rw [hcel z' hzm'] at hcz'
    exact hap z' hzm' c hcz' (hc c hcz)
  ·rw [hcel z hzm] at hcz
   rcases hz z' hzm' with e1 | hzm'
   ·rw [e1] at hcz'
    exact hap z hzm c hcz (hc c hcz')
   ·rw [hcel z' hzm'] at hcz'
    exact h.d1 z (hold z hzm) z' (hold z' hzm') hzz c hcz hcz'
end
theorem zM {p:PS V3} {A B:List Hv} {y y':Hv} {I I':List m6} (hn:((A ++ y::B).map (·.h)).Nodup) (hyh:y'.h = y.h) (hf:∀ z∈A ++ y::B,p.find z.h.1 z.h.2 = some (z.k,z.root,((eB I z.h).length:Int))) (hI:∀ z∈A ++ B,eB I' z.h = eB I z.h) :
  ∀ z∈A ++ y'::B,(p.put y.h.1.toNat (y'.k,y'.root,((eB I' y'.h).length:Int))).find z.h.1 z.h.2 = some (z.k,z.root,((eB I' z.h).length:Int)):=by
 rw [List.map_append,List.map_cons] at hn
 obtain ⟨n1,n2,n3⟩:=j4 hn
 have hy:=hf y (by simp)
 obtain ⟨p1,p2⟩:=PS.aAy (y'.k,y'.root,((eB I' y'.h).length:Int)) hy
 intro z hz
 have hz':z = y'∨z∈A ++ B:=by
  rcases List.mem_append.1 hz with hz | hz
  ·exact .inr (by simp [hz])
  ·rcases List.mem_cons.1 hz with hz | hz
   ·exact .inl hz
   ·exact .inr (by simp [hz])
 rcases hz' with rfl | hz'
 ·rw [hyh]
  rw [hyh] at p1
  exact p1
 ·have hzo:z∈A ++ y::B:=by rcases List.mem_append.1 hz' with h | h <;> simp [h]
  have hzf:=hf z hzo
  rw [hI z hz']
  refine p2 _ _ _ (fun e=>?_) hzf
  obtain ⟨j1,q1,q2,_⟩:=PS.bH hzf
  obtain ⟨j2,q3,q4,_⟩:=PS.bH hy
  have hj:j1 = j2:=by omega
  subst hj
  rw [q2] at q4
  have hg:z.h.2 = y.h.2:=by injection q4 with q4;injection q4
  have hzy:z.h = y.h:=Prod.ext e hg
  rcases List.mem_append.1 hz' with h | h
  ·exact n2 (List.mem_map.2 ⟨z,h,hzy⟩)
  ·exact n3 (List.mem_map.2 ⟨z,h,hzy⟩)
section
variable {S:QS} {tm:Int}
theorem aLu {I:List m6} (hn:(I.map (·.r)).Nodup) (hf:∀ x∈I,S.ip.find x.r.1 x.r.2 = some ((x.c:Int),x.h.1,x.h.2)) {x z:m6} (hx:x∈I) (hz:z∈I) (eQ:z.r≠x.r):z.r.1≠x.r.1:=fun e=>by
 obtain ⟨j1,q1,q2,_⟩:=PS.bH (hf z hz)
 obtain ⟨j2,q3,q4,_⟩:=PS.bH (hf x hx)
 have hj:j1 = j2:=by omega
 subst hj
 rw [q2] at q4
 have hg:z.r.2 = x.r.2:=by injection q4 with q4;injection q4
 exact eQ (Prod.ext e hg)
theorem xH {β γ:Type} {f:β→γ}:∀ {l:List β},(l.map f).Nodup→∀ x∈l,∀ y∈l,f x = f y→x = y
 | [],_,x,hx,_,_,_=>by cases hx
 | z::l,hn,x,hx,y,hy,e=>by
  rw [List.map_cons,List.nodup_cons] at hn
  rcases List.mem_cons.1 hx with h1 | h1 <;> rcases List.mem_cons.1 hy with h2 | h2
  ·rw [h1,h2]
  ·exact absurd (List.mem_map.2 ⟨y,h2,by rw [←e,h1]⟩) hn.1
  ·exact absurd (List.mem_map.2 ⟨x,h1,by rw [e,h2]⟩) hn.1
  ·exact xH hn.2 x h1 y h2 e
theorem dU.insert {I:List m6} {A B:List Hv} {y:Hv} (h:dU S I (A ++ y::B) tm) {key:Int} {c n a:Nat} {α1 β:AS} {r':Int} {N':List Nat} {j1:Int}
  (hc:S.α.next = some c) (hα1:AS.Sm j1 ((S.α.take.put c 7 key).put c 8 S.next) α1) (hi1:α1.Inv) (hn:α1.next = some n) (hnl:α1.live n = false) (hβ:β.Inv)
  (hkh:KH y.k β r' ((c,(key,S.next))::eB I y.h) N') (hsub:∀ x∈fG ((c,(key,S.next))::eB I y.h) N',x = n∨x = c∨x∈iV I y) {j2:Int} (heff:AS.lJ (fun x=>x = n∨x = c∨x∈iV I y) (· = n) 1 j2 α1 β) (hat:S.ip.at_ = some a) (hlen:(I.length:Int) < S.most) :
  S.at_ (c:Int) = none∧dU { most:=S.most,next:=S.next + 1,α:=β,hp:=S.hp.put y.h.1.toNat (y.k,r',((eB I y.h).length:Int) + 1),ip:=S.ip.take z3 a ((c:Int),y.h.1,y.h.2),at_:=fV S.at_ (c:Int) (some ((a:Int),S.ip.gen a)),en:=fV S.en ((a:Int),S.ip.gen a) (some (key,S.next)) }
   (I ++ [⟨((a:Int),S.ip.gen a),y.h,c,(key,S.next)⟩]) (A ++ { y with root:=r',N:=N' }::B) (tm + 1):=by
 have hyM:y∈A ++ y::B:=by simp
 obtain ⟨c1,c2,c3⟩:=AS.kL h.inv hc
 have hcno:∀ x∈I,x.c≠c:=fun x hx e=>by have:=h.yB hx;rw [e,c2] at this;cases this
 have hatc:S.at_ (c:Int) = none:=by
  cases hm:S.at_ (c:Int) with
  | none=>rfl
  | some r =>
   obtain ⟨x,hx,e⟩:=h.at2 _ _ hm
   exact absurd (by omega) (hcno x hx)
 refine ⟨hatc,?_⟩
 have gl:∀ x,α1.live x = if x = c then true else S.α.live x:=fun x=>by rw [hα1.live,show ((S.α.take.put c 7 key).put c 8 S.next).live = S.α.take.live from rfl,c3];rfl
 have hnc:n≠c:=fun e=>by rw [e,gl,if_pos rfl] at hnl;cases hnl
 have hnl0:S.α.live n = false:=by rw [gl,if_neg hnc] at hnl;exact hnl
 have g1:=PS.aAR h.ig h.tm0 a
 obtain ⟨t1,t2,t3,t4,t5,t6,t7⟩:=PS.zO h.io hat z3 ((c:Int),y.h.1,y.h.2)
 obtain ⟨f1,f2⟩:=PS.zT h.io hat z3 ((c:Int),y.h.1,y.h.2) g1.1
 have hrno:∀ x∈I,x.r≠((a:Int),S.ip.gen a):=fun x hx e=>by
  have h1:=h.jf x hx
  rw [e] at h1
  rw [h.io.aDl hat] at h1;cases h1
 have e1:AS.lJ (fun x=>x = c) (· = c) 1 (0 + j1) S.α α1:=(((AS.vS (S:=fun x=>x = c) (L:=(· = c)) h.inv hc rfl rfl).put (f:=7) (v:=key) (c:=c) rfl).put (f:=8) (v:=S.next) (c:=c) rfl).trans hα1.pL
 have e2:AS.lJ (fun x=>x = n∨x = c∨x∈iV I y) (fun x=>x = n∨x = c) (1 + 1) (0 + j1 + j2) S.α β:=(e1.mono (fun x hx=>.inr (.inl hx)) (fun x hx=>.inr hx) (Int.le_refl _)).trans (heff.mono (fun _ h=>h) (fun x hx=>.inl hx) (Int.le_refl _))
 have hI2:∀ z∈A ++ B,eB (I ++ [⟨((a:Int),S.ip.gen a),y.h,c,(key,S.next)⟩]) z.h = eB I z.h:=fun z hz=>by
  have fS:=h.fS
  rw [List.map_append,List.map_cons] at fS
  obtain ⟨n1,n2,n3⟩:=j4 fS
  rw [mS,pS,List.append_nil]
  intro e
  have e':z.h = y.h:=e.symm
  rcases List.mem_append.1 hz with h | h
  ·exact n2 (List.mem_map.2 ⟨z,h,e'⟩)
  ·exact n3 (List.mem_map.2 ⟨z,h,e'⟩)
 have hIy:eB (I ++ [⟨((a:Int),S.ip.gen a),y.h,c,(key,S.next)⟩]) y.h = eB I y.h ++ [(c,(key,S.next))]:=by rw [mS,tL rfl];rfl
 have hPy:((c,(key,S.next))::eB I y.h).Perm (eB (I ++ [⟨((a:Int),S.ip.gen a),y.h,c,(key,S.next)⟩]) y.h):=by rw [hIy];exact (List.perm_append_comm (l₁:=[_]))
 have hcel:∀ x∈iV (I ++ [⟨((a:Int),S.ip.gen a),y.h,c,(key,S.next)⟩]) { y with root:=r',N:=N' },x∈iV I y∨S.α.live x = false:=fun x hx=>by
  have:=hsub x ((jQ hPy (List.Perm.refl N')).mem_iff.2 hx)
  rcases this with rfl | rfl | h1
  ·exact .inr hnl0
  ·exact .inr c2
  ·exact .inl h1
 have u7:=PS.uX (p:=S.hp) (a:=y.h.1.toNat) (v:=(y.k,r',((eB I y.h).length:Int) + 1)) (x:=⟨y.h.2,true,(y.k,y.root,((eB I y.h).length:Int))⟩) (by
  obtain ⟨j,q1,q2,_⟩:=PS.bH (h.hf y hyM)
  rw [q1,Int.toNat_natCast];exact q2)
 have hlen2:(eB (I ++ [⟨((a:Int),S.ip.gen a),y.h,c,(key,S.next)⟩]) y.h).length = (eB I y.h).length + 1:=by rw [hIy,List.length_append];rfl
 refine ⟨h.m1,h.m2,by show (β.n:Int) = _;rw [e2.n];exact h.an,?_,hβ,h.ho.put _ _,h.io.take hat _ _,?_,?_,by rw [u7.2.2];exact h.hm,by rw [t4];exact h.im,?_,?_,fun x hx=>?_,fun x hx=>?_,fun x hx ht=>?_,fun x hx ht=>?_,by have:=h.tm0;omega,?_,fun x hx=>?_,?_,?_,?_,fun x hx=>?_,fun x hx=>?_,fun k r hk=>?_,fun x hx=>?_,?_,?_⟩
 ·show β.len = _
  have:=e2.len
  have:=h.al
  rw [List.length_append,List.length_singleton];omega
 ·rw [u7.1,u7.2.1,List.length_set,h.hl];simp
 ·show (S.ip.take z3 a ((c:Int),y.h.1,y.h.2)).l.length = (S.ip.take z3 a ((c:Int),y.h.1,y.h.2)).free.length + _
  rw [List.length_append,List.length_singleton]
  have:=h.il
  omega
 ·rw [u7.1,List.length_set];exact h.hll
 ·have h1:=h.ill
  have h2:=h.im
  rcases t7 with t7 | t7
  ·show ((S.ip.take z3 a ((c:Int),y.h.1,y.h.2)).l.length:Int)≤S.most
   omega
  ·show ((S.ip.take z3 a ((c:Int),y.h.1,y.h.2)).l.length:Int)≤S.most
   omega
 ·obtain ⟨z,hz,e⟩:=PS.aAs hx
  have:=h.hg z hz
  omega
 ·have:=PS.aDp hx
  have h0:=h.tm0
  rcases this with h1 | h1 | h1
  ·have:=h.ig x h1;omega
  ·omega
  ·omega
 ·obtain ⟨jx,hjx⟩:=List.getElem?_of_mem hx
  rw [u7.1] at hjx
  by_cases e:y.h.1.toNat = jx
  ·subst e
   have hl9:y.h.1.toNat < S.hp.l.length:=by
    have:=(List.getElem?_eq_some_iff.1 hjx).1
    rwa [List.length_set] at this
   rw [List.getElem?_set_self hl9] at hjx
   cases hjx
   obtain ⟨j,q1,q2,q3⟩:=PS.bH (h.hf y hyM)
   exact q3
  ·rw [List.getElem?_set_ne e] at hjx
   exact h.hg1 x (List.mem_of_getElem? hjx) ht
 ·obtain ⟨jx,hjx⟩:=List.getElem?_of_mem hx
  by_cases e:jx = a
  ·subst e
   rw [t1] at hjx
   cases hjx
   exact g1.1
  ·rw [t2 jx e] at hjx
   exact h.ig1 x (List.mem_of_getElem? hjx) ht
 ·have:=zM (p:=S.hp) (I':=I ++ [⟨((a:Int),S.ip.gen a),y.h,c,(key,S.next)⟩]) (y':={ y with root:=r',N:=N' }) h.fS rfl h.hf hI2
  rw [show (({ y with root:=r',N:=N' }:Hv).h) = y.h from rfl,hlen2] at this
  exact this
 ·rcases List.mem_append.1 hx with hx | hx
  ·exact f2 _ _ _ (h.jf x hx)
  ·rw [List.mem_singleton.1 hx];exact f1
 ·have:=h.fS
  simp only [List.map_append,List.map_cons] at this ⊢
  exact this
 ·rw [List.map_append,List.nodup_append]
  refine ⟨h.ind,by simp,fun u hu v hv e=>?_⟩
  obtain ⟨x,hx,rfl⟩:=List.mem_map.1 hu
  simp only [List.map_cons,List.map_nil,List.mem_singleton] at hv
  exact hrno x hx (e.trans hv)
 ·rw [List.map_append,List.nodup_append]
  refine ⟨h.icd,by simp,fun u hu v hv e=>?_⟩
  obtain ⟨x,hx,rfl⟩:=List.mem_map.1 hu
  simp only [List.map_cons,List.map_nil,List.mem_singleton] at hv
  exact hcno x hx (e.trans hv)
 ·rcases List.mem_append.1 hx with hx | hx
  ·obtain ⟨z,hz,e⟩:=h.ih x hx
   rcases List.mem_append.1 hz with hz | hz
   ·exact ⟨z,by simp [hz],e⟩
   ·rcases List.mem_cons.1 hz with rfl | hz
    ·exact ⟨{ z with root:=r',N:=N' },by simp,e⟩
    ·exact ⟨z,by simp [hz],e⟩
  ·rw [List.mem_singleton.1 hx]
   exact ⟨{ y with root:=r',N:=N' },by simp,rfl⟩
 ·show fV S.at_ (c:Int) _ (x.c:Int) = some x.r
  unfold fV
  rcases List.mem_append.1 hx with hx | hx
  ·rw [if_neg (fun e=>hcno x hx (by omega))];exact h.at1 x hx
  ·rw [List.mem_singleton.1 hx]
   simp only [if_true]
 ·have hk':fV S.at_ (c:Int) (some ((a:Int),S.ip.gen a)) k = some r:=hk
  unfold fV at hk'
  split at hk'
  ·rename_i e
   exact ⟨⟨((a:Int),S.ip.gen a),y.h,c,(key,S.next)⟩,by simp,e.symm⟩
  ·obtain ⟨x,hx,e⟩:=h.at2 _ _ hk'
   exact ⟨x,by simp [hx],e⟩
 ·show fV S.en _ _ x.r = some x.e
  unfold fV
  rcases List.mem_append.1 hx with hx | hx
  ·rw [if_neg (hrno x hx)];exact h.en1 x hx
  ·rw [List.mem_singleton.1 hx]
   simp only [if_true]
 ·refine h.hs.step h.fS rfl hI2 (hkh.perm hPy (List.Perm.refl _)) e2 (fun x hx=>?_) (fun x hx=>?_) hcel
  ·rcases hx with rfl | rfl | hx
   ·exact .inr hnl0
   ·exact .inr c2
   ·exact .inl hx
  ·rcases hx with rfl | rfl
   ·exact .inr hnl0
   ·exact .inr c2
 ·have:=h.nx
  show 0≤S.next + 1∧S.next + 1≤tm + 1
  omega
theorem dU.remove {IA IB:List m6} {x:m6} {A B:List Hv} {y:Hv} (h:dU S (IA ++ x::IB) (A ++ y::B) tm) (hxy:x.h = y.h) {β γ:AS} {r':Int} {N':List Nat} {L':List cC} {n:Nat} {j j2:Int}
  (hL:(eB (IA ++ x::IB) y.h).Perm (x.held::L')) (hkh:KH y.k β r' L' N') (hless:aHm L' N' (eB (IA ++ x::IB) y.h) y.N) (hxL:x.c ∉ fG L' N') (hn:n∈y.N) (heff:AS.lJ (fun c=>c∈iV (IA ++ x::IB) y) (· = n) (-1) j S.α β) (hβ:β.Inv) (hγ:AS.Sm j2 (β.vF (x.c:Int)) γ) (hγi:γ.Inv) :
  dU { S with α:=γ,hp:=S.hp.put y.h.1.toNat (y.k,r',((eB (IA ++ x::IB) y.h).length:Int) - 1),ip:=S.ip.gB z3 x.r.1.toNat,at_:=fV S.at_ (x.c:Int) none,en:=fV S.en x.r none }
   (IA ++ IB) (A ++ { y with root:=r',N:=N' }::B) (tm + 1):=by
 have hyM:y∈A ++ y::B:=by simp
 have hxM:x∈IA ++ x::IB:=by simp
 have hold:∀ z∈IA ++ IB,z∈IA ++ x::IB:=fun z hz=>by rcases List.mem_append.1 hz with h | h <;> simp [h]
 have hnr:=h.ind
 have hncd:=h.icd
 rw [List.map_append,List.map_cons] at hnr hncd
 obtain ⟨nr1,nr2,nr3⟩:=j4 hnr
 obtain ⟨nc1,nc2,nc3⟩:=j4 hncd
 rw [←List.map_append] at nr1 nc1
 have hrne:∀ z∈IA ++ IB,z.r≠x.r:=fun z hz e=>by
  rcases List.mem_append.1 hz with h | h
  ·exact nr2 (List.mem_map.2 ⟨z,h,e⟩)
  ·exact nr3 (List.mem_map.2 ⟨z,h,e⟩)
 have hcne:∀ z∈IA ++ IB,z.c≠x.c:=fun z hz e=>by
  rcases List.mem_append.1 hz with h | h
  ·exact nc2 (List.mem_map.2 ⟨z,h,e⟩)
  ·exact nc3 (List.mem_map.2 ⟨z,h,e⟩)
 have hL2:(eB (IA ++ x::IB) y.h).Perm (x.held::eB (IA ++ IB) y.h):=by rw [←hxy];exact zB IA IB x
 have hLL:L'.Perm (eB (IA ++ IB) y.h):=List.Perm.cons_inv (hL.symm.trans hL2)
 have hxc:x.c∈iV (IA ++ x::IB) y:=List.mem_append_right _ (List.mem_map.2 ⟨x.held,qJ.2 ⟨x,hxM,hxy,rfl⟩,rfl⟩)
 have hyn:=(h.hs.kh y hyM).nd
 have hxn:x.c≠n:=fun e=>(List.nodup_append.1 hyn).2.2 n hn x.c (List.mem_map.2 ⟨x.held,qJ.2 ⟨x,hxM,hxy,rfl⟩,rfl⟩) e.symm
 have hxl:β.live x.c = true:=by rw [heff.live _ hxn];exact h.yB hxM
 have hgive:β.vF (x.c:Int) = β.kU x.c:=AS.uL hxl
 rw [hgive] at hγ
 have e2:AS.lJ (fun c=>c∈iV (IA ++ x::IB) y) (fun c=>c = n∨c = x.c) (-1 + -1 + 0) (j + 0 + j2) S.α γ :=
  ((heff.mono (fun _ h=>h) (fun c hc=>.inl hc) (Int.le_refl _)).trans (AS.pR hβ hxl (.inr rfl))).trans hγ.pL
 obtain ⟨ka,ka1,ka2,ka3⟩:=PS.bH (h.jf x hxM)
 have hka:x.r.1.toNat = ka:=by rw [ka1,Int.toNat_natCast]
 have hgl:=PS.vH (p:=S.ip) z3 ka2
 have u7:=PS.uX (p:=S.hp) (a:=y.h.1.toNat) (v:=(y.k,r',((eB (IA ++ x::IB) y.h).length:Int) - 1)) (x:=⟨y.h.2,true,(y.k,y.root,((eB (IA ++ x::IB) y.h).length:Int))⟩) (by
  obtain ⟨j,q1,q2,_⟩:=PS.bH (h.hf y hyM)
  rw [q1,Int.toNat_natCast];exact q2)
 have hlen2:(eB (IA ++ x::IB) y.h).length = (eB (IA ++ IB) y.h).length + 1:=hL2.length_eq
 have hI2:∀ z∈A ++ B,eB (IA ++ IB) z.h = eB (IA ++ x::IB) z.h:=fun z hz=>by
  have fS:=h.fS
  rw [List.map_append,List.map_cons] at fS
  obtain ⟨n1,n2,n3⟩:=j4 fS
  refine (sN IA IB x fun e=>?_).symm
  have e':z.h = y.h:=e.symm.trans hxy
  rcases List.mem_append.1 hz with h | h
  ·exact n2 (List.mem_map.2 ⟨z,h,e'⟩)
  ·exact n3 (List.mem_map.2 ⟨z,h,e'⟩)
 have hkh2:KH y.k γ r' (eB (IA ++ IB) y.h) N':=by
  refine ((hkh.pL (AS.pR (S:=fun _=>False) (L:=(· = x.c)) hβ hxl rfl) (fun _ _ h=>h) (fun c hc e=>hxL (by rw [←e];exact hc))).sm hγ).perm hLL (List.Perm.refl _)
 have hcel:∀ c∈iV (IA ++ IB) { y with root:=r',N:=N' },c∈iV (IA ++ x::IB) y∨S.α.live c = false:=fun c hc=>.inl (hless c ((jQ hLL (List.Perm.refl N')).mem_iff.2 hc))
 have hny:n∈iV (IA ++ x::IB) y:=List.mem_append_left _ hn
 rw [hka]
 refine ⟨h.m1,h.m2,by show (γ.n:Int) = _;rw [e2.n];exact h.an,?_,hγi,h.ho.put _ _,h.io.gB _ ka2 rfl,?_,?_,by rw [u7.2.2];exact h.hm,by rw [hgl.2.2];exact h.im,?_,?_,fun x hx=>?_,fun x hx=>?_,fun x hx ht=>?_,fun x hx ht=>?_,by have:=h.tm0;omega,?_,fun z hz=>?_,?_,?_,?_,fun z hz=>?_,fun z hz=>?_,fun k r hk=>?_,fun z hz=>?_,?_,?_⟩
 ·show γ.len = _
  have:=e2.len
  have:=h.al
  have h3:(IA ++ x::IB).length = (IA ++ IB).length + 1:=by simp;omega
  rw [h3] at this
  omega
 ·rw [u7.1,u7.2.1,List.length_set,h.hl];simp
 ·rw [hgl.1,hgl.2.1,List.length_set,h.il];simp;omega
 ·rw [u7.1,List.length_set];exact h.hll
 ·rw [hgl.1,List.length_set];exact h.ill
 ·obtain ⟨z,hz,e⟩:=PS.aAs hx
  have:=h.hg z hz
  omega
 ·obtain ⟨z,hz,e⟩:=PS.aC5 hx
  have:=h.ig z hz
  omega
 ·obtain ⟨jx,hjx⟩:=List.getElem?_of_mem hx
  rw [u7.1] at hjx
  by_cases e:y.h.1.toNat = jx
  ·subst e
   have hl9:y.h.1.toNat < S.hp.l.length:=by
    have:=(List.getElem?_eq_some_iff.1 hjx).1
    rwa [List.length_set] at this
   rw [List.getElem?_set_self hl9] at hjx
   cases hjx
   obtain ⟨j,q1,q2,q3⟩:=PS.bH (h.hf y hyM)
   exact q3
  ·rw [List.getElem?_set_ne e] at hjx
   exact h.hg1 x (List.mem_of_getElem? hjx) ht
 ·obtain ⟨jx,hjx⟩:=List.getElem?_of_mem hx
  rw [hgl.1] at hjx
  by_cases e:ka = jx
  ·subst e
   rw [List.getElem?_set_self (List.getElem?_eq_some_iff.1 ka2).1] at hjx
   cases hjx
   cases ht
  ·rw [List.getElem?_set_ne e] at hjx
   exact h.ig1 x (List.mem_of_getElem? hjx) ht
 ·have:=zM (p:=S.hp) (I':=IA ++ IB) (y':={ y with root:=r',N:=N' }) h.fS rfl h.hf hI2
  rw [show (({ y with root:=r',N:=N' }:Hv).h) = y.h from rfl,show ((eB (IA ++ IB) y.h).length:Int) = ((eB (IA ++ x::IB) y.h).length:Int) - 1 from by omega] at this
  exact this
 ·refine PS.wR z3 ka2 _ _ _ (fun e=>?_) (h.jf z (hold z hz))
  exact aLu h.ind h.jf hxM (hold z hz) (hrne z hz) (e.trans ka1.symm)
 ·have:=h.fS
  simp only [List.map_append,List.map_cons] at this ⊢
  exact this
 ·exact nr1
 ·exact nc1
 ·obtain ⟨u,hu,e⟩:=h.ih z (hold z hz)
  rcases List.mem_append.1 hu with hu | hu
  ·exact ⟨u,by simp [hu],e⟩
  ·rcases List.mem_cons.1 hu with hu | hu
   ·exact ⟨{ y with root:=r',N:=N' },by simp,by rw [←e,hu]⟩
   ·exact ⟨u,by simp [hu],e⟩
 ·show fV S.at_ (x.c:Int) none (z.c:Int) = some z.r
  unfold fV
  rw [if_neg (fun e=>hcne z hz (by omega))];exact h.at1 z (hold z hz)
 ·have hk':fV S.at_ (x.c:Int) none k = some r:=hk
  unfold fV at hk'
  split at hk'
  ·cases hk'
  ·rename_i e
   obtain ⟨z,hz,e'⟩:=h.at2 _ _ hk'
   refine ⟨z,?_,e'⟩
   rcases List.mem_append.1 hz with hz | hz
   ·exact List.mem_append_left _ hz
   ·rcases List.mem_cons.1 hz with hz | hz
    ·exact absurd (by rw [←e',hz]) e
    ·exact List.mem_append_right _ hz
 ·show fV S.en x.r none z.r = some z.e
  unfold fV
  rw [if_neg (hrne z hz)];exact h.en1 z (hold z hz)
 ·refine h.hs.step (y':={ y with root:=r',N:=N' }) h.fS rfl hI2 hkh2 e2 (fun c hc=>.inl hc) (fun c hc=>?_) hcel
  rcases hc with hc | hc
  ·exact .inl (by rw [hc];exact hny)
  ·exact .inl (by rw [hc];exact hxc)
 ·have:=h.nx
  show 0≤S.next∧S.next≤tm + 1
  omega
end
end HL
namespace HL
namespace PS
variable {κ:Type} {p:PS κ}
theorem aIr (h:∀ x∈p.l,x.t = true→1≤x.g) (a:Nat) (v:κ):∀ x∈(p.put a v).l,x.t = true→1≤x.g:=by
 intro x hx ht
 cases hy:p.l[a]? with
 | none =>
  have:p.put a v = p:=by unfold PS.put;rw [hy]
  rw [this] at hx;exact h x hx ht
 | some y =>
  rw [(uX v hy).1] at hx
  rcases List.mem_or_eq_of_mem_set hx with hx | hx
  ·exact h x hx ht
  ·rw [hx] at ht ⊢;exact h y (List.mem_of_getElem? hy) ht
theorem aJK (h:∀ x∈p.l,x.t = true→1≤x.g) (z:κ) (a:Nat):∀ x∈(p.gB z a).l,x.t = true→1≤x.g:=by
 intro x hx ht
 cases hy:p.l[a]? with
 | none =>
  have:p.gB z a = p:=by unfold PS.gB;rw [hy]
  rw [this] at hx;exact h x hx ht
 | some y =>
  rw [(vH z hy).1] at hx
  rcases List.mem_or_eq_of_mem_set hx with hx | hx
  ·exact h x hx ht
  ·rw [hx] at ht;cases ht
theorem aIY (hok:p.Ok) (h:∀ x∈p.l,x.t = true→1≤x.g) {a:Nat} (ha:p.at_ = some a) (hg:1≤p.gen a) (z v:κ):∀ x∈(p.take z a v).l,x.t = true→1≤x.g:=by
 intro x hx ht
 obtain ⟨t1,t2,_⟩:=zO hok ha z v
 obtain ⟨jx,hjx⟩:=List.getElem?_of_mem hx
 by_cases e:jx = a
 ·subst e
  rw [t1] at hjx
  cases hjx
  exact hg
 ·rw [t2 jx e] at hjx
  exact h x (List.mem_of_getElem? hjx) ht
theorem aFm {n:Nat} (h:p.l.length = p.free.length + n) (hn:(n:Int) < p.most):∃ a,p.at_ = some a:=by
 unfold at_
 cases hl:p.free.getLast? with
 | some a=>exact ⟨a,rfl⟩
 | none =>
  have hf:p.free = []:=List.getLast?_eq_none_iff.1 hl
  rw [hf] at h
  simp only [List.length_nil] at h
  exact ⟨p.l.length,by simp only;rw [if_neg (by omega)]⟩
end PS
def uY (o h:dL) (x:m6):m6:=if x.h = o then { x with h:=h } else x
theorem aCd (o h:dL) (x:m6):(uY o h x).r = x.r∧(uY o h x).c = x.c∧(uY o h x).e = x.e:=by unfold uY;split <;> exact ⟨rfl,rfl,rfl⟩
theorem w8 {o h z:dL} (h1:z≠h) (h2:z≠o):∀ I:List m6,eB (I.map (uY o h)) z = eB I z
 | []=>rfl
 | x::I=>by
  have ih:=w8 h1 h2 I
  rw [List.map_cons,show uY o h x::I.map (uY o h) = [uY o h x] ++ I.map (uY o h) from rfl,show x::I = [x] ++ I from rfl,mS,mS,ih]
  congr 1
  unfold uY
  by_cases e:x.h = o
  ·rw [if_pos e,pS (fun e'=>h1 e'.symm),pS (fun e'=>h2 (by rw [←e',e]))]
  ·rw [if_neg e]
theorem aCK {o h:dL} (eQ:h≠o):∀ I:List m6,(eB (I.map (uY o h)) h).Perm (eB I h ++ eB I o)
 | []=>List.Perm.refl _
 | x::I=>by
  have ih:=aCK eQ I
  rw [List.map_cons,show uY o h x::I.map (uY o h) = [uY o h x] ++ I.map (uY o h) from rfl,show x::I = [x] ++ I from rfl,mS,mS,mS [x] I o]
  unfold uY at ih ⊢
  by_cases e:x.h = o
  ·rw [if_pos e,tL rfl,pS (h:=h) (fun e'=>eQ (by rw [←e',e])),tL e,List.nil_append]
   exact (ih.cons _).trans List.perm_middle.symm
  ·rw [if_neg e,pS e,List.nil_append]
   by_cases e2:x.h = h
   ·rw [tL e2];exact ih.cons _
   ·rw [pS e2];exact ih
section
variable {S:QS} {tm:Int}
theorem dU.next {I:List m6} {H:List Hv} (h:dU S I H tm) (hlen:(I.length:Int) < S.most):S.α.next≠none:=fun e=>by
 have h1:=AS.aB8 h.inv e
 have:=h.al
 have:=h.an
 omega
theorem dU.aLX {I:List m6} {H:List Hv} (h:dU S I H tm) (hlen:(I.length:Int) < S.most):∃ a,S.ip.at_ = some a:=PS.aFm h.il (by rw [h.im];exact hlen)
theorem dU.aLV {I:List m6} {H:List Hv} (h:dU S I H tm) (hlen:H.length < 64):∃ a,S.hp.at_ = some a:=PS.aFm h.hl (by rw [h.hm];omega)
theorem dU.aIt {IA IB:List m6} {x:m6} {A B:List Hv} {y:Hv} (h:dU S (IA ++ x::IB) (A ++ y::B) tm) (hxy:x.h = y.h) {α1 β:AS} {key r':Int} {N':List Nat} {L':List cC} {j j2:Int}
  (hL:(eB (IA ++ x::IB) y.h).Perm (x.held::L')) (hα:AS.Sm j (S.α.put x.c 7 key) α1) (hkh:KH y.k β r' ((x.c,(key,x.e.2))::L') N') (hless:aHm ((x.c,(key,x.e.2))::L') N' (x.held::L') y.N) (heff:AS.lJ (fun c=>c∈fG (x.held::L') y.N) (fun _=>False) 0 j2 α1 β) (hβ:β.Inv) :
  dU { S with α:=β,hp:=S.hp.put y.h.1.toNat (y.k,r',((eB (IA ++ x::IB) y.h).length:Int)),en:=fV S.en x.r (some (key,x.e.2)) } (IA ++ { x with e:=(key,x.e.2) }::IB) (A ++ { y with root:=r',N:=N' }::B) tm:=by
 have hyM:y∈A ++ y::B:=by simp
 have hxM:x∈IA ++ x::IB:=by simp
 have hold:∀ z∈IA ++ IB,z∈IA ++ x::IB:=fun z hz=>by rcases List.mem_append.1 hz with h | h <;> simp [h]
 have hcas:∀ z∈IA ++ { x with e:=(key,x.e.2) }::IB,z = { x with e:=(key,x.e.2) }∨z∈IA ++ IB:=fun z hz=>by
  rcases List.mem_append.1 hz with hz | hz
  ·exact .inr (by simp [hz])
  ·rcases List.mem_cons.1 hz with hz | hz
   ·exact .inl hz
   ·exact .inr (by simp [hz])
 have hnr:=h.ind
 rw [List.map_append,List.map_cons] at hnr
 obtain ⟨nr1,nr2,nr3⟩:=j4 hnr
 have hrne:∀ z∈IA ++ IB,z.r≠x.r:=fun z hz e=>by
  rcases List.mem_append.1 hz with h | h
  ·exact nr2 (List.mem_map.2 ⟨z,h,e⟩)
  ·exact nr3 (List.mem_map.2 ⟨z,h,e⟩)
 have hL2:(eB (IA ++ x::IB) y.h).Perm (x.held::eB (IA ++ IB) y.h):=by rw [←hxy];exact zB IA IB x
 have hL3:(eB (IA ++ { x with e:=(key,x.e.2) }::IB) y.h).Perm ((x.c,(key,x.e.2))::eB (IA ++ IB) y.h):=by
  have:=zB IA IB { x with e:=(key,x.e.2) }
  rw [←hxy];exact this
 have hLL:L'.Perm (eB (IA ++ IB) y.h):=List.Perm.cons_inv (hL.symm.trans hL2)
 have hPn:((x.c,(key,x.e.2))::L').Perm (eB (IA ++ { x with e:=(key,x.e.2) }::IB) y.h):=(hLL.cons _).trans hL3.symm
 have hxc:x.c∈iV (IA ++ x::IB) y:=List.mem_append_right _ (List.mem_map.2 ⟨x.held,qJ.2 ⟨x,hxM,hxy,rfl⟩,rfl⟩)
 have hcK:∀ c,c∈fG (x.held::L') y.N↔c∈iV (IA ++ x::IB) y:=fun c=>(jQ hL (List.Perm.refl y.N)).mem_iff.symm
 have hlen2:(eB (IA ++ { x with e:=(key,x.e.2) }::IB) y.h).length = (eB (IA ++ x::IB) y.h).length:=by rw [hL3.length_eq,hL2.length_eq];rfl
 have e2:AS.lJ (fun c=>c∈iV (IA ++ x::IB) y) (fun _=>False) 0 (0 + j + j2) S.α β :=
  ((((AS.Sm.refl (α:=S.α)).pL (S:=fun c=>c∈iV (IA ++ x::IB) y) (L:=fun _=>False)).put (f:=7) (v:=key) (c:=x.c) hxc).trans hα.pL).trans (heff.mono (fun c hc=>(hcK c).1 hc) (fun _ h=>h) (Int.le_refl _))
 have hI2:∀ z∈A ++ B,eB (IA ++ { x with e:=(key,x.e.2) }::IB) z.h = eB (IA ++ x::IB) z.h:=fun z hz=>by
  have fS:=h.fS
  rw [List.map_append,List.map_cons] at fS
  obtain ⟨n1,n2,n3⟩:=j4 fS
  have eQ:x.h≠z.h:=fun e=>by
   have e':z.h = y.h:=e.symm.trans hxy
   rcases List.mem_append.1 hz with h | h
   ·exact n2 (List.mem_map.2 ⟨z,h,e'⟩)
   ·exact n3 (List.mem_map.2 ⟨z,h,e'⟩)
  rw [sN IA IB x eQ]
  exact sN IA IB { x with e:=(key,x.e.2) } eQ
 have hcel:∀ c∈iV (IA ++ { x with e:=(key,x.e.2) }::IB) { y with root:=r',N:=N' },c∈iV (IA ++ x::IB) y∨S.α.live c = false:=fun c hc=>.inl ((hcK c).1 (hless c ((jQ hPn (List.Perm.refl N')).mem_iff.2 hc)))
 have u7:=PS.uX (p:=S.hp) (a:=y.h.1.toNat) (v:=(y.k,r',((eB (IA ++ x::IB) y.h).length:Int))) (x:=⟨y.h.2,true,(y.k,y.root,((eB (IA ++ x::IB) y.h).length:Int))⟩) (by
  obtain ⟨j,q1,q2,_⟩:=PS.bH (h.hf y hyM)
  rw [q1,Int.toNat_natCast];exact q2)
 refine ⟨h.m1,h.m2,by show (β.n:Int) = _;rw [e2.n];exact h.an,?_,hβ,h.ho.put _ _,h.io,?_,?_,by rw [u7.2.2];exact h.hm,h.im,?_,h.ill,fun x hx=>?_,h.ig,PS.aIr h.hg1 _ _,h.ig1,h.tm0,?_,fun z hz=>?_,?_,?_,?_,fun z hz=>?_,fun z hz=>?_,fun k r hk=>?_,fun z hz=>?_,?_,h.nx⟩
 ·show β.len = _
  have:=e2.len
  have:=h.al
  simp only [List.length_append,List.length_cons] at this ⊢
  omega
 ·rw [u7.1,u7.2.1,List.length_set,h.hl];simp
 ·have:=h.il
  simp only [List.length_append,List.length_cons] at this ⊢
  exact this
 ·rw [u7.1,List.length_set];exact h.hll
 ·obtain ⟨z,hz,e⟩:=PS.aAs hx
  have:=h.hg z hz
  omega
 ·have:=zM (p:=S.hp) (I':=IA ++ { x with e:=(key,x.e.2) }::IB) (y':={ y with root:=r',N:=N' }) h.fS rfl h.hf hI2
  rw [show (({ y with root:=r',N:=N' }:Hv).h) = y.h from rfl,hlen2] at this
  exact this
 ·rcases hcas z hz with rfl | hz
  ·exact h.jf x hxM
  ·exact h.jf z (hold z hz)
 ·have:=h.fS
  simp only [List.map_append,List.map_cons] at this ⊢
  exact this
 ·have:=h.ind
  simp only [List.map_append,List.map_cons] at this ⊢
  exact this
 ·have:=h.icd
  simp only [List.map_append,List.map_cons] at this ⊢
  exact this
 ·have hzo:∃ z0∈IA ++ x::IB,z0.h = z.h:=by
   rcases hcas z hz with rfl | hz
   ·exact ⟨x,hxM,rfl⟩
   ·exact ⟨z,hold z hz,rfl⟩
  obtain ⟨z0,hz0,e0⟩:=hzo
  obtain ⟨u,hu,e⟩:=h.ih z0 hz0
  rw [e0] at e
  rcases List.mem_append.1 hu with hu | hu
  ·exact ⟨u,by simp [hu],e⟩
  ·rcases List.mem_cons.1 hu with hu | hu
   ·exact ⟨{ y with root:=r',N:=N' },by simp,by rw [←e,hu]⟩
   ·exact ⟨u,by simp [hu],e⟩
 ·rcases hcas z hz with rfl | hz
  ·exact h.at1 x hxM
  ·exact h.at1 z (hold z hz)
 ·obtain ⟨z,hz,e⟩:=h.at2 _ _ hk
  rcases List.mem_append.1 hz with hz | hz
  ·exact ⟨z,by simp [hz],e⟩
  ·rcases List.mem_cons.1 hz with hz | hz
   ·exact ⟨{ x with e:=(key,x.e.2) },by simp,by rw [←e,hz]⟩
   ·exact ⟨z,by simp [hz],e⟩
 ·show fV S.en x.r _ z.r = some z.e
  unfold fV
  rcases hcas z hz with rfl | hz
  ·rw [if_pos rfl]
  ·rw [if_neg (hrne z hz)];exact h.en1 z (hold z hz)
 ·exact h.hs.step (y':={ y with root:=r',N:=N' }) h.fS rfl hI2 (hkh.perm hPn (List.Perm.refl _)) e2 (fun c hc=>.inl hc) (fun c hc=>hc.elim) hcel
theorem aHU {I:List m6} (hf:∀ x∈I,S.ip.find x.r.1 x.r.2 = some ((x.c:Int),x.h.1,x.h.2)) {x:m6} (hx:x∈I) (o:dL):((x.r.1,x.r.2)∈nY S.ip o.1 o.2)↔x.h = o:=by
 have h1:=hf x hx
 unfold nY
 rw [List.mem_filter]
 simp only [h1,decide_eq_true_eq]
 constructor
 ·rintro ⟨_,h2,h3⟩;exact Prod.ext h2 h3
 ·intro e
  refine ⟨?_,by rw [e],by rw [e]⟩
  obtain ⟨j,q1,q2,q3⟩:=PS.bH h1
  refine qP.2 ⟨j,_,q2,rfl,?_⟩
  simp [q1]
theorem aGX {I:List m6} {H:List Hv} (h:dU S I H tm) {y z:Hv} (hy:y∈H) (hz:z∈H) (eQ:z.h≠y.h):z.h.1≠y.h.1:=fun e=>by
 obtain ⟨j1,q1,q2,_⟩:=PS.bH (h.hf z hz)
 obtain ⟨j2,q3,q4,_⟩:=PS.bH (h.hf y hy)
 have hj:j1 = j2:=by omega
 subst hj
 rw [q2] at q4
 have hg:z.h.2 = y.h.2:=by injection q4 with q4;injection q4
 exact eQ (Prod.ext e hg)
theorem dU.mO {I:List m6} {B:List Hv} {y y2:Hv} (h:dU S I (y::y2::B) tm) {β:AS} {r':Int} {N':List Nat} {j:Int}
  (hkh:KH y.k β r' (eB I y.h ++ eB I y2.h) N') (hsub:∀ c∈fG (eB I y.h ++ eB I y2.h) N',c∈iV I y∨c∈iV I y2) (heff:AS.lJ (fun c=>c∈iV I y∨c∈iV I y2) (fun _=>False) 0 j S.α β) (hβ:β.Inv) :
  dU { S with α:=β,hp:=(S.hp.gB z3 y2.h.1.toNat).put y.h.1.toNat (y.k,r',((eB I y.h).length:Int) + (eB I y2.h).length),ip:=reh S.ip (nY S.ip y2.h.1 y2.h.2) y.h.1 y.h.2 } (I.map (uY y2.h y.h)) ({ y with root:=r',N:=N' }::B) tm:=by
 have fS:=h.fS
 rw [List.map_cons,List.map_cons,List.nodup_cons,List.nodup_cons] at fS
 obtain ⟨n1,n2,n3⟩:=fS
 have hy:y∈y::y2::B:=by simp
 have hy2:y2∈y::y2::B:=by simp
 have hB:∀ z∈B,z∈y::y2::B:=fun z hz=>by simp [hz]
 have eQ:y.h≠y2.h:=fun e=>n1 (by rw [e];simp)
 have hz1:∀ z∈B,z.h≠y.h:=fun z hz e=>n1 (by rw [←e];exact List.mem_cons_of_mem _ (List.mem_map.2 ⟨z,hz,rfl⟩))
 have hz2:∀ z∈B,z.h≠y2.h:=fun z hz e=>n2 (by rw [←e];exact List.mem_map.2 ⟨z,hz,rfl⟩)
 have hI1:=aCK eQ I
 have hI2:∀ z∈B,eB (I.map (uY y2.h y.h)) z.h = eB I z.h:=fun z hz=>w8 (hz1 z hz) (hz2 z hz) I
 have hmr:(I.map (uY y2.h y.h)).map (·.r) = I.map (·.r):=by rw [List.map_map];exact List.map_congr_left fun x _=>(aCd _ _ x).1
 have hmc:(I.map (uY y2.h y.h)).map (·.c) = I.map (·.c):=by rw [List.map_map];exact List.map_congr_left fun x _=>(aCd _ _ x).2.1
 have f1:=h.hf y hy
 have f2:=h.hf y2 hy2
 obtain ⟨k2,k21,k22,k23⟩:=PS.bH f2
 have hk2:y2.h.1.toNat = k2:=by rw [k21,Int.toNat_natCast]
 rw [hk2]
 have hgl:=PS.vH (p:=S.hp) z3 k22
 have fg:∀ z∈y::y2::B,z.h≠y2.h→∀ w,S.hp.find z.h.1 z.h.2 = some w→(S.hp.gB z3 k2).find z.h.1 z.h.2 = some w:=fun z hz hzz w hw=>PS.wR z3 k22 _ _ _ (fun e=>aGX h hy2 hz hzz (by rw [e,k21])) hw
 have f1':=fg y hy eQ _ f1
 obtain ⟨p1,p2⟩:=PS.aAy (y.k,r',((eB I y.h).length:Int) + (eB I y2.h).length) f1'
 have u7:=PS.uX (p:=S.hp.gB z3 k2) (a:=y.h.1.toNat) (v:=(y.k,r',((eB I y.h).length:Int) + (eB I y2.h).length)) (x:=⟨y.h.2,true,(y.k,y.root,((eB I y.h).length:Int))⟩) (by
  obtain ⟨j,q1,q2,_⟩:=PS.bH f1'
  rw [q1,Int.toNat_natCast];exact q2)
 refine ⟨h.m1,h.m2,by show (β.n:Int) = _;rw [heff.n];exact h.an,?_,hβ,(h.ho.gB z3 k22 rfl).put _ _,aKT h.io,?_,?_,by rw [u7.2.2,hgl.2.2];exact h.hm,h.im,?_,by rw [aCF];exact h.ill,fun x hx=>?_,fun x hx=>?_,PS.aIr (PS.aJK h.hg1 _ _) _ _,fun x hx ht=>?_,h.tm0,fun z hz=>?_,fun z hz=>?_,?_,?_,?_,fun z hz=>?_,fun z hz=>?_,fun k r hk=>?_,fun z hz=>?_,⟨fun z hz=>?_,fun z hz z' hz' hzz c hc hc'=>?_⟩,h.nx⟩
 ·show β.len = _
  have:=heff.len
  have:=h.al
  rw [List.length_map]
  omega
 ·rw [u7.1,u7.2.1,List.length_set,hgl.1,hgl.2.1,List.length_set]
  have:=h.hl
  simp only [List.length_append,List.length_cons,List.length_nil] at this ⊢
  omega
 ·rw [aCF,List.length_map];exact h.il
 ·rw [u7.1,List.length_set,hgl.1,List.length_set];exact h.hll
 ·obtain ⟨z,hz,e⟩:=PS.aAs hx
  obtain ⟨u,hu,e'⟩:=PS.aC5 hz
  have:=h.hg u hu
  omega
 ·obtain ⟨z,hz,e,_⟩:=aE8 hx
  have:=h.ig z hz
  omega
 ·obtain ⟨z,hz,e,et⟩:=aE8 hx
  have:=h.ig1 z hz (by rw [←et];exact ht)
  omega
 ·rcases List.mem_cons.1 hz with rfl | hz
  ·have hl2:((eB (I.map (uY y2.h y.h)) y.h).length:Int) = ((eB I y.h).length:Int) + (eB I y2.h).length:=by rw [hI1.length_eq,List.length_append];omega
   show PS.find _ y.h.1 y.h.2 = some (y.k,r',((eB (I.map (uY y2.h y.h)) y.h).length:Int))
   rw [hl2];exact p1
  ·rw [hI2 z hz]
   exact p2 _ _ _ (aGX h hy (hB z hz) (hz1 z hz)) (fg z (hB z hz) (hz2 z hz) _ (h.hf z (hB z hz)))
 ·obtain ⟨x,hx,rfl⟩:=List.mem_map.1 hz
  obtain ⟨e1,e2,e3⟩:=aCd y2.h y.h x
  rw [e1,e2]
  show (reh S.ip _ _ _).find _ _ = _
  rw [aDV (h.jf x hx)]
  by_cases e:x.h = y2.h
  ·rw [if_pos ((aHU h.jf hx y2.h).2 e)]
   unfold uY
   rw [if_pos e]
  ·rw [if_neg fun hm=>e ((aHU h.jf hx y2.h).1 hm)]
   unfold uY
   rw [if_neg e]
 ·rw [List.map_cons,List.nodup_cons]
  refine ⟨fun hm=>?_,n3⟩
  obtain ⟨z,hz,e⟩:=List.mem_map.1 hm
  exact hz1 z hz e
 ·rw [hmr];exact h.ind
 ·rw [hmc];exact h.icd
 ·obtain ⟨x,hx,rfl⟩:=List.mem_map.1 hz
  obtain ⟨u,hu,e⟩:=h.ih x hx
  by_cases e2:x.h = y2.h
  ·exact ⟨_,List.mem_cons_self,by unfold uY;rw [if_pos e2]⟩
  ·rcases List.mem_cons.1 hu with hu | hu
   ·refine ⟨_,List.mem_cons_self,?_⟩
    unfold uY
    rw [if_neg e2,←e,hu]
   ·rcases List.mem_cons.1 hu with hu | hu
    ·exact absurd (by rw [←e,hu]) e2
    ·refine ⟨u,List.mem_cons_of_mem _ hu,?_⟩
     unfold uY
     rw [if_neg e2,e]
 ·obtain ⟨x,hx,rfl⟩:=List.mem_map.1 hz
  obtain ⟨e1,e2,e3⟩:=aCd y2.h y.h x
  rw [e1,e2];exact h.at1 x hx
 ·obtain ⟨x,hx,e⟩:=h.at2 _ _ hk
  exact ⟨_,List.mem_map.2 ⟨x,hx,rfl⟩,by rw [(aCd y2.h y.h x).2.1];exact e⟩
 ·obtain ⟨x,hx,rfl⟩:=List.mem_map.1 hz
  obtain ⟨e1,e2,e3⟩:=aCd y2.h y.h x
  rw [e1,e3];exact h.en1 x hx
 ·rcases List.mem_cons.1 hz with rfl | hz
  ·exact hkh.perm hI1.symm (List.Perm.refl _)
  ·rw [hI2 z hz]
   refine (h.hs.kh z (hB z hz)).pL heff (fun c hc hs=>?_) (fun c hc hs=>hs)
   rcases hs with hs | hs
   ·exact h.hs.d1 z (hB z hz) y hy (hz1 z hz) c hc hs
   ·exact h.hs.d1 z (hB z hz) y2 hy2 (hz2 z hz) c hc hs
 ·have hc0:∀ c,c∈iV (I.map (uY y2.h y.h)) { y with root:=r',N:=N' }→c∈iV I y∨c∈iV I y2:=fun c hc=>hsub c ((jQ hI1 (List.Perm.refl N')).mem_iff.1 hc)
  have hcz:∀ z∈B,iV (I.map (uY y2.h y.h)) z = iV I z:=fun z hz=>by unfold iV;rw [hI2 z hz]
  have hno:∀ z∈B,∀ c∈iV I z,¬ (c∈iV I y∨c∈iV I y2):=fun z hz c hc hs=>by
   rcases hs with hs | hs
   ·exact h.hs.d1 z (hB z hz) y hy (hz1 z hz) c hc hs
   ·exact h.hs.d1 z (hB z hz) y2 hy2 (hz2 z hz) c hc hs
  rcases List.mem_cons.1 hz with e0 | hz
  ·rw [e0] at hc hzz
   rcases List.mem_cons.1 hz' with e1 | hz'
   ·exact hzz (by rw [e1])
   ·rw [hcz z' hz'] at hc'
    exact hno z' hz' c hc' (hc0 c hc)
  ·rw [hcz z hz] at hc
   rcases List.mem_cons.1 hz' with e1 | hz'
   ·rw [e1] at hc'
    exact hno z hz c hc (hc0 c hc')
   ·rw [hcz z' hz'] at hc'
    exact h.hs.d1 z (hB z hz) z' (hB z' hz') hzz c hc hc'
theorem dU.make {I:List m6} {H:List Hv} (h:dU S I H tm) {a:Nat} {k:Int} (hk1:1≤k) (hk3:k≤3) (hat:S.hp.at_ = some a) :
  dU { S with hp:=S.hp.take z3 a (k, -1,0) } I (H ++ [⟨((a:Int),S.hp.gen a),k, -1,[]⟩]) (tm + 1)∧eB I ((a:Int),S.hp.gen a) = []:=by
 have g1:=PS.aAR h.hg h.tm0 a
 obtain ⟨t1,t2,t3,t4,t5,t6,t7⟩:=PS.zO h.ho hat z3 (k, -1,0)
 obtain ⟨f1,f2⟩:=PS.zT h.ho hat z3 (k, -1,0) g1.1
 have hno:∀ y∈H,y.h≠((a:Int),S.hp.gen a):=fun y hy e=>by
  have:=h.hf y hy
  rw [e,h.ho.aDl hat] at this;cases this
 have hnil:eB I ((a:Int),S.hp.gen a) = []:=by
  unfold eB
  rw [List.map_eq_nil_iff,List.filter_eq_nil_iff]
  intro x hx e
  obtain ⟨y,hy,e'⟩:=h.ih x hx
  exact hno y hy (by rw [e'];simpa using e)
 refine ⟨⟨h.m1,h.m2,h.an,h.al,h.inv,h.ho.take hat _ _,h.io,?_,h.il,by rw [t4];exact h.hm,h.im,?_,h.ill,fun x hx=>?_,fun x hx=>?_,PS.aIY h.ho h.hg1 hat g1.1 _ _,h.ig1,by have:=h.tm0;omega,fun y hy=>?_,h.jf,?_,h.ind,h.icd,fun x hx=>?_,h.at1,h.at2,h.en1,⟨fun y hy=>?_,fun y hy y' hy' hyy c hc hc'=>?_⟩,?_⟩,hnil⟩
 ·show (S.hp.take z3 a (k, -1,0)).l.length = (S.hp.take z3 a (k, -1,0)).free.length + _
  have:=h.hl
  rw [List.length_append,List.length_singleton]
  omega
 ·show (S.hp.take z3 a (k, -1,0)).l.length≤64
  have:=h.hll
  have:=h.hm
  omega
 ·have:=PS.aDp hx
  have h0:=h.tm0
  rcases this with h1 | h1 | h1
  ·have:=h.hg x h1;omega
  ·omega
  ·omega
 ·have:=h.ig x hx;omega
 ·rcases List.mem_append.1 hy with hy | hy
  ·exact f2 _ _ _ (h.hf y hy)
  ·rw [List.mem_singleton.1 hy,hnil];exact f1
 ·rw [List.map_append,List.nodup_append]
  refine ⟨h.fS,by simp,fun u hu v hv e=>?_⟩
  obtain ⟨y,hy,rfl⟩:=List.mem_map.1 hu
  simp only [List.map_cons,List.map_nil,List.mem_singleton] at hv
  exact hno y hy (e.trans hv)
 ·obtain ⟨y,hy,e⟩:=h.ih x hx
  exact ⟨y,List.mem_append_left _ hy,e⟩
 ·rcases List.mem_append.1 hy with hy | hy
  ·exact h.hs.kh y hy
  ·rw [List.mem_singleton.1 hy,hnil]
   exact KH.nil hk1 hk3
 ·have hcn:∀ c,c ∉ iV I (⟨((a:Int),S.hp.gen a),k, -1,[]⟩:Hv):=fun c hc=>by
   unfold iV at hc
   rw [hnil] at hc
   cases hc
  rcases List.mem_append.1 hy with hy | hy
  ·rcases List.mem_append.1 hy' with hy' | hy'
   ·exact h.hs.d1 y hy y' hy' hyy c hc hc'
   ·rw [List.mem_singleton.1 hy'] at hc'
    exact hcn c hc'
  ·rw [List.mem_singleton.1 hy] at hc
   exact hcn c hc
 ·have:=h.nx
  show 0≤S.next∧S.next≤tm + 1
  omega
theorem dU.aK9 {most:Nat} (h1:1≤most) (h2:most≤300):dU ⟨most,0,AS.new (2 * most),⟨64,[],[]⟩,⟨most,[],[]⟩,fun _=>Option.none,fun _=>Option.none⟩ [] [] 0:=by
 refine ⟨by show (1:Int)≤(most:Int);omega,by show (most:Int)≤300;omega,by show ((2 * most:Nat):Int) = 2 * (most:Int);omega,?_,?_,PS.Ok.nil _,PS.Ok.nil _,rfl,rfl,rfl,rfl,by simp,by show ((0:Nat):Int)≤most;omega,fun x hx=>(by cases hx),fun x hx=>(by cases hx),fun x hx=>(by cases hx),fun x hx=>(by cases hx),Int.le_refl _,fun x hx=>(by cases hx),fun x hx=>(by cases hx),List.nodup_nil,List.nodup_nil,List.nodup_nil,fun x hx=>(by cases hx),fun x hx=>(by cases hx),fun _ _ h=>(by cases h),fun x hx=>(by cases hx),⟨fun x hx=>(by cases hx),fun x hx=>(by cases hx)⟩,Int.le_refl _,Int.le_refl _⟩
 ·show (AS.new (2 * most)).len = 0
  rfl
 ·exact AS.aFq (by omega)
end
end HL
namespace HL
section
variable {w0:World} {F M:Mem}
theorem aA.nX {A P P':cW} (h:aA w0 F M (star A P)) (f:∀ F M,aA w0 F M P→aA w0 F M P'):aA w0 F M (star A P'):=by
 obtain ⟨F',h1,_,back⟩:=h.last
 exact back M P' (f _ _ h1)
theorem aA.dp {X A B D E G:cW} (h:aA w0 F M (star X (star A (star B (star D (star E G)))))):aA w0 F M (star A (star B (star D (star E (star X G))))) :=
 h.dX.nX fun _ _ h=>h.dX.nX fun _ _ h=>h.dX.nX fun _ _ h=>h.dX
theorem aA.up {X A B D E G:cW} (h:aA w0 F M (star A (star B (star D (star E (star X G)))))):aA w0 F M (star X (star A (star B (star D (star E G))))) :=
 (h.nX fun _ _ h=>(h.nX fun _ _ h=>(h.nX fun _ _ h=>h.dX).dX).dX).dX
theorem aA.aLB {A B D E:cW} (h:aA w0 F M (star A (star B (star D E)))):aA w0 F M (star D (star A (star B E))):=(h.nX fun _ _ h=>h.dX).dX
theorem aA.lP {A B D E:cW} (h:aA w0 F M (star D (star A (star B E)))):aA w0 F M (star A (star B (star D E))):=h.dX.nX fun _ _ h=>h.dX
theorem HO.uK {os:vC} {A B D E G:cW} (h:HO w0 F M os (star A (star B (star D (star E G))))):∃ F',aA w0 F' M E∧Mem.le F F'∧∀ M' E',aA w0 F' M' E'→HO w0 F M' os (star A (star B (star D (star E' G)))):=by
 obtain ⟨F1,h1,l1,back1⟩:=h.aK0
 obtain ⟨F2,h2,l2,back2⟩:=h1.comm.last
 exact ⟨F2,h2,Mem.le_trans l1 l2,fun M' E' h'=>back1 _ _ (back2 _ _ h').comm⟩
end
abbrev tQs:TypeId:=95
abbrev aBp:TypeId:=46
abbrev aAB:TypeId:=35
abbrev qV (a t me:Nat) (most next:Int):List Value:=[.int .i64 most,.pointer (some ⟨a,0,none⟩),.pointer (some ⟨t,0,none⟩),.map (some me),.int .i64 next]
abbrev QA (q a t bh bi me:Nat) (S:QS) (Q:cW):cW:=star (wW bh S.hp) (star (qU bi S.ip) (star (aW q (qV a t me S.most S.next) tQs) (star (aF a S.α) Q)))
abbrev lB (why h1 h2 i1 i2 e1 e2 n:Int):List Value:=[.int .i64 why,.int .i64 h1,.int .i64 h2,.int .i64 i1,.int .i64 i2,.int .i64 e1,.int .i64 e2,.int .i64 n]
abbrev m8 (op k h1 h2 o1 o2 i1 i2 key:Int):List Value:=[.int .i64 op,.int .i64 k,.int .i64 h1,.int .i64 h2,.int .i64 o1,.int .i64 o2,.int .i64 i1,.int .i64 i2,.int .i64 key]
theorem dW {a b c d e f g h:Int}:∀ v∈lB a b c d e f g h,bR v = true:=by
 intro v hv
 simp only [lB,List.mem_cons,List.not_mem_nil,or_false] at hv
 rcases hv with rfl | rfl | rfl | rfl | rfl | rfl | rfl | rfl <;> rfl
theorem p5:gE PP aBp 8 = true:=W.g46
theorem aJV:gE PP aAB 9 = true:=W.g35
theorem qK {cs:List Value} {o:Nat} {x y:Value} (h0:cs[o]? = some x) (h1:cs[o + 1]? = some y):∀ j u,([x,y]:List Value)[j]? = some u→cs[o + j]? = some u:=fun j u hj=>by
 match j,hj with
 | 0,hj=>rw [←hj];exact h0
 | 1,hj=>rw [←hj];exact h1
 | j + 2,hj=>simp at hj
def mD (e:cY):Value:=.agg #[.int .i64 e.1,.int .i64 e.2]
section
variable {w0:World} {F M:Mem} {R:VP} {os:vC} {q a t bh bi ma me:Nat} {S:QS} {Q:cW} {I:List m6} {H:List Hv} {tm most next:Int} {oa oe:Obj}
theorem Q0 (o:cN w0 M q (qV a t me most next) tQs):(aJ PP w0).ld 3 ⟨q,0,none⟩ M = some (.int .i64 most):=mQ W.c3 o rfl
theorem Q1 (o:cN w0 M q (qV a t me most next) tQs):(aJ PP w0).ld 89 ⟨q,1,none⟩ M = some (.pointer (some ⟨a,0,none⟩)):=mQ (by kernel_rfl) o rfl
theorem Q2 (o:cN w0 M q (qV a t me most next) tQs):(aJ PP w0).ld 91 ⟨q,2,none⟩ M = some (.pointer (some ⟨t,0,none⟩)):=mQ (by kernel_rfl) o rfl
theorem Q3 (o:cN w0 M q (qV a t me most next) tQs):(aJ PP w0).ld 93 ⟨q,3,none⟩ M = some (.map (some me)):=mQ (by kernel_rfl) o rfl
theorem Q4 (o:cN w0 M q (qV a t me most next) tQs):(aJ PP w0).ld 2 ⟨q,4,none⟩ M = some (.int .i64 next):=mQ W.c2 o rfl
theorem HO.qo (h:HO w0 F M os (QA q a t bh bi me S Q)):cN w0 M q (qV a t me S.most S.next) tQs:=h.h.right.right.aZ
theorem aDq {A:cW} {why:Int} (h:HO w0 F M os A) (hK:∀ M',HO w0 F M' os A→R (.agg (lB why 0 0 0 0 0 0 0).toArray) M'):C PP w0 Id.jC #[.int .i64 why] R M:=by
 apply jC.go
 unfold jC.T aL
 refine jJ h fun b1 M1 _ h1=>?_
 have hbld:(aJ PP w0).pD aBp [(0,.int .i64 why)] = some (.agg (lB why 0 0 0 0 0 0 0).toArray):=by kernel_rfl
 simp only [hbld,aC,a9,aT,aK,aS]
 exact jL p5 (by rfl) dW h1 fun M2 h2=>hK M2 h2
theorem dU.fresh {A B:List Hv} {y:Hv} (h:dU S I (A ++ y::B) tm) {key:Int} {c:Nat} {α1:AS} {j1:Int} (hlen:(I.length:Int) < S.most)
  (hc:S.α.next = some c) (hα1:AS.Sm j1 ((S.α.take.put c 7 key).put c 8 S.next) α1) (hi1:α1.Inv) :
  KH y.k α1 y.root (eB I y.h) y.N∧c ∉ fG (eB I y.h) y.N∧α1.live c = true∧α1.get c 7 = key∧α1.get c 8 = S.next∧α1.next≠none:=by
 have hyM:y∈A ++ y::B:=by simp
 obtain ⟨c1,c2,c3⟩:=AS.kL h.inv hc
 have hcn:c ∉ fG (eB I y.h) y.N:=fun hm=>by
  have:=(h.hs.kh y hyM).live c hm
  rw [c2] at this;cases this
 have e1:AS.lJ (fun x=>x = c) (· = c) 1 (0 + j1) S.α α1:=(((AS.vS (S:=fun x=>x = c) (L:=(· = c)) h.inv hc rfl rfl).put (f:=7) (v:=key) (c:=c) rfl).put (f:=8) (v:=S.next) (c:=c) rfl).trans hα1.pL
 refine ⟨(h.hs.kh y hyM).pL e1 (fun x hx e=>hcn (e▸hx)) (fun x hx e=>hcn (e▸hx)),hcn,?_,?_,?_,fun e=>?_⟩
 ·rw [hα1.live]
  show S.α.take.live c = true
  exact (AS.xS h.inv hc).2
 ·rw [hα1.get]
  simp [AS.put]
 ·rw [hα1.get]
  simp [AS.put]
 ·have h1:=AS.aB8 hi1 e
  have:=e1.len
  have:=e1.n
  have:=h.al
  have:=h.an
  omega
theorem dU.u7 (h:dU S I H tm):S.hp.l.length≤10000∧S.hp.free.length≤10000:=by
 have:=h.hll
 have:=h.hl
 omega
theorem dU.ipl (h:dU S I H tm):S.ip.l.length≤10000∧S.ip.free.length≤10000∧S.ip.free.length≤S.ip.l.length:=by
 have:=h.ill
 have:=h.il
 have:=h.m2
 omega
theorem aEB {A B:List Hv} {y:Hv} {op k p1 p2 s1 s2 key:Int} (oT:cN w0 F t (wT bh bi ma) wX) (hv:dU S I (A ++ y::B) tm) (htm:tm≤900000) (hlen:(I.length:Int) < S.most)
  (hfa:dI (Value.int .i64) bV S.at_ oa) (hfe:dI bV mD S.en oe) (h:HO w0 F M ((ma,oa)::(me,oe)::os) (QA q a t bh bi me S Q))
  (hK:∀ M' S' oa' oe' i y',S.ip.at_ = some i→dI (Value.int .i64) bV S'.at_ oa'→dI bV mD S'.en oe'→HO w0 F M' ((ma,oa')::(me,oe')::os) (QA q a t bh bi me S' Q) →
   y'.h = y.h→y'.k = y.k→(∃ c,dU S' (I ++ [⟨((i:Int),S.ip.gen i),y.h,c,(key,S.next)⟩]) (A ++ y'::B) (tm + 1))→S'.most = S.most→S'.next = S.next + 1→S'.ip.pl = S.ip.pl.take i 0→(∃ Sx Lx d,AS.lJ Sx Lx d (3 + dK (I.length + 1)) S.α S'.α) →
   R (.agg (lB 0 0 0 i (S.ip.gen i) key S.next 0).toArray) M') :
  C PP w0 Id.j9 #[.pointer (some ⟨q,0,none⟩),.agg (m8 op k y.h.1 y.h.2 p1 p2 s1 s2 key).toArray] R M:=by
 have hyM:y∈A ++ y::B:=by simp
 obtain ⟨hl1,hl2⟩:=hv.u7
 obtain ⟨hl3,hl4,hl5⟩:=hv.ipl
 have hfy:=hv.hf y hyM
 apply j9.go
 unfold j9.T aL
 refine rT h fun b1 F1 M1 l1 lm1 o1 h1=>?_
 have oT1:=oT.le l1
 refine jJ h1 fun b3 M2 lm2 h2'=>?_
 have h2:=h2'.aY aA.dp
 have hR1:∀ {M':Mem} {e:TypeId},cN w0 M' b1 (m8 op k y.h.1 y.h.2 p1 p2 s1 s2 key) e→(aJ PP w0).ld 33 ⟨b1,2,none⟩ M' = some (.agg #[.int .i64 y.h.1,.int .i64 y.h.2]):=fun o=>kQ (vs:=[.int .i64 y.h.1,.int .i64 y.h.2]) bA o (qK rfl rfl)
 simp only [aX,add_eq,Nat.zero_add,Q2 h2.qo,aC,bK,hR1 (o1.le h2.fr),a9,aT,aK,aS]
 refine p9 oT1 h2 (by omega) hfy fun M3 h3=>?_
 simp only [cA,aT,aK,aS]
 rw [bX,if_pos rfl]
 simp only [aX,add_eq,Nat.zero_add,Q2 h3.qo,Q0 h3.qo,aC,bK,aK]
 refine aF6 oT1 (h3.aY aA.dX) (by omega) hl5 ?_
 simp only [aK,Q0 h3.qo,true_and]
 have hil:=hv.il
 have him:=hv.m2
 rw [eK,if_neg (by omega)]
 have hbld:(aJ PP w0).pD 44 [(0,.int .i64 key),(1,.int .i64 S.next)] = some (.agg #[.int .i64 key,.int .i64 S.next]):=by kernel_rfl
 simp only [aX,add_eq,Nat.zero_add,mQ W.c2 (o1.le h3.fr) (o:=8) rfl,Q4 h3.qo,aC,aK,hbld,a9,aT,aS]
 refine jJ h3 fun b5 M4 lm4 h4=>?_
 refine ⟨mQ W.c2 (o1.le h4.fr) (o:=8) rfl,Q4 h4.h.right.right.right.aZ,?_⟩
 refine wA aCC (by rfl) iO h4 fun F5 M5 l5 o5 h5=>?_
 have oT5:=oT1.le l5
 have o15:=o1.le l5
 simp only [aX,add_eq,Nat.zero_add,Q1 h5.qo,mQ W.c2 (o5.le h5.fr) (o:=0) rfl,mQ W.c2 (o5.le h5.fr) (o:=1) rfl,aC,bK,aK]
 obtain ⟨F6,hA,l6,back6⟩:=h5.uK
 refine aHH hA (fun e0=>absurd e0 (hv.next hlen)) fun c hc M6 α1 hB hs1=>?_
 have hi1:=hB.inv
 obtain ⟨f1,f2,f3,f4,f5,f6⟩:=hv.fresh hlen hc hs1 hi1
 have h6:=back6 M6 _ hB
 simp only [cA,aT,aK,bT,aS,aX,add_eq,Nat.zero_add,Q1 h6.h.right.right.aZ,aC,bK]
 obtain ⟨F7,hA7,l7,back7⟩:=h6.uK
 have hLl:=tT I y.h
 refine aHA (e:=(key,S.next)) hA7 f1 f3 f2 f4 f5 (by omega) f6 fun n hn hnl M7 β r' N' hC hkh hsub heff=>?_
 have hβ:=hC.inv
 have h7:=back7 M7 _ hC
 obtain ⟨i,hat⟩:=hv.aLX hlen
 obtain ⟨hatc,hv'⟩:=hv.insert hc hs1 hi1 hn hnl hβ hkh hsub heff hat hlen
 have hg1:=PS.aAR hv.ig hv.tm0 i
 have hroom:((S.ip.l.length - S.ip.free.length:Nat):Int)≠S.ip.most:=by rw [hv.im];omega
 have hgi:∀ x∈S.ip.l,0≤x.g∧x.g≤1000000:=fun x hx=>by have:=hv.ig x hx;omega
 have hgm:=tT I y.h
 have hw1:qB (((eB I y.h).length:Int) + 1) = ((eB I y.h).length:Int) + 1:=bC (by omega)
 have hnx:=hv.nx
 have hw2:qB (S.next + 1) = S.next + 1:=bC (by omega)
 have e0:AS.lJ (fun _=>True) (fun _=>True) 1 (0 + 3) S.α α1:=(((AS.vS (S:=fun _=>True) (L:=fun _=>True) hv.inv hc trivial trivial).put (f:=7) (v:=key) (c:=c) trivial).put (f:=8) (v:=S.next) (c:=c) trivial).trans hs1.pL
 have e1:AS.lJ (fun _=>True) (fun _=>True) (1 + 1) (3 + dK (I.length + 1)) S.α β:=by
  have hm:dK ((eB I y.h).length + 1)≤dK (I.length + 1):=pO (by omega)
  exact (e0.trans (heff.mono (fun _ _=>trivial) (fun _ _=>trivial) hm)).mono (fun _ h=>h) (fun _ h=>h) (by omega)
 simp only [cA,aT,aK,bT,aS,aX,add_eq,Nat.zero_add,Q2 h7.h.right.right.aZ,hR1 (o15.le h7.fr),aC,bK,a9]
 refine ⟨?_,?_⟩
 rotate_left
 refine jJ h7 fun b8 M8 l8 h8=>?_
 refine ⟨Q2 h8.h.right.right.right.aZ,hR1 (o15.le h8.fr),?_⟩
 refine aE0 oT5 (h8.aY aA.dp) (by omega) hfy hv.io hl3 hl4 hl5 hgi hat hroom hfa hatc fun M9 oa' hfa' h9'=>?_
 have h9:=h9'.aY aA.up
 simp only [cA,aT,a9,aK,aS]
 refine wA bA (by rfl) iO h9 fun F10 M10 l10 o10 h10=>?_
 rotate_left
 refine aE0 oT5 h7 (by omega) hfy hv.io hl3 hl4 hl5 hgi hat hroom hfa hatc fun M9 oa' hfa' h9=>?_
 simp only [cA,aT,a9,aK,aS]
 refine kE bA (by rfl) iO h9 fun b8 F10 M10 l10 o10 h10=>?_
 all_goals
  have oT10:=oT5.le l10
  have o110:=o15.le l10
  have q10:=h10.h.right.right.aZ
  simp only [aX,add_eq,Nat.zero_add,Q2 q10,hR1 (o110.le h10.fr),aC,bK,a9,aT,aK,aS]
  refine vU oT10 h10 (by omega) hfy fun M11 h11=>?_
  have q11:=h11.h.right.right.aZ
  rw [hw1] at h11
  simp only [aK,aX,add_eq,Nat.zero_add,Q3 q11,fF bA (o10.le h11.fr),fF aCC ((o5.le l10).le h11.fr),aC,a9,aT,aK,aS]
  have h12:=h11.perm (List.Perm.swap _ _ _)
  obtain ⟨g1,g2⟩:=h12.get List.mem_cons_self
  refine aGA (kf:=bV) (vf:=mD) (k:=((i:Int),S.ip.gen i)) (v:=(key,S.next)) Tryz.underlying93 oR g1 g2 hfe fun oe' hfe'=>?_
  have h13:=(h12.set (o':=oe')).perm (List.Perm.swap _ _ _)
  generalize Mem.set M11 me _ = M13 at h13 ⊢
  have q13:=h13.h.right.right.aZ
  simp only [aX,add_eq,Nat.zero_add,Q4 q13,aC,aK,hw2]
  refine aCi (o:=4) W.c2 (by simp) rfl rfl (h13.aY aA.aLB) fun M14 h14=>?_
  change HO w0 F10 M14 _ (star (aW q (qV a t me S.most (S.next + 1)) tQs) _) at h14
  have h15:=h14.aY aA.lP
  have hbl:(aJ PP w0).pD aBp [(2,.agg #[.int .i64 (i:Int),.int .i64 (S.ip.gen i)]),(3,.agg #[.int .i64 key,.int .i64 S.next])] = some (.agg (lB 0 0 0 i (S.ip.gen i) key S.next 0).toArray):=by kernel_rfl
  simp only [fF bA (o10.le h15.fr),fF aCC ((o5.le l10).le h15.fr),aC,a9,aT,aK,aS,hbl]
  refine jL p5 (by rfl) dW (h15.aY aA.up) fun M16 h16=>?_
  exact hK M16 ⟨S.most,S.next + 1,β,S.hp.put y.h.1.toNat (y.k,r',((eB I y.h).length:Int) + 1),S.ip.take z3 i ((c:Int),y.h.1,y.h.2),fV S.at_ (c:Int) (some ((i:Int),S.ip.gen i)),fV S.en ((i:Int),S.ip.gen i) (some (key,S.next))⟩ oa' oe' i { y with root:=r',N:=N' } hat hfa' hfe' (((h16.fQ l10).fQ l5).fQ l1) rfl rfl ⟨c,hv'⟩ rfl rfl (PS.aFD _ _ _ hat hv.io.lt) ⟨_,_,_,e1⟩
end
end HL
namespace HL
section
variable {w0:World} {F M:Mem} {R:VP} {os:vC} {q a t bh bi ma me:Nat} {S:QS} {Q:cW} {I:List m6} {H:List Hv} {tm most next:Int} {oa oe:Obj}
theorem lkE {A:cW} {en:dL→Option cY} {r:dL} {e:cY} (h:HO w0 F M os A) (hm:(me,oe)∈os) (hfe:dI bV mD en oe) (hen:en r = some e) :
  (aJ PP w0).lk 93 (.map (some me)) (.agg #[.int .i64 r.1,.int .i64 r.2]) false M = some (.agg #[.int .i64 e.1,.int .i64 e.2]):=by
 obtain ⟨inf,hi,hz,_⟩:=W.e44
 obtain ⟨g1,g2⟩:=h.get hm
 have hlk:=(lkF (k:=r) Tryz.underlying93 oR hi hz g1 g2 hfe).1
 rw [hen] at hlk
 exact hlk
theorem aDu {r:dL} {v:V3} {e:cY} (oT:cN w0 F t (wT bh bi ma) wX) (hb:S.ip.l.length≤10000) (hfb:S.ip.free.length≤10000) (hfa:dI (Value.int .i64) bV S.at_ oa) (hfe:dI bV mD S.en oe) (hw:S.ip.find r.1 r.2 = some v) (hen:S.en r = some e)
  (h:HO w0 F M ((ma,oa)::(me,oe)::os) (QA q a t bh bi me S Q))
  (hK:∀ M' oa' oe' γ,dI (Value.int .i64) bV (fV S.at_ v.1 none) oa'→dI bV mD (fV S.en r none) oe'→AS.Sm 1 (S.α.vF v.1) γ→γ.Inv →
   HO w0 F M' ((ma,oa')::(me,oe')::os) (QA q a t bh bi me ⟨S.most,S.next,γ,S.hp,S.ip.gB z3 r.1.toNat,fV S.at_ v.1 none,fV S.en r none⟩ Q)→R (mD e) M') :
  C PP w0 Id.oF #[.pointer (some ⟨q,0,none⟩),.agg #[.int .i64 r.1,.int .i64 r.2]] R M:=by
 apply oF.go
 unfold oF.T aL
 refine rT h fun b1 F1 M1 l1 lm1 o1 h1=>?_
 have oT1:=oT.le l1
 refine jJ h1 fun b3 M2 lm2 h2'=>?_
 have h2:=h2'.aY aA.dp
 simp only [aX,add_eq,Nat.zero_add,Q2 h2.qo,aC,bK,fF bA (o1.le h2.fr),a9,aT,aK,aS]
 refine aH7 oT1 (h2.aY aA.dX) hb hfb hfa hw fun M3 oa' hfa' h3'=>?_
 have h3:=h3'.aY aA.dX
 simp only [cA,aT,aK,aS,aX,add_eq,Nat.zero_add,Q1 h3.h.right.right.aZ,aC,bK]
 obtain ⟨F4,hA,l4,back4⟩:=h3.uK
 refine aFs hA fun M4 hB=>?_
 have hi4:=hB.inv
 have h4:=back4 M4 _ hB
 simp only [bT,Q3 h4.h.right.right.aZ,fF bA (o1.le h4.fr),aC,a9,aT,aK,aS,lkE (me:=me) h4 (by simp) hfe hen]
 refine jJ h4 fun b5 M5 lm5 h5=>?_
 refine ⟨Q3 h5.h.right.right.right.aZ,fF bA (o1.le h5.fr),lkE h5 (by simp) hfe hen,?_⟩
 refine wA aCC (by rfl) iO h5 fun F6 M6 l6 o6 h6=>?_
 simp only [Q3 h6.h.right.right.aZ,fF bA ((o1.le l6).le h6.fr),aC,a9,aT,aK,aS]
 have h6p:=h6.perm (List.Perm.swap _ _ _)
 obtain ⟨g1,g2⟩:=h6p.get List.mem_cons_self
 refine aH9 (k:=r) rfl Tryz.underlying93 oR g1 g2 hfe fun oe' hfe'=>?_
 have h7:=(h6p.set (o':=oe')).perm (List.Perm.swap _ _ _)
 generalize Mem.set M6 me _ = M7 at h7 ⊢
 simp only [fF aCC (o6.le h7.fr),aC,a9,aT,aK,aS]
 refine jL aCC (by rfl) iO (h7.aY aA.up) fun M8 h8=>?_
 exact hK M8 oa' oe' _ hfa' hfe' AS.aN hi4 ((h8.fQ l6).fQ l1)
end
end HL
namespace HL
section
variable {w0:World} {F M:Mem} {R:VP} {os:vC} {q a t bh bi ma me:Nat} {S:QS} {Q:cW} {I:List m6} {H:List Hv} {tm most next:Int} {oa oe:Obj}
theorem aEj {IA IB:List m6} {x:m6} {A B:List Hv} {y:Hv} (oT:cN w0 F t (wT bh bi ma) wX) (hv:dU S (IA ++ x::IB) (A ++ y::B) tm) (hxy:x.h = y.h)
  (hfa:dI (Value.int .i64) bV S.at_ oa) (hfe:dI bV mD S.en oe) (h:HO w0 F M ((ma,oa)::(me,oe)::os) (QA q a t bh bi me S Q))
  (hK:∀ M' S' oa' oe' y',dI (Value.int .i64) bV S'.at_ oa'→dI bV mD S'.en oe'→HO w0 F M' ((ma,oa')::(me,oe')::os) (QA q a t bh bi me S' Q) →
   y'.h = y.h→y'.k = y.k→dU S' (IA ++ IB) (A ++ y'::B) (tm + 1)→S'.most = S.most→S'.next = S.next→S'.ip.pl = S.ip.pl.gB x.r.1.toNat→(∃ Sx Lx d,AS.lJ Sx Lx d (dK (IA ++ x::IB).length + 1) S.α S'.α) →
   R (.agg (lB 0 0 0 0 0 x.e.1 x.e.2 0).toArray) M') :
  C PP w0 Id.kS #[.pointer (some ⟨q,0,none⟩),.agg #[.int .i64 x.r.1,.int .i64 x.r.2]] R M:=by
 have hyM:y∈A ++ y::B:=by simp
 have hxM:x∈IA ++ x::IB:=by simp
 obtain ⟨hl1,hl2⟩:=hv.u7
 obtain ⟨hl3,hl4,hl5⟩:=hv.ipl
 have hfy:=hv.hf y hyM
 have hjx:=hv.jf x hxM
 apply kS.go
 unfold kS.T aL
 refine rT h fun b1 F1 M1 l1 lm1 o1 h1=>?_
 have oT1:=oT.le l1
 refine jJ h1 fun b3 M2 lm2 h2'=>?_
 have h2:=h2'.aY aA.dp
 simp only [aX,add_eq,Nat.zero_add,Q2 h2.qo,aC,bK,fF bA (o1.le h2.fr),a9,aT,aK,aS]
 refine aDG oT1 (h2.aY aA.dX) (by omega) hjx fun M3 h3'=>?_
 have h3:=h3'.aY aA.dX
 simp only [cA,aT,aK,aS]
 rw [bX,if_pos rfl]
 simp only [aX,add_eq,Nat.zero_add,Q2 h3.qo,aC,bK,fF bA (o1.le h3.fr),a9,aT,aK,aS]
 have hP:(eB (IA ++ x::IB) y.h).Perm ((x.c,x.e)::eB (IA ++ IB) y.h):=by rw [←hxy];exact zB IA IB x
 have hlen:=hv.len
 have hm2:=hv.m2
 have hgm:=tT (IA ++ x::IB) y.h
 have hPl:=hP.length_eq
 rw [List.length_cons] at hPl
 have hw1:qB (((eB (IA ++ x::IB) y.h).length:Int) - 1) = ((eB (IA ++ x::IB) y.h).length:Int) - 1:=bC (by omega)
 have hkh0:=(hv.hs.kh y hyM).perm hP (List.Perm.refl _)
 have hfy':S.hp.find x.h.1 x.h.2 = some (y.k,y.root,((eB (IA ++ x::IB) y.h).length:Int)):=by rw [hxy];exact hfy
 refine ⟨?_,?_⟩
 rotate_left
 refine jJ h3 fun b4 M4 lm4 h4=>?_
 refine ⟨Q2 h4.h.right.right.right.aZ,fF bA (o1.le h4.fr),?_⟩
 refine aCX oT1 ((h4.aY aA.dX).aY fun h=>(h.nX fun _ _ h=>h.dX).dX) (by omega) hjx fun M5 h5=>?_
 simp only [cA,aT,a9,aK,aS]
 refine wA bA (by rfl) iO (h5.aY fun h=>(h.dX.nX fun _ _ h=>h.dX).dX) fun F6 M6 l6 o6 h6=>?_
 rotate_left
 refine aCX oT1 (h3.aY aA.dX) (by omega) hjx fun M5 h5=>?_
 simp only [cA,aT,a9,aK,aS]
 refine kE bA (by rfl) iO (h5.aY aA.dX) fun b4 F6 M6 l6 o6 h6=>?_
 all_goals
  have oT6:=oT1.le l6
  have o16:=o1.le l6
  simp only [aX,add_eq,Nat.zero_add,Q2 h6.h.right.right.aZ,aC,bK,fF bA (o6.le h6.fr),a9,aT,aK,aS]
  refine p9 oT6 h6 (by omega) hfy' fun M7 h7=>?_
  simp only [cA,aT,aK,aS,aX,add_eq,Nat.zero_add,Q2 h7.h.right.right.aZ,Q1 h7.h.right.right.aZ,aC,bK,fF bA (o6.le h7.fr),a9]
  obtain ⟨F8,hA,l8,back8⟩:=h7.uK
  refine aJC hA hkh0 (by omega) fun n hn M8 β r' N' hB hkh hless hxL heff=>?_
  have hβ:=hB.inv
  have h8:=back8 M8 _ hB
  simp only [aK]
  refine ⟨Q2 h8.h.right.right.aZ,fF bA (o6.le h8.fr),?_⟩
  refine vU oT6 h8 (by omega) hfy' fun M9 h9=>?_
  rw [hw1] at h9
  simp only [aK,fF bA (o16.le h9.fr),aC,a9,aT,aS]
  have hcK:∀ c,c∈fG ((x.c,x.e)::eB (IA ++ IB) y.h) y.N↔c∈iV (IA ++ x::IB) y:=fun c=>(jQ hP (List.Perm.refl y.N)).mem_iff.symm
  refine aDu (S:=⟨S.most,S.next,β,S.hp.put x.h.1.toNat (y.k,r',((eB (IA ++ x::IB) y.h).length:Int) - 1),S.ip,S.at_,S.en⟩) (r:=x.r) (e:=x.e) oT6 hl3 hl4 hfa hfe hjx (hv.en1 x hxM) h9 fun M10 oa' oe' γ hfa' hfe' hs hγ h10=>?_
  have e1:AS.lJ (fun c=>c∈iV (IA ++ x::IB) y) (· = n) (-1) (dK ((eB (IA ++ IB) y.h).length + 1)) S.α β:=heff.mono (fun c hc=>(hcK c).1 hc) (fun _ h=>h) (Int.le_refl _)
  have hv':=hv.remove hxy hP hkh (fun c hc=>(hcK c).1 (hless c hc)) hxL hn e1 hβ hs hγ
  have hbl:(aJ PP w0).pD aBp [(3,.agg #[.int .i64 x.e.1,.int .i64 x.e.2])] = some (.agg (lB 0 0 0 0 0 x.e.1 x.e.2 0).toArray):=by kernel_rfl
  simp only [mD,a9,aT,aK,aS,hbl,aC]
  refine jL p5 (by rfl) dW (h10.aY aA.up) fun M11 h11=>?_
  obtain ⟨ka,ka1,ka2,ka3⟩:=PS.bH hjx
  have hxl:β.live x.c = true:=by
   have hxn:x.c≠n:=fun e=>by
    have hyn:=hkh0.nd
    exact (List.nodup_append.1 hyn).2.2 n hn x.c (List.mem_map.2 ⟨(x.c,x.e),List.mem_cons_self,rfl⟩) e.symm
   rw [heff.live _ hxn];exact hv.yB hxM
  have hgv:β.vF (x.c:Int) = β.kU x.c:=AS.uL hxl
  have hm:dK ((eB (IA ++ IB) y.h).length + 1)≤dK (IA ++ x::IB).length:=pO (by omega)
  have e2:AS.lJ (fun _=>True) (fun _=>True) (-1 + -1 + 0) (dK (IA ++ x::IB).length + 0 + 1) S.α γ :=
   ((e1.mono (fun _ _=>trivial) (fun c hc=>trivial) hm).trans (AS.pR hβ hxl trivial)).trans (by rw [←hgv];exact hs.pL)
  refine hK M11 _ oa' oe' { y with root:=r',N:=N' } hfa' hfe' ((h11.fQ l6).fQ l1) rfl rfl (by rw [hxy];exact hv') rfl rfl (PS.aCn _ _ ?_) ⟨_,_,_,e2.mono (fun _ h=>h) (fun _ h=>h) (by omega)⟩
  rw [ka1,Int.toNat_natCast]
  exact (List.getElem?_eq_some_iff.1 ka2).1
end
end HL
namespace HL
section
variable {w0:World} {F M:Mem} {R:VP} {os:vC} {q a t bh bi ma me:Nat} {S:QS} {Q:cW} {I:List m6} {H:List Hv} {tm most next:Int} {oa oe:Obj}
theorem aGe {A B:List Hv} {y:Hv} {out:Bool} (oT:cN w0 F t (wT bh bi ma) wX) (hv:dU S I (A ++ y::B) tm) (hno:eB I y.h = [])
  (h:HO w0 F M os (QA q a t bh bi me S Q))
  (hK:∀ M',HO w0 F M' os (QA q a t bh bi me S Q)→R (.agg (lB 27 0 0 0 0 0 0 0).toArray) M') :
  C PP w0 Id.mI #[.pointer (some ⟨q,0,none⟩),.agg #[.int .i64 y.h.1,.int .i64 y.h.2],.bool out] R M:=by
 have hyM:y∈A ++ y::B:=by simp
 obtain ⟨hl1,hl2⟩:=hv.u7
 have hfy:=hv.hf y hyM
 rw [hno] at hfy
 apply mI.go
 unfold mI.T aL
 refine rT h fun b1 F1 M1 l1 lm1 o1 h1=>?_
 have oT1:=oT.le l1
 refine jJ h1 fun b3 M2 lm2 h2'=>?_
 have h2:=h2'.aY aA.dp
 simp only [aX,add_eq,Nat.zero_add,Q2 h2.qo,aC,bK,fF bA (o1.le h2.fr),a9,aT,aK,aS]
 refine p9 oT1 h2 (by omega) hfy fun M3 h3=>?_
 simp only [cA,aT,aK,aS]
 rw [bX,if_pos rfl,fB,if_pos (show (([]:List cC).length:Int) = 0 from rfl)]
 refine aDq h3 fun M4 h4=>?_
 simp only [a9,aT,aK,aS]
 exact jL p5 (by rfl) dW (h4.aY aA.up) fun M5 h5=>hK M5 (h5.fQ l1)
theorem aGS {A B:List Hv} {y:Hv} (oT:cN w0 F t (wT bh bi ma) wX) (hv:dU S I (A ++ y::B) tm) (eQ:eB I y.h≠[])
  (hfa:dI (Value.int .i64) bV S.at_ oa) (hfe:dI bV mD S.en oe) (h:HO w0 F M ((ma,oa)::(me,oe)::os) (QA q a t bh bi me S Q))
  (hK:∀ M' β x,x∈I→x.h = y.h→(∀ z∈I,z.h = y.h→z.c≠x.c→Bf x.held z.held)→AS.Sm (dK I.length) S.α β→β.Inv→HO w0 F M' ((ma,oa)::(me,oe)::os) (QA q a t bh bi me { S with α:=β } Q)→R (.agg (lB 0 0 0 x.r.1 x.r.2 x.e.1 x.e.2 0).toArray) M') :
  C PP w0 Id.mI #[.pointer (some ⟨q,0,none⟩),.agg #[.int .i64 y.h.1,.int .i64 y.h.2],.bool false] R M:=by
 have hyM:y∈A ++ y::B:=by simp
 obtain ⟨hl1,hl2⟩:=hv.u7
 have hfy:=hv.hf y hyM
 have hgm:=tT I y.h
 have hpos:((eB I y.h).length:Int)≠0:=fun e=>eQ (List.eq_nil_of_length_eq_zero (by omega))
 apply mI.go
 unfold mI.T aL
 refine rT h fun b1 F1 M1 l1 lm1 o1 h1=>?_
 have oT1:=oT.le l1
 refine jJ h1 fun b3 M2 lm2 h2'=>?_
 have h2:=h2'.aY aA.dp
 simp only [aX,add_eq,Nat.zero_add,Q2 h2.qo,aC,bK,fF bA (o1.le h2.fr),a9,aT,aK,aS]
 refine p9 oT1 h2 (by omega) hfy fun M3 h3=>?_
 simp only [cA,aT,aK,aS]
 rw [bX,if_pos rfl,fB,if_neg hpos,Bool.not_false,dY]
 simp only [aX,add_eq,Nat.zero_add,Q2 h3.qo,Q1 h3.qo,aC,bK]
 have hfin:∀ (x:cC),x∈eB I y.h→(∀ z∈eB I y.h,z.1≠x.1→Bf x z)→∃ u∈I,u.h = y.h∧u.held = x∧S.at_ (x.1:Int) = some u.r∧(∀ z∈I,z.h = y.h→z.c≠u.c→Bf u.held z.held):=by
  intro x hx hb
  obtain ⟨u,hu,e1,e2⟩:=qJ.1 hx
  refine ⟨u,hu,e1,e2,by rw [←e2];exact hv.at1 u hu,fun z hz ez hc=>?_⟩
  rw [e2]
  exact hb z.held (qJ.2 ⟨z,hz,ez,rfl⟩) (by rw [←e2];exact hc)
 refine ⟨?_,?_⟩
 rotate_left
 refine jJ h3 fun b4 M4 lm4 h4=>?_
 refine ⟨Q2 h4.h.right.right.right.aZ,Q1 h4.h.right.right.right.aZ,?_⟩
 obtain ⟨F5,hA,l5,back5⟩:=(h4.aY aA.dp).uK
 refine aFB hA (hv.hs.kh y hyM) eQ fun x hx hb M5 β hB hs=>?_
 have hβ:=hB.inv
 obtain ⟨u,hu,hu1,hu2,hu3,hu4⟩:=hfin x hx hb
 have h5:=(back5 M5 _ hB).aY aA.up
 rw [aK]
 refine ⟨Q2 h5.h.right.right.right.aZ,?_⟩
 refine aCP oT1 h5 List.mem_cons_self hfa hu3 fun M6 h6=>?_
 simp only [cA,aT,a9,aK,bT,aS]
 refine wA bA (by rfl) iO h6 fun F7 M7 l7 o7 h7=>?_
 rotate_left
 obtain ⟨F5,hA,l5,back5⟩:=h3.uK
 refine aFB hA (hv.hs.kh y hyM) eQ fun x hx hb M5 β hB hs=>?_
 have hβ:=hB.inv
 obtain ⟨u,hu,hu1,hu2,hu3,hu4⟩:=hfin x hx hb
 have h5:=back5 M5 _ hB
 rw [aK]
 refine ⟨Q2 h5.h.right.right.aZ,?_⟩
 refine ⟨?_,?_⟩
 rotate_left
 refine jJ h5 fun b4 M6' lm6 h6'=>?_
 refine ⟨Q2 h6'.h.right.right.right.aZ,?_⟩
 refine aCP oT1 h6' List.mem_cons_self hfa hu3 fun M6 h6=>?_
 simp only [cA,aT,a9,aK,bT,aS]
 refine wA bA (by rfl) iO h6 fun F7 M7 l7 o7 h7=>?_
 rotate_left 2
 refine aCP oT1 h5 List.mem_cons_self hfa hu3 fun M6 h6=>?_
 simp only [cA,aT,a9,aK,bT,aS]
 refine kE bA (by rfl) iO h6 fun b4 F7 M7 l7 o7 h7=>?_
 all_goals
  have hbl:(aJ PP w0).pD aBp [(2,.agg #[.int .i64 u.r.1,.int .i64 u.r.2]),(3,.agg #[.int .i64 u.e.1,.int .i64 u.e.2])] = some (.agg (lB 0 0 0 u.r.1 u.r.2 u.e.1 u.e.2 0).toArray):=by kernel_rfl
  simp only [aX,add_eq,Nat.zero_add,Q3 h7.h.right.right.aZ,fF bA (o7.le h7.fr),aC,a9,aT,aK,aS,lkE (me:=me) h7 (by simp) hfe (hv.en1 u hu),hbl]
  refine jL p5 (by rfl) dW (h7.aY aA.up) fun M8 h8=>?_
  exact hK M8 β u hu hu1 hu4 (hs.mono (pO hgm)) hβ ((h8.fQ l7).fQ l1)
theorem aG1 {A B:List Hv} {y:Hv} (oT:cN w0 F t (wT bh bi ma) wX) (hv:dU S I (A ++ y::B) tm) (eQ:eB I y.h≠[])
  (hfa:dI (Value.int .i64) bV S.at_ oa) (hfe:dI bV mD S.en oe) (h:HO w0 F M ((ma,oa)::(me,oe)::os) (QA q a t bh bi me S Q))
  (hK:∀ M' S' oa' oe' y' IA x IB,I = IA ++ x::IB→x.h = y.h→(∀ z∈I,z.h = y.h→z.c≠x.c→Bf x.held z.held)→dI (Value.int .i64) bV S'.at_ oa'→dI bV mD S'.en oe'→HO w0 F M' ((ma,oa')::(me,oe')::os) (QA q a t bh bi me S' Q) →
   y'.h = y.h→y'.k = y.k→dU S' (IA ++ IB) (A ++ y'::B) (tm + 1)→S'.most = S.most→S'.next = S.next→S'.ip.pl = S.ip.pl.gB x.r.1.toNat→(∃ Sx Lx d,AS.lJ Sx Lx d (dK I.length + 1) S.α S'.α) →
   R (.agg (lB 0 0 0 x.r.1 x.r.2 x.e.1 x.e.2 0).toArray) M') :
  C PP w0 Id.mI #[.pointer (some ⟨q,0,none⟩),.agg #[.int .i64 y.h.1,.int .i64 y.h.2],.bool true] R M:=by
 have hyM:y∈A ++ y::B:=by simp
 obtain ⟨hl1,hl2⟩:=hv.u7
 obtain ⟨hl3,hl4,hl5⟩:=hv.ipl
 have hfy:=hv.hf y hyM
 have hgm:=tT I y.h
 have hpos:((eB I y.h).length:Int)≠0:=fun e=>eQ (List.eq_nil_of_length_eq_zero (by omega))
 have hlen:=hv.len
 have hm2:=hv.m2
 have hw1:qB (((eB I y.h).length:Int) - 1) = ((eB I y.h).length:Int) - 1:=bC (by omega)
 apply mI.go
 unfold mI.T aL
 refine rT h fun b1 F1 M1 l1 lm1 o1 h1=>?_
 have oT1:=oT.le l1
 refine jJ h1 fun b3 M2 lm2 h2'=>?_
 have h2:=h2'.aY aA.dp
 simp only [aX,add_eq,Nat.zero_add,Q2 h2.qo,aC,bK,fF bA (o1.le h2.fr),a9,aT,aK,aS]
 refine p9 oT1 h2 (by omega) hfy fun M3 h3=>?_
 simp only [cA,aT,aK,aS]
 rw [bX,if_pos rfl,fB,if_neg hpos,Bool.not_true,mY]
 simp only [aX,add_eq,Nat.zero_add,Q1 h3.qo,aC,bK]
 obtain ⟨F5,hA,l5,back5⟩:=h3.uK
 refine aJq hA (hv.hs.kh y hyM) eQ (by omega) fun x0 L' hP hb n hn M5 β r' N' hB hkh hless hxL heff=>?_
 have hβ:=hB.inv
 obtain ⟨x,hx,hxy,hxe⟩:=qJ.1 (hP.mem_iff.2 List.mem_cons_self)
 have hbx:∀ z∈I,z.h = y.h→z.c≠x.c→Bf x.held z.held:=fun z hz ez hc=>by
  rw [hxe]
  exact hb z.held (qJ.2 ⟨z,hz,ez,rfl⟩) (by rw [←hxe];exact hc)
 have hc0:x0.1 = x.c:=by rw [←hxe];rfl
 rw [hc0] at hxL ⊢
 obtain ⟨IA,IB,hI⟩:=List.append_of_mem hx
 rw [←hxe] at hP
 have hjx:=hv.jf x hx
 have h5:=back5 M5 _ hB
 simp only [cA,aT,aK,aS,aX,add_eq,Nat.zero_add,Q2 h5.h.right.right.aZ,aC,bK]
 refine aCP oT1 h5 List.mem_cons_self hfa (hv.at1 x hx) fun M6 h6=>?_
 simp only [cA,aT,a9,aK,bT,aS]
 refine kE bA (by rfl) iO h6 fun b4 F7 M7 l7 o7 h7=>?_
 have oT7:=oT1.le l7
 have o17:=o1.le l7
 simp only [aX,add_eq,Nat.zero_add,Q2 h7.h.right.right.aZ,aC,bK,fF bA (o17.le h7.fr),a9,aT,aK,aS]
 refine vU oT7 h7 (by omega) hfy fun M9 h9=>?_
 rw [hw1] at h9
 simp only [aK,fF bA (o7.le h9.fr),aC,a9,aT,aS]
 refine aDu (S:=⟨S.most,S.next,β,S.hp.put y.h.1.toNat (y.k,r',((eB I y.h).length:Int) - 1),S.ip,S.at_,S.en⟩) (r:=x.r) (e:=x.e) oT7 hl3 hl4 hfa hfe hjx (hv.en1 x hx) h9 fun M10 oa' oe' γ hfa' hfe' hs hγ h10=>?_
 subst hI
 have hv':=hv.remove hxy hP hkh hless hxL hn heff hβ hs hγ
 have hbl:(aJ PP w0).pD aBp [(2,.agg #[.int .i64 x.r.1,.int .i64 x.r.2]),(3,.agg #[.int .i64 x.e.1,.int .i64 x.e.2])] = some (.agg (lB 0 0 0 x.r.1 x.r.2 x.e.1 x.e.2 0).toArray):=by kernel_rfl
 simp only [mD,a9,aT,aK,aS,hbl,aC]
 refine ⟨fF bA (o7.le h10.fr),?_⟩
 refine jL p5 (by rfl) dW (h10.aY aA.up) fun M11 h11=>?_
 obtain ⟨ka,ka1,ka2,ka3⟩:=PS.bH hjx
 have hxl:β.live x.c = true:=by
  have hxn:x.c≠n:=fun e=>by
   have hyn:=(hv.hs.kh y hyM).nd
   exact (List.nodup_append.1 hyn).2.2 n hn x.c (List.mem_map.2 ⟨x.held,hP.mem_iff.2 List.mem_cons_self,rfl⟩) e.symm
  rw [heff.live _ hxn];exact hv.yB hx
 have hgv:β.vF (x.c:Int) = β.kU x.c:=AS.uL hxl
 have hm:dK (eB (IA ++ x::IB) y.h).length≤dK (IA ++ x::IB).length:=pO (by omega)
 have e2:AS.lJ (fun _=>True) (fun _=>True) (-1 + -1 + 0) (dK (IA ++ x::IB).length + 0 + 1) S.α γ :=
  ((heff.mono (fun _ _=>trivial) (fun c hc=>trivial) hm).trans (AS.pR hβ hxl trivial)).trans (by rw [←hgv];exact hs.pL)
 refine hK M11 _ oa' oe' { y with root:=r',N:=N' } IA x IB rfl hxy hbx hfa' hfe' ((h11.fQ l7).fQ l1) rfl rfl hv' rfl rfl (PS.aCn _ _ ?_) ⟨_,_,_,e2.mono (fun _ h=>h) (fun _ h=>h) (by omega)⟩
 rw [ka1,Int.toNat_natCast]
 exact (List.getElem?_eq_some_iff.1 ka2).1
end
end HL
namespace HL
section
variable {w0:World} {F M:Mem} {R:VP} {os:vC} {q a t bh bi ma me:Nat} {S:QS} {Q:cW} {I:List m6} {H:List Hv} {tm most next:Int} {oa oe:Obj}
theorem aCr {IA IB:List m6} {x:m6} {A B:List Hv} {y:Hv} {op k g1' g2' p1 p2 key:Int} (oT:cN w0 F t (wT bh bi ma) wX) (hv:dU S (IA ++ x::IB) (A ++ y::B) tm) (hxy:x.h = y.h) (hkey:key≤x.e.1)
  (hfa:dI (Value.int .i64) bV S.at_ oa) (hfe:dI bV mD S.en oe) (h:HO w0 F M ((ma,oa)::(me,oe)::os) (QA q a t bh bi me S Q))
  (hK:∀ M' S' oe' y',dI (Value.int .i64) bV S'.at_ oa→dI bV mD S'.en oe'→HO w0 F M' ((ma,oa)::(me,oe')::os) (QA q a t bh bi me S' Q) →
   y'.h = y.h→y'.k = y.k→dU S' (IA ++ { x with e:=(key,x.e.2) }::IB) (A ++ y'::B) tm→S'.most = S.most→S'.next = S.next→S'.ip = S.ip→(∃ Sx Lx d,AS.lJ Sx Lx d (2 + dK (IA ++ x::IB).length) S.α S'.α) →
   R (.agg (lB 0 0 0 0 0 key x.e.2 0).toArray) M') :
  C PP w0 Id.gY #[.pointer (some ⟨q,0,none⟩),.agg (m8 op k g1' g2' p1 p2 x.r.1 x.r.2 key).toArray] R M:=by
 have hyM:y∈A ++ y::B:=by simp
 have hxM:x∈IA ++ x::IB:=by simp
 obtain ⟨hl1,hl2⟩:=hv.u7
 obtain ⟨hl3,hl4,hl5⟩:=hv.ipl
 have hfy:=hv.hf y hyM
 have hjx:=hv.jf x hxM
 have hfy':S.hp.find x.h.1 x.h.2 = some (y.k,y.root,((eB (IA ++ x::IB) y.h).length:Int)):=by rw [hxy];exact hfy
 have hP:(eB (IA ++ x::IB) y.h).Perm ((x.c,x.e)::eB (IA ++ IB) y.h):=by rw [←hxy];exact zB IA IB x
 have hkh0:=(hv.hs.kh y hyM).perm hP (List.Perm.refl _)
 obtain ⟨il,i7,i8⟩:=hkh0.item List.mem_cons_self
 have hgm:=tT (IA ++ x::IB) y.h
 have hPl:=hP.length_eq
 rw [List.length_cons] at hPl
 apply gY.go
 unfold gY.T aL
 refine rT h fun b1 F1 M1 l1 lm1 o1 h1=>?_
 have oT1:=oT.le l1
 refine jJ h1 fun b3 M2 lm2 h2'=>?_
 have h2:=h2'.aY aA.dp
 have hR1:∀ {M':Mem} {e:TypeId},cN w0 M' b1 (m8 op k g1' g2' p1 p2 x.r.1 x.r.2 key) e→(aJ PP w0).ld 33 ⟨b1,6,none⟩ M' = some (.agg #[.int .i64 x.r.1,.int .i64 x.r.2]):=fun o=>kQ (vs:=[.int .i64 x.r.1,.int .i64 x.r.2]) bA o (qK rfl rfl)
 have hR2:∀ {M':Mem} {e:TypeId},cN w0 M' b1 (m8 op k g1' g2' p1 p2 x.r.1 x.r.2 key) e→(aJ PP w0).ld 2 ⟨b1,8,none⟩ M' = some (.int .i64 key):=fun o=>mQ W.c2 o rfl
 simp only [aX,add_eq,Nat.zero_add,Q2 h2.qo,aC,bK,hR1 (o1.le h2.fr),a9,aT,aK,aS]
 refine aDG oT1 (h2.aY aA.dX) (by omega) hjx fun M3 h3'=>?_
 have h3:=h3'.aY aA.dX
 simp only [cA,aT,aK,aS,aX,add_eq,Nat.zero_add,Q3 h3.qo,aC,hR1 (o1.le h3.fr),a9,lkE (me:=me) h3 (by simp) hfe (hv.en1 x hxM)]
 refine jJ h3 fun b4 M4 lm4 h4=>?_
 refine ⟨Q3 h4.h.right.right.right.aZ,hR1 (o1.le h4.fr),lkE (me:=me) h4 (by simp) hfe (hv.en1 x hxM),?_⟩
 refine stW aCC (by rfl) iO h4 fun M5 h5'=>?_
 rw [bX,if_pos rfl]
 have e5:=h5'.h.aZ
 have h5:=h5'.aY aA.dp
 simp only [aX,add_eq,Nat.zero_add,hR2 (o1.le h5.fr),mQ W.c2 e5 (o:=0) rfl,aC,aK]
 rw [eK,if_neg (by omega)]
 simp only [aX,add_eq,Nat.zero_add,Q2 h5.qo,aC,bK,hR1 (o1.le h5.fr),a9,aT,aK,aS]
 refine ⟨?_,?_⟩
 rotate_left
 refine jJ h5 fun b6 M6' lm6 h6'=>?_
 refine ⟨Q2 h6'.h.right.right.right.aZ,hR1 (o1.le h6'.fr),?_⟩
 refine aCX oT1 ((h6'.aY aA.dX).aY fun h=>(h.nX fun _ _ h=>h.dX).dX) (by omega) hjx fun M6 h6=>?_
 simp only [cA,aT,a9,aK,aS]
 refine wA bA (by rfl) iO (h6.aY fun h=>(h.dX.nX fun _ _ h=>h.dX).dX) fun F7 M7 l7 o7 h7=>?_
 rotate_left
 refine aCX oT1 (h5.aY aA.dX) (by omega) hjx fun M6 h6=>?_
 simp only [cA,aT,a9,aK,aS]
 refine kE bA (by rfl) iO (h6.aY aA.dX) fun b6 F7 M7 l7 o7 h7=>?_
 all_goals
  have oT7:=oT1.le l7
  have o17:=o1.le l7
  simp only [aX,add_eq,Nat.zero_add,Q2 h7.h.right.right.aZ,aC,bK,fF bA (o7.le h7.fr),a9,aT,aK,aS]
  refine p9 oT7 h7 (by omega) hfy' fun M8 h8=>?_
  simp only [cA,aT,aK,aS,aX,add_eq,Nat.zero_add,Q1 h8.h.right.right.aZ,aC,bK,hR2 (o17.le h8.fr)]
  obtain ⟨F9,hA,l9,back9⟩:=h8.uK
  have hg7:S.α.jN (x.c:Int) 7 = x.e.1:=by rw [show (7:Int) = ((7:Nat):Int) from rfl,AS.iN il (by omega)];exact i7
  refine aGL hA (fun e0=>absurd e0 (by rw [hg7];omega)) fun _ M9 hB=>?_
  rw [show S.α.tick.lS (x.c:Int) 7 key = S.α.tick.put x.c 7 key from AS.cO (α:=S.α.tick) (f:=7) il (by omega) _] at hB
  have h9:=back9 M9 _ hB
  simp only [bT,aX,add_eq,Nat.zero_add,Q2 h9.h.right.right.aZ,Q1 h9.h.right.right.aZ,aC,bK,fF bA (o7.le h9.fr),a9,aT,aK,aS]
  obtain ⟨F10,hA10,l10,back10⟩:=h9.uK
  have hs1:AS.Sm (1 + 1) (S.α.put x.c 7 key) (S.α.tick.put x.c 7 key).tick:=(AS.aN.put x.c 7 _).trans AS.aN
  refine aIC (e':=(key,x.e.2)) hA10 hkh0 hkey rfl hs1 fun M10 β r' N' hC hkh hless heff=>?_
  have hβ:=hC.inv
  have h10:=back10 M10 _ hC
  rw [aK]
  refine ⟨Q2 h10.h.right.right.aZ,fF bA (o7.le h10.fr),?_⟩
  refine vU oT7 h10 (by omega) hfy' fun M11 h11=>?_
  simp only [aK,hR2 (o17.le h11.fr),aC]
  refine aCi (o:=0) W.c2 (by simp) rfl rfl (h11.aY aA.up) fun M12 h12=>?_
  change HO w0 F7 M12 _ (star (aW b4 [.int .i64 key,.int .i64 x.e.2] _) _) at h12
  have q12:=h12.h.right.right.right.aZ
  simp only [aX,add_eq,Nat.zero_add,Q3 q12,aC,hR1 (o17.le h12.fr),a9,aT,aK,aS,fF aCC h12.h.aZ]
  have h12p:=h12.perm (List.Perm.swap _ _ _)
  obtain ⟨g1,g2⟩:=h12p.get List.mem_cons_self
  refine aGA (kf:=bV) (vf:=mD) (k:=x.r) (v:=(key,x.e.2)) Tryz.underlying93 oR g1 g2 hfe fun oe' hfe'=>?_
  have h13:=(h12p.set (o':=oe')).perm (List.Perm.swap _ _ _)
  generalize Mem.set M12 me _ = M13 at h13 ⊢
  have hbl:(aJ PP w0).pD aBp [(3,.agg #[.int .i64 key,.int .i64 x.e.2])] = some (.agg (lB 0 0 0 0 0 key x.e.2 0).toArray):=by kernel_rfl
  simp only [fF aCC h13.h.aZ,aC,a9,aT,aK,aS,hbl]
  refine jL p5 (by rfl) dW ((h13.aY fun h=>h.right).aY aA.up) fun M14 h14=>?_
  have hv':=hv.aIt hxy hP hs1 hkh hless heff hβ
  have hm:dK ((eB (IA ++ IB) y.h).length + 1)≤dK (IA ++ x::IB).length:=pO (by omega)
  have e2:AS.lJ (fun _=>True) (fun _=>True) 0 (0 + (1 + 1) + dK (IA ++ x::IB).length) S.α β :=
   ((((AS.Sm.refl (α:=S.α)).pL (S:=fun _=>True) (L:=fun _=>True)).put (f:=7) (v:=key) (c:=x.c) trivial).trans hs1.pL).trans (heff.mono (fun _ _=>trivial) (fun _ _=>trivial) hm)
  refine hK M14 ⟨S.most,S.next,β,S.hp.put x.h.1.toNat (y.k,r',((eB (IA ++ x::IB) y.h).length:Int)),S.ip,S.at_,fV S.en x.r (some (key,x.e.2))⟩ oe' { y with root:=r',N:=N' } hfa hfe' ((h14.fQ l7).fQ l1) rfl rfl (by rw [show x.h.1.toNat = y.h.1.toNat from by rw [hxy]];exact hv') rfl rfl rfl ⟨_,_,_,e2.mono (fun _ h=>h) (fun _ h=>h) (by omega)⟩
theorem aJs {h o:dL} (eQ:h≠o) (I:List m6):(eB I h).length + (eB I o).length≤I.length:=by
 have:=(aCK eQ I).length_eq
 rw [List.length_append] at this
 have h2:=tT (I.map (uY o h)) h
 rw [List.length_map] at h2
 omega
theorem aHe {B:List Hv} {y y2:Hv} (oT:cN w0 F t (wT bh bi ma) wX) (hv:dU S I (y::y2::B) tm) (htm:tm≤900000) (hkk:y2.k = y.k)
  (h:HO w0 F M os (QA q a t bh bi me S Q))
  (hK:∀ M' S' y',HO w0 F M' os (QA q a t bh bi me S' Q)→y'.h = y.h→y'.k = y.k→dU S' (I.map (uY y2.h y.h)) (y'::B) tm→S'.most = S.most→S'.next = S.next→S'.ip.pl = S.ip.pl→S'.at_ = S.at_→S'.en = S.en→(∃ Sx Lx d,AS.lJ Sx Lx d (dK I.length) S.α S'.α) →
   R (.agg (lB 0 0 0 0 0 0 0 (((eB I y.h).length:Int) + (eB I y2.h).length)).toArray) M') :
  C PP w0 Id.nU #[.pointer (some ⟨q,0,none⟩),.agg #[.int .i64 y.h.1,.int .i64 y.h.2],.agg #[.int .i64 y2.h.1,.int .i64 y2.h.2]] R M:=by
 have hyM:y∈y::y2::B:=by simp
 have hy2M:y2∈y::y2::B:=by simp
 obtain ⟨hl1,hl2⟩:=hv.u7
 obtain ⟨hl3,hl4,hl5⟩:=hv.ipl
 have hfy:=hv.hf y hyM
 have hfy2:=hv.hf y2 hy2M
 rw [hkk] at hfy2
 have fS:=hv.fS
 rw [List.map_cons,List.map_cons,List.nodup_cons] at fS
 have eQ:y.h≠y2.h:=fun e=>fS.1 (by rw [e];simp)
 have hgm:=aJs eQ I
 have hlen:=hv.len
 have hm2:=hv.m2
 have hgi:∀ x∈S.ip.l,0≤x.g∧x.g≤1000000:=fun x hx=>by have:=hv.ig x hx;omega
 have hw1:qB (((eB I y.h).length:Int) + (eB I y2.h).length) = ((eB I y.h).length:Int) + (eB I y2.h).length:=bC (by omega)
 apply nU.go
 unfold nU.T aL
 refine rT h fun b1 F1 M1 l1 lm1 o1 h1=>?_
 refine rT h1 fun b2 F2 M2 l2 lm2 o2 h2=>?_
 have oT2:=(oT.le l1).le l2
 have o12:=o1.le l2
 refine jJ h2 fun b3 M3 lm3 h3'=>?_
 have h3:=h3'.aY aA.dp
 simp only [aX,add_eq,Nat.zero_add,Q2 h3.qo,aC,bK,fF bA (o12.le h3.fr),a9,aT,aK,aS]
 refine p9 oT2 h3 (by omega) hfy fun M4 h4=>?_
 simp only [cA,aT,aK,aS,aX,add_eq,Nat.zero_add,Q2 h4.qo,aC,bK,fF bA (o2.le h4.fr),a9]
 refine p9 oT2 h4 (by omega) hfy2 fun M5 h5=>?_
 simp only [cA,aT,aK,aS,aX,add_eq,Nat.zero_add,Q2 h5.qo,aC,bK,fF bA (o12.le h5.fr),fF bA (o2.le h5.fr),a9]
 refine aIc oT2 h5 hl1 hl2 hfy hfy2 (fun e=>eQ (Prod.ext e.1 e.2)) hl3 hgi hv.ig1 fun M6 h6=>?_
 rw [aK,bX,if_pos rfl]
 simp only [aX,add_eq,Nat.zero_add,Q2 h6.h.right.right.aZ,Q1 h6.h.right.right.aZ,aC,bK,fF bA (o12.le h6.fr),a9,aT,aK,aS]
 obtain ⟨F7,hA,l7,back7⟩:=h6.uK
 have hk1:=hv.hs.kh y hyM
 have hk2:=hv.hs.kh y2 hy2M
 rw [hkk] at hk2
 refine aHO hA hk1 hk2 (List.nodup_append.2 ⟨hk1.nd,hk2.nd,fun c hc d hd e=>hv.hs.d1 y hyM y2 hy2M eQ c hc (e▸hd)⟩) (by omega) fun M7 β r' N' hB hkh hsub heff=>?_
 have hβ:=hB.inv
 have h7:=back7 M7 _ hB
 rw [aK]
 refine ⟨Q2 h7.h.right.right.aZ,fF bA (o12.le h7.fr),?_⟩
 obtain ⟨k2,k21,k22,k23⟩:=PS.bH hfy2
 have hk2n:y2.h.1.toNat = k2:=by rw [k21,Int.toNat_natCast]
 have hgl:=PS.vH (p:=S.hp) z3 k22
 have hfg:(S.hp.gB z3 y2.h.1.toNat).find y.h.1 y.h.2 = some (y.k,y.root,((eB I y.h).length:Int)):=by
  rw [hk2n]
  exact PS.wR z3 k22 _ _ _ (fun e=>aGX hv hy2M hyM eQ (by rw [e,k21])) hfy
 refine vU oT2 h7 (by rw [hk2n,hgl.1,List.length_set];omega) hfg fun M8 h8=>?_
 rw [hw1] at h8
 have hbl:(aJ PP w0).pD aBp [(4,.int .i64 (((eB I y.h).length:Int) + (eB I y2.h).length))] = some (.agg (lB 0 0 0 0 0 0 0 (((eB I y.h).length:Int) + (eB I y2.h).length)).toArray):=by kernel_rfl
 simp only [aK,hw1,hbl,aC,a9,aT,aS]
 refine jL p5 (by rfl) dW (h8.aY aA.up) fun M9 h9=>?_
 have hv':=hv.mO hkh hsub heff hβ
 have hm:dK ((eB I y.h).length + (eB I y2.h).length)≤dK I.length:=pO hgm
 exact hK M9 ⟨S.most,S.next,β,(S.hp.gB z3 y2.h.1.toNat).put y.h.1.toNat (y.k,r',((eB I y.h).length:Int) + (eB I y2.h).length),reh S.ip (nY S.ip y2.h.1 y2.h.2) y.h.1 y.h.2,S.at_,S.en⟩ { y with root:=r',N:=N' } ((h9.fQ l2).fQ l1) rfl rfl hv' rfl rfl (aKL _ _ _ _) rfl rfl ⟨_,_,_,heff.mono (fun _ h=>h) (fun _ h=>h) hm⟩
end
end HL
namespace HL
def rO (S S':QS) (k:Int):Prop:=0≤S.α.steps∧S.α.steps≤9223372036854775807→S'.α.steps≤9223372036854775807∧S.α.steps≤S'.α.steps∧S'.α.steps≤S.α.steps + k
theorem rO.trans {S1 S2 S3:QS} {k j:Int} (h:rO S1 S2 k) (h2:rO S2 S3 j):rO S1 S3 (k + j):=fun h0=>by
 have h1:=h h0
 have h3:=h2 ⟨by omega,h1.1⟩
 omega
theorem rO.of {S S':QS} {k:Int} {β:AS} (hs:AS.Sm 0 S.α β) (h:∃ Sx Lx d,AS.lJ Sx Lx d k β S'.α):rO S S' k:=fun h0=>by
 obtain ⟨Sx,Lx,d,h⟩:=h
 have h1:=(hs.pL (S:=fun _=>True) (L:=fun _=>True)).steps h0
 have h3:=h.steps ⟨by omega,h1.1⟩
 omega
section
variable {w0:World} {F M:Mem} {R:VP} {os:vC} {q a t bh bi ma me:Nat} {S:QS} {Q:cW} {I:List m6} {H:List Hv} {tm most next:Int} {oa oe:Obj}
theorem aBG (h:HO w0 F M os (QA q a t bh bi me S Q)) (hK:R (.int .i64 S.α.steps) M):C PP w0 Id.mJ #[.pointer (some ⟨q,0,none⟩)] R M:=by
 apply mJ.go
 unfold mJ.T aL
 simp only [aX,add_eq,Nat.zero_add,Q1 h.qo,aC,bK]
 obtain ⟨F1,hA,l1,back1⟩:=h.uK
 refine aDf hA fun p hp=>?_
 rw [bK]
 refine hp _ ?_
 rw [aK]
 exact hK
theorem uP {k g1 g2 p1 p2 s1 s2 key:Int} (oT:cN w0 F t (wT bh bi ma) wX) (hv:dU S I H tm) (htm:tm≤900000) (hk1:1≤k) (hk3:k≤3) (hH:H.length < 64) (h:HO w0 F M os (QA q a t bh bi me S Q))
  (hK:∀ M' S' r,HO w0 F M' os (QA q a t bh bi me S' Q)→dU S' I (H ++ [⟨r,k, -1,[]⟩]) (tm + 1)→eB I r = []→S'.most = S.most→S'.next = S.next→S'.ip = S.ip→S'.at_ = S.at_→S'.en = S.en→rO S S' 0→R (.agg (lB 0 r.1 r.2 0 0 0 0 0).toArray) M') :
  C PP w0 Id.iL #[.pointer (some ⟨q,0,none⟩),.agg (m8 1 k g1 g2 p1 p2 s1 s2 key).toArray] R M:=by
 apply iL.go
 unfold iL.T aL
 refine rT h fun b1 F1 M1 l1 lm1 o1 h1=>?_
 have oT1:=oT.le l1
 refine jJ h1 fun b3 M2 lm2 h2'=>?_
 have h2:=h2'.aY aA.dp
 simp only [aX,add_eq,Nat.zero_add,Q1 h2.qo,aC,bK]
 obtain ⟨F3,hA3,l3,lP⟩:=h2.uK
 refine iM hA3 fun p hp=>?_
 rw [bK]
 refine hp _ fun M3 β hB3 hs=>?_
 have hβ:=hB3.inv
 have hvβ:=hv.sm hs hβ
 have h3:=lP M3 _ hB3
 simp only [mQ W.c3 (o1.le h3.fr) (o:=0) rfl,aC,aK]
 rw [fB,if_pos rfl]
 obtain ⟨hl1,hl2⟩:=hv.u7
 obtain ⟨i,hat⟩:=hv.aLV hH
 obtain ⟨hv',hnil⟩:=hvβ.make hk1 hk3 hat
 have hgi:∀ x∈S.hp.l,0≤x.g∧x.g≤1000000:=fun x hx=>by have:=hv.hg x hx;omega
 simp only [aX,add_eq,Nat.zero_add,Q2 h3.h.right.right.aZ,mQ W.c3 (o1.le h3.fr) (o:=1) rfl,aC,aK,bK]
 refine ⟨?_,?_⟩
 rotate_left
 refine jJ h3 fun b4 M4' lm4 h4'=>?_
 refine ⟨Q2 h4'.h.right.right.right.aZ,mQ W.c3 (o1.le h4'.fr) (o:=1) rfl,?_⟩
 refine aDh oT1 (h4'.aY aA.dX) ⟨hk1,by omega⟩ hv.ho hl1 hl2 hgi hat fun M4 h4=>?_
 simp only [cA,aT,a9,aK,aS]
 refine wA bA (by rfl) iO (h4.aY aA.dX) fun F5 M5 l5 o5 h5=>?_
 rotate_left
 refine aDh oT1 h3 ⟨hk1,by omega⟩ hv.ho hl1 hl2 hgi hat fun M4 h4=>?_
 simp only [cA,aT,a9,aK,aS]
 refine kE bA (by rfl) iO h4 fun b4 F5 M5 l5 o5 h5=>?_
 all_goals
  have hbl:(aJ PP w0).pD aBp [(1,.agg #[.int .i64 (i:Int),.int .i64 (S.hp.gen i)]),(0,.int .i64 0)] = some (.agg (lB 0 i (S.hp.gen i) 0 0 0 0 0).toArray):=by kernel_rfl
  simp only [fF bA (o5.le h5.fr),aC,a9,aT,aK,aS,hbl]
  refine jL p5 (by rfl) dW (h5.aY aA.up) fun M9 h9=>?_
  exact hK M9 ⟨S.most,S.next,β,S.hp.take z3 i (k, -1,0),S.ip,S.at_,S.en⟩ ((i:Int),S.hp.gen i) ((h9.fQ l5).fQ l1) hv' hnil rfl rfl rfl rfl rfl (fun h0=>by have:=(hs.pL (S:=fun _=>True) (L:=fun _=>True)).steps h0;show β.steps≤_∧_≤β.steps∧β.steps≤_;omega)
theorem uQ {A B:List Hv} {y:Hv} {k p1 p2 s1 s2 key:Int} (oT:cN w0 F t (wT bh bi ma) wX) (hv:dU S I (A ++ y::B) tm) (htm:tm≤900000) (hlen:(I.length:Int) < S.most)
  (hfa:dI (Value.int .i64) bV S.at_ oa) (hfe:dI bV mD S.en oe) (h:HO w0 F M ((ma,oa)::(me,oe)::os) (QA q a t bh bi me S Q))
  (hK:∀ M' S' oa' oe' i y',S.ip.at_ = some i→dI (Value.int .i64) bV S'.at_ oa'→dI bV mD S'.en oe'→HO w0 F M' ((ma,oa')::(me,oe')::os) (QA q a t bh bi me S' Q) →
   y'.h = y.h→y'.k = y.k→(∃ c,dU S' (I ++ [⟨((i:Int),S.ip.gen i),y.h,c,(key,S.next)⟩]) (A ++ y'::B) (tm + 1))→S'.most = S.most→S'.next = S.next + 1→S'.ip.pl = S.ip.pl.take i 0→rO S S' (3 + dK (I.length + 1)) →
   R (.agg (lB 0 0 0 i (S.ip.gen i) key S.next 0).toArray) M') :
  C PP w0 Id.iL #[.pointer (some ⟨q,0,none⟩),.agg (m8 2 k y.h.1 y.h.2 p1 p2 s1 s2 key).toArray] R M:=by
 apply iL.go
 unfold iL.T aL
 refine rT h fun b1 F1 M1 l1 lm1 o1 h1=>?_
 have oT1:=oT.le l1
 refine jJ h1 fun b3 M2 lm2 h2'=>?_
 have h2:=h2'.aY aA.dp
 simp only [aX,add_eq,Nat.zero_add,Q1 h2.qo,aC,bK]
 obtain ⟨F3,hA3,l3,lP⟩:=h2.uK
 refine iM hA3 fun p hp=>?_
 rw [bK]
 refine hp _ fun M3 β hB3 hs=>?_
 have hβ:=hB3.inv
 have hvβ:=hv.sm hs hβ
 have h3:=lP M3 _ hB3
 simp only [mQ W.c3 (o1.le h3.fr) (o:=0) rfl,aC,aK]
 rw [fB,if_neg (by decide),fB,if_pos rfl]
 simp only [fF (vs:=m8 2 k y.h.1 y.h.2 p1 p2 s1 s2 key) aJV (o1.le h3.fr),aC,a9,aT,aK,aS]
 refine aEB (S:={ S with α:=β }) oT1 hvβ htm hlen hfa hfe h3 fun M4 S' oa' oe' i y' hat hfa' hfe' h4 e1 e2 hv' e3 e4 e5 hst=>?_
 simp only [a9,aT,aK,aS]
 refine jL p5 (by rfl) dW (h4.aY aA.up) fun M9 h9=>?_
 exact hK M9 S' oa' oe' i y' hat hfa' hfe' (h9.fQ l1) e1 e2 hv' e3 e4 e5 (rO.of hs hst)
theorem yO {A B:List Hv} {y:Hv} {k p1 p2 s1 s2 key:Int} (oT:cN w0 F t (wT bh bi ma) wX) (hv:dU S I (A ++ y::B) tm) (hno:eB I y.h = []) (h:HO w0 F M os (QA q a t bh bi me S Q))
  (hK:∀ M' S',HO w0 F M' os (QA q a t bh bi me S' Q)→dU S' I (A ++ y::B) tm→S'.most = S.most→S'.next = S.next→S'.ip = S.ip→S'.at_ = S.at_→S'.en = S.en→rO S S' 0→R (.agg (lB 27 0 0 0 0 0 0 0).toArray) M') :
  C PP w0 Id.iL #[.pointer (some ⟨q,0,none⟩),.agg (m8 3 k y.h.1 y.h.2 p1 p2 s1 s2 key).toArray] R M:=by
 apply iL.go
 unfold iL.T aL
 refine rT h fun b1 F1 M1 l1 lm1 o1 h1=>?_
 have oT1:=oT.le l1
 refine jJ h1 fun b3 M2 lm2 h2'=>?_
 have h2:=h2'.aY aA.dp
 simp only [aX,add_eq,Nat.zero_add,Q1 h2.qo,aC,bK]
 obtain ⟨F3,hA3,l3,lP⟩:=h2.uK
 refine iM hA3 fun p hp=>?_
 rw [bK]
 refine hp _ fun M3 β hB3 hs=>?_
 have hβ:=hB3.inv
 have hvβ:=hv.sm hs hβ
 have h3:=lP M3 _ hB3
 simp only [mQ W.c3 (o1.le h3.fr) (o:=0) rfl,aC,aK]
 rw [fB,if_neg (by decide),fB,if_neg (by decide),fB,if_pos rfl]
 simp only [add_eq,Nat.zero_add,kQ (o:=2) (vs:=[.int .i64 y.h.1,.int .i64 y.h.2]) bA (o1.le h3.fr) (qK rfl rfl),aC,a9,aT,aK,aS]
 refine aGe (S:={ S with α:=β }) oT1 hvβ hno h3 fun M4 h4=>?_
 simp only [a9,aT,aK,aS]
 refine jL p5 (by rfl) dW (h4.aY aA.up) fun M9 h9=>?_
 exact hK M9 { S with α:=β } (h9.fQ l1) hvβ rfl rfl rfl rfl rfl (fun h0=>by have:=(hs.pL (S:=fun _=>True) (L:=fun _=>True)).steps h0;show β.steps≤_∧_≤β.steps∧β.steps≤_;omega)
theorem xR {A B:List Hv} {y:Hv} {k p1 p2 s1 s2 key:Int} (oT:cN w0 F t (wT bh bi ma) wX) (hv:dU S I (A ++ y::B) tm) (eQ:eB I y.h≠[]) (hfa:dI (Value.int .i64) bV S.at_ oa) (hfe:dI bV mD S.en oe) (h:HO w0 F M ((ma,oa)::(me,oe)::os) (QA q a t bh bi me S Q))
  (hK:∀ M' S' x,x∈I→x.h = y.h→(∀ z∈I,z.h = y.h→z.c≠x.c→Bf x.held z.held)→dI (Value.int .i64) bV S'.at_ oa→dI bV mD S'.en oe→HO w0 F M' ((ma,oa)::(me,oe)::os) (QA q a t bh bi me S' Q)→dU S' I (A ++ y::B) tm→S'.most = S.most→S'.next = S.next→S'.ip = S.ip→rO S S' (dK I.length)→R (.agg (lB 0 0 0 x.r.1 x.r.2 x.e.1 x.e.2 0).toArray) M') :
  C PP w0 Id.iL #[.pointer (some ⟨q,0,none⟩),.agg (m8 3 k y.h.1 y.h.2 p1 p2 s1 s2 key).toArray] R M:=by
 apply iL.go
 unfold iL.T aL
 refine rT h fun b1 F1 M1 l1 lm1 o1 h1=>?_
 have oT1:=oT.le l1
 refine jJ h1 fun b3 M2 lm2 h2'=>?_
 have h2:=h2'.aY aA.dp
 simp only [aX,add_eq,Nat.zero_add,Q1 h2.qo,aC,bK]
 obtain ⟨F3,hA3,l3,lP⟩:=h2.uK
 refine iM hA3 fun p hp=>?_
 rw [bK]
 refine hp _ fun M3 β hB3 hs=>?_
 have hβ:=hB3.inv
 have hvβ:=hv.sm hs hβ
 have h3:=lP M3 _ hB3
 simp only [mQ W.c3 (o1.le h3.fr) (o:=0) rfl,aC,aK]
 rw [fB,if_neg (by decide),fB,if_neg (by decide),fB,if_pos rfl]
 simp only [add_eq,Nat.zero_add,kQ (o:=2) (vs:=[.int .i64 y.h.1,.int .i64 y.h.2]) bA (o1.le h3.fr) (qK rfl rfl),aC,a9,aT,aK,aS]
 refine aGS (S:={ S with α:=β }) oT1 hvβ eQ hfa hfe h3 fun M4 γ x hx hxy hb hsg hγ h4=>?_
 simp only [a9,aT,aK,aS]
 refine jL p5 (by rfl) dW (h4.aY aA.up) fun M9 h9=>?_
 exact hK M9 { S with α:=γ } x hx hxy hb hfa hfe (h9.fQ l1) (hvβ.sm hsg hγ) rfl rfl rfl (rO.of hs ⟨fun _=>True,fun _=>True,0,hsg.pL⟩)
theorem aC0 {A B:List Hv} {y:Hv} {k p1 p2 s1 s2 key:Int} (oT:cN w0 F t (wT bh bi ma) wX) (hv:dU S I (A ++ y::B) tm) (eQ:eB I y.h≠[]) (hfa:dI (Value.int .i64) bV S.at_ oa) (hfe:dI bV mD S.en oe) (h:HO w0 F M ((ma,oa)::(me,oe)::os) (QA q a t bh bi me S Q))
  (hK:∀ M' S' oa' oe' y' IA x IB,I = IA ++ x::IB→x.h = y.h→(∀ z∈I,z.h = y.h→z.c≠x.c→Bf x.held z.held)→dI (Value.int .i64) bV S'.at_ oa'→dI bV mD S'.en oe'→HO w0 F M' ((ma,oa')::(me,oe')::os) (QA q a t bh bi me S' Q) →
   y'.h = y.h→y'.k = y.k→dU S' (IA ++ IB) (A ++ y'::B) (tm + 1)→S'.most = S.most→S'.next = S.next→S'.ip.pl = S.ip.pl.gB x.r.1.toNat→rO S S' (dK I.length + 1) →
   R (.agg (lB 0 0 0 x.r.1 x.r.2 x.e.1 x.e.2 0).toArray) M') :
  C PP w0 Id.iL #[.pointer (some ⟨q,0,none⟩),.agg (m8 4 k y.h.1 y.h.2 p1 p2 s1 s2 key).toArray] R M:=by
 apply iL.go
 unfold iL.T aL
 refine rT h fun b1 F1 M1 l1 lm1 o1 h1=>?_
 have oT1:=oT.le l1
 refine jJ h1 fun b3 M2 lm2 h2'=>?_
 have h2:=h2'.aY aA.dp
 simp only [aX,add_eq,Nat.zero_add,Q1 h2.qo,aC,bK]
 obtain ⟨F3,hA3,l3,lP⟩:=h2.uK
 refine iM hA3 fun p hp=>?_
 rw [bK]
 refine hp _ fun M3 β hB3 hs=>?_
 have hβ:=hB3.inv
 have hvβ:=hv.sm hs hβ
 have h3:=lP M3 _ hB3
 simp only [mQ W.c3 (o1.le h3.fr) (o:=0) rfl,aC,aK]
 rw [fB,if_neg (by decide),fB,if_neg (by decide),fB,if_neg (by decide),fB,if_pos rfl]
 simp only [add_eq,Nat.zero_add,kQ (o:=2) (vs:=[.int .i64 y.h.1,.int .i64 y.h.2]) bA (o1.le h3.fr) (qK rfl rfl),aC,a9,aT,aK,aS]
 refine aG1 (S:={ S with α:=β }) oT1 hvβ eQ hfa hfe h3 fun M4 S' oa' oe' y' IA x IB hI hxy hb hfa' hfe' h4 e1 e2 hv' e3 e4 e5 hst=>?_
 simp only [a9,aT,aK,aS]
 refine jL p5 (by rfl) dW (h4.aY aA.up) fun M9 h9=>?_
 exact hK M9 S' oa' oe' y' IA x IB hI hxy hb hfa' hfe' (h9.fQ l1) e1 e2 hv' e3 e4 e5 (rO.of hs hst)
theorem aAV {IA IB:List m6} {x:m6} {A B:List Hv} {y:Hv} {k g1 g2 p1 p2 key:Int} (oT:cN w0 F t (wT bh bi ma) wX) (hv:dU S (IA ++ x::IB) (A ++ y::B) tm) (hxy:x.h = y.h) (hkey:key≤x.e.1)
  (hfa:dI (Value.int .i64) bV S.at_ oa) (hfe:dI bV mD S.en oe) (h:HO w0 F M ((ma,oa)::(me,oe)::os) (QA q a t bh bi me S Q))
  (hK:∀ M' S' oe' y',dI (Value.int .i64) bV S'.at_ oa→dI bV mD S'.en oe'→HO w0 F M' ((ma,oa)::(me,oe')::os) (QA q a t bh bi me S' Q) →
   y'.h = y.h→y'.k = y.k→dU S' (IA ++ { x with e:=(key,x.e.2) }::IB) (A ++ y'::B) tm→S'.most = S.most→S'.next = S.next→S'.ip = S.ip→rO S S' (2 + dK (IA ++ x::IB).length) →
   R (.agg (lB 0 0 0 0 0 key x.e.2 0).toArray) M') :
  C PP w0 Id.iL #[.pointer (some ⟨q,0,none⟩),.agg (m8 5 k g1 g2 p1 p2 x.r.1 x.r.2 key).toArray] R M:=by
 apply iL.go
 unfold iL.T aL
 refine rT h fun b1 F1 M1 l1 lm1 o1 h1=>?_
 have oT1:=oT.le l1
 refine jJ h1 fun b3 M2 lm2 h2'=>?_
 have h2:=h2'.aY aA.dp
 simp only [aX,add_eq,Nat.zero_add,Q1 h2.qo,aC,bK]
 obtain ⟨F3,hA3,l3,lP⟩:=h2.uK
 refine iM hA3 fun p hp=>?_
 rw [bK]
 refine hp _ fun M3 β hB3 hs=>?_
 have hβ:=hB3.inv
 have hvβ:=hv.sm hs hβ
 have h3:=lP M3 _ hB3
 simp only [mQ W.c3 (o1.le h3.fr) (o:=0) rfl,aC,aK]
 rw [fB,if_neg (by decide),fB,if_neg (by decide),fB,if_neg (by decide),fB,if_neg (by decide),fB,if_pos rfl]
 simp only [fF (vs:=m8 5 k g1 g2 p1 p2 x.r.1 x.r.2 key) aJV (o1.le h3.fr),aC,a9,aT,aK,aS]
 refine aCr (S:={ S with α:=β }) oT1 hvβ hxy hkey hfa hfe h3 fun M4 S' oe' y' hfa' hfe' h4 e1 e2 hv' e3 e4 e5 hst=>?_
 simp only [a9,aT,aK,aS]
 refine jL p5 (by rfl) dW (h4.aY aA.up) fun M9 h9=>?_
 exact hK M9 S' oe' y' hfa' hfe' (h9.fQ l1) e1 e2 hv' e3 e4 e5 (rO.of hs hst)
theorem aCI {IA IB:List m6} {x:m6} {A B:List Hv} {y:Hv} {k g1 g2 p1 p2 key:Int} (oT:cN w0 F t (wT bh bi ma) wX) (hv:dU S (IA ++ x::IB) (A ++ y::B) tm) (hxy:x.h = y.h)
  (hfa:dI (Value.int .i64) bV S.at_ oa) (hfe:dI bV mD S.en oe) (h:HO w0 F M ((ma,oa)::(me,oe)::os) (QA q a t bh bi me S Q))
  (hK:∀ M' S' oa' oe' y',dI (Value.int .i64) bV S'.at_ oa'→dI bV mD S'.en oe'→HO w0 F M' ((ma,oa')::(me,oe')::os) (QA q a t bh bi me S' Q) →
   y'.h = y.h→y'.k = y.k→dU S' (IA ++ IB) (A ++ y'::B) (tm + 1)→S'.most = S.most→S'.next = S.next→S'.ip.pl = S.ip.pl.gB x.r.1.toNat→rO S S' (dK (IA ++ x::IB).length + 1) →
   R (.agg (lB 0 0 0 0 0 x.e.1 x.e.2 0).toArray) M') :
  C PP w0 Id.iL #[.pointer (some ⟨q,0,none⟩),.agg (m8 6 k g1 g2 p1 p2 x.r.1 x.r.2 key).toArray] R M:=by
 apply iL.go
 unfold iL.T aL
 refine rT h fun b1 F1 M1 l1 lm1 o1 h1=>?_
 have oT1:=oT.le l1
 refine jJ h1 fun b3 M2 lm2 h2'=>?_
 have h2:=h2'.aY aA.dp
 simp only [aX,add_eq,Nat.zero_add,Q1 h2.qo,aC,bK]
 obtain ⟨F3,hA3,l3,lP⟩:=h2.uK
 refine iM hA3 fun p hp=>?_
 rw [bK]
 refine hp _ fun M3 β hB3 hs=>?_
 have hβ:=hB3.inv
 have hvβ:=hv.sm hs hβ
 have h3:=lP M3 _ hB3
 simp only [mQ W.c3 (o1.le h3.fr) (o:=0) rfl,aC,aK]
 rw [fB,if_neg (by decide),fB,if_neg (by decide),fB,if_neg (by decide),fB,if_neg (by decide),fB,if_neg (by decide),fB,if_pos rfl]
 simp only [add_eq,Nat.zero_add,kQ (o:=6) (vs:=[.int .i64 x.r.1,.int .i64 x.r.2]) bA (o1.le h3.fr) (qK rfl rfl),aC,a9,aT,aK,aS]
 refine aEj (S:={ S with α:=β }) oT1 hvβ hxy hfa hfe h3 fun M4 S' oa' oe' y' hfa' hfe' h4 e1 e2 hv' e3 e4 e5 hst=>?_
 simp only [a9,aT,aK,aS]
 refine jL p5 (by rfl) dW (h4.aY aA.up) fun M9 h9=>?_
 exact hK M9 S' oa' oe' y' hfa' hfe' (h9.fQ l1) e1 e2 hv' e3 e4 e5 (rO.of hs hst)
theorem aEt {B:List Hv} {y y2:Hv} {k s1 s2 key:Int} (oT:cN w0 F t (wT bh bi ma) wX) (hv:dU S I (y::y2::B) tm) (htm:tm≤900000) (hkk:y2.k = y.k) (h:HO w0 F M os (QA q a t bh bi me S Q))
  (hK:∀ M' S' y',HO w0 F M' os (QA q a t bh bi me S' Q)→y'.h = y.h→y'.k = y.k→dU S' (I.map (uY y2.h y.h)) (y'::B) tm→S'.most = S.most→S'.next = S.next→S'.ip.pl = S.ip.pl→S'.at_ = S.at_→S'.en = S.en→rO S S' (dK I.length) →
   R (.agg (lB 0 0 0 0 0 0 0 (((eB I y.h).length:Int) + (eB I y2.h).length)).toArray) M') :
  C PP w0 Id.iL #[.pointer (some ⟨q,0,none⟩),.agg (m8 7 k y.h.1 y.h.2 y2.h.1 y2.h.2 s1 s2 key).toArray] R M:=by
 apply iL.go
 unfold iL.T aL
 refine rT h fun b1 F1 M1 l1 lm1 o1 h1=>?_
 have oT1:=oT.le l1
 refine jJ h1 fun b3 M2 lm2 h2'=>?_
 have h2:=h2'.aY aA.dp
 simp only [aX,add_eq,Nat.zero_add,Q1 h2.qo,aC,bK]
 obtain ⟨F3,hA3,l3,lP⟩:=h2.uK
 refine iM hA3 fun p hp=>?_
 rw [bK]
 refine hp _ fun M3 β hB3 hs=>?_
 have hβ:=hB3.inv
 have hvβ:=hv.sm hs hβ
 have h3:=lP M3 _ hB3
 simp only [mQ W.c3 (o1.le h3.fr) (o:=0) rfl,aC,aK]
 rw [fB,if_neg (by decide),fB,if_neg (by decide),fB,if_neg (by decide),fB,if_neg (by decide),fB,if_neg (by decide),fB,if_neg (by decide),fB,if_pos rfl]
 simp only [add_eq,Nat.zero_add,kQ (o:=2) (vs:=[.int .i64 y.h.1,.int .i64 y.h.2]) bA (o1.le h3.fr) (qK rfl rfl),kQ (o:=4) (vs:=[.int .i64 y2.h.1,.int .i64 y2.h.2]) bA (o1.le h3.fr) (qK rfl rfl),aC,a9,aT,aK,aS]
 refine aHe (S:={ S with α:=β }) oT1 hvβ htm hkk h3 fun M4 S' y' h4 e1 e2 hv' e3 e4 e5 e6 e7 hst=>?_
 simp only [a9,aT,aK,aS]
 refine jL p5 (by rfl) dW (h4.aY aA.up) fun M9 h9=>?_
 exact hK M9 S' y' (h9.fQ l1) e1 e2 hv' e3 e4 e5 e6 e7 (rO.of hs hst)
end
end HL
namespace HL
abbrev tJt:TypeId:=199
abbrev tJo:TypeId:=138
abbrev jtV (pj mb:Nat):List Value:=[.pointer (some ⟨pj,0,none⟩),.map (some mb)]
def oV (v:V5):Value:=.agg #[.int .i64 v.1,.int .i64 v.2.1,.int .i64 v.2.2.1,.int .i64 v.2.2.2.1,.int .i64 v.2.2.2.2]
theorem fW:gE PP tJo 5 = true:=W.aBB
section
variable {w0:World} {F M:Mem} {R:VP} {os:vC} {jt pj mb:Nat} {P:PS V5} {Q:cW} {ob_:Obj} {oW:dL→Option dL}
theorem J0 (o:cN w0 F jt (jtV pj mb) tJt) (hl:Mem.le F M):(aJ PP w0).ld 196 ⟨jt,0,none⟩ M = some (.pointer (some ⟨pj,0,none⟩)):=mQ (by kernel_rfl) (o.le hl) rfl
theorem J1 (o:cN w0 F jt (jtV pj mb) tJt) (hl:Mem.le F M):(aJ PP w0).ld 197 ⟨jt,1,none⟩ M = some (.map (some mb)):=mQ (by kernel_rfl) (o.le hl) rfl
theorem lkR {A:cW} {r:dL} (h:HO w0 F M os A) (hm:(mb,ob_)∈os) (hf:dI bV bV oW ob_) :
  (aJ PP w0).lk 197 (.map (some mb)) (.agg #[.int .i64 r.1,.int .i64 r.2]) true M = some (.tuple #[.agg #[.int .i64 ((oW r).getD (0,0)).1,.int .i64 ((oW r).getD (0,0)).2],.bool (oW r).isSome]):=by
 obtain ⟨inf,hi,hz,_⟩:=W.e33
 obtain ⟨g1,g2⟩:=h.get hm
 have hlk:=(lkF (k:=r) Tryz.underlying197 oR hi hz g1 g2 hf).2
 cases e:oW r with
 | none=>rw [e] at hlk;exact hlk
 | some x=>rw [e] at hlk;exact hlk
theorem aIL (oJ:cN w0 F jt (jtV pj mb) tJt) (h:HO w0 F M os (star (pE pj P) Q)) (hb:P.l.length≤100000) (hf:P.free.length≤P.l.length) (hK:R (.int .i64 ((P.l.length - P.free.length:Nat):Int)) M) :
  C PP w0 Id.rJ #[.pointer (some ⟨jt,0,none⟩)] R M:=by
 apply rJ.go
 unfold rJ.T aL
 simp only [aX,add_eq,Nat.zero_add,J0 oJ h.fr,aC,bK]
 refine aFH h.h hb hf ?_
 rw [aK]
 exact hK
theorem aFt {a g:Int} (oJ:cN w0 F jt (jtV pj mb) tJt) (h:HO w0 F M os (star (pE pj P) Q)) (hb:P.l.length≤100000)
  (h1:∀ v,P.find a g = some v→∀ M',HO w0 F M' os (star (pE pj P) Q)→R (.tuple #[oV v,.int .i64 0]) M')
  (h0:P.find a g = none→∀ M' e,HO w0 F M' os (star (pE pj P) Q)→e≠0→e = P.pl.look a g→R (.tuple #[oV z5,.int .i64 e]) M') :
  C PP w0 Id.pP #[.pointer (some ⟨jt,0,none⟩),.agg #[.int .i64 a,.int .i64 g]] R M:=by
 apply pP.go
 unfold pP.T aL
 refine rT h fun b1 F1 M1 l1 lm1 o1 h1'=>?_
 have oJ1:=oJ.le l1
 refine jJ h1' fun b3 M2 lm2 h2=>?_
 simp only [aX,add_eq,Nat.zero_add,J0 oJ1 h2.fr,aC,bK,fF bA (o1.le h2.fr),a9,aT,aK,aS]
 refine aAm h2.h.right hb (fun v hv M3 l3=>?_) fun hf M3 e l3 he hel=>?_
 ·simp only [cA,aT,a9,aK,aS]
  exact jL (vs:=j0 v) (K:=fun v M=>R (.tuple #[v,.int .i64 0]) M) fW (by rfl) (dM v) (h2.le l3) fun M4 h4=>h1 v hv M4 (h4.fQ l1)
 ·simp only [cA,aT,a9,aK,aS]
  exact jL (vs:=j0 z5) (K:=fun v M=>R (.tuple #[v,.int .i64 e]) M) fW (by rfl) (dM z5) (h2.le l3) fun M4 h4=>h0 hf M4 e (h4.fQ l1) he hel
theorem aIk {A:cW} {r x:dL} (oJ:cN w0 F jt (jtV pj mb) tJt) (h:HO w0 F M os A) (hm:(mb,ob_)∈os) (hf:dI bV bV oW ob_) (hx:oW r = some x)
  (hK:∀ M',HO w0 F M' os A→R (.tuple #[.agg #[.int .i64 x.1,.int .i64 x.2],.bool true]) M') :
  C PP w0 Id.v9 #[.pointer (some ⟨jt,0,none⟩),.agg #[.int .i64 r.1,.int .i64 r.2]] R M:=by
 apply v9.go
 unfold v9.T aL
 refine rT h fun b1 F1 M1 l1 lm1 o1 h1=>?_
 have oJ1:=oJ.le l1
 refine jJ h1 fun b3 M2 lm2 h2=>?_
 have hlk:∀ {M':Mem} {F':Mem} {A:cW},HO w0 F' M' os A→(aJ PP w0).lk 197 (.map (some mb)) (.agg #[.int .i64 r.1,.int .i64 r.2]) true M' = some (.tuple #[.agg #[.int .i64 x.1,.int .i64 x.2],.bool true]):=fun h=>by
  have:=lkR (r:=r) h hm hf
  rw [hx] at this;exact this
 simp only [aX,add_eq,Nat.zero_add,J1 oJ1 h2.fr,aC,fF bA (o1.le h2.fr),a9,aT,aK,bT,aS,hlk h2,cA]
 refine jJ h2 fun b4 M3 lm3 h3=>?_
 refine ⟨J1 oJ1 h3.fr,fF bA (o1.le h3.fr),hlk h3,?_⟩
 refine wA bA (by rfl) iO h3 fun F4 M4 l4 o4 h4=>?_
 simp only [fF bA (o4.le h4.fr),aC,a9,aT,aK,aS]
 refine jL (K:=fun v M=>R (.tuple #[v,.bool true]) M) bA (by rfl) iO h4 fun M5 h5=>?_
 exact hK M5 ((h5.fQ l4).fQ l1)
theorem aFd {v:V5} {i:Nat} (oJ:cN w0 F jt (jtV pj mb) tJt) (h:HO w0 F M ((mb,ob_)::os) (star (pE pj P) Q)) (hf:dI bV bV oW ob_) (hok:P.Ok) (hb:P.l.length≤10000) (hfb:P.free.length≤10000) (hlen:P.free.length≤P.l.length) (hg:∀ x∈P.l,0≤x.g∧x.g≤1000000) (hat:P.at_ = some i) (hroom:((P.l.length - P.free.length:Nat):Int)≠P.most) (hno:oW (v.2.2.2.1,v.2.2.2.2) = none)
  (hK:∀ M' ob',dI bV bV (fV oW (v.2.2.2.1,v.2.2.2.2) (some ((i:Int),P.gen i))) ob'→HO w0 F M' ((mb,ob')::os) (star (pE pj (P.take z5 i v)) Q)→R (.tuple #[.agg #[.int .i64 (i:Int),.int .i64 (P.gen i)],.int .i64 0]) M') :
  C PP w0 Id.qY #[.pointer (some ⟨jt,0,none⟩),oV v] R M:=by
 obtain ⟨v1,v2,v3,v4,v5⟩:=v
 apply qY.go
 unfold qY.T aL
 refine rT h fun b1 F1 M1 l1 lm1 o1 h1=>?_
 have oJ1:=oJ.le l1
 refine jJ h1 fun b3 M2 lm2 h2'=>?_
 have h2:=h2'.aY aA.dX
 have hR:∀ {M':Mem} {e:TypeId},cN w0 M' b1 [.int .i64 v1,.int .i64 v2,.int .i64 v3,.int .i64 v4,.int .i64 v5] e→(aJ PP w0).ld 33 ⟨b1,3,none⟩ M' = some (.agg #[.int .i64 v4,.int .i64 v5]):=fun o=>kQ (vs:=[.int .i64 v4,.int .i64 v5]) bA o (qK rfl rfl)
 have hlk:∀ {M':Mem} {F':Mem} {A:cW} {os':vC},HO w0 F' M' ((mb,ob_)::os') A→(aJ PP w0).lk 197 (.map (some mb)) (.agg #[.int .i64 v4,.int .i64 v5]) true M' = some (.tuple #[.agg #[.int .i64 0,.int .i64 0],.bool false]):=fun h=>by
  have:=lkR (r:=(v4,v5)) h List.mem_cons_self hf
  rw [hno] at this;exact this
 simp only [aX,add_eq,Nat.zero_add,J1 oJ1 h2.fr,aC,hR (o1.le h2.fr),a9,aT,aK,bT,aS,hlk h2,cA]
 refine jJ h2 fun b4 M3 lm3 h3=>?_
 refine ⟨J1 oJ1 h3.fr,hR (o1.le h3.fr),hlk h3,?_⟩
 refine wA bA (by rfl) iO h3 fun F4 M4 l4 o4 h4=>?_
 have oJ4:=oJ1.le l4
 have o14:=o1.le l4
 simp only [aX,add_eq,Nat.zero_add,J0 oJ4 h4.fr,aC,bK]
 refine aFH h4.h (by omega) hlen ?_
 rw [aK]
 refine ⟨J0 oJ4 h4.fr,?_⟩
 refine aEm h4.h ?_
 rw [aK,fB,if_neg hroom,mY]
 simp only [aX,add_eq,Nat.zero_add,J0 oJ4 h4.fr,aC,bK,fF fW (o14.le h4.fr),a9,aT,aK,aS]
 refine ⟨?_,?_⟩
 rotate_left
 refine jJ h4 fun b5 M5' l5' h5'=>?_
 refine ⟨J0 oJ4 h5'.fr,fF fW (o14.le h5'.fr),?_⟩
 obtain ⟨F5,hB,l5,back⟩:=(h5'.aY aA.dX).aY aA.dX |>.aAK
 refine aDb (v:=(v1,v2,v3,v4,v5)) hB hok hb hfb hg hat fun M5 hC=>?_
 have h5:=back M5 _ hC
 simp only [cA,aT,a9,aK,bT,aS]
 refine wA bA (by rfl) iO h5 fun F6 M6 l6 o6 h6=>?_
 rotate_left
 obtain ⟨F5,hB,l5,back⟩:=h4.xJ
 refine aDb (v:=(v1,v2,v3,v4,v5)) hB hok hb hfb hg hat fun M5 hC=>?_
 have h5:=back M5 _ hC
 simp only [cA,aT,a9,aK,bT,aS]
 refine kE bA (by rfl) iO h5 fun b5 F6 M6 l6 o6 h6=>?_
 all_goals
  simp only [aX,add_eq,Nat.zero_add,J1 (oJ4.le l6) h6.fr,aC,hR ((o14.le l6).le h6.fr),fF bA (o6.le h6.fr),a9,aT,aK,aS]
  obtain ⟨g1,g2⟩:=h6.get List.mem_cons_self
  refine aGA (kf:=bV) (vf:=bV) (k:=(v4,v5)) (v:=((i:Int),P.gen i)) Tryz.underlying197 oR g1 g2 hf fun ob' hf'=>?_
  have h7:=h6.set (o':=ob')
  generalize Mem.set M6 mb _ = M7 at h7 ⊢
  simp only [fF bA (o6.le h7.fr),aC,a9,aT,aK,aS]
  refine jL (K:=fun v M=>R (.tuple #[v,.int .i64 0]) M) bA (by rfl) iO (h7.aY aA.dX) fun M8 h8=>?_
  exact hK M8 ob' hf' (((h8.fQ l6).fQ l4).fQ l1)
end
end HL
namespace HL
section
variable {w0:World} {F M:Mem} {R:VP} {os:vC} {jt pj mb:Nat} {P:PS V5} {Q:cW} {ob_:Obj} {oW:dL→Option dL}
theorem aKb {a g b k:Int} {X Y:Operand}:(aJ PP w0).bq .neq 33 X Y (.agg #[.int .i64 a,.int .i64 g]) (.agg #[.int .i64 b,.int .i64 k]) = some (.bool (!decide ((a,g) = (b,k)))) :=
 aAS (fun op=>by
  show dT PP (if !(op matches .eql | .neq) then return () else _) = some ()
  cases op <;> first | rfl | (show dT PP (program >>= fun p=>if !(p.eqGuardType p.depth 33) then return () else _) = some ();rw [wO,show (PP.eqGuardType PP.depth 33) = false from by kernel_rfl];rfl)) rfl (aE6 (a,g) (b,k))
theorem aJt {r:dL} {v w:V5} (oJ:cN w0 F jt (jtV pj mb) tJt) (h:HO w0 F M ((mb,ob_)::os) (star (pE pj P) Q)) (hf:dI bV bV oW ob_) (hb:P.l.length≤10000) (hw:P.find r.1 r.2 = some w) (hwv:w.2.2.2 = v.2.2.2) (hby:oW v.2.2.2 = some r)
  (hK:∀ M' ob',dI bV bV oW ob'→HO w0 F M' ((mb,ob')::os) (star (pE pj (P.put r.1.toNat v)) Q)→R (.int .i64 0) M') :
  C PP w0 Id.iQ #[.pointer (some ⟨jt,0,none⟩),.agg #[.int .i64 r.1,.int .i64 r.2],oV v] R M:=by
 obtain ⟨v1,v2,v3,v4,v5⟩:=v
 obtain ⟨w1,w2,w3,w4,w5⟩:=w
 cases hwv
 simp only at hby
 apply iQ.go
 intro aB H
 unfold iQ.T aL
 refine rT h fun b1 F1 M1 l1 lm1 o1 h1=>?_
 refine rT h1 fun b2 F2 M2 l2 lm2 o2 h2=>?_
 have oJ2:=(oJ.le l1).le l2
 have o12:=o1.le l2
 have hlk:∀ {M':Mem} {F':Mem} {A:cW} {os':vC},HO w0 F' M' ((mb,ob_)::os') A→(aJ PP w0).lk 197 (.map (some mb)) (.agg #[.int .i64 v4,.int .i64 v5]) true M' = some (.tuple #[.agg #[.int .i64 r.1,.int .i64 r.2],.bool true]):=fun h=>by
  have:=lkR (r:=(v4,v5)) h List.mem_cons_self hf
  rw [hby] at this;exact this
 simp only [aX,add_eq,Nat.zero_add,J0 oJ2 h2.fr,aC,bK,fF bA (o12.le h2.fr),a9,aT,aK,aS]
 have key:∀ (b3:Nat) (F3 M3:Mem),Mem.le F2 F3→cN w0 F3 b3 (j0 (w1,w2,w3,v4,v5)) tJo→HO w0 F3 M3 ((mb,ob_)::os) (star (pE pj P) Q)→iQ.J1 aB (some ⟨jt,0,none⟩) ⟨b1,0,none⟩ ⟨b2,0,none⟩ ⟨b3,0,none⟩ M3:=by
  intro b3 F3 M3 l3 o3 h3
  refine Eq.mpr (H.J1 ..) ?_
  unfold iQ.J1.T aL
  have hvb:∀ {M':Mem} {e:TypeId},cN w0 M' b3 (j0 (w1,w2,w3,v4,v5)) e→(aJ PP w0).ld 33 ⟨b3,3,none⟩ M' = some (.agg #[.int .i64 v4,.int .i64 v5]):=fun o=>kQ (vs:=[.int .i64 v4,.int .i64 v5]) bA o (qK rfl rfl)
  have hjb:∀ {M':Mem} {e:TypeId},cN w0 M' b2 (j0 (v1,v2,v3,v4,v5)) e→(aJ PP w0).ld 33 ⟨b2,3,none⟩ M' = some (.agg #[.int .i64 v4,.int .i64 v5]):=fun o=>kQ (vs:=[.int .i64 v4,.int .i64 v5]) bA o (qK rfl rfl)
  have oJ3:=oJ2.le l3
  have o13:=o12.le l3
  have o23:=o2.le l3
  simp only [aX,add_eq,Nat.zero_add,J1 oJ3 h3.fr,aC,hvb (o3.le h3.fr),a9,aT,aK,aS]
  obtain ⟨g1,g2⟩:=h3.get List.mem_cons_self
  refine aH9 (k:=(v4,v5)) rfl Tryz.underlying197 oR g1 g2 hf fun oa hfa=>?_
  have h4:=h3.set (o':=oa)
  generalize Mem.set M3 mb _ = M4 at h4 ⊢
  simp only [aX,add_eq,Nat.zero_add,J1 oJ3 h4.fr,aC,hjb (o23.le h4.fr),fF bA (o13.le h4.fr),a9,aT,aK,aS]
  obtain ⟨g3,g4⟩:=h4.get List.mem_cons_self
  refine aGA (kf:=bV) (vf:=bV) (k:=(v4,v5)) (v:=r) Tryz.underlying197 oR g3 g4 hfa fun ob' hf'=>?_
  have h5:=h4.set (o':=ob')
  generalize Mem.set M4 mb _ = M5 at h5 ⊢
  have hup:fV (fV oW (v4,v5) none) (v4,v5) (some r) = oW:=by
   funext k
   unfold fV
   by_cases e:k = (v4,v5)
   ·rw [if_pos e,e,hby]
   ·rw [if_neg e,if_neg e]
  rw [hup] at hf'
  simp only [aX,add_eq,Nat.zero_add,J0 oJ3 h5.fr,aC,bK,fF fW (o23.le h5.fr),fF bA (o13.le h5.fr),a9,aT,aK,aS]
  obtain ⟨F6,hB,l6,back6⟩:=h5.xJ
  refine aFr (v:=(v1,v2,v3,v4,v5)) hB (by omega) hw fun M6 hC=>?_
  rw [aK]
  exact hK M6 ob' hf' ((((back6 M6 _ hC).fQ l3).fQ l2).fQ l1)
 refine ⟨?_,?_⟩
 rotate_left
 refine jJ h2 fun b3 M3 lm3 h3=>?_
 refine ⟨J0 oJ2 h3.fr,fF bA (o12.le h3.fr),?_⟩
 refine aAm h3.h.right (by omega) (fun v hv M4 l4=>?_) (fun hf=>by rw [hw] at hf;cases hf)
 rw [hw] at hv;cases hv
 simp only [cA,aT,a9,aK,aS]
 refine wA (vs:=j0 (w1,w2,w3,v4,v5)) fW (by rfl) (dM _) (h3.le l4) fun F5 M5 l5 o5 h5=>?_
 rotate_left
 refine aAm h2.h (by omega) (fun v hv M4 l4=>?_) (fun hf=>by rw [hw] at hf;cases hf)
 rw [hw] at hv;cases hv
 simp only [cA,aT,a9,aK,aS]
 refine kE (vs:=j0 (w1,w2,w3,v4,v5)) fW (by rfl) (dM _) (h2.le l4) fun b3 F5 M5 l5 o5 h5=>?_
 all_goals
  rw [bX,if_pos rfl]
  have hjb:∀ {M':Mem} {e:TypeId},cN w0 M' b2 (j0 (v1,v2,v3,v4,v5)) e→(aJ PP w0).ld 33 ⟨b2,3,none⟩ M' = some (.agg #[.int .i64 v4,.int .i64 v5]):=fun o=>kQ (vs:=[.int .i64 v4,.int .i64 v5]) bA o (qK rfl rfl)
  have oJ5:=oJ2.le l5
  have o15:=o12.le l5
  have o25:=o2.le l5
  simp only [aX,add_eq,Nat.zero_add,J1 oJ5 h5.fr,aC,hjb (o25.le h5.fr),hlk h5,cA,a9,aT,aK,bT,aS]
  refine jJ h5 fun b6 M6 lm6 h6=>?_
  refine ⟨J1 oJ5 h6.fr,hjb (o25.le h6.fr),hlk h6,?_⟩
  refine wA bA (by rfl) iO h6 fun F7 M7 l7 o7 h7=>?_
  rw [dY]
  simp only [fF bA (o7.le h7.fr),fF bA ((o15.le l7).le h7.fr),aC,a9,aT,aK,aS,aKb,bT]
  simp only [decide_true,Bool.not_true,mY]
  exact key b3 F7 M7 (Mem.le_trans l5 l7) (o5.le l7) h7
theorem aDE {p:Nat} {a g:Int} (h:aA w0 F M (star (pE p P) Q)) (hb:P.l.length≤10000) (hw:P.find a g = none)
  (h1:∀ M' e,aA w0 F M' (star (pE p P) Q)→e≠0→e = P.pl.look a g→R (.tuple #[oV z5,.int .i64 e]) M') :
  C PP w0 Id.gK #[.pointer (some ⟨p,0,none⟩),.agg #[.int .i64 a,.int .i64 g]] R M:=by
 apply gK.go
 unfold gK.T aL
 refine rT (HO.of h) fun b1 F1 M1 l1 lm1 o1 h1'=>?_
 refine jJ h1' fun b3 M2 lm2 h2=>?_
 refine rT h2 fun b5 F3 M3 l3 lm3 o5 h3=>?_
 simp only [fF bA ((o1.le l3).le h3.fr),aC,a9,aT,aK,aS]
 obtain ⟨sL,sF,hO⟩:=pE.open_ h3.h.right
 refine yN hO (by omega) (fun i v blk _ _ hf _ M4 l4=>by rw [hw] at hf;cases hf) fun hf M4 e l4 he hel=>?_
 simp only [cA,aT,bK,aK,aS]
 rw [bX,if_neg he]
 have h4:=h3.le l4
 simp only [fF (vs:=j0 z5) fW (o5.le h4.fr),aC,a9,aT,aK,aS]
 exact jL (vs:=j0 z5) (K:=fun v M=>R (.tuple #[v,.int .i64 e]) M) fW (by rfl) (dM z5) h4 fun M5 h5=>h1 M5 e ((h5.fQ l3).fQ l1).h he hel
theorem aDt {r:dL} {v:V5} (oJ:cN w0 F jt (jtV pj mb) tJt) (h:HO w0 F M ((mb,ob_)::os) (star (pE pj P) Q)) (hf:dI bV bV oW ob_) (hb:P.l.length≤10000) (hfb:P.free.length≤10000) (hw:P.find r.1 r.2 = some v)
  (hK:∀ M' ob',dI bV bV (fV oW v.2.2.2 none) ob'→HO w0 F M' ((mb,ob')::os) (star (pE pj (P.gB z5 r.1.toNat)) Q)→R (.tuple #[oV v,.int .i64 0]) M') :
  C PP w0 Id.lQ #[.pointer (some ⟨jt,0,none⟩),.agg #[.int .i64 r.1,.int .i64 r.2]] R M:=by
 apply lQ.go
 unfold lQ.T aL
 refine rT h fun b1 F1 M1 l1 lm1 o1 h1=>?_
 have oJ1:=oJ.le l1
 refine jJ h1 fun b3 M2 lm2 h2'=>?_
 have h2:=h2'.aY aA.dX
 simp only [aX,add_eq,Nat.zero_add,J0 oJ1 h2.fr,aC,bK,fF bA (o1.le h2.fr),a9,aT,aK,aS]
 refine ⟨?_,?_⟩
 rotate_left
 refine jJ h2 fun b4 M3' l3' h3'=>?_
 refine ⟨J0 oJ1 h3'.fr,fF bA (o1.le h3'.fr),?_⟩
 obtain ⟨F3,hB,l3,back⟩:=(h3'.aY aA.dX).aY aA.dX |>.aAK
 refine aDB hB hb hfb hw fun M3 hC=>?_
 have h3:=back M3 _ hC
 simp only [cA,aT,a9,aK,aS]
 refine wA (vs:=j0 v) fW (by rfl) (dM v) h3 fun F4 M4 l4 o4 h4=>?_
 rotate_left
 obtain ⟨F3,hB,l3,back⟩:=h2.xJ
 refine aDB hB hb hfb hw fun M3 hC=>?_
 have h3:=back M3 _ hC
 simp only [cA,aT,a9,aK,aS]
 refine kE (vs:=j0 v) fW (by rfl) (dM v) h3 fun b4 F4 M4 l4 o4 h4=>?_
 all_goals
  rw [fB,if_pos rfl]
  have hvb:∀ {M':Mem} {e:TypeId},cN w0 M' b4 (j0 v) e→(aJ PP w0).ld 33 ⟨b4,3,none⟩ M' = some (.agg #[.int .i64 v.2.2.2.1,.int .i64 v.2.2.2.2]):=fun o=>kQ (vs:=[.int .i64 v.2.2.2.1,.int .i64 v.2.2.2.2]) bA o (qK rfl rfl)
  simp only [aX,add_eq,Nat.zero_add,J1 (oJ1.le l4) h4.fr,aC,hvb (o4.le h4.fr),a9,aT,aK,aS]
  obtain ⟨g1,g2⟩:=h4.get List.mem_cons_self
  refine aH9 (k:=v.2.2.2) rfl Tryz.underlying197 oR g1 g2 hf fun ob' hf'=>?_
  have h5:=h4.set (o':=ob')
  generalize Mem.set M4 mb _ = M5 at h5 ⊢
  simp only [fF (vs:=j0 v) fW (o4.le h5.fr),aC,a9,aT,aK,aS]
  refine jL (vs:=j0 v) (K:=fun v M=>R (.tuple #[v,.int .i64 0]) M) fW (by rfl) (dM v) (h5.aY aA.dX) fun M6 h6=>?_
  exact hK M6 ob' hf' ((h6.fQ l4).fQ l1)
theorem aA8 {r:dL} (oJ:cN w0 F jt (jtV pj mb) tJt) (h:HO w0 F M os (star (pE pj P) Q)) (hb:P.l.length≤10000) (hw:P.find r.1 r.2 = none)
  (hK:∀ M' e,HO w0 F M' os (star (pE pj P) Q)→e≠0→e = P.pl.look r.1 r.2→R (.tuple #[oV z5,.int .i64 e]) M') :
  C PP w0 Id.lQ #[.pointer (some ⟨jt,0,none⟩),.agg #[.int .i64 r.1,.int .i64 r.2]] R M:=by
 apply lQ.go
 unfold lQ.T aL
 refine rT h fun b1 F1 M1 l1 lm1 o1 h1=>?_
 have oJ1:=oJ.le l1
 refine jJ h1 fun b3 M2 lm2 h2'=>?_
 have h2:=h2'.aY aA.dX
 simp only [aX,add_eq,Nat.zero_add,J0 oJ1 h2.fr,aC,bK,fF bA (o1.le h2.fr),a9,aT,aK,aS]
 refine ⟨?_,?_⟩
 rotate_left
 refine jJ h2 fun b4 M3' l3' h3'=>?_
 refine ⟨J0 oJ1 h3'.fr,fF bA (o1.le h3'.fr),?_⟩
 obtain ⟨F3,hB,l3,back⟩:=(h3'.aY aA.dX).aY aA.dX |>.aAK
 refine aDE hB hb hw fun M3 e hC he hel=>?_
 have h3:=back M3 _ hC
 simp only [oV,cA,aT,a9,aK,aS]
 refine wA (vs:=j0 z5) fW (by rfl) (dM z5) h3 fun F4 M4 l4 o4 h4=>?_
 rotate_left
 obtain ⟨F3,hB,l3,back⟩:=h2.xJ
 refine aDE hB hb hw fun M3 e hC he hel=>?_
 have h3:=back M3 _ hC
 simp only [oV,cA,aT,a9,aK,aS]
 refine kE (vs:=j0 z5) fW (by rfl) (dM z5) h3 fun b4 F4 M4 l4 o4 h4=>?_
 all_goals
  rw [fB,if_neg he]
  simp only [fF (vs:=j0 z5) fW (o4.le h4.fr),aC,a9,aT,aK,aS]
  refine jL (vs:=j0 z5) (K:=fun v M=>R (.tuple #[v,.int .i64 e]) M) fW (by rfl) (dM z5) (h4.aY aA.dX) fun M6 h6=>?_
  exact hK M6 e ((h6.fQ l4).fQ l1) he hel
end
end HL
namespace HL
def qOf (P:PS V5) (r:cY):Int:=match P.find r.1 r.2 with
 | some v=>v.1
 | none=>0
def aAe (P:PS V5) (q:Int) (l:List cY):Nat:=l.countP fun r=>decide (qOf P r = q)
theorem aBf {P:PS V5} {q:Int} {A:List cY} {r:cY}:aAe P q (A ++ [r]) = aAe P q A + if qOf P r = q then 1 else 0:=by
 unfold aAe
 rw [List.countP_append,List.countP_singleton]
 simp only [decide_eq_true_eq]
theorem aFz {P:PS V5} {q:Int} (A:List cY):aAe P q A≤A.length:=List.countP_le_length
theorem xI {ip:PS V5} (hg1:∀ x∈ip.l,x.t = true→1≤x.g) {r:cY} (hr:r∈ip.refs):∃ v,ip.find r.1 r.2 = some v:=by
 obtain ⟨j,x,h1,h2,rfl⟩:=qP.1 hr
 refine ⟨x.v,?_⟩
 simp only [Nat.zero_add]
 refine PS.jT (v:=x.v) ?_ (hg1 x (List.mem_of_getElem? h1) h2)
 rw [h1,←h2]
def xT (P:PS V5) (A:List cY) (f t:Int):PS V5:={ P with l:=P.l.mapIdx fun j x=>if ((j:Int),x.g)∈A∧x.v.1 = f then { x with v:=(t,x.v.2) } else x }
theorem sC (P:PS V5) (A:List cY) (f t:Int) (j:Nat):(xT P A f t).l[j]? = (P.l[j]?).map fun x=>if ((j:Int),x.g)∈A∧x.v.1 = f then { x with v:=(t,x.v.2) } else x:=by
 unfold xT
 rw [List.getElem?_mapIdx]
theorem aJy (P:PS V5) (A:List cY) (f t:Int):(xT P A f t).l.length = P.l.length:=by unfold xT;simp
theorem aJr (P:PS V5) (f t:Int):xT P [] f t = P:=by
 unfold xT
 have:(P.l.mapIdx fun j x=>if ((j:Int),x.g)∈([]:List cY)∧x.v.1 = f then { x with v:=(t,x.v.2) } else x) = P.l:=by
  apply List.ext_getElem?
  intro j
  rw [List.getElem?_mapIdx]
  simp
 rw [this]
theorem aBl {P:PS V5} {A:List cY} {f t b k:Int} {v:V5} (h:P.find b k = some v):(xT P A f t).find b k = some (if (b,k)∈A∧v.1 = f then (t,v.2) else v):=by
 obtain ⟨j,rfl,hj,hk⟩:=PS.bH h
 refine PS.jT ?_ hk
 rw [sC,hj,Option.map_some]
 by_cases hc:((j:Int),k)∈A∧v.1 = f
 ·rw [if_pos hc,if_pos hc]
 ·rw [if_neg hc,if_neg hc]
theorem aKc (P:PS V5) (A:List cY) (f t:Int):(xT P A f t).pl = P.pl:=by
 have key:∀ {β:Type} (g:rQ V5→β),(∀ x v,g { x with v:=v } = g x)→(xT P A f t).l.map g = P.l.map g:=by
  intro β g hf
  apply List.ext_getElem?
  intro j
  rw [List.getElem?_map,List.getElem?_map,sC]
  cases P.l[j]? with
  | none=>rfl
  | some x =>
   simp only [Option.map_some]
   split
   ·rw [hf]
   ·rfl
 unfold PS.pl
 rw [key (·.g) (fun _ _=>rfl),key (·.t) (fun _ _=>rfl),key (fun _=>(0:Int)) (fun _ _=>rfl)]
 rfl
theorem aJm {P:PS V5} {A:List cY} {f t:Int} {r:cY} {v:V5} (hv:P.find r.1 r.2 = some v) (hrA:∀ x∈A,x.1 < r.1) (hvf:v.1 = f):(xT P A f t).put r.1.toNat (t,v.2) = xT P (A ++ [r]) f t:=by
 have hrnA:(r.1,r.2) ∉ A:=fun hm=>by have:=hrA _ hm;simp only at this;omega
 have hvA:(xT P A f t).find r.1 r.2 = some v:=by rw [aBl hv,if_neg (fun h=>hrnA h.1)]
 obtain ⟨j,hj,hjl,hj1⟩:=PS.bH hv
 obtain ⟨j2,hj2,hjl2,_⟩:=PS.bH hvA
 have hjj:r.1.toNat = j:=by rw [hj];exact Int.toNat_natCast j
 have hj22:j2 = j:=by omega
 subst hj22
 unfold PS.put
 rw [hjj,hjl2]
 show ({ xT P A f t with l:=(xT P A f t).l.set j2 ⟨r.2,true,(t,v.2)⟩ }:PS V5) = _
 have hl:(xT P A f t).l.set j2 ⟨r.2,true,(t,v.2)⟩ = (xT P (A ++ [r]) f t).l:=by
  apply List.ext_getElem?
  intro i
  by_cases hi:j2 = i
  ·subst hi
   rw [List.getElem?_set_self (List.getElem?_eq_some_iff.1 hjl2).1,sC,hjl,Option.map_some,if_pos (by
    have:((j2:Int),r.2) = r:=Prod.ext hj.symm rfl
    rw [this];exact ⟨by simp,hvf⟩)]
  ·rw [List.getElem?_set_ne hi,sC,sC]
   cases hx:P.l[i]? with
   | none=>rfl
   | some x =>
    simp only [Option.map_some]
    have:((i:Int),x.g)∈A ++ [r]↔((i:Int),x.g)∈A:=by
     rw [List.mem_append,List.mem_singleton]
     constructor
     ·rintro (h | h)
      ·exact h
      ·have:=congrArg Prod.fst h
       simp only at this
       omega
     ·exact .inl
    by_cases hc:((i:Int),x.g)∈A∧x.v.1 = f
    ·rw [if_pos hc,if_pos ⟨this.2 hc.1,hc.2⟩]
    ·rw [if_neg hc,if_neg (fun h=>hc ⟨this.1 h.1,h.2⟩)]
 rw [hl];rfl
theorem aIv {P:PS V5} {A:List cY} {f t:Int} {r:cY} {v:V5} (hv:P.find r.1 r.2 = some v) (hvf:v.1≠f):xT P (A ++ [r]) f t = xT P A f t:=by
 obtain ⟨j,hj,hjl,hj1⟩:=PS.bH hv
 have hl:(xT P (A ++ [r]) f t).l = (xT P A f t).l:=by
  apply List.ext_getElem?
  intro i
  rw [sC,sC]
  cases hx:P.l[i]? with
  | none=>rfl
  | some x =>
   simp only [Option.map_some]
   have:(((i:Int),x.g)∈A ++ [r]∧x.v.1 = f)↔(((i:Int),x.g)∈A∧x.v.1 = f):=by
    rw [List.mem_append,List.mem_singleton]
    constructor
    ·rintro ⟨h | h,h2⟩
     ·exact ⟨h,h2⟩
     ·have h1:=congrArg Prod.fst h
      simp only at h1
      have hij:i = j:=by omega
      subst hij
      rw [hx] at hjl
      cases hjl
      exact absurd h2 hvf
    ·rintro ⟨h,h2⟩;exact ⟨.inl h,h2⟩
   by_cases hc:((i:Int),x.g)∈A∧x.v.1 = f
   ·rw [if_pos hc,if_pos (this.2 hc)]
   ·rw [if_neg hc,if_neg (fun h=>hc (this.1 h))]
 show ({ P with l:=(xT P (A ++ [r]) f t).l }:PS V5) = { P with l:=(xT P A f t).l }
 rw [hl]
section
variable {w0:World} {F M:Mem} {R:VP} {os:vC} {jt pj mb:Nat} {P:PS V5} {Q:cW} {ob_:Obj} {oW:dL→Option dL}
theorem aFi {a g:Int} {v:V5} {p:Nat} (h:aA w0 F M (star (pE p P) Q)) (hb:P.l.length≤100000) (hw:P.find a g = some v) (h1:∀ M',Mem.le M M'→R (.tuple #[oV v,.int .i64 0]) M') :
  C PP w0 Id.jS #[.pointer (some ⟨p,0,none⟩),.agg #[.int .i64 a,.int .i64 g]] R M :=
 aAm h hb (fun v' hv=>by rw [hw] at hv;cases hv;exact h1) (fun hf=>by rw [hw] at hf;cases hf)
theorem aGv {q:Int} (oJ:cN w0 F jt (jtV pj mb) tJt) (h:HO w0 F M os (star (pE pj P) Q)) (hb:P.l.length≤10000) (hg1:∀ x∈P.l,x.t = true→1≤x.g)
  (hK:∀ M',HO w0 F M' os (star (pE pj P) Q)→R (.int .i64 (aAe P q P.refs)) M') :
  C PP w0 Id.eP #[.pointer (some ⟨jt,0,none⟩),.int .i64 q] R M:=by
 apply eP.go
 intro aB H
 unfold eP.T aL
 have hrl:P.refs.length≤10000:=Nat.le_trans (pQ P.l 0) hb
 have key:∀ (B A:List cY) (s:SV) (F3 M3:Mem) (kk:Nat),P.refs = A ++ B→Mem.le F F3→HO w0 F3 M3 os (star (Es s P.refs) (star (pE pj P) Q))→B.length < kk→eP.L1 aB kk (some ⟨jt,0,none⟩) q (aAe P q A:Int) s ((s.n:Nat):Int) (A.length:Int) M3:=by
  intro B
  induction B with
  | nil =>
   intro A s F3 M3 kk he l3 h3 hk
   obtain ⟨kk,rfl⟩:∃ j,kk = j + 1:=⟨kk - 1,by omega⟩
   rw [List.append_nil] at he
   have hsn:=h3.h.xX.len
   refine Eq.mpr (H.L1 ..) ?_
   unfold eP.L1.T aL
   rw [eK,if_neg (by rw [hsn,he];omega),←he]
   exact hK M3 ((h3.aY fun h=>h.right).fQ l3)
  | cons r B ih =>
   intro A s F3 M3 kk he l3 h3 hk
   obtain ⟨kk,rfl⟩:∃ j,kk = j + 1:=⟨kk - 1,by omega⟩
   have ll:=congrArg List.length he
   simp only [List.length_append,List.length_cons] at ll hk
   have hsn:=h3.h.xX.len
   have hget:(P.refs)[A.length]? = some r:=by rw [he];simp
   have hrm:r∈P.refs:=by rw [he];simp
   obtain ⟨v,hv⟩:=xI hg1 hrm
   have hqv:qOf P r = v.1:=by unfold qOf;rw [hv]
   have hcl:=aFz (P:=P) (q:=q) A
   refine Eq.mpr (H.L1 ..) ?_
   unfold eP.L1.T aL
   rw [eK,if_pos (by omega)]
   refine aJx (x:=r) h3.h.xX (Mem.le_refl _) A.length rfl hget ?_
   refine kE bA (by rfl) iO h3 fun b4 F4 M4 l4 o4 h4=>?_
   have oJ4:=(oJ.le l3).le l4
   simp only [aX,add_eq,Nat.zero_add,J0 oJ4 h4.fr,aC,bK,fF bA (o4.le h4.fr),a9,aT,aK,aS]
   refine ⟨?_,?_⟩
   rotate_left
   refine jJ h4 fun b5 M5 l5 h5=>?_
   refine ⟨J0 oJ4 h5.fr,fF bA (o4.le h5.fr),?_⟩
   refine aFi h5.h.right.right (by omega) hv fun M6 l6=>?_
   simp only [oV,cA,aT,a9,aK,aS]
   refine wA (vs:=j0 v) fW (by rfl) (dM v) (h5.le l6) fun F7 M7 l7 o7 h7=>?_
   rotate_left
   refine aFi h4.h.right (by omega) hv fun M6 l6=>?_
   simp only [oV,cA,aT,a9,aK,aS]
   refine kE (vs:=j0 v) fW (by rfl) (dM v) (h4.le l6) fun b5 F7 M7 l7 o7 h7=>?_
   all_goals
    simp only [mQ W.c3 (o7.le h7.fr) (o:=0) rfl,aC,aK,cX (show A.length < 4611686018427387904 by omega),cX (show aAe P q A < 4611686018427387904 by omega)]
    have:=ih (A ++ [r]) s F7 M7 kk (by rw [he];simp) (Mem.le_trans l3 (Mem.le_trans l4 l7)) h7 (by omega)
    rw [List.length_append,List.length_singleton,aBf,hqv] at this
    rw [fB]
    split
    ·rename_i hc
     rw [if_pos hc] at this
     exact this
    ·rename_i hc
     rw [if_neg hc,Nat.add_zero] at this
     exact this
 simp only [aX,add_eq,Nat.zero_add,J0 oJ h.fr,aC,bK]
 obtain ⟨F1,hB,l1,back⟩:=h.xJ
 refine aFu hB (by omega) fun M2 s2 lm2 h2=>?_
 rw [aR]
 have:=key P.refs [] s2 F M2 (P.refs.length + 1) rfl (Mem.le_refl _) (back M2 _ h2) (by omega)
 exact ⟨_,this⟩
theorem aH0 {f t:Int} (oJ:cN w0 F jt (jtV pj mb) tJt) (h:HO w0 F M os (star (pE pj P) Q)) (hb:P.l.length≤10000) (hg1:∀ x∈P.l,x.t = true→1≤x.g)
  (hK:∀ M',HO w0 F M' os (star (pE pj (xT P P.refs f t)) Q)→R (.int .i64 (aAe P f P.refs)) M') :
  C PP w0 Id.fZ #[.pointer (some ⟨jt,0,none⟩),.int .i64 f,.int .i64 t] R M:=by
 apply fZ.go
 intro aB H
 unfold fZ.T aL
 have hrl:P.refs.length≤10000:=Nat.le_trans (pQ P.l 0) hb
 have hrn:=yG P.l 0
 change (P.refs).Pairwise _ at hrn
 have key:∀ (B A:List cY) (s:SV) (F3 M3:Mem) (kk:Nat),P.refs = A ++ B→Mem.le F F3→HO w0 F3 M3 os (star (Es s P.refs) (star (pE pj (xT P A f t)) Q))→B.length < kk→fZ.L1 aB kk (some ⟨jt,0,none⟩) f t (aAe P f A:Int) s ((s.n:Nat):Int) (A.length:Int) M3:=by
  intro B
  induction B with
  | nil =>
   intro A s F3 M3 kk he l3 h3 hk
   obtain ⟨kk,rfl⟩:∃ j,kk = j + 1:=⟨kk - 1,by omega⟩
   rw [List.append_nil] at he
   have hsn:=h3.h.xX.len
   refine Eq.mpr (H.L1 ..) ?_
   unfold fZ.L1.T aL
   rw [eK,if_neg (by rw [hsn,he];omega)]
   rw [←he] at h3 ⊢
   exact hK M3 ((h3.aY fun h=>h.right).fQ l3)
  | cons r B ih =>
   intro A s F3 M3 kk he l3 h3 hk
   obtain ⟨kk,rfl⟩:∃ j,kk = j + 1:=⟨kk - 1,by omega⟩
   have ll:=congrArg List.length he
   simp only [List.length_append,List.length_cons] at ll hk
   have hsn:=h3.h.xX.len
   have hget:(P.refs)[A.length]? = some r:=by rw [he];simp
   have hrm:r∈P.refs:=by rw [he];simp
   obtain ⟨v,hv⟩:=xI hg1 hrm
   have hqv:qOf P r = v.1:=by unfold qOf;rw [hv]
   have hcl:=aFz (P:=P) (q:=f) A
   have hrA:∀ x∈A,x.1 < r.1:=fun x hx=>by
    rw [he] at hrn
    exact (List.pairwise_append.1 hrn).2.2 x hx r List.mem_cons_self
   have hrnA:(r.1,r.2) ∉ A:=fun hm=>by have:=hrA _ hm;simp only at this;omega
   have hvA:(xT P A f t).find r.1 r.2 = some v:=by rw [aBl hv,if_neg (fun h=>hrnA h.1)]
   have hlA:(xT P A f t).l.length≤10000:=by rw [aJy];omega
   refine Eq.mpr (H.L1 ..) ?_
   unfold fZ.L1.T aL
   rw [eK,if_pos (by omega)]
   refine aJx (x:=r) h3.h.xX (Mem.le_refl _) A.length rfl hget ?_
   refine kE bA (by rfl) iO h3 fun b4 F4 M4 l4 o4 h4=>?_
   have oJ4:=(oJ.le l3).le l4
   simp only [aX,add_eq,Nat.zero_add,J0 oJ4 h4.fr,aC,bK,fF bA (o4.le h4.fr),a9,aT,aK,aS]
   refine ⟨?_,?_⟩
   rotate_left
   refine jJ h4 fun b5 M5 l5 h5=>?_
   refine ⟨J0 oJ4 h5.fr,fF bA (o4.le h5.fr),?_⟩
   refine aFi h5.h.right.right (by omega) hvA fun M6 l6=>?_
   simp only [oV,cA,aT,a9,aK,aS]
   refine stW (vs:=j0 v) fW (by rfl) (dM v) (h5.le l6) fun M7 h7=>?_
   rotate_left
   refine aFi h4.h.right (by omega) hvA fun M6 l6=>?_
   simp only [oV,cA,aT,a9,aK,aS]
   refine jJ (h4.le l6) fun b5 M5 l5 h5=>?_
   refine stW (vs:=j0 v) fW (by rfl) (dM v) h5 fun M7 h7=>?_
   all_goals
    simp only [mQ W.c3 h7.h.aZ (o:=0) rfl,aC,aK,cX (show A.length < 4611686018427387904 by omega),cX (show aAe P f A < 4611686018427387904 by omega)]
    rw [fB]
    split
    ·rename_i hc
     refine aCi (o:=0) W.c3 (by simp) rfl rfl h7 fun M8 h8=>?_
     change HO w0 F4 M8 _ (star (aW b5 (j0 (t,v.2)) _) _) at h8
     simp only [aX,add_eq,Nat.zero_add,J0 oJ4 h8.fr,aC,bK,fF bA (o4.le h8.fr),fF (vs:=j0 (t,v.2)) fW h8.h.aZ,a9,aT,aK,aS]
     obtain ⟨F9,hB,l9,back9⟩:=h8.aKi (A:=aW b5 _ _) (B:=Es s P.refs)
     refine aFr (v:=(t,v.2)) hB (by omega) hvA fun M9 hC=>?_
     rw [aK]
     have h9:=(back9 M9 _ hC).aY fun h=>h.right
     rw [aJm hv hrA hc] at h9
     have:=ih (A ++ [r]) s F4 M9 kk (by rw [he];simp) (Mem.le_trans l3 l4) h9 (by omega)
     rw [List.length_append,List.length_singleton,aBf,hqv,if_pos hc] at this
     exact this
    ·rename_i hc
     have h8:=h7.aY fun h=>h.right
     rw [←aIv (A:=A) (t:=t) hv hc] at h8
     have:=ih (A ++ [r]) s F4 M7 kk (by rw [he];simp) (Mem.le_trans l3 l4) h8 (by omega)
     rw [List.length_append,List.length_singleton,aBf,hqv,if_neg hc,Nat.add_zero] at this
     exact this
 simp only [aX,add_eq,Nat.zero_add,J0 oJ h.fr,aC,bK]
 obtain ⟨F1,hB,l1,back⟩:=h.xJ
 refine aFu hB (by omega) fun M2 s2 lm2 h2=>?_
 rw [aR]
 have:=key P.refs [] s2 F M2 (P.refs.length + 1) rfl (Mem.le_refl _) (by rw [aJr];exact back M2 _ h2) (by omega)
 exact ⟨_,this⟩
end
end HL
end Go.Proofs.YtodobkbnmjgkdaaGreat
