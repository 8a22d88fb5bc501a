import Derived.Test.YtodobkbnmjgkdaaGreatPe20
namespace Go.Proofs.YtodobkbnmjgkdaaGreat
open Go.RowKit (Below)
set_option linter.unusedVariables false
set_option linter.unusedSimpArgs false
set_option maxRecDepth 100000
set_option maxHeartbeats 1000000
namespace HL
namespace ST
def kA (l:List Tn):List Tn:=l.filter fun t=>t.k != 0
def k0 (l:List Tn):List Tn:=l.filter fun t=>t.k == 0
theorem aIH (l:List Tn):(kA l ++ k0 l).Perm l:=by
 unfold kA k0
 induction l with
 | nil=>exact List.Perm.refl _
 | cons t l ih =>
  by_cases h:t.k = 0
  ·rw [List.filter_cons_of_neg (by simp [h]),List.filter_cons_of_pos (by simp [h])]
   exact List.perm_middle.trans (ih.cons t)
  ·rw [List.filter_cons_of_pos (by simp [h]),List.filter_cons_of_neg (by simp [h])]
   exact ih.cons t
theorem aH1 (l:List Tn):(kA l).length = l.countP fun t=>t.k != 0:=by
 unfold kA;rw [List.countP_eq_length_filter]
end ST
section
variable {w0:World} {M F:Mem} {R:VP} {a:Nat} {α:AS}
open Go.Proofs.YtodobkbnmjgkdaaGreat.HL.ST
theorem aJi {s:SV} {f:Nat→cH} {A B:List Tn} {t:Tn} (hA:aA w0 F M (star (pS s ((aY ((A ++ t::B).map (·.n))).map (Value.int .i64))) (aF a α))) (hG:nM 2 α f A t B) {m:Nat} (hm:(aS (A ++ t::B)).length≤m)
  (h:∀ M' β f' l',aA w0 F M' (aF a β)→St β (-1) (fo l')→Lb β f' (aS l')→(aS l').Perm (aS (A ++ B) ++ aP t.c)→((aS l').map f').Perm ((aS (A ++ B) ++ aP t.c).map f)→(∀ u∈l',x3 2 u)→(∀ u∈l',y3 f' u)→Wk l'→AS.lT (fun c=>c∈bG f (aS (A ++ t::B))) (· = t.n) (-1) (200 * bl m + 100) α β→β.get (f t.n).1 9 = -1→R (.tuple #[.int .i64 (fo l').root,.int .i64 ((f t.n).1:Int)]) M') :
  C PP w0 Id.wF #[.pointer (some ⟨a,0,none⟩),SV.v s,.int .i64 (t.n:Int)] R M:=by
 apply wF.go
 intro aB H
 unfold wF.T aH
 obtain ⟨b1,b2,b3,b4,b5,b6⟩:=hG.lens hm
 intro bx hbx hwx
 have h1:aA w0 F _ (star (bA bx [.int .i64 (t.n:Int)] 3) _):=hA.new hbx hwx [.int .i64 (t.n:Int)] 3
 generalize M.set bx _ = M1 at h1 ⊢
 obtain ⟨F1,hle1,hown,h2⟩:=aA.fY h1
 have hld:∀ M',Mem.le F1 M'→(aJ PP w0).ld 3 ⟨bx,0,none⟩ M' = some (.int .i64 (t.n:Int)):=fun M' hM=>by
  rw [aR W.c3];exact aN (o:=0) (hown.le hM)
 refine hG.rest (kf:=(Id.v8,#[.pointer (some ⟨bx,0,none⟩)])) h2 (fun y M' R' hM hR'=>?_) fun M2 s2 h3=>?_
 ·show C PP w0 Id.v8 #[.int .i64 y,.pointer (some ⟨bx,0,none⟩)] R' M'
  apply v8.go
  unfold v8.T aH
  rw [hld M' hM,aC,aL]
  exact hR'
 ·rw [aM,hld M2 h3.fr,aC,aL]
  obtain ⟨F2,hB,hle2,back⟩:=h3.last
  have hnc:(aP t.c).Nodup:=(List.nodup_append.1 (List.nodup_cons.1 hG.nn).2).2.1
  have htl:∀ n∈eX t,α.live n = true:=fun n hn=>(hG.lb n (eK.2 ⟨t,hG.mem,hn⟩)).ln
  refine aFX hB (hG.st t hG.mem) htl hnc fun M3 s3 β hB3 hsm3=>?_
  have h4:=back M3 _ hB3
  rw [aM]
  have hi:=hA.right.inv
  have htk:∀ u∈dD t.c,u.n∈eX t:=fun u hu=>List.mem_cons_of_mem _ (by rw [←bT];exact iO hu)
  obtain ⟨F3,hle3,h5,hrk⟩:=(h4.dY).freeze (m4 fun x hx=>by
   obtain ⟨u,hu,rfl⟩:=List.mem_map.1 hx
   have h5:=AS.cJ hi (htl u.n (htk u hu))
   have:=hi.n
   omega) (by simp [aY];omega)
  have hGβ:=hG.sm hsm3
  have hkn:=hrk.len
  simp only [aY,List.length_map] at hkn
  have fin:∀ (M4:Mem) (sR sA:SV) (γ:AS),aA w0 F3 M4 (star (pS sA ((aY ((k0 (dD t.c)).map (·.n))).map (Value.int .i64))) (star (pS sR ((aY (((A ++ B) ++ kA (dD t.c)).map (·.n))).map (Value.int .i64))) (aF a γ)))→AS.Sm (2 * (dD t.c).length + 1) α γ →
    ob ((aJ PP w0).ld 3 ⟨bx,0,none⟩ M4) fun v30=>mZ .i64 v30 fun n31=>C PP w0 Id.lP #[.pointer (some ⟨a,0,none⟩),.int .i64 n31] (fun v32 M33=>mZ .i64 v32 fun n34=>C PP w0 Id.nN #[.pointer (some ⟨a,0,none⟩),SV.v sR] (fun v35 M36=>mZ .i64 v35 fun n37=>∃ k38,wF.L2 aB k38 (some ⟨a,0,none⟩) n34 n37 sA ((sA.n:Nat):Int) 0 M36) M33) M4:=by
   intro M4 sR sA γ hH hsm
   have hGγ:=hG.sm hsm
   rw [hld M4 (Mem.le_trans hle3 hH.fr),aC,aL]
   have hiγ:=hH.right.right.inv
   have hkmem:∀ u,u∈kA (dD t.c)∨u∈k0 (dD t.c)→u∈dD t.c:=fun u hu=>(aIH (dD t.c)).mem_iff.1 (List.mem_append.2 hu)
   obtain ⟨F4,hle4,h6,hrA⟩:=hH.freeze (m4 fun x hx=>by
    obtain ⟨u,hu,rfl⟩:=List.mem_map.1 hx
    have h5:=AS.cJ hi (htl u.n (htk u (hkmem u (.inr hu))))
    have:=hi.n
    omega) (by have:=(aIH (dD t.c)).length_eq;rw [List.length_append] at this;simp [aY];omega)
   have hsAn:=hrA.len
   simp only [aY,List.length_map] at hsAn
   obtain ⟨F5,hB5,hle5,back5⟩:=h6.last
   refine aFh hB5 hGγ.tn fun M5 δ hB6 hs6=>?_
   have h7:=back5 M5 _ hB6
   rw [aL]
   obtain ⟨e1,e2,e3⟩:=hGγ.ended hiγ hs6
   have hperm:(aS ((A ++ B) ++ kA (dD t.c)) ++ aS (k0 (dD t.c))).Perm (aS (A ++ B) ++ aP t.c):=by
    rw [lS,List.append_assoc]
    refine List.Perm.append_left _ ?_
    rw [←lS,←bT]
    exact uK (aIH _)
   have hrn:(bG f (aS ((A ++ B) ++ kA (dD t.c)) ++ aS (k0 (dD t.c)))).Nodup:=by
    refine (kE hperm).nodup_iff.2 ?_
    have:=hG.cel.nodup_iff.1 hG.nd
    unfold bG at this ⊢
    rw [List.map_cons,List.nodup_append] at this
    obtain ⟨n1,n2,n3⟩:=this
    exact List.nodup_append.2 ⟨(List.nodup_cons.1 n1).2,(List.nodup_cons.1 n2).2,fun x hx y hy=>n3 x (List.mem_cons_of_mem _ hx) y (List.mem_cons_of_mem _ hy)⟩
   have hrest:∀ x∈aS ((A ++ B) ++ kA (dD t.c)) ++ aS (k0 (dD t.c)),x∈bG f (aS (A ++ B) ++ aP t.c):=fun x hx=>List.mem_append_left _ (hperm.mem_iff.1 hx)
   have hlbδ:Lb δ f (aS ((A ++ B) ++ kA (dD t.c)) ++ aS (k0 (dD t.c))):=by
    have h9:Lb δ f (aS (A ++ B) ++ aP t.c):=(hGγ.lb.sub fun x hx=>(qN A B t).mem_iff.2 (List.mem_cons_of_mem _ hx)).congr (fun c hc g _=>(e3 c hc).1 g) (fun c hc=>(e3 c hc).2)
    exact h9.sub fun x hx=>hperm.mem_iff.1 hx
   have hst1:∀ u,(u∈A ++ B∨u∈dD t.c)→zS γ u:=fun u hu=>by
    rcases hu with h | h
    ·exact hGγ.st u (by rcases List.mem_append.1 h with h | h <;> simp [h])
    ·exact (hGγ.st t hG.mem).2.2.dD u h
   have hmem:∀ u,(u∈A ++ B∨u∈dD t.c)→∀ x∈eX u,x∈bG f (aS (A ++ B) ++ aP t.c):=fun u hu x hx=>by
    refine List.mem_append_left _ (List.mem_append.2 ?_)
    rcases hu with h | h
    ·exact .inl (eK.2 ⟨u,h,hx⟩)
    ·exact .inr (by rw [←bT];exact eK.2 ⟨u,h,hx⟩)
   have hstδ:∀ u,(u∈A ++ B∨u∈dD t.c)→zS δ u:=fun u hu=>by
    have h8:=hst1 u hu
    refine ⟨?_,?_,h8.2.2.congr fun x hx y _=>(e3 x (hmem u hu x (List.mem_cons_of_mem _ hx))).1 y⟩
    ·rw [(e3 u.n (hmem u hu u.n List.mem_cons_self)).1];exact h8.1
    ·rw [(e3 u.n (hmem u hu u.n List.mem_cons_self)).1];exact h8.2.1
   have hcls:∀ u,u∈(A ++ B) ++ kA (dD t.c)→(u∈A ++ B∨u∈dD t.c):=fun u hu=>by
    rcases List.mem_append.1 hu with h | h
    ·exact .inl h
    ·exact .inr (hkmem u (.inl h))
   have hokr:∀ u,(u∈A ++ B∨u∈dD t.c)→x3 2 u:=fun u hu=>by
    rcases hu with h | h
    ·exact hG.ok u (by rcases List.mem_append.1 h with h | h <;> simp [h])
    ·exact gA.1 (hG.ok t hG.mem).2 u h
   have hodr:∀ u,(u∈A ++ B∨u∈dD t.c)→y3 f u:=fun u hu=>by
    rcases hu with h | h
    ·exact hG.od u h
    ·exact qA.1 hG.odt u h
   obtain ⟨F6,hle6,hB7,hr7⟩:=h7.freeze (m4 fun x hx=>by
    obtain ⟨u,hu,rfl⟩:=List.mem_map.1 hx
    have:=AS.cJ h7.right.inv (hlbδ u.n (List.mem_append_left _ (iO hu))).ln
    have:=h7.right.inv.n
    omega) (by have:=aH1 (dD t.c);simp [aY];omega)
   have hln:((A ++ B) ++ kA (dD t.c)).length≤8 + t.k:=by rw [List.length_append,List.length_append,aH1];omega
   have hc1:(bG f (aS ((A ++ B) ++ kA (dD t.c)))).Nodup:=((zH f _ _).nodup_iff.1 hrn |> List.nodup_append.1).1
   refine wW hB7 (by decide) hr7 (fun u hu=>hstδ u (hcls u hu)) (hlbδ.sub fun x hx=>List.mem_append_left _ hx) hc1 (fun u hu=>hokr u (hcls u hu)) (fun u hu=>hodr u (hcls u hu)) (by omega) fun M6 ε l1 hC hst' hp' hok' hod' hrs' hc' hg'=>?_
   rw [aL]
   have hrA6:qO w0 F6 .i64 sA (aY ((k0 (dD t.c)).map (·.n))):=(hrA.le (M1:=F6) hle6)
   have hnnr:=iK hrn
   have key:∀ (P2 P1:List Tn) (M7:Mem) (ζ:AS) (f1:Nat→cH) (l2:List Tn) (k:Nat),k0 (dD t.c) = P1 ++ P2→aA w0 F6 M7 (aF a ζ)→St ζ (-1) (fo l2)→Lb ζ f1 (aS l2)→(aS l2).Perm (aS ((A ++ B) ++ kA (dD t.c)) ++ aS P1)→((aS l2).map f1).Perm ((aS ((A ++ B) ++ kA (dD t.c)) ++ aS P1).map f)→(∀ x,x ∉ aS l2→f1 x = f x) →
     (∀ u∈l2,x3 2 u)→(∀ u∈l2,y3 f1 u)→Wk l2→AS.n9 (fun c=>c∈bG f (aS ((A ++ B) ++ kA (dD t.c)) ++ aS P1)) (14 * (8 + t.k) + 40 * P1.length) δ ζ→P2.length < k→wF.L2 aB k (some ⟨a,0,none⟩) ((f t.n).1:Int) (fo l2).root sA ((sA.n:Nat):Int) (P1.length:Int) M7:=by
    intro P2
    induction P2 with
    | nil =>
     intro P1 M7 ζ f1 l2 k he hZ hsz hlz hpz hmz hfz hokz hodz hwkz hcz hk
     obtain ⟨k,rfl⟩:∃ j,k = j + 1:=⟨k - 1,by omega⟩
     rw [List.append_nil] at he
     refine Eq.mpr (H.L2 ..) ?_
     unfold wF.L2.T aH
     have hPl:P1.length = (k0 (dD t.c)).length:=by rw [he]
     rw [cR,if_neg (by omega)]
     rw [←he] at hpz hmz hcz
     refine h M7 ζ f1 l2 ((((hZ.fO hle6).fO hle4).fO hle3).fO hle1) hsz hlz (hpz.trans hperm) (hmz.trans (hperm.map f)) hokz hodz hwkz ?_ ?_
     ·have hk0l:(k0 (dD t.c)).length≤(dD t.c).length:=List.length_filter_le _ _
      refine (((hsm.pZ.trans e1).trans ((hcz.mono (T:=fun c=>c∈bG f (aS (A ++ t::B))) (fun c hc=>hG.sub c ((kE hperm).mem_iff.1 hc)) (Int.le_refl _)).pZ)).mono (fun _ h=>h) (fun _ h=>h) ?_).to (by omega)
      omega
     ·rw [hcz.get _ (fun hc=>(hG.apart _ ((kE hperm).mem_iff.1 hc)).2 rfl)];exact e2
    | cons u P2 ih =>
     intro P1 M7 ζ f1 l2 k he hZ hsz hlz hpz hmz hfz hokz hodz hwkz hcz hk
     obtain ⟨k,rfl⟩:∃ j,k = j + 1:=⟨k - 1,by omega⟩
     have ll:=congrArg List.length he
     simp only [List.length_append,List.length_cons] at ll hk
     have hu0:u∈k0 (dD t.c):=by rw [he];simp
     have hk0l:(k0 (dD t.c)).length≤(dD t.c).length:=List.length_filter_le _ _
     have hut:u∈dD t.c:=hkmem u (.inr hu0)
     have huk:u.k = 0:=by
      have:=(List.mem_filter.1 hu0).2
      simpa using this
     have huc:u.c = .nil:=aJm (hokr u (.inr hut)) huk
     have hun:eX u = [u.n]:=by unfold eX;rw [huc];rfl
     refine Eq.mpr (H.L2 ..) ?_
     unfold wF.L2.T aH
     rw [cR,if_pos (by omega)]
     refine rdx (x:=(u.n:Int)) W.c3 hrA6 hZ.fr P1.length rfl (by rw [he];simp [aY]) ?_
     have hbig:(aS ((A ++ B) ++ kA (dD t.c)) ++ aS (P1 ++ u::P2)).Nodup:=by rw [←he];exact hnnr
     have hsub2:(aS ((A ++ B) ++ kA (dD t.c)) ++ (aS P1 ++ (u.n::aS P2))) = aS ((A ++ B) ++ kA (dD t.c)) ++ aS (P1 ++ u::P2):=by
      rw [lS P1]
      show _ = _ ++ (aS P1 ++ (eX u ++ aS P2))
      rw [hun];rfl
     have hcelu:(bG f (u.n::(aS ((A ++ B) ++ kA (dD t.c)) ++ aS P1))).Nodup:=by
      have h8:=hrn
      rw [he,←hsub2,←List.append_assoc] at h8
      have h9:((aS ((A ++ B) ++ kA (dD t.c)) ++ aS P1) ++ u.n::aS P2).Perm ((u.n::(aS ((A ++ B) ++ kA (dD t.c)) ++ aS P1)) ++ aS P2):=List.perm_middle
      have h10:=(kE (f:=f) h9).nodup_iff.1 h8
      exact (List.nodup_append.1 ((zH f _ _).nodup_iff.1 h10)).1
     have hun2:u.n ∉ aS l2:=fun hm=>(List.nodup_cons.1 (iK hcelu)).1 (hpz.mem_iff.1 hm)
     have hf1u:f1 u.n = f u.n:=hfz u.n hun2
     have hP1:(u.n::aS l2).Perm (u.n::(aS ((A ++ B) ++ kA (dD t.c)) ++ aS P1)):=hpz.cons _
     have hM1:((u.n::aS l2).map f1).Perm ((u.n::(aS ((A ++ B) ++ kA (dD t.c)) ++ aS P1)).map f):=by
      rw [List.map_cons,List.map_cons,hf1u]
      exact hmz.cons _
     have hcel2:=uH hP1 hM1
     have hnoS:∀ c,(c = u.n∨c = (f u.n).1)→c ∉ bG f (aS ((A ++ B) ++ kA (dD t.c)) ++ aS P1):=fun c hc hm=>by
      have h8:=hcelu
      unfold bG at h8 hm
      rw [List.map_cons,List.nodup_append] at h8
      obtain ⟨n1,n2,n3⟩:=h8
      rcases hc with rfl | rfl
      ·rcases List.mem_append.1 hm with hm | hm
       ·exact (List.nodup_cons.1 n1).1 hm
       ·exact n3 u.n List.mem_cons_self u.n (List.mem_cons_of_mem _ hm) rfl
      ·rcases List.mem_append.1 hm with hm | hm
       ·exact n3 _ (List.mem_cons_of_mem _ hm) _ List.mem_cons_self rfl
       ·exact (List.nodup_cons.1 n2).1 hm
     have hud:=hstδ u (.inr hut)
     have hζu:∀ y,ζ.get u.n y = δ.get u.n y:=hcz.get u.n (hnoS _ (.inl rfl))
     have hlbu:Lb ζ f1 (u.n::aS l2):=fun x hx=>by
      rcases List.mem_cons.1 hx with rfl | hx
      ·rw [hf1u]
       have h8:=hlbδ u.n (List.mem_append_right _ (iO hu0))
       exact h8.congr hζu (hcz.get _ (hnoS _ (.inr rfl))) (by rw [hcz.live]) (by rw [hcz.live])
      ·exact hlz x hx
     refine aCg hZ (n:=u.n) hsz ?_ ?_ hlbu (hcel2.nodup_iff.2 hcelu) hokz hodz hwkz fun M8 η f2 l3 hE hs3 hl3 hp3 hm3 hf3 hok3 hod3 hwk3 hc3=>?_
     ·rw [hζu,hud.1,huc];rfl
     ·rw [hζu,hud.2.1,huk];rfl
     ·rw [aL,bX (by omega)]
      have hpn:(aS ((A ++ B) ++ kA (dD t.c)) ++ aS (P1 ++ [u])).Perm (u.n::(aS ((A ++ B) ++ kA (dD t.c)) ++ aS P1)):=by
       rw [lS P1,show aS [u] = [u.n] from by simp [aS,hun],←List.append_assoc]
       exact List.perm_append_comm
      have:=ih (P1 ++ [u]) M8 η f2 l3 k (by rw [he];simp) hE hs3 (hl3.sub fun x hx=>hp3.mem_iff.1 hx) ((hp3.trans hP1).trans hpn.symm) (((hp3.map f2).trans hm3).trans (hM1.trans (hpn.map f).symm)) (fun x hx=>?_) hok3 hod3 hwk3 ?_ (by omega)
      ·rw [List.length_append,List.length_singleton] at this
       exact this
      ·have h8:x ∉ u.n::aS l2:=fun hm=>hx (hp3.mem_iff.2 hm)
       rw [hf3 x h8]
       exact hfz x fun hm=>h8 (List.mem_cons_of_mem _ hm)
      ·refine ((hcz.mono (T:=fun c=>c∈bG f (aS ((A ++ B) ++ kA (dD t.c)) ++ aS (P1 ++ [u]))) (fun c hc=>(kE hpn).mem_iff.2 ?_) (Int.le_refl _)).trans (hc3.mono (fun c hc=>(kE hpn).mem_iff.2 (hcel2.mem_iff.1 hc)) (Int.le_refl _))).mono (fun _ h=>h) (by simp;omega)
       unfold bG at hc ⊢
       rw [List.map_cons]
       rcases List.mem_append.1 hc with hc | hc
       ·exact List.mem_append_left _ (List.mem_cons_of_mem _ hc)
       ·exact List.mem_append_right _ (List.mem_cons_of_mem _ hc)
   refine ⟨(k0 (dD t.c)).length + 1,key (k0 (dD t.c)) [] M6 ε f l1 _ rfl hC hst' ?_ ?_ ?_ (fun _ _=>rfl) hok' hod' hrs'.wk ?_ (by omega)⟩
   ·refine (hlbδ.sub fun x hx=>List.mem_append_left _ (hp'.mem_iff.1 hx)).congr (fun c _ g hx=>hg' c g (by omega)) (fun c _=>by rw [hc'.live])
   ·simpa [aS] using hp'
   ·simpa [aS] using hp'.map f
   ·refine hc'.mono (fun c hc=>List.mem_append_left _ (List.mem_append_left _ hc)) ?_
    have h9:=hln
    simp only [List.length_append,List.length_nil] at h9 ⊢
    omega
  have key:∀ (K2 K1:List Tn) (sR sA:SV) (M4:Mem) (γ:AS) (k:Nat),dD t.c = K1 ++ K2→aA w0 F3 M4 (star (pS sA ((aY ((k0 K1).map (·.n))).map (Value.int .i64))) (star (pS sR ((aY (((A ++ B) ++ kA K1).map (·.n))).map (Value.int .i64))) (aF a γ)))→AS.Sm ((dD t.c).length + 1 + K1.length) α γ→K2.length < k →
    wF.L1 aB k (some ⟨a,0,none⟩) ⟨bx,0,none⟩ sR sA s3 ((s3.n:Nat):Int) (K1.length:Int) M4:=by
   intro K2
   induction K2 with
   | nil =>
    intro K1 sR sA M4 γ k he hH hsm hk
    obtain ⟨k,rfl⟩:∃ j,k = j + 1:=⟨k - 1,by omega⟩
    rw [List.append_nil] at he
    refine Eq.mpr (H.L1 ..) ?_
    unfold wF.L1.T aH
    have:K1.length = (dD t.c).length:=by rw [he]
    rw [cR,if_neg (by omega)]
    rw [←he] at hH
    exact fin M4 sR sA γ hH (hsm.mono (by omega))
   | cons u K2 ih =>
    intro K1 sR sA M4 γ k he hH hsm hk
    obtain ⟨k,rfl⟩:∃ j,k = j + 1:=⟨k - 1,by omega⟩
    have ll:=congrArg List.length he
    simp only [List.length_append,List.length_cons] at ll hk
    have hut:u∈dD t.c:=by rw [he];simp
    have hlu:γ.live u.n = true:=by rw [hsm.live];exact htl u.n (htk u hut)
    have hkA:(kA K1).length≤K1.length:=List.length_filter_le _ _
    have hk0:(k0 K1).length≤K1.length:=List.length_filter_le _ _
    refine Eq.mpr (H.L1 ..) ?_
    unfold wF.L1.T aH
    rw [cR,if_pos (by omega)]
    refine rdx (x:=(u.n:Int)) W.c3 hrk hH.fr K1.length rfl (by rw [he];simp [aY]) ?_
    obtain ⟨F4,hB4,hle4,back4⟩:=hH.aKQ
    refine qU hB4 fun M5 hB5=>?_
    have h6:=back4 M5 _ hB5
    rw [show γ.jW (u.n:Int) 4 = (u.k:Int) from by
     rw [show γ.jW (u.n:Int) 4 = γ.get u.n 4 from AS.iV (f:=4) hlu (by omega),hsm.get]
     exact ((hG.st t hG.mem).2.2.dD u hut).2.1]
    rw [aL,fJ]
    have hsm':AS.Sm ((dD t.c).length + 1 + ((K1 ++ [u]).length:Int)) α γ.tick:=(hsm.trans AS.aO).mono (by simp;omega)
    split
    ·rename_i hz
     have hz':u.k = 0:=by omega
     refine zD (K:=fun s27 M26=>wF.L1 aB k _ _ _ s27 _ _ _ M26) h6 (by simp [aY];omega) fun M6 s6 h7=>?_
     rw [bX (by omega)]
     have:=ih (K1 ++ [u]) sR s6 M6 γ.tick k (by rw [he];simp) ?_ hsm' (by omega)
     ·rw [List.length_append,List.length_singleton] at this;exact this
     ·rw [show k0 (K1 ++ [u]) = k0 K1 ++ [u] from by simp [k0,hz'],show kA (K1 ++ [u]) = kA K1 from by simp [kA,hz'],show aY ((k0 K1 ++ [u]).map (·.n)) = aY ((k0 K1).map (·.n)) ++ [(u.n:Int)] from by simp [aY]]
      exact h7
    ·rename_i hz
     have hz':¬ u.k = 0:=by omega
     refine zD (K:=fun s27 M26=>wF.L1 aB k _ _ s27 _ _ _ _ M26) h6.dY (by simp [aY];omega) fun M6 s6 h7=>?_
     rw [bX (by omega)]
     have:=ih (K1 ++ [u]) s6 sA M6 γ.tick k (by rw [he];simp) ?_ hsm' (by omega)
     ·rw [List.length_append,List.length_singleton] at this;exact this
     ·rw [show k0 (K1 ++ [u]) = k0 K1 from by simp [k0,hz'],show kA (K1 ++ [u]) = kA K1 ++ [u] from by simp [kA,hz'],show aY (((A ++ B) ++ (kA K1 ++ [u])).map (·.n)) = aY (((A ++ B) ++ kA K1).map (·.n)) ++ [(u.n:Int)] from by simp [aY]]
      exact h7.dY
  refine ⟨(dD t.c).length + 1,key (dD t.c) [] s2 ⟨none,0,0⟩ M3 β _ rfl ?_ (hsm3.mono (by simp)) (by omega)⟩
  have h8:aA w0 F3 M3 (star (pS s2 ((aY (((A ++ B) ++ kA []).map (·.n))).map (Value.int .i64))) (aF a β)):=by
   simpa [kA] using h5
  exact aA.aFw h8
end
end HL
namespace HL
--COMMON
section
variable {w0:World} {M F:Mem} {R:VP} {a:Nat} {α:AS}
open Go.Proofs.YtodobkbnmjgkdaaGreat.HL.ST
theorem aA.aFK {Q:cI} {s:SV} {l:List Int} (h:aA w0 F M (star (pS s (l.map (Value.int .i64))) Q)) (hw:∀ n∈l,(Lit.int .i64 n).wf = true) (hm:l.length≤1000000):∃ F',aA w0 F' M Q∧Mem.le F F'∧qO w0 F' .i64 s l∧∀ M' Q',aA w0 F' M' Q'→aA w0 F M' (star (pS s (l.map (Value.int .i64))) Q'):=by
 obtain ⟨r,⟨r1,r2,rfl,h1,h2⟩,h3⟩:=h
 have h4:=h3.perm List.perm_append_comm
 obtain ⟨h5,h6⟩:=h4.aside
 have hF:∀ x∈r1,F x.1 = Option.none:=fun x hx=>(h3.at_ x (List.mem_append_left _ hx)).2.1
 refine ⟨ext F r1,⟨r2,h2,h5⟩,yN hF,?_,fun M' Q' ⟨r',g1,g2⟩=>⟨r1 ++ r',⟨r1,r',rfl,h1,g1⟩,(h6 M' r' g2).perm List.perm_append_comm⟩⟩
 have hs:Sl w0 F (ext F r1) s (l.map (Value.int .i64)):=by
  rcases h1 with ⟨rfl,hl,_⟩ | ⟨b,rest,e,e1,rfl⟩
  ·rw [hl];exact Sl.nil
  ·have h6:=h3.at_ (b,l.map (Value.int .i64) ++ rest,e) (by simp)
   refine .inr ⟨b,rest,e,e1,h6.2.1,h6.1,?_⟩
   unfold ext
   simp
 exact hs.rdI hw (by omega)
theorem j7 {m:Nat} {j:Int} (h:j≤400 * (bl m:Int) + 400):j≤dO m:=by unfold dO;omega
theorem y5 {f:Nat→cH} {b:ST} {t:Tn} (ht:t∈dD b) (hn:(aP b).Nodup) (ho:Od f b) (hb:∀ u∈dD b,u.n≠t.n→Bf (f t.n) (f u.n)):∀ x∈aP b,x≠t.n→Bf (f t.n) (f x):=by
 intro x hx hxt
 rw [←bT] at hx
 obtain ⟨u,hu,hxu⟩:=eK.1 hx
 by_cases e:u.n = t.n
 ·have hod:=qA.1 ho u hu
  rcases List.mem_cons.1 hxu with rfl | hxu
  ·exact absurd e hxt
  ·rw [←e];exact hod.1 x hxu
 ·exact (qA.1 ho u hu).le (hb u hu e) x hxu
theorem yS.gone {z:Nat} {r:Int} {f:Nat→cH} {b:ST} {A B:List Tn} {t:Tn} (h:yS z α r f b) (he:dD b = A ++ t::B) (hs:(aP b).length≤300):nM z α f A t B:=by
 have hN:aS (A ++ t::B) = aP b:=by rw [←he,bT]
 refine ⟨fun u hu=>h.st.dD u (by rw [he];exact hu),by rw [hN];exact h.lb,by rw [hN];exact h.nd,fun u hu=>gA.1 h.ok u (by rw [he];exact hu),fun u hu=>qA.1 h.od u (by rw [he];rcases List.mem_append.1 hu with hu | hu <;> simp [hu]),(qA.1 h.od t (by rw [he];simp)).2,by rw [←he];exact h.wk,by rw [hN];exact hs⟩
theorem dW {b:ST} {t:Tn} (h:t∈dD b):t.n∈aP b:=by rw [←bT];exact iO h
theorem uD {b:ST} (h:∀ n∈aP b,n < 1000000):∀ n∈aY ((dD b).map (·.n)),(Lit.int .i64 n).wf = true:=m4 fun x hx=>by
 obtain ⟨t,ht,rfl⟩:=List.mem_map.1 hx
 exact h _ (dW ht)
theorem yS.small {z:Nat} {r:Int} {f:Nat→cH} {b:ST} (h:yS z α r f b) (hi:α.Inv):∀ n∈aP b,n < 1000000:=fun n hn=>by
 have:=AS.cJ hi (h.lb n hn).ln
 have:=hi.n
 omega
theorem yG (b:ST):(dD b).length≤(aP b).length:=by
 induction b with
 | nil=>simp [dD]
 | node n k c s _ ih=>simp only [dD,aP,List.length_cons,List.length_append];omega
theorem aAr {z:Nat} {k:Int} (hk:k = 2∨k = 3) (hz:z = if k = 2 then 1 else 2) {f':Nat→cH} {l':List Tn} {N:List Nat} {L:List cH} (hst:St α (-1) (fo l')) (hlb:Lb α f' (aS l')) (hp:(aS l').Perm N) (hm:((aS l').map f').Perm L) (fW:(fN L N).Nodup) (hok:∀ u∈l',x3 z u) (hod:∀ u∈l',y3 f' u) (hwk:Wk l'):KH k α (fo l').root L N:=by
 refine .inr ⟨hk,f',fo l',⟨rfl,hst,by rw [qW];exact hlb,?_,by rw [←hz];exact aHu.2 hok,by rw [aHV];exact hwk,aHK.2 hod⟩,by rw [qW];exact hm,by rw [qW];exact hp⟩
 rw [qW]
 exact (qD (b:=fo l') (by rw [qW];exact hm) (by rw [qW];exact hp) |>.nodup_iff.2 fW |> fun h=>by rw [qW] at h;exact h)
end
--END
section
variable {w0:World} {M F:Mem} {R:VP} {a:Nat} {α:AS} {r:Int} {f:Nat→cH} {b:ST}
open Go.Proofs.YtodobkbnmjgkdaaGreat.HL.ST
theorem aGA (hA:aA w0 F M (aF a α)) (hp:yS 1 α r f b)
  (h:∀ x,x∈hT f (aP b)→(∀ y∈hT f (aP b),y.1≠x.1→Bf x y)→∀ M' β,aA w0 F M' (aF a β)→AS.Sm (dO (aP b).length) α β→R (.int .i64 (x.1:Int)) M') (eT:aP b≠[]) :
  C PP w0 Id.rO #[.pointer (some ⟨a,0,none⟩),.int .i64 r] R M:=by
 apply rO.go
 unfold rO.T aH
 have hI:=hA.inv
 simp only [go_sem,Option.isNone_some,mE]
 rw [hp.r]
 have hnn:=iK hp.nd
 have hwb:=wA hp.wk (gA.1 hp.ok) (m:=(aP b).length) (by rw [bT];exact Nat.le_refl _)
 have hlen:=m6 α.n _ hnn fun y hy=>AS.cJ hI (hp.lb y hy).ln
 have hI65:=hI.n
 have htl:=yG b
 refine pI hA hp.st (fun n hn=>(hp.lb n hn).ln) hnn fun M1 s β hB hs=>?_
 simp only [go_sem]
 obtain ⟨F',hle,hB1,hr⟩:=hB.freeze (uD (hp.small hI)) (by simp [aY];omega)
 refine aAT hB1 hr (fun t ht=>hs.nd (hp.lb t.n (dW ht))) (fun t ht u hu e=>lH hp.nd _ (dW ht) _ (dW hu) e) (by omega) (fun e=>?_) fun t ht hb M2 γ hC hs2=>?_
 ·cases b with
  | nil=>exact absurd rfl eT
  | node n k c s=>simp [dD] at e
 ·simp only [go_sem]
  have hNt:=(hs.trans hs2).nd (hp.lb t.n (dW ht))
  refine eZ hC fun M3 hC3=>?_
  rw [show γ.fR (t.n:Int) 6 = ((f t.n).1:Int) from AS.dI (f:=6) hNt.ln (by omega) hNt.it (AS.cJ hC.inv hNt.li)]
  simp only [go_sem]
  refine h (f t.n) (List.mem_map.2 ⟨t.n,dW ht,rfl⟩) (fun y hy hyn=>?_) M3 _ (hC3.fO hle) (((hs.trans hs2).trans AS.aO).mono (j7 (by omega)))
  obtain ⟨x,hx,rfl⟩:=List.mem_map.1 hy
  exact y5 ht hnn hp.od hb x hx fun e=>hyn (by rw [e])
theorem aHl (hA:aA w0 F M (aF a α)) (hp:yS 1 α r f b) (eT:aP b≠[]) (h300:(aP b).length≤300)
  (h:∀ x∈aP b,(∀ y∈aP b,y≠x→Bf (f x) (f y))→∀ L N,(hT f (aP b)).Perm (f x::L)→(aP b).Perm (x::N)→∀ M' β r',aA w0 F M' (aF a β)→KH 2 β r' L N→AS.lT (fun c=>c∈bG f (aP b)) (· = x) (-1) (dO (aP b).length) α β→β.get (f x).1 9 = -1→R (.tuple #[.int .i64 r',.int .i64 ((f x).1:Int)]) M') :
  C PP w0 Id.jT #[.pointer (some ⟨a,0,none⟩),.int .i64 r] R M:=by
 apply jT.go
 intro aB H
 unfold jT.T aH
 have hI:=hA.inv
 simp only [go_sem,Option.isNone_some,mE]
 have hnn:=iK hp.nd
 have hroot:∃ n:Nat,r = (n:Int)∧n∈aP b:=by
  rw [hp.r]
  cases b with
  | nil=>exact absurd rfl eT
  | node n k c s=>exact ⟨n,rfl,by simp [aP]⟩
 obtain ⟨n,hrn,hnb⟩:=hroot
 refine xT hA ?_
 (rw [hrn,AS.uQ,(hp.lb n hnb).ln,bU,Bool.not_true,mE,←hrn];refine Eq.mpr (H.J1 ..) ?_)
 unfold jT.J1.T aH
 rw [hp.r]
 have hwb:=wA hp.wk (gA.1 hp.ok) (m:=(aP b).length) (by rw [bT];exact Nat.le_refl _)
 have htl:=yG b
 refine pI hA hp.st (fun n hn=>(hp.lb n hn).ln) hnn fun M1 s β hB hs=>?_
 rw [aM]
 obtain ⟨F',hB1,hle,hr,back⟩:=hB.aFK (uD (hp.small hI)) (by simp [aY];omega)
 refine aAT hB1 hr (fun t ht=>hs.nd (hp.lb t.n (dW ht))) (fun t ht u hu e=>lH hp.nd _ (dW ht) _ (dW hu) e) (by omega) (fun e=>?_) fun t ht hb M2 γ hC hs2=>?_
 ·cases b with
  | nil=>exact absurd rfl eT
  | node n k c s=>simp [dD] at e
 ·rw [aL]
  have h2:=back M2 _ hC
  obtain ⟨A,B,hAB⟩:=List.append_of_mem ht
  have hG:nM 1 γ f A t B:=(hp.gone hAB h300).sm (hs.trans hs2)
  have hN:aS (A ++ t::B) = aP b:=by rw [←hAB,bT]
  rw [hAB] at h2
  refine yD h2 hG (m:=(aP b).length) (by rw [hN];exact Nat.le_refl _) fun M3 δ f' l' hD hst' hlb' hp' hm' hok' hod' hwk' he' hg'=>?_
  simp only [go_sem]
  have hpn:(aP b).Perm (t.n::(aS (A ++ B) ++ aP t.c)):=by rw [←hN];exact qN A B t
  have hpi:(hT f (aP b)).Perm (f t.n::(aS (A ++ B) ++ aP t.c).map f):=hpn.map f
  rw [hN] at he'
  have hck:(fN ((aS (A ++ B) ++ aP t.c).map f) (aS (A ++ B) ++ aP t.c)).Nodup:=by
   have h3:=(kE (f:=f) hpn).nodup_iff.1 hp.nd
   unfold bG at h3
   unfold fN
   rw [List.map_cons,List.nodup_append] at h3
   obtain ⟨n1,n2,n3⟩:=h3
   rw [List.map_map]
   exact List.nodup_append.2 ⟨(List.nodup_cons.1 n1).2,(List.nodup_cons.1 n2).2,fun x hx y hy=>n3 x (List.mem_cons_of_mem _ hx) y (List.mem_cons_of_mem _ hy)⟩
  refine h t.n (dW ht) (y5 ht hnn hp.od hb) _ _ hpi hpn M3 δ _ hD (aAr (.inl rfl) rfl hst' hlb' hp' hm' hck hok' hod' hwk') (((((hs.trans hs2).pZ (S:=fun c=>c∈bG f (aP b)) (L:=(· = t.n))).trans he').mono (fun _ h=>h) (fun _ h=>h) (j7 ?_)).to (by omega)) hg'
  omega
theorem aE3 (hA:aA w0 F M (aF a α)) {s:Int} {g:Nat→cH} {c:ST} (hp:yS 1 α r f b) (hq:yS 1 α s g c) (hd:(bG f (aP b) ++ bG g (aP c)).Nodup) (h300:(aP b).length + (aP c).length≤300)
  (h:∀ M' β r',aA w0 F M' (aF a β)→KH 2 β r' (hT f (aP b) ++ hT g (aP c)) (aP b ++ aP c)→AS.lT (fun x=>x∈bG f (aP b)∨x∈bG g (aP c)) (fun _=>False) 0 (dO ((aP b).length + (aP c).length)) α β→R (.int .i64 r') M') :
  C PP w0 Id.oV #[.pointer (some ⟨a,0,none⟩),.int .i64 r,.int .i64 s] R M:=by
 apply oV.go
 unfold oV.T aH
 have hI:=hA.inv
 simp only [go_sem,Option.isNone_some,mE]
 obtain ⟨d1,d2,d3⟩:=List.nodup_append.1 hd
 rw [fJ]
 split
 ·rename_i hrs
  have hb0:b = .nil∧c = .nil:=by
   rw [hp.r,hq.r] at hrs
   cases b with
   | nil =>
    cases c with
    | nil=>exact ⟨rfl,rfl⟩
    | node n k c s=>simp only [root] at hrs;omega
   | node n k c0 s0 =>
    cases c with
    | nil=>simp only [root] at hrs;omega
    | node n' k' c' s' =>
     simp only [root] at hrs
     have:n = n':=by omega
     exact absurd this (d3 n (List.mem_append_left _ (by simp [aP])) n' (List.mem_append_left _ (by simp [aP])))
  obtain ⟨rfl,rfl⟩:=hb0
  refine h M α r hA (.inr ⟨.inl rfl,f,.nil,hp,List.Perm.refl _,List.Perm.refl _⟩) (AS.Sm.refl.pZ.mono (fun _ h=>h) (fun _ h=>h) (j7 (by omega)))
 ·have hnb:=iK hp.nd
  have hncc:=iK hq.nd
  have hwb:=wA hp.wk (gA.1 hp.ok) (m:=(aP b).length + (aP c).length) (by rw [bT];omega)
  have hwc:=wA hq.wk (gA.1 hq.ok) (m:=(aP b).length + (aP c).length) (by rw [bT];omega)
  have h9b:=xW hp.wk (gA.1 hp.ok) (by rw [bT];omega)
  have h9c:=xW hq.wk (gA.1 hq.ok) (by rw [bT];omega)
  rw [hp.r]
  refine pI hA hp.st (fun n hn=>(hp.lb n hn).ln) hnb fun M1 s1 β hB hs1=>?_
  rw [aM,hq.r]
  obtain ⟨F1,hB1,hle1,back1⟩:=hB.last
  refine pI hB1 (hq.st.sm hs1) (fun n hn=>by rw [hs1.live];exact (hq.lb n hn).ln) hncc fun M2 s2 γ hC hs2=>?_
  have h2:=back1 M2 _ hC
  rw [aM]
  have hrc:qO w0 M2 .i64 s2 (aY ((dD c).map (·.n))):=h2.right.aJX (fun x hx=>by
   obtain ⟨t,ht,rfl⟩:=List.mem_map.1 hx
   exact hq.small hI _ (dW ht)) (by simp;omega)
  refine aKv h2 hrc (by simp [aY];omega) fun M3 s3 h3=>?_
  rw [aM]
  have h4:aA w0 F M3 (star (pS s3 ((aY ((dD b ++ dD c).map (·.n))).map (Value.int .i64))) (aF a γ)):=by
   rw [show aY ((dD b ++ dD c).map (·.n)) = aY ((dD b).map (·.n)) ++ aY ((dD c).map (·.n)) from by simp [aY]]
   exact h3.dY.right
  have hN:aS (dD b ++ dD c) = aP b ++ aP c:=by rw [lS,bT,bT]
  let hh:Nat→cH:=fun x=>if x∈aP b then f x else g x
  have ehb:∀ x∈aP b,hh x = f x:=fun x hx=>if_pos hx
  have ehc:∀ x∈aP c,hh x = g x:=fun x hx=>if_neg fun hxb=>d3 x (List.mem_append_left _ hxb) x (List.mem_append_left _ hx) rfl
  have hs3:=hs1.trans hs2
  have hlb:Lb γ hh (aS (dD b ++ dD c)):=by
   rw [hN]
   intro x hx
   rcases List.mem_append.1 hx with hx | hx
   ·rw [ehb x hx];exact hs3.nd (hp.lb x hx)
   ·rw [ehc x hx];exact hs3.nd (hq.lb x hx)
  have hcel:(bG hh (aP b ++ aP c)).Perm (bG f (aP b) ++ bG g (aP c)):=by
   refine (zH hh _ _).trans ?_
   rw [vE ehb,vE ehc]
  have hits:(aP b ++ aP c).map hh = hT f (aP b) ++ hT g (aP c):=by
   rw [List.map_append]
   show hT hh (aP b) ++ hT hh (aP c) = _
   rw [sK ehb,sK ehc]
  obtain ⟨F4,hle4,hB4,hr4⟩:=h4.freeze (m4 fun x hx=>by
   obtain ⟨t,ht,rfl⟩:=List.mem_map.1 hx
   rcases List.mem_append.1 ht with ht | ht
   ·exact hp.small hI _ (dW ht)
   ·exact hq.small hI _ (dW ht)) (by simp [aY];omega)
  refine wW hB4 (z:=1) (f:=hh) (by decide) hr4 (fun t ht=>?_) hlb (by rw [hN];exact hcel.nodup_iff.2 hd) (fun t ht=>?_) (fun t ht=>?_) (by rw [List.length_append];omega) fun M5 δ l' hD hst' hp' hok' hod' hrs' hc' hg'=>?_
  ·rcases List.mem_append.1 ht with ht | ht
   ·exact (hp.st.dD t ht).sm hs3
   ·exact (hq.st.dD t ht).sm hs3
  ·rcases List.mem_append.1 ht with ht | ht
   ·exact gA.1 hp.ok t ht
   ·exact gA.1 hq.ok t ht
  ·rcases List.mem_append.1 ht with ht | ht
   ·exact (qA.1 hp.od t ht).congr fun x hx=>ehb x (by rw [←bT];exact eK.2 ⟨t,ht,hx⟩)
   ·exact (qA.1 hq.od t ht).congr fun x hx=>ehc x (by rw [←bT];exact eK.2 ⟨t,ht,hx⟩)
  ·rw [aL]
   rw [hN] at hp'
   have hm':((aS l').map hh).Perm (hT f (aP b) ++ hT g (aP c)):=by rw [←hits];exact hp'.map hh
   refine h M5 δ _ (hD.fO hle4) (aAr (.inl rfl) rfl hst' ?_ hp' hm' ?_ hok' hod' hrs'.wk) ?_
   ·refine (hlb.sub fun x hx=>by rw [hN];exact hp'.mem_iff.1 hx).congr (fun x _ y hy=>hg' x y (by omega)) (fun x _=>by rw [hc'.live])
   ·rw [←hits]
    unfold fN
    rw [List.map_map]
    exact hcel.nodup_iff.2 hd
   ·refine ((hs3.pZ.trans (hc'.mono (T:=fun x=>x∈bG f (aP b)∨x∈bG g (aP c)) (fun x hx=>?_) (Int.le_refl _)).pZ).mono (fun _ h=>h) (fun _ h=>h) (j7 ?_)).to (by omega)
    ·rw [hN] at hx
     rcases List.mem_append.1 hx with hx | hx
     ·exact .inl (List.mem_append_left _ hx)
     ·exact .inr (List.mem_append_left _ hx)
    ·rw [List.length_append];omega
theorem aE2 (hA:aA w0 F M (aF a α)) {α0:AS} (hp:yS 1 α0 r f b) {x:Nat} {e':bR} {j:Int} (hx:x∈aP b) (hle:e'.1≤(f x).2.1) (hs2:e'.2 = (f x).2.2) (hs:AS.Sm j (α0.put (f x).1 7 e'.1) α)
  (h:∀ L,(hT f (aP b)).Perm (f x::L)→∀ M' β,aA w0 F M' (aF a β)→KH 2 β r (((f x).1,e')::L) (aP b)→AS.lT (fun c=>c∈bG f (aP b)) (fun _=>False) 0 (dO (aP b).length) α β→R (.int .i64 r) M') :
  C PP w0 Id.oW #[.pointer (some ⟨a,0,none⟩),.int .i64 r,.int .i64 ((f x).1:Int)] R M:=by
 apply oW.go
 unfold oW.T aH
 simp only [go_sem,Option.isNone_some,mE]
 have hnn:=iK hp.nd
 let f':Nat→cH:=fun y=>if y = x then ((f x).1,e') else f y
 have e1:f' x = ((f x).1,e'):=if_pos rfl
 have e2:∀ y,y≠x→f' y = f y:=fun y hy=>if_neg hy
 have e3:∀ y,(f' y).1 = (f y).1:=fun y=>by
  by_cases e:y = x
  ·subst e;rw [e1]
  ·rw [e2 y e]
 have ecel:bG f' (aP b) = bG f (aP b):=by
  unfold bG
  rw [List.map_congr_left fun y _=>e3 y]
 have g:∀ c y,α.get c y = if c = (f x).1∧y = 7 then e'.1 else α0.get c y:=fun c y=>by rw [hs.get];rfl
 have gl:∀ c,α.live c = α0.live c:=fun c=>by rw [hs.live];rfl
 have hst:St α (-1) b:=hp.st.congr fun n hn y _=>by
  rw [g,if_neg (fun e:n = (f x).1∧y = 7=>tK hp.nd n hn x hx e.1)]
 have hlb:Lb α f' (aP b):=fun n hn=>by
  have h1:=hp.lb n hn
  by_cases e:n = x
  ·subst e
   rw [e1]
   refine ⟨(gl _).trans h1.ln,(gl _).trans h1.li,?_,?_,?_,?_⟩
   ·rw [g,if_neg (by omega)];exact h1.it
   ·rw [g,if_neg (by omega)];exact h1.nd
   ·rw [g,if_pos ⟨rfl,rfl⟩]
   ·rw [g,if_neg (by omega)];rw [hs2];exact h1.s
  ·rw [e2 n e]
   refine h1.congr (fun y=>?_) (fun y=>?_) (gl _) (gl _)
   ·rw [g,if_neg (fun e:n = (f x).1∧y = 7=>tK hp.nd n hn x hx e.1)]
   ·rw [g,if_neg (fun e':(f n).1 = (f x).1∧y = 7=>e (lH hp.nd n hn x hx e'.1))]
 have hda:=(sM hnn).1 hp.od
 have hH:Hol f' b x:=fun y hy w hw hyx hwx=>by rw [e2 y hyx,e2 w hwx];exact hda y hy w hw
 have hD:aDX f' b x:=fun y hy hxy=>by
  have hyx:y≠x:=fun e=>by rw [e] at hxy;exact pC hnn hxy
  rw [e1,e2 y hyx]
  have h1:=hda y hy x hxy
  rcases h1 with h1 | ⟨h1,h2⟩
  ·refine .inl ?_
   unfold Lt at h1 ⊢
   simp only
   omega
  ·by_cases h9:e'.1 = (f x).2.1
   ·have:e' = (f x).2:=Prod.ext h9 hs2
    rw [this];exact .inr ⟨h1,h2⟩
   ·refine .inl ?_
    unfold Lt
    rw [←h1]
    simp only
    omega
 obtain ⟨t,ht,hal⟩:=xS hp.ok hx
 have hkb:=ST.y9 (gA.1 hp.ok t ht) (m:=(aP b).length) (by rw [←bT b];exact tG ht)
 have:=aAV hA false (f:=f') (x:=x) hst hlb (by rw [ecel];exact hp.nd) hx hH (fun _=>hD) (m:=bl (aP b).length) (by omega) (R:=fun v M=>mZ .i64 v fun n5=>R (.int .i64 r) M) fun M1 β f2 y hB hst2 hlb2 hy hfy hpm _ hod2 hc=>?_
 ·rw [e3 x] at this
  exact this
 ·rw [aL]
  obtain ⟨L,hL⟩:∃ L,(hT f (aP b)).Perm (f x::L)∧((aP b).map f').Perm (((f x).1,e')::L):=by
   have h1:=List.perm_cons_erase hx
   refine ⟨((aP b).erase x).map f,h1.map f,?_⟩
   refine (h1.map f').trans ?_
   rw [List.map_cons,e1]
   rw [List.map_congr_left fun y hy=>e2 y fun e=>by
    have:=h1.nodup_iff.1 hnn
    exact (List.nodup_cons.1 this).1 (e▸hy)]
  rw [ecel] at hc
  refine h L hL.1 M1 β hB (.inr ⟨.inl rfl,f2,b,⟨hp.r,hst2,hlb2,?_,hp.ok,hp.wk,(sM hnn).2 (hod2 rfl)⟩,hpm.trans hL.2,List.Perm.refl _⟩) (hc.pZ.mono (fun _ h=>h) (fun _ h=>h) (j7 (by omega)))
  have:=uH (f:=f2) (g:=f') (List.Perm.refl (aP b)) hpm
  rw [ecel] at this
  exact this.nodup_iff.2 hp.nd
theorem aGt (hA:aA w0 F M (aF a α)) (hp:yS 1 α r f b) {x:Nat} (hx:x∈aP b) (h300:(aP b).length≤300)
  (h:∀ L,(hT f (aP b)).Perm (f x::L)→∀ n N,(aP b).Perm (n::N)→∀ M' β r',aA w0 F M' (aF a β)→KH 2 β r' L N→AS.lT (fun c=>c∈bG f (aP b)) (· = n) (-1) (dO (aP b).length) α β→β.get (f x).1 9 = -1→R (.int .i64 r') M') :
  C PP w0 Id.sC #[.pointer (some ⟨a,0,none⟩),.int .i64 r,.int .i64 ((f x).1:Int)] R M:=by
 apply sC.go
 unfold sC.T aH
 have hI:=hA.inv
 simp only [go_sem,Option.isNone_some,mE]
 have hnn:=iK hp.nd
 have hNx:=hp.lb x hx
 refine zG hA fun M1 hA1=>?_
 rw [show α.fR ((f x).1:Int) 9 = (x:Int) from AS.dI (f:=9) hNx.li (by omega) hNx.nd (AS.cJ hI hNx.ln),aL,fJ,if_neg (by omega)]
 have hda:=(sM hnn).1 hp.od
 obtain ⟨t0,ht0,hal⟩:=xS hp.ok hx
 have hkb:=ST.y9 (gA.1 hp.ok t0 ht0) (m:=(aP b).length) (by rw [←bT b];exact tG ht0)
 refine aAV hA1 true (f:=f) (x:=x) (hp.st.sm AS.aO) (hp.lb.sm AS.aO) hp.nd hx (fun y hy w hw _ _=>hda y hy w hw) (fun e=>by cases e) (m:=bl (aP b).length) (by omega) fun M2 β f2 y hB hst2 hlb2 hy hfy hpm hany _ hc=>?_
 obtain ⟨hroot,hHol⟩:=hany rfl
 obtain ⟨t,ht,htn⟩:=aBf hy hnn hroot
 subst htn
 rw [aL,hp.r]
 have hcel2:=uH (f:=f2) (g:=f) (List.Perm.refl (aP b)) hpm
 have htl:=yG b
 have hwb:=wA hp.wk (gA.1 hp.ok) (m:=(aP b).length) (by rw [bT];exact Nat.le_refl _)
 refine pI hB hst2 (fun n hn=>(hlb2 n hn).ln) hnn fun M3 s γ hC hs3=>?_
 rw [aM]
 obtain ⟨F',hC1,hle,hr,back⟩:=hC.aFK (uD (hp.small hI)) (by simp [aY];omega)
 have hr3:qO w0 M3 .i64 s (aY ((dD b).map (·.n))):=hr.le hC1.fr
 refine aFy hr3 (List.mem_map.2 ⟨t.n,List.mem_map.2 ⟨t,ht,rfl⟩,rfl⟩) (by simp [aY];omega) ?_
 rw [bU,Bool.not_true,mE]
 obtain ⟨A,B,hAB⟩:=List.append_of_mem ht
 have hN:aS (A ++ t::B) = aP b:=by rw [←hAB,bT]
 obtain ⟨k1,k2⟩:=hHol.kids hnn ht
 have hroots:(((dD b).map (·.n))).Nodup:=aA7 (by rw [bT];exact hnn)
 have hG:nM 1 γ f2 A t B:=by
  refine ⟨fun u hu=>(hst2.dD u (by rw [hAB];exact hu)).sm hs3,by rw [hN];exact hlb2.sm hs3,by rw [hN];exact hcel2.nodup_iff.2 hp.nd,fun u hu=>gA.1 hp.ok u (by rw [hAB];exact hu),fun u hu=>?_,k1,by rw [←hAB];exact hp.wk,by rw [hN];exact h300⟩
  rw [hAB,List.map_append,List.map_cons] at hroots
  obtain ⟨n1,n2,n3⟩:=List.nodup_append.1 hroots
  refine k2 u (by rw [hAB];rcases List.mem_append.1 hu with hu | hu <;> simp [hu]) fun e=>?_
  rcases List.mem_append.1 hu with hu | hu
  ·exact n3 u.n (List.mem_map.2 ⟨u,hu,rfl⟩) t.n List.mem_cons_self e
  ·exact (List.nodup_cons.1 n2).1 (List.mem_map.2 ⟨u,hu,e⟩)
 rw [hAB] at hC
 refine yD hC hG (m:=(aP b).length) (by rw [hN];exact Nat.le_refl _) fun M4 δ f' l' hD hst' hlb' hp' hm' hok' hod' hwk' he' hg'=>?_
 simp only [go_sem]
 have hpn:(aP b).Perm (t.n::(aS (A ++ B) ++ aP t.c)):=by rw [←hN];exact qN A B t
 have hpi:((aP b).map f2).Perm (f x::(aS (A ++ B) ++ aP t.c).map f2):=by rw [←hfy];exact hpn.map f2
 rw [hN] at he'
 have hck:(fN ((aS (A ++ B) ++ aP t.c).map f2) (aS (A ++ B) ++ aP t.c)).Nodup:=by
  have h3:=(kE (f:=f2) hpn).nodup_iff.1 (hcel2.nodup_iff.2 hp.nd)
  unfold bG at h3
  unfold fN
  rw [List.map_cons,List.nodup_append] at h3
  obtain ⟨n1,n2,n3⟩:=h3
  rw [List.map_map]
  exact List.nodup_append.2 ⟨(List.nodup_cons.1 n1).2,(List.nodup_cons.1 n2).2,fun x hx y hy=>n3 x (List.mem_cons_of_mem _ hx) y (List.mem_cons_of_mem _ hy)⟩
 rw [hfy] at hg'
 refine h _ (hpm.symm.trans hpi) t.n _ hpn M4 δ _ hD (aAr (.inl rfl) rfl hst' hlb' hp' hm' hck hok' hod' hwk') ?_ hg'
 refine (((((AS.aO.lW.trans hc).pZ (L:=(· = t.n))).trans (hs3.pZ)).trans (he'.mono (S':=fun c=>c∈bG f (aP b)) (fun c hc=>hcel2.mem_iff.1 hc) (fun _ h=>h) (Int.le_refl _))).mono (fun _ h=>h) (fun _ h=>h) (j7 ?_)).to (by omega)
 omega
end
end HL
namespace HL
section
variable {w0:World} {M F:Mem} {R:VP} {a:Nat} {α:AS} {r:Int} {f:Nat→cH} {b:ST}
open Go.Proofs.YtodobkbnmjgkdaaGreat.HL.ST
theorem aGF (hA:aA w0 F M (aF a α)) (hp:yS 2 α r f b)
  (h:∀ x,x∈hT f (aP b)→(∀ y∈hT f (aP b),y.1≠x.1→Bf x y)→∀ M' β,aA w0 F M' (aF a β)→AS.Sm (dO (aP b).length) α β→R (.int .i64 (x.1:Int)) M') (eT:aP b≠[]) :
  C PP w0 Id.mX #[.pointer (some ⟨a,0,none⟩),.int .i64 r] R M:=by
 apply mX.go
 unfold mX.T aH
 have hI:=hA.inv
 simp only [go_sem,Option.isNone_some,mE]
 rw [hp.r]
 have hnn:=iK hp.nd
 have hwb:=wA hp.wk (gA.1 hp.ok) (m:=(aP b).length) (by rw [bT];exact Nat.le_refl _)
 have hlen:=m6 α.n _ hnn fun y hy=>AS.cJ hI (hp.lb y hy).ln
 have hI65:=hI.n
 have htl:=yG b
 refine pI hA hp.st (fun n hn=>(hp.lb n hn).ln) hnn fun M1 s β hB hs=>?_
 simp only [go_sem]
 obtain ⟨F',hle,hB1,hr⟩:=hB.freeze (uD (hp.small hI)) (by simp [aY];omega)
 refine aAT hB1 hr (fun t ht=>hs.nd (hp.lb t.n (dW ht))) (fun t ht u hu e=>lH hp.nd _ (dW ht) _ (dW hu) e) (by omega) (fun e=>?_) fun t ht hb M2 γ hC hs2=>?_
 ·cases b with
  | nil=>exact absurd rfl eT
  | node n k c s=>simp [dD] at e
 ·simp only [go_sem]
  have hNt:=(hs.trans hs2).nd (hp.lb t.n (dW ht))
  refine eZ hC fun M3 hC3=>?_
  rw [show γ.fR (t.n:Int) 6 = ((f t.n).1:Int) from AS.dI (f:=6) hNt.ln (by omega) hNt.it (AS.cJ hC.inv hNt.li)]
  simp only [go_sem]
  refine h (f t.n) (List.mem_map.2 ⟨t.n,dW ht,rfl⟩) (fun y hy hyn=>?_) M3 _ (hC3.fO hle) (((hs.trans hs2).trans AS.aO).mono (j7 (by omega)))
  obtain ⟨x,hx,rfl⟩:=List.mem_map.1 hy
  exact y5 ht hnn hp.od hb x hx fun e=>hyn (by rw [e])
theorem aGu (hA:aA w0 F M (aF a α)) (hp:yS 2 α r f b) (eT:aP b≠[]) (h300:(aP b).length≤300)
  (h:∀ x∈aP b,(∀ y∈aP b,y≠x→Bf (f x) (f y))→∀ L N,(hT f (aP b)).Perm (f x::L)→(aP b).Perm (x::N)→∀ M' β r',aA w0 F M' (aF a β)→KH 3 β r' L N→AS.lT (fun c=>c∈bG f (aP b)) (· = x) (-1) (dO (aP b).length) α β→β.get (f x).1 9 = -1→R (.tuple #[.int .i64 r',.int .i64 ((f x).1:Int)]) M') :
  C PP w0 Id.fH #[.pointer (some ⟨a,0,none⟩),.int .i64 r] R M:=by
 apply fH.go
 intro aB H
 unfold fH.T aH
 have hI:=hA.inv
 simp only [go_sem,Option.isNone_some,mE]
 have hnn:=iK hp.nd
 have hroot:∃ n:Nat,r = (n:Int)∧n∈aP b:=by
  rw [hp.r]
  cases b with
  | nil=>exact absurd rfl eT
  | node n k c s=>exact ⟨n,rfl,by simp [aP]⟩
 obtain ⟨n,hrn,hnb⟩:=hroot
 refine xT hA ?_
 (rw [hrn,AS.uQ,(hp.lb n hnb).ln,bU,Bool.not_true,mE,←hrn];refine Eq.mpr (H.J1 ..) ?_)
 unfold fH.J1.T aH
 rw [hp.r]
 have hwb:=wA hp.wk (gA.1 hp.ok) (m:=(aP b).length) (by rw [bT];exact Nat.le_refl _)
 have htl:=yG b
 refine pI hA hp.st (fun n hn=>(hp.lb n hn).ln) hnn fun M1 s β hB hs=>?_
 rw [aM]
 obtain ⟨F',hB1,hle,hr,back⟩:=hB.aFK (uD (hp.small hI)) (by simp [aY];omega)
 refine aAT hB1 hr (fun t ht=>hs.nd (hp.lb t.n (dW ht))) (fun t ht u hu e=>lH hp.nd _ (dW ht) _ (dW hu) e) (by omega) (fun e=>?_) fun t ht hb M2 γ hC hs2=>?_
 ·cases b with
  | nil=>exact absurd rfl eT
  | node n k c s=>simp [dD] at e
 ·rw [aL]
  have h2:=back M2 _ hC
  obtain ⟨A,B,hAB⟩:=List.append_of_mem ht
  have hG:nM 2 γ f A t B:=(hp.gone hAB h300).sm (hs.trans hs2)
  have hN:aS (A ++ t::B) = aP b:=by rw [←hAB,bT]
  rw [hAB] at h2
  refine aJi h2 hG (m:=(aP b).length) (by rw [hN];exact Nat.le_refl _) fun M3 δ f' l' hD hst' hlb' hp' hm' hok' hod' hwk' he' hg'=>?_
  simp only [go_sem]
  have hpn:(aP b).Perm (t.n::(aS (A ++ B) ++ aP t.c)):=by rw [←hN];exact qN A B t
  have hpi:(hT f (aP b)).Perm (f t.n::(aS (A ++ B) ++ aP t.c).map f):=hpn.map f
  rw [hN] at he'
  have hck:(fN ((aS (A ++ B) ++ aP t.c).map f) (aS (A ++ B) ++ aP t.c)).Nodup:=by
   have h3:=(kE (f:=f) hpn).nodup_iff.1 hp.nd
   unfold bG at h3
   unfold fN
   rw [List.map_cons,List.nodup_append] at h3
   obtain ⟨n1,n2,n3⟩:=h3
   rw [List.map_map]
   exact List.nodup_append.2 ⟨(List.nodup_cons.1 n1).2,(List.nodup_cons.1 n2).2,fun x hx y hy=>n3 x (List.mem_cons_of_mem _ hx) y (List.mem_cons_of_mem _ hy)⟩
  refine h t.n (dW ht) (y5 ht hnn hp.od hb) _ _ hpi hpn M3 δ _ hD (aAr (.inr rfl) rfl hst' hlb' hp' hm' hck hok' hod' hwk') (((((hs.trans hs2).pZ (S:=fun c=>c∈bG f (aP b)) (L:=(· = t.n))).trans he').mono (fun _ h=>h) (fun _ h=>h) (j7 ?_)).to (by omega)) hg'
  omega
theorem aEO (hA:aA w0 F M (aF a α)) {s:Int} {g:Nat→cH} {c:ST} (hp:yS 2 α r f b) (hq:yS 2 α s g c) (hd:(bG f (aP b) ++ bG g (aP c)).Nodup) (h300:(aP b).length + (aP c).length≤300)
  (h:∀ M' β r',aA w0 F M' (aF a β)→KH 3 β r' (hT f (aP b) ++ hT g (aP c)) (aP b ++ aP c)→AS.lT (fun x=>x∈bG f (aP b)∨x∈bG g (aP c)) (fun _=>False) 0 (dO ((aP b).length + (aP c).length)) α β→R (.int .i64 r') M') :
  C PP w0 Id.kG #[.pointer (some ⟨a,0,none⟩),.int .i64 r,.int .i64 s] R M:=by
 apply kG.go
 unfold kG.T aH
 have hI:=hA.inv
 simp only [go_sem,Option.isNone_some,mE]
 obtain ⟨d1,d2,d3⟩:=List.nodup_append.1 hd
 rw [fJ]
 split
 ·rename_i hrs
  have hb0:b = .nil∧c = .nil:=by
   rw [hp.r,hq.r] at hrs
   cases b with
   | nil =>
    cases c with
    | nil=>exact ⟨rfl,rfl⟩
    | node n k c s=>simp only [root] at hrs;omega
   | node n k c0 s0 =>
    cases c with
    | nil=>simp only [root] at hrs;omega
    | node n' k' c' s' =>
     simp only [root] at hrs
     have:n = n':=by omega
     exact absurd this (d3 n (List.mem_append_left _ (by simp [aP])) n' (List.mem_append_left _ (by simp [aP])))
  obtain ⟨rfl,rfl⟩:=hb0
  refine h M α r hA (.inr ⟨.inr rfl,f,.nil,hp,List.Perm.refl _,List.Perm.refl _⟩) (AS.Sm.refl.pZ.mono (fun _ h=>h) (fun _ h=>h) (j7 (by omega)))
 ·have hnb:=iK hp.nd
  have hncc:=iK hq.nd
  have hwb:=wA hp.wk (gA.1 hp.ok) (m:=(aP b).length + (aP c).length) (by rw [bT];omega)
  have hwc:=wA hq.wk (gA.1 hq.ok) (m:=(aP b).length + (aP c).length) (by rw [bT];omega)
  have h9b:=xW hp.wk (gA.1 hp.ok) (by rw [bT];omega)
  have h9c:=xW hq.wk (gA.1 hq.ok) (by rw [bT];omega)
  rw [hp.r]
  refine pI hA hp.st (fun n hn=>(hp.lb n hn).ln) hnb fun M1 s1 β hB hs1=>?_
  rw [aM,hq.r]
  obtain ⟨F1,hB1,hle1,back1⟩:=hB.last
  refine pI hB1 (hq.st.sm hs1) (fun n hn=>by rw [hs1.live];exact (hq.lb n hn).ln) hncc fun M2 s2 γ hC hs2=>?_
  have h2:=back1 M2 _ hC
  rw [aM]
  have hrc:qO w0 M2 .i64 s2 (aY ((dD c).map (·.n))):=h2.right.aJX (fun x hx=>by
   obtain ⟨t,ht,rfl⟩:=List.mem_map.1 hx
   exact hq.small hI _ (dW ht)) (by simp;omega)
  refine aKv h2 hrc (by simp [aY];omega) fun M3 s3 h3=>?_
  rw [aM]
  have h4:aA w0 F M3 (star (pS s3 ((aY ((dD b ++ dD c).map (·.n))).map (Value.int .i64))) (aF a γ)):=by
   rw [show aY ((dD b ++ dD c).map (·.n)) = aY ((dD b).map (·.n)) ++ aY ((dD c).map (·.n)) from by simp [aY]]
   exact h3.dY.right
  have hN:aS (dD b ++ dD c) = aP b ++ aP c:=by rw [lS,bT,bT]
  let hh:Nat→cH:=fun x=>if x∈aP b then f x else g x
  have ehb:∀ x∈aP b,hh x = f x:=fun x hx=>if_pos hx
  have ehc:∀ x∈aP c,hh x = g x:=fun x hx=>if_neg fun hxb=>d3 x (List.mem_append_left _ hxb) x (List.mem_append_left _ hx) rfl
  have hs3:=hs1.trans hs2
  have hlb:Lb γ hh (aS (dD b ++ dD c)):=by
   rw [hN]
   intro x hx
   rcases List.mem_append.1 hx with hx | hx
   ·rw [ehb x hx];exact hs3.nd (hp.lb x hx)
   ·rw [ehc x hx];exact hs3.nd (hq.lb x hx)
  have hcel:(bG hh (aP b ++ aP c)).Perm (bG f (aP b) ++ bG g (aP c)):=by
   refine (zH hh _ _).trans ?_
   rw [vE ehb,vE ehc]
  have hits:(aP b ++ aP c).map hh = hT f (aP b) ++ hT g (aP c):=by
   rw [List.map_append]
   show hT hh (aP b) ++ hT hh (aP c) = _
   rw [sK ehb,sK ehc]
  obtain ⟨F4,hle4,hB4,hr4⟩:=h4.freeze (m4 fun x hx=>by
   obtain ⟨t,ht,rfl⟩:=List.mem_map.1 hx
   rcases List.mem_append.1 ht with ht | ht
   ·exact hp.small hI _ (dW ht)
   ·exact hq.small hI _ (dW ht)) (by simp [aY];omega)
  refine wW hB4 (z:=2) (f:=hh) (by decide) hr4 (fun t ht=>?_) hlb (by rw [hN];exact hcel.nodup_iff.2 hd) (fun t ht=>?_) (fun t ht=>?_) (by rw [List.length_append];omega) fun M5 δ l' hD hst' hp' hok' hod' hrs' hc' hg'=>?_
  ·rcases List.mem_append.1 ht with ht | ht
   ·exact (hp.st.dD t ht).sm hs3
   ·exact (hq.st.dD t ht).sm hs3
  ·rcases List.mem_append.1 ht with ht | ht
   ·exact gA.1 hp.ok t ht
   ·exact gA.1 hq.ok t ht
  ·rcases List.mem_append.1 ht with ht | ht
   ·exact (qA.1 hp.od t ht).congr fun x hx=>ehb x (by rw [←bT];exact eK.2 ⟨t,ht,hx⟩)
   ·exact (qA.1 hq.od t ht).congr fun x hx=>ehc x (by rw [←bT];exact eK.2 ⟨t,ht,hx⟩)
  ·rw [aL]
   rw [hN] at hp'
   have hm':((aS l').map hh).Perm (hT f (aP b) ++ hT g (aP c)):=by rw [←hits];exact hp'.map hh
   refine h M5 δ _ (hD.fO hle4) (aAr (.inr rfl) rfl hst' ?_ hp' hm' ?_ hok' hod' hrs'.wk) ?_
   ·refine (hlb.sub fun x hx=>by rw [hN];exact hp'.mem_iff.1 hx).congr (fun x _ y hy=>hg' x y (by omega)) (fun x _=>by rw [hc'.live])
   ·rw [←hits]
    unfold fN
    rw [List.map_map]
    exact hcel.nodup_iff.2 hd
   ·refine ((hs3.pZ.trans (hc'.mono (T:=fun x=>x∈bG f (aP b)∨x∈bG g (aP c)) (fun x hx=>?_) (Int.le_refl _)).pZ).mono (fun _ h=>h) (fun _ h=>h) (j7 ?_)).to (by omega)
    ·rw [hN] at hx
     rcases List.mem_append.1 hx with hx | hx
     ·exact .inl (List.mem_append_left _ hx)
     ·exact .inr (List.mem_append_left _ hx)
    ·rw [List.length_append];omega
theorem aEQ (hA:aA w0 F M (aF a α)) {α0:AS} (hp:yS 2 α0 r f b) {x:Nat} {e':bR} {j:Int} (hx:x∈aP b) (hle:e'.1≤(f x).2.1) (hs2:e'.2 = (f x).2.2) (hs:AS.Sm j (α0.put (f x).1 7 e'.1) α)
  (h:∀ L,(hT f (aP b)).Perm (f x::L)→∀ M' β,aA w0 F M' (aF a β)→KH 3 β r (((f x).1,e')::L) (aP b)→AS.lT (fun c=>c∈bG f (aP b)) (fun _=>False) 0 (dO (aP b).length) α β→R (.int .i64 r) M') :
  C PP w0 Id.lG #[.pointer (some ⟨a,0,none⟩),.int .i64 r,.int .i64 ((f x).1:Int)] R M:=by
 apply lG.go
 unfold lG.T aH
 simp only [go_sem,Option.isNone_some,mE]
 have hnn:=iK hp.nd
 let f':Nat→cH:=fun y=>if y = x then ((f x).1,e') else f y
 have e1:f' x = ((f x).1,e'):=if_pos rfl
 have e2:∀ y,y≠x→f' y = f y:=fun y hy=>if_neg hy
 have e3:∀ y,(f' y).1 = (f y).1:=fun y=>by
  by_cases e:y = x
  ·subst e;rw [e1]
  ·rw [e2 y e]
 have ecel:bG f' (aP b) = bG f (aP b):=by
  unfold bG
  rw [List.map_congr_left fun y _=>e3 y]
 have g:∀ c y,α.get c y = if c = (f x).1∧y = 7 then e'.1 else α0.get c y:=fun c y=>by rw [hs.get];rfl
 have gl:∀ c,α.live c = α0.live c:=fun c=>by rw [hs.live];rfl
 have hst:St α (-1) b:=hp.st.congr fun n hn y _=>by
  rw [g,if_neg (fun e:n = (f x).1∧y = 7=>tK hp.nd n hn x hx e.1)]
 have hlb:Lb α f' (aP b):=fun n hn=>by
  have h1:=hp.lb n hn
  by_cases e:n = x
  ·subst e
   rw [e1]
   refine ⟨(gl _).trans h1.ln,(gl _).trans h1.li,?_,?_,?_,?_⟩
   ·rw [g,if_neg (by omega)];exact h1.it
   ·rw [g,if_neg (by omega)];exact h1.nd
   ·rw [g,if_pos ⟨rfl,rfl⟩]
   ·rw [g,if_neg (by omega)];rw [hs2];exact h1.s
  ·rw [e2 n e]
   refine h1.congr (fun y=>?_) (fun y=>?_) (gl _) (gl _)
   ·rw [g,if_neg (fun e:n = (f x).1∧y = 7=>tK hp.nd n hn x hx e.1)]
   ·rw [g,if_neg (fun e':(f n).1 = (f x).1∧y = 7=>e (lH hp.nd n hn x hx e'.1))]
 have hda:=(sM hnn).1 hp.od
 have hH:Hol f' b x:=fun y hy w hw hyx hwx=>by rw [e2 y hyx,e2 w hwx];exact hda y hy w hw
 have hD:aDX f' b x:=fun y hy hxy=>by
  have hyx:y≠x:=fun e=>by rw [e] at hxy;exact pC hnn hxy
  rw [e1,e2 y hyx]
  have h1:=hda y hy x hxy
  rcases h1 with h1 | ⟨h1,h2⟩
  ·refine .inl ?_
   unfold Lt at h1 ⊢
   simp only
   omega
  ·by_cases h9:e'.1 = (f x).2.1
   ·have:e' = (f x).2:=Prod.ext h9 hs2
    rw [this];exact .inr ⟨h1,h2⟩
   ·refine .inl ?_
    unfold Lt
    rw [←h1]
    simp only
    omega
 obtain ⟨t,ht,hal⟩:=xS hp.ok hx
 have hkb:=ST.y9 (gA.1 hp.ok t ht) (m:=(aP b).length) (by rw [←bT b];exact tG ht)
 have:=aAV hA false (f:=f') (x:=x) hst hlb (by rw [ecel];exact hp.nd) hx hH (fun _=>hD) (m:=bl (aP b).length) (by omega) (R:=fun v M=>mZ .i64 v fun n5=>R (.int .i64 r) M) fun M1 β f2 y hB hst2 hlb2 hy hfy hpm _ hod2 hc=>?_
 ·rw [e3 x] at this
  exact this
 ·rw [aL]
  obtain ⟨L,hL⟩:∃ L,(hT f (aP b)).Perm (f x::L)∧((aP b).map f').Perm (((f x).1,e')::L):=by
   have h1:=List.perm_cons_erase hx
   refine ⟨((aP b).erase x).map f,h1.map f,?_⟩
   refine (h1.map f').trans ?_
   rw [List.map_cons,e1]
   rw [List.map_congr_left fun y hy=>e2 y fun e=>by
    have:=h1.nodup_iff.1 hnn
    exact (List.nodup_cons.1 this).1 (e▸hy)]
  rw [ecel] at hc
  refine h L hL.1 M1 β hB (.inr ⟨.inr rfl,f2,b,⟨hp.r,hst2,hlb2,?_,hp.ok,hp.wk,(sM hnn).2 (hod2 rfl)⟩,hpm.trans hL.2,List.Perm.refl _⟩) (hc.pZ.mono (fun _ h=>h) (fun _ h=>h) (j7 (by omega)))
  have:=uH (f:=f2) (g:=f') (List.Perm.refl (aP b)) hpm
  rw [ecel] at this
  exact this.nodup_iff.2 hp.nd
theorem aGD (hA:aA w0 F M (aF a α)) (hp:yS 2 α r f b) {x:Nat} (hx:x∈aP b) (h300:(aP b).length≤300)
  (h:∀ L,(hT f (aP b)).Perm (f x::L)→∀ n N,(aP b).Perm (n::N)→∀ M' β r',aA w0 F M' (aF a β)→KH 3 β r' L N→AS.lT (fun c=>c∈bG f (aP b)) (· = n) (-1) (dO (aP b).length) α β→β.get (f x).1 9 = -1→R (.int .i64 r') M') :
  C PP w0 Id.mN #[.pointer (some ⟨a,0,none⟩),.int .i64 r,.int .i64 ((f x).1:Int)] R M:=by
 apply mN.go
 unfold mN.T aH
 have hI:=hA.inv
 simp only [go_sem,Option.isNone_some,mE]
 have hnn:=iK hp.nd
 have hNx:=hp.lb x hx
 refine zG hA fun M1 hA1=>?_
 rw [show α.fR ((f x).1:Int) 9 = (x:Int) from AS.dI (f:=9) hNx.li (by omega) hNx.nd (AS.cJ hI hNx.ln),aL,fJ,if_neg (by omega)]
 have hda:=(sM hnn).1 hp.od
 obtain ⟨t0,ht0,hal⟩:=xS hp.ok hx
 have hkb:=ST.y9 (gA.1 hp.ok t0 ht0) (m:=(aP b).length) (by rw [←bT b];exact tG ht0)
 refine aAV hA1 true (f:=f) (x:=x) (hp.st.sm AS.aO) (hp.lb.sm AS.aO) hp.nd hx (fun y hy w hw _ _=>hda y hy w hw) (fun e=>by cases e) (m:=bl (aP b).length) (by omega) fun M2 β f2 y hB hst2 hlb2 hy hfy hpm hany _ hc=>?_
 obtain ⟨hroot,hHol⟩:=hany rfl
 obtain ⟨t,ht,htn⟩:=aBf hy hnn hroot
 subst htn
 rw [aL,hp.r]
 have hcel2:=uH (f:=f2) (g:=f) (List.Perm.refl (aP b)) hpm
 have htl:=yG b
 have hwb:=wA hp.wk (gA.1 hp.ok) (m:=(aP b).length) (by rw [bT];exact Nat.le_refl _)
 refine pI hB hst2 (fun n hn=>(hlb2 n hn).ln) hnn fun M3 s γ hC hs3=>?_
 rw [aM]
 obtain ⟨F',hC1,hle,hr,back⟩:=hC.aFK (uD (hp.small hI)) (by simp [aY];omega)
 have hr3:qO w0 M3 .i64 s (aY ((dD b).map (·.n))):=hr.le hC1.fr
 refine aFy hr3 (List.mem_map.2 ⟨t.n,List.mem_map.2 ⟨t,ht,rfl⟩,rfl⟩) (by simp [aY];omega) ?_
 rw [bU,Bool.not_true,mE]
 obtain ⟨A,B,hAB⟩:=List.append_of_mem ht
 have hN:aS (A ++ t::B) = aP b:=by rw [←hAB,bT]
 obtain ⟨k1,k2⟩:=hHol.kids hnn ht
 have hroots:(((dD b).map (·.n))).Nodup:=aA7 (by rw [bT];exact hnn)
 have hG:nM 2 γ f2 A t B:=by
  refine ⟨fun u hu=>(hst2.dD u (by rw [hAB];exact hu)).sm hs3,by rw [hN];exact hlb2.sm hs3,by rw [hN];exact hcel2.nodup_iff.2 hp.nd,fun u hu=>gA.1 hp.ok u (by rw [hAB];exact hu),fun u hu=>?_,k1,by rw [←hAB];exact hp.wk,by rw [hN];exact h300⟩
  rw [hAB,List.map_append,List.map_cons] at hroots
  obtain ⟨n1,n2,n3⟩:=List.nodup_append.1 hroots
  refine k2 u (by rw [hAB];rcases List.mem_append.1 hu with hu | hu <;> simp [hu]) fun e=>?_
  rcases List.mem_append.1 hu with hu | hu
  ·exact n3 u.n (List.mem_map.2 ⟨u,hu,rfl⟩) t.n List.mem_cons_self e
  ·exact (List.nodup_cons.1 n2).1 (List.mem_map.2 ⟨u,hu,e⟩)
 rw [hAB] at hC
 refine aJi hC hG (m:=(aP b).length) (by rw [hN];exact Nat.le_refl _) fun M4 δ f' l' hD hst' hlb' hp' hm' hok' hod' hwk' he' hg'=>?_
 simp only [go_sem]
 have hpn:(aP b).Perm (t.n::(aS (A ++ B) ++ aP t.c)):=by rw [←hN];exact qN A B t
 have hpi:((aP b).map f2).Perm (f x::(aS (A ++ B) ++ aP t.c).map f2):=by rw [←hfy];exact hpn.map f2
 rw [hN] at he'
 have hck:(fN ((aS (A ++ B) ++ aP t.c).map f2) (aS (A ++ B) ++ aP t.c)).Nodup:=by
  have h3:=(kE (f:=f2) hpn).nodup_iff.1 (hcel2.nodup_iff.2 hp.nd)
  unfold bG at h3
  unfold fN
  rw [List.map_cons,List.nodup_append] at h3
  obtain ⟨n1,n2,n3⟩:=h3
  rw [List.map_map]
  exact List.nodup_append.2 ⟨(List.nodup_cons.1 n1).2,(List.nodup_cons.1 n2).2,fun x hx y hy=>n3 x (List.mem_cons_of_mem _ hx) y (List.mem_cons_of_mem _ hy)⟩
 rw [hfy] at hg'
 refine h _ (hpm.symm.trans hpi) t.n _ hpn M4 δ _ hD (aAr (.inr rfl) rfl hst' hlb' hp' hm' hck hok' hod' hwk') ?_ hg'
 refine (((((AS.aO.lW.trans hc).pZ (L:=(· = t.n))).trans (hs3.pZ)).trans (he'.mono (S':=fun c=>c∈bG f (aP b)) (fun c hc=>hcel2.mem_iff.1 hc) (fun _ h=>h) (Int.le_refl _))).mono (fun _ h=>h) (fun _ h=>h) (j7 ?_)).to (by omega)
 omega
end
end HL
namespace HL
section
variable {w0:World} {M F:Mem} {R:VP} {a:Nat} {α:AS} {r:Int} {f:Nat→cH} {b:ST}
open Go.Proofs.YtodobkbnmjgkdaaGreat.HL.ST
theorem aEu {z:Nat} (hI:α.Inv) (hp:yS z α r f b) {i n:Nat} {e:bR} (hi:α.live i = true) (hic:i ∉ bG f (aP b)) (h7:α.get i 7 = e.1) (h8:α.get i 8 = e.2) (hnx:α.next = some n) {β:AS} (hs:AS.Sm 3 ((α.take.put n 6 i).put i 9 n) β) :
  α.live n = false∧n ∉ bG f (aP b)∧n≠i∧AS.lT (fun c=>c∈n::i::bG f (aP b)) (· = n) 1 3 α β∧yS z β r f b∧β.Nd n i e∧β.get n 1 = -1∧β.get n 4 = 0:=by
 obtain ⟨hnn,hnl,hnt⟩:=AS.kL hI hnx
 have hnt2:n ∉ bG f (aP b):=fun hc=>by have:=hp.live n hc;rw [hnl] at this;cases this
 have hin:i≠n:=fun e=>by rw [e,hnl] at hi;cases hi
 obtain ⟨hfr,hfl⟩:=AS.yF hI hnx
 have he2:AS.lT (fun c=>c = n∨c = i) (· = n) 1 3 α β:=((((AS.xF (S:=fun c=>c = n∨c = i) (L:=(· = n)) hI hnx (.inl rfl) rfl).put (f:=6) (v:=(i:Int)) (c:=n) (.inl rfl)).put (f:=9) (v:=(n:Int)) (c:=i) (.inr rfl)).trans hs.pZ).mono (fun _ h=>h) (fun _ h=>h) (by omega) |>.to (by omega)
 have g:∀ x y,β.get x y = if x = i∧y = 9 then (n:Int) else if x = n∧y = 6 then (i:Int) else α.take.get x y:=fun x y=>by rw [hs.get];rfl
 have gtk:∀ x y,x≠n→α.take.get x y = α.get x y:=fun x y hx=>by
  rw [hnt]
  show (if x = n then AS.fresh y else α.get x y) = _
  rw [if_neg hx]
 have gl:∀ x,β.live x = if x = n then true else α.live x:=fun x=>by rw [hs.live,show ((α.take.put n 6 (i:Int)).put i 9 (n:Int)).live = α.take.live from rfl,hnt];rfl
 have gn:∀ y,y≠6→β.get n y = AS.fresh y:=fun y h6=>by rw [g,if_neg (fun e:n = i∧y = 9=>hin e.1.symm),if_neg (fun e:n = n∧y = 6=>h6 e.2),hfr]
 refine ⟨hnl,hnt2,fun e=>hin e.symm,he2.mono (fun c hc=>by rcases hc with rfl | rfl <;> simp) (fun _ h=>h) (Int.le_refl _),hp.congr (fun c hc y=>he2.get c (by rintro (h | h);exact hnt2 (h▸hc);exact hic (h▸hc)) y) (fun c hc=>he2.live c (fun e=>hnt2 (e▸hc))),⟨by rw [gl,if_pos rfl],by rw [gl,if_neg hin];exact hi,?_,?_,?_,?_⟩,?_,?_⟩
 ·rw [g,if_neg (by omega),if_pos ⟨rfl,rfl⟩]
 ·rw [g,if_pos ⟨rfl,rfl⟩]
 ·rw [g,if_neg (by omega),if_neg (by omega),gtk _ _ hin];exact h7
 ·rw [g,if_neg (by omega),if_neg (by omega),gtk _ _ hin];exact h8
 ·rw [gn 1 (by omega)];rfl
 ·rw [gn 4 (by omega)];rfl
theorem aB6 {z:Nat} (hp:yS z α r f b) {i n:Nat} {e:bR} (hic:i ∉ bG f (aP b)) (hnc:n ∉ bG f (aP b)) (hni:n≠i) (hN:α.Nd n i e):∃ g:Nat→cH,g n = (i,e)∧(∀ x∈aP b,g x = f x)∧Lb α g (n::aP b)∧(bG g (n::aP b)).Nodup∧(bG g (n::aP b)).Perm (n::i::bG f (aP b))∧(n::aP b).map g = (i,e)::hT f (aP b):=by
 have e1:∀ x∈aP b,x≠n:=fun x hx e=>hnc (e▸List.mem_append_left _ hx)
 let g:Nat→cH:=fun x=>if x = n then (i,e) else f x
 have hgn:g n = (i,e):=if_pos rfl
 have hg:∀ x∈aP b,g x = f x:=fun x hx=>if_neg (e1 x hx)
 have hcel:(bG g (n::aP b)).Perm (n::i::bG f (aP b)):=by
  unfold bG
  rw [List.map_cons,hgn,List.cons_append]
  refine List.Perm.cons _ (List.perm_middle.trans (List.Perm.cons _ ?_))
  rw [List.map_congr_left fun x hx=>by rw [hg x hx]]
 refine ⟨g,hgn,hg,fun x hx=>?_,hcel.nodup_iff.2 ?_,hcel,?_⟩
 ·rcases List.mem_cons.1 hx with rfl | hx
  ·rw [hgn];exact hN
  ·rw [hg x hx];exact hp.lb x hx
 ·rw [List.nodup_cons,List.nodup_cons,List.mem_cons,not_or]
  exact ⟨⟨hni,hnc⟩,hic,hp.nd⟩
 ·rw [List.map_cons,hgn]
  exact congrArg _ (sK hg)
theorem aEb (g:Nat→cH) (N:List Nat):fN (N.map g) N = bG g N:=by
 unfold fN bG
 rw [List.map_map];rfl
theorem aEF (hA:aA w0 F M (aF a α)) (hp:yS 1 α r f b) {i:Nat} {e:bR} (hi:α.live i = true) (hic:i ∉ bG f (aP b)) (h7:α.get i 7 = e.1) (h8:α.get i 8 = e.2) (h300:(aP b).length≤300)
  (h0:α.next = none→∀ M' β,aA w0 F M' (aF a β)→AS.Sm 1 α β→R (.tuple #[.int .i64 r,.bool false]) M')
  (h1:∀ n,α.next = some n→α.live n = false→∀ M' β r',aA w0 F M' (aF a β)→KH 2 β r' ((i,e)::hT f (aP b)) (n::aP b)→AS.lT (fun c=>c∈n::i::bG f (aP b)) (· = n) 1 (dO ((aP b).length + 1)) α β→R (.tuple #[.int .i64 r',.bool true]) M') :
  C PP w0 Id.pO #[.pointer (some ⟨a,0,none⟩),.int .i64 r,.int .i64 (i:Int)] R M:=by
 apply pO.go
 unfold pO.T aH
 have hI:=hA.inv
 simp only [go_sem,Option.isNone_some,mE]
 refine aA1 hA hi (fun hnx M1 β hB hs=>?_) fun n hnx M1 β hB hs=>?_
 ·simp only [go_sem,Bool.not_false,dZ]
  exact h0 hnx M1 β hB hs
 ·simp only [go_sem,Bool.not_true,mE]
  obtain ⟨hnl,hnc,hni,heff,hpβ,hNd,hn1,hn4⟩:=aEu hI hp hi hic h7 h8 hnx hs
  obtain ⟨g,hgn,hg,hlb,fW,hcel,hits⟩:=aB6 hpβ hic hnc hni hNd
  have hnn:=iK hpβ.nd
  have hwb:=wA hp.wk (gA.1 hp.ok) (m:=(aP b).length + 1) (by rw [bT];omega)
  have h9b:=xW hp.wk (gA.1 hp.ok) (by rw [bT];omega)
  have htl:=yG b
  refine aBE (k:=.i64) (l:=[(n:Int)]) (Mem.le_refl M1) Tryz.underlying53 W.e3 (n:=1) (by decide) (by kernel_rfl) rfl fun M2 o l1 _ h2=>?_
  rw [aM]
  have hH:aA w0 F M2 (star (pS o ([(n:Int)].map (Value.int .i64))) (aF a β)):=hB.aMs l1 h2
  obtain ⟨F1,hB1,hle1,back1⟩:=hH.last
  rw [hp.r]
  refine pI hB1 hpβ.st (fun n hn=>(hpβ.lb n hn).ln) hnn fun M3 s1 γ hC hs1=>?_
  rw [aM]
  have h3:=back1 M3 _ hC
  have hrc:qO w0 M3 .i64 s1 (aY ((dD b).map (·.n))):=h3.right.aJX (fun x hx=>by
   obtain ⟨t,ht,rfl⟩:=List.mem_map.1 hx
   exact hp.small hI _ (dW ht)) (by simp;omega)
  refine aKv h3 hrc (by simp [aY];omega) fun M4 s4 h4=>?_
  rw [aM]
  have hN:aS (⟨n,0,.nil⟩::dD b) = n::aP b:=by rw [m5,bT];rfl
  have h5:aA w0 F M4 (star (pS s4 ((aY ((⟨n,0,.nil⟩::dD b:List Tn).map (·.n))).map (Value.int .i64))) (aF a γ)):=by
   rw [show aY ((⟨n,0,.nil⟩::dD b:List Tn).map (·.n)) = [(n:Int)] ++ aY ((dD b).map (·.n)) from by simp [aY]]
   exact h4.dY.right
  have hnlt:=AS.cJ hB.inv hNd.ln
  have hn65:=hB.inv.n
  obtain ⟨F4,hle4,hB4,hr4⟩:=h5.freeze (m4 fun x hx=>by
   obtain ⟨t,ht,rfl⟩:=List.mem_map.1 hx
   rcases List.mem_cons.1 ht with rfl | ht
   ·show n < _;omega
   ·exact hp.small hI _ (dW ht)) (by simp [aY];omega)
  refine wW hB4 (z:=1) (f:=g) (by decide) hr4 (fun t ht=>?_) (by rw [hN];exact hlb.sm hs1) (by rw [hN];exact fW) (fun t ht=>?_) (fun t ht=>?_) (by rw [List.length_cons];omega) fun M5 δ l' hD hst' hp' hok' hod' hrs' hc' hg'=>?_
  ·rcases List.mem_cons.1 ht with rfl | ht
   ·exact (show zS β ⟨n,0,.nil⟩ from ⟨hn1,hn4,trivial⟩).sm hs1
   ·exact (hpβ.st.dD t ht).sm hs1
  ·rcases List.mem_cons.1 ht with rfl | ht
   ·exact aF7
   ·exact gA.1 hp.ok t ht
  ·rcases List.mem_cons.1 ht with rfl | ht
   ·exact ⟨fun x hx=>(by cases hx),trivial⟩
   ·exact (qA.1 hp.od t ht).congr fun x hx=>hg x (by rw [←bT];exact eK.2 ⟨t,ht,hx⟩)
  ·rw [aL]
   rw [hN] at hp'
   have hm':((aS l').map g).Perm ((i,e)::hT f (aP b)):=by rw [←hits];exact hp'.map g
   refine h1 n hnx hnl M5 δ _ (hD.fO hle4) (aAr (.inl rfl) rfl hst' ?_ hp' hm' ?_ hok' hod' hrs'.wk) ?_
   ·refine ((hlb.sm hs1).sub fun x hx=>hp'.mem_iff.1 hx).congr (fun x _ y hy=>hg' x y (by omega)) (fun x _=>by rw [hc'.live])
   ·rw [←hits,aEb];exact fW
   ·refine (((heff.trans hs1.pZ).trans (hc'.mono (T:=fun c=>c∈n::i::bG f (aP b)) (fun x hx=>?_) (Int.le_refl _)).pZ).mono (fun _ h=>h) (fun _ h=>h) (j7 ?_)).to (by omega)
    ·rw [hN] at hx
     exact hcel.mem_iff.1 (List.mem_append_left _ hx)
    ·rw [List.length_cons];omega
theorem aEL (hA:aA w0 F M (aF a α)) (hp:yS 2 α r f b) {i:Nat} {e:bR} (hi:α.live i = true) (hic:i ∉ bG f (aP b)) (h7:α.get i 7 = e.1) (h8:α.get i 8 = e.2)
  (h0:α.next = none→∀ M' β,aA w0 F M' (aF a β)→AS.Sm 1 α β→R (.tuple #[.int .i64 r,.bool false]) M')
  (h1:∀ n,α.next = some n→α.live n = false→∀ M' β r',aA w0 F M' (aF a β)→KH 3 β r' ((i,e)::hT f (aP b)) (n::aP b)→AS.lT (fun c=>c∈n::i::bG f (aP b)) (· = n) 1 (dO ((aP b).length + 1)) α β→R (.tuple #[.int .i64 r',.bool true]) M') :
  C PP w0 Id.kU #[.pointer (some ⟨a,0,none⟩),.int .i64 r,.int .i64 (i:Int)] R M:=by
 apply kU.go
 unfold kU.T aH
 have hI:=hA.inv
 simp only [go_sem,Option.isNone_some,mE]
 refine aA1 hA hi (fun hnx M1 β hB hs=>?_) fun n hnx M1 β hB hs=>?_
 ·simp only [go_sem,Bool.not_false,dZ]
  exact h0 hnx M1 β hB hs
 ·simp only [go_sem,Bool.not_true,mE]
  obtain ⟨hnl,hnc,hni,heff,hpβ,hNd,hn1,hn4⟩:=aEu hI hp hi hic h7 h8 hnx hs
  obtain ⟨g,hgn,hg,hlb,fW,hcel,hits⟩:=aB6 hpβ hic hnc hni hNd
  rw [hp.r]
  have hfb:fo (dD b) = b:=aBL b
  have hNb:aS (dD b) = aP b:=bT b
  have:=aCg (R:=fun v M=>mZ .i64 v fun n14=>R (.tuple #[.int .i64 n14,.bool true]) M) hB (f:=g) (l:=dD b) (n:=n) (by rw [hfb];exact hpβ.st) hn1 hn4 (by rw [hNb];exact hlb) (by rw [hNb];exact fW) (fun t ht=>gA.1 hp.ok t ht) (fun t ht=>(qA.1 hp.od t ht).congr fun x hx=>hg x (by rw [←bT];exact eK.2 ⟨t,ht,hx⟩)) hp.wk fun M5 δ g' l' hD hst' hlb' hp' hm' _ hok' hod' hwk' hc'=>?_
  ·rw [hfb] at this;exact this
  ·rw [aL]
   rw [hNb] at hp' hm' hc' hlb'
   have hm2:((aS l').map g').Perm ((i,e)::hT f (aP b)):=by rw [←hits];exact (hp'.map g').trans hm'
   refine h1 n hnx hnl M5 δ _ hD (aAr (.inr rfl) rfl hst' (hlb'.sub fun x hx=>hp'.mem_iff.1 hx) hp' hm2 ?_ hok' hod' hwk') ?_
   ·rw [←hits,aEb];exact fW
   ·refine ((heff.trans (hc'.mono (T:=fun c=>c∈n::i::bG f (aP b)) (fun x hx=>hcel.mem_iff.1 hx) (Int.le_refl _)).pZ).mono (fun _ h=>h) (fun _ h=>h) (j7 ?_)).to (by omega)
    omega
end
end HL
namespace HL
section
variable {w0:World} {M F:Mem} {R:VP} {a:Nat} {α:AS} {k r:Int} {L:List cH} {N:List Nat}
theorem aCA {k:Int} (h:R (.bool (decide (1≤k∧k≤5))) M):C PP w0 Id.jD #[.int .i64 k] R M:=by
 apply jD.go
 unfold jD.T aH
 rw [cR]
 split
 ·rw [show decide (1≤k∧k≤5) = decide (k≤5) from by rw [decide_eq_decide];omega] at h;exact h
 ·rw [decide_eq_false (by omega)] at h;exact h
theorem aHS (hA:aA w0 F M (aF a α)) (hp:KH k α r L N) {i:Nat} {e:bR} (hi:α.live i = true) (hic:i ∉ fN L N) (h7:α.get i 7 = e.1) (h8:α.get i 8 = e.2) (h300:L.length≤300) (hnx:α.next≠none)
  (h:∀ n,α.next = some n→α.live n = false→∀ M' β r' N',aA w0 F M' (aF a β)→KH k β r' ((i,e)::L) N'→(∀ c∈fN ((i,e)::L) N',c = n∨c = i∨c∈fN L N)→AS.lT (fun c=>c = n∨c = i∨c∈fN L N) (· = n) 1 (dO (L.length + 1)) α β→R (.tuple #[.int .i64 r',.bool true]) M') :
  C PP w0 Id.lB #[.int .i64 k,.pointer (some ⟨a,0,none⟩),.int .i64 r,.int .i64 (i:Int)] R M:=by
 apply lB.go
 unfold lB.T aH
 rcases hp with ⟨hk,t,g1,g2,g3⟩ | ⟨hk,f,b,g1,g2,g3⟩
 ·rw [fJ,if_pos hk]
  have hcel:=lY g2 g3
  refine aES hA g1 hi (fun hc=>hic (hcel.mem_iff.1 hc)) h7 h8 (fun e0=>absurd e0 hnx) fun n hn hnl M1 β t' hB hp' hits hcel' heff=>?_
  simp only [go_sem]
  have hL:(LT.bY t').Perm ((i,e)::L):=hits.trans (g2.cons _)
  have hc2:=lY (t:=t') (L:=(i,e)::L) (N:=LT.aP t') hL (List.Perm.refl _)
  have hsub:∀ c,c∈n::i::LT.cells t↔c = n∨c = i∨c∈fN L N:=fun c=>by rw [List.mem_cons,List.mem_cons,hcel.mem_iff]
  refine h n hn hnl M1 β _ (LT.aP t') hB (.inl ⟨hk,t',hp',hL,List.Perm.refl _⟩) (fun c hc=>(hsub c).1 (hcel'.mem_iff.1 (hc2.mem_iff.2 hc))) (heff.mono (fun c hc=>(hsub c).1 hc) (fun _ h=>h) ?_)
  rw [g2.length_eq];exact Int.le_refl _
 ·have hcel:=qD g2 g3
  have hl:(ST.aP b).length = L.length:=by rw [←g2.length_eq];simp [ST.hT]
  have hsub:∀ n c,c∈n::i::ST.bG f (ST.aP b)↔c = n∨c = i∨c∈fN L N:=fun n c=>by rw [List.mem_cons,List.mem_cons,hcel.mem_iff]
  have fin:∀ (n:Nat) (hn:α.next = some n) (hnl:α.live n = false) (M1:Mem) (β:AS) (r':Int),aA w0 F M1 (aF a β)→KH k β r' ((i,e)::ST.hT f (ST.aP b)) (n::ST.aP b)→AS.lT (fun c=>c∈n::i::ST.bG f (ST.aP b)) (· = n) 1 (dO ((ST.aP b).length + 1)) α β→R (.tuple #[.int .i64 r',.bool true]) M1:=by
   intro n hn hnl M1 β r' hB hkh heff
   refine h n hn hnl M1 β r' (n::N) hB (hkh.perm (g2.cons _) (g3.cons _)) (fun c hc=>?_) (heff.mono (fun c hc=>(hsub n c).1 hc) (fun _ h=>h) ?_)
   ·unfold fN at hc ⊢
    simp only [List.map_cons,List.cons_append,List.mem_cons,List.mem_append] at hc ⊢
    rcases hc with hc | hc | hc | hc
    ·exact .inl hc
    ·exact .inr (.inr (.inl hc))
    ·exact .inr (.inl hc)
    ·exact .inr (.inr (.inr hc))
   ·rw [hl];exact Int.le_refl _
  rw [fJ,if_neg (by omega)]
  rcases hk with hk | hk
  ·subst hk
   rw [fJ,if_pos rfl]
   refine aEF hA g1 hi (fun hc=>hic (hcel.mem_iff.1 hc)) h7 h8 (by omega) (fun e0=>absurd e0 hnx) fun n hn hnl M1 β r' hB hkh heff=>?_
   simp only [go_sem]
   exact fin n hn hnl M1 β r' hB hkh heff
  ·subst hk
   rw [fJ,if_neg (by omega),fJ,if_pos rfl]
   refine aEL hA g1 hi (fun hc=>hic (hcel.mem_iff.1 hc)) h7 h8 (fun e0=>absurd e0 hnx) fun n hn hnl M1 β r' hB hkh heff=>?_
   simp only [go_sem]
   exact fin n hn hnl M1 β r' hB hkh heff
theorem aGj (hA:aA w0 F M (aF a α)) (hp:KH k α r L N) (eT:L≠[])
  (h:∀ x,x∈L→(∀ y∈L,y.1≠x.1→Bf x y)→∀ M' β,aA w0 F M' (aF a β)→AS.Sm (dO L.length) α β→R (.int .i64 (x.1:Int)) M') :
  C PP w0 Id.mY #[.int .i64 k,.pointer (some ⟨a,0,none⟩),.int .i64 r] R M:=by
 apply mY.go
 unfold mY.T aH
 rcases hp with ⟨hk,t,g1,g2,g3⟩ | ⟨hk,f,b,g1,g2,g3⟩
 ·rw [fJ,if_pos hk]
  refine aGH hA g1 (fun e0=>?_) fun x L' hL hx M1 β hB hs=>?_
  ·subst e0
   exact absurd (List.nil_perm.1 g2) eT
  ·simp only [go_sem]
   have hP:L.Perm (x::L'):=g2.symm.trans hL
   refine h x (hP.mem_iff.2 List.mem_cons_self) (fun y hy hyx=>?_) M1 β hB (hs.mono (by unfold dO;omega))
   rcases List.mem_cons.1 (hP.mem_iff.1 hy) with rfl | hy
   ·exact absurd rfl hyx
   ·exact hx y hy
 ·have hl:(ST.aP b).length = L.length:=by rw [←g2.length_eq];simp [ST.hT]
  have hn0:ST.aP b≠[]:=fun e0=>eT (List.eq_nil_of_length_eq_zero (by rw [←hl,e0];rfl))
  rw [fJ,if_neg (by omega)]
  rcases hk with hk | hk
  ·subst hk
   rw [fJ,if_pos rfl]
   refine aGA hA g1 (fun x hx hb M1 β hB hs=>?_) hn0
   simp only [go_sem]
   exact h x (g2.mem_iff.1 hx) (fun y hy=>hb y (g2.mem_iff.2 hy)) M1 β hB (by rw [←hl];exact hs)
  ·subst hk
   rw [fJ,if_neg (by omega),fJ,if_pos rfl]
   refine aGF hA g1 (fun x hx hb M1 β hB hs=>?_) hn0
   simp only [go_sem]
   exact h x (g2.mem_iff.1 hx) (fun y hy=>hb y (g2.mem_iff.2 hy)) M1 β hB (by rw [←hl];exact hs)
def aIE (L':List cH) (N':List Nat) (L:List cH) (N:List Nat):Prop:=∀ c∈fN L' N',c∈fN L N
theorem aF1 {x:cH} {n:Nat} {L L1:List cH} {N N1:List Nat} (h:(fN L N).Perm (fN (x::L1) (n::N1))) (hn:(fN L N).Nodup):x.1 ∉ fN L1 N1:=by
 have h1:=h.nodup_iff.1 hn
 unfold fN at h1 ⊢
 rw [List.map_cons,List.cons_append] at h1
 have h2:=(List.perm_middle.nodup_iff.1 (List.nodup_cons.1 h1).2)
 exact (List.nodup_cons.1 h2).1
theorem aKg (hA:aA w0 F M (aF a α)) (hp:KH k α r L N) (eT:L≠[]) (h300:L.length≤300)
  (h:∀ x L',L.Perm (x::L')→(∀ y∈L,y.1≠x.1→Bf x y)→∀ n∈N,∀ M' β r' N',aA w0 F M' (aF a β)→KH k β r' L' N'→aIE L' N' L N→x.1 ∉ fN L' N'→AS.lT (fun c=>c∈fN L N) (· = n) (-1) (dO L.length) α β→R (.tuple #[.int .i64 r',.int .i64 (x.1:Int)]) M') :
  C PP w0 Id.mH #[.int .i64 k,.pointer (some ⟨a,0,none⟩),.int .i64 r] R M:=by
 have fW:=hp.nd
 apply mH.go
 unfold mH.T aH
 rcases hp with ⟨hk,t,g1,g2,g3⟩ | ⟨hk,f,b,g1,g2,g3⟩
 ·rw [fJ,if_pos hk]
  have hcel:=lY g2 g3
  refine aHm hA g1 (fun e0=>?_) fun x L' hL hx M1 β t' n hn hB hp' hits hsub hxn heff hg=>?_
  ·subst e0
   exact absurd (List.nil_perm.1 g2) eT
  ·simp only [go_sem]
   have hP:L.Perm (x::L'):=g2.symm.trans hL
   have hc2:=lY (t:=t') (L:=L') (N:=LT.aP t') hits (List.Perm.refl _)
   refine h x L' hP (fun y hy hyx=>?_) n (g3.mem_iff.1 hn) M1 β _ (LT.aP t') hB (.inl ⟨hk,t',hp',hits,List.Perm.refl _⟩) (fun c hc=>hcel.mem_iff.1 (hsub c (hc2.mem_iff.2 hc))) (fun hc=>hxn (hc2.mem_iff.2 hc)) (heff.mono (fun c hc=>hcel.mem_iff.1 hc) (fun _ h=>h) ?_)
   ·rcases List.mem_cons.1 (hP.mem_iff.1 hy) with rfl | hy
    ·exact absurd rfl hyx
    ·exact hx y hy
   ·rw [g2.length_eq];exact Int.le_refl _
 ·have hcel:=qD g2 g3
  have hl:(ST.aP b).length = L.length:=by rw [←g2.length_eq];simp [ST.hT]
  have hn0:ST.aP b≠[]:=fun e0=>eT (List.eq_nil_of_length_eq_zero (by rw [←hl,e0];rfl))
  have fin:∀ x∈ST.aP b,(∀ y∈ST.aP b,y≠x→Bf (f x) (f y))→∀ L1 N1,(ST.hT f (ST.aP b)).Perm (f x::L1)→(ST.aP b).Perm (x::N1)→∀ M' β r',aA w0 F M' (aF a β)→KH k β r' L1 N1→AS.lT (fun c=>c∈ST.bG f (ST.aP b)) (· = x) (-1) (dO (ST.aP b).length) α β→R (.tuple #[.int .i64 r',.int .i64 ((f x).1:Int)]) M':=by
   intro x hx hbx L1 N1 hL1 hN1 M' β r' hB hkh heff
   refine h (f x) L1 (g2.symm.trans hL1) (fun y hy hyx=>?_) x (g3.mem_iff.1 hx) M' β r' N1 hB hkh (fun c hc=>?_) (aF1 (j4 (g2.symm.trans hL1) (g3.symm.trans hN1)) fW) (heff.mono (fun c hc=>hcel.mem_iff.1 hc) (fun _ h=>h) (by rw [hl];exact Int.le_refl _))
   ·obtain ⟨z,hz,rfl⟩:=List.mem_map.1 (g2.mem_iff.2 hy)
    exact hbx z hz fun e=>hyx (by rw [e])
   ·refine (j4 (g2.symm.trans hL1) (g3.symm.trans hN1)).mem_iff.2 ?_
    unfold fN at hc ⊢
    rcases List.mem_append.1 hc with hc | hc
    ·exact List.mem_append_left _ (List.mem_cons_of_mem _ hc)
    ·exact List.mem_append_right _ (by rw [List.map_cons];exact List.mem_cons_of_mem _ hc)
  rw [fJ,if_neg (by omega)]
  rcases hk with hk | hk
  ·subst hk
   rw [fJ,if_pos rfl]
   refine aHl hA g1 hn0 (by omega) fun x hx hbx L1 N1 hL1 hN1 M' β r' hB hkh heff _=>?_
   simp only [go_sem]
   exact fin x hx hbx L1 N1 hL1 hN1 M' β r' hB hkh heff
  ·subst hk
   rw [fJ,if_neg (by omega),fJ,if_pos rfl]
   refine aGu hA g1 hn0 (by omega) fun x hx hbx L1 N1 hL1 hN1 M' β r' hB hkh heff _=>?_
   simp only [go_sem]
   exact fin x hx hbx L1 N1 hL1 hN1 M' β r' hB hkh heff
theorem aHR (hA:aA w0 F M (aF a α)) {α0:AS} {i:Nat} {e e':bR} {j:Int} (hp:KH k α0 r ((i,e)::L) N) (hle:e'.1≤e.1) (hs2:e'.2 = e.2) (hs:AS.Sm j (α0.put i 7 e'.1) α)
  (h:∀ M' β r' N',aA w0 F M' (aF a β)→KH k β r' ((i,e')::L) N'→aIE ((i,e')::L) N' ((i,e)::L) N→AS.lT (fun c=>c∈fN ((i,e)::L) N) (fun _=>False) 0 (dO (L.length + 1)) α β→R (.int .i64 r') M') :
  C PP w0 Id.kX #[.int .i64 k,.pointer (some ⟨a,0,none⟩),.int .i64 r,.int .i64 (i:Int)] R M:=by
 apply kX.go
 unfold kX.T aH
 have hceq:∀ (N':List Nat),fN ((i,e')::L) N' = fN ((i,e)::L) N':=fun N'=>by unfold fN;rfl
 rcases hp with ⟨hk,t,g1,g2,g3⟩ | ⟨hk,f,b,g1,g2,g3⟩
 ·rw [fJ,if_pos hk]
  have hcel:=lY g2 g3
  have hF:HpF α r t i e e':=by
   obtain ⟨cs,n,l,s,q1,q2,q3,q4,q5,q6,q7⟩:=g1.lower (g2.mem_iff.2 List.mem_cons_self) hle hs2
   exact ⟨cs,n,l,s,q1,q2,q3.congr (fun c _ f=>by rw [hs.get]) (fun c _=>by rw [hs.live]),q4,q5,q6,q7⟩
  refine aEz hA hF fun M1 β t' hB hp' hits hcel' heff=>?_
  simp only [go_sem]
  have hL:=hits L g2
  have hc2:=lY (t:=t') (N:=LT.aP t') hL (List.Perm.refl _)
  refine h M1 β _ (LT.aP t') hB (.inl ⟨hk,t',hp',hL,List.Perm.refl _⟩) (fun c hc=>hcel.mem_iff.1 (hcel'.mem_iff.1 (hc2.mem_iff.2 hc))) (heff.mono (fun c hc=>hcel.mem_iff.1 hc) (fun _ h=>h) ?_)
  rw [g2.length_eq];exact Int.le_refl _
 ·have hcel:=qD g2 g3
  have hl:(ST.aP b).length = L.length + 1:=by rw [←List.length_cons,←g2.length_eq];simp [ST.hT]
  obtain ⟨x,hx,hfx⟩:=List.mem_map.1 (g2.mem_iff.2 List.mem_cons_self)
  have e1:(f x).1 = i:=by rw [hfx]
  have e2:(f x).2 = e:=by rw [hfx]
  rw [←e2] at hle hs2
  rw [←e1] at hs
  have fin:∀ L1,(ST.hT f (ST.aP b)).Perm (f x::L1)→∀ M' β,aA w0 F M' (aF a β)→KH k β r (((f x).1,e')::L1) (ST.aP b)→AS.lT (fun c=>c∈ST.bG f (ST.aP b)) (fun _=>False) 0 (dO (ST.aP b).length) α β→R (.int .i64 r) M':=by
   intro L1 hL1 M' β hB hkh heff
   have hLL:L1.Perm L:=by
    rw [hfx] at hL1
    exact List.Perm.cons_inv (hL1.symm.trans g2)
   rw [e1] at hkh
   refine h M' β r N hB (hkh.perm (hLL.cons _) g3) (fun c hc=>by rw [hceq] at hc;exact hc) (heff.mono (fun c hc=>hcel.mem_iff.1 hc) (fun _ h=>h) (by rw [hl];exact Int.le_refl _))
  rw [fJ,if_neg (by omega),←e1]
  rcases hk with hk | hk
  ·subst hk
   rw [fJ,if_pos rfl]
   refine aE2 hA g1 hx hle hs2 hs fun L1 hL1 M' β hB hkh heff=>?_
   simp only [go_sem]
   exact fin L1 hL1 M' β hB hkh heff
  ·subst hk
   rw [fJ,if_neg (by omega),fJ,if_pos rfl]
   refine aEQ hA g1 hx hle hs2 hs fun L1 hL1 M' β hB hkh heff=>?_
   simp only [go_sem]
   exact fin L1 hL1 M' β hB hkh heff
theorem aJw (hA:aA w0 F M (aF a α)) {i:Nat} {e:bR} (hp:KH k α r ((i,e)::L) N) (h300:L.length < 300)
  (h:∀ n∈N,∀ M' β r' N',aA w0 F M' (aF a β)→KH k β r' L N'→aIE L N' ((i,e)::L) N→i ∉ fN L N'→AS.lT (fun c=>c∈fN ((i,e)::L) N) (· = n) (-1) (dO (L.length + 1)) α β→R (.int .i64 r') M') :
  C PP w0 Id.mW #[.int .i64 k,.pointer (some ⟨a,0,none⟩),.int .i64 r,.int .i64 (i:Int)] R M:=by
 have fW:=hp.nd
 apply mW.go
 unfold mW.T aH
 rcases hp with ⟨hk,t,g1,g2,g3⟩ | ⟨hk,f,b,g1,g2,g3⟩
 ·rw [fJ,if_pos hk]
  have hcel:=lY g2 g3
  refine aHj hA g1 (g2.mem_iff.2 List.mem_cons_self) fun L1 hL1 M1 β t' n hn hB hp' hits hsub hin hnn heff hg=>?_
  simp only [go_sem]
  have hLL:L1.Perm L:=List.Perm.cons_inv (hL1.symm.trans g2)
  have hL:(LT.bY t').Perm L:=hits.trans hLL
  have hc2:=lY (t:=t') (N:=LT.aP t') hL (List.Perm.refl _)
  refine h n (g3.mem_iff.1 hn) M1 β _ (LT.aP t') hB (.inl ⟨hk,t',hp',hL,List.Perm.refl _⟩) (fun c hc=>hcel.mem_iff.1 (hsub c (hc2.mem_iff.2 hc))) (fun hc=>hin (hc2.mem_iff.2 hc)) (heff.mono (fun c hc=>hcel.mem_iff.1 hc) (fun _ h=>h) ?_)
  rw [g2.length_eq];exact Int.le_refl _
 ·have hcel:=qD g2 g3
  have hl:(ST.aP b).length = L.length + 1:=by rw [←List.length_cons,←g2.length_eq];simp [ST.hT]
  obtain ⟨x,hx,hfx⟩:=List.mem_map.1 (g2.mem_iff.2 List.mem_cons_self)
  have e1:(f x).1 = i:=by rw [hfx]
  have fin:∀ L1,(ST.hT f (ST.aP b)).Perm (f x::L1)→∀ n N1,(ST.aP b).Perm (n::N1)→∀ M' β r',aA w0 F M' (aF a β)→KH k β r' L1 N1→AS.lT (fun c=>c∈ST.bG f (ST.aP b)) (· = n) (-1) (dO (ST.aP b).length) α β→R (.int .i64 r') M':=by
   intro L1 hL1 n N1 hN1 M' β r' hB hkh heff
   have hLL:L1.Perm L:=by
    rw [hfx] at hL1
    exact List.Perm.cons_inv (hL1.symm.trans g2)
   refine h n (g3.mem_iff.1 (hN1.mem_iff.2 List.mem_cons_self)) M' β r' N1 hB (hkh.perm hLL (List.Perm.refl _)) (fun c hc=>?_) (aF1 (x:=(i,e)) (j4 (List.Perm.refl _) (g3.symm.trans hN1)) fW) (heff.mono (fun c hc=>hcel.mem_iff.1 hc) (fun _ h=>h) (by rw [hl];exact Int.le_refl _))
   refine (j4 (List.Perm.refl _) (g3.symm.trans hN1)).mem_iff.2 ?_
   unfold fN at hc ⊢
   rcases List.mem_append.1 hc with hc | hc
   ·exact List.mem_append_left _ (List.mem_cons_of_mem _ hc)
   ·exact List.mem_append_right _ (by rw [List.map_cons];exact List.mem_cons_of_mem _ hc)
  rw [fJ,if_neg (by omega),←e1]
  rcases hk with hk | hk
  ·subst hk
   rw [fJ,if_pos rfl]
   refine aGt hA g1 hx (by omega) fun L1 hL1 n N1 hN1 M' β r' hB hkh heff _=>?_
   simp only [go_sem]
   exact fin L1 hL1 n N1 hN1 M' β r' hB hkh heff
  ·subst hk
   rw [fJ,if_neg (by omega),fJ,if_pos rfl]
   refine aGD hA g1 hx (by omega) fun L1 hL1 n N1 hN1 M' β r' hB hkh heff _=>?_
   simp only [go_sem]
   exact fin L1 hL1 n N1 hN1 M' β r' hB hkh heff
theorem aIB (hA:aA w0 F M (aF a α)) {s:Int} {L2:List cH} {N2:List Nat} (hp:KH k α r L N) (hq:KH k α s L2 N2) (hd:(fN L N ++ fN L2 N2).Nodup) (h300:L.length + L2.length≤300)
  (h:∀ M' β r' N',aA w0 F M' (aF a β)→KH k β r' (L ++ L2) N'→(∀ c∈fN (L ++ L2) N',c∈fN L N∨c∈fN L2 N2)→AS.lT (fun c=>c∈fN L N∨c∈fN L2 N2) (fun _=>False) 0 (dO (L.length + L2.length)) α β→R (.int .i64 r') M') :
  C PP w0 Id.kT #[.int .i64 k,.pointer (some ⟨a,0,none⟩),.int .i64 r,.int .i64 s] R M:=by
 apply kT.go
 unfold kT.T aH
 rcases hp with ⟨hk,t,g1,g2,g3⟩ | ⟨hk,f,b,g1,g2,g3⟩
 ·rcases hq with ⟨_,u,q1,q2,q3⟩ | ⟨hk2,_⟩
  ·rw [fJ,if_pos hk]
   have hcel:=lY g2 g3
   have hcel2:=lY q2 q3
   refine aE5 hA g1 q1 ((hcel.append hcel2).nodup_iff.2 hd) fun M1 β t' hB hp' hits hcel' heff=>?_
   simp only [go_sem]
   have hL:(LT.bY t').Perm (L ++ L2):=hits.trans (g2.append q2)
   have hc2:=lY (t:=t') (N:=LT.aP t') hL (List.Perm.refl _)
   refine h M1 β _ (LT.aP t') hB (.inl ⟨hk,t',hp',hL,List.Perm.refl _⟩) (fun c hc=>?_) (heff.mono (fun c hc=>?_) (fun _ h=>h) ?_)
   ·rcases List.mem_append.1 (hcel'.mem_iff.1 (hc2.mem_iff.2 hc)) with hc | hc
    ·exact .inl (hcel.mem_iff.1 hc)
    ·exact .inr (hcel2.mem_iff.1 hc)
   ·rcases hc with hc | hc
    ·exact .inl (hcel.mem_iff.1 hc)
    ·exact .inr (hcel2.mem_iff.1 hc)
   ·rw [g2.length_eq,q2.length_eq];exact Int.le_refl _
  ·omega
 ·rcases hq with ⟨hk2,_⟩ | ⟨_,g,c,q1,q2,q3⟩
  ·omega
  ·have hcel:=qD g2 g3
   have hcel2:=qD q2 q3
   have hl:(ST.aP b).length = L.length:=by rw [←g2.length_eq];simp [ST.hT]
   have hl2:(ST.aP c).length = L2.length:=by rw [←q2.length_eq];simp [ST.hT]
   have fin:∀ M' β r',aA w0 F M' (aF a β)→KH k β r' (ST.hT f (ST.aP b) ++ ST.hT g (ST.aP c)) (ST.aP b ++ ST.aP c)→AS.lT (fun x=>x∈ST.bG f (ST.aP b)∨x∈ST.bG g (ST.aP c)) (fun _=>False) 0 (dO ((ST.aP b).length + (ST.aP c).length)) α β→R (.int .i64 r') M':=by
    intro M' β r' hB hkh heff
    refine h M' β r' (N ++ N2) hB (hkh.perm (g2.append q2) (g3.append q3)) (fun c hc=>?_) (heff.mono (fun c hc=>?_) (fun _ h=>h) (by rw [hl,hl2];exact Int.le_refl _))
    ·unfold fN at hc ⊢
     simp only [List.map_append,List.mem_append] at hc ⊢
     rcases hc with (hc | hc) | hc | hc
     ·exact .inl (.inl hc)
     ·exact .inr (.inl hc)
     ·exact .inl (.inr hc)
     ·exact .inr (.inr hc)
    ·rcases hc with hc | hc
     ·exact .inl (hcel.mem_iff.1 hc)
     ·exact .inr (hcel2.mem_iff.1 hc)
   rw [fJ,if_neg (by omega)]
   rcases hk with hk | hk
   ·subst hk
    rw [fJ,if_pos rfl]
    refine aE3 hA g1 q1 ((hcel.append hcel2).nodup_iff.2 hd) (by omega) fun M' β r' hB hkh heff=>?_
    simp only [go_sem]
    exact fin M' β r' hB hkh heff
   ·subst hk
    rw [fJ,if_neg (by omega),fJ,if_pos rfl]
    refine aEO hA g1 q1 ((hcel.append hcel2).nodup_iff.2 hd) (by omega) fun M' β r' hB hkh heff=>?_
    simp only [go_sem]
    exact fin M' β r' hB hkh heff
end
end HL
namespace HL
abbrev x5:TypeId:=156
abbrev x4 (bh bi ma:Nat):List Value:=[.pointer (some ⟨bh,0,none⟩),.pointer (some ⟨bi,0,none⟩),.map (some ma)]
section
variable {w0:World} {F M:Mem} {R:VP} {os:vA} {t bh bi ma:Nat} {hp ip:PS V3} {Q:cI}
theorem Tb0 (o:cS w0 F t (x4 bh bi ma) x5) (hl:Mem.le F M):(aJ PP w0).ld 146 ⟨t,0,none⟩ M = some (.pointer (some ⟨bh,0,none⟩)):=mB W.aMR (o.le hl) rfl
theorem Tb1 (o:cS w0 F t (x4 bh bi ma) x5) (hl:Mem.le F M):(aJ PP w0).ld 150 ⟨t,1,none⟩ M = some (.pointer (some ⟨bi,0,none⟩)):=mB W.aM2 (o.le hl) rfl
theorem Tb2 (o:cS w0 F t (x4 bh bi ma) x5) (hl:Mem.le F M):(aJ PP w0).ld 154 ⟨t,2,none⟩ M = some (.map (some ma)):=mB (by kernel_rfl) (o.le hl) rfl
theorem qI {a g:Int} {v:V3} (oT:cS w0 F t (x4 bh bi ma) x5) (h:HO w0 F M os (star (xY bh hp) Q)) (hb:hp.l.length≤100000) (hw:hp.find a g = some v)
  (hK:∀ M',HO w0 F M' os (star (xY bh hp) Q)→R (.tuple #[.int .i64 v.1,.int .i64 v.2.1,.int .i64 v.2.2,.int .i64 0]) M') :
  C PP w0 Id.pJ #[.pointer (some ⟨t,0,none⟩),.agg #[.int .i64 a,.int .i64 g]] R M:=by
 apply pJ.go
 unfold pJ.T aH
 refine sZ h fun b1 F1 M1 l1 lm1 o1 h1=>?_
 have oT1:=oT.le l1
 simp only [aT,Tb0 oT1 h1.fr,aC,bN,fF a9 (o1.le h1.fr),aZ,aW,aL,aU]
 refine ⟨?_,?_⟩
 rotate_left
 ·refine jQ h1 fun b2 M2 l2 h2=>?_
  refine ⟨Tb0 oT1 h2.fr,fF a9 (o1.le h2.fr),?_⟩
  refine x8 h2.h.right hb hw fun M3 l3=>?_
  simp only [cD,aW,aZ,aL,aU]
  refine xQ wX (by rfl) uF (h2.le l3) fun F2 M4 l4 o4 h4=>?_
  simp only [add_eq,Nat.zero_add,mB W.c3 (o4.le h4.fr) (o:=0) rfl,mB W.c3 (o4.le h4.fr) (o:=1) rfl,mB W.c3 (o4.le h4.fr) (o:=2) rfl,aC,aL,true_and]
  exact hK M4 ((h4.fO l4).fO l1)
 ·refine x8 h1.h hb hw fun M3 l3=>?_
  simp only [cD,aW,aZ,aL,aU]
  refine kC wX (by rfl) uF (h1.le l3) fun b2 F2 M4 l4 o4 h4=>?_
  simp only [add_eq,Nat.zero_add,mB W.c3 (o4.le h4.fr) (o:=0) rfl,mB W.c3 (o4.le h4.fr) (o:=1) rfl,mB W.c3 (o4.le h4.fr) (o:=2) rfl,aC,aL,true_and]
  exact hK M4 ((h4.fO l4).fO l1)
theorem aEf {a g:Int} {v:V3} (oT:cS w0 F t (x4 bh bi ma) x5) (h:HO w0 F M os (star (rQ bi ip) Q)) (hb:ip.l.length≤100000) (hw:ip.find a g = some v)
  (hK:∀ M',HO w0 F M' os (star (rQ bi ip) Q)→R (.tuple #[.int .i64 v.1,.int .i64 0]) M') :
  C PP w0 Id.pN #[.pointer (some ⟨t,0,none⟩),.agg #[.int .i64 a,.int .i64 g]] R M:=by
 apply pN.go
 unfold pN.T aH
 refine sZ h fun b1 F1 M1 l1 lm1 o1 h1=>?_
 have oT1:=oT.le l1
 simp only [aT,add_eq,Nat.zero_add,Tb1 oT1 h1.fr,aC,bN,fF a9 (o1.le h1.fr),aZ,aW,aL,aU]
 refine ⟨?_,?_⟩
 rotate_left
 ·refine jQ h1 fun b2 M2 l2 h2=>?_
  refine ⟨Tb1 oT1 h2.fr,fF a9 (o1.le h2.fr),?_⟩
  refine aAC h2.h.right hb hw fun M3 l3=>?_
  simp only [cD,aW,aZ,aL,aU]
  refine xQ rZ (by rfl) uF (h2.le l3) fun F2 M4 l4 o4 h4=>?_
  simp only [mB W.c3 (o4.le h4.fr) (o:=0) rfl,aC,aL]
  exact hK M4 ((h4.fO l4).fO l1)
 ·refine aAC h1.h hb hw fun M3 l3=>?_
  simp only [cD,aW,aZ,aL,aU]
  refine kC rZ (by rfl) uF (h1.le l3) fun b2 F2 M4 l4 o4 h4=>?_
  simp only [mB W.c3 (o4.le h4.fr) (o:=0) rfl,aC,aL]
  exact hK M4 ((h4.fO l4).fO l1)
theorem aCY {a g:Int} {v:V3} (oT:cS w0 F t (x4 bh bi ma) x5) (h:HO w0 F M os (star (rQ bi ip) Q)) (hb:ip.l.length≤100000) (hw:ip.find a g = some v)
  (hK:∀ M',HO w0 F M' os (star (rQ bi ip) Q)→R (.tuple #[.agg #[.int .i64 v.2.1,.int .i64 v.2.2],.int .i64 0]) M') :
  C PP w0 Id.xB #[.pointer (some ⟨t,0,none⟩),.agg #[.int .i64 a,.int .i64 g]] R M:=by
 apply xB.go
 unfold xB.T aH
 refine sZ h fun b1 F1 M1 l1 lm1 o1 h1=>?_
 refine jQ h1 fun b3 M1' l1' h1'=>?_
 have oT1:=oT.le l1
 simp only [aT,add_eq,Nat.zero_add,Tb1 oT1 h1'.fr,aC,bN,fF a9 (o1.le h1'.fr),aZ,aW,aL,aU]
 refine ⟨?_,?_⟩
 rotate_left
 ·refine jQ h1' fun b2 M2 l2 h2=>?_
  refine ⟨Tb1 oT1 h2.fr,fF a9 (o1.le h2.fr),?_⟩
  refine aAC h2.h.right.right hb hw fun M3 l3=>?_
  simp only [cD,aW,aZ,aL,aU]
  refine xQ rZ (by rfl) uF (h2.le l3) fun F2 M4 l4 o4 h4=>?_
  simp only [kZ (o:=1) (vs:=[.int .i64 v.2.1,.int .i64 v.2.2]) a9 (o4.le h4.fr) (fun j u hj=>by rw [Nat.add_comm];exact hj),aC,aZ,aW,aL,aU]
  refine jV (K:=fun v M=>R (.tuple #[v,.int .i64 0]) M) a9 (by rfl) iS h4 fun M5 h5=>?_
  exact hK M5 ((h5.fO l4).fO l1)
 ·refine aAC h1'.h.right hb hw fun M3 l3=>?_
  simp only [cD,aW,aZ,aL,aU]
  refine kC rZ (by rfl) uF (h1'.le l3) fun b2 F2 M4 l4 o4 h4=>?_
  simp only [kZ (o:=1) (vs:=[.int .i64 v.2.1,.int .i64 v.2.2]) a9 (o4.le h4.fr) (fun j u hj=>by rw [Nat.add_comm];exact hj),aC,aZ,aW,aL,aU]
  refine jV (K:=fun v M=>R (.tuple #[v,.int .i64 0]) M) a9 (by rfl) iS h4 fun M5 h5=>?_
  exact hK M5 ((h5.fO l4).fO l1)
theorem w7 {a g r n:Int} {v:V3} (oT:cS w0 F t (x4 bh bi ma) x5) (h:HO w0 F M os (star (xY bh hp) Q)) (hb:hp.l.length≤100000) (hw:hp.find a g = some v)
  (hK:∀ M',HO w0 F M' os (star (xY bh (hp.put a.toNat (v.1,r,n))) Q)→R (.int .i64 0) M') :
  C PP w0 Id.pE #[.pointer (some ⟨t,0,none⟩),.agg #[.int .i64 a,.int .i64 g],.int .i64 r,.int .i64 n] R M:=by
 apply pE.go
 unfold pE.T aH
 refine sZ h fun b1 F1 M1 l1 lm1 o1 h1=>?_
 have oT1:=oT.le l1
 simp only [aT,Tb0 oT1 h1.fr,aC,bN,fF a9 (o1.le h1.fr),aZ,aW,aL,aU]
 refine ⟨?_,?_⟩
 rotate_left
 refine jQ h1 fun b2 M2 l2 h2=>?_
 refine ⟨Tb0 oT1 h2.fr,fF a9 (o1.le h2.fr),?_⟩
 refine x8 h2.h.right hb hw fun M3 l3=>?_
 simp only [cD,aW,aZ,aL,aU]
 refine stW wX (by rfl) uF (h2.le l3) fun M4 h4=>?_
 rotate_left
 refine x8 h1.h hb hw fun M3 l3=>?_
 simp only [cD,aW,aZ,aL,aU]
 refine jQ (h1.le l3) fun b2 M2 l2 h2=>?_
 refine stW wX (by rfl) uF h2 fun M4 h4=>?_
 all_goals
  rw [fJ,if_pos rfl]
  simp only [add_eq,Nat.zero_add]
  refine aDq (o:=1) W.c3 (by simp) rfl rfl h4 fun M5 h5=>?_
  refine aDq (o:=2) W.c3 (by simp) rfl rfl h5 fun M6 h6=>?_
  change HO w0 F1 M6 os (star (bA b2 [.int .i64 v.1,.int .i64 r,.int .i64 n] 149) _) at h6
  simp only [aT,Tb0 oT1 h6.fr,aC,bN,fF a9 (o1.le h6.fr),fF wX h6.h.bC,aZ,aW,aL,aU]
  obtain ⟨F2,hB,l7,back⟩:=h6.aBP
  refine aKx (v:=(v.1,r,n)) hB hb hw fun M7 hC=>?_
  rw [aL]
  have h8:=back M7 _ hC
  exact hK M7 ((h8.aX fun h=>h.right).fO l1)
theorem aDj {c:Int} {r:dN} {oa:Obj} {m:Int→Option dN} (oT:cS w0 F t (x4 bh bi ma) x5) (h:HO w0 F M os Q) (hm:(ma,oa)∈os) (hf:dM (Value.int .i64) bZ m oa) (hw:m c = some r)
  (hK:∀ M',HO w0 F M' os Q→R (.tuple #[.agg #[.int .i64 r.1,.int .i64 r.2],.bool true]) M') :
  C PP w0 Id.wU #[.pointer (some ⟨t,0,none⟩),.int .i64 c] R M:=by
 apply wU.go
 unfold wU.T aH
 refine jQ h fun b1 M1 l1 h1=>?_
 obtain ⟨inf,hi,hz,_⟩:=W.e33
 have hlk:=(lkF (k:=c) Tryz.underlying154 aAU hi hz (h1.get hm).1 (h1.get hm).2 hf).2
 rw [hw] at hlk
 simp only [Option.map_some,Option.getD_some,Option.isSome_some,bZ] at hlk
 simp only [aT,add_eq,Nat.zero_add,Tb2 oT h1.fr,aC,hlk,cD,aW,aZ,aL,bU,aU]
 refine kC a9 (by rfl) iS h1 fun b2 F2 M4 l4 o4 h4=>?_
 simp only [fF a9 (o4.le h4.fr),aC,aZ,aW,aL,aU]
 refine jV (K:=fun v M=>R (.tuple #[v,.bool true]) M) a9 (by rfl) iS h4 fun M5 h5=>?_
 exact hK M5 (h5.fO l4)
theorem aGW (oT:cS w0 F t (x4 bh bi ma) x5) (h:HO w0 F M os (star (rQ bi ip) Q)) (hb:ip.l.length≤100000) (hf:ip.free.length≤ip.l.length) (hK:R (.int .i64 ((ip.l.length - ip.free.length:Nat):Int)) M) :
  C PP w0 Id.mR #[.pointer (some ⟨t,0,none⟩)] R M:=by
 apply mR.go
 unfold mR.T aH
 simp only [aT,add_eq,Nat.zero_add,Tb1 oT h.fr,aC,bN]
 refine aFF h.h hb hf ?_
 rw [aL]
 exact hK
theorem aI7 {a g:Int} {v:V3} {oa:Obj} {m:Int→Option dN} (oT:cS w0 F t (x4 bh bi ma) x5) (h:HO w0 F M ((ma,oa)::os) (star (rQ bi ip) Q)) (hb:ip.l.length≤10000) (hfb:ip.free.length≤10000) (hf:dM (Value.int .i64) bZ m oa) (hw:ip.find a g = some v)
  (hK:∀ M' oa',dM (Value.int .i64) bZ (gB m v.1 none) oa'→HO w0 F M' ((ma,oa')::os) (star (rQ bi (ip.gK z3 a.toNat)) Q)→R (.tuple #[.int .i64 v.1,.int .i64 0]) M') :
  C PP w0 Id.oS #[.pointer (some ⟨t,0,none⟩),.agg #[.int .i64 a,.int .i64 g]] R M:=by
 apply oS.go
 unfold oS.T aH
 refine sZ h fun b1 F1 M1 l1 lm1 o1 h1=>?_
 have oT1:=oT.le l1
 simp only [aT,add_eq,Nat.zero_add,Tb1 oT1 h1.fr,aC,bN,fF a9 (o1.le h1.fr),aZ,aW,aL,aU]
 refine ⟨?_,?_⟩
 rotate_left
 refine jQ h1 fun b2 M2 l2 h2=>?_
 refine ⟨Tb1 oT1 h2.fr,fF a9 (o1.le h2.fr),?_⟩
 obtain ⟨F2,hB,l3,back⟩:=h2.aBP
 refine aDy hB hb hfb hw fun M3 hC=>?_
 have h3:=back M3 _ hC
 simp only [cD,aW,aZ,aL,aU]
 refine xQ rZ (by rfl) uF h3 fun F3 M4 l4 o4 h4=>?_
 rotate_left
 obtain ⟨F2,hB,l3,back⟩:=h1.wJ
 refine aDy hB hb hfb hw fun M3 hC=>?_
 have h3:=back M3 _ hC
 simp only [cD,aW,aZ,aL,aU]
 refine kC rZ (by rfl) uF h3 fun b2 F3 M4 l4 o4 h4=>?_
 all_goals
  rw [fJ,if_pos rfl]
  simp only [aT,add_eq,Nat.zero_add,Tb2 (oT1.le l4) h4.fr,aC,mB W.c3 (o4.le h4.fr) (o:=0) rfl,aL]
  obtain ⟨g1,g2⟩:=h4.get List.mem_cons_self
  refine aHJ (k:=v.1) rfl Tryz.underlying154 aAU g1 g2 hf fun oa' hf'=>?_
  have h5:=h4.set (o':=oa')
  generalize Mem.set M4 ma _ = M5 at h5 ⊢
  simp only [mB W.c3 (o4.le h5.fr) (o:=0) rfl,aC,aL]
  exact hK M5 oa' hf' ((h5.fO l4).fO l1)
end
end HL
namespace HL
structure fG where
 why:Int:=0
 at_:Int:=0
 gen:Int:=0
 time:Int:=0
 data:Int:=0
 n:Int:=0
deriving DecidableEq
structure tW where
 kind:Int
 queue:Int
 at_:Int
 gen:Int
 time:Int
 data:Int
abbrev iQ:TypeId:=65
abbrev qT:TypeId:=68
def fG.v (r:fG):Value:=.agg #[.int .i64 r.why,.int .i64 r.at_,.int .i64 r.gen,.int .i64 r.time,.int .i64 r.data,.int .i64 r.n]
def fG.cells (r:fG):List Value:=[.int .i64 r.why,.int .i64 r.at_,.int .i64 r.gen,.int .i64 r.time,.int .i64 r.data,.int .i64 r.n]
def tW.v (c:tW):Value:=.agg #[.int .i64 c.kind,.int .i64 c.queue,.int .i64 c.at_,.int .i64 c.gen,.int .i64 c.time,.int .i64 c.data]
def tW.cells (c:tW):List Value:=[.int .i64 c.kind,.int .i64 c.queue,.int .i64 c.at_,.int .i64 c.gen,.int .i64 c.time,.int .i64 c.data]
end HL
namespace HL
structure Jb where
 queue:Int
 data:Int
 key:Int
 zY:Int
 at_:Int
 gen:Int
def Jb.e (j:Jb):bR:=(j.key,j.zY)
structure qL where
 most:Int
 now:Int
 next:Int
 cQ:Pl
 l:List Jb
def atD (l:List Jb) (a g:Int):Option Nat:=l.findIdx? fun j=>decide (j.at_ = a∧j.gen = g)
def aDR:Option (Nat × bR)→bR→Bool
 | none,_=>true
 | some x,e=>decide (Lt e x.2)
def tO (q:Int):Nat→List Jb→Option (Nat × bR)→Option (Nat × bR)
 | _,[],acc=>acc
 | i,j::t,acc=>tO q (i + 1) t (if j.queue = q∧aDR acc j.e = true then some (i,j.e) else acc)
def pW (l:List Jb) (q:Int):Option (Nat × bR):=tO q 0 l none
def iR (q:Int) (l:List Jb):Nat:=l.countP fun j=>decide (j.queue = q)
def qL.out (d:qL) (k:Nat):qL:=match d.l[k]? with
 | none=>d
 | some j=>{ d with l:=d.l.eraseIdx k,cQ:=d.cQ.gK j.at_.toNat }
def gJ (d:qL) (c:tW):qL × fG :=
 if (c.kind = 1∨c.kind = 5∨c.kind = 6∨c.kind = 7)∧(c.queue < 0∨2≤c.queue) then (d,{ why:=1 })
 else if c.kind = 1 then
  match d.cQ.at_ with
  | none=>(d,{ why:=13 })
  | some a=>({ d with cQ:=d.cQ.take a 0,l:=d.l ++ [⟨c.queue,c.data,c.time,d.next,(a:Int),d.cQ.gen a⟩],next:=d.next + 1 },{ at_:=(a:Int),gen:=d.cQ.gen a,time:=c.time,data:=c.data })
 else if c.kind = 2∨c.kind = 3 then
  if d.cQ.look c.at_ c.gen≠0 then (d,{ why:=d.cQ.look c.at_ c.gen })
  else match atD d.l c.at_ c.gen with
   | none=>(d,{})
   | some k=>match d.l[k]? with
    | none=>(d,{})
    | some j =>
     if c.kind = 3 then (d.out k,{ time:=j.key,data:=j.data })
     else if j.key < c.time then (d,{ why:=26 })
     else ({ d with l:=d.l.set k { j with key:=c.time } },{ time:=c.time,data:=j.data })
 else if c.kind = 4 then
  if c.time < 0 then (d,{ why:=1 }) else ({ d with now:=kD d.now c.time },{ time:=kD d.now c.time })
 else if c.kind = 5 then
  match pW d.l c.queue with
  | none=>(d,{ why:=28 })
  | some x=>if d.now < x.2.1 then (d,{ why:=28 }) else
   match d.l[x.1]? with
   | none=>(d,{})
   | some j=>(d.out x.1,{ at_:=j.at_,gen:=j.gen,time:=j.key,data:=j.data })
 else if c.kind = 6 then
  if c.queue = 0 then (d,{ why:=25 })
  else ({ d with l:=d.l.map fun j=>if j.queue = 1 then { j with queue:=0 } else j },{ n:=(iR 1 d.l:Int) })
 else if c.kind = 7 then (d,{ n:=(iR c.queue d.l:Int) })
 else (d,{ why:=12 })
structure DOk (d:qL):Prop where
 pl:aG8 d.cQ
 look:∀ a g,d.cQ.look a g = 0→∃ k,atD d.l a g = some k
 lk:∀ j∈d.l,d.cQ.look j.at_ j.gen = 0
 bl:d.cQ.back.length≤10000
 gl:d.cQ.lO.length≤10000
 gv:∀ g∈d.cQ.lO,0≤g∧g≤1000000
 ll:d.l.length≤10000
 nx:0≤d.next∧d.next≤1000000
theorem aAv {q:Int}:∀ {l:List Jb} {i:Nat} {acc:Option (Nat × bR)} {P:Nat × bR→Prop},(∀ x,acc = some x→P x)→(∀ (n:Nat) j,l[n]? = some j→j.queue = q→P (i + n,j.e))→∀ x,tO q i l acc = some x→P x
 | [],i,acc,P,h0,_,x,hx=>h0 x hx
 | j::l,i,acc,P,h0,h1,x,hx=>by
  rw [tO] at hx
  refine aAv (P:=P) (fun y hy=>?_) (fun n k hk hq=>?_) x hx
  ·split at hy
   ·rename_i hc
    cases hy
    exact h1 0 j rfl hc.1
   ·exact h0 y hy
  ·have:=h1 (n + 1) k (by simpa using hk) hq
   rw [show i + 1 + n = i + (n + 1) from by omega];exact this
theorem zO {q:Int}:∀ {l:List Jb} {i:Nat} {acc:Option (Nat × bR)} {x:Nat × bR},tO q i l acc = some x→(∀ y,acc = some y→¬ Lt y.2 x.2)∧∀ j∈l,j.queue = q→¬ Lt j.e x.2
 | [],i,acc,x,hx=>⟨fun y hy=>by
   have:acc = some x:=hx
   rw [this] at hy;cases hy;exact Lt.irr,fun j hj=>by cases hj⟩
 | j::l,i,acc,x,hx=>by
  rw [tO] at hx
  obtain ⟨h1,h2⟩:=zO hx
  by_cases hc:j.queue = q∧aDR acc j.e = true
  ·rw [if_pos hc] at h1
   have hj:=h1 _ rfl
   refine ⟨fun y hy=>?_,fun k hk hq=>?_⟩
   ·subst hy
    intro hh
    have:=hc.2
    simp only [aDR,decide_eq_true_eq] at this
    exact hj (Lt.tr this hh)
   ·rcases List.mem_cons.1 hk with rfl | hk
    ·exact hj
    ·exact h2 k hk hq
  ·rw [if_neg hc] at h1
   refine ⟨h1,fun k hk hq=>?_⟩
   rcases List.mem_cons.1 hk with rfl | hk
   ·cases acc with
    | none=>exact absurd ⟨hq,rfl⟩ hc
    | some y =>
     have hny:¬ Lt k.e y.2:=fun hh=>hc ⟨hq,by simp only [aDR,decide_eq_true_eq];exact hh⟩
     have hyx:=h1 y rfl
     exact fun hh=>(nLt.tr hyx hny) hh
   ·exact h2 k hk hq
theorem aAB {q:Int}:∀ {l:List Jb} {i:Nat} {acc:Option (Nat × bR)},tO q i l acc = none→acc = none∧∀ j∈l,j.queue≠q
 | [],i,acc,hx=>⟨hx,fun j hj=>by cases hj⟩
 | j::l,i,acc,hx=>by
  rw [tO] at hx
  obtain ⟨h1,h2⟩:=aAB hx
  split at h1
  ·cases h1
  ·rename_i hc
   subst h1
   refine ⟨rfl,fun k hk hq=>?_⟩
   rcases List.mem_cons.1 hk with rfl | hk
   ·exact hc ⟨hq,rfl⟩
   ·exact h2 k hk hq
theorem aAA {l:List Jb} {q:Int} {x:Nat × bR} (h:pW l q = some x):∃ j,l[x.1]? = some j∧j.queue = q∧x.2 = j.e∧∀ k∈l,k.queue = q→¬ Lt k.e j.e:=by
 have h1:=aAv (q:=q) (l:=l) (i:=0) (acc:=none) (P:=fun y=>∃ j,l[y.1]? = some j∧j.queue = q∧y.2 = j.e) (fun y hy=>by cases hy) (fun n j hj hq=>⟨j,by rw [Nat.zero_add];exact hj,hq,rfl⟩) x h
 obtain ⟨j,h2,h3,h4⟩:=h1
 refine ⟨j,h2,h3,h4,fun k hk hq=>?_⟩
 rw [←h4]
 exact (zO h).2 k hk hq
end HL
namespace HL
section
variable {w0:World} {M F:Mem} {R:VP}
theorem aJ0 {a b:Int} (ha:gC a) (hb:gC b) (h:R (.int .i64 (kD a b)) M):C PP w0 Id.jL #[.int .i64 a,.int .i64 b] R M:=by
 apply jL.go
 intro aB H
 unfold jL.T aH
 unfold gC at ha hb
 unfold kD at h
 have hj:(a < 0∨¬ (9223372036854775807 < a + b))→jL.J1 aB a b M:=by
  intro hc
  refine Eq.mpr (H.J1 ..) ?_
  unfold jL.J1.T aH
  rw [cR]
  split
  ·rw [aQ (n:=(-9223372036854775808) - a) (by omega),cR]
   split
   ·rw [if_neg (by omega),if_pos (by omega)] at h;exact h
   ·rw [if_neg (by omega),if_neg (by omega)] at h
    rw [aQ (by omega)];exact h
  ·rw [if_neg (by omega),if_neg (by omega)] at h
   rw [aQ (by omega)];exact h
 rw [cR]
 split
 ·rw [aQ (by omega),cR]
  split
  ·rw [if_pos (by omega)] at h;exact h
  ·exact hj (.inr (by omega))
 ·by_cases h0:a < 0
  ·exact hj (.inl h0)
  ·exact hj (.inr (by omega))
end
end HL
namespace HL
abbrev tD:TypeId:=73
abbrev tJb:TypeId:=130
def x6 (j:Jb):List Value:=[.int .i64 j.queue,.int .i64 j.data,.int .i64 j.key,.int .i64 j.zY,.int .i64 j.at_,.int .i64 j.gen]
theorem xM (j:Jb):(x6 j).length = 6:=rfl
theorem y7 (j:Jb):∀ v∈x6 j,bS v = true:=by
 intro v hv
 simp only [x6,List.mem_cons,List.not_mem_nil,or_false] at hv
 rcases hv with rfl | rfl | rfl | rfl | rfl | rfl <;> rfl
abbrev jdV (l:List Jb):List Value:=l.flatMap x6
theorem qF (l:List Jb):(jdV l).length = l.length * 6:=sT xM l
theorem zZ (l:List Jb):∀ v∈jdV l,bS v = true:=aI3 y7 _
def Jb.v (j:Jb):Value:=.agg #[.int .i64 j.queue,.int .i64 j.data,.int .i64 j.key,.int .i64 j.zY,.int .i64 j.at_,.int .i64 j.gen]
theorem aIe (l:List Jb) (i:Nat):jdV (l.take i) = (jdV l).take (i * 6):=by
 by_cases hi:i≤l.length
 ·have h:jdV l = jdV (l.take i) ++ jdV (l.drop i):=by rw [←List.flatMap_append,List.take_append_drop]
  rw [h];exact (List.take_left' (by rw [qF,List.length_take];omega)).symm
 ·rw [List.take_of_length_le (by omega),List.take_of_length_le (by rw [qF];omega)]
theorem aIp (l:List Jb) (i:Nat):jdV (l.drop i) = (jdV l).drop (i * 6):=by
 by_cases hi:i≤l.length
 ·have h:jdV l = jdV (l.take i) ++ jdV (l.drop i):=by rw [←List.flatMap_append,List.take_append_drop]
  rw [h];exact (List.drop_left' (by rw [qF,List.length_take];omega)).symm
 ·rw [List.drop_of_length_le (by omega),List.drop_of_length_le (by rw [qF];omega)];rfl
section
variable {w0:World} {F M:Mem} {R:VP}
theorem aCW {X Y:Operand} (a g b k:Int):(aJ PP w0).bq .eql 33 X Y (.agg #[.int .i64 a,.int .i64 g]) (.agg #[.int .i64 b,.int .i64 k]) = some (.bool (a == b && g == k)):=by
 have:=aEV (P:=PP) (w0:=w0) (X:=X) (Y:=Y) (es:=[a == b,g == k]) (xs:=#[.int .i64 a,.int .i64 g]) (ys:=#[.int .i64 b,.int .i64 k]) Tryz.underlying33 (by kernel_rfl) (by kernel_rfl)
  ⟨by decide,⟨.int .i64 a,.int .i64 b,by kernel_rfl,by kernel_rfl,j3 Tryz.underlying3 a b⟩,by decide,⟨.int .i64 g,.int .i64 k,by kernel_rfl,by kernel_rfl,j3 Tryz.underlying3 g k⟩,trivial⟩
 rw [show ([a == b,g == k]:List Bool).all id = (a == b && g == k) from by simp [List.all]] at this
 exact this
theorem aGZ {s:SV} {cs:List Value} {k i:Nat} (hc:gW w0 M s.a cs) (hl:cs.length = s.n * k) (hcap:s.n≤s.c):gW w0 M (if s.c = i then s.a else s.a.map (·.add (i * k))) (cs.drop (i * k)):=fun j v hj=>by
 rw [List.getElem?_drop] at hj
 obtain ⟨ad,ha,hr⟩:=hc _ v hj
 have hlt:=(List.getElem?_eq_some_iff.1 hj).1
 rw [if_neg (fun e=>by
  have:s.n * k≤i * k:=Nat.mul_le_mul_right k (by omega)
  omega)]
 refine ⟨ad.add (i * k),by rw [ha];rfl,?_⟩
 rw [add_add];exact hr
theorem aGS {s:SV} {cs:List Value} {m:Nat} (hc:gW w0 M s.a cs):gW w0 M (if s.c = 0 then s.a else s.a.map (·.add 0)) (cs.take m):=fun j v hj=>by
 have hj2:cs[j]? = some v:=by
  rw [List.getElem?_take] at hj
  split at hj
  ·exact hj
  ·cases hj
 obtain ⟨ad,ha,hr⟩:=hc _ v hj2
 refine ⟨ad,?_,hr⟩
 rw [ha]
 split
 ·rfl
 ·simp [Addr.add]
def eW (d:Nat) (x:qL):cI:=fun r=>∃ (p:Nat) (s:SV),star (bA d [.int .i64 x.most,.int .i64 x.now,.int .i64 x.next,.pointer (some ⟨p,0,none⟩),SV.v s] tD) (star (dX 6 s (jdV x.l)) (lU p x.cQ)) r
section
variable {d:Nat} {x:qL} {Q:cI}
abbrev DH (w0:World) (F M:Mem) (d:Nat) (x:qL) (p:Nat) (s:SV) (Q:cI):Prop:=aA w0 F M (star (bA d [.int .i64 x.most,.int .i64 x.now,.int .i64 x.next,.pointer (some ⟨p,0,none⟩),SV.v s] tD) (star (dX 6 s (jdV x.l)) (star (lU p x.cQ) Q)))
theorem eW.open_ (h:aA w0 F M (star (eW d x) Q)):∃ p s,DH w0 F M d x p s Q:=by
 obtain ⟨r,⟨r1,r2,rfl,⟨p,s,r3,r4,rfl,a1,r5,r6,rfl,a2,a3⟩,a4⟩,a5⟩:=h
 exact ⟨p,s,_,⟨r3,r5 ++ (r6 ++ r2),by simp,a1,r5,_,rfl,a2,r6,_,rfl,a3,a4⟩,a5⟩
theorem DH.close {p:Nat} {s:SV} (h:DH w0 F M d x p s Q):aA w0 F M (star (eW d x) Q):=by
 obtain ⟨r,⟨r3,r4,rfl,a1,r5,r6,rfl,a2,r7,r8,rfl,a3,a4⟩,a5⟩:=h
 exact ⟨_,⟨r3 ++ (r5 ++ r7),r8,by simp,⟨p,s,r3,_,rfl,a1,r5,_,rfl,a2,a3⟩,a4⟩,a5⟩
theorem DH.n {p:Nat} {s:SV} (h:DH w0 F M d x p s Q):s.n = x.l.length:=aA.nR xM (by decide) h.right
theorem DH.job {p:Nat} {s:SV} (h:DH w0 F M d x p s Q) {i:Nat} {j:Jb} (hj:x.l[i]? = some j):∃ blk,s.a = some ⟨blk,0,none⟩∧s.n = x.l.length∧i < s.n∧∀ f v,(x6 j)[f]? = some v→rd w0 M ⟨blk,i * 6 + f,none⟩ = some v:=aA.adR xM (by decide) h.right hj
theorem DH.rl {p:Nat} {s:SV} (h:DH w0 F M d x p s Q):rd w0 M ⟨d,4,none⟩ = some (SV.v s):=aN (o:=4) h.bC
theorem DH.rp {p:Nat} {s:SV} (h:DH w0 F M d x p s Q):rd w0 M ⟨d,3,none⟩ = some (.pointer (some ⟨p,0,none⟩)):=aN (o:=3) h.bC
theorem DH.rn {p:Nat} {s:SV} (h:DH w0 F M d x p s Q):rd w0 M ⟨d,1,none⟩ = some (.int .i64 x.now):=aN (o:=1) h.bC
theorem DH.rx {p:Nat} {s:SV} (h:DH w0 F M d x p s Q):rd w0 M ⟨d,2,none⟩ = some (.int .i64 x.next):=aN (o:=2) h.bC
theorem DH.cQ {p:Nat} {s:SV} (h:DH w0 F M d x p s Q):∃ F1,aA w0 F1 M (star (lU p x.cQ) Q)∧∀ M' pl' Q',aA w0 F1 M' (star (lU p pl') Q')→DH w0 F M' d { x with cQ:=pl' } p s Q':=by
 obtain ⟨F1,k1,_,k2⟩:=h.last
 obtain ⟨F2,k3,_,k4⟩:=k1.last
 exact ⟨F2,k3,fun M' pl' Q' hh=>k2 _ _ (k4 _ _ hh)⟩
theorem aLA {a g:Int} (h:aA w0 F M (star (eW d x) Q)) (hL:x.l.length≤10000) (hR:∀ M',Mem.le M M'→R (.int .i64 (match atD x.l a g with | none => -1 | some k=>(k:Int))) M') :
  C PP w0 Id.jM #[.pointer (some ⟨d,0,none⟩),.agg #[.int .i64 a,.int .i64 g]] R M:=by
 apply jM.go
 intro aB H
 unfold jM.T aH
 intro b1 hb0 hbw
 have l1:Mem.le M (M.set b1 (.row [.int .i64 a,.int .i64 g] 33)):=Mem.fC _ hb0
 have o1:cS w0 (M.set b1 (.row [.int .i64 a,.int .i64 g] 33)) b1 [.int .i64 a,.int .i64 g] 33:=cS.new hbw
 generalize M.set b1 _ = M1 at l1 o1 ⊢
 obtain ⟨p,s,hs⟩:=eW.open_ (h.le l1)
 have hn:=hs.n
 have ldr:(aJ PP w0).ld 33 ⟨b1,0,none⟩ M1 = some (.agg #[.int .i64 a,.int .i64 g]):=dG (cs:=[.int .i64 a,.int .i64 g]) W.g33 (fun j v hj=>by rw [add_eq,aN o1,Nat.zero_add];exact hj)
 have key:∀ (n i:Nat),i≤x.l.length→x.l.length < i + n→(∀ k,k < i→∀ j,x.l[k]? = some j→¬ (j.at_ = a∧j.gen = g))→jM.L1 aB n (some ⟨d,0,none⟩) ⟨b1,0,none⟩ (i:Int) M1:=by
  intro n
  induction n with
  | zero=>intro i h1 h2;omega
  | succ n ih =>
   intro i hi1 hi2 hno
   refine Eq.mpr (H.L1 ..) ?_
   unfold jM.L1.T aH
   simp only [aT,aR W.c71,add_eq,Nat.zero_add,hs.rl,aC,aM]
   rw [cR]
   split
   ·have hlt:i < x.l.length:=by omega
    have hj:=List.getElem?_eq_getElem hlt
    have hjj:x.l[i] = x.l[i]:=rfl
    generalize hg:x.l[i] = j at hj
    obtain ⟨blk,hsa,_,hin,hrd⟩:=hs.job hj
    have lda:(aJ PP w0).ld 33 ⟨blk,i * 6 + 4,none⟩ M1 = some (.agg #[.int .i64 j.at_,.int .i64 j.gen]):=dG (cs:=[.int .i64 j.at_,.int .i64 j.gen]) W.g33 (fun f v hf=>by
     rw [add_eq]
     match f,hf with
     | 0,hf=>exact hrd 4 _ hf
     | 1,hf=>exact hrd 5 _ hf)
    simp only [hsa,aT,Int.toNat_natCast,add_eq,Nat.zero_add,lda,ldr,aC,aZ,aW,aL,bU,aU,aCW]
    refine ⟨⟨by omega,by omega⟩,?_⟩
    rw [aHn]
    refine ⟨fun he=>?_,fun he=>?_⟩
    ·simp only [Bool.and_eq_true,beq_iff_eq] at he
     have hf:atD x.l a g = some i:=by
      unfold atD
      refine List.findIdx?_eq_some_iff_getElem.2 ⟨hlt,?_,fun k hk=>?_⟩
      ·rw [hg];simp [he.1,he.2]
      ·have hkl:k < x.l.length:=by omega
       have:=hno k hk _ (List.getElem?_eq_getElem hkl)
       simpa using this
     have:=hR M1 l1
     rw [hf] at this
     exact this
    ·rw [bX (by omega)]
     refine ih (i + 1) (by omega) (by omega) fun k hk y hy=>?_
     by_cases hki:k = i
     ·subst hki
      rw [hj] at hy;cases hy
      intro hh
      simp [hh.1,hh.2] at he
     ·exact hno k (by omega) y hy
   ·have hii:i = x.l.length:=by omega
    have hf:atD x.l a g = none:=by
     unfold atD
     refine List.findIdx?_eq_none_iff.2 fun j hj=>?_
     obtain ⟨k,hk⟩:=List.getElem?_of_mem hj
     have:=hno k (by have:=(List.getElem?_eq_some_iff.1 hk).1;omega) j hk
     simpa using this
    have:=hR M1 l1
    rw [hf] at this
    exact this
 exact ⟨_,key (x.l.length + 1) 0 (by omega) (by omega) (fun k hk=>by omega)⟩
theorem aGT {q:Int} (h:aA w0 F M (star (eW d x) Q)) (hL:x.l.length≤10000) (hR:R (.int .i64 (iR q x.l:Int)) M) :
  C PP w0 Id.dS #[.pointer (some ⟨d,0,none⟩),.int .i64 q] R M:=by
 apply dS.go
 intro aB H
 unfold dS.T aH
 obtain ⟨p,s,hs⟩:=eW.open_ h
 have hn:=hs.n
 have key:∀ (n i:Nat),i≤x.l.length→x.l.length < i + n→dS.L1 aB n (some ⟨d,0,none⟩) q ((iR q (x.l.take i):Nat):Int) (i:Int) M:=by
  intro n
  induction n with
  | zero=>intro i h1 h2;omega
  | succ n ih =>
   intro i hi1 hi2
   refine Eq.mpr (H.L1 ..) ?_
   unfold dS.L1.T aH
   simp only [aT,aR W.c71,aR W.c3,add_eq,Nat.zero_add,hs.rl,aC,aM]
   rw [cR]
   split
   ·have hlt:i < x.l.length:=by omega
    have hj:=List.getElem?_eq_getElem hlt
    have htk:x.l.take (i + 1) = x.l.take i ++ [x.l[i]]:=by rw [List.take_add_one,hj];rfl
    generalize x.l[i] = j at hj htk
    obtain ⟨blk,hsa,_,hin,hrd⟩:=hs.job hj
    have eq:rd w0 M ⟨blk,i * 6,none⟩ = some (.int .i64 j.queue):=hrd 0 _ rfl
    simp only [hsa,aT,Int.toNat_natCast,add_eq,Nat.zero_add,eq,aC,aL]
    refine ⟨⟨by omega,by omega⟩,?_⟩
    have hle:iR q (x.l.take i)≤x.l.length:=Nat.le_trans List.countP_le_length (by rw [List.length_take];omega)
    have hct:iR q (x.l.take (i + 1)) = iR q (x.l.take i) + (if j.queue = q then 1 else 0):=by
     rw [htk];unfold iR
     rw [List.countP_append,List.countP_singleton]
     simp
    rw [fJ,bX (i:=i) (by omega),bX (by omega)]
    split
    ·rename_i hq
     rw [if_pos hq] at hct
     rw [←hct]
     exact ih (i + 1) (by omega) (by omega)
    ·rename_i hq
     rw [if_neg hq] at hct
     rw [show iR q (x.l.take i) = iR q (x.l.take (i + 1)) from by omega]
     exact ih (i + 1) (by omega) (by omega)
   ·have hii:i = x.l.length:=by omega
    rw [hii,List.take_length];exact hR
 exact ⟨_,key (x.l.length + 1) 0 (by omega) (by omega)⟩
def aET:Option (Nat × bR)→Int
 | none => -1
 | some y=>(y.1:Int)
theorem aG5 {q:Int} (h:aA w0 F M (star (eW d x) Q)) (hL:x.l.length≤10000) (hR:∀ M',Mem.le M M'→R (.int .i64 (aET (pW x.l q))) M') :
  C PP w0 Id.dE #[.pointer (some ⟨d,0,none⟩),.int .i64 q] R M:=by
 apply dE.go
 intro aB H
 unfold dE.T aH
 have key:∀ (n i:Nat) (acc:Option (Nat × bR)) (M':Mem),Mem.le M M'→i≤x.l.length→x.l.length < i + n→pW x.l q = tO q i (x.l.drop i) acc→(∀ y,acc = some y→∃ j,x.l[y.1]? = some j∧y.2 = j.e) →
   dE.L1 aB n (some ⟨d,0,none⟩) q (aET acc) (i:Int) M':=by
  intro n
  induction n with
  | zero=>intro i acc M' _ h1 h2;omega
  | succ n ih =>
   intro i acc M' hle hi1 hi2 hfi hac
   refine Eq.mpr (H.L1 ..) ?_
   unfold dE.L1.T aH
   obtain ⟨p,s,hs⟩:=eW.open_ (h.le hle)
   have hn:=hs.n
   simp only [aT,aR W.c71,aR W.c3,add_eq,Nat.zero_add,hs.rl,aC,aM]
   rw [cR]
   split
   ·have hlt:i < x.l.length:=by omega
    have hj:=List.getElem?_eq_getElem hlt
    have hdr:x.l.drop i = x.l[i]::x.l.drop (i + 1):=List.drop_eq_getElem_cons hlt
    rw [hdr] at hfi
    generalize x.l[i] = j at hj hfi
    rw [tO] at hfi
    obtain ⟨blk,hsa,_,hin,hrd⟩:=hs.job hj
    have eq:rd w0 M' ⟨blk,i * 6,none⟩ = some (.int .i64 j.queue):=hrd 0 _ rfl
    have ldE:∀ {i:Nat} {j:Jb},x.l[i]? = some j→(aJ PP w0).ld 44 ⟨blk,i * 6 + 2,none⟩ M' = some (.agg #[.int .i64 j.key,.int .i64 j.zY]):=fun {i j} hj=>by
     obtain ⟨blk',hsa',_,_,hrd⟩:=hs.job hj
     rw [hsa] at hsa';cases hsa'
     exact dG (cs:=[.int .i64 j.key,.int .i64 j.zY]) W.g44 (fun f v hf=>by
      rw [add_eq]
      match f,hf with
      | 0,hf=>exact hrd 2 _ hf
      | 1,hf=>exact hrd 3 _ hf)
    simp only [hsa,aT,Int.toNat_natCast,add_eq,Nat.zero_add,eq,aC,aL]
    have hbd:0≤(i:Int)∧(i:Int) < ((s.n:Nat):Int):=⟨by omega,by omega⟩
    refine ⟨hbd,?_⟩
    rw [bX (by omega),fJ]
    have take:(j.queue = q∧aDR acc j.e = true)→∀ M2,Mem.le M M2→dE.L1 aB n (some ⟨d,0,none⟩) q (i:Int) ((i + 1:Nat):Int) M2:=fun hc M2 l2=>by
     rw [if_pos hc] at hfi
     exact ih (i + 1) (some (i,j.e)) M2 l2 (by omega) (by omega) hfi (fun y hy=>by cases hy;exact ⟨j,hj,rfl⟩)
    have skip:¬ (j.queue = q∧aDR acc j.e = true)→∀ M2,Mem.le M M2→dE.L1 aB n (some ⟨d,0,none⟩) q (aET acc) ((i + 1:Nat):Int) M2:=fun hc M2 l2=>by
     rw [if_neg hc] at hfi
     exact ih (i + 1) acc M2 l2 (by omega) (by omega) hfi hac
    split
    ·rename_i hq
     rw [cR]
     cases acc with
     | none =>
      rw [if_pos (show aET none < 0 by decide)]
      exact take ⟨hq,rfl⟩ M' hle
     | some y =>
      obtain ⟨j2,hj2,hye⟩:=hac y rfl
      obtain ⟨y1,y2⟩:=y
      simp only at hj2 hye
      subst hye
      have hy1:=(List.getElem?_eq_some_iff.1 hj2).1
      have hacc:aET (some (y1,j2.e)) = (y1:Int):=rfl
      rw [if_neg (by rw [hacc];omega)]
      simp only [hacc,Int.toNat_natCast,ldE hj,ldE hj2,aC,aZ,aW,aL,aU]
      refine ⟨hbd,⟨by omega,by omega⟩,?_⟩
      refine yL (a:=j.e) (b:=j2.e) fun M2 l2=>?_
      rw [bU,cR]
      split
      ·rename_i hlt2
       exact take ⟨hq,by simp only [aDR,decide_eq_true_eq];exact hlt2⟩ M2 (Mem.le_trans hle l2)
      ·rename_i hlt2
       exact skip (fun hh=>hlt2 (by have:=hh.2;simp only [aDR,decide_eq_true_eq] at this;exact this)) M2 (Mem.le_trans hle l2)
    ·rename_i hq
     exact skip (fun hh=>hq hh.1) M' hle
   ·have hii:i = x.l.length:=by omega
    rw [hii,List.drop_length] at hfi
    have:=hR M' hle
    rw [hfi] at this
    exact this
 exact ⟨_,key (x.l.length + 1) 0 none M (Mem.le_refl _) (by omega) (by omega) rfl (fun y hy=>by cases hy)⟩
end
end
end HL
namespace HL
section
variable {w0:World} {F M:Mem} {R:VP} {os:vA} {t bh bi ma:Nat} {hp ip:PS V3} {Q:cI}
theorem aF6 {a g c:Int} {v:V3} {oa:Obj} {m:Int→Option dN} {x:Nat} (oT:cS w0 F t (x4 bh bi ma) x5) (h:HO w0 F M ((ma,oa)::os) (star (xY bh hp) (star (rQ bi ip) Q))) (hb:hp.l.length≤100000) (hw:hp.find a g = some v)
  (hok:ip.Ok) (hbi:ip.l.length≤10000) (hfb:ip.free.length≤10000) (hlen:ip.free.length≤ip.l.length) (hgi:∀ x∈ip.l,0≤x.g∧x.g≤1000000) (hat:ip.at_ = some x) (hroom:((ip.l.length - ip.free.length:Nat):Int)≠ip.most) (hf:dM (Value.int .i64) bZ m oa) (hno:m c = none)
  (hK:∀ M' oa',dM (Value.int .i64) bZ (gB m c (some ((x:Int),ip.gen x))) oa'→HO w0 F M' ((ma,oa')::os) (star (xY bh hp) (star (rQ bi (ip.take z3 x (c,a,g))) Q))→R (.tuple #[.agg #[.int .i64 (x:Int),.int .i64 (ip.gen x)],.int .i64 0]) M') :
  C PP w0 Id.sQ #[.pointer (some ⟨t,0,none⟩),.agg #[.int .i64 a,.int .i64 g],.int .i64 c] R M:=by
 apply sQ.go
 unfold sQ.T aH
 refine sZ h fun b1 F1 M1 l1 lm1 o1 h1=>?_
 have oT1:=oT.le l1
 refine jQ h1 fun b3 M1' l1' h1'=>?_
 simp only [aT,Tb0 oT1 h1'.fr,aC,bN,fF a9 (o1.le h1'.fr),aZ,aW,aL,aU]
 obtain ⟨inf,hi,hz,_⟩:=W.e33
 refine ⟨?_,?_⟩
 rotate_left
 refine jQ h1' fun b2 M2 l2 h2=>?_
 refine ⟨Tb0 oT1 h2.fr,fF a9 (o1.le h2.fr),?_⟩
 refine x8 h2.h.right.right hb hw fun M3 l3=>?_
 simp only [cD,aW,aZ,aL,aU]
 refine xQ wX (by rfl) uF (h2.le l3) fun F2 M4 l4 o4 h4=>?_
 rotate_left
 refine x8 h1'.h.right hb hw fun M3 l3=>?_
 simp only [cD,aW,aZ,aL,aU]
 refine kC wX (by rfl) uF (h1'.le l3) fun b2 F2 M4 l4 o4 h4=>?_
 all_goals
  rw [cB,if_pos rfl]
  have oT2:=oT1.le l4
  have hlk:=(lkF (k:=c) Tryz.underlying154 aAU hi hz (h4.get List.mem_cons_self).1 (h4.get List.mem_cons_self).2 hf).2
  rw [hno] at hlk
  simp only [Option.map_none,Option.getD_none,Option.isSome_none] at hlk
  simp only [aT,add_eq,Nat.zero_add,Tb2 oT2 h4.fr,aC,hlk,cD,aW,aZ,aL,bU,aU]
  refine kC a9 (by rfl) iS h4 fun b6 F3 M5 l5 o5 h5=>?_
  have oT3:=oT2.le l5
  simp only [aT,add_eq,Nat.zero_add,Tb1 oT3 h5.fr,aC,bN]
  refine aFF h5.h.right.right (by omega) hlen ?_
  rw [aL]
  refine ⟨Tb1 oT3 h5.fr,?_⟩
  refine aFk h5.h.right.right ?_
  rw [aL,fJ,if_neg hroom,mE]
  have o1':=o1.le (Mem.le_trans l4 l5)
  simp only [aT,add_eq,Nat.zero_add,Tb1 oT3 h5.fr,aC,bN,fF a9 (o1'.le h5.fr),aZ,aW,aL,aU]
  have hbld:(aJ PP w0).oF 153 [(0,.int .i64 c),(1,.agg #[.int .i64 a,.int .i64 g])] = some (.agg #[.int .i64 c,.int .i64 a,.int .i64 g]):=by kernel_rfl
  simp only [hbld,aC,aZ,aW,aL,aU]
  refine ⟨?_,?_⟩
  rotate_left
  refine jQ h5 fun b7 M6 l6 h6=>?_
  refine ⟨Tb1 oT3 h6.fr,fF a9 (o1'.le h6.fr),?_⟩
  obtain ⟨F4,hB,l7,back⟩:=h6.aLu
  refine aD1 (v:=(c,a,g)) hB hok hbi hfb hgi hat fun M7 hC=>?_
  have h7:=back M7 _ hC
  simp only [cD,aW,aZ,aL,bU,aU]
  refine xQ a9 (by rfl) iS h7 fun F5 M8 l8 o8 h8=>?_
  rotate_left
  obtain ⟨F4,hB,l7,back⟩:=h5.aLG
  refine aD1 (v:=(c,a,g)) hB hok hbi hfb hgi hat fun M7 hC=>?_
  have h7:=back M7 _ hC
  simp only [cD,aW,aZ,aL,bU,aU]
  refine kC a9 (by rfl) iS h7 fun b7 F5 M8 l8 o8 h8=>?_
  all_goals
   simp only [aT,add_eq,Nat.zero_add,Tb2 (oT3.le l8) h8.fr,aC,fF a9 (o8.le h8.fr),aZ,aW,aL,aU]
   obtain ⟨g1,g2⟩:=h8.get List.mem_cons_self
   refine aGr (kf:=Value.int .i64) (vf:=bZ) (k:=c) (v:=((x:Int),ip.gen x)) Tryz.underlying154 aAU g1 g2 hf fun oa' hf'=>?_
   have h9:=h8.set (o':=oa')
   generalize Mem.set M8 ma _ = M9 at h9 ⊢
   simp only [fF a9 (o8.le h9.fr),aC,aZ,aW,aL,aU]
   refine jV (K:=fun v M=>R (.tuple #[v,.int .i64 0]) M) a9 (by rfl) iS h9 fun M10 h10=>?_
   exact hK M10 oa' hf' ((((h10.fO l8).fO l5).fO l4).fO l1)
theorem aDz {k:Int} {x:Nat} (oT:cS w0 F t (x4 bh bi ma) x5) (h:HO w0 F M os (star (xY bh hp) Q)) (hk:1≤k∧k≤5) (hok:hp.Ok) (hb:hp.l.length≤10000) (hfb:hp.free.length≤10000) (hg:∀ x∈hp.l,0≤x.g∧x.g≤1000000) (hat:hp.at_ = some x)
  (hK:∀ M',HO w0 F M' os (star (xY bh (hp.take z3 x (k, -1,0))) Q)→R (.tuple #[.agg #[.int .i64 (x:Int),.int .i64 (hp.gen x)],.int .i64 0]) M') :
  C PP w0 Id.pH #[.pointer (some ⟨t,0,none⟩),.int .i64 k] R M:=by
 apply pH.go
 unfold pH.T aH
 refine jQ h fun b1 M1 l1 h1=>?_
 refine aCA ?_
 rw [bU,decide_eq_true hk,Bool.not_true,mE]
 have hbld:(aJ PP w0).oF 149 [(0,.int .i64 k),(1,.int .i64 (-1))] = some (.agg #[.int .i64 k,.int .i64 (-1),.int .i64 0]):=by kernel_rfl
 simp only [aT,Tb0 oT h1.fr,aC,bN,hbld,aZ,aW,aL,aU]
 obtain ⟨F2,hB,l2,back⟩:=h1.aBP
 refine aH4 (v:=(k, -1,0)) hB hok hb hfb hg hat fun M2 hC=>?_
 have h2:=back M2 _ hC
 simp only [cD,aW,aZ,aL,bU,aU]
 refine kC a9 (by rfl) iS h2 fun b3 F3 M3 l3 o3 h3=>?_
 rw [Bool.not_true,mE]
 simp only [fF a9 (o3.le h3.fr),aC,aZ,aW,aL,aU]
 refine jV (K:=fun v M=>R (.tuple #[v,.int .i64 0]) M) a9 (by rfl) iS h3 fun M5 h5=>?_
 exact hK M5 (h5.fO l3)
def oX (ip:PS V3) (a g:Int):List bR:=ip.refs.filter fun r=>match ip.find r.1 r.2 with
 | some v=>decide (v.2.1 = a∧v.2.2 = g)
 | none=>false
theorem aCq {ip:PS V3} (hg:∀ x∈ip.l,0≤x.g∧x.g≤1000000) (hg1:∀ x∈ip.l,x.t = true→1≤x.g) {r:bR} (hr:r∈ip.refs):∃ v,ip.find r.1 r.2 = some v:=by
 obtain ⟨j,x,h1,h2,rfl⟩:=rE.1 hr
 refine ⟨x.v,?_⟩
 simp only [Nat.zero_add]
 refine PS.j6 (v:=x.v) ?_ (hg1 x (List.mem_of_getElem? h1) h2)
 rw [h1,←h2]
theorem aIJ {a g:Int} (oT:cS w0 F t (x4 bh bi ma) x5) (h:HO w0 F M os (star (rQ bi ip) Q)) (hb:ip.l.length≤10000) (hg:∀ x∈ip.l,0≤x.g∧x.g≤1000000) (hg1:∀ x∈ip.l,x.t = true→1≤x.g)
  (hK:∀ M' s',HO w0 F M' os (star (Es s' (oX ip a g)) (star (rQ bi ip) Q))→R s'.v M') :
  C PP w0 Id.fX #[.pointer (some ⟨t,0,none⟩),.agg #[.int .i64 a,.int .i64 g]] R M:=by
 apply fX.go
 intro aB H
 unfold fX.T aH
 refine sZ h fun b1 F1 M1 l1 lm1 o1 h1=>?_
 have oT1:=oT.le l1
 simp only [aT,add_eq,Nat.zero_add,Tb1 oT1 h1.fr,aC,bN]
 obtain ⟨F2,hB,l2,back⟩:=h1.wJ
 refine aJA hB (by omega) fun M2 s2 lm2 h2=>?_
 rw [aM]
 have h2':=back M2 _ h2
 have hrl:=p6 ip.l 0
 change (ip.refs).length≤_ at hrl
 have hsn:=h2.nJ.len
 have key:∀ (B A:List bR) (s:SV) (F3 M3:Mem) (k:Nat),ip.refs = A ++ B→Mem.le F1 F3→HO w0 F3 M3 os (star (Es s2 ip.refs) (star (Es s (A.filter fun r=>match ip.find r.1 r.2 with
   | some v=>decide (v.2.1 = a∧v.2.2 = g)
   | none=>false)) (star (rQ bi ip) Q)))→B.length < k→fX.L1 aB k (some ⟨t,0,none⟩) ⟨b1,0,none⟩ s s2 ((s2.n:Nat):Int) (A.length:Int) M3:=by
  intro B
  induction B with
  | nil =>
   intro A s F3 M3 k he l3 h3 hk
   obtain ⟨k,rfl⟩:∃ j,k = j + 1:=⟨k - 1,by omega⟩
   rw [List.append_nil] at he
   refine Eq.mpr (H.L1 ..) ?_
   unfold fX.L1.T aH
   rw [cR,if_neg (by rw [hsn,he];omega)]
   rw [←he] at h3
   exact hK M3 s (((h3.aX fun h=>h.right).fO l3).fO l1)
  | cons r B ih =>
   intro A s F3 M3 k he l3 h3 hk
   obtain ⟨k,rfl⟩:∃ j,k = j + 1:=⟨k - 1,by omega⟩
   have ll:=congrArg List.length he
   simp only [List.length_append,List.length_cons] at ll hk
   have hget:(ip.refs)[A.length]? = some r:=by rw [he];simp
   obtain ⟨v,hv⟩:=aCq hg hg1 (show r∈ip.refs by rw [he];simp)
   refine Eq.mpr (H.L1 ..) ?_
   unfold fX.L1.T aH
   rw [cR,if_pos (by omega)]
   refine aGm (x:=r) h3.h.nJ (Mem.le_refl _) A.length rfl hget ?_
   refine kC a9 (by rfl) iS h3 fun b4 F4 M4 l4 o4 h4=>?_
   have oT4:=(oT1.le l3).le l4
   simp only [aT,add_eq,Nat.zero_add,Tb1 oT4 h4.fr,aC,bN,fF a9 (o4.le h4.fr),aZ,aW,aL,aU]
   have hGA:∀ {M':Mem} {X:cI},HO w0 F4 M' os (star (Es s2 ip.refs) (star X (star (rQ bi ip) Q)))→aA w0 F4 M' (star (rQ bi ip) Q):=fun h=>h.h.right.right
   have o1':=o1.le (Mem.le_trans l3 l4)
   have nxt:∀ (F6 M6:Mem) (s6:SV),Mem.le F1 F6→HO w0 F6 M6 os (star (Es s2 ip.refs) (star (Es s6 ((A ++ [r]).filter fun r=>match ip.find r.1 r.2 with
     | some v=>decide (v.2.1 = a∧v.2.2 = g)
     | none=>false)) (star (rQ bi ip) Q)))→fX.L1 aB k (some ⟨t,0,none⟩) ⟨b1,0,none⟩ s6 s2 ((s2.n:Nat):Int) (lN ((A.length:Int) + 1)) M6:=by
    intro F6 M6 s6 l6 h6
    rw [bX (by omega)]
    have:=ih (A ++ [r]) s6 F6 M6 k (by rw [he];simp) l6 h6 (by omega)
    rw [List.length_append,List.length_singleton] at this
    exact this
   refine ⟨?_,?_⟩
   rotate_left
   refine jQ h4 fun b5 M5 l5 h5=>?_
   refine ⟨Tb1 oT4 h5.fr,fF a9 (o4.le h5.fr),?_⟩
   refine aAC h5.h.right.right.right (by omega) hv fun M6 l6=>?_
   simp only [cD,aW,aZ,aL,aU]
   refine xQ rZ (by rfl) uF (h5.le l6) fun F7 M7 l7 o7 h7=>?_
   rotate_left
   refine aAC (hGA h4) (by omega) hv fun M6 l6=>?_
   simp only [cD,aW,aZ,aL,aU]
   refine kC rZ (by rfl) uF (h4.le l6) fun b5 F7 M7 l7 o7 h7=>?_
   all_goals
    simp only [add_eq,Nat.zero_add,kZ (o:=1) (vs:=[.int .i64 v.2.1,.int .i64 v.2.2]) a9 (o7.le h7.fr) (fun j u hj=>by rw [Nat.add_comm];exact hj),fF a9 ((o1'.le l7).le h7.fr),aC,aZ,aW,aL,aU,aCW,bU]
    have lF:Mem.le F1 F7:=Mem.le_trans l3 (Mem.le_trans l4 l7)
    by_cases hc:v.2.1 = a∧v.2.2 = g
    ·rw [show (v.2.1 == a && v.2.2 == g) = true from by simp [hc.1,hc.2],dZ]
     simp only [fF a9 ((o4.le l7).le h7.fr),aC,aZ,aW,aL,aU]
     obtain ⟨F8,hB8,l8,back8⟩:=h7.aBP
     refine aF5 hB8 _ _ fun M8 s8 l9 h8=>?_
     rw [aM]
     have hfl:=List.length_filter_le (fun r:bR=>match ip.find r.1 r.2 with
      | some v=>decide (v.2.1 = a∧v.2.2 = g)
      | none=>false) A
     refine aFE h8.dY h8.nJ (by simp only [List.length_singleton];omega) fun M9 s9 h9=>?_
     rw [aM]
     refine nxt F7 M9 s9 lF (back8 _ _ ?_)
     have e9:(A ++ [r]).filter (fun r=>match ip.find r.1 r.2 with
       | some v=>decide (v.2.1 = a∧v.2.2 = g)
       | none=>false) = (A.filter fun r=>match ip.find r.1 r.2 with
       | some v=>decide (v.2.1 = a∧v.2.2 = g)
       | none=>false) ++ [r]:=by
      rw [List.filter_append]
      congr 1
      rw [List.filter_cons_of_pos]
      ·rfl
      ·simp only [hv];exact decide_eq_true hc
     rw [e9]
     exact h9.dY.right
    ·rw [show (v.2.1 == a && v.2.2 == g) = false from by
      rw [Bool.eq_false_iff]
      intro h9
      simp only [Bool.and_eq_true,beq_iff_eq] at h9
      exact hc h9,mE]
     refine nxt F7 M7 s lF ?_
     have e9:(A ++ [r]).filter (fun r=>match ip.find r.1 r.2 with
       | some v=>decide (v.2.1 = a∧v.2.2 = g)
       | none=>false) = (A.filter fun r=>match ip.find r.1 r.2 with
       | some v=>decide (v.2.1 = a∧v.2.2 = g)
       | none=>false):=by
      rw [List.filter_append]
      conv=>rhs;rw [←List.append_nil (A.filter _)]
      congr 1
      rw [List.filter_cons_of_neg]
      ·rfl
      ·simp only [hv];simp [hc]
     rw [e9]
     exact h7
 refine ⟨ip.refs.length + 1,key ip.refs [] ⟨none,0,0⟩ F1 M2 _ rfl (Mem.le_refl _) ?_ (by omega)⟩
 obtain ⟨F3,hB3,l3,mA⟩:=h2'.aBP
 exact mA _ _ (aA.oB hB3)
end
end HL
namespace HL
def reh (ip:PS V3) (A:List bR) (a g:Int):PS V3:={ ip with l:=ip.l.mapIdx fun j x=>if ((j:Int),x.g)∈A then { x with v:=(x.v.1,a,g) } else x }
theorem uU (ip:PS V3) (A:List bR) (a g:Int) (j:Nat):(reh ip A a g).l[j]? = (ip.l[j]?).map fun x=>if ((j:Int),x.g)∈A then { x with v:=(x.v.1,a,g) } else x:=by
 unfold reh
 rw [List.getElem?_mapIdx]
theorem aDa (ip:PS V3) (A:List bR) (a g:Int):(reh ip A a g).l.length = ip.l.length:=by unfold reh;simp
theorem aKj (ip:PS V3) (a g:Int):reh ip [] a g = ip:=by
 unfold reh
 have:(ip.l.mapIdx fun j x=>if ((j:Int),x.g)∈([]:List bR) then { x with v:=(x.v.1,a,g) } else x) = ip.l:=by
  apply List.ext_getElem?
  intro j
  rw [List.getElem?_mapIdx]
  simp
 rw [this]
theorem aDF {ip:PS V3} {A:List bR} {a g b k:Int} {v:V3} (h:ip.find b k = some v):(reh ip A a g).find b k = some (if (b,k)∈A then (v.1,a,g) else v):=by
 obtain ⟨j,rfl,hj,hk⟩:=PS.bK h
 refine PS.j6 ?_ hk
 rw [uU,hj,Option.map_some]
 by_cases hc:((j:Int),k)∈A
 ·rw [if_pos hc,if_pos hc]
 ·rw [if_neg hc,if_neg hc]
theorem aGb {ip:PS V3} {A:List bR} {a g:Int} {x:sU V3} (h:x∈(reh ip A a g).l):∃ y∈ip.l,x.g = y.g∧x.t = y.t:=by
 obtain ⟨j,hj⟩:=List.getElem?_of_mem h
 rw [uU] at hj
 cases hy:ip.l[j]? with
 | none=>rw [hy] at hj;cases hj
 | some y =>
  rw [hy,Option.map_some] at hj
  refine ⟨y,List.mem_of_getElem? hy,?_⟩
  split at hj <;> (cases hj;exact ⟨rfl,rfl⟩)
theorem aLR {ip:PS V3} {A:List bR} {a g:Int} (h:ip.Ok):(reh ip A a g).Ok:=by
 refine ⟨h.nd,fun b hb=>?_⟩
 obtain ⟨x,hx,ht⟩:=h.fr b hb
 rw [uU,hx,Option.map_some]
 refine ⟨_,rfl,?_⟩
 split
 ·exact ht
 ·exact ht
theorem aK6 (ip:PS V3) (A:List bR) (a g:Int):(reh ip A a g).pl = ip.pl:=by
 have key:∀ {β:Type} (f:sU V3→β),(∀ x v,f { x with v:=v } = f x)→(reh ip A a g).l.map f = ip.l.map f:=by
  intro β f hf
  apply List.ext_getElem?
  intro j
  rw [List.getElem?_map,List.getElem?_map,uU]
  cases ip.l[j]? with
  | none=>rfl
  | some x =>
   simp only [Option.map_some]
   split
   ·rw [hf]
   ·rfl
 unfold PS.pl
 rw [key (·.g) (fun _ _=>rfl),key (·.t) (fun _ _=>rfl),key (fun _=>(0:Int)) (fun _ _=>rfl)]
 rfl
theorem z4 {κ:Type}:∀ (l:List (sU κ)) (i:Nat),(jE i l).Pairwise fun a b=>a.1 < b.1
 | [],i=>List.Pairwise.nil
 | x::l,i=>by
  have ih:=z4 l (i + 1)
  simp only [jE]
  split
  ·refine List.pairwise_cons.2 ⟨fun r hr=>?_,ih⟩
   obtain ⟨j,y,_,_,rfl⟩:=rE.1 hr
   show (i:Int) < ((i + 1 + j:Nat):Int)
   omega
  ·exact ih
section
variable {w0:World} {F M:Mem} {R:VP} {os:vA} {t bh bi ma:Nat} {hp ip:PS V3} {Q:cI}
theorem aGV {A:cI} {b o:Nat} {cs vs:List Value} {T T':TypeId} (hg:gV PP T vs.length = true) (ho:o + vs.length≤cs.length) (hone:∀ v∈vs,bS v = true) (h:HO w0 F M os (star (bA b cs T') A)) {K:Mem→Prop} (hK:∀ M',HO w0 F M' os (star (bA b (eO cs o vs) T') A)→K M') :
  (aJ PP w0).st T ⟨b,o,none⟩ (.agg vs.toArray) (fun M2=>K M2) M :=
 hJ hg h.h.bC ho hone (hK _ h.aDr)
theorem aHW {k a g b c:Int} {r1 n1 r2 n2:Int} (oT:cS w0 F t (x4 bh bi ma) x5) (h:HO w0 F M os (star (xY bh hp) (star (rQ bi ip) Q))) (hb:hp.l.length≤10000) (hfb:hp.free.length≤10000) (hw:hp.find a g = some (k,r1,n1)) (hw2:hp.find b c = some (k,r2,n2)) (eT:¬ (a = b∧g = c))
  (hbi:ip.l.length≤10000) (hgi:∀ x∈ip.l,0≤x.g∧x.g≤1000000) (hg1:∀ x∈ip.l,x.t = true→1≤x.g)
  (hK:∀ M',HO w0 F M' os (star (xY bh (hp.gK z3 b.toNat)) (star (rQ bi (reh ip (oX ip b c) a g)) Q))→R (.int .i64 0) M') :
  C PP w0 Id.gG #[.pointer (some ⟨t,0,none⟩),.agg #[.int .i64 a,.int .i64 g],.agg #[.int .i64 b,.int .i64 c]] R M:=by
 apply gG.go
 intro aB H
 unfold gG.T aH
 refine sZ h fun b1 F1 M1 l1 lm1 o1 h1=>?_
 refine sZ h1 fun b3 F2 M2 l2 lm2 o3 h2=>?_
 have oT2:=(oT.le l1).le l2
 have o1':=o1.le l2
 have hrn:=z4 ip.l 0
 change (ip.refs).Pairwise _ at hrn
 have hof:(oX ip b c).Pairwise fun x y=>x.1 < y.1:=List.Pairwise.filter _ hrn
 have hofl:(oX ip b c).length≤10000:=Nat.le_trans (List.length_filter_le _ _) (Nat.le_trans (p6 ip.l 0) hbi)
 have key:∀ (B A:List bR) (s:SV) (F3 M3:Mem) (kk:Nat),oX ip b c = A ++ B→Mem.le F2 F3→HO w0 F3 M3 os (star (Es s (oX ip b c)) (star (xY bh hp) (star (rQ bi (reh ip A a g)) Q)))→B.length < kk→gG.L1 aB kk (some ⟨t,0,none⟩) ⟨b1,0,none⟩ ⟨b3,0,none⟩ s ((s.n:Nat):Int) (A.length:Int) M3:=by
  intro B
  induction B with
  | nil =>
   intro A s F3 M3 kk he l3 h3 hk
   obtain ⟨kk,rfl⟩:∃ j,kk = j + 1:=⟨kk - 1,by omega⟩
   rw [List.append_nil] at he
   have hsn:=h3.h.nJ.len
   refine Eq.mpr (H.L1 ..) ?_
   unfold gG.L1.T aH
   rw [cR,if_neg (by rw [hsn,he];omega)]
   simp only [aT,Tb0 (oT2.le l3) h3.fr,fF a9 ((o3.le l3).le h3.fr),aC,bN,aZ,aW,aL,aU]
   obtain ⟨F4,hB,l4,back⟩:=h3.aBP
   refine aI6 hB hb hfb hw2 fun M4 hC=>?_
   have h4:=back M4 _ hC
   simp only [cD,aZ,aW,aL,aU]
   rw [←he] at h4
   exact hK M4 ((((h4.aX fun h=>h.right).fO l3).fO l2).fO l1)
  | cons r B ih =>
   intro A s F3 M3 kk he l3 h3 hk
   obtain ⟨kk,rfl⟩:∃ j,kk = j + 1:=⟨kk - 1,by omega⟩
   have ll:=congrArg List.length he
   simp only [List.length_append,List.length_cons] at ll hk
   have hsn:=h3.h.nJ.len
   have hget:(oX ip b c)[A.length]? = some r:=by rw [he];simp
   have hrm:r∈oX ip b c:=by rw [he];simp
   obtain ⟨v,hv⟩:=aCq hgi hg1 (List.mem_filter.1 hrm).1
   have hrA:∀ x∈A,x.1 < r.1:=fun x hx=>by
    rw [he] at hof
    exact (List.pairwise_append.1 hof).2.2 x hx r List.mem_cons_self
   have hrnA:(r.1,r.2) ∉ A:=fun hm=>by have:=hrA _ hm;simp only at this;omega
   have hvA:(reh ip A a g).find r.1 r.2 = some v:=by rw [aDF hv,if_neg hrnA]
   have hlA:(reh ip A a g).l.length≤100000:=by rw [aDa];omega
   refine Eq.mpr (H.L1 ..) ?_
   unfold gG.L1.T aH
   rw [cR,if_pos (by omega)]
   refine aGm (x:=r) h3.h.nJ (Mem.le_refl _) A.length rfl hget ?_
   refine kC a9 (by rfl) iS h3 fun b4 F4 M4 l4 o4 h4=>?_
   have oT4:=(oT2.le l3).le l4
   have o1'':=(o1'.le l3).le l4
   simp only [aT,add_eq,Nat.zero_add,Tb1 oT4 h4.fr,aC,bN,fF a9 (o4.le h4.fr),aZ,aW,aL,aU]
   refine ⟨?_,?_⟩
   rotate_left
   refine jQ h4 fun b5 M5 l5 h5=>?_
   refine ⟨Tb1 oT4 h5.fr,fF a9 (o4.le h5.fr),?_⟩
   refine aAC h5.h.right.right.right hlA hvA fun M6 l6=>?_
   simp only [cD,aW,aZ,aL,aU]
   refine stW rZ (by rfl) uF (h5.le l6) fun M7 h7=>?_
   rotate_left
   refine aAC h4.h.right.right hlA hvA fun M6 l6=>?_
   simp only [cD,aW,aZ,aL,aU]
   refine jQ (h4.le l6) fun b5 M5 l5 h5=>?_
   refine stW rZ (by rfl) uF h5 fun M7 h7=>?_
   all_goals
    simp only [fF a9 (o1''.le h7.fr),add_eq,Nat.zero_add,aC,aZ,aW,aL,aU]
    refine aGV (o:=1) a9 (by exact Nat.le_refl _) iS h7 fun M8 h8=>?_
    have hov:eO [.int .i64 v.1,.int .i64 v.2.1,.int .i64 v.2.2] 1 [.int .i64 a,.int .i64 g] = [.int .i64 v.1,.int .i64 a,.int .i64 g]:=by
     have:=eE [.int .i64 v.1] [.int .i64 v.2.1,.int .i64 v.2.2] [] [.int .i64 a,.int .i64 g] rfl (o:=1) rfl
     simpa using this
    rw [hov] at h8
    simp only [aT,Tb1 oT4 h8.fr,fF a9 (o4.le h8.fr),fF rZ h8.h.bC,aC,bN,aZ,aW,aL,aU]
    obtain ⟨F9,hB9,l9,back9⟩:=h8.aLu
    refine aKE (v:=(v.1,a,g)) hB9 hlA hvA fun M9 hC9=>?_
    rw [aL,bX (by omega)]
    have h9:=back9 M9 _ hC9
    have hput:(reh ip A a g).put r.1.toNat (v.1,a,g) = reh ip (A ++ [r]) a g:=by
     obtain ⟨j,hj,hjl,hj1⟩:=PS.bK hv
     obtain ⟨j2,hj2,hjl2,_⟩:=PS.bK hvA
     have hjj:r.1.toNat = j:=by rw [hj];exact Int.toNat_natCast j
     have hj22:j2 = j:=by omega
     subst hj22
     unfold PS.put
     rw [hjj,hjl2]
     show ({ reh ip A a g with l:=(reh ip A a g).l.set j2 ⟨r.2,true,(v.1,a,g)⟩ }:PS V3) = _
     have hl:(reh ip A a g).l.set j2 ⟨r.2,true,(v.1,a,g)⟩ = (reh ip (A ++ [r]) a g).l:=by
      apply List.ext_getElem?
      intro i
      by_cases hi:j2 = i
      ·subst hi
       rw [List.getElem?_set_self (List.getElem?_eq_some_iff.1 hjl2).1,uU,hjl,Option.map_some,if_pos (by
        have:((j2:Int),r.2) = r:=Prod.ext hj.symm rfl
        rw [this];simp)]
      ·rw [List.getElem?_set_ne hi,uU,uU]
       cases hx:ip.l[i]? with
       | none=>rfl
       | some x =>
        simp only [Option.map_some]
        have:((i:Int),x.g)∈A ++ [r]↔((i:Int),x.g)∈A:=by
         rw [List.mem_append,List.mem_singleton]
         constructor
         ·rintro (h | h)
          ·exact h
          ·have:=congrArg Prod.fst h
           simp only at this
           omega
         ·exact .inl
        by_cases hc:((i:Int),x.g)∈A
        ·rw [if_pos hc,if_pos (this.2 hc)]
        ·rw [if_neg hc,if_neg (fun h=>hc (this.1 h))]
     rw [hl];rfl
    rw [hput] at h9
    have:=ih (A ++ [r]) s F4 M9 kk (by rw [he];simp) (Mem.le_trans l3 l4) (h9.aX fun h=>h.right) (by omega)
    rw [List.length_append,List.length_singleton] at this
    exact this
 simp only [aT,Tb0 oT2 h2.fr,aC,bN,fF a9 (o1'.le h2.fr),aZ,aW,aL,aU]
 refine ⟨?_,?_⟩
 rotate_left
 refine jQ h2 fun b4 M4 l4 h4=>?_
 refine ⟨Tb0 oT2 h4.fr,fF a9 (o1'.le h4.fr),?_⟩
 refine x8 h4.h.right (by omega) hw fun M5 l5=>?_
 simp only [cD,aW,aZ,aL,aU]
 refine xQ wX (by rfl) uF (h4.le l5) fun F6 M6 l6 o6 h6=>?_
 rotate_left
 refine x8 h2.h (by omega) hw fun M5 l5=>?_
 simp only [cD,aW,aZ,aL,aU]
 refine kC wX (by rfl) uF (h2.le l5) fun b4 F6 M6 l6 o6 h6=>?_
 all_goals
  rw [cB,if_pos rfl]
  have oT6:=oT2.le l6
  have o1x:=o1'.le l6
  have o3x:=o3.le l6
  simp only [aT,Tb0 oT6 h6.fr,aC,bN,fF a9 (o3x.le h6.fr),aZ,aW,aL,aU]
  refine ⟨?_,?_⟩
  rotate_left
  refine jQ h6 fun b7 M7 l7 h7=>?_
  refine ⟨Tb0 oT6 h7.fr,fF a9 (o3x.le h7.fr),?_⟩
  refine x8 h7.h.right (by omega) hw2 fun M8 l8=>?_
  simp only [cD,aW,aZ,aL,aU]
  refine xQ wX (by rfl) uF (h7.le l8) fun F9 M9 l9 o9 h9=>?_
  rotate_left
  refine x8 h6.h (by omega) hw2 fun M8 l8=>?_
  simp only [cD,aW,aZ,aL,aU]
  refine kC wX (by rfl) uF (h6.le l8) fun b7 F9 M9 l9 o9 h9=>?_
  all_goals
   rw [cB,if_pos rfl]
   have oT9:=oT6.le l9
   have o1y:=o1x.le l9
   have o3y:=o3x.le l9
   simp only [fF a9 (o1y.le h9.fr),fF a9 (o3y.le h9.fr),aC,aZ,aW,aL,aU,aCW,bU]
   have hne':(a == b && g == c) = false:=by
    rw [Bool.eq_false_iff]
    intro h0
    simp only [Bool.and_eq_true,beq_iff_eq] at h0
    exact eT h0
   rw [hne',mE]
   simp only [mB W.c3 ((o6.le l9).le h9.fr) (o:=0) rfl,mB W.c3 (o9.le h9.fr) (o:=0) rfl,aC,aL]
   rw [cB,if_pos rfl]
   have lF9:Mem.le F2 F9:=Mem.le_trans l6 l9
   refine aIJ oT9 (h9.aX fun h=>h.dY) hbi hgi hg1 fun M10 s10 h10=>?_
   rw [aM]
   refine ⟨(oX ip b c).length + 1,key (oX ip b c) [] s10 F9 M10 _ rfl lF9 ?_ (by omega)⟩
   rw [aKj]
   obtain ⟨F11,hB11,l11,back11⟩:=h10.aBP
   exact back11 _ _ hB11.dY
theorem iT {a:Nat} {α:AS} (hA:aA w0 F M (aF a α)) (h:∀ p,(∀ K:VP,(∀ M' β,aA w0 F M' (aF a β)→AS.Sm 0 α β→K (.tuple #[]) M')→C PP w0 Id.mQ #[.pointer p] K M)→R (.pointer p) M):C PP w0 Id.j8 #[.pointer (some ⟨a,0,none⟩)] R M:=by
 obtain ⟨r,⟨hi,bL,bM,sf,cs,rf,rfl,hc,hs⟩,hf⟩:=hA
 have e3:rd w0 M ⟨a,3,none⟩ = some (.pointer (some ⟨bM,0,none⟩)):=by
  rw [aN (hf.own (b:=a) (cs:=arR bL α.n α.never sf bM) (e:=145) List.mem_cons_self)];rfl
 apply j8.go
 unfold j8.T aH
 simp only [go_sem,add_eq,Nat.zero_add,e3]
 refine h _ fun K hK=>?_
 have om:cS w0 M bM (iC α.steps α.begun α.most) 163:=hf.own (by simp)
 have m0:rd w0 M ⟨bM,0,none⟩ = some (.int .i64 α.steps):=aN (o:=0) om
 have m1:rd w0 M ⟨bM,1,none⟩ = some (.int .i64 α.begun):=aN (o:=1) om
 have m2:rd w0 M ⟨bM,2,none⟩ = some (.int .i64 α.most):=aN (o:=2) om
 apply mQ.go
 unfold mQ.T aH
 simp only [go_sem,add_eq,Nat.zero_add,m0]
 apply qG.go
 unfold qG.T aH
 simp only [go_sem,add_eq,Nat.zero_add,m2]
 apply nS.go
 unfold nS.T aH
 simp only [go_sem,add_eq,Nat.zero_add,m0,m1,m2,true_and]
 refine gO W.c2 om (by simp) rfl rfl ?_
 generalize (if lN (α.steps - α.begun) > α.most then lN (α.steps - α.begun) else α.most) = mo
 have h1:=hf.perm (r':=(bM,iC α.steps α.begun α.most,163)::(a,arR bL α.n α.never sf bM,145)::(bL,cs,251)::rf) (List.perm_middle (l₁:=[_,_]))
 have h2:=h1.upd (cs':=iC α.steps α.begun mo) (e':=163)
 refine gO (cs:=iC α.steps α.begun mo) W.c2 (h2.own List.mem_cons_self) (by simp) rfl rfl ?_
 have h3:=h2.upd (cs':=iC α.steps α.steps mo) (e':=163)
 refine hK _ { α with begun:=α.steps,most:=mo } ⟨_,⟨⟨hi.n,hi.never,hi.free,hi.live,hi.nd,hi.len,hi.steps⟩,bL,bM,sf,cs,rf,rfl,⟨hc.len,hc.f,hc.t⟩,hs⟩,h3.perm (List.perm_middle (l₁:=[_,_])).symm⟩ ⟨rfl,rfl,rfl,rfl,rfl,fun h=>⟨h.2,by show α.steps≤α.steps;omega,by show α.steps≤_;omega⟩⟩
theorem aD6 {a:Nat} {α:AS} (hA:aA w0 F M (aF a α)) (h:∀ p,(∀ K:VP,K (.int .i64 α.steps) M→C PP w0 Id.lR #[.pointer p] K M)→R (.pointer p) M):C PP w0 Id.j8 #[.pointer (some ⟨a,0,none⟩)] R M:=by
 obtain ⟨bL,bM,sf,cs,hs,hn⟩:=hA.seen
 apply j8.go
 unfold j8.T aH
 simp only [go_sem,add_eq,Nat.zero_add,hs.r3]
 exact h _ fun K hK=>aIg hs.m hK
end
end HL
namespace HL
structure QS where
 most:Int
 next:Int
 α:AS
 hp:PS V3
 ip:PS V3
 at_:Int→Option dN
 en:dN→Option bR
structure nH where
 r:dN
 h:dN
 c:Nat
 e:bR
def nH.held (x:nH):cH:=(x.c,x.e)
structure Hv where
 h:dN
 k:Int
 root:Int
 N:List Nat
def eD (I:List nH) (h:dN):List cH:=(I.filter fun x=>decide (x.h = h)).map nH.held
def iZ (I:List nH) (y:Hv):List Nat:=fN (eD I y.h) y.N
structure aFg (α:AS) (I:List nH) (H:List Hv):Prop where
 kh:∀ y∈H,KH y.k α y.root (eD I y.h) y.N
 d1:∀ y∈H,∀ y'∈H,y.h≠y'.h→∀ c∈iZ I y,c ∉ iZ I y'
structure eB (S:QS) (I:List nH) (H:List Hv) (tm:Int):Prop where
 m1:1≤S.most
 m2:S.most≤300
 an:(S.α.n:Int) = 2 * S.most
 al:S.α.len = 2 * I.length
 inv:S.α.Inv
 ho:S.hp.Ok
 io:S.ip.Ok
 hl:S.hp.l.length = S.hp.free.length + H.length
 il:S.ip.l.length = S.ip.free.length + I.length
 hm:S.hp.most = 64
 im:S.ip.most = S.most
 hll:S.hp.l.length≤64
 ill:(S.ip.l.length:Int)≤S.most
 hg:∀ x∈S.hp.l,0≤x.g∧x.g≤tm
 ig:∀ x∈S.ip.l,0≤x.g∧x.g≤tm
 hg1:∀ x∈S.hp.l,x.t = true→1≤x.g
 ig1:∀ x∈S.ip.l,x.t = true→1≤x.g
 tm0:0≤tm
 hf:∀ y∈H,S.hp.find y.h.1 y.h.2 = some (y.k,y.root,((eD I y.h).length:Int))
 jf:∀ x∈I,S.ip.find x.r.1 x.r.2 = some ((x.c:Int),x.h.1,x.h.2)
 fW:(H.map (·.h)).Nodup
 ind:(I.map (·.r)).Nodup
 icd:(I.map (·.c)).Nodup
 ih:∀ x∈I,∃ y∈H,y.h = x.h
 at1:∀ x∈I,S.at_ (x.c:Int) = some x.r
 at2:∀ c r,S.at_ c = some r→∃ x∈I,(x.c:Int) = c
 en1:∀ x∈I,S.en x.r = some x.e
 hs:aFg S.α I H
 nx:0≤S.next∧S.next≤tm
theorem m8 (I J:List nH) (h:dN):eD (I ++ J) h = eD I h ++ eD J h:=by unfold eD;rw [List.filter_append,List.map_append]
theorem uM {x:nH} {h:dN} (e:x.h = h):eD [x] h = [x.held]:=by unfold eD;simp [e]
theorem p8 {x:nH} {h:dN} (e:x.h≠h):eD [x] h = []:=by unfold eD;simp [e]
theorem q8 {I:List nH} {h:dN} {p:cH}:p∈eD I h↔∃ x∈I,x.h = h∧x.held = p:=by
 unfold eD
 constructor
 ·intro hp
  obtain ⟨x,hx,rfl⟩:=List.mem_map.1 hp
  obtain ⟨h1,h2⟩:=List.mem_filter.1 hx
  exact ⟨x,h1,by simpa using h2,rfl⟩
 ·rintro ⟨x,h1,h2,rfl⟩
  exact List.mem_map.2 ⟨x,List.mem_filter.2 ⟨h1,by simpa using h2⟩,rfl⟩
theorem zQ (A B:List nH) (x:nH):(eD (A ++ x::B) x.h).Perm (x.held::eD (A ++ B) x.h):=by
 rw [m8,show x::B = [x] ++ B from rfl,m8 [x] B,uM rfl,m8 A B]
 exact List.perm_middle
theorem tT (A B:List nH) (x:nH) {h:dN} (e:x.h≠h):eD (A ++ x::B) h = eD (A ++ B) h:=by
 rw [m8,show x::B = [x] ++ B from rfl,m8 [x] B,p8 e,m8 A B,List.nil_append]
theorem vJ (I:List nH) (h:dN):(eD I h).length≤I.length:=by
 unfold eD
 rw [List.length_map]
 exact List.length_filter_le _ _
theorem kK {β:Type} {A B:List β} {x:β} (h:(A ++ x::B).Nodup):(A ++ B).Nodup∧x ∉ A∧x ∉ B:=by
 have h1:=List.perm_middle.nodup_iff.1 h
 obtain ⟨h2,h3⟩:=List.nodup_cons.1 h1
 exact ⟨h3,fun hm=>h2 (List.mem_append_left _ hm),fun hm=>h2 (List.mem_append_right _ hm)⟩
section
variable {S:QS} {I:List nH} {H:List Hv} {tm:Int}
theorem aFg.sm {α β:AS} {j:Int} (h:aFg α I H) (hs:AS.Sm j α β):aFg β I H:=⟨fun y hy=>(h.kh y hy).sm hs,h.d1⟩
theorem eB.sm {β:AS} {j:Int} (h:eB S I H tm) (hs:AS.Sm j S.α β) (hi:β.Inv):eB { S with α:=β } I H tm :=
 ⟨h.m1,h.m2,by show (β.n:Int) = _;rw [hs.n];exact h.an,by show β.len = _;rw [AS.aCw hs.never hs.live];exact h.al,hi,h.ho,h.io,h.hl,h.il,h.hm,h.im,h.hll,h.ill,h.hg,h.ig,h.hg1,h.ig1,h.tm0,h.hf,h.jf,h.fW,h.ind,h.icd,h.ih,h.at1,h.at2,h.en1,h.hs.sm hs,h.nx⟩
theorem eB.v9 (h:eB S I H tm) {tm':Int} (ht:tm≤tm'):eB S I H tm' :=
 ⟨h.m1,h.m2,h.an,h.al,h.inv,h.ho,h.io,h.hl,h.il,h.hm,h.im,h.hll,h.ill,fun x hx=>⟨(h.hg x hx).1,by have:=(h.hg x hx).2;omega⟩,fun x hx=>⟨(h.ig x hx).1,by have:=(h.ig x hx).2;omega⟩,h.hg1,h.ig1,by have:=h.tm0;omega,h.hf,h.jf,h.fW,h.ind,h.icd,h.ih,h.at1,h.at2,h.en1,h.hs,⟨h.nx.1,by have:=h.nx.2;omega⟩⟩
theorem eB.len (h:eB S I H tm):(I.length:Int)≤S.most:=by
 have:=h.il
 have:=h.ill
 omega
theorem eB.item (h:eB S I H tm) {x:nH} (hx:x∈I):∃ y∈H,y.h = x.h∧x.held∈eD I y.h∧x.c∈iZ I y:=by
 obtain ⟨y,hy,e⟩:=h.ih x hx
 have hm:x.held∈eD I y.h:=q8.2 ⟨x,hx,e.symm,rfl⟩
 exact ⟨y,hy,e,hm,List.mem_append_right _ (List.mem_map.2 ⟨x.held,hm,rfl⟩)⟩
theorem eB.live (h:eB S I H tm) {y:Hv} (hy:y∈H):∀ c∈iZ I y,S.α.live c = true:=(h.hs.kh y hy).live
theorem eB.z1 (h:eB S I H tm) {x:nH} (hx:x∈I):S.α.live x.c = true:=by
 obtain ⟨y,hy,_,_,hc⟩:=h.item hx
 exact h.live hy _ hc
theorem aFg.step {α β:AS} {I':List nH} {A B:List Hv} {y y':Hv} {Sx Lx:Nat→Prop} {d k:Int} (h:aFg α I (A ++ y::B)) (hn:((A ++ y::B).map (·.h)).Nodup) (hyh:y'.h = y.h)
  (hI:∀ z∈A ++ B,eD I' z.h = eD I z.h) (hkh:KH y'.k β y'.root (eD I' y'.h) y'.N) (he:AS.lT Sx Lx d k α β) (hS:∀ c,Sx c→c∈iZ I y∨α.live c = false) (hL:∀ c,Lx c→c∈iZ I y∨α.live c = false) (hc:∀ c∈iZ I' y',c∈iZ I y∨α.live c = false):aFg β I' (A ++ y'::B):=by
 rw [List.map_append,List.map_cons] at hn
 obtain ⟨n1,n2,n3⟩:=kK hn
 have eT:∀ z∈A ++ B,z.h≠y.h:=fun z hz e=>by
  rcases List.mem_append.1 hz with hz | hz
  ·exact n2 (List.mem_map.2 ⟨z,hz,e⟩)
  ·exact n3 (List.mem_map.2 ⟨z,hz,e⟩)
 have hold:∀ z∈A ++ B,z∈A ++ y::B:=fun z hz=>by
  rcases List.mem_append.1 hz with hz | hz <;> simp [hz]
 have hz:∀ z,z∈A ++ y'::B→z = y'∨z∈A ++ B:=fun z hz=>by
  rcases List.mem_append.1 hz with hz | hz
  ·exact .inr (by simp [hz])
  ·rcases List.mem_cons.1 hz with hz | hz
   ·exact .inl hz
   ·exact .inr (by simp [hz])
 have hcel:∀ z∈A ++ B,iZ I' z = iZ I z:=fun z hz=>by unfold iZ;rw [hI z hz]
 have hy:y∈A ++ y::B:=by simp
 have hap:∀ z∈A ++ B,∀ c∈iZ I z,¬ (c∈iZ I y∨α.live c = false):=fun z hz c hc hcc=>by
  rcases hcc with hcc | hcc
  ·exact h.d1 z (hold z hz) y hy (eT z hz) c hc hcc
  ·have:=(h.kh z (hold z hz)).live c hc
   rw [hcc] at this;cases this
 refine ⟨fun z hzm=>?_,fun z hzm z' hzm' hzz c hcz hcz'=>?_⟩
 ·rcases hz z hzm with e0 | hzm
  ·rw [e0];exact hkh
  ·rw [hI z hzm]
   exact (h.kh z (hold z hzm)).pZ he (fun c hcz hs=>hap z hzm c hcz (hS c hs)) (fun c hcz hs=>hap z hzm c hcz (hL c hs))
 ·rcases hz z hzm with e0 | hzm
  ·rw [e0] at hcz hzz
   rcases hz z' hzm' with e1 | hzm'
   ·exact hzz (by rw [e1])
   ·rw [hcel z' hzm'] at hcz'
    exact hap z' hzm' c hcz' (hc c hcz)
  ·rw [hcel z hzm] at hcz
   rcases hz z' hzm' with e1 | hzm'
   ·rw [e1] at hcz'
    exact hap z hzm c hcz (hc c hcz')
   ·rw [hcel z' hzm'] at hcz'
    exact h.d1 z (hold z hzm) z' (hold z' hzm') hzz c hcz hcz'
end
theorem aAg {p:PS V3} {A B:List Hv} {y y':Hv} {I I':List nH} (hn:((A ++ y::B).map (·.h)).Nodup) (hyh:y'.h = y.h) (hf:∀ z∈A ++ y::B,p.find z.h.1 z.h.2 = some (z.k,z.root,((eD I z.h).length:Int))) (hI:∀ z∈A ++ B,eD I' z.h = eD I z.h) :
  ∀ z∈A ++ y'::B,(p.put y.h.1.toNat (y'.k,y'.root,((eD I' y'.h).length:Int))).find z.h.1 z.h.2 = some (z.k,z.root,((eD I' z.h).length:Int)):=by
 rw [List.map_append,List.map_cons] at hn
 obtain ⟨n1,n2,n3⟩:=kK hn
 have hy:=hf y (by simp)
 obtain ⟨p1,p2⟩:=PS.aBF (y'.k,y'.root,((eD I' y'.h).length:Int)) hy
 intro z hz
 have hz':z = y'∨z∈A ++ B:=by
  rcases List.mem_append.1 hz with hz | hz
  ·exact .inr (by simp [hz])
  ·rcases List.mem_cons.1 hz with hz | hz
   ·exact .inl hz
   ·exact .inr (by simp [hz])
 rcases hz' with rfl | hz'
 ·rw [hyh]
  rw [hyh] at p1
  exact p1
 ·have hzo:z∈A ++ y::B:=by rcases List.mem_append.1 hz' with h | h <;> simp [h]
  have hzf:=hf z hzo
  rw [hI z hz']
  refine p2 _ _ _ (fun e=>?_) hzf
  obtain ⟨j1,q1,q2,_⟩:=PS.bK hzf
  obtain ⟨j2,q3,q4,_⟩:=PS.bK hy
  have hj:j1 = j2:=by omega
  subst hj
  rw [q2] at q4
  have hg:z.h.2 = y.h.2:=by injection q4 with q4;injection q4
  have hzy:z.h = y.h:=Prod.ext e hg
  rcases List.mem_append.1 hz' with h | h
  ·exact n2 (List.mem_map.2 ⟨z,h,hzy⟩)
  ·exact n3 (List.mem_map.2 ⟨z,h,hzy⟩)
section
variable {S:QS} {tm:Int}
theorem aMg {I:List nH} (hn:(I.map (·.r)).Nodup) (hf:∀ x∈I,S.ip.find x.r.1 x.r.2 = some ((x.c:Int),x.h.1,x.h.2)) {x z:nH} (hx:x∈I) (hz:z∈I) (eT:z.r≠x.r):z.r.1≠x.r.1:=fun e=>by
 obtain ⟨j1,q1,q2,_⟩:=PS.bK (hf z hz)
 obtain ⟨j2,q3,q4,_⟩:=PS.bK (hf x hx)
 have hj:j1 = j2:=by omega
 subst hj
 rw [q2] at q4
 have hg:z.r.2 = x.r.2:=by injection q4 with q4;injection q4
 exact eT (Prod.ext e hg)
theorem yI {β γ:Type} {f:β→γ}:∀ {l:List β},(l.map f).Nodup→∀ x∈l,∀ y∈l,f x = f y→x = y
 | [],_,x,hx,_,_,_=>by cases hx
 | z::l,hn,x,hx,y,hy,e=>by
  rw [List.map_cons,List.nodup_cons] at hn
  rcases List.mem_cons.1 hx with h1 | h1 <;> rcases List.mem_cons.1 hy with h2 | h2
  ·rw [h1,h2]
  ·exact absurd (List.mem_map.2 ⟨y,h2,by rw [←e,h1]⟩) hn.1
  ·exact absurd (List.mem_map.2 ⟨x,h1,by rw [e,h2]⟩) hn.1
  ·exact yI hn.2 x h1 y h2 e
theorem eB.insert {I:List nH} {A B:List Hv} {y:Hv} (h:eB S I (A ++ y::B) tm) {key:Int} {c n a:Nat} {α1 β:AS} {r':Int} {N':List Nat} {j1:Int}
  (hc:S.α.next = some c) (hα1:AS.Sm j1 ((S.α.take.put c 7 key).put c 8 S.next) α1) (hi1:α1.Inv) (hn:α1.next = some n) (hnl:α1.live n = false) (hβ:β.Inv)
  (hkh:KH y.k β r' ((c,(key,S.next))::eD I y.h) N') (hsub:∀ x∈fN ((c,(key,S.next))::eD I y.h) N',x = n∨x = c∨x∈iZ I y) {j2:Int} (heff:AS.lT (fun x=>x = n∨x = c∨x∈iZ I y) (· = n) 1 j2 α1 β) (hat:S.ip.at_ = some a) (hlen:(I.length:Int) < S.most) :
  S.at_ (c:Int) = none∧eB { most:=S.most,next:=S.next + 1,α:=β,hp:=S.hp.put y.h.1.toNat (y.k,r',((eD I y.h).length:Int) + 1),ip:=S.ip.take z3 a ((c:Int),y.h.1,y.h.2),at_:=gB S.at_ (c:Int) (some ((a:Int),S.ip.gen a)),en:=gB S.en ((a:Int),S.ip.gen a) (some (key,S.next)) }
   (I ++ [⟨((a:Int),S.ip.gen a),y.h,c,(key,S.next)⟩]) (A ++ { y with root:=r',N:=N' }::B) (tm + 1):=by
 have hyM:y∈A ++ y::B:=by simp
 obtain ⟨c1,c2,c3⟩:=AS.kL h.inv hc
 have hcno:∀ x∈I,x.c≠c:=fun x hx e=>by have:=h.z1 hx;rw [e,c2] at this;cases this
 have hatc:S.at_ (c:Int) = none:=by
  cases hm:S.at_ (c:Int) with
  | none=>rfl
  | some r =>
   obtain ⟨x,hx,e⟩:=h.at2 _ _ hm
   exact absurd (by omega) (hcno x hx)
 refine ⟨hatc,?_⟩
 have gl:∀ x,α1.live x = if x = c then true else S.α.live x:=fun x=>by rw [hα1.live,show ((S.α.take.put c 7 key).put c 8 S.next).live = S.α.take.live from rfl,c3];rfl
 have hnc:n≠c:=fun e=>by rw [e,gl,if_pos rfl] at hnl;cases hnl
 have hnl0:S.α.live n = false:=by rw [gl,if_neg hnc] at hnl;exact hnl
 have g1:=PS.aCZ h.ig h.tm0 a
 obtain ⟨t1,t2,t3,t4,t5,t6,t7⟩:=PS.aAh h.io hat z3 ((c:Int),y.h.1,y.h.2)
 obtain ⟨f1,f2⟩:=PS.aAq h.io hat z3 ((c:Int),y.h.1,y.h.2) g1.1
 have hrno:∀ x∈I,x.r≠((a:Int),S.ip.gen a):=fun x hx e=>by
  have h1:=h.jf x hx
  rw [e] at h1
  rw [h.io.aDB hat] at h1;cases h1
 have e1:AS.lT (fun x=>x = c) (· = c) 1 (0 + j1) S.α α1:=(((AS.xF (S:=fun x=>x = c) (L:=(· = c)) h.inv hc rfl rfl).put (f:=7) (v:=key) (c:=c) rfl).put (f:=8) (v:=S.next) (c:=c) rfl).trans hα1.pZ
 have e2:AS.lT (fun x=>x = n∨x = c∨x∈iZ I y) (fun x=>x = n∨x = c) (1 + 1) (0 + j1 + j2) S.α β:=(e1.mono (fun x hx=>.inr (.inl hx)) (fun x hx=>.inr hx) (Int.le_refl _)).trans (heff.mono (fun _ h=>h) (fun x hx=>.inl hx) (Int.le_refl _))
 have hI2:∀ z∈A ++ B,eD (I ++ [⟨((a:Int),S.ip.gen a),y.h,c,(key,S.next)⟩]) z.h = eD I z.h:=fun z hz=>by
  have fW:=h.fW
  rw [List.map_append,List.map_cons] at fW
  obtain ⟨n1,n2,n3⟩:=kK fW
  rw [m8,p8,List.append_nil]
  intro e
  have e':z.h = y.h:=e.symm
  rcases List.mem_append.1 hz with h | h
  ·exact n2 (List.mem_map.2 ⟨z,h,e'⟩)
  ·exact n3 (List.mem_map.2 ⟨z,h,e'⟩)
 have hIy:eD (I ++ [⟨((a:Int),S.ip.gen a),y.h,c,(key,S.next)⟩]) y.h = eD I y.h ++ [(c,(key,S.next))]:=by rw [m8,uM rfl];rfl
 have hPy:((c,(key,S.next))::eD I y.h).Perm (eD (I ++ [⟨((a:Int),S.ip.gen a),y.h,c,(key,S.next)⟩]) y.h):=by rw [hIy];exact (List.perm_append_comm (l₁:=[_]))
 have hcel:∀ x∈iZ (I ++ [⟨((a:Int),S.ip.gen a),y.h,c,(key,S.next)⟩]) { y with root:=r',N:=N' },x∈iZ I y∨S.α.live x = false:=fun x hx=>by
  have:=hsub x ((j4 hPy (List.Perm.refl N')).mem_iff.2 hx)
  rcases this with rfl | rfl | h1
  ·exact .inr hnl0
  ·exact .inr c2
  ·exact .inl h1
 have vQ:=PS.vY (p:=S.hp) (a:=y.h.1.toNat) (v:=(y.k,r',((eD I y.h).length:Int) + 1)) (x:=⟨y.h.2,true,(y.k,y.root,((eD I y.h).length:Int))⟩) (by
  obtain ⟨j,q1,q2,_⟩:=PS.bK (h.hf y hyM)
  rw [q1,Int.toNat_natCast];exact q2)
 have hlen2:(eD (I ++ [⟨((a:Int),S.ip.gen a),y.h,c,(key,S.next)⟩]) y.h).length = (eD I y.h).length + 1:=by rw [hIy,List.length_append];rfl
 refine ⟨h.m1,h.m2,by show (β.n:Int) = _;rw [e2.n];exact h.an,?_,hβ,h.ho.put _ _,h.io.take hat _ _,?_,?_,by rw [vQ.2.2];exact h.hm,by rw [t4];exact h.im,?_,?_,fun x hx=>?_,fun x hx=>?_,fun x hx ht=>?_,fun x hx ht=>?_,by have:=h.tm0;omega,?_,fun x hx=>?_,?_,?_,?_,fun x hx=>?_,fun x hx=>?_,fun k r hk=>?_,fun x hx=>?_,?_,?_⟩
 ·show β.len = _
  have:=e2.len
  have:=h.al
  rw [List.length_append,List.length_singleton];omega
 ·rw [vQ.1,vQ.2.1,List.length_set,h.hl];simp
 ·show (S.ip.take z3 a ((c:Int),y.h.1,y.h.2)).l.length = (S.ip.take z3 a ((c:Int),y.h.1,y.h.2)).free.length + _
  rw [List.length_append,List.length_singleton]
  have:=h.il
  omega
 ·rw [vQ.1,List.length_set];exact h.hll
 ·have h1:=h.ill
  have h2:=h.im
  rcases t7 with t7 | t7
  ·show ((S.ip.take z3 a ((c:Int),y.h.1,y.h.2)).l.length:Int)≤S.most
   omega
  ·show ((S.ip.take z3 a ((c:Int),y.h.1,y.h.2)).l.length:Int)≤S.most
   omega
 ·obtain ⟨z,hz,e⟩:=PS.aAO hx
  have:=h.hg z hz
  omega
 ·have:=PS.aDN hx
  have h0:=h.tm0
  rcases this with h1 | h1 | h1
  ·have:=h.ig x h1;omega
  ·omega
  ·omega
 ·obtain ⟨jx,hjx⟩:=List.getElem?_of_mem hx
  rw [vQ.1] at hjx
  by_cases e:y.h.1.toNat = jx
  ·subst e
   have hl9:y.h.1.toNat < S.hp.l.length:=by
    have:=(List.getElem?_eq_some_iff.1 hjx).1
    rwa [List.length_set] at this
   rw [List.getElem?_set_self hl9] at hjx
   cases hjx
   obtain ⟨j,q1,q2,q3⟩:=PS.bK (h.hf y hyM)
   exact q3
  ·rw [List.getElem?_set_ne e] at hjx
   exact h.hg1 x (List.mem_of_getElem? hjx) ht
 ·obtain ⟨jx,hjx⟩:=List.getElem?_of_mem hx
  by_cases e:jx = a
  ·subst e
   rw [t1] at hjx
   cases hjx
   exact g1.1
  ·rw [t2 jx e] at hjx
   exact h.ig1 x (List.mem_of_getElem? hjx) ht
 ·have:=aAg (p:=S.hp) (I':=I ++ [⟨((a:Int),S.ip.gen a),y.h,c,(key,S.next)⟩]) (y':={ y with root:=r',N:=N' }) h.fW rfl h.hf hI2
  rw [show (({ y with root:=r',N:=N' }:Hv).h) = y.h from rfl,hlen2] at this
  exact this
 ·rcases List.mem_append.1 hx with hx | hx
  ·exact f2 _ _ _ (h.jf x hx)
  ·rw [List.mem_singleton.1 hx];exact f1
 ·have:=h.fW
  simp only [List.map_append,List.map_cons] at this ⊢
  exact this
 ·rw [List.map_append,List.nodup_append]
  refine ⟨h.ind,by simp,fun u hu v hv e=>?_⟩
  obtain ⟨x,hx,rfl⟩:=List.mem_map.1 hu
  simp only [List.map_cons,List.map_nil,List.mem_singleton] at hv
  exact hrno x hx (e.trans hv)
 ·rw [List.map_append,List.nodup_append]
  refine ⟨h.icd,by simp,fun u hu v hv e=>?_⟩
  obtain ⟨x,hx,rfl⟩:=List.mem_map.1 hu
  simp only [List.map_cons,List.map_nil,List.mem_singleton] at hv
  exact hcno x hx (e.trans hv)
 ·rcases List.mem_append.1 hx with hx | hx
  ·obtain ⟨z,hz,e⟩:=h.ih x hx
   rcases List.mem_append.1 hz with hz | hz
   ·exact ⟨z,by simp [hz],e⟩
   ·rcases List.mem_cons.1 hz with rfl | hz
    ·exact ⟨{ z with root:=r',N:=N' },by simp,e⟩
    ·exact ⟨z,by simp [hz],e⟩
  ·rw [List.mem_singleton.1 hx]
   exact ⟨{ y with root:=r',N:=N' },by simp,rfl⟩
 ·show gB S.at_ (c:Int) _ (x.c:Int) = some x.r
  unfold gB
  rcases List.mem_append.1 hx with hx | hx
  ·rw [if_neg (fun e=>hcno x hx (by omega))];exact h.at1 x hx
  ·rw [List.mem_singleton.1 hx]
   simp only [if_true]
 ·have hk':gB S.at_ (c:Int) (some ((a:Int),S.ip.gen a)) k = some r:=hk
  unfold gB at hk'
  split at hk'
  ·rename_i e
   exact ⟨⟨((a:Int),S.ip.gen a),y.h,c,(key,S.next)⟩,by simp,e.symm⟩
  ·obtain ⟨x,hx,e⟩:=h.at2 _ _ hk'
   exact ⟨x,by simp [hx],e⟩
 ·show gB S.en _ _ x.r = some x.e
  unfold gB
  rcases List.mem_append.1 hx with hx | hx
  ·rw [if_neg (hrno x hx)];exact h.en1 x hx
  ·rw [List.mem_singleton.1 hx]
   simp only [if_true]
 ·refine h.hs.step h.fW rfl hI2 (hkh.perm hPy (List.Perm.refl _)) e2 (fun x hx=>?_) (fun x hx=>?_) hcel
  ·rcases hx with rfl | rfl | hx
   ·exact .inr hnl0
   ·exact .inr c2
   ·exact .inl hx
  ·rcases hx with rfl | rfl
   ·exact .inr hnl0
   ·exact .inr c2
 ·have:=h.nx
  show 0≤S.next + 1∧S.next + 1≤tm + 1
  omega
theorem eB.remove {IA IB:List nH} {x:nH} {A B:List Hv} {y:Hv} (h:eB S (IA ++ x::IB) (A ++ y::B) tm) (hxy:x.h = y.h) {β γ:AS} {r':Int} {N':List Nat} {L':List cH} {n:Nat} {j j2:Int}
  (hL:(eD (IA ++ x::IB) y.h).Perm (x.held::L')) (hkh:KH y.k β r' L' N') (hless:aIE L' N' (eD (IA ++ x::IB) y.h) y.N) (hxL:x.c ∉ fN L' N') (hn:n∈y.N) (heff:AS.lT (fun c=>c∈iZ (IA ++ x::IB) y) (· = n) (-1) j S.α β) (hβ:β.Inv) (hγ:AS.Sm j2 (β.xA (x.c:Int)) γ) (hγi:γ.Inv) :
  eB { S with α:=γ,hp:=S.hp.put y.h.1.toNat (y.k,r',((eD (IA ++ x::IB) y.h).length:Int) - 1),ip:=S.ip.gK z3 x.r.1.toNat,at_:=gB S.at_ (x.c:Int) none,en:=gB S.en x.r none }
   (IA ++ IB) (A ++ { y with root:=r',N:=N' }::B) (tm + 1):=by
 have hyM:y∈A ++ y::B:=by simp
 have hxM:x∈IA ++ x::IB:=by simp
 have hold:∀ z∈IA ++ IB,z∈IA ++ x::IB:=fun z hz=>by rcases List.mem_append.1 hz with h | h <;> simp [h]
 have hnr:=h.ind
 have hncd:=h.icd
 rw [List.map_append,List.map_cons] at hnr hncd
 obtain ⟨nr1,nr2,nr3⟩:=kK hnr
 obtain ⟨nc1,nc2,nc3⟩:=kK hncd
 rw [←List.map_append] at nr1 nc1
 have hrne:∀ z∈IA ++ IB,z.r≠x.r:=fun z hz e=>by
  rcases List.mem_append.1 hz with h | h
  ·exact nr2 (List.mem_map.2 ⟨z,h,e⟩)
  ·exact nr3 (List.mem_map.2 ⟨z,h,e⟩)
 have hcne:∀ z∈IA ++ IB,z.c≠x.c:=fun z hz e=>by
  rcases List.mem_append.1 hz with h | h
  ·exact nc2 (List.mem_map.2 ⟨z,h,e⟩)
  ·exact nc3 (List.mem_map.2 ⟨z,h,e⟩)
 have hL2:(eD (IA ++ x::IB) y.h).Perm (x.held::eD (IA ++ IB) y.h):=by rw [←hxy];exact zQ IA IB x
 have hLL:L'.Perm (eD (IA ++ IB) y.h):=List.Perm.cons_inv (hL.symm.trans hL2)
 have hxc:x.c∈iZ (IA ++ x::IB) y:=List.mem_append_right _ (List.mem_map.2 ⟨x.held,q8.2 ⟨x,hxM,hxy,rfl⟩,rfl⟩)
 have hyn:=(h.hs.kh y hyM).nd
 have hxn:x.c≠n:=fun e=>(List.nodup_append.1 hyn).2.2 n hn x.c (List.mem_map.2 ⟨x.held,q8.2 ⟨x,hxM,hxy,rfl⟩,rfl⟩) e.symm
 have hxl:β.live x.c = true:=by rw [heff.live _ hxn];exact h.z1 hxM
 have hgive:β.xA (x.c:Int) = β.lI x.c:=AS.vW hxl
 rw [hgive] at hγ
 have e2:AS.lT (fun c=>c∈iZ (IA ++ x::IB) y) (fun c=>c = n∨c = x.c) (-1 + -1 + 0) (j + 0 + j2) S.α γ :=
  ((heff.mono (fun _ h=>h) (fun c hc=>.inl hc) (Int.le_refl _)).trans (AS.p5 hβ hxl (.inr rfl))).trans hγ.pZ
 obtain ⟨ka,ka1,ka2,ka3⟩:=PS.bK (h.jf x hxM)
 have hka:x.r.1.toNat = ka:=by rw [ka1,Int.toNat_natCast]
 have hgl:=PS.wS (p:=S.ip) z3 ka2
 have vQ:=PS.vY (p:=S.hp) (a:=y.h.1.toNat) (v:=(y.k,r',((eD (IA ++ x::IB) y.h).length:Int) - 1)) (x:=⟨y.h.2,true,(y.k,y.root,((eD (IA ++ x::IB) y.h).length:Int))⟩) (by
  obtain ⟨j,q1,q2,_⟩:=PS.bK (h.hf y hyM)
  rw [q1,Int.toNat_natCast];exact q2)
 have hlen2:(eD (IA ++ x::IB) y.h).length = (eD (IA ++ IB) y.h).length + 1:=hL2.length_eq
 have hI2:∀ z∈A ++ B,eD (IA ++ IB) z.h = eD (IA ++ x::IB) z.h:=fun z hz=>by
  have fW:=h.fW
  rw [List.map_append,List.map_cons] at fW
  obtain ⟨n1,n2,n3⟩:=kK fW
  refine (tT IA IB x fun e=>?_).symm
  have e':z.h = y.h:=e.symm.trans hxy
  rcases List.mem_append.1 hz with h | h
  ·exact n2 (List.mem_map.2 ⟨z,h,e'⟩)
  ·exact n3 (List.mem_map.2 ⟨z,h,e'⟩)
 have hkh2:KH y.k γ r' (eD (IA ++ IB) y.h) N':=by
  refine ((hkh.pZ (AS.p5 (S:=fun _=>False) (L:=(· = x.c)) hβ hxl rfl) (fun _ _ h=>h) (fun c hc e=>hxL (by rw [←e];exact hc))).sm hγ).perm hLL (List.Perm.refl _)
 have hcel:∀ c∈iZ (IA ++ IB) { y with root:=r',N:=N' },c∈iZ (IA ++ x::IB) y∨S.α.live c = false:=fun c hc=>.inl (hless c ((j4 hLL (List.Perm.refl N')).mem_iff.2 hc))
 have hny:n∈iZ (IA ++ x::IB) y:=List.mem_append_left _ hn
 rw [hka]
 refine ⟨h.m1,h.m2,by show (γ.n:Int) = _;rw [e2.n];exact h.an,?_,hγi,h.ho.put _ _,h.io.gK _ ka2 rfl,?_,?_,by rw [vQ.2.2];exact h.hm,by rw [hgl.2.2];exact h.im,?_,?_,fun x hx=>?_,fun x hx=>?_,fun x hx ht=>?_,fun x hx ht=>?_,by have:=h.tm0;omega,?_,fun z hz=>?_,?_,?_,?_,fun z hz=>?_,fun z hz=>?_,fun k r hk=>?_,fun z hz=>?_,?_,?_⟩
 ·show γ.len = _
  have:=e2.len
  have:=h.al
  have h3:(IA ++ x::IB).length = (IA ++ IB).length + 1:=by simp;omega
  rw [h3] at this
  omega
 ·rw [vQ.1,vQ.2.1,List.length_set,h.hl];simp
 ·rw [hgl.1,hgl.2.1,List.length_set,h.il];simp;omega
 ·rw [vQ.1,List.length_set];exact h.hll
 ·rw [hgl.1,List.length_set];exact h.ill
 ·obtain ⟨z,hz,e⟩:=PS.aAO hx
  have:=h.hg z hz
  omega
 ·obtain ⟨z,hz,e⟩:=PS.aEr hx
  have:=h.ig z hz
  omega
 ·obtain ⟨jx,hjx⟩:=List.getElem?_of_mem hx
  rw [vQ.1] at hjx
  by_cases e:y.h.1.toNat = jx
  ·subst e
   have hl9:y.h.1.toNat < S.hp.l.length:=by
    have:=(List.getElem?_eq_some_iff.1 hjx).1
    rwa [List.length_set] at this
   rw [List.getElem?_set_self hl9] at hjx
   cases hjx
   obtain ⟨j,q1,q2,q3⟩:=PS.bK (h.hf y hyM)
   exact q3
  ·rw [List.getElem?_set_ne e] at hjx
   exact h.hg1 x (List.mem_of_getElem? hjx) ht
 ·obtain ⟨jx,hjx⟩:=List.getElem?_of_mem hx
  rw [hgl.1] at hjx
  by_cases e:ka = jx
  ·subst e
   rw [List.getElem?_set_self (List.getElem?_eq_some_iff.1 ka2).1] at hjx
   cases hjx
   cases ht
  ·rw [List.getElem?_set_ne e] at hjx
   exact h.ig1 x (List.mem_of_getElem? hjx) ht
 ·have:=aAg (p:=S.hp) (I':=IA ++ IB) (y':={ y with root:=r',N:=N' }) h.fW rfl h.hf hI2
  rw [show (({ y with root:=r',N:=N' }:Hv).h) = y.h from rfl,show ((eD (IA ++ IB) y.h).length:Int) = ((eD (IA ++ x::IB) y.h).length:Int) - 1 from by omega] at this
  exact this
 ·refine PS.xU z3 ka2 _ _ _ (fun e=>?_) (h.jf z (hold z hz))
  exact aMg h.ind h.jf hxM (hold z hz) (hrne z hz) (e.trans ka1.symm)
 ·have:=h.fW
  simp only [List.map_append,List.map_cons] at this ⊢
  exact this
 ·exact nr1
 ·exact nc1
 ·obtain ⟨u,hu,e⟩:=h.ih z (hold z hz)
  rcases List.mem_append.1 hu with hu | hu
  ·exact ⟨u,by simp [hu],e⟩
  ·rcases List.mem_cons.1 hu with hu | hu
   ·exact ⟨{ y with root:=r',N:=N' },by simp,by rw [←e,hu]⟩
   ·exact ⟨u,by simp [hu],e⟩
 ·show gB S.at_ (x.c:Int) none (z.c:Int) = some z.r
  unfold gB
  rw [if_neg (fun e=>hcne z hz (by omega))];exact h.at1 z (hold z hz)
 ·have hk':gB S.at_ (x.c:Int) none k = some r:=hk
  unfold gB at hk'
  split at hk'
  ·cases hk'
  ·rename_i e
   obtain ⟨z,hz,e'⟩:=h.at2 _ _ hk'
   refine ⟨z,?_,e'⟩
   rcases List.mem_append.1 hz with hz | hz
   ·exact List.mem_append_left _ hz
   ·rcases List.mem_cons.1 hz with hz | hz
    ·exact absurd (by rw [←e',hz]) e
    ·exact List.mem_append_right _ hz
 ·show gB S.en x.r none z.r = some z.e
  unfold gB
  rw [if_neg (hrne z hz)];exact h.en1 z (hold z hz)
 ·refine h.hs.step (y':={ y with root:=r',N:=N' }) h.fW rfl hI2 hkh2 e2 (fun c hc=>.inl hc) (fun c hc=>?_) hcel
  rcases hc with hc | hc
  ·exact .inl (by rw [hc];exact hny)
  ·exact .inl (by rw [hc];exact hxc)
 ·have:=h.nx
  show 0≤S.next∧S.next≤tm + 1
  omega
end
end HL
namespace HL
namespace PS
variable {κ:Type} {p:PS κ}
theorem aIb (h:∀ x∈p.l,x.t = true→1≤x.g) (a:Nat) (v:κ):∀ x∈(p.put a v).l,x.t = true→1≤x.g:=by
 intro x hx ht
 cases hy:p.l[a]? with
 | none =>
  have:p.put a v = p:=by unfold PS.put;rw [hy]
  rw [this] at hx;exact h x hx ht
 | some y =>
  rw [(vY v hy).1] at hx
  rcases List.mem_or_eq_of_mem_set hx with hx | hx
  ·exact h x hx ht
  ·rw [hx] at ht ⊢;exact h y (List.mem_of_getElem? hy) ht
theorem aKi (h:∀ x∈p.l,x.t = true→1≤x.g) (z:κ) (a:Nat):∀ x∈(p.gK z a).l,x.t = true→1≤x.g:=by
 intro x hx ht
 cases hy:p.l[a]? with
 | none =>
  have:p.gK z a = p:=by unfold PS.gK;rw [hy]
  rw [this] at hx;exact h x hx ht
 | some y =>
  rw [(wS z hy).1] at hx
  rcases List.mem_or_eq_of_mem_set hx with hx | hx
  ·exact h x hx ht
  ·rw [hx] at ht;cases ht
theorem aJT (hok:p.Ok) (h:∀ x∈p.l,x.t = true→1≤x.g) {a:Nat} (ha:p.at_ = some a) (hg:1≤p.gen a) (z v:κ):∀ x∈(p.take z a v).l,x.t = true→1≤x.g:=by
 intro x hx ht
 obtain ⟨t1,t2,_⟩:=aAh hok ha z v
 obtain ⟨jx,hjx⟩:=List.getElem?_of_mem hx
 by_cases e:jx = a
 ·subst e
  rw [t1] at hjx
  cases hjx
  exact hg
 ·rw [t2 jx e] at hjx
  exact h x (List.mem_of_getElem? hjx) ht
theorem aFV {n:Nat} (h:p.l.length = p.free.length + n) (hn:(n:Int) < p.most):∃ a,p.at_ = some a:=by
 unfold at_
 cases hl:p.free.getLast? with
 | some a=>exact ⟨a,rfl⟩
 | none =>
  have hf:p.free = []:=List.getLast?_eq_none_iff.1 hl
  rw [hf] at h
  simp only [List.length_nil] at h
  exact ⟨p.l.length,by simp only;rw [if_neg (by omega)]⟩
end PS
def vX (o h:dN) (x:nH):nH:=if x.h = o then { x with h:=h } else x
theorem aCt (o h:dN) (x:nH):(vX o h x).r = x.r∧(vX o h x).c = x.c∧(vX o h x).e = x.e:=by unfold vX;split <;> exact ⟨rfl,rfl,rfl⟩
theorem yB {o h z:dN} (h1:z≠h) (h2:z≠o):∀ I:List nH,eD (I.map (vX o h)) z = eD I z
 | []=>rfl
 | x::I=>by
  have ih:=yB h1 h2 I
  rw [List.map_cons,show vX o h x::I.map (vX o h) = [vX o h x] ++ I.map (vX o h) from rfl,show x::I = [x] ++ I from rfl,m8,m8,ih]
  congr 1
  unfold vX
  by_cases e:x.h = o
  ·rw [if_pos e,p8 (fun e'=>h1 e'.symm),p8 (fun e'=>h2 (by rw [←e',e]))]
  ·rw [if_neg e]
theorem aDf {o h:dN} (eT:h≠o):∀ I:List nH,(eD (I.map (vX o h)) h).Perm (eD I h ++ eD I o)
 | []=>List.Perm.refl _
 | x::I=>by
  have ih:=aDf eT I
  rw [List.map_cons,show vX o h x::I.map (vX o h) = [vX o h x] ++ I.map (vX o h) from rfl,show x::I = [x] ++ I from rfl,m8,m8,m8 [x] I o]
  unfold vX at ih ⊢
  by_cases e:x.h = o
  ·rw [if_pos e,uM rfl,p8 (h:=h) (fun e'=>eT (by rw [←e',e])),uM e,List.nil_append]
   exact (ih.cons _).trans List.perm_middle.symm
  ·rw [if_neg e,p8 e,List.nil_append]
   by_cases e2:x.h = h
   ·rw [uM e2];exact ih.cons _
   ·rw [p8 e2];exact ih
section
variable {S:QS} {tm:Int}
theorem eB.next {I:List nH} {H:List Hv} (h:eB S I H tm) (hlen:(I.length:Int) < S.most):S.α.next≠none:=fun e=>by
 have h1:=AS.aCH h.inv e
 have:=h.al
 have:=h.an
 omega
theorem eB.aMY {I:List nH} {H:List Hv} (h:eB S I H tm) (hlen:(I.length:Int) < S.most):∃ a,S.ip.at_ = some a:=PS.aFV h.il (by rw [h.im];exact hlen)
theorem eB.aMG {I:List nH} {H:List Hv} (h:eB S I H tm) (hlen:H.length < 64):∃ a,S.hp.at_ = some a:=PS.aFV h.hl (by rw [h.hm];omega)
theorem eB.aIz {IA IB:List nH} {x:nH} {A B:List Hv} {y:Hv} (h:eB S (IA ++ x::IB) (A ++ y::B) tm) (hxy:x.h = y.h) {α1 β:AS} {key r':Int} {N':List Nat} {L':List cH} {j j2:Int}
  (hL:(eD (IA ++ x::IB) y.h).Perm (x.held::L')) (hα:AS.Sm j (S.α.put x.c 7 key) α1) (hkh:KH y.k β r' ((x.c,(key,x.e.2))::L') N') (hless:aIE ((x.c,(key,x.e.2))::L') N' (x.held::L') y.N) (heff:AS.lT (fun c=>c∈fN (x.held::L') y.N) (fun _=>False) 0 j2 α1 β) (hβ:β.Inv) :
  eB { S with α:=β,hp:=S.hp.put y.h.1.toNat (y.k,r',((eD (IA ++ x::IB) y.h).length:Int)),en:=gB S.en x.r (some (key,x.e.2)) } (IA ++ { x with e:=(key,x.e.2) }::IB) (A ++ { y with root:=r',N:=N' }::B) tm:=by
 have hyM:y∈A ++ y::B:=by simp
 have hxM:x∈IA ++ x::IB:=by simp
 have hold:∀ z∈IA ++ IB,z∈IA ++ x::IB:=fun z hz=>by rcases List.mem_append.1 hz with h | h <;> simp [h]
 have hcas:∀ z∈IA ++ { x with e:=(key,x.e.2) }::IB,z = { x with e:=(key,x.e.2) }∨z∈IA ++ IB:=fun z hz=>by
  rcases List.mem_append.1 hz with hz | hz
  ·exact .inr (by simp [hz])
  ·rcases List.mem_cons.1 hz with hz | hz
   ·exact .inl hz
   ·exact .inr (by simp [hz])
 have hnr:=h.ind
 rw [List.map_append,List.map_cons] at hnr
 obtain ⟨nr1,nr2,nr3⟩:=kK hnr
 have hrne:∀ z∈IA ++ IB,z.r≠x.r:=fun z hz e=>by
  rcases List.mem_append.1 hz with h | h
  ·exact nr2 (List.mem_map.2 ⟨z,h,e⟩)
  ·exact nr3 (List.mem_map.2 ⟨z,h,e⟩)
 have hL2:(eD (IA ++ x::IB) y.h).Perm (x.held::eD (IA ++ IB) y.h):=by rw [←hxy];exact zQ IA IB x
 have hL3:(eD (IA ++ { x with e:=(key,x.e.2) }::IB) y.h).Perm ((x.c,(key,x.e.2))::eD (IA ++ IB) y.h):=by
  have:=zQ IA IB { x with e:=(key,x.e.2) }
  rw [←hxy];exact this
 have hLL:L'.Perm (eD (IA ++ IB) y.h):=List.Perm.cons_inv (hL.symm.trans hL2)
 have hPn:((x.c,(key,x.e.2))::L').Perm (eD (IA ++ { x with e:=(key,x.e.2) }::IB) y.h):=(hLL.cons _).trans hL3.symm
 have hxc:x.c∈iZ (IA ++ x::IB) y:=List.mem_append_right _ (List.mem_map.2 ⟨x.held,q8.2 ⟨x,hxM,hxy,rfl⟩,rfl⟩)
 have hcK:∀ c,c∈fN (x.held::L') y.N↔c∈iZ (IA ++ x::IB) y:=fun c=>(j4 hL (List.Perm.refl y.N)).mem_iff.symm
 have hlen2:(eD (IA ++ { x with e:=(key,x.e.2) }::IB) y.h).length = (eD (IA ++ x::IB) y.h).length:=by rw [hL3.length_eq,hL2.length_eq];rfl
 have e2:AS.lT (fun c=>c∈iZ (IA ++ x::IB) y) (fun _=>False) 0 (0 + j + j2) S.α β :=
  ((((AS.Sm.refl (α:=S.α)).pZ (S:=fun c=>c∈iZ (IA ++ x::IB) y) (L:=fun _=>False)).put (f:=7) (v:=key) (c:=x.c) hxc).trans hα.pZ).trans (heff.mono (fun c hc=>(hcK c).1 hc) (fun _ h=>h) (Int.le_refl _))
 have hI2:∀ z∈A ++ B,eD (IA ++ { x with e:=(key,x.e.2) }::IB) z.h = eD (IA ++ x::IB) z.h:=fun z hz=>by
  have fW:=h.fW
  rw [List.map_append,List.map_cons] at fW
  obtain ⟨n1,n2,n3⟩:=kK fW
  have eT:x.h≠z.h:=fun e=>by
   have e':z.h = y.h:=e.symm.trans hxy
   rcases List.mem_append.1 hz with h | h
   ·exact n2 (List.mem_map.2 ⟨z,h,e'⟩)
   ·exact n3 (List.mem_map.2 ⟨z,h,e'⟩)
  rw [tT IA IB x eT]
  exact tT IA IB { x with e:=(key,x.e.2) } eT
 have hcel:∀ c∈iZ (IA ++ { x with e:=(key,x.e.2) }::IB) { y with root:=r',N:=N' },c∈iZ (IA ++ x::IB) y∨S.α.live c = false:=fun c hc=>.inl ((hcK c).1 (hless c ((j4 hPn (List.Perm.refl N')).mem_iff.2 hc)))
 have vQ:=PS.vY (p:=S.hp) (a:=y.h.1.toNat) (v:=(y.k,r',((eD (IA ++ x::IB) y.h).length:Int))) (x:=⟨y.h.2,true,(y.k,y.root,((eD (IA ++ x::IB) y.h).length:Int))⟩) (by
  obtain ⟨j,q1,q2,_⟩:=PS.bK (h.hf y hyM)
  rw [q1,Int.toNat_natCast];exact q2)
 refine ⟨h.m1,h.m2,by show (β.n:Int) = _;rw [e2.n];exact h.an,?_,hβ,h.ho.put _ _,h.io,?_,?_,by rw [vQ.2.2];exact h.hm,h.im,?_,h.ill,fun x hx=>?_,h.ig,PS.aIb h.hg1 _ _,h.ig1,h.tm0,?_,fun z hz=>?_,?_,?_,?_,fun z hz=>?_,fun z hz=>?_,fun k r hk=>?_,fun z hz=>?_,?_,h.nx⟩
 ·show β.len = _
  have:=e2.len
  have:=h.al
  simp only [List.length_append,List.length_cons] at this ⊢
  omega
 ·rw [vQ.1,vQ.2.1,List.length_set,h.hl];simp
 ·have:=h.il
  simp only [List.length_append,List.length_cons] at this ⊢
  exact this
 ·rw [vQ.1,List.length_set];exact h.hll
 ·obtain ⟨z,hz,e⟩:=PS.aAO hx
  have:=h.hg z hz
  omega
 ·have:=aAg (p:=S.hp) (I':=IA ++ { x with e:=(key,x.e.2) }::IB) (y':={ y with root:=r',N:=N' }) h.fW rfl h.hf hI2
  rw [show (({ y with root:=r',N:=N' }:Hv).h) = y.h from rfl,hlen2] at this
  exact this
 ·rcases hcas z hz with rfl | hz
  ·exact h.jf x hxM
  ·exact h.jf z (hold z hz)
 ·have:=h.fW
  simp only [List.map_append,List.map_cons] at this ⊢
  exact this
 ·have:=h.ind
  simp only [List.map_append,List.map_cons] at this ⊢
  exact this
 ·have:=h.icd
  simp only [List.map_append,List.map_cons] at this ⊢
  exact this
 ·have hzo:∃ z0∈IA ++ x::IB,z0.h = z.h:=by
   rcases hcas z hz with rfl | hz
   ·exact ⟨x,hxM,rfl⟩
   ·exact ⟨z,hold z hz,rfl⟩
  obtain ⟨z0,hz0,e0⟩:=hzo
  obtain ⟨u,hu,e⟩:=h.ih z0 hz0
  rw [e0] at e
  rcases List.mem_append.1 hu with hu | hu
  ·exact ⟨u,by simp [hu],e⟩
  ·rcases List.mem_cons.1 hu with hu | hu
   ·exact ⟨{ y with root:=r',N:=N' },by simp,by rw [←e,hu]⟩
   ·exact ⟨u,by simp [hu],e⟩
 ·rcases hcas z hz with rfl | hz
  ·exact h.at1 x hxM
  ·exact h.at1 z (hold z hz)
 ·obtain ⟨z,hz,e⟩:=h.at2 _ _ hk
  rcases List.mem_append.1 hz with hz | hz
  ·exact ⟨z,by simp [hz],e⟩
  ·rcases List.mem_cons.1 hz with hz | hz
   ·exact ⟨{ x with e:=(key,x.e.2) },by simp,by rw [←e,hz]⟩
   ·exact ⟨z,by simp [hz],e⟩
 ·show gB S.en x.r _ z.r = some z.e
  unfold gB
  rcases hcas z hz with rfl | hz
  ·rw [if_pos rfl]
  ·rw [if_neg (hrne z hz)];exact h.en1 z (hold z hz)
 ·exact h.hs.step (y':={ y with root:=r',N:=N' }) h.fW rfl hI2 (hkh.perm hPn (List.Perm.refl _)) e2 (fun c hc=>.inl hc) (fun c hc=>hc.elim) hcel
theorem aIN {I:List nH} (hf:∀ x∈I,S.ip.find x.r.1 x.r.2 = some ((x.c:Int),x.h.1,x.h.2)) {x:nH} (hx:x∈I) (o:dN):((x.r.1,x.r.2)∈oX S.ip o.1 o.2)↔x.h = o:=by
 have h1:=hf x hx
 unfold oX
 rw [List.mem_filter]
 simp only [h1,decide_eq_true_eq]
 constructor
 ·rintro ⟨_,h2,h3⟩;exact Prod.ext h2 h3
 ·intro e
  refine ⟨?_,by rw [e],by rw [e]⟩
  obtain ⟨j,q1,q2,q3⟩:=PS.bK h1
  refine rE.2 ⟨j,_,q2,rfl,?_⟩
  simp [q1]
theorem aIU {I:List nH} {H:List Hv} (h:eB S I H tm) {y z:Hv} (hy:y∈H) (hz:z∈H) (eT:z.h≠y.h):z.h.1≠y.h.1:=fun e=>by
 obtain ⟨j1,q1,q2,_⟩:=PS.bK (h.hf z hz)
 obtain ⟨j2,q3,q4,_⟩:=PS.bK (h.hf y hy)
 have hj:j1 = j2:=by omega
 subst hj
 rw [q2] at q4
 have hg:z.h.2 = y.h.2:=by injection q4 with q4;injection q4
 exact eT (Prod.ext e hg)
theorem eB.mG {I:List nH} {B:List Hv} {y y2:Hv} (h:eB S I (y::y2::B) tm) {β:AS} {r':Int} {N':List Nat} {j:Int}
  (hkh:KH y.k β r' (eD I y.h ++ eD I y2.h) N') (hsub:∀ c∈fN (eD I y.h ++ eD I y2.h) N',c∈iZ I y∨c∈iZ I y2) (heff:AS.lT (fun c=>c∈iZ I y∨c∈iZ I y2) (fun _=>False) 0 j S.α β) (hβ:β.Inv) :
  eB { S with α:=β,hp:=(S.hp.gK z3 y2.h.1.toNat).put y.h.1.toNat (y.k,r',((eD I y.h).length:Int) + (eD I y2.h).length),ip:=reh S.ip (oX S.ip y2.h.1 y2.h.2) y.h.1 y.h.2 } (I.map (vX y2.h y.h)) ({ y with root:=r',N:=N' }::B) tm:=by
 have fW:=h.fW
 rw [List.map_cons,List.map_cons,List.nodup_cons,List.nodup_cons] at fW
 obtain ⟨n1,n2,n3⟩:=fW
 have hy:y∈y::y2::B:=by simp
 have hy2:y2∈y::y2::B:=by simp
 have hB:∀ z∈B,z∈y::y2::B:=fun z hz=>by simp [hz]
 have eT:y.h≠y2.h:=fun e=>n1 (by rw [e];simp)
 have hz1:∀ z∈B,z.h≠y.h:=fun z hz e=>n1 (by rw [←e];exact List.mem_cons_of_mem _ (List.mem_map.2 ⟨z,hz,rfl⟩))
 have hz2:∀ z∈B,z.h≠y2.h:=fun z hz e=>n2 (by rw [←e];exact List.mem_map.2 ⟨z,hz,rfl⟩)
 have hI1:=aDf eT I
 have hI2:∀ z∈B,eD (I.map (vX y2.h y.h)) z.h = eD I z.h:=fun z hz=>yB (hz1 z hz) (hz2 z hz) I
 have hmr:(I.map (vX y2.h y.h)).map (·.r) = I.map (·.r):=by rw [List.map_map];exact List.map_congr_left fun x _=>(aCt _ _ x).1
 have hmc:(I.map (vX y2.h y.h)).map (·.c) = I.map (·.c):=by rw [List.map_map];exact List.map_congr_left fun x _=>(aCt _ _ x).2.1
 have f1:=h.hf y hy
 have f2:=h.hf y2 hy2
 obtain ⟨k2,k21,k22,k23⟩:=PS.bK f2
 have hk2:y2.h.1.toNat = k2:=by rw [k21,Int.toNat_natCast]
 rw [hk2]
 have hgl:=PS.wS (p:=S.hp) z3 k22
 have fg:∀ z∈y::y2::B,z.h≠y2.h→∀ w,S.hp.find z.h.1 z.h.2 = some w→(S.hp.gK z3 k2).find z.h.1 z.h.2 = some w:=fun z hz hzz w hw=>PS.xU z3 k22 _ _ _ (fun e=>aIU h hy2 hz hzz (by rw [e,k21])) hw
 have f1':=fg y hy eT _ f1
 obtain ⟨p1,p2⟩:=PS.aBF (y.k,r',((eD I y.h).length:Int) + (eD I y2.h).length) f1'
 have vQ:=PS.vY (p:=S.hp.gK z3 k2) (a:=y.h.1.toNat) (v:=(y.k,r',((eD I y.h).length:Int) + (eD I y2.h).length)) (x:=⟨y.h.2,true,(y.k,y.root,((eD I y.h).length:Int))⟩) (by
  obtain ⟨j,q1,q2,_⟩:=PS.bK f1'
  rw [q1,Int.toNat_natCast];exact q2)
 refine ⟨h.m1,h.m2,by show (β.n:Int) = _;rw [heff.n];exact h.an,?_,hβ,(h.ho.gK z3 k22 rfl).put _ _,aLR h.io,?_,?_,by rw [vQ.2.2,hgl.2.2];exact h.hm,h.im,?_,by rw [aDa];exact h.ill,fun x hx=>?_,fun x hx=>?_,PS.aIb (PS.aKi h.hg1 _ _) _ _,fun x hx ht=>?_,h.tm0,fun z hz=>?_,fun z hz=>?_,?_,?_,?_,fun z hz=>?_,fun z hz=>?_,fun k r hk=>?_,fun z hz=>?_,⟨fun z hz=>?_,fun z hz z' hz' hzz c hc hc'=>?_⟩,h.nx⟩
 ·show β.len = _
  have:=heff.len
  have:=h.al
  rw [List.length_map]
  omega
 ·rw [vQ.1,vQ.2.1,List.length_set,hgl.1,hgl.2.1,List.length_set]
  have:=h.hl
  simp only [List.length_append,List.length_cons,List.length_nil] at this ⊢
  omega
 ·rw [aDa,List.length_map];exact h.il
 ·rw [vQ.1,List.length_set,hgl.1,List.length_set];exact h.hll
 ·obtain ⟨z,hz,e⟩:=PS.aAO hx
  obtain ⟨u,hu,e'⟩:=PS.aEr hz
  have:=h.hg u hu
  omega
 ·obtain ⟨z,hz,e,_⟩:=aGb hx
  have:=h.ig z hz
  omega
 ·obtain ⟨z,hz,e,et⟩:=aGb hx
  have:=h.ig1 z hz (by rw [←et];exact ht)
  omega
 ·rcases List.mem_cons.1 hz with rfl | hz
  ·have hl2:((eD (I.map (vX y2.h y.h)) y.h).length:Int) = ((eD I y.h).length:Int) + (eD I y2.h).length:=by rw [hI1.length_eq,List.length_append];omega
   show PS.find _ y.h.1 y.h.2 = some (y.k,r',((eD (I.map (vX y2.h y.h)) y.h).length:Int))
   rw [hl2];exact p1
  ·rw [hI2 z hz]
   exact p2 _ _ _ (aIU h hy (hB z hz) (hz1 z hz)) (fg z (hB z hz) (hz2 z hz) _ (h.hf z (hB z hz)))
 ·obtain ⟨x,hx,rfl⟩:=List.mem_map.1 hz
  obtain ⟨e1,e2,e3⟩:=aCt y2.h y.h x
  rw [e1,e2]
  show (reh S.ip _ _ _).find _ _ = _
  rw [aDF (h.jf x hx)]
  by_cases e:x.h = y2.h
  ·rw [if_pos ((aIN h.jf hx y2.h).2 e)]
   unfold vX
   rw [if_pos e]
  ·rw [if_neg fun hm=>e ((aIN h.jf hx y2.h).1 hm)]
   unfold vX
   rw [if_neg e]
 ·rw [List.map_cons,List.nodup_cons]
  refine ⟨fun hm=>?_,n3⟩
  obtain ⟨z,hz,e⟩:=List.mem_map.1 hm
  exact hz1 z hz e
 ·rw [hmr];exact h.ind
 ·rw [hmc];exact h.icd
 ·obtain ⟨x,hx,rfl⟩:=List.mem_map.1 hz
  obtain ⟨u,hu,e⟩:=h.ih x hx
  by_cases e2:x.h = y2.h
  ·exact ⟨_,List.mem_cons_self,by unfold vX;rw [if_pos e2]⟩
  ·rcases List.mem_cons.1 hu with hu | hu
   ·refine ⟨_,List.mem_cons_self,?_⟩
    unfold vX
    rw [if_neg e2,←e,hu]
   ·rcases List.mem_cons.1 hu with hu | hu
    ·exact absurd (by rw [←e,hu]) e2
    ·refine ⟨u,List.mem_cons_of_mem _ hu,?_⟩
     unfold vX
     rw [if_neg e2,e]
 ·obtain ⟨x,hx,rfl⟩:=List.mem_map.1 hz
  obtain ⟨e1,e2,e3⟩:=aCt y2.h y.h x
  rw [e1,e2];exact h.at1 x hx
 ·obtain ⟨x,hx,e⟩:=h.at2 _ _ hk
  exact ⟨_,List.mem_map.2 ⟨x,hx,rfl⟩,by rw [(aCt y2.h y.h x).2.1];exact e⟩
 ·obtain ⟨x,hx,rfl⟩:=List.mem_map.1 hz
  obtain ⟨e1,e2,e3⟩:=aCt y2.h y.h x
  rw [e1,e3];exact h.en1 x hx
 ·rcases List.mem_cons.1 hz with rfl | hz
  ·exact hkh.perm hI1.symm (List.Perm.refl _)
  ·rw [hI2 z hz]
   refine (h.hs.kh z (hB z hz)).pZ heff (fun c hc hs=>?_) (fun c hc hs=>hs)
   rcases hs with hs | hs
   ·exact h.hs.d1 z (hB z hz) y hy (hz1 z hz) c hc hs
   ·exact h.hs.d1 z (hB z hz) y2 hy2 (hz2 z hz) c hc hs
 ·have hc0:∀ c,c∈iZ (I.map (vX y2.h y.h)) { y with root:=r',N:=N' }→c∈iZ I y∨c∈iZ I y2:=fun c hc=>hsub c ((j4 hI1 (List.Perm.refl N')).mem_iff.1 hc)
  have hcz:∀ z∈B,iZ (I.map (vX y2.h y.h)) z = iZ I z:=fun z hz=>by unfold iZ;rw [hI2 z hz]
  have hno:∀ z∈B,∀ c∈iZ I z,¬ (c∈iZ I y∨c∈iZ I y2):=fun z hz c hc hs=>by
   rcases hs with hs | hs
   ·exact h.hs.d1 z (hB z hz) y hy (hz1 z hz) c hc hs
   ·exact h.hs.d1 z (hB z hz) y2 hy2 (hz2 z hz) c hc hs
  rcases List.mem_cons.1 hz with e0 | hz
  ·rw [e0] at hc hzz
   rcases List.mem_cons.1 hz' with e1 | hz'
   ·exact hzz (by rw [e1])
   ·rw [hcz z' hz'] at hc'
    exact hno z' hz' c hc' (hc0 c hc)
  ·rw [hcz z hz] at hc
   rcases List.mem_cons.1 hz' with e1 | hz'
   ·rw [e1] at hc'
    exact hno z hz c hc (hc0 c hc')
   ·rw [hcz z' hz'] at hc'
    exact h.hs.d1 z (hB z hz) z' (hB z' hz') hzz c hc hc'
theorem eB.make {I:List nH} {H:List Hv} (h:eB S I H tm) {a:Nat} {k:Int} (hk1:1≤k) (hk3:k≤3) (hat:S.hp.at_ = some a) :
  eB { S with hp:=S.hp.take z3 a (k, -1,0) } I (H ++ [⟨((a:Int),S.hp.gen a),k, -1,[]⟩]) (tm + 1)∧eD I ((a:Int),S.hp.gen a) = []:=by
 have g1:=PS.aCZ h.hg h.tm0 a
 obtain ⟨t1,t2,t3,t4,t5,t6,t7⟩:=PS.aAh h.ho hat z3 (k, -1,0)
 obtain ⟨f1,f2⟩:=PS.aAq h.ho hat z3 (k, -1,0) g1.1
 have hno:∀ y∈H,y.h≠((a:Int),S.hp.gen a):=fun y hy e=>by
  have:=h.hf y hy
  rw [e,h.ho.aDB hat] at this;cases this
 have hnil:eD I ((a:Int),S.hp.gen a) = []:=by
  unfold eD
  rw [List.map_eq_nil_iff,List.filter_eq_nil_iff]
  intro x hx e
  obtain ⟨y,hy,e'⟩:=h.ih x hx
  exact hno y hy (by rw [e'];simpa using e)
 refine ⟨⟨h.m1,h.m2,h.an,h.al,h.inv,h.ho.take hat _ _,h.io,?_,h.il,by rw [t4];exact h.hm,h.im,?_,h.ill,fun x hx=>?_,fun x hx=>?_,PS.aJT h.ho h.hg1 hat g1.1 _ _,h.ig1,by have:=h.tm0;omega,fun y hy=>?_,h.jf,?_,h.ind,h.icd,fun x hx=>?_,h.at1,h.at2,h.en1,⟨fun y hy=>?_,fun y hy y' hy' hyy c hc hc'=>?_⟩,?_⟩,hnil⟩
 ·show (S.hp.take z3 a (k, -1,0)).l.length = (S.hp.take z3 a (k, -1,0)).free.length + _
  have:=h.hl
  rw [List.length_append,List.length_singleton]
  omega
 ·show (S.hp.take z3 a (k, -1,0)).l.length≤64
  have:=h.hll
  have:=h.hm
  omega
 ·have:=PS.aDN hx
  have h0:=h.tm0
  rcases this with h1 | h1 | h1
  ·have:=h.hg x h1;omega
  ·omega
  ·omega
 ·have:=h.ig x hx;omega
 ·rcases List.mem_append.1 hy with hy | hy
  ·exact f2 _ _ _ (h.hf y hy)
  ·rw [List.mem_singleton.1 hy,hnil];exact f1
 ·rw [List.map_append,List.nodup_append]
  refine ⟨h.fW,by simp,fun u hu v hv e=>?_⟩
  obtain ⟨y,hy,rfl⟩:=List.mem_map.1 hu
  simp only [List.map_cons,List.map_nil,List.mem_singleton] at hv
  exact hno y hy (e.trans hv)
 ·obtain ⟨y,hy,e⟩:=h.ih x hx
  exact ⟨y,List.mem_append_left _ hy,e⟩
 ·rcases List.mem_append.1 hy with hy | hy
  ·exact h.hs.kh y hy
  ·rw [List.mem_singleton.1 hy,hnil]
   exact KH.nil hk1 hk3
 ·have hcn:∀ c,c ∉ iZ I (⟨((a:Int),S.hp.gen a),k, -1,[]⟩:Hv):=fun c hc=>by
   unfold iZ at hc
   rw [hnil] at hc
   cases hc
  rcases List.mem_append.1 hy with hy | hy
  ·rcases List.mem_append.1 hy' with hy' | hy'
   ·exact h.hs.d1 y hy y' hy' hyy c hc hc'
   ·rw [List.mem_singleton.1 hy'] at hc'
    exact hcn c hc'
  ·rw [List.mem_singleton.1 hy] at hc
   exact hcn c hc
 ·have:=h.nx
  show 0≤S.next∧S.next≤tm + 1
  omega
theorem eB.aL1 {most:Nat} (h1:1≤most) (h2:most≤300):eB ⟨most,0,AS.new (2 * most),⟨64,[],[]⟩,⟨most,[],[]⟩,fun _=>Option.none,fun _=>Option.none⟩ [] [] 0:=by
 refine ⟨by show (1:Int)≤(most:Int);omega,by show (most:Int)≤300;omega,by show ((2 * most:Nat):Int) = 2 * (most:Int);omega,?_,?_,PS.Ok.nil _,PS.Ok.nil _,rfl,rfl,rfl,rfl,by simp,by show ((0:Nat):Int)≤most;omega,fun x hx=>(by cases hx),fun x hx=>(by cases hx),fun x hx=>(by cases hx),fun x hx=>(by cases hx),Int.le_refl _,fun x hx=>(by cases hx),fun x hx=>(by cases hx),List.nodup_nil,List.nodup_nil,List.nodup_nil,fun x hx=>(by cases hx),fun x hx=>(by cases hx),fun _ _ h=>(by cases h),fun x hx=>(by cases hx),⟨fun x hx=>(by cases hx),fun x hx=>(by cases hx)⟩,Int.le_refl _,Int.le_refl _⟩
 ·show (AS.new (2 * most)).len = 0
  rfl
 ·exact AS.aFH (by omega)
end
end HL
namespace HL
section
variable {w0:World} {F M:Mem}
theorem aA.oG {A P P':cI} (h:aA w0 F M (star A P)) (f:∀ F M,aA w0 F M P→aA w0 F M P'):aA w0 F M (star A P'):=by
 obtain ⟨F',h1,_,back⟩:=h.last
 exact back M P' (f _ _ h1)
theorem aA.dp {X A B D E G:cI} (h:aA w0 F M (star X (star A (star B (star D (star E G)))))):aA w0 F M (star A (star B (star D (star E (star X G))))) :=
 h.dY.oG fun _ _ h=>h.dY.oG fun _ _ h=>h.dY.oG fun _ _ h=>h.dY
theorem aA.up {X A B D E G:cI} (h:aA w0 F M (star A (star B (star D (star E (star X G)))))):aA w0 F M (star X (star A (star B (star D (star E G))))) :=
 (h.oG fun _ _ h=>(h.oG fun _ _ h=>(h.oG fun _ _ h=>h.dY).dY).dY).dY
theorem aA.aMB {A B D E:cI} (h:aA w0 F M (star A (star B (star D E)))):aA w0 F M (star D (star A (star B E))):=(h.oG fun _ _ h=>h.dY).dY
theorem aA.mA {A B D E:cI} (h:aA w0 F M (star D (star A (star B E)))):aA w0 F M (star A (star B (star D E))):=h.dY.oG fun _ _ h=>h.dY
theorem HO.vG {os:vA} {A B D E G:cI} (h:HO w0 F M os (star A (star B (star D (star E G))))):∃ F',aA w0 F' M E∧Mem.le F F'∧∀ M' E',aA w0 F' M' E'→HO w0 F M' os (star A (star B (star D (star E' G)))):=by
 obtain ⟨F1,h1,l1,back1⟩:=h.aLu
 obtain ⟨F2,h2,l2,back2⟩:=h1.comm.last
 exact ⟨F2,h2,Mem.le_trans l1 l2,fun M' E' h'=>back1 _ _ (back2 _ _ h').comm⟩
end
abbrev tQs:TypeId:=95
abbrev aA4:TypeId:=46
abbrev aBv:TypeId:=35
abbrev qV (a t me:Nat) (most next:Int):List Value:=[.int .i64 most,.pointer (some ⟨a,0,none⟩),.pointer (some ⟨t,0,none⟩),.map (some me),.int .i64 next]
abbrev QA (q a t bh bi me:Nat) (S:QS) (Q:cI):cI:=star (xY bh S.hp) (star (rQ bi S.ip) (star (bA q (qV a t me S.most S.next) tQs) (star (aF a S.α) Q)))
abbrev lL (why h1 h2 i1 i2 e1 e2 n:Int):List Value:=[.int .i64 why,.int .i64 h1,.int .i64 h2,.int .i64 i1,.int .i64 i2,.int .i64 e1,.int .i64 e2,.int .i64 n]
abbrev nK (op k h1 h2 o1 o2 i1 i2 key:Int):List Value:=[.int .i64 op,.int .i64 k,.int .i64 h1,.int .i64 h2,.int .i64 o1,.int .i64 o2,.int .i64 i1,.int .i64 i2,.int .i64 key]
theorem eC {a b c d e f g h:Int}:∀ v∈lL a b c d e f g h,bS v = true:=by
 intro v hv
 simp only [lL,List.mem_cons,List.not_mem_nil,or_false] at hv
 rcases hv with rfl | rfl | rfl | rfl | rfl | rfl | rfl | rfl <;> rfl
theorem qM:gV PP aA4 8 = true:=W.g46
theorem aKT:gV PP aBv 9 = true:=W.g35
theorem q9 {cs:List Value} {o:Nat} {x y:Value} (h0:cs[o]? = some x) (h1:cs[o + 1]? = some y):∀ j u,([x,y]:List Value)[j]? = some u→cs[o + j]? = some u:=fun j u hj=>by
 match j,hj with
 | 0,hj=>rw [←hj];exact h0
 | 1,hj=>rw [←hj];exact h1
 | j + 2,hj=>simp at hj
def mK (e:bR):Value:=.agg #[.int .i64 e.1,.int .i64 e.2]
section
variable {w0:World} {F M:Mem} {R:VP} {os:vA} {q a t bh bi ma me:Nat} {S:QS} {Q:cI} {I:List nH} {H:List Hv} {tm most next:Int} {oa oe:Obj}
theorem Q0 (o:cS w0 M q (qV a t me most next) tQs):(aJ PP w0).ld 3 ⟨q,0,none⟩ M = some (.int .i64 most):=mB W.c3 o rfl
theorem Q1 (o:cS w0 M q (qV a t me most next) tQs):(aJ PP w0).ld 89 ⟨q,1,none⟩ M = some (.pointer (some ⟨a,0,none⟩)):=mB (by kernel_rfl) o rfl
theorem Q2 (o:cS w0 M q (qV a t me most next) tQs):(aJ PP w0).ld 91 ⟨q,2,none⟩ M = some (.pointer (some ⟨t,0,none⟩)):=mB (by kernel_rfl) o rfl
theorem Q3 (o:cS w0 M q (qV a t me most next) tQs):(aJ PP w0).ld 93 ⟨q,3,none⟩ M = some (.map (some me)):=mB (by kernel_rfl) o rfl
theorem Q4 (o:cS w0 M q (qV a t me most next) tQs):(aJ PP w0).ld 2 ⟨q,4,none⟩ M = some (.int .i64 next):=mB W.c2 o rfl
theorem HO.qo (h:HO w0 F M os (QA q a t bh bi me S Q)):cS w0 M q (qV a t me S.most S.next) tQs:=h.h.right.right.bC
theorem aDY {A:cI} {why:Int} (h:HO w0 F M os A) (hK:∀ M',HO w0 F M' os A→R (.agg (lL why 0 0 0 0 0 0 0).toArray) M'):C PP w0 Id.jC #[.int .i64 why] R M:=by
 apply jC.go
 unfold jC.T aH
 refine jQ h fun b1 M1 _ h1=>?_
 have hbld:(aJ PP w0).oF aA4 [(0,.int .i64 why)] = some (.agg (lL why 0 0 0 0 0 0 0).toArray):=by kernel_rfl
 simp only [hbld,aC,aZ,aW,aL,aU]
 exact jV qM (by rfl) eC h1 fun M2 h2=>hK M2 h2
theorem eB.fresh {A B:List Hv} {y:Hv} (h:eB S I (A ++ y::B) tm) {key:Int} {c:Nat} {α1:AS} {j1:Int} (hlen:(I.length:Int) < S.most)
  (hc:S.α.next = some c) (hα1:AS.Sm j1 ((S.α.take.put c 7 key).put c 8 S.next) α1) (hi1:α1.Inv) :
  KH y.k α1 y.root (eD I y.h) y.N∧c ∉ fN (eD I y.h) y.N∧α1.live c = true∧α1.get c 7 = key∧α1.get c 8 = S.next∧α1.next≠none:=by
 have hyM:y∈A ++ y::B:=by simp
 obtain ⟨c1,c2,c3⟩:=AS.kL h.inv hc
 have hcn:c ∉ fN (eD I y.h) y.N:=fun hm=>by
  have:=(h.hs.kh y hyM).live c hm
  rw [c2] at this;cases this
 have e1:AS.lT (fun x=>x = c) (· = c) 1 (0 + j1) S.α α1:=(((AS.xF (S:=fun x=>x = c) (L:=(· = c)) h.inv hc rfl rfl).put (f:=7) (v:=key) (c:=c) rfl).put (f:=8) (v:=S.next) (c:=c) rfl).trans hα1.pZ
 refine ⟨(h.hs.kh y hyM).pZ e1 (fun x hx e=>hcn (e▸hx)) (fun x hx e=>hcn (e▸hx)),hcn,?_,?_,?_,fun e=>?_⟩
 ·rw [hα1.live]
  show S.α.take.live c = true
  exact (AS.yF h.inv hc).2
 ·rw [hα1.get]
  simp [AS.put]
 ·rw [hα1.get]
  simp [AS.put]
 ·have h1:=AS.aCH hi1 e
  have:=e1.len
  have:=e1.n
  have:=h.al
  have:=h.an
  omega
theorem eB.vQ (h:eB S I H tm):S.hp.l.length≤10000∧S.hp.free.length≤10000:=by
 have:=h.hll
 have:=h.hl
 omega
theorem eB.ipl (h:eB S I H tm):S.ip.l.length≤10000∧S.ip.free.length≤10000∧S.ip.free.length≤S.ip.l.length:=by
 have:=h.ill
 have:=h.il
 have:=h.m2
 omega
theorem aEJ {A B:List Hv} {y:Hv} {op k p1 p2 s1 s2 key:Int} (oT:cS w0 F t (x4 bh bi ma) x5) (hv:eB S I (A ++ y::B) tm) (htm:tm≤900000) (hlen:(I.length:Int) < S.most)
  (hfa:dM (Value.int .i64) bZ S.at_ oa) (hfe:dM bZ mK S.en oe) (h:HO w0 F M ((ma,oa)::(me,oe)::os) (QA q a t bh bi me S Q))
  (hK:∀ M' S' oa' oe' i y',S.ip.at_ = some i→dM (Value.int .i64) bZ S'.at_ oa'→dM bZ mK S'.en oe'→HO w0 F M' ((ma,oa')::(me,oe')::os) (QA q a t bh bi me S' Q) →
   y'.h = y.h→y'.k = y.k→(∃ c,eB S' (I ++ [⟨((i:Int),S.ip.gen i),y.h,c,(key,S.next)⟩]) (A ++ y'::B) (tm + 1))→S'.most = S.most→S'.next = S.next + 1→S'.ip.pl = S.ip.pl.take i 0→(∃ Sx Lx d,AS.lT Sx Lx d (3 + dO (I.length + 1)) S.α S'.α) →
   R (.agg (lL 0 0 0 i (S.ip.gen i) key S.next 0).toArray) M') :
  C PP w0 Id.lE #[.pointer (some ⟨q,0,none⟩),.agg (nK op k y.h.1 y.h.2 p1 p2 s1 s2 key).toArray] R M:=by
 have hyM:y∈A ++ y::B:=by simp
 obtain ⟨hl1,hl2⟩:=hv.vQ
 obtain ⟨hl3,hl4,hl5⟩:=hv.ipl
 have hfy:=hv.hf y hyM
 apply lE.go
 unfold lE.T aH
 refine sZ h fun b1 F1 M1 l1 lm1 o1 h1=>?_
 have oT1:=oT.le l1
 refine jQ h1 fun b3 M2 lm2 h2'=>?_
 have h2:=h2'.aX aA.dp
 have hR1:∀ {M':Mem} {e:TypeId},cS w0 M' b1 (nK op k y.h.1 y.h.2 p1 p2 s1 s2 key) e→(aJ PP w0).ld 33 ⟨b1,2,none⟩ M' = some (.agg #[.int .i64 y.h.1,.int .i64 y.h.2]):=fun o=>kZ (vs:=[.int .i64 y.h.1,.int .i64 y.h.2]) a9 o (q9 rfl rfl)
 simp only [aT,add_eq,Nat.zero_add,Q2 h2.qo,aC,bN,hR1 (o1.le h2.fr),aZ,aW,aL,aU]
 refine qI oT1 h2 (by omega) hfy fun M3 h3=>?_
 simp only [cD,aW,aL,aU]
 rw [cB,if_pos rfl]
 simp only [aT,add_eq,Nat.zero_add,Q2 h3.qo,Q0 h3.qo,aC,bN,aL]
 refine aGW oT1 (h3.aX aA.dY) (by omega) hl5 ?_
 simp only [aL,Q0 h3.qo,true_and]
 have hil:=hv.il
 have him:=hv.m2
 rw [cR,if_neg (by omega)]
 have hbld:(aJ PP w0).oF 44 [(0,.int .i64 key),(1,.int .i64 S.next)] = some (.agg #[.int .i64 key,.int .i64 S.next]):=by kernel_rfl
 simp only [aT,add_eq,Nat.zero_add,mB W.c2 (o1.le h3.fr) (o:=8) rfl,Q4 h3.qo,aC,aL,hbld,aZ,aW,aU]
 refine jQ h3 fun b5 M4 lm4 h4=>?_
 refine ⟨mB W.c2 (o1.le h4.fr) (o:=8) rfl,Q4 h4.h.right.right.right.bC,?_⟩
 refine xQ aBY (by rfl) iS h4 fun F5 M5 l5 o5 h5=>?_
 have oT5:=oT1.le l5
 have o15:=o1.le l5
 simp only [aT,add_eq,Nat.zero_add,Q1 h5.qo,mB W.c2 (o5.le h5.fr) (o:=0) rfl,mB W.c2 (o5.le h5.fr) (o:=1) rfl,aC,bN,aL]
 obtain ⟨F6,hA,l6,back6⟩:=h5.vG
 refine aHp hA (fun e0=>absurd e0 (hv.next hlen)) fun c hc M6 α1 hB hs1=>?_
 have hi1:=hB.inv
 obtain ⟨f1,f2,f3,f4,f5,f6⟩:=hv.fresh hlen hc hs1 hi1
 have h6:=back6 M6 _ hB
 simp only [cD,aW,aL,bU,aU,aT,add_eq,Nat.zero_add,Q1 h6.h.right.right.bC,aC,bN]
 obtain ⟨F7,hA7,l7,back7⟩:=h6.vG
 have hLl:=vJ I y.h
 refine aHS (e:=(key,S.next)) hA7 f1 f3 f2 f4 f5 (by omega) f6 fun n hn hnl M7 β r' N' hC hkh hsub heff=>?_
 have hβ:=hC.inv
 have h7:=back7 M7 _ hC
 obtain ⟨i,hat⟩:=hv.aMY hlen
 obtain ⟨hatc,hv'⟩:=hv.insert hc hs1 hi1 hn hnl hβ hkh hsub heff hat hlen
 have hg1:=PS.aCZ hv.ig hv.tm0 i
 have hroom:((S.ip.l.length - S.ip.free.length:Nat):Int)≠S.ip.most:=by rw [hv.im];omega
 have hgi:∀ x∈S.ip.l,0≤x.g∧x.g≤1000000:=fun x hx=>by have:=hv.ig x hx;omega
 have hgm:=vJ I y.h
 have hw1:lN (((eD I y.h).length:Int) + 1) = ((eD I y.h).length:Int) + 1:=aQ (by omega)
 have hnx:=hv.nx
 have hw2:lN (S.next + 1) = S.next + 1:=aQ (by omega)
 have e0:AS.lT (fun _=>True) (fun _=>True) 1 (0 + 3) S.α α1:=(((AS.xF (S:=fun _=>True) (L:=fun _=>True) hv.inv hc trivial trivial).put (f:=7) (v:=key) (c:=c) trivial).put (f:=8) (v:=S.next) (c:=c) trivial).trans hs1.pZ
 have e1:AS.lT (fun _=>True) (fun _=>True) (1 + 1) (3 + dO (I.length + 1)) S.α β:=by
  have hm:dO ((eD I y.h).length + 1)≤dO (I.length + 1):=qC (by omega)
  exact (e0.trans (heff.mono (fun _ _=>trivial) (fun _ _=>trivial) hm)).mono (fun _ h=>h) (fun _ h=>h) (by omega)
 simp only [cD,aW,aL,bU,aU,aT,add_eq,Nat.zero_add,Q2 h7.h.right.right.bC,hR1 (o15.le h7.fr),aC,bN,aZ]
 refine ⟨?_,?_⟩
 rotate_left
 refine jQ h7 fun b8 M8 l8 h8=>?_
 refine ⟨Q2 h8.h.right.right.right.bC,hR1 (o15.le h8.fr),?_⟩
 refine aF6 oT5 (h8.aX aA.dp) (by omega) hfy hv.io hl3 hl4 hl5 hgi hat hroom hfa hatc fun M9 oa' hfa' h9'=>?_
 have h9:=h9'.aX aA.up
 simp only [cD,aW,aZ,aL,aU]
 refine xQ a9 (by rfl) iS h9 fun F10 M10 l10 o10 h10=>?_
 rotate_left
 refine aF6 oT5 h7 (by omega) hfy hv.io hl3 hl4 hl5 hgi hat hroom hfa hatc fun M9 oa' hfa' h9=>?_
 simp only [cD,aW,aZ,aL,aU]
 refine kC a9 (by rfl) iS h9 fun b8 F10 M10 l10 o10 h10=>?_
 all_goals
  have oT10:=oT5.le l10
  have o110:=o15.le l10
  have q10:=h10.h.right.right.bC
  simp only [aT,add_eq,Nat.zero_add,Q2 q10,hR1 (o110.le h10.fr),aC,bN,aZ,aW,aL,aU]
  refine w7 oT10 h10 (by omega) hfy fun M11 h11=>?_
  have q11:=h11.h.right.right.bC
  rw [hw1] at h11
  simp only [aL,aT,add_eq,Nat.zero_add,Q3 q11,fF a9 (o10.le h11.fr),fF aBY ((o5.le l10).le h11.fr),aC,aZ,aW,aL,aU]
  have h12:=h11.perm (List.Perm.swap _ _ _)
  obtain ⟨g1,g2⟩:=h12.get List.mem_cons_self
  refine aGr (kf:=bZ) (vf:=mK) (k:=((i:Int),S.ip.gen i)) (v:=(key,S.next)) Tryz.underlying93 nY g1 g2 hfe fun oe' hfe'=>?_
  have h13:=(h12.set (o':=oe')).perm (List.Perm.swap _ _ _)
  generalize Mem.set M11 me _ = M13 at h13 ⊢
  have q13:=h13.h.right.right.bC
  simp only [aT,add_eq,Nat.zero_add,Q4 q13,aC,aL,hw2]
  refine aDq (o:=4) W.c2 (by simp) rfl rfl (h13.aX aA.aMB) fun M14 h14=>?_
  change HO w0 F10 M14 _ (star (bA q (qV a t me S.most (S.next + 1)) tQs) _) at h14
  have h15:=h14.aX aA.mA
  have hbl:(aJ PP w0).oF aA4 [(2,.agg #[.int .i64 (i:Int),.int .i64 (S.ip.gen i)]),(3,.agg #[.int .i64 key,.int .i64 S.next])] = some (.agg (lL 0 0 0 i (S.ip.gen i) key S.next 0).toArray):=by kernel_rfl
  simp only [fF a9 (o10.le h15.fr),fF aBY ((o5.le l10).le h15.fr),aC,aZ,aW,aL,aU,hbl]
  refine jV qM (by rfl) eC (h15.aX aA.up) fun M16 h16=>?_
  exact hK M16 ⟨S.most,S.next + 1,β,S.hp.put y.h.1.toNat (y.k,r',((eD I y.h).length:Int) + 1),S.ip.take z3 i ((c:Int),y.h.1,y.h.2),gB S.at_ (c:Int) (some ((i:Int),S.ip.gen i)),gB S.en ((i:Int),S.ip.gen i) (some (key,S.next))⟩ oa' oe' i { y with root:=r',N:=N' } hat hfa' hfe' (((h16.fO l10).fO l5).fO l1) rfl rfl ⟨c,hv'⟩ rfl rfl (PS.aF4 _ _ _ hat hv.io.lt) ⟨_,_,_,e1⟩
end
end HL
namespace HL
section
variable {w0:World} {F M:Mem} {R:VP} {os:vA} {q a t bh bi ma me:Nat} {S:QS} {Q:cI} {I:List nH} {H:List Hv} {tm most next:Int} {oa oe:Obj}
theorem lkE {A:cI} {en:dN→Option bR} {r:dN} {e:bR} (h:HO w0 F M os A) (hm:(me,oe)∈os) (hfe:dM bZ mK en oe) (hen:en r = some e) :
  (aJ PP w0).lk 93 (.map (some me)) (.agg #[.int .i64 r.1,.int .i64 r.2]) false M = some (.agg #[.int .i64 e.1,.int .i64 e.2]):=by
 obtain ⟨inf,hi,hz,_⟩:=W.e44
 obtain ⟨g1,g2⟩:=h.get hm
 have hlk:=(lkF (k:=r) Tryz.underlying93 nY hi hz g1 g2 hfe).1
 rw [hen] at hlk
 exact hlk
theorem aDK {r:dN} {v:V3} {e:bR} (oT:cS w0 F t (x4 bh bi ma) x5) (hb:S.ip.l.length≤10000) (hfb:S.ip.free.length≤10000) (hfa:dM (Value.int .i64) bZ S.at_ oa) (hfe:dM bZ mK S.en oe) (hw:S.ip.find r.1 r.2 = some v) (hen:S.en r = some e)
  (h:HO w0 F M ((ma,oa)::(me,oe)::os) (QA q a t bh bi me S Q))
  (hK:∀ M' oa' oe' γ,dM (Value.int .i64) bZ (gB S.at_ v.1 none) oa'→dM bZ mK (gB S.en r none) oe'→AS.Sm 1 (S.α.xA v.1) γ→γ.Inv →
   HO w0 F M' ((ma,oa')::(me,oe')::os) (QA q a t bh bi me ⟨S.most,S.next,γ,S.hp,S.ip.gK z3 r.1.toNat,gB S.at_ v.1 none,gB S.en r none⟩ Q)→R (mK e) M') :
  C PP w0 Id.pF #[.pointer (some ⟨q,0,none⟩),.agg #[.int .i64 r.1,.int .i64 r.2]] R M:=by
 apply pF.go
 unfold pF.T aH
 refine sZ h fun b1 F1 M1 l1 lm1 o1 h1=>?_
 have oT1:=oT.le l1
 refine jQ h1 fun b3 M2 lm2 h2'=>?_
 have h2:=h2'.aX aA.dp
 simp only [aT,add_eq,Nat.zero_add,Q2 h2.qo,aC,bN,fF a9 (o1.le h2.fr),aZ,aW,aL,aU]
 refine aI7 oT1 (h2.aX aA.dY) hb hfb hfa hw fun M3 oa' hfa' h3'=>?_
 have h3:=h3'.aX aA.dY
 simp only [cD,aW,aL,aU,aT,add_eq,Nat.zero_add,Q1 h3.h.right.right.bC,aC,bN]
 obtain ⟨F4,hA,l4,back4⟩:=h3.vG
 refine aFY hA fun M4 hB=>?_
 have hi4:=hB.inv
 have h4:=back4 M4 _ hB
 simp only [bU,Q3 h4.h.right.right.bC,fF a9 (o1.le h4.fr),aC,aZ,aW,aL,aU,lkE (me:=me) h4 (by simp) hfe hen]
 refine jQ h4 fun b5 M5 lm5 h5=>?_
 refine ⟨Q3 h5.h.right.right.right.bC,fF a9 (o1.le h5.fr),lkE h5 (by simp) hfe hen,?_⟩
 refine xQ aBY (by rfl) iS h5 fun F6 M6 l6 o6 h6=>?_
 simp only [Q3 h6.h.right.right.bC,fF a9 ((o1.le l6).le h6.fr),aC,aZ,aW,aL,aU]
 have h6p:=h6.perm (List.Perm.swap _ _ _)
 obtain ⟨g1,g2⟩:=h6p.get List.mem_cons_self
 refine aHJ (k:=r) rfl Tryz.underlying93 nY g1 g2 hfe fun oe' hfe'=>?_
 have h7:=(h6p.set (o':=oe')).perm (List.Perm.swap _ _ _)
 generalize Mem.set M6 me _ = M7 at h7 ⊢
 simp only [fF aBY (o6.le h7.fr),aC,aZ,aW,aL,aU]
 refine jV aBY (by rfl) iS (h7.aX aA.up) fun M8 h8=>?_
 exact hK M8 oa' oe' _ hfa' hfe' AS.aO hi4 ((h8.fO l6).fO l1)
end
end HL
namespace HL
section
variable {w0:World} {F M:Mem} {R:VP} {os:vA} {q a t bh bi ma me:Nat} {S:QS} {Q:cI} {I:List nH} {H:List Hv} {tm most next:Int} {oa oe:Obj}
theorem aEI {IA IB:List nH} {x:nH} {A B:List Hv} {y:Hv} (oT:cS w0 F t (x4 bh bi ma) x5) (hv:eB S (IA ++ x::IB) (A ++ y::B) tm) (hxy:x.h = y.h)
  (hfa:dM (Value.int .i64) bZ S.at_ oa) (hfe:dM bZ mK S.en oe) (h:HO w0 F M ((ma,oa)::(me,oe)::os) (QA q a t bh bi me S Q))
  (hK:∀ M' S' oa' oe' y',dM (Value.int .i64) bZ S'.at_ oa'→dM bZ mK S'.en oe'→HO w0 F M' ((ma,oa')::(me,oe')::os) (QA q a t bh bi me S' Q) →
   y'.h = y.h→y'.k = y.k→eB S' (IA ++ IB) (A ++ y'::B) (tm + 1)→S'.most = S.most→S'.next = S.next→S'.ip.pl = S.ip.pl.gK x.r.1.toNat→(∃ Sx Lx d,AS.lT Sx Lx d (dO (IA ++ x::IB).length + 1) S.α S'.α) →
   R (.agg (lL 0 0 0 0 0 x.e.1 x.e.2 0).toArray) M') :
  C PP w0 Id.lA #[.pointer (some ⟨q,0,none⟩),.agg #[.int .i64 x.r.1,.int .i64 x.r.2]] R M:=by
 have hyM:y∈A ++ y::B:=by simp
 have hxM:x∈IA ++ x::IB:=by simp
 obtain ⟨hl1,hl2⟩:=hv.vQ
 obtain ⟨hl3,hl4,hl5⟩:=hv.ipl
 have hfy:=hv.hf y hyM
 have hjx:=hv.jf x hxM
 apply lA.go
 unfold lA.T aH
 refine sZ h fun b1 F1 M1 l1 lm1 o1 h1=>?_
 have oT1:=oT.le l1
 refine jQ h1 fun b3 M2 lm2 h2'=>?_
 have h2:=h2'.aX aA.dp
 simp only [aT,add_eq,Nat.zero_add,Q2 h2.qo,aC,bN,fF a9 (o1.le h2.fr),aZ,aW,aL,aU]
 refine aEf oT1 (h2.aX aA.dY) (by omega) hjx fun M3 h3'=>?_
 have h3:=h3'.aX aA.dY
 simp only [cD,aW,aL,aU]
 rw [cB,if_pos rfl]
 simp only [aT,add_eq,Nat.zero_add,Q2 h3.qo,aC,bN,fF a9 (o1.le h3.fr),aZ,aW,aL,aU]
 have hP:(eD (IA ++ x::IB) y.h).Perm ((x.c,x.e)::eD (IA ++ IB) y.h):=by rw [←hxy];exact zQ IA IB x
 have hlen:=hv.len
 have hm2:=hv.m2
 have hgm:=vJ (IA ++ x::IB) y.h
 have hPl:=hP.length_eq
 rw [List.length_cons] at hPl
 have hw1:lN (((eD (IA ++ x::IB) y.h).length:Int) - 1) = ((eD (IA ++ x::IB) y.h).length:Int) - 1:=aQ (by omega)
 have hkh0:=(hv.hs.kh y hyM).perm hP (List.Perm.refl _)
 have hfy':S.hp.find x.h.1 x.h.2 = some (y.k,y.root,((eD (IA ++ x::IB) y.h).length:Int)):=by rw [hxy];exact hfy
 refine ⟨?_,?_⟩
 rotate_left
 refine jQ h3 fun b4 M4 lm4 h4=>?_
 refine ⟨Q2 h4.h.right.right.right.bC,fF a9 (o1.le h4.fr),?_⟩
 refine aCY oT1 ((h4.aX aA.dY).aX fun h=>(h.oG fun _ _ h=>h.dY).dY) (by omega) hjx fun M5 h5=>?_
 simp only [cD,aW,aZ,aL,aU]
 refine xQ a9 (by rfl) iS (h5.aX fun h=>(h.dY.oG fun _ _ h=>h.dY).dY) fun F6 M6 l6 o6 h6=>?_
 rotate_left
 refine aCY oT1 (h3.aX aA.dY) (by omega) hjx fun M5 h5=>?_
 simp only [cD,aW,aZ,aL,aU]
 refine kC a9 (by rfl) iS (h5.aX aA.dY) fun b4 F6 M6 l6 o6 h6=>?_
 all_goals
  have oT6:=oT1.le l6
  have o16:=o1.le l6
  simp only [aT,add_eq,Nat.zero_add,Q2 h6.h.right.right.bC,aC,bN,fF a9 (o6.le h6.fr),aZ,aW,aL,aU]
  refine qI oT6 h6 (by omega) hfy' fun M7 h7=>?_
  simp only [cD,aW,aL,aU,aT,add_eq,Nat.zero_add,Q2 h7.h.right.right.bC,Q1 h7.h.right.right.bC,aC,bN,fF a9 (o6.le h7.fr),aZ]
  obtain ⟨F8,hA,l8,back8⟩:=h7.vG
  refine aJw hA hkh0 (by omega) fun n hn M8 β r' N' hB hkh hless hxL heff=>?_
  have hβ:=hB.inv
  have h8:=back8 M8 _ hB
  simp only [aL]
  refine ⟨Q2 h8.h.right.right.bC,fF a9 (o6.le h8.fr),?_⟩
  refine w7 oT6 h8 (by omega) hfy' fun M9 h9=>?_
  rw [hw1] at h9
  simp only [aL,fF a9 (o16.le h9.fr),aC,aZ,aW,aU]
  have hcK:∀ c,c∈fN ((x.c,x.e)::eD (IA ++ IB) y.h) y.N↔c∈iZ (IA ++ x::IB) y:=fun c=>(j4 hP (List.Perm.refl y.N)).mem_iff.symm
  refine aDK (S:=⟨S.most,S.next,β,S.hp.put x.h.1.toNat (y.k,r',((eD (IA ++ x::IB) y.h).length:Int) - 1),S.ip,S.at_,S.en⟩) (r:=x.r) (e:=x.e) oT6 hl3 hl4 hfa hfe hjx (hv.en1 x hxM) h9 fun M10 oa' oe' γ hfa' hfe' hs hγ h10=>?_
  have e1:AS.lT (fun c=>c∈iZ (IA ++ x::IB) y) (· = n) (-1) (dO ((eD (IA ++ IB) y.h).length + 1)) S.α β:=heff.mono (fun c hc=>(hcK c).1 hc) (fun _ h=>h) (Int.le_refl _)
  have hv':=hv.remove hxy hP hkh (fun c hc=>(hcK c).1 (hless c hc)) hxL hn e1 hβ hs hγ
  have hbl:(aJ PP w0).oF aA4 [(3,.agg #[.int .i64 x.e.1,.int .i64 x.e.2])] = some (.agg (lL 0 0 0 0 0 x.e.1 x.e.2 0).toArray):=by kernel_rfl
  simp only [mK,aZ,aW,aL,aU,hbl,aC]
  refine jV qM (by rfl) eC (h10.aX aA.up) fun M11 h11=>?_
  obtain ⟨ka,ka1,ka2,ka3⟩:=PS.bK hjx
  have hxl:β.live x.c = true:=by
   have hxn:x.c≠n:=fun e=>by
    have hyn:=hkh0.nd
    exact (List.nodup_append.1 hyn).2.2 n hn x.c (List.mem_map.2 ⟨(x.c,x.e),List.mem_cons_self,rfl⟩) e.symm
   rw [heff.live _ hxn];exact hv.z1 hxM
  have hgv:β.xA (x.c:Int) = β.lI x.c:=AS.vW hxl
  have hm:dO ((eD (IA ++ IB) y.h).length + 1)≤dO (IA ++ x::IB).length:=qC (by omega)
  have e2:AS.lT (fun _=>True) (fun _=>True) (-1 + -1 + 0) (dO (IA ++ x::IB).length + 0 + 1) S.α γ :=
   ((e1.mono (fun _ _=>trivial) (fun c hc=>trivial) hm).trans (AS.p5 hβ hxl trivial)).trans (by rw [←hgv];exact hs.pZ)
  refine hK M11 _ oa' oe' { y with root:=r',N:=N' } hfa' hfe' ((h11.fO l6).fO l1) rfl rfl (by rw [hxy];exact hv') rfl rfl (PS.aDh _ _ ?_) ⟨_,_,_,e2.mono (fun _ h=>h) (fun _ h=>h) (by omega)⟩
  rw [ka1,Int.toNat_natCast]
  exact (List.getElem?_eq_some_iff.1 ka2).1
end
end HL
namespace HL
section
variable {w0:World} {F M:Mem} {R:VP} {os:vA} {q a t bh bi ma me:Nat} {S:QS} {Q:cI} {I:List nH} {H:List Hv} {tm most next:Int} {oa oe:Obj}
theorem aHe {A B:List Hv} {y:Hv} {out:Bool} (oT:cS w0 F t (x4 bh bi ma) x5) (hv:eB S I (A ++ y::B) tm) (hno:eD I y.h = [])
  (h:HO w0 F M os (QA q a t bh bi me S Q))
  (hK:∀ M',HO w0 F M' os (QA q a t bh bi me S Q)→R (.agg (lL 27 0 0 0 0 0 0 0).toArray) M') :
  C PP w0 Id.mI #[.pointer (some ⟨q,0,none⟩),.agg #[.int .i64 y.h.1,.int .i64 y.h.2],.bool out] R M:=by
 have hyM:y∈A ++ y::B:=by simp
 obtain ⟨hl1,hl2⟩:=hv.vQ
 have hfy:=hv.hf y hyM
 rw [hno] at hfy
 apply mI.go
 unfold mI.T aH
 refine sZ h fun b1 F1 M1 l1 lm1 o1 h1=>?_
 have oT1:=oT.le l1
 refine jQ h1 fun b3 M2 lm2 h2'=>?_
 have h2:=h2'.aX aA.dp
 simp only [aT,add_eq,Nat.zero_add,Q2 h2.qo,aC,bN,fF a9 (o1.le h2.fr),aZ,aW,aL,aU]
 refine qI oT1 h2 (by omega) hfy fun M3 h3=>?_
 simp only [cD,aW,aL,aU]
 rw [cB,if_pos rfl,fJ,if_pos (show (([]:List cH).length:Int) = 0 from rfl)]
 refine aDY h3 fun M4 h4=>?_
 simp only [aZ,aW,aL,aU]
 exact jV qM (by rfl) eC (h4.aX aA.up) fun M5 h5=>hK M5 (h5.fO l1)
theorem aI0 {A B:List Hv} {y:Hv} (oT:cS w0 F t (x4 bh bi ma) x5) (hv:eB S I (A ++ y::B) tm) (eT:eD I y.h≠[])
  (hfa:dM (Value.int .i64) bZ S.at_ oa) (hfe:dM bZ mK S.en oe) (h:HO w0 F M ((ma,oa)::(me,oe)::os) (QA q a t bh bi me S Q))
  (hK:∀ M' β x,x∈I→x.h = y.h→(∀ z∈I,z.h = y.h→z.c≠x.c→Bf x.held z.held)→AS.Sm (dO I.length) S.α β→β.Inv→HO w0 F M' ((ma,oa)::(me,oe)::os) (QA q a t bh bi me { S with α:=β } Q)→R (.agg (lL 0 0 0 x.r.1 x.r.2 x.e.1 x.e.2 0).toArray) M') :
  C PP w0 Id.mI #[.pointer (some ⟨q,0,none⟩),.agg #[.int .i64 y.h.1,.int .i64 y.h.2],.bool false] R M:=by
 have hyM:y∈A ++ y::B:=by simp
 obtain ⟨hl1,hl2⟩:=hv.vQ
 have hfy:=hv.hf y hyM
 have hgm:=vJ I y.h
 have hpos:((eD I y.h).length:Int)≠0:=fun e=>eT (List.eq_nil_of_length_eq_zero (by omega))
 apply mI.go
 unfold mI.T aH
 refine sZ h fun b1 F1 M1 l1 lm1 o1 h1=>?_
 have oT1:=oT.le l1
 refine jQ h1 fun b3 M2 lm2 h2'=>?_
 have h2:=h2'.aX aA.dp
 simp only [aT,add_eq,Nat.zero_add,Q2 h2.qo,aC,bN,fF a9 (o1.le h2.fr),aZ,aW,aL,aU]
 refine qI oT1 h2 (by omega) hfy fun M3 h3=>?_
 simp only [cD,aW,aL,aU]
 rw [cB,if_pos rfl,fJ,if_neg hpos,Bool.not_false,dZ]
 simp only [aT,add_eq,Nat.zero_add,Q2 h3.qo,Q1 h3.qo,aC,bN]
 have hfin:∀ (x:cH),x∈eD I y.h→(∀ z∈eD I y.h,z.1≠x.1→Bf x z)→∃ u∈I,u.h = y.h∧u.held = x∧S.at_ (x.1:Int) = some u.r∧(∀ z∈I,z.h = y.h→z.c≠u.c→Bf u.held z.held):=by
  intro x hx hb
  obtain ⟨u,hu,e1,e2⟩:=q8.1 hx
  refine ⟨u,hu,e1,e2,by rw [←e2];exact hv.at1 u hu,fun z hz ez hc=>?_⟩
  rw [e2]
  exact hb z.held (q8.2 ⟨z,hz,ez,rfl⟩) (by rw [←e2];exact hc)
 refine ⟨?_,?_⟩
 rotate_left
 refine jQ h3 fun b4 M4 lm4 h4=>?_
 refine ⟨Q2 h4.h.right.right.right.bC,Q1 h4.h.right.right.right.bC,?_⟩
 obtain ⟨F5,hA,l5,back5⟩:=(h4.aX aA.dp).vG
 refine aGj hA (hv.hs.kh y hyM) eT fun x hx hb M5 β hB hs=>?_
 have hβ:=hB.inv
 obtain ⟨u,hu,hu1,hu2,hu3,hu4⟩:=hfin x hx hb
 have h5:=(back5 M5 _ hB).aX aA.up
 rw [aL]
 refine ⟨Q2 h5.h.right.right.right.bC,?_⟩
 refine aDj oT1 h5 List.mem_cons_self hfa hu3 fun M6 h6=>?_
 simp only [cD,aW,aZ,aL,bU,aU]
 refine xQ a9 (by rfl) iS h6 fun F7 M7 l7 o7 h7=>?_
 rotate_left
 obtain ⟨F5,hA,l5,back5⟩:=h3.vG
 refine aGj hA (hv.hs.kh y hyM) eT fun x hx hb M5 β hB hs=>?_
 have hβ:=hB.inv
 obtain ⟨u,hu,hu1,hu2,hu3,hu4⟩:=hfin x hx hb
 have h5:=back5 M5 _ hB
 rw [aL]
 refine ⟨Q2 h5.h.right.right.bC,?_⟩
 refine ⟨?_,?_⟩
 rotate_left
 refine jQ h5 fun b4 M6' lm6 h6'=>?_
 refine ⟨Q2 h6'.h.right.right.right.bC,?_⟩
 refine aDj oT1 h6' List.mem_cons_self hfa hu3 fun M6 h6=>?_
 simp only [cD,aW,aZ,aL,bU,aU]
 refine xQ a9 (by rfl) iS h6 fun F7 M7 l7 o7 h7=>?_
 rotate_left 2
 refine aDj oT1 h5 List.mem_cons_self hfa hu3 fun M6 h6=>?_
 simp only [cD,aW,aZ,aL,bU,aU]
 refine kC a9 (by rfl) iS h6 fun b4 F7 M7 l7 o7 h7=>?_
 all_goals
  have hbl:(aJ PP w0).oF aA4 [(2,.agg #[.int .i64 u.r.1,.int .i64 u.r.2]),(3,.agg #[.int .i64 u.e.1,.int .i64 u.e.2])] = some (.agg (lL 0 0 0 u.r.1 u.r.2 u.e.1 u.e.2 0).toArray):=by kernel_rfl
  simp only [aT,add_eq,Nat.zero_add,Q3 h7.h.right.right.bC,fF a9 (o7.le h7.fr),aC,aZ,aW,aL,aU,lkE (me:=me) h7 (by simp) hfe (hv.en1 u hu),hbl]
  refine jV qM (by rfl) eC (h7.aX aA.up) fun M8 h8=>?_
  exact hK M8 β u hu hu1 hu4 (hs.mono (qC hgm)) hβ ((h8.fO l7).fO l1)
theorem aIt {A B:List Hv} {y:Hv} (oT:cS w0 F t (x4 bh bi ma) x5) (hv:eB S I (A ++ y::B) tm) (eT:eD I y.h≠[])
  (hfa:dM (Value.int .i64) bZ S.at_ oa) (hfe:dM bZ mK S.en oe) (h:HO w0 F M ((ma,oa)::(me,oe)::os) (QA q a t bh bi me S Q))
  (hK:∀ M' S' oa' oe' y' IA x IB,I = IA ++ x::IB→x.h = y.h→(∀ z∈I,z.h = y.h→z.c≠x.c→Bf x.held z.held)→dM (Value.int .i64) bZ S'.at_ oa'→dM bZ mK S'.en oe'→HO w0 F M' ((ma,oa')::(me,oe')::os) (QA q a t bh bi me S' Q) →
   y'.h = y.h→y'.k = y.k→eB S' (IA ++ IB) (A ++ y'::B) (tm + 1)→S'.most = S.most→S'.next = S.next→S'.ip.pl = S.ip.pl.gK x.r.1.toNat→(∃ Sx Lx d,AS.lT Sx Lx d (dO I.length + 1) S.α S'.α) →
   R (.agg (lL 0 0 0 x.r.1 x.r.2 x.e.1 x.e.2 0).toArray) M') :
  C PP w0 Id.mI #[.pointer (some ⟨q,0,none⟩),.agg #[.int .i64 y.h.1,.int .i64 y.h.2],.bool true] R M:=by
 have hyM:y∈A ++ y::B:=by simp
 obtain ⟨hl1,hl2⟩:=hv.vQ
 obtain ⟨hl3,hl4,hl5⟩:=hv.ipl
 have hfy:=hv.hf y hyM
 have hgm:=vJ I y.h
 have hpos:((eD I y.h).length:Int)≠0:=fun e=>eT (List.eq_nil_of_length_eq_zero (by omega))
 have hlen:=hv.len
 have hm2:=hv.m2
 have hw1:lN (((eD I y.h).length:Int) - 1) = ((eD I y.h).length:Int) - 1:=aQ (by omega)
 apply mI.go
 unfold mI.T aH
 refine sZ h fun b1 F1 M1 l1 lm1 o1 h1=>?_
 have oT1:=oT.le l1
 refine jQ h1 fun b3 M2 lm2 h2'=>?_
 have h2:=h2'.aX aA.dp
 simp only [aT,add_eq,Nat.zero_add,Q2 h2.qo,aC,bN,fF a9 (o1.le h2.fr),aZ,aW,aL,aU]
 refine qI oT1 h2 (by omega) hfy fun M3 h3=>?_
 simp only [cD,aW,aL,aU]
 rw [cB,if_pos rfl,fJ,if_neg hpos,Bool.not_true,mE]
 simp only [aT,add_eq,Nat.zero_add,Q1 h3.qo,aC,bN]
 obtain ⟨F5,hA,l5,back5⟩:=h3.vG
 refine aKg hA (hv.hs.kh y hyM) eT (by omega) fun x0 L' hP hb n hn M5 β r' N' hB hkh hless hxL heff=>?_
 have hβ:=hB.inv
 obtain ⟨x,hx,hxy,hxe⟩:=q8.1 (hP.mem_iff.2 List.mem_cons_self)
 have hbx:∀ z∈I,z.h = y.h→z.c≠x.c→Bf x.held z.held:=fun z hz ez hc=>by
  rw [hxe]
  exact hb z.held (q8.2 ⟨z,hz,ez,rfl⟩) (by rw [←hxe];exact hc)
 have hc0:x0.1 = x.c:=by rw [←hxe];rfl
 rw [hc0] at hxL ⊢
 obtain ⟨IA,IB,hI⟩:=List.append_of_mem hx
 rw [←hxe] at hP
 have hjx:=hv.jf x hx
 have h5:=back5 M5 _ hB
 simp only [cD,aW,aL,aU,aT,add_eq,Nat.zero_add,Q2 h5.h.right.right.bC,aC,bN]
 refine aDj oT1 h5 List.mem_cons_self hfa (hv.at1 x hx) fun M6 h6=>?_
 simp only [cD,aW,aZ,aL,bU,aU]
 refine kC a9 (by rfl) iS h6 fun b4 F7 M7 l7 o7 h7=>?_
 have oT7:=oT1.le l7
 have o17:=o1.le l7
 simp only [aT,add_eq,Nat.zero_add,Q2 h7.h.right.right.bC,aC,bN,fF a9 (o17.le h7.fr),aZ,aW,aL,aU]
 refine w7 oT7 h7 (by omega) hfy fun M9 h9=>?_
 rw [hw1] at h9
 simp only [aL,fF a9 (o7.le h9.fr),aC,aZ,aW,aU]
 refine aDK (S:=⟨S.most,S.next,β,S.hp.put y.h.1.toNat (y.k,r',((eD I y.h).length:Int) - 1),S.ip,S.at_,S.en⟩) (r:=x.r) (e:=x.e) oT7 hl3 hl4 hfa hfe hjx (hv.en1 x hx) h9 fun M10 oa' oe' γ hfa' hfe' hs hγ h10=>?_
 subst hI
 have hv':=hv.remove hxy hP hkh hless hxL hn heff hβ hs hγ
 have hbl:(aJ PP w0).oF aA4 [(2,.agg #[.int .i64 x.r.1,.int .i64 x.r.2]),(3,.agg #[.int .i64 x.e.1,.int .i64 x.e.2])] = some (.agg (lL 0 0 0 x.r.1 x.r.2 x.e.1 x.e.2 0).toArray):=by kernel_rfl
 simp only [mK,aZ,aW,aL,aU,hbl,aC]
 refine ⟨fF a9 (o7.le h10.fr),?_⟩
 refine jV qM (by rfl) eC (h10.aX aA.up) fun M11 h11=>?_
 obtain ⟨ka,ka1,ka2,ka3⟩:=PS.bK hjx
 have hxl:β.live x.c = true:=by
  have hxn:x.c≠n:=fun e=>by
   have hyn:=(hv.hs.kh y hyM).nd
   exact (List.nodup_append.1 hyn).2.2 n hn x.c (List.mem_map.2 ⟨x.held,hP.mem_iff.2 List.mem_cons_self,rfl⟩) e.symm
  rw [heff.live _ hxn];exact hv.z1 hx
 have hgv:β.xA (x.c:Int) = β.lI x.c:=AS.vW hxl
 have hm:dO (eD (IA ++ x::IB) y.h).length≤dO (IA ++ x::IB).length:=qC (by omega)
 have e2:AS.lT (fun _=>True) (fun _=>True) (-1 + -1 + 0) (dO (IA ++ x::IB).length + 0 + 1) S.α γ :=
  ((heff.mono (fun _ _=>trivial) (fun c hc=>trivial) hm).trans (AS.p5 hβ hxl trivial)).trans (by rw [←hgv];exact hs.pZ)
 refine hK M11 _ oa' oe' { y with root:=r',N:=N' } IA x IB rfl hxy hbx hfa' hfe' ((h11.fO l7).fO l1) rfl rfl hv' rfl rfl (PS.aDh _ _ ?_) ⟨_,_,_,e2.mono (fun _ h=>h) (fun _ h=>h) (by omega)⟩
 rw [ka1,Int.toNat_natCast]
 exact (List.getElem?_eq_some_iff.1 ka2).1
end
end HL
namespace HL
section
variable {w0:World} {F M:Mem} {R:VP} {os:vA} {q a t bh bi ma me:Nat} {S:QS} {Q:cI} {I:List nH} {H:List Hv} {tm most next:Int} {oa oe:Obj}
theorem aCS {IA IB:List nH} {x:nH} {A B:List Hv} {y:Hv} {op k g1' g2' p1 p2 key:Int} (oT:cS w0 F t (x4 bh bi ma) x5) (hv:eB S (IA ++ x::IB) (A ++ y::B) tm) (hxy:x.h = y.h) (hkey:key≤x.e.1)
  (hfa:dM (Value.int .i64) bZ S.at_ oa) (hfe:dM bZ mK S.en oe) (h:HO w0 F M ((ma,oa)::(me,oe)::os) (QA q a t bh bi me S Q))
  (hK:∀ M' S' oe' y',dM (Value.int .i64) bZ S'.at_ oa→dM bZ mK S'.en oe'→HO w0 F M' ((ma,oa)::(me,oe')::os) (QA q a t bh bi me S' Q) →
   y'.h = y.h→y'.k = y.k→eB S' (IA ++ { x with e:=(key,x.e.2) }::IB) (A ++ y'::B) tm→S'.most = S.most→S'.next = S.next→S'.ip = S.ip→(∃ Sx Lx d,AS.lT Sx Lx d (2 + dO (IA ++ x::IB).length) S.α S'.α) →
   R (.agg (lL 0 0 0 0 0 key x.e.2 0).toArray) M') :
  C PP w0 Id.iB #[.pointer (some ⟨q,0,none⟩),.agg (nK op k g1' g2' p1 p2 x.r.1 x.r.2 key).toArray] R M:=by
 have hyM:y∈A ++ y::B:=by simp
 have hxM:x∈IA ++ x::IB:=by simp
 obtain ⟨hl1,hl2⟩:=hv.vQ
 obtain ⟨hl3,hl4,hl5⟩:=hv.ipl
 have hfy:=hv.hf y hyM
 have hjx:=hv.jf x hxM
 have hfy':S.hp.find x.h.1 x.h.2 = some (y.k,y.root,((eD (IA ++ x::IB) y.h).length:Int)):=by rw [hxy];exact hfy
 have hP:(eD (IA ++ x::IB) y.h).Perm ((x.c,x.e)::eD (IA ++ IB) y.h):=by rw [←hxy];exact zQ IA IB x
 have hkh0:=(hv.hs.kh y hyM).perm hP (List.Perm.refl _)
 obtain ⟨il,i7,i8⟩:=hkh0.item List.mem_cons_self
 have hgm:=vJ (IA ++ x::IB) y.h
 have hPl:=hP.length_eq
 rw [List.length_cons] at hPl
 apply iB.go
 unfold iB.T aH
 refine sZ h fun b1 F1 M1 l1 lm1 o1 h1=>?_
 have oT1:=oT.le l1
 refine jQ h1 fun b3 M2 lm2 h2'=>?_
 have h2:=h2'.aX aA.dp
 have hR1:∀ {M':Mem} {e:TypeId},cS w0 M' b1 (nK op k g1' g2' p1 p2 x.r.1 x.r.2 key) e→(aJ PP w0).ld 33 ⟨b1,6,none⟩ M' = some (.agg #[.int .i64 x.r.1,.int .i64 x.r.2]):=fun o=>kZ (vs:=[.int .i64 x.r.1,.int .i64 x.r.2]) a9 o (q9 rfl rfl)
 have hR2:∀ {M':Mem} {e:TypeId},cS w0 M' b1 (nK op k g1' g2' p1 p2 x.r.1 x.r.2 key) e→(aJ PP w0).ld 2 ⟨b1,8,none⟩ M' = some (.int .i64 key):=fun o=>mB W.c2 o rfl
 simp only [aT,add_eq,Nat.zero_add,Q2 h2.qo,aC,bN,hR1 (o1.le h2.fr),aZ,aW,aL,aU]
 refine aEf oT1 (h2.aX aA.dY) (by omega) hjx fun M3 h3'=>?_
 have h3:=h3'.aX aA.dY
 simp only [cD,aW,aL,aU,aT,add_eq,Nat.zero_add,Q3 h3.qo,aC,hR1 (o1.le h3.fr),aZ,lkE (me:=me) h3 (by simp) hfe (hv.en1 x hxM)]
 refine jQ h3 fun b4 M4 lm4 h4=>?_
 refine ⟨Q3 h4.h.right.right.right.bC,hR1 (o1.le h4.fr),lkE (me:=me) h4 (by simp) hfe (hv.en1 x hxM),?_⟩
 refine stW aBY (by rfl) iS h4 fun M5 h5'=>?_
 rw [cB,if_pos rfl]
 have e5:=h5'.h.bC
 have h5:=h5'.aX aA.dp
 simp only [aT,add_eq,Nat.zero_add,hR2 (o1.le h5.fr),mB W.c2 e5 (o:=0) rfl,aC,aL]
 rw [cR,if_neg (by omega)]
 simp only [aT,add_eq,Nat.zero_add,Q2 h5.qo,aC,bN,hR1 (o1.le h5.fr),aZ,aW,aL,aU]
 refine ⟨?_,?_⟩
 rotate_left
 refine jQ h5 fun b6 M6' lm6 h6'=>?_
 refine ⟨Q2 h6'.h.right.right.right.bC,hR1 (o1.le h6'.fr),?_⟩
 refine aCY oT1 ((h6'.aX aA.dY).aX fun h=>(h.oG fun _ _ h=>h.dY).dY) (by omega) hjx fun M6 h6=>?_
 simp only [cD,aW,aZ,aL,aU]
 refine xQ a9 (by rfl) iS (h6.aX fun h=>(h.dY.oG fun _ _ h=>h.dY).dY) fun F7 M7 l7 o7 h7=>?_
 rotate_left
 refine aCY oT1 (h5.aX aA.dY) (by omega) hjx fun M6 h6=>?_
 simp only [cD,aW,aZ,aL,aU]
 refine kC a9 (by rfl) iS (h6.aX aA.dY) fun b6 F7 M7 l7 o7 h7=>?_
 all_goals
  have oT7:=oT1.le l7
  have o17:=o1.le l7
  simp only [aT,add_eq,Nat.zero_add,Q2 h7.h.right.right.bC,aC,bN,fF a9 (o7.le h7.fr),aZ,aW,aL,aU]
  refine qI oT7 h7 (by omega) hfy' fun M8 h8=>?_
  simp only [cD,aW,aL,aU,aT,add_eq,Nat.zero_add,Q1 h8.h.right.right.bC,aC,bN,hR2 (o17.le h8.fr)]
  obtain ⟨F9,hA,l9,back9⟩:=h8.vG
  have hg7:S.α.jW (x.c:Int) 7 = x.e.1:=by rw [show (7:Int) = ((7:Nat):Int) from rfl,AS.iV il (by omega)];exact i7
  refine aIl hA (fun e0=>absurd e0 (by rw [hg7];omega)) fun _ M9 hB=>?_
  rw [show S.α.tick.mC (x.c:Int) 7 key = S.α.tick.put x.c 7 key from AS.cU (α:=S.α.tick) (f:=7) il (by omega) _] at hB
  have h9:=back9 M9 _ hB
  simp only [bU,aT,add_eq,Nat.zero_add,Q2 h9.h.right.right.bC,Q1 h9.h.right.right.bC,aC,bN,fF a9 (o7.le h9.fr),aZ,aW,aL,aU]
  obtain ⟨F10,hA10,l10,back10⟩:=h9.vG
  have hs1:AS.Sm (1 + 1) (S.α.put x.c 7 key) (S.α.tick.put x.c 7 key).tick:=(AS.aO.put x.c 7 _).trans AS.aO
  refine aHR (e':=(key,x.e.2)) hA10 hkh0 hkey rfl hs1 fun M10 β r' N' hC hkh hless heff=>?_
  have hβ:=hC.inv
  have h10:=back10 M10 _ hC
  rw [aL]
  refine ⟨Q2 h10.h.right.right.bC,fF a9 (o7.le h10.fr),?_⟩
  refine w7 oT7 h10 (by omega) hfy' fun M11 h11=>?_
  simp only [aL,hR2 (o17.le h11.fr),aC]
  refine aDq (o:=0) W.c2 (by simp) rfl rfl (h11.aX aA.up) fun M12 h12=>?_
  change HO w0 F7 M12 _ (star (bA b4 [.int .i64 key,.int .i64 x.e.2] _) _) at h12
  have q12:=h12.h.right.right.right.bC
  simp only [aT,add_eq,Nat.zero_add,Q3 q12,aC,hR1 (o17.le h12.fr),aZ,aW,aL,aU,fF aBY h12.h.bC]
  have h12p:=h12.perm (List.Perm.swap _ _ _)
  obtain ⟨g1,g2⟩:=h12p.get List.mem_cons_self
  refine aGr (kf:=bZ) (vf:=mK) (k:=x.r) (v:=(key,x.e.2)) Tryz.underlying93 nY g1 g2 hfe fun oe' hfe'=>?_
  have h13:=(h12p.set (o':=oe')).perm (List.Perm.swap _ _ _)
  generalize Mem.set M12 me _ = M13 at h13 ⊢
  have hbl:(aJ PP w0).oF aA4 [(3,.agg #[.int .i64 key,.int .i64 x.e.2])] = some (.agg (lL 0 0 0 0 0 key x.e.2 0).toArray):=by kernel_rfl
  simp only [fF aBY h13.h.bC,aC,aZ,aW,aL,aU,hbl]
  refine jV qM (by rfl) eC ((h13.aX fun h=>h.right).aX aA.up) fun M14 h14=>?_
  have hv':=hv.aIz hxy hP hs1 hkh hless heff hβ
  have hm:dO ((eD (IA ++ IB) y.h).length + 1)≤dO (IA ++ x::IB).length:=qC (by omega)
  have e2:AS.lT (fun _=>True) (fun _=>True) 0 (0 + (1 + 1) + dO (IA ++ x::IB).length) S.α β :=
   ((((AS.Sm.refl (α:=S.α)).pZ (S:=fun _=>True) (L:=fun _=>True)).put (f:=7) (v:=key) (c:=x.c) trivial).trans hs1.pZ).trans (heff.mono (fun _ _=>trivial) (fun _ _=>trivial) hm)
  refine hK M14 ⟨S.most,S.next,β,S.hp.put x.h.1.toNat (y.k,r',((eD (IA ++ x::IB) y.h).length:Int)),S.ip,S.at_,gB S.en x.r (some (key,x.e.2))⟩ oe' { y with root:=r',N:=N' } hfa hfe' ((h14.fO l7).fO l1) rfl rfl (by rw [show x.h.1.toNat = y.h.1.toNat from by rw [hxy]];exact hv') rfl rfl rfl ⟨_,_,_,e2.mono (fun _ h=>h) (fun _ h=>h) (by omega)⟩
theorem aJJ {h o:dN} (eT:h≠o) (I:List nH):(eD I h).length + (eD I o).length≤I.length:=by
 have:=(aDf eT I).length_eq
 rw [List.length_append] at this
 have h2:=vJ (I.map (vX o h)) h
 rw [List.length_map] at h2
 omega
theorem aH9 {B:List Hv} {y y2:Hv} (oT:cS w0 F t (x4 bh bi ma) x5) (hv:eB S I (y::y2::B) tm) (htm:tm≤900000) (hkk:y2.k = y.k)
  (h:HO w0 F M os (QA q a t bh bi me S Q))
  (hK:∀ M' S' y',HO w0 F M' os (QA q a t bh bi me S' Q)→y'.h = y.h→y'.k = y.k→eB S' (I.map (vX y2.h y.h)) (y'::B) tm→S'.most = S.most→S'.next = S.next→S'.ip.pl = S.ip.pl→S'.at_ = S.at_→S'.en = S.en→(∃ Sx Lx d,AS.lT Sx Lx d (dO I.length) S.α S'.α) →
   R (.agg (lL 0 0 0 0 0 0 0 (((eD I y.h).length:Int) + (eD I y2.h).length)).toArray) M') :
  C PP w0 Id.pL #[.pointer (some ⟨q,0,none⟩),.agg #[.int .i64 y.h.1,.int .i64 y.h.2],.agg #[.int .i64 y2.h.1,.int .i64 y2.h.2]] R M:=by
 have hyM:y∈y::y2::B:=by simp
 have hy2M:y2∈y::y2::B:=by simp
 obtain ⟨hl1,hl2⟩:=hv.vQ
 obtain ⟨hl3,hl4,hl5⟩:=hv.ipl
 have hfy:=hv.hf y hyM
 have hfy2:=hv.hf y2 hy2M
 rw [hkk] at hfy2
 have fW:=hv.fW
 rw [List.map_cons,List.map_cons,List.nodup_cons] at fW
 have eT:y.h≠y2.h:=fun e=>fW.1 (by rw [e];simp)
 have hgm:=aJJ eT I
 have hlen:=hv.len
 have hm2:=hv.m2
 have hgi:∀ x∈S.ip.l,0≤x.g∧x.g≤1000000:=fun x hx=>by have:=hv.ig x hx;omega
 have hw1:lN (((eD I y.h).length:Int) + (eD I y2.h).length) = ((eD I y.h).length:Int) + (eD I y2.h).length:=aQ (by omega)
 apply pL.go
 unfold pL.T aH
 refine sZ h fun b1 F1 M1 l1 lm1 o1 h1=>?_
 refine sZ h1 fun b2 F2 M2 l2 lm2 o2 h2=>?_
 have oT2:=(oT.le l1).le l2
 have o12:=o1.le l2
 refine jQ h2 fun b3 M3 lm3 h3'=>?_
 have h3:=h3'.aX aA.dp
 simp only [aT,add_eq,Nat.zero_add,Q2 h3.qo,aC,bN,fF a9 (o12.le h3.fr),aZ,aW,aL,aU]
 refine qI oT2 h3 (by omega) hfy fun M4 h4=>?_
 simp only [cD,aW,aL,aU,aT,add_eq,Nat.zero_add,Q2 h4.qo,aC,bN,fF a9 (o2.le h4.fr),aZ]
 refine qI oT2 h4 (by omega) hfy2 fun M5 h5=>?_
 simp only [cD,aW,aL,aU,aT,add_eq,Nat.zero_add,Q2 h5.qo,aC,bN,fF a9 (o12.le h5.fr),fF a9 (o2.le h5.fr),aZ]
 refine aHW oT2 h5 hl1 hl2 hfy hfy2 (fun e=>eT (Prod.ext e.1 e.2)) hl3 hgi hv.ig1 fun M6 h6=>?_
 rw [aL,cB,if_pos rfl]
 simp only [aT,add_eq,Nat.zero_add,Q2 h6.h.right.right.bC,Q1 h6.h.right.right.bC,aC,bN,fF a9 (o12.le h6.fr),aZ,aW,aL,aU]
 obtain ⟨F7,hA,l7,back7⟩:=h6.vG
 have hk1:=hv.hs.kh y hyM
 have hk2:=hv.hs.kh y2 hy2M
 rw [hkk] at hk2
 refine aIB hA hk1 hk2 (List.nodup_append.2 ⟨hk1.nd,hk2.nd,fun c hc d hd e=>hv.hs.d1 y hyM y2 hy2M eT c hc (e▸hd)⟩) (by omega) fun M7 β r' N' hB hkh hsub heff=>?_
 have hβ:=hB.inv
 have h7:=back7 M7 _ hB
 rw [aL]
 refine ⟨Q2 h7.h.right.right.bC,fF a9 (o12.le h7.fr),?_⟩
 obtain ⟨k2,k21,k22,k23⟩:=PS.bK hfy2
 have hk2n:y2.h.1.toNat = k2:=by rw [k21,Int.toNat_natCast]
 have hgl:=PS.wS (p:=S.hp) z3 k22
 have hfg:(S.hp.gK z3 y2.h.1.toNat).find y.h.1 y.h.2 = some (y.k,y.root,((eD I y.h).length:Int)):=by
  rw [hk2n]
  exact PS.xU z3 k22 _ _ _ (fun e=>aIU hv hy2M hyM eT (by rw [e,k21])) hfy
 refine w7 oT2 h7 (by rw [hk2n,hgl.1,List.length_set];omega) hfg fun M8 h8=>?_
 rw [hw1] at h8
 have hbl:(aJ PP w0).oF aA4 [(4,.int .i64 (((eD I y.h).length:Int) + (eD I y2.h).length))] = some (.agg (lL 0 0 0 0 0 0 0 (((eD I y.h).length:Int) + (eD I y2.h).length)).toArray):=by kernel_rfl
 simp only [aL,hw1,hbl,aC,aZ,aW,aU]
 refine jV qM (by rfl) eC (h8.aX aA.up) fun M9 h9=>?_
 have hv':=hv.mG hkh hsub heff hβ
 have hm:dO ((eD I y.h).length + (eD I y2.h).length)≤dO I.length:=qC hgm
 exact hK M9 ⟨S.most,S.next,β,(S.hp.gK z3 y2.h.1.toNat).put y.h.1.toNat (y.k,r',((eD I y.h).length:Int) + (eD I y2.h).length),reh S.ip (oX S.ip y2.h.1 y2.h.2) y.h.1 y.h.2,S.at_,S.en⟩ { y with root:=r',N:=N' } ((h9.fO l2).fO l1) rfl rfl hv' rfl rfl (aK6 _ _ _ _) rfl rfl ⟨_,_,_,heff.mono (fun _ h=>h) (fun _ h=>h) hm⟩
end
end HL
namespace HL
def rS (S S':QS) (k:Int):Prop:=0≤S.α.steps∧S.α.steps≤9223372036854775807→S'.α.steps≤9223372036854775807∧S.α.steps≤S'.α.steps∧S'.α.steps≤S.α.steps + k
theorem rS.trans {S1 S2 S3:QS} {k j:Int} (h:rS S1 S2 k) (h2:rS S2 S3 j):rS S1 S3 (k + j):=fun h0=>by
 have h1:=h h0
 have h3:=h2 ⟨by omega,h1.1⟩
 omega
theorem rS.of {S S':QS} {k:Int} {β:AS} (hs:AS.Sm 0 S.α β) (h:∃ Sx Lx d,AS.lT Sx Lx d k β S'.α):rS S S' k:=fun h0=>by
 obtain ⟨Sx,Lx,d,h⟩:=h
 have h1:=(hs.pZ (S:=fun _=>True) (L:=fun _=>True)).steps h0
 have h3:=h.steps ⟨by omega,h1.1⟩
 omega
section
variable {w0:World} {F M:Mem} {R:VP} {os:vA} {q a t bh bi ma me:Nat} {S:QS} {Q:cI} {I:List nH} {H:List Hv} {tm most next:Int} {oa oe:Obj}
theorem aCn (h:HO w0 F M os (QA q a t bh bi me S Q)) (hK:R (.int .i64 S.α.steps) M):C PP w0 Id.mS #[.pointer (some ⟨q,0,none⟩)] R M:=by
 apply mS.go
 unfold mS.T aH
 simp only [aT,add_eq,Nat.zero_add,Q1 h.qo,aC,bN]
 obtain ⟨F1,hA,l1,back1⟩:=h.vG
 refine aD6 hA fun p hp=>?_
 rw [bN]
 refine hp _ ?_
 rw [aL]
 exact hK
theorem uR {k g1 g2 p1 p2 s1 s2 key:Int} (oT:cS w0 F t (x4 bh bi ma) x5) (hv:eB S I H tm) (htm:tm≤900000) (hk1:1≤k) (hk3:k≤3) (hH:H.length < 64) (h:HO w0 F M os (QA q a t bh bi me S Q))
  (hK:∀ M' S' r,HO w0 F M' os (QA q a t bh bi me S' Q)→eB S' I (H ++ [⟨r,k, -1,[]⟩]) (tm + 1)→eD I r = []→S'.most = S.most→S'.next = S.next→S'.ip = S.ip→S'.at_ = S.at_→S'.en = S.en→rS S S' 0→R (.agg (lL 0 r.1 r.2 0 0 0 0 0).toArray) M') :
  C PP w0 Id.iU #[.pointer (some ⟨q,0,none⟩),.agg (nK 1 k g1 g2 p1 p2 s1 s2 key).toArray] R M:=by
 apply iU.go
 unfold iU.T aH
 refine sZ h fun b1 F1 M1 l1 lm1 o1 h1=>?_
 have oT1:=oT.le l1
 refine jQ h1 fun b3 M2 lm2 h2'=>?_
 have h2:=h2'.aX aA.dp
 simp only [aT,add_eq,Nat.zero_add,Q1 h2.qo,aC,bN]
 obtain ⟨F3,hA3,l3,mA⟩:=h2.vG
 refine iT hA3 fun p hp=>?_
 rw [bN]
 refine hp _ fun M3 β hB3 hs=>?_
 have hβ:=hB3.inv
 have hvβ:=hv.sm hs hβ
 have h3:=mA M3 _ hB3
 simp only [mB W.c3 (o1.le h3.fr) (o:=0) rfl,aC,aL]
 rw [fJ,if_pos rfl]
 obtain ⟨hl1,hl2⟩:=hv.vQ
 obtain ⟨i,hat⟩:=hv.aMG hH
 obtain ⟨hv',hnil⟩:=hvβ.make hk1 hk3 hat
 have hgi:∀ x∈S.hp.l,0≤x.g∧x.g≤1000000:=fun x hx=>by have:=hv.hg x hx;omega
 simp only [aT,add_eq,Nat.zero_add,Q2 h3.h.right.right.bC,mB W.c3 (o1.le h3.fr) (o:=1) rfl,aC,aL,bN]
 refine ⟨?_,?_⟩
 rotate_left
 refine jQ h3 fun b4 M4' lm4 h4'=>?_
 refine ⟨Q2 h4'.h.right.right.right.bC,mB W.c3 (o1.le h4'.fr) (o:=1) rfl,?_⟩
 refine aDz oT1 (h4'.aX aA.dY) ⟨hk1,by omega⟩ hv.ho hl1 hl2 hgi hat fun M4 h4=>?_
 simp only [cD,aW,aZ,aL,aU]
 refine xQ a9 (by rfl) iS (h4.aX aA.dY) fun F5 M5 l5 o5 h5=>?_
 rotate_left
 refine aDz oT1 h3 ⟨hk1,by omega⟩ hv.ho hl1 hl2 hgi hat fun M4 h4=>?_
 simp only [cD,aW,aZ,aL,aU]
 refine kC a9 (by rfl) iS h4 fun b4 F5 M5 l5 o5 h5=>?_
 all_goals
  have hbl:(aJ PP w0).oF aA4 [(1,.agg #[.int .i64 (i:Int),.int .i64 (S.hp.gen i)]),(0,.int .i64 0)] = some (.agg (lL 0 i (S.hp.gen i) 0 0 0 0 0).toArray):=by kernel_rfl
  simp only [fF a9 (o5.le h5.fr),aC,aZ,aW,aL,aU,hbl]
  refine jV qM (by rfl) eC (h5.aX aA.up) fun M9 h9=>?_
  exact hK M9 ⟨S.most,S.next,β,S.hp.take z3 i (k, -1,0),S.ip,S.at_,S.en⟩ ((i:Int),S.hp.gen i) ((h9.fO l5).fO l1) hv' hnil rfl rfl rfl rfl rfl (fun h0=>by have:=(hs.pZ (S:=fun _=>True) (L:=fun _=>True)).steps h0;show β.steps≤_∧_≤β.steps∧β.steps≤_;omega)
theorem vT {A B:List Hv} {y:Hv} {k p1 p2 s1 s2 key:Int} (oT:cS w0 F t (x4 bh bi ma) x5) (hv:eB S I (A ++ y::B) tm) (htm:tm≤900000) (hlen:(I.length:Int) < S.most)
  (hfa:dM (Value.int .i64) bZ S.at_ oa) (hfe:dM bZ mK S.en oe) (h:HO w0 F M ((ma,oa)::(me,oe)::os) (QA q a t bh bi me S Q))
  (hK:∀ M' S' oa' oe' i y',S.ip.at_ = some i→dM (Value.int .i64) bZ S'.at_ oa'→dM bZ mK S'.en oe'→HO w0 F M' ((ma,oa')::(me,oe')::os) (QA q a t bh bi me S' Q) →
   y'.h = y.h→y'.k = y.k→(∃ c,eB S' (I ++ [⟨((i:Int),S.ip.gen i),y.h,c,(key,S.next)⟩]) (A ++ y'::B) (tm + 1))→S'.most = S.most→S'.next = S.next + 1→S'.ip.pl = S.ip.pl.take i 0→rS S S' (3 + dO (I.length + 1)) →
   R (.agg (lL 0 0 0 i (S.ip.gen i) key S.next 0).toArray) M') :
  C PP w0 Id.iU #[.pointer (some ⟨q,0,none⟩),.agg (nK 2 k y.h.1 y.h.2 p1 p2 s1 s2 key).toArray] R M:=by
 apply iU.go
 unfold iU.T aH
 refine sZ h fun b1 F1 M1 l1 lm1 o1 h1=>?_
 have oT1:=oT.le l1
 refine jQ h1 fun b3 M2 lm2 h2'=>?_
 have h2:=h2'.aX aA.dp
 simp only [aT,add_eq,Nat.zero_add,Q1 h2.qo,aC,bN]
 obtain ⟨F3,hA3,l3,mA⟩:=h2.vG
 refine iT hA3 fun p hp=>?_
 rw [bN]
 refine hp _ fun M3 β hB3 hs=>?_
 have hβ:=hB3.inv
 have hvβ:=hv.sm hs hβ
 have h3:=mA M3 _ hB3
 simp only [mB W.c3 (o1.le h3.fr) (o:=0) rfl,aC,aL]
 rw [fJ,if_neg (by decide),fJ,if_pos rfl]
 simp only [fF (vs:=nK 2 k y.h.1 y.h.2 p1 p2 s1 s2 key) aKT (o1.le h3.fr),aC,aZ,aW,aL,aU]
 refine aEJ (S:={ S with α:=β }) oT1 hvβ htm hlen hfa hfe h3 fun M4 S' oa' oe' i y' hat hfa' hfe' h4 e1 e2 hv' e3 e4 e5 hst=>?_
 simp only [aZ,aW,aL,aU]
 refine jV qM (by rfl) eC (h4.aX aA.up) fun M9 h9=>?_
 exact hK M9 S' oa' oe' i y' hat hfa' hfe' (h9.fO l1) e1 e2 hv' e3 e4 e5 (rS.of hs hst)
theorem zU {A B:List Hv} {y:Hv} {k p1 p2 s1 s2 key:Int} (oT:cS w0 F t (x4 bh bi ma) x5) (hv:eB S I (A ++ y::B) tm) (hno:eD I y.h = []) (h:HO w0 F M os (QA q a t bh bi me S Q))
  (hK:∀ M' S',HO w0 F M' os (QA q a t bh bi me S' Q)→eB S' I (A ++ y::B) tm→S'.most = S.most→S'.next = S.next→S'.ip = S.ip→S'.at_ = S.at_→S'.en = S.en→rS S S' 0→R (.agg (lL 27 0 0 0 0 0 0 0).toArray) M') :
  C PP w0 Id.iU #[.pointer (some ⟨q,0,none⟩),.agg (nK 3 k y.h.1 y.h.2 p1 p2 s1 s2 key).toArray] R M:=by
 apply iU.go
 unfold iU.T aH
 refine sZ h fun b1 F1 M1 l1 lm1 o1 h1=>?_
 have oT1:=oT.le l1
 refine jQ h1 fun b3 M2 lm2 h2'=>?_
 have h2:=h2'.aX aA.dp
 simp only [aT,add_eq,Nat.zero_add,Q1 h2.qo,aC,bN]
 obtain ⟨F3,hA3,l3,mA⟩:=h2.vG
 refine iT hA3 fun p hp=>?_
 rw [bN]
 refine hp _ fun M3 β hB3 hs=>?_
 have hβ:=hB3.inv
 have hvβ:=hv.sm hs hβ
 have h3:=mA M3 _ hB3
 simp only [mB W.c3 (o1.le h3.fr) (o:=0) rfl,aC,aL]
 rw [fJ,if_neg (by decide),fJ,if_neg (by decide),fJ,if_pos rfl]
 simp only [add_eq,Nat.zero_add,kZ (o:=2) (vs:=[.int .i64 y.h.1,.int .i64 y.h.2]) a9 (o1.le h3.fr) (q9 rfl rfl),aC,aZ,aW,aL,aU]
 refine aHe (S:={ S with α:=β }) oT1 hvβ hno h3 fun M4 h4=>?_
 simp only [aZ,aW,aL,aU]
 refine jV qM (by rfl) eC (h4.aX aA.up) fun M9 h9=>?_
 exact hK M9 { S with α:=β } (h9.fO l1) hvβ rfl rfl rfl rfl rfl (fun h0=>by have:=(hs.pZ (S:=fun _=>True) (L:=fun _=>True)).steps h0;show β.steps≤_∧_≤β.steps∧β.steps≤_;omega)
theorem yR {A B:List Hv} {y:Hv} {k p1 p2 s1 s2 key:Int} (oT:cS w0 F t (x4 bh bi ma) x5) (hv:eB S I (A ++ y::B) tm) (eT:eD I y.h≠[]) (hfa:dM (Value.int .i64) bZ S.at_ oa) (hfe:dM bZ mK S.en oe) (h:HO w0 F M ((ma,oa)::(me,oe)::os) (QA q a t bh bi me S Q))
  (hK:∀ M' S' x,x∈I→x.h = y.h→(∀ z∈I,z.h = y.h→z.c≠x.c→Bf x.held z.held)→dM (Value.int .i64) bZ S'.at_ oa→dM bZ mK S'.en oe→HO w0 F M' ((ma,oa)::(me,oe)::os) (QA q a t bh bi me S' Q)→eB S' I (A ++ y::B) tm→S'.most = S.most→S'.next = S.next→S'.ip = S.ip→rS S S' (dO I.length)→R (.agg (lL 0 0 0 x.r.1 x.r.2 x.e.1 x.e.2 0).toArray) M') :
  C PP w0 Id.iU #[.pointer (some ⟨q,0,none⟩),.agg (nK 3 k y.h.1 y.h.2 p1 p2 s1 s2 key).toArray] R M:=by
 apply iU.go
 unfold iU.T aH
 refine sZ h fun b1 F1 M1 l1 lm1 o1 h1=>?_
 have oT1:=oT.le l1
 refine jQ h1 fun b3 M2 lm2 h2'=>?_
 have h2:=h2'.aX aA.dp
 simp only [aT,add_eq,Nat.zero_add,Q1 h2.qo,aC,bN]
 obtain ⟨F3,hA3,l3,mA⟩:=h2.vG
 refine iT hA3 fun p hp=>?_
 rw [bN]
 refine hp _ fun M3 β hB3 hs=>?_
 have hβ:=hB3.inv
 have hvβ:=hv.sm hs hβ
 have h3:=mA M3 _ hB3
 simp only [mB W.c3 (o1.le h3.fr) (o:=0) rfl,aC,aL]
 rw [fJ,if_neg (by decide),fJ,if_neg (by decide),fJ,if_pos rfl]
 simp only [add_eq,Nat.zero_add,kZ (o:=2) (vs:=[.int .i64 y.h.1,.int .i64 y.h.2]) a9 (o1.le h3.fr) (q9 rfl rfl),aC,aZ,aW,aL,aU]
 refine aI0 (S:={ S with α:=β }) oT1 hvβ eT hfa hfe h3 fun M4 γ x hx hxy hb hsg hγ h4=>?_
 simp only [aZ,aW,aL,aU]
 refine jV qM (by rfl) eC (h4.aX aA.up) fun M9 h9=>?_
 exact hK M9 { S with α:=γ } x hx hxy hb hfa hfe (h9.fO l1) (hvβ.sm hsg hγ) rfl rfl rfl (rS.of hs ⟨fun _=>True,fun _=>True,0,hsg.pZ⟩)
theorem aDn {A B:List Hv} {y:Hv} {k p1 p2 s1 s2 key:Int} (oT:cS w0 F t (x4 bh bi ma) x5) (hv:eB S I (A ++ y::B) tm) (eT:eD I y.h≠[]) (hfa:dM (Value.int .i64) bZ S.at_ oa) (hfe:dM bZ mK S.en oe) (h:HO w0 F M ((ma,oa)::(me,oe)::os) (QA q a t bh bi me S Q))
  (hK:∀ M' S' oa' oe' y' IA x IB,I = IA ++ x::IB→x.h = y.h→(∀ z∈I,z.h = y.h→z.c≠x.c→Bf x.held z.held)→dM (Value.int .i64) bZ S'.at_ oa'→dM bZ mK S'.en oe'→HO w0 F M' ((ma,oa')::(me,oe')::os) (QA q a t bh bi me S' Q) →
   y'.h = y.h→y'.k = y.k→eB S' (IA ++ IB) (A ++ y'::B) (tm + 1)→S'.most = S.most→S'.next = S.next→S'.ip.pl = S.ip.pl.gK x.r.1.toNat→rS S S' (dO I.length + 1) →
   R (.agg (lL 0 0 0 x.r.1 x.r.2 x.e.1 x.e.2 0).toArray) M') :
  C PP w0 Id.iU #[.pointer (some ⟨q,0,none⟩),.agg (nK 4 k y.h.1 y.h.2 p1 p2 s1 s2 key).toArray] R M:=by
 apply iU.go
 unfold iU.T aH
 refine sZ h fun b1 F1 M1 l1 lm1 o1 h1=>?_
 have oT1:=oT.le l1
 refine jQ h1 fun b3 M2 lm2 h2'=>?_
 have h2:=h2'.aX aA.dp
 simp only [aT,add_eq,Nat.zero_add,Q1 h2.qo,aC,bN]
 obtain ⟨F3,hA3,l3,mA⟩:=h2.vG
 refine iT hA3 fun p hp=>?_
 rw [bN]
 refine hp _ fun M3 β hB3 hs=>?_
 have hβ:=hB3.inv
 have hvβ:=hv.sm hs hβ
 have h3:=mA M3 _ hB3
 simp only [mB W.c3 (o1.le h3.fr) (o:=0) rfl,aC,aL]
 rw [fJ,if_neg (by decide),fJ,if_neg (by decide),fJ,if_neg (by decide),fJ,if_pos rfl]
 simp only [add_eq,Nat.zero_add,kZ (o:=2) (vs:=[.int .i64 y.h.1,.int .i64 y.h.2]) a9 (o1.le h3.fr) (q9 rfl rfl),aC,aZ,aW,aL,aU]
 refine aIt (S:={ S with α:=β }) oT1 hvβ eT hfa hfe h3 fun M4 S' oa' oe' y' IA x IB hI hxy hb hfa' hfe' h4 e1 e2 hv' e3 e4 e5 hst=>?_
 simp only [aZ,aW,aL,aU]
 refine jV qM (by rfl) eC (h4.aX aA.up) fun M9 h9=>?_
 exact hK M9 S' oa' oe' y' IA x IB hI hxy hb hfa' hfe' (h9.fO l1) e1 e2 hv' e3 e4 e5 (rS.of hs hst)
theorem aBj {IA IB:List nH} {x:nH} {A B:List Hv} {y:Hv} {k g1 g2 p1 p2 key:Int} (oT:cS w0 F t (x4 bh bi ma) x5) (hv:eB S (IA ++ x::IB) (A ++ y::B) tm) (hxy:x.h = y.h) (hkey:key≤x.e.1)
  (hfa:dM (Value.int .i64) bZ S.at_ oa) (hfe:dM bZ mK S.en oe) (h:HO w0 F M ((ma,oa)::(me,oe)::os) (QA q a t bh bi me S Q))
  (hK:∀ M' S' oe' y',dM (Value.int .i64) bZ S'.at_ oa→dM bZ mK S'.en oe'→HO w0 F M' ((ma,oa)::(me,oe')::os) (QA q a t bh bi me S' Q) →
   y'.h = y.h→y'.k = y.k→eB S' (IA ++ { x with e:=(key,x.e.2) }::IB) (A ++ y'::B) tm→S'.most = S.most→S'.next = S.next→S'.ip = S.ip→rS S S' (2 + dO (IA ++ x::IB).length) →
   R (.agg (lL 0 0 0 0 0 key x.e.2 0).toArray) M') :
  C PP w0 Id.iU #[.pointer (some ⟨q,0,none⟩),.agg (nK 5 k g1 g2 p1 p2 x.r.1 x.r.2 key).toArray] R M:=by
 apply iU.go
 unfold iU.T aH
 refine sZ h fun b1 F1 M1 l1 lm1 o1 h1=>?_
 have oT1:=oT.le l1
 refine jQ h1 fun b3 M2 lm2 h2'=>?_
 have h2:=h2'.aX aA.dp
 simp only [aT,add_eq,Nat.zero_add,Q1 h2.qo,aC,bN]
 obtain ⟨F3,hA3,l3,mA⟩:=h2.vG
 refine iT hA3 fun p hp=>?_
 rw [bN]
 refine hp _ fun M3 β hB3 hs=>?_
 have hβ:=hB3.inv
 have hvβ:=hv.sm hs hβ
 have h3:=mA M3 _ hB3
 simp only [mB W.c3 (o1.le h3.fr) (o:=0) rfl,aC,aL]
 rw [fJ,if_neg (by decide),fJ,if_neg (by decide),fJ,if_neg (by decide),fJ,if_neg (by decide),fJ,if_pos rfl]
 simp only [fF (vs:=nK 5 k g1 g2 p1 p2 x.r.1 x.r.2 key) aKT (o1.le h3.fr),aC,aZ,aW,aL,aU]
 refine aCS (S:={ S with α:=β }) oT1 hvβ hxy hkey hfa hfe h3 fun M4 S' oe' y' hfa' hfe' h4 e1 e2 hv' e3 e4 e5 hst=>?_
 simp only [aZ,aW,aL,aU]
 refine jV qM (by rfl) eC (h4.aX aA.up) fun M9 h9=>?_
 exact hK M9 S' oe' y' hfa' hfe' (h9.fO l1) e1 e2 hv' e3 e4 e5 (rS.of hs hst)
theorem aDd {IA IB:List nH} {x:nH} {A B:List Hv} {y:Hv} {k g1 g2 p1 p2 key:Int} (oT:cS w0 F t (x4 bh bi ma) x5) (hv:eB S (IA ++ x::IB) (A ++ y::B) tm) (hxy:x.h = y.h)
  (hfa:dM (Value.int .i64) bZ S.at_ oa) (hfe:dM bZ mK S.en oe) (h:HO w0 F M ((ma,oa)::(me,oe)::os) (QA q a t bh bi me S Q))
  (hK:∀ M' S' oa' oe' y',dM (Value.int .i64) bZ S'.at_ oa'→dM bZ mK S'.en oe'→HO w0 F M' ((ma,oa')::(me,oe')::os) (QA q a t bh bi me S' Q) →
   y'.h = y.h→y'.k = y.k→eB S' (IA ++ IB) (A ++ y'::B) (tm + 1)→S'.most = S.most→S'.next = S.next→S'.ip.pl = S.ip.pl.gK x.r.1.toNat→rS S S' (dO (IA ++ x::IB).length + 1) →
   R (.agg (lL 0 0 0 0 0 x.e.1 x.e.2 0).toArray) M') :
  C PP w0 Id.iU #[.pointer (some ⟨q,0,none⟩),.agg (nK 6 k g1 g2 p1 p2 x.r.1 x.r.2 key).toArray] R M:=by
 apply iU.go
 unfold iU.T aH
 refine sZ h fun b1 F1 M1 l1 lm1 o1 h1=>?_
 have oT1:=oT.le l1
 refine jQ h1 fun b3 M2 lm2 h2'=>?_
 have h2:=h2'.aX aA.dp
 simp only [aT,add_eq,Nat.zero_add,Q1 h2.qo,aC,bN]
 obtain ⟨F3,hA3,l3,mA⟩:=h2.vG
 refine iT hA3 fun p hp=>?_
 rw [bN]
 refine hp _ fun M3 β hB3 hs=>?_
 have hβ:=hB3.inv
 have hvβ:=hv.sm hs hβ
 have h3:=mA M3 _ hB3
 simp only [mB W.c3 (o1.le h3.fr) (o:=0) rfl,aC,aL]
 rw [fJ,if_neg (by decide),fJ,if_neg (by decide),fJ,if_neg (by decide),fJ,if_neg (by decide),fJ,if_neg (by decide),fJ,if_pos rfl]
 simp only [add_eq,Nat.zero_add,kZ (o:=6) (vs:=[.int .i64 x.r.1,.int .i64 x.r.2]) a9 (o1.le h3.fr) (q9 rfl rfl),aC,aZ,aW,aL,aU]
 refine aEI (S:={ S with α:=β }) oT1 hvβ hxy hfa hfe h3 fun M4 S' oa' oe' y' hfa' hfe' h4 e1 e2 hv' e3 e4 e5 hst=>?_
 simp only [aZ,aW,aL,aU]
 refine jV qM (by rfl) eC (h4.aX aA.up) fun M9 h9=>?_
 exact hK M9 S' oa' oe' y' hfa' hfe' (h9.fO l1) e1 e2 hv' e3 e4 e5 (rS.of hs hst)
theorem aE4 {B:List Hv} {y y2:Hv} {k s1 s2 key:Int} (oT:cS w0 F t (x4 bh bi ma) x5) (hv:eB S I (y::y2::B) tm) (htm:tm≤900000) (hkk:y2.k = y.k) (h:HO w0 F M os (QA q a t bh bi me S Q))
  (hK:∀ M' S' y',HO w0 F M' os (QA q a t bh bi me S' Q)→y'.h = y.h→y'.k = y.k→eB S' (I.map (vX y2.h y.h)) (y'::B) tm→S'.most = S.most→S'.next = S.next→S'.ip.pl = S.ip.pl→S'.at_ = S.at_→S'.en = S.en→rS S S' (dO I.length) →
   R (.agg (lL 0 0 0 0 0 0 0 (((eD I y.h).length:Int) + (eD I y2.h).length)).toArray) M') :
  C PP w0 Id.iU #[.pointer (some ⟨q,0,none⟩),.agg (nK 7 k y.h.1 y.h.2 y2.h.1 y2.h.2 s1 s2 key).toArray] R M:=by
 apply iU.go
 unfold iU.T aH
 refine sZ h fun b1 F1 M1 l1 lm1 o1 h1=>?_
 have oT1:=oT.le l1
 refine jQ h1 fun b3 M2 lm2 h2'=>?_
 have h2:=h2'.aX aA.dp
 simp only [aT,add_eq,Nat.zero_add,Q1 h2.qo,aC,bN]
 obtain ⟨F3,hA3,l3,mA⟩:=h2.vG
 refine iT hA3 fun p hp=>?_
 rw [bN]
 refine hp _ fun M3 β hB3 hs=>?_
 have hβ:=hB3.inv
 have hvβ:=hv.sm hs hβ
 have h3:=mA M3 _ hB3
 simp only [mB W.c3 (o1.le h3.fr) (o:=0) rfl,aC,aL]
 rw [fJ,if_neg (by decide),fJ,if_neg (by decide),fJ,if_neg (by decide),fJ,if_neg (by decide),fJ,if_neg (by decide),fJ,if_neg (by decide),fJ,if_pos rfl]
 simp only [add_eq,Nat.zero_add,kZ (o:=2) (vs:=[.int .i64 y.h.1,.int .i64 y.h.2]) a9 (o1.le h3.fr) (q9 rfl rfl),kZ (o:=4) (vs:=[.int .i64 y2.h.1,.int .i64 y2.h.2]) a9 (o1.le h3.fr) (q9 rfl rfl),aC,aZ,aW,aL,aU]
 refine aH9 (S:={ S with α:=β }) oT1 hvβ htm hkk h3 fun M4 S' y' h4 e1 e2 hv' e3 e4 e5 e6 e7 hst=>?_
 simp only [aZ,aW,aL,aU]
 refine jV qM (by rfl) eC (h4.aX aA.up) fun M9 h9=>?_
 exact hK M9 S' y' (h9.fO l1) e1 e2 hv' e3 e4 e5 e6 e7 (rS.of hs hst)
end
end HL
namespace HL
abbrev tJt:TypeId:=199
abbrev tJo:TypeId:=138
abbrev jtV (pj mb:Nat):List Value:=[.pointer (some ⟨pj,0,none⟩),.map (some mb)]
def nU (v:V5):Value:=.agg #[.int .i64 v.1,.int .i64 v.2.1,.int .i64 v.2.2.1,.int .i64 v.2.2.2.1,.int .i64 v.2.2.2.2]
theorem fS:gV PP tJo 5 = true:=W.aB1
section
variable {w0:World} {F M:Mem} {R:VP} {os:vA} {jt pj mb:Nat} {P:PS V5} {Q:cI} {ob_:Obj} {oP:dN→Option dN}
theorem J0 (o:cS w0 F jt (jtV pj mb) tJt) (hl:Mem.le F M):(aJ PP w0).ld 196 ⟨jt,0,none⟩ M = some (.pointer (some ⟨pj,0,none⟩)):=mB (by kernel_rfl) (o.le hl) rfl
theorem J1 (o:cS w0 F jt (jtV pj mb) tJt) (hl:Mem.le F M):(aJ PP w0).ld 197 ⟨jt,1,none⟩ M = some (.map (some mb)):=mB (by kernel_rfl) (o.le hl) rfl
theorem lkR {A:cI} {r:dN} (h:HO w0 F M os A) (hm:(mb,ob_)∈os) (hf:dM bZ bZ oP ob_) :
  (aJ PP w0).lk 197 (.map (some mb)) (.agg #[.int .i64 r.1,.int .i64 r.2]) true M = some (.tuple #[.agg #[.int .i64 ((oP r).getD (0,0)).1,.int .i64 ((oP r).getD (0,0)).2],.bool (oP r).isSome]):=by
 obtain ⟨inf,hi,hz,_⟩:=W.e33
 obtain ⟨g1,g2⟩:=h.get hm
 have hlk:=(lkF (k:=r) Tryz.underlying197 nY hi hz g1 g2 hf).2
 cases e:oP r with
 | none=>rw [e] at hlk;exact hlk
 | some x=>rw [e] at hlk;exact hlk
theorem aGg (oJ:cS w0 F jt (jtV pj mb) tJt) (h:HO w0 F M os (star (pR pj P) Q)) (hb:P.l.length≤100000) (hf:P.free.length≤P.l.length) (hK:R (.int .i64 ((P.l.length - P.free.length:Nat):Int)) M) :
  C PP w0 Id.rT #[.pointer (some ⟨jt,0,none⟩)] R M:=by
 apply rT.go
 unfold rT.T aH
 simp only [aT,add_eq,Nat.zero_add,J0 oJ h.fr,aC,bN]
 refine aGe h.h hb hf ?_
 rw [aL]
 exact hK
theorem aFC {a g:Int} (oJ:cS w0 F jt (jtV pj mb) tJt) (h:HO w0 F M os (star (pR pj P) Q)) (hb:P.l.length≤100000)
  (h1:∀ v,P.find a g = some v→∀ M',HO w0 F M' os (star (pR pj P) Q)→R (.tuple #[nU v,.int .i64 0]) M')
  (h0:P.find a g = none→∀ M' e,HO w0 F M' os (star (pR pj P) Q)→e≠0→e = P.pl.look a g→R (.tuple #[nU z5,.int .i64 e]) M') :
  C PP w0 Id.pB #[.pointer (some ⟨jt,0,none⟩),.agg #[.int .i64 a,.int .i64 g]] R M:=by
 apply pB.go
 unfold pB.T aH
 refine sZ h fun b1 F1 M1 l1 lm1 o1 h1'=>?_
 have oJ1:=oJ.le l1
 refine jQ h1' fun b3 M2 lm2 h2=>?_
 simp only [aT,add_eq,Nat.zero_add,J0 oJ1 h2.fr,aC,bN,fF a9 (o1.le h2.fr),aZ,aW,aL,aU]
 refine aAQ h2.h.right hb (fun v hv M3 l3=>?_) fun hf M3 e l3 he hel=>?_
 ·simp only [cD,aW,aZ,aL,aU]
  exact jV (vs:=j9 v) (K:=fun v M=>R (.tuple #[v,.int .i64 0]) M) fS (by rfl) (dH v) (h2.le l3) fun M4 h4=>h1 v hv M4 (h4.fO l1)
 ·simp only [cD,aW,aZ,aL,aU]
  exact jV (vs:=j9 z5) (K:=fun v M=>R (.tuple #[v,.int .i64 e]) M) fS (by rfl) (dH z5) (h2.le l3) fun M4 h4=>h0 hf M4 e (h4.fO l1) he hel
theorem aHN {A:cI} {r x:dN} (oJ:cS w0 F jt (jtV pj mb) tJt) (h:HO w0 F M os A) (hm:(mb,ob_)∈os) (hf:dM bZ bZ oP ob_) (hx:oP r = some x)
  (hK:∀ M',HO w0 F M' os A→R (.tuple #[.agg #[.int .i64 x.1,.int .i64 x.2],.bool true]) M') :
  C PP w0 Id.xG #[.pointer (some ⟨jt,0,none⟩),.agg #[.int .i64 r.1,.int .i64 r.2]] R M:=by
 apply xG.go
 unfold xG.T aH
 refine sZ h fun b1 F1 M1 l1 lm1 o1 h1=>?_
 have oJ1:=oJ.le l1
 refine jQ h1 fun b3 M2 lm2 h2=>?_
 have hlk:∀ {M':Mem} {F':Mem} {A:cI},HO w0 F' M' os A→(aJ PP w0).lk 197 (.map (some mb)) (.agg #[.int .i64 r.1,.int .i64 r.2]) true M' = some (.tuple #[.agg #[.int .i64 x.1,.int .i64 x.2],.bool true]):=fun h=>by
  have:=lkR (r:=r) h hm hf
  rw [hx] at this;exact this
 simp only [aT,add_eq,Nat.zero_add,J1 oJ1 h2.fr,aC,fF a9 (o1.le h2.fr),aZ,aW,aL,bU,aU,hlk h2,cD]
 refine jQ h2 fun b4 M3 lm3 h3=>?_
 refine ⟨J1 oJ1 h3.fr,fF a9 (o1.le h3.fr),hlk h3,?_⟩
 refine xQ a9 (by rfl) iS h3 fun F4 M4 l4 o4 h4=>?_
 simp only [fF a9 (o4.le h4.fr),aC,aZ,aW,aL,aU]
 refine jV (K:=fun v M=>R (.tuple #[v,.bool true]) M) a9 (by rfl) iS h4 fun M5 h5=>?_
 exact hK M5 ((h5.fO l4).fO l1)
theorem aFP {v:V5} {i:Nat} (oJ:cS w0 F jt (jtV pj mb) tJt) (h:HO w0 F M ((mb,ob_)::os) (star (pR pj P) Q)) (hf:dM bZ bZ oP ob_) (hok:P.Ok) (hb:P.l.length≤10000) (hfb:P.free.length≤10000) (hlen:P.free.length≤P.l.length) (hg:∀ x∈P.l,0≤x.g∧x.g≤1000000) (hat:P.at_ = some i) (hroom:((P.l.length - P.free.length:Nat):Int)≠P.most) (hno:oP (v.2.2.2.1,v.2.2.2.2) = none)
  (hK:∀ M' ob',dM bZ bZ (gB oP (v.2.2.2.1,v.2.2.2.2) (some ((i:Int),P.gen i))) ob'→HO w0 F M' ((mb,ob')::os) (star (pR pj (P.take z5 i v)) Q)→R (.tuple #[.agg #[.int .i64 (i:Int),.int .i64 (P.gen i)],.int .i64 0]) M') :
  C PP w0 Id.rJ #[.pointer (some ⟨jt,0,none⟩),nU v] R M:=by
 obtain ⟨v1,v2,v3,v4,v5⟩:=v
 apply rJ.go
 unfold rJ.T aH
 refine sZ h fun b1 F1 M1 l1 lm1 o1 h1=>?_
 have oJ1:=oJ.le l1
 refine jQ h1 fun b3 M2 lm2 h2'=>?_
 have h2:=h2'.aX aA.dY
 have hR:∀ {M':Mem} {e:TypeId},cS w0 M' b1 [.int .i64 v1,.int .i64 v2,.int .i64 v3,.int .i64 v4,.int .i64 v5] e→(aJ PP w0).ld 33 ⟨b1,3,none⟩ M' = some (.agg #[.int .i64 v4,.int .i64 v5]):=fun o=>kZ (vs:=[.int .i64 v4,.int .i64 v5]) a9 o (q9 rfl rfl)
 have hlk:∀ {M':Mem} {F':Mem} {A:cI} {os':vA},HO w0 F' M' ((mb,ob_)::os') A→(aJ PP w0).lk 197 (.map (some mb)) (.agg #[.int .i64 v4,.int .i64 v5]) true M' = some (.tuple #[.agg #[.int .i64 0,.int .i64 0],.bool false]):=fun h=>by
  have:=lkR (r:=(v4,v5)) h List.mem_cons_self hf
  rw [hno] at this;exact this
 simp only [aT,add_eq,Nat.zero_add,J1 oJ1 h2.fr,aC,hR (o1.le h2.fr),aZ,aW,aL,bU,aU,hlk h2,cD]
 refine jQ h2 fun b4 M3 lm3 h3=>?_
 refine ⟨J1 oJ1 h3.fr,hR (o1.le h3.fr),hlk h3,?_⟩
 refine xQ a9 (by rfl) iS h3 fun F4 M4 l4 o4 h4=>?_
 have oJ4:=oJ1.le l4
 have o14:=o1.le l4
 simp only [aT,add_eq,Nat.zero_add,J0 oJ4 h4.fr,aC,bN]
 refine aGe h4.h (by omega) hlen ?_
 rw [aL]
 refine ⟨J0 oJ4 h4.fr,?_⟩
 refine aEB h4.h ?_
 rw [aL,fJ,if_neg hroom,mE]
 simp only [aT,add_eq,Nat.zero_add,J0 oJ4 h4.fr,aC,bN,fF fS (o14.le h4.fr),aZ,aW,aL,aU]
 refine ⟨?_,?_⟩
 rotate_left
 refine jQ h4 fun b5 M5' l5' h5'=>?_
 refine ⟨J0 oJ4 h5'.fr,fF fS (o14.le h5'.fr),?_⟩
 obtain ⟨F5,hB,l5,back⟩:=(h5'.aX aA.dY).aX aA.dY |>.aBP
 refine aD8 (v:=(v1,v2,v3,v4,v5)) hB hok hb hfb hg hat fun M5 hC=>?_
 have h5:=back M5 _ hC
 simp only [cD,aW,aZ,aL,bU,aU]
 refine xQ a9 (by rfl) iS h5 fun F6 M6 l6 o6 h6=>?_
 rotate_left
 obtain ⟨F5,hB,l5,back⟩:=h4.wJ
 refine aD8 (v:=(v1,v2,v3,v4,v5)) hB hok hb hfb hg hat fun M5 hC=>?_
 have h5:=back M5 _ hC
 simp only [cD,aW,aZ,aL,bU,aU]
 refine kC a9 (by rfl) iS h5 fun b5 F6 M6 l6 o6 h6=>?_
 all_goals
  simp only [aT,add_eq,Nat.zero_add,J1 (oJ4.le l6) h6.fr,aC,hR ((o14.le l6).le h6.fr),fF a9 (o6.le h6.fr),aZ,aW,aL,aU]
  obtain ⟨g1,g2⟩:=h6.get List.mem_cons_self
  refine aGr (kf:=bZ) (vf:=bZ) (k:=(v4,v5)) (v:=((i:Int),P.gen i)) Tryz.underlying197 nY g1 g2 hf fun ob' hf'=>?_
  have h7:=h6.set (o':=ob')
  generalize Mem.set M6 mb _ = M7 at h7 ⊢
  simp only [fF a9 (o6.le h7.fr),aC,aZ,aW,aL,aU]
  refine jV (K:=fun v M=>R (.tuple #[v,.int .i64 0]) M) a9 (by rfl) iS (h7.aX aA.dY) fun M8 h8=>?_
  exact hK M8 ob' hf' (((h8.fO l6).fO l4).fO l1)
end
end HL
namespace HL
section
variable {w0:World} {F M:Mem} {R:VP} {os:vA} {jt pj mb:Nat} {P:PS V5} {Q:cI} {ob_:Obj} {oP:dN→Option dN}
theorem aK5 {a g b k:Int} {X Y:Operand}:(aJ PP w0).bq .neq 33 X Y (.agg #[.int .i64 a,.int .i64 g]) (.agg #[.int .i64 b,.int .i64 k]) = some (.bool (!decide ((a,g) = (b,k)))) :=
 aBR (fun op=>by
  show dT PP (if !(op matches .eql | .neq) then return () else _) = some ()
  cases op <;> first | rfl | (show dT PP (program >>= fun p=>if !(p.eqGuardType p.depth 33) then return () else _) = some ();rw [xV,show (PP.eqGuardType PP.depth 33) = false from by kernel_rfl];rfl)) rfl (aFS (a,g) (b,k))
theorem aJR {r:dN} {v w:V5} (oJ:cS w0 F jt (jtV pj mb) tJt) (h:HO w0 F M ((mb,ob_)::os) (star (pR pj P) Q)) (hf:dM bZ bZ oP ob_) (hb:P.l.length≤10000) (hw:P.find r.1 r.2 = some w) (hwv:w.2.2.2 = v.2.2.2) (hby:oP v.2.2.2 = some r)
  (hK:∀ M' ob',dM bZ bZ oP ob'→HO w0 F M' ((mb,ob')::os) (star (pR pj (P.put r.1.toNat v)) Q)→R (.int .i64 0) M') :
  C PP w0 Id.jG #[.pointer (some ⟨jt,0,none⟩),.agg #[.int .i64 r.1,.int .i64 r.2],nU v] R M:=by
 obtain ⟨v1,v2,v3,v4,v5⟩:=v
 obtain ⟨w1,w2,w3,w4,w5⟩:=w
 cases hwv
 simp only at hby
 apply jG.go
 intro aB H
 unfold jG.T aH
 refine sZ h fun b1 F1 M1 l1 lm1 o1 h1=>?_
 refine sZ h1 fun b2 F2 M2 l2 lm2 o2 h2=>?_
 have oJ2:=(oJ.le l1).le l2
 have o12:=o1.le l2
 have hlk:∀ {M':Mem} {F':Mem} {A:cI} {os':vA},HO w0 F' M' ((mb,ob_)::os') A→(aJ PP w0).lk 197 (.map (some mb)) (.agg #[.int .i64 v4,.int .i64 v5]) true M' = some (.tuple #[.agg #[.int .i64 r.1,.int .i64 r.2],.bool true]):=fun h=>by
  have:=lkR (r:=(v4,v5)) h List.mem_cons_self hf
  rw [hby] at this;exact this
 simp only [aT,add_eq,Nat.zero_add,J0 oJ2 h2.fr,aC,bN,fF a9 (o12.le h2.fr),aZ,aW,aL,aU]
 have key:∀ (b3:Nat) (F3 M3:Mem),Mem.le F2 F3→cS w0 F3 b3 (j9 (w1,w2,w3,v4,v5)) tJo→HO w0 F3 M3 ((mb,ob_)::os) (star (pR pj P) Q)→jG.J1 aB (some ⟨jt,0,none⟩) ⟨b1,0,none⟩ ⟨b2,0,none⟩ ⟨b3,0,none⟩ M3:=by
  intro b3 F3 M3 l3 o3 h3
  refine Eq.mpr (H.J1 ..) ?_
  unfold jG.J1.T aH
  have hvb:∀ {M':Mem} {e:TypeId},cS w0 M' b3 (j9 (w1,w2,w3,v4,v5)) e→(aJ PP w0).ld 33 ⟨b3,3,none⟩ M' = some (.agg #[.int .i64 v4,.int .i64 v5]):=fun o=>kZ (vs:=[.int .i64 v4,.int .i64 v5]) a9 o (q9 rfl rfl)
  have hjb:∀ {M':Mem} {e:TypeId},cS w0 M' b2 (j9 (v1,v2,v3,v4,v5)) e→(aJ PP w0).ld 33 ⟨b2,3,none⟩ M' = some (.agg #[.int .i64 v4,.int .i64 v5]):=fun o=>kZ (vs:=[.int .i64 v4,.int .i64 v5]) a9 o (q9 rfl rfl)
  have oJ3:=oJ2.le l3
  have o13:=o12.le l3
  have o23:=o2.le l3
  simp only [aT,add_eq,Nat.zero_add,J1 oJ3 h3.fr,aC,hvb (o3.le h3.fr),aZ,aW,aL,aU]
  obtain ⟨g1,g2⟩:=h3.get List.mem_cons_self
  refine aHJ (k:=(v4,v5)) rfl Tryz.underlying197 nY g1 g2 hf fun oa hfa=>?_
  have h4:=h3.set (o':=oa)
  generalize Mem.set M3 mb _ = M4 at h4 ⊢
  simp only [aT,add_eq,Nat.zero_add,J1 oJ3 h4.fr,aC,hjb (o23.le h4.fr),fF a9 (o13.le h4.fr),aZ,aW,aL,aU]
  obtain ⟨g3,g4⟩:=h4.get List.mem_cons_self
  refine aGr (kf:=bZ) (vf:=bZ) (k:=(v4,v5)) (v:=r) Tryz.underlying197 nY g3 g4 hfa fun ob' hf'=>?_
  have h5:=h4.set (o':=ob')
  generalize Mem.set M4 mb _ = M5 at h5 ⊢
  have hup:gB (gB oP (v4,v5) none) (v4,v5) (some r) = oP:=by
   funext k
   unfold gB
   by_cases e:k = (v4,v5)
   ·rw [if_pos e,e,hby]
   ·rw [if_neg e,if_neg e]
  rw [hup] at hf'
  simp only [aT,add_eq,Nat.zero_add,J0 oJ3 h5.fr,aC,bN,fF fS (o23.le h5.fr),fF a9 (o13.le h5.fr),aZ,aW,aL,aU]
  obtain ⟨F6,hB,l6,back6⟩:=h5.wJ
  refine aGa (v:=(v1,v2,v3,v4,v5)) hB (by omega) hw fun M6 hC=>?_
  rw [aL]
  exact hK M6 ob' hf' ((((back6 M6 _ hC).fO l3).fO l2).fO l1)
 refine ⟨?_,?_⟩
 rotate_left
 refine jQ h2 fun b3 M3 lm3 h3=>?_
 refine ⟨J0 oJ2 h3.fr,fF a9 (o12.le h3.fr),?_⟩
 refine aAQ h3.h.right (by omega) (fun v hv M4 l4=>?_) (fun hf=>by rw [hw] at hf;cases hf)
 rw [hw] at hv;cases hv
 simp only [cD,aW,aZ,aL,aU]
 refine xQ (vs:=j9 (w1,w2,w3,v4,v5)) fS (by rfl) (dH _) (h3.le l4) fun F5 M5 l5 o5 h5=>?_
 rotate_left
 refine aAQ h2.h (by omega) (fun v hv M4 l4=>?_) (fun hf=>by rw [hw] at hf;cases hf)
 rw [hw] at hv;cases hv
 simp only [cD,aW,aZ,aL,aU]
 refine kC (vs:=j9 (w1,w2,w3,v4,v5)) fS (by rfl) (dH _) (h2.le l4) fun b3 F5 M5 l5 o5 h5=>?_
 all_goals
  rw [cB,if_pos rfl]
  have hjb:∀ {M':Mem} {e:TypeId},cS w0 M' b2 (j9 (v1,v2,v3,v4,v5)) e→(aJ PP w0).ld 33 ⟨b2,3,none⟩ M' = some (.agg #[.int .i64 v4,.int .i64 v5]):=fun o=>kZ (vs:=[.int .i64 v4,.int .i64 v5]) a9 o (q9 rfl rfl)
  have oJ5:=oJ2.le l5
  have o15:=o12.le l5
  have o25:=o2.le l5
  simp only [aT,add_eq,Nat.zero_add,J1 oJ5 h5.fr,aC,hjb (o25.le h5.fr),hlk h5,cD,aZ,aW,aL,bU,aU]
  refine jQ h5 fun b6 M6 lm6 h6=>?_
  refine ⟨J1 oJ5 h6.fr,hjb (o25.le h6.fr),hlk h6,?_⟩
  refine xQ a9 (by rfl) iS h6 fun F7 M7 l7 o7 h7=>?_
  rw [dZ]
  simp only [fF a9 (o7.le h7.fr),fF a9 ((o15.le l7).le h7.fr),aC,aZ,aW,aL,aU,aK5,bU]
  simp only [decide_true,Bool.not_true,mE]
  exact key b3 F7 M7 (Mem.le_trans l5 l7) (o5.le l7) h7
theorem aDH {p:Nat} {a g:Int} (h:aA w0 F M (star (pR p P) Q)) (hb:P.l.length≤10000) (hw:P.find a g = none)
  (h1:∀ M' e,aA w0 F M' (star (pR p P) Q)→e≠0→e = P.pl.look a g→R (.tuple #[nU z5,.int .i64 e]) M') :
  C PP w0 Id.gM #[.pointer (some ⟨p,0,none⟩),.agg #[.int .i64 a,.int .i64 g]] R M:=by
 apply gM.go
 unfold gM.T aH
 refine sZ (HO.of h) fun b1 F1 M1 l1 lm1 o1 h1'=>?_
 refine jQ h1' fun b3 M2 lm2 h2=>?_
 refine sZ h2 fun b5 F3 M3 l3 lm3 o5 h3=>?_
 simp only [fF a9 ((o1.le l3).le h3.fr),aC,aZ,aW,aL,aU]
 obtain ⟨sL,sF,hO⟩:=pR.open_ h3.h.right
 refine yW hO (by omega) (fun i v blk _ _ hf _ M4 l4=>by rw [hw] at hf;cases hf) fun hf M4 e l4 he hel=>?_
 simp only [cD,aW,bN,aL,aU]
 rw [cB,if_neg he]
 have h4:=h3.le l4
 simp only [fF (vs:=j9 z5) fS (o5.le h4.fr),aC,aZ,aW,aL,aU]
 exact jV (vs:=j9 z5) (K:=fun v M=>R (.tuple #[v,.int .i64 e]) M) fS (by rfl) (dH z5) h4 fun M5 h5=>h1 M5 e ((h5.fO l3).fO l1).h he hel
theorem aEp {r:dN} {v:V5} (oJ:cS w0 F jt (jtV pj mb) tJt) (h:HO w0 F M ((mb,ob_)::os) (star (pR pj P) Q)) (hf:dM bZ bZ oP ob_) (hb:P.l.length≤10000) (hfb:P.free.length≤10000) (hw:P.find r.1 r.2 = some v)
  (hK:∀ M' ob',dM bZ bZ (gB oP v.2.2.2 none) ob'→HO w0 F M' ((mb,ob')::os) (star (pR pj (P.gK z5 r.1.toNat)) Q)→R (.tuple #[nU v,.int .i64 0]) M') :
  C PP w0 Id.l0 #[.pointer (some ⟨jt,0,none⟩),.agg #[.int .i64 r.1,.int .i64 r.2]] R M:=by
 apply l0.go
 unfold l0.T aH
 refine sZ h fun b1 F1 M1 l1 lm1 o1 h1=>?_
 have oJ1:=oJ.le l1
 refine jQ h1 fun b3 M2 lm2 h2'=>?_
 have h2:=h2'.aX aA.dY
 simp only [aT,add_eq,Nat.zero_add,J0 oJ1 h2.fr,aC,bN,fF a9 (o1.le h2.fr),aZ,aW,aL,aU]
 refine ⟨?_,?_⟩
 rotate_left
 refine jQ h2 fun b4 M3' l3' h3'=>?_
 refine ⟨J0 oJ1 h3'.fr,fF a9 (o1.le h3'.fr),?_⟩
 obtain ⟨F3,hB,l3,back⟩:=(h3'.aX aA.dY).aX aA.dY |>.aBP
 refine aDU hB hb hfb hw fun M3 hC=>?_
 have h3:=back M3 _ hC
 simp only [cD,aW,aZ,aL,aU]
 refine xQ (vs:=j9 v) fS (by rfl) (dH v) h3 fun F4 M4 l4 o4 h4=>?_
 rotate_left
 obtain ⟨F3,hB,l3,back⟩:=h2.wJ
 refine aDU hB hb hfb hw fun M3 hC=>?_
 have h3:=back M3 _ hC
 simp only [cD,aW,aZ,aL,aU]
 refine kC (vs:=j9 v) fS (by rfl) (dH v) h3 fun b4 F4 M4 l4 o4 h4=>?_
 all_goals
  rw [fJ,if_pos rfl]
  have hvb:∀ {M':Mem} {e:TypeId},cS w0 M' b4 (j9 v) e→(aJ PP w0).ld 33 ⟨b4,3,none⟩ M' = some (.agg #[.int .i64 v.2.2.2.1,.int .i64 v.2.2.2.2]):=fun o=>kZ (vs:=[.int .i64 v.2.2.2.1,.int .i64 v.2.2.2.2]) a9 o (q9 rfl rfl)
  simp only [aT,add_eq,Nat.zero_add,J1 (oJ1.le l4) h4.fr,aC,hvb (o4.le h4.fr),aZ,aW,aL,aU]
  obtain ⟨g1,g2⟩:=h4.get List.mem_cons_self
  refine aHJ (k:=v.2.2.2) rfl Tryz.underlying197 nY g1 g2 hf fun ob' hf'=>?_
  have h5:=h4.set (o':=ob')
  generalize Mem.set M4 mb _ = M5 at h5 ⊢
  simp only [fF (vs:=j9 v) fS (o4.le h5.fr),aC,aZ,aW,aL,aU]
  refine jV (vs:=j9 v) (K:=fun v M=>R (.tuple #[v,.int .i64 0]) M) fS (by rfl) (dH v) (h5.aX aA.dY) fun M6 h6=>?_
  exact hK M6 ob' hf' ((h6.fO l4).fO l1)
theorem aBo {r:dN} (oJ:cS w0 F jt (jtV pj mb) tJt) (h:HO w0 F M os (star (pR pj P) Q)) (hb:P.l.length≤10000) (hw:P.find r.1 r.2 = none)
  (hK:∀ M' e,HO w0 F M' os (star (pR pj P) Q)→e≠0→e = P.pl.look r.1 r.2→R (.tuple #[nU z5,.int .i64 e]) M') :
  C PP w0 Id.l0 #[.pointer (some ⟨jt,0,none⟩),.agg #[.int .i64 r.1,.int .i64 r.2]] R M:=by
 apply l0.go
 unfold l0.T aH
 refine sZ h fun b1 F1 M1 l1 lm1 o1 h1=>?_
 have oJ1:=oJ.le l1
 refine jQ h1 fun b3 M2 lm2 h2'=>?_
 have h2:=h2'.aX aA.dY
 simp only [aT,add_eq,Nat.zero_add,J0 oJ1 h2.fr,aC,bN,fF a9 (o1.le h2.fr),aZ,aW,aL,aU]
 refine ⟨?_,?_⟩
 rotate_left
 refine jQ h2 fun b4 M3' l3' h3'=>?_
 refine ⟨J0 oJ1 h3'.fr,fF a9 (o1.le h3'.fr),?_⟩
 obtain ⟨F3,hB,l3,back⟩:=(h3'.aX aA.dY).aX aA.dY |>.aBP
 refine aDH hB hb hw fun M3 e hC he hel=>?_
 have h3:=back M3 _ hC
 simp only [nU,cD,aW,aZ,aL,aU]
 refine xQ (vs:=j9 z5) fS (by rfl) (dH z5) h3 fun F4 M4 l4 o4 h4=>?_
 rotate_left
 obtain ⟨F3,hB,l3,back⟩:=h2.wJ
 refine aDH hB hb hw fun M3 e hC he hel=>?_
 have h3:=back M3 _ hC
 simp only [nU,cD,aW,aZ,aL,aU]
 refine kC (vs:=j9 z5) fS (by rfl) (dH z5) h3 fun b4 F4 M4 l4 o4 h4=>?_
 all_goals
  rw [fJ,if_neg he]
  simp only [fF (vs:=j9 z5) fS (o4.le h4.fr),aC,aZ,aW,aL,aU]
  refine jV (vs:=j9 z5) (K:=fun v M=>R (.tuple #[v,.int .i64 e]) M) fS (by rfl) (dH z5) (h4.aX aA.dY) fun M6 h6=>?_
  exact hK M6 e ((h6.fO l4).fO l1) he hel
end
end HL
namespace HL
def qOf (P:PS V5) (r:bR):Int:=match P.find r.1 r.2 with
 | some v=>v.1
 | none=>0
def aAE (P:PS V5) (q:Int) (l:List bR):Nat:=l.countP fun r=>decide (qOf P r = q)
theorem aBJ {P:PS V5} {q:Int} {A:List bR} {r:bR}:aAE P q (A ++ [r]) = aAE P q A + if qOf P r = q then 1 else 0:=by
 unfold aAE
 rw [List.countP_append,List.countP_singleton]
 simp only [decide_eq_true_eq]
theorem aFW {P:PS V5} {q:Int} (A:List bR):aAE P q A≤A.length:=List.countP_le_length
theorem yE {ip:PS V5} (hg1:∀ x∈ip.l,x.t = true→1≤x.g) {r:bR} (hr:r∈ip.refs):∃ v,ip.find r.1 r.2 = some v:=by
 obtain ⟨j,x,h1,h2,rfl⟩:=rE.1 hr
 refine ⟨x.v,?_⟩
 simp only [Nat.zero_add]
 refine PS.j6 (v:=x.v) ?_ (hg1 x (List.mem_of_getElem? h1) h2)
 rw [h1,←h2]
def yV (P:PS V5) (A:List bR) (f t:Int):PS V5:={ P with l:=P.l.mapIdx fun j x=>if ((j:Int),x.g)∈A∧x.v.1 = f then { x with v:=(t,x.v.2) } else x }
theorem tC (P:PS V5) (A:List bR) (f t:Int) (j:Nat):(yV P A f t).l[j]? = (P.l[j]?).map fun x=>if ((j:Int),x.g)∈A∧x.v.1 = f then { x with v:=(t,x.v.2) } else x:=by
 unfold yV
 rw [List.getElem?_mapIdx]
theorem aKD (P:PS V5) (A:List bR) (f t:Int):(yV P A f t).l.length = P.l.length:=by unfold yV;simp
theorem aKh (P:PS V5) (f t:Int):yV P [] f t = P:=by
 unfold yV
 have:(P.l.mapIdx fun j x=>if ((j:Int),x.g)∈([]:List bR)∧x.v.1 = f then { x with v:=(t,x.v.2) } else x) = P.l:=by
  apply List.ext_getElem?
  intro j
  rw [List.getElem?_mapIdx]
  simp
 rw [this]
theorem aBu {P:PS V5} {A:List bR} {f t b k:Int} {v:V5} (h:P.find b k = some v):(yV P A f t).find b k = some (if (b,k)∈A∧v.1 = f then (t,v.2) else v):=by
 obtain ⟨j,rfl,hj,hk⟩:=PS.bK h
 refine PS.j6 ?_ hk
 rw [tC,hj,Option.map_some]
 by_cases hc:((j:Int),k)∈A∧v.1 = f
 ·rw [if_pos hc,if_pos hc]
 ·rw [if_neg hc,if_neg hc]
theorem aLh (P:PS V5) (A:List bR) (f t:Int):(yV P A f t).pl = P.pl:=by
 have key:∀ {β:Type} (g:sU V5→β),(∀ x v,g { x with v:=v } = g x)→(yV P A f t).l.map g = P.l.map g:=by
  intro β g hf
  apply List.ext_getElem?
  intro j
  rw [List.getElem?_map,List.getElem?_map,tC]
  cases P.l[j]? with
  | none=>rfl
  | some x =>
   simp only [Option.map_some]
   split
   ·rw [hf]
   ·rfl
 unfold PS.pl
 rw [key (·.g) (fun _ _=>rfl),key (·.t) (fun _ _=>rfl),key (fun _=>(0:Int)) (fun _ _=>rfl)]
 rfl
theorem aJv {P:PS V5} {A:List bR} {f t:Int} {r:bR} {v:V5} (hv:P.find r.1 r.2 = some v) (hrA:∀ x∈A,x.1 < r.1) (hvf:v.1 = f):(yV P A f t).put r.1.toNat (t,v.2) = yV P (A ++ [r]) f t:=by
 have hrnA:(r.1,r.2) ∉ A:=fun hm=>by have:=hrA _ hm;simp only at this;omega
 have hvA:(yV P A f t).find r.1 r.2 = some v:=by rw [aBu hv,if_neg (fun h=>hrnA h.1)]
 obtain ⟨j,hj,hjl,hj1⟩:=PS.bK hv
 obtain ⟨j2,hj2,hjl2,_⟩:=PS.bK hvA
 have hjj:r.1.toNat = j:=by rw [hj];exact Int.toNat_natCast j
 have hj22:j2 = j:=by omega
 subst hj22
 unfold PS.put
 rw [hjj,hjl2]
 show ({ yV P A f t with l:=(yV P A f t).l.set j2 ⟨r.2,true,(t,v.2)⟩ }:PS V5) = _
 have hl:(yV P A f t).l.set j2 ⟨r.2,true,(t,v.2)⟩ = (yV P (A ++ [r]) f t).l:=by
  apply List.ext_getElem?
  intro i
  by_cases hi:j2 = i
  ·subst hi
   rw [List.getElem?_set_self (List.getElem?_eq_some_iff.1 hjl2).1,tC,hjl,Option.map_some,if_pos (by
    have:((j2:Int),r.2) = r:=Prod.ext hj.symm rfl
    rw [this];exact ⟨by simp,hvf⟩)]
  ·rw [List.getElem?_set_ne hi,tC,tC]
   cases hx:P.l[i]? with
   | none=>rfl
   | some x =>
    simp only [Option.map_some]
    have:((i:Int),x.g)∈A ++ [r]↔((i:Int),x.g)∈A:=by
     rw [List.mem_append,List.mem_singleton]
     constructor
     ·rintro (h | h)
      ·exact h
      ·have:=congrArg Prod.fst h
       simp only at this
       omega
     ·exact .inl
    by_cases hc:((i:Int),x.g)∈A∧x.v.1 = f
    ·rw [if_pos hc,if_pos ⟨this.2 hc.1,hc.2⟩]
    ·rw [if_neg hc,if_neg (fun h=>hc ⟨this.1 h.1,h.2⟩)]
 rw [hl];rfl
theorem aI9 {P:PS V5} {A:List bR} {f t:Int} {r:bR} {v:V5} (hv:P.find r.1 r.2 = some v) (hvf:v.1≠f):yV P (A ++ [r]) f t = yV P A f t:=by
 obtain ⟨j,hj,hjl,hj1⟩:=PS.bK hv
 have hl:(yV P (A ++ [r]) f t).l = (yV P A f t).l:=by
  apply List.ext_getElem?
  intro i
  rw [tC,tC]
  cases hx:P.l[i]? with
  | none=>rfl
  | some x =>
   simp only [Option.map_some]
   have:(((i:Int),x.g)∈A ++ [r]∧x.v.1 = f)↔(((i:Int),x.g)∈A∧x.v.1 = f):=by
    rw [List.mem_append,List.mem_singleton]
    constructor
    ·rintro ⟨h | h,h2⟩
     ·exact ⟨h,h2⟩
     ·have h1:=congrArg Prod.fst h
      simp only at h1
      have hij:i = j:=by omega
      subst hij
      rw [hx] at hjl
      cases hjl
      exact absurd h2 hvf
    ·rintro ⟨h,h2⟩;exact ⟨.inl h,h2⟩
   by_cases hc:((i:Int),x.g)∈A∧x.v.1 = f
   ·rw [if_pos hc,if_pos (this.2 hc)]
   ·rw [if_neg hc,if_neg (fun h=>hc (this.1 h))]
 show ({ P with l:=(yV P (A ++ [r]) f t).l }:PS V5) = { P with l:=(yV P A f t).l }
 rw [hl]
section
variable {w0:World} {F M:Mem} {R:VP} {os:vA} {jt pj mb:Nat} {P:PS V5} {Q:cI} {ob_:Obj} {oP:dN→Option dN}
theorem aGd {a g:Int} {v:V5} {p:Nat} (h:aA w0 F M (star (pR p P) Q)) (hb:P.l.length≤100000) (hw:P.find a g = some v) (h1:∀ M',Mem.le M M'→R (.tuple #[nU v,.int .i64 0]) M') :
  C PP w0 Id.jZ #[.pointer (some ⟨p,0,none⟩),.agg #[.int .i64 a,.int .i64 g]] R M :=
 aAQ h hb (fun v' hv=>by rw [hw] at hv;cases hv;exact h1) (fun hf=>by rw [hw] at hf;cases hf)
theorem aHh {q:Int} (oJ:cS w0 F jt (jtV pj mb) tJt) (h:HO w0 F M os (star (pR pj P) Q)) (hb:P.l.length≤10000) (hg1:∀ x∈P.l,x.t = true→1≤x.g)
  (hK:∀ M',HO w0 F M' os (star (pR pj P) Q)→R (.int .i64 (aAE P q P.refs)) M') :
  C PP w0 Id.eS #[.pointer (some ⟨jt,0,none⟩),.int .i64 q] R M:=by
 apply eS.go
 intro aB H
 unfold eS.T aH
 have hrl:P.refs.length≤10000:=Nat.le_trans (p6 P.l 0) hb
 have key:∀ (B A:List bR) (s:SV) (F3 M3:Mem) (kk:Nat),P.refs = A ++ B→Mem.le F F3→HO w0 F3 M3 os (star (Es s P.refs) (star (pR pj P) Q))→B.length < kk→eS.L1 aB kk (some ⟨jt,0,none⟩) q (aAE P q A:Int) s ((s.n:Nat):Int) (A.length:Int) M3:=by
  intro B
  induction B with
  | nil =>
   intro A s F3 M3 kk he l3 h3 hk
   obtain ⟨kk,rfl⟩:∃ j,kk = j + 1:=⟨kk - 1,by omega⟩
   rw [List.append_nil] at he
   have hsn:=h3.h.nJ.len
   refine Eq.mpr (H.L1 ..) ?_
   unfold eS.L1.T aH
   rw [cR,if_neg (by rw [hsn,he];omega),←he]
   exact hK M3 ((h3.aX fun h=>h.right).fO l3)
  | cons r B ih =>
   intro A s F3 M3 kk he l3 h3 hk
   obtain ⟨kk,rfl⟩:∃ j,kk = j + 1:=⟨kk - 1,by omega⟩
   have ll:=congrArg List.length he
   simp only [List.length_append,List.length_cons] at ll hk
   have hsn:=h3.h.nJ.len
   have hget:(P.refs)[A.length]? = some r:=by rw [he];simp
   have hrm:r∈P.refs:=by rw [he];simp
   obtain ⟨v,hv⟩:=yE hg1 hrm
   have hqv:qOf P r = v.1:=by unfold qOf;rw [hv]
   have hcl:=aFW (P:=P) (q:=q) A
   refine Eq.mpr (H.L1 ..) ?_
   unfold eS.L1.T aH
   rw [cR,if_pos (by omega)]
   refine aGm (x:=r) h3.h.nJ (Mem.le_refl _) A.length rfl hget ?_
   refine kC a9 (by rfl) iS h3 fun b4 F4 M4 l4 o4 h4=>?_
   have oJ4:=(oJ.le l3).le l4
   simp only [aT,add_eq,Nat.zero_add,J0 oJ4 h4.fr,aC,bN,fF a9 (o4.le h4.fr),aZ,aW,aL,aU]
   refine ⟨?_,?_⟩
   rotate_left
   refine jQ h4 fun b5 M5 l5 h5=>?_
   refine ⟨J0 oJ4 h5.fr,fF a9 (o4.le h5.fr),?_⟩
   refine aGd h5.h.right.right (by omega) hv fun M6 l6=>?_
   simp only [nU,cD,aW,aZ,aL,aU]
   refine xQ (vs:=j9 v) fS (by rfl) (dH v) (h5.le l6) fun F7 M7 l7 o7 h7=>?_
   rotate_left
   refine aGd h4.h.right (by omega) hv fun M6 l6=>?_
   simp only [nU,cD,aW,aZ,aL,aU]
   refine kC (vs:=j9 v) fS (by rfl) (dH v) (h4.le l6) fun b5 F7 M7 l7 o7 h7=>?_
   all_goals
    simp only [mB W.c3 (o7.le h7.fr) (o:=0) rfl,aC,aL,bX (show A.length < 4611686018427387904 by omega),bX (show aAE P q A < 4611686018427387904 by omega)]
    have:=ih (A ++ [r]) s F7 M7 kk (by rw [he];simp) (Mem.le_trans l3 (Mem.le_trans l4 l7)) h7 (by omega)
    rw [List.length_append,List.length_singleton,aBJ,hqv] at this
    rw [fJ]
    split
    ·rename_i hc
     rw [if_pos hc] at this
     exact this
    ·rename_i hc
     rw [if_neg hc,Nat.add_zero] at this
     exact this
 simp only [aT,add_eq,Nat.zero_add,J0 oJ h.fr,aC,bN]
 obtain ⟨F1,hB,l1,back⟩:=h.wJ
 refine aDm hB (by omega) fun M2 s2 lm2 h2=>?_
 rw [aM]
 have:=key P.refs [] s2 F M2 (P.refs.length + 1) rfl (Mem.le_refl _) (back M2 _ h2) (by omega)
 exact ⟨_,this⟩
theorem aHF {f t:Int} (oJ:cS w0 F jt (jtV pj mb) tJt) (h:HO w0 F M os (star (pR pj P) Q)) (hb:P.l.length≤10000) (hg1:∀ x∈P.l,x.t = true→1≤x.g)
  (hK:∀ M',HO w0 F M' os (star (pR pj (yV P P.refs f t)) Q)→R (.int .i64 (aAE P f P.refs)) M') :
  C PP w0 Id.gE #[.pointer (some ⟨jt,0,none⟩),.int .i64 f,.int .i64 t] R M:=by
 apply gE.go
 intro aB H
 unfold gE.T aH
 have hrl:P.refs.length≤10000:=Nat.le_trans (p6 P.l 0) hb
 have hrn:=z4 P.l 0
 change (P.refs).Pairwise _ at hrn
 have key:∀ (B A:List bR) (s:SV) (F3 M3:Mem) (kk:Nat),P.refs = A ++ B→Mem.le F F3→HO w0 F3 M3 os (star (Es s P.refs) (star (pR pj (yV P A f t)) Q))→B.length < kk→gE.L1 aB kk (some ⟨jt,0,none⟩) f t (aAE P f A:Int) s ((s.n:Nat):Int) (A.length:Int) M3:=by
  intro B
  induction B with
  | nil =>
   intro A s F3 M3 kk he l3 h3 hk
   obtain ⟨kk,rfl⟩:∃ j,kk = j + 1:=⟨kk - 1,by omega⟩
   rw [List.append_nil] at he
   have hsn:=h3.h.nJ.len
   refine Eq.mpr (H.L1 ..) ?_
   unfold gE.L1.T aH
   rw [cR,if_neg (by rw [hsn,he];omega)]
   rw [←he] at h3 ⊢
   exact hK M3 ((h3.aX fun h=>h.right).fO l3)
  | cons r B ih =>
   intro A s F3 M3 kk he l3 h3 hk
   obtain ⟨kk,rfl⟩:∃ j,kk = j + 1:=⟨kk - 1,by omega⟩
   have ll:=congrArg List.length he
   simp only [List.length_append,List.length_cons] at ll hk
   have hsn:=h3.h.nJ.len
   have hget:(P.refs)[A.length]? = some r:=by rw [he];simp
   have hrm:r∈P.refs:=by rw [he];simp
   obtain ⟨v,hv⟩:=yE hg1 hrm
   have hqv:qOf P r = v.1:=by unfold qOf;rw [hv]
   have hcl:=aFW (P:=P) (q:=f) A
   have hrA:∀ x∈A,x.1 < r.1:=fun x hx=>by
    rw [he] at hrn
    exact (List.pairwise_append.1 hrn).2.2 x hx r List.mem_cons_self
   have hrnA:(r.1,r.2) ∉ A:=fun hm=>by have:=hrA _ hm;simp only at this;omega
   have hvA:(yV P A f t).find r.1 r.2 = some v:=by rw [aBu hv,if_neg (fun h=>hrnA h.1)]
   have hlA:(yV P A f t).l.length≤10000:=by rw [aKD];omega
   refine Eq.mpr (H.L1 ..) ?_
   unfold gE.L1.T aH
   rw [cR,if_pos (by omega)]
   refine aGm (x:=r) h3.h.nJ (Mem.le_refl _) A.length rfl hget ?_
   refine kC a9 (by rfl) iS h3 fun b4 F4 M4 l4 o4 h4=>?_
   have oJ4:=(oJ.le l3).le l4
   simp only [aT,add_eq,Nat.zero_add,J0 oJ4 h4.fr,aC,bN,fF a9 (o4.le h4.fr),aZ,aW,aL,aU]
   refine ⟨?_,?_⟩
   rotate_left
   refine jQ h4 fun b5 M5 l5 h5=>?_
   refine ⟨J0 oJ4 h5.fr,fF a9 (o4.le h5.fr),?_⟩
   refine aGd h5.h.right.right (by omega) hvA fun M6 l6=>?_
   simp only [nU,cD,aW,aZ,aL,aU]
   refine stW (vs:=j9 v) fS (by rfl) (dH v) (h5.le l6) fun M7 h7=>?_
   rotate_left
   refine aGd h4.h.right (by omega) hvA fun M6 l6=>?_
   simp only [nU,cD,aW,aZ,aL,aU]
   refine jQ (h4.le l6) fun b5 M5 l5 h5=>?_
   refine stW (vs:=j9 v) fS (by rfl) (dH v) h5 fun M7 h7=>?_
   all_goals
    simp only [mB W.c3 h7.h.bC (o:=0) rfl,aC,aL,bX (show A.length < 4611686018427387904 by omega),bX (show aAE P f A < 4611686018427387904 by omega)]
    rw [fJ]
    split
    ·rename_i hc
     refine aDq (o:=0) W.c3 (by simp) rfl rfl h7 fun M8 h8=>?_
     change HO w0 F4 M8 _ (star (bA b5 (j9 (t,v.2)) _) _) at h8
     simp only [aT,add_eq,Nat.zero_add,J0 oJ4 h8.fr,aC,bN,fF a9 (o4.le h8.fr),fF (vs:=j9 (t,v.2)) fS h8.h.bC,aZ,aW,aL,aU]
     obtain ⟨F9,hB,l9,back9⟩:=h8.aLG (A:=bA b5 _ _) (B:=Es s P.refs)
     refine aGa (v:=(t,v.2)) hB (by omega) hvA fun M9 hC=>?_
     rw [aL]
     have h9:=(back9 M9 _ hC).aX fun h=>h.right
     rw [aJv hv hrA hc] at h9
     have:=ih (A ++ [r]) s F4 M9 kk (by rw [he];simp) (Mem.le_trans l3 l4) h9 (by omega)
     rw [List.length_append,List.length_singleton,aBJ,hqv,if_pos hc] at this
     exact this
    ·rename_i hc
     have h8:=h7.aX fun h=>h.right
     rw [←aI9 (A:=A) (t:=t) hv hc] at h8
     have:=ih (A ++ [r]) s F4 M7 kk (by rw [he];simp) (Mem.le_trans l3 l4) h8 (by omega)
     rw [List.length_append,List.length_singleton,aBJ,hqv,if_neg hc,Nat.add_zero] at this
     exact this
 simp only [aT,add_eq,Nat.zero_add,J0 oJ h.fr,aC,bN]
 obtain ⟨F1,hB,l1,back⟩:=h.wJ
 refine aDm hB (by omega) fun M2 s2 lm2 h2=>?_
 rw [aM]
 have:=key P.refs [] s2 F M2 (P.refs.length + 1) rfl (Mem.le_refl _) (by rw [aKh];exact back M2 _ h2) (by omega)
 exact ⟨_,this⟩
end
end HL
end Go.Proofs.YtodobkbnmjgkdaaGreat
