import Derived.Test.YtodobkbnmjgkdaaGreatPe19
namespace Go.Proofs.YtodobkbnmjgkdaaGreat
open Go.RowKit (Below)
set_option linter.unusedVariables false
set_option linter.unusedSimpArgs false
set_option maxRecDepth 100000
namespace HL
abbrev V3:=Int × Int × Int
abbrev V5:=Int × Int × Int × Int × Int
abbrev nA (v:V3):List Value:=[.int .i64 v.1,.int .i64 v.2.1,.int .i64 v.2.2]
abbrev j9 (v:V5):List Value:=[.int .i64 v.1,.int .i64 v.2.1,.int .i64 v.2.2.1,.int .i64 v.2.2.2.1,.int .i64 v.2.2.2.2]
def z3:V3:=(0,0,0)
def z5:V5:=(0,0,0,0,0)
def yU (x:sU V3):List Value:=.int .i64 x.g::.bool x.t::nA x.v
def pc5 (x:sU V5):List Value:=.int .i64 x.g::.bool x.t::j9 x.v
theorem jO (x:sU V3):(yU x).length = 5:=rfl
theorem rA (x:sU V5):(pc5 x).length = 7:=rfl
theorem aDv (x:sU V3):∀ v∈yU x,bS v = true:=by
 intro v hv
 simp only [yU,nA,List.mem_cons,List.not_mem_nil,or_false] at hv
 rcases hv with rfl | rfl | rfl | rfl | rfl <;> rfl
theorem aFU (x:sU V5):∀ v∈pc5 x,bS v = true:=by
 intro v hv
 simp only [pc5,j9,List.mem_cons,List.not_mem_nil,or_false] at hv
 rcases hv with rfl | rfl | rfl | rfl | rfl | rfl | rfl <;> rfl
theorem qE (x:V3):∀ v∈nA x,bS v = true:=by
 intro v hv
 simp only [nA,List.mem_cons,List.not_mem_nil,or_false] at hv
 rcases hv with rfl | rfl | rfl <;> rfl
theorem dH (x:V5):∀ v∈j9 x,bS v = true:=by
 intro v hv
 simp only [j9,List.mem_cons,List.not_mem_nil,or_false] at hv
 rcases hv with rfl | rfl | rfl | rfl | rfl <;> rfl
theorem aGQ {α:Type} {c:α→List Value} {k:Nat} (hc:∀ x,(c x).length = k) {l:List α} {i:Nat} {x x':α} {o:Nat} {A B B':List Value} {rest:List Value} (hx:l[i]? = some x) (h1:c x = A ++ B) (h2:c x' = A ++ B') (hA:A.length = o) (hB:B'.length = B.length) :
  eO (l.flatMap c ++ rest) (i * k + o) B' = (l.set i x').flatMap c ++ rest:=by
 obtain ⟨hi,hxe⟩:=List.getElem?_eq_some_iff.1 hx
 have e1:l = l.take i ++ x::l.drop (i + 1):=by rw [←hxe,←List.drop_eq_getElem_cons hi,List.take_append_drop]
 have e2:l.set i x' = l.take i ++ x'::l.drop (i + 1):=by rw [List.set_eq_take_append_cons_drop,if_pos hi]
 have hl:((l.take i).flatMap c).length = i * k:=by rw [sT hc,List.length_take,Nat.min_eq_left (by omega)]
 rw [e2]
 conv=>lhs;rw [e1]
 rw [List.flatMap_append,List.flatMap_cons,List.flatMap_append,List.flatMap_cons,h1,h2]
 have:=eE ((l.take i).flatMap c ++ A) B ((l.drop (i + 1)).flatMap c ++ rest) B' hB (o:=i * k + o) (by rw [List.length_append,hl,hA])
 simp only [List.append_assoc] at this ⊢
 exact this
section
variable {w0:World} {F M:Mem} {R:VP}
theorem vV {α:Type} {c:α→List Value} {k:Nat} (hc:∀ x,(c x).length = k) {t:TypeId} {vs:List Value} (hg:gV PP t vs.length = true) {s:SV} {l:List α} {Q:cI} (h:aA w0 F M (star (dX k s (l.flatMap c)) Q)) {i:Nat} {x x':α} (hx:l[i]? = some x) {o:Nat} {A B:List Value} (h1:c x = A ++ B) (h2:c x' = A ++ vs) (hA:A.length = o) (hB:vs.length = B.length) (hone:∀ v∈vs,bS v = true)
  {blk:Nat} (ha:s.a = some ⟨blk,0,none⟩) (hn:s.n = l.length) {K:Mem→Prop} (hK:∀ M',aA w0 F M' (star (dX k s ((l.set i x').flatMap c)) Q)→K M'):(aJ PP w0).st t ⟨blk,i * k + o,none⟩ (.agg vs.toArray) (fun M'=>K M') M:=by
 obtain ⟨hi,_⟩:=List.getElem?_eq_some_iff.1 hx
 obtain ⟨b,rest,e,ha',e1,e2,hR⟩:=dX.row h (by omega)
 rw [ha] at ha';cases ha'
 have hk:(c x).length = k:=hc x
 rw [h1,List.length_append] at hk
 have hik:(i + 1) * k≤l.length * k:=Nat.mul_le_mul_right k (by omega)
 rw [Nat.succ_mul] at hik
 have hfl:=sT hc l
 refine hJ hg hR.bC (by rw [List.length_append,hfl];omega) hone ?_
 rw [aGQ hc hx h1 h2 hA hB]
 refine hK _ ?_
 have h3:=hR.lJ (cs':=(l.set i x').flatMap c ++ rest) (e':=e)
 obtain ⟨s_a,s_n,s_c⟩:=s
 simp only at ha
 subst ha
 refine dX.ofRow h3 ?_ ?_
 ·rw [sT hc,List.length_set];rw [hfl] at e1;exact e1
 ·rw [sT hc,List.length_set,←hfl];exact e2
end
end HL
set_option maxHeartbeats 1000000
namespace HL
section
variable {w0:World} {F M:Mem} {R:VP} {p:Nat} {P:PS V3} {Q:cI}
def xY (p:Nat) (P:PS V3):cI:=fun r=>∃ sL sF:SV,star (bA p [.int .i64 P.most,SV.v sL,SV.v sF] 208) (star (dX 5 sL (P.l.flatMap yU)) (dX 1 sF (vN P.free))) r
abbrev vZ (w0:World) (F M:Mem) (p:Nat) (P:PS V3) (sL sF:SV) (Q:cI):Prop:=aA w0 F M (star (bA p [.int .i64 P.most,SV.v sL,SV.v sF] 208) (star (dX 5 sL (P.l.flatMap yU)) (star (dX 1 sF (vN P.free)) Q)))
theorem xY.open_ (h:aA w0 F M (star (xY p P) Q)):∃ sL sF,vZ w0 F M p P sL sF Q:=by
 obtain ⟨r,⟨r1,r2,rfl,⟨sL,sF,h1⟩,h2⟩,h3⟩:=h
 refine ⟨sL,sF,?_⟩
 have:aA w0 F M (star (star (bA p [.int .i64 P.most,SV.v sL,SV.v sF] 208) (star (dX 5 sL (P.l.flatMap yU)) (dX 1 sF (vN P.free)))) Q):=⟨_,⟨r1,r2,rfl,h1,h2⟩,h3⟩
 have h4:=aA.assoc.1 this
 obtain ⟨F1,k1,_,k2⟩:=h4.last
 exact k2 _ _ (aA.assoc.1 k1)
theorem vZ.close {sL sF:SV} (h:vZ w0 F M p P sL sF Q):aA w0 F M (star (xY p P) Q):=by
 obtain ⟨F1,k1,_,k2⟩:=aA.last h
 have h1:=k2 _ _ (aA.assoc.2 k1)
 have h2:=aA.assoc.2 h1
 obtain ⟨r,⟨r1,r2,rfl,g1,g2⟩,g3⟩:=h2
 exact ⟨_,⟨r1,r2,rfl,⟨sL,sF,g1⟩,g2⟩,g3⟩
section
variable {sL sF:SV}
theorem vZ.r0 (h:vZ w0 F M p P sL sF Q):rd w0 M ⟨p,0,none⟩ = some (.int .i64 P.most):=aN (o:=0) h.bC
theorem vZ.r1 (h:vZ w0 F M p P sL sF Q):rd w0 M ⟨p,1,none⟩ = some (SV.v sL):=aN (o:=1) h.bC
theorem vZ.r2 (h:vZ w0 F M p P sL sF Q):rd w0 M ⟨p,2,none⟩ = some (SV.v sF):=aN (o:=2) h.bC
theorem vZ.nL (h:vZ w0 F M p P sL sF Q):sL.n = P.l.length:=aA.nR jO (by decide) h.right
theorem vZ.nF (h:vZ w0 F M p P sL sF Q):sF.n = P.free.length:=by
 have:=vD (k:=1) h.right.right
 rw [this];simp [vN]
theorem vZ.el (h:vZ w0 F M p P sL sF Q) {i:Nat} {x:sU V3} (hx:P.l[i]? = some x):∃ blk,sL.a = some ⟨blk,0,none⟩∧sL.n = P.l.length∧i < sL.n∧∀ f v,(yU x)[f]? = some v→rd w0 M ⟨blk,i * 5 + f,none⟩ = some v:=aA.adR jO (by decide) h.right hx
theorem vZ.focus (h:vZ w0 F M p P sL sF Q):∃ F5,aA w0 F5 M Q∧Mem.le F F5∧∀ M' Q',aA w0 F5 M' Q'→vZ w0 F M' p P sL sF Q':=by
 obtain ⟨F1,k1,l1,k2⟩:=aA.last h
 obtain ⟨F2,k3,l2,k4⟩:=k1.last
 obtain ⟨F3,k5,l3,k6⟩:=k3.last
 exact ⟨F3,k5,Mem.le_trans l1 (Mem.le_trans l2 l3),fun M' Q' hh=>k2 _ _ (k4 _ _ (k6 _ _ hh))⟩
end
theorem aLw {b:Nat} {cs:List Value} {Pq:cI} {v:V3} (h:aA w0 F M (star (bA b cs 149) Pq)) (hcs:cs.length = 3) {K:VP} (hK:∀ M',aA w0 F M' Pq→K (.agg #[.int .i64 v.1,.int .i64 v.2.1,.int .i64 v.2.2]) M') :
  (aJ PP w0).st 149 ⟨b,0,none⟩ (.agg #[.int .i64 v.1,.int .i64 v.2.1,.int .i64 v.2.2]) (fun M1=>ob ((aJ PP w0).rdv 149 (.pointer (some ⟨b,0,none⟩)) M1) fun v=>K v M1) M:=by
 refine hJ (vs:=nA v) W.aBV h.bC (by rw [hcs];exact Nat.le_refl _) (qE v) ?_
 have h2:=h.lJ (cs':=eO cs 0 (nA v)) (e':=149)
 have e0:eO cs 0 (nA v) = nA v:=by
  have:=eE [] cs [] (nA v) (by rw [hcs];rfl) (o:=0) rfl
  simpa using this
 rw [e0] at h2 ⊢
 have o2:=h2.bC
 rw [rC,dG (cs:=nA v) W.aBV (fun j u hj=>by rw [add_eq,aN o2,Nat.zero_add];exact hj),aC]
 exact hK _ h2.right
theorem aGv {b o:Nat} {v:V3} {cs:List Value} {e:TypeId} (h:cS w0 M b cs e) (hc:∀ j u,(nA v)[j]? = some u→cs[o + j]? = some u):(aJ PP w0).ld 149 ⟨b,o,none⟩ M = some (.agg #[.int .i64 v.1,.int .i64 v.2.1,.int .i64 v.2.2]) :=
 dG (cs:=nA v) W.aBV (fun j u hj=>by rw [add_eq,aN h];exact hc j u hj)
theorem aIq {b:Nat} {x y:Int} {e:TypeId} (h:cS w0 M b [.int .i64 x,.int .i64 y] e):(aJ PP w0).ld 33 ⟨b,0,none⟩ M = some (.agg #[.int .i64 x,.int .i64 y]) :=
 dG (cs:=[.int .i64 x,.int .i64 y]) W.g33 (fun j u hj=>by rw [add_eq,aN h,Nat.zero_add];exact hj)
theorem aBN {sL sF:SV} {a g:Int} (h:vZ w0 F M p P sL sF Q) (hb:P.l.length≤100000)
  (h1:∀ (i:Nat) v blk,a = (i:Int)→P.l[i]? = some ⟨g,true,v⟩→P.find a g = some v→sL.a = some ⟨blk,0,none⟩→∀ M',Mem.le M M'→R (.tuple #[.pointer (some ⟨blk,i * 5,none⟩),.int .i64 0]) M')
  (h0:P.find a g = none→∀ M' e,Mem.le M M'→e≠0→e = P.pl.look a g→R (.tuple #[.pointer none,.int .i64 e]) M') :
  C PP w0 Id.dB #[.pointer (some ⟨p,0,none⟩),.agg #[.int .i64 a,.int .i64 g]] R M:=by
 apply dB.go
 intro aB H
 unfold dB.T aH
 intro b1 hb1 hw1
 have l1:=Mem.fC (M:=M) (.row [.int .i64 a,.int .i64 g] 33) hb1
 have o1:cS w0 (M.set b1 (.row [.int .i64 a,.int .i64 g] 33)) b1 [.int .i64 a,.int .i64 g] 33:=cS.new hw1
 generalize M.set b1 _ = M1 at l1 o1 ⊢
 have hO:vZ w0 F M1 p P sL sF Q:=aA.le h l1
 have f0:rd w0 M1 ⟨b1,0,none⟩ = some (.int .i64 a):=aN (o:=0) o1
 have f1:rd w0 M1 ⟨b1,1,none⟩ = some (.int .i64 g):=aN (o:=1) o1
 have fL:=hO.r1
 have hn:=hO.nL
 have hlk:∀ e,P.pl.look a g = e→e≠0→P.find a g = none:=fun e he eT=>by
  cases hf:P.find a g with
  | none=>rfl
  | some v =>
   have:=PS.p7.1 (show (P.find a g).isSome = true by rw [hf];rfl)
   exact absurd (he▸this) eT
 have h22:P.pl.look a g = 22→R (.tuple #[.pointer none,.int .i64 22]) M1:=fun e=>h0 (hlk 22 e (by decide)) M1 22 l1 (by decide) e.symm
 have h23:P.pl.look a g = 23→R (.tuple #[.pointer none,.int .i64 23]) M1:=fun e=>h0 (hlk 23 e (by decide)) M1 23 l1 (by decide) e.symm
 have hlook:P.pl.look a g = if a < 0∨(P.l.length:Int)≤a∨g < 1∨(P.l.map (·.g)).getD a.toNat 0 < g then 22 else if g < (P.l.map (·.g)).getD a.toNat 0∨(P.l.map (·.t)).getD a.toNat false = false then 23 else 0:=by
  unfold Pl.look PS.pl
  simp only [List.length_map]
 simp only [aT,aR W.c3,aR W.aIL,add_eq,Nat.zero_add,f0,f1,fL,aC,aL,aM]
 rw [cR]
 split
 ·rename_i ha
  exact h22 (by rw [hlook,if_pos (.inl ha)])
 ·rename_i ha
  rw [cR]
  split
  ·exact h22 (by rw [hlook,if_pos (.inr (.inl (by omega)))])
  ·rename_i hal
   rw [cR]
   split
   ·rename_i hg
    exact h22 (by rw [hlook,if_pos (.inr (.inr (.inl hg)))])
   ·rename_i hg
    obtain ⟨i,rfl⟩:∃ i:Nat,a = (i:Int):=⟨a.toNat,by omega⟩
    have hil:i < P.l.length:=by omega
    have hx:=List.getElem?_eq_getElem hil
    generalize P.l[i] = x at hx
    obtain ⟨blk,ha2,hn2,hi2,hrd⟩:=hO.el hx
    have eg:(P.l.map (·.g)).getD (i:Int).toNat 0 = x.g:=by rw [Int.toNat_natCast,List.getD_eq_getElem?_getD,List.getElem?_map,hx];rfl
    have et:(P.l.map (·.t)).getD (i:Int).toNat false = x.t:=by rw [Int.toNat_natCast,List.getD_eq_getElem?_getD,List.getElem?_map,hx];rfl
    rw [eg,et] at hlook
    have r0:rd w0 M1 ⟨blk,i * 5,none⟩ = some (.int .i64 x.g):=hrd 0 _ rfl
    have r1:rd w0 M1 ⟨blk,i * 5 + 1,none⟩ = some (.bool x.t):=hrd 1 _ rfl
    simp only [ha2,aT,Int.toNat_natCast,add_eq,Nat.zero_add,r0,aC,aL]
    refine ⟨⟨by omega,by omega⟩,?_⟩
    rw [cR]
    split
    ·rename_i hgg
     exact h22 (by rw [hlook,if_pos (.inr (.inr (.inr hgg)))])
    ·rename_i hgg
     have hno:¬ ((i:Int) < 0∨(P.l.length:Int)≤(i:Int)∨g < 1∨x.g < g):=by omega
     rw [if_neg hno] at hlook
     refine Eq.mpr (H.J1 ..) ?_
     unfold dB.J1.T aH
     simp only [aT,aR W.c3,aR W.c4,aR W.aIL,add_eq,Nat.zero_add,f0,f1,fL,aC,aL,aM,bU,ha2,Int.toNat_natCast,r0,r1]
     refine ⟨⟨by omega,by omega⟩,?_⟩
     rw [cR]
     split
     ·rename_i hlt
      exact h23 (by rw [hlook,if_pos (.inl hlt)])
     ·rename_i hlt
      cases ht:x.t with
      | false =>
       rw [Bool.not_false,dZ]
       exact h23 (by rw [hlook,if_pos (.inr ht)])
      | true =>
       rw [Bool.not_true,mE]
       have hgx:g = x.g:=by omega
       have hx2:P.l[i]? = some ⟨g,true,x.v⟩:=by
        rw [hx,hgx]
        obtain ⟨xg,xt,xv⟩:=x
        simp only at ht
        subst ht;rfl
       exact h1 i x.v blk rfl hx2 (PS.j6 hx2 (by omega)) ha2 M1 l1
theorem aJ2 {a g:Int} (h:aA w0 F M (star (xY p P) Q)) (hb:P.l.length≤100000)
  (h1:∀ v,P.find a g = some v→∀ M',Mem.le M M'→R (.tuple #[.agg #[.int .i64 v.1,.int .i64 v.2.1,.int .i64 v.2.2],.int .i64 0]) M')
  (h0:P.find a g = none→∀ M' e,Mem.le M M'→e≠0→e = P.pl.look a g→R (.tuple #[.agg #[.int .i64 0,.int .i64 0,.int .i64 0],.int .i64 e]) M') :
  C PP w0 Id.j5 #[.pointer (some ⟨p,0,none⟩),.agg #[.int .i64 a,.int .i64 g]] R M:=by
 apply j5.go
 unfold j5.T aH
 obtain ⟨sL,sF,hO⟩:=xY.open_ h
 intro b1 hb1 hw1
 have l1:=Mem.fC (M:=M) (.row [.int .i64 a,.int .i64 g] 33) hb1
 have o1:cS w0 (M.set b1 (.row [.int .i64 a,.int .i64 g] 33)) b1 [.int .i64 a,.int .i64 g] 33:=cS.new hw1
 generalize M.set b1 _ = M1 at l1 o1 ⊢
 intro b3 hb3 hw3
 have n1:aA w0 M1 M1 (fun r=>r = []):=⟨[],rfl,Fit.nil (Mem.le_refl _)⟩
 have n3:aA w0 M1 _ (star (bA b3 _ 149) _):=n1.new hb3 hw3 [.int .i64 0,.int .i64 0,.int .i64 0] 149
 generalize M1.set b3 _ = M2 at n3 ⊢
 have l2:=n3.fr
 rw [aIq (o1.le l2)]
 simp only [aC,aZ,aW,aL,aU]
 have hO2:vZ w0 F M2 p P sL sF Q:=aA.le hO (Mem.le_trans l1 l2)
 refine aBN hO2 hb (fun i v blk ea hx hf ha M3 l3=>?_) fun hf M3 e l3 he hel=>?_
 ·simp only [cD,aW,bN,aL,aU]
  rw [cB,if_pos rfl,aT,add_eq]
  have hO3:vZ w0 F M3 p P sL sF Q:=aA.le hO2 l3
  obtain ⟨blk',ha',hn',hi',hrd⟩:=hO3.el hx
  rw [ha] at ha';cases ha'
  rw [dG (cs:=nA v) W.aBV (fun j u hj=>by rw [add_eq,Nat.add_assoc];exact hrd (2 + j) u (by rw [Nat.add_comm];exact hj))]
  simp only [aC,aZ,aW,aL,aU]
  refine aLw (n3.le l3) rfl (K:=fun v M=>R (.tuple #[v,.int .i64 0]) M) fun M4 h4=>?_
  exact h1 v hf M4 (Mem.le_trans l1 h4.fr)
 ·simp only [cD,aW,bN,aL,aU]
  rw [cB,if_neg he]
  intro b22 hb22 hw22
  have l4:=Mem.fC (M:=M3) (.row [.int .i64 0,.int .i64 0,.int .i64 0] 149) hb22
  have o4:cS w0 (M3.set b22 (.row [.int .i64 0,.int .i64 0,.int .i64 0] 149)) b22 (nA z3) 149:=cS.new hw22
  generalize M3.set b22 _ = M4 at l4 o4 ⊢
  rw [aGv (v:=z3) (o:=0) o4 (fun j u hj=>by rw [Nat.zero_add];exact hj)]
  simp only [aC,aZ,aW,aL,aU]
  refine aLw (v:=z3) (n3.le (Mem.le_trans l3 l4)) rfl (K:=fun v M=>R (.tuple #[v,.int .i64 e]) M) fun M5 h5=>?_
  exact h0 hf M5 e (Mem.le_trans l1 h5.fr) he hel
theorem aKx {a g:Int} {v w:V3} (h:aA w0 F M (star (xY p P) Q)) (hb:P.l.length≤100000) (hw:P.find a g = some w)
  (h1:∀ M',aA w0 F M' (star (xY p (P.put a.toNat v)) Q)→R (.int .i64 0) M') :
  C PP w0 Id.kI #[.pointer (some ⟨p,0,none⟩),.agg #[.int .i64 a,.int .i64 g],.agg #[.int .i64 v.1,.int .i64 v.2.1,.int .i64 v.2.2]] R M:=by
 apply kI.go
 unfold kI.T aH
 obtain ⟨sL,sF,hO⟩:=xY.open_ h
 intro b1 hb1 hw1
 have l1:=Mem.fC (M:=M) (.row [.int .i64 a,.int .i64 g] 33) hb1
 have o1:cS w0 (M.set b1 (.row [.int .i64 a,.int .i64 g] 33)) b1 [.int .i64 a,.int .i64 g] 33:=cS.new hw1
 generalize M.set b1 _ = M1 at l1 o1 ⊢
 intro b3 hb3 hw3
 have l2:=Mem.fC (M:=M1) (.row (nA v) 149) hb3
 have o3:cS w0 (M1.set b3 (.row (nA v) 149)) b3 (nA v) 149:=cS.new hw3
 change _ at hb3
 generalize hM2:M1.set b3 _ = M2
 have hM2':M1.set b3 (.row (nA v) 149) = M2:=hM2
 rw [hM2'] at l2 o3
 rw [aIq (o1.le l2)]
 simp only [aC,aZ,aW,aL,aU]
 have hO2:vZ w0 F M2 p P sL sF Q:=aA.le hO (Mem.le_trans l1 l2)
 refine aBN hO2 hb (fun i v' blk ea hx hf ha M3 l3=>?_) fun hf M3 e l3 he hel=>?_
 ·simp only [cD,aW,bN,aL,aU]
  rw [fJ,if_pos rfl,aGv (v:=v) (o:=0) (o3.le l3) (fun j u hj=>by rw [Nat.zero_add];exact hj)]
  simp only [aC,aZ,aW,aL,aU,aT,add_eq]
  have hO3:vZ w0 F M3 p P sL sF Q:=aA.le hO2 l3
  have hn:=hO3.nL
  obtain ⟨F1,k1,_,k2⟩:=aA.last hO3
  refine vV jO (vs:=nA v) W.aBV k1 hx (x':=⟨g,true,v⟩) (A:=[.int .i64 g,.bool true]) (B:=nA v') rfl rfl rfl rfl (qE v) ha hn fun M4 h4=>?_
  have h5:=k2 _ _ h4
  refine h1 M4 (vZ.close (sL:=sL) (sF:=sF) ?_)
  subst ea
  rw [Int.toNat_natCast]
  obtain ⟨e1,e2,e3⟩:=PS.vY v hx
  unfold vZ
  rw [e1,e2,e3]
  exact h5
 ·rw [hw] at hf;cases hf
theorem aH4 {v:V3} (h:aA w0 F M (star (xY p P) Q)) (hok:P.Ok) (hb:P.l.length≤10000) (hfb:P.free.length≤10000) (hg:∀ x∈P.l,0≤x.g∧x.g≤1000000) {a:Nat} (hat:P.at_ = some a)
  (h1:∀ M',aA w0 F M' (star (xY p (P.take z3 a v)) Q)→R (.tuple #[.agg #[.int .i64 (a:Int),.int .i64 (P.gen a)],.bool true]) M') :
  C PP w0 Id.cX #[.pointer (some ⟨p,0,none⟩),.agg #[.int .i64 v.1,.int .i64 v.2.1,.int .i64 v.2.2]] R M:=by
 apply cX.go
 intro aB H
 unfold cX.T aH
 intro b1 hb1 hw1
 have g1:aA w0 F _ (star (bA b1 (nA v) 149) (star (xY p P) Q)):=h.new hb1 hw1 (nA v) 149
 generalize hM1:M.set b1 _ = M1
 have hM1':M.set b1 (.row (nA v) 149) = M1:=hM1
 rw [hM1'] at g1
 obtain ⟨F1,hle1,hown,g2⟩:=aA.fY g1
 intro b3 hb3 hw3
 have g3:aA w0 F1 _ (star (bA b3 _ 33) (star (xY p P) Q)):=g2.new hb3 hw3 [.int .i64 0,.int .i64 0] 33
 generalize M1.set b3 _ = M2 at g3 ⊢
 obtain ⟨sL,sF,hO⟩:=xY.open_ g3.dY
 have keyJ1:∀ (M':Mem) (P':PS V3) (sL sF:SV) (x:sU V3),vZ w0 F1 M' p P' sL sF (star (bA b3 [.int .i64 0,.int .i64 0] 33) Q)→P'.l[a]? = some x→0≤x.g∧x.g≤1000000 →
   (∀ M'',aA w0 F1 M'' (star (xY p { P' with l:=P'.l.set a ⟨x.g + 1,true,v⟩ }) Q)→R (.tuple #[.agg #[.int .i64 (a:Int),.int .i64 (x.g + 1)],.bool true]) M'') →
   cX.J1 aB (some ⟨p,0,none⟩) ⟨b1,0,none⟩ ⟨b3,0,none⟩ (a:Int) M':=by
  intro M' P' sL sF x hX hx hxg hR
  refine Eq.mpr (H.J1 ..) ?_
  unfold cX.J1.T aH
  obtain ⟨blk,ha,hn,hi,hrd⟩:=hX.el hx
  have eL:=hX.r1
  have r0:rd w0 M' ⟨blk,a * 5,none⟩ = some (.int .i64 x.g):=hrd 0 _ rfl
  simp only [aT,aR W.c3,aR W.aIL,add_eq,Nat.zero_add,eL,aC,aM,ha,Int.toNat_natCast,r0,aL]
  refine ⟨⟨by omega,by omega⟩,?_⟩
  rw [aQ (by omega)]
  obtain ⟨F2,k1,_,k2⟩:=aA.last hX
  have hnl:∀ y,(P'.l.set a y).length = P'.l.length:=fun y=>List.length_set
  refine aA.stR (f:=0) jO (by decide) W.c3 k1 hx (x':={ x with g:=x.g + 1 }) (by decide) rfl rfl rfl ha fun M3 h3=>?_
  have hX3:vZ w0 F1 M3 p { P' with l:=P'.l.set a { x with g:=x.g + 1 } } sL sF (star (bA b3 [.int .i64 0,.int .i64 0] 33) Q):=k2 _ _ h3
  rw [aGv (v:=v) (o:=0) (hown.le (aA.fr hX3)) (fun j u hj=>by rw [Nat.zero_add];exact hj)]
  simp only [aC,aZ,aW,aL,aU]
  have hal:a < P'.l.length:=(List.getElem?_eq_some_iff.1 hx).1
  have hx3:(P'.l.set a { x with g:=x.g + 1 })[a]? = some { x with g:=x.g + 1 }:=List.getElem?_set_self hal
  obtain ⟨F3,k3,_,k4⟩:=aA.last hX3
  refine aA.stR (f:=1) jO (by decide) W.c4 k3 hx3 (x':=⟨x.g + 1,true,x.v⟩) (by decide) rfl rfl rfl ha fun M4 h4=>?_
  have hX4:vZ w0 F1 M4 p { P' with l:=P'.l.set a ⟨x.g + 1,true,x.v⟩ } sL sF (star (bA b3 [.int .i64 0,.int .i64 0] 33) Q):=by
   have:=k4 _ _ h4
   rw [List.set_set] at this
   exact this
  refine ⟨aGv (v:=v) (o:=0) (hown.le (aA.fr hX4)) (fun j u hj=>by rw [Nat.zero_add];exact hj),?_⟩
  have hx4:(P'.l.set a ⟨x.g + 1,true,x.v⟩)[a]? = some ⟨x.g + 1,true,x.v⟩:=List.getElem?_set_self hal
  obtain ⟨F4,k5,_,k6⟩:=aA.last hX4
  refine vV jO (vs:=nA v) W.aBV k5 hx4 (x':=⟨x.g + 1,true,v⟩) (A:=[.int .i64 (x.g + 1),.bool true]) (B:=nA x.v) rfl rfl rfl rfl (qE v) ha (by rw [hnl];exact hn) fun M5 h5=>?_
  have hX5:vZ w0 F1 M5 p { P' with l:=P'.l.set a ⟨x.g + 1,true,v⟩ } sL sF (star (bA b3 [.int .i64 0,.int .i64 0] 33) Q):=by
   have:=k6 _ _ h5
   rw [List.set_set] at this
   exact this
  have hx5:(P'.l.set a ⟨x.g + 1,true,v⟩)[a]? = some ⟨x.g + 1,true,v⟩:=List.getElem?_set_self hal
  obtain ⟨blk5,ha5,hn5,hi5,hrd5⟩:=hX5.el hx5
  rw [ha] at ha5;cases ha5
  have r5:rd w0 M5 ⟨blk,a * 5,none⟩ = some (.int .i64 (x.g + 1)):=hrd5 0 _ rfl
  have hbld:(aJ PP w0).oF 33 [(0,.int .i64 (a:Int)),(1,.int .i64 (x.g + 1))] = some (.agg #[.int .i64 (a:Int),.int .i64 (x.g + 1)]):=by kernel_rfl
  simp only [r5,aC,aL,hbld,aZ,aW,aU]
  obtain ⟨F5,k7,_,k8⟩:=vZ.focus hX5
  refine aBs k7 (K:=fun v M=>R (.tuple #[v,.bool true]) M) fun M6 hback=>?_
  exact hR M6 (vZ.close (k8 _ _ (hback _ _ k7)))
 have eL:=hO.r1
 have eF:=hO.r2
 have e0:=hO.r0
 have nL:=hO.nL
 have nF:=hO.nF
 simp only [aT,aR W.c3,aR W.c53,aR W.aIL,add_eq,Nat.zero_add,eL,eF,e0,aC,aM,aL]
 rw [cR]
 split
 ·-- one that was given back
  rename_i hpos
  have hp2:0 < P.free.length:=by
   apply Decidable.byContradiction
   intro hc
   have:sF.n = 0:=by omega
   rw [this] at hpos
   rw [show lN (((0:Nat):Int) - 1) = -1 from by rw [aQ (by omega)];omega] at hpos
   omega
  obtain ⟨bs,x,hbs⟩:∃ bs x,P.free = bs ++ [x]:=by
   rcases List.eq_nil_or_concat P.free with e | ⟨bs,x,e⟩
   ·rw [e] at hp2;simp at hp2
   ·exact ⟨bs,x,by rw [e,List.concat_eq_append]⟩
  have hlast:P.free.getLast? = some x:=by rw [hbs];simp
  have hax:a = x:=by
   unfold PS.at_ at hat
   rw [hlast] at hat
   simpa using hat.symm
  subst hax
  have hfl:P.free.length = bs.length + 1:=by rw [hbs];simp
  have hw:lN (((sF.n:Nat):Int) - 1) = ((bs.length:Nat):Int):=by rw [aQ (by omega)];omega
  obtain ⟨F2,k1,_,k2⟩:=aA.last hO
  obtain ⟨F3,k3,_,k4⟩:=k1.last
  have hc3:=dR k3
  obtain ⟨blk,rest,e,ha,q1,q2,q3⟩:=dX.row k3 (by omega)
  have hcap:sF.n≤sF.c:=by rw [Nat.mul_one] at q1 q2;omega
  rw [hw]
  refine rdv hc3.1 (vD (k:=1) k3) bs.length rfl (v:=.int .i64 (a:Int)) (by unfold vN;rw [hbs,List.getElem?_map,List.getElem?_append_right (Nat.le_refl _)];simp) ?_
  rw [aL]
  refine ⟨⟨by omega,by omega,by omega⟩,?_⟩
  have hsl:(Value.slice (if sF.c = (0:Int).toNat then sF.a else sF.a.map (·.add ((0:Int).toNat * 1))) (((bs.length:Nat):Int).toNat - (0:Int).toNat) (sF.c - (0:Int).toNat)) = SV.v ⟨some ⟨blk,0,none⟩,bs.length,sF.c⟩:=by
   rw [ha,Int.toNat_zero,Int.toNat_natCast,Nat.sub_zero,Nat.sub_zero,Nat.zero_mul]
   unfold SV.v
   simp only [Option.map_some,add_eq]
   split <;> rfl
  rw [hsl]
  refine gO W.c53 (aA.bC hO) (by simp) rfl rfl ?_
  have h4:=aA.lJ hO (cs':=[.int .i64 P.most,SV.v sL,SV.v ⟨some ⟨blk,0,none⟩,bs.length,sF.c⟩]) (e':=208)
  have hvs:vN P.free ++ rest = vN bs ++ (.int .i64 (a:Int)::rest):=by rw [hbs];simp [vN]
  have vQ:∀ (b':Bool),True:=fun _=>trivial
  obtain ⟨y,hy,hyt⟩:=hok.fr a (by rw [hbs];simp)
  refine keyJ1 _ { P with free:=bs } sL ⟨some ⟨blk,0,none⟩,bs.length,sF.c⟩ y ?_ hy (hg y (List.mem_of_getElem? hy)) fun M5 h5=>?_
  ·obtain ⟨F6,k6,_,k7⟩:=aA.last h4
   obtain ⟨F8,k8,_,k9⟩:=k6.last
   refine k7 _ _ (k9 _ _ ?_)
   obtain ⟨blk',rest',e',ha',q1',q2',q3'⟩:=dX.row k8 (by omega)
   rw [ha] at ha';cases ha'
   have hvs':vN P.free ++ rest' = vN bs ++ (.int .i64 (a:Int)::rest'):=by rw [hbs];simp [vN]
   rw [hvs'] at q3'
   have hvl:(vN bs).length = bs.length:=by simp [vN]
   have hvl2:(vN P.free).length = bs.length + 1:=by simp [vN,hfl]
   refine dX.ofRow q3' (by rw [hvl];omega) ?_
   rw [hvl,List.length_cons]
   rw [hvl2] at q2'
   omega
  ·have hgen:P.gen a = y.g + 1:=by unfold PS.gen;rw [hy]
   have htk:P.take z3 a v = { P with free:=bs,l:=P.l.set a ⟨y.g + 1,true,v⟩ }:=by
    unfold PS.take PS.grow
    rw [hlast,hgen]
    simp [hbs]
   rw [htk,hgen] at h1
   exact h1 M5 (h5.fO hle1)
 ·rename_i hpos
  have hp2:P.free = []:=by
   apply List.eq_nil_of_length_eq_zero
   apply Decidable.byContradiction
   intro hc
   rw [show lN (((sF.n:Nat):Int) - 1) = ((sF.n:Nat):Int) - 1 from aQ (by omega)] at hpos
   omega
  have hlast:P.free.getLast? = none:=by rw [hp2];rfl
  have hat2:=hat
  unfold PS.at_ at hat2
  rw [hlast] at hat2
  simp only at hat2
  split at hat2
  ·cases hat2
  ·rename_i hm
   have hal:a = P.l.length:=by simpa using hat2.symm
   rw [cR,if_neg (by omega)]
   have hbld:(aJ PP w0).oF 213 [] = some (.agg #[.int .i64 0,.bool false,.int .i64 0,.int .i64 0,.int .i64 0]):=by kernel_rfl
   simp only [hbld,aC,aZ,aW,aL,bU,aU]
   refine rN (n:=1) (cells:=#[.int .i64 0,.bool false,.int .i64 0,.int .i64 0,.int .i64 0]) Tryz.underlying206 W.aMp (by decide) (by kernel_rfl) fun bn hbn hwn=>?_
   rw [sJ]
   have hNw:aA w0 F1 _ (star (bA bn (yU ⟨0,false,z3⟩) 213) _):=aA.new hO hbn hwn (yU ⟨0,false,z3⟩) 213
   change aA w0 F1 (M2.set bn (.row (#[.int .i64 0,.bool false,.int .i64 0,.int .i64 0,.int .i64 0]:Array Value).toList 213)) _ at hNw
   generalize M2.set bn _ = M3 at hNw ⊢
   obtain ⟨F2,hle2,hownN,hO3⟩:=aA.fY hNw
   obtain ⟨F3,k1,l3,k2⟩:=aA.last hO3
   have hcap:=aA.aKq jO (by decide) k1
   refine vK (x:=⟨some ⟨bn,0,none⟩,1,1⟩) (news:=yU ⟨0,false,z3⟩) Tryz.underlying206 W.aMp k1 rfl (gW.own (hownN.le hO3.fr) fun j u hj=>by rw [Nat.zero_add];exact hj) (fun e0=>by cases e0) (aDv _) (by decide) (by show sL.n + 1≤_;omega) fun M4 s4 h4=>?_
   rw [aM]
   have h5:=k2 _ _ h4
   refine gO W.aIL (aA.bC h5) (by simp) rfl rfl ?_
   have h6:=aA.lJ h5 (cs':=[.int .i64 P.most,SV.v s4,SV.v sF]) (e':=208)
   rw [nL,←hal]
   have hfm:P.l.flatMap yU ++ yU ⟨0,false,z3⟩ = (P.l ++ ([⟨0,false,z3⟩]:List (sU V3))).flatMap yU:=by simp
   refine keyJ1 _ { P with l:=P.l ++ ([⟨0,false,z3⟩]:List (sU V3)) } s4 sF ⟨0,false,z3⟩ ?_ (by rw [hal];simp) ⟨by show (0:Int)≤0;omega,by show (0:Int)≤1000000;omega⟩ fun M7 h7=>?_
   ·rw [hfm] at h6
    exact (aA.fO h6 hle2)
   ·have hgen:P.gen a = 0 + 1:=by
     unfold PS.gen
     rw [hal,List.getElem?_eq_none (Nat.le_refl _)]
     rfl
    have htk:P.take z3 a v = { P with l:=(P.l ++ ([⟨0,false,z3⟩]:List (sU V3))).set a ⟨0 + 1,true,v⟩ }:=by
     unfold PS.take PS.grow
     rw [hlast,hgen]
    rw [htk,hgen] at h1
    exact h1 M7 (h7.fO hle1)
theorem aI6 {a g:Int} {v:V3} (h:aA w0 F M (star (xY p P) Q)) (hb:P.l.length≤10000) (hfb:P.free.length≤10000) (hw:P.find a g = some v)
  (h1:∀ M',aA w0 F M' (star (xY p (P.gK z3 a.toNat)) Q)→R (.tuple #[.agg #[.int .i64 v.1,.int .i64 v.2.1,.int .i64 v.2.2],.int .i64 0]) M') :
  C PP w0 Id.jI #[.pointer (some ⟨p,0,none⟩),.agg #[.int .i64 a,.int .i64 g]] R M:=by
 apply jI.go
 unfold jI.T aH
 obtain ⟨sL,sF,hO⟩:=xY.open_ h
 intro b1 hb1 hw1
 have g1:aA w0 F _ (star (bA b1 _ 33) _):=aA.new hO hb1 hw1 [.int .i64 a,.int .i64 g] 33
 generalize M.set b1 _ = M1 at g1 ⊢
 obtain ⟨F1,hle1,o1,g2⟩:=aA.fY g1
 intro b3 hb3 hw3
 have g3:aA w0 F1 _ (star (bA b3 _ 149) _):=aA.new g2 hb3 hw3 [.int .i64 0,.int .i64 0,.int .i64 0] 149
 generalize M1.set b3 _ = M2 at g3 ⊢
 intro b5 hb5 hw5
 have g4:aA w0 F1 _ (star (bA b5 _ 149) _):=aA.new g3 hb5 hw5 (nA z3) 149
 generalize hM3:M2.set b5 _ = M3
 have hM3':M2.set b5 (.row (nA z3) 149) = M3:=hM3
 rw [hM3'] at g4
 obtain ⟨F2,hle2,o5,g5⟩:=aA.fY g4
 have oz:∀ M',Mem.le F2 M'→(aJ PP w0).ld 149 ⟨b5,0,none⟩ M' = some (.agg #[.int .i64 0,.int .i64 0,.int .i64 0]):=fun M' hM=>aGv (v:=z3) (o:=0) (o5.le hM) (fun j u hj=>by rw [Nat.zero_add];exact hj)
 rw [aIq (o1.le (Mem.le_trans hle2 g5.fr))]
 simp only [aC,aZ,aW,aL,aU]
 obtain ⟨F3,hO3,hle3,mA⟩:=g5.last
 refine aBN hO3 (by omega) (fun i v' blk ea hx hf ha M4 l4=>?_) fun hf M4 e l4 he hel=>?_
 ·rw [hw] at hf
  cases hf
  have g6:=g5.le l4
  simp only [cD,aW,bN,aL,aU]
  rw [cB,if_pos rfl,aT,add_eq]
  have hO4:vZ w0 F2 M4 p P sL sF (star (bA b3 [.int .i64 0,.int .i64 0,.int .i64 0] 149) Q):=by
   obtain ⟨F4,q1,_,q2⟩:=aA.last g6.dY
   exact q2 _ _ (by
    obtain ⟨F5,q3,_,q4⟩:=q1.dY.last
    exact q4 _ _ q3.dY)
  obtain ⟨blk',ha',hn',hi',hrd⟩:=hO4.el hx
  rw [ha] at ha';cases ha'
  rw [dG (cs:=nA v) W.aBV (fun j u hj=>by rw [add_eq,Nat.add_assoc];exact hrd (2 + j) u (by rw [Nat.add_comm];exact hj))]
  simp only [aC,aZ,aW,aL,aU]
  intro b49 hb49 hw49
  have g7:aA w0 F2 _ (star (bA b49 _ 149) _):=aA.new hO4 hb49 hw49 [.int .i64 0,.int .i64 0,.int .i64 0] 149
  generalize M4.set b49 _ = M5 at g7 ⊢
  refine hJ (vs:=nA v) W.aBV g7.bC (by exact Nat.le_refl _) (qE v) ?_
  have g8:=g7.lJ (cs':=eO [.int .i64 0,.int .i64 0,.int .i64 0] 0 (nA v)) (e':=149)
  have e0:eO [.int .i64 0,.int .i64 0,.int .i64 0] 0 (nA v) = nA v:=by
   have:=eE [] [.int .i64 0,.int .i64 0,.int .i64 0] [] (nA v) rfl (o:=0) rfl
   simpa using this
  rw [e0] at g8 ⊢
  generalize M5.set b49 _ = M6 at g8 ⊢
  obtain ⟨F4,hle4,o49,hO6⟩:=aA.fY g8
  rw [oz M6 (Mem.le_trans hle4 hO6.fr)]
  simp only [aC,aZ,aW,aL,aU,aT,add_eq]
  have hil:i < P.l.length:=(List.getElem?_eq_some_iff.1 hx).1
  have hnl:∀ y,(P.l.set i y).length = P.l.length:=fun y=>List.length_set
  obtain ⟨F5,k1,_,k2⟩:=aA.last hO6
  refine aA.stR (f:=1) jO (by decide) W.c4 k1 hx (x':=⟨g,false,v⟩) (by decide) rfl rfl rfl ha fun M7 h7=>?_
  have hO7:vZ w0 F4 M7 p { P with l:=P.l.set i ⟨g,false,v⟩ } sL sF (star (bA b3 [.int .i64 0,.int .i64 0,.int .i64 0] 149) Q):=k2 _ _ h7
  refine ⟨oz M7 (Mem.le_trans hle4 (aA.fr hO7)),?_⟩
  have hx7:(P.l.set i ⟨g,false,v⟩)[i]? = some ⟨g,false,v⟩:=List.getElem?_set_self hil
  obtain ⟨F6,k3,_,k4⟩:=aA.last hO7
  refine vV jO (vs:=nA z3) W.aBV k3 hx7 (x':=⟨g,false,z3⟩) (A:=[.int .i64 g,.bool false]) (B:=nA v) rfl rfl rfl rfl (qE _) ha (by rw [hnl];exact hn') fun M8 h8=>?_
  have hO8:vZ w0 F4 M8 p { P with l:=P.l.set i ⟨g,false,z3⟩ } sL sF (star (bA b3 [.int .i64 0,.int .i64 0,.int .i64 0] 149) Q):=by
   have:=k4 _ _ h8
   rw [List.set_set] at this
   exact this
  have e2:=hO8.r2
  have f1:rd w0 M8 ⟨b1,0,none⟩ = some (.int .i64 a):=aN (o:=0) (o1.le (Mem.le_trans (Mem.le_trans hle2 hle4) (aA.fr hO8)))
  simp only [aR W.c3,aR W.c53,Nat.zero_add,e2,f1,aC,aM,aL]
  refine rN (n:=1) (cells:=#[.int .i64 a]) Tryz.underlying53 W.e3 (by decide) (by kernel_rfl) fun bn hbn hwn=>?_
  rw [sJ]
  have hNw:aA w0 F4 _ (star (bA bn [.int .i64 a] 3) _):=aA.new hO8 hbn hwn [.int .i64 a] 3
  change aA w0 F4 (M8.set bn (.row (#[.int .i64 a]:Array Value).toList 3)) _ at hNw
  generalize M8.set bn _ = M9 at hNw ⊢
  obtain ⟨F7,hle7,hownN,hO9⟩:=aA.fY hNw
  have e9:rd w0 M9 ⟨p,2,none⟩ = some (SV.v sF):=aN (o:=2) (aA.bC hO9)
  refine ⟨e9,?_⟩
  obtain ⟨F8,k5,l5,k6⟩:=aA.last hO9
  obtain ⟨F9,k7,l7,k8⟩:=k5.last
  have hnF:sF.n = P.free.length:=by have:=vD (k:=1) k7;rw [this];simp [vN]
  refine vK (x:=⟨some ⟨bn,0,none⟩,1,1⟩) (news:=[.int .i64 a]) Tryz.underlying53 W.e3 k7 rfl (gW.own (hownN.le hO9.fr) fun j u hj=>by rw [Nat.zero_add];exact hj) (fun e0=>by cases e0) (by intro u hu;rw [List.mem_singleton.1 hu];rfl) (by decide) (by show sF.n + 1≤_;omega) fun M10 s10 h10=>?_
  rw [aM]
  have h11:=k6 _ _ (k8 _ _ h10)
  refine gO W.c53 (aA.bC h11) (by simp) rfl rfl ?_
  have h12:=aA.lJ h11 (cs':=[.int .i64 P.most,SV.v sL,SV.v s10]) (e':=208)
  rw [show ([.int .i64 P.most,SV.v sL,SV.v sF]:List Value).set 2 (SV.v s10) = [.int .i64 P.most,SV.v sL,SV.v s10] from rfl]
  generalize Mem.set M10 p _ = M11 at h12 ⊢
  subst ea
  have hgv:P.gK z3 i = { P with l:=P.l.set i ⟨g,false,z3⟩,free:=P.free ++ [i] }:=by
   unfold PS.gK
   rw [hx]
  have h13:vZ w0 F7 M11 p (P.gK z3 i) sL s10 (star (bA b3 [.int .i64 0,.int .i64 0,.int .i64 0] 149) Q):=by
   rw [hgv]
   have hv:vN P.free ++ [.int .i64 (i:Int)] = vN (P.free ++ [i]):=by simp [vN]
   rw [hv] at h12
   exact h12
  rw [aGv (v:=v) (o:=0) (o49.le (Mem.le_trans hle7 (aA.fr h13))) (fun j u hj=>by rw [Nat.zero_add];exact hj)]
  simp only [aC,aZ,aW,aL,aU]
  have h14:=(vZ.close h13).dY
  refine aLw h14 rfl (K:=fun v M=>R (.tuple #[v,.int .i64 0]) M) fun M12 h15=>?_
  rw [Int.toNat_natCast] at h1
  exact h1 M12 ((((h15.fO hle7).fO hle4).fO hle2).fO hle1)
 ·rw [hw] at hf;cases hf
theorem aJQ {n:Int} (h:aA w0 F M Q) (h0:0≤n) (hn:n≤65536) (hR:∀ M' p,aA w0 F M' (star (xY p ⟨n,[],[]⟩) Q)→R (.pointer (some ⟨p,0,none⟩)) M'):C PP w0 Id.cY #[.int .i64 n] R M:=by
 apply cY.go
 unfold cY.T aH
 have e1:(if 65536 < n then (65536:Int) else n) = n:=if_neg (by omega)
 have e2:(if n > 0 then n else 0) = n:=by split <;> omega
 rw [e1,e2]
 have hbld:(aJ PP w0).oF 208 [(0,.int .i64 n)] = some (.agg #[.int .i64 n,.slice none 0 0,.slice none 0 0]):=by kernel_rfl
 simp only [hbld,aC,aZ,aW,aL,sJ,aU]
 intro b hb hw
 have h1:aA w0 F _ (star (bA b _ 208) _):=h.new hb hw [.int .i64 n,SV.v ⟨none,0,0⟩,SV.v ⟨none,0,0⟩] 208
 refine hR _ b (vZ.close (sL:=⟨none,0,0⟩) (sF:=⟨none,0,0⟩) ?_)
 obtain ⟨F1,k1,_,k2⟩:=h1.last
 exact k2 _ _ (aA.oB (aA.oB k1))
end
end HL
namespace HL
section
variable {w0:World} {F M:Mem} {R:VP} {p:Nat} {P:PS V3} {Q:cI}
def rQ (p:Nat) (P:PS V3):cI:=fun r=>∃ sL sF:SV,star (bA p [.int .i64 P.most,SV.v sL,SV.v sF] 211) (star (dX 5 sL (P.l.flatMap yU)) (dX 1 sF (vN P.free))) r
abbrev vF (w0:World) (F M:Mem) (p:Nat) (P:PS V3) (sL sF:SV) (Q:cI):Prop:=aA w0 F M (star (bA p [.int .i64 P.most,SV.v sL,SV.v sF] 211) (star (dX 5 sL (P.l.flatMap yU)) (star (dX 1 sF (vN P.free)) Q)))
theorem rQ.open_ (h:aA w0 F M (star (rQ p P) Q)):∃ sL sF,vF w0 F M p P sL sF Q:=by
 obtain ⟨r,⟨r1,r2,rfl,⟨sL,sF,h1⟩,h2⟩,h3⟩:=h
 refine ⟨sL,sF,?_⟩
 have:aA w0 F M (star (star (bA p [.int .i64 P.most,SV.v sL,SV.v sF] 211) (star (dX 5 sL (P.l.flatMap yU)) (dX 1 sF (vN P.free)))) Q):=⟨_,⟨r1,r2,rfl,h1,h2⟩,h3⟩
 have h4:=aA.assoc.1 this
 obtain ⟨F1,k1,_,k2⟩:=h4.last
 exact k2 _ _ (aA.assoc.1 k1)
theorem vF.close {sL sF:SV} (h:vF w0 F M p P sL sF Q):aA w0 F M (star (rQ p P) Q):=by
 obtain ⟨F1,k1,_,k2⟩:=aA.last h
 have h1:=k2 _ _ (aA.assoc.2 k1)
 have h2:=aA.assoc.2 h1
 obtain ⟨r,⟨r1,r2,rfl,g1,g2⟩,g3⟩:=h2
 exact ⟨_,⟨r1,r2,rfl,⟨sL,sF,g1⟩,g2⟩,g3⟩
section
variable {sL sF:SV}
theorem vF.r0 (h:vF w0 F M p P sL sF Q):rd w0 M ⟨p,0,none⟩ = some (.int .i64 P.most):=aN (o:=0) h.bC
theorem vF.r1 (h:vF w0 F M p P sL sF Q):rd w0 M ⟨p,1,none⟩ = some (SV.v sL):=aN (o:=1) h.bC
theorem vF.r2 (h:vF w0 F M p P sL sF Q):rd w0 M ⟨p,2,none⟩ = some (SV.v sF):=aN (o:=2) h.bC
theorem vF.nL (h:vF w0 F M p P sL sF Q):sL.n = P.l.length:=aA.nR jO (by decide) h.right
theorem vF.nF (h:vF w0 F M p P sL sF Q):sF.n = P.free.length:=by
 have:=vD (k:=1) h.right.right
 rw [this];simp [vN]
theorem vF.el (h:vF w0 F M p P sL sF Q) {i:Nat} {x:sU V3} (hx:P.l[i]? = some x):∃ blk,sL.a = some ⟨blk,0,none⟩∧sL.n = P.l.length∧i < sL.n∧∀ f v,(yU x)[f]? = some v→rd w0 M ⟨blk,i * 5 + f,none⟩ = some v:=aA.adR jO (by decide) h.right hx
theorem vF.focus (h:vF w0 F M p P sL sF Q):∃ F5,aA w0 F5 M Q∧Mem.le F F5∧∀ M' Q',aA w0 F5 M' Q'→vF w0 F M' p P sL sF Q':=by
 obtain ⟨F1,k1,l1,k2⟩:=aA.last h
 obtain ⟨F2,k3,l2,k4⟩:=k1.last
 obtain ⟨F3,k5,l3,k6⟩:=k3.last
 exact ⟨F3,k5,Mem.le_trans l1 (Mem.le_trans l2 l3),fun M' Q' hh=>k2 _ _ (k4 _ _ (k6 _ _ hh))⟩
end
theorem aLH {b:Nat} {cs:List Value} {Pq:cI} {v:V3} (h:aA w0 F M (star (bA b cs 153) Pq)) (hcs:cs.length = 3) {K:VP} (hK:∀ M',aA w0 F M' Pq→K (.agg #[.int .i64 v.1,.int .i64 v.2.1,.int .i64 v.2.2]) M') :
  (aJ PP w0).st 153 ⟨b,0,none⟩ (.agg #[.int .i64 v.1,.int .i64 v.2.1,.int .i64 v.2.2]) (fun M1=>ob ((aJ PP w0).rdv 153 (.pointer (some ⟨b,0,none⟩)) M1) fun v=>K v M1) M:=by
 refine hJ (vs:=nA v) W.aB0 h.bC (by rw [hcs];exact Nat.le_refl _) (qE v) ?_
 have h2:=h.lJ (cs':=eO cs 0 (nA v)) (e':=153)
 have e0:eO cs 0 (nA v) = nA v:=by
  have:=eE [] cs [] (nA v) (by rw [hcs];rfl) (o:=0) rfl
  simpa using this
 rw [e0] at h2 ⊢
 have o2:=h2.bC
 rw [rC,dG (cs:=nA v) W.aB0 (fun j u hj=>by rw [add_eq,aN o2,Nat.zero_add];exact hj),aC]
 exact hK _ h2.right
theorem aGx {b o:Nat} {v:V3} {cs:List Value} {e:TypeId} (h:cS w0 M b cs e) (hc:∀ j u,(nA v)[j]? = some u→cs[o + j]? = some u):(aJ PP w0).ld 153 ⟨b,o,none⟩ M = some (.agg #[.int .i64 v.1,.int .i64 v.2.1,.int .i64 v.2.2]) :=
 dG (cs:=nA v) W.aB0 (fun j u hj=>by rw [add_eq,aN h];exact hc j u hj)
theorem aH0 {b:Nat} {x y:Int} {e:TypeId} (h:cS w0 M b [.int .i64 x,.int .i64 y] e):(aJ PP w0).ld 33 ⟨b,0,none⟩ M = some (.agg #[.int .i64 x,.int .i64 y]) :=
 dG (cs:=[.int .i64 x,.int .i64 y]) W.g33 (fun j u hj=>by rw [add_eq,aN h,Nat.zero_add];exact hj)
theorem aBw {sL sF:SV} {a g:Int} (h:vF w0 F M p P sL sF Q) (hb:P.l.length≤100000)
  (h1:∀ (i:Nat) v blk,a = (i:Int)→P.l[i]? = some ⟨g,true,v⟩→P.find a g = some v→sL.a = some ⟨blk,0,none⟩→∀ M',Mem.le M M'→R (.tuple #[.pointer (some ⟨blk,i * 5,none⟩),.int .i64 0]) M')
  (h0:P.find a g = none→∀ M' e,Mem.le M M'→e≠0→e = P.pl.look a g→R (.tuple #[.pointer none,.int .i64 e]) M') :
  C PP w0 Id.dC #[.pointer (some ⟨p,0,none⟩),.agg #[.int .i64 a,.int .i64 g]] R M:=by
 apply dC.go
 intro aB H
 unfold dC.T aH
 intro b1 hb1 hw1
 have l1:=Mem.fC (M:=M) (.row [.int .i64 a,.int .i64 g] 33) hb1
 have o1:cS w0 (M.set b1 (.row [.int .i64 a,.int .i64 g] 33)) b1 [.int .i64 a,.int .i64 g] 33:=cS.new hw1
 generalize M.set b1 _ = M1 at l1 o1 ⊢
 have hO:vF w0 F M1 p P sL sF Q:=aA.le h l1
 have f0:rd w0 M1 ⟨b1,0,none⟩ = some (.int .i64 a):=aN (o:=0) o1
 have f1:rd w0 M1 ⟨b1,1,none⟩ = some (.int .i64 g):=aN (o:=1) o1
 have fL:=hO.r1
 have hn:=hO.nL
 have hlk:∀ e,P.pl.look a g = e→e≠0→P.find a g = none:=fun e he eT=>by
  cases hf:P.find a g with
  | none=>rfl
  | some v =>
   have:=PS.p7.1 (show (P.find a g).isSome = true by rw [hf];rfl)
   exact absurd (he▸this) eT
 have h22:P.pl.look a g = 22→R (.tuple #[.pointer none,.int .i64 22]) M1:=fun e=>h0 (hlk 22 e (by decide)) M1 22 l1 (by decide) e.symm
 have h23:P.pl.look a g = 23→R (.tuple #[.pointer none,.int .i64 23]) M1:=fun e=>h0 (hlk 23 e (by decide)) M1 23 l1 (by decide) e.symm
 have hlook:P.pl.look a g = if a < 0∨(P.l.length:Int)≤a∨g < 1∨(P.l.map (·.g)).getD a.toNat 0 < g then 22 else if g < (P.l.map (·.g)).getD a.toNat 0∨(P.l.map (·.t)).getD a.toNat false = false then 23 else 0:=by
  unfold Pl.look PS.pl
  simp only [List.length_map]
 simp only [aT,aR W.c3,aR W.aER,add_eq,Nat.zero_add,f0,f1,fL,aC,aL,aM]
 rw [cR]
 split
 ·rename_i ha
  exact h22 (by rw [hlook,if_pos (.inl ha)])
 ·rename_i ha
  rw [cR]
  split
  ·exact h22 (by rw [hlook,if_pos (.inr (.inl (by omega)))])
  ·rename_i hal
   rw [cR]
   split
   ·rename_i hg
    exact h22 (by rw [hlook,if_pos (.inr (.inr (.inl hg)))])
   ·rename_i hg
    obtain ⟨i,rfl⟩:∃ i:Nat,a = (i:Int):=⟨a.toNat,by omega⟩
    have hil:i < P.l.length:=by omega
    have hx:=List.getElem?_eq_getElem hil
    generalize P.l[i] = x at hx
    obtain ⟨blk,ha2,hn2,hi2,hrd⟩:=hO.el hx
    have eg:(P.l.map (·.g)).getD (i:Int).toNat 0 = x.g:=by rw [Int.toNat_natCast,List.getD_eq_getElem?_getD,List.getElem?_map,hx];rfl
    have et:(P.l.map (·.t)).getD (i:Int).toNat false = x.t:=by rw [Int.toNat_natCast,List.getD_eq_getElem?_getD,List.getElem?_map,hx];rfl
    rw [eg,et] at hlook
    have r0:rd w0 M1 ⟨blk,i * 5,none⟩ = some (.int .i64 x.g):=hrd 0 _ rfl
    have r1:rd w0 M1 ⟨blk,i * 5 + 1,none⟩ = some (.bool x.t):=hrd 1 _ rfl
    simp only [ha2,aT,Int.toNat_natCast,add_eq,Nat.zero_add,r0,aC,aL]
    refine ⟨⟨by omega,by omega⟩,?_⟩
    rw [cR]
    split
    ·rename_i hgg
     exact h22 (by rw [hlook,if_pos (.inr (.inr (.inr hgg)))])
    ·rename_i hgg
     have hno:¬ ((i:Int) < 0∨(P.l.length:Int)≤(i:Int)∨g < 1∨x.g < g):=by omega
     rw [if_neg hno] at hlook
     refine Eq.mpr (H.J1 ..) ?_
     unfold dC.J1.T aH
     simp only [aT,aR W.c3,aR W.c4,aR W.aER,add_eq,Nat.zero_add,f0,f1,fL,aC,aL,aM,bU,ha2,Int.toNat_natCast,r0,r1]
     refine ⟨⟨by omega,by omega⟩,?_⟩
     rw [cR]
     split
     ·rename_i hlt
      exact h23 (by rw [hlook,if_pos (.inl hlt)])
     ·rename_i hlt
      cases ht:x.t with
      | false =>
       rw [Bool.not_false,dZ]
       exact h23 (by rw [hlook,if_pos (.inr ht)])
      | true =>
       rw [Bool.not_true,mE]
       have hgx:g = x.g:=by omega
       have hx2:P.l[i]? = some ⟨g,true,x.v⟩:=by
        rw [hx,hgx]
        obtain ⟨xg,xt,xv⟩:=x
        simp only at ht
        subst ht;rfl
       exact h1 i x.v blk rfl hx2 (PS.j6 hx2 (by omega)) ha2 M1 l1
theorem aKu {a g:Int} (h:aA w0 F M (star (rQ p P) Q)) (hb:P.l.length≤100000)
  (h1:∀ v,P.find a g = some v→∀ M',Mem.le M M'→R (.tuple #[.agg #[.int .i64 v.1,.int .i64 v.2.1,.int .i64 v.2.2],.int .i64 0]) M')
  (h0:P.find a g = none→∀ M' e,Mem.le M M'→e≠0→e = P.pl.look a g→R (.tuple #[.agg #[.int .i64 0,.int .i64 0,.int .i64 0],.int .i64 e]) M') :
  C PP w0 Id.j0 #[.pointer (some ⟨p,0,none⟩),.agg #[.int .i64 a,.int .i64 g]] R M:=by
 apply j0.go
 unfold j0.T aH
 obtain ⟨sL,sF,hO⟩:=rQ.open_ h
 intro b1 hb1 hw1
 have l1:=Mem.fC (M:=M) (.row [.int .i64 a,.int .i64 g] 33) hb1
 have o1:cS w0 (M.set b1 (.row [.int .i64 a,.int .i64 g] 33)) b1 [.int .i64 a,.int .i64 g] 33:=cS.new hw1
 generalize M.set b1 _ = M1 at l1 o1 ⊢
 intro b3 hb3 hw3
 have n1:aA w0 M1 M1 (fun r=>r = []):=⟨[],rfl,Fit.nil (Mem.le_refl _)⟩
 have n3:aA w0 M1 _ (star (bA b3 _ 153) _):=n1.new hb3 hw3 [.int .i64 0,.int .i64 0,.int .i64 0] 153
 generalize M1.set b3 _ = M2 at n3 ⊢
 have l2:=n3.fr
 rw [aH0 (o1.le l2)]
 simp only [aC,aZ,aW,aL,aU]
 have hO2:vF w0 F M2 p P sL sF Q:=aA.le hO (Mem.le_trans l1 l2)
 refine aBw hO2 hb (fun i v blk ea hx hf ha M3 l3=>?_) fun hf M3 e l3 he hel=>?_
 ·simp only [cD,aW,bN,aL,aU]
  rw [cB,if_pos rfl,aT,add_eq]
  have hO3:vF w0 F M3 p P sL sF Q:=aA.le hO2 l3
  obtain ⟨blk',ha',hn',hi',hrd⟩:=hO3.el hx
  rw [ha] at ha';cases ha'
  rw [dG (cs:=nA v) W.aB0 (fun j u hj=>by rw [add_eq,Nat.add_assoc];exact hrd (2 + j) u (by rw [Nat.add_comm];exact hj))]
  simp only [aC,aZ,aW,aL,aU]
  refine aLH (n3.le l3) rfl (K:=fun v M=>R (.tuple #[v,.int .i64 0]) M) fun M4 h4=>?_
  exact h1 v hf M4 (Mem.le_trans l1 h4.fr)
 ·simp only [cD,aW,bN,aL,aU]
  rw [cB,if_neg he]
  intro b22 hb22 hw22
  have l4:=Mem.fC (M:=M3) (.row [.int .i64 0,.int .i64 0,.int .i64 0] 153) hb22
  have o4:cS w0 (M3.set b22 (.row [.int .i64 0,.int .i64 0,.int .i64 0] 153)) b22 (nA z3) 153:=cS.new hw22
  generalize M3.set b22 _ = M4 at l4 o4 ⊢
  rw [aGx (v:=z3) (o:=0) o4 (fun j u hj=>by rw [Nat.zero_add];exact hj)]
  simp only [aC,aZ,aW,aL,aU]
  refine aLH (v:=z3) (n3.le (Mem.le_trans l3 l4)) rfl (K:=fun v M=>R (.tuple #[v,.int .i64 e]) M) fun M5 h5=>?_
  exact h0 hf M5 e (Mem.le_trans l1 h5.fr) he hel
theorem aKE {a g:Int} {v w:V3} (h:aA w0 F M (star (rQ p P) Q)) (hb:P.l.length≤100000) (hw:P.find a g = some w)
  (h1:∀ M',aA w0 F M' (star (rQ p (P.put a.toNat v)) Q)→R (.int .i64 0) M') :
  C PP w0 Id.kM #[.pointer (some ⟨p,0,none⟩),.agg #[.int .i64 a,.int .i64 g],.agg #[.int .i64 v.1,.int .i64 v.2.1,.int .i64 v.2.2]] R M:=by
 apply kM.go
 unfold kM.T aH
 obtain ⟨sL,sF,hO⟩:=rQ.open_ h
 intro b1 hb1 hw1
 have l1:=Mem.fC (M:=M) (.row [.int .i64 a,.int .i64 g] 33) hb1
 have o1:cS w0 (M.set b1 (.row [.int .i64 a,.int .i64 g] 33)) b1 [.int .i64 a,.int .i64 g] 33:=cS.new hw1
 generalize M.set b1 _ = M1 at l1 o1 ⊢
 intro b3 hb3 hw3
 have l2:=Mem.fC (M:=M1) (.row (nA v) 153) hb3
 have o3:cS w0 (M1.set b3 (.row (nA v) 153)) b3 (nA v) 153:=cS.new hw3
 change _ at hb3
 generalize hM2:M1.set b3 _ = M2
 have hM2':M1.set b3 (.row (nA v) 153) = M2:=hM2
 rw [hM2'] at l2 o3
 rw [aH0 (o1.le l2)]
 simp only [aC,aZ,aW,aL,aU]
 have hO2:vF w0 F M2 p P sL sF Q:=aA.le hO (Mem.le_trans l1 l2)
 refine aBw hO2 hb (fun i v' blk ea hx hf ha M3 l3=>?_) fun hf M3 e l3 he hel=>?_
 ·simp only [cD,aW,bN,aL,aU]
  rw [fJ,if_pos rfl,aGx (v:=v) (o:=0) (o3.le l3) (fun j u hj=>by rw [Nat.zero_add];exact hj)]
  simp only [aC,aZ,aW,aL,aU,aT,add_eq]
  have hO3:vF w0 F M3 p P sL sF Q:=aA.le hO2 l3
  have hn:=hO3.nL
  obtain ⟨F1,k1,_,k2⟩:=aA.last hO3
  refine vV jO (vs:=nA v) W.aB0 k1 hx (x':=⟨g,true,v⟩) (A:=[.int .i64 g,.bool true]) (B:=nA v') rfl rfl rfl rfl (qE v) ha hn fun M4 h4=>?_
  have h5:=k2 _ _ h4
  refine h1 M4 (vF.close (sL:=sL) (sF:=sF) ?_)
  subst ea
  rw [Int.toNat_natCast]
  obtain ⟨e1,e2,e3⟩:=PS.vY v hx
  unfold vF
  rw [e1,e2,e3]
  exact h5
 ·rw [hw] at hf;cases hf
theorem aFF (h:aA w0 F M (star (rQ p P) Q)) (hb:P.l.length≤100000) (hf:P.free.length≤P.l.length) (hR:R (.int .i64 ((P.l.length - P.free.length:Nat):Int)) M) :
  C PP w0 Id.lC #[.pointer (some ⟨p,0,none⟩)] R M:=by
 apply lC.go
 unfold lC.T aH
 obtain ⟨sL,sF,hO⟩:=rQ.open_ h
 simp only [aT,aR W.aER,aR W.c53,add_eq,Nat.zero_add,hO.r1,hO.r2,aC,aM]
 rw [hO.nL,hO.nF,aQ (by omega),show (P.l.length:Int) - (P.free.length:Int) = ((P.l.length - P.free.length:Nat):Int) from by omega]
 exact hR
theorem aFk (h:aA w0 F M (star (rQ p P) Q)) (hR:R (.int .i64 P.most) M) :
  C PP w0 Id.gT #[.pointer (some ⟨p,0,none⟩)] R M:=by
 apply gT.go
 unfold gT.T aH
 obtain ⟨sL,sF,hO⟩:=rQ.open_ h
 simp only [aT,aR W.c3,hO.r0,aC,aL]
 exact hR
theorem aD1 {v:V3} (h:aA w0 F M (star (rQ p P) Q)) (hok:P.Ok) (hb:P.l.length≤10000) (hfb:P.free.length≤10000) (hg:∀ x∈P.l,0≤x.g∧x.g≤1000000) {a:Nat} (hat:P.at_ = some a)
  (h1:∀ M',aA w0 F M' (star (rQ p (P.take z3 a v)) Q)→R (.tuple #[.agg #[.int .i64 (a:Int),.int .i64 (P.gen a)],.bool true]) M') :
  C PP w0 Id.c7 #[.pointer (some ⟨p,0,none⟩),.agg #[.int .i64 v.1,.int .i64 v.2.1,.int .i64 v.2.2]] R M:=by
 apply c7.go
 intro aB H
 unfold c7.T aH
 intro b1 hb1 hw1
 have g1:aA w0 F _ (star (bA b1 (nA v) 153) (star (rQ p P) Q)):=h.new hb1 hw1 (nA v) 153
 generalize hM1:M.set b1 _ = M1
 have hM1':M.set b1 (.row (nA v) 153) = M1:=hM1
 rw [hM1'] at g1
 obtain ⟨F1,hle1,hown,g2⟩:=aA.fY g1
 intro b3 hb3 hw3
 have g3:aA w0 F1 _ (star (bA b3 _ 33) (star (rQ p P) Q)):=g2.new hb3 hw3 [.int .i64 0,.int .i64 0] 33
 generalize M1.set b3 _ = M2 at g3 ⊢
 obtain ⟨sL,sF,hO⟩:=rQ.open_ g3.dY
 have keyJ1:∀ (M':Mem) (P':PS V3) (sL sF:SV) (x:sU V3),vF w0 F1 M' p P' sL sF (star (bA b3 [.int .i64 0,.int .i64 0] 33) Q)→P'.l[a]? = some x→0≤x.g∧x.g≤1000000 →
   (∀ M'',aA w0 F1 M'' (star (rQ p { P' with l:=P'.l.set a ⟨x.g + 1,true,v⟩ }) Q)→R (.tuple #[.agg #[.int .i64 (a:Int),.int .i64 (x.g + 1)],.bool true]) M'') →
   c7.J1 aB (some ⟨p,0,none⟩) ⟨b1,0,none⟩ ⟨b3,0,none⟩ (a:Int) M':=by
  intro M' P' sL sF x hX hx hxg hR
  refine Eq.mpr (H.J1 ..) ?_
  unfold c7.J1.T aH
  obtain ⟨blk,ha,hn,hi,hrd⟩:=hX.el hx
  have eL:=hX.r1
  have r0:rd w0 M' ⟨blk,a * 5,none⟩ = some (.int .i64 x.g):=hrd 0 _ rfl
  simp only [aT,aR W.c3,aR W.aER,add_eq,Nat.zero_add,eL,aC,aM,ha,Int.toNat_natCast,r0,aL]
  refine ⟨⟨by omega,by omega⟩,?_⟩
  rw [aQ (by omega)]
  obtain ⟨F2,k1,_,k2⟩:=aA.last hX
  have hnl:∀ y,(P'.l.set a y).length = P'.l.length:=fun y=>List.length_set
  refine aA.stR (f:=0) jO (by decide) W.c3 k1 hx (x':={ x with g:=x.g + 1 }) (by decide) rfl rfl rfl ha fun M3 h3=>?_
  have hX3:vF w0 F1 M3 p { P' with l:=P'.l.set a { x with g:=x.g + 1 } } sL sF (star (bA b3 [.int .i64 0,.int .i64 0] 33) Q):=k2 _ _ h3
  rw [aGx (v:=v) (o:=0) (hown.le (aA.fr hX3)) (fun j u hj=>by rw [Nat.zero_add];exact hj)]
  simp only [aC,aZ,aW,aL,aU]
  have hal:a < P'.l.length:=(List.getElem?_eq_some_iff.1 hx).1
  have hx3:(P'.l.set a { x with g:=x.g + 1 })[a]? = some { x with g:=x.g + 1 }:=List.getElem?_set_self hal
  obtain ⟨F3,k3,_,k4⟩:=aA.last hX3
  refine aA.stR (f:=1) jO (by decide) W.c4 k3 hx3 (x':=⟨x.g + 1,true,x.v⟩) (by decide) rfl rfl rfl ha fun M4 h4=>?_
  have hX4:vF w0 F1 M4 p { P' with l:=P'.l.set a ⟨x.g + 1,true,x.v⟩ } sL sF (star (bA b3 [.int .i64 0,.int .i64 0] 33) Q):=by
   have:=k4 _ _ h4
   rw [List.set_set] at this
   exact this
  refine ⟨aGx (v:=v) (o:=0) (hown.le (aA.fr hX4)) (fun j u hj=>by rw [Nat.zero_add];exact hj),?_⟩
  have hx4:(P'.l.set a ⟨x.g + 1,true,x.v⟩)[a]? = some ⟨x.g + 1,true,x.v⟩:=List.getElem?_set_self hal
  obtain ⟨F4,k5,_,k6⟩:=aA.last hX4
  refine vV jO (vs:=nA v) W.aB0 k5 hx4 (x':=⟨x.g + 1,true,v⟩) (A:=[.int .i64 (x.g + 1),.bool true]) (B:=nA x.v) rfl rfl rfl rfl (qE v) ha (by rw [hnl];exact hn) fun M5 h5=>?_
  have hX5:vF w0 F1 M5 p { P' with l:=P'.l.set a ⟨x.g + 1,true,v⟩ } sL sF (star (bA b3 [.int .i64 0,.int .i64 0] 33) Q):=by
   have:=k6 _ _ h5
   rw [List.set_set] at this
   exact this
  have hx5:(P'.l.set a ⟨x.g + 1,true,v⟩)[a]? = some ⟨x.g + 1,true,v⟩:=List.getElem?_set_self hal
  obtain ⟨blk5,ha5,hn5,hi5,hrd5⟩:=hX5.el hx5
  rw [ha] at ha5;cases ha5
  have r5:rd w0 M5 ⟨blk,a * 5,none⟩ = some (.int .i64 (x.g + 1)):=hrd5 0 _ rfl
  have hbld:(aJ PP w0).oF 33 [(0,.int .i64 (a:Int)),(1,.int .i64 (x.g + 1))] = some (.agg #[.int .i64 (a:Int),.int .i64 (x.g + 1)]):=by kernel_rfl
  simp only [r5,aC,aL,hbld,aZ,aW,aU]
  obtain ⟨F5,k7,_,k8⟩:=vF.focus hX5
  refine aBs k7 (K:=fun v M=>R (.tuple #[v,.bool true]) M) fun M6 hback=>?_
  exact hR M6 (vF.close (k8 _ _ (hback _ _ k7)))
 have eL:=hO.r1
 have eF:=hO.r2
 have e0:=hO.r0
 have nL:=hO.nL
 have nF:=hO.nF
 simp only [aT,aR W.c3,aR W.c53,aR W.aER,add_eq,Nat.zero_add,eL,eF,e0,aC,aM,aL]
 rw [cR]
 split
 ·-- one that was given back
  rename_i hpos
  have hp2:0 < P.free.length:=by
   apply Decidable.byContradiction
   intro hc
   have:sF.n = 0:=by omega
   rw [this] at hpos
   rw [show lN (((0:Nat):Int) - 1) = -1 from by rw [aQ (by omega)];omega] at hpos
   omega
  obtain ⟨bs,x,hbs⟩:∃ bs x,P.free = bs ++ [x]:=by
   rcases List.eq_nil_or_concat P.free with e | ⟨bs,x,e⟩
   ·rw [e] at hp2;simp at hp2
   ·exact ⟨bs,x,by rw [e,List.concat_eq_append]⟩
  have hlast:P.free.getLast? = some x:=by rw [hbs];simp
  have hax:a = x:=by
   unfold PS.at_ at hat
   rw [hlast] at hat
   simpa using hat.symm
  subst hax
  have hfl:P.free.length = bs.length + 1:=by rw [hbs];simp
  have hw:lN (((sF.n:Nat):Int) - 1) = ((bs.length:Nat):Int):=by rw [aQ (by omega)];omega
  obtain ⟨F2,k1,_,k2⟩:=aA.last hO
  obtain ⟨F3,k3,_,k4⟩:=k1.last
  have hc3:=dR k3
  obtain ⟨blk,rest,e,ha,q1,q2,q3⟩:=dX.row k3 (by omega)
  have hcap:sF.n≤sF.c:=by rw [Nat.mul_one] at q1 q2;omega
  rw [hw]
  refine rdv hc3.1 (vD (k:=1) k3) bs.length rfl (v:=.int .i64 (a:Int)) (by unfold vN;rw [hbs,List.getElem?_map,List.getElem?_append_right (Nat.le_refl _)];simp) ?_
  rw [aL]
  refine ⟨⟨by omega,by omega,by omega⟩,?_⟩
  have hsl:(Value.slice (if sF.c = (0:Int).toNat then sF.a else sF.a.map (·.add ((0:Int).toNat * 1))) (((bs.length:Nat):Int).toNat - (0:Int).toNat) (sF.c - (0:Int).toNat)) = SV.v ⟨some ⟨blk,0,none⟩,bs.length,sF.c⟩:=by
   rw [ha,Int.toNat_zero,Int.toNat_natCast,Nat.sub_zero,Nat.sub_zero,Nat.zero_mul]
   unfold SV.v
   simp only [Option.map_some,add_eq]
   split <;> rfl
  rw [hsl]
  refine gO W.c53 (aA.bC hO) (by simp) rfl rfl ?_
  have h4:=aA.lJ hO (cs':=[.int .i64 P.most,SV.v sL,SV.v ⟨some ⟨blk,0,none⟩,bs.length,sF.c⟩]) (e':=211)
  have hvs:vN P.free ++ rest = vN bs ++ (.int .i64 (a:Int)::rest):=by rw [hbs];simp [vN]
  have vQ:∀ (b':Bool),True:=fun _=>trivial
  obtain ⟨y,hy,hyt⟩:=hok.fr a (by rw [hbs];simp)
  refine keyJ1 _ { P with free:=bs } sL ⟨some ⟨blk,0,none⟩,bs.length,sF.c⟩ y ?_ hy (hg y (List.mem_of_getElem? hy)) fun M5 h5=>?_
  ·obtain ⟨F6,k6,_,k7⟩:=aA.last h4
   obtain ⟨F8,k8,_,k9⟩:=k6.last
   refine k7 _ _ (k9 _ _ ?_)
   obtain ⟨blk',rest',e',ha',q1',q2',q3'⟩:=dX.row k8 (by omega)
   rw [ha] at ha';cases ha'
   have hvs':vN P.free ++ rest' = vN bs ++ (.int .i64 (a:Int)::rest'):=by rw [hbs];simp [vN]
   rw [hvs'] at q3'
   have hvl:(vN bs).length = bs.length:=by simp [vN]
   have hvl2:(vN P.free).length = bs.length + 1:=by simp [vN,hfl]
   refine dX.ofRow q3' (by rw [hvl];omega) ?_
   rw [hvl,List.length_cons]
   rw [hvl2] at q2'
   omega
  ·have hgen:P.gen a = y.g + 1:=by unfold PS.gen;rw [hy]
   have htk:P.take z3 a v = { P with free:=bs,l:=P.l.set a ⟨y.g + 1,true,v⟩ }:=by
    unfold PS.take PS.grow
    rw [hlast,hgen]
    simp [hbs]
   rw [htk,hgen] at h1
   exact h1 M5 (h5.fO hle1)
 ·rename_i hpos
  have hp2:P.free = []:=by
   apply List.eq_nil_of_length_eq_zero
   apply Decidable.byContradiction
   intro hc
   rw [show lN (((sF.n:Nat):Int) - 1) = ((sF.n:Nat):Int) - 1 from aQ (by omega)] at hpos
   omega
  have hlast:P.free.getLast? = none:=by rw [hp2];rfl
  have hat2:=hat
  unfold PS.at_ at hat2
  rw [hlast] at hat2
  simp only at hat2
  split at hat2
  ·cases hat2
  ·rename_i hm
   have hal:a = P.l.length:=by simpa using hat2.symm
   rw [cR,if_neg (by omega)]
   have hbld:(aJ PP w0).oF 259 [] = some (.agg #[.int .i64 0,.bool false,.int .i64 0,.int .i64 0,.int .i64 0]):=by kernel_rfl
   simp only [hbld,aC,aZ,aW,aL,bU,aU]
   refine rN (n:=1) (cells:=#[.int .i64 0,.bool false,.int .i64 0,.int .i64 0,.int .i64 0]) Tryz.underlying209 W.aMC (by decide) (by kernel_rfl) fun bn hbn hwn=>?_
   rw [sJ]
   have hNw:aA w0 F1 _ (star (bA bn (yU ⟨0,false,z3⟩) 259) _):=aA.new hO hbn hwn (yU ⟨0,false,z3⟩) 259
   change aA w0 F1 (M2.set bn (.row (#[.int .i64 0,.bool false,.int .i64 0,.int .i64 0,.int .i64 0]:Array Value).toList 259)) _ at hNw
   generalize M2.set bn _ = M3 at hNw ⊢
   obtain ⟨F2,hle2,hownN,hO3⟩:=aA.fY hNw
   obtain ⟨F3,k1,l3,k2⟩:=aA.last hO3
   have hcap:=aA.aKq jO (by decide) k1
   refine vK (x:=⟨some ⟨bn,0,none⟩,1,1⟩) (news:=yU ⟨0,false,z3⟩) Tryz.underlying209 W.aMC k1 rfl (gW.own (hownN.le hO3.fr) fun j u hj=>by rw [Nat.zero_add];exact hj) (fun e0=>by cases e0) (aDv _) (by decide) (by show sL.n + 1≤_;omega) fun M4 s4 h4=>?_
   rw [aM]
   have h5:=k2 _ _ h4
   refine gO W.aER (aA.bC h5) (by simp) rfl rfl ?_
   have h6:=aA.lJ h5 (cs':=[.int .i64 P.most,SV.v s4,SV.v sF]) (e':=211)
   rw [nL,←hal]
   have hfm:P.l.flatMap yU ++ yU ⟨0,false,z3⟩ = (P.l ++ ([⟨0,false,z3⟩]:List (sU V3))).flatMap yU:=by simp
   refine keyJ1 _ { P with l:=P.l ++ ([⟨0,false,z3⟩]:List (sU V3)) } s4 sF ⟨0,false,z3⟩ ?_ (by rw [hal];simp) ⟨by show (0:Int)≤0;omega,by show (0:Int)≤1000000;omega⟩ fun M7 h7=>?_
   ·rw [hfm] at h6
    exact (aA.fO h6 hle2)
   ·have hgen:P.gen a = 0 + 1:=by
     unfold PS.gen
     rw [hal,List.getElem?_eq_none (Nat.le_refl _)]
     rfl
    have htk:P.take z3 a v = { P with l:=(P.l ++ ([⟨0,false,z3⟩]:List (sU V3))).set a ⟨0 + 1,true,v⟩ }:=by
     unfold PS.take PS.grow
     rw [hlast,hgen]
    rw [htk,hgen] at h1
    exact h1 M7 (h7.fO hle1)
theorem aDy {a g:Int} {v:V3} (h:aA w0 F M (star (rQ p P) Q)) (hb:P.l.length≤10000) (hfb:P.free.length≤10000) (hw:P.find a g = some v)
  (h1:∀ M',aA w0 F M' (star (rQ p (P.gK z3 a.toNat)) Q)→R (.tuple #[.agg #[.int .i64 v.1,.int .i64 v.2.1,.int .i64 v.2.2],.int .i64 0]) M') :
  C PP w0 Id.jH #[.pointer (some ⟨p,0,none⟩),.agg #[.int .i64 a,.int .i64 g]] R M:=by
 apply jH.go
 unfold jH.T aH
 obtain ⟨sL,sF,hO⟩:=rQ.open_ h
 intro b1 hb1 hw1
 have g1:aA w0 F _ (star (bA b1 _ 33) _):=aA.new hO hb1 hw1 [.int .i64 a,.int .i64 g] 33
 generalize M.set b1 _ = M1 at g1 ⊢
 obtain ⟨F1,hle1,o1,g2⟩:=aA.fY g1
 intro b3 hb3 hw3
 have g3:aA w0 F1 _ (star (bA b3 _ 153) _):=aA.new g2 hb3 hw3 [.int .i64 0,.int .i64 0,.int .i64 0] 153
 generalize M1.set b3 _ = M2 at g3 ⊢
 intro b5 hb5 hw5
 have g4:aA w0 F1 _ (star (bA b5 _ 153) _):=aA.new g3 hb5 hw5 (nA z3) 153
 generalize hM3:M2.set b5 _ = M3
 have hM3':M2.set b5 (.row (nA z3) 153) = M3:=hM3
 rw [hM3'] at g4
 obtain ⟨F2,hle2,o5,g5⟩:=aA.fY g4
 have oz:∀ M',Mem.le F2 M'→(aJ PP w0).ld 153 ⟨b5,0,none⟩ M' = some (.agg #[.int .i64 0,.int .i64 0,.int .i64 0]):=fun M' hM=>aGx (v:=z3) (o:=0) (o5.le hM) (fun j u hj=>by rw [Nat.zero_add];exact hj)
 rw [aH0 (o1.le (Mem.le_trans hle2 g5.fr))]
 simp only [aC,aZ,aW,aL,aU]
 obtain ⟨F3,hO3,hle3,mA⟩:=g5.last
 refine aBw hO3 (by omega) (fun i v' blk ea hx hf ha M4 l4=>?_) fun hf M4 e l4 he hel=>?_
 ·rw [hw] at hf
  cases hf
  have g6:=g5.le l4
  simp only [cD,aW,bN,aL,aU]
  rw [cB,if_pos rfl,aT,add_eq]
  have hO4:vF w0 F2 M4 p P sL sF (star (bA b3 [.int .i64 0,.int .i64 0,.int .i64 0] 153) Q):=by
   obtain ⟨F4,q1,_,q2⟩:=aA.last g6.dY
   exact q2 _ _ (by
    obtain ⟨F5,q3,_,q4⟩:=q1.dY.last
    exact q4 _ _ q3.dY)
  obtain ⟨blk',ha',hn',hi',hrd⟩:=hO4.el hx
  rw [ha] at ha';cases ha'
  rw [dG (cs:=nA v) W.aB0 (fun j u hj=>by rw [add_eq,Nat.add_assoc];exact hrd (2 + j) u (by rw [Nat.add_comm];exact hj))]
  simp only [aC,aZ,aW,aL,aU]
  intro b49 hb49 hw49
  have g7:aA w0 F2 _ (star (bA b49 _ 153) _):=aA.new hO4 hb49 hw49 [.int .i64 0,.int .i64 0,.int .i64 0] 153
  generalize M4.set b49 _ = M5 at g7 ⊢
  refine hJ (vs:=nA v) W.aB0 g7.bC (by exact Nat.le_refl _) (qE v) ?_
  have g8:=g7.lJ (cs':=eO [.int .i64 0,.int .i64 0,.int .i64 0] 0 (nA v)) (e':=153)
  have e0:eO [.int .i64 0,.int .i64 0,.int .i64 0] 0 (nA v) = nA v:=by
   have:=eE [] [.int .i64 0,.int .i64 0,.int .i64 0] [] (nA v) rfl (o:=0) rfl
   simpa using this
  rw [e0] at g8 ⊢
  generalize M5.set b49 _ = M6 at g8 ⊢
  obtain ⟨F4,hle4,o49,hO6⟩:=aA.fY g8
  rw [oz M6 (Mem.le_trans hle4 hO6.fr)]
  simp only [aC,aZ,aW,aL,aU,aT,add_eq]
  have hil:i < P.l.length:=(List.getElem?_eq_some_iff.1 hx).1
  have hnl:∀ y,(P.l.set i y).length = P.l.length:=fun y=>List.length_set
  obtain ⟨F5,k1,_,k2⟩:=aA.last hO6
  refine aA.stR (f:=1) jO (by decide) W.c4 k1 hx (x':=⟨g,false,v⟩) (by decide) rfl rfl rfl ha fun M7 h7=>?_
  have hO7:vF w0 F4 M7 p { P with l:=P.l.set i ⟨g,false,v⟩ } sL sF (star (bA b3 [.int .i64 0,.int .i64 0,.int .i64 0] 153) Q):=k2 _ _ h7
  refine ⟨oz M7 (Mem.le_trans hle4 (aA.fr hO7)),?_⟩
  have hx7:(P.l.set i ⟨g,false,v⟩)[i]? = some ⟨g,false,v⟩:=List.getElem?_set_self hil
  obtain ⟨F6,k3,_,k4⟩:=aA.last hO7
  refine vV jO (vs:=nA z3) W.aB0 k3 hx7 (x':=⟨g,false,z3⟩) (A:=[.int .i64 g,.bool false]) (B:=nA v) rfl rfl rfl rfl (qE _) ha (by rw [hnl];exact hn') fun M8 h8=>?_
  have hO8:vF w0 F4 M8 p { P with l:=P.l.set i ⟨g,false,z3⟩ } sL sF (star (bA b3 [.int .i64 0,.int .i64 0,.int .i64 0] 153) Q):=by
   have:=k4 _ _ h8
   rw [List.set_set] at this
   exact this
  have e2:=hO8.r2
  have f1:rd w0 M8 ⟨b1,0,none⟩ = some (.int .i64 a):=aN (o:=0) (o1.le (Mem.le_trans (Mem.le_trans hle2 hle4) (aA.fr hO8)))
  simp only [aR W.c3,aR W.c53,Nat.zero_add,e2,f1,aC,aM,aL]
  refine rN (n:=1) (cells:=#[.int .i64 a]) Tryz.underlying53 W.e3 (by decide) (by kernel_rfl) fun bn hbn hwn=>?_
  rw [sJ]
  have hNw:aA w0 F4 _ (star (bA bn [.int .i64 a] 3) _):=aA.new hO8 hbn hwn [.int .i64 a] 3
  change aA w0 F4 (M8.set bn (.row (#[.int .i64 a]:Array Value).toList 3)) _ at hNw
  generalize M8.set bn _ = M9 at hNw ⊢
  obtain ⟨F7,hle7,hownN,hO9⟩:=aA.fY hNw
  have e9:rd w0 M9 ⟨p,2,none⟩ = some (SV.v sF):=aN (o:=2) (aA.bC hO9)
  refine ⟨e9,?_⟩
  obtain ⟨F8,k5,l5,k6⟩:=aA.last hO9
  obtain ⟨F9,k7,l7,k8⟩:=k5.last
  have hnF:sF.n = P.free.length:=by have:=vD (k:=1) k7;rw [this];simp [vN]
  refine vK (x:=⟨some ⟨bn,0,none⟩,1,1⟩) (news:=[.int .i64 a]) Tryz.underlying53 W.e3 k7 rfl (gW.own (hownN.le hO9.fr) fun j u hj=>by rw [Nat.zero_add];exact hj) (fun e0=>by cases e0) (by intro u hu;rw [List.mem_singleton.1 hu];rfl) (by decide) (by show sF.n + 1≤_;omega) fun M10 s10 h10=>?_
  rw [aM]
  have h11:=k6 _ _ (k8 _ _ h10)
  refine gO W.c53 (aA.bC h11) (by simp) rfl rfl ?_
  have h12:=aA.lJ h11 (cs':=[.int .i64 P.most,SV.v sL,SV.v s10]) (e':=211)
  rw [show ([.int .i64 P.most,SV.v sL,SV.v sF]:List Value).set 2 (SV.v s10) = [.int .i64 P.most,SV.v sL,SV.v s10] from rfl]
  generalize Mem.set M10 p _ = M11 at h12 ⊢
  subst ea
  have hgv:P.gK z3 i = { P with l:=P.l.set i ⟨g,false,z3⟩,free:=P.free ++ [i] }:=by
   unfold PS.gK
   rw [hx]
  have h13:vF w0 F7 M11 p (P.gK z3 i) sL s10 (star (bA b3 [.int .i64 0,.int .i64 0,.int .i64 0] 153) Q):=by
   rw [hgv]
   have hv:vN P.free ++ [.int .i64 (i:Int)] = vN (P.free ++ [i]):=by simp [vN]
   rw [hv] at h12
   exact h12
  rw [aGx (v:=v) (o:=0) (o49.le (Mem.le_trans hle7 (aA.fr h13))) (fun j u hj=>by rw [Nat.zero_add];exact hj)]
  simp only [aC,aZ,aW,aL,aU]
  have h14:=(vF.close h13).dY
  refine aLH h14 rfl (K:=fun v M=>R (.tuple #[v,.int .i64 0]) M) fun M12 h15=>?_
  rw [Int.toNat_natCast] at h1
  exact h1 M12 ((((h15.fO hle7).fO hle4).fO hle2).fO hle1)
 ·rw [hw] at hf;cases hf
theorem aJt {n:Int} (h:aA w0 F M Q) (h0:0≤n) (hn:n≤65536) (hR:∀ M' p,aA w0 F M' (star (rQ p ⟨n,[],[]⟩) Q)→R (.pointer (some ⟨p,0,none⟩)) M'):C PP w0 Id.cK #[.int .i64 n] R M:=by
 apply cK.go
 unfold cK.T aH
 have e1:(if 65536 < n then (65536:Int) else n) = n:=if_neg (by omega)
 have e2:(if n > 0 then n else 0) = n:=by split <;> omega
 rw [e1,e2]
 have hbld:(aJ PP w0).oF 211 [(0,.int .i64 n)] = some (.agg #[.int .i64 n,.slice none 0 0,.slice none 0 0]):=by kernel_rfl
 simp only [hbld,aC,aZ,aW,aL,sJ,aU]
 intro b hb hw
 have h1:aA w0 F _ (star (bA b _ 211) _):=h.new hb hw [.int .i64 n,SV.v ⟨none,0,0⟩,SV.v ⟨none,0,0⟩] 211
 refine hR _ b (vF.close (sL:=⟨none,0,0⟩) (sF:=⟨none,0,0⟩) ?_)
 obtain ⟨F1,k1,_,k2⟩:=h1.last
 exact k2 _ _ (aA.oB (aA.oB k1))
end
end HL
namespace HL
section
variable {w0:World} {F M:Mem} {R:VP} {p:Nat} {P:PS V5} {Q:cI}
def pR (p:Nat) (P:PS V5):cI:=fun r=>∃ sL sF:SV,star (bA p [.int .i64 P.most,SV.v sL,SV.v sF] 239) (star (dX 7 sL (P.l.flatMap pc5)) (dX 1 sF (vN P.free))) r
abbrev uV (w0:World) (F M:Mem) (p:Nat) (P:PS V5) (sL sF:SV) (Q:cI):Prop:=aA w0 F M (star (bA p [.int .i64 P.most,SV.v sL,SV.v sF] 239) (star (dX 7 sL (P.l.flatMap pc5)) (star (dX 1 sF (vN P.free)) Q)))
theorem pR.open_ (h:aA w0 F M (star (pR p P) Q)):∃ sL sF,uV w0 F M p P sL sF Q:=by
 obtain ⟨r,⟨r1,r2,rfl,⟨sL,sF,h1⟩,h2⟩,h3⟩:=h
 refine ⟨sL,sF,?_⟩
 have:aA w0 F M (star (star (bA p [.int .i64 P.most,SV.v sL,SV.v sF] 239) (star (dX 7 sL (P.l.flatMap pc5)) (dX 1 sF (vN P.free)))) Q):=⟨_,⟨r1,r2,rfl,h1,h2⟩,h3⟩
 have h4:=aA.assoc.1 this
 obtain ⟨F1,k1,_,k2⟩:=h4.last
 exact k2 _ _ (aA.assoc.1 k1)
theorem uV.close {sL sF:SV} (h:uV w0 F M p P sL sF Q):aA w0 F M (star (pR p P) Q):=by
 obtain ⟨F1,k1,_,k2⟩:=aA.last h
 have h1:=k2 _ _ (aA.assoc.2 k1)
 have h2:=aA.assoc.2 h1
 obtain ⟨r,⟨r1,r2,rfl,g1,g2⟩,g3⟩:=h2
 exact ⟨_,⟨r1,r2,rfl,⟨sL,sF,g1⟩,g2⟩,g3⟩
section
variable {sL sF:SV}
theorem uV.r0 (h:uV w0 F M p P sL sF Q):rd w0 M ⟨p,0,none⟩ = some (.int .i64 P.most):=aN (o:=0) h.bC
theorem uV.r1 (h:uV w0 F M p P sL sF Q):rd w0 M ⟨p,1,none⟩ = some (SV.v sL):=aN (o:=1) h.bC
theorem uV.r2 (h:uV w0 F M p P sL sF Q):rd w0 M ⟨p,2,none⟩ = some (SV.v sF):=aN (o:=2) h.bC
theorem uV.nL (h:uV w0 F M p P sL sF Q):sL.n = P.l.length:=aA.nR rA (by decide) h.right
theorem uV.nF (h:uV w0 F M p P sL sF Q):sF.n = P.free.length:=by
 have:=vD (k:=1) h.right.right
 rw [this];simp [vN]
theorem uV.el (h:uV w0 F M p P sL sF Q) {i:Nat} {x:sU V5} (hx:P.l[i]? = some x):∃ blk,sL.a = some ⟨blk,0,none⟩∧sL.n = P.l.length∧i < sL.n∧∀ f v,(pc5 x)[f]? = some v→rd w0 M ⟨blk,i * 7 + f,none⟩ = some v:=aA.adR rA (by decide) h.right hx
theorem uV.focus (h:uV w0 F M p P sL sF Q):∃ F5,aA w0 F5 M Q∧Mem.le F F5∧∀ M' Q',aA w0 F5 M' Q'→uV w0 F M' p P sL sF Q':=by
 obtain ⟨F1,k1,l1,k2⟩:=aA.last h
 obtain ⟨F2,k3,l2,k4⟩:=k1.last
 obtain ⟨F3,k5,l3,k6⟩:=k3.last
 exact ⟨F3,k5,Mem.le_trans l1 (Mem.le_trans l2 l3),fun M' Q' hh=>k2 _ _ (k4 _ _ (k6 _ _ hh))⟩
end
theorem aLi {b:Nat} {cs:List Value} {Pq:cI} {v:V5} (h:aA w0 F M (star (bA b cs 138) Pq)) (hcs:cs.length = 5) {K:VP} (hK:∀ M',aA w0 F M' Pq→K (.agg #[.int .i64 v.1,.int .i64 v.2.1,.int .i64 v.2.2.1,.int .i64 v.2.2.2.1,.int .i64 v.2.2.2.2]) M') :
  (aJ PP w0).st 138 ⟨b,0,none⟩ (.agg #[.int .i64 v.1,.int .i64 v.2.1,.int .i64 v.2.2.1,.int .i64 v.2.2.2.1,.int .i64 v.2.2.2.2]) (fun M1=>ob ((aJ PP w0).rdv 138 (.pointer (some ⟨b,0,none⟩)) M1) fun v=>K v M1) M:=by
 refine hJ (vs:=j9 v) W.aB1 h.bC (by rw [hcs];exact Nat.le_refl _) (dH v) ?_
 have h2:=h.lJ (cs':=eO cs 0 (j9 v)) (e':=138)
 have e0:eO cs 0 (j9 v) = j9 v:=by
  have:=eE [] cs [] (j9 v) (by rw [hcs];rfl) (o:=0) rfl
  simpa using this
 rw [e0] at h2 ⊢
 have o2:=h2.bC
 rw [rC,dG (cs:=j9 v) W.aB1 (fun j u hj=>by rw [add_eq,aN o2,Nat.zero_add];exact hj),aC]
 exact hK _ h2.right
theorem aGL {b o:Nat} {v:V5} {cs:List Value} {e:TypeId} (h:cS w0 M b cs e) (hc:∀ j u,(j9 v)[j]? = some u→cs[o + j]? = some u):(aJ PP w0).ld 138 ⟨b,o,none⟩ M = some (.agg #[.int .i64 v.1,.int .i64 v.2.1,.int .i64 v.2.2.1,.int .i64 v.2.2.2.1,.int .i64 v.2.2.2.2]) :=
 dG (cs:=j9 v) W.aB1 (fun j u hj=>by rw [add_eq,aN h];exact hc j u hj)
theorem aHv {b:Nat} {x y:Int} {e:TypeId} (h:cS w0 M b [.int .i64 x,.int .i64 y] e):(aJ PP w0).ld 33 ⟨b,0,none⟩ M = some (.agg #[.int .i64 x,.int .i64 y]) :=
 dG (cs:=[.int .i64 x,.int .i64 y]) W.g33 (fun j u hj=>by rw [add_eq,aN h,Nat.zero_add];exact hj)
theorem yW {sL sF:SV} {a g:Int} (h:uV w0 F M p P sL sF Q) (hb:P.l.length≤100000)
  (h1:∀ (i:Nat) v blk,a = (i:Int)→P.l[i]? = some ⟨g,true,v⟩→P.find a g = some v→sL.a = some ⟨blk,0,none⟩→∀ M',Mem.le M M'→R (.tuple #[.pointer (some ⟨blk,i * 7,none⟩),.int .i64 0]) M')
  (h0:P.find a g = none→∀ M' e,Mem.le M M'→e≠0→e = P.pl.look a g→R (.tuple #[.pointer none,.int .i64 e]) M') :
  C PP w0 Id.dA #[.pointer (some ⟨p,0,none⟩),.agg #[.int .i64 a,.int .i64 g]] R M:=by
 apply dA.go
 intro aB H
 unfold dA.T aH
 intro b1 hb1 hw1
 have l1:=Mem.fC (M:=M) (.row [.int .i64 a,.int .i64 g] 33) hb1
 have o1:cS w0 (M.set b1 (.row [.int .i64 a,.int .i64 g] 33)) b1 [.int .i64 a,.int .i64 g] 33:=cS.new hw1
 generalize M.set b1 _ = M1 at l1 o1 ⊢
 have hO:uV w0 F M1 p P sL sF Q:=aA.le h l1
 have f0:rd w0 M1 ⟨b1,0,none⟩ = some (.int .i64 a):=aN (o:=0) o1
 have f1:rd w0 M1 ⟨b1,1,none⟩ = some (.int .i64 g):=aN (o:=1) o1
 have fL:=hO.r1
 have hn:=hO.nL
 have hlk:∀ e,P.pl.look a g = e→e≠0→P.find a g = none:=fun e he eT=>by
  cases hf:P.find a g with
  | none=>rfl
  | some v =>
   have:=PS.p7.1 (show (P.find a g).isSome = true by rw [hf];rfl)
   exact absurd (he▸this) eT
 have h22:P.pl.look a g = 22→R (.tuple #[.pointer none,.int .i64 22]) M1:=fun e=>h0 (hlk 22 e (by decide)) M1 22 l1 (by decide) e.symm
 have h23:P.pl.look a g = 23→R (.tuple #[.pointer none,.int .i64 23]) M1:=fun e=>h0 (hlk 23 e (by decide)) M1 23 l1 (by decide) e.symm
 have hlook:P.pl.look a g = if a < 0∨(P.l.length:Int)≤a∨g < 1∨(P.l.map (·.g)).getD a.toNat 0 < g then 22 else if g < (P.l.map (·.g)).getD a.toNat 0∨(P.l.map (·.t)).getD a.toNat false = false then 23 else 0:=by
  unfold Pl.look PS.pl
  simp only [List.length_map]
 simp only [aT,aR W.c3,aR W.aFa,add_eq,Nat.zero_add,f0,f1,fL,aC,aL,aM]
 rw [cR]
 split
 ·rename_i ha
  exact h22 (by rw [hlook,if_pos (.inl ha)])
 ·rename_i ha
  rw [cR]
  split
  ·exact h22 (by rw [hlook,if_pos (.inr (.inl (by omega)))])
  ·rename_i hal
   rw [cR]
   split
   ·rename_i hg
    exact h22 (by rw [hlook,if_pos (.inr (.inr (.inl hg)))])
   ·rename_i hg
    obtain ⟨i,rfl⟩:∃ i:Nat,a = (i:Int):=⟨a.toNat,by omega⟩
    have hil:i < P.l.length:=by omega
    have hx:=List.getElem?_eq_getElem hil
    generalize P.l[i] = x at hx
    obtain ⟨blk,ha2,hn2,hi2,hrd⟩:=hO.el hx
    have eg:(P.l.map (·.g)).getD (i:Int).toNat 0 = x.g:=by rw [Int.toNat_natCast,List.getD_eq_getElem?_getD,List.getElem?_map,hx];rfl
    have et:(P.l.map (·.t)).getD (i:Int).toNat false = x.t:=by rw [Int.toNat_natCast,List.getD_eq_getElem?_getD,List.getElem?_map,hx];rfl
    rw [eg,et] at hlook
    have r0:rd w0 M1 ⟨blk,i * 7,none⟩ = some (.int .i64 x.g):=hrd 0 _ rfl
    have r1:rd w0 M1 ⟨blk,i * 7 + 1,none⟩ = some (.bool x.t):=hrd 1 _ rfl
    simp only [ha2,aT,Int.toNat_natCast,add_eq,Nat.zero_add,r0,aC,aL]
    refine ⟨⟨by omega,by omega⟩,?_⟩
    rw [cR]
    split
    ·rename_i hgg
     exact h22 (by rw [hlook,if_pos (.inr (.inr (.inr hgg)))])
    ·rename_i hgg
     have hno:¬ ((i:Int) < 0∨(P.l.length:Int)≤(i:Int)∨g < 1∨x.g < g):=by omega
     rw [if_neg hno] at hlook
     refine Eq.mpr (H.J1 ..) ?_
     unfold dA.J1.T aH
     simp only [aT,aR W.c3,aR W.c4,aR W.aFa,add_eq,Nat.zero_add,f0,f1,fL,aC,aL,aM,bU,ha2,Int.toNat_natCast,r0,r1]
     refine ⟨⟨by omega,by omega⟩,?_⟩
     rw [cR]
     split
     ·rename_i hlt
      exact h23 (by rw [hlook,if_pos (.inl hlt)])
     ·rename_i hlt
      cases ht:x.t with
      | false =>
       rw [Bool.not_false,dZ]
       exact h23 (by rw [hlook,if_pos (.inr ht)])
      | true =>
       rw [Bool.not_true,mE]
       have hgx:g = x.g:=by omega
       have hx2:P.l[i]? = some ⟨g,true,x.v⟩:=by
        rw [hx,hgx]
        obtain ⟨xg,xt,xv⟩:=x
        simp only at ht
        subst ht;rfl
       exact h1 i x.v blk rfl hx2 (PS.j6 hx2 (by omega)) ha2 M1 l1
theorem aAQ {a g:Int} (h:aA w0 F M (star (pR p P) Q)) (hb:P.l.length≤100000)
  (h1:∀ v,P.find a g = some v→∀ M',Mem.le M M'→R (.tuple #[.agg #[.int .i64 v.1,.int .i64 v.2.1,.int .i64 v.2.2.1,.int .i64 v.2.2.2.1,.int .i64 v.2.2.2.2],.int .i64 0]) M')
  (h0:P.find a g = none→∀ M' e,Mem.le M M'→e≠0→e = P.pl.look a g→R (.tuple #[.agg #[.int .i64 0,.int .i64 0,.int .i64 0,.int .i64 0,.int .i64 0],.int .i64 e]) M') :
  C PP w0 Id.jZ #[.pointer (some ⟨p,0,none⟩),.agg #[.int .i64 a,.int .i64 g]] R M:=by
 apply jZ.go
 unfold jZ.T aH
 obtain ⟨sL,sF,hO⟩:=pR.open_ h
 intro b1 hb1 hw1
 have l1:=Mem.fC (M:=M) (.row [.int .i64 a,.int .i64 g] 33) hb1
 have o1:cS w0 (M.set b1 (.row [.int .i64 a,.int .i64 g] 33)) b1 [.int .i64 a,.int .i64 g] 33:=cS.new hw1
 generalize M.set b1 _ = M1 at l1 o1 ⊢
 intro b3 hb3 hw3
 have n1:aA w0 M1 M1 (fun r=>r = []):=⟨[],rfl,Fit.nil (Mem.le_refl _)⟩
 have n3:aA w0 M1 _ (star (bA b3 _ 138) _):=n1.new hb3 hw3 [.int .i64 0,.int .i64 0,.int .i64 0,.int .i64 0,.int .i64 0] 138
 generalize M1.set b3 _ = M2 at n3 ⊢
 have l2:=n3.fr
 rw [aHv (o1.le l2)]
 simp only [aC,aZ,aW,aL,aU]
 have hO2:uV w0 F M2 p P sL sF Q:=aA.le hO (Mem.le_trans l1 l2)
 refine yW hO2 hb (fun i v blk ea hx hf ha M3 l3=>?_) fun hf M3 e l3 he hel=>?_
 ·simp only [cD,aW,bN,aL,aU]
  rw [cB,if_pos rfl,aT,add_eq]
  have hO3:uV w0 F M3 p P sL sF Q:=aA.le hO2 l3
  obtain ⟨blk',ha',hn',hi',hrd⟩:=hO3.el hx
  rw [ha] at ha';cases ha'
  rw [dG (cs:=j9 v) W.aB1 (fun j u hj=>by rw [add_eq,Nat.add_assoc];exact hrd (2 + j) u (by rw [Nat.add_comm];exact hj))]
  simp only [aC,aZ,aW,aL,aU]
  refine aLi (n3.le l3) rfl (K:=fun v M=>R (.tuple #[v,.int .i64 0]) M) fun M4 h4=>?_
  exact h1 v hf M4 (Mem.le_trans l1 h4.fr)
 ·simp only [cD,aW,bN,aL,aU]
  rw [cB,if_neg he]
  intro b22 hb22 hw22
  have l4:=Mem.fC (M:=M3) (.row [.int .i64 0,.int .i64 0,.int .i64 0,.int .i64 0,.int .i64 0] 138) hb22
  have o4:cS w0 (M3.set b22 (.row [.int .i64 0,.int .i64 0,.int .i64 0,.int .i64 0,.int .i64 0] 138)) b22 (j9 z5) 138:=cS.new hw22
  generalize M3.set b22 _ = M4 at l4 o4 ⊢
  rw [aGL (v:=z5) (o:=0) o4 (fun j u hj=>by rw [Nat.zero_add];exact hj)]
  simp only [aC,aZ,aW,aL,aU]
  refine aLi (v:=z5) (n3.le (Mem.le_trans l3 l4)) rfl (K:=fun v M=>R (.tuple #[v,.int .i64 e]) M) fun M5 h5=>?_
  exact h0 hf M5 e (Mem.le_trans l1 h5.fr) he hel
theorem aGa {a g:Int} {v w:V5} (h:aA w0 F M (star (pR p P) Q)) (hb:P.l.length≤100000) (hw:P.find a g = some w)
  (h1:∀ M',aA w0 F M' (star (pR p (P.put a.toNat v)) Q)→R (.int .i64 0) M') :
  C PP w0 Id.lD #[.pointer (some ⟨p,0,none⟩),.agg #[.int .i64 a,.int .i64 g],.agg #[.int .i64 v.1,.int .i64 v.2.1,.int .i64 v.2.2.1,.int .i64 v.2.2.2.1,.int .i64 v.2.2.2.2]] R M:=by
 apply lD.go
 unfold lD.T aH
 obtain ⟨sL,sF,hO⟩:=pR.open_ h
 intro b1 hb1 hw1
 have l1:=Mem.fC (M:=M) (.row [.int .i64 a,.int .i64 g] 33) hb1
 have o1:cS w0 (M.set b1 (.row [.int .i64 a,.int .i64 g] 33)) b1 [.int .i64 a,.int .i64 g] 33:=cS.new hw1
 generalize M.set b1 _ = M1 at l1 o1 ⊢
 intro b3 hb3 hw3
 have l2:=Mem.fC (M:=M1) (.row (j9 v) 138) hb3
 have o3:cS w0 (M1.set b3 (.row (j9 v) 138)) b3 (j9 v) 138:=cS.new hw3
 change _ at hb3
 generalize hM2:M1.set b3 _ = M2
 have hM2':M1.set b3 (.row (j9 v) 138) = M2:=hM2
 rw [hM2'] at l2 o3
 rw [aHv (o1.le l2)]
 simp only [aC,aZ,aW,aL,aU]
 have hO2:uV w0 F M2 p P sL sF Q:=aA.le hO (Mem.le_trans l1 l2)
 refine yW hO2 hb (fun i v' blk ea hx hf ha M3 l3=>?_) fun hf M3 e l3 he hel=>?_
 ·simp only [cD,aW,bN,aL,aU]
  rw [fJ,if_pos rfl,aGL (v:=v) (o:=0) (o3.le l3) (fun j u hj=>by rw [Nat.zero_add];exact hj)]
  simp only [aC,aZ,aW,aL,aU,aT,add_eq]
  have hO3:uV w0 F M3 p P sL sF Q:=aA.le hO2 l3
  have hn:=hO3.nL
  obtain ⟨F1,k1,_,k2⟩:=aA.last hO3
  refine vV rA (vs:=j9 v) W.aB1 k1 hx (x':=⟨g,true,v⟩) (A:=[.int .i64 g,.bool true]) (B:=j9 v') rfl rfl rfl rfl (dH v) ha hn fun M4 h4=>?_
  have h5:=k2 _ _ h4
  refine h1 M4 (uV.close (sL:=sL) (sF:=sF) ?_)
  subst ea
  rw [Int.toNat_natCast]
  obtain ⟨e1,e2,e3⟩:=PS.vY v hx
  unfold uV
  rw [e1,e2,e3]
  exact h5
 ·rw [hw] at hf;cases hf
theorem aGe (h:aA w0 F M (star (pR p P) Q)) (hb:P.l.length≤100000) (hf:P.free.length≤P.l.length) (hR:R (.int .i64 ((P.l.length - P.free.length:Nat):Int)) M) :
  C PP w0 Id.kO #[.pointer (some ⟨p,0,none⟩)] R M:=by
 apply kO.go
 unfold kO.T aH
 obtain ⟨sL,sF,hO⟩:=pR.open_ h
 simp only [aT,aR W.aFa,aR W.c53,add_eq,Nat.zero_add,hO.r1,hO.r2,aC,aM]
 rw [hO.nL,hO.nF,aQ (by omega),show (P.l.length:Int) - (P.free.length:Int) = ((P.l.length - P.free.length:Nat):Int) from by omega]
 exact hR
theorem aEB (h:aA w0 F M (star (pR p P) Q)) (hR:R (.int .i64 P.most) M) :
  C PP w0 Id.gU #[.pointer (some ⟨p,0,none⟩)] R M:=by
 apply gU.go
 unfold gU.T aH
 obtain ⟨sL,sF,hO⟩:=pR.open_ h
 simp only [aT,aR W.c3,hO.r0,aC,aL]
 exact hR
theorem aD8 {v:V5} (h:aA w0 F M (star (pR p P) Q)) (hok:P.Ok) (hb:P.l.length≤10000) (hfb:P.free.length≤10000) (hg:∀ x∈P.l,0≤x.g∧x.g≤1000000) {a:Nat} (hat:P.at_ = some a)
  (h1:∀ M',aA w0 F M' (star (pR p (P.take z5 a v)) Q)→R (.tuple #[.agg #[.int .i64 (a:Int),.int .i64 (P.gen a)],.bool true]) M') :
  C PP w0 Id.cZ #[.pointer (some ⟨p,0,none⟩),.agg #[.int .i64 v.1,.int .i64 v.2.1,.int .i64 v.2.2.1,.int .i64 v.2.2.2.1,.int .i64 v.2.2.2.2]] R M:=by
 apply cZ.go
 intro aB H
 unfold cZ.T aH
 intro b1 hb1 hw1
 have g1:aA w0 F _ (star (bA b1 (j9 v) 138) (star (pR p P) Q)):=h.new hb1 hw1 (j9 v) 138
 generalize hM1:M.set b1 _ = M1
 have hM1':M.set b1 (.row (j9 v) 138) = M1:=hM1
 rw [hM1'] at g1
 obtain ⟨F1,hle1,hown,g2⟩:=aA.fY g1
 intro b3 hb3 hw3
 have g3:aA w0 F1 _ (star (bA b3 _ 33) (star (pR p P) Q)):=g2.new hb3 hw3 [.int .i64 0,.int .i64 0] 33
 generalize M1.set b3 _ = M2 at g3 ⊢
 obtain ⟨sL,sF,hO⟩:=pR.open_ g3.dY
 have keyJ1:∀ (M':Mem) (P':PS V5) (sL sF:SV) (x:sU V5),uV w0 F1 M' p P' sL sF (star (bA b3 [.int .i64 0,.int .i64 0] 33) Q)→P'.l[a]? = some x→0≤x.g∧x.g≤1000000 →
   (∀ M'',aA w0 F1 M'' (star (pR p { P' with l:=P'.l.set a ⟨x.g + 1,true,v⟩ }) Q)→R (.tuple #[.agg #[.int .i64 (a:Int),.int .i64 (x.g + 1)],.bool true]) M'') →
   cZ.J1 aB (some ⟨p,0,none⟩) ⟨b1,0,none⟩ ⟨b3,0,none⟩ (a:Int) M':=by
  intro M' P' sL sF x hX hx hxg hR
  refine Eq.mpr (H.J1 ..) ?_
  unfold cZ.J1.T aH
  obtain ⟨blk,ha,hn,hi,hrd⟩:=hX.el hx
  have eL:=hX.r1
  have r0:rd w0 M' ⟨blk,a * 7,none⟩ = some (.int .i64 x.g):=hrd 0 _ rfl
  simp only [aT,aR W.c3,aR W.aFa,add_eq,Nat.zero_add,eL,aC,aM,ha,Int.toNat_natCast,r0,aL]
  refine ⟨⟨by omega,by omega⟩,?_⟩
  rw [aQ (by omega)]
  obtain ⟨F2,k1,_,k2⟩:=aA.last hX
  have hnl:∀ y,(P'.l.set a y).length = P'.l.length:=fun y=>List.length_set
  refine aA.stR (f:=0) rA (by decide) W.c3 k1 hx (x':={ x with g:=x.g + 1 }) (by decide) rfl rfl rfl ha fun M3 h3=>?_
  have hX3:uV w0 F1 M3 p { P' with l:=P'.l.set a { x with g:=x.g + 1 } } sL sF (star (bA b3 [.int .i64 0,.int .i64 0] 33) Q):=k2 _ _ h3
  rw [aGL (v:=v) (o:=0) (hown.le (aA.fr hX3)) (fun j u hj=>by rw [Nat.zero_add];exact hj)]
  simp only [aC,aZ,aW,aL,aU]
  have hal:a < P'.l.length:=(List.getElem?_eq_some_iff.1 hx).1
  have hx3:(P'.l.set a { x with g:=x.g + 1 })[a]? = some { x with g:=x.g + 1 }:=List.getElem?_set_self hal
  obtain ⟨F3,k3,_,k4⟩:=aA.last hX3
  refine aA.stR (f:=1) rA (by decide) W.c4 k3 hx3 (x':=⟨x.g + 1,true,x.v⟩) (by decide) rfl rfl rfl ha fun M4 h4=>?_
  have hX4:uV w0 F1 M4 p { P' with l:=P'.l.set a ⟨x.g + 1,true,x.v⟩ } sL sF (star (bA b3 [.int .i64 0,.int .i64 0] 33) Q):=by
   have:=k4 _ _ h4
   rw [List.set_set] at this
   exact this
  refine ⟨aGL (v:=v) (o:=0) (hown.le (aA.fr hX4)) (fun j u hj=>by rw [Nat.zero_add];exact hj),?_⟩
  have hx4:(P'.l.set a ⟨x.g + 1,true,x.v⟩)[a]? = some ⟨x.g + 1,true,x.v⟩:=List.getElem?_set_self hal
  obtain ⟨F4,k5,_,k6⟩:=aA.last hX4
  refine vV rA (vs:=j9 v) W.aB1 k5 hx4 (x':=⟨x.g + 1,true,v⟩) (A:=[.int .i64 (x.g + 1),.bool true]) (B:=j9 x.v) rfl rfl rfl rfl (dH v) ha (by rw [hnl];exact hn) fun M5 h5=>?_
  have hX5:uV w0 F1 M5 p { P' with l:=P'.l.set a ⟨x.g + 1,true,v⟩ } sL sF (star (bA b3 [.int .i64 0,.int .i64 0] 33) Q):=by
   have:=k6 _ _ h5
   rw [List.set_set] at this
   exact this
  have hx5:(P'.l.set a ⟨x.g + 1,true,v⟩)[a]? = some ⟨x.g + 1,true,v⟩:=List.getElem?_set_self hal
  obtain ⟨blk5,ha5,hn5,hi5,hrd5⟩:=hX5.el hx5
  rw [ha] at ha5;cases ha5
  have r5:rd w0 M5 ⟨blk,a * 7,none⟩ = some (.int .i64 (x.g + 1)):=hrd5 0 _ rfl
  have hbld:(aJ PP w0).oF 33 [(0,.int .i64 (a:Int)),(1,.int .i64 (x.g + 1))] = some (.agg #[.int .i64 (a:Int),.int .i64 (x.g + 1)]):=by kernel_rfl
  simp only [r5,aC,aL,hbld,aZ,aW,aU]
  obtain ⟨F5,k7,_,k8⟩:=uV.focus hX5
  refine aBs k7 (K:=fun v M=>R (.tuple #[v,.bool true]) M) fun M6 hback=>?_
  exact hR M6 (uV.close (k8 _ _ (hback _ _ k7)))
 have eL:=hO.r1
 have eF:=hO.r2
 have e0:=hO.r0
 have nL:=hO.nL
 have nF:=hO.nF
 simp only [aT,aR W.c3,aR W.c53,aR W.aFa,add_eq,Nat.zero_add,eL,eF,e0,aC,aM,aL]
 rw [cR]
 split
 ·-- one that was given back
  rename_i hpos
  have hp2:0 < P.free.length:=by
   apply Decidable.byContradiction
   intro hc
   have:sF.n = 0:=by omega
   rw [this] at hpos
   rw [show lN (((0:Nat):Int) - 1) = -1 from by rw [aQ (by omega)];omega] at hpos
   omega
  obtain ⟨bs,x,hbs⟩:∃ bs x,P.free = bs ++ [x]:=by
   rcases List.eq_nil_or_concat P.free with e | ⟨bs,x,e⟩
   ·rw [e] at hp2;simp at hp2
   ·exact ⟨bs,x,by rw [e,List.concat_eq_append]⟩
  have hlast:P.free.getLast? = some x:=by rw [hbs];simp
  have hax:a = x:=by
   unfold PS.at_ at hat
   rw [hlast] at hat
   simpa using hat.symm
  subst hax
  have hfl:P.free.length = bs.length + 1:=by rw [hbs];simp
  have hw:lN (((sF.n:Nat):Int) - 1) = ((bs.length:Nat):Int):=by rw [aQ (by omega)];omega
  obtain ⟨F2,k1,_,k2⟩:=aA.last hO
  obtain ⟨F3,k3,_,k4⟩:=k1.last
  have hc3:=dR k3
  obtain ⟨blk,rest,e,ha,q1,q2,q3⟩:=dX.row k3 (by omega)
  have hcap:sF.n≤sF.c:=by rw [Nat.mul_one] at q1 q2;omega
  rw [hw]
  refine rdv hc3.1 (vD (k:=1) k3) bs.length rfl (v:=.int .i64 (a:Int)) (by unfold vN;rw [hbs,List.getElem?_map,List.getElem?_append_right (Nat.le_refl _)];simp) ?_
  rw [aL]
  refine ⟨⟨by omega,by omega,by omega⟩,?_⟩
  have hsl:(Value.slice (if sF.c = (0:Int).toNat then sF.a else sF.a.map (·.add ((0:Int).toNat * 1))) (((bs.length:Nat):Int).toNat - (0:Int).toNat) (sF.c - (0:Int).toNat)) = SV.v ⟨some ⟨blk,0,none⟩,bs.length,sF.c⟩:=by
   rw [ha,Int.toNat_zero,Int.toNat_natCast,Nat.sub_zero,Nat.sub_zero,Nat.zero_mul]
   unfold SV.v
   simp only [Option.map_some,add_eq]
   split <;> rfl
  rw [hsl]
  refine gO W.c53 (aA.bC hO) (by simp) rfl rfl ?_
  have h4:=aA.lJ hO (cs':=[.int .i64 P.most,SV.v sL,SV.v ⟨some ⟨blk,0,none⟩,bs.length,sF.c⟩]) (e':=239)
  have hvs:vN P.free ++ rest = vN bs ++ (.int .i64 (a:Int)::rest):=by rw [hbs];simp [vN]
  have vQ:∀ (b':Bool),True:=fun _=>trivial
  obtain ⟨y,hy,hyt⟩:=hok.fr a (by rw [hbs];simp)
  refine keyJ1 _ { P with free:=bs } sL ⟨some ⟨blk,0,none⟩,bs.length,sF.c⟩ y ?_ hy (hg y (List.mem_of_getElem? hy)) fun M5 h5=>?_
  ·obtain ⟨F6,k6,_,k7⟩:=aA.last h4
   obtain ⟨F8,k8,_,k9⟩:=k6.last
   refine k7 _ _ (k9 _ _ ?_)
   obtain ⟨blk',rest',e',ha',q1',q2',q3'⟩:=dX.row k8 (by omega)
   rw [ha] at ha';cases ha'
   have hvs':vN P.free ++ rest' = vN bs ++ (.int .i64 (a:Int)::rest'):=by rw [hbs];simp [vN]
   rw [hvs'] at q3'
   have hvl:(vN bs).length = bs.length:=by simp [vN]
   have hvl2:(vN P.free).length = bs.length + 1:=by simp [vN,hfl]
   refine dX.ofRow q3' (by rw [hvl];omega) ?_
   rw [hvl,List.length_cons]
   rw [hvl2] at q2'
   omega
  ·have hgen:P.gen a = y.g + 1:=by unfold PS.gen;rw [hy]
   have htk:P.take z5 a v = { P with free:=bs,l:=P.l.set a ⟨y.g + 1,true,v⟩ }:=by
    unfold PS.take PS.grow
    rw [hlast,hgen]
    simp [hbs]
   rw [htk,hgen] at h1
   exact h1 M5 (h5.fO hle1)
 ·rename_i hpos
  have hp2:P.free = []:=by
   apply List.eq_nil_of_length_eq_zero
   apply Decidable.byContradiction
   intro hc
   rw [show lN (((sF.n:Nat):Int) - 1) = ((sF.n:Nat):Int) - 1 from aQ (by omega)] at hpos
   omega
  have hlast:P.free.getLast? = none:=by rw [hp2];rfl
  have hat2:=hat
  unfold PS.at_ at hat2
  rw [hlast] at hat2
  simp only at hat2
  split at hat2
  ·cases hat2
  ·rename_i hm
   have hal:a = P.l.length:=by simpa using hat2.symm
   rw [cR,if_neg (by omega)]
   have hbld:(aJ PP w0).oF 241 [] = some (.agg #[.int .i64 0,.bool false,.int .i64 0,.int .i64 0,.int .i64 0,.int .i64 0,.int .i64 0]):=by kernel_rfl
   simp only [hbld,aC,aZ,aW,aL,bU,aU]
   refine rN (n:=1) (cells:=#[.int .i64 0,.bool false,.int .i64 0,.int .i64 0,.int .i64 0,.int .i64 0,.int .i64 0]) Tryz.underlying237 W.aMq (by decide) (by kernel_rfl) fun bn hbn hwn=>?_
   rw [sJ]
   have hNw:aA w0 F1 _ (star (bA bn (pc5 ⟨0,false,z5⟩) 241) _):=aA.new hO hbn hwn (pc5 ⟨0,false,z5⟩) 241
   change aA w0 F1 (M2.set bn (.row (#[.int .i64 0,.bool false,.int .i64 0,.int .i64 0,.int .i64 0,.int .i64 0,.int .i64 0]:Array Value).toList 241)) _ at hNw
   generalize M2.set bn _ = M3 at hNw ⊢
   obtain ⟨F2,hle2,hownN,hO3⟩:=aA.fY hNw
   obtain ⟨F3,k1,l3,k2⟩:=aA.last hO3
   have hcap:=aA.aKq rA (by decide) k1
   refine vK (x:=⟨some ⟨bn,0,none⟩,1,1⟩) (news:=pc5 ⟨0,false,z5⟩) Tryz.underlying237 W.aMq k1 rfl (gW.own (hownN.le hO3.fr) fun j u hj=>by rw [Nat.zero_add];exact hj) (fun e0=>by cases e0) (aFU _) (by decide) (by show sL.n + 1≤_;omega) fun M4 s4 h4=>?_
   rw [aM]
   have h5:=k2 _ _ h4
   refine gO W.aFa (aA.bC h5) (by simp) rfl rfl ?_
   have h6:=aA.lJ h5 (cs':=[.int .i64 P.most,SV.v s4,SV.v sF]) (e':=239)
   rw [nL,←hal]
   have hfm:P.l.flatMap pc5 ++ pc5 ⟨0,false,z5⟩ = (P.l ++ ([⟨0,false,z5⟩]:List (sU V5))).flatMap pc5:=by simp
   refine keyJ1 _ { P with l:=P.l ++ ([⟨0,false,z5⟩]:List (sU V5)) } s4 sF ⟨0,false,z5⟩ ?_ (by rw [hal];simp) ⟨by show (0:Int)≤0;omega,by show (0:Int)≤1000000;omega⟩ fun M7 h7=>?_
   ·rw [hfm] at h6
    exact (aA.fO h6 hle2)
   ·have hgen:P.gen a = 0 + 1:=by
     unfold PS.gen
     rw [hal,List.getElem?_eq_none (Nat.le_refl _)]
     rfl
    have htk:P.take z5 a v = { P with l:=(P.l ++ ([⟨0,false,z5⟩]:List (sU V5))).set a ⟨0 + 1,true,v⟩ }:=by
     unfold PS.take PS.grow
     rw [hlast,hgen]
    rw [htk,hgen] at h1
    exact h1 M7 (h7.fO hle1)
theorem aDU {a g:Int} {v:V5} (h:aA w0 F M (star (pR p P) Q)) (hb:P.l.length≤10000) (hfb:P.free.length≤10000) (hw:P.find a g = some v)
  (h1:∀ M',aA w0 F M' (star (pR p (P.gK z5 a.toNat)) Q)→R (.tuple #[.agg #[.int .i64 v.1,.int .i64 v.2.1,.int .i64 v.2.2.1,.int .i64 v.2.2.2.1,.int .i64 v.2.2.2.2],.int .i64 0]) M') :
  C PP w0 Id.gM #[.pointer (some ⟨p,0,none⟩),.agg #[.int .i64 a,.int .i64 g]] R M:=by
 apply gM.go
 unfold gM.T aH
 obtain ⟨sL,sF,hO⟩:=pR.open_ h
 intro b1 hb1 hw1
 have g1:aA w0 F _ (star (bA b1 _ 33) _):=aA.new hO hb1 hw1 [.int .i64 a,.int .i64 g] 33
 generalize M.set b1 _ = M1 at g1 ⊢
 obtain ⟨F1,hle1,o1,g2⟩:=aA.fY g1
 intro b3 hb3 hw3
 have g3:aA w0 F1 _ (star (bA b3 _ 138) _):=aA.new g2 hb3 hw3 [.int .i64 0,.int .i64 0,.int .i64 0,.int .i64 0,.int .i64 0] 138
 generalize M1.set b3 _ = M2 at g3 ⊢
 intro b5 hb5 hw5
 have g4:aA w0 F1 _ (star (bA b5 _ 138) _):=aA.new g3 hb5 hw5 (j9 z5) 138
 generalize hM3:M2.set b5 _ = M3
 have hM3':M2.set b5 (.row (j9 z5) 138) = M3:=hM3
 rw [hM3'] at g4
 obtain ⟨F2,hle2,o5,g5⟩:=aA.fY g4
 have oz:∀ M',Mem.le F2 M'→(aJ PP w0).ld 138 ⟨b5,0,none⟩ M' = some (.agg #[.int .i64 0,.int .i64 0,.int .i64 0,.int .i64 0,.int .i64 0]):=fun M' hM=>aGL (v:=z5) (o:=0) (o5.le hM) (fun j u hj=>by rw [Nat.zero_add];exact hj)
 rw [aHv (o1.le (Mem.le_trans hle2 g5.fr))]
 simp only [aC,aZ,aW,aL,aU]
 obtain ⟨F3,hO3,hle3,mA⟩:=g5.last
 refine yW hO3 (by omega) (fun i v' blk ea hx hf ha M4 l4=>?_) fun hf M4 e l4 he hel=>?_
 ·rw [hw] at hf
  cases hf
  have g6:=g5.le l4
  simp only [cD,aW,bN,aL,aU]
  rw [cB,if_pos rfl,aT,add_eq]
  have hO4:uV w0 F2 M4 p P sL sF (star (bA b3 [.int .i64 0,.int .i64 0,.int .i64 0,.int .i64 0,.int .i64 0] 138) Q):=by
   obtain ⟨F4,q1,_,q2⟩:=aA.last g6.dY
   exact q2 _ _ (by
    obtain ⟨F5,q3,_,q4⟩:=q1.dY.last
    exact q4 _ _ q3.dY)
  obtain ⟨blk',ha',hn',hi',hrd⟩:=hO4.el hx
  rw [ha] at ha';cases ha'
  rw [dG (cs:=j9 v) W.aB1 (fun j u hj=>by rw [add_eq,Nat.add_assoc];exact hrd (2 + j) u (by rw [Nat.add_comm];exact hj))]
  simp only [aC,aZ,aW,aL,aU]
  intro b49 hb49 hw49
  have g7:aA w0 F2 _ (star (bA b49 _ 138) _):=aA.new hO4 hb49 hw49 [.int .i64 0,.int .i64 0,.int .i64 0,.int .i64 0,.int .i64 0] 138
  generalize M4.set b49 _ = M5 at g7 ⊢
  refine hJ (vs:=j9 v) W.aB1 g7.bC (by exact Nat.le_refl _) (dH v) ?_
  have g8:=g7.lJ (cs':=eO [.int .i64 0,.int .i64 0,.int .i64 0,.int .i64 0,.int .i64 0] 0 (j9 v)) (e':=138)
  have e0:eO [.int .i64 0,.int .i64 0,.int .i64 0,.int .i64 0,.int .i64 0] 0 (j9 v) = j9 v:=by
   have:=eE [] [.int .i64 0,.int .i64 0,.int .i64 0,.int .i64 0,.int .i64 0] [] (j9 v) rfl (o:=0) rfl
   simpa using this
  rw [e0] at g8 ⊢
  generalize M5.set b49 _ = M6 at g8 ⊢
  obtain ⟨F4,hle4,o49,hO6⟩:=aA.fY g8
  rw [oz M6 (Mem.le_trans hle4 hO6.fr)]
  simp only [aC,aZ,aW,aL,aU,aT,add_eq]
  have hil:i < P.l.length:=(List.getElem?_eq_some_iff.1 hx).1
  have hnl:∀ y,(P.l.set i y).length = P.l.length:=fun y=>List.length_set
  obtain ⟨F5,k1,_,k2⟩:=aA.last hO6
  refine aA.stR (f:=1) rA (by decide) W.c4 k1 hx (x':=⟨g,false,v⟩) (by decide) rfl rfl rfl ha fun M7 h7=>?_
  have hO7:uV w0 F4 M7 p { P with l:=P.l.set i ⟨g,false,v⟩ } sL sF (star (bA b3 [.int .i64 0,.int .i64 0,.int .i64 0,.int .i64 0,.int .i64 0] 138) Q):=k2 _ _ h7
  refine ⟨oz M7 (Mem.le_trans hle4 (aA.fr hO7)),?_⟩
  have hx7:(P.l.set i ⟨g,false,v⟩)[i]? = some ⟨g,false,v⟩:=List.getElem?_set_self hil
  obtain ⟨F6,k3,_,k4⟩:=aA.last hO7
  refine vV rA (vs:=j9 z5) W.aB1 k3 hx7 (x':=⟨g,false,z5⟩) (A:=[.int .i64 g,.bool false]) (B:=j9 v) rfl rfl rfl rfl (dH _) ha (by rw [hnl];exact hn') fun M8 h8=>?_
  have hO8:uV w0 F4 M8 p { P with l:=P.l.set i ⟨g,false,z5⟩ } sL sF (star (bA b3 [.int .i64 0,.int .i64 0,.int .i64 0,.int .i64 0,.int .i64 0] 138) Q):=by
   have:=k4 _ _ h8
   rw [List.set_set] at this
   exact this
  have e2:=hO8.r2
  have f1:rd w0 M8 ⟨b1,0,none⟩ = some (.int .i64 a):=aN (o:=0) (o1.le (Mem.le_trans (Mem.le_trans hle2 hle4) (aA.fr hO8)))
  simp only [aR W.c3,aR W.c53,Nat.zero_add,e2,f1,aC,aM,aL]
  refine rN (n:=1) (cells:=#[.int .i64 a]) Tryz.underlying53 W.e3 (by decide) (by kernel_rfl) fun bn hbn hwn=>?_
  rw [sJ]
  have hNw:aA w0 F4 _ (star (bA bn [.int .i64 a] 3) _):=aA.new hO8 hbn hwn [.int .i64 a] 3
  change aA w0 F4 (M8.set bn (.row (#[.int .i64 a]:Array Value).toList 3)) _ at hNw
  generalize M8.set bn _ = M9 at hNw ⊢
  obtain ⟨F7,hle7,hownN,hO9⟩:=aA.fY hNw
  have e9:rd w0 M9 ⟨p,2,none⟩ = some (SV.v sF):=aN (o:=2) (aA.bC hO9)
  refine ⟨e9,?_⟩
  obtain ⟨F8,k5,l5,k6⟩:=aA.last hO9
  obtain ⟨F9,k7,l7,k8⟩:=k5.last
  have hnF:sF.n = P.free.length:=by have:=vD (k:=1) k7;rw [this];simp [vN]
  refine vK (x:=⟨some ⟨bn,0,none⟩,1,1⟩) (news:=[.int .i64 a]) Tryz.underlying53 W.e3 k7 rfl (gW.own (hownN.le hO9.fr) fun j u hj=>by rw [Nat.zero_add];exact hj) (fun e0=>by cases e0) (by intro u hu;rw [List.mem_singleton.1 hu];rfl) (by decide) (by show sF.n + 1≤_;omega) fun M10 s10 h10=>?_
  rw [aM]
  have h11:=k6 _ _ (k8 _ _ h10)
  refine gO W.c53 (aA.bC h11) (by simp) rfl rfl ?_
  have h12:=aA.lJ h11 (cs':=[.int .i64 P.most,SV.v sL,SV.v s10]) (e':=239)
  rw [show ([.int .i64 P.most,SV.v sL,SV.v sF]:List Value).set 2 (SV.v s10) = [.int .i64 P.most,SV.v sL,SV.v s10] from rfl]
  generalize Mem.set M10 p _ = M11 at h12 ⊢
  subst ea
  have hgv:P.gK z5 i = { P with l:=P.l.set i ⟨g,false,z5⟩,free:=P.free ++ [i] }:=by
   unfold PS.gK
   rw [hx]
  have h13:uV w0 F7 M11 p (P.gK z5 i) sL s10 (star (bA b3 [.int .i64 0,.int .i64 0,.int .i64 0,.int .i64 0,.int .i64 0] 138) Q):=by
   rw [hgv]
   have hv:vN P.free ++ [.int .i64 (i:Int)] = vN (P.free ++ [i]):=by simp [vN]
   rw [hv] at h12
   exact h12
  rw [aGL (v:=v) (o:=0) (o49.le (Mem.le_trans hle7 (aA.fr h13))) (fun j u hj=>by rw [Nat.zero_add];exact hj)]
  simp only [aC,aZ,aW,aL,aU]
  have h14:=(uV.close h13).dY
  refine aLi h14 rfl (K:=fun v M=>R (.tuple #[v,.int .i64 0]) M) fun M12 h15=>?_
  rw [Int.toNat_natCast] at h1
  exact h1 M12 ((((h15.fO hle7).fO hle4).fO hle2).fO hle1)
 ·rw [hw] at hf;cases hf
theorem aJ5 {n:Int} (h:aA w0 F M Q) (h0:0≤n) (hn:n≤65536) (hR:∀ M' p,aA w0 F M' (star (pR p ⟨n,[],[]⟩) Q)→R (.pointer (some ⟨p,0,none⟩)) M'):C PP w0 Id.dU #[.int .i64 n] R M:=by
 apply dU.go
 unfold dU.T aH
 have e1:(if 65536 < n then (65536:Int) else n) = n:=if_neg (by omega)
 have e2:(if n > 0 then n else 0) = n:=by split <;> omega
 rw [e1,e2]
 have hbld:(aJ PP w0).oF 239 [(0,.int .i64 n)] = some (.agg #[.int .i64 n,.slice none 0 0,.slice none 0 0]):=by kernel_rfl
 simp only [hbld,aC,aZ,aW,aL,sJ,aU]
 intro b hb hw
 have h1:aA w0 F _ (star (bA b _ 239) _):=h.new hb hw [.int .i64 n,SV.v ⟨none,0,0⟩,SV.v ⟨none,0,0⟩] 239
 refine hR _ b (uV.close (sL:=⟨none,0,0⟩) (sF:=⟨none,0,0⟩) ?_)
 obtain ⟨F1,k1,_,k2⟩:=h1.last
 exact k2 _ _ (aA.oB (aA.oB k1))
end
end HL
namespace HL
def eV (e:bR):List Value:=[.int .i64 e.1,.int .i64 e.2]
def gH (l:List bR):List Value:=l.flatMap eV
theorem nO (e:bR) (l:List bR):gH (e::l) = .int .i64 e.1::.int .i64 e.2::gH l:=rfl
theorem fM (l m:List bR):gH (l ++ m) = gH l ++ gH m:=by simp [gH]
theorem c8 (l:List bR):(gH l).length = l.length * 2:=by
 induction l with
 | nil=>rfl
 | cons e l ih=>rw [nO,List.length_cons,List.length_cons,List.length_cons,ih];omega
theorem aKa {l:List bR}:∀ {i:Nat} {e:bR},l[i]? = some e→(gH l)[i * 2]? = some (.int .i64 e.1)∧(gH l)[i * 2 + 1]? = some (.int .i64 e.2):=by
 induction l with
 | nil=>intro i e h;simp at h
 | cons x l ih =>
  intro i e h
  cases i with
  | zero =>
   simp at h;subst h
   exact ⟨rfl,rfl⟩
  | succ i =>
   rw [List.getElem?_cons_succ] at h
   obtain ⟨h1,h2⟩:=ih h
   rw [nO]
   refine ⟨?_,?_⟩
   ·rw [show (i + 1) * 2 = (i * 2 + 1) + 1 from by omega,List.getElem?_cons_succ,List.getElem?_cons_succ];exact h1
   ·rw [show (i + 1) * 2 + 1 = (i * 2 + 1 + 1) + 1 from by omega,List.getElem?_cons_succ,List.getElem?_cons_succ];exact h2
theorem tE (l:List bR):∀ v∈gH l,bS v = true:=by
 intro v hv
 obtain ⟨e,_,h⟩:=List.mem_flatMap.1 hv
 simp [eV] at h
 rcases h with rfl | rfl <;> rfl
theorem aEo (l:List bR):∀ (i:Nat),gH (l.take i) = (gH l).take (i * 2):=by
 induction l with
 | nil=>intro i;simp [gH]
 | cons x l ih =>
  intro i
  cases i with
  | zero=>simp [gH]
  | succ i=>rw [List.take_succ_cons,nO,nO,ih,show (i + 1) * 2 = i * 2 + 1 + 1 from by omega];rfl
theorem aBh (l:List bR):∀ (i:Nat),gH (l.drop i) = (gH l).drop (i * 2):=by
 induction l with
 | nil=>intro i;simp [gH]
 | cons x l ih =>
  intro i
  cases i with
  | zero=>simp
  | succ i=>rw [List.drop_succ_cons,ih,nO,show (i + 1) * 2 = i * 2 + 1 + 1 from by omega];rfl
structure wK (w0:World) (M0:Mem) (s:SV) (l:List bR):Prop where
 len:s.n = l.length
 cap:s.n≤s.c
 nul:s.a = none→s.n = 0
 cells:∀ M,Mem.le M0 M→gW w0 M s.a (gH l)
def SV.cut (s:SV) (lo hi:Nat):SV:=⟨if s.c = lo then s.a else s.a.map (·.add (lo * 2)),hi - lo,s.c - lo⟩
def Es (s:SV) (l:List bR):cI:=dX 2 s (gH l)
section
variable {w0:World} {M M0 F:Mem} {R:VP}
theorem wK.le {M1:Mem} {s:SV} {l:List bR} (h:wK w0 M0 s l) (hl:Mem.le M0 M1):wK w0 M1 s l:=⟨h.len,h.cap,h.nul,fun M hM=>h.cells M (Mem.le_trans hl hM)⟩
theorem wK.cut {s:SV} {l:List bR} (h:wK w0 M0 s l) {lo hi:Nat} (h1:lo≤hi) (h2:hi≤l.length):wK w0 M0 (s.cut lo hi) ((l.take hi).drop lo):=by
 have hl:=h.len
 have hc:=h.cap
 refine ⟨by simp [SV.cut];omega,by simp only [SV.cut];omega,fun e=>?_,fun M hM=>?_⟩
 ·simp only [SV.cut] at e ⊢
  split at e
  ·have:=h.nul e;omega
  ·have:=h.nul (by simpa using e);omega
 ·have hcs:=h.cells M hM
  intro j v hj
  have hj2:(gH l)[lo * 2 + j]? = some v:=by
   rw [aBh,aEo,List.getElem?_drop] at hj
   have hlt:=(List.getElem?_eq_some_iff.1 hj).1
   rw [List.getElem?_take] at hj
   split at hj
   ·exact hj
   ·cases hj
  obtain ⟨ad,ea,hr⟩:=hcs _ v hj2
  have hlt:=(List.getElem?_eq_some_iff.1 hj2).1
  rw [c8] at hlt
  refine ⟨ad.add (lo * 2),?_,?_⟩
  ·simp only [SV.cut]
   rw [if_neg (by omega),ea];rfl
  ·rw [add_add];exact hr
theorem wK.ad {s:SV} {l:List bR} (h:wK w0 M0 s l) {j:Nat} {x:bR} (hj:l[j]? = some x):∃ a,s.a = some a∧∀ M,Mem.le M0 M→rd w0 M (a.add (j * 2)) = some (.int .i64 x.1)∧rd w0 M (a.add (j * 2 + 1)) = some (.int .i64 x.2):=by
 obtain ⟨g1,g2⟩:=aKa hj
 obtain ⟨a,ea,_⟩:=h.cells M0 (Mem.le_refl _) _ _ g1
 refine ⟨a,ea,fun M hM=>?_⟩
 obtain ⟨a1,ea1,hr1⟩:=h.cells M hM _ _ g1
 obtain ⟨a2,ea2,hr2⟩:=h.cells M hM _ _ g2
 rw [ea] at ea1 ea2;cases ea1;cases ea2
 exact ⟨hr1,hr2⟩
theorem wK.ld {s:SV} {l:List bR} (h:wK w0 M0 s l) {j:Nat} {x:bR} (hj:l[j]? = some x):∃ a,s.a = some a∧∀ M,Mem.le M0 M→(aJ PP w0).ld 44 (a.add (j * 2)) M = some (.agg #[.int .i64 x.1,.int .i64 x.2]):=by
 obtain ⟨a,ea,hr⟩:=h.ad hj
 refine ⟨a,ea,fun M hM=>?_⟩
 obtain ⟨r1,r2⟩:=hr M hM
 exact dG (cs:=[.int .i64 x.1,.int .i64 x.2]) W.g44 (fun f v hv=>by
  match f,hv with
  | 0,hv=>simp at hv;subst hv;rw [add_add];exact r1
  | 1,hv=>simp at hv;subst hv;rw [add_add];exact r2)
theorem nJ {s:SV} {l:List bR} (h:wK w0 M0 s l) (hl:Mem.le M0 M) {i:Int} (j:Nat) (e:i = (j:Int)) {x:bR} (hj:l[j]? = some x) {K:Int→Int→Prop} (hK:K x.1 x.2) :
  nc s.a fun a=>(0≤i∧i < ((s.n:Nat):Int))∧ob ((aJ PP w0).ld 44 (a.add (i.toNat * 2)) M) fun v=>shA v fun l5=>cM l5 fun u6 r7=>mZ .i64 u6 fun n8=>cM r7 fun u9 r10=>mZ .i64 u9 fun n11=>oY r10 (K n8 n11):=by
 subst e
 obtain ⟨a,ea,hr⟩:=h.ld hj
 have hlt:=(List.getElem?_eq_some_iff.1 hj).1
 have:=h.len
 rw [ea,aT,Int.toNat_natCast,hr M hl]
 simp only [aC,aZ,aW,aL,aU]
 exact ⟨⟨by omega,by omega⟩,hK⟩
theorem aMU {s:SV} {l:List bR} (h:wK w0 M0 s l) (hl:Mem.le M0 M) {i:Int} (j:Nat) (e:i = (j:Int)) {x:bR} (hj:l[j]? = some x) {K:Addr→Int→Int→Prop}
  (hK:∀ a,(∀ M,Mem.le M0 M→(aJ PP w0).ld 44 (a.add (i.toNat * 2)) M = some (.agg #[.int .i64 x.1,.int .i64 x.2]))→K a x.1 x.2) :
  nc s.a fun a=>(0≤i∧i < ((s.n:Nat):Int))∧ob ((aJ PP w0).ld 44 (a.add (i.toNat * 2)) M) fun v=>shA v fun l5=>cM l5 fun u6 r7=>mZ .i64 u6 fun n8=>cM r7 fun u9 r10=>mZ .i64 u9 fun n11=>oY r10 (K a n8 n11):=by
 subst e
 obtain ⟨a,ea,hr⟩:=h.ld hj
 have hlt:=(List.getElem?_eq_some_iff.1 hj).1
 have:=h.len
 rw [ea,aT,Int.toNat_natCast,hr M hl]
 simp only [aC,aZ,aW,aL,aU]
 exact ⟨⟨by omega,by omega⟩,hK a (fun M hM=>by rw [Int.toNat_natCast];exact hr M hM)⟩
theorem aLZ {t:TypeId} (ht:iF PP t = true) {s:SV} {l:List bR} (h:wK w0 M0 s l) (hl:Mem.le M0 M) {i:Int} (j:Nat) (e:i = (j:Int)) {x:bR} (hj:l[j]? = some x) {K:Int→Prop} (hK:K x.2) :
  nc s.a fun a=>(0≤i∧i < ((s.n:Nat):Int))∧ob ((aJ PP w0).ld t (Addr.add (a.add (i.toNat * 2)) 1) M) fun v=>mZ .i64 v fun n=>K n:=by
 subst e
 obtain ⟨a,ea,hr⟩:=h.ad hj
 have hlt:=(List.getElem?_eq_some_iff.1 hj).1
 have:=h.len
 rw [ea,aT,Int.toNat_natCast,aR ht,add_add,(hr M hl).2,aC,aL]
 exact ⟨⟨by omega,by omega⟩,hK⟩
theorem wE.nJ {s:SV} {l:List bR} (h:wE w0 M0 M 2 s (gH l)):wK w0 M s l:=by
 refine ⟨?_,h.cap (by decide),fun e=>(h.none e).1,fun M2 hM=>(h.le hM).cells⟩
 have:=h.len
 rw [c8] at this;omega
theorem aA.nJ {s:SV} {l:List bR} {Q:cI} (h:aA w0 F M (star (Es s l) Q)):wK w0 M s l:=by
 obtain ⟨F',h1,_⟩:=aA.slk h
 exact h1.nJ
theorem aHk {s x:SV} {l m:List bR} {Q:cI} (h:aA w0 F M (star (Es s l) Q)) (hx:wK w0 M x m) (hb:l.length + m.length≤137438953472) {K:VP} (hK:∀ M' s',aA w0 F M' (star (Es s' (l ++ m)) Q)→K s'.v M') :
  (aJ PP w0).app #[85,85] 85 [SV.v s,SV.v x] K M:=by
 obtain ⟨F',h1,h2,h3⟩:=aA.slk h
 have hl:=h1.nJ.len
 refine aAM (k:=2) Tryz.underlying85 W.e44 h2 h1 (news:=gH m) (by rw [c8,hx.len]) (hx.cells M (Mem.le_refl _)) hx.nul (tE m) (by decide) (by rw [hl,hx.len];exact hb) fun M' s' l1 l2 _=>?_
 refine hK M' s' (h3 M' s' _ ?_ l1)
 rw [fM];exact l2
theorem aIC {P:cI} (h:aA w0 F M P) {K:VP} (hK:∀ M' s',Mem.le M M'→s'.a≠none→aA w0 F M' (star (Es s' []) P)→K s'.v M'):(aJ PP w0).bsl 85 0 [] K M:=by
 refine rN (cells:=#[]) Tryz.underlying85 W.e44 (by decide) (by kernel_rfl) fun b hb hw=>?_
 have l1:Mem.le M (M.set b (.row (#[]:Array Value).toList 44)):=Mem.fC _ hb
 exact hK _ ⟨some ⟨b,0,none⟩,0,0⟩ l1 (by simp) (aA.tV h l1 (wE.new (n:=0) hb (cS.new hw) rfl))
theorem aJf {P:cI} (h:aA w0 F M P) (x y:Int) {K:VP} (hK:∀ M' s',Mem.le M M'→aA w0 F M' (star (Es s' [(x,y)]) P)→K s'.v M'):(aJ PP w0).bsl 85 1 [(0,.agg #[.int .i64 x,.int .i64 y])] K M:=by
 refine rN (n:=1) (cells:=#[.int .i64 x,.int .i64 y]) Tryz.underlying85 W.e44 (by decide) (by kernel_rfl) fun b hb hw=>?_
 have l1:Mem.le M (M.set b (.row (#[Value.int .i64 x,.int .i64 y]:Array Value).toList 44)):=Mem.fC _ hb
 exact hK _ ⟨some ⟨b,0,none⟩,1,1⟩ l1 (aA.tV h l1 (wE.new (n:=1) hb (cS.new hw) rfl))
theorem stE {s:SV} {l:List bR} {Q:cI} (h:aA w0 F M (star (Es s l) Q)) {i:Int} (j:Nat) (e:i = (j:Int)) (hj:j < l.length) {x y:Int} {K:Mem→Prop} (hK:∀ M',aA w0 F M' (star (Es s (l.set j (x,y))) Q)→K M') :
  nc s.a fun a=>(0≤i∧i < ((s.n:Nat):Int))∧(aJ PP w0).st 44 (a.add (i.toNat * 2)) (.agg #[.int .i64 x,.int .i64 y]) (fun M'=>K M') M:=by
 subst e
 have hr:=h.nJ
 obtain ⟨r,⟨r1,r2,rfl,h1,h2⟩,h3⟩:=h
 rcases h1 with ⟨rfl,h0,_⟩ | ⟨b,rest,e,ha,hl,hl2,rfl⟩
 ·have:=hr.len;simp at this;omega
 ·rw [ha,aT,Int.toNat_natCast,add_eq,Nat.zero_add]
  rw [c8] at hl hl2
  refine ⟨⟨by omega,by have:=hr.len;omega⟩,?_⟩
  refine hJ (vs:=[.int .i64 x,.int .i64 y]) W.g44 (h3.own List.mem_cons_self) (by rw [List.length_append,c8];simp;omega) (fun v hv=>by simp at hv;rcases hv with rfl | rfl <;> rfl) ?_
  refine hK _ ⟨_,⟨_,r2,rfl,.inr ⟨b,rest,e,ha,by rw [c8,List.length_set];exact hl,by rw [c8,List.length_set];exact hl2,rfl⟩,h2⟩,?_⟩
  have hov:eO (gH l ++ rest) (j * 2) [.int .i64 x,.int .i64 y] = gH (l.set j (x,y)) ++ rest:=by
   have h1:l = l.take j ++ (l[j]::l.drop (j + 1)):=by rw [←List.drop_eq_getElem_cons hj,List.take_append_drop]
   have h2:l.set j (x,y) = l.take j ++ ((x,y)::l.drop (j + 1)):=by rw [List.set_eq_take_append_cons_drop,if_pos hj]
   rw [h2,fM,nO]
   conv=>lhs;rw [h1,fM,nO]
   have:=eE (gH (l.take j)) [.int .i64 l[j].1,.int .i64 l[j].2] (gH (l.drop (j + 1)) ++ rest) [.int .i64 x,.int .i64 y] rfl (o:=j * 2) (by rw [c8,List.length_take];omega)
   simpa using this
  rw [hov]
  exact h3.upd
end
end HL
namespace HL
section
variable {w0:World} {M M0 F:Mem} {R:VP}
theorem aDc {a0 a1 b0 b1:Int} {K:Nat→Nat→Mem→Prop} (h:∀ x1 x2 M',Mem.le M M'→(aJ PP w0).ld 44 ⟨x1,0,none⟩ M' = some (.agg #[.int .i64 a0,.int .i64 a1])→(aJ PP w0).ld 44 ⟨x2,0,none⟩ M' = some (.agg #[.int .i64 b0,.int .i64 b1]) →
  rd w0 M' ⟨x1,0,none⟩ = some (.int .i64 a0)→rd w0 M' ⟨x1,1,none⟩ = some (.int .i64 a1)→rd w0 M' ⟨x2,0,none⟩ = some (.int .i64 b0)→rd w0 M' ⟨x2,1,none⟩ = some (.int .i64 b1)→cS w0 M' x1 [.int .i64 a0,.int .i64 a1] 44→cS w0 M' x2 [.int .i64 b0,.int .i64 b1] 44→K x1 x2 M') :
  (aJ PP w0).nw [.int .i64 a0,.int .i64 a1] 44 (fun b1' M2=>(aJ PP w0).nw [.int .i64 b0,.int .i64 b1] 44 (fun b3 M4=>K b1' b3 M4) M2) M:=by
 intro x1 hx1 hw1
 intro x2 hx2 hw2
 have f1:=((Fit.nil (w0:=w0) (Mem.le_refl M)).new hx1 hw1 (cs:=[.int .i64 a0,.int .i64 a1]) (e:=44)).new hx2 hw2 (cs:=[.int .i64 b0,.int .i64 b1]) (e:=44)
 have o2:=f1.own List.mem_cons_self
 have o1:=f1.own (List.mem_cons_of_mem _ List.mem_cons_self)
 refine h x1 x2 _ f1.fr ?_ ?_ (aN (o:=0) o1) (aN (o:=1) o1) (aN (o:=0) o2) (aN (o:=1) o2) o1 o2
 ·exact dG (cs:=[.int .i64 a0,.int .i64 a1]) W.g44 (fun j v hj=>by rw [add_eq,aN o1,Nat.zero_add];exact hj)
 ·exact dG (cs:=[.int .i64 b0,.int .i64 b1]) W.g44 (fun j v hj=>by rw [add_eq,aN o2,Nat.zero_add];exact hj)
theorem yL {a b:bR} (h:∀ M',Mem.le M M'→R (.bool (decide (Lt a b))) M'):C PP w0 Id.iI #[.agg #[.int .i64 a.1,.int .i64 a.2],.agg #[.int .i64 b.1,.int .i64 b.2]] R M:=by
 apply iI.go
 unfold iI.T aH
 refine aDc fun x1 x2 M1 l1 e1 e2 r1 r2 r3 r4 o1 o2=>?_
 have hh:=h M1 l1
 have g:∀ b1:Bool,b1 = decide (Lt a b)→R (.bool b1) M1:=fun b1 e=>by rw [e];exact hh
 simp only [go_sem,add_eq,Nat.zero_add,r1,r2,r3,r4,cR]
 split
 ·rename_i h1
  exact g true (decide_eq_true (Or.inl h1)).symm
 ·rename_i h1
  rw [fJ]
  split
  ·rename_i h2
   refine g _ ?_
   by_cases h3:a.2 < b.2
   ·rw [decide_eq_true h3];exact (decide_eq_true (show Lt a b from Or.inr ⟨h2,h3⟩)).symm
   ·rw [decide_eq_false h3];exact (decide_eq_false (show ¬ Lt a b from fun h4=>by unfold Lt at h4;omega)).symm
  ·rename_i h2
   exact g false (decide_eq_false (by unfold Lt;omega)).symm
theorem aHA (a b:bR):(a.1 == b.1 && a.2 == b.2) = decide (a = b):=by
 by_cases h:a = b
 ·subst h;simp
 ·rw [decide_eq_false h]
  by_cases h1:a.1 = b.1
  ·have:a.2≠b.2:=fun h2=>h (Prod.ext h1 h2)
   simp [h1,this]
  ·simp [h1]
theorem aIo {s t:SV} {l m:List bR} (hs:wK w0 M s l) (ht:wK w0 M t m) (hb:l.length≤1000000) (h:R (.bool (decide (l = m))) M):C PP w0 Id.dQ #[SV.v s,SV.v t] R M:=by
 apply dQ.go
 intro aB H
 unfold dQ.T aH
 have h1:=hs.len
 have h2:=ht.len
 rw [cB]
 split
 ·rename_i hn
  have hlen:l.length = m.length:=by omega
  have key:∀ (k i:Nat),l.length < i + k→i≤l.length→(∀ j,j < i→l[j]? = m[j]?)→dQ.L1 aB k s t (i:Int) M:=by
   intro k
   induction k with
   | zero=>intro i g1 g2;omega
   | succ k ih =>
    intro i g1 g2 hpre
    refine Eq.mpr (H.L1 ..) ?_
    unfold dQ.L1.T aH
    rw [cR]
    split
    ·have hi:i < l.length:=by omega
     have ex:=List.getElem?_eq_getElem hi
     have ey:=List.getElem?_eq_getElem (show i < m.length by omega)
     refine nJ hs (Mem.le_refl _) i rfl ex ?_
     refine nJ ht (Mem.le_refl _) i rfl ey ?_
     rw [neE,aHA,aC,bU]
     by_cases e:l[i] = m[i]
     ·rw [decide_eq_true e,Bool.not_true,mE,aQ (by omega)]
      refine ih (i + 1) (by omega) (by omega) fun j hj=>?_
      by_cases e2:j = i
      ·subst e2;rw [ex,ey,e]
      ·exact hpre j (by omega)
     ·rw [decide_eq_false e,Bool.not_false,dZ]
      have:¬ l = m:=fun e2=>e (by subst e2;rfl)
      rw [decide_eq_false this] at h;exact h
    ·have:i = l.length:=by omega
     subst this
     have:l = m:=by
      apply List.ext_getElem?
      intro j
      by_cases hj:j < l.length
      ·exact hpre j hj
      ·rw [List.getElem?_eq_none (by omega),List.getElem?_eq_none (by omega)]
     rw [decide_eq_true this] at h;exact h
  exact ⟨l.length + 1,key (l.length + 1) 0 (by omega) (by omega) (fun j hj=>by omega)⟩
 ·rename_i hn
  have:¬ l = m:=fun e=>by subst e;omega
  rw [decide_eq_false this] at h;exact h
theorem aCk {s:SV} {l:List bR} {Q:cI} (hQ:aA w0 F M Q) (hs:wK w0 M s l) (hb:l.length≤1000000) (h:∀ M' s',aA w0 F M' (star (Es s' l) Q)→R s'.v M'):C PP w0 Id.fV #[SV.v s] R M:=by
 apply fV.go
 unfold fV.T aH
 rw [W.aL3,aC,bU,aHn]
 refine ⟨fun hn=>?_,fun hn=>?_⟩
 ·have hn0:s.a = none:=by cases ha:s.a with
   | none=>rfl
   | some a=>rw [ha] at hn;cases hn
  have:l = []:=List.eq_nil_of_length_eq_zero (by have:=hs.nul hn0;have:=hs.len;omega)
  subst this
  exact h M ⟨none,0,0⟩ (aA.oB hQ)
 ·refine aIC hQ fun M1 s1 l1 eT h1=>?_
  rw [aM]
  refine aHk h1 (hs.le l1) (by simp;omega) fun M2 s2 h2=>?_
  rw [aM]
  exact h M2 s2 h2
end
end HL
namespace HL
def jE {κ:Type}:Nat→List (sU κ)→List bR
 | _,[]=>[]
 | i,x::l=>if x.t = true then ((i:Int),x.g)::jE (i + 1) l else jE (i + 1) l
def PS.refs {κ:Type} (p:PS κ):List bR:=jE 0 p.l
theorem uB {κ:Type}:∀ (l m:List (sU κ)) (i:Nat),jE i (l ++ m) = jE i l ++ jE (i + l.length) m
 | [],m,i=>rfl
 | x::l,m,i=>by
  simp only [List.cons_append,jE,uB l m (i + 1),List.length_cons]
  rw [show i + 1 + l.length = i + (l.length + 1) from by omega]
  split <;> rfl
theorem p6 {κ:Type}:∀ (l:List (sU κ)) (i:Nat),(jE i l).length≤l.length
 | [],i=>Nat.le_refl _
 | x::l,i=>by
  have:=p6 l (i + 1)
  simp only [jE,List.length_cons]
  split
  ·rw [List.length_cons];omega
  ·omega
theorem rE {κ:Type}:∀ {l:List (sU κ)} {i:Nat} {r:bR},r∈jE i l↔∃ (j:Nat) (x:sU κ),l[j]? = some x∧x.t = true∧r = (((i + j:Nat):Int),x.g)
 | [],i,r=>by simp [jE]
 | x::l,i,r=>by
  have ih:r∈jE (i + 1) l↔_:=rE (l:=l) (i:=i + 1) (r:=r)
  have key:(∃ (j:Nat) (y:sU κ),(x::l)[j]? = some y∧y.t = true∧r = (((i + j:Nat):Int),y.g))↔(x.t = true∧r = ((i:Int),x.g))∨∃ (j:Nat) (y:sU κ),l[j]? = some y∧y.t = true∧r = (((i + 1 + j:Nat):Int),y.g):=by
   constructor
   ·rintro ⟨j,y,h1,h2,h3⟩
    cases j with
    | zero =>
     simp only [List.getElem?_cons_zero,Option.some.injEq] at h1
     subst h1
     exact .inl ⟨h2,by rw [h3];simp⟩
    | succ j=>exact .inr ⟨j,y,by simpa using h1,h2,by rw [h3];congr 2;omega⟩
   ·rintro (⟨h1,h2⟩ | ⟨j,y,h1,h2,h3⟩)
    ·exact ⟨0,x,rfl,h1,by rw [h2];simp⟩
    ·exact ⟨j + 1,y,by simpa using h1,h2,by rw [h3];congr 2;omega⟩
  rw [key]
  simp only [jE]
  split
  ·rename_i ht
   rw [List.mem_cons,ih]
   exact ⟨fun h=>h.imp (fun h=>⟨ht,h⟩) id,fun h=>h.imp (fun h=>h.2) id⟩
  ·rename_i ht
   rw [ih]
   exact ⟨fun h=>.inr h,fun h=>h.resolve_left fun h=>ht h.1⟩
section
variable {w0:World} {F M M0:Mem} {R:VP} {Q:cI}
theorem aFE {s x:SV} {l m:List bR} {Q:cI} (h:aA w0 F M (star (Es s l) Q)) (hx:wK w0 M x m) (hb:l.length + m.length≤137438953472) {K:VP} (hK:∀ M' s',aA w0 F M' (star (Es s' (l ++ m)) Q)→K s'.v M') :
  (aJ PP w0).app #[30,30] 30 [SV.v s,SV.v x] K M:=by
 obtain ⟨F',h1,h2,h3⟩:=aA.slk h
 have hl:=h1.nJ.len
 refine aAM (k:=2) Tryz.underlying30 W.e33 h2 h1 (news:=gH m) (by rw [c8,hx.len]) (hx.cells M (Mem.le_refl _)) hx.nul (tE m) (by decide) (by rw [hl,hx.len];exact hb) fun M' s' l1 l2 _=>?_
 refine hK M' s' (h3 M' s' _ ?_ l1)
 rw [fM];exact l2
theorem aF5 {P:cI} (h:aA w0 F M P) (x y:Int) {K:VP} (hK:∀ M' s',Mem.le M M'→aA w0 F M' (star (Es s' [(x,y)]) P)→K s'.v M'):(aJ PP w0).bsl 30 1 [(0,.agg #[.int .i64 x,.int .i64 y])] K M:=by
 refine rN (n:=1) (cells:=#[.int .i64 x,.int .i64 y]) Tryz.underlying30 W.e33 (by decide) (by kernel_rfl) fun b hb hw=>?_
 have l1:Mem.le M (M.set b (.row (#[Value.int .i64 x,.int .i64 y]:Array Value).toList 33)):=Mem.fC _ hb
 exact hK _ ⟨some ⟨b,0,none⟩,1,1⟩ l1 (aA.tV h l1 (wE.new (n:=1) hb (cS.new hw) rfl))
theorem wK.aMH {s:SV} {l:List bR} (h:wK w0 M0 s l) {j:Nat} {x:bR} (hj:l[j]? = some x):∃ a,s.a = some a∧∀ M,Mem.le M0 M→(aJ PP w0).ld 33 (a.add (j * 2)) M = some (.agg #[.int .i64 x.1,.int .i64 x.2]):=by
 obtain ⟨a,ea,hr⟩:=h.ad hj
 refine ⟨a,ea,fun M hM=>?_⟩
 obtain ⟨r1,r2⟩:=hr M hM
 exact dG (cs:=[.int .i64 x.1,.int .i64 x.2]) W.g33 (fun f v hv=>by
  match f,hv with
  | 0,hv=>simp at hv;subst hv;rw [add_add];exact r1
  | 1,hv=>simp at hv;subst hv;rw [add_add];exact r2)
theorem aGm {s:SV} {l:List bR} (h:wK w0 M0 s l) (hl:Mem.le M0 M) {i:Int} (j:Nat) (e:i = (j:Int)) {x:bR} (hj:l[j]? = some x) {K:Int→Int→Prop} (hK:K x.1 x.2) :
  nc s.a fun a=>(0≤i∧i < ((s.n:Nat):Int))∧ob ((aJ PP w0).ld 33 (a.add (i.toNat * 2)) M) fun v=>shA v fun l5=>cM l5 fun u6 r7=>mZ .i64 u6 fun n8=>cM r7 fun u9 r10=>mZ .i64 u9 fun n11=>oY r10 (K n8 n11):=by
 subst e
 obtain ⟨a,ea,hr⟩:=h.aMH hj
 have hlt:=(List.getElem?_eq_some_iff.1 hj).1
 have:=h.len
 rw [ea,aT,Int.toNat_natCast,hr M hl]
 simp only [aC,aZ,aW,aL,aU]
 exact ⟨⟨by omega,by omega⟩,hK⟩
theorem aJb (x y:Int):(aJ PP w0).oF 33 [(0,.int .i64 x),(1,.int .i64 y)] = some (.agg #[.int .i64 x,.int .i64 y]):=by kernel_rfl
theorem aJA {p:Nat} {P:PS V3} (h:aA w0 F M (star (rQ p P) Q)) (hb:P.l.length≤100000)
  (hR:∀ M' s',Mem.le M M'→aA w0 F M' (star (Es s' P.refs) (star (rQ p P) Q))→R s'.v M') :
  C PP w0 Id.dJ #[.pointer (some ⟨p,0,none⟩)] R M:=by
 apply dJ.go
 intro aB H
 unfold dJ.T aH
 obtain ⟨sL,sF,hO⟩:=rQ.open_ h
 have hn:=hO.nL
 simp only [aT,aR W.aER,add_eq,Nat.zero_add,hO.r1,aC,aM]
 have key:∀ (B A:List (sU V3)) (s:SV) (M1:Mem) (k:Nat),P.l = A ++ B→Mem.le M M1→aA w0 M M1 (Es s (jE 0 A))→B.length < k→dJ.L1 aB k s sL ((sL.n:Nat):Int) (A.length:Int) M1:=by
  intro B
  induction B with
  | nil =>
   intro A s M1 k he hl hH hk
   obtain ⟨k,rfl⟩:∃ j,k = j + 1:=⟨k - 1,by omega⟩
   rw [List.append_nil] at he
   refine Eq.mpr (H.L1 ..) ?_
   unfold dJ.L1.T aH
   rw [cR,if_neg (by rw [hn,he];omega)]
   refine hR M1 s hl ?_
   rw [←he] at hH
   exact h.beside hH
  | cons x B ih =>
   intro A s M1 k he hl hH hk
   obtain ⟨k,rfl⟩:∃ j,k = j + 1:=⟨k - 1,by omega⟩
   have ll:=congrArg List.length he
   simp only [List.length_append,List.length_cons] at ll hk
   have hx:P.l[A.length]? = some x:=by rw [he];simp
   have hO1:vF w0 F M1 p P sL sF Q:=aA.le hO hl
   obtain ⟨blk,ha,hn',hi,hrd⟩:=hO1.el hx
   refine Eq.mpr (H.L1 ..) ?_
   unfold dJ.L1.T aH
   rw [cR,if_pos (by omega),ha,aT,Int.toNat_natCast,add_eq,Nat.zero_add,dG (cs:=yU x) W.aMu (fun j u hj=>by rw [add_eq];exact hrd j u hj)]
   unfold yU nA
   simp only [aC,aZ,aW,aL,bU,aU]
   refine ⟨⟨by omega,by omega⟩,?_⟩
   intro b23 hb23 hw23
   have hN:aA w0 M _ (star (bA b23 _ 259) _):=hH.new hb23 hw23 [.int .i64 0,.bool false,.int .i64 0,.int .i64 0,.int .i64 0] 259
   refine hJ (vs:=yU x) W.aMu hN.bC (by exact Nat.le_refl _) (aDv x) ?_
   have hN2:=hN.lJ (cs':=eO [.int .i64 0,.bool false,.int .i64 0,.int .i64 0,.int .i64 0] 0 (yU x)) (e':=259)
   have e0:eO [.int .i64 0,.bool false,.int .i64 0,.int .i64 0,.int .i64 0] 0 (yU x) = yU x:=by
    have:=eE [] [.int .i64 0,.bool false,.int .i64 0,.int .i64 0,.int .i64 0] [] (yU x) rfl (o:=0) rfl
    simpa using this
   rw [e0] at hN2 ⊢
   generalize Mem.set _ b23 _ = M2 at hN2 ⊢
   have o2:=hN2.bC
   have f0:rd w0 M2 ⟨b23,0,none⟩ = some (.int .i64 x.g):=aN (o:=0) o2
   have f1:rd w0 M2 ⟨b23,1,none⟩ = some (.bool x.t):=aN (o:=1) o2
   simp only [aR W.c4,aR W.c3,add_eq,Nat.zero_add,f0,f1,aC,bU,aL,aJb,aZ,aW,aU]
   have hlr:=p6 A 0
   cases ht:x.t with
   | true =>
    rw [dZ]
    refine aF5 hN2.right _ _ fun M3 s3 l3 h3=>?_
    rw [aM]
    have h3':aA w0 M M3 (star (Es s (jE 0 A)) (Es s3 [((A.length:Int),x.g)])):=h3.comm
    refine aFE h3' h3.nJ (by simp;omega) fun M4 s4 h4=>?_
    rw [aM,bX (by omega)]
    have:=ih (A ++ [x]) s4 M4 k (by rw [he];simp) h4.fr ?_ (by omega)
    ·rw [List.length_append,List.length_singleton] at this;exact this
    ·have e9:jE 0 (A ++ [x]) = jE 0 A ++ [((A.length:Int),x.g)]:=by
      rw [uB];simp [jE,ht]
     rw [e9]
     exact h4.left
   | false =>
    rw [mE,bX (by omega)]
    have:=ih (A ++ [x]) s M2 k (by rw [he];simp) hN2.fr ?_ (by omega)
    ·rw [List.length_append,List.length_singleton] at this;exact this
    ·have e9:jE 0 (A ++ [x]) = jE 0 A:=by
      rw [uB];simp [jE,ht]
     rw [e9]
     exact hN2.right
 refine ⟨P.l.length + 1,key P.l [] ⟨none,0,0⟩ M _ rfl (Mem.le_refl _) ?_ (by omega)⟩
 exact ⟨[],.inl ⟨rfl,rfl,rfl⟩,Fit.nil (Mem.le_refl _)⟩
theorem aDm {p:Nat} {P:PS V5} (h:aA w0 F M (star (pR p P) Q)) (hb:P.l.length≤100000)
  (hR:∀ M' s',Mem.le M M'→aA w0 F M' (star (Es s' P.refs) (star (pR p P) Q))→R s'.v M') :
  C PP w0 Id.dL #[.pointer (some ⟨p,0,none⟩)] R M:=by
 apply dL.go
 intro aB H
 unfold dL.T aH
 obtain ⟨sL,sF,hO⟩:=pR.open_ h
 have hn:=hO.nL
 simp only [aT,aR W.aFa,add_eq,Nat.zero_add,hO.r1,aC,aM]
 have key:∀ (B A:List (sU V5)) (s:SV) (M1:Mem) (k:Nat),P.l = A ++ B→Mem.le M M1→aA w0 M M1 (Es s (jE 0 A))→B.length < k→dL.L1 aB k s sL ((sL.n:Nat):Int) (A.length:Int) M1:=by
  intro B
  induction B with
  | nil =>
   intro A s M1 k he hl hH hk
   obtain ⟨k,rfl⟩:∃ j,k = j + 1:=⟨k - 1,by omega⟩
   rw [List.append_nil] at he
   refine Eq.mpr (H.L1 ..) ?_
   unfold dL.L1.T aH
   rw [cR,if_neg (by rw [hn,he];omega)]
   refine hR M1 s hl ?_
   rw [←he] at hH
   exact h.beside hH
  | cons x B ih =>
   intro A s M1 k he hl hH hk
   obtain ⟨k,rfl⟩:∃ j,k = j + 1:=⟨k - 1,by omega⟩
   have ll:=congrArg List.length he
   simp only [List.length_append,List.length_cons] at ll hk
   have hx:P.l[A.length]? = some x:=by rw [he];simp
   have hO1:uV w0 F M1 p P sL sF Q:=aA.le hO hl
   obtain ⟨blk,ha,hn',hi,hrd⟩:=hO1.el hx
   refine Eq.mpr (H.L1 ..) ?_
   unfold dL.L1.T aH
   rw [cR,if_pos (by omega),ha,aT,Int.toNat_natCast,add_eq,Nat.zero_add,dG (cs:=pc5 x) W.aMb (fun j u hj=>by rw [add_eq];exact hrd j u hj)]
   unfold pc5 j9
   simp only [aC,aZ,aW,aL,bU,aU]
   refine ⟨⟨by omega,by omega⟩,?_⟩
   intro b23 hb23 hw23
   have hN:aA w0 M _ (star (bA b23 _ 241) _):=hH.new hb23 hw23 [.int .i64 0,.bool false,.int .i64 0,.int .i64 0,.int .i64 0,.int .i64 0,.int .i64 0] 241
   refine hJ (vs:=pc5 x) W.aMb hN.bC (by exact Nat.le_refl _) (aFU x) ?_
   have hN2:=hN.lJ (cs':=eO [.int .i64 0,.bool false,.int .i64 0,.int .i64 0,.int .i64 0,.int .i64 0,.int .i64 0] 0 (pc5 x)) (e':=241)
   have e0:eO [.int .i64 0,.bool false,.int .i64 0,.int .i64 0,.int .i64 0,.int .i64 0,.int .i64 0] 0 (pc5 x) = pc5 x:=by
    have:=eE [] [.int .i64 0,.bool false,.int .i64 0,.int .i64 0,.int .i64 0,.int .i64 0,.int .i64 0] [] (pc5 x) rfl (o:=0) rfl
    simpa using this
   rw [e0] at hN2 ⊢
   generalize Mem.set _ b23 _ = M2 at hN2 ⊢
   have o2:=hN2.bC
   have f0:rd w0 M2 ⟨b23,0,none⟩ = some (.int .i64 x.g):=aN (o:=0) o2
   have f1:rd w0 M2 ⟨b23,1,none⟩ = some (.bool x.t):=aN (o:=1) o2
   simp only [aR W.c4,aR W.c3,add_eq,Nat.zero_add,f0,f1,aC,bU,aL,aJb,aZ,aW,aU]
   have hlr:=p6 A 0
   cases ht:x.t with
   | true =>
    rw [dZ]
    refine aF5 hN2.right _ _ fun M3 s3 l3 h3=>?_
    rw [aM]
    have h3':aA w0 M M3 (star (Es s (jE 0 A)) (Es s3 [((A.length:Int),x.g)])):=h3.comm
    refine aFE h3' h3.nJ (by simp;omega) fun M4 s4 h4=>?_
    rw [aM,bX (by omega)]
    have:=ih (A ++ [x]) s4 M4 k (by rw [he];simp) h4.fr ?_ (by omega)
    ·rw [List.length_append,List.length_singleton] at this;exact this
    ·have e9:jE 0 (A ++ [x]) = jE 0 A ++ [((A.length:Int),x.g)]:=by
      rw [uB];simp [jE,ht]
     rw [e9]
     exact h4.left
   | false =>
    rw [mE,bX (by omega)]
    have:=ih (A ++ [x]) s M2 k (by rw [he];simp) hN2.fr ?_ (by omega)
    ·rw [List.length_append,List.length_singleton] at this;exact this
    ·have e9:jE 0 (A ++ [x]) = jE 0 A:=by
      rw [uB];simp [jE,ht]
     rw [e9]
     exact hN2.right
 refine ⟨P.l.length + 1,key P.l [] ⟨none,0,0⟩ M _ rfl (Mem.le_refl _) ?_ (by omega)⟩
 exact ⟨[],.inl ⟨rfl,rfl,rfl⟩,Fit.nil (Mem.le_refl _)⟩
end
end HL
namespace HL
section
variable {P:Program} {w0:World} {M F:Mem} {κ ν:Type} [DecidableEq κ]
abbrev Mes (κ ν:Type):=List ((κ × ν) × Nat)
def qP (kf:κ→Value) (vf:ν→Value) (x:(κ × ν) × Nat):MapEntry:=⟨kf x.1.1,vf x.1.2,x.2⟩
def fIx (vf:ν→Value) (k:κ):Mes κ ν→Nat→Option (Nat × Value)
 | [],_=>none
 | x::l,i=>if k = x.1.1 then some (i,vf x.1.2) else fIx vf k l (i + 1)
def getM (k:κ) (l:Mes κ ν):Option ν:=(l.find? fun x=>decide (k = x.1.1)).map (·.1.2)
theorem y4 {vf:ν→Value} {k:κ}:∀ {l:Mes κ ν} {i:Nat},fIx vf k l i = none→∀ x∈l,k≠x.1.1
 | [],_,_,x,hx=>by cases hx
 | y::l,i,h,x,hx=>by
  unfold fIx at h
  split at h
  ·cases h
  ·rename_i hn
   rcases List.mem_cons.1 hx with rfl | hx
   ·exact hn
   ·exact y4 h x hx
theorem zB {vf:ν→Value} {k:κ}:∀ {l:Mes κ ν} {i:Nat} {r:Nat × Value},fIx vf k l i = some r→∃ A x B,l = A ++ x::B∧r = (i + A.length,vf x.1.2)∧k = x.1.1∧∀ y∈A,k≠y.1.1
 | [],_,_,h=>by cases h
 | y::l,i,r,h=>by
  unfold fIx at h
  split at h
  ·rename_i hn
   cases h
   exact ⟨[],y,l,rfl,rfl,hn,fun y hy=>by cases hy⟩
  ·rename_i hn
   obtain ⟨A,x,B,rfl,rfl,h3,h4⟩:=zB h
   refine ⟨y::A,x,B,rfl,by rw [List.length_cons];congr 1;omega,h3,fun z hz=>?_⟩
   rcases List.mem_cons.1 hz with rfl | hz
   ·exact hn
   ·exact h4 z hz
theorem getM_none {k:κ} {l:Mes κ ν} (h:∀ x∈l,k≠x.1.1):getM k l = none:=by
 unfold getM
 rw [List.find?_eq_none.2 fun x hx=>by simpa using h x hx];rfl
theorem aBK {k:κ} {A B:Mes κ ν} {x:(κ × ν) × Nat} (h:∀ y∈A,k≠y.1.1) (hk:k = x.1.1):getM k (A ++ x::B) = some x.1.2:=by
 unfold getM
 rw [List.find?_append,List.find?_eq_none.2 fun y hy=>by simpa using h y hy,List.find?_cons]
 simp [hk]
theorem uZ {k:κ} {A B:Mes κ ν} {x:(κ × ν) × Nat} (hk:k≠x.1.1):getM k (A ++ x::B) = getM k (A ++ B):=by
 unfold getM
 rw [List.find?_append,List.find?_append,List.find?_cons]
 simp [hk]
structure aBz (P:Program) (t:TypeId) (kf:κ→Value):Prop where
 find:∀ {ν:Type} (w0:World) (M:Mem) (vf:ν→Value) (l:Mes κ ν) (k:κ),fD P w0 M (Instr.findKey t (kf k) (l.map (qP kf vf))) = some (fIx vf k l 0)
 chk:∀ b k,dT P (Instr.checkKey b 10000 t (kf k)) = some ()
 bits:∀ k,Instr.sameBits 10000 (kf k) (kf k) = true
theorem aHQ {t:TypeId} (ht:P.underlying t = some (.int .i64)) (hc:∀ b (k:Int),dT P (Instr.checkKey b 10000 t (.int .i64 k)) = some ()):aBz P t (Value.int .i64):=by
 refine ⟨fun w0 M vf l k=>?_,hc,fun k=>by simp [Instr.sameBits]⟩
 have key:∀ (l:Mes Int _) (i:Nat),Instr.findNow (.int .i64) (.int .i64 k) (l.map (qP (Value.int .i64) vf)) i = some (fIx vf k l i):=by
  intro l
  induction l with
  | nil=>intro i;rfl
  | cons x l ih =>
   intro i
   simp only [List.map_cons,qP,Instr.findNow,Instr.sameNow,if_true,fIx]
   by_cases he:k = x.1.1
   ·rw [if_pos he,beq_iff_eq.2 he]
   ·rw [if_neg he,beq_eq_false_iff_ne.2 he]
    exact ih (i + 1)
 unfold Instr.findKey
 rw [eY (eP ht),key l 0]
 rfl
theorem aEc {t:TypeId} {fs:Array Field} {kf:κ→Value} (ht:P.underlying t = some (.struct fs)) (hk:∀ k,∃ cs,kf k = .agg cs) (he:∀ k k',dT P (Op.equal t (kf k) (kf k')) = some (decide (k = k')))
  (hc:∀ b k,dT P (Instr.checkKey b 10000 t (kf k)) = some ()) (hb:∀ k,Instr.sameBits 10000 (kf k) (kf k) = true):aBz P t kf:=by
 refine ⟨fun w0 M vf l k=>?_,hc,hb⟩
 have ask:∀ (l:Mes κ _) (i:Nat),fD P w0 M (Instr.findAsking t (kf k) (l.map (qP kf vf)) i) = some (fIx vf k l i):=by
  intro l
  induction l with
  | nil=>intro i;rfl
  | cons x l ih =>
   intro i
   simp only [List.map_cons,qP,Instr.findAsking,fIx]
   rw [eY (xJ (he k x.1.1))]
   by_cases h:k = x.1.1
   ·rw [if_pos h,decide_eq_true h];rfl
   ·rw [if_neg h,decide_eq_false h];exact ih (i + 1)
 unfold Instr.findKey
 rw [eY (eP ht)]
 cases l with
 | nil=>rfl
 | cons x l =>
  obtain ⟨cs,hcs⟩:=hk k
  have hn:Instr.findNow (.struct fs) (kf k) ((x::l).map (qP kf vf)) 0 = none:=by
   rw [hcs];rfl
  rw [hn]
  exact ask (x::l) 0
def dM (kf:κ→Value) (vf:ν→Value) (m:κ→Option ν) (o:Obj):Prop :=
 ∃ (l:Mes κ ν) (ck:Nat),o = .map (l.map (qP kf vf)).toArray ck∧(l.map (·.1.1)).Nodup∧∀ k,m k = getM k l
def gB (m:κ→Option ν) (k:κ) (v:Option ν):κ→Option ν:=fun x=>if x = k then v else m x
theorem aJP {t:TypeId} {kf:κ→Value} {vf:ν→Value} {K:VP} (h:∀ r o,M r = none→w0.heap.size≤r→dM kf vf (fun _=>none) o→K (.map (some r)) (M.set r (.obj o))):(aJ P w0).mkm t none K M:=by
 show act P w0 (Instr.makeMap t none) K M
 exact ⟨rfl,fun b hb hw=>h b _ hb hw ⟨[],0,rfl,List.nodup_nil,fun k=>rfl⟩⟩
section
variable {tm key elem:TypeId} {kf:κ→Value} {vf:ν→Value} {m:κ→Option ν} {o:Obj} {r:Nat} {k:κ}
theorem lkF {z:Value} {i:TypeInfo} (ht:P.underlying tm = some (.map key elem)) (hk:aBz P key kf) (hi:P.info? elem = some i) (hz:i.zero = some z) (hr:w0.heap.size≤r) (hm:M r = some (.obj o)) (ho:dM kf vf m o) :
  (aJ P w0).lk tm (.map (some r)) (kf k) false M = some (((m k).map vf).getD z)∧(aJ P w0).lk tm (.map (some r)) (kf k) true M = some (.tuple #[((m k).map vf).getD z,.bool (m k).isSome]):=by
 obtain ⟨l,ck,rfl,hn,hmk⟩:=ho
 have key:∀ c:Bool,(aJ P w0).lk tm (.map (some r)) (kf k) c M = some (if c then .tuple #[((m k).map vf).getD z,.bool (m k).isSome] else ((m k).map vf).getD z):=by
  intro c
  show fD P w0 M (Instr.lookup tm (.map (some r)) (kf k) c) = _
  unfold Instr.lookup
  rw [eY (eP ht)]
  simp only
  rw [eY (aBA hr hm rfl),eY (s:=pure _) (a:=(l.map (qP kf vf)).toArray) rfl,eY (xJ (hk.chk _ k)),eY (by simpa using hk.find w0 M vf l k)]
  rw [hmk k]
  cases hf:fIx vf k l 0 with
  | none =>
   rw [getM_none (y4 hf)]
   simp only
   rw [eY (rF hi hz),eY (s:=pure _) (a:=(z,false)) rfl];rfl
  | some p =>
   obtain ⟨A,x,B,rfl,rfl,h3,h4⟩:=zB hf
   rw [aBK h4 h3]
   simp only
   rw [eY (s:=pure _) (a:=(vf x.1.2,true)) rfl];rfl
 exact ⟨key false,key true⟩
theorem aJu {A B:List MapEntry} {x:MapEntry} (f:MapEntry→MapEntry):(A ++ x::B).toArray.modify A.length f = (A ++ f x::B).toArray:=by
 rw [List.modify_toArray]
 congr 1
 induction A with
 | nil=>rfl
 | cons y A ih=>simp [List.modify_succ_cons,ih]
theorem aGG {A B:List MapEntry} {x:MapEntry}:(A ++ x::B).toArray.eraseIdxIfInBounds A.length = (A ++ B).toArray:=by
 unfold Array.eraseIdxIfInBounds
 rw [dif_pos (by simp)]
 simp [List.eraseIdx_append_of_length_le]
theorem aGr {v:ν} (ht:P.underlying tm = some (.map key elem)) (hk:aBz P key kf) (hr:w0.heap.size≤r) (hm:M r = some (.obj o)) (ho:dM kf vf m o) {K:Mem→Prop}
  (hK:∀ o',dM kf vf (gB m k (some v)) o'→K (M.set r (.obj o'))):(aJ P w0).mup tm (.map (some r)) (kf k) (vf v) K M:=by
 obtain ⟨l,ck,rfl,hn,hmk⟩:=ho
 show act P w0 (Instr.mapUpdate tm (.map (some r)) (kf k) (vf v)) _ M
 unfold Instr.mapUpdate
 rw [cA (eP ht)]
 simp only
 rw [cA (aBA hr hm rfl)]
 simp only
 rw [cA (xJ (hk.chk _ k)),cA (by simpa using hk.find w0 M vf l k)]
 cases hf:fIx vf k l 0 with
 | none =>
  have hno:=y4 hf
  simp only
  have h1:=hK (.map ((l ++ [((k,v),ck)]).map (qP kf vf)).toArray (ck + 1)) ⟨_,_,rfl,?_,fun x=>?_⟩
  ·have e:((l.map (qP kf vf)).toArray.push ⟨kf k,vf v,ck⟩) = ((l ++ [((k,v),ck)]).map (qP kf vf)).toArray:=by
    rw [List.push_toArray,List.map_append];rfl
   rw [e]
   show (match M r with
    | some (.obj o')=>Obj.plain o' = true∧_
    | _=>False)
   rw [hm]
   exact ⟨rfl,h1⟩
  ·rw [List.map_append,List.nodup_append]
   refine ⟨hn,by simp,fun a ha b hb e=>?_⟩
   obtain ⟨y,hy,rfl⟩:=List.mem_map.1 ha
   simp only [List.map_cons,List.map_nil,List.mem_singleton] at hb
   rw [hb] at e
   exact hno y hy e.symm
  ·unfold gB
   by_cases hx:x = k
   ·subst hx
    rw [if_pos rfl,aBK hno rfl]
   ·rw [if_neg hx,uZ (k:=x) (by exact hx),List.append_nil];exact hmk x
 | some p =>
  obtain ⟨A,x,B,rfl,rfl,h3,h4⟩:=zB hf
  simp only [Nat.zero_add]
  have hget:(((((A ++ x::B).map (qP kf vf)).toArray)[A.length]?).map (·.key)).getD (kf k) = kf k:=by
   rw [List.getElem?_toArray,List.getElem?_map,List.getElem?_append_right (Nat.le_refl _),Nat.sub_self]
   show kf x.1.1 = kf k
   rw [h3]
  rw [hget]
  have hks:fD P w0 M (Instr.keyThatStays (kf k) (kf k)) = some (kf k):=by
   unfold Instr.keyThatStays
   rw [if_pos (hk.bits k)];rfl
  rw [cA hks]
  have e:((A ++ x::B).map (qP kf vf)).toArray.modify A.length (fun e=>{ e with key:=kf k,val:=vf v }) = ((A ++ ((k,v),x.2)::B).map (qP kf vf)).toArray:=by
   rw [List.map_append,List.map_cons]
   have:=aJu (A:=A.map (qP kf vf)) (x:=qP kf vf x) (B:=B.map (qP kf vf)) (fun e=>{ e with key:=kf k,val:=vf v })
   rw [List.length_map] at this
   rw [this,List.map_append,List.map_cons];rfl
  rw [e]
  have h1:=hK (.map ((A ++ ((k,v),x.2)::B).map (qP kf vf)).toArray ck) ⟨_,_,rfl,?_,fun y=>?_⟩
  ·show (match M r with
    | some (.obj o')=>Obj.plain o' = true∧_
    | _=>False)
   rw [hm]
   exact ⟨rfl,h1⟩
  ·rw [List.map_append,List.map_cons] at hn ⊢
   rw [h3];exact hn
  ·unfold gB
   by_cases hy:y = k
   ·subst hy
    rw [if_pos rfl,aBK h4 rfl]
   ·rw [if_neg hy,uZ (k:=y) (by exact hy),hmk y,uZ (k:=y) (by rw [←h3];exact hy)]
theorem aHJ {tys:Array TypeId} {ty:TypeId} (htys:tys[0]? = some tm) (ht:P.underlying tm = some (.map key elem)) (hk:aBz P key kf) (hr:w0.heap.size≤r) (hm:M r = some (.obj o)) (ho:dM kf vf m o) {K:VP}
  (hK:∀ o',dM kf vf (gB m k none) o'→K (.tuple #[]) (M.set r (.obj o'))):(aJ P w0).del tys ty [.map (some r),kf k] K M:=by
 obtain ⟨l,ck,rfl,hn,hmk⟩:=ho
 show act P w0 (Builtin.delete_ tys ty #[.map (some r),kf k]) _ M
 unfold Builtin.delete_
 simp only [htys,List.getElem?_toArray,List.getElem?_cons_zero,List.getElem?_cons_succ]
 rw [cA (eP ht)]
 simp only [bind_assoc]
 rw [cA (aBA hr hm rfl)]
 simp only [bind_assoc]
 rw [cA (xJ (hk.chk _ k)),cA (by simpa using hk.find w0 M vf l k)]
 cases hf:fIx vf k l 0 with
 | none =>
  have hno:=y4 hf
  simp only
  have h1:=hK (.map (l.map (qP kf vf)).toArray ck) ⟨l,ck,rfl,hn,fun x=>?_⟩
  ·show (match M r with
    | some (.obj o')=>Obj.plain o' = true∧_
    | _=>False)
   rw [hm]
   exact ⟨rfl,h1⟩
  ·unfold gB
   split
   ·rename_i hx;subst hx;rw [getM_none hno]
   ·exact hmk x
 | some p =>
  obtain ⟨A,x,B,rfl,rfl,h3,h4⟩:=zB hf
  simp only [Nat.zero_add]
  have e:((A ++ x::B).map (qP kf vf)).toArray.eraseIdxIfInBounds A.length = ((A ++ B).map (qP kf vf)).toArray:=by
   rw [List.map_append,List.map_cons]
   have:=aGG (A:=A.map (qP kf vf)) (x:=qP kf vf x) (B:=B.map (qP kf vf))
   rw [List.length_map] at this
   rw [this,List.map_append]
  rw [e]
  rw [List.map_append,List.map_cons] at hn
  obtain ⟨n1,n2,n3⟩:=List.nodup_append.1 hn
  obtain ⟨n4,n5⟩:=List.nodup_cons.1 n2
  have h1:=hK (.map ((A ++ B).map (qP kf vf)).toArray ck) ⟨_,_,rfl,?_,fun y=>?_⟩
  ·show (match M r with
    | some (.obj o')=>Obj.plain o' = true∧_
    | _=>False)
   rw [hm]
   exact ⟨rfl,h1⟩
  ·rw [List.map_append,List.nodup_append]
   exact ⟨n1,n5,fun a ha b hb=>n3 a ha b (List.mem_cons_of_mem _ hb)⟩
  ·unfold gB
   by_cases hy:y = k
   ·subst hy
    rw [if_pos rfl,getM_none]
    intro z hz e0
    rcases List.mem_append.1 hz with hz | hz
    ·exact h4 z hz e0
    ·exact n4 (List.mem_map.2 ⟨z,hz,by rw [←e0,h3]⟩)
   ·rw [if_neg hy,hmk y,uZ (k:=y) (by rw [←h3];exact hy)]
end
abbrev vA:=List (Nat × Obj)
structure HO (w0:World) (F M:Mem) (os:vA) (A:cI):Prop where
 nd:(os.map (·.1)).Nodup
 at_:∀ x∈os,w0.heap.size≤x.1∧F x.1 = none∧M x.1 = some (.obj x.2)
 h:aA w0 F M A
theorem HO.aside:∀ {os:vA} {F M:Mem} {A:cI},HO w0 F M os A→∃ F',aA w0 F' M A∧Mem.le F F'∧∀ M' A',aA w0 F' M' A'→HO w0 F M' os A'
 | [],F,M,A,h=>⟨F,h.h,Mem.le_refl _,fun M' A' h'=>⟨List.nodup_nil,fun x hx=>(by cases hx),h'⟩⟩
 | x::os,F,M,A,h=>by
  have hx:=h.at_ x List.mem_cons_self
  obtain ⟨n1,n2⟩:=List.nodup_cons.1 h.nd
  obtain ⟨h1,h2⟩:=h.h.aLJ hx.2.2 hx.2.1
  have h3:HO w0 (F.set x.1 (.obj x.2)) M os A:=by
   refine ⟨n2,fun y hy=>?_,h1⟩
   obtain ⟨g1,g2,g3⟩:=h.at_ y (List.mem_cons_of_mem _ hy)
   refine ⟨g1,?_,g3⟩
   rw [Mem.nD _ _ (show y.1≠x.1 from fun e=>n1 (List.mem_map.2 ⟨y,hy,e⟩))]
   exact g2
  obtain ⟨F',k1,k2,k3⟩:=HO.aside h3
  refine ⟨F',k1,Mem.le_trans h2 k2,fun M' A' h'=>?_⟩
  have k4:=k3 M' A' h'
  have k5:M' x.1 = some (.obj x.2):=k4.h.fr _ _ (Mem.mF _ _ _)
  have hle:Mem.le F M':=Mem.le_trans h2 k4.h.fr
  refine ⟨h.nd,fun y hy=>?_,?_⟩
  ·rcases List.mem_cons.1 hy with rfl | hy
   ·exact ⟨hx.1,hx.2.1,k5⟩
   ·exact ⟨(k4.at_ y hy).1,(h.at_ y (List.mem_cons_of_mem _ hy)).2.1,(k4.at_ y hy).2.2⟩
  ·obtain ⟨q,q1,q2⟩:=k4.h
   refine ⟨q,q1,q2.nd,fun z hz=>?_,hle⟩
   obtain ⟨g1,g2,g3⟩:=q2.at_ z hz
   refine ⟨g1,?_,g3⟩
   cases hF:F z.1 with
   | none=>rfl
   | some o'=>have h9:=h2 _ _ hF;rw [h9] at g2;cases g2
theorem HO.perm {os os':vA} {A:cI} (h:HO w0 F M os A) (hp:os.Perm os'):HO w0 F M os' A :=
 ⟨(hp.map _).nodup_iff.1 h.nd,fun x hx=>h.at_ x (hp.mem_iff.2 hx),h.h⟩
theorem HO.set {r:Nat} {o o':Obj} {os:vA} {A:cI} (h:HO w0 F M ((r,o)::os) A):HO w0 F (M.set r (.obj o')) ((r,o')::os) A:=by
 obtain ⟨g1,g2,g3⟩:=h.at_ (r,o) List.mem_cons_self
 obtain ⟨n1,n2⟩:=List.nodup_cons.1 h.nd
 refine ⟨h.nd,fun x hx=>?_,h.h.aJ3 g3 g2⟩
 rcases List.mem_cons.1 hx with rfl | hx
 ·exact ⟨g1,g2,Mem.mF _ _ _⟩
 ·obtain ⟨k1,k2,k3⟩:=h.at_ x (List.mem_cons_of_mem _ hx)
  refine ⟨k1,k2,?_⟩
  rw [Mem.nD _ _ (show x.1≠r from fun e=>n1 (List.mem_map.2 ⟨x,hx,e⟩))]
  exact k3
theorem HO.new {r:Nat} {o:Obj} {os:vA} {A:cI} (h:HO w0 F M os A) (hw:w0.heap.size≤r) (hm:M r = none):HO w0 F (M.set r (.obj o)) ((r,o)::os) A:=by
 refine ⟨List.nodup_cons.2 ⟨fun hm'=>?_,h.nd⟩,fun x hx=>?_,h.h.aJL hm⟩
 ·obtain ⟨y,hy,e⟩:=List.mem_map.1 hm'
  have:=(h.at_ y hy).2.2
  rw [show y.1 = r from e,hm] at this;cases this
 ·rcases List.mem_cons.1 hx with rfl | hx
  ·exact ⟨hw,le_none h.h.fr hm,Mem.mF _ _ _⟩
  ·obtain ⟨k1,k2,k3⟩:=h.at_ x hx
   refine ⟨k1,k2,?_⟩
   rw [Mem.nD _ _ (fun e=>by rw [e,hm] at k3;cases k3)]
   exact k3
theorem HO.of {A:cI} (h:aA w0 F M A):HO w0 F M [] A:=⟨List.nodup_nil,fun x hx=>(by cases hx),h⟩
abbrev dN:=Int × Int
def bZ (r:dN):Value:=.agg #[.int .i64 r.1,.int .i64 r.2]
end
theorem aFS (k k':dN):dT PP (Op.equal 33 (bZ k) (bZ k')) = some (decide (k = k')):=by
 have:=qY (P:=PP) (d:=9999) (es:=[k.1 == k'.1,k.2 == k'.2]) (xs:=#[.int .i64 k.1,.int .i64 k.2]) (ys:=#[.int .i64 k'.1,.int .i64 k'.2]) Tryz.underlying33 (by kernel_rfl)
  ⟨by decide,⟨.int .i64 k.1,.int .i64 k'.1,by kernel_rfl,by kernel_rfl,j3 Tryz.underlying3 k.1 k'.1⟩,by decide,⟨.int .i64 k.2,.int .i64 k'.2,by kernel_rfl,by kernel_rfl,j3 Tryz.underlying3 k.2 k'.2⟩,trivial⟩
 have e:([k.1 == k'.1,k.2 == k'.2]:List Bool).all id = decide (k = k'):=by
  rw [Bool.eq_iff_iff]
  simp only [List.all_cons,List.all_nil,id,Bool.and_true,Bool.and_eq_true,beq_iff_eq,decide_eq_true_eq]
  exact ⟨fun h=>Prod.ext h.1 h.2,fun h=>by rw [h];exact ⟨rfl,rfl⟩⟩
 rw [←e];exact this
theorem nY:aBz PP 33 bZ:=by
 refine aEc Tryz.underlying33 (fun k=>⟨_,rfl⟩) aFS (fun b k=>?_) fun k=>?_
 ·obtain ⟨a,g⟩:=k
  show dT PP (Instr.checkKey b 10000 33 (.agg #[.int .i64 a,.int .i64 g])) = _
  kernel_rfl
 ·show Instr.sameBits (9998 + 1 + 1) (.agg #[.int .i64 k.1,.int .i64 k.2]) (.agg #[.int .i64 k.1,.int .i64 k.2]) = true
  simp [Instr.sameBits]
theorem aIV (b:Bool) (k:Int):dT PP (Instr.checkKey b 10000 3 (.int .i64 k)) = some ():=by kernel_rfl
theorem aAU:aBz PP 3 (Value.int .i64):=aHQ Tryz.underlying3 aIV
end HL
namespace HL
section
variable {w0:World} {F M M':Mem} {os:vA} {A B D E G:cI}
theorem HO.le (h:HO w0 F M os A) (hl:Mem.le M M'):HO w0 F M' os A :=
 ⟨h.nd,fun x hx=>⟨(h.at_ x hx).1,(h.at_ x hx).2.1,hl _ _ (h.at_ x hx).2.2⟩,h.h.le hl⟩
theorem HO.fr (h:HO w0 F M os A):Mem.le F M:=h.h.fr
theorem HO.fO {F':Mem} (h:HO w0 F' M os A) (hl:Mem.le F F'):HO w0 F M os A:=by
 refine ⟨h.nd,fun x hx=>⟨(h.at_ x hx).1,?_,(h.at_ x hx).2.2⟩,h.h.fO hl⟩
 cases hf:F x.1 with
 | none=>rfl
 | some o=>have:=hl _ _ hf;rw [(h.at_ x hx).2.1] at this;cases this
theorem HO.aX (h:HO w0 F M os A) (hi:aA w0 F M A→aA w0 F M B):HO w0 F M os B:=⟨h.nd,h.at_,hi h.h⟩
theorem HO.get (h:HO w0 F M os A) {r:Nat} {o:Obj} (hm:(r,o)∈os):w0.heap.size≤r∧M r = some (.obj o):=⟨(h.at_ _ hm).1,(h.at_ _ hm).2.2⟩
theorem HO.newRow (h:HO w0 F M os A) {b:Nat} (hb:M b = none) (hw:w0.heap.size≤b) (cs:List Value) (e:TypeId):HO w0 F (M.set b (.row cs e)) os (star (bA b cs e) A):=by
 refine ⟨h.nd,fun x hx=>?_,h.h.new hb hw cs e⟩
 obtain ⟨g1,g2,g3⟩:=h.at_ x hx
 refine ⟨g1,g2,?_⟩
 rw [Mem.nD _ _ (fun e=>by rw [e,hb] at g3;cases g3)]
 exact g3
theorem HO.aDr {b:Nat} {cs cs':List Value} {e e':TypeId} (h:HO w0 F M os (star (bA b cs e) A)):HO w0 F (M.set b (.row cs' e')) os (star (bA b cs' e') A):=by
 have ho:=h.h.bC
 refine ⟨h.nd,fun x hx=>?_,h.h.lJ⟩
 obtain ⟨g1,g2,g3⟩:=h.at_ x hx
 refine ⟨g1,g2,?_⟩
 rw [Mem.nD _ _ (fun e=>by rw [e,ho.2] at g3;cases g3)]
 exact g3
theorem HO.fY {b:Nat} {cs:List Value} {e:TypeId} (h:HO w0 F M os (star (bA b cs e) A)):∃ F',Mem.le F F'∧cS w0 F' b cs e∧HO w0 F' M os A:=by
 have ho:=h.h.bC
 have hF:F b = none:=by
  obtain ⟨r,⟨r1,r2,rfl,h1,h2⟩,h3⟩:=h.h
  rw [h1] at h3
  exact (h3.at_ (b,cs,e) List.mem_cons_self).2.1
 have eT:∀ x∈os,x.1≠b:=fun x hx e=>by
  have:=(h.at_ x hx).2.2
  rw [e,ho.2] at this;cases this
 refine ⟨F.set b (.row cs e),Mem.fC _ hF,⟨ho.1,Mem.mF _ _ _⟩,h.nd,fun x hx=>?_,?_⟩
 ·obtain ⟨g1,g2,g3⟩:=h.at_ x hx
  exact ⟨g1,by rw [Mem.nD _ _ (eT x hx)];exact g2,g3⟩
 ·obtain ⟨r,⟨r1,r2,rfl,h1,h2⟩,h3⟩:=h.h
  rw [h1] at h3
  have fW:=h3.nd
  simp only [List.cons_append,List.nil_append,List.map_cons,List.nodup_cons] at fW
  refine ⟨r2,h2,fW.2,fun x hx=>?_,fun y o hy=>?_⟩
  ·obtain ⟨g1,g2,g3⟩:=h3.at_ x (List.mem_cons_of_mem _ hx)
   refine ⟨g1,?_,g3⟩
   rw [Mem.nD _ _ (show x.1≠b from fun e=>fW.1 (List.mem_map.2 ⟨x,hx,e⟩))]
   exact g2
  ·by_cases e1:y = b
   ·subst e1
    rw [Mem.mF] at hy
    cases hy
    exact ho.2
   ·rw [Mem.nD _ _ e1] at hy
    exact h3.fr y o hy
theorem HO.wJ (h:HO w0 F M os A):∃ F',aA w0 F' M A∧Mem.le F F'∧∀ M' A',aA w0 F' M' A'→HO w0 F M' os A':=h.aside
theorem HO.aBP (h:HO w0 F M os (star A B)):∃ F',aA w0 F' M B∧Mem.le F F'∧∀ M' B',aA w0 F' M' B'→HO w0 F M' os (star A B'):=by
 obtain ⟨F1,h1,l1,k1⟩:=h.aside
 obtain ⟨F2,h2,l2,k2⟩:=h1.last
 exact ⟨F2,h2,Mem.le_trans l1 l2,fun M' B' h'=>k1 _ _ (k2 _ _ h')⟩
theorem HO.aLG (h:HO w0 F M os (star A (star B D))):∃ F',aA w0 F' M D∧Mem.le F F'∧∀ M' D',aA w0 F' M' D'→HO w0 F M' os (star A (star B D')):=by
 obtain ⟨F1,h1,l1,k1⟩:=h.aBP
 obtain ⟨F2,h2,l2,k2⟩:=h1.last
 exact ⟨F2,h2,Mem.le_trans l1 l2,fun M' B' h'=>k1 _ _ (k2 _ _ h')⟩
theorem HO.aLu (h:HO w0 F M os (star A (star B (star D E)))):∃ F',aA w0 F' M E∧Mem.le F F'∧∀ M' E',aA w0 F' M' E'→HO w0 F M' os (star A (star B (star D E'))):=by
 obtain ⟨F1,h1,l1,k1⟩:=h.aLG
 obtain ⟨F2,h2,l2,k2⟩:=h1.last
 exact ⟨F2,h2,Mem.le_trans l1 l2,fun M' B' h'=>k1 _ _ (k2 _ _ h')⟩
theorem jQ (h:HO w0 F M os A) {zs:List Value} {T:TypeId} {K:Nat→Mem→Prop} (hK:∀ b M',Mem.le M M'→HO w0 F M' os (star (bA b zs T) A)→K b M'):(aJ PP w0).nw zs T K M:=fun b hb hw =>
 hK b _ (Mem.fC _ hb) (h.newRow hb hw zs T)
theorem sZ (h:HO w0 F M os A) {zs:List Value} {T:TypeId} {K:Nat→Mem→Prop} (hK:∀ b F' M',Mem.le F F'→Mem.le M M'→cS w0 F' b zs T→HO w0 F' M' os A→K b M'):(aJ PP w0).nw zs T K M:=fun b hb hw=>by
 obtain ⟨F',l1,o1,h1⟩:=(h.newRow hb hw zs T).fY
 exact hK b F' _ l1 (Mem.fC _ hb) o1 h1
theorem xQ {b:Nat} {zs vs:List Value} {T:TypeId} (hg:gV PP T vs.length = true) (hz:zs.length = vs.length) (hone:∀ v∈vs,bS v = true) (h:HO w0 F M os (star (bA b zs T) A)) {K:Mem→Prop} (hK:∀ F' M',Mem.le F F'→cS w0 F' b vs T→HO w0 F' M' os A→K M') :
  (aJ PP w0).st T ⟨b,0,none⟩ (.agg vs.toArray) (fun M2=>K M2) M:=by
 refine hJ hg h.h.bC (by omega) hone ?_
 have h2:=h.aDr (cs':=eO zs 0 vs) (e':=T)
 have e0:eO zs 0 vs = vs:=by
  have:=eE [] zs [] vs hz.symm (o:=0) rfl
  simpa using this
 rw [e0] at h2 ⊢
 obtain ⟨F',l1,o1,h3⟩:=h2.fY
 exact hK F' _ l1 o1 h3
theorem stW {b:Nat} {zs vs:List Value} {T:TypeId} (hg:gV PP T vs.length = true) (hz:zs.length = vs.length) (hone:∀ v∈vs,bS v = true) (h:HO w0 F M os (star (bA b zs T) A)) {K:Mem→Prop} (hK:∀ M',HO w0 F M' os (star (bA b vs T) A)→K M') :
  (aJ PP w0).st T ⟨b,0,none⟩ (.agg vs.toArray) (fun M2=>K M2) M:=by
 refine hJ hg h.h.bC (by omega) hone ?_
 have h2:=h.aDr (cs':=eO zs 0 vs) (e':=T)
 have e0:eO zs 0 vs = vs:=by
  have:=eE [] zs [] vs hz.symm (o:=0) rfl
  simpa using this
 rw [e0] at h2 ⊢
 exact hK _ h2
theorem aDq {b o:Nat} {zs:List Value} {T t:TypeId} {v:Value} (ht:iF PP t = true) (ho:o < zs.length) (hv:bS v = true) (hc:v.cells = #[v]) (h:HO w0 F M os (star (bA b zs T) A)) {K:Mem→Prop} (hK:∀ M',HO w0 F M' os (star (bA b (zs.set o v) T) A)→K M') :
  (aJ PP w0).st t ⟨b,o,none⟩ v (fun M2=>K M2) M :=
 gO ht h.h.bC ho hv hc (hK _ h.aDr)
theorem kC {zs vs:List Value} {T:TypeId} (hg:gV PP T vs.length = true) (hz:zs.length = vs.length) (hone:∀ v∈vs,bS v = true) (h:HO w0 F M os A) {K:Nat→Mem→Prop} (hK:∀ b F' M',Mem.le F F'→cS w0 F' b vs T→HO w0 F' M' os A→K b M') :
  (aJ PP w0).nw zs T (fun b M1=>(aJ PP w0).st T ⟨b,0,none⟩ (.agg vs.toArray) (fun M2=>K b M2) M1) M :=
 jQ h fun b M1 _ h1=>xQ hg hz hone h1 fun F' M2 l2 o2 h2=>hK b F' M2 l2 o2 h2
theorem jV {b:Nat} {zs vs:List Value} {T:TypeId} (hg:gV PP T vs.length = true) (hz:zs.length = vs.length) (hone:∀ v∈vs,bS v = true) (h:HO w0 F M os (star (bA b zs T) A)) {K:VP} (hK:∀ M',HO w0 F M' os A→K (.agg vs.toArray) M') :
  (aJ PP w0).st T ⟨b,0,none⟩ (.agg vs.toArray) (fun M1=>ob ((aJ PP w0).rdv T (.pointer (some ⟨b,0,none⟩)) M1) fun v=>K v M1) M:=by
 refine stW hg hz hone h fun M1 h1=>?_
 have o1:=h1.h.bC
 rw [rC,dG (cs:=vs) hg (fun j u hj=>by rw [add_eq,aN o1,Nat.zero_add];exact hj),aC]
 exact hK M1 ⟨h1.nd,h1.at_,h1.h.right⟩
theorem fF {b:Nat} {vs:List Value} {T e:TypeId} (hg:gV PP T vs.length = true) (h:cS w0 M b vs e):(aJ PP w0).ld T ⟨b,0,none⟩ M = some (.agg vs.toArray) :=
 dG (cs:=vs) hg (fun j u hj=>by rw [add_eq,aN h,Nat.zero_add];exact hj)
theorem kZ {b o:Nat} {cs vs:List Value} {T e:TypeId} (hg:gV PP T vs.length = true) (h:cS w0 M b cs e) (hc:∀ j u,vs[j]? = some u→cs[o + j]? = some u):(aJ PP w0).ld T ⟨b,o,none⟩ M = some (.agg vs.toArray) :=
 dG (cs:=vs) hg (fun j u hj=>by rw [add_eq,aN h];exact hc j u hj)
theorem mB {b o:Nat} {cs:List Value} {t e:TypeId} (ht:iF PP t = true) (h:cS w0 M b cs e) {v:Value} (hv:cs[o]? = some v):(aJ PP w0).ld t ⟨b,o,none⟩ M = some v:=by
 rw [aR ht,aN h];exact hv
end
theorem iS {x y:Int}:∀ v∈([.int .i64 x,.int .i64 y]:List Value),bS v = true:=by
 intro v hv
 simp only [List.mem_cons,List.not_mem_nil,or_false] at hv
 rcases hv with rfl | rfl <;> rfl
theorem uF {x y z:Int}:∀ v∈([.int .i64 x,.int .i64 y,.int .i64 z]:List Value),bS v = true:=by
 intro v hv
 simp only [List.mem_cons,List.not_mem_nil,or_false] at hv
 rcases hv with rfl | rfl | rfl <;> rfl
theorem a9:gV PP 33 2 = true:=W.g33
theorem wX:gV PP 149 3 = true:=W.aBV
theorem rZ:gV PP 153 3 = true:=W.aB0
theorem aBY:gV PP 44 2 = true:=W.g44
section
variable {w0:World} {F M:Mem} {R:VP} {p:Nat} {Q:cI}
theorem x8 {P:PS V3} {a g:Int} {v:V3} (h:aA w0 F M (star (xY p P) Q)) (hb:P.l.length≤100000) (hw:P.find a g = some v) (h1:∀ M',Mem.le M M'→R (.tuple #[.agg #[.int .i64 v.1,.int .i64 v.2.1,.int .i64 v.2.2],.int .i64 0]) M') :
  C PP w0 Id.j5 #[.pointer (some ⟨p,0,none⟩),.agg #[.int .i64 a,.int .i64 g]] R M :=
 aJ2 h hb (fun v' hv=>by rw [hw] at hv;cases hv;exact h1) (fun hf=>by rw [hw] at hf;cases hf)
theorem aAC {P:PS V3} {a g:Int} {v:V3} (h:aA w0 F M (star (rQ p P) Q)) (hb:P.l.length≤100000) (hw:P.find a g = some v) (h1:∀ M',Mem.le M M'→R (.tuple #[.agg #[.int .i64 v.1,.int .i64 v.2.1,.int .i64 v.2.2],.int .i64 0]) M') :
  C PP w0 Id.j0 #[.pointer (some ⟨p,0,none⟩),.agg #[.int .i64 a,.int .i64 g]] R M :=
 aKu h hb (fun v' hv=>by rw [hw] at hv;cases hv;exact h1) (fun hf=>by rw [hw] at hf;cases hf)
end
end HL
namespace HL
namespace ST
theorem aKw {α β:AS} {m w:Tn} {k:Nat} (hm:zS α m) (hw:zS α w) (hn:(eX m ++ eX w).Nodup) (g1:β.get w.n 1 = (m.n:Int)) (g4:β.get w.n 4 = (k:Int)) (m0:β.get m.n 0 = (w.n:Int)) (m3:β.get m.n 3 = w.c.root)
  (hg:∀ c g,(c≠w.n∨(g≠1∧g≠4))→(c≠m.n∨(g≠0∧g≠3))→β.get c g = α.get c g):zS β ⟨w.n,k,node m.n m.k m.c w.c⟩:=by
 obtain ⟨n1,n2,n3⟩:=List.nodup_append.1 hn
 have hmw:m.n≠w.n:=n3 m.n List.mem_cons_self w.n List.mem_cons_self
 obtain ⟨a1,a2⟩:=List.nodup_cons.1 n1
 obtain ⟨b1,b2⟩:=List.nodup_cons.1 n2
 refine ⟨g1,g4,m0,?_,m3,?_,?_,?_⟩
 ·rw [hg m.n 1 (.inl hmw) (.inr (by omega))];exact hm.1
 ·rw [hg m.n 4 (.inl hmw) (.inr (by omega))];exact hm.2.1
 ·refine hm.2.2.congr fun x hx f _=>hg x f (.inl fun e=>?_) (.inl fun e=>a1 (e▸hx))
  exact n3 x (List.mem_cons_of_mem _ hx) w.n List.mem_cons_self e
 ·refine hw.2.2.congr fun x hx f _=>hg x f (.inl fun e=>b1 (e▸hx)) (.inl fun e=>?_)
  exact n3 m.n List.mem_cons_self x (List.mem_cons_of_mem _ hx) e.symm
def uO (f:Nat→cH) (t u:Tn):Tn:=if Bf (f u.n) (f t.n) then lk t u else lk u t
theorem aEA (m w:Tn):(eX (lk m w)).Perm (eX m ++ eX w):=by
 show (w.n::m.n::(aP m.c ++ aP w.c)).Perm (m.n::(aP m.c ++ w.n::aP w.c))
 refine (List.Perm.swap _ _ _).trans (List.Perm.cons _ ?_)
 exact List.perm_middle.symm
theorem aJr (m w:Tn):(eX (und m w)).Perm (eX m ++ eX w):=aEA m w
theorem aFJ (f:Nat→cH) (t u:Tn):(eX (uO f t u)).Perm (eX t ++ eX u):=by
 unfold uO;split
 ·exact aEA t u
 ·exact (aEA u t).trans List.perm_append_comm
theorem aMj (f:Nat→cH) (t u:Tn):(uO f t u).n = t.n∨(uO f t u).n = u.n:=by
 unfold uO;split
 ·exact .inr rfl
 ·exact .inl rfl
theorem aKX (f:Nat→cH) {t u:Tn} (e:t.k = u.k):(uO f t u).k = t.k + 1:=by
 unfold uO;split
 ·show u.k + 1 = _;omega
 ·rfl
theorem aIy (f:Nat→cH) {z:Nat} {t u:Tn} (hz:1≤z) (h1:x3 z t) (h2:x3 z u) (e:t.k = u.k):x3 z (uO f t u)∧(dD (uO f t u).c).length≤z * t.k + 1:=by
 unfold uO;split
 ·have:=aHr hz h1 h2 e;rw [e];exact this
 ·exact aHr hz h2 h1 e.symm
theorem aIu {f:Nat→cH} {t u:Tn} (h1:y3 f t) (h2:y3 f u) (eT:(f t.n).1≠(f u.n).1):y3 f (uO f t u):=by
 unfold uO;split
 ·rename_i hb;exact aBm h1 h2 hb
 ·rename_i hb;exact aBm h2 h1 (Bf.tot hb fun e=>eT e.symm)
theorem aKL {α β:AS} {k:Int} {f:Nat→cH} {N:List Nat} {n m:Nat} (h:Lb α f N) (fW:(bG f N).Nodup) (hn:n∈N) (hm:m∈N) (eT:n≠m)
  (hs:AS.Sm k ((((α.put n 6 ((f m).1:Int)).put (f m).1 9 (n:Int)).put m 6 ((f n).1:Int)).put (f n).1 9 (m:Int)) β):Lb β (sw f n m) N:=by
 have hij:(f n).1≠(f m).1:=fun e=>eT (lH fW n hn m hm e)
 have g:∀ c x,β.get c x = if c = (f n).1∧x = 9 then (m:Int) else if c = m∧x = 6 then ((f n).1:Int) else if c = (f m).1∧x = 9 then (n:Int) else if c = n∧x = 6 then ((f m).1:Int) else α.get c x:=fun c x=>by rw [hs.get];rfl
 have gl:∀ c,β.live c = α.live c:=fun c=>by rw [hs.live];rfl
 intro x hx
 have hX:=h x hx
 have hN:=h n hn
 have hM:=h m hm
 unfold sw
 by_cases e1:x = n
 ·subst e1
  rw [if_pos rfl]
  refine ⟨(gl _).trans hX.ln,(gl _).trans hM.li,?_,?_,?_,?_⟩
  ·rw [g,if_neg (by omega),if_neg (by omega),if_neg (by omega),if_pos ⟨rfl,rfl⟩]
  ·rw [g,if_neg (fun e=>hij e.1.symm),if_neg (by omega),if_pos ⟨rfl,rfl⟩]
  ·rw [g,if_neg (by omega),if_neg (by omega),if_neg (by omega),if_neg (by omega)];exact hM.k
  ·rw [g,if_neg (by omega),if_neg (by omega),if_neg (by omega),if_neg (by omega)];exact hM.s
 ·rw [if_neg e1]
  by_cases e2:x = m
  ·subst e2
   rw [if_pos rfl]
   refine ⟨(gl _).trans hX.ln,(gl _).trans hN.li,?_,?_,?_,?_⟩
   ·rw [g,if_neg (by omega),if_pos ⟨rfl,rfl⟩]
   ·rw [g,if_pos ⟨rfl,rfl⟩]
   ·rw [g,if_neg (by omega),if_neg (by omega),if_neg (by omega),if_neg (by omega)];exact hN.k
   ·rw [g,if_neg (by omega),if_neg (by omega),if_neg (by omega),if_neg (by omega)];exact hN.s
  ·rw [if_neg e2]
   have i1:(f x).1≠(f n).1:=fun e=>e1 (lH fW x hx n hn e)
   have i2:(f x).1≠(f m).1:=fun e=>e2 (lH fW x hx m hm e)
   refine ⟨(gl _).trans hX.ln,(gl _).trans hX.li,?_,?_,?_,?_⟩
   ·rw [g,if_neg (by omega),if_neg (by omega),if_neg (by omega),if_neg (by omega)];exact hX.it
   ·rw [g,if_neg (by omega),if_neg (by omega),if_neg (by omega),if_neg (by omega)];exact hX.nd
   ·rw [g,if_neg (by omega),if_neg (by omega),if_neg (by omega),if_neg (by omega)];exact hX.k
   ·rw [g,if_neg (by omega),if_neg (by omega),if_neg (by omega),if_neg (by omega)];exact hX.s
end ST
section
variable {w0:World} {M F:Mem} {R:VP} {a:Nat} {α:AS}
open Go.Proofs.YtodobkbnmjgkdaaGreat.HL.ST
theorem aD9 (hA:aA w0 F M (aF a α)) {n up:Nat} (hn:α.live n = true) (hu:α.live up = true) {v:Int} (hv:α.get up 1 = v) (hc:v = -1∨∃ y:Nat,v = (y:Int)∧α.live y = true)
  (h:∀ M' β,aA w0 F M' (aF a β)→AS.Sm 4 (((α.put n 3 v).put n 0 (up:Int)).put up 1 (n:Int)) β→R (.tuple #[]) M'):C PP w0 Id.iD #[.pointer (some ⟨a,0,none⟩),.int .i64 (n:Int),.int .i64 (up:Int)] R M:=by
 apply iD.go
 unfold iD.T aH
 refine eZ hA fun M1 hA1=>?_
 rw [show α.fR (up:Int) 1 = v from AS.kP hA.inv (f:=1) hu (by omega) hv hc]
 simp only [go_sem]
 refine iA hA1 fun M2 hA2=>?_
 rw [show α.tick.mC (n:Int) 3 v = α.tick.put n 3 v from AS.cU (α:=α.tick) (f:=3) hn (by omega) _] at hA2
 simp only [go_sem]
 refine iA hA2 fun M3 hA3=>?_
 rw [show (α.tick.put n 3 v).tick.mC (n:Int) 0 (up:Int) = (α.tick.put n 3 v).tick.put n 0 (up:Int) from AS.cU (α:=(α.tick.put n 3 v).tick) (f:=0) hn (by omega) _] at hA3
 simp only [go_sem]
 refine iA hA3 fun M4 hA4=>?_
 rw [show ((α.tick.put n 3 v).tick.put n 0 (up:Int)).tick.mC (up:Int) 1 (n:Int) = ((α.tick.put n 3 v).tick.put n 0 (up:Int)).tick.put up 1 (n:Int) from AS.cU (α:=((α.tick.put n 3 v).tick.put n 0 (up:Int)).tick) (f:=1) hu (by omega) _] at hA4
 simp only [go_sem]
 exact h M4 _ hA4 ((((((((AS.aO (α:=α)).put n 3 v).trans AS.aO).put n 0 (up:Int)).trans AS.aO).put up 1 (n:Int)).trans AS.aO).mono (by omega))
theorem aGf (hA:aA w0 F M (aF a α)) {f:Nat→cH} {t u:Tn} (ht:zS α t) (hu:zS α u) (hl:Lb α f (eX t ++ eX u)) (hn:(eX t ++ eX u).Nodup) (hk:t.k = u.k) (hk2:t.k≤1000000)
  (h:∀ M' β,aA w0 F M' (aF a β)→zS β (uO f t u)→AS.n9 (fun c=>c = t.n∨c = u.n) 11 α β→(∀ c g,5≤g→β.get c g = α.get c g)→(∀ g,g≠1→g≠4→β.get (uO f t u).n g = α.get (uO f t u).n g)→R (.int .i64 ((uO f t u).n:Int)) M') :
  C PP w0 Id.cO #[.pointer (some ⟨a,0,none⟩),.int .i64 (t.n:Int),.int .i64 (u.n:Int),.int .i64 (t.k:Int)] R M:=by
 apply cO.go
 intro aB H
 unfold cO.T aH
 have nt:=hl t.n (List.mem_append_left _ List.mem_cons_self)
 have nu:=hl u.n (List.mem_append_right _ List.mem_cons_self)
 refine rK hA nu nt fun M1 β1 hA1 s1=>?_
 simp only [go_sem]
 have key:∀ (w m:Tn),zS α m→zS α w→(eX m ++ eX w).Nodup→α.live w.n = true→α.live m.n = true→(∀ x∈aP w.c,α.live x = true)→w.k = t.k→uO f t u = lk m w→(m.n = t.n∨m.n = u.n)→(w.n = t.n∨w.n = u.n) →
   cO.J1 aB (some ⟨a,0,none⟩) (w.n:Int) (m.n:Int) (t.k:Int) M1:=by
  intro w m hm hw fW lw lm lwc hkw he h1 h2
  refine Eq.mpr (H.J1 ..) ?_
  unfold cO.J1.T aH
  have hwc:w.c.root = -1∨∃ y:Nat,w.c.root = (y:Int)∧β1.live y = true:=by
   cases hc:w.c with
   | nil=>exact .inl rfl
   | node y k c s=>exact .inr ⟨y,rfl,by rw [s1.live];exact lwc y (by rw [hc];simp [aP])⟩
  refine aD9 hA1 (n:=m.n) (up:=w.n) (by rw [s1.live];exact lm) (by rw [s1.live];exact lw) (v:=w.c.root) (by rw [s1.get];exact hw.1) hwc fun M2 β2 hA2 s2=>?_
  refine iA hA2 fun M3 hA3=>?_
  rw [aQ (by omega)] at hA3
  have lw2:β2.live w.n = true:=by rw [s2.live];show β1.live w.n = true;rw [s1.live];exact lw
  rw [show β2.mC (w.n:Int) 4 ((t.k:Int) + 1) = β2.put w.n 4 ((t.k:Int) + 1) from AS.cU (f:=4) lw2 (by omega) _] at hA3
  simp only [go_sem]
  have s3:AS.Sm 11 ((((α.put m.n 3 w.c.root).put m.n 0 (w.n:Int)).put w.n 1 (m.n:Int)).put w.n 4 ((t.k:Int) + 1)) (β2.put w.n 4 ((t.k:Int) + 1)).tick :=
   ((((((s1.put m.n 3 w.c.root).put m.n 0 (w.n:Int)).put w.n 1 (m.n:Int)).trans s2).put w.n 4 ((t.k:Int) + 1)).trans AS.aO).mono (by omega)
  have hmw:m.n≠w.n:=(List.nodup_append.1 fW).2.2 _ List.mem_cons_self _ List.mem_cons_self
  generalize (β2.put w.n 4 ((t.k:Int) + 1)).tick = γ at hA3 s3
  have g:∀ c x,γ.get c x = if c = w.n∧x = 4 then (t.k:Int) + 1 else if c = w.n∧x = 1 then (m.n:Int) else if c = m.n∧x = 0 then (w.n:Int) else if c = m.n∧x = 3 then w.c.root else α.get c x:=fun c x=>by rw [s3.get];rfl
  have hh:=h M3 γ hA3
  rw [he] at hh
  refine hh ?_ ?_ (fun c x hx=>?_) fun x h1 h4=>?_
  ·refine aKw hm hw fW ?_ ?_ ?_ ?_ fun c x h1 h2=>?_
   ·rw [g,if_neg (by omega),if_pos ⟨rfl,rfl⟩]
   ·rw [g,if_pos ⟨rfl,rfl⟩,hkw];omega
   ·rw [g,if_neg (by omega),if_neg (by omega),if_pos ⟨rfl,rfl⟩]
   ·rw [g,if_neg (by omega),if_neg (by omega),if_neg (by omega),if_pos ⟨rfl,rfl⟩]
   ·rw [g,if_neg (by omega),if_neg (by omega),if_neg (by omega),if_neg (by omega)]
  ·refine ((((((AS.n9.refl (S:=fun c=>c = t.n∨c = u.n) (α:=α)).put h1).put h1).put h2).put h2).trans s3.lW).mono (fun _ h=>h) (by omega)
  ·rw [g,if_neg (by omega),if_neg (by omega),if_neg (by omega),if_neg (by omega)]
  ·show γ.get w.n x = α.get w.n x
   rw [g,if_neg (by omega),if_neg (by omega),if_neg (by omega),if_neg (by omega)]
 have lt:∀ x∈eX t,α.live x = true:=fun x hx=>(hl x (List.mem_append_left _ hx)).ln
 have lu:∀ x∈eX u,α.live x = true:=fun x hx=>(hl x (List.mem_append_right _ hx)).ln
 by_cases hb:Bf (f u.n) (f t.n)
 ·rw [decide_eq_true hb,dZ]
  exact key u t ht hu hn (lu _ List.mem_cons_self) (lt _ List.mem_cons_self) (fun x hx=>lu x (List.mem_cons_of_mem _ hx)) hk.symm (by unfold uO;rw [if_pos hb]) (.inl rfl) (.inr rfl)
 ·rw [decide_eq_false hb,mE]
  exact key t u hu ht (List.perm_append_comm.nodup_iff.1 hn) (lt _ List.mem_cons_self) (lu _ List.mem_cons_self) (fun x hx=>lt x (List.mem_cons_of_mem _ hx)) rfl (by unfold uO;rw [if_neg hb]) (.inr rfl) (.inl rfl)
theorem aDV (hA:aA w0 F M (aF a α)) {b:ST} {up:Int} (hs:St α up b) (hl:∀ n∈aP b,α.live n = true) (hn:(aP b).Nodup)
  (h:∀ M' s β,aA w0 F M' (star (pS s ((aY ((dD b).map (·.n))).map (Value.int .i64))) (aF a β))→AS.Sm ((dD b).length) α β→R s.v M') :
  C PP w0 Id.cP #[.pointer (some ⟨a,0,none⟩),.int .i64 b.root,.int .i64 3] R M:=by
 apply cP.go
 intro aB H
 unfold cP.T aH
 have hI:=hA.inv
 have hI65:=hI.n
 have hlen:=m6 α.n _ hn fun x hx=>AS.cJ hI (hl x hx)
 have eT:∀ (b:ST),(dD b).length≤(aP b).length:=fun b=>by
  induction b with
  | nil=>simp [dD]
  | node n k c s _ ih=>simp only [dD,aP,List.length_cons,List.length_append];omega
 have key:∀ (c:ST) (out:List Nat) (s:SV) (M1:Mem) (β:AS) (k:Nat),(dD b).map (·.n) = out ++ (dD c).map (·.n)→St α up c→(∀ n∈aP c,α.live n = true)→aA w0 F M1 (star (pS s ((aY out).map (Value.int .i64))) (aF a β))→AS.Sm (out.length:Int) α β→(dD c).length < k →
   cP.L1 aB k (some ⟨a,0,none⟩) c.root 3 s M1:=by
  intro c
  induction c with
  | nil =>
   intro out s M1 β k he hc hlc hB hsm hk
   obtain ⟨k,rfl⟩:∃ j,k = j + 1:=⟨k - 1,by omega⟩
   refine Eq.mpr (H.L1 ..) ?_
   unfold cP.L1.T aH
   refine xT hB.right ?_
   rw [show ST.nil.root = -1 from rfl,AS.xP]
   simp only [bU,mE]
   have e0:(dD b).map (·.n) = out:=by rw [he];simp [dD]
   refine h M1 s β (by rw [e0];exact hB) (hsm.mono ?_)
   have:=congrArg List.length e0
   rw [List.length_map] at this;omega
  | node n kk c s _ ih =>
   intro out sO M1 β k he hc hlc hB hsm hk
   obtain ⟨k,rfl⟩:∃ j,k = j + 1:=⟨k - 1,by omega⟩
   obtain ⟨h1,h2,h3,h4,h5,h6⟩:=hc
   have hln:=hlc n (by simp [aP])
   have el:=congrArg List.length he
   simp only [List.length_append,List.length_map,dD,List.length_cons] at el hk
   have hb:=eT b
   refine Eq.mpr (H.L1 ..) ?_
   unfold cP.L1.T aH
   refine xT hB.right ?_
   rw [show (ST.node n kk c s).root = (n:Int) from rfl,AS.uQ,hsm.live,hln]
   simp only [bU,dZ]
   refine wQ hB.right ?_
   rw [hsm.n]
   have e0:sO.n = out.length:=by rw [hB.cells.2];simp [aY]
   (rw [aL,cR,if_pos (by omega)];refine Eq.mpr (H.J2 ..) ?_)
   unfold cP.J2.T aH
   refine zD (K:=fun s27 M26=>(aJ PP w0).call _ _ _ M26) hB (by simp [aY];omega) fun M2 sO' hB2=>?_
   obtain ⟨F',hC,hle,back⟩:=hB2.last
   refine eZ hC fun M3 hC3=>?_
   rw [show β.fR (n:Int) 3 = s.root from AS.kP hC.inv (f:=3) (by rw [hsm.live];exact hln) (by omega) (by rw [hsm.get];exact h3) (by
    cases s with
    | nil=>exact .inl rfl
    | node y k' c' s'=>exact .inr ⟨y,rfl,by rw [hsm.live];exact hlc y (by simp [aP])⟩)]
   rw [aL]
   refine ih (out ++ [n]) sO' M3 β.tick k ?_ h6 (fun x hx=>hlc x (by simp [aP,hx])) ?_ ((hsm.trans AS.aO).mono ?_) (by omega)
   ·rw [he];simp [dD]
   ·have:=back M3 _ hC3
    rw [show aY (out ++ [n]) = aY out ++ [(n:Int)] from by simp [aY]]
    exact this
   ·simp
 exact ⟨(dD b).length + 1,key b [] ⟨none,0,0⟩ M α _ (by simp) hs hl (aA.aFw hA) (AS.Sm.refl.mono (by simp)) (by omega)⟩
theorem pI (hA:aA w0 F M (aF a α)) {b:ST} {up:Int} (hs:St α up b) (hl:∀ n∈aP b,α.live n = true) (hn:(aP b).Nodup)
  (h:∀ M' s β,aA w0 F M' (star (pS s ((aY ((dD b).map (·.n))).map (Value.int .i64))) (aF a β))→AS.Sm ((dD b).length) α β→R s.v M') :
  C PP w0 Id.jA #[.pointer (some ⟨a,0,none⟩),.int .i64 b.root] R M:=by
 apply jA.go
 unfold jA.T aH
 refine aDV hA hs hl hn fun M1 s β hB hsm=>?_
 rw [aM]
 exact h M1 s β hB hsm
theorem aFX (hA:aA w0 F M (aF a α)) {t:Tn} (hs:zS α t) (hl:∀ n∈eX t,α.live n = true) (hn:(aP t.c).Nodup)
  (h:∀ M' s β,aA w0 F M' (star (pS s ((aY ((dD t.c).map (·.n))).map (Value.int .i64))) (aF a β))→AS.Sm ((dD t.c).length + 1) α β→R s.v M') :
  C PP w0 Id.iY #[.pointer (some ⟨a,0,none⟩),.int .i64 (t.n:Int)] R M:=by
 apply iY.go
 unfold iY.T aH
 refine eZ hA fun M1 hA1=>?_
 rw [show α.fR (t.n:Int) 1 = t.c.root from AS.kP hA.inv (f:=1) (hl _ List.mem_cons_self) (by omega) hs.1 (by
  cases hc:t.c with
  | nil=>exact .inl rfl
  | node y k c s=>exact .inr ⟨y,rfl,hl y (by unfold eX;rw [hc];simp [aP])⟩)]
 rw [aL]
 refine aDV hA1 (hs.2.2.sm AS.aO) (fun x hx=>hl x (List.mem_cons_of_mem _ hx)) hn fun M2 s β hB hsm=>?_
 rw [aM]
 exact h M2 s β hB ((AS.aO.trans hsm).mono (by omega))
theorem aLQ (hA:aA w0 F M (aF a α)) {l:List Tn} {s:SV} (hs:qO w0 F .i64 s (aY (l.map (·.n)))) (ht:∀ t∈l,zS α t) (hl:∀ t∈l,α.live t.n = true) (hn:(aS l).Nodup) (hb:l.length≤100000)
  (h:∀ M' β,aA w0 F M' (aF a β)→St β (-1) (fo l)→AS.n9 (fun c=>∃ t∈l,c = t.n) (2 * l.length) α β→(∀ c g,5≤g→β.get c g = α.get c g)→R (.int .i64 (fo l).root) M') :
  C PP w0 Id.dK #[.pointer (some ⟨a,0,none⟩),SV.v s] R M:=by
 apply dK.go
 intro aB H
 unfold dK.T aH
 have hlen:=hs.len
 simp only [aY,List.length_map] at hlen
 have hnn:(l.map (·.n)).Nodup:=by
  have hsub:∀ (l:List Tn),(l.map (·.n)).Sublist (aS l):=fun l=>by
   induction l with
   | nil=>exact List.Sublist.refl _
   | cons t l ih=>rw [m5];exact (ih.trans (List.sublist_append_right _ _)).cons_cons _
  exact hn.sublist (hsub l)
 have key:∀ (A B:List Tn) (M1:Mem) (β:AS) (k:Nat),l = A ++ B→aA w0 F M1 (aF a β)→St β (-1) (fo B)→AS.n9 (fun c=>∃ t∈B,c = t.n) (2 * B.length) α β→(∀ c g,5≤g→β.get c g = α.get c g)→A.length < k →
   dK.L1 aB k (some ⟨a,0,none⟩) s (fo B).root ((A.length:Int) - 1) M1:=by
  intro A
  induction hA':A.length generalizing A with
  | zero =>
   intro B M1 β k he hB hst hc hg hk
   have:A = []:=List.eq_nil_of_length_eq_zero hA'
   subst this
   obtain ⟨k,rfl⟩:∃ j,k = j + 1:=⟨k - 1,by omega⟩
   refine Eq.mpr (H.L1 ..) ?_
   unfold dK.L1.T aH
   rw [cR,if_neg (by omega)]
   rw [List.nil_append] at he
   subst he
   exact h M1 β hB hst hc hg
  | succ n ih =>
   intro B M1 β k he hB hst hc hg hk
   obtain ⟨A',t,rfl⟩:∃ A' t,A = A' ++ [t]:=by
    rcases List.eq_nil_or_concat A with e | ⟨A',t,e⟩
    ·rw [e] at hA';cases hA'
    ·exact ⟨A',t,by rw [e,List.concat_eq_append]⟩
   rw [List.length_append,List.length_singleton] at hA'
   have hA2:A'.length = n:=by omega
   obtain ⟨k,rfl⟩:∃ j,k = j + 1:=⟨k - 1,by omega⟩
   have htl:t∈l:=by rw [he];simp
   have hlive:β.live t.n = true:=by rw [hc.live];exact hl t htl
   have hget:(aY (l.map (·.n)))[A'.length]? = some (t.n:Int):=by
    rw [he];simp [aY]
   have ll:=congrArg List.length he
   simp only [List.length_append,List.length_singleton] at ll
   refine Eq.mpr (H.L1 ..) ?_
   unfold dK.L1.T aH
   rw [cR,if_pos (by omega)]
   refine rdx (x:=(t.n:Int)) W.c3 hs hB.fr A'.length (by omega) hget ?_
   refine iA hB fun M2 hB2=>?_
   rw [show β.mC (t.n:Int) 3 (fo B).root = β.put t.n 3 (fo B).root from AS.cU (f:=3) hlive (by omega) _] at hB2
   rw [bU]
   refine rdx (x:=(t.n:Int)) W.c3 hs hB2.fr A'.length (by omega) hget ?_
   refine iA hB2 fun M3 hB3=>?_
   rw [show (β.put t.n 3 (fo B).root).tick.mC (t.n:Int) 0 (-1) = (β.put t.n 3 (fo B).root).tick.put t.n 0 (-1) from AS.cU (α:=(β.put t.n 3 (fo B).root).tick) (f:=0) hlive (by omega) _] at hB3
   rw [bU]
   refine rdx (x:=(t.n:Int)) W.c3 hs hB3.fr A'.length (by omega) hget ?_
   have s3:AS.Sm 2 ((β.put t.n 3 (fo B).root).put t.n 0 (-1)) ((β.put t.n 3 (fo B).root).tick.put t.n 0 (-1)).tick:=(((AS.aO (α:=β.put t.n 3 (fo B).root)).put t.n 0 (-1)).trans AS.aO).mono (by omega)
   generalize ((β.put t.n 3 (fo B).root).tick.put t.n 0 (-1)).tick = γ at hB3 s3
   have g:∀ c x,γ.get c x = if c = t.n∧x = 0 then -1 else if c = t.n∧x = 3 then (fo B).root else β.get c x:=fun c x=>by rw [s3.get];rfl
   have hnB:t.n ∉ aS B∧t.n ∉ aP t.c:=by
    rw [he,lS,lS] at hn
    have h2:=(List.nodup_append.1 hn).2.2
    have h3:=(List.nodup_append.1 (List.nodup_append.1 hn).1).2.1
    refine ⟨fun hm=>h2 t.n (by simp [aS,eX]) _ hm rfl,fun hm=>?_⟩
    have:aS [t] = t.n::aP t.c:=by simp [aS,eX]
    rw [this] at h3
    exact (List.nodup_cons.1 h3).1 hm
   have hcB:∀ x∈aP t.c,β.get x = α.get x:=fun x hx=>by
    funext f
    refine hc.get x ?_ f
    rintro ⟨u,hu,e⟩
    rw [he,lS,lS] at hn
    exact (List.nodup_append.1 hn).2.2 x (by simp [aS,eX,hx]) u.n (eK.2 ⟨u,hu,List.mem_cons_self⟩) e
   have htB:∀ f,β.get t.n f = α.get t.n f:=fun f=>by
    refine hc.get t.n ?_ f
    rintro ⟨u,hu,e⟩
    exact hnB.1 (e▸eK.2 ⟨u,hu,List.mem_cons_self⟩)
   obtain ⟨t1,t2,t3⟩:=ht t htl
   have:=ih A' hA2 (t::B) M3 γ k (by rw [he];simp) hB3 ?_ ?_ (fun c x hx=>?_) (by omega)
   ·rw [show lN (((n + 1:Nat):Int) - 1 - 1) = (n:Int) - 1 from by rw [aQ (by omega)];omega]
    exact this
   ·refine ⟨?_,?_,?_,?_,?_,?_⟩
    ·rw [g,if_pos ⟨rfl,rfl⟩]
    ·rw [g,if_neg (by omega),if_neg (by omega),htB];exact t1
    ·rw [g,if_neg (by omega),if_pos ⟨rfl,rfl⟩]
    ·rw [g,if_neg (by omega),if_neg (by omega),htB];exact t2
    ·refine t3.congr fun x hx f _=>?_
     rw [g,if_neg (fun e:x = t.n∧f = 0=>hnB.2 (e.1▸hx)),if_neg (fun e:x = t.n∧f = 3=>hnB.2 (e.1▸hx)),hcB x hx]
    ·refine hst.congr fun x hx f _=>?_
     rw [qW] at hx
     rw [g,if_neg (fun e:x = t.n∧f = 0=>hnB.1 (e.1▸hx)),if_neg (fun e:x = t.n∧f = 3=>hnB.1 (e.1▸hx))]
   ·refine ((((hc.mono (T:=fun c=>∃ u∈t::B,c = u.n) (fun c ⟨u,hu,e⟩=>⟨u,List.mem_cons_of_mem _ hu,e⟩) (Int.le_refl _)).put (c:=t.n) (f:=3) (v:=(fo B).root) ⟨t,List.mem_cons_self,rfl⟩).put (c:=t.n) (f:=0) (v := -1) ⟨t,List.mem_cons_self,rfl⟩).trans s3.lW).mono (fun _ h=>h) ?_
    rw [List.length_cons];omega
   ·rw [g,if_neg (by omega),if_neg (by omega)];exact hg c x hx
 refine ⟨l.length + 1,?_⟩
 rw [show lN (((s.n:Nat):Int) - 1) = (l.length:Int) - 1 from by rw [aQ (by omega)];omega]
 exact key l [] M α _ (by simp) hA trivial (AS.n9.refl.mono (fun _ h=>h) (by simp)) (fun _ _ _=>rfl) (by omega)
theorem aAT (hA:aA w0 F M (aF a α)) {f:Nat→cH} {l:List Tn} {s:SV} (hs:qO w0 F .i64 s (aY (l.map (·.n)))) (hl:∀ t∈l,α.Nd t.n (f t.n).1 (f t.n).2) (hd:∀ t∈l,∀ u∈l,(f t.n).1 = (f u.n).1→t.n = u.n) (hb:l.length≤100000)
  (h0:l = []→∀ M' β,aA w0 F M' (aF a β)→AS.Sm 0 α β→R (.int .i64 (-1)) M')
  (h:∀ t∈l,(∀ u∈l,u.n≠t.n→Bf (f t.n) (f u.n))→∀ M' β,aA w0 F M' (aF a β)→AS.Sm (6 * l.length) α β→R (.int .i64 (t.n:Int)) M') :
  C PP w0 Id.cF #[.pointer (some ⟨a,0,none⟩),SV.v s] R M:=by
 apply cF.go
 intro aB H
 unfold cF.T aH
 have hlen:=hs.len
 simp only [aY,List.length_map] at hlen
 have key:∀ (B A:List Tn) (t:Tn) (M1:Mem) (β:AS) (k:Nat),l = A ++ B→t∈A→(∀ u∈A,u.n≠t.n→Bf (f t.n) (f u.n))→aA w0 F M1 (aF a β)→AS.Sm (6 * A.length) α β→B.length < k →
   cF.L1 aB k (some ⟨a,0,none⟩) (t.n:Int) s ((s.n:Nat):Int) (A.length:Int) M1:=by
  intro B
  induction B with
  | nil =>
   intro A t M1 β k he ht hbest hB hsm hk
   obtain ⟨k,rfl⟩:∃ j,k = j + 1:=⟨k - 1,by omega⟩
   rw [List.append_nil] at he
   subst he
   refine Eq.mpr (H.L1 ..) ?_
   unfold cF.L1.T aH
   rw [cR,if_neg (by omega)]
   exact h t ht hbest M1 β hB hsm
  | cons u B ih =>
   intro A t M1 β k he ht hbest hB hsm hk
   obtain ⟨k,rfl⟩:∃ j,k = j + 1:=⟨k - 1,by omega⟩
   have ll:=congrArg List.length he
   simp only [List.length_append,List.length_cons] at ll hk
   have htl:t∈l:=by rw [he];simp [ht]
   have hul:u∈l:=by rw [he];simp
   have hget:(aY (l.map (·.n)))[A.length]? = some (u.n:Int):=by rw [he];simp [aY]
   refine Eq.mpr (H.L1 ..) ?_
   unfold cF.L1.T aH
   rw [cR,if_pos (by omega)]
   refine rdx (x:=(u.n:Int)) W.c3 hs hB.fr A.length rfl hget ?_
   rw [fJ,if_neg (by omega)]
   refine rK hB (hsm.nd (hl u hul)) (hsm.nd (hl t htl)) fun M2 γ hB2 s2=>?_
   rw [bU,cR]
   have hsm2:AS.Sm (6 * ((A ++ [u]).length:Int)) α γ:=(hsm.trans s2).mono (by simp;omega)
   have e1:lN ((A.length:Int) + 1) = ((A ++ [u]).length:Int):=by rw [aQ (by omega)];simp
   rw [e1]
   split
   ·rename_i hbf
    refine ih (A ++ [u]) u M2 γ k (by rw [he];simp) (by simp) (fun v hv eT=>?_) hB2 hsm2 (by omega)
    rcases List.mem_append.1 hv with hv | hv
    ·by_cases e:v.n = t.n
     ·rw [e];exact hbf
     ·exact hbf.tr (hbest v hv e)
    ·rw [List.mem_singleton.1 hv] at eT
     exact absurd rfl eT
   ·rename_i hbf
    refine ih (A ++ [u]) t M2 γ k (by rw [he];simp) (by simp [ht]) (fun v hv eT=>?_) hB2 hsm2 (by omega)
    rcases List.mem_append.1 hv with hv | hv
    ·exact hbest v hv eT
    ·rw [List.mem_singleton.1 hv] at eT ⊢
     exact Bf.tot hbf fun e=>eT (hd u hul t htl e)
 cases l with
 | nil =>
  refine ⟨1,?_⟩
  refine Eq.mpr (H.L1 ..) ?_
  unfold cF.L1.T aH
  rw [cR,if_neg (by simp at hlen;omega)]
  exact h0 rfl M α hA AS.Sm.refl
 | cons t l =>
  refine ⟨l.length + 2,?_⟩
  simp only [List.length_cons] at hlen hb
  refine Eq.mpr (H.L1 ..) ?_
  unfold cF.L1.T aH
  rw [cR,if_pos (by omega)]
  refine rdx (x:=(t.n:Int)) W.c3 hs hA.fr 0 rfl (by simp [aY]) ?_
  rw [fJ,if_pos rfl]
  have e1:lN ((0:Int) + 1) = (([t]:List Tn).length:Int):=by rw [aQ (by omega)];rfl
  rw [e1]
  exact key l [t] t M α _ rfl (by simp) (fun u hu eT=>by rw [List.mem_singleton.1 hu] at eT;exact absurd rfl eT) hA (AS.Sm.refl.mono (by simp)) (by omega)
theorem aGc (hA:aA w0 F M (aF a α)) {n m i j:Nat} {e g:bR} (h1:α.Nd n i e) (h2:α.Nd m j g)
  (h:∀ M' β,aA w0 F M' (aF a β)→AS.Sm 6 ((((α.put n 6 (j:Int)).put j 9 (n:Int)).put m 6 (i:Int)).put i 9 (m:Int)) β→R (.tuple #[]) M'):C PP w0 Id.kF #[.pointer (some ⟨a,0,none⟩),.int .i64 (n:Int),.int .i64 (m:Int)] R M:=by
 apply kF.go
 unfold kF.T aH
 simp only [go_sem,Option.isNone_some,mE]
 refine eZ hA fun M1 hA1=>?_
 rw [show α.fR (n:Int) 6 = (i:Int) from AS.dI (f:=6) h1.ln (by omega) h1.it (AS.cJ hA.inv h1.li)]
 simp only [go_sem]
 refine eZ hA1 fun M2 hA2=>?_
 rw [show α.tick.fR (m:Int) 6 = (j:Int) from AS.dI (α:=α.tick) (f:=6) h2.ln (by omega) h2.it (AS.cJ hA.inv h2.li)]
 simp only [go_sem]
 refine aA6 hA2 h1.ln h2.li fun M3 β3 hA3 s3=>?_
 refine aA6 hA3 (by rw [s3.live];exact h2.ln) (by rw [s3.live];exact h1.li) fun M4 β4 hA4 s4=>?_
 exact h M4 β4 hA4 (((((((((AS.aO (α:=α)).trans AS.aO).put n 6 (j:Int)).put j 9 (n:Int)).trans s3).put m 6 (i:Int)).put i 9 (m:Int)).trans s4).mono (by omega))
theorem aAV (hA:aA w0 F M (aF a α)) (any:Bool) {b:ST} {f:Nat→cH} {x:Nat} (hst:St α (-1) b) (hlb:Lb α f (aP b)) (fW:(bG f (aP b)).Nodup) (hx:x∈aP b) (hH:Hol f b x) (hD:any = false→aDX f b x) {m:Nat} (hm:(nE b x).length≤m)
  (h:∀ M' β f' y,aA w0 F M' (aF a β)→St β (-1) b→Lb β f' (aP b)→y∈aP b→f' y = f x→((aP b).map f').Perm ((aP b).map f)→(any = true→nE b y = []∧Hol f' b y)→(any = false→OdA f' b)→AS.n9 (fun c=>c∈bG f (aP b)) (13 * m + 8) α β→R (.int .i64 (y:Int)) M') :
  C PP w0 Id.tZ #[.pointer (some ⟨a,0,none⟩),.int .i64 ((f x).1:Int),.bool any] R M:=by
 apply tZ.go
 intro aB H
 unfold tZ.T aH
 have hI:=hA.inv
 have hI65:=hI.n
 have hN:=hlb x hx
 have hnn:=iK fW
 have hlen:=m6 α.n _ hnn fun y hy=>AS.cJ hI (hlb y hy).ln
 refine zG hA fun M1 hA1=>?_
 rw [show α.fR ((f x).1:Int) 9 = (x:Int) from AS.dI (f:=9) hN.li (by omega) hN.nd (AS.cJ hI hN.ln)]
 rw [aL]
 have hanc:(nE b x).length≤(aP b).length:=by
  have hs:∀ (b:ST) (y:Nat),(nE b y).length≤(aP b).length:=fun b=>by
   induction b with
   | nil=>intro y;simp [nE]
   | node n k c s ihc ihs =>
    intro y
    have h1:=ihc y
    have h2:=ihs y
    unfold nE
    simp only [aP,List.length_cons,List.length_append]
    split
    ·simp
    ·split
     ·rw [List.length_append,List.length_singleton];omega
     ·omega
  exact hs b x
 have key:∀ (l:List Nat) (y:Nat) (g:Nat→cH) (M2:Mem) (β:AS) (j k:Nat),nE b y = l→y∈aP b→j + l.length = (nE b x).length→aA w0 F M2 (aF a β)→St β (-1) b→Lb β g (aP b)→(bG g (aP b)).Nodup→g y = f x→((aP b).map g).Perm ((aP b).map f)→Hol g b y→(any = false→aDX g b y) →
   AS.n9 (fun c=>c∈bG f (aP b)) (13 * j + 1) α β→l.length < k→tZ.L1 aB k (some ⟨a,0,none⟩) any (y:Int) (j:Int) M2:=by
  intro l
  induction l with
  | nil =>
   intro y g M2 β j k ha hy hj hB hs hl hgn hgy hp hho hhd hc hk
   obtain ⟨k,rfl⟩:∃ i,k = i + 1:=⟨k - 1,by omega⟩
   refine Eq.mpr (H.L1 ..) ?_
   unfold tZ.L1.T aH
   rw [cB,if_neg (by omega)]
   refine wQ hB ?_
   (rw [hc.n,aL,cR,if_pos (by simp at hj;omega)];refine Eq.mpr (H.J2 ..) ?_)
   unfold tZ.J2.T aH
   have hup:=aC7 hs hy hnn
   rw [ha] at hup
   simp only at hup
   refine eZ hB fun M3 hB3=>?_
   rw [show β.fR (y:Int) 0 = -1 from AS.aAb (f:=0) (hl y hy).ln (by omega) hup,aL,fJ,if_pos rfl]
   refine h M3 β.tick g y hB3 (hs.sm AS.aO) (hl.sm AS.aO) hy hgy hp (fun _=>⟨ha,hho⟩) (fun e=>hho.done hnn (hhd e) fun p q hpq=>by rw [ha] at hpq;cases hpq) (hc.tick.mono (fun _ h=>h) ?_)
   simp at hj;omega
  | cons p l ih =>
   intro y g M2 β j k ha hy hj hB hs hl hgn hgy hp hho hhd hc hk
   obtain ⟨k,rfl⟩:∃ i,k = i + 1:=⟨k - 1,by omega⟩
   simp only [List.length_cons] at hj hk
   have hpn:p∈aP b:=oU (x:=y) (by rw [ha];simp)
   have hpa:nE b p = l:=aBH hnn ha
   have hpy:y≠p:=fun e=>pC hnn (x:=y) (by rw [ha,←e];simp)
   refine Eq.mpr (H.L1 ..) ?_
   unfold tZ.L1.T aH
   rw [cB,if_neg (by omega)]
   refine wQ hB ?_
   (rw [hc.n,aL,cR,if_pos (by omega)];refine Eq.mpr (H.J2 ..) ?_)
   unfold tZ.J2.T aH
   have hup:=aC7 hs hy hnn
   rw [ha] at hup
   simp only at hup
   refine eZ hB fun M3 hB3=>?_
   rw [show β.fR (y:Int) 0 = (p:Int) from AS.dI (f:=0) (hl y hy).ln (by omega) hup (AS.cJ hB.inv (hl p hpn).ln),aL,fJ,if_neg (by omega)]
   have rise:∀ (M4:Mem) (γ:AS),aA w0 F M4 (aF a γ)→AS.Sm 7 β γ→(any = false→Bf (g y) (g p))→tZ.J3 aB k (some ⟨a,0,none⟩) any (y:Int) (j:Int) (p:Int) M4:=by
    intro M4 γ hB4 s4 hbf
    refine Eq.mpr (H.J3 ..) ?_
    unfold tZ.J3.T aH
    refine aGc hB4 (s4.nd (hl y hy)) (s4.nd (hl p hpn)) fun M5 δ hB5 s5=>?_
    rw [aQ (by omega)]
    have hcel:∀ z∈bG g (aP b),z∈bG f (aP b):=by
     intro z hz
     rcases List.mem_append.1 hz with hz | hz
     ·exact List.mem_append_left _ hz
     ·have h1:=(hp.map (·.1))
      rw [List.map_map,List.map_map] at h1
      exact List.mem_append_right _ (h1.mem_iff.1 hz)
    have cy:y∈bG f (aP b):=List.mem_append_left _ hy
    have cp:p∈bG f (aP b):=List.mem_append_left _ hpn
    have ciy:(g y).1∈bG f (aP b):=hcel _ (List.mem_append_right _ (List.mem_map.2 ⟨y,hy,rfl⟩))
    have cip:(g p).1∈bG f (aP b):=hcel _ (List.mem_append_right _ (List.mem_map.2 ⟨p,hpn,rfl⟩))
    have hst5:St δ (-1) b:=by
     refine hs.congr fun z hz x' hx'=>?_
     rw [s5.get]
     show (if z = (g y).1∧x' = 9 then (p:Int) else if z = p∧x' = 6 then ((g y).1:Int) else if z = (g p).1∧x' = 9 then (y:Int) else if z = y∧x' = 6 then ((g p).1:Int) else γ.get z x') = _
     rw [if_neg (fun e=>tK hgn z hz y hy e.1),if_neg (fun e=>hx' e.2),if_neg (fun e=>tK hgn z hz p hpn e.1),if_neg (fun e=>hx' e.2),s4.get]
    refine ih p (sw g y p) M5 δ (j + 1) k hpa hpn (by omega) hB5 hst5 (aKL (hl.sm s4) hgn hy hpn hpy s5) ?_ ?_ ((aEY hnn hy hpn).trans hp) (hho.step hnn hy ha) (fun e=>aDX.step hnn hy hho ha (hbf e)) ?_ (by omega)
    ·exact (aK3 hnn hy hpn).nodup_iff.2 hgn
    ·rw [←hgy];unfold sw;rw [if_neg (fun e=>hpy e.symm),if_pos rfl]
    ·refine ((((((hc.trans s4.lW).put (f:=6) (v:=((g p).1:Int)) cy).put (f:=9) (v:=(y:Int)) cip).put (f:=6) (v:=((g y).1:Int)) cp).put (f:=9) (v:=(p:Int)) ciy).trans s5.lW).mono (fun _ h=>h) ?_
     omega
   cases any with
   | true =>
    rw [Bool.not_true,mE]
    exact rise M3 β.tick hB3 (AS.aO.mono (by omega)) (fun e=>by cases e)
   | false =>
    rw [Bool.not_false,dZ]
    refine rK hB3 (AS.aO.nd (hl y hy)) (AS.aO.nd (hl p hpn)) fun M4 γ hB4 s4=>?_
    rw [bU]
    by_cases hbf:Bf (g y) (g p)
    ·rw [decide_eq_true hbf,Bool.not_true,mE]
     exact rise M4 γ hB4 ((AS.aO.trans s4).mono (by omega)) (fun _=>hbf)
    ·rw [decide_eq_false hbf,Bool.not_false,dZ]
     have s5:AS.Sm 7 β γ:=(AS.aO.trans s4).mono (by omega)
     refine h M4 γ g y hB4 (hs.sm s5) (hl.sm s5) hy hgy hp (fun e=>by cases e) (fun _=>hho.done hnn (hhd rfl) fun q r hq=>?_) ((hc.trans s5.lW).mono (fun _ h=>h) (by omega))
     rw [ha] at hq
     cases hq
     exact Bf.tot hbf fun e=>hpy (lH hgn y hy p hpn e)
 exact ⟨(nE b x).length + 1,key (nE b x) x f M1 α.tick 0 _ rfl hx (by omega) hA1 (hst.sm AS.aO) (hlb.sm AS.aO) fW rfl (List.Perm.refl _) hH hD (AS.aO.lW.mono (fun _ h=>h) (by omega)) (by omega)⟩
end
end HL
namespace HL
section
variable {w0:World} {M M0 F:Mem} {R:VP}
theorem aA.aIc {s:SV} {l:List bR} {Q:cI} (h:aA w0 F M (star (Es s l) Q)):s.n = l.length:=h.nJ.len
theorem wK.tail {s:SV} {l:List bR} (h:wK w0 M s l) {i:Nat} (hi:i≤l.length):gW w0 M (if s.c = i then s.a else s.a.map (·.add (i * 2))) (gH (l.drop i)):=fun j v hj=>by
 have h1:=h.cells M (Mem.le_refl _) (i * 2 + j) v (by rw [aBh,List.getElem?_drop] at hj;exact hj)
 obtain ⟨ad,ea,hr⟩:=h1
 have hjl:=(List.getElem?_eq_some_iff.1 hj).1
 rw [c8,List.length_drop] at hjl
 have hlen:=h.len
 have hcap:=h.cap
 rw [if_neg (by omega),ea]
 exact ⟨_,rfl,by rw [add_add];exact hr⟩
end
end HL
namespace HL
abbrev tRk:TypeId:=276
def aFs (l:List bR):Prop:=l.Pairwise fun a b=>a.2≤b.2
theorem aCu {P S T:List bR} {x y:bR}:(P ++ x::(S ++ y::T))[P.length]? = some x:=by simp
theorem aCr {P S T:List bR} {x y:bR}:(P ++ x::(S ++ y::T))[P.length + 1 + S.length]? = some y:=by
 rw [List.getElem?_append_right (by omega),show P.length + 1 + S.length - P.length = S.length + 1 from by omega,List.getElem?_cons_succ]
 simp
theorem aKC {P S T:List bR} {x y:bR}:((P ++ x::(S ++ y::T)).set (P.length + 1 + S.length) x).set P.length y = P ++ y::(S ++ x::T):=by
 rw [List.set_comm _ _ (by omega)]
 rw [List.set_append_right _ _ (Nat.le_refl _),Nat.sub_self,List.set_cons_zero,List.set_append_right _ _ (by omega),show P.length + 1 + S.length - P.length = S.length + 1 from by omega,List.set_cons_succ,
  List.set_append_right _ _ (Nat.le_refl _),Nat.sub_self,List.set_cons_zero]
section
variable {w0:World} {M M0 F:Mem} {R:VP}
theorem wK.ldR {s:SV} {l:List bR} (h:wK w0 M0 s l) {j:Nat} {x:bR} (hj:l[j]? = some x):∃ a,s.a = some a∧∀ M,Mem.le M0 M→(aJ PP w0).ld 276 (a.add (j * 2)) M = some (.agg #[.int .i64 x.1,.int .i64 x.2]):=by
 obtain ⟨a,ea,hr⟩:=h.ad hj
 refine ⟨a,ea,fun M hM=>?_⟩
 obtain ⟨r1,r2⟩:=hr M hM
 exact dG (cs:=[.int .i64 x.1,.int .i64 x.2]) W.aJN (fun f v hv=>by
  match f,hv with
  | 0,hv=>simp at hv;subst hv;rw [add_add];exact r1
  | 1,hv=>simp at hv;subst hv;rw [add_add];exact r2)
theorem rdR {s:SV} {l:List bR} (h:wK w0 M0 s l) (hl:Mem.le M0 M) {i:Int} (j:Nat) (e:i = (j:Int)) {x:bR} (hj:l[j]? = some x) {K:Int→Int→Prop} (hK:K x.1 x.2) :
  nc s.a fun a=>(0≤i∧i < ((s.n:Nat):Int))∧ob ((aJ PP w0).ld 276 (a.add (i.toNat * 2)) M) fun v=>shA v fun l5=>cM l5 fun u6 r7=>mZ .i64 u6 fun n8=>cM r7 fun u9 r10=>mZ .i64 u9 fun n11=>oY r10 (K n8 n11):=by
 subst e
 obtain ⟨a,ea,hr⟩:=h.ldR hj
 have hlt:=(List.getElem?_eq_some_iff.1 hj).1
 have:=h.len
 rw [ea,aT,Int.toNat_natCast,hr M hl]
 simp only [aC,aZ,aW,aL,aU]
 exact ⟨⟨by omega,by omega⟩,hK⟩
theorem aMM {s x:SV} {l m:List bR} {Q:cI} (h:aA w0 F M (star (Es s l) Q)) (hx:wK w0 M x m) (hb:l.length + m.length≤137438953472) {K:VP} (hK:∀ M' s',aA w0 F M' (star (Es s' (l ++ m)) Q)→K s'.v M') :
  (aJ PP w0).app #[274,274] 274 [SV.v s,SV.v x] K M:=by
 obtain ⟨F',h1,h2,h3⟩:=aA.slk h
 have hl:=h1.nJ.len
 refine aAM (k:=2) Tryz.underlying274 W.aKy h2 h1 (news:=gH m) (by rw [c8,hx.len]) (hx.cells M (Mem.le_refl _)) hx.nul (tE m) (by decide) (by rw [hl,hx.len];exact hb) fun M' s' l1 l2 _=>?_
 refine hK M' s' (h3 M' s' _ ?_ l1)
 rw [fM];exact l2
theorem aMz {P:cI} (h:aA w0 F M P) (x y:Int) {K:VP} (hK:∀ M' s',Mem.le M M'→aA w0 F M' (star (Es s' [(x,y)]) P)→K s'.v M'):(aJ PP w0).bsl 274 1 [(0,.agg #[.int .i64 x,.int .i64 y])] K M:=by
 refine rN (n:=1) (cells:=#[.int .i64 x,.int .i64 y]) Tryz.underlying274 W.aKy (by decide) (by kernel_rfl) fun b hb hw=>?_
 have l1:Mem.le M (M.set b (.row (#[Value.int .i64 x,.int .i64 y]:Array Value).toList 276)):=Mem.fC _ hb
 exact hK _ ⟨some ⟨b,0,none⟩,1,1⟩ l1 (aA.tV h l1 (wE.new (n:=1) hb (cS.new hw) rfl))
theorem stR {s:SV} {l:List bR} {Q:cI} (h:aA w0 F M (star (Es s l) Q)) {i:Int} (j:Nat) (e:i = (j:Int)) (hj:j < l.length) {x y:Int} {K:Mem→Prop} (hK:∀ M',aA w0 F M' (star (Es s (l.set j (x,y))) Q)→K M') :
  nc s.a fun a=>(0≤i∧i < ((s.n:Nat):Int))∧(aJ PP w0).st 276 (a.add (i.toNat * 2)) (.agg #[.int .i64 x,.int .i64 y]) (fun M'=>K M') M:=by
 subst e
 have hr:=h.nJ
 obtain ⟨r,⟨r1,r2,rfl,h1,h2⟩,h3⟩:=h
 rcases h1 with ⟨rfl,h0,_⟩ | ⟨b,rest,e,ha,hl,hl2,rfl⟩
 ·have:=hr.len;simp at this;omega
 ·rw [ha,aT,Int.toNat_natCast,add_eq,Nat.zero_add]
  rw [c8] at hl hl2
  refine ⟨⟨by omega,by have:=hr.len;omega⟩,?_⟩
  refine hJ (vs:=[.int .i64 x,.int .i64 y]) W.aJN (h3.own List.mem_cons_self) (by rw [List.length_append,c8];simp;omega) (fun v hv=>by simp at hv;rcases hv with rfl | rfl <;> rfl) ?_
  refine hK _ ⟨_,⟨_,r2,rfl,.inr ⟨b,rest,e,ha,by rw [c8,List.length_set];exact hl,by rw [c8,List.length_set];exact hl2,rfl⟩,h2⟩,?_⟩
  have hov:eO (gH l ++ rest) (j * 2) [.int .i64 x,.int .i64 y] = gH (l.set j (x,y)) ++ rest:=by
   have h1:l = l.take j ++ (l[j]::l.drop (j + 1)):=by rw [←List.drop_eq_getElem_cons hj,List.take_append_drop]
   have h2:l.set j (x,y) = l.take j ++ ((x,y)::l.drop (j + 1)):=by rw [List.set_eq_take_append_cons_drop,if_pos hj]
   rw [h2,fM,nO]
   conv=>lhs;rw [h1,fM,nO]
   have:=eE (gH (l.take j)) [.int .i64 l[j].1,.int .i64 l[j].2] (gH (l.drop (j + 1)) ++ rest) [.int .i64 x,.int .i64 y] rfl (o:=j * 2) (by rw [c8,List.length_take];omega)
   simpa using this
  rw [hov]
  exact h3.upd
theorem aL8 {s:SV} {l l':List bR} {Q:cI} (h:aA w0 F M (star (Es s l) Q)) {i1 i2:Int} (p q:Nat) (e1:i1 = (p:Int)) (e2:i2 = (q:Int)) {x y:bR} (hp:l[p]? = some x) (hq:l[q]? = some y) (hl:(l.set p y).set q x = l') {K:Mem→Prop} (hK:∀ M',aA w0 F M' (star (Es s l') Q)→K M') :
  nc s.a fun a2=>(0≤i2∧i2 < ((s.n:Nat):Int))∧ob ((aJ PP w0).ld 276 (a2.add (i2.toNat * 2)) M) fun v3=>shA v3 fun l4=>cM l4 fun u5 r6=>mZ .i64 u5 fun n7=>cM r6 fun u8 r9=>mZ .i64 u8 fun n10=>oY r9
   (nc s.a fun a11=>(0≤i1∧i1 < ((s.n:Nat):Int))∧ob ((aJ PP w0).ld 276 (a11.add (i1.toNat * 2)) M) fun v12=>shA v12 fun l13=>cM l13 fun u14 r15=>mZ .i64 u14 fun n16=>cM r15 fun u17 r18=>mZ .i64 u17 fun n19=>oY r18
    (nc s.a fun a20=>(0≤i1∧i1 < ((s.n:Nat):Int))∧(aJ PP w0).st 276 (a20.add (i1.toNat * 2)) (.agg #[.int .i64 n7,.int .i64 n10]) (fun M21 =>
     nc s.a fun a22=>(0≤i2∧i2 < ((s.n:Nat):Int))∧(aJ PP w0).st 276 (a22.add (i2.toNat * 2)) (.agg #[.int .i64 n16,.int .i64 n19]) (fun M23=>K M23) M21) M)):=by
 subst hl
 refine rdR h.nJ (Mem.le_refl _) q e2 hq ?_
 refine rdR h.nJ (Mem.le_refl _) p e1 hp ?_
 have vQ:=(List.getElem?_eq_some_iff.1 hp).1
 have hql:=(List.getElem?_eq_some_iff.1 hq).1
 refine stR h p e1 vQ fun M1 h1=>?_
 refine stR h1 q e2 (by simpa using hql) fun M2 h2=>?_
 exact hK M2 h2
theorem aJs {x y:bR} (hx:0≤x.2∧x.2≤1000000) (hy:0≤y.2∧y.2≤1000000) (h:∀ M' n,Mem.le M M'→(n < 0↔x.2 < y.2)→R (.int .i64 n) M'):C PP w0 Id.nP #[.agg #[.int .i64 x.1,.int .i64 x.2],.agg #[.int .i64 y.1,.int .i64 y.2]] R M:=by
 apply nP.go
 unfold nP.T aH
 intro b1 hb1 hw1
 intro b2 hb2 hw2
 have o1:cS w0 (M.set b1 (.row [.int .i64 x.1,.int .i64 x.2] 276)) b1 [.int .i64 x.1,.int .i64 x.2] 276:=cS.new hw1
 have l2:=Mem.fC (M:=M.set b1 (.row [.int .i64 x.1,.int .i64 x.2] 276)) (.row [.int .i64 y.1,.int .i64 y.2] 276) hb2
 have o2:=o1.le l2
 have o3:cS w0 ((M.set b1 (.row [.int .i64 x.1,.int .i64 x.2] 276)).set b2 (.row [.int .i64 y.1,.int .i64 y.2] 276)) b2 [.int .i64 y.1,.int .i64 y.2] 276:=cS.new hw2
 have e1:rd w0 _ ⟨b1,1,none⟩ = some (.int .i64 x.2):=aN (o:=1) o2
 have e3:rd w0 _ ⟨b2,1,none⟩ = some (.int .i64 y.2):=aN (o:=1) o3
 simp only [aR W.c2,add_eq,Nat.zero_add,e1,e3,aC,aL]
 rw [aQ (by omega)]
 refine h _ _ (Mem.le_trans (Mem.fC _ hb1) l2) ?_
 by_cases h1:(1:Int) < x.2 - y.2
 ·simp only [if_pos h1];split <;> omega
 ·simp only [if_neg h1];split <;> omega
theorem aAw {s:SV} {Q:cI} (A X B:List bR) {a b:Int} (hrk:∀ x∈X,0≤x.2∧x.2≤1000000) (hb:(A ++ (X ++ B)).length≤1000000) (h:aA w0 F M (star (Es s (A ++ (X ++ B))) Q)) (ea:a = (A.length:Int)) (eb:b = ((A.length + X.length:Nat):Int))
  (hR:∀ M' Z,aFs Z→Z.Perm X→aA w0 F M' (star (Es s (A ++ (Z ++ B))) Q)→R (.tuple #[]) M'):Go.Proofs.YtodobkbnmjgkdaaGreat.HL.C PP w0 Id.kB #[SV.v s,.int .i64 a,.int .i64 b,.func (.func Id.nP) #[] #[]] R M:=by
 apply kB.go _ s a b (Id.nP,#[])
 intro aB H
 unfold kB.T aH
 simp only [List.length_append] at hb
 subst ea eb
 have key:∀ (k:Nat) (Z1 X2:List bR) (M':Mem),X2.length < k→aFs Z1→(Z1 ++ X2).Perm X→aA w0 F M' (star (Es s (A ++ (Z1 ++ (X2 ++ B)))) Q) →
   kB.L1 aB k s (A.length:Int) ((A.length + X.length:Nat):Int) (Id.nP,#[]) ((A.length + Z1.length:Nat):Int) M':=by
  intro k
  induction k with
  | zero=>intro Z1 X2 M' h1;omega
  | succ k ih =>
   intro Z1 X2 M' hk hsr hp hH
   have hlen:=hp.length_eq
   rw [List.length_append] at hlen
   refine Eq.mpr (H.L1 ..) ?_
   unfold kB.L1.T aH
   rw [cR]
   split
   ·match X2,hk,hp,hH,hlen with
    | [],_,_,_,hlen=>simp at hlen;omega
    | x::X2,hk,hp,hH,hlen =>
     simp only [List.length_cons] at hk hlen
     have hxr:=hrk x (hp.mem_iff.1 (by simp))
     have key2:∀ (k':Nat) (P S:List bR) (M2:Mem),P.length < k'→Z1 = P ++ S→(∀ y∈S,x.2 < y.2)→aA w0 F M2 (star (Es s (A ++ (P ++ x::(S ++ (X2 ++ B))))) Q) →
       kB.L2 aB k k' s (A.length:Int) ((A.length + X.length:Nat):Int) (Id.nP,#[]) ((A.length + Z1.length:Nat):Int) ((A.length + P.length:Nat):Int) M2:=by
      intro k'
      induction k' with
      | zero=>intro P S M2 h1;omega
      | succ k' ih2 =>
       intro P S M2 hk' hZ hS h2
       have hzl:=congrArg List.length hZ
       rw [List.length_append] at hzl
       have fin:(∀ y∈P,y.2≤x.2)→∀ M3,aA w0 F M3 (star (Es s (A ++ (P ++ x::(S ++ (X2 ++ B))))) Q)→kB.L1 aB k s (A.length:Int) ((A.length + X.length:Nat):Int) (Id.nP,#[]) (lN (((A.length + Z1.length:Nat):Int) + 1)) M3:=by
        intro hP M3 h3
        rw [bX (by omega)]
        have:=ih (P ++ x::S) X2 M3 (by omega) (by
         rw [hZ] at hsr
         obtain ⟨q1,q2,q3⟩:=List.pairwise_append.1 hsr
         refine List.pairwise_append.2 ⟨q1,List.pairwise_cons.2 ⟨fun y hy=>Int.le_of_lt (hS y hy),q2⟩,fun u hu v hv=>?_⟩
         rcases List.mem_cons.1 hv with rfl | hv
         ·exact hP u hu
         ·exact q3 u hu v hv) (by
         refine List.Perm.trans ?_ hp
         rw [hZ,List.append_assoc,List.append_assoc,List.cons_append]
         exact (List.perm_middle.symm).append_left P) (by
         rw [show A ++ ((P ++ x::S) ++ (X2 ++ B)) = A ++ (P ++ x::(S ++ (X2 ++ B))) from by simp];exact h3)
        rw [show A.length + (P ++ x::S).length = A.length + Z1.length + 1 from by rw [List.length_append,List.length_cons];omega] at this
        exact this
       refine Eq.mpr (H.L2 ..) ?_
       unfold kB.L2.T aH
       rw [cR]
       split
       ·rcases List.eq_nil_or_concat P with rfl | ⟨P',y,hPe⟩
        ·simp at *
        ·rw [List.concat_eq_append] at hPe
         subst hPe
         rw [List.length_append,List.length_singleton] at hk' hzl
         have hyr:=hrk y (hp.mem_iff.1 (by rw [hZ];simp))
         have el:A ++ ((P' ++ [y]) ++ x::(S ++ (X2 ++ B))) = (A ++ P') ++ y::([] ++ x::(S ++ (X2 ++ B))):=by simp
         have e0:((A.length + (P' ++ [y]).length:Nat):Int) = (((A ++ P').length + 1 + ([]:List bR).length:Nat):Int):=by simp only [List.length_append,List.length_singleton,List.length_nil];omega
         have e1:lN (((A.length + (P' ++ [y]).length:Nat):Int) - 1) = (((A ++ P').length:Nat):Int):=by
          rw [aQ (by simp only [List.length_append,List.length_singleton];omega)];simp only [List.length_append,List.length_singleton];omega
         have h2':=h2
         rw [el] at h2'
         refine rdR h2'.nJ (Mem.le_refl _) _ e0 aCr ?_
         refine rdR h2'.nJ (Mem.le_refl _) _ e1 aCu ?_
         show Go.Proofs.YtodobkbnmjgkdaaGreat.HL.C PP w0 Id.nP #[.agg #[.int .i64 x.1,.int .i64 x.2],.agg #[.int .i64 y.1,.int .i64 y.2]] _ _
         refine aJs hxr hyr fun M3 nn l3 hnn=>?_
         rw [aL,cR]
         split
         ·rename_i hlt
          refine Eq.mpr (H.J3 ..) ?_
          unfold kB.J3.T aH
          refine aL8 (h2'.le l3) (l':=(A ++ P') ++ x::([] ++ y::(S ++ (X2 ++ B)))) _ _ e0 e1 aCr aCu aKC fun M4 h4=>?_
          rw [e1]
          have:=ih2 P' (y::S) M4 (by omega) (by rw [hZ];simp) (fun z hz=>?_) (by
           rw [show A ++ (P' ++ x::(y::S ++ (X2 ++ B))) = (A ++ P') ++ x::([] ++ y::(S ++ (X2 ++ B))) from by simp];exact h4)
          ·rw [List.length_append];exact this
          ·rcases List.mem_cons.1 hz with rfl | hz
           ·exact hnn.1 hlt
           ·exact hS z hz
         ·rename_i hlt
          have hxy:y.2≤x.2:=by
           have:¬ x.2 < y.2:=fun h=>hlt (hnn.2 h)
           omega
          refine fin (fun z hz=>?_) M3 (h2.le l3)
          rcases List.mem_append.1 hz with hz | hz
          ·have:z.2≤y.2:=by
            rw [hZ] at hsr
            exact (List.pairwise_append.1 (List.pairwise_append.1 hsr).1).2.2 z hz y (List.mem_singleton.2 rfl)
           omega
          ·rw [List.mem_singleton.1 hz];exact hxy
       ·have hP:P = []:=List.length_eq_zero_iff.1 (by omega)
        subst hP
        exact fin (fun y hy=>by cases hy) M2 h2
     exact ⟨Z1.length + 1,key2 (Z1.length + 1) Z1 [] M' (by omega) (by simp) (fun y hy=>by cases hy) hH⟩
   ·have hX2:X2 = []:=List.length_eq_zero_iff.1 (by omega)
    subst hX2
    rw [List.append_nil] at hp
    exact hR M' Z1 hsr hp hH
 cases X with
 | nil =>
  refine ⟨1,?_⟩
  refine Eq.mpr (H.L1 ..) ?_
  unfold kB.L1.T aH
  rw [bX (by omega),cR,if_neg (by simp only [List.length_nil];omega)]
  exact hR M [] List.Pairwise.nil (List.Perm.refl _) h
 | cons x X =>
  have:=key (X.length + 1) [x] X M (by omega) (List.pairwise_singleton _ _) (List.Perm.refl _) h
  rw [bX (by simp at hb;omega)]
  exact ⟨X.length + 1,this⟩
theorem aHZ {s:SV} {Q:cI} {l:List bR} (hrk:∀ x∈l,0≤x.2∧x.2≤1000000) (hb:l.length≤20) (h:aA w0 F M (star (Es s l) Q))
  (hR:∀ M' Z,aFs Z→Z.Perm l→aA w0 F M' (star (Es s Z) Q)→R (.tuple #[]) M'):Go.Proofs.YtodobkbnmjgkdaaGreat.HL.C PP w0 Id.aBp #[SV.v s,.func (.func Id.nP) #[] #[]] R M:=by
 apply aBp.go _ s (Id.nP,#[])
 unfold aBp.T aH
 have hsn:=h.aIc
 apply n6.go _ s _ (Id.nP,#[])
 intro aB H
 unfold n6.T aH
 have fin:∀ (k:Nat) (A X:List bR) (M1:Mem) (b:Int),l.length = A.length + X.length→(l.length:Int) < b→(∀ x∈X,0≤x.2∧x.2≤1000000)→aA w0 F M1 (star (Es s (A ++ (X ++ []))) Q)→(∀ M' Z,aFs Z→Z.Perm X→aA w0 F M' (star (Es s (A ++ (Z ++ []))) Q)→R (.tuple #[]) M') →
   n6.L1 aB (k + 1) s ((s.n:Nat):Int) (Id.nP,#[]) 20 (A.length:Int) b M1:=by
  intro k A X M1 b hl hbl hrX h1 hR1
  refine Eq.mpr (H.L1 ..) ?_
  unfold n6.L1.T aH
  rw [cR,if_neg (by omega)]
  refine aAw A X [] hrX (by simp;omega) h1 rfl (by omega) fun M2 Z hs hp h2=>?_
  refine ⟨1,?_⟩
  refine Eq.mpr (H.L2 ..) ?_
  unfold n6.L2.T aH
  rw [cR,if_neg (by omega)]
  exact hR1 M2 Z hs hp h2
 by_cases h20:l.length = 20
 ·refine ⟨2,?_⟩
  refine Eq.mpr (H.L1 ..) ?_
  unfold n6.L1.T aH
  rw [cR,if_pos (by omega)]
  refine aAw [] l [] hrk (by simp;omega) (by simpa using h) rfl (by simp;omega) fun M2 Z hs hp h2=>?_
  rw [aQ (by omega)]
  have hZl:=hp.length_eq
  have:=fin 0 Z [] M2 (20 + 20) (by simp;omega) (by omega) (fun x hx=>by cases hx) (by simpa using h2) fun M3 Z2 _ hp2 h3=>by
   have:Z2 = []:=List.eq_nil_of_length_eq_zero (by rw [hp2.length_eq];rfl)
   subst this
   exact hR M3 Z hs hp (by simpa using h3)
  rw [hZl,h20] at this
  exact this
 ·exact ⟨1,fin 0 [] l M 20 (by simp) (by omega) hrk (by simpa using h) fun M' Z hs hp h'=>hR M' Z hs hp (by simpa using h')⟩
def EsO (s:SV) (l:List bR):cI:=fun r=>(s.n = 0∧s.c = 0∧l = []∧r = [])∨∃ b pre rest e,s.a = some ⟨b,pre.length,none⟩∧s.n = l.length∧l.length * 2 + rest.length = s.c * 2∧r = [(b,pre ++ (gH l ++ rest),e)]
theorem EsO.of {s:SV} {l:List bR} {Q:cI} (h:aA w0 F M (star (Es s l) Q)):aA w0 F M (star (EsO s l) Q) :=
 h.imp fun r ⟨r1,r2,e,h1,h2⟩=>⟨r1,r2,e,by
  rcases h1 with ⟨rfl,h0,e0⟩ | ⟨b,rest,e',ha,hl,hl2,e1⟩
  ·have:l = []:=by
    cases l with
    | nil=>rfl
    | cons x l=>rw [nO] at h0;cases h0
   exact .inl ⟨rfl,rfl,this,e0⟩
  ·rw [c8] at hl hl2
   exact .inr ⟨b,[],rest,e',ha,by omega,by omega,e1⟩,h2⟩
theorem EsO.rd {s:SV} {l:List bR} {Q:cI} (h:aA w0 F M (star (EsO s l) Q)):wK w0 M s l:=by
 obtain ⟨r,⟨r1,r2,rfl,h1,h2⟩,h3⟩:=h
 rcases h1 with ⟨e1,e2,rfl,rfl⟩ | ⟨b,pre,rest,e,ha,hl,hl2,rfl⟩
 ·exact ⟨e1,by omega,fun _=>e1,fun M2 _ j v hj=>by simp [gH] at hj⟩
 ·have ho:=h3.own (b:=b) (cs:=pre ++ (gH l ++ rest)) (e:=e) List.mem_cons_self
  refine ⟨hl,by omega,fun e0=>(by rw [ha] at e0;cases e0),fun M2 hM j v hj=>⟨⟨b,pre.length,none⟩,ha,?_⟩⟩
  have hjl:=(List.getElem?_eq_some_iff.1 hj).1
  rw [add_eq,aN (ho.le hM),List.getElem?_append_right (by omega),List.getElem?_append_left (by omega),show pre.length + j - pre.length = j from by omega]
  exact hj
theorem EsO.drop {s:SV} {l:List bR} {Q:cI} (h:aA w0 F M (star (EsO s l) Q)) {m:Nat} (hm:m≤l.length) (h0:0 < m):aA w0 F M (star (EsO ⟨if s.c = m then s.a else s.a.map (·.add (m * 2)),s.n - m,s.c - m⟩ (l.drop m)) Q):=by
 obtain ⟨r,⟨r1,r2,rfl,h1,h2⟩,h3⟩:=h
 rcases h1 with ⟨e1,e2,rfl,rfl⟩ | ⟨b,pre,rest,e,ha,hl,hl2,rfl⟩
 ·simp at hm;omega
 ·by_cases hc:s.c = m
  ·have:l.drop m = []:=List.drop_eq_nil_of_le (by omega)
   rw [this]
   refine ⟨[] ++ r2,⟨[],r2,rfl,.inl ⟨by simp only;omega,by simp only;omega,rfl,rfl⟩,h2⟩,?_⟩
   exact (h3.perm List.perm_append_comm).drop
  ·rw [if_neg hc,ha]
   refine ⟨_,⟨_,r2,rfl,.inr ⟨b,pre ++ gH (l.take m),rest,e,?_,by simp;omega,by simp;omega,rfl⟩,h2⟩,?_⟩
   ·simp only [Option.map_some,add_eq,List.length_append,c8,List.length_take,Option.some.injEq,Addr.mk.injEq,true_and,and_true]
    omega
   ·have:pre ++ gH (l.take m) ++ (gH (l.drop m) ++ rest) = pre ++ (gH l ++ rest):=by
     rw [List.append_assoc,←List.append_assoc (gH (l.take m)),←fM,List.take_append_drop]
    rw [this];exact h3
theorem aKB {b o n c:Nat} {x:SV} {cs news:List Value} {e:TypeId} {Q:cI} (h:aA w0 F M (star (bA b cs e) Q)) (m:Nat) (em:m = min x.n n) (hn:news.length = m * 2) (hcn:gW w0 M x.a news) (hnn:x.a = none→m = 0) (hone:∀ v∈news,bS v = true) (hl:o + m * 2≤cs.length)
  {K:VP} (hK:∀ M',aA w0 F M' (star (bA b (eO cs o news) e) Q)→K (.int .i64 (m:Int)) M'):(aJ PP w0).cpy #[274,274] 3 [SV.v ⟨some ⟨b,o,none⟩,n,c⟩,SV.v x] K M:=by
 obtain ⟨inf,hi,hz,hsz,_⟩:=W.aKy
 refine aLT (d:=⟨some ⟨b,o,none⟩,n,c⟩) Tryz.underlying274 hi m em (by rw [hsz];exact hn) hcn hnn (fun e0=>by cases e0) fun a ea=>?_
 cases ea
 exact ⟨b,o,cs,e,rfl,h.bC,by omega,hone,hK _ h.lJ⟩
theorem aL5 {b:Nat} {cs:List Value} {e:TypeId} {Q:cI} (h:aA w0 F M (star (bA b cs e) Q)) {o:Nat} {news:List Value} (hg:∀ j v,news[j]? = some v→cs[o + j]? = some v):gW w0 M (some ⟨b,o,none⟩) news:=fun j v hj =>
 ⟨_,rfl,by rw [add_eq,aN h.bC];exact hg j v hj⟩
theorem aJM {Q:cI} {s x:SV} {l:List bR} {e:bR} (h:aA w0 F M (star (EsO s l) (star (Es x [e]) Q))) {i:Nat} (hi:i≤l.length) (hb:l.length≤100000) (hR:∀ M' s',aA w0 F M' (star (EsO s' (l.take i ++ e::l.drop i)) Q)→R s'.v M') :
  C PP w0 Id.dP #[SV.v s,.int .i64 (i:Int),SV.v x] R M:=by
 have hrs:=EsO.rd h
 have hsn:=hrs.len
 have hcap:=hrs.cap
 have hrx:=h.right.nJ
 have hxn:x.n = 1:=hrx.len
 have hx1:x.a≠none:=fun e9=>by have:=hrx.nul e9;omega
 have hxc:gW w0 M x.a (gH [e]):=hrx.cells M (Mem.le_refl _)
 have hQ:aA w0 F M Q:=h.right.right
 obtain ⟨inf,hinf,hzz,hsz,hzs,hb1,hb2⟩:=W.aKy
 apply dP.go
 unfold dP.T aH
 refine ⟨⟨by omega,by omega,by omega⟩,?_⟩
 rw [fJ,if_neg (by omega),fJ]
 split
 ·rename_i hie
  have hil:i = l.length:=by omega
  rw [hil,List.take_length,List.drop_length] at hR
  refine aEP (s:=s) (x:=x) (olds:=gH l) (news:=gH [e]) Tryz.underlying274 hinf hzz (by rw [c8,hsz,hsn]) (hrs.cells M (Mem.le_refl _)) (fun e0=>?_) (by rw [c8,hsz,hxn];rfl) hxc (fun e0=>absurd e0 hx1) hb1 ?_ (fun _ e0=>by omega) (fun a ha hfit=>?_) (fun hgr b c hb0 hw0 hc=>?_)
  ·refine ⟨hrs.nul e0,?_⟩
   obtain ⟨r,⟨r1,r2,rfl,h1,h2⟩,h3⟩:=h
   rcases h1 with ⟨_,e2,_⟩ | ⟨b,pre,rest,e',ha,_⟩
   ·exact e2
   ·rw [ha] at e0;cases e0
  ·exact Nat.le_trans (Nat.mul_le_mul (show s.n + x.n≤200000 by omega) hb2) (by decide)
  ·obtain ⟨r,⟨r1,r2,rfl,h1,h2⟩,h3⟩:=h
   rcases h1 with ⟨e1,e2,_⟩ | ⟨b,pre,rest,e',ha',hl,hl2,rfl⟩
   ·omega
   ·rw [ha] at ha';cases ha'
    have ho:=h3.own (b:=b) (cs:=pre ++ (gH l ++ rest)) (e:=e') List.mem_cons_self
    refine ⟨b,pre.length,_,e',rfl,ho,by rw [hsz];simp only [List.length_append,c8];omega,tE _,?_⟩
    show shS (SV.v ⟨some ⟨b,pre.length,none⟩,s.n + x.n,s.c⟩) _
    rw [aM]
    refine hR _ ⟨some ⟨b,pre.length,none⟩,s.n + x.n,s.c⟩ ?_
    obtain ⟨c0,c1,rest',hrest⟩:∃ c0 c1 rest',rest = c0::c1::rest':=by
     match rest,hl2 with
     | [],hl2=>simp at hl2;omega
     | [c0],hl2=>simp at hl2;omega
     | c0::c1::rest',_=>exact ⟨c0,c1,rest',rfl⟩
    have hov:eO (pre ++ (gH l ++ rest)) (pre.length + s.n * inf.size) (gH [e]) = pre ++ (gH (l ++ [e]) ++ rest'):=by
     rw [hrest,hsz]
     have:=eE (pre ++ gH l) [c0,c1] rest' (gH [e]) rfl (o:=pre.length + s.n * 2) (by rw [List.length_append,c8];omega)
     rw [List.append_assoc] at this
     rw [show (gH l ++ c0::c1::rest') = gH l ++ ([c0,c1] ++ rest') from by simp,this,fM]
     simp
    rw [hov]
    obtain ⟨r3,r4,rfl,g1,g2⟩:=h2
    have h4:Fit w0 F (M.set b (.row (pre ++ (gH (l ++ [e]) ++ rest')) e')) ((b,pre ++ (gH (l ++ [e]) ++ rest'),e')::(r3 ++ r4)):=h3.upd (cs':=pre ++ (gH (l ++ [e]) ++ rest')) (e':=e')
    have hrl:rest'.length + 2 = rest.length:=by rw [hrest];simp
    refine ⟨[(b,pre ++ (gH (l ++ [e]) ++ rest'),e')] ++ r4,⟨[(b,pre ++ (gH (l ++ [e]) ++ rest'),e')],r4,rfl,.inr ⟨b,pre,rest',e',rfl,?_,?_,rfl⟩,g2⟩,(h4.perm (r':=([(b,pre ++ (gH (l ++ [e]) ++ rest'),e')] ++ r4) ++ r3) (List.Perm.cons _ List.perm_append_comm)).drop⟩
    ·rw [List.length_append,List.length_singleton]
     show s.n + x.n = _
     omega
    ·rw [List.length_append,List.length_singleton]
     show _ = s.c * 2
     omega
  ·show shS (SV.v ⟨some ⟨b,0,none⟩,s.n + x.n,c⟩) _
   rw [aM]
   refine hR _ ⟨some ⟨b,0,none⟩,s.n + x.n,c⟩ ?_
   have hzlen:∀ n,(iN (.agg #[.int .i64 0,.int .i64 0]) n).length = n * 2:=fun n=>by rw [pM];rfl
   have:=hQ.tV (k:=2) (M':=M.set b (.row (gH l ++ gH [e] ++ iN (.agg #[.int .i64 0,.int .i64 0]) (c - (s.n + x.n))) 276)) (s:=⟨some ⟨b,0,none⟩,s.n + x.n,c⟩) (l:=gH (l ++ [e])) (Mem.fC _ hb0) (.inr ⟨b,iN (.agg #[.int .i64 0,.int .i64 0]) (c - (s.n + x.n)),276,rfl,by
     rw [c8,List.length_append];simp only [List.length_singleton];omega,by
     rw [c8,List.length_append,hzlen];simp only [List.length_singleton];omega,hb0,by
     rw [fM];exact cS.new hw0⟩)
   exact EsO.of this
 ·rename_i hie
  have hil:i < l.length:=by omega
  have w1:lN (((s.n:Nat):Int) + ((x.n:Nat):Int)) = ((l.length + 1:Nat):Int):=by rw [aQ (by omega)];omega
  have w2:lN ((i:Int) + ((x.n:Nat):Int)) = ((i + 1:Nat):Int):=by rw [aQ (by omega)];omega
  have w3:lN (((l.length + 1:Nat):Int) - (i:Int)) = ((l.length + 1 - i:Nat):Int):=by rw [aQ (by omega)];omega
  have adz:∀ a:Addr,a.add 0 = a:=fun a=>by simp [Addr.add]
  have hz:(if s.c = (0:Int).toNat then s.a else s.a.map (·.add ((0:Int).toNat * 2))) = s.a:=by
   split
   ·rfl
   ·cases s.a with
    | none=>rfl
    | some a=>show some (a.add 0) = some a;rw [adz]
  have t0:(0:Int).toNat = 0:=rfl
  simp only [w1,w2,w3,hz]
  rw [cR]
  split
  ·rename_i hgr
   refine ⟨⟨by omega,by omega,by omega⟩,?_⟩
   simp only [t0,Int.toNat_natCast,Nat.sub_zero]
   refine aJ6 (s:=⟨s.a,i,s.c⟩) (n:=l.length + 1 - i) (olds:=gH (l.take i)) Tryz.underlying274 Tryz.underlying3 hinf hzz (by rw [c8,List.length_take,hsz];show min i l.length * 2 = i * 2;omega) (fun j v hj=>?_) (fun e9=>?_) hb1 ?_ (by show s.c < i + (l.length + 1 - i);omega) (by rw [hsz];omega) fun b c hb0 hw0 hc=>?_
   ·have hjl:=(List.getElem?_eq_some_iff.1 hj).1
    refine hrs.cells M (Mem.le_refl _) j v ?_
    rw [aEo,List.getElem?_take_of_lt (by rw [c8,List.length_take] at hjl;omega)] at hj
    exact hj
   ·have:=hrs.nul e9
    show i = 0
    omega
   ·show (i + (l.length + 1 - i)) * inf.bytes≤_
    exact Nat.le_trans (Nat.mul_le_mul (show i + (l.length + 1 - i)≤200000 by omega) hb2) (by decide)
   ·show shS (Value.slice (some ⟨b,0,none⟩) (i + (l.length + 1 - i)) c) _
    have hlen1:i + (l.length + 1 - i) = l.length + 1:=by omega
    have hc':l.length + 1≤c:=by have:i + (l.length + 1 - i)≤c:=hc;omega
    rw [hlen1,sJ]
    simp only
    refine ⟨⟨by omega,by omega,by omega⟩,?_⟩
    have hzlen:∀ n,(iN (.agg #[.int .i64 0,.int .i64 0]) n).length = n * 2:=fun n=>by rw [pM];rfl
    have hH1:=h.new hb0 hw0 (gH (l.take i) ++ iN (.agg #[.int .i64 0,.int .i64 0]) (l.length + 1 - i) ++ iN (.agg #[.int .i64 0,.int .i64 0]) (c - (l.length + 1))) 276
    generalize M.set b _ = M1 at hH1 ⊢
    generalize hZ1:iN (.agg #[.int .i64 0,.int .i64 0]) (l.length + 1 - i) = Z1 at hH1
    generalize hZ2:iN (.agg #[.int .i64 0,.int .i64 0]) (c - (l.length + 1)) = Z2 at hH1
    have hz1:Z1.length = (l.length + 1 - i) * 2:=by rw [←hZ1,hzlen]
    have hz2:Z2.length = (c - (l.length + 1)) * 2:=by rw [←hZ2,hzlen]
    change aA w0 F M1 (star (bA b (gH (l.take i) ++ Z1 ++ Z2) 276) (star (EsO s l) (star (Es x [e]) Q))) at hH1
    obtain ⟨c0,c1,Z1',hZ1'⟩:∃ c0 c1 Z1',Z1 = c0::c1::Z1':=by
     match Z1,hz1 with
     | [],hz1=>simp at hz1;omega
     | [c0],hz1=>simp at hz1;omega
     | c0::c1::Z1',_=>exact ⟨c0,c1,Z1',rfl⟩
    have hz1':Z1'.length = (l.length - i) * 2:=by rw [hZ1'] at hz1;simp only [List.length_cons] at hz1;omega
    have tk:i * 2 = (gH (l.take i)).length:=by rw [c8,List.length_take];omega
    have hrx1:=(hH1.right.right).nJ
    have e1:(Value.slice (if c = i then some ⟨b,0,none⟩ else (some (⟨b,0,none⟩:Addr)).map (·.add (i * 2))) (l.length + 1 - i) (c - i)) = SV.v ⟨some ⟨b,i * 2,none⟩,l.length + 1 - i,c - i⟩:=by
     rw [if_neg (by omega)]
     simp only [Option.map_some,add_eq,Nat.zero_add];rfl
    rw [e1]
    have hm1:1 = min x.n (l.length + 1 - i):=by rw [hxn];omega
    have hl1:i * 2 + 1 * 2≤(gH (l.take i) ++ Z1 ++ Z2).length:=by simp only [List.length_append,←tk,hz1,hz2];omega
    have hca1:gW w0 M1 x.a (gH [e]):=hrx1.cells _ (Mem.le_refl _)
    refine aKB (b:=b) (o:=i * 2) (n:=l.length + 1 - i) (c:=c - i) (x:=x) (news:=gH [e]) hH1 1 hm1 rfl hca1 (fun e9=>absurd e9 hx1) (tE _) hl1 fun M2 hH2=>?_
    rw [aL]
    refine ⟨⟨by omega,by omega,by omega⟩,⟨by omega,by omega,by omega⟩,?_⟩
    have o1:eO (gH (l.take i) ++ Z1 ++ Z2) (i * 2) (gH [e]) = (gH (l.take i) ++ gH [e]) ++ (Z1' ++ Z2):=by
     rw [hZ1',List.append_assoc]
     have:=eE (gH (l.take i)) [c0,c1] (Z1' ++ Z2) (gH [e]) rfl tk
     simp only [List.cons_append,List.nil_append] at this ⊢
     rw [this,List.append_assoc]
    rw [o1] at hH2
    have hrs2:=EsO.rd hH2.right
    have e2:(Value.slice (if c = i + 1 then some ⟨b,0,none⟩ else (some (⟨b,0,none⟩:Addr)).map (·.add ((i + 1) * 2))) (l.length + 1 - (i + 1)) (c - (i + 1))) = SV.v ⟨some ⟨b,(i + 1) * 2,none⟩,l.length + 1 - (i + 1),c - (i + 1)⟩:=by
     rw [if_neg (by omega)]
     simp only [Option.map_some,add_eq,Nat.zero_add];rfl
    have e3:(Value.slice (if s.c = i then s.a else s.a.map (·.add (i * 2))) (s.n - i) (s.c - i)) = SV.v ⟨(if s.c = i then s.a else s.a.map (·.add (i * 2))),s.n - i,s.c - i⟩:=rfl
    rw [e2,e3]
    have hm2:l.length - i = min (s.n - i) (l.length + 1 - (i + 1)):=by omega
    have hl2:(i + 1) * 2 + (l.length - i) * 2≤((gH (l.take i) ++ gH [e]) ++ (Z1' ++ Z2)).length:=by simp only [List.length_append,←tk,hz1',hz2];show _≤i * 2 + 2 + _;omega
    refine aKB (b:=b) (o:=(i + 1) * 2) (n:=l.length + 1 - (i + 1)) (c:=c - (i + 1)) (x:=⟨(if s.c = i then s.a else s.a.map (·.add (i * 2))),s.n - i,s.c - i⟩) (news:=gH (l.drop i)) hH2 (l.length - i) hm2 (by rw [c8,List.length_drop]) (hrs2.tail (by omega)) (fun e9=>?_) (tE _) hl2 fun M3 hH3=>?_
    ·simp only at e9
     rw [if_neg (by omega)] at e9
     have:s.a = none:=by simpa using e9
     have:=hrs.nul this;omega
    ·rw [aL]
     have o2:eO ((gH (l.take i) ++ gH [e]) ++ (Z1' ++ Z2)) ((i + 1) * 2) (gH (l.drop i)) = gH (l.take i ++ e::l.drop i) ++ Z2:=by
      have:=eE (gH (l.take i) ++ gH [e]) Z1' Z2 (gH (l.drop i)) (by rw [c8,List.length_drop,hz1']) (o:=(i + 1) * 2) (by rw [List.length_append,←tk];show (i + 1) * 2 = i * 2 + 2;omega)
      rw [this,fM,List.append_assoc,List.append_assoc]
      show _ = gH (l.take i) ++ (gH ([e] ++ l.drop i) ++ Z2)
      rw [fM,List.append_assoc]
     rw [o2] at hH3
     have hlt:(l.take i ++ e::l.drop i).length = l.length + 1:=by simp;omega
     refine hR M3 ⟨some ⟨b,0,none⟩,l.length + 1,c⟩ ?_
     obtain ⟨r,⟨r1,r2,rfl,q1,r3,r4,rfl,q2,r5,r6,rfl,q3,q4⟩,q5⟩:=hH3
     refine ⟨r1 ++ r6,⟨r1,r6,rfl,.inr ⟨b,[],Z2,276,rfl,hlt.symm,by rw [hlt];simp only;omega,q1⟩,q4⟩,(q5.perm (r':=(r1 ++ r6) ++ (r3 ++ r5)) ?_).drop⟩
     rw [List.append_assoc]
     refine List.Perm.append_left r1 ?_
     rw [←List.append_assoc]
     exact List.perm_append_comm
  ·rename_i hgr
   refine ⟨⟨by omega,by omega,by omega⟩,⟨by omega,by omega,by omega⟩,?_⟩
   simp only [t0,Int.toNat_natCast,Nat.sub_zero]
   obtain ⟨r,⟨r1,r2,rfl,q1,r3,r4,rfl,q2,q3⟩,q4⟩:=h
   rcases q1 with ⟨e1,e2,_⟩ | ⟨b,pre,rest,e9,ha,hl,hl2,rfl⟩
   ·omega
   ·have fW:=q4.nd
    rcases q2 with ⟨rfl,_⟩ | ⟨b2,rest2,e92,ha2,hl3,hl4,rfl⟩
    ·exact absurd rfl hx1
    ·have o1:=q4.own (b:=b) (cs:=pre ++ (gH l ++ rest)) (e:=e9) (by simp)
     have o2:=q4.own (b:=b2) (cs:=gH [e] ++ rest2) (e:=e92) (by simp)
     have eT:b2≠b:=fun e0=>by
      simp only [List.cons_append,List.nil_append,List.map_cons,List.nodup_cons,List.mem_cons,not_or] at fW
      exact fW.1.1 e0.symm
     have hH1:aA w0 F M (star (bA b (pre ++ (gH l ++ rest)) e9) (star (bA b2 (gH [e] ++ rest2) e92) Q)):=⟨_,⟨_,_,rfl,rfl,_,r4,rfl,rfl,q3⟩,q4⟩
     simp only [ha,Option.map_some,add_eq]
     have hc1:¬ s.c = i:=by omega
     obtain ⟨c0,c1,rest',hrest⟩:∃ c0 c1 rest',rest = c0::c1::rest':=by
      match rest,hl2 with
      | [],hl2=>simp at hl2;omega
      | [c0],hl2=>simp at hl2;omega
      | c0::c1::rest',_=>exact ⟨c0,c1,rest',rfl⟩
     have hrl:rest'.length + 2 = rest.length:=by rw [hrest];simp
     have hov:∀ (o' n' c':Nat) (R':VP),R' (.bool false) M→C PP w0 Id.w6 #[SV.v x,.slice (some ⟨b,o',none⟩) n' c'] R' M:=fun o' n' c' R' hR'=>by
      obtain ⟨xa,xn,xc⟩:=x
      simp only at ha2
      subst ha2
      exact aEg (size:=2) (tS:=274) (tR:=4) (e:=276) (show PP.funcs[Id.w6]? = some Tryz.f276 from Tryz.func276) (by kernel_rfl) (by kernel_rfl) (by kernel_rfl) (by kernel_rfl) Tryz.underlying274 (by kernel_rfl) eT o2 o1 (by
       intro e0
       have:=congrArg List.length e0
       rw [List.length_append,List.length_append,c8] at this
       simp only [List.length_nil] at this
       omega) hR'
     have hc2:¬ s.c = i + 1:=by omega
     simp only [if_neg hc1,if_neg hc2]
     refine hov _ _ _ _ ?_
     rw [bU,Bool.not_false,dZ]
     refine ⟨⟨by omega,by omega,by omega⟩,⟨by omega,by omega,by omega⟩,?_⟩
     have hsrc:∀ (L:List Value) (M':Mem),aA w0 F M' (star (bA b (pre ++ L) e9) (star (bA b2 (gH [e] ++ rest2) e92) Q))→∀ news,(∀ j v,news[j]? = some v→L[i * 2 + j]? = some v)→gW w0 M' (some ⟨b,pre.length + i * 2,none⟩) news:=fun L M' h' news hn=>aL5 h' fun j v hj=>by
      rw [Nat.add_assoc,List.getElem?_append_right (by omega),show pre.length + (i * 2 + j) - pre.length = i * 2 + j from by omega]
      exact hn j v hj
     have e2:(Value.slice (some (⟨b,pre.length + i * 2,none⟩:Addr)) (l.length + 1 - i) (s.c - i)) = SV.v ⟨some ⟨b,pre.length + i * 2,none⟩,l.length + 1 - i,s.c - i⟩:=rfl
     have e3:(Value.slice (some (⟨b,pre.length + (i + 1) * 2,none⟩:Addr)) (l.length + 1 - (i + 1)) (s.c - (i + 1))) = SV.v ⟨some ⟨b,pre.length + (i + 1) * 2,none⟩,l.length + 1 - (i + 1),s.c - (i + 1)⟩:=rfl
     rw [e2,e3]
     ·have hm3:l.length - i = min (l.length + 1 - i) (l.length + 1 - (i + 1)):=by omega
      refine aKB (news:=gH (l.drop i)) hH1 (l.length - i) hm3 (by rw [c8,List.length_drop]) (hsrc _ _ hH1 _ fun j v hj=>?_) (fun e0=>by cases e0) (tE _) (by simp only [List.length_append,c8];omega) fun M2 hH2=>?_
      ·rw [aBh,List.getElem?_drop] at hj
       have:=(List.getElem?_eq_some_iff.1 hj).1
       rw [List.getElem?_append_left this];exact hj
      ·rw [aL]
       refine ⟨⟨by omega,by omega,by omega⟩,?_⟩
       have tk:(gH (l.take (i + 1))).length = (i + 1) * 2:=by rw [c8,List.length_take];omega
       have tk0:(gH (l.take i)).length = i * 2:=by rw [c8,List.length_take];omega
       have o3:eO (pre ++ (gH l ++ rest)) (pre.length + (i + 1) * 2) (gH (l.drop i)) = pre ++ (gH (l.take (i + 1)) ++ (gH (l.drop i) ++ rest')):=by
        have h9:pre ++ (gH l ++ rest) = (pre ++ gH (l.take (i + 1))) ++ ((gH (l.drop (i + 1)) ++ [c0,c1]) ++ rest'):=by
         rw [hrest,List.append_assoc]
         congr 1
         rw [show gH l = gH (l.take (i + 1)) ++ gH (l.drop (i + 1)) from by rw [←fM,List.take_append_drop]]
         simp
        rw [h9,eE (pre ++ gH (l.take (i + 1))) (gH (l.drop (i + 1)) ++ [c0,c1]) rest' (gH (l.drop i)) (by rw [List.length_append,c8,c8,List.length_drop,List.length_drop];simp;omega) (by rw [List.length_append,tk]),List.append_assoc]
       rw [o3] at hH2
       have hxr:gW w0 M2 x.a (gH [e]):=by
        rw [ha2]
        refine aL5 hH2.dY fun j v hj=>?_
        have:=(List.getElem?_eq_some_iff.1 hj).1
        rw [Nat.zero_add,List.getElem?_append_left this];exact hj
       have hxa:x.a = none→(1:Nat) = 0:=fun e0=>absurd e0 hx1
       have hxm:(1:Nat) = min x.n (l.length + 1 - i):=by rw [hxn];omega
       refine aKB (x:=x) (news:=gH [e]) hH2 1 hxm rfl hxr hxa (tE _) (by simp only [List.length_append,tk,c8,List.length_drop];omega) fun M3 hH3=>?_
       rw [aL]
       have o4:eO (pre ++ (gH (l.take (i + 1)) ++ (gH (l.drop i) ++ rest'))) (pre.length + i * 2) (gH [e]) = pre ++ (gH (l.take i ++ e::l.drop i) ++ rest'):=by
        have h9:pre ++ (gH (l.take (i + 1)) ++ (gH (l.drop i) ++ rest')) = (pre ++ gH (l.take i)) ++ (eV l[i] ++ (gH (l.drop i) ++ rest')):=by
         rw [List.take_succ_eq_append_getElem hil,fM]
         simp [gH]
        rw [h9,eE (pre ++ gH (l.take i)) (eV l[i]) (gH (l.drop i) ++ rest') (gH [e]) rfl (by rw [List.length_append,tk0]),fM,List.append_assoc]
        show _ = pre ++ (gH (l.take i) ++ gH ([e] ++ l.drop i) ++ rest')
        rw [fM];simp
       rw [o4] at hH3
       have hlt:(l.take i ++ e::l.drop i).length = l.length + 1:=by simp;omega
       refine hR M3 ⟨some ⟨b,pre.length,none⟩,l.length + 1,s.c⟩ ?_
       obtain ⟨r,⟨r1,r2,rfl,g1,r3',r4',rfl,g2,g3⟩,g4⟩:=hH3
       refine ⟨r1 ++ r4',⟨r1,r4',rfl,.inr ⟨b,pre,rest',e9,rfl,hlt.symm,by rw [hlt];simp only;omega,g1⟩,g3⟩,(g4.perm (r':=(r1 ++ r4') ++ r3') ?_).drop⟩
       rw [List.append_assoc]
       exact List.perm_append_comm.append_left r1
end
end HL
namespace HL
theorem aDb {α β:Type} {f:α→β} {l:List α} {Z:List β} (h:Z.Perm (l.map f)):∃ W:List α,W.Perm l∧Z = W.map f:=by
 have key:∀ {Z Y:List β},Z.Perm Y→∀ l:List α,Y = l.map f→∃ W:List α,W.Perm l∧Z = W.map f:=by
  intro Z Y h
  induction h with
  | nil=>intro l e;exact ⟨[],by cases l with | nil=>exact List.Perm.refl _ | cons x l=>simp at e,rfl⟩
  | cons x h ih =>
   intro l e
   match l,e with
   | [],e=>simp at e
   | y::l,e =>
    simp only [List.map_cons,List.cons.injEq] at e
    obtain ⟨W,h1,h2⟩:=ih l e.2
    exact ⟨y::W,h1.cons y,by rw [h2,e.1];rfl⟩
  | swap x y t =>
   intro l e
   match l,e with
   | [],e=>simp at e
   | [u],e=>simp at e
   | u::v::l,e =>
    simp only [List.map_cons,List.cons.injEq] at e
    exact ⟨v::u::l,List.Perm.swap _ _ _,by rw [e.1,e.2.1,e.2.2];rfl⟩
  | trans h1 h2 ih1 ih2 =>
   intro l e
   obtain ⟨W,g1,g2⟩:=ih2 l e
   obtain ⟨W2,g3,g4⟩:=ih1 W g2
   exact ⟨W2,g3.trans g1,g4⟩
 exact key h l rfl
namespace ST
def y8 (l:List Tn):List bR:=l.map fun t=>((t.n:Int),(t.k:Int))
def aHD (l:List Tn):Prop:=l.Pairwise fun a b=>a.k≤b.k
theorem aKd {l:List Tn} (h:aFs (y8 l)):aHD l:=by
 unfold aFs y8 at h
 rw [List.pairwise_map] at h
 exact h.imp fun h=>by simpa using h
theorem aIW {l:List Tn} {w:Tn} {j:Nat} (h:aHD l) (h1:∀ i x,i < j→l[i]? = some x→x.k < w.k) (h2:∀ x,l[j]? = some x→w.k≤x.k):aHD (l.take j ++ w::l.drop j):=by
 unfold aHD at *
 have hs:(l.take j ++ l.drop j).Pairwise fun a b=>a.k≤b.k:=by rw [List.take_append_drop];exact h
 obtain ⟨q1,q2,q3⟩:=List.pairwise_append.1 hs
 have ht:∀ x∈l.take j,x.k < w.k:=fun x hx=>by
  obtain ⟨i,hi⟩:=List.getElem?_of_mem hx
  have hlt:=(List.getElem?_eq_some_iff.1 hi).1
  rw [List.length_take] at hlt
  rw [List.getElem?_take_of_lt (by omega)] at hi
  exact h1 i x (by omega) hi
 have hd:∀ x∈l.drop j,w.k≤x.k:=fun x hx=>by
  cases hl:l.drop j with
  | nil=>rw [hl] at hx;cases hx
  | cons y m =>
   have hy:l[j]? = some y:=by
    have:(l.drop j)[0]? = some y:=by rw [hl];rfl
    rw [List.getElem?_drop] at this;simpa using this
   have hwy:=h2 y hy
   rw [hl] at hx q2
   rcases List.mem_cons.1 hx with rfl | hx
   ·exact hwy
   ·exact Nat.le_trans hwy ((List.pairwise_cons.1 q2).1 x hx)
 refine List.pairwise_append.2 ⟨q1,List.pairwise_cons.2 ⟨hd,q2⟩,fun a ha b hb=>?_⟩
 rcases List.mem_cons.1 hb with rfl | hb
 ·exact Nat.le_of_lt (ht a ha)
 ·exact q3 a ha b hb
theorem aA8 {z:Nat} {t:Tn} (h:x3 z t) {n:Nat} (hn:(eX t).length≤n):t.k≤n:=by
 have h1:=zM h
 have h2:t.k < 2 ^ t.k:=Nat.lt_two_pow_self
 omega
end ST
section
variable {w0:World} {M F:Mem} {R:VP} {a:Nat} {α:AS}
open Go.Proofs.YtodobkbnmjgkdaaGreat.HL.ST
theorem aHL {P:cI} {b:Nat} {c0 c1:Value} {x y:Int} (h:aA w0 F M (star (bA b [c0,c1] tRk) P)) {K:Mem→Prop} (hK:∀ M',aA w0 F M' (star (bA b [.int .i64 x,.int .i64 y] tRk) P)→K M') :
  (aJ PP w0).st tRk ⟨b,0,none⟩ (.agg #[.int .i64 x,.int .i64 y]) (fun M2=>K M2) M:=by
 refine hJ (vs:=[.int .i64 x,.int .i64 y]) W.aJN h.bC (by simp) (by intro v hv;simp only [List.mem_cons,List.not_mem_nil,or_false] at hv;rcases hv with rfl | rfl <;> rfl) ?_
 exact hK _ (h.lJ (cs':=eO [c0,c1] 0 [.int .i64 x,.int .i64 y]) (e':=tRk))
theorem aLq (x y:Int):(aJ PP w0).oF tRk [(0,.int .i64 x),(1,.int .i64 y)] = some (.agg #[.int .i64 x,.int .i64 y]):=by kernel_rfl
theorem aLV {P:cI} {b:Nat} {x y:Int} (h:aA w0 F M (star (bA b [.int .i64 x,.int .i64 y] tRk) P)):(aJ PP w0).ld 3 ⟨b,0,none⟩ M = some (.int .i64 x):=by
 rw [aR W.c3];exact aN (o:=0) h.bC
theorem aDM {P:cI} {b:Nat} {x y:Int} (h:aA w0 F M (star (bA b [.int .i64 x,.int .i64 y] tRk) P)):(aJ PP w0).ld 2 (Addr.add ⟨b,0,none⟩ 1) M = some (.int .i64 y):=by
 rw [aR W.c2,add_eq];exact aN (o:=1) h.bC
theorem aMv {P:cI} {b:Nat} {x y:Int} (h:aA w0 F M (star (bA b [.int .i64 x,.int .i64 y] tRk) P)):(aJ PP w0).ld tRk ⟨b,0,none⟩ M = some (.agg #[.int .i64 x,.int .i64 y]):=by
 have o:=h.bC
 exact dG (cs:=[.int .i64 x,.int .i64 y]) W.aJN (fun j v hj=>by rw [add_eq,aN o,Nat.zero_add];exact hj)
theorem wW (hA:aA w0 F M (aF a α)) {z:Nat} (hz:1≤z) {f:Nat→cH} {l:List Tn} {s:SV} (hs:qO w0 F .i64 s (aY (l.map (·.n)))) (hst:∀ t∈l,zS α t) (hlb:Lb α f (aS l)) (fW:(bG f (aS l)).Nodup) (hok:∀ t∈l,x3 z t) (hod:∀ t∈l,y3 f t) (hl20:l.length≤20)
  (h:∀ M' β l',aA w0 F M' (aF a β)→St β (-1) (fo l')→(aS l').Perm (aS l)→(∀ t∈l',x3 z t)→(∀ t∈l',y3 f t)→Rs l'→AS.n9 (fun c=>c∈aS l) (14 * l.length) α β→(∀ c g,5≤g→β.get c g = α.get c g)→R (.int .i64 (fo l').root) M') :
  C PP w0 Id.nN #[.pointer (some ⟨a,0,none⟩),SV.v s] R M:=by
 apply nN.go
 intro aB H
 unfold nN.T aH
 have hI:=hA.inv
 have hI65:=hI.n
 have hnn:=iK fW
 have hsn:=hs.len
 simp only [aY,List.length_map] at hsn
 have hsz:=m6 α.n _ hnn fun y hy=>AS.cJ hI (hlb y hy).ln
 have hmemn:∀ t∈l,t.n∈aS l:=fun t ht=>eK.2 ⟨t,ht,List.mem_cons_self⟩
 have key2:∀ (m:Nat) (W out:List Tn) (sW sO:SV) (M1:Mem) (β:AS) (k:Nat),W.length = m→aA w0 F M1 (star (EsO sW (y8 W)) (star (pS sO ((aY (out.map (·.n))).map (Value.int .i64))) (aF a β)))→(∀ t∈out ++ W,zS β t)→(aS (out ++ W)).Perm (aS l)→(∀ t∈out ++ W,x3 z t)→(∀ t∈out ++ W,y3 f t) →
   Rs out→aHD W→(∀ x∈out,∀ y∈W,x.k < y.k)→out.length + W.length≤l.length→AS.n9 (fun c=>c∈aS l) ((l.length:Int) + 11 * ((l.length:Int) - (out.length + W.length))) α β→(∀ c g,5≤g→β.get c g = α.get c g)→W.length < k →
   nN.L2 aB k (some ⟨a,0,none⟩) sW sO M1:=by
  intro m
  induction m with
  | zero =>
   intro W out sW sO M1 β k hW hH hst1 hp hok1 hod1 hrs hsr hlt hlen hc hg hk
   have:W = []:=List.eq_nil_of_length_eq_zero hW
   subst this
   obtain ⟨k,rfl⟩:∃ j,k = j + 1:=⟨k - 1,by omega⟩
   have hWn:=(EsO.rd hH).len
   simp only [y8,List.map_nil,List.length_nil] at hWn
   simp only [List.append_nil] at hst1 hp hok1 hod1
   refine Eq.mpr (H.L2 ..) ?_
   unfold nN.L2.T aH
   rw [cR,if_neg (by omega)]
   have hnl:(aS out).Nodup:=hp.nodup_iff.2 hnn
   have hlive:∀ t∈out,β.live t.n = true:=fun t ht=>by
    rw [hc.live];exact (hlb t.n (hp.mem_iff.1 (eK.2 ⟨t,ht,List.mem_cons_self⟩))).ln
   have hlw:∀ n∈aY (out.map (·.n)),(Lit.int .i64 n).wf = true:=fun n hn=>by
    obtain ⟨x,hx,rfl⟩:=List.mem_map.1 hn
    obtain ⟨t,ht,rfl⟩:=List.mem_map.1 hx
    have:=AS.cJ hI (hlb t.n (hp.mem_iff.1 (eK.2 ⟨t,ht,List.mem_cons_self⟩))).ln
    exact aHT (by unfold gC;omega)
   obtain ⟨F',hle,hB,hro⟩:=hH.right.freeze hlw (by simp [aY];simp at hlen;omega)
   refine aLQ hB hro hst1 hlive hnl (by simp at hlen;omega) fun M2 γ hB2 hst2 hc2 hg2=>?_
   rw [aL]
   refine h M2 γ out (hB2.fO hle) hst2 hp hok1 hod1 hrs ((hc.trans (hc2.mono (T:=fun c=>c∈aS l) (fun c ⟨t,ht,e⟩=>by rw [e];exact hp.mem_iff.1 (eK.2 ⟨t,ht,List.mem_cons_self⟩)) (Int.le_refl _))).mono (fun _ h=>h) (by simp at hlen ⊢;omega)) (fun c g hx=>(hg2 c g hx).trans (hg c g hx))
  | succ m ih =>
   intro W out sW sO M1 β k hW hH hst1 hp hok1 hod1 hrs hsr hlt hlen hc hg hk
   obtain ⟨x,W',rfl⟩:∃ x W',W = x::W':=by
    cases W with
    | nil=>simp at hW
    | cons x W'=>exact ⟨x,W',rfl⟩
   obtain ⟨k,rfl⟩:∃ j,k = j + 1:=⟨k - 1,by omega⟩
   simp only [List.length_cons] at hW hlen hk
   have hWrd:=EsO.rd hH
   have hWn:=hWrd.len
   have hWc:=hWrd.cap
   simp only [y8,List.map_cons,List.length_cons,List.length_map] at hWn
   have hxm:x∈out ++ x::W':=by simp
   have alone:∀ (M2:Mem) (Q:cI),(∀ y∈W',x.k < y.k)→aA w0 F M2 (star (EsO sW (y8 (x::W'))) (star (pS sO ((aY (out.map (·.n))).map (Value.int .i64))) (aF a β))) →
     (aJ PP w0).bsl 53 1 [(0,.int .i64 (x.n:Int))] (fun v39 M40=>shS v39 fun s41=>(aJ PP w0).app #[53,53] 53 [SV.v sO,SV.v s41] (fun v42 M43=>shS v42 fun s44=>nN.L2 aB k (some ⟨a,0,none⟩) ⟨(if sW.c = (1:Int).toNat then sW.a else sW.a.map (·.add ((1:Int).toNat * 2))),(((sW.n:Nat):Int).toNat - (1:Int).toNat),(sW.c - (1:Int).toNat)⟩ s44 M43) M40) M2:=by
    intro M2 Q hx h2
    refine zD (K:=fun s27 M26=>nN.L2 aB k _ _ s27 M26) h2.dY (by simp [aY];omega) fun M3 sO' h3=>?_
    have e1:(⟨(if sW.c = (1:Int).toNat then sW.a else sW.a.map (·.add ((1:Int).toNat * 2))),(((sW.n:Nat):Int).toNat - (1:Int).toNat),(sW.c - (1:Int).toNat)⟩:SV) = ⟨if sW.c = 1 then sW.a else sW.a.map (·.add (1 * 2)),sW.n - 1,sW.c - 1⟩:=rfl
    rw [e1]
    have h4:=EsO.drop h3.dY (m:=1) (by simp [y8]) (by decide)
    refine ih W' (out ++ [x]) _ sO' M3 β k (by omega) ?_ (by simpa using hst1) (by simpa using hp) (by simpa using hok1) (by simpa using hod1) ?_ (List.pairwise_cons.1 hsr).2 ?_ (by simp;omega) (hc.mono (fun _ h=>h) (by simp;omega)) hg (by omega)
    ·rw [show aY ((out ++ [x]).map (·.n)) = aY (out.map (·.n)) ++ [(x.n:Int)] from by simp [aY]]
     exact h4
    ·refine List.pairwise_append.2 ⟨hrs,List.pairwise_singleton _ _,fun u hu v hv=>?_⟩
     rw [List.mem_singleton.1 hv];exact hlt u hu x List.mem_cons_self
    ·intro u hu v hv
     rcases List.mem_append.1 hu with hu | hu
     ·exact hlt u hu v (List.mem_cons_of_mem _ hv)
     ·rw [List.mem_singleton.1 hu];exact hx v hv
   refine Eq.mpr (H.L2 ..) ?_
   unfold nN.L2.T aH
   rw [cR,if_pos (by omega)]
   refine rdR (x:=((x.n:Int),(x.k:Int))) hWrd (Mem.le_refl _) 0 rfl rfl ?_
   intro bx hbx hwx
   have hX0:aA w0 F _ (star (bA bx _ tRk) _):=hH.new hbx hwx [.int .i64 0,.int .i64 0] tRk
   refine aHL hX0 fun M2 hX=>?_
   simp only [aLV hX,aC,aL]
   rw [fJ]
   split
   ·rename_i h1
    have hW0:W' = []:=List.eq_nil_of_length_eq_zero (by omega)
    refine ⟨⟨by omega,by omega,by omega⟩,?_⟩
    exact alone M2 (fun _=>True) (fun y hy=>by rw [hW0] at hy;cases hy) hX.right
   ·rename_i h1
    obtain ⟨y,W2,rfl⟩:∃ y W2,W' = y::W2:=by
     cases W' with
     | nil=>simp at hWn;omega
     | cons y W2=>exact ⟨y,W2,rfl⟩
    simp only [List.length_cons] at hW hlen hk hWn
    have hrd2:=EsO.rd hX.right
    refine aLZ W.c2 (x:=((y.n:Int),(y.k:Int))) hrd2 (Mem.le_refl _) 1 rfl rfl ?_
    simp only [aDM hX,aC,aL]
    rw [cB]
    obtain ⟨sr1,sr2⟩:=List.pairwise_cons.1 hsr
    obtain ⟨sr3,sr4⟩:=List.pairwise_cons.1 sr2
    split
    rotate_left
    ·rename_i hxy
     refine ⟨⟨by omega,by omega,by omega⟩,?_⟩
     refine alone M2 (fun _=>True) (fun u hu=>?_) hX.right
     have h2:=sr1 y List.mem_cons_self
     have h3:x.k < y.k:=by
      have:¬ ((y.k:Int) = (x.k:Int)):=hxy
      omega
     rcases List.mem_cons.1 hu with rfl | hu
     ·exact h3
     ·exact Nat.lt_of_lt_of_le h3 (sr3 u hu)
    ·rename_i hxy
     have hkk:x.k = y.k:=by
      have:(y.k:Int) = (x.k:Int):=hxy
      omega
     refine Eq.mpr (H.J3 ..) ?_
     unfold nN.J3.T aH
     have hym:y∈out ++ x::y::W2:=by simp
     have hxn:∀ c∈eX x,c∈aS l:=fun c hc=>hp.mem_iff.1 (eK.2 ⟨x,hxm,hc⟩)
     have hyn:∀ c∈eX y,c∈aS l:=fun c hc=>hp.mem_iff.1 (eK.2 ⟨y,hym,hc⟩)
     have hpn:(aS (out ++ x::y::W2)).Nodup:=hp.nodup_iff.2 hnn
     have hsplit:(aS (out ++ x::y::W2)).Perm ((eX x ++ eX y) ++ aS (out ++ W2)):=by
      have:(aS (out ++ x::y::W2)).Perm (aS (x::y::(out ++ W2))):=uK (by
       refine List.perm_middle.trans (List.Perm.cons _ ?_)
       exact List.perm_middle)
      refine this.trans ?_
      show ((eX x) ++ ((eX y) ++ aS (out ++ W2))).Perm _
      rw [List.append_assoc]
     have hnd3:=hsplit.nodup_iff.1 hpn
     obtain ⟨nd1,nd2,nd3⟩:=List.nodup_append.1 hnd3
     have hlb1:Lb β f (eX x ++ eX y):=(hlb.congr (fun c _ g hg'=>hg c g (by omega)) (fun c _=>by rw [hc.live])).sub fun n hn=>by
      rcases List.mem_append.1 hn with hn | hn
      ·exact hxn n hn
      ·exact hyn n hn
     have hxk:x.k≤65536:=aA8 (hok1 x hxm) (Nat.le_trans (tG hxm) (by rw [hp.length_eq];omega))
     have eT:(f x.n).1≠(f y.n).1:=fun e=>by
      have:=lH fW x.n (hxn _ List.mem_cons_self) y.n (hyn _ List.mem_cons_self) e
      exact (List.nodup_append.1 nd1).2.2 x.n List.mem_cons_self y.n List.mem_cons_self this
     have fin:∀ (M3:Mem) (γ:AS) (oP:Nat) (Q:cI),aA w0 F M3 (star (bA oP [.int .i64 ((uO f x y).n:Int),.int .i64 ((x.k:Int) + 1)] tRk) (star (EsO sW (y8 (x::y::W2))) (star (pS sO ((aY (out.map (·.n))).map (Value.int .i64))) (aF a γ)))) →
       zS γ (uO f x y)→AS.n9 (fun c=>c = x.n∨c = y.n) 11 β γ→(∀ c g,5≤g→γ.get c g = β.get c g) →
       ∃ k84,nN.L5 aB k k84 (some ⟨a,0,none⟩) ⟨(if sW.c = (2:Int).toNat then sW.a else sW.a.map (·.add ((2:Int).toNat * 2))),(((sW.n:Nat):Int).toNat - (2:Int).toNat),(sW.c - (2:Int).toNat)⟩ sO ⟨oP,0,none⟩ 0 M3:=by
      intro M3 γ oP Q hY hstw hcγ hgγ
      have e1:(⟨(if sW.c = (2:Int).toNat then sW.a else sW.a.map (·.add ((2:Int).toNat * 2))),(((sW.n:Nat):Int).toNat - (2:Int).toNat),(sW.c - (2:Int).toNat)⟩:SV) = ⟨if sW.c = 2 then sW.a else sW.a.map (·.add (2 * 2)),sW.n - 2,sW.c - 2⟩:=rfl
      rw [e1]
      have hY1:=(EsO.drop hY.dY (m:=2) (by simp [y8]) (by decide)).dY
      rw [show (y8 (x::y::W2)).drop 2 = y8 W2 from rfl] at hY1
      have hWk:=aKX f hkk
      generalize hsW2:(⟨if sW.c = 2 then sW.a else sW.a.map (·.add (2 * 2)),sW.n - 2,sW.c - 2⟩:SV) = sW2 at hY1 ⊢
      have hrdW:=EsO.rd hY1.dY
      have hlW:=hrdW.len
      simp only [y8,List.length_map] at hlW
      have put:∀ j,j≤W2.length→(∀ i u,i < j→W2[i]? = some u→u.k < (uO f x y).k)→(∀ u,W2[j]? = some u→(uO f x y).k≤u.k)→nN.J4 aB k (some ⟨a,0,none⟩) sW2 sO ⟨oP,0,none⟩ (j:Int) M3:=by
       intro j hj hlo hhi
       refine Eq.mpr (H.J4 ..) ?_
       unfold nN.J4.T aH
       simp only [aMv hY1,aC,aZ,aW,aL,aU]
       refine aMz hY1.right _ _ fun M4 s4 l4 h4=>?_
       rw [aM]
       refine aJM (i:=j) (e:=(((uO f x y).n:Int),(x.k:Int) + 1)) h4.dY (by simp [y8];omega) (by simp [y8];omega) fun M5 s5 h5=>?_
       rw [aM]
       have ew:(y8 W2).take j ++ (((uO f x y).n:Int),(x.k:Int) + 1)::(y8 W2).drop j = y8 (W2.take j ++ uO f x y::W2.drop j):=by
        unfold y8
        rw [List.map_append,List.map_cons,List.map_take,List.map_drop,hWk];rfl
       rw [ew] at h5
       have hperm:(W2.take j ++ uO f x y::W2.drop j).Perm (uO f x y::W2):=List.perm_middle.trans (List.Perm.cons _ (by rw [List.take_append_drop]))
       have hwl:(W2.take j ++ uO f x y::W2.drop j).length = W2.length + 1:=by rw [hperm.length_eq,List.length_cons]
       have hmem:∀ t,t∈out ++ (W2.take j ++ uO f x y::W2.drop j)→t = uO f x y∨t∈out ++ W2:=fun t ht=>by
        rcases List.mem_append.1 ht with ht | ht
        ·exact .inr (by simp [ht])
        ·rcases List.mem_cons.1 (hperm.mem_iff.1 ht) with ht | ht
         ·exact .inl ht
         ·exact .inr (by simp [ht])
       have hold:∀ t∈out ++ W2,t∈out ++ x::y::W2:=fun t ht=>by
        rcases List.mem_append.1 ht with ht | ht <;> simp [ht]
       have hwok:=aIy f hz (hok1 x hxm) (hok1 y hym) hkk
       refine ih (W2.take j ++ uO f x y::W2.drop j) out s5 sO M5 γ k (by omega) h5 (fun t ht=>?_) ?_ (fun t ht=>?_) (fun t ht=>?_) hrs (aIW sr4 hlo hhi) ?_ (by omega) ((hc.trans (hcγ.mono (T:=fun c=>c∈aS l) (fun c hc'=>by rcases hc' with rfl | rfl;exact hxn _ List.mem_cons_self;exact hyn _ List.mem_cons_self) (Int.le_refl _))).mono (fun _ h=>h) (by rw [hwl];simp only [List.length_cons];omega)) (fun c g hx=>(hgγ c g hx).trans (hg c g hx)) (by omega)
       ·rcases hmem t ht with rfl | ht
        ·exact hstw
        ·refine (hst1 t (hold t ht)).lW hcγ fun c hct hcS=>?_
         have hcm:c∈aS (out ++ W2):=eK.2 ⟨t,ht,hct⟩
         rcases hcS with rfl | rfl
         ·exact nd3 x.n (by simp [eX]) _ hcm rfl
         ·exact nd3 y.n (by simp [eX]) _ hcm rfl
       ·refine List.Perm.trans ?_ hp
        refine List.Perm.trans ?_ hsplit.symm
        have h6:(aS (out ++ (W2.take j ++ uO f x y::W2.drop j))).Perm (aS (uO f x y::(out ++ W2))):=uK ((hperm.append_left out).trans List.perm_middle)
        refine h6.trans ?_
        show (eX (uO f x y) ++ aS (out ++ W2)).Perm _
        exact (aFJ f x y).append_right _
       ·rcases hmem t ht with rfl | ht
        ·exact hwok.1
        ·exact hok1 t (hold t ht)
       ·rcases hmem t ht with rfl | ht
        ·exact aIu (hod1 x hxm) (hod1 y hym) eT
        ·exact hod1 t (hold t ht)
       ·intro u hu v hv
        have h6:=hlt u hu x (by simp)
        rcases List.mem_cons.1 (hperm.mem_iff.1 hv) with rfl | hv
        ·rw [hWk];omega
        ·exact hlt u hu v (by simp [hv])
      have key5:∀ (d j k5:Nat),j + d = W2.length→(∀ i u,i < j→W2[i]? = some u→u.k < (uO f x y).k)→d < k5→nN.L5 aB k k5 (some ⟨a,0,none⟩) sW2 sO ⟨oP,0,none⟩ (j:Int) M3:=by
       intro d
       induction d with
       | zero =>
        intro j k5 hj hlo hk5
        obtain ⟨k5,rfl⟩:∃ i,k5 = i + 1:=⟨k5 - 1,by omega⟩
        refine Eq.mpr (H.L5 ..) ?_
        unfold nN.L5.T aH
        rw [cR,if_neg (by omega)]
        exact put j (by omega) hlo fun u hu=>by
         have:=(List.getElem?_eq_some_iff.1 hu).1
         omega
       | succ d ihd =>
        intro j k5 hj hlo hk5
        obtain ⟨k5,rfl⟩:∃ i,k5 = i + 1:=⟨k5 - 1,by omega⟩
        have hjl:j < W2.length:=by omega
        have hget:(y8 W2)[j]? = some ((W2[j].n:Int),(W2[j].k:Int)):=by
         unfold y8
         rw [List.getElem?_map,List.getElem?_eq_getElem hjl];rfl
        refine Eq.mpr (H.L5 ..) ?_
        unfold nN.L5.T aH
        rw [cR,if_pos (by omega)]
        refine aLZ W.c2 (x:=((W2[j].n:Int),(W2[j].k:Int))) hrdW (Mem.le_refl _) j rfl hget ?_
        simp only [aDM hY1,aC,aL]
        rw [cR]
        split
        ·rename_i hlt5
         rw [bX (by omega)]
         refine ihd (j + 1) k5 (by omega) (fun i u hi hu=>?_) (by omega)
         by_cases e:i = j
         ·subst e
          rw [List.getElem?_eq_getElem hjl] at hu
          cases hu
          rw [hWk]
          have:(W2[i].k:Int) < (x.k:Int) + 1:=hlt5
          omega
         ·exact hlo i u (by omega) hu
        ·rename_i hlt5
         refine put j (by omega) hlo fun u hu=>?_
         rw [List.getElem?_eq_getElem hjl] at hu
         cases hu
         rw [hWk]
         have:¬ ((W2[j].k:Int) < (x.k:Int) + 1):=hlt5
         omega
      exact ⟨W2.length + 1,key5 W2.length 0 _ (by omega) (fun i u hi=>absurd hi (by omega)) (by omega)⟩
     have hlk:∀ {F2 M3:Mem} {γ:AS} {K:VP},aA w0 F2 M3 (aF a β)→(∀ M' γ,aA w0 F2 M' (aF a γ)→zS γ (uO f x y)→AS.n9 (fun c=>c = x.n∨c = y.n) 11 β γ→(∀ c g,5≤g→γ.get c g = β.get c g)→K (.int .i64 ((uO f x y).n:Int)) M')→C PP w0 Id.cO #[.pointer (some ⟨a,0,none⟩),.int .i64 (x.n:Int),.int .i64 (y.n:Int),.int .i64 (x.k:Int)] K M3:=by
      intro F2 M3 γ K hB hK
      refine aGf hB (hst1 x hxm) (hst1 y hym) hlb1 nd1 hkk (by omega) fun M' γ h1 h2 h3 h4 _=>?_
      exact hK M' γ h1 h2 h3 h4
     obtain ⟨ad,ea,hr⟩:=hrd2.ad (j:=1) (x:=((y.n:Int),(y.k:Int))) rfl
     have hr1:∀ M3,Mem.le M2 M3→(aJ PP w0).ld 3 (ad.add ((1:Int).toNat * 2)) M3 = some (.int .i64 (y.n:Int)):=fun M3 h3=>by
      rw [aR W.c3];exact (hr M3 h3).1
     have hw1:lN ((x.k:Int) + 1) = (x.k:Int) + 1:=aQ (by omega)
     rw [ea]
     have hb0:=aLV hX
     have hb1:=aDM hX
     simp only [aT,hb0,hb1,hr1 M2 (Mem.le_refl _),aC,aL,hw1]
     refine ⟨⟨by omega,by omega⟩,?_,?_⟩
     ·-- the link first
      obtain ⟨F2,hB,hle,back⟩:=hX.aKN
      refine hlk (γ:=β) hB fun M3 γ hB3 g1 g2 g3=>?_
      have hX3:=back M3 _ hB3
      simp only [aL,aLq,aC,aZ,aW,aU]
      refine ⟨aDM hX3,fun oP hb hw=>?_⟩
      have hY0:=hX3.new hb hw [.int .i64 0,.int .i64 0] tRk
      refine ⟨aDM (hY0.le (Mem.le_refl _)).right,?_⟩
      refine aHL hY0 fun M4 hY=>?_
      refine ⟨⟨by omega,by omega,by omega⟩,?_⟩
      have hfin:=fin M4 γ oP (fun _=>True) hY.dY.right g1 g2 g3
      rw [ea] at hfin
      exact hfin
     ·-- bY place first
      intro oP hb hw
      have hY0:=hX.new hb hw [.int .i64 0,.int .i64 0] tRk
      have lX:Mem.le M2 (M2.set oP (.row [.int .i64 0,.int .i64 0] tRk)):=Mem.fC _ hb
      generalize M2.set oP _ = M2' at hY0 lX ⊢
      change aA w0 F M2' (star (bA oP [.int .i64 0,.int .i64 0] tRk) _) at hY0
      refine ⟨aLV hY0.right,hr1 _ lX,aDM hY0.right,aDM hY0.right,?_⟩
      obtain ⟨F1,hX1,hle1,back1⟩:=hY0.last
      obtain ⟨F2,hB,hle,back⟩:=hX1.aKN
      refine hlk (γ:=β) hB fun M3 γ hB3 g1 g2 g3=>?_
      have hX3:=back1 M3 _ (back M3 _ hB3)
      simp only [aL,aLq,aC,aZ,aW,aU]
      refine ⟨aDM hX3.right,?_⟩
      refine aHL hX3 fun M4 hY=>?_
      refine ⟨⟨by omega,by omega,by omega⟩,?_⟩
      have hfin:=fin M4 γ oP (fun _=>True) hY.dY.right g1 g2 g3
      rw [ea] at hfin
      exact hfin
 have key1:∀ (A B:List Tn) (s1:SV) (M1:Mem) (β:AS) (k:Nat),B.length < k→l = A ++ B→aA w0 F M1 (star (Es s1 (y8 A)) (aF a β))→AS.Sm A.length α β→nN.L1 aB k (some ⟨a,0,none⟩) s1 s ((s.n:Nat):Int) (A.length:Int) M1:=by
  intro A B
  induction B generalizing A with
  | nil =>
   intro s1 M1 β k hk he hH hsm
   obtain ⟨k,rfl⟩:∃ j,k = j + 1:=⟨k - 1,by omega⟩
   rw [List.append_nil] at he
   subst he
   refine Eq.mpr (H.L1 ..) ?_
   unfold nN.L1.T aH
   rw [cR,if_neg (by omega)]
   refine aHZ (l:=y8 l) (fun x hx=>?_) (by simp [y8];omega) hH fun M2 Z hZs hZp hH2=>?_
   ·obtain ⟨t,ht,rfl⟩:=List.mem_map.1 hx
    have:=aA8 (hok t ht) (Nat.le_trans (tG ht) hsz)
    simp only;omega
   ·obtain ⟨W,hWp,rfl⟩:=aDb hZp
    change aFs (y8 W) at hZs
    change aA w0 F M2 (star (Es s1 (y8 W)) (aF a β)) at hH2
    have hWl:=hWp.length_eq
    refine ⟨W.length + 1,key2 W.length W [] s1 ⟨none,0,0⟩ M2 β (W.length + 1) rfl ?_ ?_ ?_ ?_ ?_ List.Pairwise.nil (aKd hZs) (fun x hx=>by cases hx) (by simp;omega) (hsm.lW.mono (fun _ h=>h) (by simp;omega)) (fun c g _=>by rw [hsm.get]) (by omega)⟩
    ·obtain ⟨F2,hB,hle,back⟩:=(EsO.of hH2).last
     exact back M2 _ (aA.aFw hB)
    ·intro t ht
     exact (hst t (hWp.mem_iff.1 (by simpa using ht))).sm hsm
    ·simpa using uK hWp
    ·exact fun t ht=>hok t (hWp.mem_iff.1 (by simpa using ht))
    ·exact fun t ht=>hod t (hWp.mem_iff.1 (by simpa using ht))
  | cons t B ih =>
   intro s1 M1 β k hk he hH hsm
   obtain ⟨k,rfl⟩:∃ j,k = j + 1:=⟨k - 1,by omega⟩
   have ll:=congrArg List.length he
   simp only [List.length_append,List.length_cons] at ll hk
   have htl:t∈l:=by rw [he];simp
   have hget:(aY (l.map (·.n)))[A.length]? = some (t.n:Int):=by rw [he];simp [aY]
   have hlive:=(hlb t.n (hmemn t htl)).ln
   refine Eq.mpr (H.L1 ..) ?_
   unfold nN.L1.T aH
   rw [cR,if_pos (by omega)]
   refine rdx (x:=(t.n:Int)) W.c3 hs hH.fr A.length rfl hget ?_
   obtain ⟨F2,hB,hle,back⟩:=hH.last
   refine qU hB fun M2 hB2=>?_
   have hH2:=back M2 _ hB2
   rw [show β.jW (t.n:Int) 4 = (t.k:Int) from by
    rw [show β.jW (t.n:Int) 4 = β.get t.n 4 from AS.iV (f:=4) (by rw [hsm.live];exact hlive) (by omega),hsm.get]
    exact (hst t htl).2.1]
   simp only [aL,aLq,aC,aZ,aW,aU]
   refine aMz hH2 _ _ fun M3 s3 l3 h3=>?_
   rw [aM]
   refine aMM h3.dY h3.nJ (by simp [y8];omega) fun M4 s4 h4=>?_
   rw [aM,bX (by omega)]
   have:=ih (A ++ [t]) s4 M4 β.tick k (by omega) (by rw [he];simp) ?_ ((hsm.trans AS.aO).mono (by simp))
   ·rw [List.length_append,List.length_singleton] at this
    exact this
   ·rw [show y8 (A ++ [t]) = y8 A ++ [((t.n:Int),(t.k:Int))] from by simp [y8]]
    exact h4.dY.right
 exact ⟨l.length + 1,key1 [] l ⟨none,0,0⟩ M α _ (by omega) rfl (aA.oB hA) (AS.Sm.refl.mono (by simp))⟩
end
end HL
namespace HL
section
variable {w0:World} {M F:Mem} {R:VP} {a:Nat} {α:AS}
open Go.Proofs.YtodobkbnmjgkdaaGreat.HL.ST
theorem aFy {s:SV} {l:List Int} {v:Int} (hs:qO w0 M .i64 s l) (hv:v∈l) (hb:l.length≤1000000) (h:R (.bool true) M):C PP w0 Id.cL #[SV.v s,.int .i64 v] R M:=by
 apply cL.go
 unfold cL.T aH
 apply tB.go
 intro aB H
 unfold tB.T aH
 have hsn:=hs.len
 have key:∀ (B A:List Int) (k:Nat),l = A ++ B→v∈B→B.length < k→tB.L1 aB k s v ((s.n:Nat):Int) (A.length:Int) M:=by
  intro B
  induction B with
  | nil=>intro A k _ hm;cases hm
  | cons x B ih =>
   intro A k he hm hk
   obtain ⟨k,rfl⟩:∃ j,k = j + 1:=⟨k - 1,by omega⟩
   have ll:=congrArg List.length he
   simp only [List.length_append,List.length_cons] at ll hk
   refine Eq.mpr (H.L1 ..) ?_
   unfold tB.L1.T aH
   rw [cR,if_pos (by omega)]
   refine rdx (x:=x) W.c3 hs (Mem.le_refl _) A.length rfl (by rw [he];simp) ?_
   rw [fJ]
   split
   ·show mZ .i64 (.int .i64 (A.length:Int)) _
    rw [aL,decide_eq_true (by omega)];exact h
   ·rename_i eT
    rw [bX (by omega)]
    have:=ih (A ++ [x]) k (by rw [he];simp) ((List.mem_cons.1 hm).resolve_left eT) (by omega)
    rw [List.length_append,List.length_singleton] at this
    exact this
 exact ⟨l.length + 1,key l [] _ rfl hv (by omega)⟩
theorem aJZ {kf:FuncId × Array Value} {Q:cI} {s:SV} {A B:List Int} {x:Int} (h:aA w0 F M (star (pS s ((A ++ x::B).map (Value.int .i64))) Q)) (hwf:∀ y∈A ++ x::B,(Lit.int .i64 y).wf = true) (hA:x ∉ A) (hB:x ∉ B) (hb:(A ++ x::B).length≤100000)
  (hp:∀ (y:Int) (M':Mem) (R':VP),Mem.le F M'→R' (.bool (y == x)) M'→C PP w0 kf.1 ((([.int .i64 y]:List Value) ++ kf.2.toList).toArray) R' M')
  (hR:∀ M' s',aA w0 F M' (star (pS s' ((A ++ B).map (Value.int .i64))) Q)→R s'.v M'):C PP w0 Id.qR #[SV.v s,.func (.func kf.1) #[] kf.2] R M:=by
 refine qR.go _ s kf ?_
 intro aB H
 unfold qR.T aH
 have hrd:∀ {M':Mem} {L:List Int},(∀ y∈L,(Lit.int .i64 y).wf = true)→L.length≤100000→aA w0 F M' (star (pS s (L.map (Value.int .i64))) Q)→qO w0 M' .i64 s L:=fun hw hl h'=>by
  obtain ⟨F1,g1,g2,g3⟩:=h'.sl
  exact g1.rdI hw (by omega)
 simp only [List.length_append,List.length_cons] at hb
 have hr0:=hrd hwf (by simp only [List.length_append,List.length_cons];omega) h
 have hsn:=hr0.len
 have hscap:=hr0.cap
 simp only [List.length_append,List.length_cons] at hsn
 have idx:∀ (K:VP),K (.int .i64 (A.length:Int)) M→C PP w0 Id.rD #[SV.v s,.func (.func kf.1) #[] kf.2] K M:=by
  intro K hK
  refine rD.go _ s kf ?_
  intro aB H
  unfold rD.T aH
  have key:∀ (A2 A1:List Int) (k:Nat),A = A1 ++ A2→A2.length < k→rD.L1 aB k s kf ((s.n:Nat):Int) (A1.length:Int) M:=by
   intro A2
   induction A2 with
   | nil =>
    intro A1 k he hk
    obtain ⟨k,rfl⟩:∃ j,k = j + 1:=⟨k - 1,by omega⟩
    rw [List.append_nil] at he
    subst he
    refine Eq.mpr (H.L1 ..) ?_
    unfold rD.L1.T aH
    rw [cR,if_pos (by omega)]
    refine rdx (x:=x) W.c3 hr0 (Mem.le_refl _) A.length rfl (by simp) ?_
    refine hp x M _ h.fr ?_
    rw [bU,beq_self_eq_true,dZ];exact hK
   | cons y A2 ih =>
    intro A1 k he hk
    obtain ⟨k,rfl⟩:∃ j,k = j + 1:=⟨k - 1,by omega⟩
    have ll:=congrArg List.length he
    simp only [List.length_append,List.length_cons] at ll hk
    have eT:y≠x:=fun e=>hA (by rw [he,←e];simp)
    refine Eq.mpr (H.L1 ..) ?_
    unfold rD.L1.T aH
    rw [cR,if_pos (by omega)]
    refine rdx (x:=y) W.c3 hr0 (Mem.le_refl _) A1.length rfl (by rw [he];simp) ?_
    refine hp y M _ h.fr ?_
    rw [bU,beq_eq_false_iff_ne.2 eT,mE,bX (by omega)]
    have:=ih (A1 ++ [y]) k (by rw [he];simp) (by omega)
    rw [List.length_append,List.length_singleton] at this
    exact this
  exact ⟨A.length + 1,key A [] _ rfl (by omega)⟩
 refine idx _ ?_
 rw [aL,fJ,if_neg (by omega)]
 have key:∀ (B2 B1:List Int) (c:Int) (M':Mem) (k:Nat),B = B1 ++ B2→(Lit.int .i64 c).wf = true→aA w0 F M' (star (pS s (((A ++ B1) ++ c::B2).map (Value.int .i64))) Q)→B2.length < k →
   qR.L1 aB k s kf ((A.length + B1.length:Nat):Int) ((A.length + B1.length + 1:Nat):Int) M':=by
  intro B2
  induction B2 with
  | nil =>
   intro B1 c M' k he hc hH hk
   obtain ⟨k,rfl⟩:∃ j,k = j + 1:=⟨k - 1,by omega⟩
   rw [List.append_nil] at he
   subst he
   refine Eq.mpr (H.L1 ..) ?_
   unfold qR.L1.T aH
   rw [cR,if_neg (by omega)]
   refine ⟨⟨by omega,by omega,by omega⟩,?_⟩
   obtain ⟨inf,hi',hz,hsz,hzs,hb1,hb2⟩:=W.e3
   obtain ⟨r,⟨r1,r2,rfl,h1,h2⟩,h3⟩:=hH
   rcases h1 with ⟨rfl,h0,_⟩ | ⟨b,rest,e,hs,rfl⟩
   ·simp at h0
   ·have ho:=h3.own (b:=b) (cs:=((A ++ B) ++ [c]).map (Value.int .i64) ++ rest) (e:=e) List.mem_cons_self
    have hcap:s.c = A.length + B.length + 1 + rest.length:=by rw [hs];simp;omega
    have hsa:s.a = some ⟨b,0,none⟩:=by rw [hs]
    have hz1:iN (Value.int .i64 0) 1 = [Value.int .i64 0]:=by kernel_rfl
    rw [hsa,if_neg (by omega)]
    simp only [Option.map_some,Int.toNat_natCast,add_eq,Nat.zero_add,Nat.mul_one]
    rw [show s.n - (A.length + B.length) = 1 from by omega]
    refine aKm Tryz.underlying53 hi' hz (n:=1) (by decide) ho (by rw [hz1];simp;omega) (by rw [hz1];intro v hv;rw [List.mem_singleton.1 hv];rfl) ?_
    rw [hz1]
    refine ⟨⟨by omega,by omega,by omega⟩,?_⟩
    have hov:eO (((A ++ B) ++ [c]).map (Value.int .i64) ++ rest) (A.length + B.length) [Value.int .i64 0] = (A ++ B).map (Value.int .i64) ++ (Value.int .i64 0::rest):=by
     have:=eE ((A ++ B).map (Value.int .i64)) [Value.int .i64 c] rest [Value.int .i64 0] rfl (o:=A.length + B.length) (by simp)
     rw [List.map_append,List.append_assoc]
     exact this
    rw [hov]
    have h4:Fit w0 F (M'.set b (.row ((A ++ B).map (Value.int .i64) ++ (Value.int .i64 0::rest)) e)) ((b,(A ++ B).map (Value.int .i64) ++ (Value.int .i64 0::rest),e)::r2):=h3.upd
    have hfin:=hR _ ⟨some ⟨b,0,none⟩,A.length + B.length,s.c⟩ ⟨_,⟨[_],r2,rfl,.inr ⟨b,Value.int .i64 0::rest,e,?_,rfl⟩,h2⟩,h4⟩
    ·have:(if s.c = (0:Int).toNat then some (⟨b,0,none⟩:Addr) else some ⟨b,(0:Int).toNat,none⟩) = some ⟨b,0,none⟩:=by split <;> rfl
     simp only [Int.toNat_zero,Nat.sub_zero] at this ⊢
     rw [this]
     exact hfin
    ·simp only [SV.mk.injEq,true_and,List.length_map,List.length_append,List.length_cons]
     omega
  | cons y B2 ih =>
   intro B1 c M' k he hc hH hk
   obtain ⟨k,rfl⟩:∃ j,k = j + 1:=⟨k - 1,by omega⟩
   have ll:=congrArg List.length he
   simp only [List.length_append,List.length_cons] at ll hk
   have eT:y≠x:=fun e=>hB (by rw [he,←e];simp)
   have hyw:(Lit.int .i64 y).wf = true:=hwf y (by rw [he];simp)
   have hcur:∀ u∈(A ++ B1) ++ c::y::B2,(Lit.int .i64 u).wf = true:=fun u hu=>by
    simp only [List.mem_append,List.mem_cons] at hu
    rcases hu with (hu | hu) | rfl | rfl | hu
    ·exact hwf u (by simp [hu])
    ·exact hwf u (by rw [he];simp [hu])
    ·exact hc
    ·exact hyw
    ·exact hwf u (by rw [he];simp [hu])
   have hr:=hrd hcur (by simp only [List.length_append,List.length_cons];omega) hH
   refine Eq.mpr (H.L1 ..) ?_
   unfold qR.L1.T aH
   rw [cR,if_pos (by omega)]
   refine rdx (x:=y) W.c3 hr (Mem.le_refl _) (A.length + B1.length + 1) rfl (by
    rw [List.getElem?_append_right (by simp),List.length_append,show A.length + B1.length + 1 - (A.length + B1.length) = 1 from by omega];rfl) ?_
   refine hp y M' _ hH.fr ?_
   rw [bU,beq_eq_false_iff_ne.2 eT,Bool.not_false,dZ]
   refine st1 W.c3 hH (A.length + B1.length) rfl (by simp) rfl rfl fun M2 hH2=>?_
   rw [bX (by omega),bX (by omega)]
   have e2:(((A ++ B1) ++ c::y::B2).map (Value.int .i64)).set (A.length + B1.length) (.int .i64 y) = ((A ++ (B1 ++ [y])) ++ y::B2).map (Value.int .i64):=by
    rw [List.map_append,List.map_cons,List.set_append_right _ _ (by simp),List.length_map,List.length_append,Nat.sub_self,List.set_cons_zero]
    simp
   rw [e2] at hH2
   have:=ih (B1 ++ [y]) y M2 k (by rw [he];simp) hyw hH2 (by omega)
   rw [List.length_append,List.length_singleton] at this
   exact this
 rw [bX (by omega)]
 exact ⟨B.length + 1,key B [] x M _ rfl (hwf x (by simp)) (by simpa using h) (by omega)⟩
theorem aCg (hA:aA w0 F M (aF a α)) {f:Nat→cH} {l:List Tn} {n:Nat} (hst:St α (-1) (fo l)) (hn1:α.get n 1 = -1) (hn4:α.get n 4 = 0) (hlb:Lb α f (n::aS l)) (fW:(bG f (n::aS l)).Nodup) (hok:∀ t∈l,x3 2 t) (hod:∀ t∈l,y3 f t) (hwk:Wk l)
  (h:∀ M' β f' l',aA w0 F M' (aF a β)→St β (-1) (fo l')→Lb β f' (n::aS l)→(aS l').Perm (n::aS l)→((n::aS l).map f').Perm ((n::aS l).map f)→(∀ x,x ∉ n::aS l→f' x = f x)→(∀ t∈l',x3 2 t)→(∀ t∈l',y3 f' t)→Wk l'→AS.n9 (fun c=>c∈bG f (n::aS l)) 40 α β→R (.int .i64 (fo l').root) M') :
  C PP w0 Id.uL #[.pointer (some ⟨a,0,none⟩),.int .i64 (fo l).root,.int .i64 (n:Int)] R M:=by
 apply uL.go
 intro aB H
 unfold uL.T aH
 have hI:=hA.inv
 have hI65:=hI.n
 have hnn:=iK fW
 obtain ⟨hn0,hnl⟩:=List.nodup_cons.1 hnn
 have hsz:=m6 α.n _ hnn fun y hy=>AS.cJ hI (hlb y hy).ln
 have hNn:=hlb n List.mem_cons_self
 have hcn:n∈bG f (n::aS l):=List.mem_append_left _ List.mem_cons_self
 have hcl:∀ c∈aS l,c∈bG f (n::aS l):=fun c hc=>List.mem_append_left _ (List.mem_cons_of_mem _ hc)
 have front:Rs l→∀ (M1:Mem) (β:AS),aA w0 F M1 (aF a β)→AS.Sm 3 α β→C PP w0 Id.pT #[.pointer (some ⟨a,0,none⟩),.int .i64 (n:Int),.int .i64 3,.int .i64 (fo l).root] (fun v7 M8=>shB v7 fun b9=>C PP w0 Id.pT #[.pointer (some ⟨a,0,none⟩),.int .i64 (n:Int),.int .i64 0,.int .i64 (-1)] (fun v10 M11=>shB v10 fun b12=>R (.int .i64 (n:Int)) M11) M8) M1:=by
  intro hrs M1 β hB hsm
  refine iA hB fun M2 hB2=>?_
  rw [show β.mC (n:Int) 3 (fo l).root = β.put n 3 (fo l).root from AS.cU (f:=3) (by rw [hsm.live];exact hNn.ln) (by omega) _] at hB2
  rw [bU]
  refine iA hB2 fun M3 hB3=>?_
  rw [show (β.put n 3 (fo l).root).tick.mC (n:Int) 0 (-1) = (β.put n 3 (fo l).root).tick.put n 0 (-1) from AS.cU (α:=(β.put n 3 (fo l).root).tick) (f:=0) (by show β.live n = true;rw [hsm.live];exact hNn.ln) (by omega) _] at hB3
  rw [bU]
  have s3:AS.Sm 5 ((α.put n 3 (fo l).root).put n 0 (-1)) ((β.put n 3 (fo l).root).tick.put n 0 (-1)).tick:=((((hsm.put n 3 (fo l).root).trans AS.aO).put n 0 (-1)).trans AS.aO).mono (by omega)
  generalize ((β.put n 3 (fo l).root).tick.put n 0 (-1)).tick = γ at hB3 s3
  have g:∀ c x,γ.get c x = if c = n∧x = 0 then -1 else if c = n∧x = 3 then (fo l).root else α.get c x:=fun c x=>by rw [s3.get];rfl
  have gl:∀ c,γ.live c = α.live c:=fun c=>by rw [s3.live];rfl
  refine h M3 γ f (⟨n,0,.nil⟩::l) hB3 ⟨?_,?_,?_,?_,trivial,?_⟩ (hlb.congr (fun c _ x hx=>by rw [g,if_neg (by omega),if_neg (by omega)]) (fun c _=>gl c)) (List.Perm.refl _) (List.Perm.refl _) (fun _ _=>rfl) (fun t ht=>?_) (fun t ht=>?_) ⟨hrs,fun x _=>Nat.zero_le _⟩
   (((((AS.n9.refl (S:=fun c=>c∈bG f (n::aS l)) (α:=α)).put hcn).put hcn).trans s3.lW).mono (fun _ h=>h) (by omega))
  ·rw [g,if_pos ⟨rfl,rfl⟩]
  ·rw [g,if_neg (by omega),if_neg (by omega)];exact hn1
  ·rw [g,if_neg (by omega),if_pos ⟨rfl,rfl⟩]
  ·rw [g,if_neg (by omega),if_neg (by omega)];exact hn4
  ·refine hst.congr fun x hx y _=>?_
   rw [qW] at hx
   have eT:x≠n:=fun e=>hn0 (e▸hx)
   rw [g,if_neg (fun e:x = n∧y = 0=>eT e.1),if_neg (fun e:x = n∧y = 3=>eT e.1)]
  ·rcases List.mem_cons.1 ht with rfl | ht
   ·exact aF7
   ·exact hok t ht
  ·rcases List.mem_cons.1 ht with rfl | ht
   ·exact ⟨fun x hx=>(by cases hx),trivial⟩
   ·exact hod t ht
 match l,hst,hlb,fW,hok,hod,hwk,h,hnn,hn0,hnl,hcn,hcl,front,hsz,hNn with
 | [],hst,hlb,fW,hok,hod,hwk,h,hnn,hn0,hnl,hcn,hcl,front,hsz,hNn =>
  (rw [show (fo []).root = -1 from rfl,cB,if_pos rfl];refine Eq.mpr (H.J1 ..) ?_)
  unfold uL.J1.T aH
  refine qU hA fun M1 hA1=>?_
  rw [aL,fJ,if_pos rfl]
  exact front List.Pairwise.nil M1 _ hA1 (AS.aO.mono (by omega))
 | [t],hst,hlb,fW,hok,hod,hwk,h,hnn,hn0,hnl,hcn,hcl,front,hsz,hNn =>
  have hlt:α.live t.n = true:=(hlb t.n (by simp [aS,eX])).ln
  rw [show (fo [t]).root = (t.n:Int) from rfl,cB,if_neg (by omega)]
  refine eZ hA fun M1 hA1=>?_
  (rw [show α.fR (t.n:Int) 3 = -1 from AS.aAb (f:=3) hlt (by omega) hst.2.2.1,aL];refine Eq.mpr (H.J1 ..) ?_)
  unfold uL.J1.T aH
  refine qU hA1 fun M2 hA2=>?_
  rw [aL,fJ,if_pos rfl]
  exact front (List.pairwise_singleton _ _) M2 _ hA2 ((AS.aO.trans AS.aO).mono (by omega))
 | t::u::rest,hst,hlb,fW,hok,hod,hwk,h,hnn,hn0,hnl,hcn,hcl,front,hsz,hNn =>
  have hlt:α.live t.n = true:=(hlb t.n (by simp [aS,eX])).ln
  have hlu:α.live u.n = true:=(hlb u.n (by simp [aS,eX])).ln
  rw [show (fo (t::u::rest)).root = (t.n:Int) from rfl,cB,if_neg (by omega)]
  obtain ⟨t0,t1,t3,t4,t5,u0,u1,u3,u4,u5,hrest⟩:=hst
  refine eZ hA fun M1 hA1=>?_
  (rw [show α.fR (t.n:Int) 3 = (u.n:Int) from AS.dI (f:=3) hlt (by omega) t3 (AS.cJ hI hlu),aL];refine Eq.mpr (H.J1 ..) ?_)
  unfold uL.J1.T aH
  refine qU hA1 fun M2 hA2=>?_
  rw [show α.tick.jW (t.n:Int) 4 = (t.k:Int) from (AS.iV (α:=α.tick) (f:=4) hlt (by omega)).trans t4,aL,fJ,if_neg (by omega)]
  refine qU hA2 fun M3 hA3=>?_
  rw [show α.tick.tick.jW (u.n:Int) 4 = (u.k:Int) from (AS.iV (α:=α.tick.tick) (f:=4) hlu (by omega)).trans u4,aL,cB]
  have s3:AS.Sm 3 α α.tick.tick.tick:=((AS.aO.trans AS.aO).trans AS.aO).mono (by omega)
  obtain ⟨wk1,wk2⟩:=hwk
  have htu:=wk2 u List.mem_cons_self
  split
  rotate_left
  ·rename_i eT
   have hlt':t.k < u.k:=by
    have:¬ ((u.k:Int) = (t.k:Int)):=eT
    omega
   refine front (List.pairwise_cons.2 ⟨fun x hx=>?_,wk1⟩) M3 _ hA3 s3
   rcases List.mem_cons.1 hx with rfl | hx
   ·exact hlt'
   ·exact Nat.lt_trans hlt' ((List.pairwise_cons.1 wk1).1 x hx)
  ·rename_i heq
   have hkk:t.k = u.k:=by
    have:(u.k:Int) = (t.k:Int):=heq
    omega
   refine Eq.mpr (H.J2 ..) ?_
   unfold uL.J2.T aH
   generalize hα3:α.tick.tick.tick = α3 at hA3 s3
   have hrl:(fo rest).root = -1∨∃ y:Nat,(fo rest).root = (y:Int)∧α.live y = true:=by
    cases rest with
    | nil=>exact .inl rfl
    | cons v rest=>exact .inr ⟨v.n,rfl,(hlb v.n (by simp [aS,eX])).ln⟩
   refine eZ hA3 fun M4 hA4=>?_
   rw [show α3.fR (u.n:Int) 3 = (fo rest).root from AS.kP hA3.inv (f:=3) (by rw [s3.live];exact hlu) (by omega) (by rw [s3.get];exact u3) (by rw [s3.live];exact hrl),aL]
   have s4:AS.Sm 4 α α3.tick:=(s3.trans AS.aO).mono (by omega)
   generalize α3.tick = α4 at hA4 s4
   have hNl:aS (t::u::rest) = eX t ++ (eX u ++ aS rest):=rfl
   have hnl2:=hnl
   rw [hNl,←List.append_assoc] at hnl2
   obtain ⟨q1,q2,q3⟩:=List.nodup_append.1 hnl2
   have hlb4:Lb α4 f (n::aS (t::u::rest)):=hlb.sm s4
   have htk:t.k≤65536:=aA8 (hok t (by simp)) (Nat.le_trans (tG (l:=t::u::rest) (by simp)) (by simp only [List.length_cons] at hsz;omega))
   refine aGf hA4 (t:=t) (u:=u) (zS.sm (t:=t) ⟨t1,t4,t5⟩ s4) (zS.sm (t:=u) ⟨u1,u4,u5⟩ s4) (hlb4.sub fun x hx=>by
    refine List.mem_cons_of_mem _ ?_
    rw [hNl,←List.append_assoc]
    exact List.mem_append_left _ hx) q1 hkk (by omega) fun M5 β hB hstw hcβ hgβ hwβ=>?_
   rw [aL]
   have hwok:=aIy f (by decide) (hok t (by simp)) (hok u (by simp)) hkk
   have hwk':=aKX f hkk
   have hwn:=aFJ f t u
   have hwod:y3 f (uO f t u):=aIu (hod t (by simp)) (hod u (by simp)) fun e=>by
    have:=lH fW t.n (by simp [aS,eX]) u.n (by simp [aS,eX]) e
    exact (List.nodup_append.1 q1).2.2 t.n List.mem_cons_self u.n List.mem_cons_self this
   have hw0:β.get (uO f t u).n 0 = -1:=by
    rw [hwβ 0 (by decide) (by decide),s4.get]
    rcases aMj f t u with e | e
    ·rw [e];exact t0
    ·rw [e];exact u0
   generalize hw:uO f t u = w at hstw hwβ hwok hwk' hwn hwod hw0 ⊢
   have hwmem:∀ c∈eX w,c∈aS (t::u::rest):=fun c hc=>by
    rw [hNl,←List.append_assoc]
    exact List.mem_append_left _ (hwn.mem_iff.1 hc)
   have hnw:n ∉ eX w:=fun hc=>hn0 (hwmem n hc)
   have hnw':n≠w.n:=fun e=>hnw (e▸List.mem_cons_self)
   have hnt:n≠t.n:=fun e=>hn0 (by rw [e];simp [aS,eX])
   have hnu:n≠u.n:=fun e=>hn0 (by rw [e];simp [aS,eX])
   have hlbβ:Lb β f (n::aS (t::u::rest)):=hlb4.congr (fun c _ x hx=>hgβ c x (by omega)) (fun c _=>by rw [hcβ.live])
   have hwin:w.n∈n::aS (t::u::rest):=List.mem_cons_of_mem _ (hwmem _ List.mem_cons_self)
   have gβ:∀ x,x≠t.n→x≠u.n→∀ y,β.get x y = α.get x y:=fun x h1 h2 y=>by
    rw [hcβ.get x (by rintro (e | e);exact h1 e;exact h2 e),s4.get]
   have hβlive:∀ x,β.live x = α.live x:=fun x=>by rw [hcβ.live,s4.live]
   have hcβ':AS.n9 (fun c=>c∈bG f (n::aS (t::u::rest))) 15 α β:=(s4.lW.trans (hcβ.mono (T:=fun c=>c∈bG f (n::aS (t::u::rest))) (fun c hc=>by
    rcases hc with rfl | rfl
    ·exact hcl _ (by simp [aS,eX])
    ·exact hcl _ (by simp [aS,eX])) (Int.le_refl _))).mono (fun _ h=>h) (by omega)
   refine rK hB (hlbβ n List.mem_cons_self) (hlbβ w.n hwin) fun M6 γ hC s6=>?_
   rw [bU]
   have fin:∀ (f':Nat→cH) (M7:Mem) (δ:AS),aA w0 F M7 (aF a δ)→Lb δ f' (n::aS (t::u::rest))→((n::aS (t::u::rest)).map f').Perm ((n::aS (t::u::rest)).map f)→(∀ x,x≠n→x≠w.n→f' x = f x)→Bf (f' w.n) (f' n)→(∀ x∈aP w.c,Bf (f' w.n) (f x)) →
     (∀ x∈n::aS (t::u::rest),∀ y,y≠6→δ.get x y = β.get x y)→AS.n9 (fun c=>c∈bG f (n::aS (t::u::rest))) 27 α δ→uL.J3 aB (some ⟨a,0,none⟩) (n:Int) (fo rest).root (w.n:Int) M7:=by
    intro f' M7 δ hD hlb' hpf hff hb1 hb2 hgδ hcδ
    refine Eq.mpr (H.J3 ..) ?_
    unfold uL.J3.T aH
    have hwcr:w.c.root = -1∨∃ y:Nat,w.c.root = (y:Int)∧δ.live y = true:=by
     cases hc:w.c with
     | nil=>exact .inl rfl
     | node y k c s=>exact .inr ⟨y,rfl,(hlb' y (List.mem_cons_of_mem _ (hwmem y (by unfold eX;rw [hc];simp [aP])))).ln⟩
    refine aD9 hD (n:=n) (up:=w.n) (hlb' n List.mem_cons_self).ln (hlb' w.n hwin).ln (v:=w.c.root) (by rw [hgδ w.n hwin 1 (by decide)];exact hstw.1) hwcr fun M8 ε hE s8=>?_
    refine iA hE fun M9 hE9=>?_
    have hεw:ε.live w.n = true:=by rw [s8.live];exact (hlb' w.n hwin).ln
    rw [show ε.mC (w.n:Int) 3 (fo rest).root = ε.put w.n 3 (fo rest).root from AS.cU (f:=3) hεw (by omega) _] at hE9
    rw [bU]
    have s9:AS.Sm 5 ((((δ.put n 3 w.c.root).put n 0 (w.n:Int)).put w.n 1 (n:Int)).put w.n 3 (fo rest).root) (ε.put w.n 3 (fo rest).root).tick:=((s8.put w.n 3 (fo rest).root).trans AS.aO).mono (by omega)
    generalize (ε.put w.n 3 (fo rest).root).tick = ζ at hE9 s9
    have g:∀ c x,ζ.get c x = if c = w.n∧x = 3 then (fo rest).root else if c = w.n∧x = 1 then (n:Int) else if c = n∧x = 0 then (w.n:Int) else if c = n∧x = 3 then w.c.root else δ.get c x:=fun c x=>by rw [s9.get];rfl
    have hodw:y3 f' (und ⟨n,0,.nil⟩ w):=by
     refine aBm (m:=⟨n,0,.nil⟩) ⟨fun x hx=>(by cases hx),trivial⟩ ⟨fun x hx=>?_,?_⟩ hb1
     ·rw [hff x (fun e=>hnw (e▸List.mem_cons_of_mem _ hx)) (fun e=>(List.nodup_cons.1 (hwn.nodup_iff.2 q1)).1 (e▸hx))]
      exact hb2 x hx
     ·exact hwod.2.congr fun x hx=>hff x (fun e=>hnw (e▸List.mem_cons_of_mem _ hx)) (fun e=>(List.nodup_cons.1 (hwn.nodup_iff.2 q1)).1 (e▸hx))
    refine h M9 ζ f' (und ⟨n,0,.nil⟩ w::rest) hE9 ?_ (hlb'.congr (fun c _ x hx=>by rw [g,if_neg (by omega),if_neg (by omega),if_neg (by omega),if_neg (by omega)]) (fun c _=>by rw [s9.live];rfl)) ?_ hpf ?_ (fun v hv=>?_) (fun v hv=>?_) ⟨(List.pairwise_cons.1 wk1).2,fun x hx=>?_⟩ ?_
    ·refine ⟨?_,?_,?_,?_,?_,?_⟩
     ·show ζ.get w.n 0 = -1
      rw [g,if_neg (by omega),if_neg (by omega),if_neg (by omega),if_neg (by omega),hgδ w.n hwin 0 (by decide)];exact hw0
     ·show ζ.get w.n 1 = (n:Int)
      rw [g,if_neg (by omega),if_pos ⟨rfl,rfl⟩]
     ·show ζ.get w.n 3 = _
      rw [g,if_pos ⟨rfl,rfl⟩]
     ·show ζ.get w.n 4 = (w.k:Int)
      rw [g,if_neg (by omega),if_neg (by omega),if_neg (by omega),if_neg (by omega),hgδ w.n hwin 4 (by decide)];exact hstw.2.1
     ·refine ⟨?_,?_,?_,?_,trivial,?_⟩
      ·show ζ.get n 0 = (w.n:Int)
       rw [g,if_neg (by omega),if_neg (by omega),if_pos ⟨rfl,rfl⟩]
      ·show ζ.get n 1 = -1
       rw [g,if_neg (by omega),if_neg (by omega),if_neg (by omega),if_neg (by omega),hgδ n List.mem_cons_self 1 (by decide),gβ n hnt hnu];exact hn1
      ·show ζ.get n 3 = _
       rw [g,if_neg (by omega),if_neg (by omega),if_neg (by omega),if_pos ⟨rfl,rfl⟩]
      ·show ζ.get n 4 = 0
       rw [g,if_neg (by omega),if_neg (by omega),if_neg (by omega),if_neg (by omega),hgδ n List.mem_cons_self 4 (by decide),gβ n hnt hnu];exact hn4
      ·refine hstw.2.2.congr fun x hx y hy=>?_
       have h1:x≠w.n:=fun e=>(List.nodup_cons.1 (hwn.nodup_iff.2 q1)).1 (e▸hx)
       have h2:x≠n:=fun e=>hnw (e▸List.mem_cons_of_mem _ hx)
       rw [g,if_neg (fun e:x = w.n∧y = 3=>h1 e.1),if_neg (fun e:x = w.n∧y = 1=>h1 e.1),if_neg (fun e:x = n∧y = 0=>h2 e.1),if_neg (fun e:x = n∧y = 3=>h2 e.1)]
       exact hgδ x (List.mem_cons_of_mem _ (hwmem x (List.mem_cons_of_mem _ hx))) y hy
     ·refine hrest.congr fun x hx y hy=>?_
      rw [qW] at hx
      have h1:x≠w.n:=fun e=>q3 w.n (hwn.mem_iff.1 List.mem_cons_self) x hx e.symm
      have h2:x≠n:=fun e=>hn0 (by rw [←e,hNl,←List.append_assoc];exact List.mem_append_right _ hx)
      rw [g,if_neg (fun e:x = w.n∧y = 3=>h1 e.1),if_neg (fun e:x = w.n∧y = 1=>h1 e.1),if_neg (fun e:x = n∧y = 0=>h2 e.1),if_neg (fun e:x = n∧y = 3=>h2 e.1)]
      rw [hgδ x (List.mem_cons_of_mem _ (by rw [hNl,←List.append_assoc];exact List.mem_append_right _ hx)) y hy]
      exact gβ x (fun e=>q3 t.n (by simp [eX]) x hx e.symm) (fun e=>q3 u.n (by simp [eX]) x hx e.symm) y
    ·show (eX (und ⟨n,0,.nil⟩ w) ++ aS rest).Perm _
     refine ((aJr ⟨n,0,.nil⟩ w).append_right _).trans ?_
     show (n::(eX w ++ aS rest)).Perm _
     refine List.Perm.cons _ ?_
     rw [hNl,←List.append_assoc]
     exact hwn.append_right _
    ·intro x hx
     exact hff x (fun e=>hx (e▸List.mem_cons_self)) (fun e=>hx (e▸hwin))
    ·rcases List.mem_cons.1 hv with rfl | hv
     ·exact aJ9 hwok.1 rfl rfl (by rw [hwk'];have:=hwok.2;omega)
     ·exact hok v (by simp [hv])
    ·rcases List.mem_cons.1 hv with rfl | hv
     ·exact hodw
     ·refine (hod v (by simp [hv])).congr fun x hx=>hff x (fun e=>hn0 ?_) (fun e=>?_)
      ·rw [←e];exact eK.2 ⟨v,by simp [hv],hx⟩
      ·exact q3 w.n (hwn.mem_iff.1 List.mem_cons_self) x (eK.2 ⟨v,hv,hx⟩) e.symm
    ·show w.k≤x.k
     have:=(List.pairwise_cons.1 wk1).1 x hx
     rw [hwk'];omega
    ·have cw:w.n∈bG f (n::aS (t::u::rest)):=List.mem_append_left _ hwin
     exact (((((hcδ.put (f:=3) (v:=w.c.root) hcn).put (f:=0) (v:=(w.n:Int)) hcn).put (f:=1) (v:=(n:Int)) cw).put (f:=3) (v:=(fo rest).root) cw).trans s9.lW).mono (fun _ h=>h) (by omega)
   have hwcn:∀ x∈aP w.c,Bf (f w.n) (f x):=hwod.1
   by_cases hbf:Bf (f n) (f w.n)
   ·rw [decide_eq_true hbf,dZ]
    have hlbγ:=hlbβ.sm s6
    refine aGc hC (hlbγ n List.mem_cons_self) (hlbγ w.n hwin) fun M7 δ hD s7=>?_
    have hiw:∀ c,c = (f n).1∨c = (f w.n).1→c∈bG f (n::aS (t::u::rest)):=fun c hc=>by
     rcases hc with rfl | rfl
     ·exact List.mem_append_right _ (List.mem_map.2 ⟨n,List.mem_cons_self,rfl⟩)
     ·exact List.mem_append_right _ (List.mem_map.2 ⟨w.n,hwin,rfl⟩)
    refine fin (sw f n w.n) M7 δ hD (aKL hlbγ fW List.mem_cons_self hwin hnw' s7) (aEY hnn List.mem_cons_self hwin) (fun x h1 h2=>by unfold sw;rw [if_neg h1,if_neg h2]) ?_ (fun x hx=>?_) (fun x hx y hy=>?_) ?_
    ·have e1:sw f n w.n w.n = f n:=by unfold sw;rw [if_neg (fun e=>hnw' e.symm),if_pos rfl]
     have e2:sw f n w.n n = f w.n:=by unfold sw;rw [if_pos rfl]
     rw [e1,e2];exact hbf
    ·have e1:sw f n w.n w.n = f n:=by unfold sw;rw [if_neg (fun e=>hnw' e.symm),if_pos rfl]
     rw [e1];exact hbf.tr (hwcn x hx)
    ·rw [s7.get]
     show (if x = (f n).1∧y = 9 then (w.n:Int) else if x = w.n∧y = 6 then ((f n).1:Int) else if x = (f w.n).1∧y = 9 then (n:Int) else if x = n∧y = 6 then ((f w.n).1:Int) else γ.get x y) = _
     rw [if_neg (fun e=>tK fW x hx n List.mem_cons_self e.1),if_neg (fun e=>hy e.2),if_neg (fun e=>tK fW x hx w.n hwin e.1),if_neg (fun e=>hy e.2),s6.get]
    ·exact ((((((hcβ'.trans s6.lW).put (f:=6) (v:=((f w.n).1:Int)) hcn).put (f:=9) (v:=(n:Int)) (hiw _ (.inr rfl))).put (f:=6) (v:=((f n).1:Int)) (List.mem_append_left _ hwin)).put (f:=9) (v:=(w.n:Int)) (hiw _ (.inl rfl))).trans s7.lW).mono (fun _ h=>h) (by omega)
   ·rw [decide_eq_false hbf,mE]
    refine fin f M6 γ hC (hlbβ.sm s6) (List.Perm.refl _) (fun _ _ _=>rfl) (Bf.tot hbf fun e=>hnw' (lH fW n List.mem_cons_self w.n hwin e)) hwcn (fun x _ y _=>by rw [s6.get]) ((hcβ'.trans s6.lW).mono (fun _ h=>h) (by omega))
end
end HL
namespace HL
namespace ST
theorem aFN {k n:Nat} (h:2 ^ k≤n) (hn:n≤301):k≤8:=by
 apply Decidable.byContradiction
 intro hc
 have:2 ^ 9≤2 ^ k:=Nat.pow_le_pow_right (by decide) (by omega)
 omega
theorem aJK {z:Nat} {l:List Tn} (h:Rs l) (ho:∀ t∈l,x3 z t) (hs:(aS l).length≤300):l.length≤8:=by
 have h1:=aCV (j:=0) h fun t ht=>⟨ho t ht,Nat.zero_le _⟩
 rw [Nat.zero_add,Nat.pow_zero] at h1
 exact aFN h1 (by omega)
theorem xW {z:Nat} {l:List Tn} (h:Wk l) (ho:∀ t∈l,x3 z t) (hs:(aS l).length≤300):l.length≤9:=by
 cases l with
 | nil=>simp
 | cons t l =>
  rw [m5,List.length_cons,List.length_append] at hs
  have:=aJK h.1 (fun x hx=>ho x (List.mem_cons_of_mem _ hx)) (by omega)
  rw [List.length_cons];omega
theorem uH {f g:Nat→cH} {N N':List Nat} (h1:N.Perm N') (h2:(N.map f).Perm (N'.map g)):(bG f N).Perm (bG g N'):=by
 unfold bG
 refine h1.append ?_
 have:=h2.map (·.1)
 rw [List.map_map,List.map_map] at this
 exact this
theorem iO {l:List Tn} {t:Tn} (h:t∈l):t.n∈aS l:=eK.2 ⟨t,h,List.mem_cons_self⟩
theorem qN (A B:List Tn) (t:Tn):(aS (A ++ t::B)).Perm (t.n::(aS (A ++ B) ++ aP t.c)):=by
 have h:(aS (A ++ t::B)).Perm (aS (t::(A ++ B))):=uK List.perm_middle
 refine h.trans ?_
 rw [m5]
 exact List.Perm.cons _ List.perm_append_comm
theorem aA7 {l:List Tn} (h:(aS l).Nodup):(l.map (·.n)).Nodup:=by
 have hsub:∀ (l:List Tn),(l.map (·.n)).Sublist (aS l):=fun l=>by
  induction l with
  | nil=>exact List.Sublist.refl _
  | cons t l ih=>rw [m5];exact (ih.trans (List.sublist_append_right _ _)).cons_cons _
 exact h.sublist (hsub l)
end ST
section
variable {w0:World} {M F:Mem} {R:VP} {a:Nat} {α:AS}
open Go.Proofs.YtodobkbnmjgkdaaGreat.HL.ST
theorem m4 {l:List Nat} (h:∀ x∈l,x < 1000000):∀ n∈aY l,(Lit.int .i64 n).wf = true:=fun n hn=>by
 obtain ⟨x,hx,rfl⟩:=List.mem_map.1 hn
 exact aHT (by have:=h x hx;unfold gC;omega)
structure nM (z:Nat) (α:AS) (f:Nat→cH) (A:List Tn) (t:Tn) (B:List Tn):Prop where
 st:∀ u∈A ++ t::B,zS α u
 lb:Lb α f (aS (A ++ t::B))
 nd:(bG f (aS (A ++ t::B))).Nodup
 ok:∀ u∈A ++ t::B,x3 z u
 od:∀ u∈A ++ B,y3 f u
 odt:Od f t.c
 wk:Wk (A ++ t::B)
 sz:(aS (A ++ t::B)).length≤300
section
variable {z:Nat} {f:Nat→cH} {A B:List Tn} {t:Tn}
theorem nM.sm {k:Int} {β:AS} (h:nM z α f A t B) (hs:AS.Sm k α β):nM z β f A t B:=⟨fun u hu=>(h.st u hu).sm hs,h.lb.sm hs,h.nd,h.ok,h.od,h.odt,h.wk,h.sz⟩
theorem nM.mem (h:nM z α f A t B):t∈A ++ t::B:=by simp
theorem nM.tn (h:nM z α f A t B):α.Nd t.n (f t.n).1 (f t.n).2:=h.lb _ (iO h.mem)
theorem nM.nn (h:nM z α f A t B):(t.n::(aS (A ++ B) ++ aP t.c)).Nodup:=(qN A B t).nodup_iff.1 (iK h.nd)
theorem nM.small (h:nM z α f A t B) (hi:α.Inv):∀ x∈aS (A ++ t::B),x < 1000000:=fun x hx=>by
 have:=AS.cJ hi (h.lb x hx).ln
 have:=hi.n
 omega
theorem nM.cel (h:nM z α f A t B):(bG f (aS (A ++ t::B))).Perm (bG f (t.n::(aS (A ++ B) ++ aP t.c))):=kE (qN A B t)
theorem nM.apart (h:nM z α f A t B):∀ c∈bG f (aS (A ++ B) ++ aP t.c),c≠t.n∧c≠(f t.n).1:=by
 have hn:=h.cel.nodup_iff.1 h.nd
 unfold bG at hn
 rw [List.map_cons,List.nodup_append] at hn
 obtain ⟨n1,n2,n3⟩:=hn
 intro c hc
 rcases List.mem_append.1 hc with hc | hc
 ·exact ⟨fun e=>(List.nodup_cons.1 n1).1 (e▸hc),n3 c (List.mem_cons_of_mem _ hc) _ List.mem_cons_self⟩
 ·exact ⟨fun e=>n3 t.n List.mem_cons_self c (List.mem_cons_of_mem _ hc) e.symm,fun e=>(List.nodup_cons.1 n2).1 (e▸hc)⟩
theorem nM.sub (h:nM z α f A t B):∀ c∈bG f (aS (A ++ B) ++ aP t.c),c∈bG f (aS (A ++ t::B)):=fun c hc=>by
 refine h.cel.mem_iff.2 ?_
 rcases List.mem_append.1 hc with hc | hc
 ·exact List.mem_append_left _ (List.mem_cons_of_mem _ hc)
 ·refine List.mem_append_right _ ?_
  rw [List.map_cons]
  exact List.mem_cons_of_mem _ hc
theorem nM.ended (h:nM z α f A t B) (hi:α.Inv) {k:Int} {β:AS} (hs:AS.Sm k ((α.put (f t.n).1 9 (-1)).lI t.n) β):AS.lT (fun c=>c∈bG f (aS (A ++ t::B))) (· = t.n) (-1) k α β∧β.get (f t.n).1 9 = -1 ∧
  (∀ c∈bG f (aS (A ++ B) ++ aP t.c),(∀ g,β.get c g = α.get c g)∧β.live c = α.live c):=by
 have hci:(f t.n).1∈bG f (aS (A ++ t::B)):=List.mem_append_right _ (List.mem_map.2 ⟨t.n,iO h.mem,rfl⟩)
 refine ⟨?_,?_,fun c hc=>⟨fun g=>?_,?_⟩⟩
 ·have e1:AS.lT (fun c=>c∈bG f (aS (A ++ t::B))) (· = t.n) 0 0 α (α.put (f t.n).1 9 (-1)):=AS.aDk hci
  have hi1:AS.Inv (α.put (f t.n).1 9 (-1)):=AS.aDe hi _ _ _
  have e2:=AS.p5 (S:=fun c=>c∈bG f (aS (A ++ t::B))) (L:=(· = t.n)) hi1 (n:=t.n) h.tn.ln rfl
  exact (((e1.trans e2).trans hs.pZ).mono (fun _ h=>h) (fun _ h=>h) (by omega)).to (by omega)
 ·rw [hs.get]
  show (if (f t.n).1 = (f t.n).1∧9 = 9 then (-1:Int) else _) = -1
  rw [if_pos ⟨rfl,rfl⟩]
 ·rw [hs.get]
  show (if c = (f t.n).1∧g = 9 then (-1:Int) else α.get c g) = _
  rw [if_neg (fun e:c = (f t.n).1∧g = 9=>(h.apart c hc).2 e.1)]
 ·rw [hs.live]
  show (if c = t.n then false else α.live c) = _
  rw [if_neg (h.apart c hc).1]
theorem nM.del (h:nM z α f A t B):((t.n:Int) ∉ aY (A.map (·.n)))∧((t.n:Int) ∉ aY (B.map (·.n))):=by
 have h1:=aA7 (iK h.nd)
 rw [List.map_append,List.map_cons] at h1
 obtain ⟨n1,n2,n3⟩:=List.nodup_append.1 h1
 refine ⟨fun hm=>?_,fun hm=>?_⟩
 ·obtain ⟨x,hx,e⟩:=List.mem_map.1 hm
  have:x = t.n:=by omega
  subst this
  exact n3 _ hx _ List.mem_cons_self rfl
 ·obtain ⟨x,hx,e⟩:=List.mem_map.1 hm
  have:x = t.n:=by omega
  subst this
  exact (List.nodup_cons.1 n2).1 hx
theorem nM.lens (h:nM z α f A t B) {m:Nat} (hm:(aS (A ++ t::B)).length≤m):A.length + B.length≤8∧t.k≤8∧A.length + B.length≤bl m∧t.k + 1≤bl m∧(dD t.c).length≤z * t.k∧(dD t.c).countP (fun t=>t.k != 0)≤t.k:=by
 have h1:=xW h.wk h.ok h.sz
 have h2:=wA h.wk h.ok hm
 rw [List.length_append,List.length_cons] at h1 h2
 have h3:=h.ok t h.mem
 have h4:=tG h.mem
 refine ⟨by omega,aFN (zM h3) (by have:=h.sz;omega),by omega,ST.y9 h3 (by omega),h3.1.2.2.1,h3.1.2.2.2⟩
theorem nM.rest {kf:FuncId × Array Value} {s:SV} (h:nM z α f A t B) (hH:aA w0 F M (star (pS s ((aY ((A ++ t::B).map (·.n))).map (Value.int .i64))) (aF a α))) (hp:∀ (y:Int) (M':Mem) (R':VP),Mem.le F M'→R' (.bool (y == (t.n:Int))) M'→C PP w0 kf.1 ((([.int .i64 y]:List Value) ++ kf.2.toList).toArray) R' M')
  (hR:∀ M' s',aA w0 F M' (star (pS s' ((aY ((A ++ B).map (·.n))).map (Value.int .i64))) (aF a α))→R s'.v M'):C PP w0 Id.qR #[SV.v s,.func (.func kf.1) #[] kf.2] R M:=by
 have hi:=hH.right.inv
 have e1:aY ((A ++ t::B).map (·.n)) = aY (A.map (·.n)) ++ (t.n:Int)::aY (B.map (·.n)):=by simp [aY]
 have hwf:∀ y∈aY ((A ++ t::B).map (·.n)),(Lit.int .i64 y).wf = true:=m4 fun x hx=>by
  obtain ⟨u,hu,rfl⟩:=List.mem_map.1 hx
  exact h.small hi _ (iO hu)
 have hl:=(h.lens (Nat.le_refl _)).1
 rw [e1] at hH hwf
 refine aJZ hH hwf h.del.1 h.del.2 (by simp [aY];omega) hp fun M' s' h'=>hR M' s' ?_
 rw [show aY ((A ++ B).map (·.n)) = aY (A.map (·.n)) ++ aY (B.map (·.n)) from by simp [aY]]
 exact h'
end
theorem yD {s:SV} {f:Nat→cH} {A B:List Tn} {t:Tn} (hA:aA w0 F M (star (pS s ((aY ((A ++ t::B).map (·.n))).map (Value.int .i64))) (aF a α))) (hG:nM 1 α f A t B) {m:Nat} (hm:(aS (A ++ t::B)).length≤m)
  (h:∀ M' β f' l',aA w0 F M' (aF a β)→St β (-1) (fo l')→Lb β f' (aS l')→(aS l').Perm (aS (A ++ B) ++ aP t.c)→((aS l').map f').Perm ((aS (A ++ B) ++ aP t.c).map f)→(∀ u∈l',x3 1 u)→(∀ u∈l',y3 f' u)→Wk l'→AS.lT (fun c=>c∈bG f (aS (A ++ t::B))) (· = t.n) (-1) (200 * bl m + 100) α β→β.get (f t.n).1 9 = -1→R (.tuple #[.int .i64 (fo l').root,.int .i64 ((f t.n).1:Int)]) M') :
  C PP w0 Id.iW #[.pointer (some ⟨a,0,none⟩),SV.v s,.int .i64 (t.n:Int)] R M:=by
 apply iW.go
 unfold iW.T aH
 obtain ⟨b1,b2,b3,b4,b5,b6⟩:=hG.lens hm
 intro bx hbx hwx
 have h1:aA w0 F _ (star (bA bx [.int .i64 (t.n:Int)] 3) _):=hA.new hbx hwx [.int .i64 (t.n:Int)] 3
 generalize M.set bx _ = M1 at h1 ⊢
 obtain ⟨F1,hle1,hown,h2⟩:=aA.fY h1
 have hld:∀ M',Mem.le F1 M'→(aJ PP w0).ld 3 ⟨bx,0,none⟩ M' = some (.int .i64 (t.n:Int)):=fun M' hM=>by
  rw [aR W.c3];exact aN (o:=0) (hown.le hM)
 refine hG.rest (kf:=(Id.fZ,#[.pointer (some ⟨bx,0,none⟩)])) h2 (fun y M' R' hM hR'=>?_) fun M2 s2 h3=>?_
 ·show C PP w0 Id.fZ #[.int .i64 y,.pointer (some ⟨bx,0,none⟩)] R' M'
  apply fZ.go
  unfold fZ.T aH
  rw [hld M' hM,aC,aL]
  exact hR'
 ·rw [aM,hld M2 h3.fr,aC,aL]
  obtain ⟨F2,hB,hle2,back⟩:=h3.last
  have hnc:(aP t.c).Nodup:=(List.nodup_append.1 (List.nodup_cons.1 hG.nn).2).2.1
  have htl:∀ n∈eX t,α.live n = true:=fun n hn=>(hG.lb n (eK.2 ⟨t,hG.mem,hn⟩)).ln
  refine aFX hB (hG.st t hG.mem) htl hnc fun M3 s3 β hB3 hsm3=>?_
  have h4:=back M3 _ hB3
  rw [aM]
  have hi:=hA.right.inv
  have hrk:qO w0 M3 .i64 s3 (aY ((dD t.c).map (·.n))):=h4.right.aJX (fun x hx=>by
   obtain ⟨u,hu,rfl⟩:=List.mem_map.1 hx
   have h5:=AS.cJ hi (htl u.n (List.mem_cons_of_mem _ (by rw [←bT];exact iO hu)))
   have:=hi.n
   omega) (by simp;omega)
  refine aKv h4 hrk (by simp [aY];omega) fun M4 s4 h5=>?_
  rw [aM,hld M4 h5.fr,aC,aL]
  have h6:aA w0 F1 M4 (star (pS s4 ((aY (((A ++ B) ++ dD t.c).map (·.n))).map (Value.int .i64))) (aF a β)):=by
   rw [show aY (((A ++ B) ++ dD t.c).map (·.n)) = aY ((A ++ B).map (·.n)) ++ aY ((dD t.c).map (·.n)) from by simp [aY]]
   exact h5.dY.right
  have hGβ:=hG.sm hsm3
  obtain ⟨F3,hB6,hle6,back6⟩:=h6.last
  refine aFh hB6 hGβ.tn fun M5 γ hB7 hs7=>?_
  have h7:=back6 M5 _ hB7
  rw [aL]
  have hNr:aS ((A ++ B) ++ dD t.c) = aS (A ++ B) ++ aP t.c:=by rw [lS,bT]
  obtain ⟨e1,e2,e3⟩:=hGβ.ended h6.right.inv hs7
  have hmem:∀ u∈(A ++ B) ++ dD t.c,∀ x∈eX u,x∈bG f (aS (A ++ B) ++ aP t.c):=fun u hu x hx=>List.mem_append_left _ (by rw [←hNr];exact eK.2 ⟨u,hu,hx⟩)
  have hstγ:∀ u∈(A ++ B) ++ dD t.c,zS γ u:=fun u hu=>by
   have h8:zS β u:=by
    rcases List.mem_append.1 hu with h | h
    ·exact hGβ.st u (by rcases List.mem_append.1 h with h | h <;> simp [h])
    ·exact (hGβ.st t hG.mem).2.2.dD u h
   refine ⟨?_,?_,h8.2.2.congr fun x hx y _=>(e3 x (hmem u hu x (List.mem_cons_of_mem _ hx))).1 y⟩
   ·rw [(e3 u.n (hmem u hu u.n List.mem_cons_self)).1];exact h8.1
   ·rw [(e3 u.n (hmem u hu u.n List.mem_cons_self)).1];exact h8.2.1
  have hlbγ:Lb γ f (aS ((A ++ B) ++ dD t.c)):=by
   rw [hNr]
   refine (hGβ.lb.sub fun x hx=>?_).congr (fun c hc g _=>(e3 c hc).1 g) (fun c hc=>(e3 c hc).2)
   exact (qN A B t).mem_iff.2 (List.mem_cons_of_mem _ hx)
  have hsubcel:∀ c∈aS ((A ++ B) ++ dD t.c),c∈bG f (aS (A ++ t::B)):=fun c hc=>hG.sub c (List.mem_append_left _ (by rw [←hNr];exact hc))
  obtain ⟨F4,hle8,hB8,hr8⟩:=h7.freeze (m4 fun x hx=>by
   obtain ⟨u,hu,rfl⟩:=List.mem_map.1 hx
   have:=AS.cJ h7.right.inv (hlbγ u.n (iO hu)).ln
   have:=h7.right.inv.n
   omega) (by simp [aY];omega)
  have hndr:(bG f (aS ((A ++ B) ++ dD t.c))).Nodup:=by
   rw [hNr]
   have:=hG.cel.nodup_iff.1 hG.nd
   unfold bG at this ⊢
   rw [List.map_cons,List.nodup_append] at this
   obtain ⟨n1,n2,n3⟩:=this
   exact List.nodup_append.2 ⟨(List.nodup_cons.1 n1).2,(List.nodup_cons.1 n2).2,fun x hx y hy=>n3 x (List.mem_cons_of_mem _ hx) y (List.mem_cons_of_mem _ hy)⟩
  have hokr:∀ u∈(A ++ B) ++ dD t.c,x3 1 u:=fun u hu=>by
   rcases List.mem_append.1 hu with h | h
   ·exact hG.ok u (by rcases List.mem_append.1 h with h | h <;> simp [h])
   ·exact gA.1 (hG.ok t hG.mem).2 u h
  have hodr:∀ u∈(A ++ B) ++ dD t.c,y3 f u:=fun u hu=>by
   rcases List.mem_append.1 hu with h | h
   ·exact hG.od u h
   ·exact qA.1 hG.odt u h
  have hln:((A ++ B) ++ dD t.c).length≤8 + t.k:=by rw [List.length_append,List.length_append];omega
  refine wW hB8 (by decide) hr8 hstγ hlbγ hndr hokr hodr (by omega) fun M6 δ l' hC hst' hp' hok' hod' hrs' hc' hg'=>?_
  rw [aL]
  refine h M6 δ f l' ((hC.fO hle8).fO hle1) hst' ?_ (by rw [←hNr];exact hp') (by rw [←hNr];exact hp'.map f) hok' hod' hrs'.wk ?_ ?_
  ·refine (hlbγ.sub fun x hx=>hp'.mem_iff.1 hx).congr (fun c _ g hx=>hg' c g (by omega)) (fun c _=>by rw [hc'.live])
  ·refine (((hsm3.pZ.trans e1).trans ((hc'.mono hsubcel (Int.le_refl _)).pZ)).mono (fun _ h=>h) (fun _ h=>h) ?_).to (by omega)
   rw [List.length_append,List.length_append] at *
   omega
  ·rw [hg' _ 9 (by decide)];exact e2
end
end HL
end Go.Proofs.YtodobkbnmjgkdaaGreat
