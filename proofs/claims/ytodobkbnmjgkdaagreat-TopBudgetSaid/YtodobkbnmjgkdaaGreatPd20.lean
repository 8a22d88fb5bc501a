import Derived.Test.YtodobkbnmjgkdaaGreatPd19
namespace Go.Proofs.YtodobkbnmjgkdaaGreat
open Go.RowKit (Below)
set_option linter.unusedVariables false
set_option linter.unusedSimpArgs false
set_option maxRecDepth 100000
namespace HL
abbrev V3:=Int × Int × Int
abbrev V5:=Int × Int × Int × Int × Int
abbrev mX (v:V3):List Value:=[.int .i64 v.1,.int .i64 v.2.1,.int .i64 v.2.2]
abbrev j0 (v:V5):List Value:=[.int .i64 v.1,.int .i64 v.2.1,.int .i64 v.2.2.1,.int .i64 v.2.2.2.1,.int .i64 v.2.2.2.2]
def z3:V3:=(0,0,0)
def z5:V5:=(0,0,0,0,0)
def xW (x:rQ V3):List Value:=.int .i64 x.g::.bool x.t::mX x.v
def pc5 (x:rQ V5):List Value:=.int .i64 x.g::.bool x.t::j0 x.v
theorem jH (x:rQ V3):(xW x).length = 5:=rfl
theorem qL (x:rQ V5):(pc5 x).length = 7:=rfl
theorem aCE (x:rQ V3):∀ v∈xW x,bR v = true:=by
 intro v hv
 simp only [xW,mX,List.mem_cons,List.not_mem_nil,or_false] at hv
 rcases hv with rfl | rfl | rfl | rfl | rfl <;> rfl
theorem aFk (x:rQ V5):∀ v∈pc5 x,bR v = true:=by
 intro v hv
 simp only [pc5,j0,List.mem_cons,List.not_mem_nil,or_false] at hv
 rcases hv with rfl | rfl | rfl | rfl | rfl | rfl | rfl <;> rfl
theorem pW (x:V3):∀ v∈mX x,bR v = true:=by
 intro v hv
 simp only [mX,List.mem_cons,List.not_mem_nil,or_false] at hv
 rcases hv with rfl | rfl | rfl <;> rfl
theorem dM (x:V5):∀ v∈j0 x,bR v = true:=by
 intro v hv
 simp only [j0,List.mem_cons,List.not_mem_nil,or_false] at hv
 rcases hv with rfl | rfl | rfl | rfl | rfl <;> rfl
theorem aFU {α:Type} {c:α→List Value} {k:Nat} (hc:∀ x,(c x).length = k) {l:List α} {i:Nat} {x x':α} {o:Nat} {A B B':List Value} {rest:List Value} (hx:l[i]? = some x) (h1:c x = A ++ B) (h2:c x' = A ++ B') (hA:A.length = o) (hB:B'.length = B.length) :
  dZ (l.flatMap c ++ rest) (i * k + o) B' = (l.set i x').flatMap c ++ rest:=by
 obtain ⟨hi,hxe⟩:=List.getElem?_eq_some_iff.1 hx
 have e1:l = l.take i ++ x::l.drop (i + 1):=by rw [←hxe,←List.drop_eq_getElem_cons hi,List.take_append_drop]
 have e2:l.set i x' = l.take i ++ x'::l.drop (i + 1):=by rw [List.set_eq_take_append_cons_drop,if_pos hi]
 have hl:((l.take i).flatMap c).length = i * k:=by rw [rH hc,List.length_take,Nat.min_eq_left (by omega)]
 rw [e2]
 conv=>lhs;rw [e1]
 rw [List.flatMap_append,List.flatMap_cons,List.flatMap_append,List.flatMap_cons,h1,h2]
 have:=eO ((l.take i).flatMap c ++ A) B ((l.drop (i + 1)).flatMap c ++ rest) B' hB (o:=i * k + o) (by rw [List.length_append,hl,hA])
 simp only [List.append_assoc] at this ⊢
 exact this
section
variable {w0:World} {F M:Mem} {R:VP}
theorem uF {α:Type} {c:α→List Value} {k:Nat} (hc:∀ x,(c x).length = k) {t:TypeId} {vs:List Value} (hg:gE PP t vs.length = true) {s:SV} {l:List α} {Q:cW} (h:aA w0 F M (star (dS k s (l.flatMap c)) Q)) {i:Nat} {x x':α} (hx:l[i]? = some x) {o:Nat} {A B:List Value} (h1:c x = A ++ B) (h2:c x' = A ++ vs) (hA:A.length = o) (hB:vs.length = B.length) (hone:∀ v∈vs,bR v = true)
  {blk:Nat} (ha:s.a = some ⟨blk,0,none⟩) (hn:s.n = l.length) {K:Mem→Prop} (hK:∀ M',aA w0 F M' (star (dS k s ((l.set i x').flatMap c)) Q)→K M'):(aJ PP w0).st t ⟨blk,i * k + o,none⟩ (.agg vs.toArray) (fun M'=>K M') M:=by
 obtain ⟨hi,_⟩:=List.getElem?_eq_some_iff.1 hx
 obtain ⟨b,rest,e,ha',e1,e2,hR⟩:=dS.row h (by omega)
 rw [ha] at ha';cases ha'
 have hk:(c x).length = k:=hc x
 rw [h1,List.length_append] at hk
 have hik:(i + 1) * k≤l.length * k:=Nat.mul_le_mul_right k (by omega)
 rw [Nat.succ_mul] at hik
 have hfl:=rH hc l
 refine gG hg hR.aZ (by rw [List.length_append,hfl];omega) hone ?_
 rw [aFU hc hx h1 h2 hA hB]
 refine hK _ ?_
 have h3:=hR.jX (cs':=(l.set i x').flatMap c ++ rest) (e':=e)
 obtain ⟨s_a,s_n,s_c⟩:=s
 simp only at ha
 subst ha
 refine dS.ofRow h3 ?_ ?_
 ·rw [rH hc,List.length_set];rw [hfl] at e1;exact e1
 ·rw [rH hc,List.length_set,←hfl];exact e2
end
end HL
set_option maxHeartbeats 1000000
namespace HL
section
variable {w0:World} {F M:Mem} {R:VP} {p:Nat} {P:PS V3} {Q:cW}
def wW (p:Nat) (P:PS V3):cW:=fun r=>∃ sL sF:SV,star (aW p [.int .i64 P.most,SV.v sL,SV.v sF] 208) (star (dS 5 sL (P.l.flatMap xW)) (dS 1 sF (vN P.free))) r
abbrev uW (w0:World) (F M:Mem) (p:Nat) (P:PS V3) (sL sF:SV) (Q:cW):Prop:=aA w0 F M (star (aW p [.int .i64 P.most,SV.v sL,SV.v sF] 208) (star (dS 5 sL (P.l.flatMap xW)) (star (dS 1 sF (vN P.free)) Q)))
theorem wW.open_ (h:aA w0 F M (star (wW p P) Q)):∃ sL sF,uW w0 F M p P sL sF Q:=by
 obtain ⟨r,⟨r1,r2,rfl,⟨sL,sF,h1⟩,h2⟩,h3⟩:=h
 refine ⟨sL,sF,?_⟩
 have:aA w0 F M (star (star (aW p [.int .i64 P.most,SV.v sL,SV.v sF] 208) (star (dS 5 sL (P.l.flatMap xW)) (dS 1 sF (vN P.free)))) Q):=⟨_,⟨r1,r2,rfl,h1,h2⟩,h3⟩
 have h4:=aA.assoc.1 this
 obtain ⟨F1,k1,_,k2⟩:=h4.last
 exact k2 _ _ (aA.assoc.1 k1)
theorem uW.close {sL sF:SV} (h:uW w0 F M p P sL sF Q):aA w0 F M (star (wW p P) Q):=by
 obtain ⟨F1,k1,_,k2⟩:=aA.last h
 have h1:=k2 _ _ (aA.assoc.2 k1)
 have h2:=aA.assoc.2 h1
 obtain ⟨r,⟨r1,r2,rfl,g1,g2⟩,g3⟩:=h2
 exact ⟨_,⟨r1,r2,rfl,⟨sL,sF,g1⟩,g2⟩,g3⟩
section
variable {sL sF:SV}
theorem uW.r0 (h:uW w0 F M p P sL sF Q):rd w0 M ⟨p,0,none⟩ = some (.int .i64 P.most):=aM (o:=0) h.aZ
theorem uW.r1 (h:uW w0 F M p P sL sF Q):rd w0 M ⟨p,1,none⟩ = some (SV.v sL):=aM (o:=1) h.aZ
theorem uW.r2 (h:uW w0 F M p P sL sF Q):rd w0 M ⟨p,2,none⟩ = some (SV.v sF):=aM (o:=2) h.aZ
theorem uW.nL (h:uW w0 F M p P sL sF Q):sL.n = P.l.length:=aA.nR jH (by decide) h.right
theorem uW.nF (h:uW w0 F M p P sL sF Q):sF.n = P.free.length:=by
 have:=uG (k:=1) h.right.right
 rw [this];simp [vN]
theorem uW.el (h:uW w0 F M p P sL sF Q) {i:Nat} {x:rQ V3} (hx:P.l[i]? = some x):∃ blk,sL.a = some ⟨blk,0,none⟩∧sL.n = P.l.length∧i < sL.n∧∀ f v,(xW x)[f]? = some v→rd w0 M ⟨blk,i * 5 + f,none⟩ = some v:=aA.adR jH (by decide) h.right hx
theorem uW.focus (h:uW w0 F M p P sL sF Q):∃ F5,aA w0 F5 M Q∧Mem.le F F5∧∀ M' Q',aA w0 F5 M' Q'→uW w0 F M' p P sL sF Q':=by
 obtain ⟨F1,k1,l1,k2⟩:=aA.last h
 obtain ⟨F2,k3,l2,k4⟩:=k1.last
 obtain ⟨F3,k5,l3,k6⟩:=k3.last
 exact ⟨F3,k5,Mem.le_trans l1 (Mem.le_trans l2 l3),fun M' Q' hh=>k2 _ _ (k4 _ _ (k6 _ _ hh))⟩
end
theorem aKo {b:Nat} {cs:List Value} {Pq:cW} {v:V3} (h:aA w0 F M (star (aW b cs 149) Pq)) (hcs:cs.length = 3) {K:VP} (hK:∀ M',aA w0 F M' Pq→K (.agg #[.int .i64 v.1,.int .i64 v.2.1,.int .i64 v.2.2]) M') :
  (aJ PP w0).st 149 ⟨b,0,none⟩ (.agg #[.int .i64 v.1,.int .i64 v.2.1,.int .i64 v.2.2]) (fun M1=>ob ((aJ PP w0).rdv 149 (.pointer (some ⟨b,0,none⟩)) M1) fun v=>K v M1) M:=by
 refine gG (vs:=mX v) W.aBx h.aZ (by rw [hcs];exact Nat.le_refl _) (pW v) ?_
 have h2:=h.jX (cs':=dZ cs 0 (mX v)) (e':=149)
 have e0:dZ cs 0 (mX v) = mX v:=by
  have:=eO [] cs [] (mX v) (by rw [hcs];rfl) (o:=0) rfl
  simpa using this
 rw [e0] at h2 ⊢
 have o2:=h2.aZ
 rw [pX,cR (cs:=mX v) W.aBx (fun j u hj=>by rw [add_eq,aM o2,Nat.zero_add];exact hj),aC]
 exact hK _ h2.right
theorem aFX {b o:Nat} {v:V3} {cs:List Value} {e:TypeId} (h:cN w0 M b cs e) (hc:∀ j u,(mX v)[j]? = some u→cs[o + j]? = some u):(aJ PP w0).ld 149 ⟨b,o,none⟩ M = some (.agg #[.int .i64 v.1,.int .i64 v.2.1,.int .i64 v.2.2]) :=
 cR (cs:=mX v) W.aBx (fun j u hj=>by rw [add_eq,aM h];exact hc j u hj)
theorem aH3 {b:Nat} {x y:Int} {e:TypeId} (h:cN w0 M b [.int .i64 x,.int .i64 y] e):(aJ PP w0).ld 33 ⟨b,0,none⟩ M = some (.agg #[.int .i64 x,.int .i64 y]) :=
 cR (cs:=[.int .i64 x,.int .i64 y]) W.g33 (fun j u hj=>by rw [add_eq,aM h,Nat.zero_add];exact hj)
theorem aAv {sL sF:SV} {a g:Int} (h:uW w0 F M p P sL sF Q) (hb:P.l.length≤100000)
  (h1:∀ (i:Nat) v blk,a = (i:Int)→P.l[i]? = some ⟨g,true,v⟩→P.find a g = some v→sL.a = some ⟨blk,0,none⟩→∀ M',Mem.le M M'→R (.tuple #[.pointer (some ⟨blk,i * 5,none⟩),.int .i64 0]) M')
  (h0:P.find a g = none→∀ M' e,Mem.le M M'→e≠0→e = P.pl.look a g→R (.tuple #[.pointer none,.int .i64 e]) M') :
  C PP w0 Id.c9 #[.pointer (some ⟨p,0,none⟩),.agg #[.int .i64 a,.int .i64 g]] R M:=by
 apply c9.go
 intro aB H
 unfold c9.T aL
 intro b1 hb1 hw1
 have l1:=Mem.fO (M:=M) (.row [.int .i64 a,.int .i64 g] 33) hb1
 have o1:cN w0 (M.set b1 (.row [.int .i64 a,.int .i64 g] 33)) b1 [.int .i64 a,.int .i64 g] 33:=cN.new hw1
 generalize M.set b1 _ = M1 at l1 o1 ⊢
 have hO:uW w0 F M1 p P sL sF Q:=aA.le h l1
 have f0:rd w0 M1 ⟨b1,0,none⟩ = some (.int .i64 a):=aM (o:=0) o1
 have f1:rd w0 M1 ⟨b1,1,none⟩ = some (.int .i64 g):=aM (o:=1) o1
 have fL:=hO.r1
 have hn:=hO.nL
 have hlk:∀ e,P.pl.look a g = e→e≠0→P.find a g = none:=fun e he eQ=>by
  cases hf:P.find a g with
  | none=>rfl
  | some v =>
   have:=PS.pM.1 (show (P.find a g).isSome = true by rw [hf];rfl)
   exact absurd (he▸this) eQ
 have h22:P.pl.look a g = 22→R (.tuple #[.pointer none,.int .i64 22]) M1:=fun e=>h0 (hlk 22 e (by decide)) M1 22 l1 (by decide) e.symm
 have h23:P.pl.look a g = 23→R (.tuple #[.pointer none,.int .i64 23]) M1:=fun e=>h0 (hlk 23 e (by decide)) M1 23 l1 (by decide) e.symm
 have hlook:P.pl.look a g = if a < 0∨(P.l.length:Int)≤a∨g < 1∨(P.l.map (·.g)).getD a.toNat 0 < g then 22 else if g < (P.l.map (·.g)).getD a.toNat 0∨(P.l.map (·.t)).getD a.toNat false = false then 23 else 0:=by
  unfold Pl.look PS.pl
  simp only [List.length_map]
 simp only [aX,aP W.c3,aP W.aHt,add_eq,Nat.zero_add,f0,f1,fL,aC,aK,aR]
 rw [eK]
 split
 ·rename_i ha
  exact h22 (by rw [hlook,if_pos (.inl ha)])
 ·rename_i ha
  rw [eK]
  split
  ·exact h22 (by rw [hlook,if_pos (.inr (.inl (by omega)))])
  ·rename_i hal
   rw [eK]
   split
   ·rename_i hg
    exact h22 (by rw [hlook,if_pos (.inr (.inr (.inl hg)))])
   ·rename_i hg
    obtain ⟨i,rfl⟩:∃ i:Nat,a = (i:Int):=⟨a.toNat,by omega⟩
    have hil:i < P.l.length:=by omega
    have hx:=List.getElem?_eq_getElem hil
    generalize P.l[i] = x at hx
    obtain ⟨blk,ha2,hn2,hi2,hrd⟩:=hO.el hx
    have eg:(P.l.map (·.g)).getD (i:Int).toNat 0 = x.g:=by rw [Int.toNat_natCast,List.getD_eq_getElem?_getD,List.getElem?_map,hx];rfl
    have et:(P.l.map (·.t)).getD (i:Int).toNat false = x.t:=by rw [Int.toNat_natCast,List.getD_eq_getElem?_getD,List.getElem?_map,hx];rfl
    rw [eg,et] at hlook
    have r0:rd w0 M1 ⟨blk,i * 5,none⟩ = some (.int .i64 x.g):=hrd 0 _ rfl
    have r1:rd w0 M1 ⟨blk,i * 5 + 1,none⟩ = some (.bool x.t):=hrd 1 _ rfl
    simp only [ha2,aX,Int.toNat_natCast,add_eq,Nat.zero_add,r0,aC,aK]
    refine ⟨⟨by omega,by omega⟩,?_⟩
    rw [eK]
    split
    ·rename_i hgg
     exact h22 (by rw [hlook,if_pos (.inr (.inr (.inr hgg)))])
    ·rename_i hgg
     have hno:¬ ((i:Int) < 0∨(P.l.length:Int)≤(i:Int)∨g < 1∨x.g < g):=by omega
     rw [if_neg hno] at hlook
     refine Eq.mpr (H.J1 ..) ?_
     unfold c9.J1.T aL
     simp only [aX,aP W.c3,aP W.c4,aP W.aHt,add_eq,Nat.zero_add,f0,f1,fL,aC,aK,aR,bT,ha2,Int.toNat_natCast,r0,r1]
     refine ⟨⟨by omega,by omega⟩,?_⟩
     rw [eK]
     split
     ·rename_i hlt
      exact h23 (by rw [hlook,if_pos (.inl hlt)])
     ·rename_i hlt
      cases ht:x.t with
      | false =>
       rw [Bool.not_false,dY]
       exact h23 (by rw [hlook,if_pos (.inr ht)])
      | true =>
       rw [Bool.not_true,mY]
       have hgx:g = x.g:=by omega
       have hx2:P.l[i]? = some ⟨g,true,x.v⟩:=by
        rw [hx,hgx]
        obtain ⟨xg,xt,xv⟩:=x
        simp only at ht
        subst ht;rfl
       exact h1 i x.v blk rfl hx2 (PS.jT hx2 (by omega)) ha2 M1 l1
theorem aJO {a g:Int} (h:aA w0 F M (star (wW p P) Q)) (hb:P.l.length≤100000)
  (h1:∀ v,P.find a g = some v→∀ M',Mem.le M M'→R (.tuple #[.agg #[.int .i64 v.1,.int .i64 v.2.1,.int .i64 v.2.2],.int .i64 0]) M')
  (h0:P.find a g = none→∀ M' e,Mem.le M M'→e≠0→e = P.pl.look a g→R (.tuple #[.agg #[.int .i64 0,.int .i64 0,.int .i64 0],.int .i64 e]) M') :
  C PP w0 Id.jR #[.pointer (some ⟨p,0,none⟩),.agg #[.int .i64 a,.int .i64 g]] R M:=by
 apply jR.go
 unfold jR.T aL
 obtain ⟨sL,sF,hO⟩:=wW.open_ h
 intro b1 hb1 hw1
 have l1:=Mem.fO (M:=M) (.row [.int .i64 a,.int .i64 g] 33) hb1
 have o1:cN w0 (M.set b1 (.row [.int .i64 a,.int .i64 g] 33)) b1 [.int .i64 a,.int .i64 g] 33:=cN.new hw1
 generalize M.set b1 _ = M1 at l1 o1 ⊢
 intro b3 hb3 hw3
 have n1:aA w0 M1 M1 (fun r=>r = []):=⟨[],rfl,Fit.nil (Mem.le_refl _)⟩
 have n3:aA w0 M1 _ (star (aW b3 _ 149) _):=n1.new hb3 hw3 [.int .i64 0,.int .i64 0,.int .i64 0] 149
 generalize M1.set b3 _ = M2 at n3 ⊢
 have l2:=n3.fr
 rw [aH3 (o1.le l2)]
 simp only [aC,a9,aT,aK,aS]
 have hO2:uW w0 F M2 p P sL sF Q:=aA.le hO (Mem.le_trans l1 l2)
 refine aAv hO2 hb (fun i v blk ea hx hf ha M3 l3=>?_) fun hf M3 e l3 he hel=>?_
 ·simp only [cA,aT,bK,aK,aS]
  rw [bX,if_pos rfl,aX,add_eq]
  have hO3:uW w0 F M3 p P sL sF Q:=aA.le hO2 l3
  obtain ⟨blk',ha',hn',hi',hrd⟩:=hO3.el hx
  rw [ha] at ha';cases ha'
  rw [cR (cs:=mX v) W.aBx (fun j u hj=>by rw [add_eq,Nat.add_assoc];exact hrd (2 + j) u (by rw [Nat.add_comm];exact hj))]
  simp only [aC,a9,aT,aK,aS]
  refine aKo (n3.le l3) rfl (K:=fun v M=>R (.tuple #[v,.int .i64 0]) M) fun M4 h4=>?_
  exact h1 v hf M4 (Mem.le_trans l1 h4.fr)
 ·simp only [cA,aT,bK,aK,aS]
  rw [bX,if_neg he]
  intro b22 hb22 hw22
  have l4:=Mem.fO (M:=M3) (.row [.int .i64 0,.int .i64 0,.int .i64 0] 149) hb22
  have o4:cN w0 (M3.set b22 (.row [.int .i64 0,.int .i64 0,.int .i64 0] 149)) b22 (mX z3) 149:=cN.new hw22
  generalize M3.set b22 _ = M4 at l4 o4 ⊢
  rw [aFX (v:=z3) (o:=0) o4 (fun j u hj=>by rw [Nat.zero_add];exact hj)]
  simp only [aC,a9,aT,aK,aS]
  refine aKo (v:=z3) (n3.le (Mem.le_trans l3 l4)) rfl (K:=fun v M=>R (.tuple #[v,.int .i64 e]) M) fun M5 h5=>?_
  exact h0 hf M5 e (Mem.le_trans l1 h5.fr) he hel
theorem aID {a g:Int} {v w:V3} (h:aA w0 F M (star (wW p P) Q)) (hb:P.l.length≤100000) (hw:P.find a g = some w)
  (h1:∀ M',aA w0 F M' (star (wW p (P.put a.toNat v)) Q)→R (.int .i64 0) M') :
  C PP w0 Id.kD #[.pointer (some ⟨p,0,none⟩),.agg #[.int .i64 a,.int .i64 g],.agg #[.int .i64 v.1,.int .i64 v.2.1,.int .i64 v.2.2]] R M:=by
 apply kD.go
 unfold kD.T aL
 obtain ⟨sL,sF,hO⟩:=wW.open_ h
 intro b1 hb1 hw1
 have l1:=Mem.fO (M:=M) (.row [.int .i64 a,.int .i64 g] 33) hb1
 have o1:cN w0 (M.set b1 (.row [.int .i64 a,.int .i64 g] 33)) b1 [.int .i64 a,.int .i64 g] 33:=cN.new hw1
 generalize M.set b1 _ = M1 at l1 o1 ⊢
 intro b3 hb3 hw3
 have l2:=Mem.fO (M:=M1) (.row (mX v) 149) hb3
 have o3:cN w0 (M1.set b3 (.row (mX v) 149)) b3 (mX v) 149:=cN.new hw3
 change _ at hb3
 generalize hM2:M1.set b3 _ = M2
 have hM2':M1.set b3 (.row (mX v) 149) = M2:=hM2
 rw [hM2'] at l2 o3
 rw [aH3 (o1.le l2)]
 simp only [aC,a9,aT,aK,aS]
 have hO2:uW w0 F M2 p P sL sF Q:=aA.le hO (Mem.le_trans l1 l2)
 refine aAv hO2 hb (fun i v' blk ea hx hf ha M3 l3=>?_) fun hf M3 e l3 he hel=>?_
 ·simp only [cA,aT,bK,aK,aS]
  rw [fB,if_pos rfl,aFX (v:=v) (o:=0) (o3.le l3) (fun j u hj=>by rw [Nat.zero_add];exact hj)]
  simp only [aC,a9,aT,aK,aS,aX,add_eq]
  have hO3:uW w0 F M3 p P sL sF Q:=aA.le hO2 l3
  have hn:=hO3.nL
  obtain ⟨F1,k1,_,k2⟩:=aA.last hO3
  refine uF jH (vs:=mX v) W.aBx k1 hx (x':=⟨g,true,v⟩) (A:=[.int .i64 g,.bool true]) (B:=mX v') rfl rfl rfl rfl (pW v) ha hn fun M4 h4=>?_
  have h5:=k2 _ _ h4
  refine h1 M4 (uW.close (sL:=sL) (sF:=sF) ?_)
  subst ea
  rw [Int.toNat_natCast]
  obtain ⟨e1,e2,e3⟩:=PS.uX v hx
  unfold uW
  rw [e1,e2,e3]
  exact h5
 ·rw [hw] at hf;cases hf
theorem aHF {v:V3} (h:aA w0 F M (star (wW p P) Q)) (hok:P.Ok) (hb:P.l.length≤10000) (hfb:P.free.length≤10000) (hg:∀ x∈P.l,0≤x.g∧x.g≤1000000) {a:Nat} (hat:P.at_ = some a)
  (h1:∀ M',aA w0 F M' (star (wW p (P.take z3 a v)) Q)→R (.tuple #[.agg #[.int .i64 (a:Int),.int .i64 (P.gen a)],.bool true]) M') :
  C PP w0 Id.cS #[.pointer (some ⟨p,0,none⟩),.agg #[.int .i64 v.1,.int .i64 v.2.1,.int .i64 v.2.2]] R M:=by
 apply cS.go
 intro aB H
 unfold cS.T aL
 intro b1 hb1 hw1
 have g1:aA w0 F _ (star (aW b1 (mX v) 149) (star (wW p P) Q)):=h.new hb1 hw1 (mX v) 149
 generalize hM1:M.set b1 _ = M1
 have hM1':M.set b1 (.row (mX v) 149) = M1:=hM1
 rw [hM1'] at g1
 obtain ⟨F1,hle1,hown,g2⟩:=aA.fE g1
 intro b3 hb3 hw3
 have g3:aA w0 F1 _ (star (aW b3 _ 33) (star (wW p P) Q)):=g2.new hb3 hw3 [.int .i64 0,.int .i64 0] 33
 generalize M1.set b3 _ = M2 at g3 ⊢
 obtain ⟨sL,sF,hO⟩:=wW.open_ g3.dX
 have keyJ1:∀ (M':Mem) (P':PS V3) (sL sF:SV) (x:rQ V3),uW w0 F1 M' p P' sL sF (star (aW b3 [.int .i64 0,.int .i64 0] 33) Q)→P'.l[a]? = some x→0≤x.g∧x.g≤1000000 →
   (∀ M'',aA w0 F1 M'' (star (wW p { P' with l:=P'.l.set a ⟨x.g + 1,true,v⟩ }) Q)→R (.tuple #[.agg #[.int .i64 (a:Int),.int .i64 (x.g + 1)],.bool true]) M'') →
   cS.J1 aB (some ⟨p,0,none⟩) ⟨b1,0,none⟩ ⟨b3,0,none⟩ (a:Int) M':=by
  intro M' P' sL sF x hX hx hxg hR
  refine Eq.mpr (H.J1 ..) ?_
  unfold cS.J1.T aL
  obtain ⟨blk,ha,hn,hi,hrd⟩:=hX.el hx
  have eL:=hX.r1
  have r0:rd w0 M' ⟨blk,a * 5,none⟩ = some (.int .i64 x.g):=hrd 0 _ rfl
  simp only [aX,aP W.c3,aP W.aHt,add_eq,Nat.zero_add,eL,aC,aR,ha,Int.toNat_natCast,r0,aK]
  refine ⟨⟨by omega,by omega⟩,?_⟩
  rw [bC (by omega)]
  obtain ⟨F2,k1,_,k2⟩:=aA.last hX
  have hnl:∀ y,(P'.l.set a y).length = P'.l.length:=fun y=>List.length_set
  refine aA.stR (f:=0) jH (by decide) W.c3 k1 hx (x':={ x with g:=x.g + 1 }) (by decide) rfl rfl rfl ha fun M3 h3=>?_
  have hX3:uW w0 F1 M3 p { P' with l:=P'.l.set a { x with g:=x.g + 1 } } sL sF (star (aW b3 [.int .i64 0,.int .i64 0] 33) Q):=k2 _ _ h3
  rw [aFX (v:=v) (o:=0) (hown.le (aA.fr hX3)) (fun j u hj=>by rw [Nat.zero_add];exact hj)]
  simp only [aC,a9,aT,aK,aS]
  have hal:a < P'.l.length:=(List.getElem?_eq_some_iff.1 hx).1
  have hx3:(P'.l.set a { x with g:=x.g + 1 })[a]? = some { x with g:=x.g + 1 }:=List.getElem?_set_self hal
  obtain ⟨F3,k3,_,k4⟩:=aA.last hX3
  refine aA.stR (f:=1) jH (by decide) W.c4 k3 hx3 (x':=⟨x.g + 1,true,x.v⟩) (by decide) rfl rfl rfl ha fun M4 h4=>?_
  have hX4:uW w0 F1 M4 p { P' with l:=P'.l.set a ⟨x.g + 1,true,x.v⟩ } sL sF (star (aW b3 [.int .i64 0,.int .i64 0] 33) Q):=by
   have:=k4 _ _ h4
   rw [List.set_set] at this
   exact this
  refine ⟨aFX (v:=v) (o:=0) (hown.le (aA.fr hX4)) (fun j u hj=>by rw [Nat.zero_add];exact hj),?_⟩
  have hx4:(P'.l.set a ⟨x.g + 1,true,x.v⟩)[a]? = some ⟨x.g + 1,true,x.v⟩:=List.getElem?_set_self hal
  obtain ⟨F4,k5,_,k6⟩:=aA.last hX4
  refine uF jH (vs:=mX v) W.aBx k5 hx4 (x':=⟨x.g + 1,true,v⟩) (A:=[.int .i64 (x.g + 1),.bool true]) (B:=mX x.v) rfl rfl rfl rfl (pW v) ha (by rw [hnl];exact hn) fun M5 h5=>?_
  have hX5:uW w0 F1 M5 p { P' with l:=P'.l.set a ⟨x.g + 1,true,v⟩ } sL sF (star (aW b3 [.int .i64 0,.int .i64 0] 33) Q):=by
   have:=k6 _ _ h5
   rw [List.set_set] at this
   exact this
  have hx5:(P'.l.set a ⟨x.g + 1,true,v⟩)[a]? = some ⟨x.g + 1,true,v⟩:=List.getElem?_set_self hal
  obtain ⟨blk5,ha5,hn5,hi5,hrd5⟩:=hX5.el hx5
  rw [ha] at ha5;cases ha5
  have r5:rd w0 M5 ⟨blk,a * 5,none⟩ = some (.int .i64 (x.g + 1)):=hrd5 0 _ rfl
  have hbld:(aJ PP w0).pD 33 [(0,.int .i64 (a:Int)),(1,.int .i64 (x.g + 1))] = some (.agg #[.int .i64 (a:Int),.int .i64 (x.g + 1)]):=by kernel_rfl
  simp only [r5,aC,aK,hbld,a9,aT,aS]
  obtain ⟨F5,k7,_,k8⟩:=uW.focus hX5
  refine aAF k7 (K:=fun v M=>R (.tuple #[v,.bool true]) M) fun M6 hback=>?_
  exact hR M6 (uW.close (k8 _ _ (hback _ _ k7)))
 have eL:=hO.r1
 have eF:=hO.r2
 have e0:=hO.r0
 have nL:=hO.nL
 have nF:=hO.nF
 simp only [aX,aP W.c3,aP W.c53,aP W.aHt,add_eq,Nat.zero_add,eL,eF,e0,aC,aR,aK]
 rw [eK]
 split
 ·-- one that was given back
  rename_i hpos
  have hp2:0 < P.free.length:=by
   apply Decidable.byContradiction
   intro hc
   have:sF.n = 0:=by omega
   rw [this] at hpos
   rw [show qB (((0:Nat):Int) - 1) = -1 from by rw [bC (by omega)];omega] at hpos
   omega
  obtain ⟨bs,x,hbs⟩:∃ bs x,P.free = bs ++ [x]:=by
   rcases List.eq_nil_or_concat P.free with e | ⟨bs,x,e⟩
   ·rw [e] at hp2;simp at hp2
   ·exact ⟨bs,x,by rw [e,List.concat_eq_append]⟩
  have hlast:P.free.getLast? = some x:=by rw [hbs];simp
  have hax:a = x:=by
   unfold PS.at_ at hat
   rw [hlast] at hat
   simpa using hat.symm
  subst hax
  have hfl:P.free.length = bs.length + 1:=by rw [hbs];simp
  have hw:qB (((sF.n:Nat):Int) - 1) = ((bs.length:Nat):Int):=by rw [bC (by omega)];omega
  obtain ⟨F2,k1,_,k2⟩:=aA.last hO
  obtain ⟨F3,k3,_,k4⟩:=k1.last
  have hc3:=dP k3
  obtain ⟨blk,rest,e,ha,q1,q2,q3⟩:=dS.row k3 (by omega)
  have hcap:sF.n≤sF.c:=by rw [Nat.mul_one] at q1 q2;omega
  rw [hw]
  refine rdv hc3.1 (uG (k:=1) k3) bs.length rfl (v:=.int .i64 (a:Int)) (by unfold vN;rw [hbs,List.getElem?_map,List.getElem?_append_right (Nat.le_refl _)];simp) ?_
  rw [aK]
  refine ⟨⟨by omega,by omega,by omega⟩,?_⟩
  have hsl:(Value.slice (if sF.c = (0:Int).toNat then sF.a else sF.a.map (·.add ((0:Int).toNat * 1))) (((bs.length:Nat):Int).toNat - (0:Int).toNat) (sF.c - (0:Int).toNat)) = SV.v ⟨some ⟨blk,0,none⟩,bs.length,sF.c⟩:=by
   rw [ha,Int.toNat_zero,Int.toNat_natCast,Nat.sub_zero,Nat.sub_zero,Nat.zero_mul]
   unfold SV.v
   simp only [Option.map_some,add_eq]
   split <;> rfl
  rw [hsl]
  refine gA W.c53 (aA.aZ hO) (by simp) rfl rfl ?_
  have h4:=aA.jX hO (cs':=[.int .i64 P.most,SV.v sL,SV.v ⟨some ⟨blk,0,none⟩,bs.length,sF.c⟩]) (e':=208)
  have hvs:vN P.free ++ rest = vN bs ++ (.int .i64 (a:Int)::rest):=by rw [hbs];simp [vN]
  have u7:∀ (b':Bool),True:=fun _=>trivial
  obtain ⟨y,hy,hyt⟩:=hok.fr a (by rw [hbs];simp)
  refine keyJ1 _ { P with free:=bs } sL ⟨some ⟨blk,0,none⟩,bs.length,sF.c⟩ y ?_ hy (hg y (List.mem_of_getElem? hy)) fun M5 h5=>?_
  ·obtain ⟨F6,k6,_,k7⟩:=aA.last h4
   obtain ⟨F8,k8,_,k9⟩:=k6.last
   refine k7 _ _ (k9 _ _ ?_)
   obtain ⟨blk',rest',e',ha',q1',q2',q3'⟩:=dS.row k8 (by omega)
   rw [ha] at ha';cases ha'
   have hvs':vN P.free ++ rest' = vN bs ++ (.int .i64 (a:Int)::rest'):=by rw [hbs];simp [vN]
   rw [hvs'] at q3'
   have hvl:(vN bs).length = bs.length:=by simp [vN]
   have hvl2:(vN P.free).length = bs.length + 1:=by simp [vN,hfl]
   refine dS.ofRow q3' (by rw [hvl];omega) ?_
   rw [hvl,List.length_cons]
   rw [hvl2] at q2'
   omega
  ·have hgen:P.gen a = y.g + 1:=by unfold PS.gen;rw [hy]
   have htk:P.take z3 a v = { P with free:=bs,l:=P.l.set a ⟨y.g + 1,true,v⟩ }:=by
    unfold PS.take PS.grow
    rw [hlast,hgen]
    simp [hbs]
   rw [htk,hgen] at h1
   exact h1 M5 (h5.fQ hle1)
 ·rename_i hpos
  have hp2:P.free = []:=by
   apply List.eq_nil_of_length_eq_zero
   apply Decidable.byContradiction
   intro hc
   rw [show qB (((sF.n:Nat):Int) - 1) = ((sF.n:Nat):Int) - 1 from bC (by omega)] at hpos
   omega
  have hlast:P.free.getLast? = none:=by rw [hp2];rfl
  have hat2:=hat
  unfold PS.at_ at hat2
  rw [hlast] at hat2
  simp only at hat2
  split at hat2
  ·cases hat2
  ·rename_i hm
   have hal:a = P.l.length:=by simpa using hat2.symm
   rw [eK,if_neg (by omega)]
   have hbld:(aJ PP w0).pD 213 [] = some (.agg #[.int .i64 0,.bool false,.int .i64 0,.int .i64 0,.int .i64 0]):=by kernel_rfl
   simp only [hbld,aC,a9,aT,aK,bT,aS]
   refine rW (n:=1) (cells:=#[.int .i64 0,.bool false,.int .i64 0,.int .i64 0,.int .i64 0]) Tryz.underlying206 W.aLj (by decide) (by kernel_rfl) fun bn hbn hwn=>?_
   rw [rE]
   have hNw:aA w0 F1 _ (star (aW bn (xW ⟨0,false,z3⟩) 213) _):=aA.new hO hbn hwn (xW ⟨0,false,z3⟩) 213
   change aA w0 F1 (M2.set bn (.row (#[.int .i64 0,.bool false,.int .i64 0,.int .i64 0,.int .i64 0]:Array Value).toList 213)) _ at hNw
   generalize M2.set bn _ = M3 at hNw ⊢
   obtain ⟨F2,hle2,hownN,hO3⟩:=aA.fE hNw
   obtain ⟨F3,k1,l3,k2⟩:=aA.last hO3
   have hcap:=aA.aJD jH (by decide) k1
   refine tV (x:=⟨some ⟨bn,0,none⟩,1,1⟩) (news:=xW ⟨0,false,z3⟩) Tryz.underlying206 W.aLj k1 rfl (gN.own (hownN.le hO3.fr) fun j u hj=>by rw [Nat.zero_add];exact hj) (fun e0=>by cases e0) (aCE _) (by decide) (by show sL.n + 1≤_;omega) fun M4 s4 h4=>?_
   rw [aR]
   have h5:=k2 _ _ h4
   refine gA W.aHt (aA.aZ h5) (by simp) rfl rfl ?_
   have h6:=aA.jX h5 (cs':=[.int .i64 P.most,SV.v s4,SV.v sF]) (e':=208)
   rw [nL,←hal]
   have hfm:P.l.flatMap xW ++ xW ⟨0,false,z3⟩ = (P.l ++ ([⟨0,false,z3⟩]:List (rQ V3))).flatMap xW:=by simp
   refine keyJ1 _ { P with l:=P.l ++ ([⟨0,false,z3⟩]:List (rQ V3)) } s4 sF ⟨0,false,z3⟩ ?_ (by rw [hal];simp) ⟨by show (0:Int)≤0;omega,by show (0:Int)≤1000000;omega⟩ fun M7 h7=>?_
   ·rw [hfm] at h6
    exact (aA.fQ h6 hle2)
   ·have hgen:P.gen a = 0 + 1:=by
     unfold PS.gen
     rw [hal,List.getElem?_eq_none (Nat.le_refl _)]
     rfl
    have htk:P.take z3 a v = { P with l:=(P.l ++ ([⟨0,false,z3⟩]:List (rQ V3))).set a ⟨0 + 1,true,v⟩ }:=by
     unfold PS.take PS.grow
     rw [hlast,hgen]
    rw [htk,hgen] at h1
    exact h1 M7 (h7.fQ hle1)
theorem aIa {a g:Int} {v:V3} (h:aA w0 F M (star (wW p P) Q)) (hb:P.l.length≤10000) (hfb:P.free.length≤10000) (hw:P.find a g = some v)
  (h1:∀ M',aA w0 F M' (star (wW p (P.gB z3 a.toNat)) Q)→R (.tuple #[.agg #[.int .i64 v.1,.int .i64 v.2.1,.int .i64 v.2.2],.int .i64 0]) M') :
  C PP w0 Id.iP #[.pointer (some ⟨p,0,none⟩),.agg #[.int .i64 a,.int .i64 g]] R M:=by
 apply iP.go
 unfold iP.T aL
 obtain ⟨sL,sF,hO⟩:=wW.open_ h
 intro b1 hb1 hw1
 have g1:aA w0 F _ (star (aW b1 _ 33) _):=aA.new hO hb1 hw1 [.int .i64 a,.int .i64 g] 33
 generalize M.set b1 _ = M1 at g1 ⊢
 obtain ⟨F1,hle1,o1,g2⟩:=aA.fE g1
 intro b3 hb3 hw3
 have g3:aA w0 F1 _ (star (aW b3 _ 149) _):=aA.new g2 hb3 hw3 [.int .i64 0,.int .i64 0,.int .i64 0] 149
 generalize M1.set b3 _ = M2 at g3 ⊢
 intro b5 hb5 hw5
 have g4:aA w0 F1 _ (star (aW b5 _ 149) _):=aA.new g3 hb5 hw5 (mX z3) 149
 generalize hM3:M2.set b5 _ = M3
 have hM3':M2.set b5 (.row (mX z3) 149) = M3:=hM3
 rw [hM3'] at g4
 obtain ⟨F2,hle2,o5,g5⟩:=aA.fE g4
 have oz:∀ M',Mem.le F2 M'→(aJ PP w0).ld 149 ⟨b5,0,none⟩ M' = some (.agg #[.int .i64 0,.int .i64 0,.int .i64 0]):=fun M' hM=>aFX (v:=z3) (o:=0) (o5.le hM) (fun j u hj=>by rw [Nat.zero_add];exact hj)
 rw [aH3 (o1.le (Mem.le_trans hle2 g5.fr))]
 simp only [aC,a9,aT,aK,aS]
 obtain ⟨F3,hO3,hle3,lP⟩:=g5.last
 refine aAv hO3 (by omega) (fun i v' blk ea hx hf ha M4 l4=>?_) fun hf M4 e l4 he hel=>?_
 ·rw [hw] at hf
  cases hf
  have g6:=g5.le l4
  simp only [cA,aT,bK,aK,aS]
  rw [bX,if_pos rfl,aX,add_eq]
  have hO4:uW w0 F2 M4 p P sL sF (star (aW b3 [.int .i64 0,.int .i64 0,.int .i64 0] 149) Q):=by
   obtain ⟨F4,q1,_,q2⟩:=aA.last g6.dX
   exact q2 _ _ (by
    obtain ⟨F5,q3,_,q4⟩:=q1.dX.last
    exact q4 _ _ q3.dX)
  obtain ⟨blk',ha',hn',hi',hrd⟩:=hO4.el hx
  rw [ha] at ha';cases ha'
  rw [cR (cs:=mX v) W.aBx (fun j u hj=>by rw [add_eq,Nat.add_assoc];exact hrd (2 + j) u (by rw [Nat.add_comm];exact hj))]
  simp only [aC,a9,aT,aK,aS]
  intro b49 hb49 hw49
  have g7:aA w0 F2 _ (star (aW b49 _ 149) _):=aA.new hO4 hb49 hw49 [.int .i64 0,.int .i64 0,.int .i64 0] 149
  generalize M4.set b49 _ = M5 at g7 ⊢
  refine gG (vs:=mX v) W.aBx g7.aZ (by exact Nat.le_refl _) (pW v) ?_
  have g8:=g7.jX (cs':=dZ [.int .i64 0,.int .i64 0,.int .i64 0] 0 (mX v)) (e':=149)
  have e0:dZ [.int .i64 0,.int .i64 0,.int .i64 0] 0 (mX v) = mX v:=by
   have:=eO [] [.int .i64 0,.int .i64 0,.int .i64 0] [] (mX v) rfl (o:=0) rfl
   simpa using this
  rw [e0] at g8 ⊢
  generalize M5.set b49 _ = M6 at g8 ⊢
  obtain ⟨F4,hle4,o49,hO6⟩:=aA.fE g8
  rw [oz M6 (Mem.le_trans hle4 hO6.fr)]
  simp only [aC,a9,aT,aK,aS,aX,add_eq]
  have hil:i < P.l.length:=(List.getElem?_eq_some_iff.1 hx).1
  have hnl:∀ y,(P.l.set i y).length = P.l.length:=fun y=>List.length_set
  obtain ⟨F5,k1,_,k2⟩:=aA.last hO6
  refine aA.stR (f:=1) jH (by decide) W.c4 k1 hx (x':=⟨g,false,v⟩) (by decide) rfl rfl rfl ha fun M7 h7=>?_
  have hO7:uW w0 F4 M7 p { P with l:=P.l.set i ⟨g,false,v⟩ } sL sF (star (aW b3 [.int .i64 0,.int .i64 0,.int .i64 0] 149) Q):=k2 _ _ h7
  refine ⟨oz M7 (Mem.le_trans hle4 (aA.fr hO7)),?_⟩
  have hx7:(P.l.set i ⟨g,false,v⟩)[i]? = some ⟨g,false,v⟩:=List.getElem?_set_self hil
  obtain ⟨F6,k3,_,k4⟩:=aA.last hO7
  refine uF jH (vs:=mX z3) W.aBx k3 hx7 (x':=⟨g,false,z3⟩) (A:=[.int .i64 g,.bool false]) (B:=mX v) rfl rfl rfl rfl (pW _) ha (by rw [hnl];exact hn') fun M8 h8=>?_
  have hO8:uW w0 F4 M8 p { P with l:=P.l.set i ⟨g,false,z3⟩ } sL sF (star (aW b3 [.int .i64 0,.int .i64 0,.int .i64 0] 149) Q):=by
   have:=k4 _ _ h8
   rw [List.set_set] at this
   exact this
  have e2:=hO8.r2
  have f1:rd w0 M8 ⟨b1,0,none⟩ = some (.int .i64 a):=aM (o:=0) (o1.le (Mem.le_trans (Mem.le_trans hle2 hle4) (aA.fr hO8)))
  simp only [aP W.c3,aP W.c53,Nat.zero_add,e2,f1,aC,aR,aK]
  refine rW (n:=1) (cells:=#[.int .i64 a]) Tryz.underlying53 W.e3 (by decide) (by kernel_rfl) fun bn hbn hwn=>?_
  rw [rE]
  have hNw:aA w0 F4 _ (star (aW bn [.int .i64 a] 3) _):=aA.new hO8 hbn hwn [.int .i64 a] 3
  change aA w0 F4 (M8.set bn (.row (#[.int .i64 a]:Array Value).toList 3)) _ at hNw
  generalize M8.set bn _ = M9 at hNw ⊢
  obtain ⟨F7,hle7,hownN,hO9⟩:=aA.fE hNw
  have e9:rd w0 M9 ⟨p,2,none⟩ = some (SV.v sF):=aM (o:=2) (aA.aZ hO9)
  refine ⟨e9,?_⟩
  obtain ⟨F8,k5,l5,k6⟩:=aA.last hO9
  obtain ⟨F9,k7,l7,k8⟩:=k5.last
  have hnF:sF.n = P.free.length:=by have:=uG (k:=1) k7;rw [this];simp [vN]
  refine tV (x:=⟨some ⟨bn,0,none⟩,1,1⟩) (news:=[.int .i64 a]) Tryz.underlying53 W.e3 k7 rfl (gN.own (hownN.le hO9.fr) fun j u hj=>by rw [Nat.zero_add];exact hj) (fun e0=>by cases e0) (by intro u hu;rw [List.mem_singleton.1 hu];rfl) (by decide) (by show sF.n + 1≤_;omega) fun M10 s10 h10=>?_
  rw [aR]
  have h11:=k6 _ _ (k8 _ _ h10)
  refine gA W.c53 (aA.aZ h11) (by simp) rfl rfl ?_
  have h12:=aA.jX h11 (cs':=[.int .i64 P.most,SV.v sL,SV.v s10]) (e':=208)
  rw [show ([.int .i64 P.most,SV.v sL,SV.v sF]:List Value).set 2 (SV.v s10) = [.int .i64 P.most,SV.v sL,SV.v s10] from rfl]
  generalize Mem.set M10 p _ = M11 at h12 ⊢
  subst ea
  have hgv:P.gB z3 i = { P with l:=P.l.set i ⟨g,false,z3⟩,free:=P.free ++ [i] }:=by
   unfold PS.gB
   rw [hx]
  have h13:uW w0 F7 M11 p (P.gB z3 i) sL s10 (star (aW b3 [.int .i64 0,.int .i64 0,.int .i64 0] 149) Q):=by
   rw [hgv]
   have hv:vN P.free ++ [.int .i64 (i:Int)] = vN (P.free ++ [i]):=by simp [vN]
   rw [hv] at h12
   exact h12
  rw [aFX (v:=v) (o:=0) (o49.le (Mem.le_trans hle7 (aA.fr h13))) (fun j u hj=>by rw [Nat.zero_add];exact hj)]
  simp only [aC,a9,aT,aK,aS]
  have h14:=(uW.close h13).dX
  refine aKo h14 rfl (K:=fun v M=>R (.tuple #[v,.int .i64 0]) M) fun M12 h15=>?_
  rw [Int.toNat_natCast] at h1
  exact h1 M12 ((((h15.fQ hle7).fQ hle4).fQ hle2).fQ hle1)
 ·rw [hw] at hf;cases hf
theorem aJp {n:Int} (h:aA w0 F M Q) (h0:0≤n) (hn:n≤65536) (hR:∀ M' p,aA w0 F M' (star (wW p ⟨n,[],[]⟩) Q)→R (.pointer (some ⟨p,0,none⟩)) M'):C PP w0 Id.cU #[.int .i64 n] R M:=by
 apply cU.go
 unfold cU.T aL
 have e1:(if 65536 < n then (65536:Int) else n) = n:=if_neg (by omega)
 have e2:(if n > 0 then n else 0) = n:=by split <;> omega
 rw [e1,e2]
 have hbld:(aJ PP w0).pD 208 [(0,.int .i64 n)] = some (.agg #[.int .i64 n,.slice none 0 0,.slice none 0 0]):=by kernel_rfl
 simp only [hbld,aC,a9,aT,aK,rE,aS]
 intro b hb hw
 have h1:aA w0 F _ (star (aW b _ 208) _):=h.new hb hw [.int .i64 n,SV.v ⟨none,0,0⟩,SV.v ⟨none,0,0⟩] 208
 refine hR _ b (uW.close (sL:=⟨none,0,0⟩) (sF:=⟨none,0,0⟩) ?_)
 obtain ⟨F1,k1,_,k2⟩:=h1.last
 exact k2 _ _ (aA.pI (aA.pI k1))
end
end HL
namespace HL
section
variable {w0:World} {F M:Mem} {R:VP} {p:Nat} {P:PS V3} {Q:cW}
def qU (p:Nat) (P:PS V3):cW:=fun r=>∃ sL sF:SV,star (aW p [.int .i64 P.most,SV.v sL,SV.v sF] 211) (star (dS 5 sL (P.l.flatMap xW)) (dS 1 sF (vN P.free))) r
abbrev uN (w0:World) (F M:Mem) (p:Nat) (P:PS V3) (sL sF:SV) (Q:cW):Prop:=aA w0 F M (star (aW p [.int .i64 P.most,SV.v sL,SV.v sF] 211) (star (dS 5 sL (P.l.flatMap xW)) (star (dS 1 sF (vN P.free)) Q)))
theorem qU.open_ (h:aA w0 F M (star (qU p P) Q)):∃ sL sF,uN w0 F M p P sL sF Q:=by
 obtain ⟨r,⟨r1,r2,rfl,⟨sL,sF,h1⟩,h2⟩,h3⟩:=h
 refine ⟨sL,sF,?_⟩
 have:aA w0 F M (star (star (aW p [.int .i64 P.most,SV.v sL,SV.v sF] 211) (star (dS 5 sL (P.l.flatMap xW)) (dS 1 sF (vN P.free)))) Q):=⟨_,⟨r1,r2,rfl,h1,h2⟩,h3⟩
 have h4:=aA.assoc.1 this
 obtain ⟨F1,k1,_,k2⟩:=h4.last
 exact k2 _ _ (aA.assoc.1 k1)
theorem uN.close {sL sF:SV} (h:uN w0 F M p P sL sF Q):aA w0 F M (star (qU p P) Q):=by
 obtain ⟨F1,k1,_,k2⟩:=aA.last h
 have h1:=k2 _ _ (aA.assoc.2 k1)
 have h2:=aA.assoc.2 h1
 obtain ⟨r,⟨r1,r2,rfl,g1,g2⟩,g3⟩:=h2
 exact ⟨_,⟨r1,r2,rfl,⟨sL,sF,g1⟩,g2⟩,g3⟩
section
variable {sL sF:SV}
theorem uN.r0 (h:uN w0 F M p P sL sF Q):rd w0 M ⟨p,0,none⟩ = some (.int .i64 P.most):=aM (o:=0) h.aZ
theorem uN.r1 (h:uN w0 F M p P sL sF Q):rd w0 M ⟨p,1,none⟩ = some (SV.v sL):=aM (o:=1) h.aZ
theorem uN.r2 (h:uN w0 F M p P sL sF Q):rd w0 M ⟨p,2,none⟩ = some (SV.v sF):=aM (o:=2) h.aZ
theorem uN.nL (h:uN w0 F M p P sL sF Q):sL.n = P.l.length:=aA.nR jH (by decide) h.right
theorem uN.nF (h:uN w0 F M p P sL sF Q):sF.n = P.free.length:=by
 have:=uG (k:=1) h.right.right
 rw [this];simp [vN]
theorem uN.el (h:uN w0 F M p P sL sF Q) {i:Nat} {x:rQ V3} (hx:P.l[i]? = some x):∃ blk,sL.a = some ⟨blk,0,none⟩∧sL.n = P.l.length∧i < sL.n∧∀ f v,(xW x)[f]? = some v→rd w0 M ⟨blk,i * 5 + f,none⟩ = some v:=aA.adR jH (by decide) h.right hx
theorem uN.focus (h:uN w0 F M p P sL sF Q):∃ F5,aA w0 F5 M Q∧Mem.le F F5∧∀ M' Q',aA w0 F5 M' Q'→uN w0 F M' p P sL sF Q':=by
 obtain ⟨F1,k1,l1,k2⟩:=aA.last h
 obtain ⟨F2,k3,l2,k4⟩:=k1.last
 obtain ⟨F3,k5,l3,k6⟩:=k3.last
 exact ⟨F3,k5,Mem.le_trans l1 (Mem.le_trans l2 l3),fun M' Q' hh=>k2 _ _ (k4 _ _ (k6 _ _ hh))⟩
end
theorem aK2 {b:Nat} {cs:List Value} {Pq:cW} {v:V3} (h:aA w0 F M (star (aW b cs 153) Pq)) (hcs:cs.length = 3) {K:VP} (hK:∀ M',aA w0 F M' Pq→K (.agg #[.int .i64 v.1,.int .i64 v.2.1,.int .i64 v.2.2]) M') :
  (aJ PP w0).st 153 ⟨b,0,none⟩ (.agg #[.int .i64 v.1,.int .i64 v.2.1,.int .i64 v.2.2]) (fun M1=>ob ((aJ PP w0).rdv 153 (.pointer (some ⟨b,0,none⟩)) M1) fun v=>K v M1) M:=by
 refine gG (vs:=mX v) W.aBt h.aZ (by rw [hcs];exact Nat.le_refl _) (pW v) ?_
 have h2:=h.jX (cs':=dZ cs 0 (mX v)) (e':=153)
 have e0:dZ cs 0 (mX v) = mX v:=by
  have:=eO [] cs [] (mX v) (by rw [hcs];rfl) (o:=0) rfl
  simpa using this
 rw [e0] at h2 ⊢
 have o2:=h2.aZ
 rw [pX,cR (cs:=mX v) W.aBt (fun j u hj=>by rw [add_eq,aM o2,Nat.zero_add];exact hj),aC]
 exact hK _ h2.right
theorem aGo {b o:Nat} {v:V3} {cs:List Value} {e:TypeId} (h:cN w0 M b cs e) (hc:∀ j u,(mX v)[j]? = some u→cs[o + j]? = some u):(aJ PP w0).ld 153 ⟨b,o,none⟩ M = some (.agg #[.int .i64 v.1,.int .i64 v.2.1,.int .i64 v.2.2]) :=
 cR (cs:=mX v) W.aBt (fun j u hj=>by rw [add_eq,aM h];exact hc j u hj)
theorem aHR {b:Nat} {x y:Int} {e:TypeId} (h:cN w0 M b [.int .i64 x,.int .i64 y] e):(aJ PP w0).ld 33 ⟨b,0,none⟩ M = some (.agg #[.int .i64 x,.int .i64 y]) :=
 cR (cs:=[.int .i64 x,.int .i64 y]) W.g33 (fun j u hj=>by rw [add_eq,aM h,Nat.zero_add];exact hj)
theorem aBc {sL sF:SV} {a g:Int} (h:uN w0 F M p P sL sF Q) (hb:P.l.length≤100000)
  (h1:∀ (i:Nat) v blk,a = (i:Int)→P.l[i]? = some ⟨g,true,v⟩→P.find a g = some v→sL.a = some ⟨blk,0,none⟩→∀ M',Mem.le M M'→R (.tuple #[.pointer (some ⟨blk,i * 5,none⟩),.int .i64 0]) M')
  (h0:P.find a g = none→∀ M' e,Mem.le M M'→e≠0→e = P.pl.look a g→R (.tuple #[.pointer none,.int .i64 e]) M') :
  C PP w0 Id.c8 #[.pointer (some ⟨p,0,none⟩),.agg #[.int .i64 a,.int .i64 g]] R M:=by
 apply c8.go
 intro aB H
 unfold c8.T aL
 intro b1 hb1 hw1
 have l1:=Mem.fO (M:=M) (.row [.int .i64 a,.int .i64 g] 33) hb1
 have o1:cN w0 (M.set b1 (.row [.int .i64 a,.int .i64 g] 33)) b1 [.int .i64 a,.int .i64 g] 33:=cN.new hw1
 generalize M.set b1 _ = M1 at l1 o1 ⊢
 have hO:uN w0 F M1 p P sL sF Q:=aA.le h l1
 have f0:rd w0 M1 ⟨b1,0,none⟩ = some (.int .i64 a):=aM (o:=0) o1
 have f1:rd w0 M1 ⟨b1,1,none⟩ = some (.int .i64 g):=aM (o:=1) o1
 have fL:=hO.r1
 have hn:=hO.nL
 have hlk:∀ e,P.pl.look a g = e→e≠0→P.find a g = none:=fun e he eQ=>by
  cases hf:P.find a g with
  | none=>rfl
  | some v =>
   have:=PS.pM.1 (show (P.find a g).isSome = true by rw [hf];rfl)
   exact absurd (he▸this) eQ
 have h22:P.pl.look a g = 22→R (.tuple #[.pointer none,.int .i64 22]) M1:=fun e=>h0 (hlk 22 e (by decide)) M1 22 l1 (by decide) e.symm
 have h23:P.pl.look a g = 23→R (.tuple #[.pointer none,.int .i64 23]) M1:=fun e=>h0 (hlk 23 e (by decide)) M1 23 l1 (by decide) e.symm
 have hlook:P.pl.look a g = if a < 0∨(P.l.length:Int)≤a∨g < 1∨(P.l.map (·.g)).getD a.toNat 0 < g then 22 else if g < (P.l.map (·.g)).getD a.toNat 0∨(P.l.map (·.t)).getD a.toNat false = false then 23 else 0:=by
  unfold Pl.look PS.pl
  simp only [List.length_map]
 simp only [aX,aP W.c3,aP W.aES,add_eq,Nat.zero_add,f0,f1,fL,aC,aK,aR]
 rw [eK]
 split
 ·rename_i ha
  exact h22 (by rw [hlook,if_pos (.inl ha)])
 ·rename_i ha
  rw [eK]
  split
  ·exact h22 (by rw [hlook,if_pos (.inr (.inl (by omega)))])
  ·rename_i hal
   rw [eK]
   split
   ·rename_i hg
    exact h22 (by rw [hlook,if_pos (.inr (.inr (.inl hg)))])
   ·rename_i hg
    obtain ⟨i,rfl⟩:∃ i:Nat,a = (i:Int):=⟨a.toNat,by omega⟩
    have hil:i < P.l.length:=by omega
    have hx:=List.getElem?_eq_getElem hil
    generalize P.l[i] = x at hx
    obtain ⟨blk,ha2,hn2,hi2,hrd⟩:=hO.el hx
    have eg:(P.l.map (·.g)).getD (i:Int).toNat 0 = x.g:=by rw [Int.toNat_natCast,List.getD_eq_getElem?_getD,List.getElem?_map,hx];rfl
    have et:(P.l.map (·.t)).getD (i:Int).toNat false = x.t:=by rw [Int.toNat_natCast,List.getD_eq_getElem?_getD,List.getElem?_map,hx];rfl
    rw [eg,et] at hlook
    have r0:rd w0 M1 ⟨blk,i * 5,none⟩ = some (.int .i64 x.g):=hrd 0 _ rfl
    have r1:rd w0 M1 ⟨blk,i * 5 + 1,none⟩ = some (.bool x.t):=hrd 1 _ rfl
    simp only [ha2,aX,Int.toNat_natCast,add_eq,Nat.zero_add,r0,aC,aK]
    refine ⟨⟨by omega,by omega⟩,?_⟩
    rw [eK]
    split
    ·rename_i hgg
     exact h22 (by rw [hlook,if_pos (.inr (.inr (.inr hgg)))])
    ·rename_i hgg
     have hno:¬ ((i:Int) < 0∨(P.l.length:Int)≤(i:Int)∨g < 1∨x.g < g):=by omega
     rw [if_neg hno] at hlook
     refine Eq.mpr (H.J1 ..) ?_
     unfold c8.J1.T aL
     simp only [aX,aP W.c3,aP W.c4,aP W.aES,add_eq,Nat.zero_add,f0,f1,fL,aC,aK,aR,bT,ha2,Int.toNat_natCast,r0,r1]
     refine ⟨⟨by omega,by omega⟩,?_⟩
     rw [eK]
     split
     ·rename_i hlt
      exact h23 (by rw [hlook,if_pos (.inl hlt)])
     ·rename_i hlt
      cases ht:x.t with
      | false =>
       rw [Bool.not_false,dY]
       exact h23 (by rw [hlook,if_pos (.inr ht)])
      | true =>
       rw [Bool.not_true,mY]
       have hgx:g = x.g:=by omega
       have hx2:P.l[i]? = some ⟨g,true,x.v⟩:=by
        rw [hx,hgx]
        obtain ⟨xg,xt,xv⟩:=x
        simp only at ht
        subst ht;rfl
       exact h1 i x.v blk rfl hx2 (PS.jT hx2 (by omega)) ha2 M1 l1
theorem aJn {a g:Int} (h:aA w0 F M (star (qU p P) Q)) (hb:P.l.length≤100000)
  (h1:∀ v,P.find a g = some v→∀ M',Mem.le M M'→R (.tuple #[.agg #[.int .i64 v.1,.int .i64 v.2.1,.int .i64 v.2.2],.int .i64 0]) M')
  (h0:P.find a g = none→∀ M' e,Mem.le M M'→e≠0→e = P.pl.look a g→R (.tuple #[.agg #[.int .i64 0,.int .i64 0,.int .i64 0],.int .i64 e]) M') :
  C PP w0 Id.jP #[.pointer (some ⟨p,0,none⟩),.agg #[.int .i64 a,.int .i64 g]] R M:=by
 apply jP.go
 unfold jP.T aL
 obtain ⟨sL,sF,hO⟩:=qU.open_ h
 intro b1 hb1 hw1
 have l1:=Mem.fO (M:=M) (.row [.int .i64 a,.int .i64 g] 33) hb1
 have o1:cN w0 (M.set b1 (.row [.int .i64 a,.int .i64 g] 33)) b1 [.int .i64 a,.int .i64 g] 33:=cN.new hw1
 generalize M.set b1 _ = M1 at l1 o1 ⊢
 intro b3 hb3 hw3
 have n1:aA w0 M1 M1 (fun r=>r = []):=⟨[],rfl,Fit.nil (Mem.le_refl _)⟩
 have n3:aA w0 M1 _ (star (aW b3 _ 153) _):=n1.new hb3 hw3 [.int .i64 0,.int .i64 0,.int .i64 0] 153
 generalize M1.set b3 _ = M2 at n3 ⊢
 have l2:=n3.fr
 rw [aHR (o1.le l2)]
 simp only [aC,a9,aT,aK,aS]
 have hO2:uN w0 F M2 p P sL sF Q:=aA.le hO (Mem.le_trans l1 l2)
 refine aBc hO2 hb (fun i v blk ea hx hf ha M3 l3=>?_) fun hf M3 e l3 he hel=>?_
 ·simp only [cA,aT,bK,aK,aS]
  rw [bX,if_pos rfl,aX,add_eq]
  have hO3:uN w0 F M3 p P sL sF Q:=aA.le hO2 l3
  obtain ⟨blk',ha',hn',hi',hrd⟩:=hO3.el hx
  rw [ha] at ha';cases ha'
  rw [cR (cs:=mX v) W.aBt (fun j u hj=>by rw [add_eq,Nat.add_assoc];exact hrd (2 + j) u (by rw [Nat.add_comm];exact hj))]
  simp only [aC,a9,aT,aK,aS]
  refine aK2 (n3.le l3) rfl (K:=fun v M=>R (.tuple #[v,.int .i64 0]) M) fun M4 h4=>?_
  exact h1 v hf M4 (Mem.le_trans l1 h4.fr)
 ·simp only [cA,aT,bK,aK,aS]
  rw [bX,if_neg he]
  intro b22 hb22 hw22
  have l4:=Mem.fO (M:=M3) (.row [.int .i64 0,.int .i64 0,.int .i64 0] 153) hb22
  have o4:cN w0 (M3.set b22 (.row [.int .i64 0,.int .i64 0,.int .i64 0] 153)) b22 (mX z3) 153:=cN.new hw22
  generalize M3.set b22 _ = M4 at l4 o4 ⊢
  rw [aGo (v:=z3) (o:=0) o4 (fun j u hj=>by rw [Nat.zero_add];exact hj)]
  simp only [aC,a9,aT,aK,aS]
  refine aK2 (v:=z3) (n3.le (Mem.le_trans l3 l4)) rfl (K:=fun v M=>R (.tuple #[v,.int .i64 e]) M) fun M5 h5=>?_
  exact h0 hf M5 e (Mem.le_trans l1 h5.fr) he hel
theorem aJk {a g:Int} {v w:V3} (h:aA w0 F M (star (qU p P) Q)) (hb:P.l.length≤100000) (hw:P.find a g = some w)
  (h1:∀ M',aA w0 F M' (star (qU p (P.put a.toNat v)) Q)→R (.int .i64 0) M') :
  C PP w0 Id.kK #[.pointer (some ⟨p,0,none⟩),.agg #[.int .i64 a,.int .i64 g],.agg #[.int .i64 v.1,.int .i64 v.2.1,.int .i64 v.2.2]] R M:=by
 apply kK.go
 unfold kK.T aL
 obtain ⟨sL,sF,hO⟩:=qU.open_ h
 intro b1 hb1 hw1
 have l1:=Mem.fO (M:=M) (.row [.int .i64 a,.int .i64 g] 33) hb1
 have o1:cN w0 (M.set b1 (.row [.int .i64 a,.int .i64 g] 33)) b1 [.int .i64 a,.int .i64 g] 33:=cN.new hw1
 generalize M.set b1 _ = M1 at l1 o1 ⊢
 intro b3 hb3 hw3
 have l2:=Mem.fO (M:=M1) (.row (mX v) 153) hb3
 have o3:cN w0 (M1.set b3 (.row (mX v) 153)) b3 (mX v) 153:=cN.new hw3
 change _ at hb3
 generalize hM2:M1.set b3 _ = M2
 have hM2':M1.set b3 (.row (mX v) 153) = M2:=hM2
 rw [hM2'] at l2 o3
 rw [aHR (o1.le l2)]
 simp only [aC,a9,aT,aK,aS]
 have hO2:uN w0 F M2 p P sL sF Q:=aA.le hO (Mem.le_trans l1 l2)
 refine aBc hO2 hb (fun i v' blk ea hx hf ha M3 l3=>?_) fun hf M3 e l3 he hel=>?_
 ·simp only [cA,aT,bK,aK,aS]
  rw [fB,if_pos rfl,aGo (v:=v) (o:=0) (o3.le l3) (fun j u hj=>by rw [Nat.zero_add];exact hj)]
  simp only [aC,a9,aT,aK,aS,aX,add_eq]
  have hO3:uN w0 F M3 p P sL sF Q:=aA.le hO2 l3
  have hn:=hO3.nL
  obtain ⟨F1,k1,_,k2⟩:=aA.last hO3
  refine uF jH (vs:=mX v) W.aBt k1 hx (x':=⟨g,true,v⟩) (A:=[.int .i64 g,.bool true]) (B:=mX v') rfl rfl rfl rfl (pW v) ha hn fun M4 h4=>?_
  have h5:=k2 _ _ h4
  refine h1 M4 (uN.close (sL:=sL) (sF:=sF) ?_)
  subst ea
  rw [Int.toNat_natCast]
  obtain ⟨e1,e2,e3⟩:=PS.uX v hx
  unfold uN
  rw [e1,e2,e3]
  exact h5
 ·rw [hw] at hf;cases hf
theorem aFK (h:aA w0 F M (star (qU p P) Q)) (hb:P.l.length≤100000) (hf:P.free.length≤P.l.length) (hR:R (.int .i64 ((P.l.length - P.free.length:Nat):Int)) M) :
  C PP w0 Id.kV #[.pointer (some ⟨p,0,none⟩)] R M:=by
 apply kV.go
 unfold kV.T aL
 obtain ⟨sL,sF,hO⟩:=qU.open_ h
 simp only [aX,aP W.aES,aP W.c53,add_eq,Nat.zero_add,hO.r1,hO.r2,aC,aR]
 rw [hO.nL,hO.nF,bC (by omega),show (P.l.length:Int) - (P.free.length:Int) = ((P.l.length - P.free.length:Nat):Int) from by omega]
 exact hR
theorem aD0 (h:aA w0 F M (star (qU p P) Q)) (hR:R (.int .i64 P.most) M) :
  C PP w0 Id.gI #[.pointer (some ⟨p,0,none⟩)] R M:=by
 apply gI.go
 unfold gI.T aL
 obtain ⟨sL,sF,hO⟩:=qU.open_ h
 simp only [aX,aP W.c3,hO.r0,aC,aK]
 exact hR
theorem aDL {v:V3} (h:aA w0 F M (star (qU p P) Q)) (hok:P.Ok) (hb:P.l.length≤10000) (hfb:P.free.length≤10000) (hg:∀ x∈P.l,0≤x.g∧x.g≤1000000) {a:Nat} (hat:P.at_ = some a)
  (h1:∀ M',aA w0 F M' (star (qU p (P.take z3 a v)) Q)→R (.tuple #[.agg #[.int .i64 (a:Int),.int .i64 (P.gen a)],.bool true]) M') :
  C PP w0 Id.cT #[.pointer (some ⟨p,0,none⟩),.agg #[.int .i64 v.1,.int .i64 v.2.1,.int .i64 v.2.2]] R M:=by
 apply cT.go
 intro aB H
 unfold cT.T aL
 intro b1 hb1 hw1
 have g1:aA w0 F _ (star (aW b1 (mX v) 153) (star (qU p P) Q)):=h.new hb1 hw1 (mX v) 153
 generalize hM1:M.set b1 _ = M1
 have hM1':M.set b1 (.row (mX v) 153) = M1:=hM1
 rw [hM1'] at g1
 obtain ⟨F1,hle1,hown,g2⟩:=aA.fE g1
 intro b3 hb3 hw3
 have g3:aA w0 F1 _ (star (aW b3 _ 33) (star (qU p P) Q)):=g2.new hb3 hw3 [.int .i64 0,.int .i64 0] 33
 generalize M1.set b3 _ = M2 at g3 ⊢
 obtain ⟨sL,sF,hO⟩:=qU.open_ g3.dX
 have keyJ1:∀ (M':Mem) (P':PS V3) (sL sF:SV) (x:rQ V3),uN w0 F1 M' p P' sL sF (star (aW b3 [.int .i64 0,.int .i64 0] 33) Q)→P'.l[a]? = some x→0≤x.g∧x.g≤1000000 →
   (∀ M'',aA w0 F1 M'' (star (qU p { P' with l:=P'.l.set a ⟨x.g + 1,true,v⟩ }) Q)→R (.tuple #[.agg #[.int .i64 (a:Int),.int .i64 (x.g + 1)],.bool true]) M'') →
   cT.J1 aB (some ⟨p,0,none⟩) ⟨b1,0,none⟩ ⟨b3,0,none⟩ (a:Int) M':=by
  intro M' P' sL sF x hX hx hxg hR
  refine Eq.mpr (H.J1 ..) ?_
  unfold cT.J1.T aL
  obtain ⟨blk,ha,hn,hi,hrd⟩:=hX.el hx
  have eL:=hX.r1
  have r0:rd w0 M' ⟨blk,a * 5,none⟩ = some (.int .i64 x.g):=hrd 0 _ rfl
  simp only [aX,aP W.c3,aP W.aES,add_eq,Nat.zero_add,eL,aC,aR,ha,Int.toNat_natCast,r0,aK]
  refine ⟨⟨by omega,by omega⟩,?_⟩
  rw [bC (by omega)]
  obtain ⟨F2,k1,_,k2⟩:=aA.last hX
  have hnl:∀ y,(P'.l.set a y).length = P'.l.length:=fun y=>List.length_set
  refine aA.stR (f:=0) jH (by decide) W.c3 k1 hx (x':={ x with g:=x.g + 1 }) (by decide) rfl rfl rfl ha fun M3 h3=>?_
  have hX3:uN w0 F1 M3 p { P' with l:=P'.l.set a { x with g:=x.g + 1 } } sL sF (star (aW b3 [.int .i64 0,.int .i64 0] 33) Q):=k2 _ _ h3
  rw [aGo (v:=v) (o:=0) (hown.le (aA.fr hX3)) (fun j u hj=>by rw [Nat.zero_add];exact hj)]
  simp only [aC,a9,aT,aK,aS]
  have hal:a < P'.l.length:=(List.getElem?_eq_some_iff.1 hx).1
  have hx3:(P'.l.set a { x with g:=x.g + 1 })[a]? = some { x with g:=x.g + 1 }:=List.getElem?_set_self hal
  obtain ⟨F3,k3,_,k4⟩:=aA.last hX3
  refine aA.stR (f:=1) jH (by decide) W.c4 k3 hx3 (x':=⟨x.g + 1,true,x.v⟩) (by decide) rfl rfl rfl ha fun M4 h4=>?_
  have hX4:uN w0 F1 M4 p { P' with l:=P'.l.set a ⟨x.g + 1,true,x.v⟩ } sL sF (star (aW b3 [.int .i64 0,.int .i64 0] 33) Q):=by
   have:=k4 _ _ h4
   rw [List.set_set] at this
   exact this
  refine ⟨aGo (v:=v) (o:=0) (hown.le (aA.fr hX4)) (fun j u hj=>by rw [Nat.zero_add];exact hj),?_⟩
  have hx4:(P'.l.set a ⟨x.g + 1,true,x.v⟩)[a]? = some ⟨x.g + 1,true,x.v⟩:=List.getElem?_set_self hal
  obtain ⟨F4,k5,_,k6⟩:=aA.last hX4
  refine uF jH (vs:=mX v) W.aBt k5 hx4 (x':=⟨x.g + 1,true,v⟩) (A:=[.int .i64 (x.g + 1),.bool true]) (B:=mX x.v) rfl rfl rfl rfl (pW v) ha (by rw [hnl];exact hn) fun M5 h5=>?_
  have hX5:uN w0 F1 M5 p { P' with l:=P'.l.set a ⟨x.g + 1,true,v⟩ } sL sF (star (aW b3 [.int .i64 0,.int .i64 0] 33) Q):=by
   have:=k6 _ _ h5
   rw [List.set_set] at this
   exact this
  have hx5:(P'.l.set a ⟨x.g + 1,true,v⟩)[a]? = some ⟨x.g + 1,true,v⟩:=List.getElem?_set_self hal
  obtain ⟨blk5,ha5,hn5,hi5,hrd5⟩:=hX5.el hx5
  rw [ha] at ha5;cases ha5
  have r5:rd w0 M5 ⟨blk,a * 5,none⟩ = some (.int .i64 (x.g + 1)):=hrd5 0 _ rfl
  have hbld:(aJ PP w0).pD 33 [(0,.int .i64 (a:Int)),(1,.int .i64 (x.g + 1))] = some (.agg #[.int .i64 (a:Int),.int .i64 (x.g + 1)]):=by kernel_rfl
  simp only [r5,aC,aK,hbld,a9,aT,aS]
  obtain ⟨F5,k7,_,k8⟩:=uN.focus hX5
  refine aAF k7 (K:=fun v M=>R (.tuple #[v,.bool true]) M) fun M6 hback=>?_
  exact hR M6 (uN.close (k8 _ _ (hback _ _ k7)))
 have eL:=hO.r1
 have eF:=hO.r2
 have e0:=hO.r0
 have nL:=hO.nL
 have nF:=hO.nF
 simp only [aX,aP W.c3,aP W.c53,aP W.aES,add_eq,Nat.zero_add,eL,eF,e0,aC,aR,aK]
 rw [eK]
 split
 ·-- one that was given back
  rename_i hpos
  have hp2:0 < P.free.length:=by
   apply Decidable.byContradiction
   intro hc
   have:sF.n = 0:=by omega
   rw [this] at hpos
   rw [show qB (((0:Nat):Int) - 1) = -1 from by rw [bC (by omega)];omega] at hpos
   omega
  obtain ⟨bs,x,hbs⟩:∃ bs x,P.free = bs ++ [x]:=by
   rcases List.eq_nil_or_concat P.free with e | ⟨bs,x,e⟩
   ·rw [e] at hp2;simp at hp2
   ·exact ⟨bs,x,by rw [e,List.concat_eq_append]⟩
  have hlast:P.free.getLast? = some x:=by rw [hbs];simp
  have hax:a = x:=by
   unfold PS.at_ at hat
   rw [hlast] at hat
   simpa using hat.symm
  subst hax
  have hfl:P.free.length = bs.length + 1:=by rw [hbs];simp
  have hw:qB (((sF.n:Nat):Int) - 1) = ((bs.length:Nat):Int):=by rw [bC (by omega)];omega
  obtain ⟨F2,k1,_,k2⟩:=aA.last hO
  obtain ⟨F3,k3,_,k4⟩:=k1.last
  have hc3:=dP k3
  obtain ⟨blk,rest,e,ha,q1,q2,q3⟩:=dS.row k3 (by omega)
  have hcap:sF.n≤sF.c:=by rw [Nat.mul_one] at q1 q2;omega
  rw [hw]
  refine rdv hc3.1 (uG (k:=1) k3) bs.length rfl (v:=.int .i64 (a:Int)) (by unfold vN;rw [hbs,List.getElem?_map,List.getElem?_append_right (Nat.le_refl _)];simp) ?_
  rw [aK]
  refine ⟨⟨by omega,by omega,by omega⟩,?_⟩
  have hsl:(Value.slice (if sF.c = (0:Int).toNat then sF.a else sF.a.map (·.add ((0:Int).toNat * 1))) (((bs.length:Nat):Int).toNat - (0:Int).toNat) (sF.c - (0:Int).toNat)) = SV.v ⟨some ⟨blk,0,none⟩,bs.length,sF.c⟩:=by
   rw [ha,Int.toNat_zero,Int.toNat_natCast,Nat.sub_zero,Nat.sub_zero,Nat.zero_mul]
   unfold SV.v
   simp only [Option.map_some,add_eq]
   split <;> rfl
  rw [hsl]
  refine gA W.c53 (aA.aZ hO) (by simp) rfl rfl ?_
  have h4:=aA.jX hO (cs':=[.int .i64 P.most,SV.v sL,SV.v ⟨some ⟨blk,0,none⟩,bs.length,sF.c⟩]) (e':=211)
  have hvs:vN P.free ++ rest = vN bs ++ (.int .i64 (a:Int)::rest):=by rw [hbs];simp [vN]
  have u7:∀ (b':Bool),True:=fun _=>trivial
  obtain ⟨y,hy,hyt⟩:=hok.fr a (by rw [hbs];simp)
  refine keyJ1 _ { P with free:=bs } sL ⟨some ⟨blk,0,none⟩,bs.length,sF.c⟩ y ?_ hy (hg y (List.mem_of_getElem? hy)) fun M5 h5=>?_
  ·obtain ⟨F6,k6,_,k7⟩:=aA.last h4
   obtain ⟨F8,k8,_,k9⟩:=k6.last
   refine k7 _ _ (k9 _ _ ?_)
   obtain ⟨blk',rest',e',ha',q1',q2',q3'⟩:=dS.row k8 (by omega)
   rw [ha] at ha';cases ha'
   have hvs':vN P.free ++ rest' = vN bs ++ (.int .i64 (a:Int)::rest'):=by rw [hbs];simp [vN]
   rw [hvs'] at q3'
   have hvl:(vN bs).length = bs.length:=by simp [vN]
   have hvl2:(vN P.free).length = bs.length + 1:=by simp [vN,hfl]
   refine dS.ofRow q3' (by rw [hvl];omega) ?_
   rw [hvl,List.length_cons]
   rw [hvl2] at q2'
   omega
  ·have hgen:P.gen a = y.g + 1:=by unfold PS.gen;rw [hy]
   have htk:P.take z3 a v = { P with free:=bs,l:=P.l.set a ⟨y.g + 1,true,v⟩ }:=by
    unfold PS.take PS.grow
    rw [hlast,hgen]
    simp [hbs]
   rw [htk,hgen] at h1
   exact h1 M5 (h5.fQ hle1)
 ·rename_i hpos
  have hp2:P.free = []:=by
   apply List.eq_nil_of_length_eq_zero
   apply Decidable.byContradiction
   intro hc
   rw [show qB (((sF.n:Nat):Int) - 1) = ((sF.n:Nat):Int) - 1 from bC (by omega)] at hpos
   omega
  have hlast:P.free.getLast? = none:=by rw [hp2];rfl
  have hat2:=hat
  unfold PS.at_ at hat2
  rw [hlast] at hat2
  simp only at hat2
  split at hat2
  ·cases hat2
  ·rename_i hm
   have hal:a = P.l.length:=by simpa using hat2.symm
   rw [eK,if_neg (by omega)]
   have hbld:(aJ PP w0).pD 259 [] = some (.agg #[.int .i64 0,.bool false,.int .i64 0,.int .i64 0,.int .i64 0]):=by kernel_rfl
   simp only [hbld,aC,a9,aT,aK,bT,aS]
   refine rW (n:=1) (cells:=#[.int .i64 0,.bool false,.int .i64 0,.int .i64 0,.int .i64 0]) Tryz.underlying209 W.aLE (by decide) (by kernel_rfl) fun bn hbn hwn=>?_
   rw [rE]
   have hNw:aA w0 F1 _ (star (aW bn (xW ⟨0,false,z3⟩) 259) _):=aA.new hO hbn hwn (xW ⟨0,false,z3⟩) 259
   change aA w0 F1 (M2.set bn (.row (#[.int .i64 0,.bool false,.int .i64 0,.int .i64 0,.int .i64 0]:Array Value).toList 259)) _ at hNw
   generalize M2.set bn _ = M3 at hNw ⊢
   obtain ⟨F2,hle2,hownN,hO3⟩:=aA.fE hNw
   obtain ⟨F3,k1,l3,k2⟩:=aA.last hO3
   have hcap:=aA.aJD jH (by decide) k1
   refine tV (x:=⟨some ⟨bn,0,none⟩,1,1⟩) (news:=xW ⟨0,false,z3⟩) Tryz.underlying209 W.aLE k1 rfl (gN.own (hownN.le hO3.fr) fun j u hj=>by rw [Nat.zero_add];exact hj) (fun e0=>by cases e0) (aCE _) (by decide) (by show sL.n + 1≤_;omega) fun M4 s4 h4=>?_
   rw [aR]
   have h5:=k2 _ _ h4
   refine gA W.aES (aA.aZ h5) (by simp) rfl rfl ?_
   have h6:=aA.jX h5 (cs':=[.int .i64 P.most,SV.v s4,SV.v sF]) (e':=211)
   rw [nL,←hal]
   have hfm:P.l.flatMap xW ++ xW ⟨0,false,z3⟩ = (P.l ++ ([⟨0,false,z3⟩]:List (rQ V3))).flatMap xW:=by simp
   refine keyJ1 _ { P with l:=P.l ++ ([⟨0,false,z3⟩]:List (rQ V3)) } s4 sF ⟨0,false,z3⟩ ?_ (by rw [hal];simp) ⟨by show (0:Int)≤0;omega,by show (0:Int)≤1000000;omega⟩ fun M7 h7=>?_
   ·rw [hfm] at h6
    exact (aA.fQ h6 hle2)
   ·have hgen:P.gen a = 0 + 1:=by
     unfold PS.gen
     rw [hal,List.getElem?_eq_none (Nat.le_refl _)]
     rfl
    have htk:P.take z3 a v = { P with l:=(P.l ++ ([⟨0,false,z3⟩]:List (rQ V3))).set a ⟨0 + 1,true,v⟩ }:=by
     unfold PS.take PS.grow
     rw [hlast,hgen]
    rw [htk,hgen] at h1
    exact h1 M7 (h7.fQ hle1)
theorem aDa {a g:Int} {v:V3} (h:aA w0 F M (star (qU p P) Q)) (hb:P.l.length≤10000) (hfb:P.free.length≤10000) (hw:P.find a g = some v)
  (h1:∀ M',aA w0 F M' (star (qU p (P.gB z3 a.toNat)) Q)→R (.tuple #[.agg #[.int .i64 v.1,.int .i64 v.2.1,.int .i64 v.2.2],.int .i64 0]) M') :
  C PP w0 Id.jB #[.pointer (some ⟨p,0,none⟩),.agg #[.int .i64 a,.int .i64 g]] R M:=by
 apply jB.go
 unfold jB.T aL
 obtain ⟨sL,sF,hO⟩:=qU.open_ h
 intro b1 hb1 hw1
 have g1:aA w0 F _ (star (aW b1 _ 33) _):=aA.new hO hb1 hw1 [.int .i64 a,.int .i64 g] 33
 generalize M.set b1 _ = M1 at g1 ⊢
 obtain ⟨F1,hle1,o1,g2⟩:=aA.fE g1
 intro b3 hb3 hw3
 have g3:aA w0 F1 _ (star (aW b3 _ 153) _):=aA.new g2 hb3 hw3 [.int .i64 0,.int .i64 0,.int .i64 0] 153
 generalize M1.set b3 _ = M2 at g3 ⊢
 intro b5 hb5 hw5
 have g4:aA w0 F1 _ (star (aW b5 _ 153) _):=aA.new g3 hb5 hw5 (mX z3) 153
 generalize hM3:M2.set b5 _ = M3
 have hM3':M2.set b5 (.row (mX z3) 153) = M3:=hM3
 rw [hM3'] at g4
 obtain ⟨F2,hle2,o5,g5⟩:=aA.fE g4
 have oz:∀ M',Mem.le F2 M'→(aJ PP w0).ld 153 ⟨b5,0,none⟩ M' = some (.agg #[.int .i64 0,.int .i64 0,.int .i64 0]):=fun M' hM=>aGo (v:=z3) (o:=0) (o5.le hM) (fun j u hj=>by rw [Nat.zero_add];exact hj)
 rw [aHR (o1.le (Mem.le_trans hle2 g5.fr))]
 simp only [aC,a9,aT,aK,aS]
 obtain ⟨F3,hO3,hle3,lP⟩:=g5.last
 refine aBc hO3 (by omega) (fun i v' blk ea hx hf ha M4 l4=>?_) fun hf M4 e l4 he hel=>?_
 ·rw [hw] at hf
  cases hf
  have g6:=g5.le l4
  simp only [cA,aT,bK,aK,aS]
  rw [bX,if_pos rfl,aX,add_eq]
  have hO4:uN w0 F2 M4 p P sL sF (star (aW b3 [.int .i64 0,.int .i64 0,.int .i64 0] 153) Q):=by
   obtain ⟨F4,q1,_,q2⟩:=aA.last g6.dX
   exact q2 _ _ (by
    obtain ⟨F5,q3,_,q4⟩:=q1.dX.last
    exact q4 _ _ q3.dX)
  obtain ⟨blk',ha',hn',hi',hrd⟩:=hO4.el hx
  rw [ha] at ha';cases ha'
  rw [cR (cs:=mX v) W.aBt (fun j u hj=>by rw [add_eq,Nat.add_assoc];exact hrd (2 + j) u (by rw [Nat.add_comm];exact hj))]
  simp only [aC,a9,aT,aK,aS]
  intro b49 hb49 hw49
  have g7:aA w0 F2 _ (star (aW b49 _ 153) _):=aA.new hO4 hb49 hw49 [.int .i64 0,.int .i64 0,.int .i64 0] 153
  generalize M4.set b49 _ = M5 at g7 ⊢
  refine gG (vs:=mX v) W.aBt g7.aZ (by exact Nat.le_refl _) (pW v) ?_
  have g8:=g7.jX (cs':=dZ [.int .i64 0,.int .i64 0,.int .i64 0] 0 (mX v)) (e':=153)
  have e0:dZ [.int .i64 0,.int .i64 0,.int .i64 0] 0 (mX v) = mX v:=by
   have:=eO [] [.int .i64 0,.int .i64 0,.int .i64 0] [] (mX v) rfl (o:=0) rfl
   simpa using this
  rw [e0] at g8 ⊢
  generalize M5.set b49 _ = M6 at g8 ⊢
  obtain ⟨F4,hle4,o49,hO6⟩:=aA.fE g8
  rw [oz M6 (Mem.le_trans hle4 hO6.fr)]
  simp only [aC,a9,aT,aK,aS,aX,add_eq]
  have hil:i < P.l.length:=(List.getElem?_eq_some_iff.1 hx).1
  have hnl:∀ y,(P.l.set i y).length = P.l.length:=fun y=>List.length_set
  obtain ⟨F5,k1,_,k2⟩:=aA.last hO6
  refine aA.stR (f:=1) jH (by decide) W.c4 k1 hx (x':=⟨g,false,v⟩) (by decide) rfl rfl rfl ha fun M7 h7=>?_
  have hO7:uN w0 F4 M7 p { P with l:=P.l.set i ⟨g,false,v⟩ } sL sF (star (aW b3 [.int .i64 0,.int .i64 0,.int .i64 0] 153) Q):=k2 _ _ h7
  refine ⟨oz M7 (Mem.le_trans hle4 (aA.fr hO7)),?_⟩
  have hx7:(P.l.set i ⟨g,false,v⟩)[i]? = some ⟨g,false,v⟩:=List.getElem?_set_self hil
  obtain ⟨F6,k3,_,k4⟩:=aA.last hO7
  refine uF jH (vs:=mX z3) W.aBt k3 hx7 (x':=⟨g,false,z3⟩) (A:=[.int .i64 g,.bool false]) (B:=mX v) rfl rfl rfl rfl (pW _) ha (by rw [hnl];exact hn') fun M8 h8=>?_
  have hO8:uN w0 F4 M8 p { P with l:=P.l.set i ⟨g,false,z3⟩ } sL sF (star (aW b3 [.int .i64 0,.int .i64 0,.int .i64 0] 153) Q):=by
   have:=k4 _ _ h8
   rw [List.set_set] at this
   exact this
  have e2:=hO8.r2
  have f1:rd w0 M8 ⟨b1,0,none⟩ = some (.int .i64 a):=aM (o:=0) (o1.le (Mem.le_trans (Mem.le_trans hle2 hle4) (aA.fr hO8)))
  simp only [aP W.c3,aP W.c53,Nat.zero_add,e2,f1,aC,aR,aK]
  refine rW (n:=1) (cells:=#[.int .i64 a]) Tryz.underlying53 W.e3 (by decide) (by kernel_rfl) fun bn hbn hwn=>?_
  rw [rE]
  have hNw:aA w0 F4 _ (star (aW bn [.int .i64 a] 3) _):=aA.new hO8 hbn hwn [.int .i64 a] 3
  change aA w0 F4 (M8.set bn (.row (#[.int .i64 a]:Array Value).toList 3)) _ at hNw
  generalize M8.set bn _ = M9 at hNw ⊢
  obtain ⟨F7,hle7,hownN,hO9⟩:=aA.fE hNw
  have e9:rd w0 M9 ⟨p,2,none⟩ = some (SV.v sF):=aM (o:=2) (aA.aZ hO9)
  refine ⟨e9,?_⟩
  obtain ⟨F8,k5,l5,k6⟩:=aA.last hO9
  obtain ⟨F9,k7,l7,k8⟩:=k5.last
  have hnF:sF.n = P.free.length:=by have:=uG (k:=1) k7;rw [this];simp [vN]
  refine tV (x:=⟨some ⟨bn,0,none⟩,1,1⟩) (news:=[.int .i64 a]) Tryz.underlying53 W.e3 k7 rfl (gN.own (hownN.le hO9.fr) fun j u hj=>by rw [Nat.zero_add];exact hj) (fun e0=>by cases e0) (by intro u hu;rw [List.mem_singleton.1 hu];rfl) (by decide) (by show sF.n + 1≤_;omega) fun M10 s10 h10=>?_
  rw [aR]
  have h11:=k6 _ _ (k8 _ _ h10)
  refine gA W.c53 (aA.aZ h11) (by simp) rfl rfl ?_
  have h12:=aA.jX h11 (cs':=[.int .i64 P.most,SV.v sL,SV.v s10]) (e':=211)
  rw [show ([.int .i64 P.most,SV.v sL,SV.v sF]:List Value).set 2 (SV.v s10) = [.int .i64 P.most,SV.v sL,SV.v s10] from rfl]
  generalize Mem.set M10 p _ = M11 at h12 ⊢
  subst ea
  have hgv:P.gB z3 i = { P with l:=P.l.set i ⟨g,false,z3⟩,free:=P.free ++ [i] }:=by
   unfold PS.gB
   rw [hx]
  have h13:uN w0 F7 M11 p (P.gB z3 i) sL s10 (star (aW b3 [.int .i64 0,.int .i64 0,.int .i64 0] 153) Q):=by
   rw [hgv]
   have hv:vN P.free ++ [.int .i64 (i:Int)] = vN (P.free ++ [i]):=by simp [vN]
   rw [hv] at h12
   exact h12
  rw [aGo (v:=v) (o:=0) (o49.le (Mem.le_trans hle7 (aA.fr h13))) (fun j u hj=>by rw [Nat.zero_add];exact hj)]
  simp only [aC,a9,aT,aK,aS]
  have h14:=(uN.close h13).dX
  refine aK2 h14 rfl (K:=fun v M=>R (.tuple #[v,.int .i64 0]) M) fun M12 h15=>?_
  rw [Int.toNat_natCast] at h1
  exact h1 M12 ((((h15.fQ hle7).fQ hle4).fQ hle2).fQ hle1)
 ·rw [hw] at hf;cases hf
theorem aJM {n:Int} (h:aA w0 F M Q) (h0:0≤n) (hn:n≤65536) (hR:∀ M' p,aA w0 F M' (star (qU p ⟨n,[],[]⟩) Q)→R (.pointer (some ⟨p,0,none⟩)) M'):C PP w0 Id.cH #[.int .i64 n] R M:=by
 apply cH.go
 unfold cH.T aL
 have e1:(if 65536 < n then (65536:Int) else n) = n:=if_neg (by omega)
 have e2:(if n > 0 then n else 0) = n:=by split <;> omega
 rw [e1,e2]
 have hbld:(aJ PP w0).pD 211 [(0,.int .i64 n)] = some (.agg #[.int .i64 n,.slice none 0 0,.slice none 0 0]):=by kernel_rfl
 simp only [hbld,aC,a9,aT,aK,rE,aS]
 intro b hb hw
 have h1:aA w0 F _ (star (aW b _ 211) _):=h.new hb hw [.int .i64 n,SV.v ⟨none,0,0⟩,SV.v ⟨none,0,0⟩] 211
 refine hR _ b (uN.close (sL:=⟨none,0,0⟩) (sF:=⟨none,0,0⟩) ?_)
 obtain ⟨F1,k1,_,k2⟩:=h1.last
 exact k2 _ _ (aA.pI (aA.pI k1))
end
end HL
namespace HL
section
variable {w0:World} {F M:Mem} {R:VP} {p:Nat} {P:PS V5} {Q:cW}
def pE (p:Nat) (P:PS V5):cW:=fun r=>∃ sL sF:SV,star (aW p [.int .i64 P.most,SV.v sL,SV.v sF] 239) (star (dS 7 sL (P.l.flatMap pc5)) (dS 1 sF (vN P.free))) r
abbrev uC (w0:World) (F M:Mem) (p:Nat) (P:PS V5) (sL sF:SV) (Q:cW):Prop:=aA w0 F M (star (aW p [.int .i64 P.most,SV.v sL,SV.v sF] 239) (star (dS 7 sL (P.l.flatMap pc5)) (star (dS 1 sF (vN P.free)) Q)))
theorem pE.open_ (h:aA w0 F M (star (pE p P) Q)):∃ sL sF,uC w0 F M p P sL sF Q:=by
 obtain ⟨r,⟨r1,r2,rfl,⟨sL,sF,h1⟩,h2⟩,h3⟩:=h
 refine ⟨sL,sF,?_⟩
 have:aA w0 F M (star (star (aW p [.int .i64 P.most,SV.v sL,SV.v sF] 239) (star (dS 7 sL (P.l.flatMap pc5)) (dS 1 sF (vN P.free)))) Q):=⟨_,⟨r1,r2,rfl,h1,h2⟩,h3⟩
 have h4:=aA.assoc.1 this
 obtain ⟨F1,k1,_,k2⟩:=h4.last
 exact k2 _ _ (aA.assoc.1 k1)
theorem uC.close {sL sF:SV} (h:uC w0 F M p P sL sF Q):aA w0 F M (star (pE p P) Q):=by
 obtain ⟨F1,k1,_,k2⟩:=aA.last h
 have h1:=k2 _ _ (aA.assoc.2 k1)
 have h2:=aA.assoc.2 h1
 obtain ⟨r,⟨r1,r2,rfl,g1,g2⟩,g3⟩:=h2
 exact ⟨_,⟨r1,r2,rfl,⟨sL,sF,g1⟩,g2⟩,g3⟩
section
variable {sL sF:SV}
theorem uC.r0 (h:uC w0 F M p P sL sF Q):rd w0 M ⟨p,0,none⟩ = some (.int .i64 P.most):=aM (o:=0) h.aZ
theorem uC.r1 (h:uC w0 F M p P sL sF Q):rd w0 M ⟨p,1,none⟩ = some (SV.v sL):=aM (o:=1) h.aZ
theorem uC.r2 (h:uC w0 F M p P sL sF Q):rd w0 M ⟨p,2,none⟩ = some (SV.v sF):=aM (o:=2) h.aZ
theorem uC.nL (h:uC w0 F M p P sL sF Q):sL.n = P.l.length:=aA.nR qL (by decide) h.right
theorem uC.nF (h:uC w0 F M p P sL sF Q):sF.n = P.free.length:=by
 have:=uG (k:=1) h.right.right
 rw [this];simp [vN]
theorem uC.el (h:uC w0 F M p P sL sF Q) {i:Nat} {x:rQ V5} (hx:P.l[i]? = some x):∃ blk,sL.a = some ⟨blk,0,none⟩∧sL.n = P.l.length∧i < sL.n∧∀ f v,(pc5 x)[f]? = some v→rd w0 M ⟨blk,i * 7 + f,none⟩ = some v:=aA.adR qL (by decide) h.right hx
theorem uC.focus (h:uC w0 F M p P sL sF Q):∃ F5,aA w0 F5 M Q∧Mem.le F F5∧∀ M' Q',aA w0 F5 M' Q'→uC w0 F M' p P sL sF Q':=by
 obtain ⟨F1,k1,l1,k2⟩:=aA.last h
 obtain ⟨F2,k3,l2,k4⟩:=k1.last
 obtain ⟨F3,k5,l3,k6⟩:=k3.last
 exact ⟨F3,k5,Mem.le_trans l1 (Mem.le_trans l2 l3),fun M' Q' hh=>k2 _ _ (k4 _ _ (k6 _ _ hh))⟩
end
theorem aKp {b:Nat} {cs:List Value} {Pq:cW} {v:V5} (h:aA w0 F M (star (aW b cs 138) Pq)) (hcs:cs.length = 5) {K:VP} (hK:∀ M',aA w0 F M' Pq→K (.agg #[.int .i64 v.1,.int .i64 v.2.1,.int .i64 v.2.2.1,.int .i64 v.2.2.2.1,.int .i64 v.2.2.2.2]) M') :
  (aJ PP w0).st 138 ⟨b,0,none⟩ (.agg #[.int .i64 v.1,.int .i64 v.2.1,.int .i64 v.2.2.1,.int .i64 v.2.2.2.1,.int .i64 v.2.2.2.2]) (fun M1=>ob ((aJ PP w0).rdv 138 (.pointer (some ⟨b,0,none⟩)) M1) fun v=>K v M1) M:=by
 refine gG (vs:=j0 v) W.aBB h.aZ (by rw [hcs];exact Nat.le_refl _) (dM v) ?_
 have h2:=h.jX (cs':=dZ cs 0 (j0 v)) (e':=138)
 have e0:dZ cs 0 (j0 v) = j0 v:=by
  have:=eO [] cs [] (j0 v) (by rw [hcs];rfl) (o:=0) rfl
  simpa using this
 rw [e0] at h2 ⊢
 have o2:=h2.aZ
 rw [pX,cR (cs:=j0 v) W.aBB (fun j u hj=>by rw [add_eq,aM o2,Nat.zero_add];exact hj),aC]
 exact hK _ h2.right
theorem aF9 {b o:Nat} {v:V5} {cs:List Value} {e:TypeId} (h:cN w0 M b cs e) (hc:∀ j u,(j0 v)[j]? = some u→cs[o + j]? = some u):(aJ PP w0).ld 138 ⟨b,o,none⟩ M = some (.agg #[.int .i64 v.1,.int .i64 v.2.1,.int .i64 v.2.2.1,.int .i64 v.2.2.2.1,.int .i64 v.2.2.2.2]) :=
 cR (cs:=j0 v) W.aBB (fun j u hj=>by rw [add_eq,aM h];exact hc j u hj)
theorem aG4 {b:Nat} {x y:Int} {e:TypeId} (h:cN w0 M b [.int .i64 x,.int .i64 y] e):(aJ PP w0).ld 33 ⟨b,0,none⟩ M = some (.agg #[.int .i64 x,.int .i64 y]) :=
 cR (cs:=[.int .i64 x,.int .i64 y]) W.g33 (fun j u hj=>by rw [add_eq,aM h,Nat.zero_add];exact hj)
theorem yN {sL sF:SV} {a g:Int} (h:uC w0 F M p P sL sF Q) (hb:P.l.length≤100000)
  (h1:∀ (i:Nat) v blk,a = (i:Int)→P.l[i]? = some ⟨g,true,v⟩→P.find a g = some v→sL.a = some ⟨blk,0,none⟩→∀ M',Mem.le M M'→R (.tuple #[.pointer (some ⟨blk,i * 7,none⟩),.int .i64 0]) M')
  (h0:P.find a g = none→∀ M' e,Mem.le M M'→e≠0→e = P.pl.look a g→R (.tuple #[.pointer none,.int .i64 e]) M') :
  C PP w0 Id.cZ #[.pointer (some ⟨p,0,none⟩),.agg #[.int .i64 a,.int .i64 g]] R M:=by
 apply cZ.go
 intro aB H
 unfold cZ.T aL
 intro b1 hb1 hw1
 have l1:=Mem.fO (M:=M) (.row [.int .i64 a,.int .i64 g] 33) hb1
 have o1:cN w0 (M.set b1 (.row [.int .i64 a,.int .i64 g] 33)) b1 [.int .i64 a,.int .i64 g] 33:=cN.new hw1
 generalize M.set b1 _ = M1 at l1 o1 ⊢
 have hO:uC w0 F M1 p P sL sF Q:=aA.le h l1
 have f0:rd w0 M1 ⟨b1,0,none⟩ = some (.int .i64 a):=aM (o:=0) o1
 have f1:rd w0 M1 ⟨b1,1,none⟩ = some (.int .i64 g):=aM (o:=1) o1
 have fL:=hO.r1
 have hn:=hO.nL
 have hlk:∀ e,P.pl.look a g = e→e≠0→P.find a g = none:=fun e he eQ=>by
  cases hf:P.find a g with
  | none=>rfl
  | some v =>
   have:=PS.pM.1 (show (P.find a g).isSome = true by rw [hf];rfl)
   exact absurd (he▸this) eQ
 have h22:P.pl.look a g = 22→R (.tuple #[.pointer none,.int .i64 22]) M1:=fun e=>h0 (hlk 22 e (by decide)) M1 22 l1 (by decide) e.symm
 have h23:P.pl.look a g = 23→R (.tuple #[.pointer none,.int .i64 23]) M1:=fun e=>h0 (hlk 23 e (by decide)) M1 23 l1 (by decide) e.symm
 have hlook:P.pl.look a g = if a < 0∨(P.l.length:Int)≤a∨g < 1∨(P.l.map (·.g)).getD a.toNat 0 < g then 22 else if g < (P.l.map (·.g)).getD a.toNat 0∨(P.l.map (·.t)).getD a.toNat false = false then 23 else 0:=by
  unfold Pl.look PS.pl
  simp only [List.length_map]
 simp only [aX,aP W.c3,aP W.aEy,add_eq,Nat.zero_add,f0,f1,fL,aC,aK,aR]
 rw [eK]
 split
 ·rename_i ha
  exact h22 (by rw [hlook,if_pos (.inl ha)])
 ·rename_i ha
  rw [eK]
  split
  ·exact h22 (by rw [hlook,if_pos (.inr (.inl (by omega)))])
  ·rename_i hal
   rw [eK]
   split
   ·rename_i hg
    exact h22 (by rw [hlook,if_pos (.inr (.inr (.inl hg)))])
   ·rename_i hg
    obtain ⟨i,rfl⟩:∃ i:Nat,a = (i:Int):=⟨a.toNat,by omega⟩
    have hil:i < P.l.length:=by omega
    have hx:=List.getElem?_eq_getElem hil
    generalize P.l[i] = x at hx
    obtain ⟨blk,ha2,hn2,hi2,hrd⟩:=hO.el hx
    have eg:(P.l.map (·.g)).getD (i:Int).toNat 0 = x.g:=by rw [Int.toNat_natCast,List.getD_eq_getElem?_getD,List.getElem?_map,hx];rfl
    have et:(P.l.map (·.t)).getD (i:Int).toNat false = x.t:=by rw [Int.toNat_natCast,List.getD_eq_getElem?_getD,List.getElem?_map,hx];rfl
    rw [eg,et] at hlook
    have r0:rd w0 M1 ⟨blk,i * 7,none⟩ = some (.int .i64 x.g):=hrd 0 _ rfl
    have r1:rd w0 M1 ⟨blk,i * 7 + 1,none⟩ = some (.bool x.t):=hrd 1 _ rfl
    simp only [ha2,aX,Int.toNat_natCast,add_eq,Nat.zero_add,r0,aC,aK]
    refine ⟨⟨by omega,by omega⟩,?_⟩
    rw [eK]
    split
    ·rename_i hgg
     exact h22 (by rw [hlook,if_pos (.inr (.inr (.inr hgg)))])
    ·rename_i hgg
     have hno:¬ ((i:Int) < 0∨(P.l.length:Int)≤(i:Int)∨g < 1∨x.g < g):=by omega
     rw [if_neg hno] at hlook
     refine Eq.mpr (H.J1 ..) ?_
     unfold cZ.J1.T aL
     simp only [aX,aP W.c3,aP W.c4,aP W.aEy,add_eq,Nat.zero_add,f0,f1,fL,aC,aK,aR,bT,ha2,Int.toNat_natCast,r0,r1]
     refine ⟨⟨by omega,by omega⟩,?_⟩
     rw [eK]
     split
     ·rename_i hlt
      exact h23 (by rw [hlook,if_pos (.inl hlt)])
     ·rename_i hlt
      cases ht:x.t with
      | false =>
       rw [Bool.not_false,dY]
       exact h23 (by rw [hlook,if_pos (.inr ht)])
      | true =>
       rw [Bool.not_true,mY]
       have hgx:g = x.g:=by omega
       have hx2:P.l[i]? = some ⟨g,true,x.v⟩:=by
        rw [hx,hgx]
        obtain ⟨xg,xt,xv⟩:=x
        simp only at ht
        subst ht;rfl
       exact h1 i x.v blk rfl hx2 (PS.jT hx2 (by omega)) ha2 M1 l1
theorem aAm {a g:Int} (h:aA w0 F M (star (pE p P) Q)) (hb:P.l.length≤100000)
  (h1:∀ v,P.find a g = some v→∀ M',Mem.le M M'→R (.tuple #[.agg #[.int .i64 v.1,.int .i64 v.2.1,.int .i64 v.2.2.1,.int .i64 v.2.2.2.1,.int .i64 v.2.2.2.2],.int .i64 0]) M')
  (h0:P.find a g = none→∀ M' e,Mem.le M M'→e≠0→e = P.pl.look a g→R (.tuple #[.agg #[.int .i64 0,.int .i64 0,.int .i64 0,.int .i64 0,.int .i64 0],.int .i64 e]) M') :
  C PP w0 Id.jS #[.pointer (some ⟨p,0,none⟩),.agg #[.int .i64 a,.int .i64 g]] R M:=by
 apply jS.go
 unfold jS.T aL
 obtain ⟨sL,sF,hO⟩:=pE.open_ h
 intro b1 hb1 hw1
 have l1:=Mem.fO (M:=M) (.row [.int .i64 a,.int .i64 g] 33) hb1
 have o1:cN w0 (M.set b1 (.row [.int .i64 a,.int .i64 g] 33)) b1 [.int .i64 a,.int .i64 g] 33:=cN.new hw1
 generalize M.set b1 _ = M1 at l1 o1 ⊢
 intro b3 hb3 hw3
 have n1:aA w0 M1 M1 (fun r=>r = []):=⟨[],rfl,Fit.nil (Mem.le_refl _)⟩
 have n3:aA w0 M1 _ (star (aW b3 _ 138) _):=n1.new hb3 hw3 [.int .i64 0,.int .i64 0,.int .i64 0,.int .i64 0,.int .i64 0] 138
 generalize M1.set b3 _ = M2 at n3 ⊢
 have l2:=n3.fr
 rw [aG4 (o1.le l2)]
 simp only [aC,a9,aT,aK,aS]
 have hO2:uC w0 F M2 p P sL sF Q:=aA.le hO (Mem.le_trans l1 l2)
 refine yN hO2 hb (fun i v blk ea hx hf ha M3 l3=>?_) fun hf M3 e l3 he hel=>?_
 ·simp only [cA,aT,bK,aK,aS]
  rw [bX,if_pos rfl,aX,add_eq]
  have hO3:uC w0 F M3 p P sL sF Q:=aA.le hO2 l3
  obtain ⟨blk',ha',hn',hi',hrd⟩:=hO3.el hx
  rw [ha] at ha';cases ha'
  rw [cR (cs:=j0 v) W.aBB (fun j u hj=>by rw [add_eq,Nat.add_assoc];exact hrd (2 + j) u (by rw [Nat.add_comm];exact hj))]
  simp only [aC,a9,aT,aK,aS]
  refine aKp (n3.le l3) rfl (K:=fun v M=>R (.tuple #[v,.int .i64 0]) M) fun M4 h4=>?_
  exact h1 v hf M4 (Mem.le_trans l1 h4.fr)
 ·simp only [cA,aT,bK,aK,aS]
  rw [bX,if_neg he]
  intro b22 hb22 hw22
  have l4:=Mem.fO (M:=M3) (.row [.int .i64 0,.int .i64 0,.int .i64 0,.int .i64 0,.int .i64 0] 138) hb22
  have o4:cN w0 (M3.set b22 (.row [.int .i64 0,.int .i64 0,.int .i64 0,.int .i64 0,.int .i64 0] 138)) b22 (j0 z5) 138:=cN.new hw22
  generalize M3.set b22 _ = M4 at l4 o4 ⊢
  rw [aF9 (v:=z5) (o:=0) o4 (fun j u hj=>by rw [Nat.zero_add];exact hj)]
  simp only [aC,a9,aT,aK,aS]
  refine aKp (v:=z5) (n3.le (Mem.le_trans l3 l4)) rfl (K:=fun v M=>R (.tuple #[v,.int .i64 e]) M) fun M5 h5=>?_
  exact h0 hf M5 e (Mem.le_trans l1 h5.fr) he hel
theorem aFr {a g:Int} {v w:V5} (h:aA w0 F M (star (pE p P) Q)) (hb:P.l.length≤100000) (hw:P.find a g = some w)
  (h1:∀ M',aA w0 F M' (star (pE p (P.put a.toNat v)) Q)→R (.int .i64 0) M') :
  C PP w0 Id.j8 #[.pointer (some ⟨p,0,none⟩),.agg #[.int .i64 a,.int .i64 g],.agg #[.int .i64 v.1,.int .i64 v.2.1,.int .i64 v.2.2.1,.int .i64 v.2.2.2.1,.int .i64 v.2.2.2.2]] R M:=by
 apply j8.go
 unfold j8.T aL
 obtain ⟨sL,sF,hO⟩:=pE.open_ h
 intro b1 hb1 hw1
 have l1:=Mem.fO (M:=M) (.row [.int .i64 a,.int .i64 g] 33) hb1
 have o1:cN w0 (M.set b1 (.row [.int .i64 a,.int .i64 g] 33)) b1 [.int .i64 a,.int .i64 g] 33:=cN.new hw1
 generalize M.set b1 _ = M1 at l1 o1 ⊢
 intro b3 hb3 hw3
 have l2:=Mem.fO (M:=M1) (.row (j0 v) 138) hb3
 have o3:cN w0 (M1.set b3 (.row (j0 v) 138)) b3 (j0 v) 138:=cN.new hw3
 change _ at hb3
 generalize hM2:M1.set b3 _ = M2
 have hM2':M1.set b3 (.row (j0 v) 138) = M2:=hM2
 rw [hM2'] at l2 o3
 rw [aG4 (o1.le l2)]
 simp only [aC,a9,aT,aK,aS]
 have hO2:uC w0 F M2 p P sL sF Q:=aA.le hO (Mem.le_trans l1 l2)
 refine yN hO2 hb (fun i v' blk ea hx hf ha M3 l3=>?_) fun hf M3 e l3 he hel=>?_
 ·simp only [cA,aT,bK,aK,aS]
  rw [fB,if_pos rfl,aF9 (v:=v) (o:=0) (o3.le l3) (fun j u hj=>by rw [Nat.zero_add];exact hj)]
  simp only [aC,a9,aT,aK,aS,aX,add_eq]
  have hO3:uC w0 F M3 p P sL sF Q:=aA.le hO2 l3
  have hn:=hO3.nL
  obtain ⟨F1,k1,_,k2⟩:=aA.last hO3
  refine uF qL (vs:=j0 v) W.aBB k1 hx (x':=⟨g,true,v⟩) (A:=[.int .i64 g,.bool true]) (B:=j0 v') rfl rfl rfl rfl (dM v) ha hn fun M4 h4=>?_
  have h5:=k2 _ _ h4
  refine h1 M4 (uC.close (sL:=sL) (sF:=sF) ?_)
  subst ea
  rw [Int.toNat_natCast]
  obtain ⟨e1,e2,e3⟩:=PS.uX v hx
  unfold uC
  rw [e1,e2,e3]
  exact h5
 ·rw [hw] at hf;cases hf
theorem aFH (h:aA w0 F M (star (pE p P) Q)) (hb:P.l.length≤100000) (hf:P.free.length≤P.l.length) (hR:R (.int .i64 ((P.l.length - P.free.length:Nat):Int)) M) :
  C PP w0 Id.j6 #[.pointer (some ⟨p,0,none⟩)] R M:=by
 apply j6.go
 unfold j6.T aL
 obtain ⟨sL,sF,hO⟩:=pE.open_ h
 simp only [aX,aP W.aEy,aP W.c53,add_eq,Nat.zero_add,hO.r1,hO.r2,aC,aR]
 rw [hO.nL,hO.nF,bC (by omega),show (P.l.length:Int) - (P.free.length:Int) = ((P.l.length - P.free.length:Nat):Int) from by omega]
 exact hR
theorem aEm (h:aA w0 F M (star (pE p P) Q)) (hR:R (.int .i64 P.most) M) :
  C PP w0 Id.gF #[.pointer (some ⟨p,0,none⟩)] R M:=by
 apply gF.go
 unfold gF.T aL
 obtain ⟨sL,sF,hO⟩:=pE.open_ h
 simp only [aX,aP W.c3,hO.r0,aC,aK]
 exact hR
theorem aDb {v:V5} (h:aA w0 F M (star (pE p P) Q)) (hok:P.Ok) (hb:P.l.length≤10000) (hfb:P.free.length≤10000) (hg:∀ x∈P.l,0≤x.g∧x.g≤1000000) {a:Nat} (hat:P.at_ = some a)
  (h1:∀ M',aA w0 F M' (star (pE p (P.take z5 a v)) Q)→R (.tuple #[.agg #[.int .i64 (a:Int),.int .i64 (P.gen a)],.bool true]) M') :
  C PP w0 Id.cV #[.pointer (some ⟨p,0,none⟩),.agg #[.int .i64 v.1,.int .i64 v.2.1,.int .i64 v.2.2.1,.int .i64 v.2.2.2.1,.int .i64 v.2.2.2.2]] R M:=by
 apply cV.go
 intro aB H
 unfold cV.T aL
 intro b1 hb1 hw1
 have g1:aA w0 F _ (star (aW b1 (j0 v) 138) (star (pE p P) Q)):=h.new hb1 hw1 (j0 v) 138
 generalize hM1:M.set b1 _ = M1
 have hM1':M.set b1 (.row (j0 v) 138) = M1:=hM1
 rw [hM1'] at g1
 obtain ⟨F1,hle1,hown,g2⟩:=aA.fE g1
 intro b3 hb3 hw3
 have g3:aA w0 F1 _ (star (aW b3 _ 33) (star (pE p P) Q)):=g2.new hb3 hw3 [.int .i64 0,.int .i64 0] 33
 generalize M1.set b3 _ = M2 at g3 ⊢
 obtain ⟨sL,sF,hO⟩:=pE.open_ g3.dX
 have keyJ1:∀ (M':Mem) (P':PS V5) (sL sF:SV) (x:rQ V5),uC w0 F1 M' p P' sL sF (star (aW b3 [.int .i64 0,.int .i64 0] 33) Q)→P'.l[a]? = some x→0≤x.g∧x.g≤1000000 →
   (∀ M'',aA w0 F1 M'' (star (pE p { P' with l:=P'.l.set a ⟨x.g + 1,true,v⟩ }) Q)→R (.tuple #[.agg #[.int .i64 (a:Int),.int .i64 (x.g + 1)],.bool true]) M'') →
   cV.J1 aB (some ⟨p,0,none⟩) ⟨b1,0,none⟩ ⟨b3,0,none⟩ (a:Int) M':=by
  intro M' P' sL sF x hX hx hxg hR
  refine Eq.mpr (H.J1 ..) ?_
  unfold cV.J1.T aL
  obtain ⟨blk,ha,hn,hi,hrd⟩:=hX.el hx
  have eL:=hX.r1
  have r0:rd w0 M' ⟨blk,a * 7,none⟩ = some (.int .i64 x.g):=hrd 0 _ rfl
  simp only [aX,aP W.c3,aP W.aEy,add_eq,Nat.zero_add,eL,aC,aR,ha,Int.toNat_natCast,r0,aK]
  refine ⟨⟨by omega,by omega⟩,?_⟩
  rw [bC (by omega)]
  obtain ⟨F2,k1,_,k2⟩:=aA.last hX
  have hnl:∀ y,(P'.l.set a y).length = P'.l.length:=fun y=>List.length_set
  refine aA.stR (f:=0) qL (by decide) W.c3 k1 hx (x':={ x with g:=x.g + 1 }) (by decide) rfl rfl rfl ha fun M3 h3=>?_
  have hX3:uC w0 F1 M3 p { P' with l:=P'.l.set a { x with g:=x.g + 1 } } sL sF (star (aW b3 [.int .i64 0,.int .i64 0] 33) Q):=k2 _ _ h3
  rw [aF9 (v:=v) (o:=0) (hown.le (aA.fr hX3)) (fun j u hj=>by rw [Nat.zero_add];exact hj)]
  simp only [aC,a9,aT,aK,aS]
  have hal:a < P'.l.length:=(List.getElem?_eq_some_iff.1 hx).1
  have hx3:(P'.l.set a { x with g:=x.g + 1 })[a]? = some { x with g:=x.g + 1 }:=List.getElem?_set_self hal
  obtain ⟨F3,k3,_,k4⟩:=aA.last hX3
  refine aA.stR (f:=1) qL (by decide) W.c4 k3 hx3 (x':=⟨x.g + 1,true,x.v⟩) (by decide) rfl rfl rfl ha fun M4 h4=>?_
  have hX4:uC w0 F1 M4 p { P' with l:=P'.l.set a ⟨x.g + 1,true,x.v⟩ } sL sF (star (aW b3 [.int .i64 0,.int .i64 0] 33) Q):=by
   have:=k4 _ _ h4
   rw [List.set_set] at this
   exact this
  refine ⟨aF9 (v:=v) (o:=0) (hown.le (aA.fr hX4)) (fun j u hj=>by rw [Nat.zero_add];exact hj),?_⟩
  have hx4:(P'.l.set a ⟨x.g + 1,true,x.v⟩)[a]? = some ⟨x.g + 1,true,x.v⟩:=List.getElem?_set_self hal
  obtain ⟨F4,k5,_,k6⟩:=aA.last hX4
  refine uF qL (vs:=j0 v) W.aBB k5 hx4 (x':=⟨x.g + 1,true,v⟩) (A:=[.int .i64 (x.g + 1),.bool true]) (B:=j0 x.v) rfl rfl rfl rfl (dM v) ha (by rw [hnl];exact hn) fun M5 h5=>?_
  have hX5:uC w0 F1 M5 p { P' with l:=P'.l.set a ⟨x.g + 1,true,v⟩ } sL sF (star (aW b3 [.int .i64 0,.int .i64 0] 33) Q):=by
   have:=k6 _ _ h5
   rw [List.set_set] at this
   exact this
  have hx5:(P'.l.set a ⟨x.g + 1,true,v⟩)[a]? = some ⟨x.g + 1,true,v⟩:=List.getElem?_set_self hal
  obtain ⟨blk5,ha5,hn5,hi5,hrd5⟩:=hX5.el hx5
  rw [ha] at ha5;cases ha5
  have r5:rd w0 M5 ⟨blk,a * 7,none⟩ = some (.int .i64 (x.g + 1)):=hrd5 0 _ rfl
  have hbld:(aJ PP w0).pD 33 [(0,.int .i64 (a:Int)),(1,.int .i64 (x.g + 1))] = some (.agg #[.int .i64 (a:Int),.int .i64 (x.g + 1)]):=by kernel_rfl
  simp only [r5,aC,aK,hbld,a9,aT,aS]
  obtain ⟨F5,k7,_,k8⟩:=uC.focus hX5
  refine aAF k7 (K:=fun v M=>R (.tuple #[v,.bool true]) M) fun M6 hback=>?_
  exact hR M6 (uC.close (k8 _ _ (hback _ _ k7)))
 have eL:=hO.r1
 have eF:=hO.r2
 have e0:=hO.r0
 have nL:=hO.nL
 have nF:=hO.nF
 simp only [aX,aP W.c3,aP W.c53,aP W.aEy,add_eq,Nat.zero_add,eL,eF,e0,aC,aR,aK]
 rw [eK]
 split
 ·-- one that was given back
  rename_i hpos
  have hp2:0 < P.free.length:=by
   apply Decidable.byContradiction
   intro hc
   have:sF.n = 0:=by omega
   rw [this] at hpos
   rw [show qB (((0:Nat):Int) - 1) = -1 from by rw [bC (by omega)];omega] at hpos
   omega
  obtain ⟨bs,x,hbs⟩:∃ bs x,P.free = bs ++ [x]:=by
   rcases List.eq_nil_or_concat P.free with e | ⟨bs,x,e⟩
   ·rw [e] at hp2;simp at hp2
   ·exact ⟨bs,x,by rw [e,List.concat_eq_append]⟩
  have hlast:P.free.getLast? = some x:=by rw [hbs];simp
  have hax:a = x:=by
   unfold PS.at_ at hat
   rw [hlast] at hat
   simpa using hat.symm
  subst hax
  have hfl:P.free.length = bs.length + 1:=by rw [hbs];simp
  have hw:qB (((sF.n:Nat):Int) - 1) = ((bs.length:Nat):Int):=by rw [bC (by omega)];omega
  obtain ⟨F2,k1,_,k2⟩:=aA.last hO
  obtain ⟨F3,k3,_,k4⟩:=k1.last
  have hc3:=dP k3
  obtain ⟨blk,rest,e,ha,q1,q2,q3⟩:=dS.row k3 (by omega)
  have hcap:sF.n≤sF.c:=by rw [Nat.mul_one] at q1 q2;omega
  rw [hw]
  refine rdv hc3.1 (uG (k:=1) k3) bs.length rfl (v:=.int .i64 (a:Int)) (by unfold vN;rw [hbs,List.getElem?_map,List.getElem?_append_right (Nat.le_refl _)];simp) ?_
  rw [aK]
  refine ⟨⟨by omega,by omega,by omega⟩,?_⟩
  have hsl:(Value.slice (if sF.c = (0:Int).toNat then sF.a else sF.a.map (·.add ((0:Int).toNat * 1))) (((bs.length:Nat):Int).toNat - (0:Int).toNat) (sF.c - (0:Int).toNat)) = SV.v ⟨some ⟨blk,0,none⟩,bs.length,sF.c⟩:=by
   rw [ha,Int.toNat_zero,Int.toNat_natCast,Nat.sub_zero,Nat.sub_zero,Nat.zero_mul]
   unfold SV.v
   simp only [Option.map_some,add_eq]
   split <;> rfl
  rw [hsl]
  refine gA W.c53 (aA.aZ hO) (by simp) rfl rfl ?_
  have h4:=aA.jX hO (cs':=[.int .i64 P.most,SV.v sL,SV.v ⟨some ⟨blk,0,none⟩,bs.length,sF.c⟩]) (e':=239)
  have hvs:vN P.free ++ rest = vN bs ++ (.int .i64 (a:Int)::rest):=by rw [hbs];simp [vN]
  have u7:∀ (b':Bool),True:=fun _=>trivial
  obtain ⟨y,hy,hyt⟩:=hok.fr a (by rw [hbs];simp)
  refine keyJ1 _ { P with free:=bs } sL ⟨some ⟨blk,0,none⟩,bs.length,sF.c⟩ y ?_ hy (hg y (List.mem_of_getElem? hy)) fun M5 h5=>?_
  ·obtain ⟨F6,k6,_,k7⟩:=aA.last h4
   obtain ⟨F8,k8,_,k9⟩:=k6.last
   refine k7 _ _ (k9 _ _ ?_)
   obtain ⟨blk',rest',e',ha',q1',q2',q3'⟩:=dS.row k8 (by omega)
   rw [ha] at ha';cases ha'
   have hvs':vN P.free ++ rest' = vN bs ++ (.int .i64 (a:Int)::rest'):=by rw [hbs];simp [vN]
   rw [hvs'] at q3'
   have hvl:(vN bs).length = bs.length:=by simp [vN]
   have hvl2:(vN P.free).length = bs.length + 1:=by simp [vN,hfl]
   refine dS.ofRow q3' (by rw [hvl];omega) ?_
   rw [hvl,List.length_cons]
   rw [hvl2] at q2'
   omega
  ·have hgen:P.gen a = y.g + 1:=by unfold PS.gen;rw [hy]
   have htk:P.take z5 a v = { P with free:=bs,l:=P.l.set a ⟨y.g + 1,true,v⟩ }:=by
    unfold PS.take PS.grow
    rw [hlast,hgen]
    simp [hbs]
   rw [htk,hgen] at h1
   exact h1 M5 (h5.fQ hle1)
 ·rename_i hpos
  have hp2:P.free = []:=by
   apply List.eq_nil_of_length_eq_zero
   apply Decidable.byContradiction
   intro hc
   rw [show qB (((sF.n:Nat):Int) - 1) = ((sF.n:Nat):Int) - 1 from bC (by omega)] at hpos
   omega
  have hlast:P.free.getLast? = none:=by rw [hp2];rfl
  have hat2:=hat
  unfold PS.at_ at hat2
  rw [hlast] at hat2
  simp only at hat2
  split at hat2
  ·cases hat2
  ·rename_i hm
   have hal:a = P.l.length:=by simpa using hat2.symm
   rw [eK,if_neg (by omega)]
   have hbld:(aJ PP w0).pD 241 [] = some (.agg #[.int .i64 0,.bool false,.int .i64 0,.int .i64 0,.int .i64 0,.int .i64 0,.int .i64 0]):=by kernel_rfl
   simp only [hbld,aC,a9,aT,aK,bT,aS]
   refine rW (n:=1) (cells:=#[.int .i64 0,.bool false,.int .i64 0,.int .i64 0,.int .i64 0,.int .i64 0,.int .i64 0]) Tryz.underlying237 W.aLD (by decide) (by kernel_rfl) fun bn hbn hwn=>?_
   rw [rE]
   have hNw:aA w0 F1 _ (star (aW bn (pc5 ⟨0,false,z5⟩) 241) _):=aA.new hO hbn hwn (pc5 ⟨0,false,z5⟩) 241
   change aA w0 F1 (M2.set bn (.row (#[.int .i64 0,.bool false,.int .i64 0,.int .i64 0,.int .i64 0,.int .i64 0,.int .i64 0]:Array Value).toList 241)) _ at hNw
   generalize M2.set bn _ = M3 at hNw ⊢
   obtain ⟨F2,hle2,hownN,hO3⟩:=aA.fE hNw
   obtain ⟨F3,k1,l3,k2⟩:=aA.last hO3
   have hcap:=aA.aJD qL (by decide) k1
   refine tV (x:=⟨some ⟨bn,0,none⟩,1,1⟩) (news:=pc5 ⟨0,false,z5⟩) Tryz.underlying237 W.aLD k1 rfl (gN.own (hownN.le hO3.fr) fun j u hj=>by rw [Nat.zero_add];exact hj) (fun e0=>by cases e0) (aFk _) (by decide) (by show sL.n + 1≤_;omega) fun M4 s4 h4=>?_
   rw [aR]
   have h5:=k2 _ _ h4
   refine gA W.aEy (aA.aZ h5) (by simp) rfl rfl ?_
   have h6:=aA.jX h5 (cs':=[.int .i64 P.most,SV.v s4,SV.v sF]) (e':=239)
   rw [nL,←hal]
   have hfm:P.l.flatMap pc5 ++ pc5 ⟨0,false,z5⟩ = (P.l ++ ([⟨0,false,z5⟩]:List (rQ V5))).flatMap pc5:=by simp
   refine keyJ1 _ { P with l:=P.l ++ ([⟨0,false,z5⟩]:List (rQ V5)) } s4 sF ⟨0,false,z5⟩ ?_ (by rw [hal];simp) ⟨by show (0:Int)≤0;omega,by show (0:Int)≤1000000;omega⟩ fun M7 h7=>?_
   ·rw [hfm] at h6
    exact (aA.fQ h6 hle2)
   ·have hgen:P.gen a = 0 + 1:=by
     unfold PS.gen
     rw [hal,List.getElem?_eq_none (Nat.le_refl _)]
     rfl
    have htk:P.take z5 a v = { P with l:=(P.l ++ ([⟨0,false,z5⟩]:List (rQ V5))).set a ⟨0 + 1,true,v⟩ }:=by
     unfold PS.take PS.grow
     rw [hlast,hgen]
    rw [htk,hgen] at h1
    exact h1 M7 (h7.fQ hle1)
theorem aDB {a g:Int} {v:V5} (h:aA w0 F M (star (pE p P) Q)) (hb:P.l.length≤10000) (hfb:P.free.length≤10000) (hw:P.find a g = some v)
  (h1:∀ M',aA w0 F M' (star (pE p (P.gB z5 a.toNat)) Q)→R (.tuple #[.agg #[.int .i64 v.1,.int .i64 v.2.1,.int .i64 v.2.2.1,.int .i64 v.2.2.2.1,.int .i64 v.2.2.2.2],.int .i64 0]) M') :
  C PP w0 Id.gK #[.pointer (some ⟨p,0,none⟩),.agg #[.int .i64 a,.int .i64 g]] R M:=by
 apply gK.go
 unfold gK.T aL
 obtain ⟨sL,sF,hO⟩:=pE.open_ h
 intro b1 hb1 hw1
 have g1:aA w0 F _ (star (aW b1 _ 33) _):=aA.new hO hb1 hw1 [.int .i64 a,.int .i64 g] 33
 generalize M.set b1 _ = M1 at g1 ⊢
 obtain ⟨F1,hle1,o1,g2⟩:=aA.fE g1
 intro b3 hb3 hw3
 have g3:aA w0 F1 _ (star (aW b3 _ 138) _):=aA.new g2 hb3 hw3 [.int .i64 0,.int .i64 0,.int .i64 0,.int .i64 0,.int .i64 0] 138
 generalize M1.set b3 _ = M2 at g3 ⊢
 intro b5 hb5 hw5
 have g4:aA w0 F1 _ (star (aW b5 _ 138) _):=aA.new g3 hb5 hw5 (j0 z5) 138
 generalize hM3:M2.set b5 _ = M3
 have hM3':M2.set b5 (.row (j0 z5) 138) = M3:=hM3
 rw [hM3'] at g4
 obtain ⟨F2,hle2,o5,g5⟩:=aA.fE g4
 have oz:∀ M',Mem.le F2 M'→(aJ PP w0).ld 138 ⟨b5,0,none⟩ M' = some (.agg #[.int .i64 0,.int .i64 0,.int .i64 0,.int .i64 0,.int .i64 0]):=fun M' hM=>aF9 (v:=z5) (o:=0) (o5.le hM) (fun j u hj=>by rw [Nat.zero_add];exact hj)
 rw [aG4 (o1.le (Mem.le_trans hle2 g5.fr))]
 simp only [aC,a9,aT,aK,aS]
 obtain ⟨F3,hO3,hle3,lP⟩:=g5.last
 refine yN hO3 (by omega) (fun i v' blk ea hx hf ha M4 l4=>?_) fun hf M4 e l4 he hel=>?_
 ·rw [hw] at hf
  cases hf
  have g6:=g5.le l4
  simp only [cA,aT,bK,aK,aS]
  rw [bX,if_pos rfl,aX,add_eq]
  have hO4:uC w0 F2 M4 p P sL sF (star (aW b3 [.int .i64 0,.int .i64 0,.int .i64 0,.int .i64 0,.int .i64 0] 138) Q):=by
   obtain ⟨F4,q1,_,q2⟩:=aA.last g6.dX
   exact q2 _ _ (by
    obtain ⟨F5,q3,_,q4⟩:=q1.dX.last
    exact q4 _ _ q3.dX)
  obtain ⟨blk',ha',hn',hi',hrd⟩:=hO4.el hx
  rw [ha] at ha';cases ha'
  rw [cR (cs:=j0 v) W.aBB (fun j u hj=>by rw [add_eq,Nat.add_assoc];exact hrd (2 + j) u (by rw [Nat.add_comm];exact hj))]
  simp only [aC,a9,aT,aK,aS]
  intro b49 hb49 hw49
  have g7:aA w0 F2 _ (star (aW b49 _ 138) _):=aA.new hO4 hb49 hw49 [.int .i64 0,.int .i64 0,.int .i64 0,.int .i64 0,.int .i64 0] 138
  generalize M4.set b49 _ = M5 at g7 ⊢
  refine gG (vs:=j0 v) W.aBB g7.aZ (by exact Nat.le_refl _) (dM v) ?_
  have g8:=g7.jX (cs':=dZ [.int .i64 0,.int .i64 0,.int .i64 0,.int .i64 0,.int .i64 0] 0 (j0 v)) (e':=138)
  have e0:dZ [.int .i64 0,.int .i64 0,.int .i64 0,.int .i64 0,.int .i64 0] 0 (j0 v) = j0 v:=by
   have:=eO [] [.int .i64 0,.int .i64 0,.int .i64 0,.int .i64 0,.int .i64 0] [] (j0 v) rfl (o:=0) rfl
   simpa using this
  rw [e0] at g8 ⊢
  generalize M5.set b49 _ = M6 at g8 ⊢
  obtain ⟨F4,hle4,o49,hO6⟩:=aA.fE g8
  rw [oz M6 (Mem.le_trans hle4 hO6.fr)]
  simp only [aC,a9,aT,aK,aS,aX,add_eq]
  have hil:i < P.l.length:=(List.getElem?_eq_some_iff.1 hx).1
  have hnl:∀ y,(P.l.set i y).length = P.l.length:=fun y=>List.length_set
  obtain ⟨F5,k1,_,k2⟩:=aA.last hO6
  refine aA.stR (f:=1) qL (by decide) W.c4 k1 hx (x':=⟨g,false,v⟩) (by decide) rfl rfl rfl ha fun M7 h7=>?_
  have hO7:uC w0 F4 M7 p { P with l:=P.l.set i ⟨g,false,v⟩ } sL sF (star (aW b3 [.int .i64 0,.int .i64 0,.int .i64 0,.int .i64 0,.int .i64 0] 138) Q):=k2 _ _ h7
  refine ⟨oz M7 (Mem.le_trans hle4 (aA.fr hO7)),?_⟩
  have hx7:(P.l.set i ⟨g,false,v⟩)[i]? = some ⟨g,false,v⟩:=List.getElem?_set_self hil
  obtain ⟨F6,k3,_,k4⟩:=aA.last hO7
  refine uF qL (vs:=j0 z5) W.aBB k3 hx7 (x':=⟨g,false,z5⟩) (A:=[.int .i64 g,.bool false]) (B:=j0 v) rfl rfl rfl rfl (dM _) ha (by rw [hnl];exact hn') fun M8 h8=>?_
  have hO8:uC w0 F4 M8 p { P with l:=P.l.set i ⟨g,false,z5⟩ } sL sF (star (aW b3 [.int .i64 0,.int .i64 0,.int .i64 0,.int .i64 0,.int .i64 0] 138) Q):=by
   have:=k4 _ _ h8
   rw [List.set_set] at this
   exact this
  have e2:=hO8.r2
  have f1:rd w0 M8 ⟨b1,0,none⟩ = some (.int .i64 a):=aM (o:=0) (o1.le (Mem.le_trans (Mem.le_trans hle2 hle4) (aA.fr hO8)))
  simp only [aP W.c3,aP W.c53,Nat.zero_add,e2,f1,aC,aR,aK]
  refine rW (n:=1) (cells:=#[.int .i64 a]) Tryz.underlying53 W.e3 (by decide) (by kernel_rfl) fun bn hbn hwn=>?_
  rw [rE]
  have hNw:aA w0 F4 _ (star (aW bn [.int .i64 a] 3) _):=aA.new hO8 hbn hwn [.int .i64 a] 3
  change aA w0 F4 (M8.set bn (.row (#[.int .i64 a]:Array Value).toList 3)) _ at hNw
  generalize M8.set bn _ = M9 at hNw ⊢
  obtain ⟨F7,hle7,hownN,hO9⟩:=aA.fE hNw
  have e9:rd w0 M9 ⟨p,2,none⟩ = some (SV.v sF):=aM (o:=2) (aA.aZ hO9)
  refine ⟨e9,?_⟩
  obtain ⟨F8,k5,l5,k6⟩:=aA.last hO9
  obtain ⟨F9,k7,l7,k8⟩:=k5.last
  have hnF:sF.n = P.free.length:=by have:=uG (k:=1) k7;rw [this];simp [vN]
  refine tV (x:=⟨some ⟨bn,0,none⟩,1,1⟩) (news:=[.int .i64 a]) Tryz.underlying53 W.e3 k7 rfl (gN.own (hownN.le hO9.fr) fun j u hj=>by rw [Nat.zero_add];exact hj) (fun e0=>by cases e0) (by intro u hu;rw [List.mem_singleton.1 hu];rfl) (by decide) (by show sF.n + 1≤_;omega) fun M10 s10 h10=>?_
  rw [aR]
  have h11:=k6 _ _ (k8 _ _ h10)
  refine gA W.c53 (aA.aZ h11) (by simp) rfl rfl ?_
  have h12:=aA.jX h11 (cs':=[.int .i64 P.most,SV.v sL,SV.v s10]) (e':=239)
  rw [show ([.int .i64 P.most,SV.v sL,SV.v sF]:List Value).set 2 (SV.v s10) = [.int .i64 P.most,SV.v sL,SV.v s10] from rfl]
  generalize Mem.set M10 p _ = M11 at h12 ⊢
  subst ea
  have hgv:P.gB z5 i = { P with l:=P.l.set i ⟨g,false,z5⟩,free:=P.free ++ [i] }:=by
   unfold PS.gB
   rw [hx]
  have h13:uC w0 F7 M11 p (P.gB z5 i) sL s10 (star (aW b3 [.int .i64 0,.int .i64 0,.int .i64 0,.int .i64 0,.int .i64 0] 138) Q):=by
   rw [hgv]
   have hv:vN P.free ++ [.int .i64 (i:Int)] = vN (P.free ++ [i]):=by simp [vN]
   rw [hv] at h12
   exact h12
  rw [aF9 (v:=v) (o:=0) (o49.le (Mem.le_trans hle7 (aA.fr h13))) (fun j u hj=>by rw [Nat.zero_add];exact hj)]
  simp only [aC,a9,aT,aK,aS]
  have h14:=(uC.close h13).dX
  refine aKp h14 rfl (K:=fun v M=>R (.tuple #[v,.int .i64 0]) M) fun M12 h15=>?_
  rw [Int.toNat_natCast] at h1
  exact h1 M12 ((((h15.fQ hle7).fQ hle4).fQ hle2).fQ hle1)
 ·rw [hw] at hf;cases hf
theorem aIK {n:Int} (h:aA w0 F M Q) (h0:0≤n) (hn:n≤65536) (hR:∀ M' p,aA w0 F M' (star (pE p ⟨n,[],[]⟩) Q)→R (.pointer (some ⟨p,0,none⟩)) M'):C PP w0 Id.dQ #[.int .i64 n] R M:=by
 apply dQ.go
 unfold dQ.T aL
 have e1:(if 65536 < n then (65536:Int) else n) = n:=if_neg (by omega)
 have e2:(if n > 0 then n else 0) = n:=by split <;> omega
 rw [e1,e2]
 have hbld:(aJ PP w0).pD 239 [(0,.int .i64 n)] = some (.agg #[.int .i64 n,.slice none 0 0,.slice none 0 0]):=by kernel_rfl
 simp only [hbld,aC,a9,aT,aK,rE,aS]
 intro b hb hw
 have h1:aA w0 F _ (star (aW b _ 239) _):=h.new hb hw [.int .i64 n,SV.v ⟨none,0,0⟩,SV.v ⟨none,0,0⟩] 239
 refine hR _ b (uC.close (sL:=⟨none,0,0⟩) (sF:=⟨none,0,0⟩) ?_)
 obtain ⟨F1,k1,_,k2⟩:=h1.last
 exact k2 _ _ (aA.pI (aA.pI k1))
end
end HL
namespace HL
def eV (e:cY):List Value:=[.int .i64 e.1,.int .i64 e.2]
def gD (l:List cY):List Value:=l.flatMap eV
theorem oO (e:cY) (l:List cY):gD (e::l) = .int .i64 e.1::.int .i64 e.2::gD l:=rfl
theorem gQ (l m:List cY):gD (l ++ m) = gD l ++ gD m:=by simp [gD]
theorem eA (l:List cY):(gD l).length = l.length * 2:=by
 induction l with
 | nil=>rfl
 | cons e l ih=>rw [oO,List.length_cons,List.length_cons,List.length_cons,ih];omega
theorem aIF {l:List cY}:∀ {i:Nat} {e:cY},l[i]? = some e→(gD l)[i * 2]? = some (.int .i64 e.1)∧(gD l)[i * 2 + 1]? = some (.int .i64 e.2):=by
 induction l with
 | nil=>intro i e h;simp at h
 | cons x l ih =>
  intro i e h
  cases i with
  | zero =>
   simp at h;subst h
   exact ⟨rfl,rfl⟩
  | succ i =>
   rw [List.getElem?_cons_succ] at h
   obtain ⟨h1,h2⟩:=ih h
   rw [oO]
   refine ⟨?_,?_⟩
   ·rw [show (i + 1) * 2 = (i * 2 + 1) + 1 from by omega,List.getElem?_cons_succ,List.getElem?_cons_succ];exact h1
   ·rw [show (i + 1) * 2 + 1 = (i * 2 + 1 + 1) + 1 from by omega,List.getElem?_cons_succ,List.getElem?_cons_succ];exact h2
theorem tU (l:List cY):∀ v∈gD l,bR v = true:=by
 intro v hv
 obtain ⟨e,_,h⟩:=List.mem_flatMap.1 hv
 simp [eV] at h
 rcases h with rfl | rfl <;> rfl
theorem aDy (l:List cY):∀ (i:Nat),gD (l.take i) = (gD l).take (i * 2):=by
 induction l with
 | nil=>intro i;simp [gD]
 | cons x l ih =>
  intro i
  cases i with
  | zero=>simp [gD]
  | succ i=>rw [List.take_succ_cons,oO,oO,ih,show (i + 1) * 2 = i * 2 + 1 + 1 from by omega];rfl
theorem aAY (l:List cY):∀ (i:Nat),gD (l.drop i) = (gD l).drop (i * 2):=by
 induction l with
 | nil=>intro i;simp [gD]
 | cons x l ih =>
  intro i
  cases i with
  | zero=>simp
  | succ i=>rw [List.drop_succ_cons,ih,oO,show (i + 1) * 2 = i * 2 + 1 + 1 from by omega];rfl
structure xV (w0:World) (M0:Mem) (s:SV) (l:List cY):Prop where
 len:s.n = l.length
 cap:s.n≤s.c
 nul:s.a = none→s.n = 0
 cells:∀ M,Mem.le M0 M→gN w0 M s.a (gD l)
def SV.cut (s:SV) (lo hi:Nat):SV:=⟨if s.c = lo then s.a else s.a.map (·.add (lo * 2)),hi - lo,s.c - lo⟩
def Es (s:SV) (l:List cY):cW:=dS 2 s (gD l)
section
variable {w0:World} {M M0 F:Mem} {R:VP}
theorem xV.le {M1:Mem} {s:SV} {l:List cY} (h:xV w0 M0 s l) (hl:Mem.le M0 M1):xV w0 M1 s l:=⟨h.len,h.cap,h.nul,fun M hM=>h.cells M (Mem.le_trans hl hM)⟩
theorem xV.nil:xV w0 M0 ⟨none,0,0⟩ []:=⟨rfl,Nat.le_refl _,fun _=>rfl,fun M _ j v h=>by simp [gD] at h⟩
theorem xV.cut {s:SV} {l:List cY} (h:xV w0 M0 s l) {lo hi:Nat} (h1:lo≤hi) (h2:hi≤l.length):xV w0 M0 (s.cut lo hi) ((l.take hi).drop lo):=by
 have hl:=h.len
 have hc:=h.cap
 refine ⟨by simp [SV.cut];omega,by simp only [SV.cut];omega,fun e=>?_,fun M hM=>?_⟩
 ·simp only [SV.cut] at e ⊢
  split at e
  ·have:=h.nul e;omega
  ·have:=h.nul (by simpa using e);omega
 ·have hcs:=h.cells M hM
  intro j v hj
  have hj2:(gD l)[lo * 2 + j]? = some v:=by
   rw [aAY,aDy,List.getElem?_drop] at hj
   have hlt:=(List.getElem?_eq_some_iff.1 hj).1
   rw [List.getElem?_take] at hj
   split at hj
   ·exact hj
   ·cases hj
  obtain ⟨ad,ea,hr⟩:=hcs _ v hj2
  have hlt:=(List.getElem?_eq_some_iff.1 hj2).1
  rw [eA] at hlt
  refine ⟨ad.add (lo * 2),?_,?_⟩
  ·simp only [SV.cut]
   rw [if_neg (by omega),ea];rfl
  ·rw [add_add];exact hr
theorem xV.ad {s:SV} {l:List cY} (h:xV w0 M0 s l) {j:Nat} {x:cY} (hj:l[j]? = some x):∃ a,s.a = some a∧∀ M,Mem.le M0 M→rd w0 M (a.add (j * 2)) = some (.int .i64 x.1)∧rd w0 M (a.add (j * 2 + 1)) = some (.int .i64 x.2):=by
 obtain ⟨g1,g2⟩:=aIF hj
 obtain ⟨a,ea,_⟩:=h.cells M0 (Mem.le_refl _) _ _ g1
 refine ⟨a,ea,fun M hM=>?_⟩
 obtain ⟨a1,ea1,hr1⟩:=h.cells M hM _ _ g1
 obtain ⟨a2,ea2,hr2⟩:=h.cells M hM _ _ g2
 rw [ea] at ea1 ea2;cases ea1;cases ea2
 exact ⟨hr1,hr2⟩
theorem xV.ld {s:SV} {l:List cY} (h:xV w0 M0 s l) {j:Nat} {x:cY} (hj:l[j]? = some x):∃ a,s.a = some a∧∀ M,Mem.le M0 M→(aJ PP w0).ld 44 (a.add (j * 2)) M = some (.agg #[.int .i64 x.1,.int .i64 x.2]):=by
 obtain ⟨a,ea,hr⟩:=h.ad hj
 refine ⟨a,ea,fun M hM=>?_⟩
 obtain ⟨r1,r2⟩:=hr M hM
 exact cR (cs:=[.int .i64 x.1,.int .i64 x.2]) W.g44 (fun f v hv=>by
  match f,hv with
  | 0,hv=>simp at hv;subst hv;rw [add_add];exact r1
  | 1,hv=>simp at hv;subst hv;rw [add_add];exact r2)
theorem xX {s:SV} {l:List cY} (h:xV w0 M0 s l) (hl:Mem.le M0 M) {i:Int} (j:Nat) (e:i = (j:Int)) {x:cY} (hj:l[j]? = some x) {K:Int→Int→Prop} (hK:K x.1 x.2) :
  nc s.a fun a=>(0≤i∧i < ((s.n:Nat):Int))∧ob ((aJ PP w0).ld 44 (a.add (i.toNat * 2)) M) fun v=>shA v fun l5=>cK l5 fun u6 r7=>lT .i64 u6 fun n8=>cK r7 fun u9 r10=>lT .i64 u9 fun n11=>qA r10 (K n8 n11):=by
 subst e
 obtain ⟨a,ea,hr⟩:=h.ld hj
 have hlt:=(List.getElem?_eq_some_iff.1 hj).1
 have:=h.len
 rw [ea,aX,Int.toNat_natCast,hr M hl]
 simp only [aC,a9,aT,aK,aS]
 exact ⟨⟨by omega,by omega⟩,hK⟩
theorem aLI {t:TypeId} (ht:hJ PP t = true) {s:SV} {l:List cY} (h:xV w0 M0 s l) (hl:Mem.le M0 M) {i:Int} (j:Nat) (e:i = (j:Int)) {x:cY} (hj:l[j]? = some x) {K:Int→Prop} (hK:K x.2) :
  nc s.a fun a=>(0≤i∧i < ((s.n:Nat):Int))∧ob ((aJ PP w0).ld t (Addr.add (a.add (i.toNat * 2)) 1) M) fun v=>lT .i64 v fun n=>K n:=by
 subst e
 obtain ⟨a,ea,hr⟩:=h.ad hj
 have hlt:=(List.getElem?_eq_some_iff.1 hj).1
 have:=h.len
 rw [ea,aX,Int.toNat_natCast,aP ht,add_add,(hr M hl).2,aC,aK]
 exact ⟨⟨by omega,by omega⟩,hK⟩
theorem wD.xX {s:SV} {l:List cY} (h:wD w0 M0 M 2 s (gD l)):xV w0 M s l:=by
 refine ⟨?_,h.cap (by decide),fun e=>(h.none e).1,fun M2 hM=>(h.le hM).cells⟩
 have:=h.len
 rw [eA] at this;omega
theorem aA.xX {s:SV} {l:List cY} {Q:cW} (h:aA w0 F M (star (Es s l) Q)):xV w0 M s l:=by
 obtain ⟨F',h1,_⟩:=aA.slk h
 exact h1.xX
end
end HL
namespace HL
section
variable {w0:World} {M M0 F:Mem} {R:VP}
theorem aCk {a0 a1 b0 b1:Int} {K:Nat→Nat→Mem→Prop} (h:∀ x1 x2 M',Mem.le M M'→(aJ PP w0).ld 44 ⟨x1,0,none⟩ M' = some (.agg #[.int .i64 a0,.int .i64 a1])→(aJ PP w0).ld 44 ⟨x2,0,none⟩ M' = some (.agg #[.int .i64 b0,.int .i64 b1]) →
  rd w0 M' ⟨x1,0,none⟩ = some (.int .i64 a0)→rd w0 M' ⟨x1,1,none⟩ = some (.int .i64 a1)→rd w0 M' ⟨x2,0,none⟩ = some (.int .i64 b0)→rd w0 M' ⟨x2,1,none⟩ = some (.int .i64 b1)→cN w0 M' x1 [.int .i64 a0,.int .i64 a1] 44→cN w0 M' x2 [.int .i64 b0,.int .i64 b1] 44→K x1 x2 M') :
  (aJ PP w0).nw [.int .i64 a0,.int .i64 a1] 44 (fun b1' M2=>(aJ PP w0).nw [.int .i64 b0,.int .i64 b1] 44 (fun b3 M4=>K b1' b3 M4) M2) M:=by
 intro x1 hx1 hw1
 intro x2 hx2 hw2
 have f1:=((Fit.nil (w0:=w0) (Mem.le_refl M)).new hx1 hw1 (cs:=[.int .i64 a0,.int .i64 a1]) (e:=44)).new hx2 hw2 (cs:=[.int .i64 b0,.int .i64 b1]) (e:=44)
 have o2:=f1.own List.mem_cons_self
 have o1:=f1.own (List.mem_cons_of_mem _ List.mem_cons_self)
 refine h x1 x2 _ f1.fr ?_ ?_ (aM (o:=0) o1) (aM (o:=1) o1) (aM (o:=0) o2) (aM (o:=1) o2) o1 o2
 ·exact cR (cs:=[.int .i64 a0,.int .i64 a1]) W.g44 (fun j v hj=>by rw [add_eq,aM o1,Nat.zero_add];exact hj)
 ·exact cR (cs:=[.int .i64 b0,.int .i64 b1]) W.g44 (fun j v hj=>by rw [add_eq,aM o2,Nat.zero_add];exact hj)
theorem aAH {a b:cY} (h:∀ M',Mem.le M M'→R (.bool (decide (Lt a b))) M'):C PP w0 Id.iC #[.agg #[.int .i64 a.1,.int .i64 a.2],.agg #[.int .i64 b.1,.int .i64 b.2]] R M:=by
 apply iC.go
 unfold iC.T aL
 refine aCk fun x1 x2 M1 l1 e1 e2 r1 r2 r3 r4 o1 o2=>?_
 have hh:=h M1 l1
 have g:∀ b1:Bool,b1 = decide (Lt a b)→R (.bool b1) M1:=fun b1 e=>by rw [e];exact hh
 simp only [go_sem,add_eq,Nat.zero_add,r1,r2,r3,r4,eK]
 split
 ·rename_i h1
  exact g true (decide_eq_true (Or.inl h1)).symm
 ·rename_i h1
  rw [fB]
  split
  ·rename_i h2
   refine g _ ?_
   by_cases h3:a.2 < b.2
   ·rw [decide_eq_true h3];exact (decide_eq_true (show Lt a b from Or.inr ⟨h2,h3⟩)).symm
   ·rw [decide_eq_false h3];exact (decide_eq_false (show ¬ Lt a b from fun h4=>by unfold Lt at h4;omega)).symm
  ·rename_i h2
   exact g false (decide_eq_false (by unfold Lt;omega)).symm
end
end HL
namespace HL
def iU {κ:Type}:Nat→List (rQ κ)→List cY
 | _,[]=>[]
 | i,x::l=>if x.t = true then ((i:Int),x.g)::iU (i + 1) l else iU (i + 1) l
def PS.refs {κ:Type} (p:PS κ):List cY:=iU 0 p.l
theorem sY {κ:Type}:∀ (l m:List (rQ κ)) (i:Nat),iU i (l ++ m) = iU i l ++ iU (i + l.length) m
 | [],m,i=>rfl
 | x::l,m,i=>by
  simp only [List.cons_append,iU,sY l m (i + 1),List.length_cons]
  rw [show i + 1 + l.length = i + (l.length + 1) from by omega]
  split <;> rfl
theorem pQ {κ:Type}:∀ (l:List (rQ κ)) (i:Nat),(iU i l).length≤l.length
 | [],i=>Nat.le_refl _
 | x::l,i=>by
  have:=pQ l (i + 1)
  simp only [iU,List.length_cons]
  split
  ·rw [List.length_cons];omega
  ·omega
theorem qP {κ:Type}:∀ {l:List (rQ κ)} {i:Nat} {r:cY},r∈iU i l↔∃ (j:Nat) (x:rQ κ),l[j]? = some x∧x.t = true∧r = (((i + j:Nat):Int),x.g)
 | [],i,r=>by simp [iU]
 | x::l,i,r=>by
  have ih:r∈iU (i + 1) l↔_:=qP (l:=l) (i:=i + 1) (r:=r)
  have key:(∃ (j:Nat) (y:rQ κ),(x::l)[j]? = some y∧y.t = true∧r = (((i + j:Nat):Int),y.g))↔(x.t = true∧r = ((i:Int),x.g))∨∃ (j:Nat) (y:rQ κ),l[j]? = some y∧y.t = true∧r = (((i + 1 + j:Nat):Int),y.g):=by
   constructor
   ·rintro ⟨j,y,h1,h2,h3⟩
    cases j with
    | zero =>
     simp only [List.getElem?_cons_zero,Option.some.injEq] at h1
     subst h1
     exact .inl ⟨h2,by rw [h3];simp⟩
    | succ j=>exact .inr ⟨j,y,by simpa using h1,h2,by rw [h3];congr 2;omega⟩
   ·rintro (⟨h1,h2⟩ | ⟨j,y,h1,h2,h3⟩)
    ·exact ⟨0,x,rfl,h1,by rw [h2];simp⟩
    ·exact ⟨j + 1,y,by simpa using h1,h2,by rw [h3];congr 2;omega⟩
  rw [key]
  simp only [iU]
  split
  ·rename_i ht
   rw [List.mem_cons,ih]
   exact ⟨fun h=>h.imp (fun h=>⟨ht,h⟩) id,fun h=>h.imp (fun h=>h.2) id⟩
  ·rename_i ht
   rw [ih]
   exact ⟨fun h=>.inr h,fun h=>h.resolve_left fun h=>ht h.1⟩
section
variable {w0:World} {F M M0:Mem} {R:VP} {Q:cW}
theorem aE4 {s x:SV} {l m:List cY} {Q:cW} (h:aA w0 F M (star (Es s l) Q)) (hx:xV w0 M x m) (hb:l.length + m.length≤137438953472) {K:VP} (hK:∀ M' s',aA w0 F M' (star (Es s' (l ++ m)) Q)→K s'.v M') :
  (aJ PP w0).app #[30,30] 30 [SV.v s,SV.v x] K M:=by
 obtain ⟨F',h1,h2,h3⟩:=aA.slk h
 have hl:=h1.xX.len
 refine aCQ (k:=2) Tryz.underlying30 W.e33 h2 h1 (news:=gD m) (by rw [eA,hx.len]) (hx.cells M (Mem.le_refl _)) hx.nul (tU m) (by decide) (by rw [hl,hx.len];exact hb) fun M' s' l1 l2 _=>?_
 refine hK M' s' (h3 M' s' _ ?_ l1)
 rw [gQ];exact l2
theorem aFv {P:cW} (h:aA w0 F M P) (x y:Int) {K:VP} (hK:∀ M' s',Mem.le M M'→aA w0 F M' (star (Es s' [(x,y)]) P)→K s'.v M'):(aJ PP w0).bsl 30 1 [(0,.agg #[.int .i64 x,.int .i64 y])] K M:=by
 refine rW (n:=1) (cells:=#[.int .i64 x,.int .i64 y]) Tryz.underlying30 W.e33 (by decide) (by kernel_rfl) fun b hb hw=>?_
 have l1:Mem.le M (M.set b (.row (#[Value.int .i64 x,.int .i64 y]:Array Value).toList 33)):=Mem.fO _ hb
 exact hK _ ⟨some ⟨b,0,none⟩,1,1⟩ l1 (aA.xF h l1 (wD.new (n:=1) hb (cN.new hw) rfl))
theorem xV.aLT {s:SV} {l:List cY} (h:xV w0 M0 s l) {j:Nat} {x:cY} (hj:l[j]? = some x):∃ a,s.a = some a∧∀ M,Mem.le M0 M→(aJ PP w0).ld 33 (a.add (j * 2)) M = some (.agg #[.int .i64 x.1,.int .i64 x.2]):=by
 obtain ⟨a,ea,hr⟩:=h.ad hj
 refine ⟨a,ea,fun M hM=>?_⟩
 obtain ⟨r1,r2⟩:=hr M hM
 exact cR (cs:=[.int .i64 x.1,.int .i64 x.2]) W.g33 (fun f v hv=>by
  match f,hv with
  | 0,hv=>simp at hv;subst hv;rw [add_add];exact r1
  | 1,hv=>simp at hv;subst hv;rw [add_add];exact r2)
theorem aJx {s:SV} {l:List cY} (h:xV w0 M0 s l) (hl:Mem.le M0 M) {i:Int} (j:Nat) (e:i = (j:Int)) {x:cY} (hj:l[j]? = some x) {K:Int→Int→Prop} (hK:K x.1 x.2) :
  nc s.a fun a=>(0≤i∧i < ((s.n:Nat):Int))∧ob ((aJ PP w0).ld 33 (a.add (i.toNat * 2)) M) fun v=>shA v fun l5=>cK l5 fun u6 r7=>lT .i64 u6 fun n8=>cK r7 fun u9 r10=>lT .i64 u9 fun n11=>qA r10 (K n8 n11):=by
 subst e
 obtain ⟨a,ea,hr⟩:=h.aLT hj
 have hlt:=(List.getElem?_eq_some_iff.1 hj).1
 have:=h.len
 rw [ea,aX,Int.toNat_natCast,hr M hl]
 simp only [aC,a9,aT,aK,aS]
 exact ⟨⟨by omega,by omega⟩,hK⟩
theorem aHG (x y:Int):(aJ PP w0).pD 33 [(0,.int .i64 x),(1,.int .i64 y)] = some (.agg #[.int .i64 x,.int .i64 y]):=by kernel_rfl
theorem aJN {p:Nat} {P:PS V3} (h:aA w0 F M (star (qU p P) Q)) (hb:P.l.length≤100000)
  (hR:∀ M' s',Mem.le M M'→aA w0 F M' (star (Es s' P.refs) (star (qU p P) Q))→R s'.v M') :
  C PP w0 Id.dG #[.pointer (some ⟨p,0,none⟩)] R M:=by
 apply dG.go
 intro aB H
 unfold dG.T aL
 obtain ⟨sL,sF,hO⟩:=qU.open_ h
 have hn:=hO.nL
 simp only [aX,aP W.aES,add_eq,Nat.zero_add,hO.r1,aC,aR]
 have key:∀ (B A:List (rQ V3)) (s:SV) (M1:Mem) (k:Nat),P.l = A ++ B→Mem.le M M1→aA w0 M M1 (Es s (iU 0 A))→B.length < k→dG.L1 aB k s sL ((sL.n:Nat):Int) (A.length:Int) M1:=by
  intro B
  induction B with
  | nil =>
   intro A s M1 k he hl hH hk
   obtain ⟨k,rfl⟩:∃ j,k = j + 1:=⟨k - 1,by omega⟩
   rw [List.append_nil] at he
   refine Eq.mpr (H.L1 ..) ?_
   unfold dG.L1.T aL
   rw [eK,if_neg (by rw [hn,he];omega)]
   refine hR M1 s hl ?_
   rw [←he] at hH
   exact h.beside hH
  | cons x B ih =>
   intro A s M1 k he hl hH hk
   obtain ⟨k,rfl⟩:∃ j,k = j + 1:=⟨k - 1,by omega⟩
   have ll:=congrArg List.length he
   simp only [List.length_append,List.length_cons] at ll hk
   have hx:P.l[A.length]? = some x:=by rw [he];simp
   have hO1:uN w0 F M1 p P sL sF Q:=aA.le hO hl
   obtain ⟨blk,ha,hn',hi,hrd⟩:=hO1.el hx
   refine Eq.mpr (H.L1 ..) ?_
   unfold dG.L1.T aL
   rw [eK,if_pos (by omega),ha,aX,Int.toNat_natCast,add_eq,Nat.zero_add,cR (cs:=xW x) W.aLb (fun j u hj=>by rw [add_eq];exact hrd j u hj)]
   unfold xW mX
   simp only [aC,a9,aT,aK,bT,aS]
   refine ⟨⟨by omega,by omega⟩,?_⟩
   intro b23 hb23 hw23
   have hN:aA w0 M _ (star (aW b23 _ 259) _):=hH.new hb23 hw23 [.int .i64 0,.bool false,.int .i64 0,.int .i64 0,.int .i64 0] 259
   refine gG (vs:=xW x) W.aLb hN.aZ (by exact Nat.le_refl _) (aCE x) ?_
   have hN2:=hN.jX (cs':=dZ [.int .i64 0,.bool false,.int .i64 0,.int .i64 0,.int .i64 0] 0 (xW x)) (e':=259)
   have e0:dZ [.int .i64 0,.bool false,.int .i64 0,.int .i64 0,.int .i64 0] 0 (xW x) = xW x:=by
    have:=eO [] [.int .i64 0,.bool false,.int .i64 0,.int .i64 0,.int .i64 0] [] (xW x) rfl (o:=0) rfl
    simpa using this
   rw [e0] at hN2 ⊢
   generalize Mem.set _ b23 _ = M2 at hN2 ⊢
   have o2:=hN2.aZ
   have f0:rd w0 M2 ⟨b23,0,none⟩ = some (.int .i64 x.g):=aM (o:=0) o2
   have f1:rd w0 M2 ⟨b23,1,none⟩ = some (.bool x.t):=aM (o:=1) o2
   simp only [aP W.c4,aP W.c3,add_eq,Nat.zero_add,f0,f1,aC,bT,aK,aHG,a9,aT,aS]
   have hlr:=pQ A 0
   cases ht:x.t with
   | true =>
    rw [dY]
    refine aFv hN2.right _ _ fun M3 s3 l3 h3=>?_
    rw [aR]
    have h3':aA w0 M M3 (star (Es s (iU 0 A)) (Es s3 [((A.length:Int),x.g)])):=h3.comm
    refine aE4 h3' h3.xX (by simp;omega) fun M4 s4 h4=>?_
    rw [aR,cX (by omega)]
    have:=ih (A ++ [x]) s4 M4 k (by rw [he];simp) h4.fr ?_ (by omega)
    ·rw [List.length_append,List.length_singleton] at this;exact this
    ·have e9:iU 0 (A ++ [x]) = iU 0 A ++ [((A.length:Int),x.g)]:=by
      rw [sY];simp [iU,ht]
     rw [e9]
     exact h4.left
   | false =>
    rw [mY,cX (by omega)]
    have:=ih (A ++ [x]) s M2 k (by rw [he];simp) hN2.fr ?_ (by omega)
    ·rw [List.length_append,List.length_singleton] at this;exact this
    ·have e9:iU 0 (A ++ [x]) = iU 0 A:=by
      rw [sY];simp [iU,ht]
     rw [e9]
     exact hN2.right
 refine ⟨P.l.length + 1,key P.l [] ⟨none,0,0⟩ M _ rfl (Mem.le_refl _) ?_ (by omega)⟩
 exact ⟨[],.inl ⟨rfl,rfl,rfl⟩,Fit.nil (Mem.le_refl _)⟩
theorem aFu {p:Nat} {P:PS V5} (h:aA w0 F M (star (pE p P) Q)) (hb:P.l.length≤100000)
  (hR:∀ M' s',Mem.le M M'→aA w0 F M' (star (Es s' P.refs) (star (pE p P) Q))→R s'.v M') :
  C PP w0 Id.dF #[.pointer (some ⟨p,0,none⟩)] R M:=by
 apply dF.go
 intro aB H
 unfold dF.T aL
 obtain ⟨sL,sF,hO⟩:=pE.open_ h
 have hn:=hO.nL
 simp only [aX,aP W.aEy,add_eq,Nat.zero_add,hO.r1,aC,aR]
 have key:∀ (B A:List (rQ V5)) (s:SV) (M1:Mem) (k:Nat),P.l = A ++ B→Mem.le M M1→aA w0 M M1 (Es s (iU 0 A))→B.length < k→dF.L1 aB k s sL ((sL.n:Nat):Int) (A.length:Int) M1:=by
  intro B
  induction B with
  | nil =>
   intro A s M1 k he hl hH hk
   obtain ⟨k,rfl⟩:∃ j,k = j + 1:=⟨k - 1,by omega⟩
   rw [List.append_nil] at he
   refine Eq.mpr (H.L1 ..) ?_
   unfold dF.L1.T aL
   rw [eK,if_neg (by rw [hn,he];omega)]
   refine hR M1 s hl ?_
   rw [←he] at hH
   exact h.beside hH
  | cons x B ih =>
   intro A s M1 k he hl hH hk
   obtain ⟨k,rfl⟩:∃ j,k = j + 1:=⟨k - 1,by omega⟩
   have ll:=congrArg List.length he
   simp only [List.length_append,List.length_cons] at ll hk
   have hx:P.l[A.length]? = some x:=by rw [he];simp
   have hO1:uC w0 F M1 p P sL sF Q:=aA.le hO hl
   obtain ⟨blk,ha,hn',hi,hrd⟩:=hO1.el hx
   refine Eq.mpr (H.L1 ..) ?_
   unfold dF.L1.T aL
   rw [eK,if_pos (by omega),ha,aX,Int.toNat_natCast,add_eq,Nat.zero_add,cR (cs:=pc5 x) W.aLf (fun j u hj=>by rw [add_eq];exact hrd j u hj)]
   unfold pc5 j0
   simp only [aC,a9,aT,aK,bT,aS]
   refine ⟨⟨by omega,by omega⟩,?_⟩
   intro b23 hb23 hw23
   have hN:aA w0 M _ (star (aW b23 _ 241) _):=hH.new hb23 hw23 [.int .i64 0,.bool false,.int .i64 0,.int .i64 0,.int .i64 0,.int .i64 0,.int .i64 0] 241
   refine gG (vs:=pc5 x) W.aLf hN.aZ (by exact Nat.le_refl _) (aFk x) ?_
   have hN2:=hN.jX (cs':=dZ [.int .i64 0,.bool false,.int .i64 0,.int .i64 0,.int .i64 0,.int .i64 0,.int .i64 0] 0 (pc5 x)) (e':=241)
   have e0:dZ [.int .i64 0,.bool false,.int .i64 0,.int .i64 0,.int .i64 0,.int .i64 0,.int .i64 0] 0 (pc5 x) = pc5 x:=by
    have:=eO [] [.int .i64 0,.bool false,.int .i64 0,.int .i64 0,.int .i64 0,.int .i64 0,.int .i64 0] [] (pc5 x) rfl (o:=0) rfl
    simpa using this
   rw [e0] at hN2 ⊢
   generalize Mem.set _ b23 _ = M2 at hN2 ⊢
   have o2:=hN2.aZ
   have f0:rd w0 M2 ⟨b23,0,none⟩ = some (.int .i64 x.g):=aM (o:=0) o2
   have f1:rd w0 M2 ⟨b23,1,none⟩ = some (.bool x.t):=aM (o:=1) o2
   simp only [aP W.c4,aP W.c3,add_eq,Nat.zero_add,f0,f1,aC,bT,aK,aHG,a9,aT,aS]
   have hlr:=pQ A 0
   cases ht:x.t with
   | true =>
    rw [dY]
    refine aFv hN2.right _ _ fun M3 s3 l3 h3=>?_
    rw [aR]
    have h3':aA w0 M M3 (star (Es s (iU 0 A)) (Es s3 [((A.length:Int),x.g)])):=h3.comm
    refine aE4 h3' h3.xX (by simp;omega) fun M4 s4 h4=>?_
    rw [aR,cX (by omega)]
    have:=ih (A ++ [x]) s4 M4 k (by rw [he];simp) h4.fr ?_ (by omega)
    ·rw [List.length_append,List.length_singleton] at this;exact this
    ·have e9:iU 0 (A ++ [x]) = iU 0 A ++ [((A.length:Int),x.g)]:=by
      rw [sY];simp [iU,ht]
     rw [e9]
     exact h4.left
   | false =>
    rw [mY,cX (by omega)]
    have:=ih (A ++ [x]) s M2 k (by rw [he];simp) hN2.fr ?_ (by omega)
    ·rw [List.length_append,List.length_singleton] at this;exact this
    ·have e9:iU 0 (A ++ [x]) = iU 0 A:=by
      rw [sY];simp [iU,ht]
     rw [e9]
     exact hN2.right
 refine ⟨P.l.length + 1,key P.l [] ⟨none,0,0⟩ M _ rfl (Mem.le_refl _) ?_ (by omega)⟩
 exact ⟨[],.inl ⟨rfl,rfl,rfl⟩,Fit.nil (Mem.le_refl _)⟩
end
end HL
namespace HL
section
variable {P:Program} {w0:World} {M F:Mem} {κ ν:Type} [DecidableEq κ]
abbrev Mes (κ ν:Type):=List ((κ × ν) × Nat)
def qC (kf:κ→Value) (vf:ν→Value) (x:(κ × ν) × Nat):MapEntry:=⟨kf x.1.1,vf x.1.2,x.2⟩
def fIx (vf:ν→Value) (k:κ):Mes κ ν→Nat→Option (Nat × Value)
 | [],_=>none
 | x::l,i=>if k = x.1.1 then some (i,vf x.1.2) else fIx vf k l (i + 1)
def getM (k:κ) (l:Mes κ ν):Option ν:=(l.find? fun x=>decide (k = x.1.1)).map (·.1.2)
theorem yD {vf:ν→Value} {k:κ}:∀ {l:Mes κ ν} {i:Nat},fIx vf k l i = none→∀ x∈l,k≠x.1.1
 | [],_,_,x,hx=>by cases hx
 | y::l,i,h,x,hx=>by
  unfold fIx at h
  split at h
  ·cases h
  ·rename_i hn
   rcases List.mem_cons.1 hx with rfl | hx
   ·exact hn
   ·exact yD h x hx
theorem y6 {vf:ν→Value} {k:κ}:∀ {l:Mes κ ν} {i:Nat} {r:Nat × Value},fIx vf k l i = some r→∃ A x B,l = A ++ x::B∧r = (i + A.length,vf x.1.2)∧k = x.1.1∧∀ y∈A,k≠y.1.1
 | [],_,_,h=>by cases h
 | y::l,i,r,h=>by
  unfold fIx at h
  split at h
  ·rename_i hn
   cases h
   exact ⟨[],y,l,rfl,rfl,hn,fun y hy=>by cases hy⟩
  ·rename_i hn
   obtain ⟨A,x,B,rfl,rfl,h3,h4⟩:=y6 h
   refine ⟨y::A,x,B,rfl,by rw [List.length_cons];congr 1;omega,h3,fun z hz=>?_⟩
   rcases List.mem_cons.1 hz with rfl | hz
   ·exact hn
   ·exact h4 z hz
theorem getM_none {k:κ} {l:Mes κ ν} (h:∀ x∈l,k≠x.1.1):getM k l = none:=by
 unfold getM
 rw [List.find?_eq_none.2 fun x hx=>by simpa using h x hx];rfl
theorem aBj {k:κ} {A B:Mes κ ν} {x:(κ × ν) × Nat} (h:∀ y∈A,k≠y.1.1) (hk:k = x.1.1):getM k (A ++ x::B) = some x.1.2:=by
 unfold getM
 rw [List.find?_append,List.find?_eq_none.2 fun y hy=>by simpa using h y hy,List.find?_cons]
 simp [hk]
theorem uA {k:κ} {A B:Mes κ ν} {x:(κ × ν) × Nat} (hk:k≠x.1.1):getM k (A ++ x::B) = getM k (A ++ B):=by
 unfold getM
 rw [List.find?_append,List.find?_append,List.find?_cons]
 simp [hk]
structure aAU (P:Program) (t:TypeId) (kf:κ→Value):Prop where
 find:∀ {ν:Type} (w0:World) (M:Mem) (vf:ν→Value) (l:Mes κ ν) (k:κ),eX P w0 M (Instr.findKey t (kf k) (l.map (qC kf vf))) = some (fIx vf k l 0)
 chk:∀ b k,dT P (Instr.checkKey b 10000 t (kf k)) = some ()
 bits:∀ k,Instr.sameBits 10000 (kf k) (kf k) = true
theorem aG3 {t:TypeId} (ht:P.underlying t = some (.int .i64)) (hc:∀ b (k:Int),dT P (Instr.checkKey b 10000 t (.int .i64 k)) = some ()):aAU P t (Value.int .i64):=by
 refine ⟨fun w0 M vf l k=>?_,hc,fun k=>by simp [Instr.sameBits]⟩
 have key:∀ (l:Mes Int _) (i:Nat),Instr.findNow (.int .i64) (.int .i64 k) (l.map (qC (Value.int .i64) vf)) i = some (fIx vf k l i):=by
  intro l
  induction l with
  | nil=>intro i;rfl
  | cons x l ih =>
   intro i
   simp only [List.map_cons,qC,Instr.findNow,Instr.sameNow,if_true,fIx]
   by_cases he:k = x.1.1
   ·rw [if_pos he,beq_iff_eq.2 he]
   ·rw [if_neg he,beq_eq_false_iff_ne.2 he]
    exact ih (i + 1)
 unfold Instr.findKey
 rw [eS (eM ht),key l 0]
 rfl
theorem aDr {t:TypeId} {fs:Array Field} {kf:κ→Value} (ht:P.underlying t = some (.struct fs)) (hk:∀ k,∃ cs,kf k = .agg cs) (he:∀ k k',dT P (Op.equal t (kf k) (kf k')) = some (decide (k = k')))
  (hc:∀ b k,dT P (Instr.checkKey b 10000 t (kf k)) = some ()) (hb:∀ k,Instr.sameBits 10000 (kf k) (kf k) = true):aAU P t kf:=by
 refine ⟨fun w0 M vf l k=>?_,hc,hb⟩
 have ask:∀ (l:Mes κ _) (i:Nat),eX P w0 M (Instr.findAsking t (kf k) (l.map (qC kf vf)) i) = some (fIx vf k l i):=by
  intro l
  induction l with
  | nil=>intro i;rfl
  | cons x l ih =>
   intro i
   simp only [List.map_cons,qC,Instr.findAsking,fIx]
   rw [eS (wL (he k x.1.1))]
   by_cases h:k = x.1.1
   ·rw [if_pos h,decide_eq_true h];rfl
   ·rw [if_neg h,decide_eq_false h];exact ih (i + 1)
 unfold Instr.findKey
 rw [eS (eM ht)]
 cases l with
 | nil=>rfl
 | cons x l =>
  obtain ⟨cs,hcs⟩:=hk k
  have hn:Instr.findNow (.struct fs) (kf k) ((x::l).map (qC kf vf)) 0 = none:=by
   rw [hcs];rfl
  rw [hn]
  exact ask (x::l) 0
def dI (kf:κ→Value) (vf:ν→Value) (m:κ→Option ν) (o:Obj):Prop :=
 ∃ (l:Mes κ ν) (ck:Nat),o = .map (l.map (qC kf vf)).toArray ck∧(l.map (·.1.1)).Nodup∧∀ k,m k = getM k l
def fV (m:κ→Option ν) (k:κ) (v:Option ν):κ→Option ν:=fun x=>if x = k then v else m x
theorem aIP {t:TypeId} {kf:κ→Value} {vf:ν→Value} {K:VP} (h:∀ r o,M r = none→w0.heap.size≤r→dI kf vf (fun _=>none) o→K (.map (some r)) (M.set r (.obj o))):(aJ P w0).mkm t none K M:=by
 show act P w0 (Instr.makeMap t none) K M
 exact ⟨rfl,fun b hb hw=>h b _ hb hw ⟨[],0,rfl,List.nodup_nil,fun k=>rfl⟩⟩
section
variable {tm key elem:TypeId} {kf:κ→Value} {vf:ν→Value} {m:κ→Option ν} {o:Obj} {r:Nat} {k:κ}
theorem lkF {z:Value} {i:TypeInfo} (ht:P.underlying tm = some (.map key elem)) (hk:aAU P key kf) (hi:P.info? elem = some i) (hz:i.zero = some z) (hr:w0.heap.size≤r) (hm:M r = some (.obj o)) (ho:dI kf vf m o) :
  (aJ P w0).lk tm (.map (some r)) (kf k) false M = some (((m k).map vf).getD z)∧(aJ P w0).lk tm (.map (some r)) (kf k) true M = some (.tuple #[((m k).map vf).getD z,.bool (m k).isSome]):=by
 obtain ⟨l,ck,rfl,hn,hmk⟩:=ho
 have key:∀ c:Bool,(aJ P w0).lk tm (.map (some r)) (kf k) c M = some (if c then .tuple #[((m k).map vf).getD z,.bool (m k).isSome] else ((m k).map vf).getD z):=by
  intro c
  show eX P w0 M (Instr.lookup tm (.map (some r)) (kf k) c) = _
  unfold Instr.lookup
  rw [eS (eM ht)]
  simp only
  rw [eS (aAP hr hm rfl),eS (s:=pure _) (a:=(l.map (qC kf vf)).toArray) rfl,eS (wL (hk.chk _ k)),eS (by simpa using hk.find w0 M vf l k)]
  rw [hmk k]
  cases hf:fIx vf k l 0 with
  | none =>
   rw [getM_none (yD hf)]
   simp only
   rw [eS (qO hi hz),eS (s:=pure _) (a:=(z,false)) rfl];rfl
  | some p =>
   obtain ⟨A,x,B,rfl,rfl,h3,h4⟩:=y6 hf
   rw [aBj h4 h3]
   simp only
   rw [eS (s:=pure _) (a:=(vf x.1.2,true)) rfl];rfl
 exact ⟨key false,key true⟩
theorem aJf {A B:List MapEntry} {x:MapEntry} (f:MapEntry→MapEntry):(A ++ x::B).toArray.modify A.length f = (A ++ f x::B).toArray:=by
 rw [List.modify_toArray]
 congr 1
 induction A with
 | nil=>rfl
 | cons y A ih=>simp [List.modify_succ_cons,ih]
theorem aGa {A B:List MapEntry} {x:MapEntry}:(A ++ x::B).toArray.eraseIdxIfInBounds A.length = (A ++ B).toArray:=by
 unfold Array.eraseIdxIfInBounds
 rw [dif_pos (by simp)]
 simp [List.eraseIdx_append_of_length_le]
theorem aGA {v:ν} (ht:P.underlying tm = some (.map key elem)) (hk:aAU P key kf) (hr:w0.heap.size≤r) (hm:M r = some (.obj o)) (ho:dI kf vf m o) {K:Mem→Prop}
  (hK:∀ o',dI kf vf (fV m k (some v)) o'→K (M.set r (.obj o'))):(aJ P w0).mup tm (.map (some r)) (kf k) (vf v) K M:=by
 obtain ⟨l,ck,rfl,hn,hmk⟩:=ho
 show act P w0 (Instr.mapUpdate tm (.map (some r)) (kf k) (vf v)) _ M
 unfold Instr.mapUpdate
 rw [bU (eM ht)]
 simp only
 rw [bU (aAP hr hm rfl)]
 simp only
 rw [bU (wL (hk.chk _ k)),bU (by simpa using hk.find w0 M vf l k)]
 cases hf:fIx vf k l 0 with
 | none =>
  have hno:=yD hf
  simp only
  have h1:=hK (.map ((l ++ [((k,v),ck)]).map (qC kf vf)).toArray (ck + 1)) ⟨_,_,rfl,?_,fun x=>?_⟩
  ·have e:((l.map (qC kf vf)).toArray.push ⟨kf k,vf v,ck⟩) = ((l ++ [((k,v),ck)]).map (qC kf vf)).toArray:=by
    rw [List.push_toArray,List.map_append];rfl
   rw [e]
   show (match M r with
    | some (.obj o')=>Obj.plain o' = true∧_
    | _=>False)
   rw [hm]
   exact ⟨rfl,h1⟩
  ·rw [List.map_append,List.nodup_append]
   refine ⟨hn,by simp,fun a ha b hb e=>?_⟩
   obtain ⟨y,hy,rfl⟩:=List.mem_map.1 ha
   simp only [List.map_cons,List.map_nil,List.mem_singleton] at hb
   rw [hb] at e
   exact hno y hy e.symm
  ·unfold fV
   by_cases hx:x = k
   ·subst hx
    rw [if_pos rfl,aBj hno rfl]
   ·rw [if_neg hx,uA (k:=x) (by exact hx),List.append_nil];exact hmk x
 | some p =>
  obtain ⟨A,x,B,rfl,rfl,h3,h4⟩:=y6 hf
  simp only [Nat.zero_add]
  have hget:(((((A ++ x::B).map (qC kf vf)).toArray)[A.length]?).map (·.key)).getD (kf k) = kf k:=by
   rw [List.getElem?_toArray,List.getElem?_map,List.getElem?_append_right (Nat.le_refl _),Nat.sub_self]
   show kf x.1.1 = kf k
   rw [h3]
  rw [hget]
  have hks:eX P w0 M (Instr.keyThatStays (kf k) (kf k)) = some (kf k):=by
   unfold Instr.keyThatStays
   rw [if_pos (hk.bits k)];rfl
  rw [bU hks]
  have e:((A ++ x::B).map (qC kf vf)).toArray.modify A.length (fun e=>{ e with key:=kf k,val:=vf v }) = ((A ++ ((k,v),x.2)::B).map (qC kf vf)).toArray:=by
   rw [List.map_append,List.map_cons]
   have:=aJf (A:=A.map (qC kf vf)) (x:=qC kf vf x) (B:=B.map (qC kf vf)) (fun e=>{ e with key:=kf k,val:=vf v })
   rw [List.length_map] at this
   rw [this,List.map_append,List.map_cons];rfl
  rw [e]
  have h1:=hK (.map ((A ++ ((k,v),x.2)::B).map (qC kf vf)).toArray ck) ⟨_,_,rfl,?_,fun y=>?_⟩
  ·show (match M r with
    | some (.obj o')=>Obj.plain o' = true∧_
    | _=>False)
   rw [hm]
   exact ⟨rfl,h1⟩
  ·rw [List.map_append,List.map_cons] at hn ⊢
   rw [h3];exact hn
  ·unfold fV
   by_cases hy:y = k
   ·subst hy
    rw [if_pos rfl,aBj h4 rfl]
   ·rw [if_neg hy,uA (k:=y) (by exact hy),hmk y,uA (k:=y) (by rw [←h3];exact hy)]
theorem aH9 {tys:Array TypeId} {ty:TypeId} (htys:tys[0]? = some tm) (ht:P.underlying tm = some (.map key elem)) (hk:aAU P key kf) (hr:w0.heap.size≤r) (hm:M r = some (.obj o)) (ho:dI kf vf m o) {K:VP}
  (hK:∀ o',dI kf vf (fV m k none) o'→K (.tuple #[]) (M.set r (.obj o'))):(aJ P w0).del tys ty [.map (some r),kf k] K M:=by
 obtain ⟨l,ck,rfl,hn,hmk⟩:=ho
 show act P w0 (Builtin.delete_ tys ty #[.map (some r),kf k]) _ M
 unfold Builtin.delete_
 simp only [htys,List.getElem?_toArray,List.getElem?_cons_zero,List.getElem?_cons_succ]
 rw [bU (eM ht)]
 simp only [bind_assoc]
 rw [bU (aAP hr hm rfl)]
 simp only [bind_assoc]
 rw [bU (wL (hk.chk _ k)),bU (by simpa using hk.find w0 M vf l k)]
 cases hf:fIx vf k l 0 with
 | none =>
  have hno:=yD hf
  simp only
  have h1:=hK (.map (l.map (qC kf vf)).toArray ck) ⟨l,ck,rfl,hn,fun x=>?_⟩
  ·show (match M r with
    | some (.obj o')=>Obj.plain o' = true∧_
    | _=>False)
   rw [hm]
   exact ⟨rfl,h1⟩
  ·unfold fV
   split
   ·rename_i hx;subst hx;rw [getM_none hno]
   ·exact hmk x
 | some p =>
  obtain ⟨A,x,B,rfl,rfl,h3,h4⟩:=y6 hf
  simp only [Nat.zero_add]
  have e:((A ++ x::B).map (qC kf vf)).toArray.eraseIdxIfInBounds A.length = ((A ++ B).map (qC kf vf)).toArray:=by
   rw [List.map_append,List.map_cons]
   have:=aGa (A:=A.map (qC kf vf)) (x:=qC kf vf x) (B:=B.map (qC kf vf))
   rw [List.length_map] at this
   rw [this,List.map_append]
  rw [e]
  rw [List.map_append,List.map_cons] at hn
  obtain ⟨n1,n2,n3⟩:=List.nodup_append.1 hn
  obtain ⟨n4,n5⟩:=List.nodup_cons.1 n2
  have h1:=hK (.map ((A ++ B).map (qC kf vf)).toArray ck) ⟨_,_,rfl,?_,fun y=>?_⟩
  ·show (match M r with
    | some (.obj o')=>Obj.plain o' = true∧_
    | _=>False)
   rw [hm]
   exact ⟨rfl,h1⟩
  ·rw [List.map_append,List.nodup_append]
   exact ⟨n1,n5,fun a ha b hb=>n3 a ha b (List.mem_cons_of_mem _ hb)⟩
  ·unfold fV
   by_cases hy:y = k
   ·subst hy
    rw [if_pos rfl,getM_none]
    intro z hz e0
    rcases List.mem_append.1 hz with hz | hz
    ·exact h4 z hz e0
    ·exact n4 (List.mem_map.2 ⟨z,hz,by rw [←e0,h3]⟩)
   ·rw [if_neg hy,hmk y,uA (k:=y) (by rw [←h3];exact hy)]
end
abbrev vC:=List (Nat × Obj)
structure HO (w0:World) (F M:Mem) (os:vC) (A:cW):Prop where
 nd:(os.map (·.1)).Nodup
 at_:∀ x∈os,w0.heap.size≤x.1∧F x.1 = none∧M x.1 = some (.obj x.2)
 h:aA w0 F M A
theorem HO.aside:∀ {os:vC} {F M:Mem} {A:cW},HO w0 F M os A→∃ F',aA w0 F' M A∧Mem.le F F'∧∀ M' A',aA w0 F' M' A'→HO w0 F M' os A'
 | [],F,M,A,h=>⟨F,h.h,Mem.le_refl _,fun M' A' h'=>⟨List.nodup_nil,fun x hx=>(by cases hx),h'⟩⟩
 | x::os,F,M,A,h=>by
  have hx:=h.at_ x List.mem_cons_self
  obtain ⟨n1,n2⟩:=List.nodup_cons.1 h.nd
  obtain ⟨h1,h2⟩:=h.h.aKu hx.2.2 hx.2.1
  have h3:HO w0 (F.set x.1 (.obj x.2)) M os A:=by
   refine ⟨n2,fun y hy=>?_,h1⟩
   obtain ⟨g1,g2,g3⟩:=h.at_ y (List.mem_cons_of_mem _ hy)
   refine ⟨g1,?_,g3⟩
   rw [Mem.mZ _ _ (show y.1≠x.1 from fun e=>n1 (List.mem_map.2 ⟨y,hy,e⟩))]
   exact g2
  obtain ⟨F',k1,k2,k3⟩:=HO.aside h3
  refine ⟨F',k1,Mem.le_trans h2 k2,fun M' A' h'=>?_⟩
  have k4:=k3 M' A' h'
  have k5:M' x.1 = some (.obj x.2):=k4.h.fr _ _ (Mem.lZ _ _ _)
  have hle:Mem.le F M':=Mem.le_trans h2 k4.h.fr
  refine ⟨h.nd,fun y hy=>?_,?_⟩
  ·rcases List.mem_cons.1 hy with rfl | hy
   ·exact ⟨hx.1,hx.2.1,k5⟩
   ·exact ⟨(k4.at_ y hy).1,(h.at_ y (List.mem_cons_of_mem _ hy)).2.1,(k4.at_ y hy).2.2⟩
  ·obtain ⟨q,q1,q2⟩:=k4.h
   refine ⟨q,q1,q2.nd,fun z hz=>?_,hle⟩
   obtain ⟨g1,g2,g3⟩:=q2.at_ z hz
   refine ⟨g1,?_,g3⟩
   cases hF:F z.1 with
   | none=>rfl
   | some o'=>have h9:=h2 _ _ hF;rw [h9] at g2;cases g2
theorem HO.perm {os os':vC} {A:cW} (h:HO w0 F M os A) (hp:os.Perm os'):HO w0 F M os' A :=
 ⟨(hp.map _).nodup_iff.1 h.nd,fun x hx=>h.at_ x (hp.mem_iff.2 hx),h.h⟩
theorem HO.set {r:Nat} {o o':Obj} {os:vC} {A:cW} (h:HO w0 F M ((r,o)::os) A):HO w0 F (M.set r (.obj o')) ((r,o')::os) A:=by
 obtain ⟨g1,g2,g3⟩:=h.at_ (r,o) List.mem_cons_self
 obtain ⟨n1,n2⟩:=List.nodup_cons.1 h.nd
 refine ⟨h.nd,fun x hx=>?_,h.h.aII g3 g2⟩
 rcases List.mem_cons.1 hx with rfl | hx
 ·exact ⟨g1,g2,Mem.lZ _ _ _⟩
 ·obtain ⟨k1,k2,k3⟩:=h.at_ x (List.mem_cons_of_mem _ hx)
  refine ⟨k1,k2,?_⟩
  rw [Mem.mZ _ _ (show x.1≠r from fun e=>n1 (List.mem_map.2 ⟨x,hx,e⟩))]
  exact k3
theorem HO.new {r:Nat} {o:Obj} {os:vC} {A:cW} (h:HO w0 F M os A) (hw:w0.heap.size≤r) (hm:M r = none):HO w0 F (M.set r (.obj o)) ((r,o)::os) A:=by
 refine ⟨List.nodup_cons.2 ⟨fun hm'=>?_,h.nd⟩,fun x hx=>?_,h.h.aI4 hm⟩
 ·obtain ⟨y,hy,e⟩:=List.mem_map.1 hm'
  have:=(h.at_ y hy).2.2
  rw [show y.1 = r from e,hm] at this;cases this
 ·rcases List.mem_cons.1 hx with rfl | hx
  ·exact ⟨hw,le_none h.h.fr hm,Mem.lZ _ _ _⟩
  ·obtain ⟨k1,k2,k3⟩:=h.at_ x hx
   refine ⟨k1,k2,?_⟩
   rw [Mem.mZ _ _ (fun e=>by rw [e,hm] at k3;cases k3)]
   exact k3
theorem HO.of {A:cW} (h:aA w0 F M A):HO w0 F M [] A:=⟨List.nodup_nil,fun x hx=>(by cases hx),h⟩
abbrev dL:=Int × Int
def bV (r:dL):Value:=.agg #[.int .i64 r.1,.int .i64 r.2]
end
theorem aE6 (k k':dL):dT PP (Op.equal 33 (bV k) (bV k')) = some (decide (k = k')):=by
 have:=qI (P:=PP) (d:=9999) (es:=[k.1 == k'.1,k.2 == k'.2]) (xs:=#[.int .i64 k.1,.int .i64 k.2]) (ys:=#[.int .i64 k'.1,.int .i64 k'.2]) Tryz.underlying33 (by kernel_rfl)
  ⟨by decide,⟨.int .i64 k.1,.int .i64 k'.1,by kernel_rfl,by kernel_rfl,lL Tryz.underlying3 k.1 k'.1⟩,by decide,⟨.int .i64 k.2,.int .i64 k'.2,by kernel_rfl,by kernel_rfl,lL Tryz.underlying3 k.2 k'.2⟩,trivial⟩
 have e:([k.1 == k'.1,k.2 == k'.2]:List Bool).all id = decide (k = k'):=by
  rw [Bool.eq_iff_iff]
  simp only [List.all_cons,List.all_nil,id,Bool.and_true,Bool.and_eq_true,beq_iff_eq,decide_eq_true_eq]
  exact ⟨fun h=>Prod.ext h.1 h.2,fun h=>by rw [h];exact ⟨rfl,rfl⟩⟩
 rw [←e];exact this
theorem oR:aAU PP 33 bV:=by
 refine aDr Tryz.underlying33 (fun k=>⟨_,rfl⟩) aE6 (fun b k=>?_) fun k=>?_
 ·obtain ⟨a,g⟩:=k
  show dT PP (Instr.checkKey b 10000 33 (.agg #[.int .i64 a,.int .i64 g])) = _
  kernel_rfl
 ·show Instr.sameBits (9998 + 1 + 1) (.agg #[.int .i64 k.1,.int .i64 k.2]) (.agg #[.int .i64 k.1,.int .i64 k.2]) = true
  simp [Instr.sameBits]
theorem aIf (b:Bool) (k:Int):dT PP (Instr.checkKey b 10000 3 (.int .i64 k)) = some ():=by kernel_rfl
theorem aAj:aAU PP 3 (Value.int .i64):=aG3 Tryz.underlying3 aIf
end HL
namespace HL
section
variable {w0:World} {F M M':Mem} {os:vC} {A B D E G:cW}
theorem HO.le (h:HO w0 F M os A) (hl:Mem.le M M'):HO w0 F M' os A :=
 ⟨h.nd,fun x hx=>⟨(h.at_ x hx).1,(h.at_ x hx).2.1,hl _ _ (h.at_ x hx).2.2⟩,h.h.le hl⟩
theorem HO.fr (h:HO w0 F M os A):Mem.le F M:=h.h.fr
theorem HO.fQ {F':Mem} (h:HO w0 F' M os A) (hl:Mem.le F F'):HO w0 F M os A:=by
 refine ⟨h.nd,fun x hx=>⟨(h.at_ x hx).1,?_,(h.at_ x hx).2.2⟩,h.h.fQ hl⟩
 cases hf:F x.1 with
 | none=>rfl
 | some o=>have:=hl _ _ hf;rw [(h.at_ x hx).2.1] at this;cases this
theorem HO.aY (h:HO w0 F M os A) (hi:aA w0 F M A→aA w0 F M B):HO w0 F M os B:=⟨h.nd,h.at_,hi h.h⟩
theorem HO.get (h:HO w0 F M os A) {r:Nat} {o:Obj} (hm:(r,o)∈os):w0.heap.size≤r∧M r = some (.obj o):=⟨(h.at_ _ hm).1,(h.at_ _ hm).2.2⟩
theorem HO.newRow (h:HO w0 F M os A) {b:Nat} (hb:M b = none) (hw:w0.heap.size≤b) (cs:List Value) (e:TypeId):HO w0 F (M.set b (.row cs e)) os (star (aW b cs e) A):=by
 refine ⟨h.nd,fun x hx=>?_,h.h.new hb hw cs e⟩
 obtain ⟨g1,g2,g3⟩:=h.at_ x hx
 refine ⟨g1,g2,?_⟩
 rw [Mem.mZ _ _ (fun e=>by rw [e,hb] at g3;cases g3)]
 exact g3
theorem HO.aCZ {b:Nat} {cs cs':List Value} {e e':TypeId} (h:HO w0 F M os (star (aW b cs e) A)):HO w0 F (M.set b (.row cs' e')) os (star (aW b cs' e') A):=by
 have ho:=h.h.aZ
 refine ⟨h.nd,fun x hx=>?_,h.h.jX⟩
 obtain ⟨g1,g2,g3⟩:=h.at_ x hx
 refine ⟨g1,g2,?_⟩
 rw [Mem.mZ _ _ (fun e=>by rw [e,ho.2] at g3;cases g3)]
 exact g3
theorem HO.fE {b:Nat} {cs:List Value} {e:TypeId} (h:HO w0 F M os (star (aW b cs e) A)):∃ F',Mem.le F F'∧cN w0 F' b cs e∧HO w0 F' M os A:=by
 have ho:=h.h.aZ
 have hF:F b = none:=by
  obtain ⟨r,⟨r1,r2,rfl,h1,h2⟩,h3⟩:=h.h
  rw [h1] at h3
  exact (h3.at_ (b,cs,e) List.mem_cons_self).2.1
 have eQ:∀ x∈os,x.1≠b:=fun x hx e=>by
  have:=(h.at_ x hx).2.2
  rw [e,ho.2] at this;cases this
 refine ⟨F.set b (.row cs e),Mem.fO _ hF,⟨ho.1,Mem.lZ _ _ _⟩,h.nd,fun x hx=>?_,?_⟩
 ·obtain ⟨g1,g2,g3⟩:=h.at_ x hx
  exact ⟨g1,by rw [Mem.mZ _ _ (eQ x hx)];exact g2,g3⟩
 ·obtain ⟨r,⟨r1,r2,rfl,h1,h2⟩,h3⟩:=h.h
  rw [h1] at h3
  have fS:=h3.nd
  simp only [List.cons_append,List.nil_append,List.map_cons,List.nodup_cons] at fS
  refine ⟨r2,h2,fS.2,fun x hx=>?_,fun y o hy=>?_⟩
  ·obtain ⟨g1,g2,g3⟩:=h3.at_ x (List.mem_cons_of_mem _ hx)
   refine ⟨g1,?_,g3⟩
   rw [Mem.mZ _ _ (show x.1≠b from fun e=>fS.1 (List.mem_map.2 ⟨x,hx,e⟩))]
   exact g2
  ·by_cases e1:y = b
   ·subst e1
    rw [Mem.lZ] at hy
    cases hy
    exact ho.2
   ·rw [Mem.mZ _ _ e1] at hy
    exact h3.fr y o hy
theorem HO.xJ (h:HO w0 F M os A):∃ F',aA w0 F' M A∧Mem.le F F'∧∀ M' A',aA w0 F' M' A'→HO w0 F M' os A':=h.aside
theorem HO.aAK (h:HO w0 F M os (star A B)):∃ F',aA w0 F' M B∧Mem.le F F'∧∀ M' B',aA w0 F' M' B'→HO w0 F M' os (star A B'):=by
 obtain ⟨F1,h1,l1,k1⟩:=h.aside
 obtain ⟨F2,h2,l2,k2⟩:=h1.last
 exact ⟨F2,h2,Mem.le_trans l1 l2,fun M' B' h'=>k1 _ _ (k2 _ _ h')⟩
theorem HO.aKi (h:HO w0 F M os (star A (star B D))):∃ F',aA w0 F' M D∧Mem.le F F'∧∀ M' D',aA w0 F' M' D'→HO w0 F M' os (star A (star B D')):=by
 obtain ⟨F1,h1,l1,k1⟩:=h.aAK
 obtain ⟨F2,h2,l2,k2⟩:=h1.last
 exact ⟨F2,h2,Mem.le_trans l1 l2,fun M' B' h'=>k1 _ _ (k2 _ _ h')⟩
theorem HO.aK0 (h:HO w0 F M os (star A (star B (star D E)))):∃ F',aA w0 F' M E∧Mem.le F F'∧∀ M' E',aA w0 F' M' E'→HO w0 F M' os (star A (star B (star D E'))):=by
 obtain ⟨F1,h1,l1,k1⟩:=h.aKi
 obtain ⟨F2,h2,l2,k2⟩:=h1.last
 exact ⟨F2,h2,Mem.le_trans l1 l2,fun M' B' h'=>k1 _ _ (k2 _ _ h')⟩
theorem jJ (h:HO w0 F M os A) {zs:List Value} {T:TypeId} {K:Nat→Mem→Prop} (hK:∀ b M',Mem.le M M'→HO w0 F M' os (star (aW b zs T) A)→K b M'):(aJ PP w0).nw zs T K M:=fun b hb hw =>
 hK b _ (Mem.fO _ hb) (h.newRow hb hw zs T)
theorem rT (h:HO w0 F M os A) {zs:List Value} {T:TypeId} {K:Nat→Mem→Prop} (hK:∀ b F' M',Mem.le F F'→Mem.le M M'→cN w0 F' b zs T→HO w0 F' M' os A→K b M'):(aJ PP w0).nw zs T K M:=fun b hb hw=>by
 obtain ⟨F',l1,o1,h1⟩:=(h.newRow hb hw zs T).fE
 exact hK b F' _ l1 (Mem.fO _ hb) o1 h1
theorem wA {b:Nat} {zs vs:List Value} {T:TypeId} (hg:gE PP T vs.length = true) (hz:zs.length = vs.length) (hone:∀ v∈vs,bR v = true) (h:HO w0 F M os (star (aW b zs T) A)) {K:Mem→Prop} (hK:∀ F' M',Mem.le F F'→cN w0 F' b vs T→HO w0 F' M' os A→K M') :
  (aJ PP w0).st T ⟨b,0,none⟩ (.agg vs.toArray) (fun M2=>K M2) M:=by
 refine gG hg h.h.aZ (by omega) hone ?_
 have h2:=h.aCZ (cs':=dZ zs 0 vs) (e':=T)
 have e0:dZ zs 0 vs = vs:=by
  have:=eO [] zs [] vs hz.symm (o:=0) rfl
  simpa using this
 rw [e0] at h2 ⊢
 obtain ⟨F',l1,o1,h3⟩:=h2.fE
 exact hK F' _ l1 o1 h3
theorem stW {b:Nat} {zs vs:List Value} {T:TypeId} (hg:gE PP T vs.length = true) (hz:zs.length = vs.length) (hone:∀ v∈vs,bR v = true) (h:HO w0 F M os (star (aW b zs T) A)) {K:Mem→Prop} (hK:∀ M',HO w0 F M' os (star (aW b vs T) A)→K M') :
  (aJ PP w0).st T ⟨b,0,none⟩ (.agg vs.toArray) (fun M2=>K M2) M:=by
 refine gG hg h.h.aZ (by omega) hone ?_
 have h2:=h.aCZ (cs':=dZ zs 0 vs) (e':=T)
 have e0:dZ zs 0 vs = vs:=by
  have:=eO [] zs [] vs hz.symm (o:=0) rfl
  simpa using this
 rw [e0] at h2 ⊢
 exact hK _ h2
theorem aCi {b o:Nat} {zs:List Value} {T t:TypeId} {v:Value} (ht:hJ PP t = true) (ho:o < zs.length) (hv:bR v = true) (hc:v.cells = #[v]) (h:HO w0 F M os (star (aW b zs T) A)) {K:Mem→Prop} (hK:∀ M',HO w0 F M' os (star (aW b (zs.set o v) T) A)→K M') :
  (aJ PP w0).st t ⟨b,o,none⟩ v (fun M2=>K M2) M :=
 gA ht h.h.aZ ho hv hc (hK _ h.aCZ)
theorem kE {zs vs:List Value} {T:TypeId} (hg:gE PP T vs.length = true) (hz:zs.length = vs.length) (hone:∀ v∈vs,bR v = true) (h:HO w0 F M os A) {K:Nat→Mem→Prop} (hK:∀ b F' M',Mem.le F F'→cN w0 F' b vs T→HO w0 F' M' os A→K b M') :
  (aJ PP w0).nw zs T (fun b M1=>(aJ PP w0).st T ⟨b,0,none⟩ (.agg vs.toArray) (fun M2=>K b M2) M1) M :=
 jJ h fun b M1 _ h1=>wA hg hz hone h1 fun F' M2 l2 o2 h2=>hK b F' M2 l2 o2 h2
theorem jL {b:Nat} {zs vs:List Value} {T:TypeId} (hg:gE PP T vs.length = true) (hz:zs.length = vs.length) (hone:∀ v∈vs,bR v = true) (h:HO w0 F M os (star (aW b zs T) A)) {K:VP} (hK:∀ M',HO w0 F M' os A→K (.agg vs.toArray) M') :
  (aJ PP w0).st T ⟨b,0,none⟩ (.agg vs.toArray) (fun M1=>ob ((aJ PP w0).rdv T (.pointer (some ⟨b,0,none⟩)) M1) fun v=>K v M1) M:=by
 refine stW hg hz hone h fun M1 h1=>?_
 have o1:=h1.h.aZ
 rw [pX,cR (cs:=vs) hg (fun j u hj=>by rw [add_eq,aM o1,Nat.zero_add];exact hj),aC]
 exact hK M1 ⟨h1.nd,h1.at_,h1.h.right⟩
theorem fF {b:Nat} {vs:List Value} {T e:TypeId} (hg:gE PP T vs.length = true) (h:cN w0 M b vs e):(aJ PP w0).ld T ⟨b,0,none⟩ M = some (.agg vs.toArray) :=
 cR (cs:=vs) hg (fun j u hj=>by rw [add_eq,aM h,Nat.zero_add];exact hj)
theorem kQ {b o:Nat} {cs vs:List Value} {T e:TypeId} (hg:gE PP T vs.length = true) (h:cN w0 M b cs e) (hc:∀ j u,vs[j]? = some u→cs[o + j]? = some u):(aJ PP w0).ld T ⟨b,o,none⟩ M = some (.agg vs.toArray) :=
 cR (cs:=vs) hg (fun j u hj=>by rw [add_eq,aM h];exact hc j u hj)
theorem mQ {b o:Nat} {cs:List Value} {t e:TypeId} (ht:hJ PP t = true) (h:cN w0 M b cs e) {v:Value} (hv:cs[o]? = some v):(aJ PP w0).ld t ⟨b,o,none⟩ M = some v:=by
 rw [aP ht,aM h];exact hv
end
theorem iO {x y:Int}:∀ v∈([.int .i64 x,.int .i64 y]:List Value),bR v = true:=by
 intro v hv
 simp only [List.mem_cons,List.not_mem_nil,or_false] at hv
 rcases hv with rfl | rfl <;> rfl
theorem tE {x y z:Int}:∀ v∈([.int .i64 x,.int .i64 y,.int .i64 z]:List Value),bR v = true:=by
 intro v hv
 simp only [List.mem_cons,List.not_mem_nil,or_false] at hv
 rcases hv with rfl | rfl | rfl <;> rfl
theorem bA:gE PP 33 2 = true:=W.g33
theorem vQ:gE PP 149 3 = true:=W.aBx
theorem rM:gE PP 153 3 = true:=W.aBt
theorem aCC:gE PP 44 2 = true:=W.g44
section
variable {w0:World} {F M:Mem} {R:VP} {p:Nat} {Q:cW}
theorem wZ {P:PS V3} {a g:Int} {v:V3} (h:aA w0 F M (star (wW p P) Q)) (hb:P.l.length≤100000) (hw:P.find a g = some v) (h1:∀ M',Mem.le M M'→R (.tuple #[.agg #[.int .i64 v.1,.int .i64 v.2.1,.int .i64 v.2.2],.int .i64 0]) M') :
  C PP w0 Id.jR #[.pointer (some ⟨p,0,none⟩),.agg #[.int .i64 a,.int .i64 g]] R M :=
 aJO h hb (fun v' hv=>by rw [hw] at hv;cases hv;exact h1) (fun hf=>by rw [hw] at hf;cases hf)
theorem aAc {P:PS V3} {a g:Int} {v:V3} (h:aA w0 F M (star (qU p P) Q)) (hb:P.l.length≤100000) (hw:P.find a g = some v) (h1:∀ M',Mem.le M M'→R (.tuple #[.agg #[.int .i64 v.1,.int .i64 v.2.1,.int .i64 v.2.2],.int .i64 0]) M') :
  C PP w0 Id.jP #[.pointer (some ⟨p,0,none⟩),.agg #[.int .i64 a,.int .i64 g]] R M :=
 aJn h hb (fun v' hv=>by rw [hw] at hv;cases hv;exact h1) (fun hf=>by rw [hw] at hf;cases hf)
end
end HL
namespace HL
namespace ST
theorem aIM {α β:AS} {m w:Tn} {k:Nat} (hm:yV α m) (hw:yV α w) (hn:(eR m ++ eR w).Nodup) (g1:β.get w.n 1 = (m.n:Int)) (g4:β.get w.n 4 = (k:Int)) (m0:β.get m.n 0 = (w.n:Int)) (m3:β.get m.n 3 = w.c.root)
  (hg:∀ c g,(c≠w.n∨(g≠1∧g≠4))→(c≠m.n∨(g≠0∧g≠3))→β.get c g = α.get c g):yV β ⟨w.n,k,node m.n m.k m.c w.c⟩:=by
 obtain ⟨n1,n2,n3⟩:=List.nodup_append.1 hn
 have hmw:m.n≠w.n:=n3 m.n List.mem_cons_self w.n List.mem_cons_self
 obtain ⟨a1,a2⟩:=List.nodup_cons.1 n1
 obtain ⟨b1,b2⟩:=List.nodup_cons.1 n2
 refine ⟨g1,g4,m0,?_,m3,?_,?_,?_⟩
 ·rw [hg m.n 1 (.inl hmw) (.inr (by omega))];exact hm.1
 ·rw [hg m.n 4 (.inl hmw) (.inr (by omega))];exact hm.2.1
 ·refine hm.2.2.congr fun x hx f _=>hg x f (.inl fun e=>?_) (.inl fun e=>a1 (e▸hx))
  exact n3 x (List.mem_cons_of_mem _ hx) w.n List.mem_cons_self e
 ·refine hw.2.2.congr fun x hx f _=>hg x f (.inl fun e=>b1 (e▸hx)) (.inl fun e=>?_)
  exact n3 m.n List.mem_cons_self x (List.mem_cons_of_mem _ hx) e.symm
def sU (f:Nat→cC) (t u:Tn):Tn:=if Bf (f u.n) (f t.n) then lk t u else lk u t
theorem aEa (m w:Tn):(eR (lk m w)).Perm (eR m ++ eR w):=by
 show (w.n::m.n::(aO m.c ++ aO w.c)).Perm (m.n::(aO m.c ++ w.n::aO w.c))
 refine (List.Perm.swap _ _ _).trans (List.Perm.cons _ ?_)
 exact List.perm_middle.symm
theorem aJc (m w:Tn):(eR (und m w)).Perm (eR m ++ eR w):=aEa m w
theorem aEZ (f:Nat→cC) (t u:Tn):(eR (sU f t u)).Perm (eR t ++ eR u):=by
 unfold sU;split
 ·exact aEa t u
 ·exact (aEa u t).trans List.perm_append_comm
theorem aLc (f:Nat→cC) (t u:Tn):(sU f t u).n = t.n∨(sU f t u).n = u.n:=by
 unfold sU;split
 ·exact .inr rfl
 ·exact .inl rfl
theorem aJ1 (f:Nat→cC) {t u:Tn} (e:t.k = u.k):(sU f t u).k = t.k + 1:=by
 unfold sU;split
 ·show u.k + 1 = _;omega
 ·rfl
theorem aHJ (f:Nat→cC) {z:Nat} {t u:Tn} (hz:1≤z) (h1:wS z t) (h2:wS z u) (e:t.k = u.k):wS z (sU f t u)∧(dA (sU f t u).c).length≤z * t.k + 1:=by
 unfold sU;split
 ·have:=aHl hz h1 h2 e;rw [e];exact this
 ·exact aHl hz h2 h1 e.symm
theorem aIb {f:Nat→cC} {t u:Tn} (h1:y8 f t) (h2:y8 f u) (eQ:(f t.n).1≠(f u.n).1):y8 f (sU f t u):=by
 unfold sU;split
 ·rename_i hb;exact aBh h1 h2 hb
 ·rename_i hb;exact aBh h2 h1 (Bf.tot hb fun e=>eQ e.symm)
theorem aJ5 {α β:AS} {k:Int} {f:Nat→cC} {N:List Nat} {n m:Nat} (h:Lb α f N) (fS:(bE f N).Nodup) (hn:n∈N) (hm:m∈N) (eQ:n≠m)
  (hs:AS.Sm k ((((α.put n 6 ((f m).1:Int)).put (f m).1 9 (n:Int)).put m 6 ((f n).1:Int)).put (f n).1 9 (m:Int)) β):Lb β (sw f n m) N:=by
 have hij:(f n).1≠(f m).1:=fun e=>eQ (kO fS n hn m hm e)
 have g:∀ c x,β.get c x = if c = (f n).1∧x = 9 then (m:Int) else if c = m∧x = 6 then ((f n).1:Int) else if c = (f m).1∧x = 9 then (n:Int) else if c = n∧x = 6 then ((f m).1:Int) else α.get c x:=fun c x=>by rw [hs.get];rfl
 have gl:∀ c,β.live c = α.live c:=fun c=>by rw [hs.live];rfl
 intro x hx
 have hX:=h x hx
 have hN:=h n hn
 have hM:=h m hm
 unfold sw
 by_cases e1:x = n
 ·subst e1
  rw [if_pos rfl]
  refine ⟨(gl _).trans hX.ln,(gl _).trans hM.li,?_,?_,?_,?_⟩
  ·rw [g,if_neg (by omega),if_neg (by omega),if_neg (by omega),if_pos ⟨rfl,rfl⟩]
  ·rw [g,if_neg (fun e=>hij e.1.symm),if_neg (by omega),if_pos ⟨rfl,rfl⟩]
  ·rw [g,if_neg (by omega),if_neg (by omega),if_neg (by omega),if_neg (by omega)];exact hM.k
  ·rw [g,if_neg (by omega),if_neg (by omega),if_neg (by omega),if_neg (by omega)];exact hM.s
 ·rw [if_neg e1]
  by_cases e2:x = m
  ·subst e2
   rw [if_pos rfl]
   refine ⟨(gl _).trans hX.ln,(gl _).trans hN.li,?_,?_,?_,?_⟩
   ·rw [g,if_neg (by omega),if_pos ⟨rfl,rfl⟩]
   ·rw [g,if_pos ⟨rfl,rfl⟩]
   ·rw [g,if_neg (by omega),if_neg (by omega),if_neg (by omega),if_neg (by omega)];exact hN.k
   ·rw [g,if_neg (by omega),if_neg (by omega),if_neg (by omega),if_neg (by omega)];exact hN.s
  ·rw [if_neg e2]
   have i1:(f x).1≠(f n).1:=fun e=>e1 (kO fS x hx n hn e)
   have i2:(f x).1≠(f m).1:=fun e=>e2 (kO fS x hx m hm e)
   refine ⟨(gl _).trans hX.ln,(gl _).trans hX.li,?_,?_,?_,?_⟩
   ·rw [g,if_neg (by omega),if_neg (by omega),if_neg (by omega),if_neg (by omega)];exact hX.it
   ·rw [g,if_neg (by omega),if_neg (by omega),if_neg (by omega),if_neg (by omega)];exact hX.nd
   ·rw [g,if_neg (by omega),if_neg (by omega),if_neg (by omega),if_neg (by omega)];exact hX.k
   ·rw [g,if_neg (by omega),if_neg (by omega),if_neg (by omega),if_neg (by omega)];exact hX.s
end ST
section
variable {w0:World} {M F:Mem} {R:VP} {a:Nat} {α:AS}
open Go.Proofs.YtodobkbnmjgkdaaGreat.HL.ST
theorem aDj (hA:aA w0 F M (aF a α)) {n up:Nat} (hn:α.live n = true) (hu:α.live up = true) {v:Int} (hv:α.get up 1 = v) (hc:v = -1∨∃ y:Nat,v = (y:Int)∧α.live y = true)
  (h:∀ M' β,aA w0 F M' (aF a β)→AS.Sm 4 (((α.put n 3 v).put n 0 (up:Int)).put up 1 (n:Int)) β→R (.tuple #[]) M'):C PP w0 Id.gU #[.pointer (some ⟨a,0,none⟩),.int .i64 (n:Int),.int .i64 (up:Int)] R M:=by
 apply gU.go
 unfold gU.T aL
 refine eT hA fun M1 hA1=>?_
 rw [show α.fN (up:Int) 1 = v from AS.j5 hA.inv (f:=1) hu (by omega) hv hc]
 simp only [go_sem]
 refine gV hA1 fun M2 hA2=>?_
 rw [show α.tick.lS (n:Int) 3 v = α.tick.put n 3 v from AS.cO (α:=α.tick) (f:=3) hn (by omega) _] at hA2
 simp only [go_sem]
 refine gV hA2 fun M3 hA3=>?_
 rw [show (α.tick.put n 3 v).tick.lS (n:Int) 0 (up:Int) = (α.tick.put n 3 v).tick.put n 0 (up:Int) from AS.cO (α:=(α.tick.put n 3 v).tick) (f:=0) hn (by omega) _] at hA3
 simp only [go_sem]
 refine gV hA3 fun M4 hA4=>?_
 rw [show ((α.tick.put n 3 v).tick.put n 0 (up:Int)).tick.lS (up:Int) 1 (n:Int) = ((α.tick.put n 3 v).tick.put n 0 (up:Int)).tick.put up 1 (n:Int) from AS.cO (α:=((α.tick.put n 3 v).tick.put n 0 (up:Int)).tick) (f:=1) hu (by omega) _] at hA4
 simp only [go_sem]
 exact h M4 _ hA4 ((((((((AS.aN (α:=α)).put n 3 v).trans AS.aN).put n 0 (up:Int)).trans AS.aN).put up 1 (n:Int)).trans AS.aN).mono (by omega))
theorem aFa (hA:aA w0 F M (aF a α)) {f:Nat→cC} {t u:Tn} (ht:yV α t) (hu:yV α u) (hl:Lb α f (eR t ++ eR u)) (hn:(eR t ++ eR u).Nodup) (hk:t.k = u.k) (hk2:t.k≤1000000)
  (h:∀ M' β,aA w0 F M' (aF a β)→yV β (sU f t u)→AS.nM (fun c=>c = t.n∨c = u.n) 11 α β→(∀ c g,5≤g→β.get c g = α.get c g)→(∀ g,g≠1→g≠4→β.get (sU f t u).n g = α.get (sU f t u).n g)→R (.int .i64 ((sU f t u).n:Int)) M') :
  C PP w0 Id.cJ #[.pointer (some ⟨a,0,none⟩),.int .i64 (t.n:Int),.int .i64 (u.n:Int),.int .i64 (t.k:Int)] R M:=by
 apply cJ.go
 intro aB H
 unfold cJ.T aL
 have nt:=hl t.n (List.mem_append_left _ List.mem_cons_self)
 have nu:=hl u.n (List.mem_append_right _ List.mem_cons_self)
 refine q8 hA nu nt fun M1 β1 hA1 s1=>?_
 simp only [go_sem]
 have key:∀ (w m:Tn),yV α m→yV α w→(eR m ++ eR w).Nodup→α.live w.n = true→α.live m.n = true→(∀ x∈aO w.c,α.live x = true)→w.k = t.k→sU f t u = lk m w→(m.n = t.n∨m.n = u.n)→(w.n = t.n∨w.n = u.n) →
   cJ.J1 aB (some ⟨a,0,none⟩) (w.n:Int) (m.n:Int) (t.k:Int) M1:=by
  intro w m hm hw fS lw lm lwc hkw he h1 h2
  refine Eq.mpr (H.J1 ..) ?_
  unfold cJ.J1.T aL
  have hwc:w.c.root = -1∨∃ y:Nat,w.c.root = (y:Int)∧β1.live y = true:=by
   cases hc:w.c with
   | nil=>exact .inl rfl
   | node y k c s=>exact .inr ⟨y,rfl,by rw [s1.live];exact lwc y (by rw [hc];simp [aO])⟩
  refine aDj hA1 (n:=m.n) (up:=w.n) (by rw [s1.live];exact lm) (by rw [s1.live];exact lw) (v:=w.c.root) (by rw [s1.get];exact hw.1) hwc fun M2 β2 hA2 s2=>?_
  refine gV hA2 fun M3 hA3=>?_
  rw [bC (by omega)] at hA3
  have lw2:β2.live w.n = true:=by rw [s2.live];show β1.live w.n = true;rw [s1.live];exact lw
  rw [show β2.lS (w.n:Int) 4 ((t.k:Int) + 1) = β2.put w.n 4 ((t.k:Int) + 1) from AS.cO (f:=4) lw2 (by omega) _] at hA3
  simp only [go_sem]
  have s3:AS.Sm 11 ((((α.put m.n 3 w.c.root).put m.n 0 (w.n:Int)).put w.n 1 (m.n:Int)).put w.n 4 ((t.k:Int) + 1)) (β2.put w.n 4 ((t.k:Int) + 1)).tick :=
   ((((((s1.put m.n 3 w.c.root).put m.n 0 (w.n:Int)).put w.n 1 (m.n:Int)).trans s2).put w.n 4 ((t.k:Int) + 1)).trans AS.aN).mono (by omega)
  have hmw:m.n≠w.n:=(List.nodup_append.1 fS).2.2 _ List.mem_cons_self _ List.mem_cons_self
  generalize (β2.put w.n 4 ((t.k:Int) + 1)).tick = γ at hA3 s3
  have g:∀ c x,γ.get c x = if c = w.n∧x = 4 then (t.k:Int) + 1 else if c = w.n∧x = 1 then (m.n:Int) else if c = m.n∧x = 0 then (w.n:Int) else if c = m.n∧x = 3 then w.c.root else α.get c x:=fun c x=>by rw [s3.get];rfl
  have hh:=h M3 γ hA3
  rw [he] at hh
  refine hh ?_ ?_ (fun c x hx=>?_) fun x h1 h4=>?_
  ·refine aIM hm hw fS ?_ ?_ ?_ ?_ fun c x h1 h2=>?_
   ·rw [g,if_neg (by omega),if_pos ⟨rfl,rfl⟩]
   ·rw [g,if_pos ⟨rfl,rfl⟩,hkw];omega
   ·rw [g,if_neg (by omega),if_neg (by omega),if_pos ⟨rfl,rfl⟩]
   ·rw [g,if_neg (by omega),if_neg (by omega),if_neg (by omega),if_pos ⟨rfl,rfl⟩]
   ·rw [g,if_neg (by omega),if_neg (by omega),if_neg (by omega),if_neg (by omega)]
  ·refine ((((((AS.nM.refl (S:=fun c=>c = t.n∨c = u.n) (α:=α)).put h1).put h1).put h2).put h2).trans s3.lN).mono (fun _ h=>h) (by omega)
  ·rw [g,if_neg (by omega),if_neg (by omega),if_neg (by omega),if_neg (by omega)]
  ·show γ.get w.n x = α.get w.n x
   rw [g,if_neg (by omega),if_neg (by omega),if_neg (by omega),if_neg (by omega)]
 have lt:∀ x∈eR t,α.live x = true:=fun x hx=>(hl x (List.mem_append_left _ hx)).ln
 have lu:∀ x∈eR u,α.live x = true:=fun x hx=>(hl x (List.mem_append_right _ hx)).ln
 by_cases hb:Bf (f u.n) (f t.n)
 ·rw [decide_eq_true hb,dY]
  exact key u t ht hu hn (lu _ List.mem_cons_self) (lt _ List.mem_cons_self) (fun x hx=>lu x (List.mem_cons_of_mem _ hx)) hk.symm (by unfold sU;rw [if_pos hb]) (.inl rfl) (.inr rfl)
 ·rw [decide_eq_false hb,mY]
  exact key t u hu ht (List.perm_append_comm.nodup_iff.1 hn) (lt _ List.mem_cons_self) (lu _ List.mem_cons_self) (fun x hx=>lt x (List.mem_cons_of_mem _ hx)) rfl (by unfold sU;rw [if_neg hb]) (.inr rfl) (.inl rfl)
theorem aDR (hA:aA w0 F M (aF a α)) {b:ST} {up:Int} (hs:St α up b) (hl:∀ n∈aO b,α.live n = true) (hn:(aO b).Nodup)
  (h:∀ M' s β,aA w0 F M' (star (pG s ((aU ((dA b).map (·.n))).map (Value.int .i64))) (aF a β))→AS.Sm ((dA b).length) α β→R s.v M') :
  C PP w0 Id.cL #[.pointer (some ⟨a,0,none⟩),.int .i64 b.root,.int .i64 3] R M:=by
 apply cL.go
 intro aB H
 unfold cL.T aL
 have hI:=hA.inv
 have hI65:=hI.n
 have hlen:=mT α.n _ hn fun x hx=>AS.cE hI (hl x hx)
 have eQ:∀ (b:ST),(dA b).length≤(aO b).length:=fun b=>by
  induction b with
  | nil=>simp [dA]
  | node n k c s _ ih=>simp only [dA,aO,List.length_cons,List.length_append];omega
 have key:∀ (c:ST) (out:List Nat) (s:SV) (M1:Mem) (β:AS) (k:Nat),(dA b).map (·.n) = out ++ (dA c).map (·.n)→St α up c→(∀ n∈aO c,α.live n = true)→aA w0 F M1 (star (pG s ((aU out).map (Value.int .i64))) (aF a β))→AS.Sm (out.length:Int) α β→(dA c).length < k →
   cL.L1 aB k (some ⟨a,0,none⟩) c.root 3 s M1:=by
  intro c
  induction c with
  | nil =>
   intro out s M1 β k he hc hlc hB hsm hk
   obtain ⟨k,rfl⟩:∃ j,k = j + 1:=⟨k - 1,by omega⟩
   refine Eq.mpr (H.L1 ..) ?_
   unfold cL.L1.T aL
   refine wJ hB.right ?_
   rw [show ST.nil.root = -1 from rfl,AS.wC]
   simp only [bT,mY]
   have e0:(dA b).map (·.n) = out:=by rw [he];simp [dA]
   refine h M1 s β (by rw [e0];exact hB) (hsm.mono ?_)
   have:=congrArg List.length e0
   rw [List.length_map] at this;omega
  | node n kk c s _ ih =>
   intro out sO M1 β k he hc hlc hB hsm hk
   obtain ⟨k,rfl⟩:∃ j,k = j + 1:=⟨k - 1,by omega⟩
   obtain ⟨h1,h2,h3,h4,h5,h6⟩:=hc
   have hln:=hlc n (by simp [aO])
   have el:=congrArg List.length he
   simp only [List.length_append,List.length_map,dA,List.length_cons] at el hk
   have hb:=eQ b
   refine Eq.mpr (H.L1 ..) ?_
   unfold cL.L1.T aL
   refine wJ hB.right ?_
   rw [show (ST.node n kk c s).root = (n:Int) from rfl,AS.sZ,hsm.live,hln]
   simp only [bT,dY]
   refine vM hB.right ?_
   rw [hsm.n]
   have e0:sO.n = out.length:=by rw [hB.cells.2];simp [aU]
   (rw [aK,eK,if_pos (by omega)];refine Eq.mpr (H.J2 ..) ?_)
   unfold cL.J2.T aL
   refine yU (K:=fun s27 M26=>(aJ PP w0).call _ _ _ M26) hB (by simp [aU];omega) fun M2 sO' hB2=>?_
   obtain ⟨F',hC,hle,back⟩:=hB2.last
   refine eT hC fun M3 hC3=>?_
   rw [show β.fN (n:Int) 3 = s.root from AS.j5 hC.inv (f:=3) (by rw [hsm.live];exact hln) (by omega) (by rw [hsm.get];exact h3) (by
    cases s with
    | nil=>exact .inl rfl
    | node y k' c' s'=>exact .inr ⟨y,rfl,by rw [hsm.live];exact hlc y (by simp [aO])⟩)]
   rw [aK]
   refine ih (out ++ [n]) sO' M3 β.tick k ?_ h6 (fun x hx=>hlc x (by simp [aO,hx])) ?_ ((hsm.trans AS.aN).mono ?_) (by omega)
   ·rw [he];simp [dA]
   ·have:=back M3 _ hC3
    rw [show aU (out ++ [n]) = aU out ++ [(n:Int)] from by simp [aU]]
    exact this
   ·simp
 exact ⟨(dA b).length + 1,key b [] ⟨none,0,0⟩ M α _ (by simp) hs hl (aA.aFh hA) (AS.Sm.refl.mono (by simp)) (by omega)⟩
theorem nQ (hA:aA w0 F M (aF a α)) {b:ST} {up:Int} (hs:St α up b) (hl:∀ n∈aO b,α.live n = true) (hn:(aO b).Nodup)
  (h:∀ M' s β,aA w0 F M' (star (pG s ((aU ((dA b).map (·.n))).map (Value.int .i64))) (aF a β))→AS.Sm ((dA b).length) α β→R s.v M') :
  C PP w0 Id.iS #[.pointer (some ⟨a,0,none⟩),.int .i64 b.root] R M:=by
 apply iS.go
 unfold iS.T aL
 refine aDR hA hs hl hn fun M1 s β hB hsm=>?_
 rw [aR]
 exact h M1 s β hB hsm
theorem aE5 (hA:aA w0 F M (aF a α)) {t:Tn} (hs:yV α t) (hl:∀ n∈eR t,α.live n = true) (hn:(aO t.c).Nodup)
  (h:∀ M' s β,aA w0 F M' (star (pG s ((aU ((dA t.c).map (·.n))).map (Value.int .i64))) (aF a β))→AS.Sm ((dA t.c).length + 1) α β→R s.v M') :
  C PP w0 Id.jA #[.pointer (some ⟨a,0,none⟩),.int .i64 (t.n:Int)] R M:=by
 apply jA.go
 unfold jA.T aL
 refine eT hA fun M1 hA1=>?_
 rw [show α.fN (t.n:Int) 1 = t.c.root from AS.j5 hA.inv (f:=1) (hl _ List.mem_cons_self) (by omega) hs.1 (by
  cases hc:t.c with
  | nil=>exact .inl rfl
  | node y k c s=>exact .inr ⟨y,rfl,hl y (by unfold eR;rw [hc];simp [aO])⟩)]
 rw [aK]
 refine aDR hA1 (hs.2.2.sm AS.aN) (fun x hx=>hl x (List.mem_cons_of_mem _ hx)) hn fun M2 s β hB hsm=>?_
 rw [aR]
 exact h M2 s β hB ((AS.aN.trans hsm).mono (by omega))
theorem aKQ (hA:aA w0 F M (aF a α)) {l:List Tn} {s:SV} (hs:tN w0 F .i64 s (aU (l.map (·.n)))) (ht:∀ t∈l,yV α t) (hl:∀ t∈l,α.live t.n = true) (hn:(aQ l).Nodup) (hb:l.length≤100000)
  (h:∀ M' β,aA w0 F M' (aF a β)→St β (-1) (fo l)→AS.nM (fun c=>∃ t∈l,c = t.n) (2 * l.length) α β→(∀ c g,5≤g→β.get c g = α.get c g)→R (.int .i64 (fo l).root) M') :
  C PP w0 Id.dH #[.pointer (some ⟨a,0,none⟩),SV.v s] R M:=by
 apply dH.go
 intro aB H
 unfold dH.T aL
 have hlen:=hs.len
 simp only [aU,List.length_map] at hlen
 have hnn:(l.map (·.n)).Nodup:=by
  have hsub:∀ (l:List Tn),(l.map (·.n)).Sublist (aQ l):=fun l=>by
   induction l with
   | nil=>exact List.Sublist.refl _
   | cons t l ih=>rw [mR];exact (ih.trans (List.sublist_append_right _ _)).cons_cons _
  exact hn.sublist (hsub l)
 have key:∀ (A B:List Tn) (M1:Mem) (β:AS) (k:Nat),l = A ++ B→aA w0 F M1 (aF a β)→St β (-1) (fo B)→AS.nM (fun c=>∃ t∈B,c = t.n) (2 * B.length) α β→(∀ c g,5≤g→β.get c g = α.get c g)→A.length < k →
   dH.L1 aB k (some ⟨a,0,none⟩) s (fo B).root ((A.length:Int) - 1) M1:=by
  intro A
  induction hA':A.length generalizing A with
  | zero =>
   intro B M1 β k he hB hst hc hg hk
   have:A = []:=List.eq_nil_of_length_eq_zero hA'
   subst this
   obtain ⟨k,rfl⟩:∃ j,k = j + 1:=⟨k - 1,by omega⟩
   refine Eq.mpr (H.L1 ..) ?_
   unfold dH.L1.T aL
   rw [eK,if_neg (by omega)]
   rw [List.nil_append] at he
   subst he
   exact h M1 β hB hst hc hg
  | succ n ih =>
   intro B M1 β k he hB hst hc hg hk
   obtain ⟨A',t,rfl⟩:∃ A' t,A = A' ++ [t]:=by
    rcases List.eq_nil_or_concat A with e | ⟨A',t,e⟩
    ·rw [e] at hA';cases hA'
    ·exact ⟨A',t,by rw [e,List.concat_eq_append]⟩
   rw [List.length_append,List.length_singleton] at hA'
   have hA2:A'.length = n:=by omega
   obtain ⟨k,rfl⟩:∃ j,k = j + 1:=⟨k - 1,by omega⟩
   have htl:t∈l:=by rw [he];simp
   have hlive:β.live t.n = true:=by rw [hc.live];exact hl t htl
   have hget:(aU (l.map (·.n)))[A'.length]? = some (t.n:Int):=by
    rw [he];simp [aU]
   have ll:=congrArg List.length he
   simp only [List.length_append,List.length_singleton] at ll
   refine Eq.mpr (H.L1 ..) ?_
   unfold dH.L1.T aL
   rw [eK,if_pos (by omega)]
   refine rdx (x:=(t.n:Int)) W.c3 hs hB.fr A'.length (by omega) hget ?_
   refine gV hB fun M2 hB2=>?_
   rw [show β.lS (t.n:Int) 3 (fo B).root = β.put t.n 3 (fo B).root from AS.cO (f:=3) hlive (by omega) _] at hB2
   rw [bT]
   refine rdx (x:=(t.n:Int)) W.c3 hs hB2.fr A'.length (by omega) hget ?_
   refine gV hB2 fun M3 hB3=>?_
   rw [show (β.put t.n 3 (fo B).root).tick.lS (t.n:Int) 0 (-1) = (β.put t.n 3 (fo B).root).tick.put t.n 0 (-1) from AS.cO (α:=(β.put t.n 3 (fo B).root).tick) (f:=0) hlive (by omega) _] at hB3
   rw [bT]
   refine rdx (x:=(t.n:Int)) W.c3 hs hB3.fr A'.length (by omega) hget ?_
   have s3:AS.Sm 2 ((β.put t.n 3 (fo B).root).put t.n 0 (-1)) ((β.put t.n 3 (fo B).root).tick.put t.n 0 (-1)).tick:=(((AS.aN (α:=β.put t.n 3 (fo B).root)).put t.n 0 (-1)).trans AS.aN).mono (by omega)
   generalize ((β.put t.n 3 (fo B).root).tick.put t.n 0 (-1)).tick = γ at hB3 s3
   have g:∀ c x,γ.get c x = if c = t.n∧x = 0 then -1 else if c = t.n∧x = 3 then (fo B).root else β.get c x:=fun c x=>by rw [s3.get];rfl
   have hnB:t.n ∉ aQ B∧t.n ∉ aO t.c:=by
    rw [he,lI,lI] at hn
    have h2:=(List.nodup_append.1 hn).2.2
    have h3:=(List.nodup_append.1 (List.nodup_append.1 hn).1).2.1
    refine ⟨fun hm=>h2 t.n (by simp [aQ,eR]) _ hm rfl,fun hm=>?_⟩
    have:aQ [t] = t.n::aO t.c:=by simp [aQ,eR]
    rw [this] at h3
    exact (List.nodup_cons.1 h3).1 hm
   have hcB:∀ x∈aO t.c,β.get x = α.get x:=fun x hx=>by
    funext f
    refine hc.get x ?_ f
    rintro ⟨u,hu,e⟩
    rw [he,lI,lI] at hn
    exact (List.nodup_append.1 hn).2.2 x (by simp [aQ,eR,hx]) u.n (eJ.2 ⟨u,hu,List.mem_cons_self⟩) e
   have htB:∀ f,β.get t.n f = α.get t.n f:=fun f=>by
    refine hc.get t.n ?_ f
    rintro ⟨u,hu,e⟩
    exact hnB.1 (e▸eJ.2 ⟨u,hu,List.mem_cons_self⟩)
   obtain ⟨t1,t2,t3⟩:=ht t htl
   have:=ih A' hA2 (t::B) M3 γ k (by rw [he];simp) hB3 ?_ ?_ (fun c x hx=>?_) (by omega)
   ·rw [show qB (((n + 1:Nat):Int) - 1 - 1) = (n:Int) - 1 from by rw [bC (by omega)];omega]
    exact this
   ·refine ⟨?_,?_,?_,?_,?_,?_⟩
    ·rw [g,if_pos ⟨rfl,rfl⟩]
    ·rw [g,if_neg (by omega),if_neg (by omega),htB];exact t1
    ·rw [g,if_neg (by omega),if_pos ⟨rfl,rfl⟩]
    ·rw [g,if_neg (by omega),if_neg (by omega),htB];exact t2
    ·refine t3.congr fun x hx f _=>?_
     rw [g,if_neg (fun e:x = t.n∧f = 0=>hnB.2 (e.1▸hx)),if_neg (fun e:x = t.n∧f = 3=>hnB.2 (e.1▸hx)),hcB x hx]
    ·refine hst.congr fun x hx f _=>?_
     rw [qH] at hx
     rw [g,if_neg (fun e:x = t.n∧f = 0=>hnB.1 (e.1▸hx)),if_neg (fun e:x = t.n∧f = 3=>hnB.1 (e.1▸hx))]
   ·refine ((((hc.mono (T:=fun c=>∃ u∈t::B,c = u.n) (fun c ⟨u,hu,e⟩=>⟨u,List.mem_cons_of_mem _ hu,e⟩) (Int.le_refl _)).put (c:=t.n) (f:=3) (v:=(fo B).root) ⟨t,List.mem_cons_self,rfl⟩).put (c:=t.n) (f:=0) (v := -1) ⟨t,List.mem_cons_self,rfl⟩).trans s3.lN).mono (fun _ h=>h) ?_
    rw [List.length_cons];omega
   ·rw [g,if_neg (by omega),if_neg (by omega)];exact hg c x hx
 refine ⟨l.length + 1,?_⟩
 rw [show qB (((s.n:Nat):Int) - 1) = (l.length:Int) - 1 from by rw [bC (by omega)];omega]
 exact key l [] M α _ (by simp) hA trivial (AS.nM.refl.mono (fun _ h=>h) (by simp)) (fun _ _ _=>rfl) (by omega)
theorem aAn (hA:aA w0 F M (aF a α)) {f:Nat→cC} {l:List Tn} {s:SV} (hs:tN w0 F .i64 s (aU (l.map (·.n)))) (hl:∀ t∈l,α.Nd t.n (f t.n).1 (f t.n).2) (hd:∀ t∈l,∀ u∈l,(f t.n).1 = (f u.n).1→t.n = u.n) (hb:l.length≤100000)
  (h0:l = []→∀ M' β,aA w0 F M' (aF a β)→AS.Sm 0 α β→R (.int .i64 (-1)) M')
  (h:∀ t∈l,(∀ u∈l,u.n≠t.n→Bf (f t.n) (f u.n))→∀ M' β,aA w0 F M' (aF a β)→AS.Sm (6 * l.length) α β→R (.int .i64 (t.n:Int)) M') :
  C PP w0 Id.bY #[.pointer (some ⟨a,0,none⟩),SV.v s] R M:=by
 apply bY.go
 intro aB H
 unfold bY.T aL
 have hlen:=hs.len
 simp only [aU,List.length_map] at hlen
 have key:∀ (B A:List Tn) (t:Tn) (M1:Mem) (β:AS) (k:Nat),l = A ++ B→t∈A→(∀ u∈A,u.n≠t.n→Bf (f t.n) (f u.n))→aA w0 F M1 (aF a β)→AS.Sm (6 * A.length) α β→B.length < k →
   bY.L1 aB k (some ⟨a,0,none⟩) (t.n:Int) s ((s.n:Nat):Int) (A.length:Int) M1:=by
  intro B
  induction B with
  | nil =>
   intro A t M1 β k he ht hbest hB hsm hk
   obtain ⟨k,rfl⟩:∃ j,k = j + 1:=⟨k - 1,by omega⟩
   rw [List.append_nil] at he
   subst he
   refine Eq.mpr (H.L1 ..) ?_
   unfold bY.L1.T aL
   rw [eK,if_neg (by omega)]
   exact h t ht hbest M1 β hB hsm
  | cons u B ih =>
   intro A t M1 β k he ht hbest hB hsm hk
   obtain ⟨k,rfl⟩:∃ j,k = j + 1:=⟨k - 1,by omega⟩
   have ll:=congrArg List.length he
   simp only [List.length_append,List.length_cons] at ll hk
   have htl:t∈l:=by rw [he];simp [ht]
   have hul:u∈l:=by rw [he];simp
   have hget:(aU (l.map (·.n)))[A.length]? = some (u.n:Int):=by rw [he];simp [aU]
   refine Eq.mpr (H.L1 ..) ?_
   unfold bY.L1.T aL
   rw [eK,if_pos (by omega)]
   refine rdx (x:=(u.n:Int)) W.c3 hs hB.fr A.length rfl hget ?_
   rw [fB,if_neg (by omega)]
   refine q8 hB (hsm.nd (hl u hul)) (hsm.nd (hl t htl)) fun M2 γ hB2 s2=>?_
   rw [bT,eK]
   have hsm2:AS.Sm (6 * ((A ++ [u]).length:Int)) α γ:=(hsm.trans s2).mono (by simp;omega)
   have e1:qB ((A.length:Int) + 1) = ((A ++ [u]).length:Int):=by rw [bC (by omega)];simp
   rw [e1]
   split
   ·rename_i hbf
    refine ih (A ++ [u]) u M2 γ k (by rw [he];simp) (by simp) (fun v hv eQ=>?_) hB2 hsm2 (by omega)
    rcases List.mem_append.1 hv with hv | hv
    ·by_cases e:v.n = t.n
     ·rw [e];exact hbf
     ·exact hbf.tr (hbest v hv e)
    ·rw [List.mem_singleton.1 hv] at eQ
     exact absurd rfl eQ
   ·rename_i hbf
    refine ih (A ++ [u]) t M2 γ k (by rw [he];simp) (by simp [ht]) (fun v hv eQ=>?_) hB2 hsm2 (by omega)
    rcases List.mem_append.1 hv with hv | hv
    ·exact hbest v hv eQ
    ·rw [List.mem_singleton.1 hv] at eQ ⊢
     exact Bf.tot hbf fun e=>eQ (hd u hul t htl e)
 cases l with
 | nil =>
  refine ⟨1,?_⟩
  refine Eq.mpr (H.L1 ..) ?_
  unfold bY.L1.T aL
  rw [eK,if_neg (by simp at hlen;omega)]
  exact h0 rfl M α hA AS.Sm.refl
 | cons t l =>
  refine ⟨l.length + 2,?_⟩
  simp only [List.length_cons] at hlen hb
  refine Eq.mpr (H.L1 ..) ?_
  unfold bY.L1.T aL
  rw [eK,if_pos (by omega)]
  refine rdx (x:=(t.n:Int)) W.c3 hs hA.fr 0 rfl (by simp [aU]) ?_
  rw [fB,if_pos rfl]
  have e1:qB ((0:Int) + 1) = (([t]:List Tn).length:Int):=by rw [bC (by omega)];rfl
  rw [e1]
  exact key l [t] t M α _ rfl (by simp) (fun u hu eQ=>by rw [List.mem_singleton.1 hu] at eQ;exact absurd rfl eQ) hA (AS.Sm.refl.mono (by simp)) (by omega)
theorem aFG (hA:aA w0 F M (aF a α)) {n m i j:Nat} {e g:cY} (h1:α.Nd n i e) (h2:α.Nd m j g)
  (h:∀ M' β,aA w0 F M' (aF a β)→AS.Sm 6 ((((α.put n 6 (j:Int)).put j 9 (n:Int)).put m 6 (i:Int)).put i 9 (m:Int)) β→R (.tuple #[]) M'):C PP w0 Id.kW #[.pointer (some ⟨a,0,none⟩),.int .i64 (n:Int),.int .i64 (m:Int)] R M:=by
 apply kW.go
 unfold kW.T aL
 simp only [go_sem,Option.isNone_some,mY]
 refine eT hA fun M1 hA1=>?_
 rw [show α.fN (n:Int) 6 = (i:Int) from AS.dE (f:=6) h1.ln (by omega) h1.it (AS.cE hA.inv h1.li)]
 simp only [go_sem]
 refine eT hA1 fun M2 hA2=>?_
 rw [show α.tick.fN (m:Int) 6 = (j:Int) from AS.dE (α:=α.tick) (f:=6) h2.ln (by omega) h2.it (AS.cE hA.inv h2.li)]
 simp only [go_sem]
 refine aAT hA2 h1.ln h2.li fun M3 β3 hA3 s3=>?_
 refine aAT hA3 (by rw [s3.live];exact h2.ln) (by rw [s3.live];exact h1.li) fun M4 β4 hA4 s4=>?_
 exact h M4 β4 hA4 (((((((((AS.aN (α:=α)).trans AS.aN).put n 6 (j:Int)).put j 9 (n:Int)).trans s3).put m 6 (i:Int)).put i 9 (m:Int)).trans s4).mono (by omega))
theorem aAt (hA:aA w0 F M (aF a α)) (any:Bool) {b:ST} {f:Nat→cC} {x:Nat} (hst:St α (-1) b) (hlb:Lb α f (aO b)) (fS:(bE f (aO b)).Nodup) (hx:x∈aO b) (hH:Hol f b x) (hD:any = false→aDd f b x) {m:Nat} (hm:(m5 b x).length≤m)
  (h:∀ M' β f' y,aA w0 F M' (aF a β)→St β (-1) b→Lb β f' (aO b)→y∈aO b→f' y = f x→((aO b).map f').Perm ((aO b).map f)→(any = true→m5 b y = []∧Hol f' b y)→(any = false→OdA f' b)→AS.nM (fun c=>c∈bE f (aO b)) (13 * m + 8) α β→R (.int .i64 (y:Int)) M') :
  C PP w0 Id.sS #[.pointer (some ⟨a,0,none⟩),.int .i64 ((f x).1:Int),.bool any] R M:=by
 apply sS.go
 intro aB H
 unfold sS.T aL
 have hI:=hA.inv
 have hI65:=hI.n
 have hN:=hlb x hx
 have hnn:=iB fS
 have hlen:=mT α.n _ hnn fun y hy=>AS.cE hI (hlb y hy).ln
 refine yK hA fun M1 hA1=>?_
 rw [show α.fN ((f x).1:Int) 9 = (x:Int) from AS.dE (f:=9) hN.li (by omega) hN.nd (AS.cE hI hN.ln)]
 rw [aK]
 have hanc:(m5 b x).length≤(aO b).length:=by
  have hs:∀ (b:ST) (y:Nat),(m5 b y).length≤(aO b).length:=fun b=>by
   induction b with
   | nil=>intro y;simp [m5]
   | node n k c s ihc ihs =>
    intro y
    have h1:=ihc y
    have h2:=ihs y
    unfold m5
    simp only [aO,List.length_cons,List.length_append]
    split
    ·simp
    ·split
     ·rw [List.length_append,List.length_singleton];omega
     ·omega
  exact hs b x
 have key:∀ (l:List Nat) (y:Nat) (g:Nat→cC) (M2:Mem) (β:AS) (j k:Nat),m5 b y = l→y∈aO b→j + l.length = (m5 b x).length→aA w0 F M2 (aF a β)→St β (-1) b→Lb β g (aO b)→(bE g (aO b)).Nodup→g y = f x→((aO b).map g).Perm ((aO b).map f)→Hol g b y→(any = false→aDd g b y) →
   AS.nM (fun c=>c∈bE f (aO b)) (13 * j + 1) α β→l.length < k→sS.L1 aB k (some ⟨a,0,none⟩) any (y:Int) (j:Int) M2:=by
  intro l
  induction l with
  | nil =>
   intro y g M2 β j k ha hy hj hB hs hl hgn hgy hp hho hhd hc hk
   obtain ⟨k,rfl⟩:∃ i,k = i + 1:=⟨k - 1,by omega⟩
   refine Eq.mpr (H.L1 ..) ?_
   unfold sS.L1.T aL
   rw [bX,if_neg (by omega)]
   refine vM hB ?_
   (rw [hc.n,aK,eK,if_pos (by simp at hj;omega)];refine Eq.mpr (H.J2 ..) ?_)
   unfold sS.J2.T aL
   have hup:=aCG hs hy hnn
   rw [ha] at hup
   simp only at hup
   refine eT hB fun M3 hB3=>?_
   rw [show β.fN (y:Int) 0 = -1 from AS.zQ (f:=0) (hl y hy).ln (by omega) hup,aK,fB,if_pos rfl]
   refine h M3 β.tick g y hB3 (hs.sm AS.aN) (hl.sm AS.aN) hy hgy hp (fun _=>⟨ha,hho⟩) (fun e=>hho.done hnn (hhd e) fun p q hpq=>by rw [ha] at hpq;cases hpq) (hc.tick.mono (fun _ h=>h) ?_)
   simp at hj;omega
  | cons p l ih =>
   intro y g M2 β j k ha hy hj hB hs hl hgn hgy hp hho hhd hc hk
   obtain ⟨k,rfl⟩:∃ i,k = i + 1:=⟨k - 1,by omega⟩
   simp only [List.length_cons] at hj hk
   have hpn:p∈aO b:=oY (x:=y) (by rw [ha];simp)
   have hpa:m5 b p = l:=aAN hnn ha
   have hpy:y≠p:=fun e=>oP hnn (x:=y) (by rw [ha,←e];simp)
   refine Eq.mpr (H.L1 ..) ?_
   unfold sS.L1.T aL
   rw [bX,if_neg (by omega)]
   refine vM hB ?_
   (rw [hc.n,aK,eK,if_pos (by omega)];refine Eq.mpr (H.J2 ..) ?_)
   unfold sS.J2.T aL
   have hup:=aCG hs hy hnn
   rw [ha] at hup
   simp only at hup
   refine eT hB fun M3 hB3=>?_
   rw [show β.fN (y:Int) 0 = (p:Int) from AS.dE (f:=0) (hl y hy).ln (by omega) hup (AS.cE hB.inv (hl p hpn).ln),aK,fB,if_neg (by omega)]
   have rise:∀ (M4:Mem) (γ:AS),aA w0 F M4 (aF a γ)→AS.Sm 7 β γ→(any = false→Bf (g y) (g p))→sS.J3 aB k (some ⟨a,0,none⟩) any (y:Int) (j:Int) (p:Int) M4:=by
    intro M4 γ hB4 s4 hbf
    refine Eq.mpr (H.J3 ..) ?_
    unfold sS.J3.T aL
    refine aFG hB4 (s4.nd (hl y hy)) (s4.nd (hl p hpn)) fun M5 δ hB5 s5=>?_
    rw [bC (by omega)]
    have hcel:∀ z∈bE g (aO b),z∈bE f (aO b):=by
     intro z hz
     rcases List.mem_append.1 hz with hz | hz
     ·exact List.mem_append_left _ hz
     ·have h1:=(hp.map (·.1))
      rw [List.map_map,List.map_map] at h1
      exact List.mem_append_right _ (h1.mem_iff.1 hz)
    have cy:y∈bE f (aO b):=List.mem_append_left _ hy
    have cp:p∈bE f (aO b):=List.mem_append_left _ hpn
    have ciy:(g y).1∈bE f (aO b):=hcel _ (List.mem_append_right _ (List.mem_map.2 ⟨y,hy,rfl⟩))
    have cip:(g p).1∈bE f (aO b):=hcel _ (List.mem_append_right _ (List.mem_map.2 ⟨p,hpn,rfl⟩))
    have hst5:St δ (-1) b:=by
     refine hs.congr fun z hz x' hx'=>?_
     rw [s5.get]
     show (if z = (g y).1∧x' = 9 then (p:Int) else if z = p∧x' = 6 then ((g y).1:Int) else if z = (g p).1∧x' = 9 then (y:Int) else if z = y∧x' = 6 then ((g p).1:Int) else γ.get z x') = _
     rw [if_neg (fun e=>rY hgn z hz y hy e.1),if_neg (fun e=>hx' e.2),if_neg (fun e=>rY hgn z hz p hpn e.1),if_neg (fun e=>hx' e.2),s4.get]
    refine ih p (sw g y p) M5 δ (j + 1) k hpa hpn (by omega) hB5 hst5 (aJ5 (hl.sm s4) hgn hy hpn hpy s5) ?_ ?_ ((aER hnn hy hpn).trans hp) (hho.step hnn hy ha) (fun e=>aDd.step hnn hy hho ha (hbf e)) ?_ (by omega)
    ·exact (aK3 hnn hy hpn).nodup_iff.2 hgn
    ·rw [←hgy];unfold sw;rw [if_neg (fun e=>hpy e.symm),if_pos rfl]
    ·refine ((((((hc.trans s4.lN).put (f:=6) (v:=((g p).1:Int)) cy).put (f:=9) (v:=(y:Int)) cip).put (f:=6) (v:=((g y).1:Int)) cp).put (f:=9) (v:=(p:Int)) ciy).trans s5.lN).mono (fun _ h=>h) ?_
     omega
   cases any with
   | true =>
    rw [Bool.not_true,mY]
    exact rise M3 β.tick hB3 (AS.aN.mono (by omega)) (fun e=>by cases e)
   | false =>
    rw [Bool.not_false,dY]
    refine q8 hB3 (AS.aN.nd (hl y hy)) (AS.aN.nd (hl p hpn)) fun M4 γ hB4 s4=>?_
    rw [bT]
    by_cases hbf:Bf (g y) (g p)
    ·rw [decide_eq_true hbf,Bool.not_true,mY]
     exact rise M4 γ hB4 ((AS.aN.trans s4).mono (by omega)) (fun _=>hbf)
    ·rw [decide_eq_false hbf,Bool.not_false,dY]
     have s5:AS.Sm 7 β γ:=(AS.aN.trans s4).mono (by omega)
     refine h M4 γ g y hB4 (hs.sm s5) (hl.sm s5) hy hgy hp (fun e=>by cases e) (fun _=>hho.done hnn (hhd rfl) fun q r hq=>?_) ((hc.trans s5.lN).mono (fun _ h=>h) (by omega))
     rw [ha] at hq
     cases hq
     exact Bf.tot hbf fun e=>hpy (kO hgn y hy p hpn e)
 exact ⟨(m5 b x).length + 1,key (m5 b x) x f M1 α.tick 0 _ rfl hx (by omega) hA1 (hst.sm AS.aN) (hlb.sm AS.aN) fS rfl (List.Perm.refl _) hH hD (AS.aN.lN.mono (fun _ h=>h) (by omega)) (by omega)⟩
end
end HL
namespace HL
section
variable {w0:World} {M M0 F:Mem} {R:VP}
theorem aA.aLY {s:SV} {l:List cY} {Q:cW} (h:aA w0 F M (star (Es s l) Q)):s.n = l.length:=h.xX.len
theorem xV.tail {s:SV} {l:List cY} (h:xV w0 M s l) {i:Nat} (hi:i≤l.length):gN w0 M (if s.c = i then s.a else s.a.map (·.add (i * 2))) (gD (l.drop i)):=fun j v hj=>by
 have h1:=h.cells M (Mem.le_refl _) (i * 2 + j) v (by rw [aAY,List.getElem?_drop] at hj;exact hj)
 obtain ⟨ad,ea,hr⟩:=h1
 have hjl:=(List.getElem?_eq_some_iff.1 hj).1
 rw [eA,List.length_drop] at hjl
 have hlen:=h.len
 have hcap:=h.cap
 rw [if_neg (by omega),ea]
 exact ⟨_,rfl,by rw [add_add];exact hr⟩
end
end HL
namespace HL
abbrev tRk:TypeId:=276
def aEv (l:List cY):Prop:=l.Pairwise fun a b=>a.2≤b.2
theorem aBX {P S T:List cY} {x y:cY}:(P ++ x::(S ++ y::T))[P.length]? = some x:=by simp
theorem aBM {P S T:List cY} {x y:cY}:(P ++ x::(S ++ y::T))[P.length + 1 + S.length]? = some y:=by
 rw [List.getElem?_append_right (by omega),show P.length + 1 + S.length - P.length = S.length + 1 from by omega,List.getElem?_cons_succ]
 simp
theorem aIS {P S T:List cY} {x y:cY}:((P ++ x::(S ++ y::T)).set (P.length + 1 + S.length) x).set P.length y = P ++ y::(S ++ x::T):=by
 rw [List.set_comm _ _ (by omega)]
 rw [List.set_append_right _ _ (Nat.le_refl _),Nat.sub_self,List.set_cons_zero,List.set_append_right _ _ (by omega),show P.length + 1 + S.length - P.length = S.length + 1 from by omega,List.set_cons_succ,
  List.set_append_right _ _ (Nat.le_refl _),Nat.sub_self,List.set_cons_zero]
section
variable {w0:World} {M M0 F:Mem} {R:VP}
theorem xV.ldR {s:SV} {l:List cY} (h:xV w0 M0 s l) {j:Nat} {x:cY} (hj:l[j]? = some x):∃ a,s.a = some a∧∀ M,Mem.le M0 M→(aJ PP w0).ld 276 (a.add (j * 2)) M = some (.agg #[.int .i64 x.1,.int .i64 x.2]):=by
 obtain ⟨a,ea,hr⟩:=h.ad hj
 refine ⟨a,ea,fun M hM=>?_⟩
 obtain ⟨r1,r2⟩:=hr M hM
 exact cR (cs:=[.int .i64 x.1,.int .i64 x.2]) W.aJa (fun f v hv=>by
  match f,hv with
  | 0,hv=>simp at hv;subst hv;rw [add_add];exact r1
  | 1,hv=>simp at hv;subst hv;rw [add_add];exact r2)
theorem rdR {s:SV} {l:List cY} (h:xV w0 M0 s l) (hl:Mem.le M0 M) {i:Int} (j:Nat) (e:i = (j:Int)) {x:cY} (hj:l[j]? = some x) {K:Int→Int→Prop} (hK:K x.1 x.2) :
  nc s.a fun a=>(0≤i∧i < ((s.n:Nat):Int))∧ob ((aJ PP w0).ld 276 (a.add (i.toNat * 2)) M) fun v=>shA v fun l5=>cK l5 fun u6 r7=>lT .i64 u6 fun n8=>cK r7 fun u9 r10=>lT .i64 u9 fun n11=>qA r10 (K n8 n11):=by
 subst e
 obtain ⟨a,ea,hr⟩:=h.ldR hj
 have hlt:=(List.getElem?_eq_some_iff.1 hj).1
 have:=h.len
 rw [ea,aX,Int.toNat_natCast,hr M hl]
 simp only [aC,a9,aT,aK,aS]
 exact ⟨⟨by omega,by omega⟩,hK⟩
theorem aMa {s x:SV} {l m:List cY} {Q:cW} (h:aA w0 F M (star (Es s l) Q)) (hx:xV w0 M x m) (hb:l.length + m.length≤137438953472) {K:VP} (hK:∀ M' s',aA w0 F M' (star (Es s' (l ++ m)) Q)→K s'.v M') :
  (aJ PP w0).app #[274,274] 274 [SV.v s,SV.v x] K M:=by
 obtain ⟨F',h1,h2,h3⟩:=aA.slk h
 have hl:=h1.xX.len
 refine aCQ (k:=2) Tryz.underlying274 W.aIG h2 h1 (news:=gD m) (by rw [eA,hx.len]) (hx.cells M (Mem.le_refl _)) hx.nul (tU m) (by decide) (by rw [hl,hx.len];exact hb) fun M' s' l1 l2 _=>?_
 refine hK M' s' (h3 M' s' _ ?_ l1)
 rw [gQ];exact l2
theorem aLm {P:cW} (h:aA w0 F M P) (x y:Int) {K:VP} (hK:∀ M' s',Mem.le M M'→aA w0 F M' (star (Es s' [(x,y)]) P)→K s'.v M'):(aJ PP w0).bsl 274 1 [(0,.agg #[.int .i64 x,.int .i64 y])] K M:=by
 refine rW (n:=1) (cells:=#[.int .i64 x,.int .i64 y]) Tryz.underlying274 W.aIG (by decide) (by kernel_rfl) fun b hb hw=>?_
 have l1:Mem.le M (M.set b (.row (#[Value.int .i64 x,.int .i64 y]:Array Value).toList 276)):=Mem.fO _ hb
 exact hK _ ⟨some ⟨b,0,none⟩,1,1⟩ l1 (aA.xF h l1 (wD.new (n:=1) hb (cN.new hw) rfl))
theorem stR {s:SV} {l:List cY} {Q:cW} (h:aA w0 F M (star (Es s l) Q)) {i:Int} (j:Nat) (e:i = (j:Int)) (hj:j < l.length) {x y:Int} {K:Mem→Prop} (hK:∀ M',aA w0 F M' (star (Es s (l.set j (x,y))) Q)→K M') :
  nc s.a fun a=>(0≤i∧i < ((s.n:Nat):Int))∧(aJ PP w0).st 276 (a.add (i.toNat * 2)) (.agg #[.int .i64 x,.int .i64 y]) (fun M'=>K M') M:=by
 subst e
 have hr:=h.xX
 obtain ⟨r,⟨r1,r2,rfl,h1,h2⟩,h3⟩:=h
 rcases h1 with ⟨rfl,h0,_⟩ | ⟨b,rest,e,ha,hl,hl2,rfl⟩
 ·have:=hr.len;simp at this;omega
 ·rw [ha,aX,Int.toNat_natCast,add_eq,Nat.zero_add]
  rw [eA] at hl hl2
  refine ⟨⟨by omega,by have:=hr.len;omega⟩,?_⟩
  refine gG (vs:=[.int .i64 x,.int .i64 y]) W.aJa (h3.own List.mem_cons_self) (by rw [List.length_append,eA];simp;omega) (fun v hv=>by simp at hv;rcases hv with rfl | rfl <;> rfl) ?_
  refine hK _ ⟨_,⟨_,r2,rfl,.inr ⟨b,rest,e,ha,by rw [eA,List.length_set];exact hl,by rw [eA,List.length_set];exact hl2,rfl⟩,h2⟩,?_⟩
  have hov:dZ (gD l ++ rest) (j * 2) [.int .i64 x,.int .i64 y] = gD (l.set j (x,y)) ++ rest:=by
   have h1:l = l.take j ++ (l[j]::l.drop (j + 1)):=by rw [←List.drop_eq_getElem_cons hj,List.take_append_drop]
   have h2:l.set j (x,y) = l.take j ++ ((x,y)::l.drop (j + 1)):=by rw [List.set_eq_take_append_cons_drop,if_pos hj]
   rw [h2,gQ,oO]
   conv=>lhs;rw [h1,gQ,oO]
   have:=eO (gD (l.take j)) [.int .i64 l[j].1,.int .i64 l[j].2] (gD (l.drop (j + 1)) ++ rest) [.int .i64 x,.int .i64 y] rfl (o:=j * 2) (by rw [eA,List.length_take];omega)
   simpa using this
  rw [hov]
  exact h3.upd
theorem aLw {s:SV} {l l':List cY} {Q:cW} (h:aA w0 F M (star (Es s l) Q)) {i1 i2:Int} (p q:Nat) (e1:i1 = (p:Int)) (e2:i2 = (q:Int)) {x y:cY} (hp:l[p]? = some x) (hq:l[q]? = some y) (hl:(l.set p y).set q x = l') {K:Mem→Prop} (hK:∀ M',aA w0 F M' (star (Es s l') Q)→K M') :
  nc s.a fun a2=>(0≤i2∧i2 < ((s.n:Nat):Int))∧ob ((aJ PP w0).ld 276 (a2.add (i2.toNat * 2)) M) fun v3=>shA v3 fun l4=>cK l4 fun u5 r6=>lT .i64 u5 fun n7=>cK r6 fun u8 r9=>lT .i64 u8 fun n10=>qA r9
   (nc s.a fun a11=>(0≤i1∧i1 < ((s.n:Nat):Int))∧ob ((aJ PP w0).ld 276 (a11.add (i1.toNat * 2)) M) fun v12=>shA v12 fun l13=>cK l13 fun u14 r15=>lT .i64 u14 fun n16=>cK r15 fun u17 r18=>lT .i64 u17 fun n19=>qA r18
    (nc s.a fun a20=>(0≤i1∧i1 < ((s.n:Nat):Int))∧(aJ PP w0).st 276 (a20.add (i1.toNat * 2)) (.agg #[.int .i64 n7,.int .i64 n10]) (fun M21 =>
     nc s.a fun a22=>(0≤i2∧i2 < ((s.n:Nat):Int))∧(aJ PP w0).st 276 (a22.add (i2.toNat * 2)) (.agg #[.int .i64 n16,.int .i64 n19]) (fun M23=>K M23) M21) M)):=by
 subst hl
 refine rdR h.xX (Mem.le_refl _) q e2 hq ?_
 refine rdR h.xX (Mem.le_refl _) p e1 hp ?_
 have u7:=(List.getElem?_eq_some_iff.1 hp).1
 have hql:=(List.getElem?_eq_some_iff.1 hq).1
 refine stR h p e1 u7 fun M1 h1=>?_
 refine stR h1 q e2 (by simpa using hql) fun M2 h2=>?_
 exact hK M2 h2
theorem aJh {x y:cY} (hx:0≤x.2∧x.2≤1000000) (hy:0≤y.2∧y.2≤1000000) (h:∀ M' n,Mem.le M M'→(n < 0↔x.2 < y.2)→R (.int .i64 n) M'):C PP w0 Id.nE #[.agg #[.int .i64 x.1,.int .i64 x.2],.agg #[.int .i64 y.1,.int .i64 y.2]] R M:=by
 apply nE.go
 unfold nE.T aL
 intro b1 hb1 hw1
 intro b2 hb2 hw2
 have o1:cN w0 (M.set b1 (.row [.int .i64 x.1,.int .i64 x.2] 276)) b1 [.int .i64 x.1,.int .i64 x.2] 276:=cN.new hw1
 have l2:=Mem.fO (M:=M.set b1 (.row [.int .i64 x.1,.int .i64 x.2] 276)) (.row [.int .i64 y.1,.int .i64 y.2] 276) hb2
 have o2:=o1.le l2
 have o3:cN w0 ((M.set b1 (.row [.int .i64 x.1,.int .i64 x.2] 276)).set b2 (.row [.int .i64 y.1,.int .i64 y.2] 276)) b2 [.int .i64 y.1,.int .i64 y.2] 276:=cN.new hw2
 have e1:rd w0 _ ⟨b1,1,none⟩ = some (.int .i64 x.2):=aM (o:=1) o2
 have e3:rd w0 _ ⟨b2,1,none⟩ = some (.int .i64 y.2):=aM (o:=1) o3
 simp only [aP W.c2,add_eq,Nat.zero_add,e1,e3,aC,aK]
 rw [bC (by omega)]
 refine h _ _ (Mem.le_trans (Mem.fO _ hb1) l2) ?_
 by_cases h1:(1:Int) < x.2 - y.2
 ·simp only [if_pos h1];split <;> omega
 ·simp only [if_neg h1];split <;> omega
theorem z4 {s:SV} {Q:cW} (A X B:List cY) {a b:Int} (hrk:∀ x∈X,0≤x.2∧x.2≤1000000) (hb:(A ++ (X ++ B)).length≤1000000) (h:aA w0 F M (star (Es s (A ++ (X ++ B))) Q)) (ea:a = (A.length:Int)) (eb:b = ((A.length + X.length:Nat):Int))
  (hR:∀ M' Z,aEv Z→Z.Perm X→aA w0 F M' (star (Es s (A ++ (Z ++ B))) Q)→R (.tuple #[]) M'):Go.Proofs.YtodobkbnmjgkdaaGreat.HL.C PP w0 Id.jZ #[SV.v s,.int .i64 a,.int .i64 b,.func (.func Id.nE) #[] #[]] R M:=by
 apply jZ.go _ s a b (Id.nE,#[])
 intro aB H
 unfold jZ.T aL
 simp only [List.length_append] at hb
 subst ea eb
 have key:∀ (k:Nat) (Z1 X2:List cY) (M':Mem),X2.length < k→aEv Z1→(Z1 ++ X2).Perm X→aA w0 F M' (star (Es s (A ++ (Z1 ++ (X2 ++ B)))) Q) →
   jZ.L1 aB k s (A.length:Int) ((A.length + X.length:Nat):Int) (Id.nE,#[]) ((A.length + Z1.length:Nat):Int) M':=by
  intro k
  induction k with
  | zero=>intro Z1 X2 M' h1;omega
  | succ k ih =>
   intro Z1 X2 M' hk hsr hp hH
   have hlen:=hp.length_eq
   rw [List.length_append] at hlen
   refine Eq.mpr (H.L1 ..) ?_
   unfold jZ.L1.T aL
   rw [eK]
   split
   ·match X2,hk,hp,hH,hlen with
    | [],_,_,_,hlen=>simp at hlen;omega
    | x::X2,hk,hp,hH,hlen =>
     simp only [List.length_cons] at hk hlen
     have hxr:=hrk x (hp.mem_iff.1 (by simp))
     have key2:∀ (k':Nat) (P S:List cY) (M2:Mem),P.length < k'→Z1 = P ++ S→(∀ y∈S,x.2 < y.2)→aA w0 F M2 (star (Es s (A ++ (P ++ x::(S ++ (X2 ++ B))))) Q) →
       jZ.L2 aB k k' s (A.length:Int) ((A.length + X.length:Nat):Int) (Id.nE,#[]) ((A.length + Z1.length:Nat):Int) ((A.length + P.length:Nat):Int) M2:=by
      intro k'
      induction k' with
      | zero=>intro P S M2 h1;omega
      | succ k' ih2 =>
       intro P S M2 hk' hZ hS h2
       have hzl:=congrArg List.length hZ
       rw [List.length_append] at hzl
       have fin:(∀ y∈P,y.2≤x.2)→∀ M3,aA w0 F M3 (star (Es s (A ++ (P ++ x::(S ++ (X2 ++ B))))) Q)→jZ.L1 aB k s (A.length:Int) ((A.length + X.length:Nat):Int) (Id.nE,#[]) (qB (((A.length + Z1.length:Nat):Int) + 1)) M3:=by
        intro hP M3 h3
        rw [cX (by omega)]
        have:=ih (P ++ x::S) X2 M3 (by omega) (by
         rw [hZ] at hsr
         obtain ⟨q1,q2,q3⟩:=List.pairwise_append.1 hsr
         refine List.pairwise_append.2 ⟨q1,List.pairwise_cons.2 ⟨fun y hy=>Int.le_of_lt (hS y hy),q2⟩,fun u hu v hv=>?_⟩
         rcases List.mem_cons.1 hv with rfl | hv
         ·exact hP u hu
         ·exact q3 u hu v hv) (by
         refine List.Perm.trans ?_ hp
         rw [hZ,List.append_assoc,List.append_assoc,List.cons_append]
         exact (List.perm_middle.symm).append_left P) (by
         rw [show A ++ ((P ++ x::S) ++ (X2 ++ B)) = A ++ (P ++ x::(S ++ (X2 ++ B))) from by simp];exact h3)
        rw [show A.length + (P ++ x::S).length = A.length + Z1.length + 1 from by rw [List.length_append,List.length_cons];omega] at this
        exact this
       refine Eq.mpr (H.L2 ..) ?_
       unfold jZ.L2.T aL
       rw [eK]
       split
       ·rcases List.eq_nil_or_concat P with rfl | ⟨P',y,hPe⟩
        ·simp at *
        ·rw [List.concat_eq_append] at hPe
         subst hPe
         rw [List.length_append,List.length_singleton] at hk' hzl
         have hyr:=hrk y (hp.mem_iff.1 (by rw [hZ];simp))
         have el:A ++ ((P' ++ [y]) ++ x::(S ++ (X2 ++ B))) = (A ++ P') ++ y::([] ++ x::(S ++ (X2 ++ B))):=by simp
         have e0:((A.length + (P' ++ [y]).length:Nat):Int) = (((A ++ P').length + 1 + ([]:List cY).length:Nat):Int):=by simp only [List.length_append,List.length_singleton,List.length_nil];omega
         have e1:qB (((A.length + (P' ++ [y]).length:Nat):Int) - 1) = (((A ++ P').length:Nat):Int):=by
          rw [bC (by simp only [List.length_append,List.length_singleton];omega)];simp only [List.length_append,List.length_singleton];omega
         have h2':=h2
         rw [el] at h2'
         refine rdR h2'.xX (Mem.le_refl _) _ e0 aBM ?_
         refine rdR h2'.xX (Mem.le_refl _) _ e1 aBX ?_
         show Go.Proofs.YtodobkbnmjgkdaaGreat.HL.C PP w0 Id.nE #[.agg #[.int .i64 x.1,.int .i64 x.2],.agg #[.int .i64 y.1,.int .i64 y.2]] _ _
         refine aJh hxr hyr fun M3 nn l3 hnn=>?_
         rw [aK,eK]
         split
         ·rename_i hlt
          refine Eq.mpr (H.J3 ..) ?_
          unfold jZ.J3.T aL
          refine aLw (h2'.le l3) (l':=(A ++ P') ++ x::([] ++ y::(S ++ (X2 ++ B)))) _ _ e0 e1 aBM aBX aIS fun M4 h4=>?_
          rw [e1]
          have:=ih2 P' (y::S) M4 (by omega) (by rw [hZ];simp) (fun z hz=>?_) (by
           rw [show A ++ (P' ++ x::(y::S ++ (X2 ++ B))) = (A ++ P') ++ x::([] ++ y::(S ++ (X2 ++ B))) from by simp];exact h4)
          ·rw [List.length_append];exact this
          ·rcases List.mem_cons.1 hz with rfl | hz
           ·exact hnn.1 hlt
           ·exact hS z hz
         ·rename_i hlt
          have hxy:y.2≤x.2:=by
           have:¬ x.2 < y.2:=fun h=>hlt (hnn.2 h)
           omega
          refine fin (fun z hz=>?_) M3 (h2.le l3)
          rcases List.mem_append.1 hz with hz | hz
          ·have:z.2≤y.2:=by
            rw [hZ] at hsr
            exact (List.pairwise_append.1 (List.pairwise_append.1 hsr).1).2.2 z hz y (List.mem_singleton.2 rfl)
           omega
          ·rw [List.mem_singleton.1 hz];exact hxy
       ·have hP:P = []:=List.length_eq_zero_iff.1 (by omega)
        subst hP
        exact fin (fun y hy=>by cases hy) M2 h2
     exact ⟨Z1.length + 1,key2 (Z1.length + 1) Z1 [] M' (by omega) (by simp) (fun y hy=>by cases hy) hH⟩
   ·have hX2:X2 = []:=List.length_eq_zero_iff.1 (by omega)
    subst hX2
    rw [List.append_nil] at hp
    exact hR M' Z1 hsr hp hH
 cases X with
 | nil =>
  refine ⟨1,?_⟩
  refine Eq.mpr (H.L1 ..) ?_
  unfold jZ.L1.T aL
  rw [cX (by omega),eK,if_neg (by simp only [List.length_nil];omega)]
  exact hR M [] List.Pairwise.nil (List.Perm.refl _) h
 | cons x X =>
  have:=key (X.length + 1) [x] X M (by omega) (List.pairwise_singleton _ _) (List.Perm.refl _) h
  rw [cX (by simp at hb;omega)]
  exact ⟨X.length + 1,this⟩
theorem aIn {s:SV} {Q:cW} {l:List cY} (hrk:∀ x∈l,0≤x.2∧x.2≤1000000) (hb:l.length≤20) (h:aA w0 F M (star (Es s l) Q))
  (hR:∀ M' Z,aEv Z→Z.Perm l→aA w0 F M' (star (Es s Z) Q)→R (.tuple #[]) M'):Go.Proofs.YtodobkbnmjgkdaaGreat.HL.C PP w0 Id.aAM #[SV.v s,.func (.func Id.nE) #[] #[]] R M:=by
 apply aAM.go _ s (Id.nE,#[])
 unfold aAM.T aL
 have hsn:=h.aLY
 apply nJ.go _ s _ (Id.nE,#[])
 intro aB H
 unfold nJ.T aL
 have fin:∀ (k:Nat) (A X:List cY) (M1:Mem) (b:Int),l.length = A.length + X.length→(l.length:Int) < b→(∀ x∈X,0≤x.2∧x.2≤1000000)→aA w0 F M1 (star (Es s (A ++ (X ++ []))) Q)→(∀ M' Z,aEv Z→Z.Perm X→aA w0 F M' (star (Es s (A ++ (Z ++ []))) Q)→R (.tuple #[]) M') →
   nJ.L1 aB (k + 1) s ((s.n:Nat):Int) (Id.nE,#[]) 20 (A.length:Int) b M1:=by
  intro k A X M1 b hl hbl hrX h1 hR1
  refine Eq.mpr (H.L1 ..) ?_
  unfold nJ.L1.T aL
  rw [eK,if_neg (by omega)]
  refine z4 A X [] hrX (by simp;omega) h1 rfl (by omega) fun M2 Z hs hp h2=>?_
  refine ⟨1,?_⟩
  refine Eq.mpr (H.L2 ..) ?_
  unfold nJ.L2.T aL
  rw [eK,if_neg (by omega)]
  exact hR1 M2 Z hs hp h2
 by_cases h20:l.length = 20
 ·refine ⟨2,?_⟩
  refine Eq.mpr (H.L1 ..) ?_
  unfold nJ.L1.T aL
  rw [eK,if_pos (by omega)]
  refine z4 [] l [] hrk (by simp;omega) (by simpa using h) rfl (by simp;omega) fun M2 Z hs hp h2=>?_
  rw [bC (by omega)]
  have hZl:=hp.length_eq
  have:=fin 0 Z [] M2 (20 + 20) (by simp;omega) (by omega) (fun x hx=>by cases hx) (by simpa using h2) fun M3 Z2 _ hp2 h3=>by
   have:Z2 = []:=List.eq_nil_of_length_eq_zero (by rw [hp2.length_eq];rfl)
   subst this
   exact hR M3 Z hs hp (by simpa using h3)
  rw [hZl,h20] at this
  exact this
 ·exact ⟨1,fin 0 [] l M 20 (by simp) (by omega) hrk (by simpa using h) fun M' Z hs hp h'=>hR M' Z hs hp (by simpa using h')⟩
def EsO (s:SV) (l:List cY):cW:=fun r=>(s.n = 0∧s.c = 0∧l = []∧r = [])∨∃ b pre rest e,s.a = some ⟨b,pre.length,none⟩∧s.n = l.length∧l.length * 2 + rest.length = s.c * 2∧r = [(b,pre ++ (gD l ++ rest),e)]
theorem EsO.of {s:SV} {l:List cY} {Q:cW} (h:aA w0 F M (star (Es s l) Q)):aA w0 F M (star (EsO s l) Q) :=
 h.imp fun r ⟨r1,r2,e,h1,h2⟩=>⟨r1,r2,e,by
  rcases h1 with ⟨rfl,h0,e0⟩ | ⟨b,rest,e',ha,hl,hl2,e1⟩
  ·have:l = []:=by
    cases l with
    | nil=>rfl
    | cons x l=>rw [oO] at h0;cases h0
   exact .inl ⟨rfl,rfl,this,e0⟩
  ·rw [eA] at hl hl2
   exact .inr ⟨b,[],rest,e',ha,by omega,by omega,e1⟩,h2⟩
theorem EsO.rd {s:SV} {l:List cY} {Q:cW} (h:aA w0 F M (star (EsO s l) Q)):xV w0 M s l:=by
 obtain ⟨r,⟨r1,r2,rfl,h1,h2⟩,h3⟩:=h
 rcases h1 with ⟨e1,e2,rfl,rfl⟩ | ⟨b,pre,rest,e,ha,hl,hl2,rfl⟩
 ·exact ⟨e1,by omega,fun _=>e1,fun M2 _ j v hj=>by simp [gD] at hj⟩
 ·have ho:=h3.own (b:=b) (cs:=pre ++ (gD l ++ rest)) (e:=e) List.mem_cons_self
  refine ⟨hl,by omega,fun e0=>(by rw [ha] at e0;cases e0),fun M2 hM j v hj=>⟨⟨b,pre.length,none⟩,ha,?_⟩⟩
  have hjl:=(List.getElem?_eq_some_iff.1 hj).1
  rw [add_eq,aM (ho.le hM),List.getElem?_append_right (by omega),List.getElem?_append_left (by omega),show pre.length + j - pre.length = j from by omega]
  exact hj
theorem EsO.drop {s:SV} {l:List cY} {Q:cW} (h:aA w0 F M (star (EsO s l) Q)) {m:Nat} (hm:m≤l.length) (h0:0 < m):aA w0 F M (star (EsO ⟨if s.c = m then s.a else s.a.map (·.add (m * 2)),s.n - m,s.c - m⟩ (l.drop m)) Q):=by
 obtain ⟨r,⟨r1,r2,rfl,h1,h2⟩,h3⟩:=h
 rcases h1 with ⟨e1,e2,rfl,rfl⟩ | ⟨b,pre,rest,e,ha,hl,hl2,rfl⟩
 ·simp at hm;omega
 ·by_cases hc:s.c = m
  ·have:l.drop m = []:=List.drop_eq_nil_of_le (by omega)
   rw [this]
   refine ⟨[] ++ r2,⟨[],r2,rfl,.inl ⟨by simp only;omega,by simp only;omega,rfl,rfl⟩,h2⟩,?_⟩
   exact (h3.perm List.perm_append_comm).drop
  ·rw [if_neg hc,ha]
   refine ⟨_,⟨_,r2,rfl,.inr ⟨b,pre ++ gD (l.take m),rest,e,?_,by simp;omega,by simp;omega,rfl⟩,h2⟩,?_⟩
   ·simp only [Option.map_some,add_eq,List.length_append,eA,List.length_take,Option.some.injEq,Addr.mk.injEq,true_and,and_true]
    omega
   ·have:pre ++ gD (l.take m) ++ (gD (l.drop m) ++ rest) = pre ++ (gD l ++ rest):=by
     rw [List.append_assoc,←List.append_assoc (gD (l.take m)),←gQ,List.take_append_drop]
    rw [this];exact h3
theorem aJG {b o n c:Nat} {x:SV} {cs news:List Value} {e:TypeId} {Q:cW} (h:aA w0 F M (star (aW b cs e) Q)) (m:Nat) (em:m = min x.n n) (hn:news.length = m * 2) (hcn:gN w0 M x.a news) (hnn:x.a = none→m = 0) (hone:∀ v∈news,bR v = true) (hl:o + m * 2≤cs.length)
  {K:VP} (hK:∀ M',aA w0 F M' (star (aW b (dZ cs o news) e) Q)→K (.int .i64 (m:Int)) M'):(aJ PP w0).cpy #[274,274] 3 [SV.v ⟨some ⟨b,o,none⟩,n,c⟩,SV.v x] K M:=by
 obtain ⟨inf,hi,hz,hsz,_⟩:=W.aIG
 refine aKO (d:=⟨some ⟨b,o,none⟩,n,c⟩) Tryz.underlying274 hi m em (by rw [hsz];exact hn) hcn hnn (fun e0=>by cases e0) fun a ea=>?_
 cases ea
 exact ⟨b,o,cs,e,rfl,h.aZ,by omega,hone,hK _ h.jX⟩
theorem aLJ {b:Nat} {cs:List Value} {e:TypeId} {Q:cW} (h:aA w0 F M (star (aW b cs e) Q)) {o:Nat} {news:List Value} (hg:∀ j v,news[j]? = some v→cs[o + j]? = some v):gN w0 M (some ⟨b,o,none⟩) news:=fun j v hj =>
 ⟨_,rfl,by rw [add_eq,aM h.aZ];exact hg j v hj⟩
theorem aJJ {Q:cW} {s x:SV} {l:List cY} {e:cY} (h:aA w0 F M (star (EsO s l) (star (Es x [e]) Q))) {i:Nat} (hi:i≤l.length) (hb:l.length≤100000) (hR:∀ M' s',aA w0 F M' (star (EsO s' (l.take i ++ e::l.drop i)) Q)→R s'.v M') :
  C PP w0 Id.dR #[SV.v s,.int .i64 (i:Int),SV.v x] R M:=by
 have hrs:=EsO.rd h
 have hsn:=hrs.len
 have hcap:=hrs.cap
 have hrx:=h.right.xX
 have hxn:x.n = 1:=hrx.len
 have hx1:x.a≠none:=fun e9=>by have:=hrx.nul e9;omega
 have hxc:gN w0 M x.a (gD [e]):=hrx.cells M (Mem.le_refl _)
 have hQ:aA w0 F M Q:=h.right.right
 obtain ⟨inf,hinf,hzz,hsz,hzs,hb1,hb2⟩:=W.aIG
 apply dR.go
 unfold dR.T aL
 refine ⟨⟨by omega,by omega,by omega⟩,?_⟩
 rw [fB,if_neg (by omega),fB]
 split
 ·rename_i hie
  have hil:i = l.length:=by omega
  rw [hil,List.take_length,List.drop_length] at hR
  refine aEG (s:=s) (x:=x) (olds:=gD l) (news:=gD [e]) Tryz.underlying274 hinf hzz (by rw [eA,hsz,hsn]) (hrs.cells M (Mem.le_refl _)) (fun e0=>?_) (by rw [eA,hsz,hxn];rfl) hxc (fun e0=>absurd e0 hx1) hb1 ?_ (fun _ e0=>by omega) (fun a ha hfit=>?_) (fun hgr b c hb0 hw0 hc=>?_)
  ·refine ⟨hrs.nul e0,?_⟩
   obtain ⟨r,⟨r1,r2,rfl,h1,h2⟩,h3⟩:=h
   rcases h1 with ⟨_,e2,_⟩ | ⟨b,pre,rest,e',ha,_⟩
   ·exact e2
   ·rw [ha] at e0;cases e0
  ·exact Nat.le_trans (Nat.mul_le_mul (show s.n + x.n≤200000 by omega) hb2) (by decide)
  ·obtain ⟨r,⟨r1,r2,rfl,h1,h2⟩,h3⟩:=h
   rcases h1 with ⟨e1,e2,_⟩ | ⟨b,pre,rest,e',ha',hl,hl2,rfl⟩
   ·omega
   ·rw [ha] at ha';cases ha'
    have ho:=h3.own (b:=b) (cs:=pre ++ (gD l ++ rest)) (e:=e') List.mem_cons_self
    refine ⟨b,pre.length,_,e',rfl,ho,by rw [hsz];simp only [List.length_append,eA];omega,tU _,?_⟩
    show shS (SV.v ⟨some ⟨b,pre.length,none⟩,s.n + x.n,s.c⟩) _
    rw [aR]
    refine hR _ ⟨some ⟨b,pre.length,none⟩,s.n + x.n,s.c⟩ ?_
    obtain ⟨c0,c1,rest',hrest⟩:∃ c0 c1 rest',rest = c0::c1::rest':=by
     match rest,hl2 with
     | [],hl2=>simp at hl2;omega
     | [c0],hl2=>simp at hl2;omega
     | c0::c1::rest',_=>exact ⟨c0,c1,rest',rfl⟩
    have hov:dZ (pre ++ (gD l ++ rest)) (pre.length + s.n * inf.size) (gD [e]) = pre ++ (gD (l ++ [e]) ++ rest'):=by
     rw [hrest,hsz]
     have:=eO (pre ++ gD l) [c0,c1] rest' (gD [e]) rfl (o:=pre.length + s.n * 2) (by rw [List.length_append,eA];omega)
     rw [List.append_assoc] at this
     rw [show (gD l ++ c0::c1::rest') = gD l ++ ([c0,c1] ++ rest') from by simp,this,gQ]
     simp
    rw [hov]
    obtain ⟨r3,r4,rfl,g1,g2⟩:=h2
    have h4:Fit w0 F (M.set b (.row (pre ++ (gD (l ++ [e]) ++ rest')) e')) ((b,pre ++ (gD (l ++ [e]) ++ rest'),e')::(r3 ++ r4)):=h3.upd (cs':=pre ++ (gD (l ++ [e]) ++ rest')) (e':=e')
    have hrl:rest'.length + 2 = rest.length:=by rw [hrest];simp
    refine ⟨[(b,pre ++ (gD (l ++ [e]) ++ rest'),e')] ++ r4,⟨[(b,pre ++ (gD (l ++ [e]) ++ rest'),e')],r4,rfl,.inr ⟨b,pre,rest',e',rfl,?_,?_,rfl⟩,g2⟩,(h4.perm (r':=([(b,pre ++ (gD (l ++ [e]) ++ rest'),e')] ++ r4) ++ r3) (List.Perm.cons _ List.perm_append_comm)).drop⟩
    ·rw [List.length_append,List.length_singleton]
     show s.n + x.n = _
     omega
    ·rw [List.length_append,List.length_singleton]
     show _ = s.c * 2
     omega
  ·show shS (SV.v ⟨some ⟨b,0,none⟩,s.n + x.n,c⟩) _
   rw [aR]
   refine hR _ ⟨some ⟨b,0,none⟩,s.n + x.n,c⟩ ?_
   have hzlen:∀ n,(iH (.agg #[.int .i64 0,.int .i64 0]) n).length = n * 2:=fun n=>by rw [oL];rfl
   have:=hQ.xF (k:=2) (M':=M.set b (.row (gD l ++ gD [e] ++ iH (.agg #[.int .i64 0,.int .i64 0]) (c - (s.n + x.n))) 276)) (s:=⟨some ⟨b,0,none⟩,s.n + x.n,c⟩) (l:=gD (l ++ [e])) (Mem.fO _ hb0) (.inr ⟨b,iH (.agg #[.int .i64 0,.int .i64 0]) (c - (s.n + x.n)),276,rfl,by
     rw [eA,List.length_append];simp only [List.length_singleton];omega,by
     rw [eA,List.length_append,hzlen];simp only [List.length_singleton];omega,hb0,by
     rw [gQ];exact cN.new hw0⟩)
   exact EsO.of this
 ·rename_i hie
  have hil:i < l.length:=by omega
  have w1:qB (((s.n:Nat):Int) + ((x.n:Nat):Int)) = ((l.length + 1:Nat):Int):=by rw [bC (by omega)];omega
  have w2:qB ((i:Int) + ((x.n:Nat):Int)) = ((i + 1:Nat):Int):=by rw [bC (by omega)];omega
  have w3:qB (((l.length + 1:Nat):Int) - (i:Int)) = ((l.length + 1 - i:Nat):Int):=by rw [bC (by omega)];omega
  have adz:∀ a:Addr,a.add 0 = a:=fun a=>by simp [Addr.add]
  have hz:(if s.c = (0:Int).toNat then s.a else s.a.map (·.add ((0:Int).toNat * 2))) = s.a:=by
   split
   ·rfl
   ·cases s.a with
    | none=>rfl
    | some a=>show some (a.add 0) = some a;rw [adz]
  have t0:(0:Int).toNat = 0:=rfl
  simp only [w1,w2,w3,hz]
  rw [eK]
  split
  ·rename_i hgr
   refine ⟨⟨by omega,by omega,by omega⟩,?_⟩
   simp only [t0,Int.toNat_natCast,Nat.sub_zero]
   refine aJj (s:=⟨s.a,i,s.c⟩) (n:=l.length + 1 - i) (olds:=gD (l.take i)) Tryz.underlying274 Tryz.underlying3 hinf hzz (by rw [eA,List.length_take,hsz];show min i l.length * 2 = i * 2;omega) (fun j v hj=>?_) (fun e9=>?_) hb1 ?_ (by show s.c < i + (l.length + 1 - i);omega) (by rw [hsz];omega) fun b c hb0 hw0 hc=>?_
   ·have hjl:=(List.getElem?_eq_some_iff.1 hj).1
    refine hrs.cells M (Mem.le_refl _) j v ?_
    rw [aDy,List.getElem?_take_of_lt (by rw [eA,List.length_take] at hjl;omega)] at hj
    exact hj
   ·have:=hrs.nul e9
    show i = 0
    omega
   ·show (i + (l.length + 1 - i)) * inf.bytes≤_
    exact Nat.le_trans (Nat.mul_le_mul (show i + (l.length + 1 - i)≤200000 by omega) hb2) (by decide)
   ·show shS (Value.slice (some ⟨b,0,none⟩) (i + (l.length + 1 - i)) c) _
    have hlen1:i + (l.length + 1 - i) = l.length + 1:=by omega
    have hc':l.length + 1≤c:=by have:i + (l.length + 1 - i)≤c:=hc;omega
    rw [hlen1,rE]
    simp only
    refine ⟨⟨by omega,by omega,by omega⟩,?_⟩
    have hzlen:∀ n,(iH (.agg #[.int .i64 0,.int .i64 0]) n).length = n * 2:=fun n=>by rw [oL];rfl
    have hH1:=h.new hb0 hw0 (gD (l.take i) ++ iH (.agg #[.int .i64 0,.int .i64 0]) (l.length + 1 - i) ++ iH (.agg #[.int .i64 0,.int .i64 0]) (c - (l.length + 1))) 276
    generalize M.set b _ = M1 at hH1 ⊢
    generalize hZ1:iH (.agg #[.int .i64 0,.int .i64 0]) (l.length + 1 - i) = Z1 at hH1
    generalize hZ2:iH (.agg #[.int .i64 0,.int .i64 0]) (c - (l.length + 1)) = Z2 at hH1
    have hz1:Z1.length = (l.length + 1 - i) * 2:=by rw [←hZ1,hzlen]
    have hz2:Z2.length = (c - (l.length + 1)) * 2:=by rw [←hZ2,hzlen]
    change aA w0 F M1 (star (aW b (gD (l.take i) ++ Z1 ++ Z2) 276) (star (EsO s l) (star (Es x [e]) Q))) at hH1
    obtain ⟨c0,c1,Z1',hZ1'⟩:∃ c0 c1 Z1',Z1 = c0::c1::Z1':=by
     match Z1,hz1 with
     | [],hz1=>simp at hz1;omega
     | [c0],hz1=>simp at hz1;omega
     | c0::c1::Z1',_=>exact ⟨c0,c1,Z1',rfl⟩
    have hz1':Z1'.length = (l.length - i) * 2:=by rw [hZ1'] at hz1;simp only [List.length_cons] at hz1;omega
    have tk:i * 2 = (gD (l.take i)).length:=by rw [eA,List.length_take];omega
    have hrx1:=(hH1.right.right).xX
    have e1:(Value.slice (if c = i then some ⟨b,0,none⟩ else (some (⟨b,0,none⟩:Addr)).map (·.add (i * 2))) (l.length + 1 - i) (c - i)) = SV.v ⟨some ⟨b,i * 2,none⟩,l.length + 1 - i,c - i⟩:=by
     rw [if_neg (by omega)]
     simp only [Option.map_some,add_eq,Nat.zero_add];rfl
    rw [e1]
    have hm1:1 = min x.n (l.length + 1 - i):=by rw [hxn];omega
    have hl1:i * 2 + 1 * 2≤(gD (l.take i) ++ Z1 ++ Z2).length:=by simp only [List.length_append,←tk,hz1,hz2];omega
    have hca1:gN w0 M1 x.a (gD [e]):=hrx1.cells _ (Mem.le_refl _)
    refine aJG (b:=b) (o:=i * 2) (n:=l.length + 1 - i) (c:=c - i) (x:=x) (news:=gD [e]) hH1 1 hm1 rfl hca1 (fun e9=>absurd e9 hx1) (tU _) hl1 fun M2 hH2=>?_
    rw [aK]
    refine ⟨⟨by omega,by omega,by omega⟩,⟨by omega,by omega,by omega⟩,?_⟩
    have o1:dZ (gD (l.take i) ++ Z1 ++ Z2) (i * 2) (gD [e]) = (gD (l.take i) ++ gD [e]) ++ (Z1' ++ Z2):=by
     rw [hZ1',List.append_assoc]
     have:=eO (gD (l.take i)) [c0,c1] (Z1' ++ Z2) (gD [e]) rfl tk
     simp only [List.cons_append,List.nil_append] at this ⊢
     rw [this,List.append_assoc]
    rw [o1] at hH2
    have hrs2:=EsO.rd hH2.right
    have e2:(Value.slice (if c = i + 1 then some ⟨b,0,none⟩ else (some (⟨b,0,none⟩:Addr)).map (·.add ((i + 1) * 2))) (l.length + 1 - (i + 1)) (c - (i + 1))) = SV.v ⟨some ⟨b,(i + 1) * 2,none⟩,l.length + 1 - (i + 1),c - (i + 1)⟩:=by
     rw [if_neg (by omega)]
     simp only [Option.map_some,add_eq,Nat.zero_add];rfl
    have e3:(Value.slice (if s.c = i then s.a else s.a.map (·.add (i * 2))) (s.n - i) (s.c - i)) = SV.v ⟨(if s.c = i then s.a else s.a.map (·.add (i * 2))),s.n - i,s.c - i⟩:=rfl
    rw [e2,e3]
    have hm2:l.length - i = min (s.n - i) (l.length + 1 - (i + 1)):=by omega
    have hl2:(i + 1) * 2 + (l.length - i) * 2≤((gD (l.take i) ++ gD [e]) ++ (Z1' ++ Z2)).length:=by simp only [List.length_append,←tk,hz1',hz2];show _≤i * 2 + 2 + _;omega
    refine aJG (b:=b) (o:=(i + 1) * 2) (n:=l.length + 1 - (i + 1)) (c:=c - (i + 1)) (x:=⟨(if s.c = i then s.a else s.a.map (·.add (i * 2))),s.n - i,s.c - i⟩) (news:=gD (l.drop i)) hH2 (l.length - i) hm2 (by rw [eA,List.length_drop]) (hrs2.tail (by omega)) (fun e9=>?_) (tU _) hl2 fun M3 hH3=>?_
    ·simp only at e9
     rw [if_neg (by omega)] at e9
     have:s.a = none:=by simpa using e9
     have:=hrs.nul this;omega
    ·rw [aK]
     have o2:dZ ((gD (l.take i) ++ gD [e]) ++ (Z1' ++ Z2)) ((i + 1) * 2) (gD (l.drop i)) = gD (l.take i ++ e::l.drop i) ++ Z2:=by
      have:=eO (gD (l.take i) ++ gD [e]) Z1' Z2 (gD (l.drop i)) (by rw [eA,List.length_drop,hz1']) (o:=(i + 1) * 2) (by rw [List.length_append,←tk];show (i + 1) * 2 = i * 2 + 2;omega)
      rw [this,gQ,List.append_assoc,List.append_assoc]
      show _ = gD (l.take i) ++ (gD ([e] ++ l.drop i) ++ Z2)
      rw [gQ,List.append_assoc]
     rw [o2] at hH3
     have hlt:(l.take i ++ e::l.drop i).length = l.length + 1:=by simp;omega
     refine hR M3 ⟨some ⟨b,0,none⟩,l.length + 1,c⟩ ?_
     obtain ⟨r,⟨r1,r2,rfl,q1,r3,r4,rfl,q2,r5,r6,rfl,q3,q4⟩,q5⟩:=hH3
     refine ⟨r1 ++ r6,⟨r1,r6,rfl,.inr ⟨b,[],Z2,276,rfl,hlt.symm,by rw [hlt];simp only;omega,q1⟩,q4⟩,(q5.perm (r':=(r1 ++ r6) ++ (r3 ++ r5)) ?_).drop⟩
     rw [List.append_assoc]
     refine List.Perm.append_left r1 ?_
     rw [←List.append_assoc]
     exact List.perm_append_comm
  ·rename_i hgr
   refine ⟨⟨by omega,by omega,by omega⟩,⟨by omega,by omega,by omega⟩,?_⟩
   simp only [t0,Int.toNat_natCast,Nat.sub_zero]
   obtain ⟨r,⟨r1,r2,rfl,q1,r3,r4,rfl,q2,q3⟩,q4⟩:=h
   rcases q1 with ⟨e1,e2,_⟩ | ⟨b,pre,rest,e9,ha,hl,hl2,rfl⟩
   ·omega
   ·have fS:=q4.nd
    rcases q2 with ⟨rfl,_⟩ | ⟨b2,rest2,e92,ha2,hl3,hl4,rfl⟩
    ·exact absurd rfl hx1
    ·have o1:=q4.own (b:=b) (cs:=pre ++ (gD l ++ rest)) (e:=e9) (by simp)
     have o2:=q4.own (b:=b2) (cs:=gD [e] ++ rest2) (e:=e92) (by simp)
     have eQ:b2≠b:=fun e0=>by
      simp only [List.cons_append,List.nil_append,List.map_cons,List.nodup_cons,List.mem_cons,not_or] at fS
      exact fS.1.1 e0.symm
     have hH1:aA w0 F M (star (aW b (pre ++ (gD l ++ rest)) e9) (star (aW b2 (gD [e] ++ rest2) e92) Q)):=⟨_,⟨_,_,rfl,rfl,_,r4,rfl,rfl,q3⟩,q4⟩
     simp only [ha,Option.map_some,add_eq]
     have hc1:¬ s.c = i:=by omega
     obtain ⟨c0,c1,rest',hrest⟩:∃ c0 c1 rest',rest = c0::c1::rest':=by
      match rest,hl2 with
      | [],hl2=>simp at hl2;omega
      | [c0],hl2=>simp at hl2;omega
      | c0::c1::rest',_=>exact ⟨c0,c1,rest',rfl⟩
     have hrl:rest'.length + 2 = rest.length:=by rw [hrest];simp
     have hov:∀ (o' n' c':Nat) (R':VP),R' (.bool false) M→C PP w0 Id.vL #[SV.v x,.slice (some ⟨b,o',none⟩) n' c'] R' M:=fun o' n' c' R' hR'=>by
      obtain ⟨xa,xn,xc⟩:=x
      simp only at ha2
      subst ha2
      exact aC7 (size:=2) (tS:=274) (tR:=4) (e:=276) (show PP.funcs[Id.vL]? = some Tryz.f276 from Tryz.func276) (by kernel_rfl) (by kernel_rfl) (by kernel_rfl) (by kernel_rfl) Tryz.underlying274 (by kernel_rfl) eQ o2 o1 (by
       intro e0
       have:=congrArg List.length e0
       rw [List.length_append,List.length_append,eA] at this
       simp only [List.length_nil] at this
       omega) hR'
     have hc2:¬ s.c = i + 1:=by omega
     simp only [if_neg hc1,if_neg hc2]
     refine hov _ _ _ _ ?_
     rw [bT,Bool.not_false,dY]
     refine ⟨⟨by omega,by omega,by omega⟩,⟨by omega,by omega,by omega⟩,?_⟩
     have hsrc:∀ (L:List Value) (M':Mem),aA w0 F M' (star (aW b (pre ++ L) e9) (star (aW b2 (gD [e] ++ rest2) e92) Q))→∀ news,(∀ j v,news[j]? = some v→L[i * 2 + j]? = some v)→gN w0 M' (some ⟨b,pre.length + i * 2,none⟩) news:=fun L M' h' news hn=>aLJ h' fun j v hj=>by
      rw [Nat.add_assoc,List.getElem?_append_right (by omega),show pre.length + (i * 2 + j) - pre.length = i * 2 + j from by omega]
      exact hn j v hj
     have e2:(Value.slice (some (⟨b,pre.length + i * 2,none⟩:Addr)) (l.length + 1 - i) (s.c - i)) = SV.v ⟨some ⟨b,pre.length + i * 2,none⟩,l.length + 1 - i,s.c - i⟩:=rfl
     have e3:(Value.slice (some (⟨b,pre.length + (i + 1) * 2,none⟩:Addr)) (l.length + 1 - (i + 1)) (s.c - (i + 1))) = SV.v ⟨some ⟨b,pre.length + (i + 1) * 2,none⟩,l.length + 1 - (i + 1),s.c - (i + 1)⟩:=rfl
     rw [e2,e3]
     ·have hm3:l.length - i = min (l.length + 1 - i) (l.length + 1 - (i + 1)):=by omega
      refine aJG (news:=gD (l.drop i)) hH1 (l.length - i) hm3 (by rw [eA,List.length_drop]) (hsrc _ _ hH1 _ fun j v hj=>?_) (fun e0=>by cases e0) (tU _) (by simp only [List.length_append,eA];omega) fun M2 hH2=>?_
      ·rw [aAY,List.getElem?_drop] at hj
       have:=(List.getElem?_eq_some_iff.1 hj).1
       rw [List.getElem?_append_left this];exact hj
      ·rw [aK]
       refine ⟨⟨by omega,by omega,by omega⟩,?_⟩
       have tk:(gD (l.take (i + 1))).length = (i + 1) * 2:=by rw [eA,List.length_take];omega
       have tk0:(gD (l.take i)).length = i * 2:=by rw [eA,List.length_take];omega
       have o3:dZ (pre ++ (gD l ++ rest)) (pre.length + (i + 1) * 2) (gD (l.drop i)) = pre ++ (gD (l.take (i + 1)) ++ (gD (l.drop i) ++ rest')):=by
        have h9:pre ++ (gD l ++ rest) = (pre ++ gD (l.take (i + 1))) ++ ((gD (l.drop (i + 1)) ++ [c0,c1]) ++ rest'):=by
         rw [hrest,List.append_assoc]
         congr 1
         rw [show gD l = gD (l.take (i + 1)) ++ gD (l.drop (i + 1)) from by rw [←gQ,List.take_append_drop]]
         simp
        rw [h9,eO (pre ++ gD (l.take (i + 1))) (gD (l.drop (i + 1)) ++ [c0,c1]) rest' (gD (l.drop i)) (by rw [List.length_append,eA,eA,List.length_drop,List.length_drop];simp;omega) (by rw [List.length_append,tk]),List.append_assoc]
       rw [o3] at hH2
       have hxr:gN w0 M2 x.a (gD [e]):=by
        rw [ha2]
        refine aLJ hH2.dX fun j v hj=>?_
        have:=(List.getElem?_eq_some_iff.1 hj).1
        rw [Nat.zero_add,List.getElem?_append_left this];exact hj
       have hxa:x.a = none→(1:Nat) = 0:=fun e0=>absurd e0 hx1
       have hxm:(1:Nat) = min x.n (l.length + 1 - i):=by rw [hxn];omega
       refine aJG (x:=x) (news:=gD [e]) hH2 1 hxm rfl hxr hxa (tU _) (by simp only [List.length_append,tk,eA,List.length_drop];omega) fun M3 hH3=>?_
       rw [aK]
       have o4:dZ (pre ++ (gD (l.take (i + 1)) ++ (gD (l.drop i) ++ rest'))) (pre.length + i * 2) (gD [e]) = pre ++ (gD (l.take i ++ e::l.drop i) ++ rest'):=by
        have h9:pre ++ (gD (l.take (i + 1)) ++ (gD (l.drop i) ++ rest')) = (pre ++ gD (l.take i)) ++ (eV l[i] ++ (gD (l.drop i) ++ rest')):=by
         rw [List.take_succ_eq_append_getElem hil,gQ]
         simp [gD]
        rw [h9,eO (pre ++ gD (l.take i)) (eV l[i]) (gD (l.drop i) ++ rest') (gD [e]) rfl (by rw [List.length_append,tk0]),gQ,List.append_assoc]
        show _ = pre ++ (gD (l.take i) ++ gD ([e] ++ l.drop i) ++ rest')
        rw [gQ];simp
       rw [o4] at hH3
       have hlt:(l.take i ++ e::l.drop i).length = l.length + 1:=by simp;omega
       refine hR M3 ⟨some ⟨b,pre.length,none⟩,l.length + 1,s.c⟩ ?_
       obtain ⟨r,⟨r1,r2,rfl,g1,r3',r4',rfl,g2,g3⟩,g4⟩:=hH3
       refine ⟨r1 ++ r4',⟨r1,r4',rfl,.inr ⟨b,pre,rest',e9,rfl,hlt.symm,by rw [hlt];simp only;omega,g1⟩,g3⟩,(g4.perm (r':=(r1 ++ r4') ++ r3') ?_).drop⟩
       rw [List.append_assoc]
       exact List.perm_append_comm.append_left r1
end
end HL
namespace HL
theorem aCo {α β:Type} {f:α→β} {l:List α} {Z:List β} (h:Z.Perm (l.map f)):∃ W:List α,W.Perm l∧Z = W.map f:=by
 have key:∀ {Z Y:List β},Z.Perm Y→∀ l:List α,Y = l.map f→∃ W:List α,W.Perm l∧Z = W.map f:=by
  intro Z Y h
  induction h with
  | nil=>intro l e;exact ⟨[],by cases l with | nil=>exact List.Perm.refl _ | cons x l=>simp at e,rfl⟩
  | cons x h ih =>
   intro l e
   match l,e with
   | [],e=>simp at e
   | y::l,e =>
    simp only [List.map_cons,List.cons.injEq] at e
    obtain ⟨W,h1,h2⟩:=ih l e.2
    exact ⟨y::W,h1.cons y,by rw [h2,e.1];rfl⟩
  | swap x y t =>
   intro l e
   match l,e with
   | [],e=>simp at e
   | [u],e=>simp at e
   | u::v::l,e =>
    simp only [List.map_cons,List.cons.injEq] at e
    exact ⟨v::u::l,List.Perm.swap _ _ _,by rw [e.1,e.2.1,e.2.2];rfl⟩
  | trans h1 h2 ih1 ih2 =>
   intro l e
   obtain ⟨W,g1,g2⟩:=ih2 l e
   obtain ⟨W2,g3,g4⟩:=ih1 W g2
   exact ⟨W2,g3.trans g1,g4⟩
 exact key h l rfl
namespace ST
def yA (l:List Tn):List cY:=l.map fun t=>((t.n:Int),(t.k:Int))
def aHw (l:List Tn):Prop:=l.Pairwise fun a b=>a.k≤b.k
theorem aIQ {l:List Tn} (h:aEv (yA l)):aHw l:=by
 unfold aEv yA at h
 rw [List.pairwise_map] at h
 exact h.imp fun h=>by simpa using h
theorem aIl {l:List Tn} {w:Tn} {j:Nat} (h:aHw l) (h1:∀ i x,i < j→l[i]? = some x→x.k < w.k) (h2:∀ x,l[j]? = some x→w.k≤x.k):aHw (l.take j ++ w::l.drop j):=by
 unfold aHw at *
 have hs:(l.take j ++ l.drop j).Pairwise fun a b=>a.k≤b.k:=by rw [List.take_append_drop];exact h
 obtain ⟨q1,q2,q3⟩:=List.pairwise_append.1 hs
 have ht:∀ x∈l.take j,x.k < w.k:=fun x hx=>by
  obtain ⟨i,hi⟩:=List.getElem?_of_mem hx
  have hlt:=(List.getElem?_eq_some_iff.1 hi).1
  rw [List.length_take] at hlt
  rw [List.getElem?_take_of_lt (by omega)] at hi
  exact h1 i x (by omega) hi
 have hd:∀ x∈l.drop j,w.k≤x.k:=fun x hx=>by
  cases hl:l.drop j with
  | nil=>rw [hl] at hx;cases hx
  | cons y m =>
   have hy:l[j]? = some y:=by
    have:(l.drop j)[0]? = some y:=by rw [hl];rfl
    rw [List.getElem?_drop] at this;simpa using this
   have hwy:=h2 y hy
   rw [hl] at hx q2
   rcases List.mem_cons.1 hx with rfl | hx
   ·exact hwy
   ·exact Nat.le_trans hwy ((List.pairwise_cons.1 q2).1 x hx)
 refine List.pairwise_append.2 ⟨q1,List.pairwise_cons.2 ⟨hd,q2⟩,fun a ha b hb=>?_⟩
 rcases List.mem_cons.1 hb with rfl | hb
 ·exact Nat.le_of_lt (ht a ha)
 ·exact q3 a ha b hb
theorem aAX {z:Nat} {t:Tn} (h:wS z t) {n:Nat} (hn:(eR t).length≤n):t.k≤n:=by
 have h1:=y9 h
 have h2:t.k < 2 ^ t.k:=Nat.lt_two_pow_self
 omega
end ST
section
variable {w0:World} {M F:Mem} {R:VP} {a:Nat} {α:AS}
open Go.Proofs.YtodobkbnmjgkdaaGreat.HL.ST
theorem aG6 {P:cW} {b:Nat} {c0 c1:Value} {x y:Int} (h:aA w0 F M (star (aW b [c0,c1] tRk) P)) {K:Mem→Prop} (hK:∀ M',aA w0 F M' (star (aW b [.int .i64 x,.int .i64 y] tRk) P)→K M') :
  (aJ PP w0).st tRk ⟨b,0,none⟩ (.agg #[.int .i64 x,.int .i64 y]) (fun M2=>K M2) M:=by
 refine gG (vs:=[.int .i64 x,.int .i64 y]) W.aJa h.aZ (by simp) (by intro v hv;simp only [List.mem_cons,List.not_mem_nil,or_false] at hv;rcases hv with rfl | rfl <;> rfl) ?_
 exact hK _ (h.jX (cs':=dZ [c0,c1] 0 [.int .i64 x,.int .i64 y]) (e':=tRk))
theorem aKz (x y:Int):(aJ PP w0).pD tRk [(0,.int .i64 x),(1,.int .i64 y)] = some (.agg #[.int .i64 x,.int .i64 y]):=by kernel_rfl
theorem aKP {P:cW} {b:Nat} {x y:Int} (h:aA w0 F M (star (aW b [.int .i64 x,.int .i64 y] tRk) P)):(aJ PP w0).ld 3 ⟨b,0,none⟩ M = some (.int .i64 x):=by
 rw [aP W.c3];exact aM (o:=0) h.aZ
theorem aDD {P:cW} {b:Nat} {x y:Int} (h:aA w0 F M (star (aW b [.int .i64 x,.int .i64 y] tRk) P)):(aJ PP w0).ld 2 (Addr.add ⟨b,0,none⟩ 1) M = some (.int .i64 y):=by
 rw [aP W.c2,add_eq];exact aM (o:=1) h.aZ
theorem aLC {P:cW} {b:Nat} {x y:Int} (h:aA w0 F M (star (aW b [.int .i64 x,.int .i64 y] tRk) P)):(aJ PP w0).ld tRk ⟨b,0,none⟩ M = some (.agg #[.int .i64 x,.int .i64 y]):=by
 have o:=h.aZ
 exact cR (cs:=[.int .i64 x,.int .i64 y]) W.aJa (fun j v hj=>by rw [add_eq,aM o,Nat.zero_add];exact hj)
theorem vJ (hA:aA w0 F M (aF a α)) {z:Nat} (hz:1≤z) {f:Nat→cC} {l:List Tn} {s:SV} (hs:tN w0 F .i64 s (aU (l.map (·.n)))) (hst:∀ t∈l,yV α t) (hlb:Lb α f (aQ l)) (fS:(bE f (aQ l)).Nodup) (hok:∀ t∈l,wS z t) (hod:∀ t∈l,y8 f t) (hl20:l.length≤20)
  (h:∀ M' β l',aA w0 F M' (aF a β)→St β (-1) (fo l')→(aQ l').Perm (aQ l)→(∀ t∈l',wS z t)→(∀ t∈l',y8 f t)→Rs l'→AS.nM (fun c=>c∈aQ l) (14 * l.length) α β→(∀ c g,5≤g→β.get c g = α.get c g)→R (.int .i64 (fo l').root) M') :
  C PP w0 Id.nC #[.pointer (some ⟨a,0,none⟩),SV.v s] R M:=by
 apply nC.go
 intro aB H
 unfold nC.T aL
 have hI:=hA.inv
 have hI65:=hI.n
 have hnn:=iB fS
 have hsn:=hs.len
 simp only [aU,List.length_map] at hsn
 have hsz:=mT α.n _ hnn fun y hy=>AS.cE hI (hlb y hy).ln
 have hmemn:∀ t∈l,t.n∈aQ l:=fun t ht=>eJ.2 ⟨t,ht,List.mem_cons_self⟩
 have key2:∀ (m:Nat) (W out:List Tn) (sW sO:SV) (M1:Mem) (β:AS) (k:Nat),W.length = m→aA w0 F M1 (star (EsO sW (yA W)) (star (pG sO ((aU (out.map (·.n))).map (Value.int .i64))) (aF a β)))→(∀ t∈out ++ W,yV β t)→(aQ (out ++ W)).Perm (aQ l)→(∀ t∈out ++ W,wS z t)→(∀ t∈out ++ W,y8 f t) →
   Rs out→aHw W→(∀ x∈out,∀ y∈W,x.k < y.k)→out.length + W.length≤l.length→AS.nM (fun c=>c∈aQ l) ((l.length:Int) + 11 * ((l.length:Int) - (out.length + W.length))) α β→(∀ c g,5≤g→β.get c g = α.get c g)→W.length < k →
   nC.L2 aB k (some ⟨a,0,none⟩) sW sO M1:=by
  intro m
  induction m with
  | zero =>
   intro W out sW sO M1 β k hW hH hst1 hp hok1 hod1 hrs hsr hlt hlen hc hg hk
   have:W = []:=List.eq_nil_of_length_eq_zero hW
   subst this
   obtain ⟨k,rfl⟩:∃ j,k = j + 1:=⟨k - 1,by omega⟩
   have hWn:=(EsO.rd hH).len
   simp only [yA,List.map_nil,List.length_nil] at hWn
   simp only [List.append_nil] at hst1 hp hok1 hod1
   refine Eq.mpr (H.L2 ..) ?_
   unfold nC.L2.T aL
   rw [eK,if_neg (by omega)]
   have hnl:(aQ out).Nodup:=hp.nodup_iff.2 hnn
   have hlive:∀ t∈out,β.live t.n = true:=fun t ht=>by
    rw [hc.live];exact (hlb t.n (hp.mem_iff.1 (eJ.2 ⟨t,ht,List.mem_cons_self⟩))).ln
   have hlw:∀ n∈aU (out.map (·.n)),(Lit.int .i64 n).wf = true:=fun n hn=>by
    obtain ⟨x,hx,rfl⟩:=List.mem_map.1 hn
    obtain ⟨t,ht,rfl⟩:=List.mem_map.1 hx
    have:=AS.cE hI (hlb t.n (hp.mem_iff.1 (eJ.2 ⟨t,ht,List.mem_cons_self⟩))).ln
    exact aHz (by unfold cM;omega)
   obtain ⟨F',hle,hB,hro⟩:=hH.right.freeze hlw (by simp [aU];simp at hlen;omega)
   refine aKQ hB hro hst1 hlive hnl (by simp at hlen;omega) fun M2 γ hB2 hst2 hc2 hg2=>?_
   rw [aK]
   refine h M2 γ out (hB2.fQ hle) hst2 hp hok1 hod1 hrs ((hc.trans (hc2.mono (T:=fun c=>c∈aQ l) (fun c ⟨t,ht,e⟩=>by rw [e];exact hp.mem_iff.1 (eJ.2 ⟨t,ht,List.mem_cons_self⟩)) (Int.le_refl _))).mono (fun _ h=>h) (by simp at hlen ⊢;omega)) (fun c g hx=>(hg2 c g hx).trans (hg c g hx))
  | succ m ih =>
   intro W out sW sO M1 β k hW hH hst1 hp hok1 hod1 hrs hsr hlt hlen hc hg hk
   obtain ⟨x,W',rfl⟩:∃ x W',W = x::W':=by
    cases W with
    | nil=>simp at hW
    | cons x W'=>exact ⟨x,W',rfl⟩
   obtain ⟨k,rfl⟩:∃ j,k = j + 1:=⟨k - 1,by omega⟩
   simp only [List.length_cons] at hW hlen hk
   have hWrd:=EsO.rd hH
   have hWn:=hWrd.len
   have hWc:=hWrd.cap
   simp only [yA,List.map_cons,List.length_cons,List.length_map] at hWn
   have hxm:x∈out ++ x::W':=by simp
   have alone:∀ (M2:Mem) (Q:cW),(∀ y∈W',x.k < y.k)→aA w0 F M2 (star (EsO sW (yA (x::W'))) (star (pG sO ((aU (out.map (·.n))).map (Value.int .i64))) (aF a β))) →
     (aJ PP w0).bsl 53 1 [(0,.int .i64 (x.n:Int))] (fun v39 M40=>shS v39 fun s41=>(aJ PP w0).app #[53,53] 53 [SV.v sO,SV.v s41] (fun v42 M43=>shS v42 fun s44=>nC.L2 aB k (some ⟨a,0,none⟩) ⟨(if sW.c = (1:Int).toNat then sW.a else sW.a.map (·.add ((1:Int).toNat * 2))),(((sW.n:Nat):Int).toNat - (1:Int).toNat),(sW.c - (1:Int).toNat)⟩ s44 M43) M40) M2:=by
    intro M2 Q hx h2
    refine yU (K:=fun s27 M26=>nC.L2 aB k _ _ s27 M26) h2.dX (by simp [aU];omega) fun M3 sO' h3=>?_
    have e1:(⟨(if sW.c = (1:Int).toNat then sW.a else sW.a.map (·.add ((1:Int).toNat * 2))),(((sW.n:Nat):Int).toNat - (1:Int).toNat),(sW.c - (1:Int).toNat)⟩:SV) = ⟨if sW.c = 1 then sW.a else sW.a.map (·.add (1 * 2)),sW.n - 1,sW.c - 1⟩:=rfl
    rw [e1]
    have h4:=EsO.drop h3.dX (m:=1) (by simp [yA]) (by decide)
    refine ih W' (out ++ [x]) _ sO' M3 β k (by omega) ?_ (by simpa using hst1) (by simpa using hp) (by simpa using hok1) (by simpa using hod1) ?_ (List.pairwise_cons.1 hsr).2 ?_ (by simp;omega) (hc.mono (fun _ h=>h) (by simp;omega)) hg (by omega)
    ·rw [show aU ((out ++ [x]).map (·.n)) = aU (out.map (·.n)) ++ [(x.n:Int)] from by simp [aU]]
     exact h4
    ·refine List.pairwise_append.2 ⟨hrs,List.pairwise_singleton _ _,fun u hu v hv=>?_⟩
     rw [List.mem_singleton.1 hv];exact hlt u hu x List.mem_cons_self
    ·intro u hu v hv
     rcases List.mem_append.1 hu with hu | hu
     ·exact hlt u hu v (List.mem_cons_of_mem _ hv)
     ·rw [List.mem_singleton.1 hu];exact hx v hv
   refine Eq.mpr (H.L2 ..) ?_
   unfold nC.L2.T aL
   rw [eK,if_pos (by omega)]
   refine rdR (x:=((x.n:Int),(x.k:Int))) hWrd (Mem.le_refl _) 0 rfl rfl ?_
   intro bx hbx hwx
   have hX0:aA w0 F _ (star (aW bx _ tRk) _):=hH.new hbx hwx [.int .i64 0,.int .i64 0] tRk
   refine aG6 hX0 fun M2 hX=>?_
   simp only [aKP hX,aC,aK]
   rw [fB]
   split
   ·rename_i h1
    have hW0:W' = []:=List.eq_nil_of_length_eq_zero (by omega)
    refine ⟨⟨by omega,by omega,by omega⟩,?_⟩
    exact alone M2 (fun _=>True) (fun y hy=>by rw [hW0] at hy;cases hy) hX.right
   ·rename_i h1
    obtain ⟨y,W2,rfl⟩:∃ y W2,W' = y::W2:=by
     cases W' with
     | nil=>simp at hWn;omega
     | cons y W2=>exact ⟨y,W2,rfl⟩
    simp only [List.length_cons] at hW hlen hk hWn
    have hrd2:=EsO.rd hX.right
    refine aLI W.c2 (x:=((y.n:Int),(y.k:Int))) hrd2 (Mem.le_refl _) 1 rfl rfl ?_
    simp only [aDD hX,aC,aK]
    rw [bX]
    obtain ⟨sr1,sr2⟩:=List.pairwise_cons.1 hsr
    obtain ⟨sr3,sr4⟩:=List.pairwise_cons.1 sr2
    split
    rotate_left
    ·rename_i hxy
     refine ⟨⟨by omega,by omega,by omega⟩,?_⟩
     refine alone M2 (fun _=>True) (fun u hu=>?_) hX.right
     have h2:=sr1 y List.mem_cons_self
     have h3:x.k < y.k:=by
      have:¬ ((y.k:Int) = (x.k:Int)):=hxy
      omega
     rcases List.mem_cons.1 hu with rfl | hu
     ·exact h3
     ·exact Nat.lt_of_lt_of_le h3 (sr3 u hu)
    ·rename_i hxy
     have hkk:x.k = y.k:=by
      have:(y.k:Int) = (x.k:Int):=hxy
      omega
     refine Eq.mpr (H.J3 ..) ?_
     unfold nC.J3.T aL
     have hym:y∈out ++ x::y::W2:=by simp
     have hxn:∀ c∈eR x,c∈aQ l:=fun c hc=>hp.mem_iff.1 (eJ.2 ⟨x,hxm,hc⟩)
     have hyn:∀ c∈eR y,c∈aQ l:=fun c hc=>hp.mem_iff.1 (eJ.2 ⟨y,hym,hc⟩)
     have hpn:(aQ (out ++ x::y::W2)).Nodup:=hp.nodup_iff.2 hnn
     have hsplit:(aQ (out ++ x::y::W2)).Perm ((eR x ++ eR y) ++ aQ (out ++ W2)):=by
      have:(aQ (out ++ x::y::W2)).Perm (aQ (x::y::(out ++ W2))):=tI (by
       refine List.perm_middle.trans (List.Perm.cons _ ?_)
       exact List.perm_middle)
      refine this.trans ?_
      show ((eR x) ++ ((eR y) ++ aQ (out ++ W2))).Perm _
      rw [List.append_assoc]
     have hnd3:=hsplit.nodup_iff.1 hpn
     obtain ⟨nd1,nd2,nd3⟩:=List.nodup_append.1 hnd3
     have hlb1:Lb β f (eR x ++ eR y):=(hlb.congr (fun c _ g hg'=>hg c g (by omega)) (fun c _=>by rw [hc.live])).sub fun n hn=>by
      rcases List.mem_append.1 hn with hn | hn
      ·exact hxn n hn
      ·exact hyn n hn
     have hxk:x.k≤65536:=aAX (hok1 x hxm) (Nat.le_trans (rZ hxm) (by rw [hp.length_eq];omega))
     have eQ:(f x.n).1≠(f y.n).1:=fun e=>by
      have:=kO fS x.n (hxn _ List.mem_cons_self) y.n (hyn _ List.mem_cons_self) e
      exact (List.nodup_append.1 nd1).2.2 x.n List.mem_cons_self y.n List.mem_cons_self this
     have fin:∀ (M3:Mem) (γ:AS) (oW:Nat) (Q:cW),aA w0 F M3 (star (aW oW [.int .i64 ((sU f x y).n:Int),.int .i64 ((x.k:Int) + 1)] tRk) (star (EsO sW (yA (x::y::W2))) (star (pG sO ((aU (out.map (·.n))).map (Value.int .i64))) (aF a γ)))) →
       yV γ (sU f x y)→AS.nM (fun c=>c = x.n∨c = y.n) 11 β γ→(∀ c g,5≤g→γ.get c g = β.get c g) →
       ∃ k84,nC.L5 aB k k84 (some ⟨a,0,none⟩) ⟨(if sW.c = (2:Int).toNat then sW.a else sW.a.map (·.add ((2:Int).toNat * 2))),(((sW.n:Nat):Int).toNat - (2:Int).toNat),(sW.c - (2:Int).toNat)⟩ sO ⟨oW,0,none⟩ 0 M3:=by
      intro M3 γ oW Q hY hstw hcγ hgγ
      have e1:(⟨(if sW.c = (2:Int).toNat then sW.a else sW.a.map (·.add ((2:Int).toNat * 2))),(((sW.n:Nat):Int).toNat - (2:Int).toNat),(sW.c - (2:Int).toNat)⟩:SV) = ⟨if sW.c = 2 then sW.a else sW.a.map (·.add (2 * 2)),sW.n - 2,sW.c - 2⟩:=rfl
      rw [e1]
      have hY1:=(EsO.drop hY.dX (m:=2) (by simp [yA]) (by decide)).dX
      rw [show (yA (x::y::W2)).drop 2 = yA W2 from rfl] at hY1
      have hWk:=aJ1 f hkk
      generalize hsW2:(⟨if sW.c = 2 then sW.a else sW.a.map (·.add (2 * 2)),sW.n - 2,sW.c - 2⟩:SV) = sW2 at hY1 ⊢
      have hrdW:=EsO.rd hY1.dX
      have hlW:=hrdW.len
      simp only [yA,List.length_map] at hlW
      have put:∀ j,j≤W2.length→(∀ i u,i < j→W2[i]? = some u→u.k < (sU f x y).k)→(∀ u,W2[j]? = some u→(sU f x y).k≤u.k)→nC.J4 aB k (some ⟨a,0,none⟩) sW2 sO ⟨oW,0,none⟩ (j:Int) M3:=by
       intro j hj hlo hhi
       refine Eq.mpr (H.J4 ..) ?_
       unfold nC.J4.T aL
       simp only [aLC hY1,aC,a9,aT,aK,aS]
       refine aLm hY1.right _ _ fun M4 s4 l4 h4=>?_
       rw [aR]
       refine aJJ (i:=j) (e:=(((sU f x y).n:Int),(x.k:Int) + 1)) h4.dX (by simp [yA];omega) (by simp [yA];omega) fun M5 s5 h5=>?_
       rw [aR]
       have ew:(yA W2).take j ++ (((sU f x y).n:Int),(x.k:Int) + 1)::(yA W2).drop j = yA (W2.take j ++ sU f x y::W2.drop j):=by
        unfold yA
        rw [List.map_append,List.map_cons,List.map_take,List.map_drop,hWk];rfl
       rw [ew] at h5
       have hperm:(W2.take j ++ sU f x y::W2.drop j).Perm (sU f x y::W2):=List.perm_middle.trans (List.Perm.cons _ (by rw [List.take_append_drop]))
       have hwl:(W2.take j ++ sU f x y::W2.drop j).length = W2.length + 1:=by rw [hperm.length_eq,List.length_cons]
       have hmem:∀ t,t∈out ++ (W2.take j ++ sU f x y::W2.drop j)→t = sU f x y∨t∈out ++ W2:=fun t ht=>by
        rcases List.mem_append.1 ht with ht | ht
        ·exact .inr (by simp [ht])
        ·rcases List.mem_cons.1 (hperm.mem_iff.1 ht) with ht | ht
         ·exact .inl ht
         ·exact .inr (by simp [ht])
       have hold:∀ t∈out ++ W2,t∈out ++ x::y::W2:=fun t ht=>by
        rcases List.mem_append.1 ht with ht | ht <;> simp [ht]
       have hwok:=aHJ f hz (hok1 x hxm) (hok1 y hym) hkk
       refine ih (W2.take j ++ sU f x y::W2.drop j) out s5 sO M5 γ k (by omega) h5 (fun t ht=>?_) ?_ (fun t ht=>?_) (fun t ht=>?_) hrs (aIl sr4 hlo hhi) ?_ (by omega) ((hc.trans (hcγ.mono (T:=fun c=>c∈aQ l) (fun c hc'=>by rcases hc' with rfl | rfl;exact hxn _ List.mem_cons_self;exact hyn _ List.mem_cons_self) (Int.le_refl _))).mono (fun _ h=>h) (by rw [hwl];simp only [List.length_cons];omega)) (fun c g hx=>(hgγ c g hx).trans (hg c g hx)) (by omega)
       ·rcases hmem t ht with rfl | ht
        ·exact hstw
        ·refine (hst1 t (hold t ht)).lN hcγ fun c hct hcS=>?_
         have hcm:c∈aQ (out ++ W2):=eJ.2 ⟨t,ht,hct⟩
         rcases hcS with rfl | rfl
         ·exact nd3 x.n (by simp [eR]) _ hcm rfl
         ·exact nd3 y.n (by simp [eR]) _ hcm rfl
       ·refine List.Perm.trans ?_ hp
        refine List.Perm.trans ?_ hsplit.symm
        have h6:(aQ (out ++ (W2.take j ++ sU f x y::W2.drop j))).Perm (aQ (sU f x y::(out ++ W2))):=tI ((hperm.append_left out).trans List.perm_middle)
        refine h6.trans ?_
        show (eR (sU f x y) ++ aQ (out ++ W2)).Perm _
        exact (aEZ f x y).append_right _
       ·rcases hmem t ht with rfl | ht
        ·exact hwok.1
        ·exact hok1 t (hold t ht)
       ·rcases hmem t ht with rfl | ht
        ·exact aIb (hod1 x hxm) (hod1 y hym) eQ
        ·exact hod1 t (hold t ht)
       ·intro u hu v hv
        have h6:=hlt u hu x (by simp)
        rcases List.mem_cons.1 (hperm.mem_iff.1 hv) with rfl | hv
        ·rw [hWk];omega
        ·exact hlt u hu v (by simp [hv])
      have key5:∀ (d j k5:Nat),j + d = W2.length→(∀ i u,i < j→W2[i]? = some u→u.k < (sU f x y).k)→d < k5→nC.L5 aB k k5 (some ⟨a,0,none⟩) sW2 sO ⟨oW,0,none⟩ (j:Int) M3:=by
       intro d
       induction d with
       | zero =>
        intro j k5 hj hlo hk5
        obtain ⟨k5,rfl⟩:∃ i,k5 = i + 1:=⟨k5 - 1,by omega⟩
        refine Eq.mpr (H.L5 ..) ?_
        unfold nC.L5.T aL
        rw [eK,if_neg (by omega)]
        exact put j (by omega) hlo fun u hu=>by
         have:=(List.getElem?_eq_some_iff.1 hu).1
         omega
       | succ d ihd =>
        intro j k5 hj hlo hk5
        obtain ⟨k5,rfl⟩:∃ i,k5 = i + 1:=⟨k5 - 1,by omega⟩
        have hjl:j < W2.length:=by omega
        have hget:(yA W2)[j]? = some ((W2[j].n:Int),(W2[j].k:Int)):=by
         unfold yA
         rw [List.getElem?_map,List.getElem?_eq_getElem hjl];rfl
        refine Eq.mpr (H.L5 ..) ?_
        unfold nC.L5.T aL
        rw [eK,if_pos (by omega)]
        refine aLI W.c2 (x:=((W2[j].n:Int),(W2[j].k:Int))) hrdW (Mem.le_refl _) j rfl hget ?_
        simp only [aDD hY1,aC,aK]
        rw [eK]
        split
        ·rename_i hlt5
         rw [cX (by omega)]
         refine ihd (j + 1) k5 (by omega) (fun i u hi hu=>?_) (by omega)
         by_cases e:i = j
         ·subst e
          rw [List.getElem?_eq_getElem hjl] at hu
          cases hu
          rw [hWk]
          have:(W2[i].k:Int) < (x.k:Int) + 1:=hlt5
          omega
         ·exact hlo i u (by omega) hu
        ·rename_i hlt5
         refine put j (by omega) hlo fun u hu=>?_
         rw [List.getElem?_eq_getElem hjl] at hu
         cases hu
         rw [hWk]
         have:¬ ((W2[j].k:Int) < (x.k:Int) + 1):=hlt5
         omega
      exact ⟨W2.length + 1,key5 W2.length 0 _ (by omega) (fun i u hi=>absurd hi (by omega)) (by omega)⟩
     have hlk:∀ {F2 M3:Mem} {γ:AS} {K:VP},aA w0 F2 M3 (aF a β)→(∀ M' γ,aA w0 F2 M' (aF a γ)→yV γ (sU f x y)→AS.nM (fun c=>c = x.n∨c = y.n) 11 β γ→(∀ c g,5≤g→γ.get c g = β.get c g)→K (.int .i64 ((sU f x y).n:Int)) M')→C PP w0 Id.cJ #[.pointer (some ⟨a,0,none⟩),.int .i64 (x.n:Int),.int .i64 (y.n:Int),.int .i64 (x.k:Int)] K M3:=by
      intro F2 M3 γ K hB hK
      refine aFa hB (hst1 x hxm) (hst1 y hym) hlb1 nd1 hkk (by omega) fun M' γ h1 h2 h3 h4 _=>?_
      exact hK M' γ h1 h2 h3 h4
     obtain ⟨ad,ea,hr⟩:=hrd2.ad (j:=1) (x:=((y.n:Int),(y.k:Int))) rfl
     have hr1:∀ M3,Mem.le M2 M3→(aJ PP w0).ld 3 (ad.add ((1:Int).toNat * 2)) M3 = some (.int .i64 (y.n:Int)):=fun M3 h3=>by
      rw [aP W.c3];exact (hr M3 h3).1
     have hw1:qB ((x.k:Int) + 1) = (x.k:Int) + 1:=bC (by omega)
     rw [ea]
     have hb0:=aKP hX
     have hb1:=aDD hX
     simp only [aX,hb0,hb1,hr1 M2 (Mem.le_refl _),aC,aK,hw1]
     refine ⟨⟨by omega,by omega⟩,?_,?_⟩
     ·-- the link first
      obtain ⟨F2,hB,hle,back⟩:=hX.aJX
      refine hlk (γ:=β) hB fun M3 γ hB3 g1 g2 g3=>?_
      have hX3:=back M3 _ hB3
      simp only [aK,aKz,aC,a9,aT,aS]
      refine ⟨aDD hX3,fun oW hb hw=>?_⟩
      have hY0:=hX3.new hb hw [.int .i64 0,.int .i64 0] tRk
      refine ⟨aDD (hY0.le (Mem.le_refl _)).right,?_⟩
      refine aG6 hY0 fun M4 hY=>?_
      refine ⟨⟨by omega,by omega,by omega⟩,?_⟩
      have hfin:=fin M4 γ oW (fun _=>True) hY.dX.right g1 g2 g3
      rw [ea] at hfin
      exact hfin
     ·-- bW place first
      intro oW hb hw
      have hY0:=hX.new hb hw [.int .i64 0,.int .i64 0] tRk
      have lX:Mem.le M2 (M2.set oW (.row [.int .i64 0,.int .i64 0] tRk)):=Mem.fO _ hb
      generalize M2.set oW _ = M2' at hY0 lX ⊢
      change aA w0 F M2' (star (aW oW [.int .i64 0,.int .i64 0] tRk) _) at hY0
      refine ⟨aKP hY0.right,hr1 _ lX,aDD hY0.right,aDD hY0.right,?_⟩
      obtain ⟨F1,hX1,hle1,back1⟩:=hY0.last
      obtain ⟨F2,hB,hle,back⟩:=hX1.aJX
      refine hlk (γ:=β) hB fun M3 γ hB3 g1 g2 g3=>?_
      have hX3:=back1 M3 _ (back M3 _ hB3)
      simp only [aK,aKz,aC,a9,aT,aS]
      refine ⟨aDD hX3.right,?_⟩
      refine aG6 hX3 fun M4 hY=>?_
      refine ⟨⟨by omega,by omega,by omega⟩,?_⟩
      have hfin:=fin M4 γ oW (fun _=>True) hY.dX.right g1 g2 g3
      rw [ea] at hfin
      exact hfin
 have key1:∀ (A B:List Tn) (s1:SV) (M1:Mem) (β:AS) (k:Nat),B.length < k→l = A ++ B→aA w0 F M1 (star (Es s1 (yA A)) (aF a β))→AS.Sm A.length α β→nC.L1 aB k (some ⟨a,0,none⟩) s1 s ((s.n:Nat):Int) (A.length:Int) M1:=by
  intro A B
  induction B generalizing A with
  | nil =>
   intro s1 M1 β k hk he hH hsm
   obtain ⟨k,rfl⟩:∃ j,k = j + 1:=⟨k - 1,by omega⟩
   rw [List.append_nil] at he
   subst he
   refine Eq.mpr (H.L1 ..) ?_
   unfold nC.L1.T aL
   rw [eK,if_neg (by omega)]
   refine aIn (l:=yA l) (fun x hx=>?_) (by simp [yA];omega) hH fun M2 Z hZs hZp hH2=>?_
   ·obtain ⟨t,ht,rfl⟩:=List.mem_map.1 hx
    have:=aAX (hok t ht) (Nat.le_trans (rZ ht) hsz)
    simp only;omega
   ·obtain ⟨W,hWp,rfl⟩:=aCo hZp
    change aEv (yA W) at hZs
    change aA w0 F M2 (star (Es s1 (yA W)) (aF a β)) at hH2
    have hWl:=hWp.length_eq
    refine ⟨W.length + 1,key2 W.length W [] s1 ⟨none,0,0⟩ M2 β (W.length + 1) rfl ?_ ?_ ?_ ?_ ?_ List.Pairwise.nil (aIQ hZs) (fun x hx=>by cases hx) (by simp;omega) (hsm.lN.mono (fun _ h=>h) (by simp;omega)) (fun c g _=>by rw [hsm.get]) (by omega)⟩
    ·obtain ⟨F2,hB,hle,back⟩:=(EsO.of hH2).last
     exact back M2 _ (aA.aFh hB)
    ·intro t ht
     exact (hst t (hWp.mem_iff.1 (by simpa using ht))).sm hsm
    ·simpa using tI hWp
    ·exact fun t ht=>hok t (hWp.mem_iff.1 (by simpa using ht))
    ·exact fun t ht=>hod t (hWp.mem_iff.1 (by simpa using ht))
  | cons t B ih =>
   intro s1 M1 β k hk he hH hsm
   obtain ⟨k,rfl⟩:∃ j,k = j + 1:=⟨k - 1,by omega⟩
   have ll:=congrArg List.length he
   simp only [List.length_append,List.length_cons] at ll hk
   have htl:t∈l:=by rw [he];simp
   have hget:(aU (l.map (·.n)))[A.length]? = some (t.n:Int):=by rw [he];simp [aU]
   have hlive:=(hlb t.n (hmemn t htl)).ln
   refine Eq.mpr (H.L1 ..) ?_
   unfold nC.L1.T aL
   rw [eK,if_pos (by omega)]
   refine rdx (x:=(t.n:Int)) W.c3 hs hH.fr A.length rfl hget ?_
   obtain ⟨F2,hB,hle,back⟩:=hH.last
   refine qF hB fun M2 hB2=>?_
   have hH2:=back M2 _ hB2
   rw [show β.jN (t.n:Int) 4 = (t.k:Int) from by
    rw [show β.jN (t.n:Int) 4 = β.get t.n 4 from AS.iN (f:=4) (by rw [hsm.live];exact hlive) (by omega),hsm.get]
    exact (hst t htl).2.1]
   simp only [aK,aKz,aC,a9,aT,aS]
   refine aLm hH2 _ _ fun M3 s3 l3 h3=>?_
   rw [aR]
   refine aMa h3.dX h3.xX (by simp [yA];omega) fun M4 s4 h4=>?_
   rw [aR,cX (by omega)]
   have:=ih (A ++ [t]) s4 M4 β.tick k (by omega) (by rw [he];simp) ?_ ((hsm.trans AS.aN).mono (by simp))
   ·rw [List.length_append,List.length_singleton] at this
    exact this
   ·rw [show yA (A ++ [t]) = yA A ++ [((t.n:Int),(t.k:Int))] from by simp [yA]]
    exact h4.dX.right
 exact ⟨l.length + 1,key1 [] l ⟨none,0,0⟩ M α _ (by omega) rfl (aA.pI hA) (AS.Sm.refl.mono (by simp))⟩
end
end HL
namespace HL
section
variable {w0:World} {M F:Mem} {R:VP} {a:Nat} {α:AS}
open Go.Proofs.YtodobkbnmjgkdaaGreat.HL.ST
theorem aE9 {s:SV} {l:List Int} {v:Int} (hs:tN w0 M .i64 s l) (hv:v∈l) (hb:l.length≤1000000) (h:R (.bool true) M):C PP w0 Id.cG #[SV.v s,.int .i64 v] R M:=by
 apply cG.go
 unfold cG.T aL
 apply rU.go
 intro aB H
 unfold rU.T aL
 have hsn:=hs.len
 have key:∀ (B A:List Int) (k:Nat),l = A ++ B→v∈B→B.length < k→rU.L1 aB k s v ((s.n:Nat):Int) (A.length:Int) M:=by
  intro B
  induction B with
  | nil=>intro A k _ hm;cases hm
  | cons x B ih =>
   intro A k he hm hk
   obtain ⟨k,rfl⟩:∃ j,k = j + 1:=⟨k - 1,by omega⟩
   have ll:=congrArg List.length he
   simp only [List.length_append,List.length_cons] at ll hk
   refine Eq.mpr (H.L1 ..) ?_
   unfold rU.L1.T aL
   rw [eK,if_pos (by omega)]
   refine rdx (x:=x) W.c3 hs (Mem.le_refl _) A.length rfl (by rw [he];simp) ?_
   rw [fB]
   split
   ·show lT .i64 (.int .i64 (A.length:Int)) _
    rw [aK,decide_eq_true (by omega)];exact h
   ·rename_i eQ
    rw [cX (by omega)]
    have:=ih (A ++ [x]) k (by rw [he];simp) ((List.mem_cons.1 hm).resolve_left eQ) (by omega)
    rw [List.length_append,List.length_singleton] at this
    exact this
 exact ⟨l.length + 1,key l [] _ rfl hv (by omega)⟩
theorem aI0 {kf:FuncId × Array Value} {Q:cW} {s:SV} {A B:List Int} {x:Int} (h:aA w0 F M (star (pG s ((A ++ x::B).map (Value.int .i64))) Q)) (hwf:∀ y∈A ++ x::B,(Lit.int .i64 y).wf = true) (hA:x ∉ A) (hB:x ∉ B) (hb:(A ++ x::B).length≤100000)
  (hp:∀ (y:Int) (M':Mem) (R':VP),Mem.le F M'→R' (.bool (y == x)) M'→C PP w0 kf.1 ((([.int .i64 y]:List Value) ++ kf.2.toList).toArray) R' M')
  (hR:∀ M' s',aA w0 F M' (star (pG s' ((A ++ B).map (Value.int .i64))) Q)→R s'.v M'):C PP w0 Id.qE #[SV.v s,.func (.func kf.1) #[] kf.2] R M:=by
 refine qE.go _ s kf ?_
 intro aB H
 unfold qE.T aL
 have hrd:∀ {M':Mem} {L:List Int},(∀ y∈L,(Lit.int .i64 y).wf = true)→L.length≤100000→aA w0 F M' (star (pG s (L.map (Value.int .i64))) Q)→tN w0 M' .i64 s L:=fun hw hl h'=>by
  obtain ⟨F1,g1,g2,g3⟩:=h'.sl
  exact g1.rdI hw (by omega)
 simp only [List.length_append,List.length_cons] at hb
 have hr0:=hrd hwf (by simp only [List.length_append,List.length_cons];omega) h
 have hsn:=hr0.len
 have hscap:=hr0.cap
 simp only [List.length_append,List.length_cons] at hsn
 have idx:∀ (K:VP),K (.int .i64 (A.length:Int)) M→C PP w0 Id.qM #[SV.v s,.func (.func kf.1) #[] kf.2] K M:=by
  intro K hK
  refine qM.go _ s kf ?_
  intro aB H
  unfold qM.T aL
  have key:∀ (A2 A1:List Int) (k:Nat),A = A1 ++ A2→A2.length < k→qM.L1 aB k s kf ((s.n:Nat):Int) (A1.length:Int) M:=by
   intro A2
   induction A2 with
   | nil =>
    intro A1 k he hk
    obtain ⟨k,rfl⟩:∃ j,k = j + 1:=⟨k - 1,by omega⟩
    rw [List.append_nil] at he
    subst he
    refine Eq.mpr (H.L1 ..) ?_
    unfold qM.L1.T aL
    rw [eK,if_pos (by omega)]
    refine rdx (x:=x) W.c3 hr0 (Mem.le_refl _) A.length rfl (by simp) ?_
    refine hp x M _ h.fr ?_
    rw [bT,beq_self_eq_true,dY];exact hK
   | cons y A2 ih =>
    intro A1 k he hk
    obtain ⟨k,rfl⟩:∃ j,k = j + 1:=⟨k - 1,by omega⟩
    have ll:=congrArg List.length he
    simp only [List.length_append,List.length_cons] at ll hk
    have eQ:y≠x:=fun e=>hA (by rw [he,←e];simp)
    refine Eq.mpr (H.L1 ..) ?_
    unfold qM.L1.T aL
    rw [eK,if_pos (by omega)]
    refine rdx (x:=y) W.c3 hr0 (Mem.le_refl _) A1.length rfl (by rw [he];simp) ?_
    refine hp y M _ h.fr ?_
    rw [bT,beq_eq_false_iff_ne.2 eQ,mY,cX (by omega)]
    have:=ih (A1 ++ [y]) k (by rw [he];simp) (by omega)
    rw [List.length_append,List.length_singleton] at this
    exact this
  exact ⟨A.length + 1,key A [] _ rfl (by omega)⟩
 refine idx _ ?_
 rw [aK,fB,if_neg (by omega)]
 have key:∀ (B2 B1:List Int) (c:Int) (M':Mem) (k:Nat),B = B1 ++ B2→(Lit.int .i64 c).wf = true→aA w0 F M' (star (pG s (((A ++ B1) ++ c::B2).map (Value.int .i64))) Q)→B2.length < k →
   qE.L1 aB k s kf ((A.length + B1.length:Nat):Int) ((A.length + B1.length + 1:Nat):Int) M':=by
  intro B2
  induction B2 with
  | nil =>
   intro B1 c M' k he hc hH hk
   obtain ⟨k,rfl⟩:∃ j,k = j + 1:=⟨k - 1,by omega⟩
   rw [List.append_nil] at he
   subst he
   refine Eq.mpr (H.L1 ..) ?_
   unfold qE.L1.T aL
   rw [eK,if_neg (by omega)]
   refine ⟨⟨by omega,by omega,by omega⟩,?_⟩
   obtain ⟨inf,hi',hz,hsz,hzs,hb1,hb2⟩:=W.e3
   obtain ⟨r,⟨r1,r2,rfl,h1,h2⟩,h3⟩:=hH
   rcases h1 with ⟨rfl,h0,_⟩ | ⟨b,rest,e,hs,rfl⟩
   ·simp at h0
   ·have ho:=h3.own (b:=b) (cs:=((A ++ B) ++ [c]).map (Value.int .i64) ++ rest) (e:=e) List.mem_cons_self
    have hcap:s.c = A.length + B.length + 1 + rest.length:=by rw [hs];simp;omega
    have hsa:s.a = some ⟨b,0,none⟩:=by rw [hs]
    have hz1:iH (Value.int .i64 0) 1 = [Value.int .i64 0]:=by kernel_rfl
    rw [hsa,if_neg (by omega)]
    simp only [Option.map_some,Int.toNat_natCast,add_eq,Nat.zero_add,Nat.mul_one]
    rw [show s.n - (A.length + B.length) = 1 from by omega]
    refine aI9 Tryz.underlying53 hi' hz (n:=1) (by decide) ho (by rw [hz1];simp;omega) (by rw [hz1];intro v hv;rw [List.mem_singleton.1 hv];rfl) ?_
    rw [hz1]
    refine ⟨⟨by omega,by omega,by omega⟩,?_⟩
    have hov:dZ (((A ++ B) ++ [c]).map (Value.int .i64) ++ rest) (A.length + B.length) [Value.int .i64 0] = (A ++ B).map (Value.int .i64) ++ (Value.int .i64 0::rest):=by
     have:=eO ((A ++ B).map (Value.int .i64)) [Value.int .i64 c] rest [Value.int .i64 0] rfl (o:=A.length + B.length) (by simp)
     rw [List.map_append,List.append_assoc]
     exact this
    rw [hov]
    have h4:Fit w0 F (M'.set b (.row ((A ++ B).map (Value.int .i64) ++ (Value.int .i64 0::rest)) e)) ((b,(A ++ B).map (Value.int .i64) ++ (Value.int .i64 0::rest),e)::r2):=h3.upd
    have hfin:=hR _ ⟨some ⟨b,0,none⟩,A.length + B.length,s.c⟩ ⟨_,⟨[_],r2,rfl,.inr ⟨b,Value.int .i64 0::rest,e,?_,rfl⟩,h2⟩,h4⟩
    ·have:(if s.c = (0:Int).toNat then some (⟨b,0,none⟩:Addr) else some ⟨b,(0:Int).toNat,none⟩) = some ⟨b,0,none⟩:=by split <;> rfl
     simp only [Int.toNat_zero,Nat.sub_zero] at this ⊢
     rw [this]
     exact hfin
    ·simp only [SV.mk.injEq,true_and,List.length_map,List.length_append,List.length_cons]
     omega
  | cons y B2 ih =>
   intro B1 c M' k he hc hH hk
   obtain ⟨k,rfl⟩:∃ j,k = j + 1:=⟨k - 1,by omega⟩
   have ll:=congrArg List.length he
   simp only [List.length_append,List.length_cons] at ll hk
   have eQ:y≠x:=fun e=>hB (by rw [he,←e];simp)
   have hyw:(Lit.int .i64 y).wf = true:=hwf y (by rw [he];simp)
   have hcur:∀ u∈(A ++ B1) ++ c::y::B2,(Lit.int .i64 u).wf = true:=fun u hu=>by
    simp only [List.mem_append,List.mem_cons] at hu
    rcases hu with (hu | hu) | rfl | rfl | hu
    ·exact hwf u (by simp [hu])
    ·exact hwf u (by rw [he];simp [hu])
    ·exact hc
    ·exact hyw
    ·exact hwf u (by rw [he];simp [hu])
   have hr:=hrd hcur (by simp only [List.length_append,List.length_cons];omega) hH
   refine Eq.mpr (H.L1 ..) ?_
   unfold qE.L1.T aL
   rw [eK,if_pos (by omega)]
   refine rdx (x:=y) W.c3 hr (Mem.le_refl _) (A.length + B1.length + 1) rfl (by
    rw [List.getElem?_append_right (by simp),List.length_append,show A.length + B1.length + 1 - (A.length + B1.length) = 1 from by omega];rfl) ?_
   refine hp y M' _ hH.fr ?_
   rw [bT,beq_eq_false_iff_ne.2 eQ,Bool.not_false,dY]
   refine st1 W.c3 hH (A.length + B1.length) rfl (by simp) rfl rfl fun M2 hH2=>?_
   rw [cX (by omega),cX (by omega)]
   have e2:(((A ++ B1) ++ c::y::B2).map (Value.int .i64)).set (A.length + B1.length) (.int .i64 y) = ((A ++ (B1 ++ [y])) ++ y::B2).map (Value.int .i64):=by
    rw [List.map_append,List.map_cons,List.set_append_right _ _ (by simp),List.length_map,List.length_append,Nat.sub_self,List.set_cons_zero]
    simp
   rw [e2] at hH2
   have:=ih (B1 ++ [y]) y M2 k (by rw [he];simp) hyw hH2 (by omega)
   rw [List.length_append,List.length_singleton] at this
   exact this
 rw [cX (by omega)]
 exact ⟨B.length + 1,key B [] x M _ rfl (hwf x (by simp)) (by simpa using h) (by omega)⟩
theorem aBQ (hA:aA w0 F M (aF a α)) {f:Nat→cC} {l:List Tn} {n:Nat} (hst:St α (-1) (fo l)) (hn1:α.get n 1 = -1) (hn4:α.get n 4 = 0) (hlb:Lb α f (n::aQ l)) (fS:(bE f (n::aQ l)).Nodup) (hok:∀ t∈l,wS 2 t) (hod:∀ t∈l,y8 f t) (hwk:Wk l)
  (h:∀ M' β f' l',aA w0 F M' (aF a β)→St β (-1) (fo l')→Lb β f' (n::aQ l)→(aQ l').Perm (n::aQ l)→((n::aQ l).map f').Perm ((n::aQ l).map f)→(∀ x,x ∉ n::aQ l→f' x = f x)→(∀ t∈l',wS 2 t)→(∀ t∈l',y8 f' t)→Wk l'→AS.nM (fun c=>c∈bE f (n::aQ l)) 40 α β→R (.int .i64 (fo l').root) M') :
  C PP w0 Id.tF #[.pointer (some ⟨a,0,none⟩),.int .i64 (fo l).root,.int .i64 (n:Int)] R M:=by
 apply tF.go
 intro aB H
 unfold tF.T aL
 have hI:=hA.inv
 have hI65:=hI.n
 have hnn:=iB fS
 obtain ⟨hn0,hnl⟩:=List.nodup_cons.1 hnn
 have hsz:=mT α.n _ hnn fun y hy=>AS.cE hI (hlb y hy).ln
 have hNn:=hlb n List.mem_cons_self
 have hcn:n∈bE f (n::aQ l):=List.mem_append_left _ List.mem_cons_self
 have hcl:∀ c∈aQ l,c∈bE f (n::aQ l):=fun c hc=>List.mem_append_left _ (List.mem_cons_of_mem _ hc)
 have front:Rs l→∀ (M1:Mem) (β:AS),aA w0 F M1 (aF a β)→AS.Sm 3 α β→C PP w0 Id.pH #[.pointer (some ⟨a,0,none⟩),.int .i64 (n:Int),.int .i64 3,.int .i64 (fo l).root] (fun v7 M8=>shB v7 fun b9=>C PP w0 Id.pH #[.pointer (some ⟨a,0,none⟩),.int .i64 (n:Int),.int .i64 0,.int .i64 (-1)] (fun v10 M11=>shB v10 fun b12=>R (.int .i64 (n:Int)) M11) M8) M1:=by
  intro hrs M1 β hB hsm
  refine gV hB fun M2 hB2=>?_
  rw [show β.lS (n:Int) 3 (fo l).root = β.put n 3 (fo l).root from AS.cO (f:=3) (by rw [hsm.live];exact hNn.ln) (by omega) _] at hB2
  rw [bT]
  refine gV hB2 fun M3 hB3=>?_
  rw [show (β.put n 3 (fo l).root).tick.lS (n:Int) 0 (-1) = (β.put n 3 (fo l).root).tick.put n 0 (-1) from AS.cO (α:=(β.put n 3 (fo l).root).tick) (f:=0) (by show β.live n = true;rw [hsm.live];exact hNn.ln) (by omega) _] at hB3
  rw [bT]
  have s3:AS.Sm 5 ((α.put n 3 (fo l).root).put n 0 (-1)) ((β.put n 3 (fo l).root).tick.put n 0 (-1)).tick:=((((hsm.put n 3 (fo l).root).trans AS.aN).put n 0 (-1)).trans AS.aN).mono (by omega)
  generalize ((β.put n 3 (fo l).root).tick.put n 0 (-1)).tick = γ at hB3 s3
  have g:∀ c x,γ.get c x = if c = n∧x = 0 then -1 else if c = n∧x = 3 then (fo l).root else α.get c x:=fun c x=>by rw [s3.get];rfl
  have gl:∀ c,γ.live c = α.live c:=fun c=>by rw [s3.live];rfl
  refine h M3 γ f (⟨n,0,.nil⟩::l) hB3 ⟨?_,?_,?_,?_,trivial,?_⟩ (hlb.congr (fun c _ x hx=>by rw [g,if_neg (by omega),if_neg (by omega)]) (fun c _=>gl c)) (List.Perm.refl _) (List.Perm.refl _) (fun _ _=>rfl) (fun t ht=>?_) (fun t ht=>?_) ⟨hrs,fun x _=>Nat.zero_le _⟩
   (((((AS.nM.refl (S:=fun c=>c∈bE f (n::aQ l)) (α:=α)).put hcn).put hcn).trans s3.lN).mono (fun _ h=>h) (by omega))
  ·rw [g,if_pos ⟨rfl,rfl⟩]
  ·rw [g,if_neg (by omega),if_neg (by omega)];exact hn1
  ·rw [g,if_neg (by omega),if_pos ⟨rfl,rfl⟩]
  ·rw [g,if_neg (by omega),if_neg (by omega)];exact hn4
  ·refine hst.congr fun x hx y _=>?_
   rw [qH] at hx
   have eQ:x≠n:=fun e=>hn0 (e▸hx)
   rw [g,if_neg (fun e:x = n∧y = 0=>eQ e.1),if_neg (fun e:x = n∧y = 3=>eQ e.1)]
  ·rcases List.mem_cons.1 ht with rfl | ht
   ·exact aEW
   ·exact hok t ht
  ·rcases List.mem_cons.1 ht with rfl | ht
   ·exact ⟨fun x hx=>(by cases hx),trivial⟩
   ·exact hod t ht
 match l,hst,hlb,fS,hok,hod,hwk,h,hnn,hn0,hnl,hcn,hcl,front,hsz,hNn with
 | [],hst,hlb,fS,hok,hod,hwk,h,hnn,hn0,hnl,hcn,hcl,front,hsz,hNn =>
  (rw [show (fo []).root = -1 from rfl,bX,if_pos rfl];refine Eq.mpr (H.J1 ..) ?_)
  unfold tF.J1.T aL
  refine qF hA fun M1 hA1=>?_
  rw [aK,fB,if_pos rfl]
  exact front List.Pairwise.nil M1 _ hA1 (AS.aN.mono (by omega))
 | [t],hst,hlb,fS,hok,hod,hwk,h,hnn,hn0,hnl,hcn,hcl,front,hsz,hNn =>
  have hlt:α.live t.n = true:=(hlb t.n (by simp [aQ,eR])).ln
  rw [show (fo [t]).root = (t.n:Int) from rfl,bX,if_neg (by omega)]
  refine eT hA fun M1 hA1=>?_
  (rw [show α.fN (t.n:Int) 3 = -1 from AS.zQ (f:=3) hlt (by omega) hst.2.2.1,aK];refine Eq.mpr (H.J1 ..) ?_)
  unfold tF.J1.T aL
  refine qF hA1 fun M2 hA2=>?_
  rw [aK,fB,if_pos rfl]
  exact front (List.pairwise_singleton _ _) M2 _ hA2 ((AS.aN.trans AS.aN).mono (by omega))
 | t::u::rest,hst,hlb,fS,hok,hod,hwk,h,hnn,hn0,hnl,hcn,hcl,front,hsz,hNn =>
  have hlt:α.live t.n = true:=(hlb t.n (by simp [aQ,eR])).ln
  have hlu:α.live u.n = true:=(hlb u.n (by simp [aQ,eR])).ln
  rw [show (fo (t::u::rest)).root = (t.n:Int) from rfl,bX,if_neg (by omega)]
  obtain ⟨t0,t1,t3,t4,t5,u0,u1,u3,u4,u5,hrest⟩:=hst
  refine eT hA fun M1 hA1=>?_
  (rw [show α.fN (t.n:Int) 3 = (u.n:Int) from AS.dE (f:=3) hlt (by omega) t3 (AS.cE hI hlu),aK];refine Eq.mpr (H.J1 ..) ?_)
  unfold tF.J1.T aL
  refine qF hA1 fun M2 hA2=>?_
  rw [show α.tick.jN (t.n:Int) 4 = (t.k:Int) from (AS.iN (α:=α.tick) (f:=4) hlt (by omega)).trans t4,aK,fB,if_neg (by omega)]
  refine qF hA2 fun M3 hA3=>?_
  rw [show α.tick.tick.jN (u.n:Int) 4 = (u.k:Int) from (AS.iN (α:=α.tick.tick) (f:=4) hlu (by omega)).trans u4,aK,bX]
  have s3:AS.Sm 3 α α.tick.tick.tick:=((AS.aN.trans AS.aN).trans AS.aN).mono (by omega)
  obtain ⟨wk1,wk2⟩:=hwk
  have htu:=wk2 u List.mem_cons_self
  split
  rotate_left
  ·rename_i eQ
   have hlt':t.k < u.k:=by
    have:¬ ((u.k:Int) = (t.k:Int)):=eQ
    omega
   refine front (List.pairwise_cons.2 ⟨fun x hx=>?_,wk1⟩) M3 _ hA3 s3
   rcases List.mem_cons.1 hx with rfl | hx
   ·exact hlt'
   ·exact Nat.lt_trans hlt' ((List.pairwise_cons.1 wk1).1 x hx)
  ·rename_i heq
   have hkk:t.k = u.k:=by
    have:(u.k:Int) = (t.k:Int):=heq
    omega
   refine Eq.mpr (H.J2 ..) ?_
   unfold tF.J2.T aL
   generalize hα3:α.tick.tick.tick = α3 at hA3 s3
   have hrl:(fo rest).root = -1∨∃ y:Nat,(fo rest).root = (y:Int)∧α.live y = true:=by
    cases rest with
    | nil=>exact .inl rfl
    | cons v rest=>exact .inr ⟨v.n,rfl,(hlb v.n (by simp [aQ,eR])).ln⟩
   refine eT hA3 fun M4 hA4=>?_
   rw [show α3.fN (u.n:Int) 3 = (fo rest).root from AS.j5 hA3.inv (f:=3) (by rw [s3.live];exact hlu) (by omega) (by rw [s3.get];exact u3) (by rw [s3.live];exact hrl),aK]
   have s4:AS.Sm 4 α α3.tick:=(s3.trans AS.aN).mono (by omega)
   generalize α3.tick = α4 at hA4 s4
   have hNl:aQ (t::u::rest) = eR t ++ (eR u ++ aQ rest):=rfl
   have hnl2:=hnl
   rw [hNl,←List.append_assoc] at hnl2
   obtain ⟨q1,q2,q3⟩:=List.nodup_append.1 hnl2
   have hlb4:Lb α4 f (n::aQ (t::u::rest)):=hlb.sm s4
   have htk:t.k≤65536:=aAX (hok t (by simp)) (Nat.le_trans (rZ (l:=t::u::rest) (by simp)) (by simp only [List.length_cons] at hsz;omega))
   refine aFa hA4 (t:=t) (u:=u) (yV.sm (t:=t) ⟨t1,t4,t5⟩ s4) (yV.sm (t:=u) ⟨u1,u4,u5⟩ s4) (hlb4.sub fun x hx=>by
    refine List.mem_cons_of_mem _ ?_
    rw [hNl,←List.append_assoc]
    exact List.mem_append_left _ hx) q1 hkk (by omega) fun M5 β hB hstw hcβ hgβ hwβ=>?_
   rw [aK]
   have hwok:=aHJ f (by decide) (hok t (by simp)) (hok u (by simp)) hkk
   have hwk':=aJ1 f hkk
   have hwn:=aEZ f t u
   have hwod:y8 f (sU f t u):=aIb (hod t (by simp)) (hod u (by simp)) fun e=>by
    have:=kO fS t.n (by simp [aQ,eR]) u.n (by simp [aQ,eR]) e
    exact (List.nodup_append.1 q1).2.2 t.n List.mem_cons_self u.n List.mem_cons_self this
   have hw0:β.get (sU f t u).n 0 = -1:=by
    rw [hwβ 0 (by decide) (by decide),s4.get]
    rcases aLc f t u with e | e
    ·rw [e];exact t0
    ·rw [e];exact u0
   generalize hw:sU f t u = w at hstw hwβ hwok hwk' hwn hwod hw0 ⊢
   have hwmem:∀ c∈eR w,c∈aQ (t::u::rest):=fun c hc=>by
    rw [hNl,←List.append_assoc]
    exact List.mem_append_left _ (hwn.mem_iff.1 hc)
   have hnw:n ∉ eR w:=fun hc=>hn0 (hwmem n hc)
   have hnw':n≠w.n:=fun e=>hnw (e▸List.mem_cons_self)
   have hnt:n≠t.n:=fun e=>hn0 (by rw [e];simp [aQ,eR])
   have hnu:n≠u.n:=fun e=>hn0 (by rw [e];simp [aQ,eR])
   have hlbβ:Lb β f (n::aQ (t::u::rest)):=hlb4.congr (fun c _ x hx=>hgβ c x (by omega)) (fun c _=>by rw [hcβ.live])
   have hwin:w.n∈n::aQ (t::u::rest):=List.mem_cons_of_mem _ (hwmem _ List.mem_cons_self)
   have gβ:∀ x,x≠t.n→x≠u.n→∀ y,β.get x y = α.get x y:=fun x h1 h2 y=>by
    rw [hcβ.get x (by rintro (e | e);exact h1 e;exact h2 e),s4.get]
   have hβlive:∀ x,β.live x = α.live x:=fun x=>by rw [hcβ.live,s4.live]
   have hcβ':AS.nM (fun c=>c∈bE f (n::aQ (t::u::rest))) 15 α β:=(s4.lN.trans (hcβ.mono (T:=fun c=>c∈bE f (n::aQ (t::u::rest))) (fun c hc=>by
    rcases hc with rfl | rfl
    ·exact hcl _ (by simp [aQ,eR])
    ·exact hcl _ (by simp [aQ,eR])) (Int.le_refl _))).mono (fun _ h=>h) (by omega)
   refine q8 hB (hlbβ n List.mem_cons_self) (hlbβ w.n hwin) fun M6 γ hC s6=>?_
   rw [bT]
   have fin:∀ (f':Nat→cC) (M7:Mem) (δ:AS),aA w0 F M7 (aF a δ)→Lb δ f' (n::aQ (t::u::rest))→((n::aQ (t::u::rest)).map f').Perm ((n::aQ (t::u::rest)).map f)→(∀ x,x≠n→x≠w.n→f' x = f x)→Bf (f' w.n) (f' n)→(∀ x∈aO w.c,Bf (f' w.n) (f x)) →
     (∀ x∈n::aQ (t::u::rest),∀ y,y≠6→δ.get x y = β.get x y)→AS.nM (fun c=>c∈bE f (n::aQ (t::u::rest))) 27 α δ→tF.J3 aB (some ⟨a,0,none⟩) (n:Int) (fo rest).root (w.n:Int) M7:=by
    intro f' M7 δ hD hlb' hpf hff hb1 hb2 hgδ hcδ
    refine Eq.mpr (H.J3 ..) ?_
    unfold tF.J3.T aL
    have hwcr:w.c.root = -1∨∃ y:Nat,w.c.root = (y:Int)∧δ.live y = true:=by
     cases hc:w.c with
     | nil=>exact .inl rfl
     | node y k c s=>exact .inr ⟨y,rfl,(hlb' y (List.mem_cons_of_mem _ (hwmem y (by unfold eR;rw [hc];simp [aO])))).ln⟩
    refine aDj hD (n:=n) (up:=w.n) (hlb' n List.mem_cons_self).ln (hlb' w.n hwin).ln (v:=w.c.root) (by rw [hgδ w.n hwin 1 (by decide)];exact hstw.1) hwcr fun M8 ε hE s8=>?_
    refine gV hE fun M9 hE9=>?_
    have hεw:ε.live w.n = true:=by rw [s8.live];exact (hlb' w.n hwin).ln
    rw [show ε.lS (w.n:Int) 3 (fo rest).root = ε.put w.n 3 (fo rest).root from AS.cO (f:=3) hεw (by omega) _] at hE9
    rw [bT]
    have s9:AS.Sm 5 ((((δ.put n 3 w.c.root).put n 0 (w.n:Int)).put w.n 1 (n:Int)).put w.n 3 (fo rest).root) (ε.put w.n 3 (fo rest).root).tick:=((s8.put w.n 3 (fo rest).root).trans AS.aN).mono (by omega)
    generalize (ε.put w.n 3 (fo rest).root).tick = ζ at hE9 s9
    have g:∀ c x,ζ.get c x = if c = w.n∧x = 3 then (fo rest).root else if c = w.n∧x = 1 then (n:Int) else if c = n∧x = 0 then (w.n:Int) else if c = n∧x = 3 then w.c.root else δ.get c x:=fun c x=>by rw [s9.get];rfl
    have hodw:y8 f' (und ⟨n,0,.nil⟩ w):=by
     refine aBh (m:=⟨n,0,.nil⟩) ⟨fun x hx=>(by cases hx),trivial⟩ ⟨fun x hx=>?_,?_⟩ hb1
     ·rw [hff x (fun e=>hnw (e▸List.mem_cons_of_mem _ hx)) (fun e=>(List.nodup_cons.1 (hwn.nodup_iff.2 q1)).1 (e▸hx))]
      exact hb2 x hx
     ·exact hwod.2.congr fun x hx=>hff x (fun e=>hnw (e▸List.mem_cons_of_mem _ hx)) (fun e=>(List.nodup_cons.1 (hwn.nodup_iff.2 q1)).1 (e▸hx))
    refine h M9 ζ f' (und ⟨n,0,.nil⟩ w::rest) hE9 ?_ (hlb'.congr (fun c _ x hx=>by rw [g,if_neg (by omega),if_neg (by omega),if_neg (by omega),if_neg (by omega)]) (fun c _=>by rw [s9.live];rfl)) ?_ hpf ?_ (fun v hv=>?_) (fun v hv=>?_) ⟨(List.pairwise_cons.1 wk1).2,fun x hx=>?_⟩ ?_
    ·refine ⟨?_,?_,?_,?_,?_,?_⟩
     ·show ζ.get w.n 0 = -1
      rw [g,if_neg (by omega),if_neg (by omega),if_neg (by omega),if_neg (by omega),hgδ w.n hwin 0 (by decide)];exact hw0
     ·show ζ.get w.n 1 = (n:Int)
      rw [g,if_neg (by omega),if_pos ⟨rfl,rfl⟩]
     ·show ζ.get w.n 3 = _
      rw [g,if_pos ⟨rfl,rfl⟩]
     ·show ζ.get w.n 4 = (w.k:Int)
      rw [g,if_neg (by omega),if_neg (by omega),if_neg (by omega),if_neg (by omega),hgδ w.n hwin 4 (by decide)];exact hstw.2.1
     ·refine ⟨?_,?_,?_,?_,trivial,?_⟩
      ·show ζ.get n 0 = (w.n:Int)
       rw [g,if_neg (by omega),if_neg (by omega),if_pos ⟨rfl,rfl⟩]
      ·show ζ.get n 1 = -1
       rw [g,if_neg (by omega),if_neg (by omega),if_neg (by omega),if_neg (by omega),hgδ n List.mem_cons_self 1 (by decide),gβ n hnt hnu];exact hn1
      ·show ζ.get n 3 = _
       rw [g,if_neg (by omega),if_neg (by omega),if_neg (by omega),if_pos ⟨rfl,rfl⟩]
      ·show ζ.get n 4 = 0
       rw [g,if_neg (by omega),if_neg (by omega),if_neg (by omega),if_neg (by omega),hgδ n List.mem_cons_self 4 (by decide),gβ n hnt hnu];exact hn4
      ·refine hstw.2.2.congr fun x hx y hy=>?_
       have h1:x≠w.n:=fun e=>(List.nodup_cons.1 (hwn.nodup_iff.2 q1)).1 (e▸hx)
       have h2:x≠n:=fun e=>hnw (e▸List.mem_cons_of_mem _ hx)
       rw [g,if_neg (fun e:x = w.n∧y = 3=>h1 e.1),if_neg (fun e:x = w.n∧y = 1=>h1 e.1),if_neg (fun e:x = n∧y = 0=>h2 e.1),if_neg (fun e:x = n∧y = 3=>h2 e.1)]
       exact hgδ x (List.mem_cons_of_mem _ (hwmem x (List.mem_cons_of_mem _ hx))) y hy
     ·refine hrest.congr fun x hx y hy=>?_
      rw [qH] at hx
      have h1:x≠w.n:=fun e=>q3 w.n (hwn.mem_iff.1 List.mem_cons_self) x hx e.symm
      have h2:x≠n:=fun e=>hn0 (by rw [←e,hNl,←List.append_assoc];exact List.mem_append_right _ hx)
      rw [g,if_neg (fun e:x = w.n∧y = 3=>h1 e.1),if_neg (fun e:x = w.n∧y = 1=>h1 e.1),if_neg (fun e:x = n∧y = 0=>h2 e.1),if_neg (fun e:x = n∧y = 3=>h2 e.1)]
      rw [hgδ x (List.mem_cons_of_mem _ (by rw [hNl,←List.append_assoc];exact List.mem_append_right _ hx)) y hy]
      exact gβ x (fun e=>q3 t.n (by simp [eR]) x hx e.symm) (fun e=>q3 u.n (by simp [eR]) x hx e.symm) y
    ·show (eR (und ⟨n,0,.nil⟩ w) ++ aQ rest).Perm _
     refine ((aJc ⟨n,0,.nil⟩ w).append_right _).trans ?_
     show (n::(eR w ++ aQ rest)).Perm _
     refine List.Perm.cons _ ?_
     rw [hNl,←List.append_assoc]
     exact hwn.append_right _
    ·intro x hx
     exact hff x (fun e=>hx (e▸List.mem_cons_self)) (fun e=>hx (e▸hwin))
    ·rcases List.mem_cons.1 hv with rfl | hv
     ·exact aJb hwok.1 rfl rfl (by rw [hwk'];have:=hwok.2;omega)
     ·exact hok v (by simp [hv])
    ·rcases List.mem_cons.1 hv with rfl | hv
     ·exact hodw
     ·refine (hod v (by simp [hv])).congr fun x hx=>hff x (fun e=>hn0 ?_) (fun e=>?_)
      ·rw [←e];exact eJ.2 ⟨v,by simp [hv],hx⟩
      ·exact q3 w.n (hwn.mem_iff.1 List.mem_cons_self) x (eJ.2 ⟨v,hv,hx⟩) e.symm
    ·show w.k≤x.k
     have:=(List.pairwise_cons.1 wk1).1 x hx
     rw [hwk'];omega
    ·have cw:w.n∈bE f (n::aQ (t::u::rest)):=List.mem_append_left _ hwin
     exact (((((hcδ.put (f:=3) (v:=w.c.root) hcn).put (f:=0) (v:=(w.n:Int)) hcn).put (f:=1) (v:=(n:Int)) cw).put (f:=3) (v:=(fo rest).root) cw).trans s9.lN).mono (fun _ h=>h) (by omega)
   have hwcn:∀ x∈aO w.c,Bf (f w.n) (f x):=hwod.1
   by_cases hbf:Bf (f n) (f w.n)
   ·rw [decide_eq_true hbf,dY]
    have hlbγ:=hlbβ.sm s6
    refine aFG hC (hlbγ n List.mem_cons_self) (hlbγ w.n hwin) fun M7 δ hD s7=>?_
    have hiw:∀ c,c = (f n).1∨c = (f w.n).1→c∈bE f (n::aQ (t::u::rest)):=fun c hc=>by
     rcases hc with rfl | rfl
     ·exact List.mem_append_right _ (List.mem_map.2 ⟨n,List.mem_cons_self,rfl⟩)
     ·exact List.mem_append_right _ (List.mem_map.2 ⟨w.n,hwin,rfl⟩)
    refine fin (sw f n w.n) M7 δ hD (aJ5 hlbγ fS List.mem_cons_self hwin hnw' s7) (aER hnn List.mem_cons_self hwin) (fun x h1 h2=>by unfold sw;rw [if_neg h1,if_neg h2]) ?_ (fun x hx=>?_) (fun x hx y hy=>?_) ?_
    ·have e1:sw f n w.n w.n = f n:=by unfold sw;rw [if_neg (fun e=>hnw' e.symm),if_pos rfl]
     have e2:sw f n w.n n = f w.n:=by unfold sw;rw [if_pos rfl]
     rw [e1,e2];exact hbf
    ·have e1:sw f n w.n w.n = f n:=by unfold sw;rw [if_neg (fun e=>hnw' e.symm),if_pos rfl]
     rw [e1];exact hbf.tr (hwcn x hx)
    ·rw [s7.get]
     show (if x = (f n).1∧y = 9 then (w.n:Int) else if x = w.n∧y = 6 then ((f n).1:Int) else if x = (f w.n).1∧y = 9 then (n:Int) else if x = n∧y = 6 then ((f w.n).1:Int) else γ.get x y) = _
     rw [if_neg (fun e=>rY fS x hx n List.mem_cons_self e.1),if_neg (fun e=>hy e.2),if_neg (fun e=>rY fS x hx w.n hwin e.1),if_neg (fun e=>hy e.2),s6.get]
    ·exact ((((((hcβ'.trans s6.lN).put (f:=6) (v:=((f w.n).1:Int)) hcn).put (f:=9) (v:=(n:Int)) (hiw _ (.inr rfl))).put (f:=6) (v:=((f n).1:Int)) (List.mem_append_left _ hwin)).put (f:=9) (v:=(w.n:Int)) (hiw _ (.inl rfl))).trans s7.lN).mono (fun _ h=>h) (by omega)
   ·rw [decide_eq_false hbf,mY]
    refine fin f M6 γ hC (hlbβ.sm s6) (List.Perm.refl _) (fun _ _ _=>rfl) (Bf.tot hbf fun e=>hnw' (kO fS n List.mem_cons_self w.n hwin e)) hwcn (fun x _ y _=>by rw [s6.get]) ((hcβ'.trans s6.lN).mono (fun _ h=>h) (by omega))
end
end HL
namespace HL
namespace ST
theorem aE1 {k n:Nat} (h:2 ^ k≤n) (hn:n≤301):k≤8:=by
 apply Decidable.byContradiction
 intro hc
 have:2 ^ 9≤2 ^ k:=Nat.pow_le_pow_right (by decide) (by omega)
 omega
theorem aJz {z:Nat} {l:List Tn} (h:Rs l) (ho:∀ t∈l,wS z t) (hs:(aQ l).length≤300):l.length≤8:=by
 have h1:=aCu (j:=0) h fun t ht=>⟨ho t ht,Nat.zero_le _⟩
 rw [Nat.zero_add,Nat.pow_zero] at h1
 exact aE1 h1 (by omega)
theorem wF {z:Nat} {l:List Tn} (h:Wk l) (ho:∀ t∈l,wS z t) (hs:(aQ l).length≤300):l.length≤9:=by
 cases l with
 | nil=>simp
 | cons t l =>
  rw [mR,List.length_cons,List.length_append] at hs
  have:=aJz h.1 (fun x hx=>ho x (List.mem_cons_of_mem _ hx)) (by omega)
  rw [List.length_cons];omega
theorem tM {f g:Nat→cC} {N N':List Nat} (h1:N.Perm N') (h2:(N.map f).Perm (N'.map g)):(bE f N).Perm (bE g N'):=by
 unfold bE
 refine h1.append ?_
 have:=h2.map (·.1)
 rw [List.map_map,List.map_map] at this
 exact this
theorem iI {l:List Tn} {t:Tn} (h:t∈l):t.n∈aQ l:=eJ.2 ⟨t,h,List.mem_cons_self⟩
theorem p8 (A B:List Tn) (t:Tn):(aQ (A ++ t::B)).Perm (t.n::(aQ (A ++ B) ++ aO t.c)):=by
 have h:(aQ (A ++ t::B)).Perm (aQ (t::(A ++ B))):=tI List.perm_middle
 refine h.trans ?_
 rw [mR]
 exact List.Perm.cons _ List.perm_append_comm
theorem aA4 {l:List Tn} (h:(aQ l).Nodup):(l.map (·.n)).Nodup:=by
 have hsub:∀ (l:List Tn),(l.map (·.n)).Sublist (aQ l):=fun l=>by
  induction l with
  | nil=>exact List.Sublist.refl _
  | cons t l ih=>rw [mR];exact (ih.trans (List.sublist_append_right _ _)).cons_cons _
 exact h.sublist (hsub l)
end ST
section
variable {w0:World} {M F:Mem} {R:VP} {a:Nat} {α:AS}
open Go.Proofs.YtodobkbnmjgkdaaGreat.HL.ST
theorem mU {l:List Nat} (h:∀ x∈l,x < 1000000):∀ n∈aU l,(Lit.int .i64 n).wf = true:=fun n hn=>by
 obtain ⟨x,hx,rfl⟩:=List.mem_map.1 hn
 exact aHz (by have:=h x hx;unfold cM;omega)
structure m7 (z:Nat) (α:AS) (f:Nat→cC) (A:List Tn) (t:Tn) (B:List Tn):Prop where
 st:∀ u∈A ++ t::B,yV α u
 lb:Lb α f (aQ (A ++ t::B))
 nd:(bE f (aQ (A ++ t::B))).Nodup
 ok:∀ u∈A ++ t::B,wS z u
 od:∀ u∈A ++ B,y8 f u
 odt:Od f t.c
 wk:Wk (A ++ t::B)
 sz:(aQ (A ++ t::B)).length≤300
section
variable {z:Nat} {f:Nat→cC} {A B:List Tn} {t:Tn}
theorem m7.sm {k:Int} {β:AS} (h:m7 z α f A t B) (hs:AS.Sm k α β):m7 z β f A t B:=⟨fun u hu=>(h.st u hu).sm hs,h.lb.sm hs,h.nd,h.ok,h.od,h.odt,h.wk,h.sz⟩
theorem m7.mem (h:m7 z α f A t B):t∈A ++ t::B:=by simp
theorem m7.tn (h:m7 z α f A t B):α.Nd t.n (f t.n).1 (f t.n).2:=h.lb _ (iI h.mem)
theorem m7.nn (h:m7 z α f A t B):(t.n::(aQ (A ++ B) ++ aO t.c)).Nodup:=(p8 A B t).nodup_iff.1 (iB h.nd)
theorem m7.small (h:m7 z α f A t B) (hi:α.Inv):∀ x∈aQ (A ++ t::B),x < 1000000:=fun x hx=>by
 have:=AS.cE hi (h.lb x hx).ln
 have:=hi.n
 omega
theorem m7.cel (h:m7 z α f A t B):(bE f (aQ (A ++ t::B))).Perm (bE f (t.n::(aQ (A ++ B) ++ aO t.c))):=j7 (p8 A B t)
theorem m7.apart (h:m7 z α f A t B):∀ c∈bE f (aQ (A ++ B) ++ aO t.c),c≠t.n∧c≠(f t.n).1:=by
 have hn:=h.cel.nodup_iff.1 h.nd
 unfold bE at hn
 rw [List.map_cons,List.nodup_append] at hn
 obtain ⟨n1,n2,n3⟩:=hn
 intro c hc
 rcases List.mem_append.1 hc with hc | hc
 ·exact ⟨fun e=>(List.nodup_cons.1 n1).1 (e▸hc),n3 c (List.mem_cons_of_mem _ hc) _ List.mem_cons_self⟩
 ·exact ⟨fun e=>n3 t.n List.mem_cons_self c (List.mem_cons_of_mem _ hc) e.symm,fun e=>(List.nodup_cons.1 n2).1 (e▸hc)⟩
theorem m7.sub (h:m7 z α f A t B):∀ c∈bE f (aQ (A ++ B) ++ aO t.c),c∈bE f (aQ (A ++ t::B)):=fun c hc=>by
 refine h.cel.mem_iff.2 ?_
 rcases List.mem_append.1 hc with hc | hc
 ·exact List.mem_append_left _ (List.mem_cons_of_mem _ hc)
 ·refine List.mem_append_right _ ?_
  rw [List.map_cons]
  exact List.mem_cons_of_mem _ hc
theorem m7.ended (h:m7 z α f A t B) (hi:α.Inv) {k:Int} {β:AS} (hs:AS.Sm k ((α.put (f t.n).1 9 (-1)).kU t.n) β):AS.lJ (fun c=>c∈bE f (aQ (A ++ t::B))) (· = t.n) (-1) k α β∧β.get (f t.n).1 9 = -1 ∧
  (∀ c∈bE f (aQ (A ++ B) ++ aO t.c),(∀ g,β.get c g = α.get c g)∧β.live c = α.live c):=by
 have hci:(f t.n).1∈bE f (aQ (A ++ t::B)):=List.mem_append_right _ (List.mem_map.2 ⟨t.n,iI h.mem,rfl⟩)
 refine ⟨?_,?_,fun c hc=>⟨fun g=>?_,?_⟩⟩
 ·have e1:AS.lJ (fun c=>c∈bE f (aQ (A ++ t::B))) (· = t.n) 0 0 α (α.put (f t.n).1 9 (-1)):=AS.aCt hci
  have hi1:AS.Inv (α.put (f t.n).1 9 (-1)):=AS.aCJ hi _ _ _
  have e2:=AS.pR (S:=fun c=>c∈bE f (aQ (A ++ t::B))) (L:=(· = t.n)) hi1 (n:=t.n) h.tn.ln rfl
  exact (((e1.trans e2).trans hs.pL).mono (fun _ h=>h) (fun _ h=>h) (by omega)).to (by omega)
 ·rw [hs.get]
  show (if (f t.n).1 = (f t.n).1∧9 = 9 then (-1:Int) else _) = -1
  rw [if_pos ⟨rfl,rfl⟩]
 ·rw [hs.get]
  show (if c = (f t.n).1∧g = 9 then (-1:Int) else α.get c g) = _
  rw [if_neg (fun e:c = (f t.n).1∧g = 9=>(h.apart c hc).2 e.1)]
 ·rw [hs.live]
  show (if c = t.n then false else α.live c) = _
  rw [if_neg (h.apart c hc).1]
theorem m7.del (h:m7 z α f A t B):((t.n:Int) ∉ aU (A.map (·.n)))∧((t.n:Int) ∉ aU (B.map (·.n))):=by
 have h1:=aA4 (iB h.nd)
 rw [List.map_append,List.map_cons] at h1
 obtain ⟨n1,n2,n3⟩:=List.nodup_append.1 h1
 refine ⟨fun hm=>?_,fun hm=>?_⟩
 ·obtain ⟨x,hx,e⟩:=List.mem_map.1 hm
  have:x = t.n:=by omega
  subst this
  exact n3 _ hx _ List.mem_cons_self rfl
 ·obtain ⟨x,hx,e⟩:=List.mem_map.1 hm
  have:x = t.n:=by omega
  subst this
  exact (List.nodup_cons.1 n2).1 hx
theorem m7.lens (h:m7 z α f A t B) {m:Nat} (hm:(aQ (A ++ t::B)).length≤m):A.length + B.length≤8∧t.k≤8∧A.length + B.length≤bl m∧t.k + 1≤bl m∧(dA t.c).length≤z * t.k∧(dA t.c).countP (fun t=>t.k != 0)≤t.k:=by
 have h1:=wF h.wk h.ok h.sz
 have h2:=uZ h.wk h.ok hm
 rw [List.length_append,List.length_cons] at h1 h2
 have h3:=h.ok t h.mem
 have h4:=rZ h.mem
 refine ⟨by omega,aE1 (y9 h3) (by have:=h.sz;omega),by omega,ST.y4 h3 (by omega),h3.1.2.2.1,h3.1.2.2.2⟩
theorem m7.rest {kf:FuncId × Array Value} {s:SV} (h:m7 z α f A t B) (hH:aA w0 F M (star (pG s ((aU ((A ++ t::B).map (·.n))).map (Value.int .i64))) (aF a α))) (hp:∀ (y:Int) (M':Mem) (R':VP),Mem.le F M'→R' (.bool (y == (t.n:Int))) M'→C PP w0 kf.1 ((([.int .i64 y]:List Value) ++ kf.2.toList).toArray) R' M')
  (hR:∀ M' s',aA w0 F M' (star (pG s' ((aU ((A ++ B).map (·.n))).map (Value.int .i64))) (aF a α))→R s'.v M'):C PP w0 Id.qE #[SV.v s,.func (.func kf.1) #[] kf.2] R M:=by
 have hi:=hH.right.inv
 have e1:aU ((A ++ t::B).map (·.n)) = aU (A.map (·.n)) ++ (t.n:Int)::aU (B.map (·.n)):=by simp [aU]
 have hwf:∀ y∈aU ((A ++ t::B).map (·.n)),(Lit.int .i64 y).wf = true:=mU fun x hx=>by
  obtain ⟨u,hu,rfl⟩:=List.mem_map.1 hx
  exact h.small hi _ (iI hu)
 have hl:=(h.lens (Nat.le_refl _)).1
 rw [e1] at hH hwf
 refine aI0 hH hwf h.del.1 h.del.2 (by simp [aU];omega) hp fun M' s' h'=>hR M' s' ?_
 rw [show aU ((A ++ B).map (·.n)) = aU (A.map (·.n)) ++ aU (B.map (·.n)) from by simp [aU]]
 exact h'
end
theorem xB {s:SV} {f:Nat→cC} {A B:List Tn} {t:Tn} (hA:aA w0 F M (star (pG s ((aU ((A ++ t::B).map (·.n))).map (Value.int .i64))) (aF a α))) (hG:m7 1 α f A t B) {m:Nat} (hm:(aQ (A ++ t::B)).length≤m)
  (h:∀ M' β f' l',aA w0 F M' (aF a β)→St β (-1) (fo l')→Lb β f' (aQ l')→(aQ l').Perm (aQ (A ++ B) ++ aO t.c)→((aQ l').map f').Perm ((aQ (A ++ B) ++ aO t.c).map f)→(∀ u∈l',wS 1 u)→(∀ u∈l',y8 f' u)→Wk l'→AS.lJ (fun c=>c∈bE f (aQ (A ++ t::B))) (· = t.n) (-1) (200 * bl m + 100) α β→β.get (f t.n).1 9 = -1→R (.tuple #[.int .i64 (fo l').root,.int .i64 ((f t.n).1:Int)]) M') :
  C PP w0 Id.jE #[.pointer (some ⟨a,0,none⟩),SV.v s,.int .i64 (t.n:Int)] R M:=by
 apply jE.go
 unfold jE.T aL
 obtain ⟨b1,b2,b3,b4,b5,b6⟩:=hG.lens hm
 intro bx hbx hwx
 have h1:aA w0 F _ (star (aW bx [.int .i64 (t.n:Int)] 3) _):=hA.new hbx hwx [.int .i64 (t.n:Int)] 3
 generalize M.set bx _ = M1 at h1 ⊢
 obtain ⟨F1,hle1,hown,h2⟩:=aA.fE h1
 have hld:∀ M',Mem.le F1 M'→(aJ PP w0).ld 3 ⟨bx,0,none⟩ M' = some (.int .i64 (t.n:Int)):=fun M' hM=>by
  rw [aP W.c3];exact aM (o:=0) (hown.le hM)
 refine hG.rest (kf:=(Id.fT,#[.pointer (some ⟨bx,0,none⟩)])) h2 (fun y M' R' hM hR'=>?_) fun M2 s2 h3=>?_
 ·show C PP w0 Id.fT #[.int .i64 y,.pointer (some ⟨bx,0,none⟩)] R' M'
  apply fT.go
  unfold fT.T aL
  rw [hld M' hM,aC,aK]
  exact hR'
 ·rw [aR,hld M2 h3.fr,aC,aK]
  obtain ⟨F2,hB,hle2,back⟩:=h3.last
  have hnc:(aO t.c).Nodup:=(List.nodup_append.1 (List.nodup_cons.1 hG.nn).2).2.1
  have htl:∀ n∈eR t,α.live n = true:=fun n hn=>(hG.lb n (eJ.2 ⟨t,hG.mem,hn⟩)).ln
  refine aE5 hB (hG.st t hG.mem) htl hnc fun M3 s3 β hB3 hsm3=>?_
  have h4:=back M3 _ hB3
  rw [aR]
  have hi:=hA.right.inv
  have hrk:tN w0 M3 .i64 s3 (aU ((dA t.c).map (·.n))):=h4.right.aI3 (fun x hx=>by
   obtain ⟨u,hu,rfl⟩:=List.mem_map.1 hx
   have h5:=AS.cE hi (htl u.n (List.mem_cons_of_mem _ (by rw [←bP];exact iI hu)))
   have:=hi.n
   omega) (by simp;omega)
  refine aI1 h4 hrk (by simp [aU];omega) fun M4 s4 h5=>?_
  rw [aR,hld M4 h5.fr,aC,aK]
  have h6:aA w0 F1 M4 (star (pG s4 ((aU (((A ++ B) ++ dA t.c).map (·.n))).map (Value.int .i64))) (aF a β)):=by
   rw [show aU (((A ++ B) ++ dA t.c).map (·.n)) = aU ((A ++ B).map (·.n)) ++ aU ((dA t.c).map (·.n)) from by simp [aU]]
   exact h5.dX.right
  have hGβ:=hG.sm hsm3
  obtain ⟨F3,hB6,hle6,back6⟩:=h6.last
  refine aEl hB6 hGβ.tn fun M5 γ hB7 hs7=>?_
  have h7:=back6 M5 _ hB7
  rw [aK]
  have hNr:aQ ((A ++ B) ++ dA t.c) = aQ (A ++ B) ++ aO t.c:=by rw [lI,bP]
  obtain ⟨e1,e2,e3⟩:=hGβ.ended h6.right.inv hs7
  have hmem:∀ u∈(A ++ B) ++ dA t.c,∀ x∈eR u,x∈bE f (aQ (A ++ B) ++ aO t.c):=fun u hu x hx=>List.mem_append_left _ (by rw [←hNr];exact eJ.2 ⟨u,hu,hx⟩)
  have hstγ:∀ u∈(A ++ B) ++ dA t.c,yV γ u:=fun u hu=>by
   have h8:yV β u:=by
    rcases List.mem_append.1 hu with h | h
    ·exact hGβ.st u (by rcases List.mem_append.1 h with h | h <;> simp [h])
    ·exact (hGβ.st t hG.mem).2.2.dA u h
   refine ⟨?_,?_,h8.2.2.congr fun x hx y _=>(e3 x (hmem u hu x (List.mem_cons_of_mem _ hx))).1 y⟩
   ·rw [(e3 u.n (hmem u hu u.n List.mem_cons_self)).1];exact h8.1
   ·rw [(e3 u.n (hmem u hu u.n List.mem_cons_self)).1];exact h8.2.1
  have hlbγ:Lb γ f (aQ ((A ++ B) ++ dA t.c)):=by
   rw [hNr]
   refine (hGβ.lb.sub fun x hx=>?_).congr (fun c hc g _=>(e3 c hc).1 g) (fun c hc=>(e3 c hc).2)
   exact (p8 A B t).mem_iff.2 (List.mem_cons_of_mem _ hx)
  have hsubcel:∀ c∈aQ ((A ++ B) ++ dA t.c),c∈bE f (aQ (A ++ t::B)):=fun c hc=>hG.sub c (List.mem_append_left _ (by rw [←hNr];exact hc))
  obtain ⟨F4,hle8,hB8,hr8⟩:=h7.freeze (mU fun x hx=>by
   obtain ⟨u,hu,rfl⟩:=List.mem_map.1 hx
   have:=AS.cE h7.right.inv (hlbγ u.n (iI hu)).ln
   have:=h7.right.inv.n
   omega) (by simp [aU];omega)
  have hndr:(bE f (aQ ((A ++ B) ++ dA t.c))).Nodup:=by
   rw [hNr]
   have:=hG.cel.nodup_iff.1 hG.nd
   unfold bE at this ⊢
   rw [List.map_cons,List.nodup_append] at this
   obtain ⟨n1,n2,n3⟩:=this
   exact List.nodup_append.2 ⟨(List.nodup_cons.1 n1).2,(List.nodup_cons.1 n2).2,fun x hx y hy=>n3 x (List.mem_cons_of_mem _ hx) y (List.mem_cons_of_mem _ hy)⟩
  have hokr:∀ u∈(A ++ B) ++ dA t.c,wS 1 u:=fun u hu=>by
   rcases List.mem_append.1 hu with h | h
   ·exact hG.ok u (by rcases List.mem_append.1 h with h | h <;> simp [h])
   ·exact fU.1 (hG.ok t hG.mem).2 u h
  have hodr:∀ u∈(A ++ B) ++ dA t.c,y8 f u:=fun u hu=>by
   rcases List.mem_append.1 hu with h | h
   ·exact hG.od u h
   ·exact pJ.1 hG.odt u h
  have hln:((A ++ B) ++ dA t.c).length≤8 + t.k:=by rw [List.length_append,List.length_append];omega
  refine vJ hB8 (by decide) hr8 hstγ hlbγ hndr hokr hodr (by omega) fun M6 δ l' hC hst' hp' hok' hod' hrs' hc' hg'=>?_
  rw [aK]
  refine h M6 δ f l' ((hC.fQ hle8).fQ hle1) hst' ?_ (by rw [←hNr];exact hp') (by rw [←hNr];exact hp'.map f) hok' hod' hrs'.wk ?_ ?_
  ·refine (hlbγ.sub fun x hx=>hp'.mem_iff.1 hx).congr (fun c _ g hx=>hg' c g (by omega)) (fun c _=>by rw [hc'.live])
  ·refine (((hsm3.pL.trans e1).trans ((hc'.mono hsubcel (Int.le_refl _)).pL)).mono (fun _ h=>h) (fun _ h=>h) ?_).to (by omega)
   rw [List.length_append,List.length_append] at *
   omega
  ·rw [hg' _ 9 (by decide)];exact e2
end
end HL
end Go.Proofs.YtodobkbnmjgkdaaGreat
