import Derived.Test.YtodobkbnmjgkdaaGreatPd21
namespace Go.Proofs.YtodobkbnmjgkdaaGreat
open Go.RowKit (Below)
set_option linter.unusedVariables false
set_option linter.unusedSimpArgs false
set_option maxRecDepth 100000
namespace HL
section
variable {w0:World} {F M:Mem} {R:VP}
theorem aHg {P:cW} (h:aA w0 F M P) {K:VP} (hK:∀ M' s',Mem.le M M'→aA w0 F M' (star (dS 6 s' []) P)→K s'.v M'):(aJ PP w0).bsl 71 0 [] K M:=by
 refine rW (cells:=#[]) Tryz.underlying71 W.aBz (by decide) (by kernel_rfl) fun b hb hw=>?_
 have l1:Mem.le M (M.set b (.row (#[]:Array Value).toList 130)):=Mem.fO _ hb
 exact hK _ ⟨some ⟨b,0,none⟩,0,0⟩ l1 (aA.xF h l1 (wD.new (n:=0) hb (cN.new hw) rfl))
theorem aIy {P:cW} (h:aA w0 F M P) (q d k s a g:Int) {K:VP} (hK:∀ M' s',Mem.le M M'→aA w0 F M' (star (dS 6 s' [.int .i64 q,.int .i64 d,.int .i64 k,.int .i64 s,.int .i64 a,.int .i64 g]) P)→K s'.v M') :
  (aJ PP w0).bsl 71 1 [(0,.agg #[.int .i64 q,.int .i64 d,.int .i64 k,.int .i64 s,.int .i64 a,.int .i64 g])] K M:=by
 refine rW (n:=1) (cells:=#[.int .i64 q,.int .i64 d,.int .i64 k,.int .i64 s,.int .i64 a,.int .i64 g]) Tryz.underlying71 W.aBz (by decide) (by kernel_rfl) fun b hb hw=>?_
 have l1:Mem.le M (M.set b (.row (#[.int .i64 q,.int .i64 d,.int .i64 k,.int .i64 s,.int .i64 a,.int .i64 g]:Array Value).toList 130)):=Mem.fO _ hb
 exact hK _ ⟨some ⟨b,0,none⟩,1,1⟩ l1 (aA.xF h l1 (wD.new (n:=1) hb (cN.new hw) rfl))
theorem aG8 {b:Nat} {j:Jb} {cs:List Value} {M:Mem} (o:cN w0 M b cs tJb) (hc:cs = w9 j):(aJ PP w0).ld tJb ⟨b,0,none⟩ M = some j.v∧(aJ PP w0).ld 33 ⟨b,4,none⟩ M = some (.agg #[.int .i64 j.at_,.int .i64 j.gen])∧rd w0 M ⟨b,2,none⟩ = some (.int .i64 j.key)∧rd w0 M ⟨b,1,none⟩ = some (.int .i64 j.data):=by
 subst hc
 refine ⟨cR (cs:=w9 j) W.aFV (fun f v hf=>by rw [add_eq,aM o,Nat.zero_add];exact hf),cR (cs:=[.int .i64 j.at_,.int .i64 j.gen]) W.g33 (fun f v hf=>?_),aM (o:=2) o,aM (o:=1) o⟩
 rw [add_eq,aM o]
 match f,hf with
 | 0,hf=>exact hf
 | 1,hf=>exact hf
section
variable {d:Nat} {x:rS} {Q:cW}
theorem aFc {k:Nat} {j:Jb} (h:aA w0 F M (star (fM d x) Q)) (hok:DOk x) (hj:x.l[k]? = some j) (hR:∀ M',aA w0 F M' (star (fM d (x.out k)) Q)→R j.v M') :
  C PP w0 Id.oN #[.pointer (some ⟨d,0,none⟩),.int .i64 (k:Int)] R M:=by
 apply oN.go
 unfold oN.T aL
 have hL:=hok.ll
 have hk:=(List.getElem?_eq_some_iff.1 hj).1
 intro b1 hb0 hbw
 have g1:=(aA.new h hb0 hbw [.int .i64 0,.int .i64 0,.int .i64 0,.int .i64 0,.int .i64 0,.int .i64 0] tJb).dX
 change aA w0 F (M.set b1 (.row [.int .i64 0,.int .i64 0,.int .i64 0,.int .i64 0,.int .i64 0,.int .i64 0] tJb)) (star (fM d x) (star (aW b1 [.int .i64 0,.int .i64 0,.int .i64 0,.int .i64 0,.int .i64 0,.int .i64 0] tJb) Q)) at g1
 generalize M.set b1 _ = M1 at g1 ⊢
 obtain ⟨p,s,hs⟩:=fM.open_ g1
 obtain ⟨blk,hsa,hns,hin,hrd⟩:=hs.job hj
 have ldj:(aJ PP w0).ld tJb ⟨blk,k * 6,none⟩ M1 = some j.v:=cR (cs:=w9 j) W.aFV (fun f v hf=>by rw [add_eq];exact hrd f v hf)
 simp only [aX,aP W.c71,add_eq,Nat.zero_add,hs.rl,aC,aR,hsa,Int.toNat_natCast,ldj]
 refine ⟨⟨by omega,by omega⟩,?_⟩
 unfold Jb.v
 simp only [a9,aT,aK,aS]
 intro b2 hb2 hbw2
 have g2:=(aA.new hs.close hb2 hbw2 [.int .i64 0,.int .i64 0,.int .i64 0,.int .i64 0,.int .i64 0,.int .i64 0] tJb)
 change aA w0 F (M1.set b2 (.row [.int .i64 0,.int .i64 0,.int .i64 0,.int .i64 0,.int .i64 0,.int .i64 0] tJb)) (star (aW b2 [.int .i64 0,.int .i64 0,.int .i64 0,.int .i64 0,.int .i64 0,.int .i64 0] tJb) _) at g2
 generalize M1.set b2 _ = M2 at g2 ⊢
 refine gG (vs:=w9 j) W.aFV g2.aZ (by simp [w9]) (y7 j) ?_
 have g3:=g2.jX (cs':=dZ [.int .i64 0,.int .i64 0,.int .i64 0,.int .i64 0,.int .i64 0,.int .i64 0] 0 (w9 j)) (e':=tJb)
 have hov:dZ [.int .i64 0,.int .i64 0,.int .i64 0,.int .i64 0,.int .i64 0,.int .i64 0] 0 (w9 j) = w9 j:=rfl
 rw [hov] at g3 ⊢
 generalize M2.set b2 _ = M3 at g3 ⊢
 have g4:aA w0 F M3 (star (fM d x) (star (aW b2 (w9 j) tJb) (star (aW b1 [.int .i64 0,.int .i64 0,.int .i64 0,.int .i64 0,.int .i64 0,.int .i64 0] tJb) Q))):=g3.dX
 obtain ⟨p,s,hs⟩:=fM.open_ g4
 have hn:=hs.n
 have hw:qB ((k:Int) + 1) = ((k + 1:Nat):Int):=cX (by omega)
 have hcap:=aA.aJD y5 (by decide) hs.right
 simp only [aX,aP W.c71,add_eq,Nat.zero_add,hs.rl,aC,aR,hw]
 refine ⟨⟨by omega,by omega,by omega⟩,⟨by omega,by omega,by omega⟩,?_⟩
 refine aHg hs fun M4 s38 l4 h4=>?_
 rw [aR]
 refine ⟨aM (o:=4) h4.right.aZ,aM (o:=4) h4.right.aZ,?_⟩
 have e4:=dP h4.right.right
 have n38:s38.n = 0:=by have:=(dP h4).2.1;simp at this;omega
 have hx1:(Value.slice (if s.c = (0:Int).toNat then s.a else s.a.map (·.add ((0:Int).toNat * 6))) (k - (0:Int).toNat) (s.c - (0:Int).toNat)) = SV.v ⟨if s.c = 0 then s.a else s.a.map (·.add 0),k,s.c⟩:=by
  unfold SV.v
  simp only [Int.toNat_zero,Nat.zero_mul,Nat.sub_zero,Int.toNat_natCast]
 rw [hx1]
 refine tV (news:=jdV (x.l.take k)) Tryz.underlying71 W.aBz h4 (by rw [pZ,List.length_take];simp only;omega) (by rw [aGP];exact aF7 e4.1) (fun hh=>?_) (yL _) (by decide) (by simp only;omega) fun M5 s41 h5=>?_
 ·simp only at hh ⊢
  obtain ⟨blk5,hsa5,_⟩:=hs.job hj
  rw [hsa5] at hh
  split at hh <;> cases hh
 rw [aR]
 refine ⟨aM (o:=4) h5.right.aZ,?_⟩
 have e5:=dP h5.right.right
 have n41:s41.n = k:=by
  have:=(dP h5).2.1
  rw [List.nil_append,pZ,List.length_take] at this;omega
 have hx2:(Value.slice (if s.c = ((k + 1:Nat):Int).toNat then s.a else s.a.map (·.add (((k + 1:Nat):Int).toNat * 6))) (s.n - ((k + 1:Nat):Int).toNat) (s.c - ((k + 1:Nat):Int).toNat)) = SV.v ⟨if s.c = k + 1 then s.a else s.a.map (·.add ((k + 1) * 6)),s.n - (k + 1),s.c - (k + 1)⟩:=by
  unfold SV.v
  simp only [Int.toNat_natCast]
 rw [hx2]
 refine tV (news:=jdV (x.l.drop (k + 1))) Tryz.underlying71 W.aBz h5 (by rw [pZ,List.length_drop];simp only;omega) (by rw [aHT];exact aF1 e5.1 e5.2.1 (by omega)) (fun hh=>?_) (yL _) (by decide) (by simp only;omega) fun M6 s44 h6=>?_
 ·simp only at hh ⊢
  obtain ⟨blk5,hsa5,_⟩:=hs.job hj
  rw [hsa5] at hh
  split at hh <;> cases hh
 rw [aR]
 have h7:=h6.dX
 refine gA W.c71 h7.aZ (by simp) rfl rfl ?_
 have h8:=h7.jX (cs':=[.int .i64 x.most,.int .i64 x.now,.int .i64 x.next,.pointer (some ⟨p,0,none⟩),SV.v s44]) (e':=tD)
 rw [show ([.int .i64 x.most,.int .i64 x.now,.int .i64 x.next,.pointer (some ⟨p,0,none⟩),SV.v s]:List Value).set 4 (SV.v s44) = [.int .i64 x.most,.int .i64 x.now,.int .i64 x.next,.pointer (some ⟨p,0,none⟩),SV.v s44] from rfl]
 generalize M6.set d _ = M7 at h8 ⊢
 have her:[] ++ jdV (x.l.take k) ++ jdV (x.l.drop (k + 1)) = jdV (x.l.eraseIdx k):=by
  rw [List.nil_append,List.eraseIdx_eq_take_drop_succ]
  simp [List.flatMap_append]
 rw [her] at h8
 have h9:DH w0 F M7 d { x with l:=x.l.eraseIdx k } p s44 (star (aW b2 (w9 j) tJb) (star (aW b1 [.int .i64 0,.int .i64 0,.int .i64 0,.int .i64 0,.int .i64 0,.int .i64 0] tJb) Q)):=by
  obtain ⟨F1,k1,_,k2⟩:=h8.last
  obtain ⟨F2,k3,_,k4⟩:=k1.last
  exact k2 _ _ (k4 _ _ k3.right)
 have ob2:=h9.right.right.right.aZ
 simp only [aX,aP W.c52,add_eq,Nat.zero_add,h9.rp,(aG8 ob2 rfl).2.1,aC,bK,a9,aT,aK,aS]
 obtain ⟨F1,hp,back⟩:=h9.cF
 have hlk:x.cF.look j.at_ j.gen = 0:=hok.lk j (List.mem_of_getElem? hj)
 refine aIs (l:=x.cF) hp hok.pl hok.bl (fun hh=>absurd hlk hh) fun n hn _ M8 h8=>?_
 have h10:=back M8 _ _ h8
 simp only [cA,aT,aK,aS]
 have ob3:=h10.right.right.right.aZ
 rw [(aG8 ob3 rfl).1]
 unfold Jb.v
 simp only [aC,a9,aT,aK,aS]
 have hout:x.out k = { x with l:=x.l.eraseIdx k,cF:=x.cF.gB n }:=by
  unfold rS.out
  rw [hj]
  simp only
  rw [show j.at_.toNat = n from by omega]
 have h11:aA w0 F M8 (star (aW b1 [.int .i64 0,.int .i64 0,.int .i64 0,.int .i64 0,.int .i64 0,.int .i64 0] tJb) (star (fM d (x.out k)) Q)):=by
  rw [hout]
  have:=DH.close (x:={ x with l:=x.l.eraseIdx k,cF:=x.cF.gB n }) h10
  obtain ⟨F1,k1,_,k2⟩:=this.last
  exact (k2 _ _ k1.right).dX
 refine gG (vs:=w9 j) W.aFV h11.aZ (by simp [w9]) (y7 j) ?_
 have h12:=h11.jX (cs':=dZ [.int .i64 0,.int .i64 0,.int .i64 0,.int .i64 0,.int .i64 0,.int .i64 0] 0 (w9 j)) (e':=tJb)
 rw [hov] at h12 ⊢
 generalize M8.set b1 _ = M9 at h12 ⊢
 rw [pX,(aG8 h12.aZ rfl).1,aC]
 exact hR M9 h12.right
end
end
end HL
namespace HL
def qN (c:rR):Prop:=(c.kind = 1∨c.kind = 5∨c.kind = 6∨c.kind = 7)∧(c.queue < 0∨2≤c.queue)
section
variable {w0:World} {F M:Mem} {R:VP}
theorem aA.aMb {A B D E:cW} (h:aA w0 F M (star A (star B (star D E)))):aA w0 F M (star D (star A (star B E))):=by
 obtain ⟨F',h1,_,h3⟩:=h.last
 exact (h3 _ _ h1.dX).dX
theorem aLo (d:Nat) (a g b k:Int):dT PP (Op.equalIn (d + 1 + 1) 33 (.agg #[.int .i64 a,.int .i64 g]) (.agg #[.int .i64 b,.int .i64 k])) = some (a == b && g == k):=by
 have:=qI (P:=PP) (d:=d + 1) (es:=[a == b,g == k]) (xs:=#[.int .i64 a,.int .i64 g]) (ys:=#[.int .i64 b,.int .i64 k]) Tryz.underlying33 (by kernel_rfl)
  ⟨by decide,⟨.int .i64 a,.int .i64 b,by kernel_rfl,by kernel_rfl,lL Tryz.underlying3 a b⟩,by decide,⟨.int .i64 g,.int .i64 k,by kernel_rfl,by kernel_rfl,lL Tryz.underlying3 g k⟩,trivial⟩
 rw [show ([a == b,g == k]:List Bool).all id = (a == b && g == k) from by simp [List.all]] at this
 exact this
theorem aL5 (r s:fA):([r.why == s.why,(r.at_ == s.at_ && r.gen == s.gen),r.time == s.time,r.data == s.data,r.n == s.n]:List Bool).all id = decide (r = s):=by
 rw [Bool.eq_iff_iff]
 simp only [List.all_cons,List.all_nil,id,Bool.and_eq_true,beq_iff_eq,decide_eq_true_eq,and_true]
 cases r;cases s
 simp only [fA.mk.injEq]
 constructor
 ·rintro ⟨h1,⟨h2,h3⟩,h4,h5,h6⟩;exact ⟨h1,h2,h3,h4,h5,h6⟩
 ·rintro ⟨h1,h2,h3,h4,h5,h6⟩;exact ⟨h1,⟨h2,h3⟩,h4,h5,h6⟩
theorem aLe {X Y:Operand} (r s:fA):(aJ PP w0).bq .neq iJ X Y r.v s.v = some (.bool (!decide (r = s))):=by
 rw [←aL5]
 exact aEs (es:=[r.why == s.why,(r.at_ == s.at_ && r.gen == s.gen),r.time == s.time,r.data == s.data,r.n == s.n]) Tryz.underlying65 (by kernel_rfl) (by kernel_rfl)
  ⟨by decide,⟨.int .i64 r.why,.int .i64 s.why,by kernel_rfl,by kernel_rfl,lL Tryz.underlying25 r.why s.why⟩,
   by decide,⟨.agg #[.int .i64 r.at_,.int .i64 r.gen],.agg #[.int .i64 s.at_,.int .i64 s.gen],by kernel_rfl,by kernel_rfl,aLo 9997 r.at_ r.gen s.at_ s.gen⟩,
   by decide,⟨.int .i64 r.time,.int .i64 s.time,by kernel_rfl,by kernel_rfl,lL Tryz.underlying2 r.time s.time⟩,
   by decide,⟨.int .i64 r.data,.int .i64 s.data,by kernel_rfl,by kernel_rfl,lL Tryz.underlying3 r.data s.data⟩,
   by decide,⟨.int .i64 r.n,.int .i64 s.n,by kernel_rfl,by kernel_rfl,lL Tryz.underlying3 r.n s.n⟩,trivial⟩
theorem aKx {X Y:Operand} (a0 a1 a2 a3 a4 a5 b0 b1 b2 b3 b4 b5:Int):(aJ PP w0).bq .neq iJ X Y (.agg #[.int .i64 a0,.int .i64 a1,.int .i64 a2,.int .i64 a3,.int .i64 a4,.int .i64 a5]) (.agg #[.int .i64 b0,.int .i64 b1,.int .i64 b2,.int .i64 b3,.int .i64 b4,.int .i64 b5]) = some (.bool (!decide ((⟨a0,a1,a2,a3,a4,a5⟩:fA) = ⟨b0,b1,b2,b3,b4,b5⟩))):=aLe ⟨a0,a1,a2,a3,a4,a5⟩ ⟨b0,b1,b2,b3,b4,b5⟩
theorem bR0 (x:Int):(aJ PP w0).pD iJ [(0,.int .i64 x)] = some (.agg #[.int .i64 x,.int .i64 0,.int .i64 0,.int .i64 0,.int .i64 0,.int .i64 0]):=by kernel_rfl
theorem bR2 (x:Int):(aJ PP w0).pD iJ [(2,.int .i64 x)] = some (.agg #[.int .i64 0,.int .i64 0,.int .i64 0,.int .i64 x,.int .i64 0,.int .i64 0]):=by kernel_rfl
theorem bR4 (x:Int):(aJ PP w0).pD iJ [(4,.int .i64 x)] = some (.agg #[.int .i64 0,.int .i64 0,.int .i64 0,.int .i64 0,.int .i64 0,.int .i64 x]):=by kernel_rfl
theorem aKs (x y:Int):(aJ PP w0).pD iJ [(2,.int .i64 x),(3,.int .i64 y)] = some (.agg #[.int .i64 0,.int .i64 0,.int .i64 0,.int .i64 x,.int .i64 y,.int .i64 0]):=by kernel_rfl
theorem aJW (a g x y:Int):(aJ PP w0).pD iJ [(1,.agg #[.int .i64 a,.int .i64 g]),(2,.int .i64 x),(3,.int .i64 y)] = some (.agg #[.int .i64 0,.int .i64 a,.int .i64 g,.int .i64 x,.int .i64 y,.int .i64 0]):=by kernel_rfl
theorem aLW (x y:Int):(aJ PP w0).pD 44 [(0,.int .i64 x),(1,.int .i64 y)] = some (.agg #[.int .i64 x,.int .i64 y]):=by kernel_rfl
end
end HL
namespace HL
section
variable {x:rS} {c:rR}
theorem vG (h:qN c):gC x c = (x,{ why:=1 }):=by unfold qN at h;unfold gC;rw [if_pos h]
theorem aBk (h:¬ qN c) (k:c.kind = 1):gC x c = match x.cF.at_ with
  | none=>(x,{ why:=13 })
  | some a=>({ x with cF:=x.cF.take a 0,l:=x.l ++ [⟨c.queue,c.data,c.time,x.next,(a:Int),x.cF.gen a⟩],next:=x.next + 1 },{ at_:=(a:Int),gen:=x.cF.gen a,time:=c.time,data:=c.data }):=by
 unfold qN at h;unfold gC;rw [if_neg h,if_pos k] <;> rfl
theorem yT (k:c.kind = 2∨c.kind = 3):gC x c = if x.cF.look c.at_ c.gen≠0 then (x,{ why:=x.cF.look c.at_ c.gen })
  else match atD x.l c.at_ c.gen with
   | none=>(x,{})
   | some k=>match x.l[k]? with
    | none=>(x,{})
    | some j =>
     if c.kind = 3 then (x.out k,{ time:=j.key,data:=j.data })
     else if j.key < c.time then (x,{ why:=26 })
     else ({ x with l:=x.l.set k { j with key:=c.time } },{ time:=c.time,data:=j.data }):=by
 unfold gC;rw [if_neg (fun h=>by omega),if_neg (by omega),if_pos k] <;> rfl
theorem aCN (k:c.kind = 4):gC x c = if c.time < 0 then (x,{ why:=1 }) else ({ x with now:=jY x.now c.time },{ time:=jY x.now c.time }):=by
 unfold gC;rw [if_neg (fun h=>by omega),if_neg (by omega),if_neg (by omega),if_pos k]
theorem xN (h:¬ qN c) (k:c.kind = 5):gC x c = match pT x.l c.queue with
  | none=>(x,{ why:=28 })
  | some y=>if x.now < y.2.1 then (x,{ why:=28 }) else
   match x.l[y.1]? with
   | none=>(x,{})
   | some j=>(x.out y.1,{ at_:=j.at_,gen:=j.gen,time:=j.key,data:=j.data }):=by
 unfold qN at h;unfold gC;rw [if_neg h,if_neg (by omega),if_neg (by omega),if_neg (by omega),if_pos k] <;> rfl
theorem aBo (h:¬ qN c) (k:c.kind = 6):gC x c = if c.queue = 0 then (x,{ why:=25 })
  else ({ x with l:=x.l.map fun j=>if j.queue = 1 then { j with queue:=0 } else j },{ n:=(iK 1 x.l:Int) }):=by
 unfold qN at h;unfold gC;rw [if_neg h,if_neg (by omega),if_neg (by omega),if_neg (by omega),if_neg (by omega),if_pos k]
theorem aCM (h:¬ qN c) (k:c.kind = 7):gC x c = (x,{ n:=(iK c.queue x.l:Int) }):=by
 unfold qN at h;unfold gC;rw [if_neg h,if_neg (by omega),if_neg (by omega),if_neg (by omega),if_neg (by omega),if_neg (by omega),if_pos k]
theorem aCH (k:c.kind < 1∨7 < c.kind):gC x c = (x,{ why:=12 }):=by
 unfold gC;rw [if_neg (fun h=>by omega),if_neg (by omega),if_neg (by omega),if_neg (by omega),if_neg (by omega),if_neg (by omega),if_neg (by omega)]
end
section
variable {w0:World} {F M:Mem} {R:VP}
theorem aHr {b:Nat} {cs:List Value} {P:cW} {a0 a1 a2 a3 a4 a5:Int} (h:aA w0 F M (star (aW b cs iJ) P)) (hcs:cs.length = 6) {K:VP} (hK:∀ M',aA w0 F M' P→K (.agg #[.int .i64 a0,.int .i64 a1,.int .i64 a2,.int .i64 a3,.int .i64 a4,.int .i64 a5]) M') :
  (aJ PP w0).st iJ ⟨b,0,none⟩ (.agg #[.int .i64 a0,.int .i64 a1,.int .i64 a2,.int .i64 a3,.int .i64 a4,.int .i64 a5]) (fun M14=>ob ((aJ PP w0).rdv iJ (.pointer (some ⟨b,0,none⟩)) M14) fun v15=>K v15 M14) M:=by
 refine gG (vs:=[.int .i64 a0,.int .i64 a1,.int .i64 a2,.int .i64 a3,.int .i64 a4,.int .i64 a5]) W.g65 h.aZ (by simp [hcs]) (by intro v hv;simp only [List.mem_cons,List.not_mem_nil,or_false] at hv;rcases hv with rfl | rfl | rfl | rfl | rfl | rfl <;> rfl) ?_
 have hP2:=h.jX (cs':=dZ cs 0 [.int .i64 a0,.int .i64 a1,.int .i64 a2,.int .i64 a3,.int .i64 a4,.int .i64 a5]) (e':=iJ)
 have o2:=hP2.aZ
 have ho:dZ cs 0 [.int .i64 a0,.int .i64 a1,.int .i64 a2,.int .i64 a3,.int .i64 a4,.int .i64 a5] = [.int .i64 a0,.int .i64 a1,.int .i64 a2,.int .i64 a3,.int .i64 a4,.int .i64 a5]:=by
  match cs,hcs with
  | [_,_,_,_,_,_],_=>rfl
 rw [ho] at o2
 rw [pX,cR (cs:=[.int .i64 a0,.int .i64 a1,.int .i64 a2,.int .i64 a3,.int .i64 a4,.int .i64 a5]) W.g65 (fun j v hj=>by rw [ho,add_eq,aM o2,Nat.zero_add];exact hj),aC]
 exact hK _ hP2.right
section
variable {d:Nat} {x:rS} {Q:cW}
theorem DH.set {p:Nat} {s:SV} (h:DH w0 F M d x p s Q) {t:TypeId} (ht:hJ PP t = true) {i:Nat} {j j':Jb} (hj:x.l[i]? = some j) {f:Nat} (hf:f < 6) {v:Value} (hv:bR v = true) (hcv:v.cells = #[v]) (he:(w9 j).set f v = w9 j')
  {blk:Nat} (ha:s.a = some ⟨blk,0,none⟩) {K:Mem→Prop} (hK:∀ M',DH w0 F M' d { x with l:=x.l.set i j' } p s Q→K M'):(aJ PP w0).st t ⟨blk,i * 6 + f,none⟩ v (fun M'=>K M') M:=by
 refine aA.stR (P:=PP) (c:=w9) (l:=x.l) y5 (by decide) ht h.dX hj hf hv hcv he ha fun M' h'=>hK M' h'.dX
abbrev zR:List Value:=[.int .i64 0,.int .i64 0,.int .i64 0,.int .i64 0,.int .i64 0,.int .i64 0]
theorem aGm {c:rR} (h:aA w0 F M (star (fM d x) Q)) (hok:DOk x) (hq:c.queue = 0∨c.queue = 1) (hk:c.kind = 1∨c.kind = 5∨c.kind = 6∨c.kind = 7)
  (hR:∀ M',aA w0 F M' (star (fM d (gC x c).1) Q)→R (gC x c).2.v M') :
  C PP w0 Id.bQ #[.pointer (some ⟨d,0,none⟩),c.v] R M:=by
 apply bQ.go
 intro aB H
 unfold bQ.T aL
 have hL:=hok.ll
 have hbq:¬ qN c:=by unfold qN;omega
 intro b1 hb0 hbw
 have g1:=(aA.new h hb0 hbw [.int .i64 c.kind,.int .i64 c.queue,.int .i64 c.at_,.int .i64 c.gen,.int .i64 c.time,.int .i64 c.data] iE).dX
 change aA w0 F (M.set b1 (.row [.int .i64 c.kind,.int .i64 c.queue,.int .i64 c.at_,.int .i64 c.gen,.int .i64 c.time,.int .i64 c.data] iE)) (star (fM d x) (star (aW b1 [.int .i64 c.kind,.int .i64 c.queue,.int .i64 c.at_,.int .i64 c.gen,.int .i64 c.time,.int .i64 c.data] iE) Q)) at g1
 generalize M.set b1 _ = M1 at g1 ⊢
 intro b3 hb3 hbw3
 have g3:=(aA.new g1 hb3 hbw3 [.int .i64 0,.int .i64 0,.int .i64 0,.int .i64 0,.int .i64 0,.int .i64 0] iJ).dX
 change aA w0 F (M1.set b3 (.row [.int .i64 0,.int .i64 0,.int .i64 0,.int .i64 0,.int .i64 0,.int .i64 0] iJ)) (star (fM d x) (star (aW b3 zR iJ) (star (aW b1 [.int .i64 c.kind,.int .i64 c.queue,.int .i64 c.at_,.int .i64 c.gen,.int .i64 c.time,.int .i64 c.data] iE) Q))) at g3
 generalize M1.set b3 _ = M2 at g3 ⊢
 have LC:∀ {M':Mem},cN w0 M' b1 [.int .i64 c.kind,.int .i64 c.queue,.int .i64 c.at_,.int .i64 c.gen,.int .i64 c.time,.int .i64 c.data] iE→rd w0 M' ⟨b1,0,none⟩ = some (.int .i64 c.kind)∧rd w0 M' ⟨b1,1,none⟩ = some (.int .i64 c.queue)∧rd w0 M' ⟨b1,4,none⟩ = some (.int .i64 c.time)∧rd w0 M' ⟨b1,5,none⟩ = some (.int .i64 c.data):=fun o=>⟨aM (o:=0) o,aM (o:=1) o,aM (o:=4) o,aM (o:=5) o⟩
 have fin:∀ (M4:Mem) (x':rS) (r:fA),gC x c = (x',r)→aA w0 F M4 (star (fM d x') (star (aW b3 zR iJ) (star (aW b1 [.int .i64 c.kind,.int .i64 c.queue,.int .i64 c.at_,.int .i64 c.gen,.int .i64 c.time,.int .i64 c.data] iE) Q))) →
   (aJ PP w0).st iJ ⟨b3,0,none⟩ (.agg #[.int .i64 r.why,.int .i64 r.at_,.int .i64 r.gen,.int .i64 r.time,.int .i64 r.data,.int .i64 r.n]) (fun M14=>ob ((aJ PP w0).rdv iJ (.pointer (some ⟨b3,0,none⟩)) M14) fun v15=>R v15 M14) M4:=by
  intro M4 x' r hd g
  refine aHr g.dX rfl fun M5 g5=>?_
  rw [hd] at hR
  refine hR M5 ?_
  obtain ⟨F',k1,_,k2⟩:=g5.last
  exact k2 _ _ k1.right
 have o1:=g3.right.right.aZ
 simp only [aP W.c3,(LC o1).1,aC,aK]
 rw [fB]
 split
 ·-- Schedule
  rename_i k
  have hd:=aBk (x:=x) hbq k
  obtain ⟨p,s,hs⟩:=fM.open_ g3
  simp only [aX,aP W.c52,add_eq,Nat.zero_add,hs.rp,aC,bK]
  obtain ⟨F1,hp,back⟩:=hs.cF
  refine aHM hp hok.pl hok.gl hok.bl hok.gv (fun hn M3 h3=>?_) fun a ha M3 h3=>?_
  ·rw [hn] at hd
   have h4:=(back M3 _ _ h3).close
   simp only [cA,aT,a9,aK,bT,aS]
   intro b5 hb5 hbw5
   have g5:=aA.new h4 hb5 hbw5 [.int .i64 0,.int .i64 0] 33
   generalize M3.set b5 _ = M4 at g5 ⊢
   refine gG (vs:=[.int .i64 0,.int .i64 0]) W.g33 g5.aZ (by simp) (by intro v hv;simp only [List.mem_cons,List.not_mem_nil,or_false] at hv;rcases hv with rfl | rfl <;> rfl) ?_
   have g6:=g5.jX (cs':=dZ [.int .i64 0,.int .i64 0] 0 [.int .i64 0,.int .i64 0]) (e':=33)
   rw [Bool.not_false,dY,bR0]
   simp only [aC,a9,aT,aK,aS]
   exact fin _ x { why:=13 } hd g6.right
  ·rw [ha] at hd
   simp only at hd
   have h4:=back M3 _ _ h3
   simp only [cA,aT,a9,aK,bT,aS]
   intro b5 hb5 hbw5
   have g5:=aA.new h4.close hb5 hbw5 [.int .i64 0,.int .i64 0] 33
   generalize M3.set b5 _ = M4 at g5 ⊢
   generalize hgg:x.cF.gen a = g at hd ⊢
   refine gG (vs:=[.int .i64 (a:Int),.int .i64 g]) W.g33 g5.aZ (by simp) (by intro v hv;simp only [List.mem_cons,List.not_mem_nil,or_false] at hv;rcases hv with rfl | rfl <;> rfl) ?_
   have g6:=g5.jX (cs':=dZ [.int .i64 0,.int .i64 0] 0 [.int .i64 (a:Int),.int .i64 g]) (e':=33)
   have hov:dZ [.int .i64 0,.int .i64 0] 0 [.int .i64 (a:Int),.int .i64 g] = [Value.int .i64 (a:Int),.int .i64 g]:=rfl
   rw [hov] at g6 ⊢
   generalize M4.set b5 _ = M5 at g6 ⊢
   rw [Bool.not_true,mY]
   obtain ⟨p2,s2,hs2⟩:=fM.open_ g6.dX
   have LR:∀ {M':Mem},cN w0 M' b5 [.int .i64 (a:Int),.int .i64 g] 33→(aJ PP w0).ld 33 ⟨b5,0,none⟩ M' = some (.agg #[.int .i64 (a:Int),.int .i64 g]):=fun o=>cR (cs:=[.int .i64 (a:Int),.int .i64 g]) W.g33 (fun j v hj=>by rw [add_eq,aM o,Nat.zero_add];exact hj)
   have hns:=hs2.n
   simp only at hns
   have q5:=hs2.right.right.right.aZ
   have q1:=hs2.right.right.right.right.right.aZ
   have hbJ:(aJ PP w0).pD tJb [(0,.int .i64 c.queue),(1,.int .i64 c.data),(2,.agg #[.int .i64 c.time,.int .i64 x.next]),(3,.agg #[.int .i64 (a:Int),.int .i64 g])] = some (.agg #[.int .i64 c.queue,.int .i64 c.data,.int .i64 c.time,.int .i64 x.next,.int .i64 (a:Int),.int .i64 g]):=by kernel_rfl
   have rx2:rd w0 M5 ⟨d,2,none⟩ = some (.int .i64 x.next):=hs2.rx
   simp only [aX,aP W.c71,aP W.c3,aP W.c2,add_eq,Nat.zero_add,hs2.rl,rx2,(LC q1).2.1,(LC q1).2.2.1,(LC q1).2.2.2,LR q5,aC,aR,a9,aT,aK,aS,aLW,hbJ]
   have one:∀ v∈[Value.int .i64 c.queue,.int .i64 c.data,.int .i64 c.time,.int .i64 x.next,.int .i64 (a:Int),.int .i64 g],bR v = true:=fun v hv=>by
    simp only [List.mem_cons,List.not_mem_nil,or_false] at hv
    rcases hv with rfl | rfl | rfl | rfl | rfl | rfl <;> rfl
   have put:∀ (M9:Mem) (s':SV) (X:cW),aA w0 F M9 (star (dS 6 s' ([] ++ jdV x.l ++ [.int .i64 c.queue,.int .i64 c.data,.int .i64 c.time,.int .i64 x.next,.int .i64 (a:Int),.int .i64 g])) (star X (star (aW d [.int .i64 x.most,.int .i64 x.now,.int .i64 x.next,.pointer (some ⟨p2,0,none⟩),SV.v s2] tD) (star (dS 6 s2 (jdV x.l)) (star (lD p2 (x.cF.take a 0)) (star (aW b5 [.int .i64 (a:Int),.int .i64 g] 33) (star (aW b3 zR iJ) (star (aW b1 [.int .i64 c.kind,.int .i64 c.queue,.int .i64 c.at_,.int .i64 c.gen,.int .i64 c.time,.int .i64 c.data] iE) Q)))))))) →
     (aJ PP w0).st 71 ⟨d,4,none⟩ (SV.v s') (fun M111=>ob (rd w0 M111 ⟨d,2,none⟩) fun v113=>lT .i64 v113 fun n114=>(aJ PP w0).st 2 ⟨d,2,none⟩ (.int .i64 (qB (n114 + 1))) (fun M116=>ob ((aJ PP w0).ld 33 ⟨b5,0,none⟩ M116) fun v117=>shA v117 fun l118=>cK l118 fun u119 r120=>lT .i64 u119 fun n121=>cK r120 fun u122 r123=>lT .i64 u122 fun n124=>qA r123
      (ob (rd w0 M116 ⟨b1,4,none⟩) fun v125=>lT .i64 v125 fun n126=>ob (rd w0 M116 ⟨b1,5,none⟩) fun v127=>lT .i64 v127 fun n128=>ob ((aJ PP w0).pD iJ [(1,.agg #[.int .i64 n121,.int .i64 n124]),(2,.int .i64 n126),(3,.int .i64 n128)]) fun v129=>shA v129 fun l130=>cK l130 fun u131 r132=>lT .i64 u131 fun n133=>cK r132 fun u134 r135=>lT .i64 u134 fun n136=>cK r135 fun u137 r138=>lT .i64 u137 fun n139=>cK r138 fun u140 r141=>lT .i64 u140 fun n142=>cK r141 fun u143 r144=>lT .i64 u143 fun n145=>cK r144 fun u146 r147=>lT .i64 u146 fun n148=>qA r147
       ((aJ PP w0).st iJ ⟨b3,0,none⟩ (.agg #[.int .i64 n133,.int .i64 n136,.int .i64 n139,.int .i64 n142,.int .i64 n145,.int .i64 n148]) (fun M149=>ob ((aJ PP w0).rdv iJ (.pointer (some ⟨b3,0,none⟩)) M149) fun v150=>R v150 M149) M116))) M111) M9:=by
    intro M9 s' X h9
    have h10:=h9.aMb
    refine gA W.c71 h10.aZ (by simp) rfl rfl ?_
    have h11:=h10.jX (cs':=[.int .i64 x.most,.int .i64 x.now,.int .i64 x.next,.pointer (some ⟨p2,0,none⟩),SV.v s']) (e':=tD)
    rw [show ([.int .i64 x.most,.int .i64 x.now,.int .i64 x.next,.pointer (some ⟨p2,0,none⟩),SV.v s2]:List Value).set 4 (SV.v s') = [.int .i64 x.most,.int .i64 x.now,.int .i64 x.next,.pointer (some ⟨p2,0,none⟩),SV.v s'] from rfl]
    generalize M9.set d _ = M10 at h11 ⊢
    have rxx:rd w0 M10 ⟨d,2,none⟩ = some (.int .i64 x.next):=aM (o:=2) h11.aZ
    rw [rxx]
    simp only [aC,aK]
    have hnx:=hok.nx
    rw [bC (show -9223372036854775808≤x.next + 1∧x.next + 1≤9223372036854775807 by omega)]
    refine gA W.c2 h11.aZ (by simp) rfl rfl ?_
    have h12:=h11.jX (cs':=[.int .i64 x.most,.int .i64 x.now,.int .i64 (x.next + 1),.pointer (some ⟨p2,0,none⟩),SV.v s']) (e':=tD)
    rw [show ([.int .i64 x.most,.int .i64 x.now,.int .i64 x.next,.pointer (some ⟨p2,0,none⟩),SV.v s']:List Value).set 2 (.int .i64 (x.next + 1)) = [.int .i64 x.most,.int .i64 x.now,.int .i64 (x.next + 1),.pointer (some ⟨p2,0,none⟩),SV.v s'] from rfl]
    generalize M10.set d _ = M11 at h12 ⊢
    have t5:=h12.right.right.right.right.right.aZ
    have t1:=h12.right.right.right.right.right.right.right.aZ
    simp only [LR t5,(LC t1).2.2.1,(LC t1).2.2.2,aC,a9,aT,aK,aS,aJW]
    refine fin M11 _ _ hd ?_
    refine DH.close (p:=p2) (s:=s') ?_
    show aA w0 F _ (star _ (star (dS 6 s' (jdV (x.l ++ [⟨c.queue,c.data,c.time,x.next,(a:Int),g⟩]))) (star (lD p2 (x.cF.take a 0)) _)))
    rw [List.nil_append] at h12
    rw [show jdV (x.l ++ [⟨c.queue,c.data,c.time,x.next,(a:Int),g⟩]) = jdV x.l ++ [.int .i64 c.queue,.int .i64 c.data,.int .i64 c.time,.int .i64 x.next,.int .i64 (a:Int),.int .i64 g] from by simp [List.flatMap_append,w9]]
    obtain ⟨F1,k1,_,k2⟩:=h12.last
    refine k2 _ _ ?_
    obtain ⟨F2,k3,_,k4⟩:=k1.last
    refine k4 _ _ ?_
    obtain ⟨F3,k5,_,k6⟩:=(k3.right.right).last
    exact k6 _ _ k5.right
   have hln:s2.n≤10000:=by omega
   refine ⟨?_,?_⟩
   ·refine aHg hs2 fun M6 s363 l6 h6=>?_
    rw [aR]
    have r5:=h6.right.right.right.right.aZ
    have r1:=h6.right.right.right.right.right.right.aZ
    refine ⟨aM (o:=4) h6.right.aZ,(LC r1).2.1,(LC r1).2.2.2,(LC r1).2.2.1,aM (o:=2) h6.right.aZ,LR r5,?_,?_⟩
    ·have e6:=dP h6.right.right
     have n363:s363.n = 0:=by have:=(dP h6).2.1;simp at this;omega
     refine tV Tryz.underlying71 W.aBz h6 e6.2.1 e6.1 e6.2.2 (yL _) (by decide) (by omega) fun M7 s366 h7=>?_
     rw [aR]
     have t5:=h7.right.right.right.right.aZ
     have t1:=h7.right.right.right.right.right.right.aZ
     refine ⟨(LC t1).2.1,(LC t1).2.2.2,(LC t1).2.2.1,aM (o:=2) h7.right.aZ,LR t5,?_⟩
     refine aIy h7 _ _ _ _ _ _ fun M8 s369 l8 h8=>?_
     rw [aR]
     have e8:=dP h8
     have n366:s366.n = s2.n:=by
      have:=(dP h8.right).2.1
      rw [List.nil_append,pZ] at this
      simp only at this;omega
     refine tV Tryz.underlying71 W.aBz h8.dX e8.2.1 e8.1 e8.2.2 one (by decide) (by have:=e8.2.1;simp at this;omega) fun M9 s372 h9=>?_
     rw [aR]
     exact put M9 s372 _ h9
    ·refine aIy h6 _ _ _ _ _ _ fun M7 s377 l7 h7=>?_
     rw [aR]
     refine ⟨aM (o:=4) h7.right.right.aZ,?_⟩
     have e6:=dP h7.right.right.right
     have n363:s363.n = 0:=by have:=(dP h6).2.1;simp at this;omega
     refine tV Tryz.underlying71 W.aBz h7.dX e6.2.1 e6.1 e6.2.2 (yL _) (by decide) (by omega) fun M8 s380 h8=>?_
     rw [aR]
     have e8:=dP h8.right
     have n380:s380.n = s2.n:=by
      have:=(dP h8).2.1
      rw [List.nil_append,pZ] at this
      simp only at this;omega
     refine tV Tryz.underlying71 W.aBz h8 e8.2.1 e8.1 e8.2.2 one (by decide) (by have:=e8.2.1;simp at this;omega) fun M9 s383 h9=>?_
     rw [aR]
     exact put M9 s383 _ h9
   ·refine aIy hs2 _ _ _ _ _ _ fun M6 s388 l6 h6=>?_
    rw [aR]
    refine ⟨aM (o:=4) h6.right.aZ,?_⟩
    refine aHg h6 fun M7 s391 l7 h7=>?_
    rw [aR]
    refine ⟨aM (o:=4) h7.right.right.aZ,?_⟩
    have e6:=dP h7.right.right.right
    have n391:s391.n = 0:=by have:=(dP h7).2.1;simp at this;omega
    refine tV Tryz.underlying71 W.aBz h7 e6.2.1 e6.1 e6.2.2 (yL _) (by decide) (by omega) fun M8 s394 h8=>?_
    rw [aR]
    have e8:=dP h8.right
    have n394:s394.n = s2.n:=by
     have:=(dP h8).2.1
     rw [List.nil_append,pZ] at this
     simp only at this;omega
    refine tV Tryz.underlying71 W.aBz h8 e8.2.1 e8.1 e8.2.2 one (by decide) (by have:=e8.2.1;simp at this;omega) fun M9 s397 h9=>?_
    rw [aR]
    exact put M9 s397 _ h9
 ·rename_i k1
  rw [fB]
  split
  ·-- Fire
   rename_i k
   have hd:=xN (x:=x) hbq k
   simp only [aP W.c3,add_eq,Nat.zero_add,(LC o1).2.1,aC,aK]
   refine aGB g3 hL fun M3 l3=>?_
   have g4:=g3.le l3
   rw [aK,eK]
   cases hf:pT x.l c.queue with
   | none =>
    rw [hf] at hd
    rw [if_pos (show aET none < 0 by decide),bR0]
    simp only [aC,a9,aT,aK,aS]
    exact fin M3 x { why:=28 } hd g4
   | some y =>
    obtain ⟨j,hj,hjq,hye,_⟩:=z8 hf
    obtain ⟨y1,y2⟩:=y
    simp only at hj hye
    subst hye
    rw [hf] at hd
    simp only [hj] at hd
    have hacc:aET (some (y1,j.e)) = (y1:Int):=rfl
    rw [hacc,if_neg (by omega)]
    obtain ⟨p,s,hs⟩:=fM.open_ g4
    obtain ⟨blk,hsa,hns,hin,hrd⟩:=hs.job hj
    have ek:rd w0 M3 ⟨blk,y1 * 6 + 2,none⟩ = some (.int .i64 j.key):=hrd 2 _ rfl
    simp only [aX,aP W.c71,aP W.c2,add_eq,Nat.zero_add,hs.rl,hs.rn,aC,aR,hsa,Int.toNat_natCast,ek,aK]
    refine ⟨⟨by omega,by omega⟩,?_⟩
    rw [eK]
    split
    ·rename_i hdue
     rw [if_pos (show x.now < j.e.1 from hdue)] at hd
     rw [bR0]
     simp only [aC,a9,aT,aK,aS]
     exact fin M3 x { why:=28 } hd g4
    ·rename_i hdue
     rw [if_neg (show ¬ x.now < j.e.1 from hdue)] at hd
     refine Eq.mpr (H.J1 ..) ?_
     unfold bQ.J1.T aL
     refine aFc g4 hok hj fun M4 h4=>?_
     unfold Jb.v
     simp only [a9,aT,aK,aS]
     intro b5 hb5 hbw5
     have g5:=aA.new h4 hb5 hbw5 [.int .i64 0,.int .i64 0,.int .i64 0,.int .i64 0,.int .i64 0,.int .i64 0] tJb
     generalize M4.set b5 _ = M5 at g5 ⊢
     refine gG (vs:=w9 j) W.aFV g5.aZ (by simp [w9]) (y7 j) ?_
     have g6:=g5.jX (cs':=dZ [.int .i64 0,.int .i64 0,.int .i64 0,.int .i64 0,.int .i64 0,.int .i64 0] 0 (w9 j)) (e':=tJb)
     have hov:dZ [.int .i64 0,.int .i64 0,.int .i64 0,.int .i64 0,.int .i64 0,.int .i64 0] 0 (w9 j) = w9 j:=rfl
     rw [hov] at g6 ⊢
     generalize M5.set b5 _ = M6 at g6 ⊢
     have hb6:=aG8 g6.aZ rfl
     simp only [aP W.c3,aP W.c2,add_eq,Nat.zero_add,hb6.2.1,hb6.2.2.1,hb6.2.2.2,aC,a9,aT,aK,aS,aJW]
     exact fin M6 _ _ hd g6.right
  ·rename_i k5
   rw [fB]
   split
   ·-- Merge
    rename_i k
    have hd:=aBo (x:=x) hbq k
    simp only [aP W.c3,add_eq,Nat.zero_add,(LC o1).2.1,aC,aK]
    rw [fB]
    split
    ·rename_i hz
     rw [if_pos hz] at hd
     rw [bR0]
     simp only [aC,a9,aT,aK,aS]
     exact fin M2 x { why:=25 } hd g3
    ·rename_i hz
     rw [if_neg hz] at hd
     have key:∀ (n i:Nat) (l':List Jb) (M':Mem),i≤x.l.length→x.l.length < i + n→l'.length = x.l.length→(∀ a,a < i→l'[a]? = (x.l[a]?).map fun j=>if j.queue = 1 then { j with queue:=0 } else j)→(∀ a,i≤a→l'[a]? = x.l[a]?) →
       aA w0 F M' (star (fM d { x with l:=l' }) (star (aW b3 zR iJ) (star (aW b1 [.int .i64 c.kind,.int .i64 c.queue,.int .i64 c.at_,.int .i64 c.gen,.int .i64 c.time,.int .i64 c.data] iE) Q))) →
       bQ.L2 aB n (some ⟨d,0,none⟩) ⟨b3,0,none⟩ ((iK 1 (x.l.take i):Nat):Int) (i:Int) M':=by
      intro n
      induction n with
      | zero=>intro i l' M' e1 e2;omega
      | succ n ih =>
       intro i l' M' e1 e2 e3 e4 e5 g
       refine Eq.mpr (H.L2 ..) ?_
       unfold bQ.L2.T aL
       obtain ⟨p,s,hs⟩:=fM.open_ g
       have ns:=hs.n
       simp only at ns
       simp only [aX,aP W.c71,aP W.c3,add_eq,Nat.zero_add,hs.rl,aC,aR]
       rw [eK]
       split
       ·have hlt:i < x.l.length:=by omega
        have hj:=List.getElem?_eq_getElem hlt
        have htk:x.l.take (i + 1) = x.l.take i ++ [x.l[i]]:=by rw [List.take_add_one,hj];rfl
        generalize x.l[i] = j at hj htk
        have hj':l'[i]? = some j:=by rw [e5 i (Nat.le_refl _),hj]
        obtain ⟨blk,hsa,_,hin,hrd⟩:=hs.job (x:={ x with l:=l' }) hj'
        have eq:rd w0 M' ⟨blk,i * 6,none⟩ = some (.int .i64 j.queue):=hrd 0 _ rfl
        simp only [hsa,aX,Int.toNat_natCast,add_eq,Nat.zero_add,eq,aC,aK]
        have hbd:0≤(i:Int)∧(i:Int) < ((s.n:Nat):Int):=⟨by omega,by omega⟩
        refine ⟨hbd,?_⟩
        have hle:iK 1 (x.l.take i)≤x.l.length:=Nat.le_trans List.countP_le_length (by rw [List.length_take];omega)
        have hct:iK 1 (x.l.take (i + 1)) = iK 1 (x.l.take i) + (if j.queue = 1 then 1 else 0):=by
         rw [htk];unfold iK
         rw [List.countP_append,List.countP_singleton]
         simp
        rw [fB,cX (i:=i) (by omega),cX (by omega)]
        split
        ·rename_i hq1
         rw [if_pos hq1] at hct
         refine ⟨hbd,?_⟩
         have:=DH.set (x:={ x with l:=l' }) hs W.c3 (i:=i) (j':={ j with queue:=0 }) hj' (f:=0) (by decide) (v:=.int .i64 0) rfl rfl rfl hsa (K:=fun M435=>bQ.L2 aB n (some ⟨d,0,none⟩) ⟨b3,0,none⟩ ((iK 1 (x.l.take i) + 1:Nat):Int) ((i + 1:Nat):Int) M435) fun M4 h4=>by
          rw [←hct]
          refine ih (i + 1) (l'.set i { j with queue:=0 }) M4 (by omega) (by omega) (by rw [List.length_set,e3]) (fun a ha=>?_) (fun a ha=>?_) (DH.close h4)
          ·by_cases hai:a = i
           ·subst hai
            rw [List.getElem?_set_self (by omega),hj]
            simp only [Option.map_some,if_pos hq1]
           ·rw [List.getElem?_set_ne (Ne.symm hai)];exact e4 a (by omega)
          ·rw [List.getElem?_set_ne (by omega)];exact e5 a (by omega)
         exact this
        ·rename_i hq1
         rw [if_neg hq1] at hct
         rw [show iK 1 (x.l.take i) = iK 1 (x.l.take (i + 1)) from by omega]
         refine ih (i + 1) l' M' (by omega) (by omega) e3 (fun a ha=>?_) (fun a ha=>e5 a (by omega)) g
         by_cases hai:a = i
         ·subst hai
          rw [hj',hj]
          simp only [Option.map_some,if_neg hq1]
         ·exact e4 a (by omega)
       ·have hii:i = x.l.length:=by omega
        have hl':l' = x.l.map fun j=>if j.queue = 1 then { j with queue:=0 } else j:=List.ext_getElem? fun a=>by
         rw [List.getElem?_map]
         by_cases ha:a < i
         ·exact e4 a ha
         ·rw [e5 a (by omega),List.getElem?_eq_none (by omega)];rfl
        subst hii
        rw [List.take_length,bR4]
        simp only [aC,a9,aT,aK,aS]
        rw [hl'] at g
        exact fin M' _ _ hd g
     exact ⟨_,key (x.l.length + 1) 0 x.l M2 (by omega) (by omega) rfl (fun a ha=>by omega) (fun a _=>rfl) g3⟩
   ·-- Count
    rename_i k6
    have k:c.kind = 7:=by omega
    have hd:=aCM (x:=x) hbq k
    simp only [aP W.c3,add_eq,Nat.zero_add,(LC o1).2.1,aC,aK]
    refine aFR g3 hL ?_
    simp only [aK]
    rw [bR4]
    simp only [aC,a9,aT,aK,aS]
    exact fin M2 _ _ hd g3
end
end
end HL
namespace HL
section
variable {w0:World} {F M:Mem} {R:VP} {d:Nat} {x:rS} {Q:cW}
def rS.new (n:Int):rS:=⟨n,0,0,⟨n,[],[],[],[]⟩,[]⟩
theorem aJB {n:Int} (h:aA w0 F M Q) (h0:0≤n) (h1:n≤65536) (hR:∀ M' d,aA w0 F M' (star (fM d (rS.new n)) Q)→R (.pointer (some ⟨d,0,none⟩)) M'):C PP w0 Id.qD #[.int .i64 n] R M:=by
 apply qD.go
 unfold qD.T aL
 refine aHn h h0 h1 fun M1 p g1=>?_
 rw [bK]
 have hb:(aJ PP w0).pD tD [(0,.int .i64 n),(3,.pointer (some ⟨p,0,none⟩))] = some (.agg #[.int .i64 n,.int .i64 0,.int .i64 0,.pointer (some ⟨p,0,none⟩),.slice none 0 0]):=by kernel_rfl
 rw [hb]
 simp only [aC,a9,aT,aK,bK,rE,aS]
 intro d hd0 hdw
 have g:=aA.new g1 hd0 hdw [.int .i64 n,.int .i64 0,.int .i64 0,.pointer (some ⟨p,0,none⟩),SV.v ⟨none,0,0⟩] tD
 refine hR _ d ?_
 obtain ⟨F1,k1,_,k2⟩:=g.last
 have:DH w0 F _ d (rS.new n) p ⟨none,0,0⟩ Q:=k2 _ _ (aA.pI (k:=6) k1)
 exact this.close
theorem aKn {c:rR} (h:aA w0 F M (star (fM d x) Q)) (hok:DOk x) (hn:cM x.now) (hct:cM c.time)
  (hR:∀ M',aA w0 F M' (star (fM d (gC x c).1) Q)→R (gC x c).2.v M') :
  C PP w0 Id.fD #[.pointer (some ⟨d,0,none⟩),c.v] R M:=by
 apply fD.go
 intro aB H
 unfold fD.T aL
 have hL:=hok.ll
 intro b1 hb0 hbw
 have g1:=(aA.new h hb0 hbw [.int .i64 c.kind,.int .i64 c.queue,.int .i64 c.at_,.int .i64 c.gen,.int .i64 c.time,.int .i64 c.data] iE).dX
 change aA w0 F (M.set b1 (.row [.int .i64 c.kind,.int .i64 c.queue,.int .i64 c.at_,.int .i64 c.gen,.int .i64 c.time,.int .i64 c.data] iE)) (star (fM d x) (star (aW b1 [.int .i64 c.kind,.int .i64 c.queue,.int .i64 c.at_,.int .i64 c.gen,.int .i64 c.time,.int .i64 c.data] iE) Q)) at g1
 generalize M.set b1 _ = M1 at g1 ⊢
 intro b3 hb3 hbw3
 have g3:=(aA.new g1 hb3 hbw3 [.int .i64 0,.int .i64 0,.int .i64 0,.int .i64 0,.int .i64 0,.int .i64 0] iJ).dX
 change aA w0 F (M1.set b3 (.row [.int .i64 0,.int .i64 0,.int .i64 0,.int .i64 0,.int .i64 0,.int .i64 0] iJ)) (star (fM d x) (star (aW b3 zR iJ) (star (aW b1 [.int .i64 c.kind,.int .i64 c.queue,.int .i64 c.at_,.int .i64 c.gen,.int .i64 c.time,.int .i64 c.data] iE) Q))) at g3
 generalize M1.set b3 _ = M2 at g3 ⊢
 have LC:∀ {M':Mem},cN w0 M' b1 [.int .i64 c.kind,.int .i64 c.queue,.int .i64 c.at_,.int .i64 c.gen,.int .i64 c.time,.int .i64 c.data] iE→rd w0 M' ⟨b1,0,none⟩ = some (.int .i64 c.kind)∧rd w0 M' ⟨b1,1,none⟩ = some (.int .i64 c.queue)∧rd w0 M' ⟨b1,4,none⟩ = some (.int .i64 c.time)∧(aJ PP w0).ld iE ⟨b1,0,none⟩ M' = some (.agg #[.int .i64 c.kind,.int .i64 c.queue,.int .i64 c.at_,.int .i64 c.gen,.int .i64 c.time,.int .i64 c.data])∧(aJ PP w0).ld 33 ⟨b1,2,none⟩ M' = some (.agg #[.int .i64 c.at_,.int .i64 c.gen]):=fun o =>
  ⟨aM (o:=0) o,aM (o:=1) o,aM (o:=4) o,cR (cs:=c.cells) W.g68 (fun j v hj=>by rw [add_eq,aM o,Nat.zero_add];exact hj),cR (cs:=[.int .i64 c.at_,.int .i64 c.gen]) W.g33 (fun j v hj=>by
   rw [add_eq,aM o]
   match j,hj with
   | 0,hj=>exact hj
   | 1,hj=>exact hj)⟩
 have strip:∀ {M5:Mem} {x':rS},aA w0 F M5 (star (fM d x') (star (aW b1 [.int .i64 c.kind,.int .i64 c.queue,.int .i64 c.at_,.int .i64 c.gen,.int .i64 c.time,.int .i64 c.data] iE) Q))→aA w0 F M5 (star (fM d x') Q):=fun g5=>by
  obtain ⟨F',k1,_,k2⟩:=g5.last
  exact k2 _ _ k1.right
 have fin:∀ (M4:Mem) (x':rS) (r:fA),gC x c = (x',r)→aA w0 F M4 (star (fM d x') (star (aW b3 zR iJ) (star (aW b1 [.int .i64 c.kind,.int .i64 c.queue,.int .i64 c.at_,.int .i64 c.gen,.int .i64 c.time,.int .i64 c.data] iE) Q))) →
   (aJ PP w0).st iJ ⟨b3,0,none⟩ (.agg #[.int .i64 r.why,.int .i64 r.at_,.int .i64 r.gen,.int .i64 r.time,.int .i64 r.data,.int .i64 r.n]) (fun M14=>ob ((aJ PP w0).rdv iJ (.pointer (some ⟨b3,0,none⟩)) M14) fun v15=>R v15 M14) M4:=by
  intro M4 x' r hd g
  refine aHr g.dX rfl fun M5 g5=>?_
  rw [hd] at hR
  exact hR M5 (strip g5)
 have o1:=g3.right.right.aZ
 have keyJ2:¬ (c.kind = 1∨c.kind = 5∨c.kind = 6∨c.kind = 7)→∀ t:Bool,(t = true↔(c.kind = 2∨c.kind = 3))→fD.J2 aB (some ⟨d,0,none⟩) ⟨b1,0,none⟩ ⟨b3,0,none⟩ c.kind t M2:=by
  intro hnq t ht
  refine Eq.mpr (H.J2 ..) ?_
  unfold fD.J2.T aL
  cases t with
  | true =>
   have hk:=ht.1 rfl
   have hd:=yT (x:=x) hk
   rw [dY]
   obtain ⟨p,s,hs⟩:=fM.open_ g3
   simp only [aX,aP W.c52,add_eq,Nat.zero_add,hs.rp,(LC o1).2.2.2.2,aC,bK,a9,aT,aK,aS]
   obtain ⟨F1,hp,_⟩:=hs.cF
   refine aDQ hp hok.pl fun M3 l3=>?_
   have g4:=g3.le l3
   have o4:=g4.right.right.aZ
   rw [aK,bX]
   split
   ·rename_i hz
    rw [if_neg (fun hh=>hh hz)] at hd
    obtain ⟨k,hat⟩:=hok.look _ _ hz
    simp only [(LC o4).2.2.2.2,aC,a9,aT,aK,aS]
    refine aKv g4 hL fun M5 l5=>?_
    rw [hat] at hd ⊢
    have hkl:k < x.l.length:=(List.findIdx?_eq_some_iff_getElem.1 hat).1
    have hj:=List.getElem?_eq_getElem hkl
    generalize x.l[k] = j at hj
    simp only [hj] at hd
    have g5:=g4.le l5
    have o5:=g5.right.right.aZ
    simp only [aP W.c3,(LC o5).1,aC,aK]
    rw [fB]
    split
    ·rename_i k3
     rw [if_pos k3] at hd
     refine aFc g5 hok hj fun M6 h6=>?_
     unfold Jb.v
     simp only [a9,aT,aK,aS]
     intro b5 hb5 hbw5
     have g6:=aA.new h6 hb5 hbw5 [.int .i64 0,.int .i64 0,.int .i64 0,.int .i64 0,.int .i64 0,.int .i64 0] tJb
     generalize M6.set b5 _ = M7 at g6 ⊢
     refine gG (vs:=w9 j) W.aFV g6.aZ (by simp [w9]) (y7 j) ?_
     have g7:=g6.jX (cs':=dZ [.int .i64 0,.int .i64 0,.int .i64 0,.int .i64 0,.int .i64 0,.int .i64 0] 0 (w9 j)) (e':=tJb)
     have hov:dZ [.int .i64 0,.int .i64 0,.int .i64 0,.int .i64 0,.int .i64 0,.int .i64 0] 0 (w9 j) = w9 j:=rfl
     rw [hov] at g7 ⊢
     generalize M7.set b5 _ = M8 at g7 ⊢
     have hb7:=aG8 g7.aZ rfl
     simp only [aP W.c3,aP W.c2,add_eq,Nat.zero_add,hb7.2.2.1,hb7.2.2.2,aC,a9,aT,aK,aS,aKs]
     exact fin M8 _ _ hd g7.right
    ·rename_i k3
     rw [if_neg k3] at hd
     obtain ⟨p,s,hs5⟩:=fM.open_ g5
     obtain ⟨blk,hsa,hns,hin,hrd⟩:=hs5.job hj
     have hbd:0≤(k:Int)∧(k:Int) < ((s.n:Nat):Int):=⟨by omega,by omega⟩
     have ek:rd w0 M5 ⟨blk,k * 6 + 2,none⟩ = some (.int .i64 j.key):=hrd 2 _ rfl
     simp only [aX,aP W.c71,aP W.c2,add_eq,Nat.zero_add,hs5.rl,(LC o5).2.2.1,aC,aR,hsa,Int.toNat_natCast,ek,aK]
     refine ⟨hbd,?_⟩
     rw [eK]
     split
     ·rename_i hk2
      rw [if_pos (show j.key < c.time from hk2)] at hd
      rw [bR0]
      simp only [aC,a9,aT,aK,aS]
      exact fin M5 x { why:=26 } hd g5
     ·rename_i hk2
      rw [if_neg (show ¬ j.key < c.time from hk2)] at hd
      refine ⟨hbd,?_⟩
      refine DH.set hs5 W.c2 (j':={ j with key:=c.time }) hj (by decide) rfl rfl rfl hsa fun M6 h6=>?_
      have o6:=h6.right.right.right.right.aZ
      obtain ⟨blk',hsa',_,_,hrd6⟩:=DH.job (x:={ x with l:=x.l.set k { j with key:=c.time } }) h6 (i:=k) (j:={ j with key:=c.time }) (List.getElem?_set_self hkl)
      rw [hsa] at hsa';cases hsa'
      have ed:rd w0 M6 ⟨blk,k * 6 + 1,none⟩ = some (.int .i64 j.data):=hrd6 1 _ rfl
      have rl6:rd w0 M6 ⟨d,4,none⟩ = some (SV.v s):=h6.rl
      simp only [aX,aP W.c71,aP W.c3,aP W.c2,add_eq,Nat.zero_add,rl6,(LC o6).2.2.1,aC,aR,hsa,Int.toNat_natCast,ed,a9,aT,aK,aS,aKs]
      refine ⟨hbd,?_⟩
      exact fin M6 _ _ hd (DH.close (x:={ x with l:=x.l.set k { j with key:=c.time } }) h6)
   ·rename_i hz
    rw [if_pos hz] at hd
    rw [bR0]
    simp only [aC,a9,aT,aK,aS]
    exact fin M3 _ _ hd g4
  | false =>
   have hk:¬ (c.kind = 2∨c.kind = 3):=fun hh=>by have:=ht.2 hh;cases this
   rw [mY,fB]
   split
   ·rename_i k
    have hd:=aCN (x:=x) k
    simp only [aP W.c2,add_eq,Nat.zero_add,(LC o1).2.2.1,aC,aK]
    rw [eK]
    split
    ·rename_i ht
     rw [if_pos ht] at hd
     rw [bR0]
     simp only [aC,a9,aT,aK,aS]
     exact fin M2 _ _ hd g3
    ·rename_i ht
     rw [if_neg ht] at hd
     obtain ⟨p,s,hs⟩:=fM.open_ g3
     simp only [aX,aP W.c2,add_eq,Nat.zero_add,hs.rn,aC,aK]
     refine aIR hn hct ?_
     simp only [aK]
     refine gA W.c2 hs.aZ (by simp) rfl rfl ?_
     have h6:=hs.jX (cs':=[.int .i64 x.most,.int .i64 (jY x.now c.time),.int .i64 x.next,.pointer (some ⟨p,0,none⟩),SV.v s]) (e':=tD)
     rw [show ([.int .i64 x.most,.int .i64 x.now,.int .i64 x.next,.pointer (some ⟨p,0,none⟩),SV.v s]:List Value).set 1 (.int .i64 (jY x.now c.time)) = [.int .i64 x.most,.int .i64 (jY x.now c.time),.int .i64 x.next,.pointer (some ⟨p,0,none⟩),SV.v s] from rfl]
     generalize M2.set d _ = M6 at h6 ⊢
     have en6:rd w0 M6 ⟨d,1,none⟩ = some (.int .i64 (jY x.now c.time)):=aM (o:=1) h6.aZ
     simp only [en6,aC,a9,aT,aK,aS,bR2]
     exact fin M6 _ _ hd (DH.close (x:={ x with now:=jY x.now c.time }) h6)
   ·rename_i k
    have hd:=aCH (x:=x) (c:=c) (by omega)
    rw [bR0]
    simp only [aC,a9,aT,aK,aS]
    exact fin M2 _ _ hd g3
 have keyJ1:∀ t:Bool,(t = true↔(c.kind = 1∨c.kind = 5∨c.kind = 6∨c.kind = 7))→fD.J1 aB (some ⟨d,0,none⟩) ⟨b1,0,none⟩ ⟨b3,0,none⟩ c.kind t M2:=by
  intro t ht
  refine Eq.mpr (H.J1 ..) ?_
  unfold fD.J1.T aL
  cases t with
  | true =>
   have hk:=ht.1 rfl
   rw [dY]
   have hcall:(c.queue = 0∨c.queue = 1)→C PP w0 Id.bQ #[.pointer (some ⟨d,0,none⟩),c.v] (fun v53 M54=>shA v53 fun l55=>cK l55 fun u56 r57=>lT .i64 u56 fun n58=>cK r57 fun u59 r60=>lT .i64 u59 fun n61=>cK r60 fun u62 r63=>lT .i64 u62 fun n64=>cK r63 fun u65 r66=>lT .i64 u65 fun n67=>cK r66 fun u68 r69=>lT .i64 u68 fun n70=>cK r69 fun u71 r72=>lT .i64 u71 fun n73=>qA r72 ((aJ PP w0).st iJ ⟨b3,0,none⟩ (.agg #[.int .i64 n58,.int .i64 n61,.int .i64 n64,.int .i64 n67,.int .i64 n70,.int .i64 n73]) (fun M74=>ob ((aJ PP w0).rdv iJ (.pointer (some ⟨b3,0,none⟩)) M74) fun v75=>R v75 M74) M54)) M2:=fun hq=>by
    refine aGm g3 hok hq hk fun M5 h5=>?_
    unfold fA.v
    simp only [a9,aT,aK,aS]
    exact fin M5 _ _ rfl h5
   simp only [aP W.c3,add_eq,Nat.zero_add,(LC o1).2.1,(LC o1).2.2.2.1,aC,a9,aT,aK,aS]
   rw [bX]
   split
   ·rename_i hq
    exact hcall (.inl hq)
   ·rename_i hq
    rw [bX]
    split
    ·rename_i hq1
     exact hcall (.inr hq1)
    ·rename_i hq1
     rw [bR0]
     simp only [aC,a9,aT,aK,aS]
     exact fin M2 _ _ (vG ⟨hk,by omega⟩) g3
  | false =>
   have hk:¬ (c.kind = 1∨c.kind = 5∨c.kind = 6∨c.kind = 7):=fun hh=>by have:=ht.2 hh;cases this
   rw [mY,fB]
   split
   ·rename_i k
    exact keyJ2 hk _ (by rw [k];simp)
   ·rename_i k
    refine keyJ2 hk _ ?_
    simp only [beq_iff_eq]
    constructor
    ·intro hh;exact .inr hh
    ·intro hh;omega
 simp only [aP W.c3,(LC o1).1,aC,aK]
 rw [fB]
 split
 ·rename_i k;exact keyJ1 _ (by rw [k];simp)
 ·rename_i k1
  rw [fB]
  split
  ·rename_i k;exact keyJ1 _ (by rw [k];simp)
  ·rename_i k2
   rw [fB]
   split
   ·rename_i k;exact keyJ1 _ (by rw [k];simp)
   ·rename_i k3
    refine keyJ1 _ ?_
    simp only [beq_iff_eq]
    constructor
    ·intro hh;exact .inr (.inr (.inr hh))
    ·intro hh;omega
end
end HL
set_option maxHeartbeats 1000000
namespace HL
namespace PS
variable {κ κ':Type} {p:PS κ} {p':PS κ'}
theorem aBg (h:p.pl = p'.pl):p.most = p'.most∧p.free = p'.free∧p.l.length = p'.l.length∧(∀ j:Nat,(p.l[j]?).map (·.g) = (p'.l[j]?).map (·.g))∧∀ j:Nat,(p.l[j]?).map (·.t) = (p'.l[j]?).map (·.t):=by
 unfold pl at h
 simp only [Pl.mk.injEq] at h
 obtain ⟨h1,h2,h3,h4,h5⟩:=h
 refine ⟨h1,h5,?_,fun j=>?_,fun j=>?_⟩
 ·have:=congrArg List.length h2
  simpa using this
 ·rw [←List.getElem?_map,←List.getElem?_map,h2]
 ·rw [←List.getElem?_map,←List.getElem?_map,h3]
theorem aHY (h:p.pl = p'.pl) {j:Nat} {x:rQ κ} (hx:p.l[j]? = some x):∃ y,p'.l[j]? = some y∧y.g = x.g∧y.t = x.t:=by
 obtain ⟨_,_,_,h4,h5⟩:=aBg h
 have a:=h4 j
 have b:=h5 j
 rw [hx] at a b
 cases hy:p'.l[j]? with
 | none=>rw [hy] at a;cases a
 | some y =>
  rw [hy] at a b
  simp only [Option.map_some,Option.some.injEq] at a b
  exact ⟨y,rfl,a.symm,b.symm⟩
theorem aLH (h:p.pl = p'.pl) (hok:p'.Ok):p.Ok:=by
 obtain ⟨_,h2,_,_,_⟩:=aBg h
 refine ⟨by rw [h2];exact hok.nd,fun a ha=>?_⟩
 rw [h2] at ha
 obtain ⟨y,hy,ht⟩:=hok.fr a ha
 obtain ⟨x,hx,_,hxt⟩:=aHY h.symm hy
 exact ⟨x,hx,by rw [hxt];exact ht⟩
theorem aHE (h:p.pl = p'.pl) {x:rQ κ} (hx:x∈p.l):∃ y∈p'.l,y.g = x.g∧y.t = x.t:=by
 obtain ⟨j,hj⟩:=List.getElem?_of_mem hx
 obtain ⟨y,hy,h1⟩:=aHY h hj
 exact ⟨y,List.mem_of_getElem? hy,h1⟩
theorem aI6 (hok:p.Ok):aF0 p.pl:=by
 refine ⟨by unfold pl;simp,by unfold pl;simp,fun a ha=>?_,hok.nd⟩
 obtain ⟨x,hx,ht⟩:=hok.fr a ha
 have:=(List.getElem?_eq_some_iff.1 hx).1
 unfold pl
 simp only [List.length_map,List.getElem?_map,hx,Option.map_some,ht]
 exact ⟨this,trivial⟩
theorem aBw {z v:κ} (hok:p.Ok) {a:Nat} (ha:p.at_ = some a) {b g:Int} {w:κ} (h:(p.take z a v).find b g = some w):(b = (a:Int)∧g = p.gen a)∨p.find b g = some w:=by
 obtain ⟨t1,t2,_⟩:=zO hok ha z v
 obtain ⟨k,rfl,hk,hg⟩:=bH h
 by_cases e:k = a
 ·subst e
  rw [t1] at hk
  cases hk
  exact .inl ⟨rfl,rfl⟩
 ·rw [t2 k e] at hk
  exact .inr (jT hk hg)
theorem aBy {z:κ} {a:Nat} {x:rQ κ} (hx:p.l[a]? = some x) {b g:Int} {w:κ} (h:(p.gB z a).find b g = some w):b≠(a:Int)∧p.find b g = some w:=by
 obtain ⟨h1,_⟩:=vH z hx
 obtain ⟨k,rfl,hk,hg⟩:=bH h
 rw [h1] at hk
 by_cases e:a = k
 ·subst e
  rw [List.getElem?_set_self (List.getElem?_eq_some_iff.1 hx).1] at hk
  cases hk
 ·rw [List.getElem?_set_ne e] at hk
  exact ⟨by omega,jT hk hg⟩
theorem aCV {a:Nat} {v:κ} {x:rQ κ} (hx:p.l[a]? = some x) {b g:Int} {w:κ} (h:(p.put a v).find b g = some w):∃ w',p.find b g = some w':=by
 obtain ⟨h1,_⟩:=uX v hx
 obtain ⟨k,rfl,hk,hg⟩:=bH h
 rw [h1] at hk
 by_cases e:a = k
 ·subst e
  rw [List.getElem?_set_self (List.getElem?_eq_some_iff.1 hx).1] at hk
  obtain ⟨xg,xt,xv⟩:=x
  cases hk
  exact ⟨_,jT hx hg⟩
 ·rw [List.getElem?_set_ne e] at hk
  exact ⟨_,jT hk hg⟩
end PS
theorem aCg {P:PS V5} {A:List cY} {f t b g:Int} {w:V5} (h:(xT P A f t).find b g = some w):∃ w',P.find b g = some w':=by
 obtain ⟨k,rfl,hk,hg⟩:=PS.bH h
 rw [sC] at hk
 cases hx:P.l[k]? with
 | none=>rw [hx] at hk;cases hk
 | some x =>
  rw [hx,Option.map_some] at hk
  refine ⟨x.v,PS.jT ?_ hg⟩
  rw [hx]
  split at hk <;> (obtain ⟨xg,xt,xv⟩:=x;cases hk;rfl)
structure DSt where
 K:Int
 S:QS
 I:List m6
 y0:Hv
 y1:Hv
 P:PS V5
 oW:dL→Option dL
 wh:dL→Option Int
 now:Int
 cP:Int
 last:Int
 top:Int
def zD (y0 y1:Hv) (q:Int):dL:=if q = 0 then y0.h else y1.h
def Jb.r (j:Jb):dL:=(j.at_,j.gen)
def jk (y0 y1:Hv) (j:Jb):dL × dL × cY:=(j.r,zD y0 y1 j.queue,j.e)
def ik (x:m6):dL × dL × cY:=(x.r,x.h,x.e)
def Jb.v5 (j:Jb):V5:=(j.queue,j.key,j.data,j.at_,j.gen)
structure dJ (Y:DSt) (d:rS) (tm:Int):Prop where
 q:dU Y.S Y.I [Y.y0,Y.y1] tm
 K3:1≤Y.K∧Y.K≤3
 k0:Y.y0.k = Y.K
 k1:Y.y1.k = Y.K
 pk:Y.P.pl = d.cF
 ipk:Y.S.ip.pl = d.cF
 most:Y.S.most = d.most
 now:Y.now = d.now
 aBv:cM d.now
 nx:Y.S.next = d.next
 par:Y.I.map ik = d.l.map (jk Y.y0 Y.y1)
 qr:∀ j∈d.l,j.queue = 0∨j.queue = 1
 jf:∀ j∈d.l,Y.P.find j.at_ j.gen = some j.v5
 jb:∀ j∈d.l,Y.oW j.r = some j.r
 jb2:∀ r x,Y.oW r = some x→∃ j∈d.l,j.r = r
 jw:∀ j∈d.l,Y.wh j.r = some j.ser
 lv:∀ a g v,Y.P.find a g = some v→∃ j∈d.l,j.at_ = a∧j.gen = g
 sn:(d.l.map (·.ser)).Nodup
 sl:∀ j∈d.l,0≤j.ser∧j.ser < d.next
section
variable {Y:DSt} {d:rS} {tm:Int}
theorem dJ.pp (h:dJ Y d tm):Y.P.pl = Y.S.ip.pl:=h.pk.trans h.ipk.symm
theorem dJ.pok (h:dJ Y d tm):Y.P.Ok:=PS.aLH h.pp h.q.io
theorem dJ.pg (h:dJ Y d tm):∀ x∈Y.P.l,0≤x.g∧x.g≤tm:=fun x hx=>by
 obtain ⟨y,hy,e,_⟩:=PS.aHE h.pp hx
 have:=h.q.ig y hy
 omega
theorem dJ.pg1 (h:dJ Y d tm):∀ x∈Y.P.l,x.t = true→1≤x.g:=fun x hx ht=>by
 obtain ⟨y,hy,e,et⟩:=PS.aHE h.pp hx
 have:=h.q.ig1 y hy (by rw [et];exact ht)
 omega
theorem dJ.len (h:dJ Y d tm):Y.I.length = d.l.length:=by
 have:=congrArg List.length h.par
 simpa using this
theorem dJ.w7 (h:dJ Y d tm):Y.P.l.length = Y.P.free.length + d.l.length∧(Y.P.l.length:Int)≤d.most∧Y.P.most = d.most∧d.most≤300∧1≤d.most:=by
 obtain ⟨e1,e2,e3,_⟩:=PS.aBg h.pp
 have:=h.q.il
 have:=h.q.ill
 have:=h.q.im
 have:=h.q.m2
 have:=h.q.m1
 have:=h.most
 have:=h.len
 refine ⟨by rw [e3,e2];omega,by rw [e3];omega,by rw [e1];omega,by omega,by omega⟩
theorem dJ.refs (h:dJ Y d tm):Y.I.map (·.r) = d.l.map Jb.r:=by
 have:=congrArg (List.map Prod.fst) h.par
 rw [List.map_map,List.map_map] at this
 exact this
theorem dJ.rnd (h:dJ Y d tm):(d.l.map Jb.r).Nodup:=by rw [←h.refs];exact h.q.ind
theorem dJ.ok (h:dJ Y d tm) (htm:tm≤900000):DOk d:=by
 obtain ⟨e1,e2,e3,e4,e5⟩:=h.w7
 have hp:d.cF = Y.P.pl:=h.pk.symm
 have hnx:=h.q.nx
 have:=h.nx
 refine ⟨by rw [hp];exact PS.aI6 h.pok,fun a g hl=>?_,fun j hj=>?_,?_,?_,fun g hg=>?_,?_,?_⟩
 ·rw [hp,←PS.pM] at hl
  obtain ⟨v,hv⟩:=Option.isSome_iff_exists.1 hl
  obtain ⟨j,hj,ea,eg⟩:=h.lv a g v hv
  cases hk:HL.atD d.l a g with
  | some k=>exact ⟨k,rfl⟩
  | none =>
   have:=List.findIdx?_eq_none_iff.1 hk j hj
   simp [ea,eg] at this
 ·rw [hp,←PS.pM,h.jf j hj];rfl
 ·rw [hp];show Y.P.free.length≤10000;omega
 ·rw [hp];show (Y.P.l.map (·.g)).length≤10000;rw [List.length_map];omega
 ·rw [hp] at hg
  obtain ⟨x,hx,rfl⟩:=List.mem_map.1 hg
  have:=h.pg x hx
  omega
 ·omega
 ·omega
theorem dJ.split (h:dJ Y d tm) {A B:List Jb} {j:Jb} (hd:d.l = A ++ j::B):∃ IA x IB,Y.I = IA ++ x::IB∧IA.map ik = A.map (jk Y.y0 Y.y1)∧x.r = j.r∧x.h = zD Y.y0 Y.y1 j.queue∧x.e = j.e∧IB.map ik = B.map (jk Y.y0 Y.y1):=by
 have hp:=h.par
 rw [hd,List.map_append,List.map_cons] at hp
 obtain ⟨IA,I2,e1,e2,e3⟩:=List.map_eq_append_iff.1 hp
 obtain ⟨x,IB,e4,e5,e6⟩:=List.map_eq_cons_iff.1 e3
 subst e4
 have e7:(x.r,x.h,x.e) = (j.r,zD Y.y0 Y.y1 j.queue,j.e):=e5
 simp only [Prod.mk.injEq] at e7
 exact ⟨IA,x,IB,e1,e2,e7.1,e7.2.1,e7.2.2,e6⟩
theorem dJ.aFn (h:dJ Y d tm) {x:m6} (hx:x∈Y.I):∃ j∈d.l,x.r = j.r∧x.h = zD Y.y0 Y.y1 j.queue∧x.e = j.e:=by
 have:ik x∈Y.I.map ik:=List.mem_map.2 ⟨x,hx,rfl⟩
 rw [h.par] at this
 obtain ⟨j,hj,e⟩:=List.mem_map.1 this
 have e7:(j.r,zD Y.y0 Y.y1 j.queue,j.e) = (x.r,x.h,x.e):=e
 simp only [Prod.mk.injEq] at e7
 exact ⟨j,hj,e7.1.symm,e7.2.1.symm,e7.2.2.symm⟩
theorem dJ.eQ (h:dJ Y d tm):Y.y0.h≠Y.y1.h:=fun e=>by
 have:=h.q.fS
 simp [e] at this
theorem aE7 (h:dJ Y d tm) {p q:Int} (hp:p = 0∨p = 1) (hq:q = 0∨q = 1) (e:zD Y.y0 Y.y1 p = zD Y.y0 Y.y1 q):p = q:=by
 have eQ:=h.eQ
 unfold zD at e
 rcases hp with rfl | rfl <;> rcases hq with rfl | rfl <;> first | rfl | (simp at e;exact absurd e (by first | exact eQ | exact eQ.symm))
theorem dJ.atD (h:dJ Y d tm) {a g:Int} {k:Nat} (hk:atD d.l a g = some k):∃ j,d.l[k]? = some j∧j.at_ = a∧j.gen = g∧∃ A B,d.l = A ++ j::B∧A.length = k:=by
 obtain ⟨h1,h2,_⟩:=List.findIdx?_eq_some_iff_getElem.1 hk
 refine ⟨d.l[k],List.getElem?_eq_getElem h1,?_⟩
 have h3:d.l[k].at_ = a∧d.l[k].gen = g:=by simpa using h2
 refine ⟨h3.1,h3.2,d.l.take k,d.l.drop (k + 1),?_,?_⟩
 ·rw [←List.drop_eq_getElem_cons h1,List.take_append_drop]
 ·rw [List.length_take,Nat.min_eq_left (by omega)]
theorem aIe {l:List Jb} {k:Nat} {j:Jb} (h:l[k]? = some j):∃ A B,l = A ++ j::B∧A.length = k:=by
 obtain ⟨h1,rfl⟩:=List.getElem?_eq_some_iff.1 h
 refine ⟨l.take k,l.drop (k + 1),?_,?_⟩
 ·rw [←List.drop_eq_getElem_cons h1,List.take_append_drop]
 ·rw [List.length_take,Nat.min_eq_left (by omega)]
theorem aAE {y0 y1 y0' y1':Hv} (h0:y0'.h = y0.h) (h1:y1'.h = y1.h):jk y0' y1' = jk y0 y1:=by
 funext j
 unfold jk zD
 rw [h0,h1]
theorem dJ.add (h:dJ Y d tm) {S':QS} {y0' y1':Hv} {a:Nat} {cc:Nat} {q t da:Int} (hq:q = 0∨q = 1) (hat:d.cF.at_ = some a)
  (hS:dU S' (Y.I ++ [⟨((a:Int),d.cF.gen a),zD Y.y0 Y.y1 q,cc,(t,d.next)⟩]) [y0',y1'] (tm + 1)) (h0:y0'.h = Y.y0.h) (h1:y1'.h = Y.y1.h) (k0:y0'.k = Y.y0.k) (k1:y1'.k = Y.y1.k) (hm:S'.most = Y.S.most) (hn:S'.next = Y.S.next + 1) (hip:S'.ip.pl = Y.S.ip.pl.take a 0) :
  dJ ⟨Y.K,S',Y.I ++ [⟨((a:Int),d.cF.gen a),zD Y.y0 Y.y1 q,cc,(t,d.next)⟩],y0',y1',Y.P.take z5 a (q,t,da,(a:Int),d.cF.gen a),fV Y.oW ((a:Int),d.cF.gen a) (some ((a:Int),d.cF.gen a)),fV Y.wh ((a:Int),d.cF.gen a) (some d.next),Y.now,Y.cP,Y.last,Y.top⟩
   { d with cF:=d.cF.take a 0,l:=d.l ++ [⟨q,da,t,d.next,(a:Int),d.cF.gen a⟩],next:=d.next + 1 } (tm + 1):=by
 have hatP:Y.P.at_ = some a:=by rw [←PS.aHX,h.pk];exact hat
 have hg:d.cF.gen a = Y.P.gen a:=by rw [←h.pk];exact (PS.aCw _ hatP h.pok.lt).1
 have hg1:=PS.aAR h.pg h.q.tm0 a
 obtain ⟨f1,f2⟩:=PS.zT h.pok hatP z5 (q,t,da,(a:Int),d.cF.gen a) hg1.1
 rw [←hg] at f1
 have hno:∀ j∈d.l,j.r≠((a:Int),d.cF.gen a):=fun j hj e=>by
  have h1:=h.jf j hj
  have e1:j.at_ = (a:Int):=congrArg Prod.fst e
  have e2:j.gen = d.cF.gen a:=congrArg Prod.snd e
  rw [e1,e2,h.pok.aDl hatP] at h1;cases h1
 have hnx:=h.q.nx
 have hnn:=h.nx
 refine ⟨hS,h.K3,k0.trans h.k0,k1.trans h.k1,?_,?_,hm.trans h.most,h.now,h.aBv,?_,?_,fun j hj=>?_,fun j hj=>?_,fun j hj=>?_,fun r x hx=>?_,fun j hj=>?_,fun b g v hv=>?_,?_,fun j hj=>?_⟩
 ·show (Y.P.take z5 a _).pl = d.cF.take a 0
  rw [PS.aFD _ _ _ hatP h.pok.lt,h.pk]
 ·show S'.ip.pl = d.cF.take a 0
  rw [hip,h.ipk]
 ·show S'.next = d.next + 1
  omega
 ·show (Y.I ++ _).map ik = (d.l ++ _).map (jk y0' y1')
  rw [aAE h0 h1,List.map_append,List.map_append,h.par];rfl
 ·rcases List.mem_append.1 hj with hj | hj
  ·exact h.qr j hj
  ·rw [List.mem_singleton.1 hj];exact hq
 ·rcases List.mem_append.1 hj with hj | hj
  ·exact f2 _ _ _ (h.jf j hj)
  ·rw [List.mem_singleton.1 hj];exact f1
 ·show fV Y.oW _ _ j.r = some j.r
  unfold fV
  rcases List.mem_append.1 hj with hj | hj
  ·rw [if_neg (hno j hj)];exact h.jb j hj
  ·rw [List.mem_singleton.1 hj];exact if_pos rfl
 ·have hx':fV Y.oW _ _ r = some x:=hx
  unfold fV at hx'
  split at hx'
  ·rename_i e
   exact ⟨_,List.mem_append_right _ List.mem_cons_self,e.symm⟩
  ·obtain ⟨j,hj,e⟩:=h.jb2 r x hx'
   exact ⟨j,List.mem_append_left _ hj,e⟩
 ·show fV Y.wh _ _ j.r = some j.ser
  unfold fV
  rcases List.mem_append.1 hj with hj | hj
  ·rw [if_neg (hno j hj)];exact h.jw j hj
  ·rw [List.mem_singleton.1 hj];exact if_pos rfl
 ·rcases PS.aBw h.pok hatP hv with ⟨e1,e2⟩ | hv
  ·exact ⟨_,List.mem_append_right _ List.mem_cons_self,e1.symm,by rw [e2,←hg]⟩
  ·obtain ⟨j,hj,e⟩:=h.lv b g v hv
   exact ⟨j,List.mem_append_left _ hj,e⟩
 ·rw [List.map_append,List.nodup_append]
  refine ⟨h.sn,by simp,fun u hu v hv e=>?_⟩
  obtain ⟨j,hj,rfl⟩:=List.mem_map.1 hu
  simp only [List.map_cons,List.map_nil,List.mem_singleton] at hv
  have:=h.sl j hj
  omega
 ·show 0≤j.ser∧j.ser < d.next + 1
  rcases List.mem_append.1 hj with hj | hj
  ·have:=h.sl j hj;omega
  ·rw [List.mem_singleton.1 hj]
   show 0≤d.next∧d.next < d.next + 1
   omega
theorem dJ.out (h:dJ Y d tm) {A B:List Jb} {j:Jb} (hd:d.l = A ++ j::B) {IA IB:List m6} {x:m6} (hI:Y.I = IA ++ x::IB) (hA:IA.map ik = A.map (jk Y.y0 Y.y1)) (hB:IB.map ik = B.map (jk Y.y0 Y.y1)) {S':QS} {y0' y1':Hv}
  (hS:dU S' (IA ++ IB) [y0',y1'] (tm + 1)) (h0:y0'.h = Y.y0.h) (h1:y1'.h = Y.y1.h) (k0:y0'.k = Y.y0.k) (k1:y1'.k = Y.y1.k) (hm:S'.most = Y.S.most) (hn:S'.next = Y.S.next) (hip:S'.ip.pl = Y.S.ip.pl.gB j.at_.toNat) :
  dJ ⟨Y.K,S',IA ++ IB,y0',y1',Y.P.gB z5 j.at_.toNat,fV Y.oW j.r none,fV Y.wh j.r none,Y.now,Y.cP,Y.last,Y.top⟩ (d.out A.length) (tm + 1):=by
 have hdA:d.l[A.length]? = some j:=by rw [hd];simp
 have hout:d.out A.length = { d with l:=A ++ B,cF:=d.cF.gB j.at_.toNat }:=by
  unfold rS.out
  rw [hdA,hd,List.eraseIdx_append_of_length_le (Nat.le_refl _),Nat.sub_self]
  rfl
 have hjM:j∈d.l:=by rw [hd];simp
 have hold:∀ z∈A ++ B,z∈d.l:=fun z hz=>by rw [hd];rcases List.mem_append.1 hz with h | h <;> simp [h]
 have hrn:=h.rnd
 rw [hd,List.map_append,List.map_cons] at hrn
 obtain ⟨n1,n2,n3⟩:=j4 hrn
 have eQ:∀ z∈A ++ B,z.r≠j.r:=fun z hz e=>by
  rcases List.mem_append.1 hz with h | h
  ·exact n2 (List.mem_map.2 ⟨z,h,e⟩)
  ·exact n3 (List.mem_map.2 ⟨z,h,e⟩)
 obtain ⟨kj,kj1,kj2,kj3⟩:=PS.bH (h.jf j hjM)
 have hkj:j.at_.toNat = kj:=by rw [kj1,Int.toNat_natCast]
 have hat:∀ z∈A ++ B,z.at_≠(kj:Int):=fun z hz e=>by
  obtain ⟨kz,kz1,kz2,kz3⟩:=PS.bH (h.jf z (hold z hz))
  have:kz = kj:=by omega
  subst this
  rw [kz2] at kj2
  have hg:z.gen = j.gen:=by injection kj2 with kj2;injection kj2
  exact eQ z hz (Prod.ext (by show z.at_ = j.at_;omega) hg)
 have hcas:∀ z∈d.l,z = j∨z∈A ++ B:=fun z hz=>by
  rw [hd] at hz
  rcases List.mem_append.1 hz with hz | hz
  ·exact .inr (List.mem_append_left _ hz)
  ·rcases List.mem_cons.1 hz with hz | hz
   ·exact .inl hz
   ·exact .inr (List.mem_append_right _ hz)
 rw [hout,hkj]
 refine ⟨hS,h.K3,k0.trans h.k0,k1.trans h.k1,?_,?_,hm.trans h.most,h.now,h.aBv,hn.trans h.nx,?_,fun z hz=>h.qr z (hold z hz),fun z hz=>?_,fun z hz=>?_,fun r x hx=>?_,fun z hz=>?_,fun b g v hv=>?_,?_,fun z hz=>h.sl z (hold z hz)⟩
 ·show (Y.P.gB z5 kj).pl = d.cF.gB kj
  rw [PS.aCn _ _ (List.getElem?_eq_some_iff.1 kj2).1,h.pk]
 ·show S'.ip.pl = d.cF.gB kj
  rw [hip,h.ipk,hkj]
 ·show (IA ++ IB).map ik = (A ++ B).map (jk y0' y1')
  rw [aAE h0 h1,List.map_append,List.map_append,hA,hB]
 ·exact PS.wR z5 kj2 _ _ _ (hat z hz) (h.jf z (hold z hz))
 ·show fV Y.oW _ _ z.r = some z.r
  unfold fV
  rw [if_neg (eQ z hz)];exact h.jb z (hold z hz)
 ·have hx':fV Y.oW _ _ r = some x:=hx
  unfold fV at hx'
  split at hx'
  ·cases hx'
  ·rename_i e
   obtain ⟨z,hz,e2⟩:=h.jb2 r x hx'
   rcases hcas z hz with rfl | hz
   ·exact absurd e2.symm e
   ·exact ⟨z,hz,e2⟩
 ·show fV Y.wh _ _ z.r = some z.ser
  unfold fV
  rw [if_neg (eQ z hz)];exact h.jw z (hold z hz)
 ·obtain ⟨hb,hv⟩:=PS.aBy kj2 hv
  obtain ⟨z,hz,e1,e2⟩:=h.lv b g v hv
  rcases hcas z hz with rfl | hz
  ·exact absurd (e1.symm.trans kj1) hb
  ·exact ⟨z,hz,e1,e2⟩
 ·have:=h.sn
  rw [hd,List.map_append,List.map_cons] at this
  rw [List.map_append]
  exact (j4 this).1
theorem dJ.aKB (h:dJ Y d tm) {A B:List Jb} {j:Jb} (hd:d.l = A ++ j::B) {IA IB:List m6} {x:m6} {t:Int} (hI:Y.I = IA ++ x::IB) (hx1:x.r = j.r) (hx2:x.h = zD Y.y0 Y.y1 j.queue) (hx3:x.e = j.e) (hA:IA.map ik = A.map (jk Y.y0 Y.y1)) (hB:IB.map ik = B.map (jk Y.y0 Y.y1)) {S':QS} {y0' y1':Hv}
  (hS:dU S' (IA ++ { x with e:=(t,x.e.2) }::IB) [y0',y1'] tm) (h0:y0'.h = Y.y0.h) (h1:y1'.h = Y.y1.h) (k0:y0'.k = Y.y0.k) (k1:y1'.k = Y.y1.k) (hm:S'.most = Y.S.most) (hn:S'.next = Y.S.next) (hip:S'.ip = Y.S.ip) :
  dJ ⟨Y.K,S',IA ++ { x with e:=(t,x.e.2) }::IB,y0',y1',Y.P.put j.at_.toNat (j.queue,t,j.data,j.at_,j.gen),Y.oW,Y.wh,Y.now,Y.cP,Y.last,Y.top⟩ { d with l:=d.l.set A.length { j with key:=t } } tm:=by
 have hset:d.l.set A.length { j with key:=t } = A ++ { j with key:=t }::B:=by
  rw [hd,List.set_append_right _ _ (Nat.le_refl _),Nat.sub_self];rfl
 have hjM:j∈d.l:=by rw [hd];simp
 have hold:∀ z∈A ++ B,z∈d.l:=fun z hz=>by rw [hd];rcases List.mem_append.1 hz with h | h <;> simp [h]
 have hrn:=h.rnd
 rw [hd,List.map_append,List.map_cons] at hrn
 obtain ⟨n1,n2,n3⟩:=j4 hrn
 have eQ:∀ z∈A ++ B,z.r≠j.r:=fun z hz e=>by
  rcases List.mem_append.1 hz with h | h
  ·exact n2 (List.mem_map.2 ⟨z,h,e⟩)
  ·exact n3 (List.mem_map.2 ⟨z,h,e⟩)
 obtain ⟨kj,kj1,kj2,kj3⟩:=PS.bH (h.jf j hjM)
 have hkj:j.at_.toNat = kj:=by rw [kj1,Int.toNat_natCast]
 have hat:∀ z∈A ++ B,z.at_≠j.at_:=fun z hz e=>by
  obtain ⟨kz,kz1,kz2,kz3⟩:=PS.bH (h.jf z (hold z hz))
  have:kz = kj:=by omega
  subst this
  rw [kz2] at kj2
  have hg:z.gen = j.gen:=by injection kj2 with kj2;injection kj2
  exact eQ z hz (Prod.ext e hg)
 have hcas:∀ z∈A ++ { j with key:=t }::B,z = { j with key:=t }∨z∈A ++ B:=fun z hz=>by
  rcases List.mem_append.1 hz with hz | hz
  ·exact .inr (List.mem_append_left _ hz)
  ·rcases List.mem_cons.1 hz with hz | hz
   ·exact .inl hz
   ·exact .inr (List.mem_append_right _ hz)
 have hcas2:∀ z∈d.l,z = j∨z∈A ++ B:=fun z hz=>by
  rw [hd] at hz
  rcases List.mem_append.1 hz with hz | hz
  ·exact .inr (List.mem_append_left _ hz)
  ·rcases List.mem_cons.1 hz with hz | hz
   ·exact .inl hz
   ·exact .inr (List.mem_append_right _ hz)
 have hin:∀ z∈A ++ B,z∈A ++ { j with key:=t }::B:=fun z hz=>by rcases List.mem_append.1 hz with h | h <;> simp [h]
 obtain ⟨p1,p2⟩:=PS.aAy (j.queue,t,j.data,j.at_,j.gen) (h.jf j hjM)
 rw [hset]
 refine ⟨hS,h.K3,k0.trans h.k0,k1.trans h.k1,(PS.aKJ _ _ _).trans h.pk,by rw [hip];exact h.ipk,hm.trans h.most,h.now,h.aBv,hn.trans h.nx,?_,fun z hz=>?_,fun z hz=>?_,fun z hz=>?_,fun r x hx=>?_,fun z hz=>?_,fun b g v hv=>?_,?_,fun z hz=>?_⟩
 ·show (IA ++ { x with e:=(t,x.e.2) }::IB).map ik = (A ++ { j with key:=t }::B).map (jk y0' y1')
  rw [aAE h0 h1,List.map_append,List.map_append,List.map_cons,List.map_cons,hA,hB]
  congr 2
  show (x.r,x.h,(t,x.e.2)) = (j.r,zD Y.y0 Y.y1 j.queue,(t,j.ser))
  rw [hx1,hx2,hx3];rfl
 ·rcases hcas z hz with rfl | hz
  ·exact h.qr j hjM
  ·exact h.qr z (hold z hz)
 ·rcases hcas z hz with rfl | hz
  ·exact p1
  ·exact p2 _ _ _ (hat z hz) (h.jf z (hold z hz))
 ·rcases hcas z hz with rfl | hz
  ·exact h.jb j hjM
  ·exact h.jb z (hold z hz)
 ·obtain ⟨z,hz,e2⟩:=h.jb2 r x hx
  rcases hcas2 z hz with rfl | hz
  ·exact ⟨_,List.mem_append_right _ List.mem_cons_self,e2⟩
  ·exact ⟨z,hin z hz,e2⟩
 ·rcases hcas z hz with rfl | hz
  ·exact h.jw j hjM
  ·exact h.jw z (hold z hz)
 ·obtain ⟨w',hv⟩:=PS.aCV (by rw [hkj];exact kj2) hv
  obtain ⟨z,hz,e2⟩:=h.lv b g w' hv
  rcases hcas2 z hz with rfl | hz
  ·exact ⟨_,List.mem_append_right _ List.mem_cons_self,e2⟩
  ·exact ⟨z,hin z hz,e2⟩
 ·have:=h.sn
  rw [hd] at this
  simp only [List.map_append,List.map_cons] at this ⊢
  exact this
 ·rcases hcas z hz with rfl | hz
  ·exact h.sl j hjM
  ·exact h.sl z (hold z hz)
theorem dJ.go (h:dJ Y d tm) {n:Int} (hn:cM n):dJ { Y with now:=n } { d with now:=n } tm :=
 ⟨h.q,h.K3,h.k0,h.k1,h.pk,h.ipk,h.most,rfl,hn,h.nx,h.par,h.qr,h.jf,h.jb,h.jb2,h.jw,h.lv,h.sn,h.sl⟩
theorem dJ.uU (h:dJ Y d tm) {tm':Int} (ht:tm≤tm'):dJ Y d tm' :=
 ⟨h.q.uU ht,h.K3,h.k0,h.k1,h.pk,h.ipk,h.most,h.now,h.aBv,h.nx,h.par,h.qr,h.jf,h.jb,h.jb2,h.jw,h.lv,h.sn,h.sl⟩
end
end HL
namespace HL
theorem aJA {β:Type} [DecidableEq β] {a b:List β} (ha:a.Nodup) (hb:b.Nodup) (h:∀ x,x∈a↔x∈b):a.Perm b:=by
 rw [List.perm_iff_count]
 intro x
 rw [ha.count,hb.count]
 by_cases hx:x∈a
 ·rw [if_pos hx,if_pos ((h x).1 hx)]
 ·rw [if_neg hx,if_neg fun hb=>hx ((h x).2 hb)]
theorem aDg {l:List Jb} {q:Int} (h:pT l q = none):∀ j∈l,j.queue≠q:=(z6 h).2
section
variable {Y:DSt} {d:rS} {tm:Int}
theorem dJ.aDW (h:dJ Y d tm) {j:Jb} (hj:j∈d.l):(j.at_,j.gen)∈Y.P.refs:=by
 obtain ⟨k,q1,q2,q3⟩:=PS.bH (h.jf j hj)
 refine qP.2 ⟨k,_,q2,rfl,?_⟩
 simp [q1]
theorem dJ.aLn (h:dJ Y d tm):Y.P.refs.Perm (d.l.map Jb.r):=by
 refine aJA ?_ h.rnd fun r=>⟨fun hr=>?_,fun hr=>?_⟩
 ·exact (yG Y.P.l 0).imp fun hlt e=>by rw [e] at hlt;omega
 ·obtain ⟨v,hv⟩:=xI h.pg1 hr
  obtain ⟨j,hj,e1,e2⟩:=h.lv _ _ _ hv
  exact List.mem_map.2 ⟨j,hj,Prod.ext e1 e2⟩
 ·obtain ⟨j,hj,rfl⟩:=List.mem_map.1 hr
  exact h.aDW hj
theorem dJ.cnt (h:dJ Y d tm) (q:Int):aAe Y.P q Y.P.refs = iK q d.l:=by
 unfold aAe iK
 rw [h.aLn.countP_eq,List.countP_map]
 refine List.countP_congr fun j hj=>?_
 have:qOf Y.P j.r = j.queue:=by
  unfold qOf
  rw [show Y.P.find j.r.1 j.r.2 = some j.v5 from h.jf j hj];rfl
 simp [this]
theorem dJ.aEA (h:dJ Y d tm) {q:Int} (hq:q = 0∨q = 1) (hf:pT d.l q = none):eB Y.I (zD Y.y0 Y.y1 q) = []:=by
 unfold eB
 rw [List.map_eq_nil_iff,List.filter_eq_nil_iff]
 intro x hx e
 obtain ⟨j,hj,_,e2,_⟩:=h.aFn hx
 have e3:x.h = zD Y.y0 Y.y1 q:=by simpa using e
 exact aDg hf j hj (aE7 h (h.qr j hj) hq (e2.symm.trans e3))
theorem dJ.first (h:dJ Y d tm) {q:Int} (hq:q = 0∨q = 1) {x:Nat × cY} (hf:pT d.l q = some x):∃ j A B,d.l = A ++ j::B∧A.length = x.1∧j.queue = q∧x.2 = j.e∧eB Y.I (zD Y.y0 Y.y1 q)≠[] ∧
  ∀ z∈Y.I,z.h = zD Y.y0 Y.y1 q→(∀ w∈Y.I,w.h = zD Y.y0 Y.y1 q→w.c≠z.c→Bf z.held w.held)→z.r = j.r∧z.e = j.e:=by
 obtain ⟨j,hj,hjq,hje,hleast⟩:=z8 hf
 obtain ⟨A,B,hd,hA⟩:=aIe hj
 obtain ⟨IA,w,IB,hI,_,hw1,hw2,hw3,_⟩:=h.split hd
 have hwI:w∈Y.I:=by rw [hI];simp
 rw [hjq] at hw2
 refine ⟨j,A,B,hd,hA,hjq,hje,fun e=>?_,fun z hz hzh hz2=>?_⟩
 ·have:w.held∈eB Y.I (zD Y.y0 Y.y1 q):=qJ.2 ⟨w,hwI,hw2,rfl⟩
  rw [e] at this;cases this
 ·by_cases hc:w.c = z.c
  ·have:w = z:=xH h.q.icd w hwI z hz hc
   rw [←this]
   exact ⟨hw1,hw3⟩
  ·obtain ⟨jz,hjz,e1,e2,e3⟩:=h.aFn hz
   have hqz:jz.queue = q:=aE7 h (h.qr jz hjz) hq (e2.symm.trans hzh)
   rcases hz2 w hwI hw2 hc with hlt | ⟨he,_⟩
   ·have hlt':Lt z.e w.e:=hlt
    rw [e3,hw3] at hlt'
    exact absurd hlt' (hleast jz hjz hqz)
   ·have he':z.e = w.e:=he
    rw [e3,hw3] at he'
    have hser:jz.ser = j.ser:=congrArg Prod.snd he'
    have:jz = j:=xH h.sn jz hjz j (by rw [hd];simp) hser
    rw [e1,e3,this];exact ⟨rfl,rfl⟩
def mvJ (j:Jb):Jb:=if j.queue = 1 then { j with queue:=0 } else j
theorem uS (j:Jb):(mvJ j).r = j.r∧(mvJ j).e = j.e∧(mvJ j).ser = j.ser∧(mvJ j).at_ = j.at_∧(mvJ j).gen = j.gen:=by
 unfold mvJ;split <;> exact ⟨rfl,rfl,rfl,rfl,rfl⟩
theorem dJ.merge (h:dJ Y d tm) {S2:QS} {y0' y1':Hv} (hS:dU S2 (Y.I.map (uY Y.y1.h Y.y0.h)) [y0',y1'] (tm + 1)) (h0:y0'.h = Y.y0.h) (k0:y0'.k = Y.y0.k) (k1:y1'.k = Y.y1.k) (hm:S2.most = Y.S.most) (hn:S2.next = Y.S.next) (hip:S2.ip.pl = Y.S.ip.pl) :
  dJ ⟨Y.K,S2,Y.I.map (uY Y.y1.h Y.y0.h),y0',y1',xT Y.P Y.P.refs 1 0,Y.oW,Y.wh,Y.now,Y.cP,Y.last,Y.top⟩ { d with l:=d.l.map fun j=>if j.queue = 1 then { j with queue:=0 } else j } (tm + 1):=by
 have hmv:(d.l.map fun j=>if j.queue = 1 then { j with queue:=0 } else j) = d.l.map mvJ:=rfl
 rw [hmv]
 have eQ:=h.eQ
 refine ⟨hS,h.K3,k0.trans h.k0,k1.trans h.k1,(aKc _ _ _ _).trans h.pk,hip.trans h.ipk,hm.trans h.most,h.now,h.aBv,hn.trans h.nx,?_,fun z hz=>?_,fun z hz=>?_,fun z hz=>?_,fun r x hx=>?_,fun z hz=>?_,fun b g v hv=>?_,?_,fun z hz=>?_⟩
 ·show (Y.I.map (uY Y.y1.h Y.y0.h)).map ik = (d.l.map mvJ).map (jk y0' y1')
  have hp:=congrArg (List.map fun x:dL × dL × cY=>(x.1,(if x.2.1 = Y.y1.h then Y.y0.h else x.2.1),x.2.2)) h.par
  rw [List.map_map,List.map_map] at hp ⊢
  refine Eq.trans ?_ (hp.trans ?_)
  ·refine List.map_congr_left fun x _=>?_
   show ik (uY Y.y1.h Y.y0.h x) = (x.r,(if x.h = Y.y1.h then Y.y0.h else x.h),x.e)
   unfold ik uY
   split <;> rfl
  ·refine List.map_congr_left fun j hj=>?_
   show (j.r,(if zD Y.y0 Y.y1 j.queue = Y.y1.h then Y.y0.h else zD Y.y0 Y.y1 j.queue),j.e) = ((mvJ j).r,zD y0' y1' (mvJ j).queue,(mvJ j).e)
   rw [(uS j).1,(uS j).2.1]
   rcases h.qr j hj with e | e
   ·have:(mvJ j).queue = 0:=by unfold mvJ;rw [if_neg (by omega)];exact e
    rw [this,e]
    unfold zD
    rw [if_pos rfl,if_pos rfl,if_neg eQ,h0]
   ·have:(mvJ j).queue = 0:=by unfold mvJ;rw [if_pos e]
    rw [this,e]
    simp [zD,h0]
 ·obtain ⟨j,hj,rfl⟩:=List.mem_map.1 hz
  unfold mvJ
  split
  ·exact .inl rfl
  ·exact h.qr j hj
 ·obtain ⟨j,hj,rfl⟩:=List.mem_map.1 hz
  rw [(uS j).2.2.2.1,(uS j).2.2.2.2]
  show (xT _ _ _ _).find _ _ = _
  rw [aBl (h.jf j hj)]
  unfold mvJ
  by_cases e:j.queue = 1
  ·rw [if_pos ⟨h.aDW hj,e⟩,if_pos e];rfl
  ·rw [if_neg (fun hh=>e hh.2),if_neg e]
 ·obtain ⟨j,hj,rfl⟩:=List.mem_map.1 hz
  rw [(uS j).1];exact h.jb j hj
 ·obtain ⟨j,hj,e⟩:=h.jb2 r x hx
  exact ⟨_,List.mem_map.2 ⟨j,hj,rfl⟩,by rw [(uS j).1];exact e⟩
 ·obtain ⟨j,hj,rfl⟩:=List.mem_map.1 hz
  rw [(uS j).1,(uS j).2.2.1];exact h.jw j hj
 ·obtain ⟨w',hv⟩:=aCg hv
  obtain ⟨j,hj,e1,e2⟩:=h.lv b g w' hv
  exact ⟨_,List.mem_map.2 ⟨j,hj,rfl⟩,by rw [(uS j).2.2.2.1];exact e1,by rw [(uS j).2.2.2.2];exact e2⟩
 ·have:=h.sn
  rw [List.map_map]
  have e:(Jb.ser ∘ mvJ) = Jb.ser:=funext fun j=>(uS j).2.2.1
  show (d.l.map (Jb.ser ∘ mvJ)).Nodup
  rw [e];exact this
 ·obtain ⟨j,hj,rfl⟩:=List.mem_map.1 hz
  rw [(uS j).2.2.1];exact h.sl j hj
end
end HL
namespace HL
section
variable {w0:World} {F M:Mem}
theorem aA.zC {X A B C D E G H Q:cW} (h:aA w0 F M (star X (star A (star B (star C (star D (star E (star G (star H Q))))))))):aA w0 F M (star A (star B (star C (star D (star E (star G (star H (star X Q)))))))) :=
 h.dX.nX fun _ _ h=>h.dX.nX fun _ _ h=>h.dX.nX fun _ _ h=>h.dX.nX fun _ _ h=>h.dX.nX fun _ _ h=>h.dX.nX fun _ _ h=>h.dX
theorem aA.xA {X A B C D E G H Q:cW} (h:aA w0 F M (star A (star B (star C (star D (star E (star G (star H (star X Q))))))))):aA w0 F M (star X (star A (star B (star C (star D (star E (star G (star H Q)))))))) :=
 (h.nX fun _ _ h=>(h.nX fun _ _ h=>(h.nX fun _ _ h=>(h.nX fun _ _ h=>(h.nX fun _ _ h=>(h.nX fun _ _ h=>h.dX).dX).dX).dX).dX).dX).dX
end
abbrev tDi:TypeId:=125
abbrev aCT:TypeId:=202
structure vV where
 d:Nat
 q:Nat
 a:Nat
 t:Nat
 bh:Nat
 bi:Nat
 me:Nat
 ma:Nat
 jt:Nat
 pj:Nat
 mb:Nat
 mw:Nat
 bc:Nat
abbrev dV (X:vV) (K most:Int) (r0 r1:dL) (b l tp:Int):List Value :=
 [.int .i64 K,.int .i64 most,.pointer (some ⟨X.q,0,none⟩),.int .i64 r0.1,.int .i64 r0.2,.int .i64 r1.1,.int .i64 r1.2,.pointer (some ⟨X.jt,0,none⟩),.map (some X.mw),.pointer (some ⟨X.bc,0,none⟩),.int .i64 b,.int .i64 l,.int .i64 tp]
abbrev DB (X:vV) (S:QS) (P:PS V5) (now K most:Int) (r0 r1:dL) (b l tp:Int) (Q:cW):cW :=
 QA X.q X.a X.t X.bh X.bi X.me S (star (pE X.pj P) (star (aW X.bc [.int .i64 now] aCT) (star (aW X.d (dV X K most r0 r1 b l tp) tDi) Q)))
abbrev DO (X:vV) (oa oe ob ow:Obj) (os:vC):vC:=(X.ma,oa)::(X.me,oe)::(X.mb,ob)::(X.mw,ow)::os
def lU (w0:World) (F M:Mem) (os:vC) (X:vV) (Y:DSt) (Q:cW):Prop :=
 ∃ oa oe ob ow,dI (Value.int .i64) bV Y.S.at_ oa∧dI bV mD Y.S.en oe∧dI bV bV Y.oW ob∧dI bV (Value.int .i64) Y.wh ow∧HO w0 F M (DO X oa oe ob ow os) (DB X Y.S Y.P Y.now Y.K Y.S.most Y.y0.h Y.y1.h Y.cP Y.last Y.top Q)
structure zA (w0:World) (F:Mem) (X:vV):Prop where
 t:cN w0 F X.t (wT X.bh X.bi X.ma) wX
 j:cN w0 F X.jt (jtV X.pj X.mb) tJt
theorem zA.le {w0:World} {F F':Mem} {X:vV} (h:zA w0 F X) (hl:Mem.le F F'):zA w0 F' X:=⟨h.t.le hl,h.j.le hl⟩
section
variable {w0:World} {F M:Mem} {R:VP} {os:vC} {X:vV} {Y:DSt} {S:QS} {P:PS V5} {Q:cW} {now K most b l tp:Int} {r0 r1:dL} {oa oe ob ow:Obj} {d:rS} {tm:Int} {c:rR}
theorem HO.di (h:HO w0 F M os (DB X S P now K most r0 r1 b l tp Q)):cN w0 M X.d (dV X K most r0 r1 b l tp) tDi:=h.h.right.right.right.right.right.right.aZ
theorem HO.ck (h:HO w0 F M os (DB X S P now K most r0 r1 b l tp Q)):cN w0 M X.bc [.int .i64 now] aCT:=h.h.right.right.right.right.right.aZ
theorem D0 (o:cN w0 M X.d (dV X K most r0 r1 b l tp) tDi):(aJ PP w0).ld 3 ⟨X.d,0,none⟩ M = some (.int .i64 K):=mQ W.c3 o rfl
theorem D1 (o:cN w0 M X.d (dV X K most r0 r1 b l tp) tDi):(aJ PP w0).ld 3 ⟨X.d,1,none⟩ M = some (.int .i64 most):=mQ W.c3 o rfl
theorem D2 (o:cN w0 M X.d (dV X K most r0 r1 b l tp) tDi):(aJ PP w0).ld 24 ⟨X.d,2,none⟩ M = some (.pointer (some ⟨X.q,0,none⟩)):=mQ (by kernel_rfl) o rfl
theorem D7 (o:cN w0 M X.d (dV X K most r0 r1 b l tp) tDi):(aJ PP w0).ld 121 ⟨X.d,7,none⟩ M = some (.pointer (some ⟨X.jt,0,none⟩)):=mQ (by kernel_rfl) o rfl
theorem D8 (o:cN w0 M X.d (dV X K most r0 r1 b l tp) tDi):(aJ PP w0).ld 122 ⟨X.d,8,none⟩ M = some (.map (some X.mw)):=mQ (by kernel_rfl) o rfl
theorem D9 (o:cN w0 M X.d (dV X K most r0 r1 b l tp) tDi):(aJ PP w0).ld 123 ⟨X.d,9,none⟩ M = some (.pointer (some ⟨X.bc,0,none⟩)):=mQ (by kernel_rfl) o rfl
theorem D3 (o:cN w0 M X.d (dV X K most r0 r1 b l tp) tDi):(aJ PP w0).ld 33 ⟨X.d,3,none⟩ M = some (.agg #[.int .i64 r0.1,.int .i64 r0.2]):=kQ (o:=3) (vs:=[.int .i64 r0.1,.int .i64 r0.2]) bA o (qK rfl rfl)
theorem D5 (o:cN w0 M X.d (dV X K most r0 r1 b l tp) tDi):(aJ PP w0).ld 33 ⟨X.d,5,none⟩ M = some (.agg #[.int .i64 r1.1,.int .i64 r1.2]):=kQ (o:=5) (vs:=[.int .i64 r1.1,.int .i64 r1.2]) bA o (qK rfl rfl)
theorem D35 {y0 y1:Hv} {q:Int} (hq:q = 0∨q = 1) (o:cN w0 M X.d (dV X K most y0.h y1.h b l tp) tDi):(aJ PP w0).ld 33 ⟨X.d,3 + q.toNat * 2,none⟩ M = some (.agg #[.int .i64 (zD y0 y1 q).1,.int .i64 (zD y0 y1 q).2]):=by
 rcases hq with rfl | rfl
 ·exact D3 o
 ·exact D5 o
theorem lG:gE PP iJ 6 = true:=W.g65
theorem iA (r:fA):∀ v∈r.cells,bR v = true:=by
 intro v hv
 simp only [fA.cells,List.mem_cons,List.not_mem_nil,or_false] at hv
 rcases hv with rfl | rfl | rfl | rfl | rfl | rfl <;> rfl
theorem aFf {α:Type} (x y a:α) (l:List α):(x::y::a::l).Perm (a::x::y::l):=List.perm_middle (l₁:=[x,y])
theorem aFw {α:Type} (x y z a:α) (l:List α):(x::y::z::a::l).Perm (a::x::y::z::l):=List.perm_middle (l₁:=[x,y,z])
theorem HO.toJ (h:HO w0 F M (DO X oa oe ob ow os) (DB X S P now K most r0 r1 b l tp Q)):HO w0 F M ((X.mb,ob)::(X.ma,oa)::(X.me,oe)::(X.mw,ow)::os) (star (pE X.pj P) (QA X.q X.a X.t X.bh X.bi X.me S (star (aW X.bc [.int .i64 now] aCT) (star (aW X.d (dV X K most r0 r1 b l tp) tDi) Q)))) :=
 (h.perm (aFf _ _ _ _)).aY aA.up
theorem HO.ofJ (h:HO w0 F M ((X.mb,ob)::(X.ma,oa)::(X.me,oe)::(X.mw,ow)::os) (star (pE X.pj P) (QA X.q X.a X.t X.bh X.bi X.me S (star (aW X.bc [.int .i64 now] aCT) (star (aW X.d (dV X K most r0 r1 b l tp) tDi) Q))))):HO w0 F M (DO X oa oe ob ow os) (DB X S P now K most r0 r1 b l tp Q) :=
 (h.aY aA.dp).perm (aFf _ _ _ _).symm
theorem aCv {A:cW} {v:V5} (h:HO w0 F M os A) (hK:∀ M',HO w0 F M' os A→R (fA.v { time:=v.2.1,data:=v.2.2.1 }) M'):C PP w0 Id.fI #[oV v] R M:=by
 obtain ⟨v1,v2,v3,v4,v5⟩:=v
 apply fI.go
 unfold fI.T aL
 refine rT h fun b1 F1 M1 l1 lm1 o1 h1=>?_
 refine jJ h1 fun b3 M2 lm2 h2=>?_
 simp only [add_eq,Nat.zero_add,mQ W.c2 (o1.le h2.fr) (o:=1) rfl,mQ W.c3 (o1.le h2.fr) (o:=2) rfl,aC,aK,aKs,a9,aT,aS]
 refine jL (vs:=(fA.mk 0 0 0 v2 v3 0).cells) lG (by rfl) (iA _) h2 fun M3 h3=>?_
 exact hK M3 (h3.fQ l1)
theorem pN {A:cW} {why:Int} (h:HO w0 F M os A) (hK:∀ M',HO w0 F M' os A→R (fA.v { why:=why }) M'):C PP w0 Id.cB #[.int .i64 why] R M:=by
 apply cB.go
 unfold cB.T aL
 refine jJ h fun b1 M1 lm1 h1=>?_
 simp only [bR0,aC,aK,a9,aT,aS]
 refine jL (vs:=(fA.mk why 0 0 0 0 0).cells) lG (by rfl) (iA _) h1 fun M2 h2=>?_
 exact hK M2 h2
theorem pick {y0 y1:Hv} {q:Int} (hq:q = 0∨q = 1):∃ A y B,[y0,y1] = A ++ y::B∧y.h = zD y0 y1 q∧∀ y':Hv,y'.h = y.h→y'.k = y.k→∃ y0' y1',A ++ y'::B = [y0',y1']∧y0'.h = y0.h∧y1'.h = y1.h∧y0'.k = y0.k∧y1'.k = y1.k:=by
 rcases hq with rfl | rfl
 ·exact ⟨[],y0,[y1],rfl,rfl,fun y' e1 e2=>⟨y',y1,rfl,e1,rfl,e2,rfl⟩⟩
 ·exact ⟨[y0],y1,[],rfl,rfl,fun y' e1 e2=>⟨y0,y',rfl,rfl,e1,rfl,e2⟩⟩
structure sH (Y Y':DSt) (k:Int):Prop where
 b:Y'.cP = Y.cP
 l:Y'.last = Y.last
 t:Y'.top = Y.top
 s:rO Y.S Y'.S k
theorem dJ.room (h:dJ Y d tm):(d.cF.at_ = none↔d.most≤(d.l.length:Int))∧∀ i,d.cF.at_ = some i→Y.P.at_ = some i∧Y.S.ip.at_ = some i∧Y.P.gen i = d.cF.gen i∧Y.S.ip.gen i = d.cF.gen i:=by
 obtain ⟨e1,e2,e3,e4,e5⟩:=h.w7
 have ha:d.cF.at_ = Y.P.at_:=by rw [←h.pk,PS.aHX]
 have hb:d.cF.at_ = Y.S.ip.at_:=by rw [←h.ipk,PS.aHX]
 refine ⟨?_,fun i hi=>⟨ha.symm.trans hi,hb.symm.trans hi,?_,?_⟩⟩
 ·rw [ha]
  unfold PS.at_
  cases hl:Y.P.free.getLast? with
  | some a =>
   have:Y.P.free≠[]:=fun e=>by rw [e] at hl;cases hl
   have:=List.length_pos_iff.2 this
   simp only [reduceCtorEq,false_iff]
   omega
  | none =>
   have hf:Y.P.free = []:=List.getLast?_eq_none_iff.1 hl
   rw [hf] at e1
   simp only [List.length_nil] at e1
   simp only
   split
   ·simp only [true_iff];omega
   ·simp only [reduceCtorEq,false_iff];omega
 ·rw [←h.pk];exact (PS.aCw _ (ha.symm.trans hi) h.pok.lt).1.symm
 ·rw [←h.ipk];exact (PS.aCw _ (hb.symm.trans hi) h.q.io.lt).1.symm
theorem aB5 {c:rR} (hq:c.queue = 0∨c.queue = 1):¬ qN c:=by
 rintro ⟨_,h⟩;omega
theorem aBZ {k:Int} {h:dL} {t:Int}:(aJ PP w0).pD aAB [(0,.int .i64 k),(2,.agg #[.int .i64 h.1,.int .i64 h.2]),(5,.int .i64 t)] = some (.agg (m8 k 0 h.1 h.2 0 0 0 0 t).toArray):=by kernel_rfl
theorem sH.aCp {k:Int} (hk:0≤k):sH Y Y k:=⟨rfl,rfl,rfl,fun h0=>by omega⟩
theorem lU.of {Y':DSt} (hfa:dI (Value.int .i64) bV Y'.S.at_ oa) (hfe:dI bV mD Y'.S.en oe) (hfb:dI bV bV Y'.oW ob) (hfw:dI bV (Value.int .i64) Y'.wh ow) (h:HO w0 F M (DO X oa oe ob ow os) (DB X Y'.S Y'.P Y'.now Y'.K most r0 r1 Y'.cP Y'.last Y'.top Q)) (em:Y'.S.most = most) (e0:Y'.y0.h = r0) (e1:Y'.y1.h = r1):lU w0 F M os X Y' Q:=by
 subst em e0 e1
 exact ⟨oa,oe,ob,ow,hfa,hfe,hfb,hfw,h⟩
theorem dJ.fresh (h:dJ Y d tm) {i:Nat} (hat:d.cF.at_ = some i):Y.oW ((i:Int),d.cF.gen i) = none:=by
 cases e:Y.oW ((i:Int),d.cF.gen i) with
 | none=>rfl
 | some x =>
  obtain ⟨j,hj,hr⟩:=h.jb2 _ _ e
  have h1:=h.jf j hj
  have e1:j.at_ = (i:Int):=congrArg Prod.fst hr
  rw [e1,h.pok.aDl (h.room.2 i hat).1] at h1;cases h1
theorem aDX (hX:zA w0 F X) (hD:lU w0 F M os X Y Q) (hv:dJ Y d tm) (htm:tm≤900000) (hk:c.kind = 1) (hq:c.queue = 0∨c.queue = 1)
  (hK:∀ M' Y',lU w0 F M' os X Y' Q→dJ Y' (gC d c).1 (tm + 1)→sH Y Y' (3 + dK (d.l.length + 1))→R (gC d c).2.v M') :
  C PP w0 Id.gT #[.pointer (some ⟨X.d,0,none⟩),c.v] R M:=by
 obtain ⟨oa,oe,ob,ow,hfa,hfe,hfb,hfw,h⟩:=hD
 obtain ⟨ck,cq,ca,cg,ct,cd⟩:=c
 simp only at hk hq
 subst hk
 apply gT.go
 unfold gT.T aL
 refine rT h fun b1 F1 M1 l1 lm1 o1 h1=>?_
 have hX1:=hX.le l1
 refine jJ h1 fun b3 M2 lm2 h2'=>?_
 have h2:=h2'.aY aA.zC
 obtain ⟨e1,e2,e3,e4,e5⟩:=hv.w7
 simp (config:={ maxSteps:=10000000 }) only [aX,add_eq,Nat.zero_add,D7 h2.di,D1 h2.di,aC,bK,aK]
 refine aIL hX1.j h2.toJ (by omega) (by omega) ?_
 rw [aK]
 refine ⟨D1 h2.di,?_⟩
 rw [eK]
 rw [aBk (aB5 hq) rfl] at hK
 obtain ⟨r1,r2⟩:=hv.room
 have hnl:(Y.P.l.length - Y.P.free.length:Nat) = d.l.length:=by omega
 have hmo:=hv.most
 cases hat:d.cF.at_ with
 | none =>
  rw [hat] at hK
  rw [if_pos (by have:=r1.1 hat;omega)]
  refine pN h2 fun M3 h3=>?_
  simp only [fA.v,a9,aT,aK,aS]
  refine jL (vs:=(fA.mk 13 0 0 0 0 0).cells) lG (by rfl) (iA _) (h3.aY aA.xA) fun M4 h4=>?_
  exact hK M4 Y ⟨oa,oe,ob,ow,hfa,hfe,hfb,hfw,h4.fQ l1⟩ (hv.uU (by omega)) (sH.aCp (by unfold dK;omega))
 | some i =>
  rw [hat] at hK
  have hlen:(d.l.length:Int) < d.most:=by
   by_cases hh:d.most≤(d.l.length:Int)
   ·have:=r1.2 hh;rw [hat] at this;cases this
   ·omega
  rw [if_neg (by omega)]
  obtain ⟨hP1,hP2,hP3,hP4⟩:=r2 i hat
  have hc1:∀ {M':Mem} {e:TypeId},cN w0 M' b1 [.int .i64 1,.int .i64 cq,.int .i64 ca,.int .i64 cg,.int .i64 ct,.int .i64 cd] e→(aJ PP w0).ld 3 ⟨b1,1,none⟩ M' = some (.int .i64 cq):=fun o=>mQ W.c3 o rfl
  have hc4:∀ {M':Mem} {e:TypeId},cN w0 M' b1 [.int .i64 1,.int .i64 cq,.int .i64 ca,.int .i64 cg,.int .i64 ct,.int .i64 cd] e→(aJ PP w0).ld 2 ⟨b1,4,none⟩ M' = some (.int .i64 ct):=fun o=>mQ W.c2 o rfl
  have hc5:∀ {M':Mem} {e:TypeId},cN w0 M' b1 [.int .i64 1,.int .i64 cq,.int .i64 ca,.int .i64 cg,.int .i64 ct,.int .i64 cd] e→(aJ PP w0).ld 3 ⟨b1,5,none⟩ M' = some (.int .i64 cd):=fun o=>mQ W.c3 o rfl
  simp only [D2 h2.di,hc1 (o1.le h2.fr),aC,bK,aK]
  refine ⟨⟨by omega,by omega⟩,?_⟩
  simp only [D35 hq h2.di,hc4 (o1.le h2.fr),aC,aK,a9,aT,aS,aBZ]
  obtain ⟨A,y,B,hAB,hyh,hrep⟩:=pick (y0:=Y.y0) (y1:=Y.y1) hq
  have hvq:=hv.q
  rw [hAB] at hvq
  have hIl:=hv.len
  rw [←hyh]
  refine ⟨?_,?_⟩
  rotate_left
  refine jJ h2 fun b4 M3 lm3 h3=>?_
  have o3:=(h3.aY fun h=>h.right).di
  refine ⟨D2 o3,hc1 (o1.le h3.fr),(by rw [hyh];exact D35 hq o3),hc4 (o1.le h3.fr),?_⟩
  refine uQ hX1.t hvq htm (by omega) hfa hfe (h3.aY aA.zC) fun M4 S' oa' oe' i' y' hat' hfa' hfe' h4' ey1 ey2 hv' em en eip hst=>?_
  obtain rfl:i' = i:=by rw [hP2] at hat';cases hat';rfl
  have h4:=h4'.aY aA.xA
  simp only [a9,aT,aK,aS]
  refine wA (vs:=lB 0 0 0 i' (Y.S.ip.gen i') ct Y.S.next 0) p5 (by rfl) dW h4 fun F5 M5 l5 o5 h5=>?_
  rotate_left
  refine uQ hX1.t hvq htm (by omega) hfa hfe h2 fun M4 S' oa' oe' i' y' hat' hfa' hfe' h4 ey1 ey2 hv' em en eip hst=>?_
  obtain rfl:i' = i:=by rw [hP2] at hat';cases hat';rfl
  simp only [a9,aT,aK,aS]
  refine kE (vs:=lB 0 0 0 i' (Y.S.ip.gen i') ct Y.S.next 0) p5 (by rfl) dW h4 fun b4 F5 M5 l5 o5 h5=>?_
  all_goals
   obtain ⟨cc,hv'⟩:=hv'
   rw [hP4] at o5 hv'
   rw [hyh,hv.nx] at hv'
   have hX5:=hX1.le l5
   have o15:=o1.le l5
   have hbj:(aJ PP w0).pD tJo [(0,.int .i64 cq),(1,.int .i64 ct),(2,.int .i64 cd),(3,.agg #[.int .i64 (i':Int),.int .i64 (d.cF.gen i')])] = some (.agg #[.int .i64 cq,.int .i64 ct,.int .i64 cd,.int .i64 (i':Int),.int .i64 (d.cF.gen i')]):=by kernel_rfl
   simp only [hc1 (o15.le h5.fr),hc4 (o15.le h5.fr),hc5 (o15.le h5.fr),kQ (o:=3) (vs:=[.int .i64 (i':Int),.int .i64 (d.cF.gen i')]) bA (o5.le h5.fr) (qK rfl rfl),aC,aK,a9,aT,aS,hbj]
   refine kE (vs:=j0 (cq,ct,cd,(i':Int),d.cF.gen i')) fW (by rfl) (dM _) h5 fun b5 F6 M6 l6 o6 h6=>?_
   have hX6:=hX5.le l6
   have o56:=o5.le l6
   have hl3:=hv.pg
   have hgP:∀ x∈Y.P.l,0≤x.g∧x.g≤1000000:=fun x hx=>by have:=hv.pg x hx;omega
   have hro:((Y.P.l.length - Y.P.free.length:Nat):Int)≠Y.P.most:=by omega
   simp only [D7 h6.di,fF (vs:=j0 (cq,ct,cd,(i':Int),d.cF.gen i')) fW (o6.le h6.fr),aC,bK,aK,a9,aT,aS]
   refine ⟨?_,?_⟩
   rotate_left
   refine jJ h6 fun b7 M7' lm7 h7'=>?_
   have o7':=(h7'.aY fun h=>h.right).di
   refine ⟨D7 o7',fF (vs:=j0 (cq,ct,cd,(i':Int),d.cF.gen i')) fW (o6.le h7'.fr),?_⟩
   refine aFd (v:=(cq,ct,cd,(i':Int),d.cF.gen i')) hX6.j (h7'.aY aA.zC).toJ hfb hv.pok (by omega) (by omega) (by omega) hgP hP1 hro (hv.fresh hat) fun M7 ob' hfb' h8'=>?_
   rw [hP3] at hfb' ⊢
   have h8:=h8'.ofJ.aY aA.xA
   simp only [cA,a9,aT,aK,aS]
   refine wA bA (by rfl) iO h8 fun F9 M9 l9 o9 h9=>?_
   rotate_left
   refine aFd (v:=(cq,ct,cd,(i':Int),d.cF.gen i')) hX6.j h6.toJ hfb hv.pok (by omega) (by omega) (by omega) hgP hP1 hro (hv.fresh hat) fun M7 ob' hfb' h8'=>?_
   rw [hP3] at hfb' ⊢
   have h8:=h8'.ofJ
   simp only [cA,a9,aT,aK,aS]
   refine kE bA (by rfl) iO h8 fun b7 F9 M9 l9 o9 h9=>?_
   all_goals
    simp only [D8 h9.di,fF bA (o9.le h9.fr),mQ W.c2 ((o56.le l9).le h9.fr) (o:=5 + 1) rfl,aC,aK,a9,aT,aS]
    have h9p:=h9.perm (aFw _ _ _ _ _)
    obtain ⟨g1,g2⟩:=h9p.get List.mem_cons_self
    refine aGA (kf:=bV) (vf:=Value.int .i64) (k:=((i':Int),d.cF.gen i')) (v:=Y.S.next) Tryz.underlying122 oR g1 g2 hfw fun ow' hfw'=>?_
    have h10:=(h9p.set (o':=ow')).perm (aFw _ _ _ _ _).symm
    generalize Mem.set M9 X.mw _ = M10 at h10 ⊢
    simp only [fF (vs:=j0 (cq,ct,cd,(i':Int),d.cF.gen i')) fW ((o6.le l9).le h10.fr),aC,aK,a9,aT,aS]
    refine aCv (v:=(cq,ct,cd,(i':Int),d.cF.gen i')) h10 fun M11 h11=>?_
    simp only [fA.v,a9,aT,aK,aS]
    refine jJ h11 fun b12 M12' lm12 h12'=>?_
    refine stW (vs:=(fA.mk 0 0 0 ct cd 0).cells) lG (by rfl) (iA _) h12' fun M12 h12=>?_
    simp only [fF bA (o9.le h12.fr),aC,aK,a9,aT,aS]
    refine aGD (o:=1) bA (by exact (by decide:3≤6)) iO h12 fun M13 h13=>?_
    have hov:dZ (fA.mk 0 0 0 ct cd 0).cells 1 [.int .i64 (i':Int),.int .i64 (d.cF.gen i')] = (fA.mk 0 i' (d.cF.gen i') ct cd 0).cells:=by
     have:=eO [.int .i64 0] [.int .i64 0,.int .i64 0] [.int .i64 ct,.int .i64 cd,.int .i64 0] [.int .i64 (i':Int),.int .i64 (d.cF.gen i')] rfl (o:=1) rfl
     simpa [fA.cells] using this
    rw [hov] at h13
    simp only [fF (vs:=(fA.mk 0 i' (d.cF.gen i') ct cd 0).cells) lG h13.h.aZ,aC,aK,a9,aT,aS]
    refine jL (vs:=(fA.mk 0 i' (d.cF.gen i') ct cd 0).cells) lG (by rfl) (iA _) ((h13.aY fun h=>h.right).aY aA.xA) fun M14 h14=>?_
    obtain ⟨y0',y1',hrep1,e0,e1',k0,k1⟩:=hrep y' ey1 ey2
    rw [hrep1] at hv'
    have hadd:=hv.add (t:=ct) (da:=cd) hq hat hv' e0 e1' k0 k1 em en (by rw [eip])
    rw [hv.nx] at hfw'
    refine hK M14 _ (lU.of (Y':=⟨Y.K,S',Y.I ++ [⟨((i':Int),d.cF.gen i'),zD Y.y0 Y.y1 cq,cc,(ct,d.next)⟩],y0',y1',Y.P.take z5 i' (cq,ct,cd,(i':Int),d.cF.gen i'),fV Y.oW ((i':Int),d.cF.gen i') (some ((i':Int),d.cF.gen i')),fV Y.wh ((i':Int),d.cF.gen i') (some d.next),Y.now,Y.cP,Y.last,Y.top⟩) hfa' hfe' hfb' hfw' ((((h14.fQ l9).fQ l6).fQ l5).fQ l1) em e0 e1') hadd ⟨rfl,rfl,rfl,?_⟩
    rw [←hIl];exact hst
end
end HL
namespace HL
section
variable {w0:World} {F M:Mem} {R:VP} {os:vC} {X:vV} {Y:DSt} {S:QS} {P:PS V5} {Q:cW} {now K most b l tp:Int} {r0 r1:dL} {oa oe ob ow:Obj} {d:rS} {tm:Int} {c:rR} {oW:dL→Option dL} {wh:dL→Option Int}
theorem aGh {k:Int} {i:dL} {t:Int}:(aJ PP w0).pD aAB [(0,.int .i64 k),(4,.agg #[.int .i64 i.1,.int .i64 i.2]),(5,.int .i64 t)] = some (.agg (m8 k 0 0 0 0 0 i.1 i.2 t).toArray):=by kernel_rfl
theorem aFj {A:cW} {os:vC} {jt pj mb:Nat} {P:PS V5} {a g:Int} {v:V5} (oJ:cN w0 F jt (jtV pj mb) tJt) (h:HO w0 F M os (star (pE pj P) A)) (hb:P.l.length≤100000) (hw:P.find a g = some v)
  (h1:∀ M',HO w0 F M' os (star (pE pj P) A)→R (.tuple #[oV v,.int .i64 0]) M'):C PP w0 Id.pP #[.pointer (some ⟨jt,0,none⟩),.agg #[.int .i64 a,.int .i64 g]] R M :=
 aFt oJ h hb (fun v' hv=>by rw [hw] at hv;cases hv;exact h1) (fun hf=>by rw [hw] at hf;cases hf)
theorem aCs {A:cW} {os:vC} {jt pj mb:Nat} {P:PS V5} {a g:Int} (oJ:cN w0 F jt (jtV pj mb) tJt) (h:HO w0 F M os (star (pE pj P) A)) (hb:P.l.length≤100000) (hw:P.find a g = none)
  (h1:∀ M' e,HO w0 F M' os (star (pE pj P) A)→e≠0→e = P.pl.look a g→R (.tuple #[oV z5,.int .i64 e]) M'):C PP w0 Id.pP #[.pointer (some ⟨jt,0,none⟩),.agg #[.int .i64 a,.int .i64 g]] R M :=
 aFt oJ h hb (fun v' hv=>by rw [hw] at hv;cases hv) (fun _=>h1)
theorem aGf (hX:zA w0 F X) (hD:lU w0 F M os X Y Q) (hv:dJ Y d tm) (htm:tm≤900000) (hk:c.kind = 2)
  (hK:∀ M' Y',lU w0 F M' os X Y' Q→dJ Y' (gC d c).1 tm→sH Y Y' (2 + dK d.l.length)→R (gC d c).2.v M') :
  C PP w0 Id.kR #[.pointer (some ⟨X.d,0,none⟩),c.v] R M:=by
 obtain ⟨oa,oe,ob,ow,hfa,hfe,hfb,hfw,h⟩:=hD
 obtain ⟨ck,cq,ca,cg,ct,cd⟩:=c
 simp only at hk
 subst hk
 rw [yT (.inl rfl)] at hK
 obtain ⟨e1,e2,e3,e4,e5⟩:=hv.w7
 have hok:=hv.ok htm
 apply kR.go
 unfold kR.T aL
 refine rT h fun b1 F1 M1 l1 lm1 o1 h1=>?_
 have hX1:=hX.le l1
 refine jJ h1 fun b3 M2 lm2 h2'=>?_
 have h2:=h2'.aY aA.zC
 have hc2:∀ {M':Mem} {e:TypeId},cN w0 M' b1 [.int .i64 2,.int .i64 cq,.int .i64 ca,.int .i64 cg,.int .i64 ct,.int .i64 cd] e→(aJ PP w0).ld 33 ⟨b1,2,none⟩ M' = some (.agg #[.int .i64 ca,.int .i64 cg]):=fun o=>kQ (vs:=[.int .i64 ca,.int .i64 cg]) bA o (qK rfl rfl)
 have hc4:∀ {M':Mem} {e:TypeId},cN w0 M' b1 [.int .i64 2,.int .i64 cq,.int .i64 ca,.int .i64 cg,.int .i64 ct,.int .i64 cd] e→(aJ PP w0).ld 2 ⟨b1,4,none⟩ M' = some (.int .i64 ct):=fun o=>mQ W.c2 o rfl
 simp (config:={ maxSteps:=10000000 }) only [aX,add_eq,Nat.zero_add,D7 h2.di,hc2 (o1.le h2.fr),aC,bK,aK,a9,aT,aS]
 have hpkl:∀ e,e = Y.P.pl.look ca cg→e = d.cF.look ca cg:=fun e he=>by rw [he,hv.pk]
 cases hfnd:Y.P.find ca cg with
 | none =>
  refine ⟨?_,?_⟩
  rotate_left
  refine jJ h2 fun b4 M4' lm4 h4'=>?_
  have o4':=(h4'.aY fun h=>h.right).di
  refine ⟨D7 o4',hc2 (o1.le h4'.fr),?_⟩
  refine aCs hX1.j (h4'.aY aA.zC).toJ (by omega) hfnd fun M4 e h4 he hel=>?_
  simp only [oV,cA,a9,aT,aK,aS]
  refine stW (vs:=j0 z5) fW (by rfl) (dM _) (h4.ofJ.aY aA.xA) fun M5 h5=>?_
  rotate_left
  refine aCs hX1.j h2.toJ (by omega) hfnd fun M4 e h4 he hel=>?_
  simp only [oV,cA,a9,aT,aK,aS]
  refine jJ h4.ofJ fun b4 M5' lm5 h5'=>?_
  refine stW (vs:=j0 z5) fW (by rfl) (dM _) h5' fun M5 h5=>?_
  all_goals
   have hlk:=hpkl e hel
   rw [if_pos (by rw [←hlk];exact he),←hlk] at hK
   rw [bX,if_neg he]
   refine pN h5 fun M6 h6=>?_
   simp only [fA.v,a9,aT,aK,aS]
   refine jL (vs:=(fA.mk e 0 0 0 0 0).cells) lG (by rfl) (iA _) ((h6.aY fun h=>h.right).aY aA.xA) fun M7 h7=>?_
   exact hK M7 Y ⟨oa,oe,ob,ow,hfa,hfe,hfb,hfw,h7.fQ l1⟩ hv (sH.aCp (by unfold dK;omega))
 | some v =>
  have hl0:d.cF.look ca cg = 0:=by
   rw [←hv.pk]
   exact PS.pM.1 (by rw [hfnd];rfl)
  obtain ⟨kk,hkk⟩:=hok.look ca cg hl0
  obtain ⟨j,hj1,hja,hjg,A,B,hd,hA⟩:=hv.atD hkk
  subst hA
  have hjM:j∈d.l:=by rw [hd];simp
  have hvj:v = j.v5:=by
   have:=hv.jf j hjM
   rw [hja,hjg,hfnd] at this
   cases this;rfl
  subst hvj
  rw [if_neg (by rw [hl0];simp),hkk] at hK
  simp only [hj1] at hK
  rw [if_neg (by decide)] at hK
  refine ⟨?_,?_⟩
  rotate_left
  refine jJ h2 fun b4 M4' lm4 h4'=>?_
  have o4':=(h4'.aY fun h=>h.right).di
  refine ⟨D7 o4',hc2 (o1.le h4'.fr),?_⟩
  refine aFj hX1.j (h4'.aY aA.zC).toJ (by omega) hfnd fun M4 h4=>?_
  simp only [oV,cA,a9,aT,aK,aS]
  refine stW (vs:=j0 j.v5) fW (by rfl) (dM _) (h4.ofJ.aY aA.xA) fun M5 h5=>?_
  rotate_left
  refine aFj hX1.j h2.toJ (by omega) hfnd fun M4 h4=>?_
  simp only [oV,cA,a9,aT,aK,aS]
  refine jJ h4.ofJ fun b4 M5' lm5 h5'=>?_
  refine stW (vs:=j0 j.v5) fW (by rfl) (dM _) h5' fun M5 h5=>?_
  all_goals
   rw [bX,if_pos rfl]
   simp only [hc4 (o1.le h5.fr),mQ W.c2 h5.h.aZ (o:=1) rfl,aC,aK]
   rw [eK]
   by_cases hlt:j.key < ct
   ·rw [if_pos hlt] at hK
    rw [if_pos (show ct > j.v5.2.1 from hlt)]
    refine pN h5 fun M6 h6=>?_
    simp only [fA.v,a9,aT,aK,aS]
    refine jL (vs:=(fA.mk 26 0 0 0 0 0).cells) lG (by rfl) (iA _) ((h6.aY fun h=>h.right).aY aA.xA) fun M7 h7=>?_
    exact hK M7 Y ⟨oa,oe,ob,ow,hfa,hfe,hfb,hfw,h7.fQ l1⟩ hv (sH.aCp (by unfold dK;omega))
   ·rw [if_neg hlt] at hK
    rw [if_neg (show ¬ ct > j.v5.2.1 from hlt)]
    have o5:=(h5.aY fun h=>h.right).di
    have hit:∀ {M':Mem} {e:TypeId} {t:Int},cN w0 M' b4 (j0 (j.queue,t,j.data,j.at_,j.gen)) e→(aJ PP w0).ld 33 ⟨b4,3,none⟩ M' = some (.agg #[.int .i64 j.at_,.int .i64 j.gen]):=fun o=>kQ (vs:=[.int .i64 j.at_,.int .i64 j.gen]) bA o (qK rfl rfl)
    simp only [D2 o5,hit (t:=j.key) h5.h.aZ,hc4 (o1.le h5.fr),aC,bK,aK,a9,aT,aS,aGh (i:=(j.at_,j.gen))]
    obtain ⟨IA,x,IB,hI,hIA,hx1,hx2,hx3,hIB⟩:=hv.split hd
    obtain ⟨A',y,B',hAB,hyh,hrep⟩:=pick (y0:=Y.y0) (y1:=Y.y1) (hv.qr j hjM)
    have hvq:=hv.q
    rw [hAB,hI] at hvq
    have hjr:(j.at_,j.gen) = x.r:=hx1.symm
    rw [show j.at_ = x.r.1 from congrArg Prod.fst hjr,show j.gen = x.r.2 from congrArg Prod.snd hjr]
    have hke:ct≤x.e.1:=by rw [hx3];show ct≤j.key;omega
    refine aAV hX1.t hvq (hx2.trans hyh.symm) hke hfa hfe (h5.aY aA.zC) fun M6 S' oe' y' hfa' hfe' h6' ey1 ey2 hv' em en eip hst=>?_
    have h6:=h6'.aY aA.xA
    simp only [a9,aT,aK,aS,hc4 (o1.le h6.fr),aC]
    refine aCi (o:=1) W.c2 (by simp [j0]) rfl rfl h6 fun M7 h7=>?_
    change HO w0 F1 M7 _ (star (aW b4 (j0 (j.queue,ct,j.data,j.at_,j.gen)) _) (DB X S' Y.P Y.now Y.K Y.S.most Y.y0.h Y.y1.h Y.cP Y.last Y.top _)) at h7
    have o7:=(h7.aY fun h=>h.right).di
    simp only [D7 o7,hc2 (o1.le h7.fr),fF (vs:=j0 (j.queue,ct,j.data,j.at_,j.gen)) fW h7.h.aZ,aC,bK,aK,a9,aT,aS]
    refine aJt (r:=(ca,cg)) (v:=(j.queue,ct,j.data,j.at_,j.gen)) (w:=j.v5) hX1.j (h7.aY aA.zC).toJ hfb (by omega) hfnd rfl (by rw [hja,hjg];have:=hv.jb j hjM;unfold Jb.r at this;rw [hja,hjg] at this;exact this) fun M8 ob' hfb' h8'=>?_
    have h8:=h8'.ofJ.aY aA.xA
    simp only [aK,fF (vs:=j0 (j.queue,ct,j.data,j.at_,j.gen)) fW h8.h.aZ,aC,a9,aT,aS]
    refine aCv (v:=(j.queue,ct,j.data,j.at_,j.gen)) (h8.aY fun h=>h.right) fun M9 h9=>?_
    simp only [fA.v,a9,aT,aK,aS]
    refine jL (vs:=(fA.mk 0 0 0 ct j.data 0).cells) lG (by rfl) (iA _) (h9.aY aA.xA) fun M10 h10=>?_
    obtain ⟨y0',y1',hrep1,e0,e1',k0,k1⟩:=hrep y' ey1 ey2
    rw [hrep1] at hv'
    have hso:=hv.aKB hd hI hx1 hx2 hx3 hIA hIB hv' e0 e1' k0 k1 em en eip
    have hdl:(IA ++ x::IB).length = d.l.length:=by rw [←hI];exact hv.len
    refine hK M10 _ (lU.of (Y':=⟨Y.K,S',IA ++ { x with e:=(ct,x.e.2) }::IB,y0',y1',Y.P.put j.at_.toNat (j.queue,ct,j.data,j.at_,j.gen),Y.oW,Y.wh,Y.now,Y.cP,Y.last,Y.top⟩) hfa' hfe' hfb' hfw ?_ em e0 e1') hso ⟨rfl,rfl,rfl,?_⟩
    ·have hh:=h10.fQ l1
     rw [show ((ca,cg):dL).1.toNat = j.at_.toNat from by rw [hja]] at hh
     exact hh
    ·rw [←hdl];exact hst
theorem aFJ {r:dL} {v:V5} (hX:zA w0 F X) (hb:P.l.length≤10000) (hfb':P.free.length≤10000) (hfb:dI bV bV oW ob) (hfw:dI bV (Value.int .i64) wh ow) (hw:P.find r.1 r.2 = some v) (h:HO w0 F M (DO X oa oe ob ow os) (DB X S P now K most r0 r1 b l tp Q))
  (hK:∀ M' ob' ow',dI bV bV (fV oW v.2.2.2 none) ob'→dI bV (Value.int .i64) (fV wh r none) ow'→HO w0 F M' (DO X oa oe ob' ow' os) (DB X S (P.gB z5 r.1.toNat) now K most r0 r1 b l tp Q)→R (fA.v { time:=v.2.1,data:=v.2.2.1 }) M') :
  C PP w0 Id.lO #[.pointer (some ⟨X.d,0,none⟩),.agg #[.int .i64 r.1,.int .i64 r.2]] R M:=by
 apply lO.go
 unfold lO.T aL
 refine rT h fun b1 F1 M1 l1 lm1 o1 h1=>?_
 have hX1:=hX.le l1
 refine jJ h1 fun b3 M2 lm2 h2'=>?_
 have h2:=h2'.aY aA.zC
 simp (config:={ maxSteps:=10000000 }) only [aX,add_eq,Nat.zero_add,D7 h2.di,fF bA (o1.le h2.fr),aC,bK,aK,a9,aT,aS]
 refine ⟨?_,?_⟩
 rotate_left
 refine jJ h2 fun b4 M3' lm3 h3'=>?_
 have o3':=(h3'.aY fun h=>h.right).di
 refine ⟨D7 o3',fF bA (o1.le h3'.fr),?_⟩
 refine aDt hX1.j (h3'.aY aA.zC).toJ hfb hb hfb' hw fun M3 ob' hfb2 h3=>?_
 simp only [oV,cA,a9,aT,aK,aS]
 refine wA (vs:=j0 v) fW (by rfl) (dM _) (h3.ofJ.aY aA.xA) fun F4 M4 l4 o4 h4=>?_
 rotate_left
 refine aDt hX1.j h2.toJ hfb hb hfb' hw fun M3 ob' hfb2 h3=>?_
 simp only [oV,cA,a9,aT,aK,aS]
 refine kE (vs:=j0 v) fW (by rfl) (dM _) h3.ofJ fun b4 F4 M4 l4 o4 h4=>?_
 all_goals
  rw [bX,if_pos rfl]
  simp only [D8 h4.di,fF bA ((o1.le l4).le h4.fr),aC,a9,aT,aK,aS]
  have h4p:=h4.perm (aFw _ _ _ _ _)
  obtain ⟨g1,g2⟩:=h4p.get List.mem_cons_self
  refine aH9 (k:=r) rfl Tryz.underlying122 oR g1 g2 hfw fun ow' hfw'=>?_
  have h5:=(h4p.set (o':=ow')).perm (aFw _ _ _ _ _).symm
  generalize Mem.set M4 X.mw _ = M5 at h5 ⊢
  simp only [fF (vs:=j0 v) fW (o4.le h5.fr),aC,a9,aT,aK,aS]
  refine aCv (v:=v) h5 fun M6 h6=>?_
  simp only [fA.v,a9,aT,aK,aS]
  refine jL (vs:=(fA.mk 0 0 0 v.2.1 v.2.2.1 0).cells) lG (by rfl) (iA _) (h6.aY aA.xA) fun M7 h7=>?_
  exact hK M7 ob' ow' hfb2 hfw' ((h7.fQ l4).fQ l1)
theorem aGl {r:dL} (hX:zA w0 F X) (hb:P.l.length≤10000) (hw:P.find r.1 r.2 = none) (h:HO w0 F M (DO X oa oe ob ow os) (DB X S P now K most r0 r1 b l tp Q))
  (hK:∀ M',HO w0 F M' (DO X oa oe ob ow os) (DB X S P now K most r0 r1 b l tp Q)→R (fA.v { why:=P.pl.look r.1 r.2 }) M') :
  C PP w0 Id.lO #[.pointer (some ⟨X.d,0,none⟩),.agg #[.int .i64 r.1,.int .i64 r.2]] R M:=by
 apply lO.go
 unfold lO.T aL
 refine rT h fun b1 F1 M1 l1 lm1 o1 h1=>?_
 have hX1:=hX.le l1
 refine jJ h1 fun b3 M2 lm2 h2'=>?_
 have h2:=h2'.aY aA.zC
 simp (config:={ maxSteps:=10000000 }) only [aX,add_eq,Nat.zero_add,D7 h2.di,fF bA (o1.le h2.fr),aC,bK,aK,a9,aT,aS]
 refine ⟨?_,?_⟩
 rotate_left
 refine jJ h2 fun b4 M3' lm3 h3'=>?_
 have o3':=(h3'.aY fun h=>h.right).di
 refine ⟨D7 o3',fF bA (o1.le h3'.fr),?_⟩
 refine aA8 hX1.j (h3'.aY aA.zC).toJ hb hw fun M3 e h3 he hel=>?_
 simp only [oV,cA,a9,aT,aK,aS]
 refine wA (vs:=j0 z5) fW (by rfl) (dM _) (h3.ofJ.aY aA.xA) fun F4 M4 l4 o4 h4=>?_
 rotate_left
 refine aA8 hX1.j h2.toJ hb hw fun M3 e h3 he hel=>?_
 simp only [oV,cA,a9,aT,aK,aS]
 refine kE (vs:=j0 z5) fW (by rfl) (dM _) h3.ofJ fun b4 F4 M4 l4 o4 h4=>?_
 all_goals
  rw [bX,if_neg he]
  refine pN h4 fun M6 h6=>?_
  simp only [fA.v,a9,aT,aK,aS]
  refine jL (vs:=(fA.mk e 0 0 0 0 0).cells) lG (by rfl) (iA _) (h6.aY aA.xA) fun M7 h7=>?_
  rw [hel]
  exact hK M7 ((h7.fQ l4).fQ l1)
end
end HL
namespace HL
section
variable {w0:World} {F M:Mem}
theorem aA.sev {A B C D E G H Q:cW} (h:aA w0 F M (star A (star B (star C (star D (star E (star G (star H Q)))))))):aA w0 F M (star H (star A (star B (star C (star D (star E (star G Q))))))) :=
 (h.nX fun _ _ h=>(h.nX fun _ _ h=>(h.nX fun _ _ h=>(h.nX fun _ _ h=>(h.nX fun _ _ h=>h.dX).dX).dX).dX).dX).dX
theorem aA.bck {A B C D E G H Q:cW} (h:aA w0 F M (star H (star A (star B (star C (star D (star E (star G Q)))))))):aA w0 F M (star A (star B (star C (star D (star E (star G (star H Q))))))) :=
 h.dX.nX fun _ _ h=>h.dX.nX fun _ _ h=>h.dX.nX fun _ _ h=>h.dX.nX fun _ _ h=>h.dX.nX fun _ _ h=>h.dX
end
section
variable {w0:World} {F M:Mem} {R:VP} {os:vC} {X:vV} {Y:DSt} {S:QS} {P:PS V5} {Q:cW} {now K most b l tp:Int} {r0 r1:dL} {oa oe ob ow:Obj} {d:rS} {tm:Int} {c:rR} {oW:dL→Option dL} {wh:dL→Option Int}
theorem aEz {k:Int} {i:dL}:(aJ PP w0).pD aAB [(0,.int .i64 k),(4,.agg #[.int .i64 i.1,.int .i64 i.2])] = some (.agg (m8 k 0 0 0 0 0 i.1 i.2 0).toArray):=by kernel_rfl
theorem zU {k:Int} {i:dL}:(aJ PP w0).pD aAB [(0,.int .i64 k),(2,.agg #[.int .i64 i.1,.int .i64 i.2])] = some (.agg (m8 k 0 i.1 i.2 0 0 0 0 0).toArray):=by kernel_rfl
theorem aEf {k:Int} {i j:dL}:(aJ PP w0).pD aAB [(0,.int .i64 k),(2,.agg #[.int .i64 i.1,.int .i64 i.2]),(3,.agg #[.int .i64 j.1,.int .i64 j.2])] = some (.agg (m8 k 0 i.1 i.2 j.1 j.2 0 0 0).toArray):=by kernel_rfl
theorem wN {k x:Int}:(aJ PP w0).pD aAB [(0,.int .i64 k),(1,.int .i64 x)] = some (.agg (m8 k x 0 0 0 0 0 0 0).toArray):=by kernel_rfl
theorem dJ.aKA (h:dJ Y d tm) {S':QS} (hS:dU S' Y.I [Y.y0,Y.y1] tm) (hm:S'.most = Y.S.most) (hn:S'.next = Y.S.next) (hip:S'.ip = Y.S.ip):dJ { Y with S:=S' } d tm :=
 ⟨hS,h.K3,h.k0,h.k1,h.pk,by show S'.ip.pl = d.cF;rw [hip];exact h.ipk,hm.trans h.most,h.now,h.aBv,hn.trans h.nx,h.par,h.qr,h.jf,h.jb,h.jb2,h.jw,h.lv,h.sn,h.sl⟩
theorem aIW {x:Int} (o:cN w0 M X.bc [.int .i64 now] aCT) (h:R (.bool (decide (x≤now))) M):C PP w0 Id.eE #[.pointer (some ⟨X.bc,0,none⟩),.int .i64 x] R M:=by
 apply eE.go
 unfold eE.T aL
 simp only [aX,add_eq,Nat.zero_add,mQ W.c2 o (o:=0) rfl,aC,aK]
 exact h
theorem aF4 (hX:zA w0 F X) (hD:lU w0 F M os X Y Q) (hv:dJ Y d tm) (htm:tm≤900000) (hk:c.kind = 3)
  (hK:∀ M' Y',lU w0 F M' os X Y' Q→dJ Y' (gC d c).1 (tm + 1)→sH Y Y' (dK d.l.length + 1)→R (gC d c).2.v M') :
  C PP w0 Id.kY #[.pointer (some ⟨X.d,0,none⟩),.agg #[.int .i64 c.at_,.int .i64 c.gen]] R M:=by
 obtain ⟨oa,oe,ob,ow,hfa,hfe,hfb,hfw,h⟩:=hD
 obtain ⟨ck,cq,ca,cg,ct,cd⟩:=c
 simp only at hk
 subst hk
 rw [yT (.inr rfl)] at hK
 obtain ⟨e1,e2,e3,e4,e5⟩:=hv.w7
 have hok:=hv.ok htm
 apply kY.go
 unfold kY.T aL
 refine rT h fun b1 F1 M1 l1 lm1 o1 h1=>?_
 have hX1:=hX.le l1
 refine jJ h1 fun b3 M2 lm2 h2'=>?_
 have h2:=h2'.aY aA.zC
 simp (config:={ maxSteps:=10000000 }) only [aX,add_eq,Nat.zero_add,D7 h2.di,fF bA (o1.le h2.fr),aC,bK,aK,a9,aT,aS]
 have hpkl:∀ e,e = Y.P.pl.look ca cg→e = d.cF.look ca cg:=fun e he=>by rw [he,hv.pk]
 cases hfnd:Y.P.find ca cg with
 | none =>
  refine ⟨?_,?_⟩
  rotate_left
  refine jJ h2 fun b4 M4' lm4 h4'=>?_
  have o4':=(h4'.aY fun h=>h.right).di
  refine ⟨D7 o4',fF bA (o1.le h4'.fr),?_⟩
  refine aCs hX1.j (h4'.aY aA.zC).toJ (by omega) hfnd fun M4 e h4 he hel=>?_
  simp only [oV,cA,a9,aT,aK,aS]
  refine wA (vs:=j0 z5) fW (by rfl) (dM _) (h4.ofJ.aY aA.xA) fun F5 M5 l5 o5 h5=>?_
  rotate_left
  refine aCs hX1.j h2.toJ (by omega) hfnd fun M4 e h4 he hel=>?_
  simp only [oV,cA,a9,aT,aK,aS]
  refine kE (vs:=j0 z5) fW (by rfl) (dM _) h4.ofJ fun b4 F5 M5 l5 o5 h5=>?_
  all_goals
   have hlk:=hpkl e hel
   rw [if_pos (by rw [←hlk];exact he),←hlk] at hK
   rw [fB,if_neg he]
   simp only [fF bA ((o1.le l5).le h5.fr),aC,a9,aT,aK,aS]
   refine aGl (r:=(ca,cg)) (hX1.le l5) (by omega) hfnd h5 fun M6 h6=>?_
   rw [show Y.P.pl.look ((ca,cg):dL).1 ((ca,cg):dL).2 = e from hel.symm]
   simp only [fA.v,a9,aT,aK,aS]
   refine jL (vs:=(fA.mk e 0 0 0 0 0).cells) lG (by rfl) (iA _) (h6.aY aA.xA) fun M7 h7=>?_
   exact hK M7 Y ⟨oa,oe,ob,ow,hfa,hfe,hfb,hfw,(h7.fQ l5).fQ l1⟩ (hv.uU (by omega)) (sH.aCp (by unfold dK;omega))
 | some v =>
  have hl0:d.cF.look ca cg = 0:=by
   rw [←hv.pk]
   exact PS.pM.1 (by rw [hfnd];rfl)
  obtain ⟨kk,hkk⟩:=hok.look ca cg hl0
  obtain ⟨j,hj1,hja,hjg,A,B,hd,hA⟩:=hv.atD hkk
  subst hA
  have hjM:j∈d.l:=by rw [hd];simp
  have hvj:v = j.v5:=by
   have:=hv.jf j hjM
   rw [hja,hjg,hfnd] at this
   cases this;rfl
  subst hvj
  rw [if_neg (by rw [hl0];simp),hkk] at hK
  simp only [hj1] at hK
  rw [if_pos trivial] at hK
  refine ⟨?_,?_⟩
  rotate_left
  refine jJ h2 fun b4 M4' lm4 h4'=>?_
  have o4':=(h4'.aY fun h=>h.right).di
  refine ⟨D7 o4',fF bA (o1.le h4'.fr),?_⟩
  refine aFj hX1.j (h4'.aY aA.zC).toJ (by omega) hfnd fun M4 h4=>?_
  simp only [oV,cA,a9,aT,aK,aS]
  refine wA (vs:=j0 j.v5) fW (by rfl) (dM _) (h4.ofJ.aY aA.xA) fun F5 M5 l5 o5 h5=>?_
  rotate_left
  refine aFj hX1.j h2.toJ (by omega) hfnd fun M4 h4=>?_
  simp only [oV,cA,a9,aT,aK,aS]
  refine kE (vs:=j0 j.v5) fW (by rfl) (dM _) h4.ofJ fun b4 F5 M5 l5 o5 h5=>?_
  all_goals
   rw [fB,if_pos rfl]
   have hX5:=hX1.le l5
   have hit:∀ {M':Mem} {e:TypeId},cN w0 M' b4 (j0 j.v5) e→(aJ PP w0).ld 33 ⟨b4,3,none⟩ M' = some (.agg #[.int .i64 j.at_,.int .i64 j.gen]):=fun o=>kQ (vs:=[.int .i64 j.at_,.int .i64 j.gen]) bA o (qK rfl rfl)
   simp only [aX,add_eq,Nat.zero_add,D2 h5.di,hit (o5.le h5.fr),aC,bK,aK,a9,aT,aS,aEz (i:=(j.at_,j.gen))]
   obtain ⟨IA,x,IB,hI,hIA,hx1,hx2,hx3,hIB⟩:=hv.split hd
   obtain ⟨A',y,B',hAB,hyh,hrep⟩:=pick (y0:=Y.y0) (y1:=Y.y1) (hv.qr j hjM)
   have hvq:=hv.q
   rw [hAB,hI] at hvq
   have hjr:(j.at_,j.gen) = x.r:=hx1.symm
   rw [show j.at_ = x.r.1 from congrArg Prod.fst hjr,show j.gen = x.r.2 from congrArg Prod.snd hjr]
   refine aCI hX5.t hvq (hx2.trans hyh.symm) hfa hfe h5 fun M6 S' oa' oe' y' hfa' hfe' h6 ey1 ey2 hv' em en eip hst=>?_
   simp only [a9,aT,aK,aS,fF bA ((o1.le l5).le h6.fr),aC]
   refine aFJ (r:=(ca,cg)) hX5 (by omega) (by omega) hfb hfw hfnd h6 fun M7 ob' ow' hfb' hfw' h7=>?_
   simp only [fA.v,a9,aT,aK,aS]
   refine jL (vs:=(fA.mk 0 0 0 j.key j.data 0).cells) lG (by rfl) (iA _) (h7.aY aA.xA) fun M8 h8=>?_
   obtain ⟨y0',y1',hrep1,e0,e1',k0,k1⟩:=hrep y' ey1 ey2
   rw [hrep1] at hv'
   have hxa:x.r.1.toNat = j.at_.toNat:=by rw [hx1];rfl
   have hou:=hv.out hd hI hIA hIB hv' e0 e1' k0 k1 em en (by rw [eip,hxa])
   have hdl:(IA ++ x::IB).length = d.l.length:=by rw [←hI];exact hv.len
   have hr:((ca,cg):dL) = j.r:=Prod.ext hja.symm hjg.symm
   rw [hr] at hfw'
   refine hK M8 _ (lU.of (Y':=⟨Y.K,S',IA ++ IB,y0',y1',Y.P.gB z5 j.at_.toNat,fV Y.oW j.r none,fV Y.wh j.r none,Y.now,Y.cP,Y.last,Y.top⟩) hfa' hfe' hfb' hfw' ?_ em e0 e1') hou ⟨rfl,rfl,rfl,?_⟩
   ·have hh:=(h8.fQ l5).fQ l1
    rw [show ((ca,cg):dL).1.toNat = j.at_.toNat from by rw [hja]] at hh
    exact hh
   ·rw [←hdl];exact hst
theorem aGN (hX:zA w0 F X) (hD:lU w0 F M os X Y Q) (hv:dJ Y d tm) (htm:tm≤900000) (hk:c.kind = 6) (hq:c.queue = 1)
  (hK:∀ M' Y',lU w0 F M' os X Y' Q→dJ Y' (gC d c).1 (tm + 1)→sH Y Y' (dK d.l.length)→R (gC d c).2.v M') :
  C PP w0 Id.mL #[.pointer (some ⟨X.d,0,none⟩)] R M:=by
 obtain ⟨oa,oe,ob,ow,hfa,hfe,hfb,hfw,h⟩:=hD
 rw [aBo (aB5 (.inr hq)) hk,if_neg (by omega)] at hK
 obtain ⟨e1,e2,e3,e4,e5⟩:=hv.w7
 apply mL.go
 unfold mL.T aL
 refine jJ h fun b3 M2 lm2 h2'=>?_
 have h2:=h2'.aY aA.zC
 simp (config:={ maxSteps:=10000000 }) only [aX,add_eq,Nat.zero_add,D2 h2.di,aC,bK]
 refine ⟨⟨by omega,by omega⟩,?_⟩
 rw [show (aJ PP w0).ld 33 ⟨X.d,3 + Int.toNat 0 * 2,none⟩ M2 = _ from D3 h2.di]
 simp only [aC,a9,aT,aK,aS]
 refine ⟨⟨by omega,by omega⟩,?_⟩
 rw [show (aJ PP w0).ld 33 ⟨X.d,3 + Int.toNat 1 * 2,none⟩ M2 = _ from D5 h2.di]
 simp only [aC,a9,aT,aK,aS,aEf]
 refine aEt hX.t hv.q htm (hv.k1.trans hv.k0.symm) h2 fun M3 S1 y0' h3 ey1 ey2 hv1 em en eip eat een hst=>?_
 simp only [a9,aT,aK,aS,D2 h3.di,D0 h3.di,aC,bK,wN]
 refine uP hX.t hv1 htm hv.K3.1 hv.K3.2 (by simp) h3 fun M4 S2 r h4 hv2 hnil em2 en2 eip2 eat2 een2 hst2=>?_
 simp only [a9,aT,aK,aS]
 refine ⟨⟨by omega,by omega⟩,?_⟩
 refine aGD (o:=5) bA (by exact (by decide:7≤13)) iO (h4.aY aA.sev) fun M5 h5'=>?_
 have hov:dZ (dV X Y.K Y.S.most Y.y0.h Y.y1.h Y.cP Y.last Y.top) 5 [.int .i64 r.1,.int .i64 r.2] = dV X Y.K Y.S.most Y.y0.h r Y.cP Y.last Y.top:=by
  have:=eO [.int .i64 Y.K,.int .i64 Y.S.most,.pointer (some ⟨X.q,0,none⟩),.int .i64 Y.y0.h.1,.int .i64 Y.y0.h.2] [.int .i64 Y.y1.h.1,.int .i64 Y.y1.h.2] [.pointer (some ⟨X.jt,0,none⟩),.map (some X.mw),.pointer (some ⟨X.bc,0,none⟩),.int .i64 Y.cP,.int .i64 Y.last,.int .i64 Y.top] [.int .i64 r.1,.int .i64 r.2] rfl (o:=5) rfl
  simpa using this
 rw [hov] at h5'
 have h5:HO w0 F M5 (DO X oa oe ob ow os) (DB X S2 Y.P Y.now Y.K Y.S.most Y.y0.h r Y.cP Y.last Y.top (star (aW b3 _ _) Q)):=h5'.aY aA.bck
 simp only [D7 h5.di,aC,bK]
 refine aH0 hX.j h5.toJ (by omega) hv.pg1 fun M6 h6'=>?_
 have h6:=h6'.ofJ
 rw [hv.cnt 1]
 simp only [aK,bR4,aC,a9,aT,aS]
 refine jL (vs:=(fA.mk 0 0 0 0 0 (iK 1 d.l)).cells) lG (by rfl) (iA _) (h6.aY aA.xA) fun M7 h7=>?_
 have hme:=hv.merge (y0':=y0') (y1':=⟨r,Y.K, -1,[]⟩) hv2 ey1 ey2 hv.k1.symm (em2.trans em) (en2.trans en) (by rw [eip2,eip])
 rw [←eat,←eat2] at hfa
 rw [←een,←een2] at hfe
 refine hK M7 _ (lU.of (Y':=⟨Y.K,S2,Y.I.map (uY Y.y1.h Y.y0.h),y0',⟨r,Y.K, -1,[]⟩,xT Y.P Y.P.refs 1 0,Y.oW,Y.wh,Y.now,Y.cP,Y.last,Y.top⟩) hfa hfe hfb hfw h7 (em2.trans em) ey1 rfl) hme ⟨rfl,rfl,rfl,?_⟩
 have:=hst.trans hst2
 rw [hv.len,Int.add_zero] at this
 exact this
end
end HL
namespace HL
section
variable {w0:World} {F M:Mem} {R:VP} {os:vC} {X:vV} {Y:DSt} {S:QS} {P:PS V5} {Q:cW} {now K most b l tp:Int} {r0 r1:dL} {oa oe ob ow:Obj} {d:rS} {tm:Int} {c:rR} {oW:dL→Option dL} {wh:dL→Option Int}
theorem aBI:∀ {A A2 B B2:List m6} {x x2:m6},((A ++ x::B).map (·.r)).Nodup→A ++ x::B = A2 ++ x2::B2→x.r = x2.r→A = A2∧x = x2∧B = B2
 | [],[],B,B2,x,x2,hn,he,hr=>by
  simp only [List.nil_append,List.cons.injEq] at he
  exact ⟨rfl,he.1,he.2⟩
 | [],a::A2,B,B2,x,x2,hn,he,hr=>by
  simp only [List.nil_append,List.cons_append,List.cons.injEq] at he
  obtain ⟨h1,h2⟩:=he
  subst h1
  rw [h2] at hn
  simp only [List.nil_append,List.map_cons,List.map_append,List.nodup_cons] at hn
  exact absurd (List.mem_append_right _ (by rw [hr];exact List.mem_cons_self)) hn.1
 | a::A,[],B,B2,x,x2,hn,he,hr=>by
  simp only [List.nil_append,List.cons_append,List.cons.injEq] at he
  obtain ⟨h1,h2⟩:=he
  subst h1
  simp only [List.cons_append,List.map_cons,List.map_append,List.nodup_cons] at hn
  exact absurd (List.mem_append_right _ (by rw [←hr];exact List.mem_cons_self)) hn.1
 | a::A,a2::A2,B,B2,x,x2,hn,he,hr=>by
  simp only [List.cons_append,List.cons.injEq] at he
  obtain ⟨h1,h2⟩:=he
  simp only [List.cons_append,List.map_cons,List.nodup_cons] at hn
  obtain ⟨q1,q2,q3⟩:=aBI hn.2 h2 hr
  exact ⟨by rw [h1,q1],q2,q3⟩
theorem aI8 (hX:zA w0 F X) (hD:lU w0 F M os X Y Q) (hv:dJ Y d tm) (htm:tm≤900000) (hk:c.kind = 5) (hq:c.queue = 0∨c.queue = 1)
  (hK:∀ M' Y',lU w0 F M' os X Y' Q→dJ Y' (gC d c).1 (tm + 1)→sH Y Y' (2 * dK d.l.length + 1)→R (gC d c).2.v M') :
  C PP w0 Id.gM #[.pointer (some ⟨X.d,0,none⟩),.int .i64 c.queue] R M:=by
 obtain ⟨oa,oe,ob,ow,hfa,hfe,hfb,hfw,h⟩:=hD
 obtain ⟨ck,cq,ca,cg,ct,cd⟩:=c
 simp only at hk hq
 subst hk
 rw [xN (aB5 hq) rfl] at hK
 obtain ⟨e1,e2,e3,e4,e5⟩:=hv.w7
 have hl0:0≤dK d.l.length:=by unfold dK;omega
 apply gM.go
 intro aB H
 unfold gM.T aL
 refine jJ h fun b3 M2 lm2 h2'=>?_
 have h2:=h2'.aY aA.zC
 simp (config:={ maxSteps:=10000000 }) only [aX,add_eq,Nat.zero_add,D35 hq h2.di,aC,a9,aT,aK,aS]
 refine ⟨⟨by omega,by omega⟩,?_⟩
 refine kE bA (by rfl) iO h2 fun b4 F3 M3 l3 o3 h3=>?_
 have hX3:=hX.le l3
 simp only [D2 h3.di,fF bA (o3.le h3.fr),aC,bK,a9,aT,aK,aS,zU]
 obtain ⟨A',y,B',hAB,hyh,hrep⟩:=pick (y0:=Y.y0) (y1:=Y.y1) hq
 have hvq:=hv.q
 rw [hAB] at hvq
 have hIl:=hv.len
 rw [←hyh]
 have none_ok:∀ (F5 M5:Mem) (b5:Nat) (S1:QS) (A:List Value),gC d ⟨5,cq,ca,cg,ct,cd⟩ = (d,{ why:=28 })→Mem.le F3 F5→dJ { Y with S:=S1 } d tm→rO Y.S S1 (dK d.l.length)→dI (Value.int .i64) bV S1.at_ oa→dI bV mD S1.en oe→S1.most = Y.S.most →
   HO w0 F5 M5 (DO X oa oe ob ow os) (star (aW b5 A aBp) (DB X S1 Y.P Y.now Y.K Y.S.most Y.y0.h Y.y1.h Y.cP Y.last Y.top (star (aW b3 [.int .i64 0,.int .i64 0,.int .i64 0,.int .i64 0,.int .i64 0,.int .i64 0] iJ) Q))) →
   C PP w0 Id.cB #[.int .i64 28] (fun v M=>shA v fun n=>cK n fun u r=>lT .i64 u fun n=>cK r fun u r=>lT .i64 u fun n_22=>cK r fun u r=>lT .i64 u fun n_23=>cK r fun u r=>lT .i64 u fun n_24=>cK r fun u r=>lT .i64 u fun n_25=>cK r fun u r=>lT .i64 u fun n_26=>qA r ((aJ PP w0).st iJ ⟨b3,0,none⟩ (.agg #[.int .i64 n,.int .i64 n_22,.int .i64 n_23,.int .i64 n_24,.int .i64 n_25,.int .i64 n_26]) (fun M=>HL.ob ((aJ PP w0).rdv iJ (.pointer (some ⟨b3,0,none⟩)) M) fun v=>R v M) M)) M5:=by
  intro F5 M5 b5 S1 A hdo l5 hv1 hst hfa1 hfe1 hm h5
  refine pN h5 fun M6 h6=>?_
  simp only [fA.v,a9,aT,aK,aS]
  refine jL (vs:=(fA.mk 28 0 0 0 0 0).cells) lG (by rfl) (iA _) ((h6.aY fun h=>h.right).aY aA.xA) fun M7 h7=>?_
  rw [←xN (aB5 hq) rfl,hdo] at hK
  refine hK M7 { Y with S:=S1 } (lU.of (Y':={ Y with S:=S1 }) hfa1 hfe1 hfb hfw ((h7.fQ l5).fQ l3) hm rfl rfl) (hv1.uU (by omega)) ⟨rfl,rfl,rfl,fun h0=>by
   obtain ⟨a1,a2,a3⟩:=hst h0
   exact ⟨a1,a2,by show S1.α.steps≤Y.S.α.steps + _;omega⟩⟩
 have fire_ok:∀ (F5 M5:Mem) (b5:Nat) (S1:QS) (A0:List Value) (x0:Nat × cY),A0.length = 8→pT d.l cq = some x0→¬ d.now < x0.2.1→Mem.le F3 F5→dJ { Y with S:=S1 } d tm→rO Y.S S1 (dK d.l.length)→dI (Value.int .i64) bV S1.at_ oa→dI bV mD S1.en oe→S1.most = Y.S.most →
   HO w0 F5 M5 (DO X oa oe ob ow os) (star (aW b5 A0 aBp) (DB X S1 Y.P Y.now Y.K Y.S.most Y.y0.h Y.y1.h Y.cP Y.last Y.top (star (aW b3 [.int .i64 0,.int .i64 0,.int .i64 0,.int .i64 0,.int .i64 0,.int .i64 0] iJ) Q))) →
   gM.J1 aB (some ⟨X.d,0,none⟩) ⟨b3,0,none⟩ ⟨b4,0,none⟩ ⟨b5,0,none⟩ M5:=by
  intro F5 M5 b5 S1 A0 x0 hA0 hf hdue l5 hv1 hst hfa1 hfe1 hm h5
  rw [hf] at hK
  simp only at hK
  rw [if_neg hdue] at hK
  obtain ⟨j,A,B,hd,hAl,hjq,hje,eQ,huniq⟩:=hv1.first hq hf
  have hjM:j∈d.l:=by rw [hd];simp
  have hj1:d.l[x0.1]? = some j:=by rw [hd,←hAl];simp
  rw [hj1] at hK
  simp only at hK
  refine Eq.mpr (H.J1 ..) ?_
  unfold gM.J1.T aL
  have hX5:=hX3.le l5
  have hq1:=hv1.q
  have o5:=(h5.aY fun h=>h.right).di
  simp (config:={ maxSteps:=10000000 }) only [aX,add_eq,Nat.zero_add,D2 o5,fF bA ((o3.le l5).le h5.fr),aC,bK,a9,aT,aK,aS,zU]
  change dU S1 Y.I [Y.y0,Y.y1] tm at hq1
  rw [hAB] at hq1
  have hne':eB Y.I y.h≠[]:=by rw [hyh];exact eQ
  rw [←hyh]
  refine aC0 hX5.t hq1 hne' hfa1 hfe1 (h5.aY aA.zC) fun M6 S' oa' oe' y' IA x IB hI hxy hb hfa' hfe' h6' ey1 ey2 hv' em en eip hst2=>?_
  have hxI:x∈Y.I:=by rw [hI];simp
  obtain ⟨hx1,hx3⟩:=huniq x hxI (hxy.trans hyh) (fun w hw hwh hwc=>hb w hw (hwh.trans hyh.symm) hwc)
  have h6:=h6'.aY aA.xA
  simp only [a9,aT,aK,aS]
  refine wA (vs:=lB 0 0 0 x.r.1 x.r.2 x.e.1 x.e.2 0) p5 (by rw [hA0];rfl) dW h6 fun F7 M7 l7 o7 h7=>?_
  have hX7:=hX5.le l7
  rw [show x.r.1 = j.at_ from congrArg Prod.fst hx1,show x.r.2 = j.gen from congrArg Prod.snd hx1] at o7
  have hit:∀ {M':Mem} {e:TypeId},cN w0 M' b5 (lB 0 0 0 j.at_ j.gen x.e.1 x.e.2 0) e→(aJ PP w0).ld 33 ⟨b5,3,none⟩ M' = some (.agg #[.int .i64 j.at_,.int .i64 j.gen]):=fun o=>kQ (vs:=[.int .i64 j.at_,.int .i64 j.gen]) bA o (qK rfl rfl)
  have hby:=hv.jb j hjM
  simp only [D7 h7.di,hit (o7.le h7.fr),aC,bK,a9,aT,aK,aS]
  refine ⟨?_,?_⟩
  rotate_left
  refine jJ h7 fun b8 M8' lm8 h8'=>?_
  have o8':=(h8'.aY fun h=>h.right).di
  refine ⟨D7 o8',hit (o7.le h8'.fr),?_⟩
  refine aIk (r:=j.r) (x:=j.r) hX7.j h8' (by simp) hfb hby fun M8 h8=>?_
  simp only [cA,a9,aT,aK,bT,aS]
  refine wA bA (by rfl) iO h8 fun F9 M9 l9 o9 h9=>?_
  rotate_left
  refine aIk (r:=j.r) (x:=j.r) hX7.j h7 (by simp) hfb hby fun M8 h8=>?_
  simp only [cA,a9,aT,aK,bT,aS]
  refine kE bA (by rfl) iO h8 fun b8 F9 M9 l9 o9 h9=>?_
  all_goals
   have hX9:=hX7.le l9
   simp only [fF bA (o9.le h9.fr),aC,a9,aT,aK,aS]
   refine aFJ (r:=j.r) (v:=j.v5) hX9 (by omega) (by omega) hfb hfw (hv.jf j hjM) h9 fun M10 ob' ow' hfb' hfw' h10=>?_
   simp only [fA.v,a9,aT,aK,aS]
   refine jJ h10 fun b12 M12' lm12 h12'=>?_
   refine stW (vs:=(fA.mk 0 0 0 j.key j.data 0).cells) lG (by rfl) (iA _) h12' fun M12 h12=>?_
   simp only [fF bA (o9.le h12.fr),aC,aK,a9,aT,aS]
   refine aGD (o:=1) bA (by exact (by decide:3≤6)) iO h12 fun M13 h13=>?_
   have hov:dZ (fA.mk 0 0 0 j.key j.data 0).cells 1 [.int .i64 j.r.1,.int .i64 j.r.2] = (fA.mk 0 j.at_ j.gen j.key j.data 0).cells:=by
    have:=eO [.int .i64 0] [.int .i64 0,.int .i64 0] [.int .i64 j.key,.int .i64 j.data,.int .i64 0] [.int .i64 j.r.1,.int .i64 j.r.2] rfl (o:=1) rfl
    simpa [fA.cells,Jb.r] using this
   rw [hov] at h13
   simp only [fF (vs:=(fA.mk 0 j.at_ j.gen j.key j.data 0).cells) lG h13.h.aZ,aC,aK,a9,aT,aS]
   refine jL (vs:=(fA.mk 0 j.at_ j.gen j.key j.data 0).cells) lG (by rfl) (iA _) ((h13.aY fun h=>h.right).aY aA.xA) fun M14 h14=>?_
   obtain ⟨y0',y1',hrep1,e0,e1',k0,k1⟩:=hrep y' ey1 ey2
   rw [hrep1] at hv'
   have hxa:x.r.1.toNat = j.at_.toNat:=by rw [hx1];rfl
   obtain ⟨IA2,x2,IB2,hI2,hIA,hy1,hy2,hy3,hIB⟩:=hv1.split hd
   have hsame:IA = IA2∧x = x2∧IB = IB2:=aBI (by rw [←hI];exact hv.q.ind) (hI.symm.trans hI2) (hx1.trans hy1.symm)
   obtain ⟨hs1,hs2,hs3⟩:=hsame
   subst hs1 hs2 hs3
   have hou:=hv1.out hd hI2 hIA hIB hv' e0 e1' k0 k1 em en (by rw [eip,hxa])
   rw [hAl] at hou
   refine hK M14 _ (lU.of (Y':=⟨Y.K,S',IA ++ IB,y0',y1',Y.P.gB z5 j.at_.toNat,fV Y.oW j.r none,fV Y.wh j.r none,Y.now,Y.cP,Y.last,Y.top⟩) hfa' hfe' hfb' hfw' ((((h14.fQ l9).fQ l7).fQ l5).fQ l3) (em.trans hm) e0 e1') hou ⟨rfl,rfl,rfl,fun h0=>?_⟩
   have hh:=(hst.trans hst2) h0
   rw [hIl] at hh
   exact ⟨hh.1,hh.2.1,by have:=hh.2.2;show S'.α.steps≤Y.S.α.steps + _;omega⟩
 cases hf:pT d.l cq with
 | none =>
  have hno:=hv.aEA hq hf
  rw [←hyh] at hno
  have hdo:gC d ⟨5,cq,ca,cg,ct,cd⟩ = (d,{ why:=28 }):=by
   rw [xN (aB5 hq) rfl]
   show (match pT d.l cq with | none=>_ | some y=>_) = _
   rw [hf]
  refine ⟨?_,?_⟩
  rotate_left
  refine jJ h3 fun b5 M4' lm4 h4'=>?_
  have o4':=(h4'.aY fun h=>h.right).di
  refine ⟨D2 o4',(by rw [hyh];exact fF bA (o3.le h4'.fr)),?_⟩
  refine yO hX3.t hvq hno (h4'.aY aA.zC) fun M4 S1 h4 hv1 em en eip eat een hst=>?_
  simp only [a9,aT,aK,aS]
  refine stW (vs:=lB 27 0 0 0 0 0 0 0) p5 (by rfl) dW (h4.aY aA.xA) fun M5 h5=>?_
  rotate_left
  refine yO hX3.t hvq hno h3 fun M4 S1 h4 hv1 em en eip eat een hst=>?_
  simp only [a9,aT,aK,aS]
  refine jJ h4 fun b5 M5' lm5 h5'=>?_
  refine stW (vs:=lB 27 0 0 0 0 0 0 0) p5 (by rfl) dW h5' fun M5 h5=>?_
  all_goals
   simp only [mQ W.c25 h5.h.aZ (o:=0) rfl,aC,aK]
   rw [bX,if_neg (by decide)]
   rw [←hAB] at hv1
   exact none_ok F3 M5 b5 S1 _ hdo (Mem.le_refl _) (hv.aKA hv1 em en eip) (fun h0=>by have:=hst h0;omega) (by rw [eat];exact hfa) (by rw [een];exact hfe) em h5
 | some x0 =>
  obtain ⟨j,A,B,hd,hAl,hjq,hje,eQ,huniq⟩:=hv.first hq hf
  rw [←hyh] at eQ
  refine ⟨?_,?_⟩
  rotate_left
  refine jJ h3 fun b5 M4' lm4 h4'=>?_
  have o4':=(h4'.aY fun h=>h.right).di
  refine ⟨D2 o4',(by rw [hyh];exact fF bA (o3.le h4'.fr)),?_⟩
  refine xR hX3.t hvq eQ hfa hfe (h4'.aY aA.zC) fun M4 S1 x hxI hxy hb hfa1 hfe1 h4 hv1 em en eip hst=>?_
  simp only [a9,aT,aK,aS]
  refine stW (vs:=lB 0 0 0 x.r.1 x.r.2 x.e.1 x.e.2 0) p5 (by rfl) dW (h4.aY aA.xA) fun M5 h5=>?_
  rotate_left
  refine xR hX3.t hvq eQ hfa hfe h3 fun M4 S1 x hxI hxy hb hfa1 hfe1 h4 hv1 em en eip hst=>?_
  simp only [a9,aT,aK,aS]
  refine jJ h4 fun b5 M5' lm5 h5'=>?_
  refine stW (vs:=lB 0 0 0 x.r.1 x.r.2 x.e.1 x.e.2 0) p5 (by rfl) dW h5' fun M5 h5=>?_
  all_goals
   obtain ⟨hx1,hx3⟩:=huniq x hxI (hxy.trans hyh) (fun w hw hwh hwc=>hb w hw (hwh.trans hyh.symm) hwc)
   rw [←hAB] at hv1
   rw [hIl] at hst
   have hkey:x.e.1 = x0.2.1:=by rw [hx3,hje]
   have o5:=(h5.aY fun h=>h.right).di
   have c5:=(h5.aY fun h=>h.right).ck
   simp only [mQ W.c25 h5.h.aZ (o:=0) rfl,mQ W.c2 h5.h.aZ (o:=5) rfl,D9 o5,aC,aK,bK]
   rw [bX,if_pos rfl]
   refine aIW c5 ?_
   rw [bT,vY,eK]
   by_cases hdue:d.now < x0.2.1
   ·rw [if_neg (by have:=hv.now;omega)]
    refine none_ok F3 M5 b5 S1 _ ?_ (Mem.le_refl _) (hv.aKA hv1 em en eip) hst hfa1 hfe1 em h5
    rw [xN (aB5 hq) rfl]
    show (match pT d.l cq with | none=>_ | some y=>_) = _
    rw [hf]
    simp only
    rw [if_pos hdue]
   ·rw [if_pos (by have:=hv.now;omega)]
    exact fire_ok F3 M5 b5 S1 _ x0 (by rfl) hf hdue (Mem.le_refl _) (hv.aKA hv1 em en eip) hst hfa1 hfe1 em h5
end
end HL
namespace HL
section
variable {w0:World} {F M:Mem} {R:VP} {os:vC} {X:vV} {Y:DSt} {S:QS} {P:PS V5} {Q:cW} {now K most b l tp:Int} {r0 r1:dL} {oa oe ob ow:Obj} {d:rS} {tm:Int} {c:rR} {oW:dL→Option dL} {wh:dL→Option Int}
theorem sH.mono {Y':DSt} {k j:Int} (h:sH Y Y' k) (hk:k≤j):sH Y Y' j:=⟨h.b,h.l,h.t,fun h0=>by have:=h.s h0;omega⟩
theorem aJI (o:cN w0 M X.bc [.int .i64 now] aCT) (h:R (.int .i64 now) M):C PP w0 Id.eH #[.pointer (some ⟨X.bc,0,none⟩)] R M:=by
 apply eH.go
 unfold eH.T aL
 simp only [aX,add_eq,Nat.zero_add,mQ W.c2 o (o:=0) rfl,aC,aK]
 exact h
theorem aKU {x:Int} (hn:cM now) (hx:cM x) (h:HO w0 F M (DO X oa oe ob ow os) (DB X S P now K most r0 r1 b l tp Q))
  (h0:x < 0→R (.int .i64 1) M) (h1:0≤x→∀ M',HO w0 F M' (DO X oa oe ob ow os) (DB X S P (jY now x) K most r0 r1 b l tp Q)→R (.int .i64 0) M') :
  C PP w0 Id.eU #[.pointer (some ⟨X.bc,0,none⟩),.int .i64 x] R M:=by
 apply eU.go
 unfold eU.T aL
 rw [eK]
 split
 ·exact h0 (by assumption)
 ·simp only [aX,add_eq,Nat.zero_add,mQ W.c2 h.ck (o:=0) rfl,aC,aK]
  refine uH hn hx ?_
  simp only [aK]
  have h2:HO w0 F M (DO X oa oe ob ow os) (star (aW X.bc [.int .i64 now] aCT) (star (wW X.bh S.hp) (star (qU X.bi S.ip) (star (aW X.q (qV X.a X.t X.me S.most S.next) tQs) (star (aF X.a S.α) (star (pE X.pj P) (star (aW X.d (dV X K most r0 r1 b l tp) tDi) Q))))))) :=
   h.aY fun h=>(h.nX fun _ _ h=>(h.nX fun _ _ h=>(h.nX fun _ _ h=>(h.nX fun _ _ h=>h.dX).dX).dX).dX).dX
  refine aCi (o:=0) W.c2 (by simp) rfl rfl h2 fun M3 h3=>?_
  refine h1 (by omega) M3 (h3.aY fun h=>h.dX.nX fun _ _ h=>h.dX.nX fun _ _ h=>h.dX.nX fun _ _ h=>h.dX.nX fun _ _ h=>h.dX)
theorem aHV {F1:Mem} {b3:Nat} {z:List Value} {rp:fA} (l1:Mem.le F F1) (hz:z.length = 6) (hD:lU w0 F1 M os X Y (star (aW b3 z iJ) Q)) {K:VP} (hK:∀ M',lU w0 F M' os X Y Q→K rp.v M') :
  (aJ PP w0).st iJ ⟨b3,0,none⟩ (.agg #[.int .i64 rp.why,.int .i64 rp.at_,.int .i64 rp.gen,.int .i64 rp.time,.int .i64 rp.data,.int .i64 rp.n]) (fun M1=>HL.ob ((aJ PP w0).rdv iJ (.pointer (some ⟨b3,0,none⟩)) M1) fun v=>K v M1) M:=by
 obtain ⟨oa,oe,ob,ow,hfa,hfe,hfb,hfw,h⟩:=hD
 refine jL (vs:=rp.cells) lG (by rw [hz];rfl) (iA _) (h.aY aA.xA) fun M2 h2=>?_
 exact hK M2 ⟨oa,oe,ob,ow,hfa,hfe,hfb,hfw,h2.fQ l1⟩
theorem wM {why:Int} (hD:lU w0 F M os X Y Q) (hK:∀ M',lU w0 F M' os X Y Q→R (fA.v { why:=why }) M'):C PP w0 Id.cB #[.int .i64 why] R M:=by
 obtain ⟨oa,oe,ob,ow,hfa,hfe,hfb,hfw,h⟩:=hD
 exact pN h fun M' h'=>hK M' ⟨oa,oe,ob,ow,hfa,hfe,hfb,hfw,h'⟩
theorem lU.di (hD:lU w0 F M os X Y Q):cN w0 M X.d (dV X Y.K Y.S.most Y.y0.h Y.y1.h Y.cP Y.last Y.top) tDi:=by
 obtain ⟨oa,oe,ob,ow,hfa,hfe,hfb,hfw,h⟩:=hD
 exact h.di
theorem lU.fr (hD:lU w0 F M os X Y Q):Mem.le F M:=by
 obtain ⟨oa,oe,ob,ow,hfa,hfe,hfb,hfw,h⟩:=hD
 exact h.fr
def aAw (n:Nat):Int:=2 * dK (n + 1) + 10
theorem aKR (hX:zA w0 F X) (hD:lU w0 F M os X Y Q) (hv:dJ Y d tm) (htm:tm≤900000) (hct:cM c.time)
  (hK:∀ M' Y',lU w0 F M' os X Y' Q→dJ Y' (gC d c).1 (tm + 1)→sH Y Y' (aAw d.l.length)→R (gC d c).2.v M') :
  C PP w0 Id.fJ #[.pointer (some ⟨X.d,0,none⟩),c.v] R M:=by
 have hl1:dK d.l.length≤dK (d.l.length + 1):=pO (by omega)
 have hl0:0≤dK d.l.length:=by unfold dK;omega
 have hsm:∀ k:Int,k≤2 * dK (d.l.length + 1) + 10→k≤aAw d.l.length:=fun k hk=>hk
 apply fJ.go
 intro aB H
 unfold fJ.T aL
 have hD0:=hD
 obtain ⟨oa,oe,ob,ow,hfa,hfe,hfb,hfw,h⟩:=hD0
 refine rT h fun b1 F1 M1 l1 lm1 o1 h1=>?_
 have hX1:=hX.le l1
 refine jJ h1 fun b3 M2 lm2 h2'=>?_
 have h2:=h2'.aY aA.zC
 have hD2:lU w0 F1 M2 os X Y (star (aW b3 [.int .i64 0,.int .i64 0,.int .i64 0,.int .i64 0,.int .i64 0,.int .i64 0] iJ) Q):=⟨oa,oe,ob,ow,hfa,hfe,hfb,hfw,h2⟩
 have hc0:∀ {M':Mem},Mem.le F1 M'→(aJ PP w0).ld 3 ⟨b1,0,none⟩ M' = some (.int .i64 c.kind):=fun hl=>mQ W.c3 (o1.le hl) rfl
 have hc1:∀ {M':Mem},Mem.le F1 M'→(aJ PP w0).ld 3 ⟨b1,1,none⟩ M' = some (.int .i64 c.queue):=fun hl=>mQ W.c3 (o1.le hl) rfl
 have hc2:∀ {M':Mem},Mem.le F1 M'→(aJ PP w0).ld 33 ⟨b1,2,none⟩ M' = some (.agg #[.int .i64 c.at_,.int .i64 c.gen]):=fun hl=>kQ (vs:=[.int .i64 c.at_,.int .i64 c.gen]) bA (o1.le hl) (qK rfl rfl)
 have hc4:∀ {M':Mem},Mem.le F1 M'→(aJ PP w0).ld 2 ⟨b1,4,none⟩ M' = some (.int .i64 c.time):=fun hl=>mQ W.c2 (o1.le hl) rfl
 have hcc:∀ {M':Mem},Mem.le F1 M'→(aJ PP w0).ld iE ⟨b1,0,none⟩ M' = some c.v:=fun hl=>fF (vs:=c.cells) W.g68 (o1.le hl)
 have key2:∀ M3,¬ qN c→lU w0 F1 M3 os X Y (star (aW b3 [.int .i64 0,.int .i64 0,.int .i64 0,.int .i64 0,.int .i64 0,.int .i64 0] iJ) Q)→fJ.J2 aB (some ⟨X.d,0,none⟩) ⟨b1,0,none⟩ ⟨b3,0,none⟩ M3:=by
  intro M3 hnb hD3
  have fin:∀ (M5:Mem) (Y':DSt) (k:Int),lU w0 F1 M5 os X Y' (star (aW b3 [.int .i64 0,.int .i64 0,.int .i64 0,.int .i64 0,.int .i64 0,.int .i64 0] iJ) Q)→dJ Y' (gC d c).1 (tm + 1)→sH Y Y' k→k≤2 * dK (d.l.length + 1) + 10 →
    (aJ PP w0).st iJ ⟨b3,0,none⟩ (.agg #[.int .i64 (gC d c).2.why,.int .i64 (gC d c).2.at_,.int .i64 (gC d c).2.gen,.int .i64 (gC d c).2.time,.int .i64 (gC d c).2.data,.int .i64 (gC d c).2.n]) (fun M1=>HL.ob ((aJ PP w0).rdv iJ (.pointer (some ⟨b3,0,none⟩)) M1) fun v=>R v M1) M5 :=
   fun M5 Y' k hD5 hv5 hst hk=>aHV l1 (by rfl) hD5 fun M' h'=>hK M' Y' h' hv5 (hst.mono hk)
  refine Eq.mpr (H.J2 ..) ?_
  unfold fJ.J2.T aL
  simp (config:={ maxSteps:=10000000 }) only [aX,add_eq,Nat.zero_add,hc0 hD3.fr,aC,aK]
  rw [fB]
  split
  ·rename_i hk
   have hq:c.queue = 0∨c.queue = 1:=by unfold qN at hnb;omega
   simp only [hcc hD3.fr,rR.v,aC,a9,aT,aK,aS]
   refine aDX hX1 hD3 hv htm hk hq fun M5 Y' hD5 hv5 hst=>?_
   simp only [fA.v,a9,aT,aK,aS]
   exact fin M5 Y' _ hD5 hv5 hst (by omega)
  rename_i hk1
  rw [fB]
  split
  ·rename_i hk
   simp only [hcc hD3.fr,rR.v,aC,a9,aT,aK,aS]
   refine aGf hX1 hD3 hv htm hk fun M5 Y' hD5 hv5 hst=>?_
   simp only [fA.v,a9,aT,aK,aS]
   exact fin M5 Y' _ hD5 (hv5.uU (by omega)) hst (by omega)
  rename_i hk2
  rw [fB]
  split
  ·rename_i hk
   simp only [hc2 hD3.fr,aC,a9,aT,aK,aS]
   refine aF4 hX1 hD3 hv htm hk fun M5 Y' hD5 hv5 hst=>?_
   simp only [fA.v,a9,aT,aK,aS]
   exact fin M5 Y' _ hD5 hv5 hst (by omega)
  rename_i hk3
  rw [fB]
  split
  ·rename_i hk
   rw [aCN hk] at fin
   obtain ⟨oa3,oe3,ob3,ow3,gfa,gfe,gfb,gfw,g3⟩:=hD3
   simp only [D9 g3.di,hc4 g3.fr,aC,bK,aK]
   have hn64:cM Y.now:=by rw [hv.now];exact hv.aBv
   refine aKU hn64 hct g3 (fun hneg=>?_) fun hpos M4 g4=>?_
   ·rw [if_pos hneg] at fin
    rw [aK,bX,if_neg (by decide)]
    refine wM (Y:=Y) ⟨oa3,oe3,ob3,ow3,gfa,gfe,gfb,gfw,g3⟩ fun M5 hD5=>?_
    simp only [fA.v,a9,aT,aK,aS]
    exact fin M5 Y 0 hD5 (hv.uU (by omega)) (sH.aCp (Int.le_refl _)) (by omega)
   ·rw [if_neg (by omega)] at fin
    rw [aK,bX,if_pos rfl]
    simp only [D9 g4.di,aC,bK]
    refine aJI g4.ck ?_
    rw [hv.now] at g4 ⊢
    simp only [aK,bR2,aC,a9,aT,aS]
    exact fin M4 { Y with now:=jY d.now c.time } 0 ⟨oa3,oe3,ob3,ow3,gfa,gfe,gfb,gfw,g4⟩ ((hv.go aCR).uU (by omega)) ⟨rfl,rfl,rfl,fun h0=>by
     show Y.S.α.steps≤_∧Y.S.α.steps≤Y.S.α.steps∧Y.S.α.steps≤Y.S.α.steps + 0;omega⟩ (by omega)
  rename_i hk4
  rw [fB]
  split
  ·rename_i hk
   have hq:c.queue = 0∨c.queue = 1:=by unfold qN at hnb;omega
   simp only [hc1 hD3.fr,aC,aK]
   refine aI8 hX1 hD3 hv htm hk hq fun M5 Y' hD5 hv5 hst=>?_
   simp only [fA.v,a9,aT,aK,aS]
   exact fin M5 Y' _ hD5 hv5 hst (by omega)
  rename_i hk5
  rw [fB]
  split
  ·rename_i hk
   have hq:c.queue = 0∨c.queue = 1:=by unfold qN at hnb;omega
   simp only [hc1 hD3.fr,aC,aK]
   rw [fB]
   split
   ·rename_i hq0
    rw [aBo hnb hk,if_pos hq0] at fin
    refine wM hD3 fun M5 hD5=>?_
    simp only [fA.v,a9,aT,aK,aS]
    exact fin M5 Y 0 hD5 (hv.uU (by omega)) (sH.aCp (Int.le_refl _)) (by omega)
   ·rename_i hq0
    refine aGN hX1 hD3 hv htm hk (by omega) fun M5 Y' hD5 hv5 hst=>?_
    simp only [fA.v,a9,aT,aK,aS]
    exact fin M5 Y' _ hD5 hv5 hst (by omega)
  rename_i hk6
  rw [fB]
  split
  ·rename_i hk
   rw [aCM hnb hk] at fin
   obtain ⟨oa3,oe3,ob3,ow3,gfa,gfe,gfb,gfw,g3⟩:=hD3
   obtain ⟨e1,e2,e3,e4,e5⟩:=hv.w7
   simp only [D7 g3.di,hc1 g3.fr,aC,aK,bK]
   refine aGv hX1.j g3.toJ (by omega) hv.pg1 fun M4 g4'=>?_
   have g4:=g4'.ofJ
   rw [hv.cnt]
   simp only [aK,bR4,aC,a9,aT,aS]
   exact fin M4 Y 0 ⟨oa3,oe3,ob3,ow3,gfa,gfe,gfb,gfw,g4⟩ (hv.uU (by omega)) (sH.aCp (Int.le_refl _)) (by omega)
  ·rw [aCH (by omega)] at fin
   refine wM hD3 fun M5 hD5=>?_
   simp only [fA.v,a9,aT,aK,aS]
   exact fin M5 Y 0 hD5 (hv.uU (by omega)) (sH.aCp (Int.le_refl _)) (by omega)
 have key1:∀ M3 (rt:Bool),(rt = true↔(0≤c.queue∧c.queue < 2))→lU w0 F1 M3 os X Y (star (aW b3 [.int .i64 0,.int .i64 0,.int .i64 0,.int .i64 0,.int .i64 0,.int .i64 0] iJ) Q)→fJ.J1 aB (some ⟨X.d,0,none⟩) ⟨b1,0,none⟩ ⟨b3,0,none⟩ rt M3:=by
  intro M3 rt hrt hD3
  have bad:qN c→C PP w0 Id.cB #[.int .i64 1] (fun v M=>shA v fun n=>cK n fun u r=>lT .i64 u fun n=>cK r fun u r=>lT .i64 u fun n_1=>cK r fun u r=>lT .i64 u fun n_2=>cK r fun u r=>lT .i64 u fun n_3=>cK r fun u r=>lT .i64 u fun n_4=>cK r fun u r=>lT .i64 u fun n_5=>qA r ((aJ PP w0).st iJ ⟨b3,0,none⟩ (.agg #[.int .i64 n,.int .i64 n_1,.int .i64 n_2,.int .i64 n_3,.int .i64 n_4,.int .i64 n_5]) (fun M=>HL.ob ((aJ PP w0).rdv iJ (.pointer (some ⟨b3,0,none⟩)) M) fun v=>R v M) M)) M3:=by
   intro hb
   rw [vG hb] at hK
   refine wM hD3 fun M5 hD5=>?_
   simp only [fA.v,a9,aT,aK,aS]
   exact aHV (rp:={ why:=1 }) l1 (by rfl) hD5 fun M' h'=>hK M' Y h' (hv.uU (by omega)) (sH.aCp (by unfold aAw;omega))
  refine Eq.mpr (H.J1 ..) ?_
  unfold fJ.J1.T aL
  simp only [hc0 hD3.fr,aC,aK,fB,vY]
  cases hr:rt with
  | true =>
   have hnb:¬ qN c:=by have:=hrt.1 hr;unfold qN;omega
   simp only [dY,ite_self]
   exact key2 M3 hnb hD3
  | false =>
   have hq:c.queue < 0∨2≤c.queue:=by
    have:¬ (0≤c.queue∧c.queue < 2):=fun h=>by rw [hrt.2 h] at hr;cases hr
    omega
   simp only [mY]
   by_cases h1:c.kind = 1
   ·rw [if_pos h1,if_pos h1];exact bad ⟨.inl h1,hq⟩
   ·rw [if_neg h1]
    by_cases h5:c.kind = 5
    ·rw [if_pos h5,if_pos h5];exact bad ⟨.inr (.inl h5),hq⟩
    ·rw [if_neg h5]
     by_cases h6:c.kind = 6
     ·rw [if_pos h6,if_pos h6];exact bad ⟨.inr (.inr (.inl h6)),hq⟩
     ·rw [if_neg h6]
      by_cases h7:c.kind = 7
      ·rw [if_pos h7];exact bad ⟨.inr (.inr (.inr h7)),hq⟩
      ·rw [if_neg h7];exact key2 M3 (by unfold qN;omega) hD3
 simp only [add_eq,Nat.zero_add,hc1 hD2.fr,aC,aK]
 rw [eK]
 split
 ·exact key1 M2 _ (by rw [decide_eq_true_eq];omega) hD2
 ·exact key1 M2 _ (by constructor;(intro h;cases h);omega) hD2
end
end HL
namespace HL
structure aD5 (Y:DSt):Prop where
 b:Y.cP = 2000 + 1600 * (bl (Y.S.most.toNat + 1):Int)
 l:Y.last≤Y.cP
 t0:0≤Y.top
 t:Y.top≤Y.cP
section
variable {w0:World} {F M:Mem} {R:VP} {os:vC} {X:vV} {Y:DSt} {S:QS} {P:PS V5} {Q:cW} {now K most b l tp:Int} {r0 r1:dL} {oa oe ob ow:Obj} {d:rS} {tm:Int} {c:rR} {oW:dL→Option dL} {wh:dL→Option Int}
theorem D10 (o:cN w0 M X.d (dV X K most r0 r1 b l tp) tDi):(aJ PP w0).ld 2 ⟨X.d,10,none⟩ M = some (.int .i64 b):=mQ W.c2 o rfl
theorem D11 (o:cN w0 M X.d (dV X K most r0 r1 b l tp) tDi):(aJ PP w0).ld 2 ⟨X.d,11,none⟩ M = some (.int .i64 l):=mQ W.c2 o rfl
theorem D12 (o:cN w0 M X.d (dV X K most r0 r1 b l tp) tDi):(aJ PP w0).ld 2 ⟨X.d,12,none⟩ M = some (.int .i64 tp):=mQ W.c2 o rfl
theorem aL2 {v:Int} (h:HO w0 F M (DO X oa oe ob ow os) (DB X S P now K most r0 r1 b l tp Q)) {K':Mem→Prop} (hK:∀ M',HO w0 F M' (DO X oa oe ob ow os) (DB X S P now K most r0 r1 b v tp Q)→K' M'):(aJ PP w0).st 2 ⟨X.d,11,none⟩ (.int .i64 v) (fun M'=>K' M') M :=
 aCi (o:=11) W.c2 (by simp) rfl rfl (h.aY aA.sev) fun M' h'=>hK M' (h'.aY aA.bck)
theorem aL9 {v:Int} (h:HO w0 F M (DO X oa oe ob ow os) (DB X S P now K most r0 r1 b l tp Q)) {K':Mem→Prop} (hK:∀ M',HO w0 F M' (DO X oa oe ob ow os) (DB X S P now K most r0 r1 b l v Q)→K' M'):(aJ PP w0).st 2 ⟨X.d,12,none⟩ (.int .i64 v) (fun M'=>K' M') M :=
 aCi (o:=12) W.c2 (by simp) rfl rfl (h.aY aA.sev) fun M' h'=>hK M' (h'.aY aA.bck)
theorem aFQ {c:rR}:(gC d c).1.most = d.most:=by
 have ho:∀ k,(d.out k).most = d.most:=fun k=>by unfold rS.out;split <;> rfl
 by_cases hb:qN c
 ·rw [vG hb]
 ·rcases (by omega:c.kind = 1∨(c.kind = 2∨c.kind = 3)∨c.kind = 4∨c.kind = 5∨c.kind = 6∨c.kind = 7∨(c.kind < 1∨7 < c.kind)) with h | h | h | h | h | h | h
  ·rw [aBk hb h];split <;> rfl
  ·rw [yT h]
   split
   ·rfl
   ·split
    ·rfl
    ·split
     ·rfl
     ·split
      ·exact ho _
      ·split <;> rfl
  ·rw [aCN h];split <;> rfl
  ·rw [xN hb h]
   split
   ·rfl
   ·split
    ·rfl
    ·split
     ·rfl
     ·exact ho _
  ·rw [aBo hb h];split <;> rfl
  ·rw [aCM hb h]
  ·rw [aCH h]
theorem aGO (hX:zA w0 F X) (hD:lU w0 F M os X Y Q) (hv:dJ Y d tm) (hb:aD5 Y) (htm:tm≤900000) (hct:cM c.time)
  (hK:∀ M' Y',lU w0 F M' os X Y' Q→dJ Y' (gC d c).1 (tm + 1)→aD5 Y'→Y'.cP = Y.cP→R (gC d c).2.v M') :
  C PP w0 Id.vX #[.pointer (some ⟨X.d,0,none⟩),c.v] R M:=by
 obtain ⟨oa,oe,ob,ow,hfa,hfe,hfb,hfw,h⟩:=hD
 obtain ⟨e1,e2,e3,e4,e5⟩:=hv.w7
 have hst0:=hv.q.inv.steps
 apply vX.go
 unfold vX.T aL
 refine rT h fun b1 F1 M1 l1 lm1 o1 h1=>?_
 have hX1:=hX.le l1
 refine jJ h1 fun b3 M2 lm2 h2'=>?_
 have h2:=h2'.aY aA.zC
 simp (config:={ maxSteps:=10000000 }) only [aX,add_eq,Nat.zero_add,D2 h2.di,aC,bK]
 refine aBG h2 ?_
 have hcc:∀ {M':Mem},Mem.le F1 M'→(aJ PP w0).ld iE ⟨b1,0,none⟩ M' = some c.v:=fun hl=>fF (vs:=c.cells) W.g68 (o1.le hl)
 simp only [aK,hcc h2.fr,rR.v,aC,a9,aT,aS]
 refine aKR hX1 ⟨oa,oe,ob,ow,hfa,hfe,hfb,hfw,h2⟩ hv htm hct fun M3 Y' hD3 hv3 hstp=>?_
 obtain ⟨oa',oe',ob',ow',gfa,gfe,gfb,gfw,g3⟩:=hD3
 simp only [fA.v,a9,aT,aK,aS]
 refine kE (vs:=(gC d c).2.cells) lG (by rfl) (iA _) g3 fun b4 F4 M4 l4 o4 g4=>?_
 simp only [D2 g4.di,aC,bK]
 refine aBG g4 ?_
 have hs:=hstp.s ⟨hst0.1,hst0.2.2⟩
 have hm':Y'.S.most = Y.S.most:=by
  have a1:=hv3.most
  have a2:=hv.most
  have a3:(gC d c).1.most = d.most:=aFQ
  omega
 have hbu:aAw d.l.length≤Y.cP:=by
  rw [hb.b]
  unfold aAw dK
  have hb1:bl (d.l.length + 1)≤bl (Y.S.most.toNat + 1):=aC1 (by have:=hv.most;omega)
  omega
 have hw:qB (Y'.S.α.steps - Y.S.α.steps) = Y'.S.α.steps - Y.S.α.steps:=bC (by omega)
 simp only [aK,hw]
 refine aL2 g4 fun M5 g5=>?_
 simp only [D12 g5.di,D11 g5.di,aC,aK]
 refine aL9 g5 fun M6 g6=>?_
 simp only [D11 g6.di,D10 g6.di,aC,aK]
 rw [eK,if_neg (by have:=hstp.b;omega)]
 simp only [fF (vs:=(gC d c).2.cells) lG (o4.le g6.fr),aC,a9,aT,aK,aS]
 refine jL (vs:=(gC d c).2.cells) lG (by rfl) (iA _) (g6.aY aA.xA) fun M7 g7=>?_
 have htop:=hstp.t
 have hbb:=hstp.b
 refine hK M7 { Y' with last:=Y'.S.α.steps - Y.S.α.steps,top:=if Y'.S.α.steps - Y.S.α.steps > Y'.top then Y'.S.α.steps - Y.S.α.steps else Y'.top } ⟨oa',oe',ob',ow',gfa,gfe,gfb,gfw,(g7.fQ l4).fQ l1⟩ ⟨hv3.q,hv3.K3,hv3.k0,hv3.k1,hv3.pk,hv3.ipk,hv3.most,hv3.now,hv3.aBv,hv3.nx,hv3.par,hv3.qr,hv3.jf,hv3.jb,hv3.jb2,hv3.jw,hv3.lv,hv3.sn,hv3.sl⟩ ⟨?_,?_,?_,?_⟩ hstp.b
 ·show Y'.cP = 2000 + 1600 * (bl (Y'.S.most.toNat + 1):Int)
  rw [hbb,hb.b,hm']
 ·show Y'.S.α.steps - Y.S.α.steps≤Y'.cP
  omega
 ·show 0≤if Y'.S.α.steps - Y.S.α.steps > Y'.top then Y'.S.α.steps - Y.S.α.steps else Y'.top
  have:=hb.t0
  split <;> omega
 ·show (if Y'.S.α.steps - Y.S.α.steps > Y'.top then Y'.S.α.steps - Y.S.α.steps else Y'.top)≤Y'.cP
  have:=hb.t
  split <;> omega
theorem aBa (hD:lU w0 F M os X Y Q) (hK:R (.int .i64 Y.cP) M):C PP w0 Id.kC #[.pointer (some ⟨X.d,0,none⟩)] R M:=by
 apply kC.go
 unfold kC.T aL
 simp only [aX,add_eq,Nat.zero_add,D10 hD.di,aC,aK]
 exact hK
theorem aDK (hD:lU w0 F M os X Y Q) (hK:R (.int .i64 Y.last) M):C PP w0 Id.pC #[.pointer (some ⟨X.d,0,none⟩)] R M:=by
 apply pC.go
 unfold pC.T aL
 simp only [aX,add_eq,Nat.zero_add,D11 hD.di,aC,aK]
 exact hK
theorem aHo (hD:lU w0 F M os X Y Q) (hK:R (.int .i64 Y.top) M):C PP w0 Id.oQ #[.pointer (some ⟨X.d,0,none⟩)] R M:=by
 apply oQ.go
 unfold oQ.T aL
 simp only [aX,add_eq,Nat.zero_add,D12 hD.di,aC,aK]
 exact hK
theorem HO.beside {A B:cW} {M':Mem} (h:HO w0 F M os A) (h2:aA w0 M M' B):HO w0 F M' os (star B A) :=
 ⟨h.nd,fun x hx=>⟨(h.at_ x hx).1,(h.at_ x hx).2.1,h2.fr _ _ (h.at_ x hx).2.2⟩,h.h.beside h2⟩
theorem aIV {A:cW} {n:Int} (h:HO w0 F M os A) (h1:1≤n) (h2:n≤300)
  (hK:∀ F' M' t bh bi ma oa,Mem.le F F'→cN w0 F' t (wT bh bi ma) wX→dI (Value.int .i64) bV (fun _=>none) oa→HO w0 F' M' ((ma,oa)::os) (star (wW bh ⟨64,[],[]⟩) (star (qU bi ⟨n,[],[]⟩) A))→R (.pointer (some ⟨t,0,none⟩)) M') :
  C PP w0 Id.kG #[.int .i64 n] R M:=by
 apply kG.go
 unfold kG.T aL
 obtain ⟨F1,hB,l1,back⟩:=h.xJ
 refine aJp hB (by omega) (by omega) fun M1 bh h1'=>?_
 have g1:=back M1 _ h1'
 rw [bK,show (if (if 16384 < n then (16384:Int) else n) > 1 then (if 16384 < n then (16384:Int) else n) else 1) = n from by rw [if_neg (by omega:¬ 16384 < n)];split <;> omega]
 obtain ⟨F2,hB2,l2,back2⟩:=g1.xJ
 refine aJM hB2 (by omega) (by omega) fun M2 bi h2'=>?_
 have g2:=back2 M2 _ h2'
 rw [bK]
 refine aIP (kf:=Value.int .i64) (vf:=bV) fun ma oa hm hw hf=>?_
 have g3:=g2.new hw hm (o:=oa)
 generalize Mem.set M2 ma _ = M3 at g3 ⊢
 have hbld:(aJ PP w0).pD 156 [(0,.pointer (some ⟨bh,0,none⟩)),(1,.pointer (some ⟨bi,0,none⟩)),(2,.map (some ma))] = some (.agg #[.pointer (some ⟨bh,0,none⟩),.pointer (some ⟨bi,0,none⟩),.map (some ma)]):=by kernel_rfl
 simp only [hbld,aC,a9,aT,bK,aS]
 refine rT g3 fun t F4 M4 l4 lm4 o4 g4=>?_
 exact hK F4 M4 t bh bi ma oa l4 o4 hf (g4.aY aA.dX)
theorem aFA {A:cW} {n:Nat} (h:HO w0 F M os A) (h1:1≤n) (h2:n≤300)
  (hK:∀ F' M' q a t bh bi ma me oa oe,Mem.le F F'→cN w0 F' t (wT bh bi ma) wX→dI (Value.int .i64) bV (fun _=>none) oa→dI bV mD (fun _=>none) oe →
   HO w0 F' M' ((ma,oa)::(me,oe)::os) (QA q a t bh bi me ⟨n,0,AS.new (2 * n),⟨64,[],[]⟩,⟨n,[],[]⟩,fun _=>none,fun _=>none⟩ A)→R (.tuple #[.pointer (some ⟨q,0,none⟩),.int .i64 0]) M') :
  C PP w0 Id.jK #[.int .i64 n] R M:=by
 apply jK.go
 intro aB H
 unfold jK.T aL
 (rw [eK,if_neg (by omega),eK,if_neg (by omega)];refine Eq.mpr (H.J1 ..) ?_)
 unfold jK.J1.T aL
 rw [show qB (2 * (n:Int)) = ((2 * n:Nat):Int) from by rw [bC (by omega)];omega]
 refine aKV fun M1 a hA=>?_
 rw [show (if (if 65536 < ((2 * n:Nat):Int) then (65536:Int) else ((2 * n:Nat):Int)) > 0 then (if 65536 < ((2 * n:Nat):Int) then (65536:Int) else ((2 * n:Nat):Int)) else 0).toNat = 2 * n from by
  rw [if_neg (by omega:¬ 65536 < ((2 * n:Nat):Int))];split <;> omega] at hA
 have g1:=h.beside hA
 rw [bK]
 refine aIV g1 (by omega) (by omega) fun F2 M2 t bh bi ma oa l2 o2 hfa g2=>?_
 rw [bK]
 refine aIP (kf:=bV) (vf:=mD) fun me oe hm hw hf=>?_
 have g3:=g2.new hw hm (o:=oe)
 generalize Mem.set M2 me _ = M3 at g3 ⊢
 have hbld:(aJ PP w0).pD tQs [(0,.int .i64 n),(1,.pointer (some ⟨a,0,none⟩)),(2,.pointer (some ⟨t,0,none⟩)),(3,.map (some me))] = some (.agg #[.int .i64 n,.pointer (some ⟨a,0,none⟩),.pointer (some ⟨t,0,none⟩),.map (some me),.int .i64 0]):=by kernel_rfl
 simp only [hbld,aC,a9,aT,bK,aK,aS]
 refine jJ g3 fun q M4 lm4 g4=>?_
 refine hK F2 M4 q a t bh bi ma me oa oe l2 o2 hfa hf ((g4.aY fun h=>h.dX.nX fun _ _ h=>h.dX).perm (List.Perm.swap _ _ _))
end
end HL
namespace HL
section
variable {w0:World} {F M:Mem}
theorem aA.dp5 {X A B C D E Q:cW} (h:aA w0 F M (star X (star A (star B (star C (star D (star E Q))))))):aA w0 F M (star A (star B (star C (star D (star E (star X Q)))))) :=
 h.dX.nX fun _ _ h=>h.dX.nX fun _ _ h=>h.dX.nX fun _ _ h=>h.dX.nX fun _ _ h=>h.dX
theorem aA.dp6 {X A B C D E G Q:cW} (h:aA w0 F M (star X (star A (star B (star C (star D (star E (star G Q)))))))):aA w0 F M (star A (star B (star C (star D (star E (star G (star X Q))))))) :=
 h.dX.nX fun _ _ h=>h.dX.nX fun _ _ h=>h.dX.nX fun _ _ h=>h.dX.nX fun _ _ h=>h.dX.nX fun _ _ h=>h.dX
end
section
variable {w0:World} {F M:Mem} {R:VP} {os:vC} {A:cW}
theorem aIO {n:Int} (h:HO w0 F M os A) (h1:1≤n) (h2:n≤300)
  (hK:∀ F' M' jt pj mb ob,Mem.le F F'→cN w0 F' jt (jtV pj mb) tJt→dI bV bV (fun _=>none) ob→HO w0 F' M' ((mb,ob)::os) (star (pE pj ⟨n,[],[]⟩) A)→R (.pointer (some ⟨jt,0,none⟩)) M') :
  C PP w0 Id.mM #[.int .i64 n] R M:=by
 apply mM.go
 unfold mM.T aL
 obtain ⟨F1,hB,l1,back⟩:=h.xJ
 rw [show (if (if 4096 < n then (4096:Int) else n) > 1 then (if 4096 < n then (4096:Int) else n) else 1) = n from by rw [if_neg (by omega:¬ 4096 < n)];split <;> omega]
 refine aIK hB (by omega) (by omega) fun M1 pj h1'=>?_
 have g1:=back M1 _ h1'
 rw [bK]
 refine aIP (kf:=bV) (vf:=bV) fun mb ob hm hw hf=>?_
 have g3:=g1.new hw hm (o:=ob)
 generalize Mem.set M1 mb _ = M3 at g3 ⊢
 have hbld:(aJ PP w0).pD tJt [(0,.pointer (some ⟨pj,0,none⟩)),(1,.map (some mb))] = some (.agg #[.pointer (some ⟨pj,0,none⟩),.map (some mb)]):=by kernel_rfl
 simp only [hbld,aC,a9,aT,bK,aS]
 refine rT g3 fun jt F4 M4 l4 lm4 o4 g4=>?_
 exact hK F4 M4 jt pj mb ob l4 o4 hf g4
theorem aJE (h:HO w0 F M os A) (hK:∀ M' bc,HO w0 F M' os (star (aW bc [.int .i64 0] aCT) A)→R (.pointer (some ⟨bc,0,none⟩)) M'):C PP w0 Id.kT #[] R M:=by
 apply kT.go
 unfold kT.T aL
 have hbld:(aJ PP w0).pD aCT [] = some (.agg #[.int .i64 0]):=by kernel_rfl
 simp only [hbld,aC,a9,aT,aK,aS]
 exact jJ h fun bc M' lm h'=>hK M' bc h'
theorem aJi {k:Int} {n:Nat} (h:HO w0 F M os A) (hk1:1≤k) (hk3:k≤3) (h1:1≤n) (h2:n≤300)
  (hK:∀ F' M' X Y,Mem.le F F'→zA w0 F' X→lU w0 F' M' os X Y A→dJ Y (rS.new n) 2→aD5 Y→R (.tuple #[.pointer (some ⟨X.d,0,none⟩),.int .i64 0]) M') :
  C PP w0 Id.bG #[.int .i64 k,.int .i64 n] R M:=by
 apply bG.go
 intro aB H
 unfold bG.T aL
 have hw:sK k:=⟨hk1,hk3⟩
 refine aAQ ?_
 rw [bT,decide_eq_true hw,Bool.not_true,mY]
 refine aGk hw (by omega) (by omega) ?_
 rw [Int.toNat_natCast]
 simp only [cA,aT,aK,bT,aS,Bool.not_true,mY]
 refine aFA h h1 h2 fun F1 M1 q a t bh bi ma me oa oe l1 oT hfa hfe g1=>?_
 simp only [cA,aT,bK,aK,aS]
 refine aIO g1 (by omega) (by omega) fun F2 M2 jt pj mb ob l2 oJ hfb g2=>?_
 rw [bK]
 refine aIP (kf:=bV) (vf:=Value.int .i64) fun mw ow hm hw2 hfw=>?_
 have g3:=(g2.new hw2 hm (o:=ow)).aY aA.dp
 generalize Mem.set M2 mw _ = M3 at g3 ⊢
 refine aJE g3 fun M4 bc g4'=>?_
 have g4:=g4'.aY aA.dp5
 have hbld:(aJ PP w0).pD tDi [(0,.int .i64 k),(1,.int .i64 n),(2,.pointer (some ⟨q,0,none⟩)),(4,.pointer (some ⟨jt,0,none⟩)),(5,.map (some mw)),(6,.pointer (some ⟨bc,0,none⟩)),(7,.int .i64 (2000 + 1600 * (bl (n + 1):Int)))] =
   some (.agg #[.int .i64 k,.int .i64 n,.pointer (some ⟨q,0,none⟩),.int .i64 0,.int .i64 0,.int .i64 0,.int .i64 0,.pointer (some ⟨jt,0,none⟩),.map (some mw),.pointer (some ⟨bc,0,none⟩),.int .i64 (2000 + 1600 * (bl (n + 1):Int)),.int .i64 0,.int .i64 0]):=by kernel_rfl
 simp only [bK,hbld,aC,a9,aT,aK,aS]
 refine jJ g4 fun dd M5 lm5 g5'=>?_
 have hperm:((mw,ow)::(mb,ob)::(ma,oa)::(me,oe)::os).Perm ((ma,oa)::(me,oe)::(mb,ob)::(mw,ow)::os):=by
  refine (aFf (mw,ow) (mb,ob) (ma,oa) ((me,oe)::os)).trans (List.Perm.cons _ ?_)
  refine (aFf (mw,ow) (mb,ob) (me,oe) os).trans (List.Perm.cons _ ?_)
  exact List.Perm.swap _ _ _
 let X:vV:=⟨dd,q,a,t,bh,bi,me,ma,jt,pj,mb,mw,bc⟩
 have g5:HO w0 F2 M5 (DO X oa oe ob ow os) (DB X ⟨n,0,AS.new (2 * n),⟨64,[],[]⟩,⟨n,[],[]⟩,fun _=>none,fun _=>none⟩ ⟨n,[],[]⟩ 0 k n (0,0) (0,0) (2000 + 1600 * (bl (n + 1):Int)) 0 0 A) :=
  (g5'.aY aA.dp6).perm hperm
 have oT2:=oT.le l2
 have hv0:=dU.aK9 h1 h2
 refine ⟨3,?_⟩
 show bG.L1 aB (2 + 1) k (some ⟨q,0,none⟩) (some ⟨dd,0,none⟩) 0 M5
 refine Eq.mpr (H.L1 ..) ?_
 unfold bG.L1.T aL
 rw [eK,if_pos (by omega)]
 simp only [aX,add_eq,Nat.zero_add,wN,aC,a9,aT,aK,aS]
 refine uP oT2 hv0 (by omega) hk1 hk3 (by simp) g5 fun M6 S1 r g6 hv1 hnil1 em en eip eat een hst=>?_
 simp only [a9,aT,aK,aS]
 refine ⟨⟨by omega,by omega⟩,?_⟩
 refine aGD (o:=3) bA (by exact (by decide:5≤13)) iO (g6.aY aA.sev) fun M7 g7'=>?_
 have hov:dZ (dV X k n (0,0) (0,0) (2000 + 1600 * (bl (n + 1):Int)) 0 0) 3 [.int .i64 r.1,.int .i64 r.2] = dV X k n r (0,0) (2000 + 1600 * (bl (n + 1):Int)) 0 0:=by
  have:=eO [.int .i64 k,.int .i64 n,.pointer (some ⟨X.q,0,none⟩)] [.int .i64 0,.int .i64 0] [.int .i64 0,.int .i64 0,.pointer (some ⟨X.jt,0,none⟩),.map (some X.mw),.pointer (some ⟨X.bc,0,none⟩),.int .i64 (2000 + 1600 * (bl (n + 1):Int)),.int .i64 0,.int .i64 0] [.int .i64 r.1,.int .i64 r.2] rfl (o:=3) rfl
  simpa using this
 rw [hov] at g7'
 have g7:HO w0 F2 M7 (DO X oa oe ob ow os) (DB X S1 ⟨n,[],[]⟩ 0 k n r (0,0) (2000 + 1600 * (bl (n + 1):Int)) 0 0 A):=g7'.aY aA.bck
 show bG.L1 aB (1 + 1) k (some ⟨q,0,none⟩) (some ⟨dd,0,none⟩) (qB (0 + 1)) M7
 (rw [show qB (0 + 1) = 1 from rfl];refine Eq.mpr (H.L1 ..) ?_)
 unfold bG.L1.T aL
 rw [eK,if_pos (by omega)]
 simp only [aX,add_eq,Nat.zero_add,wN,aC,a9,aT,aK,aS]
 refine uP oT2 hv1 (by omega) hk1 hk3 (by simp) g7 fun M8 S2 r2 g8 hv2 hnil2 em2 en2 eip2 eat2 een2 hst2=>?_
 simp only [a9,aT,aK,aS]
 refine ⟨⟨by omega,by omega⟩,?_⟩
 refine aGD (o:=5) bA (by exact (by decide:7≤13)) iO (g8.aY aA.sev) fun M9 g9'=>?_
 have hov2:dZ (dV X k n r (0,0) (2000 + 1600 * (bl (n + 1):Int)) 0 0) 5 [.int .i64 r2.1,.int .i64 r2.2] = dV X k n r r2 (2000 + 1600 * (bl (n + 1):Int)) 0 0:=by
  have:=eO [.int .i64 k,.int .i64 n,.pointer (some ⟨X.q,0,none⟩),.int .i64 r.1,.int .i64 r.2] [.int .i64 0,.int .i64 0] [.pointer (some ⟨X.jt,0,none⟩),.map (some X.mw),.pointer (some ⟨X.bc,0,none⟩),.int .i64 (2000 + 1600 * (bl (n + 1):Int)),.int .i64 0,.int .i64 0] [.int .i64 r2.1,.int .i64 r2.2] rfl (o:=5) rfl
  simpa using this
 rw [hov2] at g9'
 have g9:HO w0 F2 M9 (DO X oa oe ob ow os) (DB X S2 ⟨n,[],[]⟩ 0 k n r r2 (2000 + 1600 * (bl (n + 1):Int)) 0 0 A):=g9'.aY aA.bck
 show bG.L1 aB (0 + 1) k (some ⟨q,0,none⟩) (some ⟨dd,0,none⟩) (qB (1 + 1)) M9
 (rw [show qB (1 + 1) = 2 from rfl];refine Eq.mpr (H.L1 ..) ?_)
 unfold bG.L1.T aL
 rw [eK,if_neg (by omega)]
 have hmo:S2.most = (n:Int):=em2.trans em
 have hfa2:dI (Value.int .i64) bV S2.at_ oa:=by rw [eat2,eat];exact hfa
 have hfe2:dI bV mD S2.en oe:=by rw [een2,een];exact hfe
 have hbl0:(0:Int)≤2000 + 1600 * (bl (n + 1):Int):=by omega
 refine hK F2 M9 X ⟨k,S2,[],⟨r,k, -1,[]⟩,⟨r2,k, -1,[]⟩,⟨n,[],[]⟩,fun _=>none,fun _=>none,0,2000 + 1600 * (bl (n + 1):Int),0,0⟩ (Mem.le_trans l1 l2) ⟨oT2,oJ⟩ (lU.of hfa2 hfe2 hfb hfw g9 hmo rfl rfl)
  ⟨hv2,⟨hk1,hk3⟩,rfl,rfl,rfl,by show S2.ip.pl = _;rw [eip2,eip];rfl,hmo,rfl,by show cM 0;unfold cM;omega,en2.trans en,rfl,fun j hj=>(by cases hj),fun j hj=>(by cases hj),fun j hj=>(by cases hj),fun r x hx=>(by cases hx),fun j hj=>(by cases hj),fun b g v hv=>?_,List.nodup_nil,fun j hj=>(by cases hj)⟩
  ⟨by show _ = 2000 + 1600 * (bl (S2.most.toNat + 1):Int);rw [hmo,Int.toNat_natCast],hbl0,Int.le_refl _,hbl0⟩
 ·obtain ⟨j,q1,q2,q3⟩:=PS.bH hv
  simp at q2
end
end HL
namespace HL
section
variable {w0:World} {M M0 F:Mem} {R:VP}
def emp:cW:=fun r=>r = []
end
end HL
namespace HL
section
variable {w0:World} {F M:Mem} {R:VP} {os:vC} {A:cW}
theorem aA.aKG:aA w0 M M emp:=⟨[],rfl,Fit.nil (Mem.le_refl _)⟩
theorem aEd {n lo hi:Int} (h1:lo≤n) (h2:n≤hi) (h:R (.int .i64 n) M):C PP w0 Id.cQ #[.int .i64 n,.int .i64 lo,.int .i64 hi] R M:=by
 apply cQ.go
 intro aB H
 unfold cQ.T aL
 simp only [eK]
 rw [if_pos (by omega),if_pos (by omega)]
 exact h
theorem aKE (h:R (.int .i64 500) M):C PP w0 Id.eZ #[.int .i64 1,.int .i64 1,.int .i64 0] R M:=by
 apply eZ.go
 intro aB H
 unfold eZ.T aL
 refine aB0 ?_
 rw [bT,decide_eq_true (by decide),dY,fB,if_neg (by decide)]
 refine aAQ ?_
 (rw [bT,decide_eq_true (show sK 1 by unfold sK;omega),Bool.not_true,mY];refine Eq.mpr (H.J1 ..) ?_)
 unfold eZ.J1.T aL
 simp only [fB]
 rw [if_neg (by decide),if_neg (by decide),if_neg (by decide),if_neg (by decide),if_neg (by decide),if_neg (by decide)]
 exact h
theorem aA6 (hK:∀ M',R (.bool true) M'):C PP w0 Id.eW #[] R M:=by
 apply eW.go
 intro aB H
 unfold eW.T aL
 refine aFA (n:=2) (HO.of (aA.aKG (w0:=w0) (M:=M))) (by decide) (by decide) fun F1 M1 q a t bh bi ma me oa oe l1 oT hfa hfe g1=>?_
 simp only [cA,aT,bK,aK,aS,aAp Tryz.underlying24,aC,bT,Option.isNone_some,mY]
 rw [bX,if_pos rfl]
 show eW.J1 aB (some ⟨q,0,none⟩) M1
 refine Eq.mpr (H.J1 ..) ?_
 unfold eW.J1.T aL
 have hv0:=dU.aK9 (most:=2) (by decide) (by decide)
 simp only [aX,add_eq,Nat.zero_add,wN,aC,a9,aT,aK,aS]
 refine uP oT hv0 (by omega) (by omega) (by omega) (by simp) g1 fun M2 S1 r g2 hv1 hnil em en eip eat een hst=>?_
 simp only [a9,aT,aK,aS]
 refine kE (vs:=lB 0 r.1 r.2 0 0 0 0 0) p5 (by rfl) dW g2 fun b3 F3 M3 l3 o3 g3=>?_
 have hr3:∀ {M':Mem} {e:TypeId},cN w0 M' b3 (lB 0 r.1 r.2 0 0 0 0 0) e→(aJ PP w0).ld 33 ⟨b3,1,none⟩ M' = some (.agg #[.int .i64 r.1,.int .i64 r.2]):=fun o=>kQ (vs:=[.int .i64 r.1,.int .i64 r.2]) bA o (qK rfl rfl)
 simp only [hr3 (o3.le g3.fr),aC,a9,aT,aK,aS,aBZ (h:=r)]
 have hfa1:dI (Value.int .i64) bV S1.at_ oa:=by rw [eat];exact hfa
 have hfe1:dI bV mD S1.en oe:=by rw [een];exact hfe
 refine uQ (A:=[]) (B:=[]) (y:=⟨r,1, -1,[]⟩) (oT.le l3) hv1 (by omega) (by rw [em];decide) hfa1 hfe1 g3 fun M4 S2 oa2 oe2 i y2 hat hfa2 hfe2 g4 ey1 ey2 hv2 em2 en2 eip2 hst2=>?_
 obtain ⟨cc,hv2⟩:=hv2
 simp only [a9,aT,aK,aS]
 refine kE (vs:=lB 0 0 0 i (S1.ip.gen i) 5 S1.next 0) p5 (by rfl) dW g4 fun b5 F5 M5 l5 o5 g5=>?_
 have o35:=o3.le l5
 simp only [hr3 (o35.le g5.fr),aC,a9,aT,aK,aS,zU (i:=r)]
 have eQ:eB ([] ++ [(⟨((i:Int),S1.ip.gen i),(⟨r,1, -1,[]⟩:Hv).h,cc,(5,S1.next)⟩:m6)]) y2.h≠[]:=by
  rw [ey1,List.nil_append,tL rfl];simp
 have hyr:y2.h = r:=ey1
 rw [←hyr]
 refine xR (A:=[]) (B:=[]) (y:=y2) ((oT.le l3).le l5) hv2 eQ hfa2 hfe2 g5 fun M6 S3 x hx hxy hb hfa3 hfe3 g6 hv3 em3 en3 eip3 hst3=>?_
 have hxe:x = ⟨((i:Int),S1.ip.gen i),(⟨r,1, -1,[]⟩:Hv).h,cc,(5,S1.next)⟩:=by simpa using hx
 subst hxe
 simp only [a9,aT,aK,aS]
 refine kE (vs:=lB 0 0 0 i (S1.ip.gen i) 5 S1.next 0) p5 (by rfl) dW g6 fun b7 F7 M7 l7 o7 g7=>?_
 have hi:∀ {b:Nat} {M':Mem} {e:TypeId},cN w0 M' b (lB 0 0 0 i (S1.ip.gen i) 5 S1.next 0) e→(aJ PP w0).ld 33 ⟨b,3,none⟩ M' = some (.agg #[.int .i64 (i:Int),.int .i64 (S1.ip.gen i)]):=fun o=>kQ (vs:=[.int .i64 (i:Int),.int .i64 (S1.ip.gen i)]) bA o (qK rfl rfl)
 simp only [mQ W.c25 ((o35.le l7).le g7.fr) (o:=0) rfl,mQ W.c25 ((o5.le l7).le g7.fr) (o:=0) rfl,mQ W.c2 (o7.le g7.fr) (o:=5) rfl,hi (o7.le g7.fr),hi ((o5.le l7).le g7.fr),aC,aK,a9,aT,aS,aCq,bT]
 rw [fB,if_pos rfl,fB,if_pos rfl,fB,if_pos rfl]
 simp only [BEq.rfl,Bool.and_self,dY]
 refine aKE ?_
 rw [aK]
 exact hK M7
section
variable {X:vV} {Y:DSt} {dm:Nat} {x:rS} {c:rR}
theorem aHD (hD:lU w0 F M os X Y (star (fM dm x) A)) (hok:DOk x) (hn:cM x.now) (hct:cM c.time) (hK:∀ M',lU w0 F M' os X Y (star (fM dm (gC x c).1) A)→R (gC x c).2.v M') :
  C PP w0 Id.fD #[.pointer (some ⟨dm,0,none⟩),c.v] R M:=by
 obtain ⟨oa,oe,ob,ow,hfa,hfe,hfb,hfw,h⟩:=hD
 obtain ⟨F1,hB,l1,back⟩:=(h.aY aA.xA).xJ
 refine aKn hB hok hn hct fun M' hC=>?_
 exact hK M' ⟨oa,oe,ob,ow,hfa,hfe,hfb,hfw,(back M' _ hC).aY aA.zC⟩
theorem aJe {k j:Int} (hk:cM k) (hj:cM j) (h:HO w0 F M os A)
  (hK:∀ F' M' X Y dm (n:Nat),1≤n→n≤60→(1≤j→j≤60→(n:Int) = j)→Mem.le F F'→zA w0 F' X→lU w0 F' M' os X Y (star (fM dm (rS.new n)) A)→dJ Y (rS.new n) 2→aD5 Y→R (.tuple #[.pointer (some ⟨X.d,0,none⟩),.pointer (some ⟨dm,0,none⟩)]) M') :
  C PP w0 Id.fP #[.int .i64 k,.int .i64 j] R M:=by
 apply fP.go
 unfold fP.T aL
 have main:∀ m:Int,1≤m→m≤60→(1≤j→j≤60→m = j)→C PP w0 Id.cQ #[.int .i64 k,.int .i64 1,.int .i64 3] (fun v M=>lT .i64 v fun n_1=>(aJ PP w0).call Id.bG #[.int .i64 n_1,.int .i64 m] (fun v M=>shT v fun n_2=>cK n_2 fun u r=>shP u fun n_3=>cK r fun u r=>lT .i64 u fun n_4=>qA r (HL.ob ((aJ PP w0).bq .eql 60 (.tmp 18) (.const (.pointer none)) (.pointer n_3) (.pointer none)) fun v=>shB v fun n_5=>bs n_5 (R (.tuple #[.pointer none,.pointer none]) M) (bs (n_4 != 0) (R (.tuple #[.pointer none,.pointer none]) M) ((aJ PP w0).call Id.qD #[.int .i64 m] (fun v M=>shP v fun n=>R (.tuple #[.pointer n_3,.pointer n]) M) M)))) M) M:=by
  intro m m1 m2 m3
  refine nN hk (by omega) (by omega) (by omega) (by omega) fun kk k1 k2=>?_
  rw [aK]
  obtain ⟨n,rfl⟩:∃ n:Nat,m = (n:Int):=⟨m.toNat,by omega⟩
  refine aJi h (by omega) (by omega) (by omega) (by omega) fun F1 M1 X Y l1 hX hD hv hb=>?_
  simp only [cA,aT,bK,aK,aS,aAp Tryz.underlying60,aC,bT,Option.isNone_some,mY]
  rw [bX,if_pos rfl]
  obtain ⟨oa,oe,ob,ow,hfa,hfe,hfb,hfw,h1⟩:=hD
  obtain ⟨F2,hB,l2,back⟩:=h1.xJ
  refine aJB hB (by omega) (by omega) fun M2 dm hC=>?_
  rw [bK]
  exact hK F1 M2 X Y dm n (by omega) (by omega) m3 l1 hX ⟨oa,oe,ob,ow,hfa,hfe,hfb,hfw,(back M2 _ hC).aY aA.zC⟩ hv hb
 by_cases hin:1≤j∧j≤60
 ·refine aEd hin.1 hin.2 ?_
  rw [aK]
  exact main j hin.1 hin.2 fun _ _=>rfl
 ·refine nN hj (by omega) (by omega) (by omega) (by omega) fun m m1 m2=>?_
  rw [aK]
  exact main m m1 m2 fun a b=>absurd ⟨a,b⟩ hin
end
end
end HL
namespace HL
section
variable {w0:World} {F M:Mem} {R:VP} {os:vC} {A Q:cW}
section
variable {X:vV} {Y:DSt} {d:rS} {tm:Int} {s:SV} {l:List cY}
theorem lU.aKj (hD:lU w0 F M os X Y Q):lU w0 F M os X Y (star (Es ⟨none,0,0⟩ []) Q):=by
 obtain ⟨oa,oe,ob,ow,hfa,hfe,hfb,hfw,h⟩:=hD
 obtain ⟨F1,hB,l1,back⟩:=h.xJ
 exact ⟨oa,oe,ob,ow,hfa,hfe,hfb,hfw,(back M _ (aA.xF hB (Mem.le_refl _) wD.nil)).aY aA.zC⟩
theorem lU.rdL (hD:lU w0 F M os X Y (star (Es s l) Q)):xV w0 M s l:=by
 obtain ⟨oa,oe,ob,ow,hfa,hfe,hfb,hfw,h⟩:=hD
 exact (h.aY aA.xA).h.xX
theorem lU.aLU (hD:lU w0 F M os X Y (star (Es s l) Q)) (hb:l.length≤1000) {x y:Int} {K:SV→Mem→Prop} (hK:∀ M' s',lU w0 F M' os X Y (star (Es s' (l ++ [(x,y)])) Q)→K s' M') :
  (aJ PP w0).bsl 30 1 [(0,.agg #[.int .i64 x,.int .i64 y])] (fun v M1=>shS v fun s1=>(aJ PP w0).app #[30,30] 30 [SV.v s,SV.v s1] (fun v M2=>shS v fun s2=>K s2 M2) M1) M:=by
 obtain ⟨oa,oe,ob,ow,hfa,hfe,hfb,hfw,h⟩:=hD
 obtain ⟨F1,hB,l1,back⟩:=(h.aY aA.xA).xJ
 refine aFv hB x y fun M1 s1 lm1 h1=>?_
 rw [aR]
 refine aE4 h1.right h1.xX (by simp;omega) fun M2 s2 h2=>?_
 rw [aR]
 exact hK M2 s2 ⟨oa,oe,ob,ow,hfa,hfe,hfb,hfw,(back M2 _ h2).aY aA.zC⟩
theorem lU.box {rp:fA} (hD:lU w0 F M os X Y Q) {K:Nat→Mem→Prop} (hK:∀ b F' M',Mem.le F F'→cN w0 F' b rp.cells iJ→lU w0 F' M' os X Y Q→K b M') :
  (aJ PP w0).nw [.int .i64 0,.int .i64 0,.int .i64 0,.int .i64 0,.int .i64 0,.int .i64 0] iJ (fun b M1=>(aJ PP w0).st iJ ⟨b,0,none⟩ (.agg #[.int .i64 rp.why,.int .i64 rp.at_,.int .i64 rp.gen,.int .i64 rp.time,.int .i64 rp.data,.int .i64 rp.n]) (fun M2=>K b M2) M1) M:=by
 obtain ⟨oa,oe,ob,ow,hfa,hfe,hfb,hfw,h⟩:=hD
 exact kE (vs:=rp.cells) lG (by rfl) (iA _) h fun b F' M' l' o' h'=>hK b F' M' l' o' ⟨oa,oe,ob,ow,hfa,hfe,hfb,hfw,h'⟩
theorem aLz {b:Nat} {rp:fA} {e:TypeId} (o:cN w0 M b rp.cells e):(aJ PP w0).ld 33 ⟨b,1,none⟩ M = some (.agg #[.int .i64 rp.at_,.int .i64 rp.gen]):=kQ (o:=1) (vs:=[.int .i64 rp.at_,.int .i64 rp.gen]) bA o (qK rfl rfl)
theorem aJ7 {b:Nat} {rp:fA} {e:TypeId} (o:cN w0 M b rp.cells e):(aJ PP w0).ld 25 ⟨b,0,none⟩ M = some (.int .i64 rp.why):=mQ W.c25 o rfl
end
end
end HL
namespace HL
section
variable {w0:World} {F M:Mem} {R:VP} {os:vC} {X:vV} {Y:DSt} {Q Q':cW} {dm:Nat} {d:rS}
theorem lU.aD2 (hD:lU w0 F M os X Y Q) (f:∀ F M,aA w0 F M Q→aA w0 F M Q'):lU w0 F M os X Y Q':=by
 obtain ⟨oa,oe,ob,ow,hfa,hfe,hfb,hfw,h⟩:=hD
 exact ⟨oa,oe,ob,ow,hfa,hfe,hfb,hfw,h.aY fun h=>h.nX fun _ _ h=>h.nX fun _ _ h=>h.nX fun _ _ h=>h.nX fun _ _ h=>h.nX fun _ _ h=>h.nX fun _ _ h=>h.nX fun F M h=>f F M h⟩
theorem lU.nwC (hD:lU w0 F M os X Y Q) {zs:List Value} {T:TypeId} {K:Nat→Mem→Prop} (hK:∀ b M',Mem.le M M'→lU w0 F M' os X Y (star (aW b zs T) Q)→K b M'):(aJ PP w0).nw zs T K M:=by
 obtain ⟨oa,oe,ob,ow,hfa,hfe,hfb,hfw,h⟩:=hD
 exact jJ h fun b M' lm h'=>hK b M' lm ⟨oa,oe,ob,ow,hfa,hfe,hfb,hfw,h'.aY aA.zC⟩
theorem lU.stC {b:Nat} {zs vs:List Value} {T:TypeId} (hg:gE PP T vs.length = true) (hz:zs.length = vs.length) (hone:∀ v∈vs,bR v = true) (hD:lU w0 F M os X Y (star (aW b zs T) Q)) {K:Mem→Prop} (hK:∀ M',lU w0 F M' os X Y (star (aW b vs T) Q)→K M') :
  (aJ PP w0).st T ⟨b,0,none⟩ (.agg vs.toArray) (fun M2=>K M2) M:=by
 obtain ⟨oa,oe,ob,ow,hfa,hfe,hfb,hfw,h⟩:=hD
 exact stW hg hz hone (h.aY aA.xA) fun M' h'=>hK M' ⟨oa,oe,ob,ow,hfa,hfe,hfb,hfw,h'.aY aA.zC⟩
theorem lU.aLN {b:Nat} {zs:List Value} {T:TypeId} (hD:lU w0 F M os X Y (star (aW b zs T) Q)):∃ F',Mem.le F F'∧cN w0 F' b zs T∧lU w0 F' M os X Y Q:=by
 obtain ⟨oa,oe,ob,ow,hfa,hfe,hfb,hfw,h⟩:=hD
 obtain ⟨F',l,o,h'⟩:=(h.aY aA.xA).fE
 exact ⟨F',l,o,oa,oe,ob,ow,hfa,hfe,hfb,hfw,h'⟩
theorem aJu (c:rR):∀ v∈c.cells,bR v = true:=by
 intro v hv
 simp only [rR.cells,List.mem_cons,List.not_mem_nil,or_false] at hv
 rcases hv with rfl | rfl | rfl | rfl | rfl | rfl <;> rfl
theorem aJZ:gE PP iE 6 = true:=W.g68
end
end HL
namespace HL
structure FlI (d:rS) (n i:Nat):Prop where
 most:d.most = (n:Int)
 now:d.now = 0
 len:d.l.length = i
 cnt:iK 1 d.l = i / 2
 key:∀ j∈d.l, -1000≤j.key∧j.key≤1000
structure DrI (d:rS) (m:Nat) (last:Int):Prop where
 now:d.now = 1000
 len:d.l.length = m
 q:∀ j∈d.l,j.queue = 0
 key:∀ j∈d.l,last≤j.key∧j.key≤1000
section
variable {w0:World} {F M:Mem} {R:VP} {os:vC} {X:vV} {Y:DSt} {Q:cW}
theorem lU.le {M':Mem} (hD:lU w0 F M os X Y Q) (hl:Mem.le M M'):lU w0 F M' os X Y Q:=by
 obtain ⟨oa,oe,ob,ow,hfa,hfe,hfb,hfw,h⟩:=hD
 exact ⟨oa,oe,ob,ow,hfa,hfe,hfb,hfw,h.le hl⟩
end
end HL
namespace HL
section
variable {w0:World} {F M:Mem} {R:VP}
def rR.ints (c:rR):List Int:=[c.kind,c.queue,c.at_,c.gen,c.time,c.data]
def rR.ok (c:rR):Prop:=∀ x∈c.ints,cM x
abbrev tX:TypeId:=79
theorem aL1 {n:Nat} {parts:List (Nat × Value)} (l:List Int) (h24:n≤16777216) (hc:Instr.fill (fun k=>some (k * 1,1)) ((Array.range (n * 1)).map ((Value.int .i64 0).cells[· % (Value.int .i64 0).cells.size]!)) parts = some (l.map (Value.int .i64)).toArray) (hn:l.length = n) (hw:∀ n∈l,(Lit.int .i64 n).wf = true)
  {P:cW} (h:aA w0 F M P) {K:VP} (hK:∀ M' F' s,Mem.le F F'→aA w0 F' M' P→tN w0 F' .i64 s l→K (SV.v s) M'):(aJ PP w0).bsl 53 n parts K M:=by
 refine rW (n:=n) Tryz.underlying53 W.e3 (by omega) hc fun b hb hw2=>?_
 have h1:=aA.new h hb hw2 (l.map (Value.int .i64)).toArray.toList 3
 obtain ⟨F3,hle3,hown3,hW3⟩:=aA.fE h1
 refine hK _ F3 ⟨some ⟨b,0,none⟩,n,n⟩ hle3 hW3 (tN.own (o:=0) hown3 hn.symm (Nat.le_refl _) (fun j x hx=>?_) hw (by omega))
 rw [Nat.zero_add]
 simp [hx]
theorem aLp {b:Nat} {cs:List Value} {P:cW} {a0 a1 a2 a3 a4 a5:Int} (h:aA w0 F M (star (aW b cs iE) P)) (hcs:cs.length = 6) {K:VP} (hK:∀ M',aA w0 F M' P→K (.agg #[.int .i64 a0,.int .i64 a1,.int .i64 a2,.int .i64 a3,.int .i64 a4,.int .i64 a5]) M') :
  (aJ PP w0).st iE ⟨b,0,none⟩ (.agg #[.int .i64 a0,.int .i64 a1,.int .i64 a2,.int .i64 a3,.int .i64 a4,.int .i64 a5]) (fun M14=>ob ((aJ PP w0).rdv iE (.pointer (some ⟨b,0,none⟩)) M14) fun v15=>K v15 M14) M:=by
 refine gG (vs:=[.int .i64 a0,.int .i64 a1,.int .i64 a2,.int .i64 a3,.int .i64 a4,.int .i64 a5]) W.g68 h.aZ (by simp [hcs]) (by intro v hv;simp only [List.mem_cons,List.not_mem_nil,or_false] at hv;rcases hv with rfl | rfl | rfl | rfl | rfl | rfl <;> rfl) ?_
 have hP2:=h.jX (cs':=dZ cs 0 [.int .i64 a0,.int .i64 a1,.int .i64 a2,.int .i64 a3,.int .i64 a4,.int .i64 a5]) (e':=iE)
 have o2:=hP2.aZ
 have ho:dZ cs 0 [.int .i64 a0,.int .i64 a1,.int .i64 a2,.int .i64 a3,.int .i64 a4,.int .i64 a5] = [.int .i64 a0,.int .i64 a1,.int .i64 a2,.int .i64 a3,.int .i64 a4,.int .i64 a5]:=by
  match cs,hcs with
  | [_,_,_,_,_,_],_=>rfl
 rw [ho] at o2
 rw [pX,cR (cs:=[.int .i64 a0,.int .i64 a1,.int .i64 a2,.int .i64 a3,.int .i64 a4,.int .i64 a5]) W.g68 (fun j v hj=>by rw [ho,add_eq,aM o2,Nat.zero_add];exact hj),aC]
 exact hK _ hP2.right
theorem ok6 {a0 a1 a2 a3 a4 a5:Int} (h0:cM a0) (h1:cM a1) (h2:cM a2) (h3:cM a3) (h4:cM a4) (h5:cM a5):rR.ok ⟨a0,a1,a2,a3,a4,a5⟩:=by
 intro x hx
 simp only [rR.ints,List.mem_cons,List.not_mem_nil,or_false] at hx
 rcases hx with rfl | rfl | rfl | rfl | rfl | rfl <;> assumption
theorem aJg {n m:Int} (h:cM n) (hm:0 < m):cM (Int.tmod n m):=by
 unfold cM at h ⊢
 have h1:(Int.tmod n m).natAbs≤n.natAbs:=by
  rw [Int.natAbs_tmod];exact Nat.mod_le _ _
 by_cases h0:0≤n
 ·have:=Int.tmod_nonneg m h0
  omega
 ·have:=Int.tmod_nonneg m (show 0 ≤ -n by omega)
  rw [Int.neg_tmod] at this
  omega
theorem uJ {n m:Int} (h:0≤n) (hm:0 < m):0≤Int.tmod n m∧Int.tmod n m < m:=⟨Int.tmod_nonneg m h,Int.tmod_lt_of_pos n hm⟩
theorem aEp {x0 x1 x2 x3 x4 x5 x6 x7 x8 x9 x10:Int} {s:SV} {tl:List Int} (hx:∀ n∈[x0,x1,x2,x3,x4,x5,x6,x7,x8,x9,x10],cM n) (ht:RdF w0 M 2 s tl) (hsn:s.n≤1000) (hR:∀ M' (c:rR),Mem.le M M'→c.ok→R c.v M') :
  C PP w0 Id.cD #[.agg #[.int .i64 x0,.int .i64 x1,.int .i64 x2,.int .i64 x3,.int .i64 x4,.int .i64 x5,.int .i64 x6,.int .i64 x7,.int .i64 x8,.int .i64 x9,.int .i64 x10],SV.v s] R M:=by
 have i0:cM x0:=hx x0 (by simp)
 have i1:cM x1:=hx x1 (by simp)
 have i2:cM x2:=hx x2 (by simp)
 have i3:cM x3:=hx x3 (by simp)
 have i4:cM x4:=hx x4 (by simp)
 have i5:cM x5:=hx x5 (by simp)
 have i6:cM x6:=hx x6 (by simp)
 have i7:cM x7:=hx x7 (by simp)
 have i8:cM x8:=hx x8 (by simp)
 have i9:cM x9:=hx x9 (by simp)
 have i10:cM x10:=hx x10 (by simp)
 clear hx
 apply cD.go
 intro aB H
 unfold cD.T aL
 intro b1 hb0 hbw
 have g1:=aA.new (aA.aKG (w0:=w0) (M:=M)) hb0 hbw [.int .i64 x0,.int .i64 x1,.int .i64 x2,.int .i64 x3,.int .i64 x4,.int .i64 x5,.int .i64 x6,.int .i64 x7,.int .i64 x8,.int .i64 x9,.int .i64 x10] tX
 generalize M.set b1 _ = M1 at g1 ⊢
 intro b3 hb3 hbw3
 have g2:=aA.new g1 hb3 hbw3 [.int .i64 0,.int .i64 0,.int .i64 0,.int .i64 0,.int .i64 0,.int .i64 0] iE
 change aA w0 M (M1.set b3 (.row [.int .i64 0,.int .i64 0,.int .i64 0,.int .i64 0,.int .i64 0,.int .i64 0] iE)) (star (aW b3 zR iE) (star (aW b1 [.int .i64 x0,.int .i64 x1,.int .i64 x2,.int .i64 x3,.int .i64 x4,.int .i64 x5,.int .i64 x6,.int .i64 x7,.int .i64 x8,.int .i64 x9,.int .i64 x10] tX) emp)) at g2
 generalize M1.set b3 _ = M2 at g2 ⊢
 have LX:∀ {M':Mem},cN w0 M' b1 [.int .i64 x0,.int .i64 x1,.int .i64 x2,.int .i64 x3,.int .i64 x4,.int .i64 x5,.int .i64 x6,.int .i64 x7,.int .i64 x8,.int .i64 x9,.int .i64 x10] tX→rd w0 M' ⟨b1,0,none⟩ = some (.int .i64 x0)∧rd w0 M' ⟨b1,1,none⟩ = some (.int .i64 x1)∧rd w0 M' ⟨b1,2,none⟩ = some (.int .i64 x2)∧rd w0 M' ⟨b1,3,none⟩ = some (.int .i64 x3)∧rd w0 M' ⟨b1,4,none⟩ = some (.int .i64 x4):=fun o =>
  ⟨aM (o:=0) o,aM (o:=1) o,aM (o:=2) o,aM (o:=3) o,aM (o:=4) o⟩
 have o1:=g2.right.aZ
 simp only [aP W.c3,add_eq,Nat.zero_add,(LX o1).2.2.1,aC,aK]
 refine ⟨by trivial,by decide,?_⟩
 rw [fB]
 split
 ·-- as it is
  have ldc:(aJ PP w0).ld iE ⟨b1,5,none⟩ M2 = some (.agg #[.int .i64 x5,.int .i64 x6,.int .i64 x7,.int .i64 x8,.int .i64 x9,.int .i64 x10]):=cR (cs:=[.int .i64 x5,.int .i64 x6,.int .i64 x7,.int .i64 x8,.int .i64 x9,.int .i64 x10]) W.g68 (fun j v hj=>by
   rw [add_eq,aM o1]
   match j,hj with
   | 0,hj=>exact hj
   | 1,hj=>exact hj
   | 2,hj=>exact hj
   | 3,hj=>exact hj
   | 4,hj=>exact hj
   | 5,hj=>exact hj)
  rw [ldc]
  simp only [aC,a9,aT,aK,aS]
  refine aLp g2 rfl fun M3 g3=>?_
  exact hR M3 ⟨x5,x6,x7,x8,x9,x10⟩ g3.fr (ok6 i5 i6 i7 i8 i9 i10)
 ·-- of those that were told
  have keyJ1:∀ (M' F':Mem) (b5:Nat) (c:rR),Mem.le M F'→c.ok→aA w0 F' M' (star (aW b5 [.int .i64 c.kind,.int .i64 c.queue,.int .i64 c.at_,.int .i64 c.gen,.int .i64 c.time,.int .i64 c.data] iE) (star (aW b3 zR iE) (star (aW b1 [.int .i64 x0,.int .i64 x1,.int .i64 x2,.int .i64 x3,.int .i64 x4,.int .i64 x5,.int .i64 x6,.int .i64 x7,.int .i64 x8,.int .i64 x9,.int .i64 x10] tX) emp))) →
    cD.J1 aB s ⟨b1,0,none⟩ ⟨b3,0,none⟩ ⟨b5,0,none⟩ M':=by
   intro M' F' b5 c hl hc g
   refine Eq.mpr (H.J1 ..) ?_
   unfold cD.J1.T aL
   have fin:∀ (M4:Mem) (c:rR),c.ok→aA w0 F' M4 (star (aW b5 [.int .i64 c.kind,.int .i64 c.queue,.int .i64 c.at_,.int .i64 c.gen,.int .i64 c.time,.int .i64 c.data] iE) (star (aW b3 zR iE) (star (aW b1 [.int .i64 x0,.int .i64 x1,.int .i64 x2,.int .i64 x3,.int .i64 x4,.int .i64 x5,.int .i64 x6,.int .i64 x7,.int .i64 x8,.int .i64 x9,.int .i64 x10] tX) emp))) →
     (ob ((aJ PP w0).ld iE ⟨b5,0,none⟩ M4) fun v160=>shA v160 fun l161=>cK l161 fun u162 r163=>lT .i64 u162 fun n164=>cK r163 fun u165 r166=>lT .i64 u165 fun n167=>cK r166 fun u168 r169=>lT .i64 u168 fun n170=>cK r169 fun u171 r172=>lT .i64 u171 fun n173=>cK r172 fun u174 r175=>lT .i64 u174 fun n176=>cK r175 fun u177 r178=>lT .i64 u177 fun n179=>qA r178
      ((aJ PP w0).st iE ⟨b3,0,none⟩ (.agg #[.int .i64 n164,.int .i64 n167,.int .i64 n170,.int .i64 n173,.int .i64 n176,.int .i64 n179]) (fun M180=>ob ((aJ PP w0).rdv iE (.pointer (some ⟨b3,0,none⟩)) M180) fun v181=>R v181 M180) M4)):=by
    intro M4 c hc g
    have o5:=g.aZ
    rw [cR (cs:=c.cells) W.g68 (fun j v hj=>by rw [add_eq,aM o5,Nat.zero_add];exact hj)]
    unfold rR.cells
    simp only [aC,a9,aT,aK,aS]
    refine aLp g.dX rfl fun M5 g5=>?_
    exact hR M5 c (Mem.le_trans hl g5.fr) hc
   rw [eK]
   split
   ·rename_i hpos
    simp only [aP W.c3,add_eq,Nat.zero_add,(LX g.right.right.aZ).2.2.1,aC,aK]
    rw [bC (by omega)]
    refine nN i2 (by omega) (by omega) (by omega) (by omega) fun y y1 y2=>?_
    rw [aK]
    have hyn:y.toNat < s.n:=by omega
    obtain ⟨u,hu,iu⟩:=ht.get hyn (f:=0) (by decide)
    obtain ⟨v,hv,iv⟩:=ht.get hyn (f:=1) (by decide)
    refine aKN (cs:=[u,v]) W.g33 ht (Mem.le_trans hl g.fr) y.toNat (by omega) hyn (by show 0 < 2;decide) (fun f x hf=>?_) ?_
    ·match f,hf with
     | 0,hf=>simp at hf;subst hf;exact hu
     | 1,hf=>simp at hf;subst hf;exact hv
    ·simp only [List.map_cons,List.map_nil,a9,aT,aK,aS]
     refine gG (vs:=[.int .i64 u,.int .i64 v]) W.g33 g.aZ (by simp) (by intro v hv;simp only [List.mem_cons,List.not_mem_nil,or_false] at hv;rcases hv with rfl | rfl <;> rfl) ?_
     have g3:=g.jX (cs':=dZ [.int .i64 c.kind,.int .i64 c.queue,.int .i64 c.at_,.int .i64 c.gen,.int .i64 c.time,.int .i64 c.data] 2 [.int .i64 u,.int .i64 v]) (e':=iE)
     refine fin _ ⟨c.kind,c.queue,u,v,c.time,c.data⟩ (ok6 (hc _ (by simp [rR.ints])) (hc _ (by simp [rR.ints])) iu iv (hc _ (by simp [rR.ints])) (hc _ (by simp [rR.ints]))) ?_
     exact g3
   ·exact fin M' c hc g
  have tail:∀ (M' F':Mem) (b5:Nat) (k q:Int),Mem.le M F'→cM k→cM q→aA w0 F' M' (star (aW b5 zR iE) (star (aW b3 zR iE) (star (aW b1 [.int .i64 x0,.int .i64 x1,.int .i64 x2,.int .i64 x3,.int .i64 x4,.int .i64 x5,.int .i64 x6,.int .i64 x7,.int .i64 x8,.int .i64 x9,.int .i64 x10] tX) emp))) →
    (aJ PP w0).st iE ⟨b5,0,none⟩ (.agg #[.int .i64 k,.int .i64 q,.int .i64 0,.int .i64 0,.int .i64 x4,.int .i64 x3]) (fun M71=>ob (rd w0 M71 ⟨b1,3,none⟩) fun v72=>lT .i64 v72 fun n73=>(True∧(4:Int)≠0∧bs (((Int.tmod n73 4) != 0)) (ob (rd w0 M71 ⟨b5,4,none⟩) fun v74=>lT .i64 v74 fun n75=>(True∧(30:Int)≠0∧(aJ PP w0).st 2 ⟨b5,4,none⟩ (.int .i64 (Int.tmod n75 30)) (fun M76=>cD.J1 aB s ⟨b1,0,none⟩ ⟨b3,0,none⟩ ⟨b5,0,none⟩ M76) M71)) (cD.J1 aB s ⟨b1,0,none⟩ ⟨b3,0,none⟩ ⟨b5,0,none⟩ M71))) M':=by
   intro M' F' b5 k q hl hk hq g
   refine gG (vs:=[.int .i64 k,.int .i64 q,.int .i64 0,.int .i64 0,.int .i64 x4,.int .i64 x3]) W.g68 g.aZ (by simp) (by intro v hv;simp only [List.mem_cons,List.not_mem_nil,or_false] at hv;rcases hv with rfl | rfl | rfl | rfl | rfl | rfl <;> rfl) ?_
   have g3:aA w0 F' (M'.set b5 (.row (dZ zR 0 [.int .i64 k,.int .i64 q,.int .i64 0,.int .i64 0,.int .i64 x4,.int .i64 x3]) iE)) (star (aW b5 [.int .i64 k,.int .i64 q,.int .i64 0,.int .i64 0,.int .i64 x4,.int .i64 x3] iE) _):=g.jX (cs':=dZ zR 0 [.int .i64 k,.int .i64 q,.int .i64 0,.int .i64 0,.int .i64 x4,.int .i64 x3]) (e':=iE)
   generalize M'.set b5 _ = M3 at g3 ⊢
   have e4:rd w0 M3 ⟨b5,4,none⟩ = some (.int .i64 x4):=aM (o:=4) g3.aZ
   simp only [(LX g3.right.right.aZ).2.2.2.1,e4,aC,aK]
   refine ⟨by trivial,by decide,?_⟩
   have z64:cM 0:=by unfold cM;omega
   rw [bX]
   split
   ·exact keyJ1 M3 F' b5 ⟨k,q,0,0,x4,x3⟩ hl (ok6 hk hq z64 z64 i4 i3) g3
   ·refine ⟨by trivial,by decide,?_⟩
    refine gA W.c2 g3.aZ (by simp) rfl rfl ?_
    have g4:=g3.jX (cs':=[.int .i64 k,.int .i64 q,.int .i64 0,.int .i64 0,.int .i64 (Int.tmod x4 30),.int .i64 x3]) (e':=iE)
    exact keyJ1 _ F' b5 ⟨k,q,0,0,Int.tmod x4 30,x3⟩ hl (ok6 hk hq z64 z64 (aJg i4 (by decide)) i3) g4
  have hbC:∀ k q:Int,(aJ PP w0).pD iE [(0,.int .i64 k),(1,.int .i64 q),(4,.int .i64 x3),(3,.int .i64 x4)] = some (.agg #[.int .i64 k,.int .i64 q,.int .i64 0,.int .i64 0,.int .i64 x4,.int .i64 x3]):=fun k q=>by kernel_rfl
  refine aL1 [1,1,1,2,3,4,5,5,5,6,7] (by decide) (by kernel_rfl) rfl (aD1 (by intro x hx;simp at hx;unfold cM;omega)) g2 fun M3 F3 s31 l3 g3 hk=>?_
  rw [aR]
  have p1:=g3.right.aZ
  have kin:∀ y:Int,0≤y→∃ k,cM k∧([1,1,1,2,3,4,5,5,5,6,7]:List Int)[(Int.tmod y 11).toNat]? = some k:=fun y hy=>by
   obtain ⟨t0,t1⟩:=uJ hy (show (0:Int) < 11 by decide)
   have hlt:(Int.tmod y 11).toNat < ([1,1,1,2,3,4,5,5,5,6,7]:List Int).length:=by simp only [List.length_cons,List.length_nil];omega
   refine ⟨_,?_,List.getElem?_eq_getElem hlt⟩
   have:=List.getElem_mem hlt
   generalize ([1,1,1,2,3,4,5,5,5,6,7]:List Int)[(Int.tmod y 11).toNat] = k at this
   simp at this
   unfold cM;omega
  have rdk:∀ {M' F':Mem} {y k:Int} {P:cW},0≤y→Mem.le F3 F'→aA w0 F' M' P→([1,1,1,2,3,4,5,5,5,6,7]:List Int)[(Int.tmod y 11).toNat]? = some k→∃ a,s31.a = some a∧∀ M2,Mem.le F' M2→rd w0 M2 (a.add ((Int.tmod y 11).toNat * 1)) = some (.int .i64 k):=fun {M' F' y k P} hy hl g hk2=>by
   have hlt:=(List.getElem?_eq_some_iff.1 hk2).1
   obtain ⟨a,ha,hr⟩:=hk.at hlt
   refine ⟨a,ha,fun M2 hM2=>?_⟩
   have:=hr M2 (Mem.le_trans hl hM2)
   rw [Nat.mul_one,this]
   rw [List.getElem?_eq_getElem hlt] at hk2
   rw [Option.some.inj hk2]
  have hsl:s31.n = 11:=hk.len
  simp only [aP W.c3,aP W.c2,add_eq,Nat.zero_add,(LX p1).1,(LX p1).2.1,(LX p1).2.2.2.1,(LX p1).2.2.2.2,aC,aK]
  have hq2:∀ y:Int,0≤y→cM (Int.tmod y 2):=fun y hy=>by
   obtain ⟨t0,t1⟩:=uJ hy (show (0:Int) < 2 by decide)
   unfold cM;omega
  have hMF:Mem.le M F3:=l3
  refine ⟨?_,?_⟩
  ·refine nN i0 (by omega) (by omega) (by omega) (by omega) fun y y1 y2=>?_
   rw [aK]
   refine ⟨by trivial,by decide,?_⟩
   obtain ⟨k,ik,hkk⟩:=kin y y1
   obtain ⟨a,ha,hra⟩:=rdk y1 (Mem.le_refl _) g3 hkk
   obtain ⟨t0,t1⟩:=uJ y1 (show (0:Int) < 11 by decide)
   simp only [ha,aX,hra M3 g3.fr,aC,aK]
   refine ⟨⟨t0,by omega⟩,(LX p1).2.1,(LX p1).2.2.2.1,(LX p1).2.2.2.2,?_,?_⟩
   ·refine nN i1 (by omega) (by omega) (by omega) (by omega) fun z z1 z2=>?_
    rw [aK]
    refine ⟨by trivial,by decide,?_⟩
    rw [hbC]
    simp only [aC,a9,aT,aK,aS]
    refine ⟨hra M3 g3.fr,(LX p1).2.2.2.1,(LX p1).2.2.2.2,?_⟩
    intro b5 hb5 hbw5
    have g4:=aA.new g3 hb5 hbw5 zR iE
    change aA w0 F3 (M3.set b5 (.row [.int .i64 0,.int .i64 0,.int .i64 0,.int .i64 0,.int .i64 0,.int .i64 0] iE)) _ at g4
    generalize M3.set b5 _ = M4 at g4 ⊢
    have q1:=g4.right.right.aZ
    refine ⟨hra M4 g4.fr,(LX q1).2.2.2.1,(LX q1).2.2.2.2,?_⟩
    exact tail M4 F3 b5 k _ hMF ik (hq2 z z1) g4
   ·intro b5 hb5 hbw5
    have g4:=aA.new g3 hb5 hbw5 zR iE
    change aA w0 F3 (M3.set b5 (.row [.int .i64 0,.int .i64 0,.int .i64 0,.int .i64 0,.int .i64 0,.int .i64 0] iE)) _ at g4
    generalize M3.set b5 _ = M4 at g4 ⊢
    have q1:=g4.right.right.aZ
    refine ⟨hra M4 g4.fr,(LX q1).2.1,(LX q1).2.2.2.1,(LX q1).2.2.2.2,?_⟩
    refine nN i1 (by omega) (by omega) (by omega) (by omega) fun z z1 z2=>?_
    rw [aK]
    refine ⟨by trivial,by decide,?_⟩
    rw [hbC]
    simp only [aC,a9,aT,aK,aS]
    refine ⟨hra M4 g4.fr,(LX q1).2.2.2.1,(LX q1).2.2.2.2,?_⟩
    exact tail M4 F3 b5 k _ hMF ik (hq2 z z1) g4
  ·intro b5 hb5 hbw5
   have g4:=aA.new g3 hb5 hbw5 zR iE
   change aA w0 F3 (M3.set b5 (.row [.int .i64 0,.int .i64 0,.int .i64 0,.int .i64 0,.int .i64 0,.int .i64 0] iE)) _ at g4
   generalize M3.set b5 _ = M4 at g4 ⊢
   have q1:=g4.right.right.aZ
   refine ⟨(LX q1).1,(LX q1).2.1,(LX q1).2.2.2.1,(LX q1).2.2.2.2,?_⟩
   refine nN i0 (by omega) (by omega) (by omega) (by omega) fun y y1 y2=>?_
   rw [aK]
   refine ⟨by trivial,by decide,?_⟩
   obtain ⟨k,ik,hkk⟩:=kin y y1
   obtain ⟨a,ha,hra⟩:=rdk y1 (Mem.le_refl _) g4 hkk
   obtain ⟨t0,t1⟩:=uJ y1 (show (0:Int) < 11 by decide)
   simp only [ha,aX,hra M4 g4.fr,aC,aK]
   refine ⟨⟨t0,by omega⟩,(LX q1).2.1,(LX q1).2.2.2.1,(LX q1).2.2.2.2,?_⟩
   refine nN i1 (by omega) (by omega) (by omega) (by omega) fun z z1 z2=>?_
   rw [aK]
   refine ⟨by trivial,by decide,?_⟩
   rw [hbC]
   simp only [aC,a9,aT,aK,aS]
   refine ⟨hra M4 g4.fr,(LX q1).2.2.2.1,(LX q1).2.2.2.2,?_⟩
   exact tail M4 F3 b5 k _ hMF ik (hq2 z z1) g4
end
end HL
namespace HL
def aDe (l:List cY):List Int:=l.flatMap fun e=>[e.1,e.2]
theorem aC6:∀ l:List cY,gD l = (aDe l).map (Value.int .i64)
 | []=>rfl
 | e::l=>by
  rw [oO,aC6 l];rfl
theorem aCc:∀ l:List cY,(aDe l).length = l.length * 2
 | []=>rfl
 | e::l=>by
  have:=aCc l
  unfold aDe at this ⊢
  rw [List.flatMap_cons,List.length_append,this,List.length_cons]
  show 2 + l.length * 2 = (l.length + 1) * 2
  omega
def TSm (T:List cY):Prop:=∀ e∈T,cM e.1∧cM e.2
theorem aHf {T:List cY} (h:TSm T):∀ x∈aDe T,cM x:=fun x hx=>by
 obtain ⟨e,he,hm⟩:=List.mem_flatMap.1 hx
 simp only [List.mem_cons,List.not_mem_nil,or_false] at hm
 rcases hm with rfl | rfl
 ·exact (h e he).1
 ·exact (h e he).2
theorem xV.aLM {w0:World} {M0:Mem} {s:SV} {l:List cY} (h:xV w0 M0 s l) (hb:TSm l) (hl:l.length≤1000):RdF w0 M0 2 s (aDe l):=by
 refine ⟨by rw [aCc,h.len],h.cap,by have:=h.len;omega,fun j x hx=>?_,aD1 (aHf hb)⟩
 have he:(gD l)[j]? = some (.int .i64 x):=by rw [aC6,List.getElem?_map,hx];rfl
 obtain ⟨a,ha,_⟩:=h.cells M0 (Mem.le_refl _) j _ he
 refine ⟨a,ha,fun M hM=>?_⟩
 obtain ⟨a',ha',hr⟩:=h.cells M hM j _ he
 rw [ha] at ha';cases ha'
 exact hr
theorem aJd {Y:DSt} {d:rS} {tm:Int} (hv:dJ Y d tm) (htm:tm≤900000) {c:rR} (hk:c.kind = 1) (hw:(gC d c).2.why = 0):cM (gC d c).2.at_∧cM (gC d c).2.gen:=by
 have hb:¬ qN c:=fun hb=>by rw [vG hb] at hw;cases hw
 rw [aBk hb hk] at hw ⊢
 obtain ⟨e1,e2,e3,e4,e5⟩:=hv.w7
 cases ha:d.cF.at_ with
 | none=>rw [ha] at hw;cases hw
 | some a =>
  obtain ⟨hP1,_,hP3,_⟩:=hv.room.2 a ha
  have hg:=PS.aAR hv.pg hv.q.tm0 a
  have hal:a≤Y.P.l.length:=by
   unfold PS.at_ at hP1
   cases hl:Y.P.free.getLast? with
   | some x =>
    rw [hl] at hP1
    simp only [Option.some.injEq] at hP1
    subst hP1
    have:=hv.pok.lt _ (vP hl)
    omega
   | none =>
    rw [hl] at hP1
    simp only at hP1
    split at hP1
    ·cases hP1
    ·cases hP1;exact Nat.le_refl _
  show cM (a:Int)∧cM (d.cF.gen a)
  rw [←hP3]
  unfold cM
  omega
section
variable {w0:World} {F M:Mem} {R:VP}
theorem aLL {M0:Mem} {s:SV} {l:List Int} (h:RdF w0 M0 11 s l) (hl:Mem.le M0 M) {i:Nat} (hi:i < s.n) {K:Value→Prop} (hK:∀ x0 x1 x2 x3 x4 x5 x6 x7 x8 x9 x10:Int,(∀ n∈[x0,x1,x2,x3,x4,x5,x6,x7,x8,x9,x10],cM n)→K (.agg #[.int .i64 x0,.int .i64 x1,.int .i64 x2,.int .i64 x3,.int .i64 x4,.int .i64 x5,.int .i64 x6,.int .i64 x7,.int .i64 x8,.int .i64 x9,.int .i64 x10])) :
  nc s.a fun a=>(0≤(i:Int)∧(i:Int) < ((s.n:Nat):Int))∧ob ((aJ PP w0).ld tX (a.add ((i:Int).toNat * 11)) M) fun v=>K v:=by
 obtain ⟨x0,h0,i0⟩:=h.get (f:=0) hi (by decide)
 obtain ⟨x1,h1,i1⟩:=h.get (f:=1) hi (by decide)
 obtain ⟨x2,h2,i2⟩:=h.get (f:=2) hi (by decide)
 obtain ⟨x3,h3,i3⟩:=h.get (f:=3) hi (by decide)
 obtain ⟨x4,h4,i4⟩:=h.get (f:=4) hi (by decide)
 obtain ⟨x5,h5,i5⟩:=h.get (f:=5) hi (by decide)
 obtain ⟨x6,h6,i6⟩:=h.get (f:=6) hi (by decide)
 obtain ⟨x7,h7,i7⟩:=h.get (f:=7) hi (by decide)
 obtain ⟨x8,h8,i8⟩:=h.get (f:=8) hi (by decide)
 obtain ⟨x9,h9,i9⟩:=h.get (f:=9) hi (by decide)
 obtain ⟨x10,h10,i10⟩:=h.get (f:=10) hi (by decide)
 refine aKN (cs:=[x0,x1,x2,x3,x4,x5,x6,x7,x8,x9,x10]) W.g79 h hl i rfl hi (by show 0 < 11;decide) (fun f x hf=>?_) (hK x0 x1 x2 x3 x4 x5 x6 x7 x8 x9 x10 ?_)
 ·match f,hf with
  | 0,hf=>rw [←hf];exact h0
  | 1,hf=>rw [←hf];exact h1
  | 2,hf=>rw [←hf];exact h2
  | 3,hf=>rw [←hf];exact h3
  | 4,hf=>rw [←hf];exact h4
  | 5,hf=>rw [←hf];exact h5
  | 6,hf=>rw [←hf];exact h6
  | 7,hf=>rw [←hf];exact h7
  | 8,hf=>rw [←hf];exact h8
  | 9,hf=>rw [←hf];exact h9
  | 10,hf=>rw [←hf];exact h10
  | f + 11,hf=>simp at hf
 ·intro n hn
  simp only [List.mem_cons,List.not_mem_nil,or_false] at hn
  rcases hn with rfl | rfl | rfl | rfl | rfl | rfl | rfl | rfl | rfl | rfl | rfl <;> assumption
theorem aHk (d:rS) (c:rR):(gC d c).2.why≠29:=by
 by_cases hb:qN c
 ·rw [vG hb];simp
 ·rcases (by omega:c.kind = 1∨(c.kind = 2∨c.kind = 3)∨c.kind = 4∨c.kind = 5∨c.kind = 6∨c.kind = 7∨(c.kind < 1∨7 < c.kind)) with h | h | h | h | h | h | h
  ·rw [aBk hb h];split <;> simp
  ·rw [yT h]
   split
   ·show d.cF.look c.at_ c.gen≠29
    unfold Pl.look
    split
    ·simp
    ·split <;> simp
   ·split
    ·simp
    ·split
     ·simp
     ·split
      ·simp
      ·split <;> simp
  ·rw [aCN h];split <;> simp
  ·rw [xN hb h]
   split
   ·simp
   ·split
    ·simp
    ·split <;> simp
  ·rw [aBo hb h];split <;> simp
  ·rw [aCM hb h];simp
  ·rw [aCH h];simp
theorem aBr (hR:∀ M,R (.bool true) M) {k j:Int} (hk:cM k) (hj:cM j) {s1 s2:SV} {l1 l2:List Int} (hs1:RdF w0 M 6 s1 l1) (hs2:RdF w0 M 11 s2 l2):C PP w0 Id.aD #[.int .i64 k,.int .i64 j,SV.v s1,SV.v s2] R M:=by
 apply aD.go
 intro aB H
 unfold aD.T aL
 refine aJe hk hj (HO.of (aA.aKG (w0:=w0) (M:=M))) fun F1 M1 X Y dm n n1 n2 n3 l1' hX hD hv hb=>?_
 simp only [cA,aT,bK,aS,aAp Tryz.underlying60,aC,bT,Option.isNone_some,mY]
 refine aBa hD ?_
 rw [aK]
 have lM:∀ {F6 M6:Mem} {Y6:DSt} {Q:cW},Mem.le F1 F6→lU w0 F6 M6 [] X Y6 Q→Mem.le M M6:=fun l h=>Mem.le_trans l1' (Mem.le_trans l h.fr)
 have near:∀ (r i:Nat) (g:Nat) (F6 M6:Mem) (Y6:DSt) (tm:Int) (st:SV) (told:List cY) (d:rS),Mem.le F1 F6→lU w0 F6 M6 [] X Y6 (star (Es st told) (star (fM dm d) emp))→dJ Y6 d tm→aD5 Y6→Y6.cP = Y.cP→TSm told→told.length≤i→tm + r≤300000→i + r = 100→r < g →
   aD.L3 aB g s2 (some ⟨X.d,0,none⟩) (some ⟨dm,0,none⟩) Y.cP st (i:Int) M6:=by
  intro r
  induction r with
  | zero =>
   intro i g F6 M6 Y6 tm st told d l6 hD6 hv6 hb6 hbu hT hTl htm hir hg
   obtain ⟨g,rfl⟩:∃ j,g = j + 1:=⟨g - 1,by omega⟩
   refine Eq.mpr (H.L3 ..) ?_
   unfold aD.L3.T aL
   rw [eK]
   split
   ·rw [eK,if_neg (by omega)]
    refine aA6 fun M8=>?_
    rw [bT]
    exact hR M8
   ·refine aA6 fun M8=>?_
    rw [bT]
    exact hR M8
  | succ r ih =>
   intro i g F6 M6 Y6 tm st told d l6 hD6 hv6 hb6 hbu hT hTl htm hir hg
   obtain ⟨g,rfl⟩:∃ j,g = j + 1:=⟨g - 1,by omega⟩
   refine Eq.mpr (H.L3 ..) ?_
   unfold aD.L3.T aL
   rw [eK]
   split
   ·rename_i hin
    rw [eK,if_pos (by omega)]
    show aD.J5 aB g s2 (some ⟨X.d,0,none⟩) (some ⟨dm,0,none⟩) Y.cP st (i:Int) M6
    refine Eq.mpr (H.J5 ..) ?_
    unfold aD.J5.T aL
    refine aLL hs2 (lM l6 hD6) (by omega) fun x0 x1 x2 x3 x4 x5 x6 x7 x8 x9 x10 hx=>?_
    have hrl:=hD6.rdL
    have hsl:=hrl.len
    simp only [a9,aT,aK,aS]
    refine aEp hx (hrl.aLM hT (by omega)) (by omega) fun M7 c lm7 hc=>?_
    have hct:cM c.time:=hc c.time (by simp [rR.ints])
    have hD7:=hD6.le lm7
    simp only [rR.v,a9,aT,aK,aS]
    refine hD7.nwC fun b M8 lm8 hD8'=>?_
    refine hD8'.stC (vs:=c.cells) aJZ (by rfl) (aJu _) fun M8b hD8b=>?_
    obtain ⟨F8,l8,oc,hD8⟩:=hD8b.aLN
    have hcc:∀ {M':Mem},Mem.le F8 M'→(aJ PP w0).ld iE ⟨b,0,none⟩ M' = some c.v:=fun hl=>fF (vs:=c.cells) aJZ (oc.le hl)
    have hck:∀ {M':Mem},Mem.le F8 M'→(aJ PP w0).ld 3 ⟨b,0,none⟩ M' = some (.int .i64 c.kind):=fun hl=>mQ W.c3 (oc.le hl) rfl
    have hX8:=(hX.le l6).le l8
    simp only [hcc hD8.fr,rR.v,aC,a9,aT,aK,aS]
    refine aGO (c:=c) hX8 hD8 hv6 hb6 (by omega) hct fun M9 Y9 hD9 hv9 hb9 hbu9=>?_
    simp only [fA.v,a9,aT,aK,aS]
    refine hD9.box (rp:=(gC d c).2) fun br F10 M10 l10 o10 hD10=>?_
    simp only [fF (vs:=(gC d c).2.cells) lG (o10.le hD10.fr),hcc (Mem.le_trans l10 hD10.fr),rR.v,aC,a9,aT,aK,aS]
    refine aHD (c:=c) (hD10.aD2 fun _ _ h=>h.dX) (hv6.ok (by omega)) hv6.aBv hct fun M11 hD11'=>?_
    have hD11:=hD11'.aD2 fun _ _ h=>h.dX
    simp only [fA.v,a9,aT,aK,aS,aKx,aC,bT,decide_true,Bool.not_true,mY]
    refine ⟨fF (vs:=(gC d c).2.cells) lG (o10.le hD11.fr),?_⟩
    have hbu2:Y9.cP = Y.cP:=hbu9.trans hbu
    refine aDK hD11 ?_
    rw [aK,eK,if_neg (by have:=hb9.l;omega)]
    refine aHo hD11 ?_
    rw [aK,eK,if_neg (by have:=hb9.t;omega)]
    show aD.J7 aB g s2 (some ⟨X.d,0,none⟩) (some ⟨dm,0,none⟩) Y.cP st (i:Int) ⟨b,0,none⟩ ⟨br,0,none⟩ M11
    refine Eq.mpr (H.J7 ..) ?_
    unfold aD.J7.T aL
    have hw:qB ((i:Int) + 1) = ((i + 1:Nat):Int):=by rw [bC (by omega)];omega
    have l610:Mem.le F1 F10:=Mem.le_trans l6 (Mem.le_trans l8 l10)
    simp only [hck (Mem.le_trans l10 hD11.fr),aJ7 (o10.le hD11.fr),aC,aK]
    rw [fB]
    split
    ·rename_i hk1
     rw [fB]
     split
     ·rename_i hwhy
      have hsm:=aJd hv6 (by omega) hk1 hwhy
      simp only [aX,add_eq,Nat.zero_add,aLz (o10.le hD11.fr),aC,a9,aT,aK,aS]
      refine hD11.aLU (by omega) fun M12 s12 hD12=>?_
      rw [hw]
      refine ih (i + 1) g F10 M12 Y9 (tm + 1) s12 _ _ l610 hD12 hv9 hb9 hbu2 (fun e he=>?_) (by rw [List.length_append,List.length_singleton];omega) (by omega) (by omega) (by omega)
      rcases List.mem_append.1 he with he | he
      ·exact hT e he
      ·rw [List.mem_singleton.1 he];exact hsm
     ·rw [hw]
      exact ih (i + 1) g F10 M11 Y9 (tm + 1) st told _ l610 hD11 hv9 hb9 hbu2 hT (by omega) (by omega) (by omega) (by omega)
    ·rw [hw]
     exact ih (i + 1) g F10 M11 Y9 (tm + 1) st told _ l610 hD11 hv9 hb9 hbu2 hT (by omega) (by omega) (by omega) (by omega)
   ·refine aA6 fun M8=>?_
    rw [bT]
    exact hR M8
 have key1:∀ (F6 M6:Mem) (Y6:DSt) (tm:Int) (st:SV) (d:rS),Mem.le F1 F6→lU w0 F6 M6 [] X Y6 (star (Es st []) (star (fM dm d) emp))→dJ Y6 d tm→aD5 Y6→Y6.cP = Y.cP→tm≤200000→aD.J1 aB s2 (some ⟨X.d,0,none⟩) (some ⟨dm,0,none⟩) Y.cP st M6:=by
  intro F6 M6 Y6 tm st d l6 hD6 hv6 hb6 hbu htm
  refine Eq.mpr (H.J1 ..) ?_
  unfold aD.J1.T aL
  exact ⟨101,near 100 0 101 F6 M6 Y6 tm st [] d l6 hD6 hv6 hb6 hbu (fun e he=>(by cases he)) (by simp) (by omega) (by omega) (by omega)⟩
 have any:∀ (r i:Nat) (g:Nat) (F6 M6:Mem) (Y6:DSt) (tm:Int) (st:SV) (d:rS),Mem.le F1 F6→lU w0 F6 M6 [] X Y6 (star (Es st []) (star (fM dm d) emp))→dJ Y6 d tm→aD5 Y6→Y6.cP = Y.cP→tm + r≤100000→i + r = 60→r < g →
   aD.L2 aB g s1 s2 (some ⟨X.d,0,none⟩) (some ⟨dm,0,none⟩) Y.cP st (i:Int) M6:=by
  intro r
  induction r with
  | zero =>
   intro i g F6 M6 Y6 tm st d l6 hD6 hv6 hb6 hbu htm hir hg
   obtain ⟨g,rfl⟩:∃ j,g = j + 1:=⟨g - 1,by omega⟩
   refine Eq.mpr (H.L2 ..) ?_
   unfold aD.L2.T aL
   have:=key1 F6 M6 Y6 tm st d l6 hD6 hv6 hb6 hbu (by omega)
   rw [eK]
   split
   ·rw [eK,if_neg (by omega)];exact this
   ·exact this
  | succ r ih =>
   intro i g F6 M6 Y6 tm st d l6 hD6 hv6 hb6 hbu htm hir hg
   obtain ⟨g,rfl⟩:∃ j,g = j + 1:=⟨g - 1,by omega⟩
   refine Eq.mpr (H.L2 ..) ?_
   unfold aD.L2.T aL
   rw [eK]
   split
   ·rename_i hin
    rw [eK,if_pos (by omega)]
    show aD.J4 aB g s1 s2 (some ⟨X.d,0,none⟩) (some ⟨dm,0,none⟩) Y.cP st (i:Int) M6
    refine Eq.mpr (H.J4 ..) ?_
    unfold aD.J4.T aL
    have hil:i < s1.n:=by omega
    have e6:∃ c:rR,cM c.time∧∀ (M7:Mem) (K:Value→Prop),Mem.le M M7→K c.v→nc s1.a fun a=>(0≤(i:Int)∧(i:Int) < ((s1.n:Nat):Int))∧ob ((aJ PP w0).ld iE (a.add ((i:Int).toNat * 6)) M7) fun v=>K v:=by
     obtain ⟨x0,h0,i0⟩:=hs1.get (f:=0) hil (by decide)
     obtain ⟨x1,h1,i1⟩:=hs1.get (f:=1) hil (by decide)
     obtain ⟨x2,h2,i2⟩:=hs1.get (f:=2) hil (by decide)
     obtain ⟨x3,h3,i3⟩:=hs1.get (f:=3) hil (by decide)
     obtain ⟨x4,h4,i4⟩:=hs1.get (f:=4) hil (by decide)
     obtain ⟨x5,h5,i5⟩:=hs1.get (f:=5) hil (by decide)
     refine ⟨⟨x0,x1,x2,x3,x4,x5⟩,i4,fun M7 K hl hK=>?_⟩
     refine aKN (cs:=[x0,x1,x2,x3,x4,x5]) W.g68 hs1 hl i rfl hil (by show 0 < 6;decide) (fun f x hf=>?_) hK
     match f,hf with
     | 0,hf=>rw [←hf];exact h0
     | 1,hf=>rw [←hf];exact h1
     | 2,hf=>rw [←hf];exact h2
     | 3,hf=>rw [←hf];exact h3
     | 4,hf=>rw [←hf];exact h4
     | 5,hf=>rw [←hf];exact h5
     | f + 6,hf=>simp at hf
    obtain ⟨c,hct,hrd⟩:=e6
    refine hrd M6 _ (lM l6 hD6) ?_
    simp only [rR.v,a9,aT,aK,aS]
    refine aGO (c:=c) (hX.le l6) hD6 hv6 hb6 (by omega) hct fun M9 Y9 hD9 hv9 hb9 hbu9=>?_
    simp only [fA.v,a9,aT,aK,aS]
    refine hD9.box (rp:=(gC d c).2) fun br F10 M10 l10 o10 hD10=>?_
    have hbu2:Y9.cP = Y.cP:=hbu9.trans hbu
    simp only [aJ7 (o10.le hD10.fr),aC,aK]
    rw [fB,if_neg (aHk d c)]
    refine aDK hD10 ?_
    rw [aK,eK,if_neg (by have:=hb9.l;omega)]
    refine aBa hD10 ?_
    rw [aK,bX,if_pos hbu2]
    show aD.J6 aB g s1 s2 (some ⟨X.d,0,none⟩) (some ⟨dm,0,none⟩) Y.cP st (i:Int) M10
    refine Eq.mpr (H.J6 ..) ?_
    unfold aD.J6.T aL
    refine hrd M10 _ (lM (Mem.le_trans l6 l10) hD10) ?_
    simp only [rR.v,a9,aT,aK,aS]
    refine aHD (c:=c) (hD10.aD2 fun _ _ h=>h.dX) (hv6.ok (by omega)) hv6.aBv hct fun M11 hD11'=>?_
    have hD11:=hD11'.aD2 fun _ _ h=>h.dX
    simp only [fA.v,a9,aT,aK,aS]
    rw [show qB ((i:Int) + 1) = ((i + 1:Nat):Int) from by rw [bC (by omega)];omega]
    exact ih (i + 1) g F10 M11 Y9 (tm + 1) st _ (Mem.le_trans l6 l10) hD11 hv9 hb9 hbu2 (by omega) (by omega) (by omega)
   ·exact key1 F6 M6 Y6 tm st d l6 hD6 hv6 hb6 hbu (by omega)
 exact ⟨61,any 60 0 61 F1 M1 Y 2 ⟨none,0,0⟩ _ (Mem.le_refl _) hD.aKj hv hb rfl (by omega) (by omega) (by omega)⟩
end
end HL
end Go.Proofs.YtodobkbnmjgkdaaGreat
